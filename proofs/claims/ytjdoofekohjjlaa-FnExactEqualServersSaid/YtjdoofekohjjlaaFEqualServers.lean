/-
  FnExactEqualServers: for every argument the program's EqualServers returns what the reference's returns. No condition.
-/
import Derived.Test.YtjdoofekohjjlaaEEqualServers
import Derived.Test.YtjdoofekohjjlaaEqualServers
namespace Go.Proofs.Ytjdoofekohjjlaa
open Go.RowKit Go.ChangeShapes

theorem equalServers_holds : Rows.FnExactEqualServersSaid :=
  equalServers_of equalServersF (fun cs x ds y w h h' _ _ => specEqualServers cs ds x y w h h') (fun cs x ds y w h h' _ _ => implEqualServers cs ds x y w h h')

end Go.Proofs.Ytjdoofekohjjlaa
