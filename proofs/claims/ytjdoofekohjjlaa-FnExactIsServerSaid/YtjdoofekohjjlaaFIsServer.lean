/-
  FnExactIsServer: for every argument the program's IsServer returns what the reference's returns. No condition.
-/
import Derived.Test.YtjdoofekohjjlaaEIsServer
import Derived.Test.YtjdoofekohjjlaaIsServer
namespace Go.Proofs.Ytjdoofekohjjlaa
open Go.RowKit Go.ChangeShapes

theorem isServer_holds : Rows.FnExactIsServerSaid :=
  isServer_of isServerF (fun cs x w h _ => specIsServer cs x w h) (fun cs x w h _ => implIsServer cs x w h)

end Go.Proofs.Ytjdoofekohjjlaa
