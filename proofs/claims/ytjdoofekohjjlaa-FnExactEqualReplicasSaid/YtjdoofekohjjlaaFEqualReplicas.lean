/-
  FnExactEqualReplicas: for every argument the program's EqualReplicas returns what the reference's returns. No condition.
-/
import Derived.Test.YtjdoofekohjjlaaEEqualReplicas
import Derived.Test.YtjdoofekohjjlaaEqualReplicas
namespace Go.Proofs.Ytjdoofekohjjlaa
open Go.RowKit Go.ChangeShapes

theorem equalReplicas_holds : Rows.FnExactEqualReplicasSaid :=
  equalReplicas_of equalReplicasF (fun cs x ds y w h h' _ _ => specEqualReplicas cs ds x y w h h') (fun cs x ds y w h h' _ _ => implEqualReplicas cs ds x y w h h')

end Go.Proofs.Ytjdoofekohjjlaa
