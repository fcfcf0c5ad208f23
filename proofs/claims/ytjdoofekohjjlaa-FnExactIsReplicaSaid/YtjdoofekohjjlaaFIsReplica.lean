/-
  FnExactIsReplica: for every argument the program's IsReplica returns what the reference's returns. No condition.
-/
import Derived.Test.YtjdoofekohjjlaaEIsReplica
import Derived.Test.YtjdoofekohjjlaaIsReplica
namespace Go.Proofs.Ytjdoofekohjjlaa
open Go.RowKit Go.ChangeShapes

theorem isReplica_holds : Rows.FnExactIsReplicaSaid :=
  isReplica_of isReplicaF (fun cs x w h _ => specIsReplica cs x w h) (fun cs x w h _ => implIsReplica cs x w h)

end Go.Proofs.Ytjdoofekohjjlaa
