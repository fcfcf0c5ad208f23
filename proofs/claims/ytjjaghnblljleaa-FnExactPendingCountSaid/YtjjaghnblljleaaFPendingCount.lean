/-
  FnExactPendingCount: for every argument the program's PendingCount returns what the reference's returns. No condition.
-/
import Derived.Test.YtjjaghnblljleaaEPendingCount
import Derived.Test.YtjjaghnblljleaaPendingCount
namespace Go.Proofs.Ytjjaghnblljleaa
open Go.RowKit Go.ChangeShapes

theorem pendingCount_holds : Rows.FnExactPendingCountSaid :=
  pendingCount_of pendingCountF (fun cs x w h _ => specPendingCount cs x w h) (fun cs x w h _ => implPendingCount cs x w h)

end Go.Proofs.Ytjjaghnblljleaa
