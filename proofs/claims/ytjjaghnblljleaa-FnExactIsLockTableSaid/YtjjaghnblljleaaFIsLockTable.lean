/-
  FnExactIsLockTable: for every argument the program's IsLockTable returns what the reference's returns. No condition.
-/
import Derived.Test.YtjjaghnblljleaaEIsLockTable
import Derived.Test.YtjjaghnblljleaaIsLockTable
namespace Go.Proofs.Ytjjaghnblljleaa
open Go.RowKit Go.ChangeShapes

theorem isLockTable_holds : Rows.FnExactIsLockTableSaid :=
  isLockTable_of isLockTableF (fun cs x w h _ => specIsLockTable cs x w h) (fun cs x w h _ => implIsLockTable cs x w h)

end Go.Proofs.Ytjjaghnblljleaa
