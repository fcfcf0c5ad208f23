/-
  FnExactHoldsLock: for every argument the program's HoldsLock returns what the reference's returns. No condition.
-/
import Derived.Test.YtjjaghnblljleaaEHoldsLock
import Derived.Test.YtjjaghnblljleaaHoldsLock
namespace Go.Proofs.Ytjjaghnblljleaa
open Go.RowKit Go.ChangeShapes

theorem holdsLock_holds : Rows.FnExactHoldsLockSaid :=
  holdsLock_of holdsLockF (fun cs x n p w h _ _ => specHoldsLock cs x n p w h) (fun cs x n p w h _ _ => implHoldsLock cs x n p w h)

end Go.Proofs.Ytjjaghnblljleaa
