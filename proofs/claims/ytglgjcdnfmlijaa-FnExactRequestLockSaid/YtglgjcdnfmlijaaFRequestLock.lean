/-
  FnExactRequestLock: for every argument the program's RequestLock returns what the reference's returns. No condition.
-/
import Derived.Test.YtglgjcdnfmlijaaERequestLock
import Derived.Test.YtglgjcdnfmlijaaRequestLock
import Derived.Test.YtglgjcdnfmlijaaBounds
namespace Go.Proofs.Ytglgjcdnfmlijaa
open Go.RowKit Go.ChangeShapes

theorem requestLock_holds : Rows.FnExactRequestLockSaid :=
  requestLock_of requestLockF requestLockB
    (fun cs x n p s w h hs hn => specRequestLock cs x n p s w h (by have h3 : x.locks.length ≤ x.wt := wtS_ge _ _; omega) (by unfold maxLen; omega)) (fun cs x n p s w h hs hn => implRequestLock cs x n p s w h (by have h3 : x.locks.length ≤ x.wt := wtS_ge _ _; omega) (by unfold maxLen; omega))
    (fun x n p s hs _ => by
      have h1 : (requestLockF x n p s).mcnt ≤ 4 * (requestLockF x n p s).locks.length := wtT_const DLock.cnt 4 _ (fun _ => Nat.le_refl _)
      have h2 : (requestLockF x n p s).locks.length ≤ x.locks.length + 1 := by
        unfold requestLockF; split
        · simp [requestOut]
        · omega
      have h3 : x.locks.length ≤ x.wt := wtS_ge _ _
      omega)
    (fun x hs => by
      have h1 : x.mcnt ≤ 4 * x.locks.length := wtT_const DLock.cnt 4 x.locks (fun _ => Nat.le_refl _)
      have h3 : x.locks.length ≤ x.wt := wtS_ge _ _
      omega)

end Go.Proofs.Ytglgjcdnfmlijaa
