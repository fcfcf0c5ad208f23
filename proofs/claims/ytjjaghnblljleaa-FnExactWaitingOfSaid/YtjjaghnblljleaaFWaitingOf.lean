/-
  FnExactWaitingOf: for every argument the program's WaitingOf returns what the reference's returns. No condition.
-/
import Derived.Test.YtjjaghnblljleaaEWaitingOf
import Derived.Test.YtjjaghnblljleaaWaitingOf
import Derived.Test.YtjjaghnblljleaaBounds
namespace Go.Proofs.Ytjjaghnblljleaa
open Go.RowKit Go.ChangeShapes

theorem waitingOf_holds : Rows.FnExactWaitingOfSaid :=
  waitingOf_of waitingOfF (fun cs x n w h hs _ => specWaitingOf cs x n w h (Nat.le_trans (wtS_ge _ _) hs)) (fun cs x n w h hs _ => implWaitingOf cs x n w h (Nat.le_trans (wtS_ge _ _) hs))
    (fun x n hs _ => by
      have h1 := wtT_const cnt1 1 (waitingOfF x n) (fun _ => Nat.le_refl _)
      have h2 : (waitingOfF x n).length ≤ x.locks.length := by unfold waitingOfF; rw [List.length_map]; exact List.length_filter_le _ _
      have h3 : x.locks.length ≤ x.wt := wtS_ge _ _
      omega)
    (fun x hs => by
      have h1 : x.mcnt ≤ 4 * x.locks.length := wtT_const DLock.cnt 4 x.locks (fun _ => Nat.le_refl _)
      have h3 : x.locks.length ≤ x.wt := wtS_ge _ _
      omega)

end Go.Proofs.Ytjjaghnblljleaa
