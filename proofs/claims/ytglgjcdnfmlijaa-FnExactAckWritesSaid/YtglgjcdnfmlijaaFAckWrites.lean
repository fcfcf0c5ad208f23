/-
  FnExactAckWrites: for every argument the program's AckWrites returns what the reference's returns. No condition.
-/
import Derived.Test.YtglgjcdnfmlijaaEAckWrites
import Derived.Test.YtglgjcdnfmlijaaAck
import Derived.Test.YtglgjcdnfmlijaaBounds
namespace Go.Proofs.Ytglgjcdnfmlijaa
open Go.RowKit Go.ChangeShapes

theorem ackWrites_holds : Rows.FnExactAckWritesSaid :=
  ackWrites_of ackWritesF ackWritesN
    (fun cs x n w h hs => specAckWrites cs x n w h (by have h3 : x.writes.length ≤ x.wt := wtS_ge _ _; omega)) (fun cs x n w h hs => implAckWrites cs x n w h (by have h3 : x.writes.length ≤ x.wt := wtS_ge _ _; omega))
    (fun x n hs => by
      have h1 : (ackWritesF x n).mcnt ≤ 7 * (ackWritesF x n).writes.length := wtT_const DWrite.cnt 7 _ (fun _ => Nat.le_refl _)
      have h2 : (ackWritesF x n).writes.length ≤ x.writes.length := by
        unfold ackWritesF; split
        · exact ackKept_le _ _
        · exact Nat.le_refl _
      have h3 : x.writes.length ≤ x.wt := wtS_ge _ _
      omega)
    (fun x hs => by
      have h1 : x.mcnt ≤ 7 * x.writes.length := wtT_const DWrite.cnt 7 x.writes (fun _ => Nat.le_refl _)
      have h3 : x.writes.length ≤ x.wt := wtS_ge _ _
      omega)

end Go.Proofs.Ytglgjcdnfmlijaa
