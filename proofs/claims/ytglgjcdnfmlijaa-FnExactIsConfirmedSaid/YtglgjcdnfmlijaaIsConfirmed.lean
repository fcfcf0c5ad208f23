/-
  IsConfirmed.
-/
import Derived.Test.YtglgjcdnfmlijaaSeat
import Derived.Test.YtglgjcdnfmlijaaTReplica
namespace Go.Proofs.Ytglgjcdnfmlijaa
open Go.RowKit

def isConfirmedF (x : DReplica) : Bool := decide (x.sync.outbox.writes.length = 0)

set_option maxHeartbeats 400000 in
theorem implIsConfirmed (cs : List Value) (x : DReplica) (w : World) (h : Reads DReplica.rep w cs x) :
    Calls Try.prog 74 #[.agg cs.toArray] w fun e w' => e = .returned (.bool (isConfirmedF x)) ∧ Below w.heap.size w w' := by
  obtain ⟨fp, h⟩ := h
  obtain ⟨a1, c1, a2, c2, rfl⟩ := DReplica.shape h
  clear h
  go_enter Try.func74, Try.ntmps74
  go_wp2
  go_ret
  refine ⟨ret_bool ?_, (by repeat (first | with_reducible exact belR | with_reducible apply belA | (with_reducible refine belS ?_ ?_; focus (first | omega | (simp; done) | (simp; omega))) | with_reducible apply belN | with_reducible apply belD | with_reducible assumption))⟩
  unfold isConfirmedF
  rw [Bool.eq_iff_iff]
  simp

set_option maxHeartbeats 400000 in
theorem specIsConfirmed (cs : List Value) (x : DReplica) (w : World) (h : Reads DReplica.rep w cs x) :
    Calls Try.prog 72 #[.agg cs.toArray] w fun e w' => e = .returned (.bool (isConfirmedF x)) ∧ Below w.heap.size w w' := by
  obtain ⟨fp, h⟩ := h
  obtain ⟨a1, c1, a2, c2, rfl⟩ := DReplica.shape h
  clear h
  go_enter Try.func72, Try.ntmps72
  go_wp2
  go_ret
  refine ⟨ret_bool ?_, (by repeat (first | with_reducible exact belR | with_reducible apply belA | (with_reducible refine belS ?_ ?_; focus (first | omega | (simp; done) | (simp; omega))) | with_reducible apply belN | with_reducible apply belD | with_reducible assumption))⟩
  unfold isConfirmedF
  rw [Bool.eq_iff_iff]
  simp

end Go.Proofs.Ytglgjcdnfmlijaa
