/-
  IsConfirmed.
-/
import Derived.Test.YtlfebehpmefioaaGreatBase
import Derived.Test.YtlfebehpmefioaaGreatTFam
namespace Go.Proofs.YtlfebehpmefioaaGreat
open Go.RowKit

def isConfirmedF (x : DReplica) : Bool := decide (x.sync.outbox.writes.length = 0)

set_option maxHeartbeats 400000 in
theorem implIsConfirmed (cs : List Value) (x : DReplica) (w : World) (h : Reads DReplica.rep w cs x) :
    Calls Tryz.prog 29 #[.agg cs.toArray] w fun e w' => e = .returned (.bool (isConfirmedF x)) ∧ Below w.heap.size w w' := by
  obtain ⟨fp, h⟩ := h
  obtain ⟨a1, c1, a2, c2, rfl⟩ := DReplica.shape h
  clear h
  go_enter Tryz.func29, Tryz.ntmps29
  go_wp2
  go_ret
  refine ⟨ret_bool ?_, bEl⟩
  unfold isConfirmedF
  rw [Bool.eq_iff_iff]
  simp

end Go.Proofs.YtlfebehpmefioaaGreat
