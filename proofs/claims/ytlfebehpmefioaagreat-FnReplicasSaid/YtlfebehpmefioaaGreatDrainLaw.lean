/-
  The plain law of FnDrained. No function of the program is named here.
-/
import Derived.Test.YtlfebehpmefioaaGreatDrawFam
import Derived.Test.YtlfebehpmefioaaGreatDrainSync
namespace Go.Proofs.YtlfebehpmefioaaGreat
open Go.RowKit

theorem zeros_get (k : Nat) : zeros20.getD k 0 = 0 := by
  unfold zeros20
  rw [List.getD_eq_getElem?_getD, List.getElem?_replicate]
  split <;> rfl
theorem drained {y : DSync} {s : DServer} (h : Net y.outbox s) (hw : 0 ≤ y.waitUntil ∧ y.waitUntil ≤ 1000000000) : (drainF y s y.waitUntil).1.outbox.writes = [] ∧ lastSeqF (drainF y s y.waitUntil).2 y.outbox.device = y.outbox.next - 1 ∧ (1 ≤ y.outbox.next ∧ y.outbox.next ≤ 1000000) ∧ Net (drainF y s y.waitUntil).1.outbox (drainF y s y.waitUntil).2 ∧ Ext y.outbox.device s (drainF y s y.waitUntil).2 ∧ (drainF y s y.waitUntil).1.outbox.device = y.outbox.device ∧ (drainF y s y.waitUntil).1.outbox.next = y.outbox.next := by
  obtain ⟨_, _, h3, h4⟩ := outbox_iff.1 h.box
  obtain ⟨n, x, d, e⟩ := h.syncAll y.waitUntil zeros20
  have hl : (drainF y s y.waitUntil).1.outbox.writes.length = 0 := by
    unfold drainF syncAllF
    rw [if_pos (within_iff.2 (by omega))]
    have hr : rounds zeros20 = 20 := by unfold rounds; rw [zeros_len]; rfl
    rw [hr, (h.drains hw zeros20 zeros_get 20 (by omega)).1]
    omega
  have hx : (drainF y s y.waitUntil) = syncAllF y s y.waitUntil zeros20 := rfl
  rw [← hx] at n x d e
  refine ⟨List.eq_nil_of_length_eq_zero hl, ?_, h3, n, x, d, e⟩
  have h5 := n.lo
  have h6 := n.top
  rw [hl, d, e] at h5
  rw [d, e] at h6
  omega
theorem equal_syncs (y : DSync) : equalSyncsF y y = true := by unfold equalSyncsF equalOutboxesF; simp

end Go.Proofs.YtlfebehpmefioaaGreat
