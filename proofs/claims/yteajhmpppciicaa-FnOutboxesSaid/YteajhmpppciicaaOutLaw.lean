/-
  The plain law of FnOutboxes. No function of the program is named here.
-/
import Derived.Test.YteajhmpppciicaaAck
import Derived.Test.YteajhmpppciicaaEnqueue
import Derived.Test.YteajhmpppciicaaFirstWrite
import Derived.Test.YteajhmpppciicaaEqualOutboxes
namespace Go.Proofs.Yteajhmpppciicaa
open Go.RowKit

theorem outbox_iff {x : DOutbox} : isOutboxF x = true ↔ ((∀ i, (hi : i < x.writes.length) → isWriteF x.writes[i] = true ∧ x.writes[i].device = x.device ∧ x.writes[i].seq = x.next - x.writes.length + i) ∧ (1 ≤ x.device ∧ x.device ≤ 1000000) ∧ (1 ≤ x.next ∧ x.next ≤ 1000000) ∧ x.writes.length ≤ 20) := by
  constructor
  · intro h
    have hs := fun i hi => outbox_seq h (i := i) hi
    rw [isOutboxF, Bool.and_eq_true, List.all_eq_true] at h
    obtain ⟨h1, h2⟩ := h
    simp only [Bool.and_eq_true, within, decide_eq_true_eq] at h2
    refine ⟨fun i hi => ?_, h2.1.1, h2.1.2, h2.2⟩
    have h3 := h1 i (List.mem_range.2 hi)
    rw [out_at hi] at h3
    simp only [Bool.and_eq_true, Bool.not_eq_true', bne_eq_false_iff_eq] at h3
    exact ⟨h3.1, h3.2.1, hs i hi⟩
  · rintro ⟨h1, h2, h3, h4⟩
    rw [isOutboxF, Bool.and_eq_true, List.all_eq_true]
    refine ⟨fun i hi => ?_, by simp only [Bool.and_eq_true, within, decide_eq_true_eq]; exact ⟨⟨h2, h3⟩, h4⟩⟩
    have hi' := List.mem_range.1 hi
    rw [out_at hi']
    obtain ⟨e1, e2, e3⟩ := h1 i hi'
    simp only [Bool.and_eq_true, Bool.not_eq_true', bne_eq_false_iff_eq]
    refine ⟨e1, e2, ?_⟩
    rw [e3, Go.IntWalk.wrap64_in (x.next - (x.writes.length : Int)) (by omega), Go.IntWalk.wrap64_in _ (by omega)]

theorem outbox_tail {x : DOutbox} (h : isOutboxF x = true) (hl : 0 < x.writes.length) : isOutboxF ⟨x.device, x.next, x.writes.drop 1⟩ = true := by
  obtain ⟨h1, h2, h3, h4⟩ := outbox_iff.1 h
  refine outbox_iff.2 ⟨fun i hi => ?_, h2, h3, by show (x.writes.drop 1).length ≤ 20; rw [List.length_drop]; omega⟩
  have hi0 : i < (x.writes.drop 1).length := hi
  have hi2 : 1 + i < x.writes.length := by rw [List.length_drop] at hi0; omega
  obtain ⟨e1, e2, e3⟩ := h1 (1 + i) hi2
  have e : (x.writes.drop 1)[i] = x.writes[1 + i] := List.getElem_drop
  show isWriteF (x.writes.drop 1)[i] = true ∧ (x.writes.drop 1)[i].device = x.device ∧ (x.writes.drop 1)[i].seq = x.next - ((x.writes.drop 1).length : Int) + i
  rw [e]
  refine ⟨e1, e2, ?_⟩
  rw [e3, List.length_drop]
  omega

theorem write_seq {y : DWrite} (h : isWriteF y = true) : 1 ≤ y.seq ∧ y.seq ≤ 1000000 := by
  unfold isWriteF at h
  simp only [Bool.and_eq_true, within, decide_eq_true_eq] at h
  omega

/-- What the law says of an outbox x that is one, and has a write. -/
theorem outbox_law {x : DOutbox} (h : isOutboxF x = true) (hl : 0 < x.writes.length) :
    ackWritesN x (firstWriteF x).seq = 1 ∧ ackWritesF x (firstWriteF x).seq = ⟨x.device, x.next, x.writes.drop 1⟩ ∧ ackWritesN x x.next = x.writes.length ∧ ackWritesF x x.next = ⟨x.device, x.next, []⟩ ∧ ackWritesN x ((firstWriteF x).seq - 1) = 0 ∧ ackWritesF x ((firstWriteF x).seq - 1) = x ∧ isWriteF (firstWriteF x) = true ∧ 0 ≤ (firstWriteF x).seq ∧ (firstWriteF x).seq ≤ 1000000 := by
  obtain ⟨h1, h2, h3, h4⟩ := outbox_iff.1 h
  have hf : firstWriteF x = x.writes[0] := by
    unfold firstWriteF
    rw [List.headD_eq_head?_getD, List.head?_eq_getElem?, List.getElem?_eq_getElem hl]; rfl
  obtain ⟨f1, _, f3⟩ := h1 0 hl
  have hsq := write_seq f1
  rw [hf]
  have z0 : ∀ i, (hi : i < x.writes.length) → i < 1 → x.writes[i].seq ≤ x.writes[0].seq := fun i hi hi1 => by
    have e : i = 0 := by omega
    subst e
    exact Int.le_refl _
  have a1 := ack_drop (seq := x.writes[0].seq) h (x.writes.length - 1) 1 rfl (by omega) z0 (fun hk => by have := (h1 1 hk).2.2; omega)
  have a2 := ack_drop (seq := x.next) h (x.writes.length - x.writes.length) x.writes.length rfl (Nat.le_refl _) (fun i hi _ => by have := (h1 i hi).2.2; omega) (fun hk => absurd hk (by omega))
  have a3 := ack_drop (seq := x.writes[0].seq - 1) h (x.writes.length - 0) 0 rfl (by omega) (fun i hi hi1 => absurd hi1 (by omega)) (fun hk => by omega)
  rw [List.drop_length] at a2
  rw [List.drop_zero] at a3
  unfold ackWritesN ackWritesF ackOut
  rw [h, a1, a2, a3, if_pos rfl, if_pos rfl, if_pos rfl, if_pos rfl, if_pos rfl, if_pos rfl]
  refine ⟨by rw [List.length_drop]; omega, rfl, by simp, rfl, by omega, rfl, f1, by omega, by omega⟩
theorem enq_yes {x : DOutbox} {k : DKey} {f : ByteArray} {n : Int} (h : enqueueB x k f n = true) : isOutboxF x = true ∧ isOutboxF (enqOut x k f n) = true ∧ enqueueF x k f n = enqOut x k f n := by
  have h2 := h
  unfold enqueueB at h2
  rw [Bool.and_eq_true] at h2
  exact ⟨h2.1, h2.2, by unfold enqueueF; rw [h]; rfl⟩
theorem equal_outs (x : DOutbox) : equalOutboxesF x x = true := by unfold equalOutboxesF; simp

end Go.Proofs.Yteajhmpppciicaa
