/-
  AckWrites.
-/
import Derived.Test.YtapgglghaknjlaaOutboxes
import Derived.Test.YtapgglghaknjlaaFuncsFam
import Derived.Test.YtapgglghaknjlaaBase
namespace Go.Proofs.Ytapgglghaknjlaa
open Go.RowKit

def ackKept (l : List DWrite) (seq : Int) : List DWrite := l.filter fun m => !decide (m.seq ≤ seq)
def ackOut (x : DOutbox) (seq : Int) : DOutbox := ⟨x.device, x.next, ackKept x.writes seq⟩
def ackWritesF (x : DOutbox) (seq : Int) : DOutbox := if isOutboxF x then ackOut x seq else x
def ackWritesN (x : DOutbox) (seq : Int) : Int := if isOutboxF x then (x.writes.length : Int) - ((ackKept x.writes seq).length : Int) else 0
theorem ackKept_le (l : List DWrite) (seq : Int) : (ackKept l seq).length ≤ l.length := List.length_filter_le _ _

/-- In an outbox the numbers rise one by one. -/
theorem outbox_seq {x : DOutbox} (h : isOutboxF x = true) {i : Nat} (hi : i < x.writes.length) : x.writes[i].seq = x.next - x.writes.length + i := by
  rw [isOutboxF, Bool.and_eq_true, List.all_eq_true] at h
  obtain ⟨h1, h2⟩ := h
  have h3 := h1 i (List.mem_range.2 hi)
  rw [out_at hi] at h3
  simp only [Bool.and_eq_true, within, decide_eq_true_eq, Bool.not_eq_true', bne_eq_false_iff_eq] at h3 h2
  rw [h3.2.2, Go.IntWalk.wrap64_in _ (by rw [Go.IntWalk.wrap64_in _ (by omega)]; omega), Go.IntWalk.wrap64_in _ (by omega)]
theorem ack_drop {x : DOutbox} {seq : Int} (h : isOutboxF x = true) : ∀ (n k : Nat), x.writes.length - k = n → k ≤ x.writes.length → (∀ i, (hi : i < x.writes.length) → i < k → x.writes[i].seq ≤ seq) → (∀ hk : k < x.writes.length, ¬ x.writes[k].seq ≤ seq) → ackKept x.writes seq = x.writes.drop k := by
  intro n k _ hk hlo hhi
  have e : x.writes = x.writes.take k ++ x.writes.drop k := (List.take_append_drop _ _).symm
  have e1 : ackKept (x.writes.take k) seq = [] := by
    unfold ackKept
    rw [List.filter_eq_nil_iff]
    intro m hm
    obtain ⟨j, hj, rfl⟩ := List.mem_take_iff_getElem.1 hm
    have := hlo j (by omega) (by omega)
    simp [this]
  have e2 : ackKept (x.writes.drop k) seq = x.writes.drop k := by
    unfold ackKept
    rw [List.filter_eq_self]
    intro m hm
    obtain ⟨j, hj, rfl⟩ := List.mem_drop_iff_getElem.1 hm
    have h0 := hhi (by omega)
    have h1 := outbox_seq h (i := k) (by omega)
    have h2 := outbox_seq h (i := j + k) (by omega)
    have e3 : x.writes[k + j] = x.writes[j + k] := by congr 1; omega
    simp only [e3, Bool.not_eq_true', decide_eq_false_iff_not]
    omega
  have e4 : ackKept x.writes seq = ackKept (x.writes.take k) seq ++ ackKept (x.writes.drop k) seq := by
    unfold ackKept
    rw [← List.filter_append, List.take_append_drop]
  rw [e4, e1, e2, List.nil_append]

end Go.Proofs.Ytapgglghaknjlaa
