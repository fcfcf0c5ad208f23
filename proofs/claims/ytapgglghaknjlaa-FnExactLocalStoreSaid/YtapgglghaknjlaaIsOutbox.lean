/-
  IsOutbox.
-/
import Derived.Test.YtapgglghaknjlaaKeys
import Derived.Test.YtapgglghaknjlaaBase
import Derived.Test.YtapgglghaknjlaaTFam
namespace Go.Proofs.Ytapgglghaknjlaa
open Go.RowKit

def outOk (x : DOutbox) (i : Nat) : Bool := match x.writes[i]? with | none => true | some y => isWriteF y && (!(y.device != x.device) && !(y.seq != wrap64 (wrap64 (x.next - (x.writes.length : Int)) + (i : Int))))
def isOutboxF (x : DOutbox) : Bool := (List.range x.writes.length).all (outOk x) && (within x.device 1 1000000 && within x.next 1 1000000 && decide (x.writes.length ≤ 20))
theorem outbox_no {x : DOutbox} {i : Nat} (hi : i < x.writes.length) (h : outOk x i = false) : isOutboxF x = false := by
  have : (List.range x.writes.length).all (outOk x) = false := List.all_eq_false.2 ⟨i, List.mem_range.2 hi, by rw [h]; simp⟩
  rw [isOutboxF, this, Bool.false_and]
theorem outbox_yes {x : DOutbox} {k : Nat} (hk : ¬ k < x.writes.length) (h : ∀ i, i < k → outOk x i = true) : isOutboxF x = (within x.device 1 1000000 && within x.next 1 1000000 && decide (x.writes.length ≤ 20)) := by
  have : (List.range x.writes.length).all (outOk x) = true := List.all_eq_true.2 fun i hi => h i (by have := List.mem_range.1 hi; omega)
  rw [isOutboxF, this, Bool.true_and]
theorem outbox_out {x : DOutbox} (h : (within x.device 1 1000000 && within x.next 1 1000000 && decide (x.writes.length ≤ 20)) = false) : isOutboxF x = false := by
  rw [isOutboxF, h, Bool.and_false]
theorem out_at {x : DOutbox} {i : Nat} (hi : i < x.writes.length) : outOk x i = (isWriteF x.writes[i] && (!(x.writes[i].device != x.device) && !(x.writes[i].seq != wrap64 (wrap64 (x.next - (x.writes.length : Int)) + (i : Int))))) := by
  unfold outOk; rw [List.getElem?_eq_getElem hi]
theorem out_snoc {x : DOutbox} {k : Nat} (h : ∀ i, i < k → outOk x i = true) (hk : outOk x k = true) : ∀ i, i < k + 1 → outOk x i = true := by
  intro i hi
  by_cases e : i = k
  · subst e; exact hk
  · exact h i (by omega)
attribute [irreducible] outOk

end Go.Proofs.Ytapgglghaknjlaa
