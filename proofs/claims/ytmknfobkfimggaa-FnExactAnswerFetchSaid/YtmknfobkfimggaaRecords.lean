/-
  IsRecord.
-/
import Derived.Test.YtmknfobkfimggaaKeys
import Derived.Test.YtmknfobkfimggaaTFam
import Derived.Test.YtmknfobkfimggaaBase
namespace Go.Proofs.Ytmknfobkfimggaa
open Go.RowKit

theorem bl_total : ∀ (x y : List UInt8), (Op.bytesLess x y || x == y) = !(Op.bytesLess y x)
  | [], [] => rfl
  | [], _ :: _ => rfl
  | _ :: _, [] => rfl
  | a :: x, b :: y => by
    have ih := bl_total x y
    simp only [Op.bytesLess]
    rcases Nat.lt_trichotomy a.toNat b.toNat with h | h | h
    · have h1 : decide (a < b) = true := decide_eq_true (UInt8.lt_iff_toNat_lt.2 h)
      have h2 : decide (b < a) = false := decide_eq_false (fun g => by have := UInt8.lt_iff_toNat_lt.1 g; omega)
      have h3 : (b == a) = false := by simp only [beq_eq_false_iff_ne]; intro e; subst e; omega
      rw [h1, h2, h3]; rfl
    · have e : a = b := UInt8.toNat_inj.1 h
      subst e
      have h1 : decide (a < a) = false := decide_eq_false (fun g => by have := UInt8.lt_iff_toNat_lt.1 g; omega)
      have h2 : (a == a) = true := by simp
      have h3 : (a :: x == a :: y) = (x == y) := by rw [List.cons_beq_cons, h2, Bool.true_and]
      rw [h1, h2, h3, Bool.false_or, Bool.true_and, Bool.false_or, Bool.true_and]
      exact ih
    · have h1 : decide (a < b) = false := decide_eq_false (fun g => by have := UInt8.lt_iff_toNat_lt.1 g; omega)
      have h2 : decide (b < a) = true := decide_eq_true (UInt8.lt_iff_toNat_lt.2 h)
      have h3 : (a == b) = false := by simp only [beq_eq_false_iff_ne]; intro e; subst e; omega
      have h4 : (a :: x == b :: y) = false := by rw [List.cons_beq_cons, h3, Bool.false_and]
      rw [h1, h2, h3, h4]; rfl

theorem slice_at' {α : Type} {E : TypeId} {R : Rep α} {w : World} {b off n cap : Nat} {l : List α} (h : Reads (Rep.slice E R) w [.slice (some ⟨b, off, none⟩) n cap] l) (i : Nat) (hi : i < l.length) :
    ∃ cs, b < w.heap.size ∧ Reads R w cs l[i] ∧ ∀ j, j < R.n → w.cell? ⟨b, off + i * R.n + j, none⟩ = cs[j]? := by
  obtain ⟨b', off', cs, he, h1, h2, h3⟩ := slice_at h i hi
  simp only [Option.some.injEq, Addr.mk.injEq, and_true] at he
  obtain ⟨rfl, rfl⟩ := he
  exact ⟨cs, h1, h2, h3⟩
def recBad (l : List DField) (i : Nat) : Bool := match l[i]?, l[i - 1]? with | some f, some g => !(Op.bytesLess g.name.toList f.name.toList) | _, _ => false
def recOk (x : DRecord) (i : Nat) : Bool := match x.fields[i]? with | none => true | some f => isWordF f.name 8 false && (within f.n 0 1000000000 && !(decide (0 < i) && recBad x.fields i))
def isRecordF (x : DRecord) : Bool := (List.range x.fields.length).all (recOk x) && decide (x.fields.length ≤ 6)
theorem recBad_at {l : List DField} {i : Nat} (hi : i < l.length) : recBad l i = !(Op.bytesLess l[i - 1].name.toList l[i].name.toList) := by
  unfold recBad; rw [List.getElem?_eq_getElem hi, List.getElem?_eq_getElem (show i - 1 < l.length by omega)]
theorem recOk_at {x : DRecord} {i : Nat} (hi : i < x.fields.length) : recOk x i = (isWordF x.fields[i].name 8 false && (within x.fields[i].n 0 1000000000 && !(decide (0 < i) && recBad x.fields i))) := by
  unfold recOk; rw [List.getElem?_eq_getElem hi]
theorem record_no {x : DRecord} {i : Nat} (hi : i < x.fields.length) (h : recOk x i = false) : isRecordF x = false := by
  have : (List.range x.fields.length).all (recOk x) = false := List.all_eq_false.2 ⟨i, List.mem_range.2 hi, by rw [h]; simp⟩
  rw [isRecordF, this, Bool.false_and]
theorem record_yes {x : DRecord} {k : Nat} (hk : ¬ k < x.fields.length) (h : ∀ i, i < k → recOk x i = true) : isRecordF x = decide (x.fields.length ≤ 6) := by
  have : (List.range x.fields.length).all (recOk x) = true := List.all_eq_true.2 fun i hi => h i (by have := List.mem_range.1 hi; omega)
  rw [isRecordF, this, Bool.true_and]
theorem all_snoc {p : Nat → Bool} {k : Nat} (h : ∀ i, i < k → p i = true) (hk : p k = true) : ∀ i, i < k + 1 → p i = true := by
  intro i hi
  by_cases e : i = k
  · subst e; exact hk
  · exact h i (by omega)
attribute [irreducible] recOk recBad

end Go.Proofs.Ytmknfobkfimggaa
