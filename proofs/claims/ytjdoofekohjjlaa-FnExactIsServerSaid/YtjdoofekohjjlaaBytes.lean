/-
  Slices of bytes.
-/
import Derived.Test.YtjdoofekohjjlaaSeat
namespace Go.Proofs.Ytjdoofekohjjlaa
open Go.RowKit

abbrev Rep.bytes : Rep (List UInt8) := Rep.slice 5 Rep.byte
/-- The first k of two lists agree. -/
theorem agree_snoc {α : Type} {l m : List α} {k : Nat} (h : ∀ j, j < k → l[j]? = m[j]?) (hk : l[k]? = m[k]?) : ∀ j, j < k + 1 → l[j]? = m[j]? := by
  intro j hj
  by_cases e : j = k
  · subst e; exact hk
  · exact h j (by omega)
theorem agree_all {α : Type} {l m : List α} {k : Nat} (h : ∀ j, j < k → l[j]? = m[j]?) (h1 : l.length ≤ k) (h2 : m.length = l.length) : l = m := by
  apply List.ext_getElem?
  intro j
  by_cases hj : j < k
  · exact h j hj
  · rw [List.getElem?_eq_none (by omega), List.getElem?_eq_none (by omega)]
theorem u8_ne {x y : UInt8} (h : ¬ ((x.toNat : Int) = y.toNat)) : x ≠ y := fun e => h (by rw [e])
theorem u8_eq {x y : UInt8} (h : (x.toNat : Int) = y.toNat) : x = y := UInt8.toNat_inj.1 (by omega)

end Go.Proofs.Ytjdoofekohjjlaa
