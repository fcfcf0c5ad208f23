/-
  Lists of cells in which some are stored again as they were. No function of the program is named here.
-/
import Derived.Test.YtjdoofekohjjlaaMarks
namespace Go.Proofs.Ytjdoofekohjjlaa
open Go.RowKit

theorem set_noop {l : List Value} {i : Nat} {v : Value} (h : l[i]? = some v) : l.set i v = l := by
  obtain ⟨hl, he⟩ := List.getElem?_eq_some_iff.1 h
  conv => rhs; rw [← List.set_getElem_self hl]
  rw [he]
theorem own_eq {w : World} {base : Nat} {e : TypeId} {size : Nat} {v : Value} {n : Nat} {xs ys : List Value} (h : w.ownsRow base e size v n xs) (he : xs = ys) : w.ownsRow base e size v n ys := he ▸ h

end Go.Proofs.Ytjdoofekohjjlaa
