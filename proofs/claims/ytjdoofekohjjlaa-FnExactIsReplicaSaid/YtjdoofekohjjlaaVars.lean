/-
  Variables' blocks: many cells stored at once. No function of the program is named here.
-/
import Derived.Test.YtjdoofekohjjlaaGrow
import Derived.Deep.DeepCutAuto
namespace Go.Proofs.Ytjdoofekohjjlaa
open Go.RowKit

def setA (cs : Array Value) : Nat → List Value → Array Value
  | _, [] => cs
  | i, u :: us => setA (cs.setIfInBounds i u) (i + 1) us
theorem WB.sets {k : Nat} : ∀ (us : List Value) (i : Nat) (w : World) (cs : Array Value), WB w k cs → i + us.length ≤ cs.size → WB (setCells w k i us) k (setA cs i us)
  | [], _, _, _, h, _ => h
  | u :: us, i, w, cs, h, hl => by
    simp only [List.length_cons] at hl
    exact WB.sets us (i + 1) (w.setCell ⟨k, i, none⟩ u) (cs.setIfInBounds i u) (h.setAt (by omega) rfl) (by rw [Array.size_setIfInBounds]; omega)
theorem WB.set3 {w : World} {k : Nat} {a b c a' b' c' : Value} (h : WB w k #[a, b, c]) : WB (((w.setCell ⟨k, 0, none⟩ a').setCell ⟨k, 1, none⟩ b').setCell ⟨k, 2, none⟩ c') k #[a', b', c'] :=
  WB.sets [a', b', c'] 0 w _ h (by simp)
theorem WB.set4 {w : World} {k : Nat} {a b c d a' b' c' d' : Value} (h : WB w k #[a, b, c, d]) : WB ((((w.setCell ⟨k, 0, none⟩ a').setCell ⟨k, 1, none⟩ b').setCell ⟨k, 2, none⟩ c').setCell ⟨k, 3, none⟩ d') k #[a', b', c', d'] :=
  WB.sets [a', b', c', d'] 0 w _ h (by simp)
theorem chgD {fp : List Nat} {a w : World} (h : Chg fp a w) : Chg fp a w.drew := ⟨h.os, h.tape, h.output, h.size, h.block⟩
theorem chgA {fp : List Nat} {a w : World} {o : Obj} (h : Chg fp a w) : Chg fp a (w.alloc o) := h.trans (Chg.of_below (B := w.heap.size) (belA belR) (Nat.le_refl _))

end Go.Proofs.Ytjdoofekohjjlaa
