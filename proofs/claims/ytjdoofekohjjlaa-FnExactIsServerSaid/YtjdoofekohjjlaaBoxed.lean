/-
  What a region that draws leaves: boxes and what a call handed back, apart. No function of the program is named here.
-/
import Derived.Test.YtjdoofekohjjlaaVars
namespace Go.Proofs.Ytjdoofekohjjlaa
open Go.RowKit

theorem Own.setOut {α : Type} {R : Rep α} {lo hi : Nat} {w : World} {cs : List Value} {x : α} {fp : List Nat} {g o : Nat} {u : Value} (h : Own R lo hi w cs x fp) (hg : g < lo ∨ hi ≤ g) : Own R lo hi (w.setCell ⟨g, o, none⟩ u) cs x fp :=
  ⟨R.frame h.rd fun b hb => Below.heap_setCell _ _ _ _ (by have := h.ivl b hb; simp only []; omega), h.nodup, h.ivl⟩
theorem Own.allocA {α : Type} {R : Rep α} {lo hi : Nat} {w : World} {cs : List Value} {x : α} {fp : List Nat} {ob : Obj} (h : Own R lo hi w cs x fp) : Own R lo hi (w.alloc ob) cs x fp := h.below (belA belR)
theorem WB.box {w : World} {k : Nat} {cs : Array Value} (h : WB w k cs) : Box w k cs := ⟨h.cell, h.lt⟩
theorem Fresh.ownAt {α : Type} {R : Rep α} {B : Nat} {w : World} {cs : List Value} {x : α} (h : Fresh R B w cs x) : ∃ fp, Own R B w.heap.size w cs x fp := h.own (Nat.le_refl _)
theorem Fresh.ownAtL {α : Type} {R : Rep α} {B : Nat} {w : World} {cs : List Value} {x : α} (h : Fresh R B w cs x) : ∃ L fp, B = L ∧ Own R L w.heap.size w cs x fp := by
  obtain ⟨fp, h⟩ := h.own (Nat.le_refl _)
  exact ⟨B, fp, rfl, h⟩
theorem Fresh2.ownAtL {α β : Type} {R : Rep α} {S : Rep β} {B : Nat} {w : World} {cs ds : List Value} {x : α} {y : β} (h : Fresh2 R S B w cs ds x y) : ∃ L f g, B = L ∧ Own R L w.heap.size w cs x f ∧ Own S L w.heap.size w ds y g ∧ ∀ b ∈ f, b ∉ g := by
  obtain ⟨f, g, h⟩ := h.own (Nat.le_refl _)
  exact ⟨B, f, g, rfl, h⟩

end Go.Proofs.Ytjdoofekohjjlaa
