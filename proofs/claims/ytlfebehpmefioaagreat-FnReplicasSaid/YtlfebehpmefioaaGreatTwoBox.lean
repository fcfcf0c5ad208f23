/-
  Two results, each laid into a variable of its own: before the last call, between, or behind it. No function of the program is named here.
-/
import Derived.Test.YtlfebehpmefioaaGreatBase
namespace Go.Proofs.YtlfebehpmefioaaGreat
open Go.RowKit

theorem Fresh2.base {α β : Type} {R : Rep α} {S : Rep β} {B : Nat} {w : World} {cs ds : List Value} {x : α} {y : β} (h : Fresh2 R S B w cs ds x y) : ∃ L, B = L ∧ Fresh2 R S L w cs ds x y := ⟨B, rfl, h⟩
def Two {α β : Type} (R : Rep α) (S : Rep β) (w3 wx : World) (k0 k1 : Nat) (c0 c1 : List Value) (p : α) (q : β) : Prop :=
  ∃ (lo hi : Nat) (f g : List Nat), Box wx k0 c0.toArray ∧ w3.heap.size ≤ k0 ∧ (k0 < lo ∨ hi ≤ k0) ∧ Box wx k1 c1.toArray ∧ w3.heap.size ≤ k1 ∧ (k1 < lo ∨ hi ≤ k1) ∧ w3.heap.size ≤ lo ∧ hi ≤ wx.heap.size ∧ Own R lo hi wx c0 p f ∧ Own S lo hi wx c1 q g ∧ (∀ b ∈ f, b ∉ g) ∧ Below w3.heap.size w3 wx

end Go.Proofs.YtlfebehpmefioaaGreat
