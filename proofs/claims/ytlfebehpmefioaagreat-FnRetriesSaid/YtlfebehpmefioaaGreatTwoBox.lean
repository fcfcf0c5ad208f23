/-
  Two results, each laid into a variable of its own: before the last call, between, or behind it. No function of the program is named here.
-/
import Derived.Test.YtlfebehpmefioaaGreatBase
namespace Go.Proofs.YtlfebehpmefioaaGreat
open Go.RowKit

theorem two_set5 {w : World} {k : Nat} {a0 a1 a2 a3 a4 b0 b1 b2 b3 b4 : Value} (h : WB w k #[a0, a1, a2, a3, a4]) : WB (((((w.setCell ⟨k, 0, none⟩ b0).setCell ⟨k, 1, none⟩ b1).setCell ⟨k, 2, none⟩ b2).setCell ⟨k, 3, none⟩ b3).setCell ⟨k, 4, none⟩ b4) k #[b0, b1, b2, b3, b4] :=
  (((((h.setAt (i := 0) (cs' := #[b0, a1, a2, a3, a4]) (by simp) rfl).setAt (i := 1) (cs' := #[b0, b1, a2, a3, a4]) (by simp) rfl).setAt (i := 2) (cs' := #[b0, b1, b2, a3, a4]) (by simp) rfl).setAt (i := 3) (cs' := #[b0, b1, b2, b3, a4]) (by simp) rfl).setAt (i := 4) (cs' := #[b0, b1, b2, b3, b4]) (by simp) rfl)
theorem two_off5 {w : World} {k g : Nat} {cs : Array Value} {b0 b1 b2 b3 b4 : Value} (h : WB w k cs) (hk : k ≠ g) : WB (((((w.setCell ⟨g, 0, none⟩ b0).setCell ⟨g, 1, none⟩ b1).setCell ⟨g, 2, none⟩ b2).setCell ⟨g, 3, none⟩ b3).setCell ⟨g, 4, none⟩ b4) k cs :=
  (((((h.setOther hk).setOther hk).setOther hk).setOther hk).setOther hk)
theorem two_own5 {α : Type} {R : Rep α} {lo hi : Nat} {w : World} {cs : List Value} {x : α} {fp : List Nat} {g : Nat} {b0 b1 b2 b3 b4 : Value} (h : Own R lo hi w cs x fp) (hg : g < lo ∨ hi ≤ g) : Own R lo hi (((((w.setCell ⟨g, 0, none⟩ b0).setCell ⟨g, 1, none⟩ b1).setCell ⟨g, 2, none⟩ b2).setCell ⟨g, 3, none⟩ b3).setCell ⟨g, 4, none⟩ b4) cs x fp :=
  ((((h.setOut hg).setOut hg).setOut hg).setOut hg).setOut hg
theorem two_bel5 {B : Nat} {w3 w : World} {g : Nat} {b0 b1 b2 b3 b4 : Value} (h : Below B w3 w) (hg : B ≤ g) : Below B w3 (((((w.setCell ⟨g, 0, none⟩ b0).setCell ⟨g, 1, none⟩ b1).setCell ⟨g, 2, none⟩ b2).setCell ⟨g, 3, none⟩ b3).setCell ⟨g, 4, none⟩ b4) :=
  belS hg (belS hg (belS hg (belS hg (belS hg h))))
theorem Fresh2.base {α β : Type} {R : Rep α} {S : Rep β} {B : Nat} {w : World} {cs ds : List Value} {x : α} {y : β} (h : Fresh2 R S B w cs ds x y) : ∃ L, B = L ∧ Fresh2 R S L w cs ds x y := ⟨B, rfl, h⟩
/-- The two results in blocks k0 and k1, what they lead to in neither. -/
def Two {α β : Type} (R : Rep α) (S : Rep β) (w3 wx : World) (k0 k1 : Nat) (c0 c1 : List Value) (p : α) (q : β) : Prop :=
  ∃ (lo hi : Nat) (f g : List Nat), Box wx k0 c0.toArray ∧ w3.heap.size ≤ k0 ∧ (k0 < lo ∨ hi ≤ k0) ∧ Box wx k1 c1.toArray ∧ w3.heap.size ≤ k1 ∧ (k1 < lo ∨ hi ≤ k1) ∧ w3.heap.size ≤ lo ∧ hi ≤ wx.heap.size ∧ Own R lo hi wx c0 p f ∧ Own S lo hi wx c1 q g ∧ (∀ b ∈ f, b ∉ g) ∧ Below w3.heap.size w3 wx

theorem two_w1 {α β : Type} {R : Rep α} {S : Rep β} {B k0 k1 : Nat} {w3 w : World} {x0 x1 x2 x3 x4 y0 y1 y2 y3 y4 : Value} {p : α} {q : β} (hf : Fresh2 R S B w [x0, x1, x2, x3, x4] [y0, y1, y2, y3, y4] p q) {a0 a1 a2 a3 a4 : Value} {b0 b1 b2 b3 b4 : Value} (h0 : WB w k0 #[a0, a1, a2, a3, a4]) (h1 : WB w k1 #[b0, b1, b2, b3, b4]) (hk : k0 ≠ k1) (hb0 : k0 < B) (hb1 : k1 < B) (hz0 : w3.heap.size ≤ k0) (hz1 : w3.heap.size ≤ k1) (hq : Below w3.heap.size w3 w) : Two R S w3 ((((((((((w.setCell ⟨k0, 0, none⟩ x0).setCell ⟨k0, 1, none⟩ x1).setCell ⟨k0, 2, none⟩ x2).setCell ⟨k0, 3, none⟩ x3).setCell ⟨k0, 4, none⟩ x4).setCell ⟨k1, 0, none⟩ y0).setCell ⟨k1, 1, none⟩ y1).setCell ⟨k1, 2, none⟩ y2).setCell ⟨k1, 3, none⟩ y3).setCell ⟨k1, 4, none⟩ y4) k0 k1 [x0, x1, x2, x3, x4] [y0, y1, y2, y3, y4] p q := by
  obtain ⟨f, g, o0, o1, hd⟩ := hf.own (Nat.le_refl _)
  exact ⟨B, w.heap.size, f, g, (two_off5 (two_set5 h0) hk).box, hz0, .inl hb0, (two_set5 (two_off5 h1 (Ne.symm hk))).box, hz1, .inl hb1, by omega, by simp only [World.size_setCell]; omega, two_own5 (two_own5 o0 (.inl hb0)) (.inl hb1), two_own5 (two_own5 o1 (.inl hb0)) (.inl hb1), hd, two_bel5 (two_bel5 hq hz0) hz1⟩
theorem two_w6 {α β : Type} {R : Rep α} {S : Rep β} {B k0 k1 : Nat} {w3 w : World} {x0 x1 x2 x3 x4 y0 y1 y2 y3 y4 : Value} {p : α} {q : β} (hf : Fresh2 R S B w [x0, x1, x2, x3, x4] [y0, y1, y2, y3, y4] p q) {a0 a1 a2 a3 a4 : Value} {b0 b1 b2 b3 b4 : Value} (h0 : WB w k0 #[a0, a1, a2, a3, a4]) (h1 : WB w k1 #[b0, b1, b2, b3, b4]) (hk : k0 ≠ k1) (hb0 : k0 < B) (hb1 : k1 < B) (hz0 : w3.heap.size ≤ k0) (hz1 : w3.heap.size ≤ k1) (hq : Below w3.heap.size w3 w) : Two R S w3 ((((((((((w.setCell ⟨k1, 0, none⟩ y0).setCell ⟨k1, 1, none⟩ y1).setCell ⟨k1, 2, none⟩ y2).setCell ⟨k1, 3, none⟩ y3).setCell ⟨k1, 4, none⟩ y4).setCell ⟨k0, 0, none⟩ x0).setCell ⟨k0, 1, none⟩ x1).setCell ⟨k0, 2, none⟩ x2).setCell ⟨k0, 3, none⟩ x3).setCell ⟨k0, 4, none⟩ x4) k0 k1 [x0, x1, x2, x3, x4] [y0, y1, y2, y3, y4] p q := by
  obtain ⟨f, g, o0, o1, hd⟩ := hf.own (Nat.le_refl _)
  exact ⟨B, w.heap.size, f, g, (two_set5 (two_off5 h0 hk)).box, hz0, .inl hb0, (two_off5 (two_set5 h1) (Ne.symm hk)).box, hz1, .inl hb1, by omega, by simp only [World.size_setCell]; omega, two_own5 (two_own5 o0 (.inl hb1)) (.inl hb0), two_own5 (two_own5 o1 (.inl hb1)) (.inl hb0), hd, two_bel5 (two_bel5 hq hz1) hz0⟩
theorem two_w2 {α β : Type} {R : Rep α} {S : Rep β} {B k0 k1 : Nat} {w3 w : World} {x0 x1 x2 x3 x4 y0 y1 y2 y3 y4 : Value} {p : α} {q : β} (hf : Fresh2 R S B w [x0, x1, x2, x3, x4] [y0, y1, y2, y3, y4] p q) {a0 a1 a2 a3 a4 : Value} {t : TypeId} (h0 : WB w k0 #[a0, a1, a2, a3, a4]) (hk1 : k1 = w.heap.size) (hb0 : k0 < B) (hz0 : w3.heap.size ≤ k0) (hz3 : w3.heap.size ≤ B) (hq : Below w3.heap.size w3 w) : Two R S w3 ((((((w.setCell ⟨k0, 0, none⟩ x0).setCell ⟨k0, 1, none⟩ x1).setCell ⟨k0, 2, none⟩ x2).setCell ⟨k0, 3, none⟩ x3).setCell ⟨k0, 4, none⟩ x4).alloc (.cells [y0, y1, y2, y3, y4].toArray t)) k0 k1 [x0, x1, x2, x3, x4] [y0, y1, y2, y3, y4] p q := by
  obtain ⟨f, g, o0, o1, hd⟩ := hf.own (Nat.le_refl _)
  have hz := hq.size
  have hB : w3.heap.size ≤ k1 := by omega
  exact ⟨B, w.heap.size, f, g, (WB.growA (two_set5 h0)).box, hz0, .inl hb0, (WB.at (by simp only [World.size_setCell]; omega)).box, hB, .inr (by omega), by omega, by simp only [World.size_setCell, World.size_alloc]; omega, (two_own5 o0 (.inl hb0)).allocA, (two_own5 o1 (.inl hb0)).allocA, hd, (two_bel5 hq hz0).alloc (by simp only [World.size_setCell]; omega) _⟩
theorem two_w3 {α β : Type} {R : Rep α} {S : Rep β} {B k0 k1 : Nat} {w3 w : World} {x0 x1 x2 x3 x4 y0 y1 y2 y3 y4 : Value} {p : α} {q : β} (hf : Fresh2 R S B w [x0, x1, x2, x3, x4] [y0, y1, y2, y3, y4] p q) {b0 b1 b2 b3 b4 : Value} {t : TypeId} (h1 : WB w k1 #[b0, b1, b2, b3, b4]) (hk0 : k0 = w.heap.size) (hb1 : k1 < B) (hz1 : w3.heap.size ≤ k1) (hz3 : w3.heap.size ≤ B) (hq : Below w3.heap.size w3 w) : Two R S w3 ((((((w.setCell ⟨k1, 0, none⟩ y0).setCell ⟨k1, 1, none⟩ y1).setCell ⟨k1, 2, none⟩ y2).setCell ⟨k1, 3, none⟩ y3).setCell ⟨k1, 4, none⟩ y4).alloc (.cells [x0, x1, x2, x3, x4].toArray t)) k0 k1 [x0, x1, x2, x3, x4] [y0, y1, y2, y3, y4] p q := by
  obtain ⟨f, g, o0, o1, hd⟩ := hf.own (Nat.le_refl _)
  have hz := hq.size
  have hB : w3.heap.size ≤ k0 := by omega
  exact ⟨B, w.heap.size, f, g, (WB.at (by simp only [World.size_setCell]; omega)).box, hB, .inr (by omega), (WB.growA (two_set5 h1)).box, hz1, .inl hb1, by omega, by simp only [World.size_setCell, World.size_alloc]; omega, (two_own5 o0 (.inl hb1)).allocA, (two_own5 o1 (.inl hb1)).allocA, hd, (two_bel5 hq hz1).alloc (by simp only [World.size_setCell]; omega) _⟩
theorem two_w4 {α β : Type} {R : Rep α} {S : Rep β} {B k0 k1 : Nat} {w3 w : World} {x0 x1 x2 x3 x4 y0 y1 y2 y3 y4 : Value} {p : α} {q : β} (hf : Fresh2 R S B w [x0, x1, x2, x3, x4] [y0, y1, y2, y3, y4] p q) {t u : TypeId} (hk0 : k0 = w.heap.size) (hk1 : k1 = w.heap.size + 1) (hz3 : w3.heap.size ≤ B) (hq : Below w3.heap.size w3 w) : Two R S w3 ((w.alloc (.cells [x0, x1, x2, x3, x4].toArray t)).alloc (.cells [y0, y1, y2, y3, y4].toArray u)) k0 k1 [x0, x1, x2, x3, x4] [y0, y1, y2, y3, y4] p q := by
  obtain ⟨f, g, o0, o1, hd⟩ := hf.own (Nat.le_refl _)
  have hz := hq.size
  exact ⟨B, w.heap.size, f, g, (WB.growA (WB.at hk0)).box, by omega, .inr (by omega), (WB.at (by simp only [World.size_alloc]; omega)).box, by omega, .inr (by omega), by omega, by simp only [World.size_alloc]; omega, o0.allocA.allocA, o1.allocA.allocA, hd, (hq.alloc hz _).alloc (by simp only [World.size_alloc]; omega) _⟩
theorem two_w5 {α β : Type} {R : Rep α} {S : Rep β} {B k0 k1 : Nat} {w3 w : World} {x0 x1 x2 x3 x4 y0 y1 y2 y3 y4 : Value} {p : α} {q : β} (hf : Fresh2 R S B w [x0, x1, x2, x3, x4] [y0, y1, y2, y3, y4] p q) {t u : TypeId} (hk1 : k1 = w.heap.size) (hk0 : k0 = w.heap.size + 1) (hz3 : w3.heap.size ≤ B) (hq : Below w3.heap.size w3 w) : Two R S w3 ((w.alloc (.cells [y0, y1, y2, y3, y4].toArray t)).alloc (.cells [x0, x1, x2, x3, x4].toArray u)) k0 k1 [x0, x1, x2, x3, x4] [y0, y1, y2, y3, y4] p q := by
  obtain ⟨f, g, o0, o1, hd⟩ := hf.own (Nat.le_refl _)
  have hz := hq.size
  exact ⟨B, w.heap.size, f, g, (WB.at (by simp only [World.size_alloc]; omega)).box, by omega, .inr (by omega), (WB.growA (WB.at hk1)).box, by omega, .inr (by omega), by omega, by simp only [World.size_alloc]; omega, o0.allocA.allocA, o1.allocA.allocA, hd, (hq.alloc hz _).alloc (by simp only [World.size_alloc]; omega) _⟩

end Go.Proofs.YtlfebehpmefioaaGreat
