/-
  SyncAll: a synchronization and a server in two variables.
-/
import Derived.Test.YtlfebehpmefioaaGreatSyncStep
import Derived.Test.YtlfebehpmefioaaGreatSyncStepS
import Derived.Test.YtlfebehpmefioaaGreatSrvFam
namespace Go.Proofs.YtlfebehpmefioaaGreat
open Go.RowKit

theorem set5 {w : World} {k : Nat} {a0 a1 a2 a3 a4 b0 b1 b2 b3 b4 : Value} (h : WB w k #[a0, a1, a2, a3, a4]) : WB (((((w.setCell ⟨k, 0, none⟩ b0).setCell ⟨k, 1, none⟩ b1).setCell ⟨k, 2, none⟩ b2).setCell ⟨k, 3, none⟩ b3).setCell ⟨k, 4, none⟩ b4) k #[b0, b1, b2, b3, b4] :=
  (((((h.setAt (i := 0) (cs' := #[b0, a1, a2, a3, a4]) (by simp) rfl).setAt (i := 1) (cs' := #[b0, b1, a2, a3, a4]) (by simp) rfl).setAt (i := 2) (cs' := #[b0, b1, b2, a3, a4]) (by simp) rfl).setAt (i := 3) (cs' := #[b0, b1, b2, b3, a4]) (by simp) rfl).setAt (i := 4) (cs' := #[b0, b1, b2, b3, b4]) (by simp) rfl)
theorem off5 {w : World} {k g : Nat} {cs : Array Value} {b0 b1 b2 b3 b4 : Value} (h : WB w k cs) (hk : k ≠ g) : WB (((((w.setCell ⟨g, 0, none⟩ b0).setCell ⟨g, 1, none⟩ b1).setCell ⟨g, 2, none⟩ b2).setCell ⟨g, 3, none⟩ b3).setCell ⟨g, 4, none⟩ b4) k cs :=
  (((((h.setOther hk).setOther hk).setOther hk).setOther hk).setOther hk)
structure Pair (W : World) (B K1 K2 : Nat) (cy cv : List Value) (y : DSync) (s : DServer) : Prop where
  box1 : WB W K1 cy.toArray
  box2 : WB W K2 cv.toArray
  own : ∃ f g, DSync.rep.rd true W cy y f ∧ DServer.rep.rd true W cv s g ∧ f.Nodup ∧ g.Nodup ∧ (∀ b ∈ f, b ∉ g) ∧ (∀ b ∈ f, B ≤ b ∧ b ≠ K1 ∧ b ≠ K2) ∧ ∀ b ∈ g, B ≤ b ∧ b ≠ K1 ∧ b ≠ K2
theorem Pair.fresh2 {W : World} {B K1 K2 : Nat} {cy cv : List Value} {y : DSync} {s : DServer} (h : Pair W B K1 K2 cy cv y s) : Fresh2 DSync.rep DServer.rep B W cy cv y s := by
  obtain ⟨f, g, h1, h2, h3, h4, h5, h6, h7⟩ := h.own
  exact ⟨f, g, h1, h2, h3, h4, h5, fun b hb => (h6 b hb).1, fun b hb => (h7 b hb).1⟩
theorem Pair.keep {W W' : World} {B K1 K2 : Nat} {cy cv : List Value} {y : DSync} {s : DServer} (h : Pair W B K1 K2 cy cv y s) (hb : Below W.heap.size W W') : Pair W' B K1 K2 cy cv y s := by
  obtain ⟨f, g, h1, h2, h3, h4, h5, h6, h7⟩ := h.own
  exact ⟨h.box1.keep hb, h.box2.keep hb, f, g, Rep.frame _ h1 fun b hb' => hb.block b (Rep.lt _ h1 b hb'), Rep.frame _ h2 fun b hb' => hb.block b (Rep.lt _ h2 b hb'), h3, h4, h5, h6, h7⟩
theorem pair_init {B : Nat} {w1 w2 : World} {cy cv : List Value} {y : DSync} {s : DServer} {t1 t2 : TypeId} (hy : Fresh DSync.rep B w1 cy y) (hb : Below (w1.alloc (.cells cy.toArray t1)).heap.size (w1.alloc (.cells cy.toArray t1)) w2) (hs : Fresh DServer.rep (w1.alloc (.cells cy.toArray t1)).heap.size w2 cv s) (hB : B ≤ w1.heap.size) : Pair (w2.alloc (.cells cv.toArray t2)) B w1.heap.size w2.heap.size cy cv y s := by
  obtain ⟨f, h1, h3, h6⟩ := hy
  obtain ⟨g, h2, h4, h7⟩ := hs
  have hsz := hb.size
  rw [World.size_alloc] at hsz
  simp only [World.size_alloc] at h7
  have hf := Rep.lt _ h1
  have hg := Rep.lt _ h2
  have b1 : Below w1.heap.size w1 (w2.alloc (.cells cv.toArray t2)) := belAB (by omega) ((belA belR).trans (hb.mono (by simp)))
  refine ⟨((WB.at rfl).keep hb).growA, WB.at rfl, f, g, Rep.frame _ h1 fun b hb' => b1.block b (hf b hb'), Rep.frame _ h2 fun b hb' => Below.heap_alloc _ _ _ (hg b hb'), h3, h4, fun b hb1 hb2 => ?_, fun b hb' => ?_, fun b hb' => ?_⟩
  · have e1 := hf b hb1; have e2 := h7 b hb2; omega
  · have e1 := hf b hb'; have e2 := h6 b hb'; omega
  · have e1 := hg b hb'; have e2 := h7 b hb'; omega
theorem pair_step {W : World} {B0 B K1 K2 : Nat} {c0 c1 c2 c3 c4 d0 d1 d2 d3 d4 a0 a1 a2 a3 a4 b0 b1 b2 b3 b4 : Value} {y : DSync} {s : DServer} (h : Fresh2 DSync.rep DServer.rep B0 W [c0, c1, c2, c3, c4] [d0, d1, d2, d3, d4] y s) (h1 : WB W K1 #[a0, a1, a2, a3, a4]) (h2 : WB W K2 #[b0, b1, b2, b3, b4]) (hK : K1 ≠ K2) (hK1 : K1 < B0) (hK2 : K2 < B0) (hB : B ≤ B0) :
    Pair ((((((((((W.setCell ⟨K1, 0, none⟩ c0).setCell ⟨K1, 1, none⟩ c1).setCell ⟨K1, 2, none⟩ c2).setCell ⟨K1, 3, none⟩ c3).setCell ⟨K1, 4, none⟩ c4).setCell ⟨K2, 0, none⟩ d0).setCell ⟨K2, 1, none⟩ d1).setCell ⟨K2, 2, none⟩ d2).setCell ⟨K2, 3, none⟩ d3).setCell ⟨K2, 4, none⟩ d4) B K1 K2 [c0, c1, c2, c3, c4] [d0, d1, d2, d3, d4] y s ∧ Pair ((((((((((W.setCell ⟨K2, 0, none⟩ d0).setCell ⟨K2, 1, none⟩ d1).setCell ⟨K2, 2, none⟩ d2).setCell ⟨K2, 3, none⟩ d3).setCell ⟨K2, 4, none⟩ d4).setCell ⟨K1, 0, none⟩ c0).setCell ⟨K1, 1, none⟩ c1).setCell ⟨K1, 2, none⟩ c2).setCell ⟨K1, 3, none⟩ c3).setCell ⟨K1, 4, none⟩ c4) B K1 K2 [c0, c1, c2, c3, c4] [d0, d1, d2, d3, d4] y s := by
  obtain ⟨f, g, r1, r2, h3, h4, h5, h6, h7⟩ := h
  have hfr : ∀ {α : Type} {R : Rep α} {cs : List Value} {x : α} {fp : List Nat} {w : World} {k o : Nat} {u : Value}, R.rd true w cs x fp → (∀ b ∈ fp, b ≠ k) → R.rd true (w.setCell ⟨k, o, none⟩ u) cs x fp := fun hr hk => Rep.frame _ hr fun b hb => Below.heap_setCell _ _ _ _ (hk b hb)
  have f1 : ∀ b ∈ f, b ≠ K1 := fun b hb e => by have := h6 b hb; omega
  have f2 : ∀ b ∈ f, b ≠ K2 := fun b hb e => by have := h6 b hb; omega
  have g1 : ∀ b ∈ g, b ≠ K1 := fun b hb e => by have := h7 b hb; omega
  have g2 : ∀ b ∈ g, b ≠ K2 := fun b hb e => by have := h7 b hb; omega
  have p6 : ∀ b ∈ f, B ≤ b ∧ b ≠ K1 ∧ b ≠ K2 := fun b hb => ⟨Nat.le_trans hB (h6 b hb), f1 b hb, f2 b hb⟩
  have p7 : ∀ b ∈ g, B ≤ b ∧ b ≠ K1 ∧ b ≠ K2 := fun b hb => ⟨Nat.le_trans hB (h7 b hb), g1 b hb, g2 b hb⟩
  constructor
  · exact ⟨off5 (set5 h1) hK, set5 (off5 h2 (Ne.symm hK)), f, g, hfr (hfr (hfr (hfr (hfr (hfr (hfr (hfr (hfr (hfr r1 f1) f1) f1) f1) f1) f2) f2) f2) f2) f2, hfr (hfr (hfr (hfr (hfr (hfr (hfr (hfr (hfr (hfr r2 g1) g1) g1) g1) g1) g2) g2) g2) g2) g2, h3, h4, h5, p6, p7⟩
  · exact ⟨set5 (off5 h1 hK), off5 (set5 h2) (Ne.symm hK), f, g, hfr (hfr (hfr (hfr (hfr (hfr (hfr (hfr (hfr (hfr r1 f2) f2) f2) f2) f2) f1) f1) f1) f1) f1, hfr (hfr (hfr (hfr (hfr (hfr (hfr (hfr (hfr (hfr r2 g2) g2) g2) g2) g2) g1) g1) g1) g1) g1, h3, h4, h5, p6, p7⟩

theorem pair_out {W : World} {B K1 K2 k8 k9 : Nat} {c0 c1 c2 c3 c4 d0 d1 d2 d3 d4 a0 a1 a2 a3 a4 b0 b1 b2 b3 b4 : Value} {y : DSync} {s : DServer} (h : Pair W B K1 K2 [c0, c1, c2, c3, c4] [d0, d1, d2, d3, d4] y s) (h8 : WB W k8 #[a0, a1, a2, a3, a4]) (h9 : WB W k9 #[b0, b1, b2, b3, b4]) (h89 : k8 ≠ k9) (h8B : k8 < B) (h9B : k9 < B) :
    (WB ((((((((((W.setCell ⟨k8, 0, none⟩ c0).setCell ⟨k8, 1, none⟩ c1).setCell ⟨k8, 2, none⟩ c2).setCell ⟨k8, 3, none⟩ c3).setCell ⟨k8, 4, none⟩ c4).setCell ⟨k9, 0, none⟩ d0).setCell ⟨k9, 1, none⟩ d1).setCell ⟨k9, 2, none⟩ d2).setCell ⟨k9, 3, none⟩ d3).setCell ⟨k9, 4, none⟩ d4) k8 #[c0, c1, c2, c3, c4] ∧ WB ((((((((((W.setCell ⟨k8, 0, none⟩ c0).setCell ⟨k8, 1, none⟩ c1).setCell ⟨k8, 2, none⟩ c2).setCell ⟨k8, 3, none⟩ c3).setCell ⟨k8, 4, none⟩ c4).setCell ⟨k9, 0, none⟩ d0).setCell ⟨k9, 1, none⟩ d1).setCell ⟨k9, 2, none⟩ d2).setCell ⟨k9, 3, none⟩ d3).setCell ⟨k9, 4, none⟩ d4) k9 #[d0, d1, d2, d3, d4] ∧ Fresh2 DSync.rep DServer.rep B ((((((((((W.setCell ⟨k8, 0, none⟩ c0).setCell ⟨k8, 1, none⟩ c1).setCell ⟨k8, 2, none⟩ c2).setCell ⟨k8, 3, none⟩ c3).setCell ⟨k8, 4, none⟩ c4).setCell ⟨k9, 0, none⟩ d0).setCell ⟨k9, 1, none⟩ d1).setCell ⟨k9, 2, none⟩ d2).setCell ⟨k9, 3, none⟩ d3).setCell ⟨k9, 4, none⟩ d4) [c0, c1, c2, c3, c4] [d0, d1, d2, d3, d4] y s) ∧ WB ((((((((((W.setCell ⟨k9, 0, none⟩ d0).setCell ⟨k9, 1, none⟩ d1).setCell ⟨k9, 2, none⟩ d2).setCell ⟨k9, 3, none⟩ d3).setCell ⟨k9, 4, none⟩ d4).setCell ⟨k8, 0, none⟩ c0).setCell ⟨k8, 1, none⟩ c1).setCell ⟨k8, 2, none⟩ c2).setCell ⟨k8, 3, none⟩ c3).setCell ⟨k8, 4, none⟩ c4) k8 #[c0, c1, c2, c3, c4] ∧ WB ((((((((((W.setCell ⟨k9, 0, none⟩ d0).setCell ⟨k9, 1, none⟩ d1).setCell ⟨k9, 2, none⟩ d2).setCell ⟨k9, 3, none⟩ d3).setCell ⟨k9, 4, none⟩ d4).setCell ⟨k8, 0, none⟩ c0).setCell ⟨k8, 1, none⟩ c1).setCell ⟨k8, 2, none⟩ c2).setCell ⟨k8, 3, none⟩ c3).setCell ⟨k8, 4, none⟩ c4) k9 #[d0, d1, d2, d3, d4] ∧ Fresh2 DSync.rep DServer.rep B ((((((((((W.setCell ⟨k9, 0, none⟩ d0).setCell ⟨k9, 1, none⟩ d1).setCell ⟨k9, 2, none⟩ d2).setCell ⟨k9, 3, none⟩ d3).setCell ⟨k9, 4, none⟩ d4).setCell ⟨k8, 0, none⟩ c0).setCell ⟨k8, 1, none⟩ c1).setCell ⟨k8, 2, none⟩ c2).setCell ⟨k8, 3, none⟩ c3).setCell ⟨k8, 4, none⟩ c4) [c0, c1, c2, c3, c4] [d0, d1, d2, d3, d4] y s := by
  obtain ⟨f, g, r1, r2, h3, h4, h5, h6, h7⟩ := h.own
  have hfr : ∀ {α : Type} {R : Rep α} {cs : List Value} {x : α} {fp : List Nat} {w : World} {k o : Nat} {u : Value}, R.rd true w cs x fp → (∀ b ∈ fp, b ≠ k) → R.rd true (w.setCell ⟨k, o, none⟩ u) cs x fp := fun hr hk => Rep.frame _ hr fun b hb => Below.heap_setCell _ _ _ _ (hk b hb)
  have f1 : ∀ b ∈ f, b ≠ k8 := fun b hb e => by have := h6 b hb; omega
  have f2 : ∀ b ∈ f, b ≠ k9 := fun b hb e => by have := h6 b hb; omega
  have g1 : ∀ b ∈ g, b ≠ k8 := fun b hb e => by have := h7 b hb; omega
  have g2 : ∀ b ∈ g, b ≠ k9 := fun b hb e => by have := h7 b hb; omega
  have p6 : ∀ b ∈ f, B ≤ b := fun b hb => (h6 b hb).1
  have p7 : ∀ b ∈ g, B ≤ b := fun b hb => (h7 b hb).1
  refine ⟨⟨off5 (set5 h8) h89, set5 (off5 h9 (Ne.symm h89)), f, g, hfr (hfr (hfr (hfr (hfr (hfr (hfr (hfr (hfr (hfr r1 f1) f1) f1) f1) f1) f2) f2) f2) f2) f2, hfr (hfr (hfr (hfr (hfr (hfr (hfr (hfr (hfr (hfr r2 g1) g1) g1) g1) g1) g2) g2) g2) g2) g2, h3, h4, h5, p6, p7⟩, ?_⟩
  exact ⟨set5 (off5 h8 h89), off5 (set5 h9) (Ne.symm h89), f, g, hfr (hfr (hfr (hfr (hfr (hfr (hfr (hfr (hfr (hfr r1 f2) f2) f2) f2) f2) f1) f1) f1) f1) f1, hfr (hfr (hfr (hfr (hfr (hfr (hfr (hfr (hfr (hfr r2 g2) g2) g2) g2) g2) g1) g1) g1) g1) g1, h3, h4, h5, p6, p7⟩

end Go.Proofs.YtlfebehpmefioaaGreat
