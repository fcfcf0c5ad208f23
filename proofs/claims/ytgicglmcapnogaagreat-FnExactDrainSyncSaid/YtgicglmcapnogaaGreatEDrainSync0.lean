/-
  FnExactDrainSync: what the parts of the law's walk share.
-/
import Derived.Test.YtgicglmcapnogaaGreatLFamB
import Derived.Test.YtgicglmcapnogaaGreatBase
import Derived.Test.YtgicglmcapnogaaGreatCellInt
import Derived.Test.YtgicglmcapnogaaGreatTwoBox
namespace Go.Proofs.YtgicglmcapnogaaGreat
open Go.RowKit Go.ChangeShapes

theorem sets5_DrainSync {w : World} {k : Nat} {a0 a1 a2 a3 a4 b0 b1 b2 b3 b4 : Value} (h : WB w k #[a0, a1, a2, a3, a4]) : WB (((((w.setCell ⟨k, 0, none⟩ b0).setCell ⟨k, 1, none⟩ b1).setCell ⟨k, 2, none⟩ b2).setCell ⟨k, 3, none⟩ b3).setCell ⟨k, 4, none⟩ b4) k #[b0, b1, b2, b3, b4] :=
  (((((h.setAt (i := 0) (cs' := #[b0, a1, a2, a3, a4]) (by simp) rfl).setAt (i := 1) (cs' := #[b0, b1, a2, a3, a4]) (by simp) rfl).setAt (i := 2) (cs' := #[b0, b1, b2, a3, a4]) (by simp) rfl).setAt (i := 3) (cs' := #[b0, b1, b2, b3, a4]) (by simp) rfl).setAt (i := 4) (cs' := #[b0, b1, b2, b3, b4]) (by simp) rfl)
theorem offs5_DrainSync {w : World} {k g : Nat} {cs : Array Value} {b0 b1 b2 b3 b4 : Value} (h : WB w k cs) (hk : k ≠ g) : WB (((((w.setCell ⟨g, 0, none⟩ b0).setCell ⟨g, 1, none⟩ b1).setCell ⟨g, 2, none⟩ b2).setCell ⟨g, 3, none⟩ b3).setCell ⟨g, 4, none⟩ b4) k cs :=
  (((((h.setOther hk).setOther hk).setOther hk).setOther hk).setOther hk)
/-- What impl.DrainSync and spec.DrainSync are both shown to compute. -/
def SaidDrainSync (f0 : DSync → DServer → Int → DSync) (f1 : DSync → DServer → Int → DServer) (f : FuncId) : Prop :=
  ∀ (c0 : List Value) (a0 : DSync) (c1 : List Value) (a1 : DServer) (a2 : Int) (w : World) (_h0 : Reads DSync.rep w c0 a0) (_h1 : Reads DServer.rep w c1 a1)(_s0 : (a0).wt ≤ 1048576) (_s1 : (a1).wt ≤ 1048576) (_s2 : -9223372036854775808 ≤ a0.tries), Calls Tryz.prog f #[.agg c0.toArray, .agg c1.toArray, .int .i64 a2] w fun e w' => ∃ (d0 : List Value) (d1 : List Value), e = .returned (.tuple #[.agg d0.toArray, .agg d1.toArray]) ∧ Fresh2 DSync.rep DServer.rep w.heap.size w' d0 d1 (f0 a0 a1 a2) (f1 a0 a1 a2) ∧ Below w.heap.size w w'
/-- What is left of a walk. -/
structure Rest (P : Prop) : Prop where
  out : P

end Go.Proofs.YtgicglmcapnogaaGreat
