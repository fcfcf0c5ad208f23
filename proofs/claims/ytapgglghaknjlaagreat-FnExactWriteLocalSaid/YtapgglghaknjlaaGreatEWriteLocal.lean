/-
  FnExactWriteLocal: the law's walk, and its row, off the contracts of impl.WriteLocal and spec.WriteLocal.
-/
import Derived.Test.YtapgglghaknjlaaGreatLFamA
import Derived.Test.YtapgglghaknjlaaGreatLFamB
import Derived.Test.YtapgglghaknjlaaGreatBase
namespace Go.Proofs.YtapgglghaknjlaaGreat
open Go.RowKit Go.ChangeShapes

theorem sets9_WriteLocal {w : World} {k : Nat} {a0 a1 a2 a3 a4 a5 a6 a7 a8 b0 b1 b2 b3 b4 b5 b6 b7 b8 : Value} (h : WB w k #[a0, a1, a2, a3, a4, a5, a6, a7, a8]) : WB (((((((((w.setCell ⟨k, 0, none⟩ b0).setCell ⟨k, 1, none⟩ b1).setCell ⟨k, 2, none⟩ b2).setCell ⟨k, 3, none⟩ b3).setCell ⟨k, 4, none⟩ b4).setCell ⟨k, 5, none⟩ b5).setCell ⟨k, 6, none⟩ b6).setCell ⟨k, 7, none⟩ b7).setCell ⟨k, 8, none⟩ b8) k #[b0, b1, b2, b3, b4, b5, b6, b7, b8] :=
  (((((((((h.setAt (i := 0) (cs' := #[b0, a1, a2, a3, a4, a5, a6, a7, a8]) (by simp) rfl).setAt (i := 1) (cs' := #[b0, b1, a2, a3, a4, a5, a6, a7, a8]) (by simp) rfl).setAt (i := 2) (cs' := #[b0, b1, b2, a3, a4, a5, a6, a7, a8]) (by simp) rfl).setAt (i := 3) (cs' := #[b0, b1, b2, b3, a4, a5, a6, a7, a8]) (by simp) rfl).setAt (i := 4) (cs' := #[b0, b1, b2, b3, b4, a5, a6, a7, a8]) (by simp) rfl).setAt (i := 5) (cs' := #[b0, b1, b2, b3, b4, b5, a6, a7, a8]) (by simp) rfl).setAt (i := 6) (cs' := #[b0, b1, b2, b3, b4, b5, b6, a7, a8]) (by simp) rfl).setAt (i := 7) (cs' := #[b0, b1, b2, b3, b4, b5, b6, b7, a8]) (by simp) rfl).setAt (i := 8) (cs' := #[b0, b1, b2, b3, b4, b5, b6, b7, b8]) (by simp) rfl)
/-- What impl.WriteLocal and spec.WriteLocal are both shown to compute. -/
def SaidWriteLocal (f0 : DReplica → DKey → ByteArray → Int → DReplica) (f1 : DReplica → DKey → ByteArray → Int → Bool) (f : FuncId) : Prop :=
  ∀ (c0 : List Value) (a0 : DReplica) (c1 : List Value) (a1 : DKey) (a2 : ByteArray) (a3 : Int) (w : World) (_h0 : Reads DReplica.rep w c0 a0) (_h1 : Reads DKey.rep w c1 a1)(_s0 : (a0).wt ≤ 1048576) (_s1 : (a1).wt ≤ 1048576) (_s2 : a2.size ≤ 1048576), Calls Tryz.prog f #[.agg c0.toArray, .agg c1.toArray, .string a2, .int .i64 a3] w fun e w' => ∃ (d0 : List Value), e = .returned (.tuple #[.agg d0.toArray, .bool (f1 a0 a1 a2 a3)]) ∧ Fresh DReplica.rep w.heap.size w' d0 (f0 a0 a1 a2 a3) ∧ Below w.heap.size w w'

set_option maxRecDepth 100000 in
set_option maxHeartbeats 16000000 in
theorem lawWriteLocal (f0 : DReplica → DKey → ByteArray → Int → DReplica) (f1 : DReplica → DKey → ByteArray → Int → Bool) (hS : SaidWriteLocal f0 f1 20) (hI : SaidWriteLocal f0 f1 23) (hm_g0 : ∀ (a0 : DReplica) (a1 : DKey) (a2 : ByteArray) (a3 : Int), (a0).wt ≤ 1048576 → (a1).wt ≤ 1048576 → a2.size ≤ 1048576 → ((f0 a0 a1 a2 a3)).mcnt ≤ 400000000) (hm_x0 : ∀ (a0 : DReplica), (a0).wt ≤ 1048576 → (a0).mcnt ≤ 400000000) (c0 : List Value) (a0 : DReplica) (c1 : List Value) (a1 : DKey) (a2 : ByteArray) (a3 : Int) (w : World) (h0 : Reads DReplica.rep w c0 a0) (h1 : Reads DKey.rep w c1 a1) (hz2 : a2.size ≤ maxLen) :
    Calls Tryz.prog 4 #[.agg c0.toArray, .agg c1.toArray, .string a2, .int .i64 a3] w fun e w' => e = .returned (.bool true) ∧ Below w.heap.size w w' := by
  have HA0 := Lib.hid (Low.start h0)
  obtain ⟨fp, hr⟩ := h0
  obtain ⟨ao0_0, cap0_0, ao0_1, cap0_1, rfl⟩ := DReplica.shape hr
  clear hr
  have HA1 := Lib.hid (Low.start h1)
  obtain ⟨fp, hr⟩ := h1
  obtain ⟨rfl, _, _⟩ := DKey.rd.1 hr
  clear hr
  unfold maxLen at hz2
  have HB : Hid (Below w.heap.size w w) := Lib.hid belR
  by_cases hg_aField : ¬ a2.size ≤ 1048576
  · go_enter Tryz.func4, Tryz.ntmps4
    go_wp2
    all_goals first | (go_ret; exact ⟨rfl, (by repeat (first | with_reducible exact belR | with_reducible apply belA | (with_reducible refine belS ?_ ?_; focus (first | omega | (simp; done) | (simp; omega))) | with_reducible apply belN | with_reducible apply belD | with_reducible assumption))⟩) | (exfalso; omega)
  rw [Decidable.not_not] at hg_aField
  go_enter Tryz.func4, Tryz.ntmps4
  go_wp2_with fail
  refine (szReplica _ a0 (1048576) _ (HA0.out.reads.below (by repeat (first | with_reducible exact belR | with_reducible apply belA | (with_reducible refine belS ?_ ?_; focus (first | omega | (simp; done) | (simp; omega))) | with_reducible apply belN | with_reducible apply belD | with_reducible assumption))) (by omega) (by omega)).mono ?_
  rintro e w1 ⟨rfl, hb⟩
  have hw : Below w.heap.size w w1 := below_call (by repeat (first | with_reducible exact belR | with_reducible apply belA | (with_reducible refine belS ?_ ?_; focus (first | omega | (simp; done) | (simp; omega))) | with_reducible apply belN | with_reducible apply belD | with_reducible assumption)) (by first | omega | (simp; done) | (simp; omega)) hb
  have hsw1 : w.heap.size + 1 + 1 ≤ w1.heap.size := by have y := hb.size; (try simp at y); omega
  have HX_aR : Hid (Box w1 (w.heap.size) #[.string a0.base.name, .slice ao0_0 a0.base.items.length cap0_0, .int .i64 a0.base.auto, .int .i64 a0.seen, .int .i64 a0.sync.outbox.device, .int .i64 a0.sync.outbox.next, .slice ao0_1 a0.sync.outbox.writes.length cap0_1, .int .i64 a0.sync.tries, .int .i64 a0.sync.waitUntil]) := Lib.hid (Box.below (Box.growA (Box.at (by first | rfl | simp))) hb)
  have HX_aK : Hid (Box w1 (w.heap.size + 1) #[.int .i64 a1.kind, .int .i64 a1.n, .string a1.text]) := Lib.hid (Box.below (Box.at (by first | rfl | simp)) hb)
  have ⟨cx_aR, zx_aR⟩ := HX_aR.out
  have ⟨cx_aK, zx_aK⟩ := HX_aK.out
  replace HA0 := Lib.hid (HA0.out.below hw)
  replace HA1 := Lib.hid (HA1.out.below hw)
  replace HB := Lib.hid (below_call HB.out HB.out.size hw)
  clear hw
  clear hb
  have hz := szOf_spec ((a0).wt) (1048576)
  by_cases hv_aR : ¬ (((a0).wt : Nat) : Int) ≤ 1048576
  · rw [hz.2 hv_aR]; clear hz
    go_wp2
    all_goals go_ret
    have y := HB.out
    exact ⟨rfl, (by repeat (first | with_reducible exact belR | with_reducible apply belA | (with_reducible refine belS ?_ ?_; focus (first | omega | (simp; done) | (simp; omega))) | with_reducible apply belN | with_reducible apply belD | with_reducible assumption))⟩
  rw [Decidable.not_not] at hv_aR
  rw [hz.1 hv_aR]; clear hz
  go_wp2_with fail
  refine (szKey _ a1 (1048576 - (((a0).wt : Nat) : Int)) _ (HA1.out.reads.below (by repeat (first | with_reducible exact belR | with_reducible apply belA | (with_reducible refine belS ?_ ?_; focus (first | omega | (simp; done) | (simp; omega))) | with_reducible apply belN | with_reducible apply belD | with_reducible assumption))) (by omega) (by omega)).mono ?_
  rintro e w2 ⟨rfl, hb⟩
  have hw : Below w1.heap.size w1 w2 := below_call (by repeat (first | with_reducible exact belR | with_reducible apply belA | (with_reducible refine belS ?_ ?_; focus (first | omega | (simp; done) | (simp; omega))) | with_reducible apply belN | with_reducible apply belD | with_reducible assumption)) (by first | omega | (simp; done) | (simp; omega)) hb
  have hsw2 : w1.heap.size ≤ w2.heap.size := by have y := hb.size; (try simp at y); omega
  clear cx_aR zx_aR
  replace HX_aR := Lib.hid (HX_aR.out.below hw)
  clear cx_aK zx_aK
  replace HX_aK := Lib.hid (HX_aK.out.below hw)
  have ⟨cx_aR, zx_aR⟩ := HX_aR.out
  have ⟨cx_aK, zx_aK⟩ := HX_aK.out
  replace HA0 := Lib.hid (HA0.out.below hw)
  replace HA1 := Lib.hid (HA1.out.below hw)
  replace HB := Lib.hid (below_call HB.out HB.out.size hw)
  clear hw
  clear hb
  have hz := szOf_spec ((a1).wt) (1048576 - (((a0).wt : Nat) : Int))
  by_cases hv_aK : ¬ (((a1).wt : Nat) : Int) ≤ 1048576 - (((a0).wt : Nat) : Int)
  · rw [hz.2 hv_aK]; clear hz
    go_wp2
    all_goals go_ret
    have y := HB.out
    exact ⟨rfl, (by repeat (first | with_reducible exact belR | with_reducible apply belA | (with_reducible refine belS ?_ ?_; focus (first | omega | (simp; done) | (simp; omega))) | with_reducible apply belN | with_reducible apply belD | with_reducible assumption))⟩
  rw [Decidable.not_not] at hv_aK
  rw [hz.1 hv_aK]; clear hz
  go_upto_region 10 with fail
  refine settle (fun W' => Below w2.heap.size w2 W' ∧ w2.heap.size ≤ W'.heap.size) ⟨(by repeat (first | with_reducible exact belR | with_reducible apply belA | (with_reducible refine belS ?_ ?_; focus (first | omega | (simp; done) | (simp; omega))) | with_reducible apply belN | with_reducible apply belD | with_reducible assumption)), (by first | omega | (simp; done) | (simp; omega))⟩ ?_
  rintro w3 ⟨hw, hsw3⟩
  clear cx_aR zx_aR
  replace HX_aR := Lib.hid (HX_aR.out.below hw)
  clear cx_aK zx_aK
  replace HX_aK := Lib.hid (HX_aK.out.below hw)
  have ⟨cx_aR, zx_aR⟩ := HX_aR.out
  have ⟨cx_aK, zx_aK⟩ := HX_aK.out
  replace HA0 := Lib.hid (HA0.out.below hw)
  replace HA1 := Lib.hid (HA1.out.below hw)
  replace HB := Lib.hid (below_call HB.out HB.out.size hw)
  clear hw
  go_cut [10, 11] (fun p_w0 p_w1 wx => ∃ (lo hi : Nat) (kb_w0 : Nat) (ao_w0_0 : Option Addr) (cap_w0_0 : Nat) (ao_w0_1 : Option Addr) (cap_w0_1 : Nat) (fp_w0 : List Nat), p_w0 = .pointer (some ⟨kb_w0, 0, none⟩) ∧ p_w1 = .bool (f1 a0 a1 a2 a3) ∧ Box wx kb_w0 #[.string ((f0 a0 a1 a2 a3)).base.name, .slice ao_w0_0 ((f0 a0 a1 a2 a3)).base.items.length cap_w0_0, .int .i64 ((f0 a0 a1 a2 a3)).base.auto, .int .i64 ((f0 a0 a1 a2 a3)).seen, .int .i64 ((f0 a0 a1 a2 a3)).sync.outbox.device, .int .i64 ((f0 a0 a1 a2 a3)).sync.outbox.next, .slice ao_w0_1 ((f0 a0 a1 a2 a3)).sync.outbox.writes.length cap_w0_1, .int .i64 ((f0 a0 a1 a2 a3)).sync.tries, .int .i64 ((f0 a0 a1 a2 a3)).sync.waitUntil] ∧ w3.heap.size ≤ kb_w0 ∧ (kb_w0 < lo ∨ hi ≤ kb_w0) ∧ w3.heap.size ≤ lo ∧ hi ≤ wx.heap.size ∧ Own DReplica.rep lo hi wx [.string ((f0 a0 a1 a2 a3)).base.name, .slice ao_w0_0 ((f0 a0 a1 a2 a3)).base.items.length cap_w0_0, .int .i64 ((f0 a0 a1 a2 a3)).base.auto, .int .i64 ((f0 a0 a1 a2 a3)).seen, .int .i64 ((f0 a0 a1 a2 a3)).sync.outbox.device, .int .i64 ((f0 a0 a1 a2 a3)).sync.outbox.next, .slice ao_w0_1 ((f0 a0 a1 a2 a3)).sync.outbox.writes.length cap_w0_1, .int .i64 ((f0 a0 a1 a2 a3)).sync.tries, .int .i64 ((f0 a0 a1 a2 a3)).sync.waitUntil] (f0 a0 a1 a2 a3) fp_w0 ∧ Below w3.heap.size w3 wx)
  case first =>
    have HSr : Hid (∀ w', Below w3.heap.size w3 w' → (∀ o, w'.cell? ⟨w.heap.size, o, none⟩ = #[.string a0.base.name, .slice ao0_0 a0.base.items.length cap0_0, .int .i64 a0.base.auto, .int .i64 a0.seen, .int .i64 a0.sync.outbox.device, .int .i64 a0.sync.outbox.next, .slice ao0_1 a0.sync.outbox.writes.length cap0_1, .int .i64 a0.sync.tries, .int .i64 a0.sync.waitUntil][o]?) ∧ (∀ o, w'.cell? ⟨w.heap.size + 1, o, none⟩ = #[.int .i64 a1.kind, .int .i64 a1.n, .string a1.text][o]?) ∧ Below w3.heap.size w3 w') := Lib.hid fun w' hw' => ⟨fun o => (hw'.cell (p := ⟨w.heap.size, o, none⟩) zx_aR).trans (cx_aR o), fun o => (hw'.cell (p := ⟨w.heap.size + 1, o, none⟩) zx_aK).trans (cx_aK o), hw'⟩
    go_region_held3 (fun w' => (∀ o, w'.cell? ⟨w.heap.size, o, none⟩ = #[.string a0.base.name, .slice ao0_0 a0.base.items.length cap0_0, .int .i64 a0.base.auto, .int .i64 a0.seen, .int .i64 a0.sync.outbox.device, .int .i64 a0.sync.outbox.next, .slice ao0_1 a0.sync.outbox.writes.length cap0_1, .int .i64 a0.sync.tries, .int .i64 a0.sync.waitUntil][o]?) ∧ (∀ o, w'.cell? ⟨w.heap.size + 1, o, none⟩ = #[.int .i64 a1.kind, .int .i64 a1.n, .string a1.text][o]?) ∧ Below w3.heap.size w3 w')
      (first | exact HSr.out _ (by repeat (first | with_reducible exact belR | (with_reducible refine belAB ?_ ?_; focus (first | omega | (simp; done) | (simp; omega))) | (with_reducible refine belS ?_ ?_; focus (first | omega | (simp; done) | (simp; omega))) | with_reducible apply belN | with_reducible apply belD | with_reducible assumption)))
      (first | (go_at_call 20; have hx := hq_w0_aK; clear hx; have hS_F6 := ‹_ ∧ _ ∧ Below w3.heap.size w3 _›; refine (hS _ a0 _ a1 a2 a3 _ (hr_w0_aR.below (by repeat (first | with_reducible exact belR | with_reducible apply belA | (with_reducible refine belS ?_ ?_; focus (first | omega | (simp; done) | (simp; omega))) | with_reducible apply belN | with_reducible apply belD | with_reducible assumption))) (hr_w0_aK.below (by repeat (first | with_reducible exact belR | with_reducible apply belA | (with_reducible refine belS ?_ ?_; focus (first | omega | (simp; done) | (simp; omega))) | with_reducible apply belN | with_reducible apply belD | with_reducible assumption))) (by first | omega | exact hv_aR) (by first | omega | exact hv_aK) (by first | omega | exact hg_aField)).mono ?_; rintro e w6 ⟨d_w_0, rfl, hf0, hb_F6⟩; have hq_F6 : Below w3.heap.size w3 w6 := below_call hS_F6.2.2 hS_F6.2.2.size hb_F6; clear hS_F6; have hz_F6 := hq_F6.size; (first | (have hwb_F6 : WB w6 _ #[.string ⟨#[]⟩, .slice none 0 0, .int .i64 0, .int .i64 0, .int .i64 0, .int .i64 0, .slice none 0 0, .int .i64 0, .int .i64 0] := (WB.at rfl).keep hb_F6; have ⟨we_F6, wl_F6, wf_F6⟩ := hwb_F6) | (have hwb_F6 := hwb_w0_aK.keep hb_F6; have ⟨we_F6, wl_F6, wf_F6⟩ := hwb_F6) | skip); obtain ⟨ao_w0_0, cap_w0_0, ao_w0_1, cap_w0_1, rfl⟩ := DReplica.fshape hf0) | (go_at_call 22; have hx := hq_w0_aR; clear hx; have hS_w0_aK := ‹_ ∧ _ ∧ Below w3.heap.size w3 _›; refine (toKey _ a1 _ (HA1.out.reads.below hS_w0_aK.2.2) (by first | omega | (simp [DKey.wt]))).mono ?_; rintro e w5 ⟨d_w0_aK, rfl, hf_w0_aK, hb_w0_aK⟩; have hq_w0_aK : Below w3.heap.size w3 w5 := below_call hS_w0_aK.2.2 hS_w0_aK.2.2.size hb_w0_aK; clear hS_w0_aK; have hz_w0_aK := hq_w0_aK.size; (first | (have hwb_w0_aK : WB w5 _ #[.string ⟨#[]⟩, .slice none 0 0, .int .i64 0, .int .i64 0, .int .i64 0, .int .i64 0, .slice none 0 0, .int .i64 0, .int .i64 0] := (WB.at rfl).keep hb_w0_aK; have ⟨we_w0_aK, wl_w0_aK, wf_w0_aK⟩ := hwb_w0_aK) | (have hwb_w0_aK := hwb_w0_aR.keep hb_w0_aK; have ⟨we_w0_aK, wl_w0_aK, wf_w0_aK⟩ := hwb_w0_aK) | skip); obtain ⟨_, y_w0_aK, _⟩ := id hf_w0_aK; obtain ⟨rfl, _, _⟩ := DKey.rd.1 y_w0_aK; clear y_w0_aK; have hr_w0_aK := hf_w0_aK.reads; replace hr_w0_aR := hr_w0_aR.below (by first | exact hb_w0_aK | exact (belD belR).trans hb_w0_aK | exact below_call (by repeat (first | with_reducible exact belR | with_reducible apply belA | (with_reducible refine belS ?_ ?_; focus (first | omega | (simp; done) | (simp; omega))) | with_reducible apply belN | with_reducible apply belD | with_reducible assumption)) (by first | omega | (simp; done) | (simp; omega)) hb_w0_aK)) | (go_at_call 21; have hS_w0_aR := ‹_ ∧ _ ∧ Below w3.heap.size w3 _›; refine (toReplica _ a0 _ (HA0.out.reads.below hS_w0_aR.2.2) (by first | omega | (simp [DReplica.wt]))).mono ?_; rintro e w4 ⟨d_w0_aR, rfl, hf_w0_aR, hb_w0_aR⟩; have hq_w0_aR : Below w3.heap.size w3 w4 := below_call hS_w0_aR.2.2 hS_w0_aR.2.2.size hb_w0_aR; clear hS_w0_aR; have hz_w0_aR := hq_w0_aR.size; (first | (have hwb_w0_aR : WB w4 _ #[.string ⟨#[]⟩, .slice none 0 0, .int .i64 0, .int .i64 0, .int .i64 0, .int .i64 0, .slice none 0 0, .int .i64 0, .int .i64 0] := (WB.at rfl).growD.keep hb_w0_aR; have ⟨we_w0_aR, wl_w0_aR, wf_w0_aR⟩ := hwb_w0_aR) | skip); obtain ⟨ao_w0_aR_0, cap_w0_aR_0, ao_w0_aR_1, cap_w0_aR_1, rfl⟩ := DReplica.fshape hf_w0_aR; have hr_w0_aR := hf_w0_aR.reads))
    all_goals
      go_wp2_with fail
      go_meet
      obtain ⟨lo0, fp_w0, hlo0, o_w0⟩ := Fresh.ownAtL hf0
      (try simp at hlo0)
      first
        | exact ⟨lo0, w6.heap.size, _, ao_w0_0, cap_w0_0, ao_w0_1, cap_w0_1, fp_w0, rfl, rfl, (sets9_WriteLocal hwb_F6).box, (by omega), .inl (by omega), (by omega), (Nat.le_of_eq (by simp only [World.size_setCell])), (by repeat (first | with_reducible exact o_w0 | with_reducible refine Own.setOut ?_ (.inl (by omega)))), (by have y := hq_F6; exact (by repeat (first | with_reducible exact belR | with_reducible apply belA | (with_reducible refine belS ?_ ?_; focus (first | omega | (simp; done) | (simp; omega))) | with_reducible apply belN | with_reducible apply belD | with_reducible assumption)))⟩
        | exact ⟨lo0, w6.heap.size, w6.heap.size, ao_w0_0, cap_w0_0, ao_w0_1, cap_w0_1, fp_w0, rfl, rfl, Box.at rfl, (by omega), .inr (by omega), (by omega), (by rw [World.size_alloc]; omega), o_w0.allocA, (by have y := hq_F6; exact (by repeat (first | with_reducible exact belR | with_reducible apply belA | (with_reducible refine belS ?_ ?_; focus (first | omega | (simp; done) | (simp; omega))) | with_reducible apply belN | with_reducible apply belD | with_reducible assumption)))⟩
  obtain ⟨lo_w0, hi_w0, kb_w0, ao_w0_0, cap_w0_0, ao_w0_1, cap_w0_1, fp_w0, rfl, rfl, hbx_w0, hk1_w0, hk2_w0, hl1_w0, hl2_w0, ho_w0, hw⟩ := hcut
  rename World => w6
  have hsw6 : w3.heap.size ≤ w6.heap.size := hw.size
  clear cx_aR zx_aR
  replace HX_aR := Lib.hid (HX_aR.out.below hw)
  clear cx_aK zx_aK
  replace HX_aK := Lib.hid (HX_aK.out.below hw)
  have HX_w0 := Lib.hid hbx_w0; clear hbx_w0
  have hkz_w0 := HX_w0.out.2
  have H_w0 := Lib.hid ho_w0; clear ho_w0
  have ⟨cx_aR, zx_aR⟩ := HX_aR.out
  have ⟨cx_aK, zx_aK⟩ := HX_aK.out
  have ⟨cx_w0, zx_w0⟩ := HX_w0.out
  replace HA0 := Lib.hid (HA0.out.below hw)
  replace HA1 := Lib.hid (HA1.out.below hw)
  replace HB := Lib.hid (below_call HB.out HB.out.size hw)
  clear hw
  go_wp2_with fail
  refine (toReplica _ a0 _ (HA0.out.reads.below (by repeat (first | with_reducible exact belR | with_reducible apply belA | (with_reducible refine belS ?_ ?_; focus (first | omega | (simp; done) | (simp; omega))) | with_reducible apply belN | with_reducible apply belD | with_reducible assumption))) (by first | omega | (simp [DReplica.wt]))).mono ?_
  rintro e w7 ⟨d_x0, rfl, hf, hb⟩
  obtain ⟨ao_x0_0, cap_x0_0, ao_x0_1, cap_x0_1, rfl⟩ := DReplica.fshape hf
  obtain ⟨fp_x0, o_x0⟩ := Fresh.own hf (lo := w6.heap.size) (by first | omega | (simp; done) | (simp; omega))
  have H_x0 := Lib.hid o_x0; clear o_x0
  have hw : Below w6.heap.size w6 w7 := below_call (by repeat (first | with_reducible exact belR | with_reducible apply belA | (with_reducible refine belS ?_ ?_; focus (first | omega | (simp; done) | (simp; omega))) | with_reducible apply belN | with_reducible apply belD | with_reducible assumption)) (by first | omega | (simp; done) | (simp; omega)) hb
  have hsw7 : w6.heap.size ≤ w7.heap.size := by have y := hb.size; (try simp at y); omega
  clear cx_aR zx_aR
  replace HX_aR := Lib.hid (HX_aR.out.below hw)
  clear cx_aK zx_aK
  replace HX_aK := Lib.hid (HX_aK.out.below hw)
  clear cx_w0 zx_w0
  replace HX_w0 := Lib.hid (HX_w0.out.below hw)
  have ⟨cx_aR, zx_aR⟩ := HX_aR.out
  have ⟨cx_aK, zx_aK⟩ := HX_aK.out
  have ⟨cx_w0, zx_w0⟩ := HX_w0.out
  replace HA0 := Lib.hid (HA0.out.below hw)
  replace HA1 := Lib.hid (HA1.out.below hw)
  replace H_w0 := Lib.hid (H_w0.out.below hw)
  replace HB := Lib.hid (below_call HB.out HB.out.size hw)
  clear hw
  clear hb hf
  go_upto_region 12 with fail
  refine settle (fun W' => Below w7.heap.size w7 W' ∧ Box W' (w7.heap.size) #[.string (a0).base.name, .slice ao_x0_0 (a0).base.items.length cap_x0_0, .int .i64 (a0).base.auto, .int .i64 (a0).seen, .int .i64 (a0).sync.outbox.device, .int .i64 (a0).sync.outbox.next, .slice ao_x0_1 (a0).sync.outbox.writes.length cap_x0_1, .int .i64 (a0).sync.tries, .int .i64 (a0).sync.waitUntil] ∧ w7.heap.size + 1 ≤ W'.heap.size) ⟨(by repeat (first | with_reducible exact belR | with_reducible apply belA | (with_reducible refine belS ?_ ?_; focus (first | omega | (simp; done) | (simp; omega))) | with_reducible apply belN | with_reducible apply belD | with_reducible assumption)), (Box.at (by first | rfl | simp)), (by first | omega | (simp; done) | (simp; omega))⟩ ?_
  rintro w8 ⟨hw, hx0, hsw8⟩
  clear cx_aR zx_aR
  replace HX_aR := Lib.hid (HX_aR.out.below hw)
  clear cx_aK zx_aK
  replace HX_aK := Lib.hid (HX_aK.out.below hw)
  clear cx_w0 zx_w0
  replace HX_w0 := Lib.hid (HX_w0.out.below hw)
  have HX_x0 := Lib.hid hx0
  clear hx0
  have ⟨cx_aR, zx_aR⟩ := HX_aR.out
  have ⟨cx_aK, zx_aK⟩ := HX_aK.out
  have ⟨cx_w0, zx_w0⟩ := HX_w0.out
  have ⟨cx_x0, zx_x0⟩ := HX_x0.out
  replace HA0 := Lib.hid (HA0.out.below hw)
  replace HA1 := Lib.hid (HA1.out.below hw)
  replace H_w0 := Lib.hid (H_w0.out.below hw)
  replace H_x0 := Lib.hid (H_x0.out.below hw)
  replace HB := Lib.hid (below_call HB.out HB.out.size hw)
  clear hw
  go_cut [13, 14] (fun p_g0 p_g1 wx => ∃ (lo hi : Nat) (kb_g0 : Nat) (ao_g0_0 : Option Addr) (cap_g0_0 : Nat) (ao_g0_1 : Option Addr) (cap_g0_1 : Nat) (fp_g0 : List Nat), p_g0 = .pointer (some ⟨kb_g0, 0, none⟩) ∧ p_g1 = .bool (f1 a0 a1 a2 a3) ∧ Box wx kb_g0 #[.string ((f0 a0 a1 a2 a3)).base.name, .slice ao_g0_0 ((f0 a0 a1 a2 a3)).base.items.length cap_g0_0, .int .i64 ((f0 a0 a1 a2 a3)).base.auto, .int .i64 ((f0 a0 a1 a2 a3)).seen, .int .i64 ((f0 a0 a1 a2 a3)).sync.outbox.device, .int .i64 ((f0 a0 a1 a2 a3)).sync.outbox.next, .slice ao_g0_1 ((f0 a0 a1 a2 a3)).sync.outbox.writes.length cap_g0_1, .int .i64 ((f0 a0 a1 a2 a3)).sync.tries, .int .i64 ((f0 a0 a1 a2 a3)).sync.waitUntil] ∧ w8.heap.size ≤ kb_g0 ∧ (kb_g0 < lo ∨ hi ≤ kb_g0) ∧ w8.heap.size ≤ lo ∧ hi ≤ wx.heap.size ∧ Own DReplica.rep lo hi wx [.string ((f0 a0 a1 a2 a3)).base.name, .slice ao_g0_0 ((f0 a0 a1 a2 a3)).base.items.length cap_g0_0, .int .i64 ((f0 a0 a1 a2 a3)).base.auto, .int .i64 ((f0 a0 a1 a2 a3)).seen, .int .i64 ((f0 a0 a1 a2 a3)).sync.outbox.device, .int .i64 ((f0 a0 a1 a2 a3)).sync.outbox.next, .slice ao_g0_1 ((f0 a0 a1 a2 a3)).sync.outbox.writes.length cap_g0_1, .int .i64 ((f0 a0 a1 a2 a3)).sync.tries, .int .i64 ((f0 a0 a1 a2 a3)).sync.waitUntil] (f0 a0 a1 a2 a3) fp_g0 ∧ Below w8.heap.size w8 wx)
  case first =>
    have HSr : Hid (∀ w', Below w8.heap.size w8 w' → (∀ o, w'.cell? ⟨w7.heap.size, o, none⟩ = #[.string (a0).base.name, .slice ao_x0_0 (a0).base.items.length cap_x0_0, .int .i64 (a0).base.auto, .int .i64 (a0).seen, .int .i64 (a0).sync.outbox.device, .int .i64 (a0).sync.outbox.next, .slice ao_x0_1 (a0).sync.outbox.writes.length cap_x0_1, .int .i64 (a0).sync.tries, .int .i64 (a0).sync.waitUntil][o]?) ∧ (∀ o, w'.cell? ⟨w.heap.size + 1, o, none⟩ = #[.int .i64 a1.kind, .int .i64 a1.n, .string a1.text][o]?) ∧ Below w8.heap.size w8 w') := Lib.hid fun w' hw' => ⟨fun o => (hw'.cell (p := ⟨w7.heap.size, o, none⟩) zx_x0).trans (cx_x0 o), fun o => (hw'.cell (p := ⟨w.heap.size + 1, o, none⟩) zx_aK).trans (cx_aK o), hw'⟩
    go_region_held3 (fun w' => (∀ o, w'.cell? ⟨w7.heap.size, o, none⟩ = #[.string (a0).base.name, .slice ao_x0_0 (a0).base.items.length cap_x0_0, .int .i64 (a0).base.auto, .int .i64 (a0).seen, .int .i64 (a0).sync.outbox.device, .int .i64 (a0).sync.outbox.next, .slice ao_x0_1 (a0).sync.outbox.writes.length cap_x0_1, .int .i64 (a0).sync.tries, .int .i64 (a0).sync.waitUntil][o]?) ∧ (∀ o, w'.cell? ⟨w.heap.size + 1, o, none⟩ = #[.int .i64 a1.kind, .int .i64 a1.n, .string a1.text][o]?) ∧ Below w8.heap.size w8 w')
      (first | exact HSr.out _ (by repeat (first | with_reducible exact belR | (with_reducible refine belAB ?_ ?_; focus (first | omega | (simp; done) | (simp; omega))) | (with_reducible refine belS ?_ ?_; focus (first | omega | (simp; done) | (simp; omega))) | with_reducible apply belN | with_reducible apply belD | with_reducible assumption)))
      (first | (go_at_call 23; have hx := hq_g0_aK; clear hx; have hS_F10 := ‹_ ∧ _ ∧ Below w8.heap.size w8 _›; refine (hI _ a0 _ a1 a2 a3 _ (H_x0.out.reads.below hS_F10.2.2) (hr_g0_aK.below (by repeat (first | with_reducible exact belR | with_reducible apply belA | (with_reducible refine belS ?_ ?_; focus (first | omega | (simp; done) | (simp; omega))) | with_reducible apply belN | with_reducible apply belD | with_reducible assumption))) (by first | omega | exact hv_aR) (by first | omega | exact hv_aK) (by first | omega | exact hg_aField)).mono ?_; rintro e w10 ⟨d_g_0, rfl, hf0, hb_F10⟩; have hq_F10 : Below w8.heap.size w8 w10 := below_call hS_F10.2.2 hS_F10.2.2.size hb_F10; clear hS_F10; have hz_F10 := hq_F10.size; (first | (have hwb_F10 : WB w10 _ #[.string ⟨#[]⟩, .slice none 0 0, .int .i64 0, .int .i64 0, .int .i64 0, .int .i64 0, .slice none 0 0, .int .i64 0, .int .i64 0] := (WB.at rfl).keep hb_F10; have ⟨we_F10, wl_F10, wf_F10⟩ := hwb_F10) | (have hwb_F10 := hwb_g0_aK.keep hb_F10; have ⟨we_F10, wl_F10, wf_F10⟩ := hwb_F10) | skip); obtain ⟨ao_g0_0, cap_g0_0, ao_g0_1, cap_g0_1, rfl⟩ := DReplica.fshape hf0) | (go_at_call 22; have hS_g0_aK := ‹_ ∧ _ ∧ Below w8.heap.size w8 _›; refine (toKey _ a1 _ (HA1.out.reads.below hS_g0_aK.2.2) (by first | omega | (simp [DKey.wt]))).mono ?_; rintro e w9 ⟨d_g0_aK, rfl, hf_g0_aK, hb_g0_aK⟩; have hq_g0_aK : Below w8.heap.size w8 w9 := below_call hS_g0_aK.2.2 hS_g0_aK.2.2.size hb_g0_aK; clear hS_g0_aK; have hz_g0_aK := hq_g0_aK.size; (first | (have hwb_g0_aK : WB w9 _ #[.string ⟨#[]⟩, .slice none 0 0, .int .i64 0, .int .i64 0, .int .i64 0, .int .i64 0, .slice none 0 0, .int .i64 0, .int .i64 0] := (WB.at rfl).growD.keep hb_g0_aK; have ⟨we_g0_aK, wl_g0_aK, wf_g0_aK⟩ := hwb_g0_aK) | skip); obtain ⟨_, y_g0_aK, _⟩ := id hf_g0_aK; obtain ⟨rfl, _, _⟩ := DKey.rd.1 y_g0_aK; clear y_g0_aK; have hr_g0_aK := hf_g0_aK.reads))
    all_goals
      go_wp2_with fail
      go_meet
      obtain ⟨lo0, fp_g0, hlo0, o_g0⟩ := Fresh.ownAtL hf0
      (try simp at hlo0)
      first
        | exact ⟨lo0, w10.heap.size, _, ao_g0_0, cap_g0_0, ao_g0_1, cap_g0_1, fp_g0, rfl, rfl, (sets9_WriteLocal hwb_F10).box, (by omega), .inl (by omega), (by omega), (Nat.le_of_eq (by simp only [World.size_setCell])), (by repeat (first | with_reducible exact o_g0 | with_reducible refine Own.setOut ?_ (.inl (by omega)))), (by have y := hq_F10; exact (by repeat (first | with_reducible exact belR | with_reducible apply belA | (with_reducible refine belS ?_ ?_; focus (first | omega | (simp; done) | (simp; omega))) | with_reducible apply belN | with_reducible apply belD | with_reducible assumption)))⟩
        | exact ⟨lo0, w10.heap.size, w10.heap.size, ao_g0_0, cap_g0_0, ao_g0_1, cap_g0_1, fp_g0, rfl, rfl, Box.at rfl, (by omega), .inr (by omega), (by omega), (by rw [World.size_alloc]; omega), o_g0.allocA, (by have y := hq_F10; exact (by repeat (first | with_reducible exact belR | with_reducible apply belA | (with_reducible refine belS ?_ ?_; focus (first | omega | (simp; done) | (simp; omega))) | with_reducible apply belN | with_reducible apply belD | with_reducible assumption)))⟩
  obtain ⟨lo_g0, hi_g0, kb_g0, ao_g0_0, cap_g0_0, ao_g0_1, cap_g0_1, fp_g0, rfl, rfl, hbx_g0, hk1_g0, hk2_g0, hl1_g0, hl2_g0, ho_g0, hw⟩ := hcut
  rename World => w10
  have hsw10 : w8.heap.size ≤ w10.heap.size := hw.size
  clear cx_aR zx_aR
  replace HX_aR := Lib.hid (HX_aR.out.below hw)
  clear cx_aK zx_aK
  replace HX_aK := Lib.hid (HX_aK.out.below hw)
  clear cx_w0 zx_w0
  replace HX_w0 := Lib.hid (HX_w0.out.below hw)
  clear cx_x0 zx_x0
  replace HX_x0 := Lib.hid (HX_x0.out.below hw)
  have HX_g0 := Lib.hid hbx_g0; clear hbx_g0
  have hkz_g0 := HX_g0.out.2
  have H_g0 := Lib.hid ho_g0; clear ho_g0
  have ⟨cx_aR, zx_aR⟩ := HX_aR.out
  have ⟨cx_aK, zx_aK⟩ := HX_aK.out
  have ⟨cx_w0, zx_w0⟩ := HX_w0.out
  have ⟨cx_x0, zx_x0⟩ := HX_x0.out
  have ⟨cx_g0, zx_g0⟩ := HX_g0.out
  replace HA0 := Lib.hid (HA0.out.below hw)
  replace HA1 := Lib.hid (HA1.out.below hw)
  replace H_w0 := Lib.hid (H_w0.out.below hw)
  replace H_x0 := Lib.hid (H_x0.out.below hw)
  replace HB := Lib.hid (below_call HB.out HB.out.size hw)
  clear hw
  go_wp2_with fail
  refine (eqReplica _ _ (f0 a0 a1 a2 a3) _ (H_g0.out.reads.below (by repeat (first | with_reducible exact belR | with_reducible apply belA | (with_reducible refine belS ?_ ?_; focus (first | omega | (simp; done) | (simp; omega))) | with_reducible apply belN | with_reducible apply belD | with_reducible assumption))) (H_w0.out.reads.below (by repeat (first | with_reducible exact belR | with_reducible apply belA | (with_reducible refine belS ?_ ?_; focus (first | omega | (simp; done) | (simp; omega))) | with_reducible apply belN | with_reducible apply belD | with_reducible assumption)))).mono ?_
  rintro e w11 ⟨rfl, hb⟩
  have hw : Below w10.heap.size w10 w11 := below_call (by repeat (first | with_reducible exact belR | with_reducible apply belA | (with_reducible refine belS ?_ ?_; focus (first | omega | (simp; done) | (simp; omega))) | with_reducible apply belN | with_reducible apply belD | with_reducible assumption)) (by first | omega | (simp; done) | (simp; omega)) hb
  have hsw11 : w10.heap.size ≤ w11.heap.size := by have y := hb.size; (try simp at y); omega
  clear cx_aR zx_aR
  replace HX_aR := Lib.hid (HX_aR.out.below hw)
  clear cx_aK zx_aK
  replace HX_aK := Lib.hid (HX_aK.out.below hw)
  clear cx_w0 zx_w0
  replace HX_w0 := Lib.hid (HX_w0.out.below hw)
  clear cx_x0 zx_x0
  replace HX_x0 := Lib.hid (HX_x0.out.below hw)
  clear cx_g0 zx_g0
  replace HX_g0 := Lib.hid (HX_g0.out.below hw)
  have ⟨cx_aR, zx_aR⟩ := HX_aR.out
  have ⟨cx_aK, zx_aK⟩ := HX_aK.out
  have ⟨cx_w0, zx_w0⟩ := HX_w0.out
  have ⟨cx_x0, zx_x0⟩ := HX_x0.out
  have ⟨cx_g0, zx_g0⟩ := HX_g0.out
  replace HA0 := Lib.hid (HA0.out.below hw)
  replace HA1 := Lib.hid (HA1.out.below hw)
  replace H_w0 := Lib.hid (H_w0.out.below hw)
  replace H_x0 := Lib.hid (H_x0.out.below hw)
  replace H_g0 := Lib.hid (H_g0.out.below hw)
  replace HB := Lib.hid (below_call HB.out HB.out.size hw)
  clear hw
  clear hb
  go_wp2_with fail
  refine settle (fun W' => Below w11.heap.size w11 W' ∧ w11.heap.size ≤ W'.heap.size) ⟨(by repeat (first | with_reducible exact belR | with_reducible apply belA | (with_reducible refine belS ?_ ?_; focus (first | omega | (simp; done) | (simp; omega))) | with_reducible apply belN | with_reducible apply belD | with_reducible assumption)), (by first | omega | (simp; done) | (simp; omega))⟩ ?_
  rintro w12 ⟨hw, hsw12⟩
  clear cx_aR zx_aR
  replace HX_aR := Lib.hid (HX_aR.out.below hw)
  clear cx_aK zx_aK
  replace HX_aK := Lib.hid (HX_aK.out.below hw)
  clear cx_w0 zx_w0
  replace HX_w0 := Lib.hid (HX_w0.out.below hw)
  clear cx_x0 zx_x0
  replace HX_x0 := Lib.hid (HX_x0.out.below hw)
  clear cx_g0 zx_g0
  replace HX_g0 := Lib.hid (HX_g0.out.below hw)
  have ⟨cx_aR, zx_aR⟩ := HX_aR.out
  have ⟨cx_aK, zx_aK⟩ := HX_aK.out
  have ⟨cx_w0, zx_w0⟩ := HX_w0.out
  have ⟨cx_x0, zx_x0⟩ := HX_x0.out
  have ⟨cx_g0, zx_g0⟩ := HX_g0.out
  replace HA0 := Lib.hid (HA0.out.below hw)
  replace HA1 := Lib.hid (HA1.out.below hw)
  replace H_w0 := Lib.hid (H_w0.out.below hw)
  replace H_x0 := Lib.hid (H_x0.out.below hw)
  replace H_g0 := Lib.hid (H_g0.out.below hw)
  replace HB := Lib.hid (below_call HB.out HB.out.size hw)
  clear hw
  go_region_held3 (fun w' => (∀ o, w'.cell? ⟨w7.heap.size, o, none⟩ = #[.string (a0).base.name, .slice ao_x0_0 (a0).base.items.length cap_x0_0, .int .i64 (a0).base.auto, .int .i64 (a0).seen, .int .i64 (a0).sync.outbox.device, .int .i64 (a0).sync.outbox.next, .slice ao_x0_1 (a0).sync.outbox.writes.length cap_x0_1, .int .i64 (a0).sync.tries, .int .i64 (a0).sync.waitUntil][o]?) ∧ (∀ o, w'.cell? ⟨w.heap.size, o, none⟩ = #[.string a0.base.name, .slice ao0_0 a0.base.items.length cap0_0, .int .i64 a0.base.auto, .int .i64 a0.seen, .int .i64 a0.sync.outbox.device, .int .i64 a0.sync.outbox.next, .slice ao0_1 a0.sync.outbox.writes.length cap0_1, .int .i64 a0.sync.tries, .int .i64 a0.sync.waitUntil][o]?) ∧ Below w12.heap.size w12 w')
    (first | exact ⟨fun o => (World.cell?_drew _ _ |>.trans <| hq_E14.cell (p := ⟨w7.heap.size, o, none⟩) zx_x0).trans (cx_x0 o), fun o => (World.cell?_drew _ _ |>.trans <| hq_E14.cell (p := ⟨w.heap.size, o, none⟩) zx_aR).trans (cx_aR o), belD hq_E14⟩ | exact ⟨fun o => (hq_E14.cell (p := ⟨w7.heap.size, o, none⟩) zx_x0).trans (cx_x0 o), fun o => (hq_E14.cell (p := ⟨w.heap.size, o, none⟩) zx_aR).trans (cx_aR o), hq_E14⟩ | exact ⟨fun o => (World.cell?_drew _ _ |>.trans <| hq_x0_e12.cell (p := ⟨w7.heap.size, o, none⟩) zx_x0).trans (cx_x0 o), fun o => (World.cell?_drew _ _ |>.trans <| hq_x0_e12.cell (p := ⟨w.heap.size, o, none⟩) zx_aR).trans (cx_aR o), belD hq_x0_e12⟩ | exact ⟨fun o => (hq_x0_e12.cell (p := ⟨w7.heap.size, o, none⟩) zx_x0).trans (cx_x0 o), fun o => (hq_x0_e12.cell (p := ⟨w.heap.size, o, none⟩) zx_aR).trans (cx_aR o), hq_x0_e12⟩ | exact ⟨cx_x0, cx_aR, belR⟩ | exact ⟨cx_x0, cx_aR, belD belR⟩)
    (first | (go_at_call 24; have hx := hq_x0_e12; clear hx; have hS_E14 := ‹_ ∧ _ ∧ Below w12.heap.size w12 _›; refine (eqReplica _ _ a0 _ (H_x0.out.reads.below hS_E14.2.2) (hr_x0_e12.below (by first | exact belR | exact belD belR | exact belN (belD belR)))).mono ?_; rintro e w14 ⟨rfl, hb_E14⟩; have hq_E14 : Below w12.heap.size w12 w14 := below_call hS_E14.2.2 hS_E14.2.2.size hb_E14; clear hS_E14) | (go_at_call 21; have hS_x0_e12 := ‹_ ∧ _ ∧ Below w12.heap.size w12 _›; refine (toReplica _ a0 _ (HA0.out.reads.below hS_x0_e12.2.2) (by first | omega | (simp [DReplica.wt]))).mono ?_; rintro e w13 ⟨d_x0_e12, rfl, hf_x0_e12, hb_x0_e12⟩; have hq_x0_e12 : Below w12.heap.size w12 w13 := below_call hS_x0_e12.2.2 hS_x0_e12.2.2.size hb_x0_e12; clear hS_x0_e12; obtain ⟨ao_x0_e12_0, cap_x0_e12_0, ao_x0_e12_1, cap_x0_e12_1, rfl⟩ := DReplica.fshape hf_x0_e12; have hr_x0_e12 := hf_x0_e12.reads))
  have hw := hq_E14
  have hsw14 : w12.heap.size ≤ w14.heap.size := hq_E14.size
  clear cx_aR zx_aR
  replace HX_aR := Lib.hid (HX_aR.out.below hw)
  clear cx_aK zx_aK
  replace HX_aK := Lib.hid (HX_aK.out.below hw)
  clear cx_w0 zx_w0
  replace HX_w0 := Lib.hid (HX_w0.out.below hw)
  clear cx_x0 zx_x0
  replace HX_x0 := Lib.hid (HX_x0.out.below hw)
  clear cx_g0 zx_g0
  replace HX_g0 := Lib.hid (HX_g0.out.below hw)
  have ⟨cx_aR, zx_aR⟩ := HX_aR.out
  have ⟨cx_aK, zx_aK⟩ := HX_aK.out
  have ⟨cx_w0, zx_w0⟩ := HX_w0.out
  have ⟨cx_x0, zx_x0⟩ := HX_x0.out
  have ⟨cx_g0, zx_g0⟩ := HX_g0.out
  replace HA0 := Lib.hid (HA0.out.below hw)
  replace HA1 := Lib.hid (HA1.out.below hw)
  replace H_w0 := Lib.hid (H_w0.out.below hw)
  replace H_x0 := Lib.hid (H_x0.out.below hw)
  replace H_g0 := Lib.hid (H_g0.out.below hw)
  replace HB := Lib.hid (below_call HB.out HB.out.size hw)
  clear hw
  go_wp2_with fail
  have hk_x0 := (hm_x0 a0 (by first | omega | exact hv_aR))
  refine (markReplica _ a0 fp_x0 (1) _ H_x0.out.rd H_x0.out.nodup (by omega)).mono ?_
  rintro e w15 ⟨rfl, hrd, hc⟩
  have hnew := Own.mk hrd H_x0.out.nodup (H_x0.out.ivl)
  have hq := H_x0.out.ivl
  have hsw15 : w14.heap.size ≤ w15.heap.size := hc.size
  clear cx_aR zx_aR
  replace HX_aR := Lib.hid (HX_aR.out.chg hc hq (by omega))
  clear cx_aK zx_aK
  replace HX_aK := Lib.hid (HX_aK.out.chg hc hq (by omega))
  clear cx_w0 zx_w0
  replace HX_w0 := Lib.hid (HX_w0.out.chg hc hq (by omega))
  clear cx_x0 zx_x0
  replace HX_x0 := Lib.hid (HX_x0.out.chg hc hq (by omega))
  clear cx_g0 zx_g0
  replace HX_g0 := Lib.hid (HX_g0.out.chg hc hq (by omega))
  have ⟨cx_aR, zx_aR⟩ := HX_aR.out
  have ⟨cx_aK, zx_aK⟩ := HX_aK.out
  have ⟨cx_w0, zx_w0⟩ := HX_w0.out
  have ⟨cx_x0, zx_x0⟩ := HX_x0.out
  have ⟨cx_g0, zx_g0⟩ := HX_g0.out
  replace HA0 := Lib.hid (HA0.out.chg hc hq (by omega))
  replace HA1 := Lib.hid (HA1.out.chg hc hq (by omega))
  replace H_w0 := Lib.hid (H_w0.out.chg hc (Own.apart H_w0.out H_x0.out (by omega)))
  replace H_g0 := Lib.hid (H_g0.out.chg hc (Own.apart H_g0.out H_x0.out (by omega)))
  replace HB := Lib.hid (Below.chg HB.out hc hq (by omega) HB.out.size)
  clear hq
  replace H_x0 := Lib.hid hnew; clear hnew hrd hc
  go_wp2_with fail
  refine (eqReplica _ _ (f0 a0 a1 a2 a3) _ (H_g0.out.reads.below (by repeat (first | with_reducible exact belR | with_reducible apply belA | (with_reducible refine belS ?_ ?_; focus (first | omega | (simp; done) | (simp; omega))) | with_reducible apply belN | with_reducible apply belD | with_reducible assumption))) (H_w0.out.reads.below (by repeat (first | with_reducible exact belR | with_reducible apply belA | (with_reducible refine belS ?_ ?_; focus (first | omega | (simp; done) | (simp; omega))) | with_reducible apply belN | with_reducible apply belD | with_reducible assumption)))).mono ?_
  rintro e w16 ⟨rfl, hb⟩
  have hw : Below w15.heap.size w15 w16 := below_call (by repeat (first | with_reducible exact belR | with_reducible apply belA | (with_reducible refine belS ?_ ?_; focus (first | omega | (simp; done) | (simp; omega))) | with_reducible apply belN | with_reducible apply belD | with_reducible assumption)) (by first | omega | (simp; done) | (simp; omega)) hb
  have hsw16 : w15.heap.size ≤ w16.heap.size := by have y := hb.size; (try simp at y); omega
  clear cx_aR zx_aR
  replace HX_aR := Lib.hid (HX_aR.out.below hw)
  clear cx_aK zx_aK
  replace HX_aK := Lib.hid (HX_aK.out.below hw)
  clear cx_w0 zx_w0
  replace HX_w0 := Lib.hid (HX_w0.out.below hw)
  clear cx_x0 zx_x0
  replace HX_x0 := Lib.hid (HX_x0.out.below hw)
  clear cx_g0 zx_g0
  replace HX_g0 := Lib.hid (HX_g0.out.below hw)
  have ⟨cx_aR, zx_aR⟩ := HX_aR.out
  have ⟨cx_aK, zx_aK⟩ := HX_aK.out
  have ⟨cx_w0, zx_w0⟩ := HX_w0.out
  have ⟨cx_x0, zx_x0⟩ := HX_x0.out
  have ⟨cx_g0, zx_g0⟩ := HX_g0.out
  replace HA0 := Lib.hid (HA0.out.below hw)
  replace HA1 := Lib.hid (HA1.out.below hw)
  replace H_w0 := Lib.hid (H_w0.out.below hw)
  replace H_x0 := Lib.hid (H_x0.out.below hw)
  replace H_g0 := Lib.hid (H_g0.out.below hw)
  replace HB := Lib.hid (below_call HB.out HB.out.size hw)
  clear hw
  clear hb
  go_wp2_with fail
  have hk_g0 := (hm_g0 a0 a1 a2 a3 (by first | omega | exact hv_aR) (by first | omega | exact hv_aK) (by first | omega | exact hg_aField))
  refine (markReplica _ (f0 a0 a1 a2 a3) fp_g0 (1) _ H_g0.out.rd H_g0.out.nodup (by omega)).mono ?_
  rintro e w17 ⟨rfl, hrd, hc⟩
  have hnew := Own.mk hrd H_g0.out.nodup (H_g0.out.ivl)
  have hq := H_g0.out.ivl
  have hsw17 : w16.heap.size ≤ w17.heap.size := hc.size
  clear cx_aR zx_aR
  replace HX_aR := Lib.hid (HX_aR.out.chg hc hq (by omega))
  clear cx_aK zx_aK
  replace HX_aK := Lib.hid (HX_aK.out.chg hc hq (by omega))
  clear cx_w0 zx_w0
  replace HX_w0 := Lib.hid (HX_w0.out.chg hc hq (by omega))
  clear cx_x0 zx_x0
  replace HX_x0 := Lib.hid (HX_x0.out.chg hc hq (by omega))
  clear cx_g0 zx_g0
  replace HX_g0 := Lib.hid (HX_g0.out.chg hc hq (by omega))
  have ⟨cx_aR, zx_aR⟩ := HX_aR.out
  have ⟨cx_aK, zx_aK⟩ := HX_aK.out
  have ⟨cx_w0, zx_w0⟩ := HX_w0.out
  have ⟨cx_x0, zx_x0⟩ := HX_x0.out
  have ⟨cx_g0, zx_g0⟩ := HX_g0.out
  replace HA0 := Lib.hid (HA0.out.chg hc hq (by omega))
  replace HA1 := Lib.hid (HA1.out.chg hc hq (by omega))
  replace H_w0 := Lib.hid (H_w0.out.chg hc (Own.apart H_w0.out H_g0.out (by omega)))
  replace H_x0 := Lib.hid (H_x0.out.chg hc (Own.apart H_x0.out H_g0.out (by omega)))
  replace HB := Lib.hid (Below.chg HB.out hc hq (by omega) HB.out.size)
  clear hq
  replace H_g0 := Lib.hid hnew; clear hnew hrd hc
  go_wp2_with fail
  refine (heldReplica _ (f0 a0 a1 a2 a3) (1) _ (H_g0.out.reads.below (by repeat (first | with_reducible exact belR | with_reducible apply belA | (with_reducible refine belS ?_ ?_; focus (first | omega | (simp; done) | (simp; omega))) | with_reducible apply belN | with_reducible apply belD | with_reducible assumption))) (by omega)).mono ?_
  rintro e w18 ⟨rfl, hb⟩
  have hw : Below w17.heap.size w17 w18 := below_call (by repeat (first | with_reducible exact belR | with_reducible apply belA | (with_reducible refine belS ?_ ?_; focus (first | omega | (simp; done) | (simp; omega))) | with_reducible apply belN | with_reducible apply belD | with_reducible assumption)) (by first | omega | (simp; done) | (simp; omega)) hb
  have hsw18 : w17.heap.size ≤ w18.heap.size := by have y := hb.size; (try simp at y); omega
  clear cx_aR zx_aR
  replace HX_aR := Lib.hid (HX_aR.out.below hw)
  clear cx_aK zx_aK
  replace HX_aK := Lib.hid (HX_aK.out.below hw)
  clear cx_w0 zx_w0
  replace HX_w0 := Lib.hid (HX_w0.out.below hw)
  clear cx_x0 zx_x0
  replace HX_x0 := Lib.hid (HX_x0.out.below hw)
  clear cx_g0 zx_g0
  replace HX_g0 := Lib.hid (HX_g0.out.below hw)
  have ⟨cx_aR, zx_aR⟩ := HX_aR.out
  have ⟨cx_aK, zx_aK⟩ := HX_aK.out
  have ⟨cx_w0, zx_w0⟩ := HX_w0.out
  have ⟨cx_x0, zx_x0⟩ := HX_x0.out
  have ⟨cx_g0, zx_g0⟩ := HX_g0.out
  replace HA0 := Lib.hid (HA0.out.below hw)
  replace HA1 := Lib.hid (HA1.out.below hw)
  replace H_w0 := Lib.hid (H_w0.out.below hw)
  replace H_x0 := Lib.hid (H_x0.out.below hw)
  replace H_g0 := Lib.hid (H_g0.out.below hw)
  replace HB := Lib.hid (below_call HB.out HB.out.size hw)
  clear hw
  clear hb
  go_upto_region 29 with fail
  refine settle (fun W' => Below w18.heap.size w18 W' ∧ w18.heap.size ≤ W'.heap.size) ⟨(by repeat (first | with_reducible exact belR | with_reducible apply belA | (with_reducible refine belS ?_ ?_; focus (first | omega | (simp; done) | (simp; omega))) | with_reducible apply belN | with_reducible apply belD | with_reducible assumption)), (by first | omega | (simp; done) | (simp; omega))⟩ ?_
  rintro w19 ⟨hw, hsw19⟩
  clear cx_aR zx_aR
  replace HX_aR := Lib.hid (HX_aR.out.below hw)
  clear cx_aK zx_aK
  replace HX_aK := Lib.hid (HX_aK.out.below hw)
  clear cx_w0 zx_w0
  replace HX_w0 := Lib.hid (HX_w0.out.below hw)
  clear cx_x0 zx_x0
  replace HX_x0 := Lib.hid (HX_x0.out.below hw)
  clear cx_g0 zx_g0
  replace HX_g0 := Lib.hid (HX_g0.out.below hw)
  have ⟨cx_aR, zx_aR⟩ := HX_aR.out
  have ⟨cx_aK, zx_aK⟩ := HX_aK.out
  have ⟨cx_w0, zx_w0⟩ := HX_w0.out
  have ⟨cx_x0, zx_x0⟩ := HX_x0.out
  have ⟨cx_g0, zx_g0⟩ := HX_g0.out
  replace HA0 := Lib.hid (HA0.out.below hw)
  replace HA1 := Lib.hid (HA1.out.below hw)
  replace H_w0 := Lib.hid (H_w0.out.below hw)
  replace H_x0 := Lib.hid (H_x0.out.below hw)
  replace H_g0 := Lib.hid (H_g0.out.below hw)
  replace HB := Lib.hid (below_call HB.out HB.out.size hw)
  clear hw
  go_cut [18, 19] (fun p_h0 p_h1 wx => ∃ (lo hi : Nat) (kb_h0 : Nat) (ao_h0_0 : Option Addr) (cap_h0_0 : Nat) (ao_h0_1 : Option Addr) (cap_h0_1 : Nat) (fp_h0 : List Nat), p_h0 = .pointer (some ⟨kb_h0, 0, none⟩) ∧ p_h1 = .bool (f1 a0 a1 a2 a3) ∧ Box wx kb_h0 #[.string ((f0 a0 a1 a2 a3)).base.name, .slice ao_h0_0 ((f0 a0 a1 a2 a3)).base.items.length cap_h0_0, .int .i64 ((f0 a0 a1 a2 a3)).base.auto, .int .i64 ((f0 a0 a1 a2 a3)).seen, .int .i64 ((f0 a0 a1 a2 a3)).sync.outbox.device, .int .i64 ((f0 a0 a1 a2 a3)).sync.outbox.next, .slice ao_h0_1 ((f0 a0 a1 a2 a3)).sync.outbox.writes.length cap_h0_1, .int .i64 ((f0 a0 a1 a2 a3)).sync.tries, .int .i64 ((f0 a0 a1 a2 a3)).sync.waitUntil] ∧ w19.heap.size ≤ kb_h0 ∧ (kb_h0 < lo ∨ hi ≤ kb_h0) ∧ w19.heap.size ≤ lo ∧ hi ≤ wx.heap.size ∧ Own DReplica.rep lo hi wx [.string ((f0 a0 a1 a2 a3)).base.name, .slice ao_h0_0 ((f0 a0 a1 a2 a3)).base.items.length cap_h0_0, .int .i64 ((f0 a0 a1 a2 a3)).base.auto, .int .i64 ((f0 a0 a1 a2 a3)).seen, .int .i64 ((f0 a0 a1 a2 a3)).sync.outbox.device, .int .i64 ((f0 a0 a1 a2 a3)).sync.outbox.next, .slice ao_h0_1 ((f0 a0 a1 a2 a3)).sync.outbox.writes.length cap_h0_1, .int .i64 ((f0 a0 a1 a2 a3)).sync.tries, .int .i64 ((f0 a0 a1 a2 a3)).sync.waitUntil] (f0 a0 a1 a2 a3) fp_h0 ∧ Below w19.heap.size w19 wx)
  case first =>
    have HSr : Hid (∀ w', Below w19.heap.size w19 w' → (∀ o, w'.cell? ⟨w.heap.size, o, none⟩ = #[.string a0.base.name, .slice ao0_0 a0.base.items.length cap0_0, .int .i64 a0.base.auto, .int .i64 a0.seen, .int .i64 a0.sync.outbox.device, .int .i64 a0.sync.outbox.next, .slice ao0_1 a0.sync.outbox.writes.length cap0_1, .int .i64 a0.sync.tries, .int .i64 a0.sync.waitUntil][o]?) ∧ (∀ o, w'.cell? ⟨w.heap.size + 1, o, none⟩ = #[.int .i64 a1.kind, .int .i64 a1.n, .string a1.text][o]?) ∧ Below w19.heap.size w19 w') := Lib.hid fun w' hw' => ⟨fun o => (hw'.cell (p := ⟨w.heap.size, o, none⟩) zx_aR).trans (cx_aR o), fun o => (hw'.cell (p := ⟨w.heap.size + 1, o, none⟩) zx_aK).trans (cx_aK o), hw'⟩
    go_region_held3 (fun w' => (∀ o, w'.cell? ⟨w.heap.size, o, none⟩ = #[.string a0.base.name, .slice ao0_0 a0.base.items.length cap0_0, .int .i64 a0.base.auto, .int .i64 a0.seen, .int .i64 a0.sync.outbox.device, .int .i64 a0.sync.outbox.next, .slice ao0_1 a0.sync.outbox.writes.length cap0_1, .int .i64 a0.sync.tries, .int .i64 a0.sync.waitUntil][o]?) ∧ (∀ o, w'.cell? ⟨w.heap.size + 1, o, none⟩ = #[.int .i64 a1.kind, .int .i64 a1.n, .string a1.text][o]?) ∧ Below w19.heap.size w19 w')
      (first | exact HSr.out _ (by repeat (first | with_reducible exact belR | (with_reducible refine belAB ?_ ?_; focus (first | omega | (simp; done) | (simp; omega))) | (with_reducible refine belS ?_ ?_; focus (first | omega | (simp; done) | (simp; omega))) | with_reducible apply belN | with_reducible apply belD | with_reducible assumption)))
      (first | (go_at_call 23; have hx := hq_h0_aK; clear hx; have hS_F22 := ‹_ ∧ _ ∧ Below w19.heap.size w19 _›; refine (hI _ a0 _ a1 a2 a3 _ (hr_h0_aR.below (by repeat (first | with_reducible exact belR | with_reducible apply belA | (with_reducible refine belS ?_ ?_; focus (first | omega | (simp; done) | (simp; omega))) | with_reducible apply belN | with_reducible apply belD | with_reducible assumption))) (hr_h0_aK.below (by repeat (first | with_reducible exact belR | with_reducible apply belA | (with_reducible refine belS ?_ ?_; focus (first | omega | (simp; done) | (simp; omega))) | with_reducible apply belN | with_reducible apply belD | with_reducible assumption))) (by first | omega | exact hv_aR) (by first | omega | exact hv_aK) (by first | omega | exact hg_aField)).mono ?_; rintro e w22 ⟨d_h_0, rfl, hf0, hb_F22⟩; have hq_F22 : Below w19.heap.size w19 w22 := below_call hS_F22.2.2 hS_F22.2.2.size hb_F22; clear hS_F22; have hz_F22 := hq_F22.size; (first | (have hwb_F22 : WB w22 _ #[.string ⟨#[]⟩, .slice none 0 0, .int .i64 0, .int .i64 0, .int .i64 0, .int .i64 0, .slice none 0 0, .int .i64 0, .int .i64 0] := (WB.at rfl).keep hb_F22; have ⟨we_F22, wl_F22, wf_F22⟩ := hwb_F22) | (have hwb_F22 := hwb_h0_aK.keep hb_F22; have ⟨we_F22, wl_F22, wf_F22⟩ := hwb_F22) | skip); obtain ⟨ao_h0_0, cap_h0_0, ao_h0_1, cap_h0_1, rfl⟩ := DReplica.fshape hf0) | (go_at_call 22; have hx := hq_h0_aR; clear hx; have hS_h0_aK := ‹_ ∧ _ ∧ Below w19.heap.size w19 _›; refine (toKey _ a1 _ (HA1.out.reads.below hS_h0_aK.2.2) (by first | omega | (simp [DKey.wt]))).mono ?_; rintro e w21 ⟨d_h0_aK, rfl, hf_h0_aK, hb_h0_aK⟩; have hq_h0_aK : Below w19.heap.size w19 w21 := below_call hS_h0_aK.2.2 hS_h0_aK.2.2.size hb_h0_aK; clear hS_h0_aK; have hz_h0_aK := hq_h0_aK.size; (first | (have hwb_h0_aK : WB w21 _ #[.string ⟨#[]⟩, .slice none 0 0, .int .i64 0, .int .i64 0, .int .i64 0, .int .i64 0, .slice none 0 0, .int .i64 0, .int .i64 0] := (WB.at rfl).keep hb_h0_aK; have ⟨we_h0_aK, wl_h0_aK, wf_h0_aK⟩ := hwb_h0_aK) | (have hwb_h0_aK := hwb_h0_aR.keep hb_h0_aK; have ⟨we_h0_aK, wl_h0_aK, wf_h0_aK⟩ := hwb_h0_aK) | skip); obtain ⟨_, y_h0_aK, _⟩ := id hf_h0_aK; obtain ⟨rfl, _, _⟩ := DKey.rd.1 y_h0_aK; clear y_h0_aK; have hr_h0_aK := hf_h0_aK.reads; replace hr_h0_aR := hr_h0_aR.below (by first | exact hb_h0_aK | exact (belD belR).trans hb_h0_aK | exact below_call (by repeat (first | with_reducible exact belR | with_reducible apply belA | (with_reducible refine belS ?_ ?_; focus (first | omega | (simp; done) | (simp; omega))) | with_reducible apply belN | with_reducible apply belD | with_reducible assumption)) (by first | omega | (simp; done) | (simp; omega)) hb_h0_aK)) | (go_at_call 21; have hS_h0_aR := ‹_ ∧ _ ∧ Below w19.heap.size w19 _›; refine (toReplica _ a0 _ (HA0.out.reads.below hS_h0_aR.2.2) (by first | omega | (simp [DReplica.wt]))).mono ?_; rintro e w20 ⟨d_h0_aR, rfl, hf_h0_aR, hb_h0_aR⟩; have hq_h0_aR : Below w19.heap.size w19 w20 := below_call hS_h0_aR.2.2 hS_h0_aR.2.2.size hb_h0_aR; clear hS_h0_aR; have hz_h0_aR := hq_h0_aR.size; (first | (have hwb_h0_aR : WB w20 _ #[.string ⟨#[]⟩, .slice none 0 0, .int .i64 0, .int .i64 0, .int .i64 0, .int .i64 0, .slice none 0 0, .int .i64 0, .int .i64 0] := (WB.at rfl).growD.keep hb_h0_aR; have ⟨we_h0_aR, wl_h0_aR, wf_h0_aR⟩ := hwb_h0_aR) | skip); obtain ⟨ao_h0_aR_0, cap_h0_aR_0, ao_h0_aR_1, cap_h0_aR_1, rfl⟩ := DReplica.fshape hf_h0_aR; have hr_h0_aR := hf_h0_aR.reads))
    all_goals
      go_wp2_with fail
      go_meet
      obtain ⟨lo0, fp_h0, hlo0, o_h0⟩ := Fresh.ownAtL hf0
      (try simp at hlo0)
      first
        | exact ⟨lo0, w22.heap.size, _, ao_h0_0, cap_h0_0, ao_h0_1, cap_h0_1, fp_h0, rfl, rfl, (sets9_WriteLocal hwb_F22).box, (by omega), .inl (by omega), (by omega), (Nat.le_of_eq (by simp only [World.size_setCell])), (by repeat (first | with_reducible exact o_h0 | with_reducible refine Own.setOut ?_ (.inl (by omega)))), (by have y := hq_F22; exact (by repeat (first | with_reducible exact belR | with_reducible apply belA | (with_reducible refine belS ?_ ?_; focus (first | omega | (simp; done) | (simp; omega))) | with_reducible apply belN | with_reducible apply belD | with_reducible assumption)))⟩
        | exact ⟨lo0, w22.heap.size, w22.heap.size, ao_h0_0, cap_h0_0, ao_h0_1, cap_h0_1, fp_h0, rfl, rfl, Box.at rfl, (by omega), .inr (by omega), (by omega), (by rw [World.size_alloc]; omega), o_h0.allocA, (by have y := hq_F22; exact (by repeat (first | with_reducible exact belR | with_reducible apply belA | (with_reducible refine belS ?_ ?_; focus (first | omega | (simp; done) | (simp; omega))) | with_reducible apply belN | with_reducible apply belD | with_reducible assumption)))⟩
  obtain ⟨lo_h0, hi_h0, kb_h0, ao_h0_0, cap_h0_0, ao_h0_1, cap_h0_1, fp_h0, rfl, rfl, hbx_h0, hk1_h0, hk2_h0, hl1_h0, hl2_h0, ho_h0, hw⟩ := hcut
  rename World => w22
  have hsw22 : w19.heap.size ≤ w22.heap.size := hw.size
  clear cx_aR zx_aR
  replace HX_aR := Lib.hid (HX_aR.out.below hw)
  clear cx_aK zx_aK
  replace HX_aK := Lib.hid (HX_aK.out.below hw)
  clear cx_w0 zx_w0
  replace HX_w0 := Lib.hid (HX_w0.out.below hw)
  clear cx_x0 zx_x0
  replace HX_x0 := Lib.hid (HX_x0.out.below hw)
  clear cx_g0 zx_g0
  replace HX_g0 := Lib.hid (HX_g0.out.below hw)
  have HX_h0 := Lib.hid hbx_h0; clear hbx_h0
  have hkz_h0 := HX_h0.out.2
  have H_h0 := Lib.hid ho_h0; clear ho_h0
  have ⟨cx_aR, zx_aR⟩ := HX_aR.out
  have ⟨cx_aK, zx_aK⟩ := HX_aK.out
  have ⟨cx_w0, zx_w0⟩ := HX_w0.out
  have ⟨cx_x0, zx_x0⟩ := HX_x0.out
  have ⟨cx_g0, zx_g0⟩ := HX_g0.out
  have ⟨cx_h0, zx_h0⟩ := HX_h0.out
  replace HA0 := Lib.hid (HA0.out.below hw)
  replace HA1 := Lib.hid (HA1.out.below hw)
  replace H_w0 := Lib.hid (H_w0.out.below hw)
  replace H_x0 := Lib.hid (H_x0.out.below hw)
  replace H_g0 := Lib.hid (H_g0.out.below hw)
  replace HB := Lib.hid (below_call HB.out HB.out.size hw)
  clear hw
  go_wp2_with fail
  refine (eqReplica _ _ (f0 a0 a1 a2 a3) _ (H_h0.out.reads.below (by repeat (first | with_reducible exact belR | with_reducible apply belA | (with_reducible refine belS ?_ ?_; focus (first | omega | (simp; done) | (simp; omega))) | with_reducible apply belN | with_reducible apply belD | with_reducible assumption))) (H_w0.out.reads.below (by repeat (first | with_reducible exact belR | with_reducible apply belA | (with_reducible refine belS ?_ ?_; focus (first | omega | (simp; done) | (simp; omega))) | with_reducible apply belN | with_reducible apply belD | with_reducible assumption)))).mono ?_
  rintro e w23 ⟨rfl, hb⟩
  have hw : Below w22.heap.size w22 w23 := below_call (by repeat (first | with_reducible exact belR | with_reducible apply belA | (with_reducible refine belS ?_ ?_; focus (first | omega | (simp; done) | (simp; omega))) | with_reducible apply belN | with_reducible apply belD | with_reducible assumption)) (by first | omega | (simp; done) | (simp; omega)) hb
  have hsw23 : w22.heap.size ≤ w23.heap.size := by have y := hb.size; (try simp at y); omega
  clear cx_aR zx_aR
  replace HX_aR := Lib.hid (HX_aR.out.below hw)
  clear cx_aK zx_aK
  replace HX_aK := Lib.hid (HX_aK.out.below hw)
  clear cx_w0 zx_w0
  replace HX_w0 := Lib.hid (HX_w0.out.below hw)
  clear cx_x0 zx_x0
  replace HX_x0 := Lib.hid (HX_x0.out.below hw)
  clear cx_g0 zx_g0
  replace HX_g0 := Lib.hid (HX_g0.out.below hw)
  clear cx_h0 zx_h0
  replace HX_h0 := Lib.hid (HX_h0.out.below hw)
  have ⟨cx_aR, zx_aR⟩ := HX_aR.out
  have ⟨cx_aK, zx_aK⟩ := HX_aK.out
  have ⟨cx_w0, zx_w0⟩ := HX_w0.out
  have ⟨cx_x0, zx_x0⟩ := HX_x0.out
  have ⟨cx_g0, zx_g0⟩ := HX_g0.out
  have ⟨cx_h0, zx_h0⟩ := HX_h0.out
  replace HA0 := Lib.hid (HA0.out.below hw)
  replace HA1 := Lib.hid (HA1.out.below hw)
  replace H_w0 := Lib.hid (H_w0.out.below hw)
  replace H_x0 := Lib.hid (H_x0.out.below hw)
  replace H_g0 := Lib.hid (H_g0.out.below hw)
  replace H_h0 := Lib.hid (H_h0.out.below hw)
  replace HB := Lib.hid (below_call HB.out HB.out.size hw)
  clear hw
  clear hb
  go_wp2_with fail
  refine (heldReplica _ (f0 a0 a1 a2 a3) (1) _ (H_g0.out.reads.below (by repeat (first | with_reducible exact belR | with_reducible apply belA | (with_reducible refine belS ?_ ?_; focus (first | omega | (simp; done) | (simp; omega))) | with_reducible apply belN | with_reducible apply belD | with_reducible assumption))) (by omega)).mono ?_
  rintro e w24 ⟨rfl, hb⟩
  have hw : Below w23.heap.size w23 w24 := below_call (by repeat (first | with_reducible exact belR | with_reducible apply belA | (with_reducible refine belS ?_ ?_; focus (first | omega | (simp; done) | (simp; omega))) | with_reducible apply belN | with_reducible apply belD | with_reducible assumption)) (by first | omega | (simp; done) | (simp; omega)) hb
  have hsw24 : w23.heap.size ≤ w24.heap.size := by have y := hb.size; (try simp at y); omega
  clear cx_aR zx_aR
  replace HX_aR := Lib.hid (HX_aR.out.below hw)
  clear cx_aK zx_aK
  replace HX_aK := Lib.hid (HX_aK.out.below hw)
  clear cx_w0 zx_w0
  replace HX_w0 := Lib.hid (HX_w0.out.below hw)
  clear cx_x0 zx_x0
  replace HX_x0 := Lib.hid (HX_x0.out.below hw)
  clear cx_g0 zx_g0
  replace HX_g0 := Lib.hid (HX_g0.out.below hw)
  clear cx_h0 zx_h0
  replace HX_h0 := Lib.hid (HX_h0.out.below hw)
  have ⟨cx_aR, zx_aR⟩ := HX_aR.out
  have ⟨cx_aK, zx_aK⟩ := HX_aK.out
  have ⟨cx_w0, zx_w0⟩ := HX_w0.out
  have ⟨cx_x0, zx_x0⟩ := HX_x0.out
  have ⟨cx_g0, zx_g0⟩ := HX_g0.out
  have ⟨cx_h0, zx_h0⟩ := HX_h0.out
  replace HA0 := Lib.hid (HA0.out.below hw)
  replace HA1 := Lib.hid (HA1.out.below hw)
  replace H_w0 := Lib.hid (H_w0.out.below hw)
  replace H_x0 := Lib.hid (H_x0.out.below hw)
  replace H_g0 := Lib.hid (H_g0.out.below hw)
  replace H_h0 := Lib.hid (H_h0.out.below hw)
  replace HB := Lib.hid (below_call HB.out HB.out.size hw)
  clear hw
  clear hb
  go_wp2_with fail
  go_ret
  have y := HB.out
  exact ⟨rfl, (by repeat (first | with_reducible exact belR | with_reducible apply belA | (with_reducible refine belS ?_ ?_; focus (first | omega | (simp; done) | (simp; omega))) | with_reducible apply belN | with_reducible apply belD | with_reducible assumption))⟩

set_option maxRecDepth 100000 in
set_option maxHeartbeats 1000000 in
theorem writeLocal_lifted (f0 : DReplica → DKey → ByteArray → Int → DReplica) (f1 : DReplica → DKey → ByteArray → Int → Bool) (hS : SaidWriteLocal f0 f1 20) (hI : SaidWriteLocal f0 f1 23) (hm_g0 : ∀ (a0 : DReplica) (a1 : DKey) (a2 : ByteArray) (a3 : Int), (a0).wt ≤ 1048576 → (a1).wt ≤ 1048576 → a2.size ≤ 1048576 → ((f0 a0 a1 a2 a3)).mcnt ≤ 400000000) (hm_x0 : ∀ (a0 : DReplica), (a0).wt ≤ 1048576 → (a0).mcnt ≤ 400000000) (os : Os) (started : os.Started) (H : Type) (enc : TypeId × Value → H) :
    ReturnsInHanded {} Tryz.checked os 4 .any (Rows.fnExactWriteLocalSpec.pre6 enc Tryz.prog Tryz.f4 Rows.fnExactWriteLocalRow.domain false) (Rows.fnExactWriteLocalSpec.post enc Tryz.prog Tryz.f4 false true false false) := by
  refine law_lift (C := Tryz.checked) Tryz.own started (by kernel_rfl) Tryz.func4 Tryz.laidOut (by kernel_rfl) rfl Tryz.underlying4 rfl ?_
    (ChangeSpec.witness6 (enc := enc) (C := Tryz.checked) false ⟨#[], #[.agg #[.string ByteArray.empty, .slice none 0 0, .int .i64 0, .int .i64 0, .int .i64 0, .int .i64 0, .slice none 0 0, .int .i64 0, .int .i64 0], .agg #[.int .i64 0, .int .i64 0, .string ByteArray.empty], .string ByteArray.empty, .int .i64 0], []⟩ 8 (by kernel_rfl) (by kernel_rfl) (by kernel_rfl) (by kernel_rfl)) ?_
  · intro ds h
    match ds, h with
    | [_, _, _, _], _ => rfl
  · intro W base args ds ps hval hA0
    have hA : DataW.TrodAll enc Tryz.prog W 0 (fun _ => true) true Tryz.f4.params.toList args.toList ds ps := hA0
    rw [Tryz.params4] at hA hval
    obtain ⟨v0, v1, v2, v3, _, _, _, _, _, _, _, _, rfl, t0, t1, t2, t3⟩ := trodAll_open4 hA
    obtain ⟨c0, a0, rfl, r0⟩ := arg_struct Tryz.underlying57 DReplica.opens_laws (hval 0 57 v0 rfl rfl) t0
    obtain ⟨c1, a1, rfl, r1⟩ := arg_struct Tryz.underlying30 DKey.opens_laws (hval 1 30 v1 rfl rfl) t1
    obtain ⟨a2, rfl, z2⟩ := arg_str Tryz.underlying9 (hval 2 9 v2 rfl rfl) t2
    obtain ⟨a3, rfl⟩ := arg_int Tryz.underlying3 (hval 3 3 v3 rfl rfl) t3
    exact lawWriteLocal f0 f1 hS hI hm_g0 hm_x0 c0.toList a0 c1.toList a1 a2 a3 W r0 r1 z2

theorem writeLocal_of (f0 : DReplica → DKey → ByteArray → Int → DReplica) (f1 : DReplica → DKey → ByteArray → Int → Bool) (hS : SaidWriteLocal f0 f1 20) (hI : SaidWriteLocal f0 f1 23) (hm_g0 : ∀ (a0 : DReplica) (a1 : DKey) (a2 : ByteArray) (a3 : Int), (a0).wt ≤ 1048576 → (a1).wt ≤ 1048576 → a2.size ≤ 1048576 → ((f0 a0 a1 a2 a3)).mcnt ≤ 400000000) (hm_x0 : ∀ (a0 : DReplica), (a0).wt ≤ 1048576 → (a0).mcnt ≤ 400000000) : Rows.FnExactWriteLocalSaid :=
  OpenClaim.holds_of_wide 4 Tryz.f4 rfl rfl rfl rfl rfl rfl rfl ⟨rfl, rfl, rfl, rfl, rfl⟩ rfl rfl rfl rfl rfl (by kernel_rfl) Tryz.func4 (by kernel_rfl)
    (of_decide_eq_true (by kernel_rfl)) (by unfold Func.isWrapper; rw [if_neg (by decide +kernel)]; exact ⟨rfl, rfl⟩)
    (fun os started H enc _ => writeLocal_lifted f0 f1 hS hI hm_g0 hm_x0 os started H enc)

end Go.Proofs.YtapgglghaknjlaaGreat
