/-
  FnExactReceiveWrite: the law's walk, and its row, off the contracts of impl.ReceiveWrite and spec.ReceiveWrite.
-/
import Derived.Test.YtapgglghaknjlaaGreatLFamB
import Derived.Test.YtapgglghaknjlaaGreatBase
namespace Go.Proofs.YtapgglghaknjlaaGreat
open Go.RowKit Go.ChangeShapes

/-- What impl.ReceiveWrite and spec.ReceiveWrite are both shown to compute. -/
def SaidReceiveWrite (f0 : DServer → DWrite → DServer) (f1 : DServer → DWrite → Int) (f : FuncId) : Prop :=
  ∀ (c0 : List Value) (a0 : DServer) (c1 : List Value) (a1 : DWrite) (w : World) (_h0 : Reads DServer.rep w c0 a0) (_h1 : Reads DWrite.rep w c1 a1)(_s0 : (a0).wt ≤ 1048576) (_s1 : (a1).wt ≤ 1048576), Calls Tryz.prog f #[.agg c0.toArray, .agg c1.toArray] w fun e w' => ∃ (d0 : List Value), e = .returned (.tuple #[.agg d0.toArray, .int .i64 (f1 a0 a1)]) ∧ Fresh DServer.rep w.heap.size w' d0 (f0 a0 a1) ∧ Below w.heap.size w w'

set_option maxRecDepth 100000 in
set_option maxHeartbeats 16000000 in
theorem lawReceiveWrite (f0 : DServer → DWrite → DServer) (f1 : DServer → DWrite → Int) (hS : SaidReceiveWrite f0 f1 11) (hI : SaidReceiveWrite f0 f1 14) (hm_g0 : ∀ (a0 : DServer) (a1 : DWrite), (a0).wt ≤ 1048576 → (a1).wt ≤ 1048576 → ((f0 a0 a1)).mcnt ≤ 400000000) (hm_x0 : ∀ (a0 : DServer), (a0).wt ≤ 1048576 → (a0).mcnt ≤ 400000000) (c0 : List Value) (a0 : DServer) (c1 : List Value) (a1 : DWrite) (w : World) (h0 : Reads DServer.rep w c0 a0) (h1 : Reads DWrite.rep w c1 a1)  :
    Calls Tryz.prog 3 #[.agg c0.toArray, .agg c1.toArray] w fun e w' => e = .returned (.bool true) ∧ Below w.heap.size w w' := by
  have HA0 := Lib.hid (Low.start h0)
  obtain ⟨fp, hr⟩ := h0
  obtain ⟨ao0_0, cap0_0, ao0_1, cap0_1, ao0_2, cap0_2, rfl⟩ := DServer.shape hr
  clear hr
  have HA1 := Lib.hid (Low.start h1)
  obtain ⟨fp, hr⟩ := h1
  obtain ⟨rfl, _, _, _⟩ := DWrite.rd.1 hr
  clear hr
  have HB : Hid (Below w.heap.size w w) := Lib.hid belR
  go_enter Tryz.func3, Tryz.ntmps3
  go_wp2_with fail
  refine (szServer _ a0 (1048576) _ (HA0.out.reads.below (by repeat (first | with_reducible exact belR | with_reducible apply belA | (with_reducible refine belS ?_ ?_; focus (first | omega | (simp; done) | (simp; omega))) | with_reducible apply belN | with_reducible apply belD | with_reducible assumption))) (by omega) (by omega)).mono ?_
  rintro e w1 ⟨rfl, hb⟩
  have hw : Below w.heap.size w w1 := below_call (by repeat (first | with_reducible exact belR | with_reducible apply belA | (with_reducible refine belS ?_ ?_; focus (first | omega | (simp; done) | (simp; omega))) | with_reducible apply belN | with_reducible apply belD | with_reducible assumption)) (by first | omega | (simp; done) | (simp; omega)) hb
  have hsw1 : w.heap.size + 1 + 1 ≤ w1.heap.size := by have y := hb.size; (try simp at y); omega
  have HX_aS : Hid (Box w1 (w.heap.size) #[.string a0.store.name, .slice ao0_0 a0.store.items.length cap0_0, .int .i64 a0.store.auto, .slice ao0_1 a0.applied.length cap0_1, .slice ao0_2 a0.changes.length cap0_2]) := Lib.hid (Box.below (Box.growA (Box.at (by first | rfl | simp))) hb)
  have HX_aW : Hid (Box w1 (w.heap.size + 1) #[.int .i64 a1.device, .int .i64 a1.seq, .int .i64 a1.key.kind, .int .i64 a1.key.n, .string a1.key.text, .string a1.field, .int .i64 a1.n]) := Lib.hid (Box.below (Box.at (by first | rfl | simp)) hb)
  have ⟨cx_aS, zx_aS⟩ := HX_aS.out
  have ⟨cx_aW, zx_aW⟩ := HX_aW.out
  replace HA0 := Lib.hid (HA0.out.below hw)
  replace HA1 := Lib.hid (HA1.out.below hw)
  replace HB := Lib.hid (below_call HB.out HB.out.size hw)
  clear hw
  clear hb
  have hz := szOf_spec ((a0).wt) (1048576)
  by_cases hv_aS : ¬ (((a0).wt : Nat) : Int) ≤ 1048576
  · rw [hz.2 hv_aS]; clear hz
    go_wp2
    all_goals go_ret
    have y := HB.out
    exact ⟨rfl, (by repeat (first | with_reducible exact belR | with_reducible apply belA | (with_reducible refine belS ?_ ?_; focus (first | omega | (simp; done) | (simp; omega))) | with_reducible apply belN | with_reducible apply belD | with_reducible assumption))⟩
  rw [Decidable.not_not] at hv_aS
  rw [hz.1 hv_aS]; clear hz
  go_wp2_with fail
  refine (szWrite _ a1 (1048576 - (((a0).wt : Nat) : Int)) _ (HA1.out.reads.below (by repeat (first | with_reducible exact belR | with_reducible apply belA | (with_reducible refine belS ?_ ?_; focus (first | omega | (simp; done) | (simp; omega))) | with_reducible apply belN | with_reducible apply belD | with_reducible assumption))) (by omega) (by omega)).mono ?_
  rintro e w2 ⟨rfl, hb⟩
  have hw : Below w1.heap.size w1 w2 := below_call (by repeat (first | with_reducible exact belR | with_reducible apply belA | (with_reducible refine belS ?_ ?_; focus (first | omega | (simp; done) | (simp; omega))) | with_reducible apply belN | with_reducible apply belD | with_reducible assumption)) (by first | omega | (simp; done) | (simp; omega)) hb
  have hsw2 : w1.heap.size ≤ w2.heap.size := by have y := hb.size; (try simp at y); omega
  clear cx_aS zx_aS
  replace HX_aS := Lib.hid (HX_aS.out.below hw)
  clear cx_aW zx_aW
  replace HX_aW := Lib.hid (HX_aW.out.below hw)
  have ⟨cx_aS, zx_aS⟩ := HX_aS.out
  have ⟨cx_aW, zx_aW⟩ := HX_aW.out
  replace HA0 := Lib.hid (HA0.out.below hw)
  replace HA1 := Lib.hid (HA1.out.below hw)
  replace HB := Lib.hid (below_call HB.out HB.out.size hw)
  clear hw
  clear hb
  have hz := szOf_spec ((a1).wt) (1048576 - (((a0).wt : Nat) : Int))
  by_cases hv_aW : ¬ (((a1).wt : Nat) : Int) ≤ 1048576 - (((a0).wt : Nat) : Int)
  · rw [hz.2 hv_aW]; clear hz
    go_wp2
    all_goals go_ret
    have y := HB.out
    exact ⟨rfl, (by repeat (first | with_reducible exact belR | with_reducible apply belA | (with_reducible refine belS ?_ ?_; focus (first | omega | (simp; done) | (simp; omega))) | with_reducible apply belN | with_reducible apply belD | with_reducible assumption))⟩
  rw [Decidable.not_not] at hv_aW
  rw [hz.1 hv_aW]; clear hz
  go_upto_region 8 with fail
  refine settle (fun W' => Below w2.heap.size w2 W' ∧ w2.heap.size ≤ W'.heap.size) ⟨(by repeat (first | with_reducible exact belR | with_reducible apply belA | (with_reducible refine belS ?_ ?_; focus (first | omega | (simp; done) | (simp; omega))) | with_reducible apply belN | with_reducible apply belD | with_reducible assumption)), (by first | omega | (simp; done) | (simp; omega))⟩ ?_
  rintro w3 ⟨hw, hsw3⟩
  clear cx_aS zx_aS
  replace HX_aS := Lib.hid (HX_aS.out.below hw)
  clear cx_aW zx_aW
  replace HX_aW := Lib.hid (HX_aW.out.below hw)
  have ⟨cx_aS, zx_aS⟩ := HX_aS.out
  have ⟨cx_aW, zx_aW⟩ := HX_aW.out
  replace HA0 := Lib.hid (HA0.out.below hw)
  replace HA1 := Lib.hid (HA1.out.below hw)
  replace HB := Lib.hid (below_call HB.out HB.out.size hw)
  clear hw
  go_cut [6, 7] (fun p_w0 p_w1 wx => ∃ (lo hi : Nat) (kb_w0 : Nat) (ao_w0_0 : Option Addr) (cap_w0_0 : Nat) (ao_w0_1 : Option Addr) (cap_w0_1 : Nat) (ao_w0_2 : Option Addr) (cap_w0_2 : Nat) (fp_w0 : List Nat), p_w0 = .pointer (some ⟨kb_w0, 0, none⟩) ∧ p_w1 = .int .i64 (f1 a0 a1) ∧ Box wx kb_w0 #[.string ((f0 a0 a1)).store.name, .slice ao_w0_0 ((f0 a0 a1)).store.items.length cap_w0_0, .int .i64 ((f0 a0 a1)).store.auto, .slice ao_w0_1 ((f0 a0 a1)).applied.length cap_w0_1, .slice ao_w0_2 ((f0 a0 a1)).changes.length cap_w0_2] ∧ w3.heap.size ≤ kb_w0 ∧ (kb_w0 < lo ∨ hi ≤ kb_w0) ∧ w3.heap.size ≤ lo ∧ hi ≤ wx.heap.size ∧ Own DServer.rep lo hi wx [.string ((f0 a0 a1)).store.name, .slice ao_w0_0 ((f0 a0 a1)).store.items.length cap_w0_0, .int .i64 ((f0 a0 a1)).store.auto, .slice ao_w0_1 ((f0 a0 a1)).applied.length cap_w0_1, .slice ao_w0_2 ((f0 a0 a1)).changes.length cap_w0_2] (f0 a0 a1) fp_w0 ∧ Below w3.heap.size w3 wx)
  case first =>
    have HSr : Hid (∀ w', Below w3.heap.size w3 w' → (∀ o, w'.cell? ⟨w.heap.size, o, none⟩ = #[.string a0.store.name, .slice ao0_0 a0.store.items.length cap0_0, .int .i64 a0.store.auto, .slice ao0_1 a0.applied.length cap0_1, .slice ao0_2 a0.changes.length cap0_2][o]?) ∧ (∀ o, w'.cell? ⟨w.heap.size + 1, o, none⟩ = #[.int .i64 a1.device, .int .i64 a1.seq, .int .i64 a1.key.kind, .int .i64 a1.key.n, .string a1.key.text, .string a1.field, .int .i64 a1.n][o]?) ∧ Below w3.heap.size w3 w') := Lib.hid fun w' hw' => ⟨fun o => (hw'.cell (p := ⟨w.heap.size, o, none⟩) zx_aS).trans (cx_aS o), fun o => (hw'.cell (p := ⟨w.heap.size + 1, o, none⟩) zx_aW).trans (cx_aW o), hw'⟩
    go_region_held3 (fun w' => (∀ o, w'.cell? ⟨w.heap.size, o, none⟩ = #[.string a0.store.name, .slice ao0_0 a0.store.items.length cap0_0, .int .i64 a0.store.auto, .slice ao0_1 a0.applied.length cap0_1, .slice ao0_2 a0.changes.length cap0_2][o]?) ∧ (∀ o, w'.cell? ⟨w.heap.size + 1, o, none⟩ = #[.int .i64 a1.device, .int .i64 a1.seq, .int .i64 a1.key.kind, .int .i64 a1.key.n, .string a1.key.text, .string a1.field, .int .i64 a1.n][o]?) ∧ Below w3.heap.size w3 w')
      (first | exact HSr.out _ (by repeat (first | with_reducible exact belR | (with_reducible refine belAB ?_ ?_; focus (first | omega | (simp; done) | (simp; omega))) | (with_reducible refine belS ?_ ?_; focus (first | omega | (simp; done) | (simp; omega))) | with_reducible apply belN | with_reducible apply belD | with_reducible assumption)))
      (first | (go_at_call 11; have hx := hq_w0_aW; clear hx; have hS_F6 := ‹_ ∧ _ ∧ Below w3.heap.size w3 _›; refine (hS _ a0 _ a1 _ (hr_w0_aS.below (by repeat (first | with_reducible exact belR | with_reducible apply belA | (with_reducible refine belS ?_ ?_; focus (first | omega | (simp; done) | (simp; omega))) | with_reducible apply belN | with_reducible apply belD | with_reducible assumption))) (hr_w0_aW.below (by repeat (first | with_reducible exact belR | with_reducible apply belA | (with_reducible refine belS ?_ ?_; focus (first | omega | (simp; done) | (simp; omega))) | with_reducible apply belN | with_reducible apply belD | with_reducible assumption))) (by first | omega | exact hv_aS) (by first | omega | exact hv_aW)).mono ?_; rintro e w6 ⟨d_w_0, rfl, hf0, hb_F6⟩; have hq_F6 : Below w3.heap.size w3 w6 := below_call hS_F6.2.2 hS_F6.2.2.size hb_F6; clear hS_F6; have hz_F6 := hq_F6.size; (first | (have hwb_F6 : WB w6 _ #[.string ⟨#[]⟩, .slice none 0 0, .int .i64 0, .slice none 0 0, .slice none 0 0] := (WB.at rfl).keep hb_F6; have ⟨we_F6, wl_F6, wf_F6⟩ := hwb_F6) | (have hwb_F6 := hwb_w0_aW.keep hb_F6; have ⟨we_F6, wl_F6, wf_F6⟩ := hwb_F6) | skip); obtain ⟨ao_w0_0, cap_w0_0, ao_w0_1, cap_w0_1, ao_w0_2, cap_w0_2, rfl⟩ := DServer.fshape hf0) | (go_at_call 13; have hx := hq_w0_aS; clear hx; have hS_w0_aW := ‹_ ∧ _ ∧ Below w3.heap.size w3 _›; refine (toWrite _ a1 _ (HA1.out.reads.below hS_w0_aW.2.2) (by first | omega | (simp [DWrite.wt]))).mono ?_; rintro e w5 ⟨d_w0_aW, rfl, hf_w0_aW, hb_w0_aW⟩; have hq_w0_aW : Below w3.heap.size w3 w5 := below_call hS_w0_aW.2.2 hS_w0_aW.2.2.size hb_w0_aW; clear hS_w0_aW; have hz_w0_aW := hq_w0_aW.size; (first | (have hwb_w0_aW : WB w5 _ #[.string ⟨#[]⟩, .slice none 0 0, .int .i64 0, .slice none 0 0, .slice none 0 0] := (WB.at rfl).keep hb_w0_aW; have ⟨we_w0_aW, wl_w0_aW, wf_w0_aW⟩ := hwb_w0_aW) | (have hwb_w0_aW := hwb_w0_aS.keep hb_w0_aW; have ⟨we_w0_aW, wl_w0_aW, wf_w0_aW⟩ := hwb_w0_aW) | skip); obtain ⟨_, y_w0_aW, _⟩ := id hf_w0_aW; obtain ⟨rfl, _, _, _⟩ := DWrite.rd.1 y_w0_aW; clear y_w0_aW; have hr_w0_aW := hf_w0_aW.reads; replace hr_w0_aS := hr_w0_aS.below (by first | exact hb_w0_aW | exact (belD belR).trans hb_w0_aW | exact below_call (by repeat (first | with_reducible exact belR | with_reducible apply belA | (with_reducible refine belS ?_ ?_; focus (first | omega | (simp; done) | (simp; omega))) | with_reducible apply belN | with_reducible apply belD | with_reducible assumption)) (by first | omega | (simp; done) | (simp; omega)) hb_w0_aW)) | (go_at_call 12; have hS_w0_aS := ‹_ ∧ _ ∧ Below w3.heap.size w3 _›; refine (toServer _ a0 _ (HA0.out.reads.below hS_w0_aS.2.2) (by first | omega | (simp [DServer.wt]))).mono ?_; rintro e w4 ⟨d_w0_aS, rfl, hf_w0_aS, hb_w0_aS⟩; have hq_w0_aS : Below w3.heap.size w3 w4 := below_call hS_w0_aS.2.2 hS_w0_aS.2.2.size hb_w0_aS; clear hS_w0_aS; have hz_w0_aS := hq_w0_aS.size; (first | (have hwb_w0_aS : WB w4 _ #[.string ⟨#[]⟩, .slice none 0 0, .int .i64 0, .slice none 0 0, .slice none 0 0] := (WB.at rfl).growD.keep hb_w0_aS; have ⟨we_w0_aS, wl_w0_aS, wf_w0_aS⟩ := hwb_w0_aS) | skip); obtain ⟨ao_w0_aS_0, cap_w0_aS_0, ao_w0_aS_1, cap_w0_aS_1, ao_w0_aS_2, cap_w0_aS_2, rfl⟩ := DServer.fshape hf_w0_aS; have hr_w0_aS := hf_w0_aS.reads))
    all_goals
      go_wp2_with fail
      go_meet
      obtain ⟨lo0, fp_w0, hlo0, o_w0⟩ := Fresh.ownAtL hf0
      (try simp at hlo0)
      first
        | exact ⟨lo0, w6.heap.size, _, ao_w0_0, cap_w0_0, ao_w0_1, cap_w0_1, ao_w0_2, cap_w0_2, fp_w0, rfl, rfl, (WB.sets [.string ((f0 a0 a1)).store.name, .slice ao_w0_0 ((f0 a0 a1)).store.items.length cap_w0_0, .int .i64 ((f0 a0 a1)).store.auto, .slice ao_w0_1 ((f0 a0 a1)).applied.length cap_w0_1, .slice ao_w0_2 ((f0 a0 a1)).changes.length cap_w0_2] 0 _ _ hwb_F6 (by simp)).box, (by omega), .inl (by omega), (by omega), (Nat.le_of_eq (by simp only [World.size_setCell])), (by repeat (first | exact o_w0 | refine Own.setOut ?_ (.inl (by omega)))), (by have y := hq_F6; exact (by repeat (first | with_reducible exact belR | with_reducible apply belA | (with_reducible refine belS ?_ ?_; focus (first | omega | (simp; done) | (simp; omega))) | with_reducible apply belN | with_reducible apply belD | with_reducible assumption)))⟩
        | exact ⟨lo0, w6.heap.size, w6.heap.size, ao_w0_0, cap_w0_0, ao_w0_1, cap_w0_1, ao_w0_2, cap_w0_2, fp_w0, rfl, rfl, Box.at rfl, (by omega), .inr (by omega), (by omega), (by rw [World.size_alloc]; omega), o_w0.allocA, (by have y := hq_F6; exact (by repeat (first | with_reducible exact belR | with_reducible apply belA | (with_reducible refine belS ?_ ?_; focus (first | omega | (simp; done) | (simp; omega))) | with_reducible apply belN | with_reducible apply belD | with_reducible assumption)))⟩
  obtain ⟨lo_w0, hi_w0, kb_w0, ao_w0_0, cap_w0_0, ao_w0_1, cap_w0_1, ao_w0_2, cap_w0_2, fp_w0, rfl, rfl, hbx_w0, hk1_w0, hk2_w0, hl1_w0, hl2_w0, ho_w0, hw⟩ := hcut
  rename World => w6
  have hsw6 : w3.heap.size ≤ w6.heap.size := hw.size
  clear cx_aS zx_aS
  replace HX_aS := Lib.hid (HX_aS.out.below hw)
  clear cx_aW zx_aW
  replace HX_aW := Lib.hid (HX_aW.out.below hw)
  have HX_w0 := Lib.hid hbx_w0; clear hbx_w0
  have hkz_w0 := HX_w0.out.2
  have H_w0 := Lib.hid ho_w0; clear ho_w0
  have ⟨cx_aS, zx_aS⟩ := HX_aS.out
  have ⟨cx_aW, zx_aW⟩ := HX_aW.out
  have ⟨cx_w0, zx_w0⟩ := HX_w0.out
  replace HA0 := Lib.hid (HA0.out.below hw)
  replace HA1 := Lib.hid (HA1.out.below hw)
  replace HB := Lib.hid (below_call HB.out HB.out.size hw)
  clear hw
  go_wp2_with fail
  refine (toServer _ a0 _ (HA0.out.reads.below (by repeat (first | with_reducible exact belR | with_reducible apply belA | (with_reducible refine belS ?_ ?_; focus (first | omega | (simp; done) | (simp; omega))) | with_reducible apply belN | with_reducible apply belD | with_reducible assumption))) (by first | omega | (simp [DServer.wt]))).mono ?_
  rintro e w7 ⟨d_x0, rfl, hf, hb⟩
  obtain ⟨ao_x0_0, cap_x0_0, ao_x0_1, cap_x0_1, ao_x0_2, cap_x0_2, rfl⟩ := DServer.fshape hf
  obtain ⟨fp_x0, o_x0⟩ := Fresh.own hf (lo := w6.heap.size) (by first | omega | (simp; done) | (simp; omega))
  have H_x0 := Lib.hid o_x0; clear o_x0
  have hw : Below w6.heap.size w6 w7 := below_call (by repeat (first | with_reducible exact belR | with_reducible apply belA | (with_reducible refine belS ?_ ?_; focus (first | omega | (simp; done) | (simp; omega))) | with_reducible apply belN | with_reducible apply belD | with_reducible assumption)) (by first | omega | (simp; done) | (simp; omega)) hb
  have hsw7 : w6.heap.size ≤ w7.heap.size := by have y := hb.size; (try simp at y); omega
  clear cx_aS zx_aS
  replace HX_aS := Lib.hid (HX_aS.out.below hw)
  clear cx_aW zx_aW
  replace HX_aW := Lib.hid (HX_aW.out.below hw)
  clear cx_w0 zx_w0
  replace HX_w0 := Lib.hid (HX_w0.out.below hw)
  have ⟨cx_aS, zx_aS⟩ := HX_aS.out
  have ⟨cx_aW, zx_aW⟩ := HX_aW.out
  have ⟨cx_w0, zx_w0⟩ := HX_w0.out
  replace HA0 := Lib.hid (HA0.out.below hw)
  replace HA1 := Lib.hid (HA1.out.below hw)
  replace H_w0 := Lib.hid (H_w0.out.below hw)
  replace HB := Lib.hid (below_call HB.out HB.out.size hw)
  clear hw
  clear hb hf
  go_upto_region 10 with fail
  refine settle (fun W' => Below w7.heap.size w7 W' ∧ Box W' (w7.heap.size) #[.string (a0).store.name, .slice ao_x0_0 (a0).store.items.length cap_x0_0, .int .i64 (a0).store.auto, .slice ao_x0_1 (a0).applied.length cap_x0_1, .slice ao_x0_2 (a0).changes.length cap_x0_2] ∧ w7.heap.size + 1 ≤ W'.heap.size) ⟨(by repeat (first | with_reducible exact belR | with_reducible apply belA | (with_reducible refine belS ?_ ?_; focus (first | omega | (simp; done) | (simp; omega))) | with_reducible apply belN | with_reducible apply belD | with_reducible assumption)), (Box.at (by first | rfl | simp)), (by first | omega | (simp; done) | (simp; omega))⟩ ?_
  rintro w8 ⟨hw, hx0, hsw8⟩
  clear cx_aS zx_aS
  replace HX_aS := Lib.hid (HX_aS.out.below hw)
  clear cx_aW zx_aW
  replace HX_aW := Lib.hid (HX_aW.out.below hw)
  clear cx_w0 zx_w0
  replace HX_w0 := Lib.hid (HX_w0.out.below hw)
  have HX_x0 := Lib.hid hx0
  clear hx0
  have ⟨cx_aS, zx_aS⟩ := HX_aS.out
  have ⟨cx_aW, zx_aW⟩ := HX_aW.out
  have ⟨cx_w0, zx_w0⟩ := HX_w0.out
  have ⟨cx_x0, zx_x0⟩ := HX_x0.out
  replace HA0 := Lib.hid (HA0.out.below hw)
  replace HA1 := Lib.hid (HA1.out.below hw)
  replace H_w0 := Lib.hid (H_w0.out.below hw)
  replace H_x0 := Lib.hid (H_x0.out.below hw)
  replace HB := Lib.hid (below_call HB.out HB.out.size hw)
  clear hw
  go_cut [9, 10] (fun p_g0 p_g1 wx => ∃ (lo hi : Nat) (kb_g0 : Nat) (ao_g0_0 : Option Addr) (cap_g0_0 : Nat) (ao_g0_1 : Option Addr) (cap_g0_1 : Nat) (ao_g0_2 : Option Addr) (cap_g0_2 : Nat) (fp_g0 : List Nat), p_g0 = .pointer (some ⟨kb_g0, 0, none⟩) ∧ p_g1 = .int .i64 (f1 a0 a1) ∧ Box wx kb_g0 #[.string ((f0 a0 a1)).store.name, .slice ao_g0_0 ((f0 a0 a1)).store.items.length cap_g0_0, .int .i64 ((f0 a0 a1)).store.auto, .slice ao_g0_1 ((f0 a0 a1)).applied.length cap_g0_1, .slice ao_g0_2 ((f0 a0 a1)).changes.length cap_g0_2] ∧ w8.heap.size ≤ kb_g0 ∧ (kb_g0 < lo ∨ hi ≤ kb_g0) ∧ w8.heap.size ≤ lo ∧ hi ≤ wx.heap.size ∧ Own DServer.rep lo hi wx [.string ((f0 a0 a1)).store.name, .slice ao_g0_0 ((f0 a0 a1)).store.items.length cap_g0_0, .int .i64 ((f0 a0 a1)).store.auto, .slice ao_g0_1 ((f0 a0 a1)).applied.length cap_g0_1, .slice ao_g0_2 ((f0 a0 a1)).changes.length cap_g0_2] (f0 a0 a1) fp_g0 ∧ Below w8.heap.size w8 wx)
  case first =>
    have HSr : Hid (∀ w', Below w8.heap.size w8 w' → (∀ o, w'.cell? ⟨w7.heap.size, o, none⟩ = #[.string (a0).store.name, .slice ao_x0_0 (a0).store.items.length cap_x0_0, .int .i64 (a0).store.auto, .slice ao_x0_1 (a0).applied.length cap_x0_1, .slice ao_x0_2 (a0).changes.length cap_x0_2][o]?) ∧ (∀ o, w'.cell? ⟨w.heap.size + 1, o, none⟩ = #[.int .i64 a1.device, .int .i64 a1.seq, .int .i64 a1.key.kind, .int .i64 a1.key.n, .string a1.key.text, .string a1.field, .int .i64 a1.n][o]?) ∧ Below w8.heap.size w8 w') := Lib.hid fun w' hw' => ⟨fun o => (hw'.cell (p := ⟨w7.heap.size, o, none⟩) zx_x0).trans (cx_x0 o), fun o => (hw'.cell (p := ⟨w.heap.size + 1, o, none⟩) zx_aW).trans (cx_aW o), hw'⟩
    go_region_held3 (fun w' => (∀ o, w'.cell? ⟨w7.heap.size, o, none⟩ = #[.string (a0).store.name, .slice ao_x0_0 (a0).store.items.length cap_x0_0, .int .i64 (a0).store.auto, .slice ao_x0_1 (a0).applied.length cap_x0_1, .slice ao_x0_2 (a0).changes.length cap_x0_2][o]?) ∧ (∀ o, w'.cell? ⟨w.heap.size + 1, o, none⟩ = #[.int .i64 a1.device, .int .i64 a1.seq, .int .i64 a1.key.kind, .int .i64 a1.key.n, .string a1.key.text, .string a1.field, .int .i64 a1.n][o]?) ∧ Below w8.heap.size w8 w')
      (first | exact HSr.out _ (by repeat (first | with_reducible exact belR | (with_reducible refine belAB ?_ ?_; focus (first | omega | (simp; done) | (simp; omega))) | (with_reducible refine belS ?_ ?_; focus (first | omega | (simp; done) | (simp; omega))) | with_reducible apply belN | with_reducible apply belD | with_reducible assumption)))
      (first | (go_at_call 14; have hx := hq_g0_aW; clear hx; have hS_F10 := ‹_ ∧ _ ∧ Below w8.heap.size w8 _›; refine (hI _ a0 _ a1 _ (H_x0.out.reads.below hS_F10.2.2) (hr_g0_aW.below (by repeat (first | with_reducible exact belR | with_reducible apply belA | (with_reducible refine belS ?_ ?_; focus (first | omega | (simp; done) | (simp; omega))) | with_reducible apply belN | with_reducible apply belD | with_reducible assumption))) (by first | omega | exact hv_aS) (by first | omega | exact hv_aW)).mono ?_; rintro e w10 ⟨d_g_0, rfl, hf0, hb_F10⟩; have hq_F10 : Below w8.heap.size w8 w10 := below_call hS_F10.2.2 hS_F10.2.2.size hb_F10; clear hS_F10; have hz_F10 := hq_F10.size; (first | (have hwb_F10 : WB w10 _ #[.string ⟨#[]⟩, .slice none 0 0, .int .i64 0, .slice none 0 0, .slice none 0 0] := (WB.at rfl).keep hb_F10; have ⟨we_F10, wl_F10, wf_F10⟩ := hwb_F10) | (have hwb_F10 := hwb_g0_aW.keep hb_F10; have ⟨we_F10, wl_F10, wf_F10⟩ := hwb_F10) | skip); obtain ⟨ao_g0_0, cap_g0_0, ao_g0_1, cap_g0_1, ao_g0_2, cap_g0_2, rfl⟩ := DServer.fshape hf0) | (go_at_call 13; have hS_g0_aW := ‹_ ∧ _ ∧ Below w8.heap.size w8 _›; refine (toWrite _ a1 _ (HA1.out.reads.below hS_g0_aW.2.2) (by first | omega | (simp [DWrite.wt]))).mono ?_; rintro e w9 ⟨d_g0_aW, rfl, hf_g0_aW, hb_g0_aW⟩; have hq_g0_aW : Below w8.heap.size w8 w9 := below_call hS_g0_aW.2.2 hS_g0_aW.2.2.size hb_g0_aW; clear hS_g0_aW; have hz_g0_aW := hq_g0_aW.size; (first | (have hwb_g0_aW : WB w9 _ #[.string ⟨#[]⟩, .slice none 0 0, .int .i64 0, .slice none 0 0, .slice none 0 0] := (WB.at rfl).growD.keep hb_g0_aW; have ⟨we_g0_aW, wl_g0_aW, wf_g0_aW⟩ := hwb_g0_aW) | skip); obtain ⟨_, y_g0_aW, _⟩ := id hf_g0_aW; obtain ⟨rfl, _, _, _⟩ := DWrite.rd.1 y_g0_aW; clear y_g0_aW; have hr_g0_aW := hf_g0_aW.reads))
    all_goals
      go_wp2_with fail
      go_meet
      obtain ⟨lo0, fp_g0, hlo0, o_g0⟩ := Fresh.ownAtL hf0
      (try simp at hlo0)
      first
        | exact ⟨lo0, w10.heap.size, _, ao_g0_0, cap_g0_0, ao_g0_1, cap_g0_1, ao_g0_2, cap_g0_2, fp_g0, rfl, rfl, (WB.sets [.string ((f0 a0 a1)).store.name, .slice ao_g0_0 ((f0 a0 a1)).store.items.length cap_g0_0, .int .i64 ((f0 a0 a1)).store.auto, .slice ao_g0_1 ((f0 a0 a1)).applied.length cap_g0_1, .slice ao_g0_2 ((f0 a0 a1)).changes.length cap_g0_2] 0 _ _ hwb_F10 (by simp)).box, (by omega), .inl (by omega), (by omega), (Nat.le_of_eq (by simp only [World.size_setCell])), (by repeat (first | exact o_g0 | refine Own.setOut ?_ (.inl (by omega)))), (by have y := hq_F10; exact (by repeat (first | with_reducible exact belR | with_reducible apply belA | (with_reducible refine belS ?_ ?_; focus (first | omega | (simp; done) | (simp; omega))) | with_reducible apply belN | with_reducible apply belD | with_reducible assumption)))⟩
        | exact ⟨lo0, w10.heap.size, w10.heap.size, ao_g0_0, cap_g0_0, ao_g0_1, cap_g0_1, ao_g0_2, cap_g0_2, fp_g0, rfl, rfl, Box.at rfl, (by omega), .inr (by omega), (by omega), (by rw [World.size_alloc]; omega), o_g0.allocA, (by have y := hq_F10; exact (by repeat (first | with_reducible exact belR | with_reducible apply belA | (with_reducible refine belS ?_ ?_; focus (first | omega | (simp; done) | (simp; omega))) | with_reducible apply belN | with_reducible apply belD | with_reducible assumption)))⟩
  obtain ⟨lo_g0, hi_g0, kb_g0, ao_g0_0, cap_g0_0, ao_g0_1, cap_g0_1, ao_g0_2, cap_g0_2, fp_g0, rfl, rfl, hbx_g0, hk1_g0, hk2_g0, hl1_g0, hl2_g0, ho_g0, hw⟩ := hcut
  rename World => w10
  have hsw10 : w8.heap.size ≤ w10.heap.size := hw.size
  clear cx_aS zx_aS
  replace HX_aS := Lib.hid (HX_aS.out.below hw)
  clear cx_aW zx_aW
  replace HX_aW := Lib.hid (HX_aW.out.below hw)
  clear cx_w0 zx_w0
  replace HX_w0 := Lib.hid (HX_w0.out.below hw)
  clear cx_x0 zx_x0
  replace HX_x0 := Lib.hid (HX_x0.out.below hw)
  have HX_g0 := Lib.hid hbx_g0; clear hbx_g0
  have hkz_g0 := HX_g0.out.2
  have H_g0 := Lib.hid ho_g0; clear ho_g0
  have ⟨cx_aS, zx_aS⟩ := HX_aS.out
  have ⟨cx_aW, zx_aW⟩ := HX_aW.out
  have ⟨cx_w0, zx_w0⟩ := HX_w0.out
  have ⟨cx_x0, zx_x0⟩ := HX_x0.out
  have ⟨cx_g0, zx_g0⟩ := HX_g0.out
  replace HA0 := Lib.hid (HA0.out.below hw)
  replace HA1 := Lib.hid (HA1.out.below hw)
  replace H_w0 := Lib.hid (H_w0.out.below hw)
  replace H_x0 := Lib.hid (H_x0.out.below hw)
  replace HB := Lib.hid (below_call HB.out HB.out.size hw)
  clear hw
  go_wp2_with fail
  refine (eqServer _ _ (f0 a0 a1) _ (H_g0.out.reads.below (by repeat (first | with_reducible exact belR | with_reducible apply belA | (with_reducible refine belS ?_ ?_; focus (first | omega | (simp; done) | (simp; omega))) | with_reducible apply belN | with_reducible apply belD | with_reducible assumption))) (H_w0.out.reads.below (by repeat (first | with_reducible exact belR | with_reducible apply belA | (with_reducible refine belS ?_ ?_; focus (first | omega | (simp; done) | (simp; omega))) | with_reducible apply belN | with_reducible apply belD | with_reducible assumption)))).mono ?_
  rintro e w11 ⟨rfl, hb⟩
  have hw : Below w10.heap.size w10 w11 := below_call (by repeat (first | with_reducible exact belR | with_reducible apply belA | (with_reducible refine belS ?_ ?_; focus (first | omega | (simp; done) | (simp; omega))) | with_reducible apply belN | with_reducible apply belD | with_reducible assumption)) (by first | omega | (simp; done) | (simp; omega)) hb
  have hsw11 : w10.heap.size ≤ w11.heap.size := by have y := hb.size; (try simp at y); omega
  clear cx_aS zx_aS
  replace HX_aS := Lib.hid (HX_aS.out.below hw)
  clear cx_aW zx_aW
  replace HX_aW := Lib.hid (HX_aW.out.below hw)
  clear cx_w0 zx_w0
  replace HX_w0 := Lib.hid (HX_w0.out.below hw)
  clear cx_x0 zx_x0
  replace HX_x0 := Lib.hid (HX_x0.out.below hw)
  clear cx_g0 zx_g0
  replace HX_g0 := Lib.hid (HX_g0.out.below hw)
  have ⟨cx_aS, zx_aS⟩ := HX_aS.out
  have ⟨cx_aW, zx_aW⟩ := HX_aW.out
  have ⟨cx_w0, zx_w0⟩ := HX_w0.out
  have ⟨cx_x0, zx_x0⟩ := HX_x0.out
  have ⟨cx_g0, zx_g0⟩ := HX_g0.out
  replace HA0 := Lib.hid (HA0.out.below hw)
  replace HA1 := Lib.hid (HA1.out.below hw)
  replace H_w0 := Lib.hid (H_w0.out.below hw)
  replace H_x0 := Lib.hid (H_x0.out.below hw)
  replace H_g0 := Lib.hid (H_g0.out.below hw)
  replace HB := Lib.hid (below_call HB.out HB.out.size hw)
  clear hw
  clear hb
  go_wp2_with fail
  refine settle (fun W' => Below w11.heap.size w11 W' ∧ w11.heap.size ≤ W'.heap.size) ⟨(by repeat (first | with_reducible exact belR | with_reducible apply belA | (with_reducible refine belS ?_ ?_; focus (first | omega | (simp; done) | (simp; omega))) | with_reducible apply belN | with_reducible apply belD | with_reducible assumption)), (by first | omega | (simp; done) | (simp; omega))⟩ ?_
  rintro w12 ⟨hw, hsw12⟩
  clear cx_aS zx_aS
  replace HX_aS := Lib.hid (HX_aS.out.below hw)
  clear cx_aW zx_aW
  replace HX_aW := Lib.hid (HX_aW.out.below hw)
  clear cx_w0 zx_w0
  replace HX_w0 := Lib.hid (HX_w0.out.below hw)
  clear cx_x0 zx_x0
  replace HX_x0 := Lib.hid (HX_x0.out.below hw)
  clear cx_g0 zx_g0
  replace HX_g0 := Lib.hid (HX_g0.out.below hw)
  have ⟨cx_aS, zx_aS⟩ := HX_aS.out
  have ⟨cx_aW, zx_aW⟩ := HX_aW.out
  have ⟨cx_w0, zx_w0⟩ := HX_w0.out
  have ⟨cx_x0, zx_x0⟩ := HX_x0.out
  have ⟨cx_g0, zx_g0⟩ := HX_g0.out
  replace HA0 := Lib.hid (HA0.out.below hw)
  replace HA1 := Lib.hid (HA1.out.below hw)
  replace H_w0 := Lib.hid (H_w0.out.below hw)
  replace H_x0 := Lib.hid (H_x0.out.below hw)
  replace H_g0 := Lib.hid (H_g0.out.below hw)
  replace HB := Lib.hid (below_call HB.out HB.out.size hw)
  clear hw
  go_region_held3 (fun w' => (∀ o, w'.cell? ⟨w7.heap.size, o, none⟩ = #[.string (a0).store.name, .slice ao_x0_0 (a0).store.items.length cap_x0_0, .int .i64 (a0).store.auto, .slice ao_x0_1 (a0).applied.length cap_x0_1, .slice ao_x0_2 (a0).changes.length cap_x0_2][o]?) ∧ (∀ o, w'.cell? ⟨w.heap.size, o, none⟩ = #[.string a0.store.name, .slice ao0_0 a0.store.items.length cap0_0, .int .i64 a0.store.auto, .slice ao0_1 a0.applied.length cap0_1, .slice ao0_2 a0.changes.length cap0_2][o]?) ∧ Below w12.heap.size w12 w')
    (first | exact ⟨fun o => (World.cell?_drew _ _ |>.trans <| hq_E14.cell (p := ⟨w7.heap.size, o, none⟩) zx_x0).trans (cx_x0 o), fun o => (World.cell?_drew _ _ |>.trans <| hq_E14.cell (p := ⟨w.heap.size, o, none⟩) zx_aS).trans (cx_aS o), belD hq_E14⟩ | exact ⟨fun o => (hq_E14.cell (p := ⟨w7.heap.size, o, none⟩) zx_x0).trans (cx_x0 o), fun o => (hq_E14.cell (p := ⟨w.heap.size, o, none⟩) zx_aS).trans (cx_aS o), hq_E14⟩ | exact ⟨fun o => (World.cell?_drew _ _ |>.trans <| hq_x0_e12.cell (p := ⟨w7.heap.size, o, none⟩) zx_x0).trans (cx_x0 o), fun o => (World.cell?_drew _ _ |>.trans <| hq_x0_e12.cell (p := ⟨w.heap.size, o, none⟩) zx_aS).trans (cx_aS o), belD hq_x0_e12⟩ | exact ⟨fun o => (hq_x0_e12.cell (p := ⟨w7.heap.size, o, none⟩) zx_x0).trans (cx_x0 o), fun o => (hq_x0_e12.cell (p := ⟨w.heap.size, o, none⟩) zx_aS).trans (cx_aS o), hq_x0_e12⟩ | exact ⟨cx_x0, cx_aS, belR⟩ | exact ⟨cx_x0, cx_aS, belD belR⟩)
    (first | (go_at_call 15; have hx := hq_x0_e12; clear hx; have hS_E14 := ‹_ ∧ _ ∧ Below w12.heap.size w12 _›; refine (eqServer _ _ a0 _ (H_x0.out.reads.below hS_E14.2.2) (hr_x0_e12.below (by first | exact belR | exact belD belR | exact belN (belD belR)))).mono ?_; rintro e w14 ⟨rfl, hb_E14⟩; have hq_E14 : Below w12.heap.size w12 w14 := below_call hS_E14.2.2 hS_E14.2.2.size hb_E14; clear hS_E14) | (go_at_call 12; have hS_x0_e12 := ‹_ ∧ _ ∧ Below w12.heap.size w12 _›; refine (toServer _ a0 _ (HA0.out.reads.below hS_x0_e12.2.2) (by first | omega | (simp [DServer.wt]))).mono ?_; rintro e w13 ⟨d_x0_e12, rfl, hf_x0_e12, hb_x0_e12⟩; have hq_x0_e12 : Below w12.heap.size w12 w13 := below_call hS_x0_e12.2.2 hS_x0_e12.2.2.size hb_x0_e12; clear hS_x0_e12; obtain ⟨ao_x0_e12_0, cap_x0_e12_0, ao_x0_e12_1, cap_x0_e12_1, ao_x0_e12_2, cap_x0_e12_2, rfl⟩ := DServer.fshape hf_x0_e12; have hr_x0_e12 := hf_x0_e12.reads))
  have hw := hq_E14
  have hsw14 : w12.heap.size ≤ w14.heap.size := hq_E14.size
  clear cx_aS zx_aS
  replace HX_aS := Lib.hid (HX_aS.out.below hw)
  clear cx_aW zx_aW
  replace HX_aW := Lib.hid (HX_aW.out.below hw)
  clear cx_w0 zx_w0
  replace HX_w0 := Lib.hid (HX_w0.out.below hw)
  clear cx_x0 zx_x0
  replace HX_x0 := Lib.hid (HX_x0.out.below hw)
  clear cx_g0 zx_g0
  replace HX_g0 := Lib.hid (HX_g0.out.below hw)
  have ⟨cx_aS, zx_aS⟩ := HX_aS.out
  have ⟨cx_aW, zx_aW⟩ := HX_aW.out
  have ⟨cx_w0, zx_w0⟩ := HX_w0.out
  have ⟨cx_x0, zx_x0⟩ := HX_x0.out
  have ⟨cx_g0, zx_g0⟩ := HX_g0.out
  replace HA0 := Lib.hid (HA0.out.below hw)
  replace HA1 := Lib.hid (HA1.out.below hw)
  replace H_w0 := Lib.hid (H_w0.out.below hw)
  replace H_x0 := Lib.hid (H_x0.out.below hw)
  replace H_g0 := Lib.hid (H_g0.out.below hw)
  replace HB := Lib.hid (below_call HB.out HB.out.size hw)
  clear hw
  go_wp2_with fail
  have hk_x0 := (hm_x0 a0 (by first | omega | exact hv_aS))
  refine (markServer _ a0 fp_x0 (1) _ H_x0.out.rd H_x0.out.nodup (by omega)).mono ?_
  rintro e w15 ⟨rfl, hrd, hc⟩
  have hnew := Own.mk hrd H_x0.out.nodup (H_x0.out.ivl)
  have hq := H_x0.out.ivl
  have hsw15 : w14.heap.size ≤ w15.heap.size := hc.size
  clear cx_aS zx_aS
  replace HX_aS := Lib.hid (HX_aS.out.chg hc hq (by omega))
  clear cx_aW zx_aW
  replace HX_aW := Lib.hid (HX_aW.out.chg hc hq (by omega))
  clear cx_w0 zx_w0
  replace HX_w0 := Lib.hid (HX_w0.out.chg hc hq (by omega))
  clear cx_x0 zx_x0
  replace HX_x0 := Lib.hid (HX_x0.out.chg hc hq (by omega))
  clear cx_g0 zx_g0
  replace HX_g0 := Lib.hid (HX_g0.out.chg hc hq (by omega))
  have ⟨cx_aS, zx_aS⟩ := HX_aS.out
  have ⟨cx_aW, zx_aW⟩ := HX_aW.out
  have ⟨cx_w0, zx_w0⟩ := HX_w0.out
  have ⟨cx_x0, zx_x0⟩ := HX_x0.out
  have ⟨cx_g0, zx_g0⟩ := HX_g0.out
  replace HA0 := Lib.hid (HA0.out.chg hc hq (by omega))
  replace HA1 := Lib.hid (HA1.out.chg hc hq (by omega))
  replace H_w0 := Lib.hid (H_w0.out.chg hc (Own.apart H_w0.out H_x0.out (by omega)))
  replace H_g0 := Lib.hid (H_g0.out.chg hc (Own.apart H_g0.out H_x0.out (by omega)))
  replace HB := Lib.hid (Below.chg HB.out hc hq (by omega) HB.out.size)
  clear hq
  replace H_x0 := Lib.hid hnew; clear hnew hrd hc
  go_wp2_with fail
  refine (eqServer _ _ (f0 a0 a1) _ (H_g0.out.reads.below (by repeat (first | with_reducible exact belR | with_reducible apply belA | (with_reducible refine belS ?_ ?_; focus (first | omega | (simp; done) | (simp; omega))) | with_reducible apply belN | with_reducible apply belD | with_reducible assumption))) (H_w0.out.reads.below (by repeat (first | with_reducible exact belR | with_reducible apply belA | (with_reducible refine belS ?_ ?_; focus (first | omega | (simp; done) | (simp; omega))) | with_reducible apply belN | with_reducible apply belD | with_reducible assumption)))).mono ?_
  rintro e w16 ⟨rfl, hb⟩
  have hw : Below w15.heap.size w15 w16 := below_call (by repeat (first | with_reducible exact belR | with_reducible apply belA | (with_reducible refine belS ?_ ?_; focus (first | omega | (simp; done) | (simp; omega))) | with_reducible apply belN | with_reducible apply belD | with_reducible assumption)) (by first | omega | (simp; done) | (simp; omega)) hb
  have hsw16 : w15.heap.size ≤ w16.heap.size := by have y := hb.size; (try simp at y); omega
  clear cx_aS zx_aS
  replace HX_aS := Lib.hid (HX_aS.out.below hw)
  clear cx_aW zx_aW
  replace HX_aW := Lib.hid (HX_aW.out.below hw)
  clear cx_w0 zx_w0
  replace HX_w0 := Lib.hid (HX_w0.out.below hw)
  clear cx_x0 zx_x0
  replace HX_x0 := Lib.hid (HX_x0.out.below hw)
  clear cx_g0 zx_g0
  replace HX_g0 := Lib.hid (HX_g0.out.below hw)
  have ⟨cx_aS, zx_aS⟩ := HX_aS.out
  have ⟨cx_aW, zx_aW⟩ := HX_aW.out
  have ⟨cx_w0, zx_w0⟩ := HX_w0.out
  have ⟨cx_x0, zx_x0⟩ := HX_x0.out
  have ⟨cx_g0, zx_g0⟩ := HX_g0.out
  replace HA0 := Lib.hid (HA0.out.below hw)
  replace HA1 := Lib.hid (HA1.out.below hw)
  replace H_w0 := Lib.hid (H_w0.out.below hw)
  replace H_x0 := Lib.hid (H_x0.out.below hw)
  replace H_g0 := Lib.hid (H_g0.out.below hw)
  replace HB := Lib.hid (below_call HB.out HB.out.size hw)
  clear hw
  clear hb
  go_wp2_with fail
  have hk_g0 := (hm_g0 a0 a1 (by first | omega | exact hv_aS) (by first | omega | exact hv_aW))
  refine (markServer _ (f0 a0 a1) fp_g0 (1) _ H_g0.out.rd H_g0.out.nodup (by omega)).mono ?_
  rintro e w17 ⟨rfl, hrd, hc⟩
  have hnew := Own.mk hrd H_g0.out.nodup (H_g0.out.ivl)
  have hq := H_g0.out.ivl
  have hsw17 : w16.heap.size ≤ w17.heap.size := hc.size
  clear cx_aS zx_aS
  replace HX_aS := Lib.hid (HX_aS.out.chg hc hq (by omega))
  clear cx_aW zx_aW
  replace HX_aW := Lib.hid (HX_aW.out.chg hc hq (by omega))
  clear cx_w0 zx_w0
  replace HX_w0 := Lib.hid (HX_w0.out.chg hc hq (by omega))
  clear cx_x0 zx_x0
  replace HX_x0 := Lib.hid (HX_x0.out.chg hc hq (by omega))
  clear cx_g0 zx_g0
  replace HX_g0 := Lib.hid (HX_g0.out.chg hc hq (by omega))
  have ⟨cx_aS, zx_aS⟩ := HX_aS.out
  have ⟨cx_aW, zx_aW⟩ := HX_aW.out
  have ⟨cx_w0, zx_w0⟩ := HX_w0.out
  have ⟨cx_x0, zx_x0⟩ := HX_x0.out
  have ⟨cx_g0, zx_g0⟩ := HX_g0.out
  replace HA0 := Lib.hid (HA0.out.chg hc hq (by omega))
  replace HA1 := Lib.hid (HA1.out.chg hc hq (by omega))
  replace H_w0 := Lib.hid (H_w0.out.chg hc (Own.apart H_w0.out H_g0.out (by omega)))
  replace H_x0 := Lib.hid (H_x0.out.chg hc (Own.apart H_x0.out H_g0.out (by omega)))
  replace HB := Lib.hid (Below.chg HB.out hc hq (by omega) HB.out.size)
  clear hq
  replace H_g0 := Lib.hid hnew; clear hnew hrd hc
  go_wp2_with fail
  refine (heldServer _ (f0 a0 a1) (1) _ (H_g0.out.reads.below (by repeat (first | with_reducible exact belR | with_reducible apply belA | (with_reducible refine belS ?_ ?_; focus (first | omega | (simp; done) | (simp; omega))) | with_reducible apply belN | with_reducible apply belD | with_reducible assumption))) (by omega)).mono ?_
  rintro e w18 ⟨rfl, hb⟩
  have hw : Below w17.heap.size w17 w18 := below_call (by repeat (first | with_reducible exact belR | with_reducible apply belA | (with_reducible refine belS ?_ ?_; focus (first | omega | (simp; done) | (simp; omega))) | with_reducible apply belN | with_reducible apply belD | with_reducible assumption)) (by first | omega | (simp; done) | (simp; omega)) hb
  have hsw18 : w17.heap.size ≤ w18.heap.size := by have y := hb.size; (try simp at y); omega
  clear cx_aS zx_aS
  replace HX_aS := Lib.hid (HX_aS.out.below hw)
  clear cx_aW zx_aW
  replace HX_aW := Lib.hid (HX_aW.out.below hw)
  clear cx_w0 zx_w0
  replace HX_w0 := Lib.hid (HX_w0.out.below hw)
  clear cx_x0 zx_x0
  replace HX_x0 := Lib.hid (HX_x0.out.below hw)
  clear cx_g0 zx_g0
  replace HX_g0 := Lib.hid (HX_g0.out.below hw)
  have ⟨cx_aS, zx_aS⟩ := HX_aS.out
  have ⟨cx_aW, zx_aW⟩ := HX_aW.out
  have ⟨cx_w0, zx_w0⟩ := HX_w0.out
  have ⟨cx_x0, zx_x0⟩ := HX_x0.out
  have ⟨cx_g0, zx_g0⟩ := HX_g0.out
  replace HA0 := Lib.hid (HA0.out.below hw)
  replace HA1 := Lib.hid (HA1.out.below hw)
  replace H_w0 := Lib.hid (H_w0.out.below hw)
  replace H_x0 := Lib.hid (H_x0.out.below hw)
  replace H_g0 := Lib.hid (H_g0.out.below hw)
  replace HB := Lib.hid (below_call HB.out HB.out.size hw)
  clear hw
  clear hb
  go_upto_region 27 with fail
  refine settle (fun W' => Below w18.heap.size w18 W' ∧ w18.heap.size ≤ W'.heap.size) ⟨(by repeat (first | with_reducible exact belR | with_reducible apply belA | (with_reducible refine belS ?_ ?_; focus (first | omega | (simp; done) | (simp; omega))) | with_reducible apply belN | with_reducible apply belD | with_reducible assumption)), (by first | omega | (simp; done) | (simp; omega))⟩ ?_
  rintro w19 ⟨hw, hsw19⟩
  clear cx_aS zx_aS
  replace HX_aS := Lib.hid (HX_aS.out.below hw)
  clear cx_aW zx_aW
  replace HX_aW := Lib.hid (HX_aW.out.below hw)
  clear cx_w0 zx_w0
  replace HX_w0 := Lib.hid (HX_w0.out.below hw)
  clear cx_x0 zx_x0
  replace HX_x0 := Lib.hid (HX_x0.out.below hw)
  clear cx_g0 zx_g0
  replace HX_g0 := Lib.hid (HX_g0.out.below hw)
  have ⟨cx_aS, zx_aS⟩ := HX_aS.out
  have ⟨cx_aW, zx_aW⟩ := HX_aW.out
  have ⟨cx_w0, zx_w0⟩ := HX_w0.out
  have ⟨cx_x0, zx_x0⟩ := HX_x0.out
  have ⟨cx_g0, zx_g0⟩ := HX_g0.out
  replace HA0 := Lib.hid (HA0.out.below hw)
  replace HA1 := Lib.hid (HA1.out.below hw)
  replace H_w0 := Lib.hid (H_w0.out.below hw)
  replace H_x0 := Lib.hid (H_x0.out.below hw)
  replace H_g0 := Lib.hid (H_g0.out.below hw)
  replace HB := Lib.hid (below_call HB.out HB.out.size hw)
  clear hw
  go_cut [14, 15] (fun p_h0 p_h1 wx => ∃ (lo hi : Nat) (kb_h0 : Nat) (ao_h0_0 : Option Addr) (cap_h0_0 : Nat) (ao_h0_1 : Option Addr) (cap_h0_1 : Nat) (ao_h0_2 : Option Addr) (cap_h0_2 : Nat) (fp_h0 : List Nat), p_h0 = .pointer (some ⟨kb_h0, 0, none⟩) ∧ p_h1 = .int .i64 (f1 a0 a1) ∧ Box wx kb_h0 #[.string ((f0 a0 a1)).store.name, .slice ao_h0_0 ((f0 a0 a1)).store.items.length cap_h0_0, .int .i64 ((f0 a0 a1)).store.auto, .slice ao_h0_1 ((f0 a0 a1)).applied.length cap_h0_1, .slice ao_h0_2 ((f0 a0 a1)).changes.length cap_h0_2] ∧ w19.heap.size ≤ kb_h0 ∧ (kb_h0 < lo ∨ hi ≤ kb_h0) ∧ w19.heap.size ≤ lo ∧ hi ≤ wx.heap.size ∧ Own DServer.rep lo hi wx [.string ((f0 a0 a1)).store.name, .slice ao_h0_0 ((f0 a0 a1)).store.items.length cap_h0_0, .int .i64 ((f0 a0 a1)).store.auto, .slice ao_h0_1 ((f0 a0 a1)).applied.length cap_h0_1, .slice ao_h0_2 ((f0 a0 a1)).changes.length cap_h0_2] (f0 a0 a1) fp_h0 ∧ Below w19.heap.size w19 wx)
  case first =>
    have HSr : Hid (∀ w', Below w19.heap.size w19 w' → (∀ o, w'.cell? ⟨w.heap.size, o, none⟩ = #[.string a0.store.name, .slice ao0_0 a0.store.items.length cap0_0, .int .i64 a0.store.auto, .slice ao0_1 a0.applied.length cap0_1, .slice ao0_2 a0.changes.length cap0_2][o]?) ∧ (∀ o, w'.cell? ⟨w.heap.size + 1, o, none⟩ = #[.int .i64 a1.device, .int .i64 a1.seq, .int .i64 a1.key.kind, .int .i64 a1.key.n, .string a1.key.text, .string a1.field, .int .i64 a1.n][o]?) ∧ Below w19.heap.size w19 w') := Lib.hid fun w' hw' => ⟨fun o => (hw'.cell (p := ⟨w.heap.size, o, none⟩) zx_aS).trans (cx_aS o), fun o => (hw'.cell (p := ⟨w.heap.size + 1, o, none⟩) zx_aW).trans (cx_aW o), hw'⟩
    go_region_held3 (fun w' => (∀ o, w'.cell? ⟨w.heap.size, o, none⟩ = #[.string a0.store.name, .slice ao0_0 a0.store.items.length cap0_0, .int .i64 a0.store.auto, .slice ao0_1 a0.applied.length cap0_1, .slice ao0_2 a0.changes.length cap0_2][o]?) ∧ (∀ o, w'.cell? ⟨w.heap.size + 1, o, none⟩ = #[.int .i64 a1.device, .int .i64 a1.seq, .int .i64 a1.key.kind, .int .i64 a1.key.n, .string a1.key.text, .string a1.field, .int .i64 a1.n][o]?) ∧ Below w19.heap.size w19 w')
      (first | exact HSr.out _ (by repeat (first | with_reducible exact belR | (with_reducible refine belAB ?_ ?_; focus (first | omega | (simp; done) | (simp; omega))) | (with_reducible refine belS ?_ ?_; focus (first | omega | (simp; done) | (simp; omega))) | with_reducible apply belN | with_reducible apply belD | with_reducible assumption)))
      (first | (go_at_call 14; have hx := hq_h0_aW; clear hx; have hS_F22 := ‹_ ∧ _ ∧ Below w19.heap.size w19 _›; refine (hI _ a0 _ a1 _ (hr_h0_aS.below (by repeat (first | with_reducible exact belR | with_reducible apply belA | (with_reducible refine belS ?_ ?_; focus (first | omega | (simp; done) | (simp; omega))) | with_reducible apply belN | with_reducible apply belD | with_reducible assumption))) (hr_h0_aW.below (by repeat (first | with_reducible exact belR | with_reducible apply belA | (with_reducible refine belS ?_ ?_; focus (first | omega | (simp; done) | (simp; omega))) | with_reducible apply belN | with_reducible apply belD | with_reducible assumption))) (by first | omega | exact hv_aS) (by first | omega | exact hv_aW)).mono ?_; rintro e w22 ⟨d_h_0, rfl, hf0, hb_F22⟩; have hq_F22 : Below w19.heap.size w19 w22 := below_call hS_F22.2.2 hS_F22.2.2.size hb_F22; clear hS_F22; have hz_F22 := hq_F22.size; (first | (have hwb_F22 : WB w22 _ #[.string ⟨#[]⟩, .slice none 0 0, .int .i64 0, .slice none 0 0, .slice none 0 0] := (WB.at rfl).keep hb_F22; have ⟨we_F22, wl_F22, wf_F22⟩ := hwb_F22) | (have hwb_F22 := hwb_h0_aW.keep hb_F22; have ⟨we_F22, wl_F22, wf_F22⟩ := hwb_F22) | skip); obtain ⟨ao_h0_0, cap_h0_0, ao_h0_1, cap_h0_1, ao_h0_2, cap_h0_2, rfl⟩ := DServer.fshape hf0) | (go_at_call 13; have hx := hq_h0_aS; clear hx; have hS_h0_aW := ‹_ ∧ _ ∧ Below w19.heap.size w19 _›; refine (toWrite _ a1 _ (HA1.out.reads.below hS_h0_aW.2.2) (by first | omega | (simp [DWrite.wt]))).mono ?_; rintro e w21 ⟨d_h0_aW, rfl, hf_h0_aW, hb_h0_aW⟩; have hq_h0_aW : Below w19.heap.size w19 w21 := below_call hS_h0_aW.2.2 hS_h0_aW.2.2.size hb_h0_aW; clear hS_h0_aW; have hz_h0_aW := hq_h0_aW.size; (first | (have hwb_h0_aW : WB w21 _ #[.string ⟨#[]⟩, .slice none 0 0, .int .i64 0, .slice none 0 0, .slice none 0 0] := (WB.at rfl).keep hb_h0_aW; have ⟨we_h0_aW, wl_h0_aW, wf_h0_aW⟩ := hwb_h0_aW) | (have hwb_h0_aW := hwb_h0_aS.keep hb_h0_aW; have ⟨we_h0_aW, wl_h0_aW, wf_h0_aW⟩ := hwb_h0_aW) | skip); obtain ⟨_, y_h0_aW, _⟩ := id hf_h0_aW; obtain ⟨rfl, _, _, _⟩ := DWrite.rd.1 y_h0_aW; clear y_h0_aW; have hr_h0_aW := hf_h0_aW.reads; replace hr_h0_aS := hr_h0_aS.below (by first | exact hb_h0_aW | exact (belD belR).trans hb_h0_aW | exact below_call (by repeat (first | with_reducible exact belR | with_reducible apply belA | (with_reducible refine belS ?_ ?_; focus (first | omega | (simp; done) | (simp; omega))) | with_reducible apply belN | with_reducible apply belD | with_reducible assumption)) (by first | omega | (simp; done) | (simp; omega)) hb_h0_aW)) | (go_at_call 12; have hS_h0_aS := ‹_ ∧ _ ∧ Below w19.heap.size w19 _›; refine (toServer _ a0 _ (HA0.out.reads.below hS_h0_aS.2.2) (by first | omega | (simp [DServer.wt]))).mono ?_; rintro e w20 ⟨d_h0_aS, rfl, hf_h0_aS, hb_h0_aS⟩; have hq_h0_aS : Below w19.heap.size w19 w20 := below_call hS_h0_aS.2.2 hS_h0_aS.2.2.size hb_h0_aS; clear hS_h0_aS; have hz_h0_aS := hq_h0_aS.size; (first | (have hwb_h0_aS : WB w20 _ #[.string ⟨#[]⟩, .slice none 0 0, .int .i64 0, .slice none 0 0, .slice none 0 0] := (WB.at rfl).growD.keep hb_h0_aS; have ⟨we_h0_aS, wl_h0_aS, wf_h0_aS⟩ := hwb_h0_aS) | skip); obtain ⟨ao_h0_aS_0, cap_h0_aS_0, ao_h0_aS_1, cap_h0_aS_1, ao_h0_aS_2, cap_h0_aS_2, rfl⟩ := DServer.fshape hf_h0_aS; have hr_h0_aS := hf_h0_aS.reads))
    all_goals
      go_wp2_with fail
      go_meet
      obtain ⟨lo0, fp_h0, hlo0, o_h0⟩ := Fresh.ownAtL hf0
      (try simp at hlo0)
      first
        | exact ⟨lo0, w22.heap.size, _, ao_h0_0, cap_h0_0, ao_h0_1, cap_h0_1, ao_h0_2, cap_h0_2, fp_h0, rfl, rfl, (WB.sets [.string ((f0 a0 a1)).store.name, .slice ao_h0_0 ((f0 a0 a1)).store.items.length cap_h0_0, .int .i64 ((f0 a0 a1)).store.auto, .slice ao_h0_1 ((f0 a0 a1)).applied.length cap_h0_1, .slice ao_h0_2 ((f0 a0 a1)).changes.length cap_h0_2] 0 _ _ hwb_F22 (by simp)).box, (by omega), .inl (by omega), (by omega), (Nat.le_of_eq (by simp only [World.size_setCell])), (by repeat (first | exact o_h0 | refine Own.setOut ?_ (.inl (by omega)))), (by have y := hq_F22; exact (by repeat (first | with_reducible exact belR | with_reducible apply belA | (with_reducible refine belS ?_ ?_; focus (first | omega | (simp; done) | (simp; omega))) | with_reducible apply belN | with_reducible apply belD | with_reducible assumption)))⟩
        | exact ⟨lo0, w22.heap.size, w22.heap.size, ao_h0_0, cap_h0_0, ao_h0_1, cap_h0_1, ao_h0_2, cap_h0_2, fp_h0, rfl, rfl, Box.at rfl, (by omega), .inr (by omega), (by omega), (by rw [World.size_alloc]; omega), o_h0.allocA, (by have y := hq_F22; exact (by repeat (first | with_reducible exact belR | with_reducible apply belA | (with_reducible refine belS ?_ ?_; focus (first | omega | (simp; done) | (simp; omega))) | with_reducible apply belN | with_reducible apply belD | with_reducible assumption)))⟩
  obtain ⟨lo_h0, hi_h0, kb_h0, ao_h0_0, cap_h0_0, ao_h0_1, cap_h0_1, ao_h0_2, cap_h0_2, fp_h0, rfl, rfl, hbx_h0, hk1_h0, hk2_h0, hl1_h0, hl2_h0, ho_h0, hw⟩ := hcut
  rename World => w22
  have hsw22 : w19.heap.size ≤ w22.heap.size := hw.size
  clear cx_aS zx_aS
  replace HX_aS := Lib.hid (HX_aS.out.below hw)
  clear cx_aW zx_aW
  replace HX_aW := Lib.hid (HX_aW.out.below hw)
  clear cx_w0 zx_w0
  replace HX_w0 := Lib.hid (HX_w0.out.below hw)
  clear cx_x0 zx_x0
  replace HX_x0 := Lib.hid (HX_x0.out.below hw)
  clear cx_g0 zx_g0
  replace HX_g0 := Lib.hid (HX_g0.out.below hw)
  have HX_h0 := Lib.hid hbx_h0; clear hbx_h0
  have hkz_h0 := HX_h0.out.2
  have H_h0 := Lib.hid ho_h0; clear ho_h0
  have ⟨cx_aS, zx_aS⟩ := HX_aS.out
  have ⟨cx_aW, zx_aW⟩ := HX_aW.out
  have ⟨cx_w0, zx_w0⟩ := HX_w0.out
  have ⟨cx_x0, zx_x0⟩ := HX_x0.out
  have ⟨cx_g0, zx_g0⟩ := HX_g0.out
  have ⟨cx_h0, zx_h0⟩ := HX_h0.out
  replace HA0 := Lib.hid (HA0.out.below hw)
  replace HA1 := Lib.hid (HA1.out.below hw)
  replace H_w0 := Lib.hid (H_w0.out.below hw)
  replace H_x0 := Lib.hid (H_x0.out.below hw)
  replace H_g0 := Lib.hid (H_g0.out.below hw)
  replace HB := Lib.hid (below_call HB.out HB.out.size hw)
  clear hw
  go_wp2_with fail
  refine (eqServer _ _ (f0 a0 a1) _ (H_h0.out.reads.below (by repeat (first | with_reducible exact belR | with_reducible apply belA | (with_reducible refine belS ?_ ?_; focus (first | omega | (simp; done) | (simp; omega))) | with_reducible apply belN | with_reducible apply belD | with_reducible assumption))) (H_w0.out.reads.below (by repeat (first | with_reducible exact belR | with_reducible apply belA | (with_reducible refine belS ?_ ?_; focus (first | omega | (simp; done) | (simp; omega))) | with_reducible apply belN | with_reducible apply belD | with_reducible assumption)))).mono ?_
  rintro e w23 ⟨rfl, hb⟩
  have hw : Below w22.heap.size w22 w23 := below_call (by repeat (first | with_reducible exact belR | with_reducible apply belA | (with_reducible refine belS ?_ ?_; focus (first | omega | (simp; done) | (simp; omega))) | with_reducible apply belN | with_reducible apply belD | with_reducible assumption)) (by first | omega | (simp; done) | (simp; omega)) hb
  have hsw23 : w22.heap.size ≤ w23.heap.size := by have y := hb.size; (try simp at y); omega
  clear cx_aS zx_aS
  replace HX_aS := Lib.hid (HX_aS.out.below hw)
  clear cx_aW zx_aW
  replace HX_aW := Lib.hid (HX_aW.out.below hw)
  clear cx_w0 zx_w0
  replace HX_w0 := Lib.hid (HX_w0.out.below hw)
  clear cx_x0 zx_x0
  replace HX_x0 := Lib.hid (HX_x0.out.below hw)
  clear cx_g0 zx_g0
  replace HX_g0 := Lib.hid (HX_g0.out.below hw)
  clear cx_h0 zx_h0
  replace HX_h0 := Lib.hid (HX_h0.out.below hw)
  have ⟨cx_aS, zx_aS⟩ := HX_aS.out
  have ⟨cx_aW, zx_aW⟩ := HX_aW.out
  have ⟨cx_w0, zx_w0⟩ := HX_w0.out
  have ⟨cx_x0, zx_x0⟩ := HX_x0.out
  have ⟨cx_g0, zx_g0⟩ := HX_g0.out
  have ⟨cx_h0, zx_h0⟩ := HX_h0.out
  replace HA0 := Lib.hid (HA0.out.below hw)
  replace HA1 := Lib.hid (HA1.out.below hw)
  replace H_w0 := Lib.hid (H_w0.out.below hw)
  replace H_x0 := Lib.hid (H_x0.out.below hw)
  replace H_g0 := Lib.hid (H_g0.out.below hw)
  replace H_h0 := Lib.hid (H_h0.out.below hw)
  replace HB := Lib.hid (below_call HB.out HB.out.size hw)
  clear hw
  clear hb
  go_wp2_with fail
  refine (heldServer _ (f0 a0 a1) (1) _ (H_g0.out.reads.below (by repeat (first | with_reducible exact belR | with_reducible apply belA | (with_reducible refine belS ?_ ?_; focus (first | omega | (simp; done) | (simp; omega))) | with_reducible apply belN | with_reducible apply belD | with_reducible assumption))) (by omega)).mono ?_
  rintro e w24 ⟨rfl, hb⟩
  have hw : Below w23.heap.size w23 w24 := below_call (by repeat (first | with_reducible exact belR | with_reducible apply belA | (with_reducible refine belS ?_ ?_; focus (first | omega | (simp; done) | (simp; omega))) | with_reducible apply belN | with_reducible apply belD | with_reducible assumption)) (by first | omega | (simp; done) | (simp; omega)) hb
  have hsw24 : w23.heap.size ≤ w24.heap.size := by have y := hb.size; (try simp at y); omega
  clear cx_aS zx_aS
  replace HX_aS := Lib.hid (HX_aS.out.below hw)
  clear cx_aW zx_aW
  replace HX_aW := Lib.hid (HX_aW.out.below hw)
  clear cx_w0 zx_w0
  replace HX_w0 := Lib.hid (HX_w0.out.below hw)
  clear cx_x0 zx_x0
  replace HX_x0 := Lib.hid (HX_x0.out.below hw)
  clear cx_g0 zx_g0
  replace HX_g0 := Lib.hid (HX_g0.out.below hw)
  clear cx_h0 zx_h0
  replace HX_h0 := Lib.hid (HX_h0.out.below hw)
  have ⟨cx_aS, zx_aS⟩ := HX_aS.out
  have ⟨cx_aW, zx_aW⟩ := HX_aW.out
  have ⟨cx_w0, zx_w0⟩ := HX_w0.out
  have ⟨cx_x0, zx_x0⟩ := HX_x0.out
  have ⟨cx_g0, zx_g0⟩ := HX_g0.out
  have ⟨cx_h0, zx_h0⟩ := HX_h0.out
  replace HA0 := Lib.hid (HA0.out.below hw)
  replace HA1 := Lib.hid (HA1.out.below hw)
  replace H_w0 := Lib.hid (H_w0.out.below hw)
  replace H_x0 := Lib.hid (H_x0.out.below hw)
  replace H_g0 := Lib.hid (H_g0.out.below hw)
  replace H_h0 := Lib.hid (H_h0.out.below hw)
  replace HB := Lib.hid (below_call HB.out HB.out.size hw)
  clear hw
  clear hb
  go_wp2_with fail
  go_ret
  have y := HB.out
  exact ⟨rfl, (by repeat (first | with_reducible exact belR | with_reducible apply belA | (with_reducible refine belS ?_ ?_; focus (first | omega | (simp; done) | (simp; omega))) | with_reducible apply belN | with_reducible apply belD | with_reducible assumption))⟩

set_option maxRecDepth 100000 in
set_option maxHeartbeats 1000000 in
theorem receiveWrite_lifted (f0 : DServer → DWrite → DServer) (f1 : DServer → DWrite → Int) (hS : SaidReceiveWrite f0 f1 11) (hI : SaidReceiveWrite f0 f1 14) (hm_g0 : ∀ (a0 : DServer) (a1 : DWrite), (a0).wt ≤ 1048576 → (a1).wt ≤ 1048576 → ((f0 a0 a1)).mcnt ≤ 400000000) (hm_x0 : ∀ (a0 : DServer), (a0).wt ≤ 1048576 → (a0).mcnt ≤ 400000000) (os : Os) (started : os.Started) (H : Type) (enc : TypeId × Value → H) :
    ReturnsInHanded {} Tryz.checked os 3 .any (Rows.fnExactReceiveWriteSpec.pre6 enc Tryz.prog Tryz.f3 Rows.fnExactReceiveWriteRow.domain false) (Rows.fnExactReceiveWriteSpec.post enc Tryz.prog Tryz.f3 false true false false) := by
  refine law_lift (C := Tryz.checked) Tryz.own started (by kernel_rfl) Tryz.func3 Tryz.laidOut (by kernel_rfl) rfl Tryz.underlying4 rfl ?_
    (ChangeSpec.witness6 (enc := enc) (C := Tryz.checked) false ⟨#[], #[.agg #[.string ByteArray.empty, .slice none 0 0, .int .i64 0, .slice none 0 0, .slice none 0 0], .agg #[.int .i64 0, .int .i64 0, .int .i64 0, .int .i64 0, .string ByteArray.empty, .string ByteArray.empty, .int .i64 0]], []⟩ 8 (by kernel_rfl) (by kernel_rfl) (by kernel_rfl) (by kernel_rfl)) ?_
  · intro ds h
    match ds, h with
    | [_, _], _ => rfl
  · intro W base args ds ps hval hA0
    have hA : DataW.TrodAll enc Tryz.prog W 0 (fun _ => true) true Tryz.f3.params.toList args.toList ds ps := hA0
    rw [Tryz.params3] at hA hval
    obtain ⟨v0, v1, _, _, _, _, rfl, t0, t1⟩ := trodAll_open2 hA
    obtain ⟨c0, a0, rfl, r0⟩ := arg_struct Tryz.underlying28 DServer.opens_laws (hval 0 28 v0 rfl rfl) t0
    obtain ⟨c1, a1, rfl, r1⟩ := arg_struct Tryz.underlying32 DWrite.opens_laws (hval 1 32 v1 rfl rfl) t1
    exact lawReceiveWrite f0 f1 hS hI hm_g0 hm_x0 c0.toList a0 c1.toList a1 W r0 r1

theorem receiveWrite_of (f0 : DServer → DWrite → DServer) (f1 : DServer → DWrite → Int) (hS : SaidReceiveWrite f0 f1 11) (hI : SaidReceiveWrite f0 f1 14) (hm_g0 : ∀ (a0 : DServer) (a1 : DWrite), (a0).wt ≤ 1048576 → (a1).wt ≤ 1048576 → ((f0 a0 a1)).mcnt ≤ 400000000) (hm_x0 : ∀ (a0 : DServer), (a0).wt ≤ 1048576 → (a0).mcnt ≤ 400000000) : Rows.FnExactReceiveWriteSaid :=
  OpenClaim.holds_of_wide 3 Tryz.f3 rfl rfl rfl rfl rfl rfl rfl ⟨rfl, rfl, rfl, rfl, rfl⟩ rfl rfl rfl rfl rfl (by kernel_rfl) Tryz.func3 (by kernel_rfl)
    (of_decide_eq_true (by kernel_rfl)) (by unfold Func.isWrapper; rw [if_neg (by decide +kernel)]; exact ⟨rfl, rfl⟩)
    (fun os started H enc _ => receiveWrite_lifted f0 f1 hS hI hm_g0 hm_x0 os started H enc)

end Go.Proofs.YtapgglghaknjlaaGreat
