/-
  FnExactOpenPush: the law's walk, and its row, off the contracts of impl.OpenPush and spec.OpenPush.
-/
import Derived.Test.YtglgjcdnfmlijaaLPush
import Derived.Test.YtglgjcdnfmlijaaLSubscription
import Derived.Test.YtglgjcdnfmlijaaMarkSl
import Derived.Test.YtglgjcdnfmlijaaSlices
import Derived.Test.YtglgjcdnfmlijaaLaw
import Derived.Test.YtglgjcdnfmlijaaEnv
import Derived.Test.YtglgjcdnfmlijaaBoxed
namespace Go.Proofs.Ytglgjcdnfmlijaa
open Go.RowKit Go.ChangeShapes

/-- What impl.OpenPush and spec.OpenPush are both shown to compute. -/
def SaidOpenPush (f0 : DSubscription → DPush → DSubscription) (f1 : DSubscription → DPush → List UInt8) (f2 : DSubscription → DPush → Bool) (f : FuncId) : Prop :=
  ∀ (c0 : List Value) (a0 : DSubscription) (c1 : List Value) (a1 : DPush) (w : World) (_h0 : Reads DSubscription.rep w c0 a0) (_h1 : Reads DPush.rep w c1 a1)(_s0 : (a0).wt ≤ 1048576) (_s1 : (a1).wt ≤ 1048576), Calls Try.prog f #[.agg c0.toArray, .agg c1.toArray] w fun e w' => ∃ (d0 : List Value) (d1 : Value), e = .returned (.tuple #[.agg d0.toArray, d1, .bool (f2 a0 a1)]) ∧ Fresh DSubscription.rep w.heap.size w' d0 (f0 a0 a1) ∧ Fresh (Rep.slice 5 Rep.byte) w.heap.size w' [d1] (f1 a0 a1) ∧ Below w.heap.size w w'

set_option maxRecDepth 100000 in
set_option maxHeartbeats 16000000 in
theorem lawOpenPush (f0 : DSubscription → DPush → DSubscription) (f1 : DSubscription → DPush → List UInt8) (f2 : DSubscription → DPush → Bool) (hS : SaidOpenPush f0 f1 f2 44) (hI : SaidOpenPush f0 f1 f2 46) (hm_g1 : ∀ (a0 : DSubscription) (a1 : DPush), (a0).wt ≤ 1048576 → (a1).wt ≤ 1048576 → wtT cnt1 (f1 a0 a1) ((f1 a0 a1)).length ≤ 400000000) (hm_x1 : ∀ (a1 : DPush), (a1).wt ≤ 1048576 → (a1).mcnt ≤ 400000000) (c0 : List Value) (a0 : DSubscription) (c1 : List Value) (a1 : DPush) (w : World) (h0 : Reads DSubscription.rep w c0 a0) (h1 : Reads DPush.rep w c1 a1)  :
    Calls Try.prog 8 #[.agg c0.toArray, .agg c1.toArray] w fun e w' => e = .returned (.bool true) ∧ Below w.heap.size w w' := by
  have HA0 := Lib.hid (Low.start h0)
  obtain ⟨fp, hr⟩ := h0
  obtain ⟨rfl, _, _⟩ := DSubscription.rd.1 hr
  clear hr
  have HA1 := Lib.hid (Low.start h1)
  obtain ⟨fp, hr⟩ := h1
  obtain ⟨ao1_0, cap1_0, rfl⟩ := DPush.shape hr
  clear hr
  have HB : Hid (Below w.heap.size w w) := Lib.hid belR
  go_enter Try.func8, Try.ntmps8
  go_wp2_with fail
  refine (szSubscription _ a0 (1048576) _ (HA0.out.reads.below (by repeat (first | with_reducible exact belR | with_reducible apply belA | (with_reducible refine belS ?_ ?_; focus (first | omega | (simp; done) | (simp; omega))) | with_reducible apply belN | with_reducible apply belD | with_reducible assumption))) (by omega) (by omega)).mono ?_
  rintro e w1 ⟨rfl, hb⟩
  have hw : Below w.heap.size w w1 := below_call (by repeat (first | with_reducible exact belR | with_reducible apply belA | (with_reducible refine belS ?_ ?_; focus (first | omega | (simp; done) | (simp; omega))) | with_reducible apply belN | with_reducible apply belD | with_reducible assumption)) (by first | omega | (simp; done) | (simp; omega)) hb
  have hsw1 : w.heap.size + 1 + 1 ≤ w1.heap.size := by have y := hb.size; (try simp at y); omega
  have HX_aS : Hid (Box w1 (w.heap.size) #[.string a0.site, .int .i64 a0.secret, .int .i64 a0.last]) := Lib.hid (Box.below (Box.growA (Box.at (by first | rfl | simp))) hb)
  have HX_aP : Hid (Box w1 (w.heap.size + 1) #[.string a1.site, .int .i64 a1.number, .slice ao1_0 a1.data.length cap1_0, .int .i64 a1.mac]) := Lib.hid (Box.below (Box.at (by first | rfl | simp)) hb)
  have ⟨cx_aS, zx_aS⟩ := HX_aS.out
  have ⟨cx_aP, zx_aP⟩ := HX_aP.out
  replace HA0 := Lib.hid (HA0.out.below hw)
  replace HA1 := Lib.hid (HA1.out.below hw)
  replace HB := Lib.hid (below_call HB.out HB.out.size hw)
  clear hw
  clear hb
  have hz := szOf_spec ((a0).wt) (1048576)
  by_cases hv_aS : ¬ (((a0).wt : Nat) : Int) ≤ 1048576
  · rw [hz.2 hv_aS]; clear hz
    go_wp2
    all_goals go_ret
    have y := HB.out
    exact ⟨rfl, (by repeat (first | with_reducible exact belR | with_reducible apply belA | (with_reducible refine belS ?_ ?_; focus (first | omega | (simp; done) | (simp; omega))) | with_reducible apply belN | with_reducible apply belD | with_reducible assumption))⟩
  rw [Decidable.not_not] at hv_aS
  rw [hz.1 hv_aS]; clear hz
  go_wp2_with fail
  refine (szPush _ a1 (1048576 - (((a0).wt : Nat) : Int)) _ (HA1.out.reads.below (by repeat (first | with_reducible exact belR | with_reducible apply belA | (with_reducible refine belS ?_ ?_; focus (first | omega | (simp; done) | (simp; omega))) | with_reducible apply belN | with_reducible apply belD | with_reducible assumption))) (by omega) (by omega)).mono ?_
  rintro e w2 ⟨rfl, hb⟩
  have hw : Below w1.heap.size w1 w2 := below_call (by repeat (first | with_reducible exact belR | with_reducible apply belA | (with_reducible refine belS ?_ ?_; focus (first | omega | (simp; done) | (simp; omega))) | with_reducible apply belN | with_reducible apply belD | with_reducible assumption)) (by first | omega | (simp; done) | (simp; omega)) hb
  have hsw2 : w1.heap.size ≤ w2.heap.size := by have y := hb.size; (try simp at y); omega
  clear cx_aS zx_aS
  replace HX_aS := Lib.hid (HX_aS.out.below hw)
  clear cx_aP zx_aP
  replace HX_aP := Lib.hid (HX_aP.out.below hw)
  have ⟨cx_aS, zx_aS⟩ := HX_aS.out
  have ⟨cx_aP, zx_aP⟩ := HX_aP.out
  replace HA0 := Lib.hid (HA0.out.below hw)
  replace HA1 := Lib.hid (HA1.out.below hw)
  replace HB := Lib.hid (below_call HB.out HB.out.size hw)
  clear hw
  clear hb
  have hz := szOf_spec ((a1).wt) (1048576 - (((a0).wt : Nat) : Int))
  by_cases hv_aP : ¬ (((a1).wt : Nat) : Int) ≤ 1048576 - (((a0).wt : Nat) : Int)
  · rw [hz.2 hv_aP]; clear hz
    go_wp2
    all_goals go_ret
    have y := HB.out
    exact ⟨rfl, (by repeat (first | with_reducible exact belR | with_reducible apply belA | (with_reducible refine belS ?_ ?_; focus (first | omega | (simp; done) | (simp; omega))) | with_reducible apply belN | with_reducible apply belD | with_reducible assumption))⟩
  rw [Decidable.not_not] at hv_aP
  rw [hz.1 hv_aP]; clear hz
  go_upto_region 8 with fail
  refine settle (fun W' => Below w2.heap.size w2 W' ∧ w2.heap.size ≤ W'.heap.size) ⟨(by repeat (first | with_reducible exact belR | with_reducible apply belA | (with_reducible refine belS ?_ ?_; focus (first | omega | (simp; done) | (simp; omega))) | with_reducible apply belN | with_reducible apply belD | with_reducible assumption)), (by first | omega | (simp; done) | (simp; omega))⟩ ?_
  rintro w3 ⟨hw, hsw3⟩
  clear cx_aS zx_aS
  replace HX_aS := Lib.hid (HX_aS.out.below hw)
  clear cx_aP zx_aP
  replace HX_aP := Lib.hid (HX_aP.out.below hw)
  have ⟨cx_aS, zx_aS⟩ := HX_aS.out
  have ⟨cx_aP, zx_aP⟩ := HX_aP.out
  replace HA0 := Lib.hid (HA0.out.below hw)
  replace HA1 := Lib.hid (HA1.out.below hw)
  replace HB := Lib.hid (below_call HB.out HB.out.size hw)
  clear hw
  go_cut [6, 7, 8] (fun p_w0 p_w1 p_w2 wx => ∃ (lo hi : Nat) (kb_w0 : Nat) (ao_w1 : Option Addr) (cap_w1 : Nat) (fp_w1 : List Nat), p_w0 = .pointer (some ⟨kb_w0, 0, none⟩) ∧ p_w1 = .slice ao_w1 ((f1 a0 a1)).length cap_w1 ∧ p_w2 = .bool (f2 a0 a1) ∧ Box wx kb_w0 #[.string ((f0 a0 a1)).site, .int .i64 ((f0 a0 a1)).secret, .int .i64 ((f0 a0 a1)).last] ∧ w3.heap.size ≤ kb_w0 ∧ (kb_w0 < lo ∨ hi ≤ kb_w0) ∧ w3.heap.size ≤ lo ∧ hi ≤ wx.heap.size ∧ Own (Rep.slice 5 Rep.byte) lo hi wx [.slice ao_w1 ((f1 a0 a1)).length cap_w1] (f1 a0 a1) fp_w1 ∧ (∀ W, Reads DSubscription.rep W [.string ((f0 a0 a1)).site, .int .i64 ((f0 a0 a1)).secret, .int .i64 ((f0 a0 a1)).last] (f0 a0 a1)) ∧ Below w3.heap.size w3 wx)
  case first =>
    have HSr : Hid (∀ w', Below w3.heap.size w3 w' → (∀ o, w'.cell? ⟨w.heap.size, o, none⟩ = #[.string a0.site, .int .i64 a0.secret, .int .i64 a0.last][o]?) ∧ (∀ o, w'.cell? ⟨w.heap.size + 1, o, none⟩ = #[.string a1.site, .int .i64 a1.number, .slice ao1_0 a1.data.length cap1_0, .int .i64 a1.mac][o]?) ∧ Below w3.heap.size w3 w') := Lib.hid fun w' hw' => ⟨fun o => (hw'.cell (p := ⟨w.heap.size, o, none⟩) zx_aS).trans (cx_aS o), fun o => (hw'.cell (p := ⟨w.heap.size + 1, o, none⟩) zx_aP).trans (cx_aP o), hw'⟩
    go_region_held3 (fun w' => (∀ o, w'.cell? ⟨w.heap.size, o, none⟩ = #[.string a0.site, .int .i64 a0.secret, .int .i64 a0.last][o]?) ∧ (∀ o, w'.cell? ⟨w.heap.size + 1, o, none⟩ = #[.string a1.site, .int .i64 a1.number, .slice ao1_0 a1.data.length cap1_0, .int .i64 a1.mac][o]?) ∧ Below w3.heap.size w3 w')
      (first | exact HSr.out _ (by repeat (first | with_reducible exact belR | (with_reducible refine belAB ?_ ?_; focus (first | omega | (simp; done) | (simp; omega))) | (with_reducible refine belS ?_ ?_; focus (first | omega | (simp; done) | (simp; omega))) | with_reducible apply belN | with_reducible apply belD | with_reducible assumption)))
      (first | (go_at_call 44; have hx := hq_w0_aP; clear hx; have hS_F6 := ‹_ ∧ _ ∧ Below w3.heap.size w3 _›; refine (hS _ a0 _ a1 _ (hr_w0_aS.below (by repeat (first | with_reducible exact belR | with_reducible apply belA | (with_reducible refine belS ?_ ?_; focus (first | omega | (simp; done) | (simp; omega))) | with_reducible apply belN | with_reducible apply belD | with_reducible assumption))) (hr_w0_aP.below (by repeat (first | with_reducible exact belR | with_reducible apply belA | (with_reducible refine belS ?_ ?_; focus (first | omega | (simp; done) | (simp; omega))) | with_reducible apply belN | with_reducible apply belD | with_reducible assumption))) (by first | omega | exact hv_aS) (by first | omega | exact hv_aP)).mono ?_; rintro e w6 ⟨d_w_0, d_w_1, rfl, hf0, hf1, hb_F6⟩; have hq_F6 : Below w3.heap.size w3 w6 := below_call hS_F6.2.2 hS_F6.2.2.size hb_F6; clear hS_F6; have hz_F6 := hq_F6.size; (first | (have hwb_F6 : WB w6 _ #[.string ⟨#[]⟩, .int .i64 0, .int .i64 0] := (WB.at rfl).keep hb_F6; have ⟨we_F6, wl_F6, wf_F6⟩ := hwb_F6) | (have hwb_F6 := hwb_w0_aP.keep hb_F6; have ⟨we_F6, wl_F6, wf_F6⟩ := hwb_F6) | skip); obtain ⟨_, y_w0, _⟩ := id hf0; obtain ⟨rfl, _, _⟩ := DSubscription.rd.1 y_w0; clear y_w0; obtain ⟨ao_w1, cap_w1, rfl⟩ := Fresh.slice hf1) | (go_at_call 45; have hx := hq_w0_aS; clear hx; have hS_w0_aP := ‹_ ∧ _ ∧ Below w3.heap.size w3 _›; refine (toPush _ a1 _ (HA1.out.reads.below hS_w0_aP.2.2) (by first | omega | (simp [DPush.wt]))).mono ?_; rintro e w5 ⟨d_w0_aP, rfl, hf_w0_aP, hb_w0_aP⟩; have hq_w0_aP : Below w3.heap.size w3 w5 := below_call hS_w0_aP.2.2 hS_w0_aP.2.2.size hb_w0_aP; clear hS_w0_aP; have hz_w0_aP := hq_w0_aP.size; (first | (have hwb_w0_aP : WB w5 _ #[.string ⟨#[]⟩, .int .i64 0, .int .i64 0] := (WB.at rfl).keep hb_w0_aP; have ⟨we_w0_aP, wl_w0_aP, wf_w0_aP⟩ := hwb_w0_aP) | (have hwb_w0_aP := hwb_w0_aS.keep hb_w0_aP; have ⟨we_w0_aP, wl_w0_aP, wf_w0_aP⟩ := hwb_w0_aP) | skip); obtain ⟨ao_w0_aP_0, cap_w0_aP_0, rfl⟩ := DPush.fshape hf_w0_aP; have hr_w0_aP := hf_w0_aP.reads; replace hr_w0_aS := hr_w0_aS.below (by first | exact hb_w0_aP | exact (belD belR).trans hb_w0_aP | exact below_call (by repeat (first | with_reducible exact belR | with_reducible apply belA | (with_reducible refine belS ?_ ?_; focus (first | omega | (simp; done) | (simp; omega))) | with_reducible apply belN | with_reducible apply belD | with_reducible assumption)) (by first | omega | (simp; done) | (simp; omega)) hb_w0_aP)) | (go_at_call 22; have hS_w0_aS := ‹_ ∧ _ ∧ Below w3.heap.size w3 _›; refine (toSubscription _ a0 _ (HA0.out.reads.below hS_w0_aS.2.2) (by first | omega | (simp [DSubscription.wt]))).mono ?_; rintro e w4 ⟨d_w0_aS, rfl, hf_w0_aS, hb_w0_aS⟩; have hq_w0_aS : Below w3.heap.size w3 w4 := below_call hS_w0_aS.2.2 hS_w0_aS.2.2.size hb_w0_aS; clear hS_w0_aS; have hz_w0_aS := hq_w0_aS.size; (first | (have hwb_w0_aS : WB w4 _ #[.string ⟨#[]⟩, .int .i64 0, .int .i64 0] := (WB.at rfl).growD.keep hb_w0_aS; have ⟨we_w0_aS, wl_w0_aS, wf_w0_aS⟩ := hwb_w0_aS) | skip); obtain ⟨_, y_w0_aS, _⟩ := id hf_w0_aS; obtain ⟨rfl, _, _⟩ := DSubscription.rd.1 y_w0_aS; clear y_w0_aS; have hr_w0_aS := hf_w0_aS.reads))
    all_goals
      go_wp2_with fail
      go_meet
      obtain ⟨lo0, fp_w1, hlo0, o_w1⟩ := Fresh.ownAtL hf1
      (try simp at hlo0)
      first
        | exact ⟨lo0, w6.heap.size, _, ao_w1, cap_w1, fp_w1, rfl, rfl, rfl, (WB.sets [.string ((f0 a0 a1)).site, .int .i64 ((f0 a0 a1)).secret, .int .i64 ((f0 a0 a1)).last] 0 _ _ hwb_F6 (by simp)).box, (by omega), .inl (by omega), (by omega), (Nat.le_of_eq (by simp only [World.size_setCell])), (by repeat (first | exact o_w1 | refine Own.setOut ?_ (.inl (by omega)))), (fun W => by obtain ⟨_, y, _⟩ := hf0; have z := DSubscription.rd.1 y; exact ⟨[], DSubscription.rd.2 ⟨z.1, rfl, z.2.2⟩⟩), (by have y := hq_F6; exact (by repeat (first | with_reducible exact belR | with_reducible apply belA | (with_reducible refine belS ?_ ?_; focus (first | omega | (simp; done) | (simp; omega))) | with_reducible apply belN | with_reducible apply belD | with_reducible assumption)))⟩
        | exact ⟨lo0, w6.heap.size, w6.heap.size, ao_w1, cap_w1, fp_w1, rfl, rfl, rfl, Box.at rfl, (by omega), .inr (by omega), (by omega), (by rw [World.size_alloc]; omega), o_w1.allocA, (fun W => by obtain ⟨_, y, _⟩ := hf0; have z := DSubscription.rd.1 y; exact ⟨[], DSubscription.rd.2 ⟨z.1, rfl, z.2.2⟩⟩), (by have y := hq_F6; exact (by repeat (first | with_reducible exact belR | with_reducible apply belA | (with_reducible refine belS ?_ ?_; focus (first | omega | (simp; done) | (simp; omega))) | with_reducible apply belN | with_reducible apply belD | with_reducible assumption)))⟩
  obtain ⟨lo_w0, hi_w0, kb_w0, ao_w1, cap_w1, fp_w1, rfl, rfl, rfl, hbx_w0, hk1_w0, hk2_w0, hl1_w0, hl2_w0, ho_w1, hflat_w0, hw⟩ := hcut
  rename World => w6
  have hsw6 : w3.heap.size ≤ w6.heap.size := hw.size
  clear cx_aS zx_aS
  replace HX_aS := Lib.hid (HX_aS.out.below hw)
  clear cx_aP zx_aP
  replace HX_aP := Lib.hid (HX_aP.out.below hw)
  have HX_w0 := Lib.hid hbx_w0; clear hbx_w0
  have hkz_w0 := HX_w0.out.2
  have H_w0 : Hid (Rds DSubscription.rep w6 [.string ((f0 a0 a1)).site, .int .i64 ((f0 a0 a1)).secret, .int .i64 ((f0 a0 a1)).last] (f0 a0 a1)) := Lib.hid ⟨hflat_w0 _⟩; have HL_w0 := Lib.hid hflat_w0; clear hflat_w0
  have H_w1 := Lib.hid ho_w1; clear ho_w1
  have ⟨cx_aS, zx_aS⟩ := HX_aS.out
  have ⟨cx_aP, zx_aP⟩ := HX_aP.out
  have ⟨cx_w0, zx_w0⟩ := HX_w0.out
  replace HA0 := Lib.hid (HA0.out.below hw)
  replace HA1 := Lib.hid (HA1.out.below hw)
  replace HB := Lib.hid (below_call HB.out HB.out.size hw)
  clear hw
  go_wp2_with fail
  refine (toPush _ a1 _ (HA1.out.reads.below (by repeat (first | with_reducible exact belR | with_reducible apply belA | (with_reducible refine belS ?_ ?_; focus (first | omega | (simp; done) | (simp; omega))) | with_reducible apply belN | with_reducible apply belD | with_reducible assumption))) (by first | omega | (simp [DPush.wt]))).mono ?_
  rintro e w7 ⟨d_x1, rfl, hf, hb⟩
  obtain ⟨ao_x1_0, cap_x1_0, rfl⟩ := DPush.fshape hf
  obtain ⟨fp_x1, o_x1⟩ := Fresh.own hf (lo := w6.heap.size) (by first | omega | (simp; done) | (simp; omega))
  have H_x1 := Lib.hid o_x1; clear o_x1
  have hw : Below w6.heap.size w6 w7 := below_call (by repeat (first | with_reducible exact belR | with_reducible apply belA | (with_reducible refine belS ?_ ?_; focus (first | omega | (simp; done) | (simp; omega))) | with_reducible apply belN | with_reducible apply belD | with_reducible assumption)) (by first | omega | (simp; done) | (simp; omega)) hb
  have hsw7 : w6.heap.size ≤ w7.heap.size := by have y := hb.size; (try simp at y); omega
  clear cx_aS zx_aS
  replace HX_aS := Lib.hid (HX_aS.out.below hw)
  clear cx_aP zx_aP
  replace HX_aP := Lib.hid (HX_aP.out.below hw)
  clear cx_w0 zx_w0
  replace HX_w0 := Lib.hid (HX_w0.out.below hw)
  have ⟨cx_aS, zx_aS⟩ := HX_aS.out
  have ⟨cx_aP, zx_aP⟩ := HX_aP.out
  have ⟨cx_w0, zx_w0⟩ := HX_w0.out
  replace HA0 := Lib.hid (HA0.out.below hw)
  replace HA1 := Lib.hid (HA1.out.below hw)
  replace H_w0 := Lib.hid (H_w0.out.below hw)
  replace H_w1 := Lib.hid (H_w1.out.below hw)
  replace HB := Lib.hid (below_call HB.out HB.out.size hw)
  clear hw
  clear hb hf
  go_upto_region 10 with fail
  refine settle (fun W' => Below w7.heap.size w7 W' ∧ Box W' (w7.heap.size) #[.string (a1).site, .int .i64 (a1).number, .slice ao_x1_0 (a1).data.length cap_x1_0, .int .i64 (a1).mac] ∧ w7.heap.size + 1 ≤ W'.heap.size) ⟨(by repeat (first | with_reducible exact belR | with_reducible apply belA | (with_reducible refine belS ?_ ?_; focus (first | omega | (simp; done) | (simp; omega))) | with_reducible apply belN | with_reducible apply belD | with_reducible assumption)), (Box.at (by first | rfl | simp)), (by first | omega | (simp; done) | (simp; omega))⟩ ?_
  rintro w8 ⟨hw, hx0, hsw8⟩
  clear cx_aS zx_aS
  replace HX_aS := Lib.hid (HX_aS.out.below hw)
  clear cx_aP zx_aP
  replace HX_aP := Lib.hid (HX_aP.out.below hw)
  clear cx_w0 zx_w0
  replace HX_w0 := Lib.hid (HX_w0.out.below hw)
  have HX_x1 := Lib.hid hx0
  clear hx0
  have ⟨cx_aS, zx_aS⟩ := HX_aS.out
  have ⟨cx_aP, zx_aP⟩ := HX_aP.out
  have ⟨cx_w0, zx_w0⟩ := HX_w0.out
  have ⟨cx_x1, zx_x1⟩ := HX_x1.out
  replace HA0 := Lib.hid (HA0.out.below hw)
  replace HA1 := Lib.hid (HA1.out.below hw)
  replace H_w0 := Lib.hid (H_w0.out.below hw)
  replace H_w1 := Lib.hid (H_w1.out.below hw)
  replace H_x1 := Lib.hid (H_x1.out.below hw)
  replace HB := Lib.hid (below_call HB.out HB.out.size hw)
  clear hw
  go_cut [10, 11, 12] (fun p_g0 p_g1 p_g2 wx => ∃ (lo hi : Nat) (kb_g0 : Nat) (ao_g1 : Option Addr) (cap_g1 : Nat) (fp_g1 : List Nat), p_g0 = .pointer (some ⟨kb_g0, 0, none⟩) ∧ p_g1 = .slice ao_g1 ((f1 a0 a1)).length cap_g1 ∧ p_g2 = .bool (f2 a0 a1) ∧ Box wx kb_g0 #[.string ((f0 a0 a1)).site, .int .i64 ((f0 a0 a1)).secret, .int .i64 ((f0 a0 a1)).last] ∧ w8.heap.size ≤ kb_g0 ∧ (kb_g0 < lo ∨ hi ≤ kb_g0) ∧ w8.heap.size ≤ lo ∧ hi ≤ wx.heap.size ∧ Own (Rep.slice 5 Rep.byte) lo hi wx [.slice ao_g1 ((f1 a0 a1)).length cap_g1] (f1 a0 a1) fp_g1 ∧ (∀ W, Reads DSubscription.rep W [.string ((f0 a0 a1)).site, .int .i64 ((f0 a0 a1)).secret, .int .i64 ((f0 a0 a1)).last] (f0 a0 a1)) ∧ Below w8.heap.size w8 wx)
  case first =>
    have HSr : Hid (∀ w', Below w8.heap.size w8 w' → (∀ o, w'.cell? ⟨w.heap.size, o, none⟩ = #[.string a0.site, .int .i64 a0.secret, .int .i64 a0.last][o]?) ∧ (∀ o, w'.cell? ⟨w7.heap.size, o, none⟩ = #[.string (a1).site, .int .i64 (a1).number, .slice ao_x1_0 (a1).data.length cap_x1_0, .int .i64 (a1).mac][o]?) ∧ Below w8.heap.size w8 w') := Lib.hid fun w' hw' => ⟨fun o => (hw'.cell (p := ⟨w.heap.size, o, none⟩) zx_aS).trans (cx_aS o), fun o => (hw'.cell (p := ⟨w7.heap.size, o, none⟩) zx_x1).trans (cx_x1 o), hw'⟩
    go_region_held3 (fun w' => (∀ o, w'.cell? ⟨w.heap.size, o, none⟩ = #[.string a0.site, .int .i64 a0.secret, .int .i64 a0.last][o]?) ∧ (∀ o, w'.cell? ⟨w7.heap.size, o, none⟩ = #[.string (a1).site, .int .i64 (a1).number, .slice ao_x1_0 (a1).data.length cap_x1_0, .int .i64 (a1).mac][o]?) ∧ Below w8.heap.size w8 w')
      (first | exact HSr.out _ (by repeat (first | with_reducible exact belR | (with_reducible refine belAB ?_ ?_; focus (first | omega | (simp; done) | (simp; omega))) | (with_reducible refine belS ?_ ?_; focus (first | omega | (simp; done) | (simp; omega))) | with_reducible apply belN | with_reducible apply belD | with_reducible assumption)))
      (first | (go_at_call 46; have hx := hq_g0_aS; clear hx; have hS_F10 := ‹_ ∧ _ ∧ Below w8.heap.size w8 _›; refine (hI _ a0 _ a1 _ (hr_g0_aS.below (by repeat (first | with_reducible exact belR | with_reducible apply belA | (with_reducible refine belS ?_ ?_; focus (first | omega | (simp; done) | (simp; omega))) | with_reducible apply belN | with_reducible apply belD | with_reducible assumption))) (H_x1.out.reads.below hS_F10.2.2) (by first | omega | exact hv_aS) (by first | omega | exact hv_aP)).mono ?_; rintro e w10 ⟨d_g_0, d_g_1, rfl, hf0, hf1, hb_F10⟩; have hq_F10 : Below w8.heap.size w8 w10 := below_call hS_F10.2.2 hS_F10.2.2.size hb_F10; clear hS_F10; have hz_F10 := hq_F10.size; (first | (have hwb_F10 : WB w10 _ #[.string ⟨#[]⟩, .int .i64 0, .int .i64 0] := (WB.at rfl).keep hb_F10; have ⟨we_F10, wl_F10, wf_F10⟩ := hwb_F10) | (have hwb_F10 := hwb_g0_aS.keep hb_F10; have ⟨we_F10, wl_F10, wf_F10⟩ := hwb_F10) | skip); obtain ⟨_, y_g0, _⟩ := id hf0; obtain ⟨rfl, _, _⟩ := DSubscription.rd.1 y_g0; clear y_g0; obtain ⟨ao_g1, cap_g1, rfl⟩ := Fresh.slice hf1) | (go_at_call 22; have hS_g0_aS := ‹_ ∧ _ ∧ Below w8.heap.size w8 _›; refine (toSubscription _ a0 _ (HA0.out.reads.below hS_g0_aS.2.2) (by first | omega | (simp [DSubscription.wt]))).mono ?_; rintro e w9 ⟨d_g0_aS, rfl, hf_g0_aS, hb_g0_aS⟩; have hq_g0_aS : Below w8.heap.size w8 w9 := below_call hS_g0_aS.2.2 hS_g0_aS.2.2.size hb_g0_aS; clear hS_g0_aS; have hz_g0_aS := hq_g0_aS.size; (first | (have hwb_g0_aS : WB w9 _ #[.string ⟨#[]⟩, .int .i64 0, .int .i64 0] := (WB.at rfl).growD.keep hb_g0_aS; have ⟨we_g0_aS, wl_g0_aS, wf_g0_aS⟩ := hwb_g0_aS) | skip); obtain ⟨_, y_g0_aS, _⟩ := id hf_g0_aS; obtain ⟨rfl, _, _⟩ := DSubscription.rd.1 y_g0_aS; clear y_g0_aS; have hr_g0_aS := hf_g0_aS.reads))
    all_goals
      go_wp2_with fail
      go_meet
      obtain ⟨lo0, fp_g1, hlo0, o_g1⟩ := Fresh.ownAtL hf1
      (try simp at hlo0)
      first
        | exact ⟨lo0, w10.heap.size, _, ao_g1, cap_g1, fp_g1, rfl, rfl, rfl, (WB.sets [.string ((f0 a0 a1)).site, .int .i64 ((f0 a0 a1)).secret, .int .i64 ((f0 a0 a1)).last] 0 _ _ hwb_F10 (by simp)).box, (by omega), .inl (by omega), (by omega), (Nat.le_of_eq (by simp only [World.size_setCell])), (by repeat (first | exact o_g1 | refine Own.setOut ?_ (.inl (by omega)))), (fun W => by obtain ⟨_, y, _⟩ := hf0; have z := DSubscription.rd.1 y; exact ⟨[], DSubscription.rd.2 ⟨z.1, rfl, z.2.2⟩⟩), (by have y := hq_F10; exact (by repeat (first | with_reducible exact belR | with_reducible apply belA | (with_reducible refine belS ?_ ?_; focus (first | omega | (simp; done) | (simp; omega))) | with_reducible apply belN | with_reducible apply belD | with_reducible assumption)))⟩
        | exact ⟨lo0, w10.heap.size, w10.heap.size, ao_g1, cap_g1, fp_g1, rfl, rfl, rfl, Box.at rfl, (by omega), .inr (by omega), (by omega), (by rw [World.size_alloc]; omega), o_g1.allocA, (fun W => by obtain ⟨_, y, _⟩ := hf0; have z := DSubscription.rd.1 y; exact ⟨[], DSubscription.rd.2 ⟨z.1, rfl, z.2.2⟩⟩), (by have y := hq_F10; exact (by repeat (first | with_reducible exact belR | with_reducible apply belA | (with_reducible refine belS ?_ ?_; focus (first | omega | (simp; done) | (simp; omega))) | with_reducible apply belN | with_reducible apply belD | with_reducible assumption)))⟩
  obtain ⟨lo_g0, hi_g0, kb_g0, ao_g1, cap_g1, fp_g1, rfl, rfl, rfl, hbx_g0, hk1_g0, hk2_g0, hl1_g0, hl2_g0, ho_g1, hflat_g0, hw⟩ := hcut
  rename World => w10
  have hsw10 : w8.heap.size ≤ w10.heap.size := hw.size
  clear cx_aS zx_aS
  replace HX_aS := Lib.hid (HX_aS.out.below hw)
  clear cx_aP zx_aP
  replace HX_aP := Lib.hid (HX_aP.out.below hw)
  clear cx_w0 zx_w0
  replace HX_w0 := Lib.hid (HX_w0.out.below hw)
  clear cx_x1 zx_x1
  replace HX_x1 := Lib.hid (HX_x1.out.below hw)
  have HX_g0 := Lib.hid hbx_g0; clear hbx_g0
  have hkz_g0 := HX_g0.out.2
  have H_g0 : Hid (Rds DSubscription.rep w10 [.string ((f0 a0 a1)).site, .int .i64 ((f0 a0 a1)).secret, .int .i64 ((f0 a0 a1)).last] (f0 a0 a1)) := Lib.hid ⟨hflat_g0 _⟩; have HL_g0 := Lib.hid hflat_g0; clear hflat_g0
  have H_g1 := Lib.hid ho_g1; clear ho_g1
  have ⟨cx_aS, zx_aS⟩ := HX_aS.out
  have ⟨cx_aP, zx_aP⟩ := HX_aP.out
  have ⟨cx_w0, zx_w0⟩ := HX_w0.out
  have ⟨cx_x1, zx_x1⟩ := HX_x1.out
  have ⟨cx_g0, zx_g0⟩ := HX_g0.out
  replace HA0 := Lib.hid (HA0.out.below hw)
  replace HA1 := Lib.hid (HA1.out.below hw)
  replace H_w0 := Lib.hid (H_w0.out.below hw)
  replace H_w1 := Lib.hid (H_w1.out.below hw)
  replace H_x1 := Lib.hid (H_x1.out.below hw)
  replace HB := Lib.hid (below_call HB.out HB.out.size hw)
  clear hw
  go_wp2_with fail
  refine (eqSubscription _ _ (f0 a0 a1) _ (H_g0.out.reads.below (by repeat (first | with_reducible exact belR | with_reducible apply belA | (with_reducible refine belS ?_ ?_; focus (first | omega | (simp; done) | (simp; omega))) | with_reducible apply belN | with_reducible apply belD | with_reducible assumption))) (H_w0.out.reads.below (by repeat (first | with_reducible exact belR | with_reducible apply belA | (with_reducible refine belS ?_ ?_; focus (first | omega | (simp; done) | (simp; omega))) | with_reducible apply belN | with_reducible apply belD | with_reducible assumption)))).mono ?_
  rintro e w11 ⟨rfl, hb⟩
  have hw : Below w10.heap.size w10 w11 := below_call (by repeat (first | with_reducible exact belR | with_reducible apply belA | (with_reducible refine belS ?_ ?_; focus (first | omega | (simp; done) | (simp; omega))) | with_reducible apply belN | with_reducible apply belD | with_reducible assumption)) (by first | omega | (simp; done) | (simp; omega)) hb
  have hsw11 : w10.heap.size ≤ w11.heap.size := by have y := hb.size; (try simp at y); omega
  clear cx_aS zx_aS
  replace HX_aS := Lib.hid (HX_aS.out.below hw)
  clear cx_aP zx_aP
  replace HX_aP := Lib.hid (HX_aP.out.below hw)
  clear cx_w0 zx_w0
  replace HX_w0 := Lib.hid (HX_w0.out.below hw)
  clear cx_x1 zx_x1
  replace HX_x1 := Lib.hid (HX_x1.out.below hw)
  clear cx_g0 zx_g0
  replace HX_g0 := Lib.hid (HX_g0.out.below hw)
  have ⟨cx_aS, zx_aS⟩ := HX_aS.out
  have ⟨cx_aP, zx_aP⟩ := HX_aP.out
  have ⟨cx_w0, zx_w0⟩ := HX_w0.out
  have ⟨cx_x1, zx_x1⟩ := HX_x1.out
  have ⟨cx_g0, zx_g0⟩ := HX_g0.out
  replace HA0 := Lib.hid (HA0.out.below hw)
  replace HA1 := Lib.hid (HA1.out.below hw)
  replace H_w0 := Lib.hid (H_w0.out.below hw)
  replace H_w1 := Lib.hid (H_w1.out.below hw)
  replace H_x1 := Lib.hid (H_x1.out.below hw)
  replace H_g0 := Lib.hid (H_g0.out.below hw)
  replace H_g1 := Lib.hid (H_g1.out.below hw)
  replace HB := Lib.hid (below_call HB.out HB.out.size hw)
  clear hw
  clear hb
  go_wp2_with fail
  refine (eqByteS _ _ (f1 a0 a1) _ (H_g1.out.reads.below (by repeat (first | with_reducible exact belR | with_reducible apply belA | (with_reducible refine belS ?_ ?_; focus (first | omega | (simp; done) | (simp; omega))) | with_reducible apply belN | with_reducible apply belD | with_reducible assumption))) (H_w1.out.reads.below (by repeat (first | with_reducible exact belR | with_reducible apply belA | (with_reducible refine belS ?_ ?_; focus (first | omega | (simp; done) | (simp; omega))) | with_reducible apply belN | with_reducible apply belD | with_reducible assumption)))).mono ?_
  rintro e w12 ⟨rfl, hb⟩
  have hw : Below w11.heap.size w11 w12 := below_call (by repeat (first | with_reducible exact belR | with_reducible apply belA | (with_reducible refine belS ?_ ?_; focus (first | omega | (simp; done) | (simp; omega))) | with_reducible apply belN | with_reducible apply belD | with_reducible assumption)) (by first | omega | (simp; done) | (simp; omega)) hb
  have hsw12 : w11.heap.size ≤ w12.heap.size := by have y := hb.size; (try simp at y); omega
  clear cx_aS zx_aS
  replace HX_aS := Lib.hid (HX_aS.out.below hw)
  clear cx_aP zx_aP
  replace HX_aP := Lib.hid (HX_aP.out.below hw)
  clear cx_w0 zx_w0
  replace HX_w0 := Lib.hid (HX_w0.out.below hw)
  clear cx_x1 zx_x1
  replace HX_x1 := Lib.hid (HX_x1.out.below hw)
  clear cx_g0 zx_g0
  replace HX_g0 := Lib.hid (HX_g0.out.below hw)
  have ⟨cx_aS, zx_aS⟩ := HX_aS.out
  have ⟨cx_aP, zx_aP⟩ := HX_aP.out
  have ⟨cx_w0, zx_w0⟩ := HX_w0.out
  have ⟨cx_x1, zx_x1⟩ := HX_x1.out
  have ⟨cx_g0, zx_g0⟩ := HX_g0.out
  replace HA0 := Lib.hid (HA0.out.below hw)
  replace HA1 := Lib.hid (HA1.out.below hw)
  replace H_w0 := Lib.hid (H_w0.out.below hw)
  replace H_w1 := Lib.hid (H_w1.out.below hw)
  replace H_x1 := Lib.hid (H_x1.out.below hw)
  replace H_g0 := Lib.hid (H_g0.out.below hw)
  replace H_g1 := Lib.hid (H_g1.out.below hw)
  replace HB := Lib.hid (below_call HB.out HB.out.size hw)
  clear hw
  clear hb
  go_wp2_with fail
  refine settle (fun W' => Below w12.heap.size w12 W' ∧ w12.heap.size ≤ W'.heap.size) ⟨(by repeat (first | with_reducible exact belR | with_reducible apply belA | (with_reducible refine belS ?_ ?_; focus (first | omega | (simp; done) | (simp; omega))) | with_reducible apply belN | with_reducible apply belD | with_reducible assumption)), (by first | omega | (simp; done) | (simp; omega))⟩ ?_
  rintro w13 ⟨hw, hsw13⟩
  clear cx_aS zx_aS
  replace HX_aS := Lib.hid (HX_aS.out.below hw)
  clear cx_aP zx_aP
  replace HX_aP := Lib.hid (HX_aP.out.below hw)
  clear cx_w0 zx_w0
  replace HX_w0 := Lib.hid (HX_w0.out.below hw)
  clear cx_x1 zx_x1
  replace HX_x1 := Lib.hid (HX_x1.out.below hw)
  clear cx_g0 zx_g0
  replace HX_g0 := Lib.hid (HX_g0.out.below hw)
  have ⟨cx_aS, zx_aS⟩ := HX_aS.out
  have ⟨cx_aP, zx_aP⟩ := HX_aP.out
  have ⟨cx_w0, zx_w0⟩ := HX_w0.out
  have ⟨cx_x1, zx_x1⟩ := HX_x1.out
  have ⟨cx_g0, zx_g0⟩ := HX_g0.out
  replace HA0 := Lib.hid (HA0.out.below hw)
  replace HA1 := Lib.hid (HA1.out.below hw)
  replace H_w0 := Lib.hid (H_w0.out.below hw)
  replace H_w1 := Lib.hid (H_w1.out.below hw)
  replace H_x1 := Lib.hid (H_x1.out.below hw)
  replace H_g0 := Lib.hid (H_g0.out.below hw)
  replace H_g1 := Lib.hid (H_g1.out.below hw)
  replace HB := Lib.hid (below_call HB.out HB.out.size hw)
  clear hw
  go_region_held3 (fun w' => (∀ o, w'.cell? ⟨w7.heap.size, o, none⟩ = #[.string (a1).site, .int .i64 (a1).number, .slice ao_x1_0 (a1).data.length cap_x1_0, .int .i64 (a1).mac][o]?) ∧ (∀ o, w'.cell? ⟨w.heap.size + 1, o, none⟩ = #[.string a1.site, .int .i64 a1.number, .slice ao1_0 a1.data.length cap1_0, .int .i64 a1.mac][o]?) ∧ Below w13.heap.size w13 w')
    (first | exact ⟨fun o => (World.cell?_drew _ _ |>.trans <| hq_E15.cell (p := ⟨w7.heap.size, o, none⟩) zx_x1).trans (cx_x1 o), fun o => (World.cell?_drew _ _ |>.trans <| hq_E15.cell (p := ⟨w.heap.size + 1, o, none⟩) zx_aP).trans (cx_aP o), belD hq_E15⟩ | exact ⟨fun o => (hq_E15.cell (p := ⟨w7.heap.size, o, none⟩) zx_x1).trans (cx_x1 o), fun o => (hq_E15.cell (p := ⟨w.heap.size + 1, o, none⟩) zx_aP).trans (cx_aP o), hq_E15⟩ | exact ⟨fun o => (World.cell?_drew _ _ |>.trans <| hq_x1_e13.cell (p := ⟨w7.heap.size, o, none⟩) zx_x1).trans (cx_x1 o), fun o => (World.cell?_drew _ _ |>.trans <| hq_x1_e13.cell (p := ⟨w.heap.size + 1, o, none⟩) zx_aP).trans (cx_aP o), belD hq_x1_e13⟩ | exact ⟨fun o => (hq_x1_e13.cell (p := ⟨w7.heap.size, o, none⟩) zx_x1).trans (cx_x1 o), fun o => (hq_x1_e13.cell (p := ⟨w.heap.size + 1, o, none⟩) zx_aP).trans (cx_aP o), hq_x1_e13⟩ | exact ⟨cx_x1, cx_aP, belR⟩ | exact ⟨cx_x1, cx_aP, belD belR⟩)
    (first | (go_at_call 25; have hx := hq_x1_e13; clear hx; have hS_E15 := ‹_ ∧ _ ∧ Below w13.heap.size w13 _›; refine (eqPush _ _ a1 _ (H_x1.out.reads.below hS_E15.2.2) (hr_x1_e13.below (by first | exact belR | exact belD belR | exact belN (belD belR)))).mono ?_; rintro e w15 ⟨rfl, hb_E15⟩; have hq_E15 : Below w13.heap.size w13 w15 := below_call hS_E15.2.2 hS_E15.2.2.size hb_E15; clear hS_E15) | (go_at_call 45; have hS_x1_e13 := ‹_ ∧ _ ∧ Below w13.heap.size w13 _›; refine (toPush _ a1 _ (HA1.out.reads.below hS_x1_e13.2.2) (by first | omega | (simp [DPush.wt]))).mono ?_; rintro e w14 ⟨d_x1_e13, rfl, hf_x1_e13, hb_x1_e13⟩; have hq_x1_e13 : Below w13.heap.size w13 w14 := below_call hS_x1_e13.2.2 hS_x1_e13.2.2.size hb_x1_e13; clear hS_x1_e13; obtain ⟨ao_x1_e13_0, cap_x1_e13_0, rfl⟩ := DPush.fshape hf_x1_e13; have hr_x1_e13 := hf_x1_e13.reads))
  have hw := hq_E15
  have hsw15 : w13.heap.size ≤ w15.heap.size := hq_E15.size
  clear cx_aS zx_aS
  replace HX_aS := Lib.hid (HX_aS.out.below hw)
  clear cx_aP zx_aP
  replace HX_aP := Lib.hid (HX_aP.out.below hw)
  clear cx_w0 zx_w0
  replace HX_w0 := Lib.hid (HX_w0.out.below hw)
  clear cx_x1 zx_x1
  replace HX_x1 := Lib.hid (HX_x1.out.below hw)
  clear cx_g0 zx_g0
  replace HX_g0 := Lib.hid (HX_g0.out.below hw)
  have ⟨cx_aS, zx_aS⟩ := HX_aS.out
  have ⟨cx_aP, zx_aP⟩ := HX_aP.out
  have ⟨cx_w0, zx_w0⟩ := HX_w0.out
  have ⟨cx_x1, zx_x1⟩ := HX_x1.out
  have ⟨cx_g0, zx_g0⟩ := HX_g0.out
  replace HA0 := Lib.hid (HA0.out.below hw)
  replace HA1 := Lib.hid (HA1.out.below hw)
  replace H_w0 := Lib.hid (H_w0.out.below hw)
  replace H_w1 := Lib.hid (H_w1.out.below hw)
  replace H_x1 := Lib.hid (H_x1.out.below hw)
  replace H_g0 := Lib.hid (H_g0.out.below hw)
  replace H_g1 := Lib.hid (H_g1.out.below hw)
  replace HB := Lib.hid (below_call HB.out HB.out.size hw)
  clear hw
  go_wp2_with fail
  have hk_x1 := (hm_x1 a1 (by first | omega | exact hv_aP))
  refine (markPush _ a1 fp_x1 (1) _ H_x1.out.rd H_x1.out.nodup (by omega)).mono ?_
  rintro e w16 ⟨rfl, hrd, hc⟩
  have hnew := Own.mk hrd H_x1.out.nodup (H_x1.out.ivl)
  have hq := H_x1.out.ivl
  have hsw16 : w15.heap.size ≤ w16.heap.size := hc.size
  clear cx_aS zx_aS
  replace HX_aS := Lib.hid (HX_aS.out.chg hc hq (by omega))
  clear cx_aP zx_aP
  replace HX_aP := Lib.hid (HX_aP.out.chg hc hq (by omega))
  clear cx_w0 zx_w0
  replace HX_w0 := Lib.hid (HX_w0.out.chg hc hq (by omega))
  clear cx_x1 zx_x1
  replace HX_x1 := Lib.hid (HX_x1.out.chg hc hq (by omega))
  clear cx_g0 zx_g0
  replace HX_g0 := Lib.hid (HX_g0.out.chg hc hq (by omega))
  have ⟨cx_aS, zx_aS⟩ := HX_aS.out
  have ⟨cx_aP, zx_aP⟩ := HX_aP.out
  have ⟨cx_w0, zx_w0⟩ := HX_w0.out
  have ⟨cx_x1, zx_x1⟩ := HX_x1.out
  have ⟨cx_g0, zx_g0⟩ := HX_g0.out
  replace HA0 := Lib.hid (HA0.out.chg hc hq (by omega))
  replace HA1 := Lib.hid (HA1.out.chg hc hq (by omega))
  replace H_w0 : Hid (Rds DSubscription.rep w16 [.string ((f0 a0 a1)).site, .int .i64 ((f0 a0 a1)).secret, .int .i64 ((f0 a0 a1)).last] (f0 a0 a1)) := Lib.hid ⟨HL_w0.out _⟩
  replace H_w1 := Lib.hid (H_w1.out.chg hc (Own.apart H_w1.out H_x1.out (by omega)))
  replace H_g0 : Hid (Rds DSubscription.rep w16 [.string ((f0 a0 a1)).site, .int .i64 ((f0 a0 a1)).secret, .int .i64 ((f0 a0 a1)).last] (f0 a0 a1)) := Lib.hid ⟨HL_g0.out _⟩
  replace H_g1 := Lib.hid (H_g1.out.chg hc (Own.apart H_g1.out H_x1.out (by omega)))
  replace HB := Lib.hid (Below.chg HB.out hc hq (by omega) HB.out.size)
  clear hq
  replace H_x1 := Lib.hid hnew; clear hnew hrd hc
  go_wp2_with fail
  refine (eqSubscription _ _ (f0 a0 a1) _ (H_g0.out.reads.below (by repeat (first | with_reducible exact belR | with_reducible apply belA | (with_reducible refine belS ?_ ?_; focus (first | omega | (simp; done) | (simp; omega))) | with_reducible apply belN | with_reducible apply belD | with_reducible assumption))) (H_w0.out.reads.below (by repeat (first | with_reducible exact belR | with_reducible apply belA | (with_reducible refine belS ?_ ?_; focus (first | omega | (simp; done) | (simp; omega))) | with_reducible apply belN | with_reducible apply belD | with_reducible assumption)))).mono ?_
  rintro e w17 ⟨rfl, hb⟩
  have hw : Below w16.heap.size w16 w17 := below_call (by repeat (first | with_reducible exact belR | with_reducible apply belA | (with_reducible refine belS ?_ ?_; focus (first | omega | (simp; done) | (simp; omega))) | with_reducible apply belN | with_reducible apply belD | with_reducible assumption)) (by first | omega | (simp; done) | (simp; omega)) hb
  have hsw17 : w16.heap.size ≤ w17.heap.size := by have y := hb.size; (try simp at y); omega
  clear cx_aS zx_aS
  replace HX_aS := Lib.hid (HX_aS.out.below hw)
  clear cx_aP zx_aP
  replace HX_aP := Lib.hid (HX_aP.out.below hw)
  clear cx_w0 zx_w0
  replace HX_w0 := Lib.hid (HX_w0.out.below hw)
  clear cx_x1 zx_x1
  replace HX_x1 := Lib.hid (HX_x1.out.below hw)
  clear cx_g0 zx_g0
  replace HX_g0 := Lib.hid (HX_g0.out.below hw)
  have ⟨cx_aS, zx_aS⟩ := HX_aS.out
  have ⟨cx_aP, zx_aP⟩ := HX_aP.out
  have ⟨cx_w0, zx_w0⟩ := HX_w0.out
  have ⟨cx_x1, zx_x1⟩ := HX_x1.out
  have ⟨cx_g0, zx_g0⟩ := HX_g0.out
  replace HA0 := Lib.hid (HA0.out.below hw)
  replace HA1 := Lib.hid (HA1.out.below hw)
  replace H_w0 := Lib.hid (H_w0.out.below hw)
  replace H_w1 := Lib.hid (H_w1.out.below hw)
  replace H_x1 := Lib.hid (H_x1.out.below hw)
  replace H_g0 := Lib.hid (H_g0.out.below hw)
  replace H_g1 := Lib.hid (H_g1.out.below hw)
  replace HB := Lib.hid (below_call HB.out HB.out.size hw)
  clear hw
  clear hb
  go_wp2_with fail
  refine (eqByteS _ _ (f1 a0 a1) _ (H_g1.out.reads.below (by repeat (first | with_reducible exact belR | with_reducible apply belA | (with_reducible refine belS ?_ ?_; focus (first | omega | (simp; done) | (simp; omega))) | with_reducible apply belN | with_reducible apply belD | with_reducible assumption))) (H_w1.out.reads.below (by repeat (first | with_reducible exact belR | with_reducible apply belA | (with_reducible refine belS ?_ ?_; focus (first | omega | (simp; done) | (simp; omega))) | with_reducible apply belN | with_reducible apply belD | with_reducible assumption)))).mono ?_
  rintro e w18 ⟨rfl, hb⟩
  have hw : Below w17.heap.size w17 w18 := below_call (by repeat (first | with_reducible exact belR | with_reducible apply belA | (with_reducible refine belS ?_ ?_; focus (first | omega | (simp; done) | (simp; omega))) | with_reducible apply belN | with_reducible apply belD | with_reducible assumption)) (by first | omega | (simp; done) | (simp; omega)) hb
  have hsw18 : w17.heap.size ≤ w18.heap.size := by have y := hb.size; (try simp at y); omega
  clear cx_aS zx_aS
  replace HX_aS := Lib.hid (HX_aS.out.below hw)
  clear cx_aP zx_aP
  replace HX_aP := Lib.hid (HX_aP.out.below hw)
  clear cx_w0 zx_w0
  replace HX_w0 := Lib.hid (HX_w0.out.below hw)
  clear cx_x1 zx_x1
  replace HX_x1 := Lib.hid (HX_x1.out.below hw)
  clear cx_g0 zx_g0
  replace HX_g0 := Lib.hid (HX_g0.out.below hw)
  have ⟨cx_aS, zx_aS⟩ := HX_aS.out
  have ⟨cx_aP, zx_aP⟩ := HX_aP.out
  have ⟨cx_w0, zx_w0⟩ := HX_w0.out
  have ⟨cx_x1, zx_x1⟩ := HX_x1.out
  have ⟨cx_g0, zx_g0⟩ := HX_g0.out
  replace HA0 := Lib.hid (HA0.out.below hw)
  replace HA1 := Lib.hid (HA1.out.below hw)
  replace H_w0 := Lib.hid (H_w0.out.below hw)
  replace H_w1 := Lib.hid (H_w1.out.below hw)
  replace H_x1 := Lib.hid (H_x1.out.below hw)
  replace H_g0 := Lib.hid (H_g0.out.below hw)
  replace H_g1 := Lib.hid (H_g1.out.below hw)
  replace HB := Lib.hid (below_call HB.out HB.out.size hw)
  clear hw
  clear hb
  go_wp2_with fail
  have hk_g1 := (hm_g1 a0 a1 (by first | omega | exact hv_aS) (by first | omega | exact hv_aP))
  refine (markByteS _ (f1 a0 a1) fp_g1 (1) _ H_g1.out.rd H_g1.out.nodup (by omega)).mono ?_
  rintro e w19 ⟨rfl, hrd, hc⟩
  have hnew := Own.mk hrd H_g1.out.nodup (H_g1.out.ivl)
  have hq := H_g1.out.ivl
  have hsw19 : w18.heap.size ≤ w19.heap.size := hc.size
  clear cx_aS zx_aS
  replace HX_aS := Lib.hid (HX_aS.out.chg hc hq (by omega))
  clear cx_aP zx_aP
  replace HX_aP := Lib.hid (HX_aP.out.chg hc hq (by omega))
  clear cx_w0 zx_w0
  replace HX_w0 := Lib.hid (HX_w0.out.chg hc hq (by omega))
  clear cx_x1 zx_x1
  replace HX_x1 := Lib.hid (HX_x1.out.chg hc hq (by omega))
  clear cx_g0 zx_g0
  replace HX_g0 := Lib.hid (HX_g0.out.chg hc hq (by omega))
  have ⟨cx_aS, zx_aS⟩ := HX_aS.out
  have ⟨cx_aP, zx_aP⟩ := HX_aP.out
  have ⟨cx_w0, zx_w0⟩ := HX_w0.out
  have ⟨cx_x1, zx_x1⟩ := HX_x1.out
  have ⟨cx_g0, zx_g0⟩ := HX_g0.out
  replace HA0 := Lib.hid (HA0.out.chg hc hq (by omega))
  replace HA1 := Lib.hid (HA1.out.chg hc hq (by omega))
  replace H_w0 : Hid (Rds DSubscription.rep w19 [.string ((f0 a0 a1)).site, .int .i64 ((f0 a0 a1)).secret, .int .i64 ((f0 a0 a1)).last] (f0 a0 a1)) := Lib.hid ⟨HL_w0.out _⟩
  replace H_w1 := Lib.hid (H_w1.out.chg hc (Own.apart H_w1.out H_g1.out (by omega)))
  replace H_x1 := Lib.hid (H_x1.out.chg hc (Own.apart H_x1.out H_g1.out (by omega)))
  replace H_g0 : Hid (Rds DSubscription.rep w19 [.string ((f0 a0 a1)).site, .int .i64 ((f0 a0 a1)).secret, .int .i64 ((f0 a0 a1)).last] (f0 a0 a1)) := Lib.hid ⟨HL_g0.out _⟩
  replace HB := Lib.hid (Below.chg HB.out hc hq (by omega) HB.out.size)
  clear hq
  replace H_g1 := Lib.hid hnew; clear hnew hrd hc
  go_wp2_with fail
  refine (heldByteS _ (f1 a0 a1) (1) _ (H_g1.out.reads.below (by repeat (first | with_reducible exact belR | with_reducible apply belA | (with_reducible refine belS ?_ ?_; focus (first | omega | (simp; done) | (simp; omega))) | with_reducible apply belN | with_reducible apply belD | with_reducible assumption))) (by omega)).mono ?_
  rintro e w20 ⟨rfl, hb⟩
  have hw : Below w19.heap.size w19 w20 := below_call (by repeat (first | with_reducible exact belR | with_reducible apply belA | (with_reducible refine belS ?_ ?_; focus (first | omega | (simp; done) | (simp; omega))) | with_reducible apply belN | with_reducible apply belD | with_reducible assumption)) (by first | omega | (simp; done) | (simp; omega)) hb
  have hsw20 : w19.heap.size ≤ w20.heap.size := by have y := hb.size; (try simp at y); omega
  clear cx_aS zx_aS
  replace HX_aS := Lib.hid (HX_aS.out.below hw)
  clear cx_aP zx_aP
  replace HX_aP := Lib.hid (HX_aP.out.below hw)
  clear cx_w0 zx_w0
  replace HX_w0 := Lib.hid (HX_w0.out.below hw)
  clear cx_x1 zx_x1
  replace HX_x1 := Lib.hid (HX_x1.out.below hw)
  clear cx_g0 zx_g0
  replace HX_g0 := Lib.hid (HX_g0.out.below hw)
  have ⟨cx_aS, zx_aS⟩ := HX_aS.out
  have ⟨cx_aP, zx_aP⟩ := HX_aP.out
  have ⟨cx_w0, zx_w0⟩ := HX_w0.out
  have ⟨cx_x1, zx_x1⟩ := HX_x1.out
  have ⟨cx_g0, zx_g0⟩ := HX_g0.out
  replace HA0 := Lib.hid (HA0.out.below hw)
  replace HA1 := Lib.hid (HA1.out.below hw)
  replace H_w0 := Lib.hid (H_w0.out.below hw)
  replace H_w1 := Lib.hid (H_w1.out.below hw)
  replace H_x1 := Lib.hid (H_x1.out.below hw)
  replace H_g0 := Lib.hid (H_g0.out.below hw)
  replace H_g1 := Lib.hid (H_g1.out.below hw)
  replace HB := Lib.hid (below_call HB.out HB.out.size hw)
  clear hw
  clear hb
  go_upto_region 27 with fail
  refine settle (fun W' => Below w20.heap.size w20 W' ∧ w20.heap.size ≤ W'.heap.size) ⟨(by repeat (first | with_reducible exact belR | with_reducible apply belA | (with_reducible refine belS ?_ ?_; focus (first | omega | (simp; done) | (simp; omega))) | with_reducible apply belN | with_reducible apply belD | with_reducible assumption)), (by first | omega | (simp; done) | (simp; omega))⟩ ?_
  rintro w21 ⟨hw, hsw21⟩
  clear cx_aS zx_aS
  replace HX_aS := Lib.hid (HX_aS.out.below hw)
  clear cx_aP zx_aP
  replace HX_aP := Lib.hid (HX_aP.out.below hw)
  clear cx_w0 zx_w0
  replace HX_w0 := Lib.hid (HX_w0.out.below hw)
  clear cx_x1 zx_x1
  replace HX_x1 := Lib.hid (HX_x1.out.below hw)
  clear cx_g0 zx_g0
  replace HX_g0 := Lib.hid (HX_g0.out.below hw)
  have ⟨cx_aS, zx_aS⟩ := HX_aS.out
  have ⟨cx_aP, zx_aP⟩ := HX_aP.out
  have ⟨cx_w0, zx_w0⟩ := HX_w0.out
  have ⟨cx_x1, zx_x1⟩ := HX_x1.out
  have ⟨cx_g0, zx_g0⟩ := HX_g0.out
  replace HA0 := Lib.hid (HA0.out.below hw)
  replace HA1 := Lib.hid (HA1.out.below hw)
  replace H_w0 := Lib.hid (H_w0.out.below hw)
  replace H_w1 := Lib.hid (H_w1.out.below hw)
  replace H_x1 := Lib.hid (H_x1.out.below hw)
  replace H_g0 := Lib.hid (H_g0.out.below hw)
  replace H_g1 := Lib.hid (H_g1.out.below hw)
  replace HB := Lib.hid (below_call HB.out HB.out.size hw)
  clear hw
  go_cut [16, 17, 18] (fun p_h0 p_h1 p_h2 wx => ∃ (lo hi : Nat) (kb_h0 : Nat) (ao_h1 : Option Addr) (cap_h1 : Nat) (fp_h1 : List Nat), p_h0 = .pointer (some ⟨kb_h0, 0, none⟩) ∧ p_h1 = .slice ao_h1 ((f1 a0 a1)).length cap_h1 ∧ p_h2 = .bool (f2 a0 a1) ∧ Box wx kb_h0 #[.string ((f0 a0 a1)).site, .int .i64 ((f0 a0 a1)).secret, .int .i64 ((f0 a0 a1)).last] ∧ w21.heap.size ≤ kb_h0 ∧ (kb_h0 < lo ∨ hi ≤ kb_h0) ∧ w21.heap.size ≤ lo ∧ hi ≤ wx.heap.size ∧ Own (Rep.slice 5 Rep.byte) lo hi wx [.slice ao_h1 ((f1 a0 a1)).length cap_h1] (f1 a0 a1) fp_h1 ∧ (∀ W, Reads DSubscription.rep W [.string ((f0 a0 a1)).site, .int .i64 ((f0 a0 a1)).secret, .int .i64 ((f0 a0 a1)).last] (f0 a0 a1)) ∧ Below w21.heap.size w21 wx)
  case first =>
    have HSr : Hid (∀ w', Below w21.heap.size w21 w' → (∀ o, w'.cell? ⟨w.heap.size, o, none⟩ = #[.string a0.site, .int .i64 a0.secret, .int .i64 a0.last][o]?) ∧ (∀ o, w'.cell? ⟨w.heap.size + 1, o, none⟩ = #[.string a1.site, .int .i64 a1.number, .slice ao1_0 a1.data.length cap1_0, .int .i64 a1.mac][o]?) ∧ Below w21.heap.size w21 w') := Lib.hid fun w' hw' => ⟨fun o => (hw'.cell (p := ⟨w.heap.size, o, none⟩) zx_aS).trans (cx_aS o), fun o => (hw'.cell (p := ⟨w.heap.size + 1, o, none⟩) zx_aP).trans (cx_aP o), hw'⟩
    go_region_held3 (fun w' => (∀ o, w'.cell? ⟨w.heap.size, o, none⟩ = #[.string a0.site, .int .i64 a0.secret, .int .i64 a0.last][o]?) ∧ (∀ o, w'.cell? ⟨w.heap.size + 1, o, none⟩ = #[.string a1.site, .int .i64 a1.number, .slice ao1_0 a1.data.length cap1_0, .int .i64 a1.mac][o]?) ∧ Below w21.heap.size w21 w')
      (first | exact HSr.out _ (by repeat (first | with_reducible exact belR | (with_reducible refine belAB ?_ ?_; focus (first | omega | (simp; done) | (simp; omega))) | (with_reducible refine belS ?_ ?_; focus (first | omega | (simp; done) | (simp; omega))) | with_reducible apply belN | with_reducible apply belD | with_reducible assumption)))
      (first | (go_at_call 46; have hx := hq_h0_aP; clear hx; have hS_F24 := ‹_ ∧ _ ∧ Below w21.heap.size w21 _›; refine (hI _ a0 _ a1 _ (hr_h0_aS.below (by repeat (first | with_reducible exact belR | with_reducible apply belA | (with_reducible refine belS ?_ ?_; focus (first | omega | (simp; done) | (simp; omega))) | with_reducible apply belN | with_reducible apply belD | with_reducible assumption))) (hr_h0_aP.below (by repeat (first | with_reducible exact belR | with_reducible apply belA | (with_reducible refine belS ?_ ?_; focus (first | omega | (simp; done) | (simp; omega))) | with_reducible apply belN | with_reducible apply belD | with_reducible assumption))) (by first | omega | exact hv_aS) (by first | omega | exact hv_aP)).mono ?_; rintro e w24 ⟨d_h_0, d_h_1, rfl, hf0, hf1, hb_F24⟩; have hq_F24 : Below w21.heap.size w21 w24 := below_call hS_F24.2.2 hS_F24.2.2.size hb_F24; clear hS_F24; have hz_F24 := hq_F24.size; (first | (have hwb_F24 : WB w24 _ #[.string ⟨#[]⟩, .int .i64 0, .int .i64 0] := (WB.at rfl).keep hb_F24; have ⟨we_F24, wl_F24, wf_F24⟩ := hwb_F24) | (have hwb_F24 := hwb_h0_aP.keep hb_F24; have ⟨we_F24, wl_F24, wf_F24⟩ := hwb_F24) | skip); obtain ⟨_, y_h0, _⟩ := id hf0; obtain ⟨rfl, _, _⟩ := DSubscription.rd.1 y_h0; clear y_h0; obtain ⟨ao_h1, cap_h1, rfl⟩ := Fresh.slice hf1) | (go_at_call 45; have hx := hq_h0_aS; clear hx; have hS_h0_aP := ‹_ ∧ _ ∧ Below w21.heap.size w21 _›; refine (toPush _ a1 _ (HA1.out.reads.below hS_h0_aP.2.2) (by first | omega | (simp [DPush.wt]))).mono ?_; rintro e w23 ⟨d_h0_aP, rfl, hf_h0_aP, hb_h0_aP⟩; have hq_h0_aP : Below w21.heap.size w21 w23 := below_call hS_h0_aP.2.2 hS_h0_aP.2.2.size hb_h0_aP; clear hS_h0_aP; have hz_h0_aP := hq_h0_aP.size; (first | (have hwb_h0_aP : WB w23 _ #[.string ⟨#[]⟩, .int .i64 0, .int .i64 0] := (WB.at rfl).keep hb_h0_aP; have ⟨we_h0_aP, wl_h0_aP, wf_h0_aP⟩ := hwb_h0_aP) | (have hwb_h0_aP := hwb_h0_aS.keep hb_h0_aP; have ⟨we_h0_aP, wl_h0_aP, wf_h0_aP⟩ := hwb_h0_aP) | skip); obtain ⟨ao_h0_aP_0, cap_h0_aP_0, rfl⟩ := DPush.fshape hf_h0_aP; have hr_h0_aP := hf_h0_aP.reads; replace hr_h0_aS := hr_h0_aS.below (by first | exact hb_h0_aP | exact (belD belR).trans hb_h0_aP | exact below_call (by repeat (first | with_reducible exact belR | with_reducible apply belA | (with_reducible refine belS ?_ ?_; focus (first | omega | (simp; done) | (simp; omega))) | with_reducible apply belN | with_reducible apply belD | with_reducible assumption)) (by first | omega | (simp; done) | (simp; omega)) hb_h0_aP)) | (go_at_call 22; have hS_h0_aS := ‹_ ∧ _ ∧ Below w21.heap.size w21 _›; refine (toSubscription _ a0 _ (HA0.out.reads.below hS_h0_aS.2.2) (by first | omega | (simp [DSubscription.wt]))).mono ?_; rintro e w22 ⟨d_h0_aS, rfl, hf_h0_aS, hb_h0_aS⟩; have hq_h0_aS : Below w21.heap.size w21 w22 := below_call hS_h0_aS.2.2 hS_h0_aS.2.2.size hb_h0_aS; clear hS_h0_aS; have hz_h0_aS := hq_h0_aS.size; (first | (have hwb_h0_aS : WB w22 _ #[.string ⟨#[]⟩, .int .i64 0, .int .i64 0] := (WB.at rfl).growD.keep hb_h0_aS; have ⟨we_h0_aS, wl_h0_aS, wf_h0_aS⟩ := hwb_h0_aS) | skip); obtain ⟨_, y_h0_aS, _⟩ := id hf_h0_aS; obtain ⟨rfl, _, _⟩ := DSubscription.rd.1 y_h0_aS; clear y_h0_aS; have hr_h0_aS := hf_h0_aS.reads))
    all_goals
      go_wp2_with fail
      go_meet
      obtain ⟨lo0, fp_h1, hlo0, o_h1⟩ := Fresh.ownAtL hf1
      (try simp at hlo0)
      first
        | exact ⟨lo0, w24.heap.size, _, ao_h1, cap_h1, fp_h1, rfl, rfl, rfl, (WB.sets [.string ((f0 a0 a1)).site, .int .i64 ((f0 a0 a1)).secret, .int .i64 ((f0 a0 a1)).last] 0 _ _ hwb_F24 (by simp)).box, (by omega), .inl (by omega), (by omega), (Nat.le_of_eq (by simp only [World.size_setCell])), (by repeat (first | exact o_h1 | refine Own.setOut ?_ (.inl (by omega)))), (fun W => by obtain ⟨_, y, _⟩ := hf0; have z := DSubscription.rd.1 y; exact ⟨[], DSubscription.rd.2 ⟨z.1, rfl, z.2.2⟩⟩), (by have y := hq_F24; exact (by repeat (first | with_reducible exact belR | with_reducible apply belA | (with_reducible refine belS ?_ ?_; focus (first | omega | (simp; done) | (simp; omega))) | with_reducible apply belN | with_reducible apply belD | with_reducible assumption)))⟩
        | exact ⟨lo0, w24.heap.size, w24.heap.size, ao_h1, cap_h1, fp_h1, rfl, rfl, rfl, Box.at rfl, (by omega), .inr (by omega), (by omega), (by rw [World.size_alloc]; omega), o_h1.allocA, (fun W => by obtain ⟨_, y, _⟩ := hf0; have z := DSubscription.rd.1 y; exact ⟨[], DSubscription.rd.2 ⟨z.1, rfl, z.2.2⟩⟩), (by have y := hq_F24; exact (by repeat (first | with_reducible exact belR | with_reducible apply belA | (with_reducible refine belS ?_ ?_; focus (first | omega | (simp; done) | (simp; omega))) | with_reducible apply belN | with_reducible apply belD | with_reducible assumption)))⟩
  obtain ⟨lo_h0, hi_h0, kb_h0, ao_h1, cap_h1, fp_h1, rfl, rfl, rfl, hbx_h0, hk1_h0, hk2_h0, hl1_h0, hl2_h0, ho_h1, hflat_h0, hw⟩ := hcut
  rename World => w24
  have hsw24 : w21.heap.size ≤ w24.heap.size := hw.size
  clear cx_aS zx_aS
  replace HX_aS := Lib.hid (HX_aS.out.below hw)
  clear cx_aP zx_aP
  replace HX_aP := Lib.hid (HX_aP.out.below hw)
  clear cx_w0 zx_w0
  replace HX_w0 := Lib.hid (HX_w0.out.below hw)
  clear cx_x1 zx_x1
  replace HX_x1 := Lib.hid (HX_x1.out.below hw)
  clear cx_g0 zx_g0
  replace HX_g0 := Lib.hid (HX_g0.out.below hw)
  have HX_h0 := Lib.hid hbx_h0; clear hbx_h0
  have hkz_h0 := HX_h0.out.2
  have H_h0 : Hid (Rds DSubscription.rep w24 [.string ((f0 a0 a1)).site, .int .i64 ((f0 a0 a1)).secret, .int .i64 ((f0 a0 a1)).last] (f0 a0 a1)) := Lib.hid ⟨hflat_h0 _⟩; have HL_h0 := Lib.hid hflat_h0; clear hflat_h0
  have H_h1 := Lib.hid ho_h1; clear ho_h1
  have ⟨cx_aS, zx_aS⟩ := HX_aS.out
  have ⟨cx_aP, zx_aP⟩ := HX_aP.out
  have ⟨cx_w0, zx_w0⟩ := HX_w0.out
  have ⟨cx_x1, zx_x1⟩ := HX_x1.out
  have ⟨cx_g0, zx_g0⟩ := HX_g0.out
  have ⟨cx_h0, zx_h0⟩ := HX_h0.out
  replace HA0 := Lib.hid (HA0.out.below hw)
  replace HA1 := Lib.hid (HA1.out.below hw)
  replace H_w0 := Lib.hid (H_w0.out.below hw)
  replace H_w1 := Lib.hid (H_w1.out.below hw)
  replace H_x1 := Lib.hid (H_x1.out.below hw)
  replace H_g0 := Lib.hid (H_g0.out.below hw)
  replace H_g1 := Lib.hid (H_g1.out.below hw)
  replace HB := Lib.hid (below_call HB.out HB.out.size hw)
  clear hw
  go_wp2_with fail
  refine (eqSubscription _ _ (f0 a0 a1) _ (H_h0.out.reads.below (by repeat (first | with_reducible exact belR | with_reducible apply belA | (with_reducible refine belS ?_ ?_; focus (first | omega | (simp; done) | (simp; omega))) | with_reducible apply belN | with_reducible apply belD | with_reducible assumption))) (H_w0.out.reads.below (by repeat (first | with_reducible exact belR | with_reducible apply belA | (with_reducible refine belS ?_ ?_; focus (first | omega | (simp; done) | (simp; omega))) | with_reducible apply belN | with_reducible apply belD | with_reducible assumption)))).mono ?_
  rintro e w25 ⟨rfl, hb⟩
  have hw : Below w24.heap.size w24 w25 := below_call (by repeat (first | with_reducible exact belR | with_reducible apply belA | (with_reducible refine belS ?_ ?_; focus (first | omega | (simp; done) | (simp; omega))) | with_reducible apply belN | with_reducible apply belD | with_reducible assumption)) (by first | omega | (simp; done) | (simp; omega)) hb
  have hsw25 : w24.heap.size ≤ w25.heap.size := by have y := hb.size; (try simp at y); omega
  clear cx_aS zx_aS
  replace HX_aS := Lib.hid (HX_aS.out.below hw)
  clear cx_aP zx_aP
  replace HX_aP := Lib.hid (HX_aP.out.below hw)
  clear cx_w0 zx_w0
  replace HX_w0 := Lib.hid (HX_w0.out.below hw)
  clear cx_x1 zx_x1
  replace HX_x1 := Lib.hid (HX_x1.out.below hw)
  clear cx_g0 zx_g0
  replace HX_g0 := Lib.hid (HX_g0.out.below hw)
  clear cx_h0 zx_h0
  replace HX_h0 := Lib.hid (HX_h0.out.below hw)
  have ⟨cx_aS, zx_aS⟩ := HX_aS.out
  have ⟨cx_aP, zx_aP⟩ := HX_aP.out
  have ⟨cx_w0, zx_w0⟩ := HX_w0.out
  have ⟨cx_x1, zx_x1⟩ := HX_x1.out
  have ⟨cx_g0, zx_g0⟩ := HX_g0.out
  have ⟨cx_h0, zx_h0⟩ := HX_h0.out
  replace HA0 := Lib.hid (HA0.out.below hw)
  replace HA1 := Lib.hid (HA1.out.below hw)
  replace H_w0 := Lib.hid (H_w0.out.below hw)
  replace H_w1 := Lib.hid (H_w1.out.below hw)
  replace H_x1 := Lib.hid (H_x1.out.below hw)
  replace H_g0 := Lib.hid (H_g0.out.below hw)
  replace H_g1 := Lib.hid (H_g1.out.below hw)
  replace H_h0 := Lib.hid (H_h0.out.below hw)
  replace H_h1 := Lib.hid (H_h1.out.below hw)
  replace HB := Lib.hid (below_call HB.out HB.out.size hw)
  clear hw
  clear hb
  go_wp2_with fail
  refine (eqByteS _ _ (f1 a0 a1) _ (H_h1.out.reads.below (by repeat (first | with_reducible exact belR | with_reducible apply belA | (with_reducible refine belS ?_ ?_; focus (first | omega | (simp; done) | (simp; omega))) | with_reducible apply belN | with_reducible apply belD | with_reducible assumption))) (H_w1.out.reads.below (by repeat (first | with_reducible exact belR | with_reducible apply belA | (with_reducible refine belS ?_ ?_; focus (first | omega | (simp; done) | (simp; omega))) | with_reducible apply belN | with_reducible apply belD | with_reducible assumption)))).mono ?_
  rintro e w26 ⟨rfl, hb⟩
  have hw : Below w25.heap.size w25 w26 := below_call (by repeat (first | with_reducible exact belR | with_reducible apply belA | (with_reducible refine belS ?_ ?_; focus (first | omega | (simp; done) | (simp; omega))) | with_reducible apply belN | with_reducible apply belD | with_reducible assumption)) (by first | omega | (simp; done) | (simp; omega)) hb
  have hsw26 : w25.heap.size ≤ w26.heap.size := by have y := hb.size; (try simp at y); omega
  clear cx_aS zx_aS
  replace HX_aS := Lib.hid (HX_aS.out.below hw)
  clear cx_aP zx_aP
  replace HX_aP := Lib.hid (HX_aP.out.below hw)
  clear cx_w0 zx_w0
  replace HX_w0 := Lib.hid (HX_w0.out.below hw)
  clear cx_x1 zx_x1
  replace HX_x1 := Lib.hid (HX_x1.out.below hw)
  clear cx_g0 zx_g0
  replace HX_g0 := Lib.hid (HX_g0.out.below hw)
  clear cx_h0 zx_h0
  replace HX_h0 := Lib.hid (HX_h0.out.below hw)
  have ⟨cx_aS, zx_aS⟩ := HX_aS.out
  have ⟨cx_aP, zx_aP⟩ := HX_aP.out
  have ⟨cx_w0, zx_w0⟩ := HX_w0.out
  have ⟨cx_x1, zx_x1⟩ := HX_x1.out
  have ⟨cx_g0, zx_g0⟩ := HX_g0.out
  have ⟨cx_h0, zx_h0⟩ := HX_h0.out
  replace HA0 := Lib.hid (HA0.out.below hw)
  replace HA1 := Lib.hid (HA1.out.below hw)
  replace H_w0 := Lib.hid (H_w0.out.below hw)
  replace H_w1 := Lib.hid (H_w1.out.below hw)
  replace H_x1 := Lib.hid (H_x1.out.below hw)
  replace H_g0 := Lib.hid (H_g0.out.below hw)
  replace H_g1 := Lib.hid (H_g1.out.below hw)
  replace H_h0 := Lib.hid (H_h0.out.below hw)
  replace H_h1 := Lib.hid (H_h1.out.below hw)
  replace HB := Lib.hid (below_call HB.out HB.out.size hw)
  clear hw
  clear hb
  go_wp2_with fail
  refine (heldByteS _ (f1 a0 a1) (1) _ (H_g1.out.reads.below (by repeat (first | with_reducible exact belR | with_reducible apply belA | (with_reducible refine belS ?_ ?_; focus (first | omega | (simp; done) | (simp; omega))) | with_reducible apply belN | with_reducible apply belD | with_reducible assumption))) (by omega)).mono ?_
  rintro e w27 ⟨rfl, hb⟩
  have hw : Below w26.heap.size w26 w27 := below_call (by repeat (first | with_reducible exact belR | with_reducible apply belA | (with_reducible refine belS ?_ ?_; focus (first | omega | (simp; done) | (simp; omega))) | with_reducible apply belN | with_reducible apply belD | with_reducible assumption)) (by first | omega | (simp; done) | (simp; omega)) hb
  have hsw27 : w26.heap.size ≤ w27.heap.size := by have y := hb.size; (try simp at y); omega
  clear cx_aS zx_aS
  replace HX_aS := Lib.hid (HX_aS.out.below hw)
  clear cx_aP zx_aP
  replace HX_aP := Lib.hid (HX_aP.out.below hw)
  clear cx_w0 zx_w0
  replace HX_w0 := Lib.hid (HX_w0.out.below hw)
  clear cx_x1 zx_x1
  replace HX_x1 := Lib.hid (HX_x1.out.below hw)
  clear cx_g0 zx_g0
  replace HX_g0 := Lib.hid (HX_g0.out.below hw)
  clear cx_h0 zx_h0
  replace HX_h0 := Lib.hid (HX_h0.out.below hw)
  have ⟨cx_aS, zx_aS⟩ := HX_aS.out
  have ⟨cx_aP, zx_aP⟩ := HX_aP.out
  have ⟨cx_w0, zx_w0⟩ := HX_w0.out
  have ⟨cx_x1, zx_x1⟩ := HX_x1.out
  have ⟨cx_g0, zx_g0⟩ := HX_g0.out
  have ⟨cx_h0, zx_h0⟩ := HX_h0.out
  replace HA0 := Lib.hid (HA0.out.below hw)
  replace HA1 := Lib.hid (HA1.out.below hw)
  replace H_w0 := Lib.hid (H_w0.out.below hw)
  replace H_w1 := Lib.hid (H_w1.out.below hw)
  replace H_x1 := Lib.hid (H_x1.out.below hw)
  replace H_g0 := Lib.hid (H_g0.out.below hw)
  replace H_g1 := Lib.hid (H_g1.out.below hw)
  replace H_h0 := Lib.hid (H_h0.out.below hw)
  replace H_h1 := Lib.hid (H_h1.out.below hw)
  replace HB := Lib.hid (below_call HB.out HB.out.size hw)
  clear hw
  clear hb
  go_wp2_with fail
  go_ret
  have y := HB.out
  exact ⟨rfl, (by repeat (first | with_reducible exact belR | with_reducible apply belA | (with_reducible refine belS ?_ ?_; focus (first | omega | (simp; done) | (simp; omega))) | with_reducible apply belN | with_reducible apply belD | with_reducible assumption))⟩

set_option maxRecDepth 100000 in
set_option maxHeartbeats 1000000 in
theorem openPush_lifted (f0 : DSubscription → DPush → DSubscription) (f1 : DSubscription → DPush → List UInt8) (f2 : DSubscription → DPush → Bool) (hS : SaidOpenPush f0 f1 f2 44) (hI : SaidOpenPush f0 f1 f2 46) (hm_g1 : ∀ (a0 : DSubscription) (a1 : DPush), (a0).wt ≤ 1048576 → (a1).wt ≤ 1048576 → wtT cnt1 (f1 a0 a1) ((f1 a0 a1)).length ≤ 400000000) (hm_x1 : ∀ (a1 : DPush), (a1).wt ≤ 1048576 → (a1).mcnt ≤ 400000000) (os : Os) (started : os.Started) (H : Type) (enc : TypeId × Value → H) :
    ReturnsInHanded {} Try.checked os 8 .any (Rows.fnExactOpenPushSpec.pre6 enc Try.prog Try.f8 Rows.fnExactOpenPushRow.domain false) (Rows.fnExactOpenPushSpec.post enc Try.prog Try.f8 false true false false) := by
  refine law_lift (C := Try.checked) Try.own started (by kernel_rfl) Try.func8 Try.laidOut (by kernel_rfl) rfl Try.underlying4 rfl ?_
    (ChangeSpec.witness6 (enc := enc) (C := Try.checked) false ⟨#[], #[.agg #[.string ByteArray.empty, .int .i64 0, .int .i64 0], .agg #[.string ByteArray.empty, .int .i64 0, .slice none 0 0, .int .i64 0]], []⟩ 8 (by kernel_rfl) (by kernel_rfl) (by kernel_rfl) (by kernel_rfl)) ?_
  · intro ds h
    match ds, h with
    | [_, _], _ => rfl
  · intro W base args ds ps hval hA0
    have hA : DataW.TrodAll enc Try.prog W 0 (fun _ => true) true Try.f8.params.toList args.toList ds ps := hA0
    rw [Try.params8] at hA hval
    obtain ⟨v0, v1, _, _, _, _, rfl, t0, t1⟩ := trodAll_open2 hA
    obtain ⟨c0, a0, rfl, r0⟩ := arg_struct Try.underlying34 DSubscription.opens_laws (hval 0 34 v0 rfl rfl) t0
    obtain ⟨c1, a1, rfl, r1⟩ := arg_struct Try.underlying68 DPush.opens_laws (hval 1 68 v1 rfl rfl) t1
    exact lawOpenPush f0 f1 f2 hS hI hm_g1 hm_x1 c0.toList a0 c1.toList a1 W r0 r1

theorem openPush_of (f0 : DSubscription → DPush → DSubscription) (f1 : DSubscription → DPush → List UInt8) (f2 : DSubscription → DPush → Bool) (hS : SaidOpenPush f0 f1 f2 44) (hI : SaidOpenPush f0 f1 f2 46) (hm_g1 : ∀ (a0 : DSubscription) (a1 : DPush), (a0).wt ≤ 1048576 → (a1).wt ≤ 1048576 → wtT cnt1 (f1 a0 a1) ((f1 a0 a1)).length ≤ 400000000) (hm_x1 : ∀ (a1 : DPush), (a1).wt ≤ 1048576 → (a1).mcnt ≤ 400000000) : Rows.FnExactOpenPushSaid :=
  OpenClaim.holds_of_wide 8 Try.f8 rfl rfl rfl rfl rfl rfl rfl ⟨rfl, rfl, rfl, rfl, rfl⟩ rfl rfl rfl rfl rfl (by kernel_rfl) Try.func8 (by kernel_rfl)
    (of_decide_eq_true (by kernel_rfl)) (by unfold Func.isWrapper; rw [if_neg (by decide +kernel)]; exact ⟨rfl, rfl⟩)
    (fun os started H enc _ => openPush_lifted f0 f1 f2 hS hI hm_g1 hm_x1 os started H enc)

end Go.Proofs.Ytglgjcdnfmlijaa
