/-
  FnExactAnswerFetch: the law's walk, and its row, off the contracts of impl.AnswerFetch and spec.AnswerFetch.
-/
import Derived.Test.YtmknfobkfimggaaLCacheSet
import Derived.Test.YtmknfobkfimggaaLResponse
import Derived.Test.YtmknfobkfimggaaLSite
import Derived.Test.YtmknfobkfimggaaBase
import Derived.Test.YtmknfobkfimggaaTrod5
namespace Go.Proofs.Ytmknfobkfimggaa
open Go.RowKit Go.ChangeShapes

/-- What impl.AnswerFetch and spec.AnswerFetch are both shown to compute. -/
def SaidAnswerFetch (f0 : DCacheSet → DSite → Int → ByteArray → Bool → DResponse) (f : FuncId) : Prop :=
  ∀ (c0 : List Value) (a0 : DCacheSet) (c1 : List Value) (a1 : DSite) (a2 : Int) (a3 : ByteArray) (a4 : Bool) (w : World) (_h0 : Reads DCacheSet.rep w c0 a0) (_h1 : Reads DSite.rep w c1 a1)(_s0 : (a0).wt ≤ 1048576) (_s1 : (a1).wt ≤ 1048576) (_s2 : a3.size ≤ 1048576), Calls Try.prog f #[.agg c0.toArray, .agg c1.toArray, .int .i64 a2, .string a3, .bool a4] w fun e w' => ∃ (d0 : List Value), e = .returned (.agg d0.toArray) ∧ Fresh DResponse.rep w.heap.size w' d0 (f0 a0 a1 a2 a3 a4) ∧ Below w.heap.size w w'

set_option maxRecDepth 100000 in
set_option maxHeartbeats 16000000 in
theorem lawAnswerFetch (f0 : DCacheSet → DSite → Int → ByteArray → Bool → DResponse) (hS : SaidAnswerFetch f0 26) (hI : SaidAnswerFetch f0 29) (hm_g0 : ∀ (a0 : DCacheSet) (a1 : DSite) (a2 : Int) (a3 : ByteArray) (a4 : Bool), (a0).wt ≤ 1048576 → (a1).wt ≤ 1048576 → a3.size ≤ 1048576 → ((f0 a0 a1 a2 a3 a4)).mcnt ≤ 400000000) (hm_x0 : ∀ (a0 : DCacheSet), (a0).wt ≤ 1048576 → (a0).mcnt ≤ 400000000) (hm_x1 : ∀ (a1 : DSite), (a1).wt ≤ 1048576 → (a1).mcnt ≤ 400000000) (c0 : List Value) (a0 : DCacheSet) (c1 : List Value) (a1 : DSite) (a2 : Int) (a3 : ByteArray) (a4 : Bool) (w : World) (h0 : Reads DCacheSet.rep w c0 a0) (h1 : Reads DSite.rep w c1 a1) (hz3 : a3.size ≤ maxLen) :
    Calls Try.prog 5 #[.agg c0.toArray, .agg c1.toArray, .int .i64 a2, .string a3, .bool a4] w fun e w' => e = .returned (.bool true) ∧ Below w.heap.size w w' := by
  have HA0 := Lib.hid (Low.start h0)
  obtain ⟨fp, hr⟩ := h0
  obtain ⟨ao0_0, cap0_0, rfl⟩ := DCacheSet.shape hr
  clear hr
  have HA1 := Lib.hid (Low.start h1)
  obtain ⟨fp, hr⟩ := h1
  obtain ⟨ao1_0, cap1_0, rfl⟩ := DSite.shape hr
  clear hr
  unfold maxLen at hz3
  have HB : Hid (Below w.heap.size w w) := Lib.hid belR
  by_cases hg_aPath : ¬ a3.size ≤ 1048576
  · go_enter Try.func5, Try.ntmps5
    go_wp2
    all_goals first | (go_ret; exact ⟨rfl, (by repeat (first | with_reducible exact belR | with_reducible apply belA | (with_reducible refine belS ?_ ?_; focus (first | omega | (simp; done) | (simp; omega))) | with_reducible apply belN | with_reducible apply belD | with_reducible assumption))⟩) | (exfalso; omega)
  rw [Decidable.not_not] at hg_aPath
  go_enter Try.func5, Try.ntmps5
  go_wp2_with fail
  refine (szCacheSet _ a0 (1048576) _ (HA0.out.reads.below (by repeat (first | with_reducible exact belR | with_reducible apply belA | (with_reducible refine belS ?_ ?_; focus (first | omega | (simp; done) | (simp; omega))) | with_reducible apply belN | with_reducible apply belD | with_reducible assumption))) (by omega) (by omega)).mono ?_
  rintro e w1 ⟨rfl, hb⟩
  have hw : Below w.heap.size w w1 := below_call (by repeat (first | with_reducible exact belR | with_reducible apply belA | (with_reducible refine belS ?_ ?_; focus (first | omega | (simp; done) | (simp; omega))) | with_reducible apply belN | with_reducible apply belD | with_reducible assumption)) (by first | omega | (simp; done) | (simp; omega)) hb
  have hsw1 : w.heap.size + 1 + 1 ≤ w1.heap.size := by have y := hb.size; (try simp at y); omega
  have HX_aS : Hid (Box w1 (w.heap.size) #[.slice ao0_0 a0.caches.length cap0_0]) := Lib.hid (Box.below (Box.growA (Box.at (by first | rfl | simp))) hb)
  have HX_aSite : Hid (Box w1 (w.heap.size + 1) #[.string a1.name, .int .i64 a1.version, .slice ao1_0 a1.files.length cap1_0, .bool a1.shared]) := Lib.hid (Box.below (Box.at (by first | rfl | simp)) hb)
  have ⟨cx_aS, zx_aS⟩ := HX_aS.out
  have ⟨cx_aSite, zx_aSite⟩ := HX_aSite.out
  replace HA0 := Lib.hid (HA0.out.below hw)
  replace HA1 := Lib.hid (HA1.out.below hw)
  replace HB := Lib.hid (below_call HB.out HB.out.size hw)
  clear hw
  clear hb
  have hz := szOf_spec ((a0).wt) (1048576)
  by_cases hv_aS : ¬ (((a0).wt : Nat) : Int) ≤ 1048576
  · rw [hz.2 hv_aS]; clear hz
    go_wp2
    all_goals go_ret
    have y := HB.out
    exact ⟨rfl, (by repeat (first | with_reducible exact belR | with_reducible apply belA | (with_reducible refine belS ?_ ?_; focus (first | omega | (simp; done) | (simp; omega))) | with_reducible apply belN | with_reducible apply belD | with_reducible assumption))⟩
  rw [Decidable.not_not] at hv_aS
  rw [hz.1 hv_aS]; clear hz
  go_wp2_with fail
  refine (szSite _ a1 (1048576 - (((a0).wt : Nat) : Int)) _ (HA1.out.reads.below (by repeat (first | with_reducible exact belR | with_reducible apply belA | (with_reducible refine belS ?_ ?_; focus (first | omega | (simp; done) | (simp; omega))) | with_reducible apply belN | with_reducible apply belD | with_reducible assumption))) (by omega) (by omega)).mono ?_
  rintro e w2 ⟨rfl, hb⟩
  have hw : Below w1.heap.size w1 w2 := below_call (by repeat (first | with_reducible exact belR | with_reducible apply belA | (with_reducible refine belS ?_ ?_; focus (first | omega | (simp; done) | (simp; omega))) | with_reducible apply belN | with_reducible apply belD | with_reducible assumption)) (by first | omega | (simp; done) | (simp; omega)) hb
  have hsw2 : w1.heap.size ≤ w2.heap.size := by have y := hb.size; (try simp at y); omega
  clear cx_aS zx_aS
  replace HX_aS := Lib.hid (HX_aS.out.below hw)
  clear cx_aSite zx_aSite
  replace HX_aSite := Lib.hid (HX_aSite.out.below hw)
  have ⟨cx_aS, zx_aS⟩ := HX_aS.out
  have ⟨cx_aSite, zx_aSite⟩ := HX_aSite.out
  replace HA0 := Lib.hid (HA0.out.below hw)
  replace HA1 := Lib.hid (HA1.out.below hw)
  replace HB := Lib.hid (below_call HB.out HB.out.size hw)
  clear hw
  clear hb
  have hz := szOf_spec ((a1).wt) (1048576 - (((a0).wt : Nat) : Int))
  by_cases hv_aSite : ¬ (((a1).wt : Nat) : Int) ≤ 1048576 - (((a0).wt : Nat) : Int)
  · rw [hz.2 hv_aSite]; clear hz
    go_wp2
    all_goals go_ret
    have y := HB.out
    exact ⟨rfl, (by repeat (first | with_reducible exact belR | with_reducible apply belA | (with_reducible refine belS ?_ ?_; focus (first | omega | (simp; done) | (simp; omega))) | with_reducible apply belN | with_reducible apply belD | with_reducible assumption))⟩
  rw [Decidable.not_not] at hv_aSite
  rw [hz.1 hv_aSite]; clear hz
  go_upto_region 10 with fail
  refine settle (fun W' => Below w2.heap.size w2 W' ∧ w2.heap.size ≤ W'.heap.size) ⟨(by repeat (first | with_reducible exact belR | with_reducible apply belA | (with_reducible refine belS ?_ ?_; focus (first | omega | (simp; done) | (simp; omega))) | with_reducible apply belN | with_reducible apply belD | with_reducible assumption)), (by first | omega | (simp; done) | (simp; omega))⟩ ?_
  rintro w3 ⟨hw, hsw3⟩
  clear cx_aS zx_aS
  replace HX_aS := Lib.hid (HX_aS.out.below hw)
  clear cx_aSite zx_aSite
  replace HX_aSite := Lib.hid (HX_aSite.out.below hw)
  have ⟨cx_aS, zx_aS⟩ := HX_aS.out
  have ⟨cx_aSite, zx_aSite⟩ := HX_aSite.out
  replace HA0 := Lib.hid (HA0.out.below hw)
  replace HA1 := Lib.hid (HA1.out.below hw)
  replace HB := Lib.hid (below_call HB.out HB.out.size hw)
  clear hw
  go_cut [12] (fun p_w0 wx => ∃ (lo hi : Nat) (kb_w0 : Nat) (ao_w0_0 : Option Addr) (cap_w0_0 : Nat) (fp_w0 : List Nat), p_w0 = .pointer (some ⟨kb_w0, 0, none⟩) ∧ Box wx kb_w0 #[.int .i64 ((f0 a0 a1 a2 a3 a4)).type_, .int .i64 ((f0 a0 a1 a2 a3 a4)).status, .int .i64 ((f0 a0 a1 a2 a3 a4)).version, .slice ao_w0_0 ((f0 a0 a1 a2 a3 a4)).body.length cap_w0_0, .bool ((f0 a0 a1 a2 a3 a4)).shares] ∧ w3.heap.size ≤ kb_w0 ∧ (kb_w0 < lo ∨ hi ≤ kb_w0) ∧ w3.heap.size ≤ lo ∧ hi ≤ wx.heap.size ∧ Own DResponse.rep lo hi wx [.int .i64 ((f0 a0 a1 a2 a3 a4)).type_, .int .i64 ((f0 a0 a1 a2 a3 a4)).status, .int .i64 ((f0 a0 a1 a2 a3 a4)).version, .slice ao_w0_0 ((f0 a0 a1 a2 a3 a4)).body.length cap_w0_0, .bool ((f0 a0 a1 a2 a3 a4)).shares] (f0 a0 a1 a2 a3 a4) fp_w0 ∧ Below w3.heap.size w3 wx)
  case first =>
    have HSr : Hid (∀ w', Below w3.heap.size w3 w' → (∀ o, w'.cell? ⟨w.heap.size, o, none⟩ = #[.slice ao0_0 a0.caches.length cap0_0][o]?) ∧ (∀ o, w'.cell? ⟨w.heap.size + 1, o, none⟩ = #[.string a1.name, .int .i64 a1.version, .slice ao1_0 a1.files.length cap1_0, .bool a1.shared][o]?) ∧ Below w3.heap.size w3 w') := Lib.hid fun w' hw' => ⟨fun o => (hw'.cell (p := ⟨w.heap.size, o, none⟩) zx_aS).trans (cx_aS o), fun o => (hw'.cell (p := ⟨w.heap.size + 1, o, none⟩) zx_aSite).trans (cx_aSite o), hw'⟩
    go_region_held3 (fun w' => (∀ o, w'.cell? ⟨w.heap.size, o, none⟩ = #[.slice ao0_0 a0.caches.length cap0_0][o]?) ∧ (∀ o, w'.cell? ⟨w.heap.size + 1, o, none⟩ = #[.string a1.name, .int .i64 a1.version, .slice ao1_0 a1.files.length cap1_0, .bool a1.shared][o]?) ∧ Below w3.heap.size w3 w')
      (first | exact HSr.out _ (by repeat (first | with_reducible exact belR | (with_reducible refine belAB ?_ ?_; focus (first | omega | (simp; done) | (simp; omega))) | (with_reducible refine belS ?_ ?_; focus (first | omega | (simp; done) | (simp; omega))) | with_reducible apply belN | with_reducible apply belD | with_reducible assumption)))
      (first | (go_at_call 26; have hx := hq_w0_aSite; clear hx; have hS_F6 := ‹_ ∧ _ ∧ Below w3.heap.size w3 _›; refine (hS _ a0 _ a1 a2 a3 a4 _ (hr_w0_aS.below (by repeat (first | with_reducible exact belR | with_reducible apply belA | (with_reducible refine belS ?_ ?_; focus (first | omega | (simp; done) | (simp; omega))) | with_reducible apply belN | with_reducible apply belD | with_reducible assumption))) (hr_w0_aSite.below (by repeat (first | with_reducible exact belR | with_reducible apply belA | (with_reducible refine belS ?_ ?_; focus (first | omega | (simp; done) | (simp; omega))) | with_reducible apply belN | with_reducible apply belD | with_reducible assumption))) (by first | omega | exact hv_aS) (by first | omega | exact hv_aSite) (by first | omega | exact hg_aPath)).mono ?_; rintro e w6 ⟨d_w_0, rfl, hf0, hb_F6⟩; have hq_F6 : Below w3.heap.size w3 w6 := below_call hS_F6.2.2 hS_F6.2.2.size hb_F6; clear hS_F6; have hz_F6 := hq_F6.size; (first | (have hwb_F6 : WB w6 _ #[.int .i64 0, .int .i64 0, .int .i64 0, .slice none 0 0, .bool false] := (WB.at rfl).keep hb_F6; have ⟨we_F6, wl_F6, wf_F6⟩ := hwb_F6) | (have hwb_F6 := hwb_w0_aSite.keep hb_F6; have ⟨we_F6, wl_F6, wf_F6⟩ := hwb_F6) | skip); obtain ⟨ao_w0_0, cap_w0_0, rfl⟩ := DResponse.fshape hf0) | (go_at_call 28; have hx := hq_w0_aS; clear hx; have hS_w0_aSite := ‹_ ∧ _ ∧ Below w3.heap.size w3 _›; refine (toSite _ a1 _ (HA1.out.reads.below hS_w0_aSite.2.2) (by first | omega | (simp [DSite.wt]))).mono ?_; rintro e w5 ⟨d_w0_aSite, rfl, hf_w0_aSite, hb_w0_aSite⟩; have hq_w0_aSite : Below w3.heap.size w3 w5 := below_call hS_w0_aSite.2.2 hS_w0_aSite.2.2.size hb_w0_aSite; clear hS_w0_aSite; have hz_w0_aSite := hq_w0_aSite.size; (first | (have hwb_w0_aSite : WB w5 _ #[.int .i64 0, .int .i64 0, .int .i64 0, .slice none 0 0, .bool false] := (WB.at rfl).keep hb_w0_aSite; have ⟨we_w0_aSite, wl_w0_aSite, wf_w0_aSite⟩ := hwb_w0_aSite) | (have hwb_w0_aSite := hwb_w0_aS.keep hb_w0_aSite; have ⟨we_w0_aSite, wl_w0_aSite, wf_w0_aSite⟩ := hwb_w0_aSite) | skip); obtain ⟨ao_w0_aSite_0, cap_w0_aSite_0, rfl⟩ := DSite.fshape hf_w0_aSite; have hr_w0_aSite := hf_w0_aSite.reads; replace hr_w0_aS := hr_w0_aS.below (by first | exact hb_w0_aSite | exact (belD belR).trans hb_w0_aSite | exact below_call (by repeat (first | with_reducible exact belR | with_reducible apply belA | (with_reducible refine belS ?_ ?_; focus (first | omega | (simp; done) | (simp; omega))) | with_reducible apply belN | with_reducible apply belD | with_reducible assumption)) (by first | omega | (simp; done) | (simp; omega)) hb_w0_aSite)) | (go_at_call 27; have hS_w0_aS := ‹_ ∧ _ ∧ Below w3.heap.size w3 _›; refine (toCacheSet _ a0 _ (HA0.out.reads.below hS_w0_aS.2.2) (by first | omega | (simp [DCacheSet.wt]))).mono ?_; rintro e w4 ⟨d_w0_aS, rfl, hf_w0_aS, hb_w0_aS⟩; have hq_w0_aS : Below w3.heap.size w3 w4 := below_call hS_w0_aS.2.2 hS_w0_aS.2.2.size hb_w0_aS; clear hS_w0_aS; have hz_w0_aS := hq_w0_aS.size; (first | (have hwb_w0_aS : WB w4 _ #[.int .i64 0, .int .i64 0, .int .i64 0, .slice none 0 0, .bool false] := (WB.at rfl).growD.keep hb_w0_aS; have ⟨we_w0_aS, wl_w0_aS, wf_w0_aS⟩ := hwb_w0_aS) | skip); obtain ⟨ao_w0_aS_0, cap_w0_aS_0, rfl⟩ := DCacheSet.fshape hf_w0_aS; have hr_w0_aS := hf_w0_aS.reads))
    all_goals
      go_wp2_with fail
      go_meet
      obtain ⟨lo0, fp_w0, hlo0, o_w0⟩ := Fresh.ownAtL hf0
      (try simp at hlo0)
      first
        | exact ⟨lo0, w6.heap.size, _, ao_w0_0, cap_w0_0, fp_w0, rfl, (WB.sets [.int .i64 ((f0 a0 a1 a2 a3 a4)).type_, .int .i64 ((f0 a0 a1 a2 a3 a4)).status, .int .i64 ((f0 a0 a1 a2 a3 a4)).version, .slice ao_w0_0 ((f0 a0 a1 a2 a3 a4)).body.length cap_w0_0, .bool ((f0 a0 a1 a2 a3 a4)).shares] 0 _ _ hwb_F6 (by simp)).box, (by omega), .inl (by omega), (by omega), (Nat.le_of_eq (by simp only [World.size_setCell])), (by repeat (first | with_reducible exact o_w0 | with_reducible refine Own.setOut ?_ (.inl (by omega)))), (by have y := hq_F6; exact (by repeat (first | with_reducible exact belR | with_reducible apply belA | (with_reducible refine belS ?_ ?_; focus (first | omega | (simp; done) | (simp; omega))) | with_reducible apply belN | with_reducible apply belD | with_reducible assumption)))⟩
        | exact ⟨lo0, w6.heap.size, w6.heap.size, ao_w0_0, cap_w0_0, fp_w0, rfl, Box.at rfl, (by omega), .inr (by omega), (by omega), (by rw [World.size_alloc]; omega), o_w0.allocA, (by have y := hq_F6; exact (by repeat (first | with_reducible exact belR | with_reducible apply belA | (with_reducible refine belS ?_ ?_; focus (first | omega | (simp; done) | (simp; omega))) | with_reducible apply belN | with_reducible apply belD | with_reducible assumption)))⟩
  obtain ⟨lo_w0, hi_w0, kb_w0, ao_w0_0, cap_w0_0, fp_w0, rfl, hbx_w0, hk1_w0, hk2_w0, hl1_w0, hl2_w0, ho_w0, hw⟩ := hcut
  rename World => w6
  have hsw6 : w3.heap.size ≤ w6.heap.size := hw.size
  clear cx_aS zx_aS
  replace HX_aS := Lib.hid (HX_aS.out.below hw)
  clear cx_aSite zx_aSite
  replace HX_aSite := Lib.hid (HX_aSite.out.below hw)
  have HX_w0 := Lib.hid hbx_w0; clear hbx_w0
  have hkz_w0 := HX_w0.out.2
  have H_w0 := Lib.hid ho_w0; clear ho_w0
  have ⟨cx_aS, zx_aS⟩ := HX_aS.out
  have ⟨cx_aSite, zx_aSite⟩ := HX_aSite.out
  have ⟨cx_w0, zx_w0⟩ := HX_w0.out
  replace HA0 := Lib.hid (HA0.out.below hw)
  replace HA1 := Lib.hid (HA1.out.below hw)
  replace HB := Lib.hid (below_call HB.out HB.out.size hw)
  clear hw
  go_wp2_with fail
  refine (toCacheSet _ a0 _ (HA0.out.reads.below (by repeat (first | with_reducible exact belR | with_reducible apply belA | (with_reducible refine belS ?_ ?_; focus (first | omega | (simp; done) | (simp; omega))) | with_reducible apply belN | with_reducible apply belD | with_reducible assumption))) (by first | omega | (simp [DCacheSet.wt]))).mono ?_
  rintro e w7 ⟨d_x0, rfl, hf, hb⟩
  obtain ⟨ao_x0_0, cap_x0_0, rfl⟩ := DCacheSet.fshape hf
  obtain ⟨fp_x0, o_x0⟩ := Fresh.own hf (lo := w6.heap.size) (by first | omega | (simp; done) | (simp; omega))
  have H_x0 := Lib.hid o_x0; clear o_x0
  have hw : Below w6.heap.size w6 w7 := below_call (by repeat (first | with_reducible exact belR | with_reducible apply belA | (with_reducible refine belS ?_ ?_; focus (first | omega | (simp; done) | (simp; omega))) | with_reducible apply belN | with_reducible apply belD | with_reducible assumption)) (by first | omega | (simp; done) | (simp; omega)) hb
  have hsw7 : w6.heap.size ≤ w7.heap.size := by have y := hb.size; (try simp at y); omega
  clear cx_aS zx_aS
  replace HX_aS := Lib.hid (HX_aS.out.below hw)
  clear cx_aSite zx_aSite
  replace HX_aSite := Lib.hid (HX_aSite.out.below hw)
  clear cx_w0 zx_w0
  replace HX_w0 := Lib.hid (HX_w0.out.below hw)
  have ⟨cx_aS, zx_aS⟩ := HX_aS.out
  have ⟨cx_aSite, zx_aSite⟩ := HX_aSite.out
  have ⟨cx_w0, zx_w0⟩ := HX_w0.out
  replace HA0 := Lib.hid (HA0.out.below hw)
  replace HA1 := Lib.hid (HA1.out.below hw)
  replace H_w0 := Lib.hid (H_w0.out.below hw)
  replace HB := Lib.hid (below_call HB.out HB.out.size hw)
  clear hw
  clear hb hf
  go_wp2_with fail
  refine (toSite _ a1 _ (HA1.out.reads.below (by repeat (first | with_reducible exact belR | with_reducible apply belA | (with_reducible refine belS ?_ ?_; focus (first | omega | (simp; done) | (simp; omega))) | with_reducible apply belN | with_reducible apply belD | with_reducible assumption))) (by first | omega | (simp [DSite.wt]))).mono ?_
  rintro e w8 ⟨d_x1, rfl, hf, hb⟩
  obtain ⟨ao_x1_0, cap_x1_0, rfl⟩ := DSite.fshape hf
  obtain ⟨fp_x1, o_x1⟩ := Fresh.own hf (lo := w7.heap.size + 1) (by first | omega | (simp; done) | (simp; omega))
  have H_x1 := Lib.hid o_x1; clear o_x1
  have hw : Below w7.heap.size w7 w8 := below_call (by repeat (first | with_reducible exact belR | with_reducible apply belA | (with_reducible refine belS ?_ ?_; focus (first | omega | (simp; done) | (simp; omega))) | with_reducible apply belN | with_reducible apply belD | with_reducible assumption)) (by first | omega | (simp; done) | (simp; omega)) hb
  have hsw8 : w7.heap.size + 1 ≤ w8.heap.size := by have y := hb.size; (try simp at y); omega
  clear cx_aS zx_aS
  replace HX_aS := Lib.hid (HX_aS.out.below hw)
  clear cx_aSite zx_aSite
  replace HX_aSite := Lib.hid (HX_aSite.out.below hw)
  clear cx_w0 zx_w0
  replace HX_w0 := Lib.hid (HX_w0.out.below hw)
  have HX_x0 : Hid (Box w8 (w7.heap.size) #[.slice ao_x0_0 (a0).caches.length cap_x0_0]) := Lib.hid (Box.below (Box.at (by first | rfl | simp)) hb)
  have ⟨cx_aS, zx_aS⟩ := HX_aS.out
  have ⟨cx_aSite, zx_aSite⟩ := HX_aSite.out
  have ⟨cx_w0, zx_w0⟩ := HX_w0.out
  have ⟨cx_x0, zx_x0⟩ := HX_x0.out
  replace HA0 := Lib.hid (HA0.out.below hw)
  replace HA1 := Lib.hid (HA1.out.below hw)
  replace H_w0 := Lib.hid (H_w0.out.below hw)
  replace H_x0 := Lib.hid (H_x0.out.below hw)
  replace HB := Lib.hid (below_call HB.out HB.out.size hw)
  clear hw
  clear hb hf
  go_wp2_with fail
  refine (hI _ a0 _ a1 a2 a3 a4 _ (H_x0.out.reads.below (by repeat (first | with_reducible exact belR | with_reducible apply belA | (with_reducible refine belS ?_ ?_; focus (first | omega | (simp; done) | (simp; omega))) | with_reducible apply belN | with_reducible apply belD | with_reducible assumption))) (H_x1.out.reads.below (by repeat (first | with_reducible exact belR | with_reducible apply belA | (with_reducible refine belS ?_ ?_; focus (first | omega | (simp; done) | (simp; omega))) | with_reducible apply belN | with_reducible apply belD | with_reducible assumption))) (by first | omega | exact hv_aS) (by first | omega | exact hv_aSite) (by first | omega | exact hg_aPath)).mono ?_
  rintro e w9 ⟨d_g_0, rfl, hf0, hb⟩
  obtain ⟨ao_g0_0, cap_g0_0, rfl⟩ := DResponse.fshape hf0
  obtain ⟨fp_g0, o_g0⟩ := Fresh.own hf0 (lo := w8.heap.size + 1) (by first | omega | (simp; done) | (simp; omega))
  have H_g0 := Lib.hid o_g0; clear o_g0
  have hw : Below w8.heap.size w8 w9 := below_call (by repeat (first | with_reducible exact belR | with_reducible apply belA | (with_reducible refine belS ?_ ?_; focus (first | omega | (simp; done) | (simp; omega))) | with_reducible apply belN | with_reducible apply belD | with_reducible assumption)) (by first | omega | (simp; done) | (simp; omega)) hb
  have hsw9 : w8.heap.size + 1 ≤ w9.heap.size := by have y := hb.size; (try simp at y); omega
  clear cx_aS zx_aS
  replace HX_aS := Lib.hid (HX_aS.out.below hw)
  clear cx_aSite zx_aSite
  replace HX_aSite := Lib.hid (HX_aSite.out.below hw)
  clear cx_w0 zx_w0
  replace HX_w0 := Lib.hid (HX_w0.out.below hw)
  clear cx_x0 zx_x0
  replace HX_x0 := Lib.hid (HX_x0.out.below hw)
  have HX_x1 : Hid (Box w9 (w8.heap.size) #[.string (a1).name, .int .i64 (a1).version, .slice ao_x1_0 (a1).files.length cap_x1_0, .bool (a1).shared]) := Lib.hid (Box.below (Box.at (by first | rfl | simp)) hb)
  have ⟨cx_aS, zx_aS⟩ := HX_aS.out
  have ⟨cx_aSite, zx_aSite⟩ := HX_aSite.out
  have ⟨cx_w0, zx_w0⟩ := HX_w0.out
  have ⟨cx_x0, zx_x0⟩ := HX_x0.out
  have ⟨cx_x1, zx_x1⟩ := HX_x1.out
  replace HA0 := Lib.hid (HA0.out.below hw)
  replace HA1 := Lib.hid (HA1.out.below hw)
  replace H_w0 := Lib.hid (H_w0.out.below hw)
  replace H_x0 := Lib.hid (H_x0.out.below hw)
  replace H_x1 := Lib.hid (H_x1.out.below hw)
  replace HB := Lib.hid (below_call HB.out HB.out.size hw)
  clear hw
  clear hb
  go_wp2_with fail
  refine (eqResponse _ _ (f0 a0 a1 a2 a3 a4) _ (H_g0.out.reads.below (by repeat (first | with_reducible exact belR | with_reducible apply belA | (with_reducible refine belS ?_ ?_; focus (first | omega | (simp; done) | (simp; omega))) | with_reducible apply belN | with_reducible apply belD | with_reducible assumption))) (H_w0.out.reads.below (by repeat (first | with_reducible exact belR | with_reducible apply belA | (with_reducible refine belS ?_ ?_; focus (first | omega | (simp; done) | (simp; omega))) | with_reducible apply belN | with_reducible apply belD | with_reducible assumption)))).mono ?_
  rintro e w10 ⟨rfl, hb⟩
  have hw : Below w9.heap.size w9 w10 := below_call (by repeat (first | with_reducible exact belR | with_reducible apply belA | (with_reducible refine belS ?_ ?_; focus (first | omega | (simp; done) | (simp; omega))) | with_reducible apply belN | with_reducible apply belD | with_reducible assumption)) (by first | omega | (simp; done) | (simp; omega)) hb
  have hsw10 : w9.heap.size + 1 ≤ w10.heap.size := by have y := hb.size; (try simp at y); omega
  clear cx_aS zx_aS
  replace HX_aS := Lib.hid (HX_aS.out.below hw)
  clear cx_aSite zx_aSite
  replace HX_aSite := Lib.hid (HX_aSite.out.below hw)
  clear cx_w0 zx_w0
  replace HX_w0 := Lib.hid (HX_w0.out.below hw)
  clear cx_x0 zx_x0
  replace HX_x0 := Lib.hid (HX_x0.out.below hw)
  clear cx_x1 zx_x1
  replace HX_x1 := Lib.hid (HX_x1.out.below hw)
  have HX_g0 : Hid (Box w10 (w9.heap.size) #[.int .i64 ((f0 a0 a1 a2 a3 a4)).type_, .int .i64 ((f0 a0 a1 a2 a3 a4)).status, .int .i64 ((f0 a0 a1 a2 a3 a4)).version, .slice ao_g0_0 ((f0 a0 a1 a2 a3 a4)).body.length cap_g0_0, .bool ((f0 a0 a1 a2 a3 a4)).shares]) := Lib.hid (Box.below (Box.at (by first | rfl | simp)) hb)
  have ⟨cx_aS, zx_aS⟩ := HX_aS.out
  have ⟨cx_aSite, zx_aSite⟩ := HX_aSite.out
  have ⟨cx_w0, zx_w0⟩ := HX_w0.out
  have ⟨cx_x0, zx_x0⟩ := HX_x0.out
  have ⟨cx_x1, zx_x1⟩ := HX_x1.out
  have ⟨cx_g0, zx_g0⟩ := HX_g0.out
  replace HA0 := Lib.hid (HA0.out.below hw)
  replace HA1 := Lib.hid (HA1.out.below hw)
  replace H_w0 := Lib.hid (H_w0.out.below hw)
  replace H_x0 := Lib.hid (H_x0.out.below hw)
  replace H_x1 := Lib.hid (H_x1.out.below hw)
  replace H_g0 := Lib.hid (H_g0.out.below hw)
  replace HB := Lib.hid (below_call HB.out HB.out.size hw)
  clear hw
  clear hb
  go_wp2_with fail
  refine settle (fun W' => Below w10.heap.size w10 W' ∧ w10.heap.size ≤ W'.heap.size) ⟨(by repeat (first | with_reducible exact belR | with_reducible apply belA | (with_reducible refine belS ?_ ?_; focus (first | omega | (simp; done) | (simp; omega))) | with_reducible apply belN | with_reducible apply belD | with_reducible assumption)), (by first | omega | (simp; done) | (simp; omega))⟩ ?_
  rintro w11 ⟨hw, hsw11⟩
  clear cx_aS zx_aS
  replace HX_aS := Lib.hid (HX_aS.out.below hw)
  clear cx_aSite zx_aSite
  replace HX_aSite := Lib.hid (HX_aSite.out.below hw)
  clear cx_w0 zx_w0
  replace HX_w0 := Lib.hid (HX_w0.out.below hw)
  clear cx_x0 zx_x0
  replace HX_x0 := Lib.hid (HX_x0.out.below hw)
  clear cx_x1 zx_x1
  replace HX_x1 := Lib.hid (HX_x1.out.below hw)
  clear cx_g0 zx_g0
  replace HX_g0 := Lib.hid (HX_g0.out.below hw)
  have ⟨cx_aS, zx_aS⟩ := HX_aS.out
  have ⟨cx_aSite, zx_aSite⟩ := HX_aSite.out
  have ⟨cx_w0, zx_w0⟩ := HX_w0.out
  have ⟨cx_x0, zx_x0⟩ := HX_x0.out
  have ⟨cx_x1, zx_x1⟩ := HX_x1.out
  have ⟨cx_g0, zx_g0⟩ := HX_g0.out
  replace HA0 := Lib.hid (HA0.out.below hw)
  replace HA1 := Lib.hid (HA1.out.below hw)
  replace H_w0 := Lib.hid (H_w0.out.below hw)
  replace H_x0 := Lib.hid (H_x0.out.below hw)
  replace H_x1 := Lib.hid (H_x1.out.below hw)
  replace H_g0 := Lib.hid (H_g0.out.below hw)
  replace HB := Lib.hid (below_call HB.out HB.out.size hw)
  clear hw
  go_region_held3 (fun w' => (∀ o, w'.cell? ⟨w7.heap.size, o, none⟩ = #[.slice ao_x0_0 (a0).caches.length cap_x0_0][o]?) ∧ (∀ o, w'.cell? ⟨w.heap.size, o, none⟩ = #[.slice ao0_0 a0.caches.length cap0_0][o]?) ∧ Below w11.heap.size w11 w')
    (first | exact ⟨fun o => (World.cell?_drew _ _ |>.trans <| hq_E13.cell (p := ⟨w7.heap.size, o, none⟩) zx_x0).trans (cx_x0 o), fun o => (World.cell?_drew _ _ |>.trans <| hq_E13.cell (p := ⟨w.heap.size, o, none⟩) zx_aS).trans (cx_aS o), belD hq_E13⟩ | exact ⟨fun o => (hq_E13.cell (p := ⟨w7.heap.size, o, none⟩) zx_x0).trans (cx_x0 o), fun o => (hq_E13.cell (p := ⟨w.heap.size, o, none⟩) zx_aS).trans (cx_aS o), hq_E13⟩ | exact ⟨fun o => (World.cell?_drew _ _ |>.trans <| hq_x0_e11.cell (p := ⟨w7.heap.size, o, none⟩) zx_x0).trans (cx_x0 o), fun o => (World.cell?_drew _ _ |>.trans <| hq_x0_e11.cell (p := ⟨w.heap.size, o, none⟩) zx_aS).trans (cx_aS o), belD hq_x0_e11⟩ | exact ⟨fun o => (hq_x0_e11.cell (p := ⟨w7.heap.size, o, none⟩) zx_x0).trans (cx_x0 o), fun o => (hq_x0_e11.cell (p := ⟨w.heap.size, o, none⟩) zx_aS).trans (cx_aS o), hq_x0_e11⟩ | exact ⟨cx_x0, cx_aS, belR⟩ | exact ⟨cx_x0, cx_aS, belD belR⟩)
    (first | (go_at_call 31; have hx := hq_x0_e11; clear hx; have hS_E13 := ‹_ ∧ _ ∧ Below w11.heap.size w11 _›; refine (eqCacheSet _ _ a0 _ (H_x0.out.reads.below hS_E13.2.2) (hr_x0_e11.below (by first | exact belR | exact belD belR | exact belN (belD belR)))).mono ?_; rintro e w13 ⟨rfl, hb_E13⟩; have hq_E13 : Below w11.heap.size w11 w13 := below_call hS_E13.2.2 hS_E13.2.2.size hb_E13; clear hS_E13) | (go_at_call 27; have hS_x0_e11 := ‹_ ∧ _ ∧ Below w11.heap.size w11 _›; refine (toCacheSet _ a0 _ (HA0.out.reads.below hS_x0_e11.2.2) (by first | omega | (simp [DCacheSet.wt]))).mono ?_; rintro e w12 ⟨d_x0_e11, rfl, hf_x0_e11, hb_x0_e11⟩; have hq_x0_e11 : Below w11.heap.size w11 w12 := below_call hS_x0_e11.2.2 hS_x0_e11.2.2.size hb_x0_e11; clear hS_x0_e11; obtain ⟨ao_x0_e11_0, cap_x0_e11_0, rfl⟩ := DCacheSet.fshape hf_x0_e11; have hr_x0_e11 := hf_x0_e11.reads))
  have hw := hq_E13
  have hsw13 : w11.heap.size ≤ w13.heap.size := hq_E13.size
  clear cx_aS zx_aS
  replace HX_aS := Lib.hid (HX_aS.out.below hw)
  clear cx_aSite zx_aSite
  replace HX_aSite := Lib.hid (HX_aSite.out.below hw)
  clear cx_w0 zx_w0
  replace HX_w0 := Lib.hid (HX_w0.out.below hw)
  clear cx_x0 zx_x0
  replace HX_x0 := Lib.hid (HX_x0.out.below hw)
  clear cx_x1 zx_x1
  replace HX_x1 := Lib.hid (HX_x1.out.below hw)
  clear cx_g0 zx_g0
  replace HX_g0 := Lib.hid (HX_g0.out.below hw)
  have ⟨cx_aS, zx_aS⟩ := HX_aS.out
  have ⟨cx_aSite, zx_aSite⟩ := HX_aSite.out
  have ⟨cx_w0, zx_w0⟩ := HX_w0.out
  have ⟨cx_x0, zx_x0⟩ := HX_x0.out
  have ⟨cx_x1, zx_x1⟩ := HX_x1.out
  have ⟨cx_g0, zx_g0⟩ := HX_g0.out
  replace HA0 := Lib.hid (HA0.out.below hw)
  replace HA1 := Lib.hid (HA1.out.below hw)
  replace H_w0 := Lib.hid (H_w0.out.below hw)
  replace H_x0 := Lib.hid (H_x0.out.below hw)
  replace H_x1 := Lib.hid (H_x1.out.below hw)
  replace H_g0 := Lib.hid (H_g0.out.below hw)
  replace HB := Lib.hid (below_call HB.out HB.out.size hw)
  clear hw
  go_wp2_with fail
  refine settle (fun W' => Below w13.heap.size w13 W' ∧ w13.heap.size ≤ W'.heap.size) ⟨(by repeat (first | with_reducible exact belR | with_reducible apply belA | (with_reducible refine belS ?_ ?_; focus (first | omega | (simp; done) | (simp; omega))) | with_reducible apply belN | with_reducible apply belD | with_reducible assumption)), (by first | omega | (simp; done) | (simp; omega))⟩ ?_
  rintro w14 ⟨hw, hsw14⟩
  clear cx_aS zx_aS
  replace HX_aS := Lib.hid (HX_aS.out.below hw)
  clear cx_aSite zx_aSite
  replace HX_aSite := Lib.hid (HX_aSite.out.below hw)
  clear cx_w0 zx_w0
  replace HX_w0 := Lib.hid (HX_w0.out.below hw)
  clear cx_x0 zx_x0
  replace HX_x0 := Lib.hid (HX_x0.out.below hw)
  clear cx_x1 zx_x1
  replace HX_x1 := Lib.hid (HX_x1.out.below hw)
  clear cx_g0 zx_g0
  replace HX_g0 := Lib.hid (HX_g0.out.below hw)
  have ⟨cx_aS, zx_aS⟩ := HX_aS.out
  have ⟨cx_aSite, zx_aSite⟩ := HX_aSite.out
  have ⟨cx_w0, zx_w0⟩ := HX_w0.out
  have ⟨cx_x0, zx_x0⟩ := HX_x0.out
  have ⟨cx_x1, zx_x1⟩ := HX_x1.out
  have ⟨cx_g0, zx_g0⟩ := HX_g0.out
  replace HA0 := Lib.hid (HA0.out.below hw)
  replace HA1 := Lib.hid (HA1.out.below hw)
  replace H_w0 := Lib.hid (H_w0.out.below hw)
  replace H_x0 := Lib.hid (H_x0.out.below hw)
  replace H_x1 := Lib.hid (H_x1.out.below hw)
  replace H_g0 := Lib.hid (H_g0.out.below hw)
  replace HB := Lib.hid (below_call HB.out HB.out.size hw)
  clear hw
  go_region_held3 (fun w' => (∀ o, w'.cell? ⟨w8.heap.size, o, none⟩ = #[.string (a1).name, .int .i64 (a1).version, .slice ao_x1_0 (a1).files.length cap_x1_0, .bool (a1).shared][o]?) ∧ (∀ o, w'.cell? ⟨w.heap.size + 1, o, none⟩ = #[.string a1.name, .int .i64 a1.version, .slice ao1_0 a1.files.length cap1_0, .bool a1.shared][o]?) ∧ Below w14.heap.size w14 w')
    (first | exact ⟨fun o => (World.cell?_drew _ _ |>.trans <| hq_E16.cell (p := ⟨w8.heap.size, o, none⟩) zx_x1).trans (cx_x1 o), fun o => (World.cell?_drew _ _ |>.trans <| hq_E16.cell (p := ⟨w.heap.size + 1, o, none⟩) zx_aSite).trans (cx_aSite o), belD hq_E16⟩ | exact ⟨fun o => (hq_E16.cell (p := ⟨w8.heap.size, o, none⟩) zx_x1).trans (cx_x1 o), fun o => (hq_E16.cell (p := ⟨w.heap.size + 1, o, none⟩) zx_aSite).trans (cx_aSite o), hq_E16⟩ | exact ⟨fun o => (World.cell?_drew _ _ |>.trans <| hq_x1_e14.cell (p := ⟨w8.heap.size, o, none⟩) zx_x1).trans (cx_x1 o), fun o => (World.cell?_drew _ _ |>.trans <| hq_x1_e14.cell (p := ⟨w.heap.size + 1, o, none⟩) zx_aSite).trans (cx_aSite o), belD hq_x1_e14⟩ | exact ⟨fun o => (hq_x1_e14.cell (p := ⟨w8.heap.size, o, none⟩) zx_x1).trans (cx_x1 o), fun o => (hq_x1_e14.cell (p := ⟨w.heap.size + 1, o, none⟩) zx_aSite).trans (cx_aSite o), hq_x1_e14⟩ | exact ⟨cx_x1, cx_aSite, belR⟩ | exact ⟨cx_x1, cx_aSite, belD belR⟩)
    (first | (go_at_call 32; have hx := hq_x1_e14; clear hx; have hS_E16 := ‹_ ∧ _ ∧ Below w14.heap.size w14 _›; refine (eqSite _ _ a1 _ (H_x1.out.reads.below hS_E16.2.2) (hr_x1_e14.below (by first | exact belR | exact belD belR | exact belN (belD belR)))).mono ?_; rintro e w16 ⟨rfl, hb_E16⟩; have hq_E16 : Below w14.heap.size w14 w16 := below_call hS_E16.2.2 hS_E16.2.2.size hb_E16; clear hS_E16) | (go_at_call 28; have hS_x1_e14 := ‹_ ∧ _ ∧ Below w14.heap.size w14 _›; refine (toSite _ a1 _ (HA1.out.reads.below hS_x1_e14.2.2) (by first | omega | (simp [DSite.wt]))).mono ?_; rintro e w15 ⟨d_x1_e14, rfl, hf_x1_e14, hb_x1_e14⟩; have hq_x1_e14 : Below w14.heap.size w14 w15 := below_call hS_x1_e14.2.2 hS_x1_e14.2.2.size hb_x1_e14; clear hS_x1_e14; obtain ⟨ao_x1_e14_0, cap_x1_e14_0, rfl⟩ := DSite.fshape hf_x1_e14; have hr_x1_e14 := hf_x1_e14.reads))
  have hw := hq_E16
  have hsw16 : w14.heap.size ≤ w16.heap.size := hq_E16.size
  clear cx_aS zx_aS
  replace HX_aS := Lib.hid (HX_aS.out.below hw)
  clear cx_aSite zx_aSite
  replace HX_aSite := Lib.hid (HX_aSite.out.below hw)
  clear cx_w0 zx_w0
  replace HX_w0 := Lib.hid (HX_w0.out.below hw)
  clear cx_x0 zx_x0
  replace HX_x0 := Lib.hid (HX_x0.out.below hw)
  clear cx_x1 zx_x1
  replace HX_x1 := Lib.hid (HX_x1.out.below hw)
  clear cx_g0 zx_g0
  replace HX_g0 := Lib.hid (HX_g0.out.below hw)
  have ⟨cx_aS, zx_aS⟩ := HX_aS.out
  have ⟨cx_aSite, zx_aSite⟩ := HX_aSite.out
  have ⟨cx_w0, zx_w0⟩ := HX_w0.out
  have ⟨cx_x0, zx_x0⟩ := HX_x0.out
  have ⟨cx_x1, zx_x1⟩ := HX_x1.out
  have ⟨cx_g0, zx_g0⟩ := HX_g0.out
  replace HA0 := Lib.hid (HA0.out.below hw)
  replace HA1 := Lib.hid (HA1.out.below hw)
  replace H_w0 := Lib.hid (H_w0.out.below hw)
  replace H_x0 := Lib.hid (H_x0.out.below hw)
  replace H_x1 := Lib.hid (H_x1.out.below hw)
  replace H_g0 := Lib.hid (H_g0.out.below hw)
  replace HB := Lib.hid (below_call HB.out HB.out.size hw)
  clear hw
  go_wp2_with fail
  have hk_x0 := (hm_x0 a0 (by first | omega | exact hv_aS))
  refine (markCacheSet _ a0 fp_x0 (1) _ H_x0.out.rd H_x0.out.nodup (by omega)).mono ?_
  rintro e w17 ⟨rfl, hrd, hc⟩
  have hnew := Own.mk hrd H_x0.out.nodup (H_x0.out.ivl)
  have hq := H_x0.out.ivl
  have hsw17 : w16.heap.size ≤ w17.heap.size := hc.size
  clear cx_aS zx_aS
  replace HX_aS := Lib.hid (HX_aS.out.chg hc hq (by omega))
  clear cx_aSite zx_aSite
  replace HX_aSite := Lib.hid (HX_aSite.out.chg hc hq (by omega))
  clear cx_w0 zx_w0
  replace HX_w0 := Lib.hid (HX_w0.out.chg hc hq (by omega))
  clear cx_x0 zx_x0
  replace HX_x0 := Lib.hid (HX_x0.out.chg hc hq (by omega))
  clear cx_x1 zx_x1
  replace HX_x1 := Lib.hid (HX_x1.out.chg hc hq (by omega))
  clear cx_g0 zx_g0
  replace HX_g0 := Lib.hid (HX_g0.out.chg hc hq (by omega))
  have ⟨cx_aS, zx_aS⟩ := HX_aS.out
  have ⟨cx_aSite, zx_aSite⟩ := HX_aSite.out
  have ⟨cx_w0, zx_w0⟩ := HX_w0.out
  have ⟨cx_x0, zx_x0⟩ := HX_x0.out
  have ⟨cx_x1, zx_x1⟩ := HX_x1.out
  have ⟨cx_g0, zx_g0⟩ := HX_g0.out
  replace HA0 := Lib.hid (HA0.out.chg hc hq (by omega))
  replace HA1 := Lib.hid (HA1.out.chg hc hq (by omega))
  replace H_w0 := Lib.hid (H_w0.out.chg hc (Own.apart H_w0.out H_x0.out (by omega)))
  replace H_x1 := Lib.hid (H_x1.out.chg hc (Own.apart H_x1.out H_x0.out (by omega)))
  replace H_g0 := Lib.hid (H_g0.out.chg hc (Own.apart H_g0.out H_x0.out (by omega)))
  replace HB := Lib.hid (Below.chg HB.out hc hq (by omega) HB.out.size)
  clear hq
  replace H_x0 := Lib.hid hnew; clear hnew hrd hc
  go_wp2_with fail
  have hk_x1 := (hm_x1 a1 (by first | omega | exact hv_aSite))
  refine (markSite _ a1 fp_x1 (1 + (a0).mcnt) _ H_x1.out.rd H_x1.out.nodup (by omega)).mono ?_
  rintro e w18 ⟨rfl, hrd, hc⟩
  have hnew := Own.mk hrd H_x1.out.nodup (H_x1.out.ivl)
  have hq := H_x1.out.ivl
  have hsw18 : w17.heap.size ≤ w18.heap.size := hc.size
  clear cx_aS zx_aS
  replace HX_aS := Lib.hid (HX_aS.out.chg hc hq (by omega))
  clear cx_aSite zx_aSite
  replace HX_aSite := Lib.hid (HX_aSite.out.chg hc hq (by omega))
  clear cx_w0 zx_w0
  replace HX_w0 := Lib.hid (HX_w0.out.chg hc hq (by omega))
  clear cx_x0 zx_x0
  replace HX_x0 := Lib.hid (HX_x0.out.chg hc hq (by omega))
  clear cx_x1 zx_x1
  replace HX_x1 := Lib.hid (HX_x1.out.chg hc hq (by omega))
  clear cx_g0 zx_g0
  replace HX_g0 := Lib.hid (HX_g0.out.chg hc hq (by omega))
  have ⟨cx_aS, zx_aS⟩ := HX_aS.out
  have ⟨cx_aSite, zx_aSite⟩ := HX_aSite.out
  have ⟨cx_w0, zx_w0⟩ := HX_w0.out
  have ⟨cx_x0, zx_x0⟩ := HX_x0.out
  have ⟨cx_x1, zx_x1⟩ := HX_x1.out
  have ⟨cx_g0, zx_g0⟩ := HX_g0.out
  replace HA0 := Lib.hid (HA0.out.chg hc hq (by omega))
  replace HA1 := Lib.hid (HA1.out.chg hc hq (by omega))
  replace H_w0 := Lib.hid (H_w0.out.chg hc (Own.apart H_w0.out H_x1.out (by omega)))
  replace H_x0 := Lib.hid (H_x0.out.chg hc (Own.apart H_x0.out H_x1.out (by omega)))
  replace H_g0 := Lib.hid (H_g0.out.chg hc (Own.apart H_g0.out H_x1.out (by omega)))
  replace HB := Lib.hid (Below.chg HB.out hc hq (by omega) HB.out.size)
  clear hq
  replace H_x1 := Lib.hid hnew; clear hnew hrd hc
  go_wp2_with fail
  refine (eqResponse _ _ (f0 a0 a1 a2 a3 a4) _ (H_g0.out.reads.below (by repeat (first | with_reducible exact belR | with_reducible apply belA | (with_reducible refine belS ?_ ?_; focus (first | omega | (simp; done) | (simp; omega))) | with_reducible apply belN | with_reducible apply belD | with_reducible assumption))) (H_w0.out.reads.below (by repeat (first | with_reducible exact belR | with_reducible apply belA | (with_reducible refine belS ?_ ?_; focus (first | omega | (simp; done) | (simp; omega))) | with_reducible apply belN | with_reducible apply belD | with_reducible assumption)))).mono ?_
  rintro e w19 ⟨rfl, hb⟩
  have hw : Below w18.heap.size w18 w19 := below_call (by repeat (first | with_reducible exact belR | with_reducible apply belA | (with_reducible refine belS ?_ ?_; focus (first | omega | (simp; done) | (simp; omega))) | with_reducible apply belN | with_reducible apply belD | with_reducible assumption)) (by first | omega | (simp; done) | (simp; omega)) hb
  have hsw19 : w18.heap.size ≤ w19.heap.size := by have y := hb.size; (try simp at y); omega
  clear cx_aS zx_aS
  replace HX_aS := Lib.hid (HX_aS.out.below hw)
  clear cx_aSite zx_aSite
  replace HX_aSite := Lib.hid (HX_aSite.out.below hw)
  clear cx_w0 zx_w0
  replace HX_w0 := Lib.hid (HX_w0.out.below hw)
  clear cx_x0 zx_x0
  replace HX_x0 := Lib.hid (HX_x0.out.below hw)
  clear cx_x1 zx_x1
  replace HX_x1 := Lib.hid (HX_x1.out.below hw)
  clear cx_g0 zx_g0
  replace HX_g0 := Lib.hid (HX_g0.out.below hw)
  have ⟨cx_aS, zx_aS⟩ := HX_aS.out
  have ⟨cx_aSite, zx_aSite⟩ := HX_aSite.out
  have ⟨cx_w0, zx_w0⟩ := HX_w0.out
  have ⟨cx_x0, zx_x0⟩ := HX_x0.out
  have ⟨cx_x1, zx_x1⟩ := HX_x1.out
  have ⟨cx_g0, zx_g0⟩ := HX_g0.out
  replace HA0 := Lib.hid (HA0.out.below hw)
  replace HA1 := Lib.hid (HA1.out.below hw)
  replace H_w0 := Lib.hid (H_w0.out.below hw)
  replace H_x0 := Lib.hid (H_x0.out.below hw)
  replace H_x1 := Lib.hid (H_x1.out.below hw)
  replace H_g0 := Lib.hid (H_g0.out.below hw)
  replace HB := Lib.hid (below_call HB.out HB.out.size hw)
  clear hw
  clear hb
  go_wp2_with fail
  have hk_g0 := (hm_g0 a0 a1 a2 a3 a4 (by first | omega | exact hv_aS) (by first | omega | exact hv_aSite) (by first | omega | exact hg_aPath))
  refine (markResponse _ (f0 a0 a1 a2 a3 a4) fp_g0 (1) _ H_g0.out.rd H_g0.out.nodup (by omega)).mono ?_
  rintro e w20 ⟨rfl, hrd, hc⟩
  have hnew := Own.mk hrd H_g0.out.nodup (H_g0.out.ivl)
  have hq := H_g0.out.ivl
  have hsw20 : w19.heap.size ≤ w20.heap.size := hc.size
  clear cx_aS zx_aS
  replace HX_aS := Lib.hid (HX_aS.out.chg hc hq (by omega))
  clear cx_aSite zx_aSite
  replace HX_aSite := Lib.hid (HX_aSite.out.chg hc hq (by omega))
  clear cx_w0 zx_w0
  replace HX_w0 := Lib.hid (HX_w0.out.chg hc hq (by omega))
  clear cx_x0 zx_x0
  replace HX_x0 := Lib.hid (HX_x0.out.chg hc hq (by omega))
  clear cx_x1 zx_x1
  replace HX_x1 := Lib.hid (HX_x1.out.chg hc hq (by omega))
  clear cx_g0 zx_g0
  replace HX_g0 := Lib.hid (HX_g0.out.chg hc hq (by omega))
  have ⟨cx_aS, zx_aS⟩ := HX_aS.out
  have ⟨cx_aSite, zx_aSite⟩ := HX_aSite.out
  have ⟨cx_w0, zx_w0⟩ := HX_w0.out
  have ⟨cx_x0, zx_x0⟩ := HX_x0.out
  have ⟨cx_x1, zx_x1⟩ := HX_x1.out
  have ⟨cx_g0, zx_g0⟩ := HX_g0.out
  replace HA0 := Lib.hid (HA0.out.chg hc hq (by omega))
  replace HA1 := Lib.hid (HA1.out.chg hc hq (by omega))
  replace H_w0 := Lib.hid (H_w0.out.chg hc (Own.apart H_w0.out H_g0.out (by omega)))
  replace H_x0 := Lib.hid (H_x0.out.chg hc (Own.apart H_x0.out H_g0.out (by omega)))
  replace H_x1 := Lib.hid (H_x1.out.chg hc (Own.apart H_x1.out H_g0.out (by omega)))
  replace HB := Lib.hid (Below.chg HB.out hc hq (by omega) HB.out.size)
  clear hq
  replace H_g0 := Lib.hid hnew; clear hnew hrd hc
  go_wp2_with fail
  refine (heldResponse _ (f0 a0 a1 a2 a3 a4) (1) _ (H_g0.out.reads.below (by repeat (first | with_reducible exact belR | with_reducible apply belA | (with_reducible refine belS ?_ ?_; focus (first | omega | (simp; done) | (simp; omega))) | with_reducible apply belN | with_reducible apply belD | with_reducible assumption))) (by omega)).mono ?_
  rintro e w21 ⟨rfl, hb⟩
  have hw : Below w20.heap.size w20 w21 := below_call (by repeat (first | with_reducible exact belR | with_reducible apply belA | (with_reducible refine belS ?_ ?_; focus (first | omega | (simp; done) | (simp; omega))) | with_reducible apply belN | with_reducible apply belD | with_reducible assumption)) (by first | omega | (simp; done) | (simp; omega)) hb
  have hsw21 : w20.heap.size ≤ w21.heap.size := by have y := hb.size; (try simp at y); omega
  clear cx_aS zx_aS
  replace HX_aS := Lib.hid (HX_aS.out.below hw)
  clear cx_aSite zx_aSite
  replace HX_aSite := Lib.hid (HX_aSite.out.below hw)
  clear cx_w0 zx_w0
  replace HX_w0 := Lib.hid (HX_w0.out.below hw)
  clear cx_x0 zx_x0
  replace HX_x0 := Lib.hid (HX_x0.out.below hw)
  clear cx_x1 zx_x1
  replace HX_x1 := Lib.hid (HX_x1.out.below hw)
  clear cx_g0 zx_g0
  replace HX_g0 := Lib.hid (HX_g0.out.below hw)
  have ⟨cx_aS, zx_aS⟩ := HX_aS.out
  have ⟨cx_aSite, zx_aSite⟩ := HX_aSite.out
  have ⟨cx_w0, zx_w0⟩ := HX_w0.out
  have ⟨cx_x0, zx_x0⟩ := HX_x0.out
  have ⟨cx_x1, zx_x1⟩ := HX_x1.out
  have ⟨cx_g0, zx_g0⟩ := HX_g0.out
  replace HA0 := Lib.hid (HA0.out.below hw)
  replace HA1 := Lib.hid (HA1.out.below hw)
  replace H_w0 := Lib.hid (H_w0.out.below hw)
  replace H_x0 := Lib.hid (H_x0.out.below hw)
  replace H_x1 := Lib.hid (H_x1.out.below hw)
  replace H_g0 := Lib.hid (H_g0.out.below hw)
  replace HB := Lib.hid (below_call HB.out HB.out.size hw)
  clear hw
  clear hb
  go_upto_region 33 with fail
  refine settle (fun W' => Below w21.heap.size w21 W' ∧ w21.heap.size ≤ W'.heap.size) ⟨(by repeat (first | with_reducible exact belR | with_reducible apply belA | (with_reducible refine belS ?_ ?_; focus (first | omega | (simp; done) | (simp; omega))) | with_reducible apply belN | with_reducible apply belD | with_reducible assumption)), (by first | omega | (simp; done) | (simp; omega))⟩ ?_
  rintro w22 ⟨hw, hsw22⟩
  clear cx_aS zx_aS
  replace HX_aS := Lib.hid (HX_aS.out.below hw)
  clear cx_aSite zx_aSite
  replace HX_aSite := Lib.hid (HX_aSite.out.below hw)
  clear cx_w0 zx_w0
  replace HX_w0 := Lib.hid (HX_w0.out.below hw)
  clear cx_x0 zx_x0
  replace HX_x0 := Lib.hid (HX_x0.out.below hw)
  clear cx_x1 zx_x1
  replace HX_x1 := Lib.hid (HX_x1.out.below hw)
  clear cx_g0 zx_g0
  replace HX_g0 := Lib.hid (HX_g0.out.below hw)
  have ⟨cx_aS, zx_aS⟩ := HX_aS.out
  have ⟨cx_aSite, zx_aSite⟩ := HX_aSite.out
  have ⟨cx_w0, zx_w0⟩ := HX_w0.out
  have ⟨cx_x0, zx_x0⟩ := HX_x0.out
  have ⟨cx_x1, zx_x1⟩ := HX_x1.out
  have ⟨cx_g0, zx_g0⟩ := HX_g0.out
  replace HA0 := Lib.hid (HA0.out.below hw)
  replace HA1 := Lib.hid (HA1.out.below hw)
  replace H_w0 := Lib.hid (H_w0.out.below hw)
  replace H_x0 := Lib.hid (H_x0.out.below hw)
  replace H_x1 := Lib.hid (H_x1.out.below hw)
  replace H_g0 := Lib.hid (H_g0.out.below hw)
  replace HB := Lib.hid (below_call HB.out HB.out.size hw)
  clear hw
  go_cut [19] (fun p_h0 wx => ∃ (lo hi : Nat) (kb_h0 : Nat) (ao_h0_0 : Option Addr) (cap_h0_0 : Nat) (fp_h0 : List Nat), p_h0 = .pointer (some ⟨kb_h0, 0, none⟩) ∧ Box wx kb_h0 #[.int .i64 ((f0 a0 a1 a2 a3 a4)).type_, .int .i64 ((f0 a0 a1 a2 a3 a4)).status, .int .i64 ((f0 a0 a1 a2 a3 a4)).version, .slice ao_h0_0 ((f0 a0 a1 a2 a3 a4)).body.length cap_h0_0, .bool ((f0 a0 a1 a2 a3 a4)).shares] ∧ w22.heap.size ≤ kb_h0 ∧ (kb_h0 < lo ∨ hi ≤ kb_h0) ∧ w22.heap.size ≤ lo ∧ hi ≤ wx.heap.size ∧ Own DResponse.rep lo hi wx [.int .i64 ((f0 a0 a1 a2 a3 a4)).type_, .int .i64 ((f0 a0 a1 a2 a3 a4)).status, .int .i64 ((f0 a0 a1 a2 a3 a4)).version, .slice ao_h0_0 ((f0 a0 a1 a2 a3 a4)).body.length cap_h0_0, .bool ((f0 a0 a1 a2 a3 a4)).shares] (f0 a0 a1 a2 a3 a4) fp_h0 ∧ Below w22.heap.size w22 wx)
  case first =>
    have HSr : Hid (∀ w', Below w22.heap.size w22 w' → (∀ o, w'.cell? ⟨w.heap.size, o, none⟩ = #[.slice ao0_0 a0.caches.length cap0_0][o]?) ∧ (∀ o, w'.cell? ⟨w.heap.size + 1, o, none⟩ = #[.string a1.name, .int .i64 a1.version, .slice ao1_0 a1.files.length cap1_0, .bool a1.shared][o]?) ∧ Below w22.heap.size w22 w') := Lib.hid fun w' hw' => ⟨fun o => (hw'.cell (p := ⟨w.heap.size, o, none⟩) zx_aS).trans (cx_aS o), fun o => (hw'.cell (p := ⟨w.heap.size + 1, o, none⟩) zx_aSite).trans (cx_aSite o), hw'⟩
    go_region_held3 (fun w' => (∀ o, w'.cell? ⟨w.heap.size, o, none⟩ = #[.slice ao0_0 a0.caches.length cap0_0][o]?) ∧ (∀ o, w'.cell? ⟨w.heap.size + 1, o, none⟩ = #[.string a1.name, .int .i64 a1.version, .slice ao1_0 a1.files.length cap1_0, .bool a1.shared][o]?) ∧ Below w22.heap.size w22 w')
      (first | exact HSr.out _ (by repeat (first | with_reducible exact belR | (with_reducible refine belAB ?_ ?_; focus (first | omega | (simp; done) | (simp; omega))) | (with_reducible refine belS ?_ ?_; focus (first | omega | (simp; done) | (simp; omega))) | with_reducible apply belN | with_reducible apply belD | with_reducible assumption)))
      (first | (go_at_call 29; have hx := hq_h0_aSite; clear hx; have hS_F25 := ‹_ ∧ _ ∧ Below w22.heap.size w22 _›; refine (hI _ a0 _ a1 a2 a3 a4 _ (hr_h0_aS.below (by repeat (first | with_reducible exact belR | with_reducible apply belA | (with_reducible refine belS ?_ ?_; focus (first | omega | (simp; done) | (simp; omega))) | with_reducible apply belN | with_reducible apply belD | with_reducible assumption))) (hr_h0_aSite.below (by repeat (first | with_reducible exact belR | with_reducible apply belA | (with_reducible refine belS ?_ ?_; focus (first | omega | (simp; done) | (simp; omega))) | with_reducible apply belN | with_reducible apply belD | with_reducible assumption))) (by first | omega | exact hv_aS) (by first | omega | exact hv_aSite) (by first | omega | exact hg_aPath)).mono ?_; rintro e w25 ⟨d_h_0, rfl, hf0, hb_F25⟩; have hq_F25 : Below w22.heap.size w22 w25 := below_call hS_F25.2.2 hS_F25.2.2.size hb_F25; clear hS_F25; have hz_F25 := hq_F25.size; (first | (have hwb_F25 : WB w25 _ #[.int .i64 0, .int .i64 0, .int .i64 0, .slice none 0 0, .bool false] := (WB.at rfl).keep hb_F25; have ⟨we_F25, wl_F25, wf_F25⟩ := hwb_F25) | (have hwb_F25 := hwb_h0_aSite.keep hb_F25; have ⟨we_F25, wl_F25, wf_F25⟩ := hwb_F25) | skip); obtain ⟨ao_h0_0, cap_h0_0, rfl⟩ := DResponse.fshape hf0) | (go_at_call 28; have hx := hq_h0_aS; clear hx; have hS_h0_aSite := ‹_ ∧ _ ∧ Below w22.heap.size w22 _›; refine (toSite _ a1 _ (HA1.out.reads.below hS_h0_aSite.2.2) (by first | omega | (simp [DSite.wt]))).mono ?_; rintro e w24 ⟨d_h0_aSite, rfl, hf_h0_aSite, hb_h0_aSite⟩; have hq_h0_aSite : Below w22.heap.size w22 w24 := below_call hS_h0_aSite.2.2 hS_h0_aSite.2.2.size hb_h0_aSite; clear hS_h0_aSite; have hz_h0_aSite := hq_h0_aSite.size; (first | (have hwb_h0_aSite : WB w24 _ #[.int .i64 0, .int .i64 0, .int .i64 0, .slice none 0 0, .bool false] := (WB.at rfl).keep hb_h0_aSite; have ⟨we_h0_aSite, wl_h0_aSite, wf_h0_aSite⟩ := hwb_h0_aSite) | (have hwb_h0_aSite := hwb_h0_aS.keep hb_h0_aSite; have ⟨we_h0_aSite, wl_h0_aSite, wf_h0_aSite⟩ := hwb_h0_aSite) | skip); obtain ⟨ao_h0_aSite_0, cap_h0_aSite_0, rfl⟩ := DSite.fshape hf_h0_aSite; have hr_h0_aSite := hf_h0_aSite.reads; replace hr_h0_aS := hr_h0_aS.below (by first | exact hb_h0_aSite | exact (belD belR).trans hb_h0_aSite | exact below_call (by repeat (first | with_reducible exact belR | with_reducible apply belA | (with_reducible refine belS ?_ ?_; focus (first | omega | (simp; done) | (simp; omega))) | with_reducible apply belN | with_reducible apply belD | with_reducible assumption)) (by first | omega | (simp; done) | (simp; omega)) hb_h0_aSite)) | (go_at_call 27; have hS_h0_aS := ‹_ ∧ _ ∧ Below w22.heap.size w22 _›; refine (toCacheSet _ a0 _ (HA0.out.reads.below hS_h0_aS.2.2) (by first | omega | (simp [DCacheSet.wt]))).mono ?_; rintro e w23 ⟨d_h0_aS, rfl, hf_h0_aS, hb_h0_aS⟩; have hq_h0_aS : Below w22.heap.size w22 w23 := below_call hS_h0_aS.2.2 hS_h0_aS.2.2.size hb_h0_aS; clear hS_h0_aS; have hz_h0_aS := hq_h0_aS.size; (first | (have hwb_h0_aS : WB w23 _ #[.int .i64 0, .int .i64 0, .int .i64 0, .slice none 0 0, .bool false] := (WB.at rfl).growD.keep hb_h0_aS; have ⟨we_h0_aS, wl_h0_aS, wf_h0_aS⟩ := hwb_h0_aS) | skip); obtain ⟨ao_h0_aS_0, cap_h0_aS_0, rfl⟩ := DCacheSet.fshape hf_h0_aS; have hr_h0_aS := hf_h0_aS.reads))
    all_goals
      go_wp2_with fail
      go_meet
      obtain ⟨lo0, fp_h0, hlo0, o_h0⟩ := Fresh.ownAtL hf0
      (try simp at hlo0)
      first
        | exact ⟨lo0, w25.heap.size, _, ao_h0_0, cap_h0_0, fp_h0, rfl, (WB.sets [.int .i64 ((f0 a0 a1 a2 a3 a4)).type_, .int .i64 ((f0 a0 a1 a2 a3 a4)).status, .int .i64 ((f0 a0 a1 a2 a3 a4)).version, .slice ao_h0_0 ((f0 a0 a1 a2 a3 a4)).body.length cap_h0_0, .bool ((f0 a0 a1 a2 a3 a4)).shares] 0 _ _ hwb_F25 (by simp)).box, (by omega), .inl (by omega), (by omega), (Nat.le_of_eq (by simp only [World.size_setCell])), (by repeat (first | with_reducible exact o_h0 | with_reducible refine Own.setOut ?_ (.inl (by omega)))), (by have y := hq_F25; exact (by repeat (first | with_reducible exact belR | with_reducible apply belA | (with_reducible refine belS ?_ ?_; focus (first | omega | (simp; done) | (simp; omega))) | with_reducible apply belN | with_reducible apply belD | with_reducible assumption)))⟩
        | exact ⟨lo0, w25.heap.size, w25.heap.size, ao_h0_0, cap_h0_0, fp_h0, rfl, Box.at rfl, (by omega), .inr (by omega), (by omega), (by rw [World.size_alloc]; omega), o_h0.allocA, (by have y := hq_F25; exact (by repeat (first | with_reducible exact belR | with_reducible apply belA | (with_reducible refine belS ?_ ?_; focus (first | omega | (simp; done) | (simp; omega))) | with_reducible apply belN | with_reducible apply belD | with_reducible assumption)))⟩
  obtain ⟨lo_h0, hi_h0, kb_h0, ao_h0_0, cap_h0_0, fp_h0, rfl, hbx_h0, hk1_h0, hk2_h0, hl1_h0, hl2_h0, ho_h0, hw⟩ := hcut
  rename World => w25
  have hsw25 : w22.heap.size ≤ w25.heap.size := hw.size
  clear cx_aS zx_aS
  replace HX_aS := Lib.hid (HX_aS.out.below hw)
  clear cx_aSite zx_aSite
  replace HX_aSite := Lib.hid (HX_aSite.out.below hw)
  clear cx_w0 zx_w0
  replace HX_w0 := Lib.hid (HX_w0.out.below hw)
  clear cx_x0 zx_x0
  replace HX_x0 := Lib.hid (HX_x0.out.below hw)
  clear cx_x1 zx_x1
  replace HX_x1 := Lib.hid (HX_x1.out.below hw)
  clear cx_g0 zx_g0
  replace HX_g0 := Lib.hid (HX_g0.out.below hw)
  have HX_h0 := Lib.hid hbx_h0; clear hbx_h0
  have hkz_h0 := HX_h0.out.2
  have H_h0 := Lib.hid ho_h0; clear ho_h0
  have ⟨cx_aS, zx_aS⟩ := HX_aS.out
  have ⟨cx_aSite, zx_aSite⟩ := HX_aSite.out
  have ⟨cx_w0, zx_w0⟩ := HX_w0.out
  have ⟨cx_x0, zx_x0⟩ := HX_x0.out
  have ⟨cx_x1, zx_x1⟩ := HX_x1.out
  have ⟨cx_g0, zx_g0⟩ := HX_g0.out
  have ⟨cx_h0, zx_h0⟩ := HX_h0.out
  replace HA0 := Lib.hid (HA0.out.below hw)
  replace HA1 := Lib.hid (HA1.out.below hw)
  replace H_w0 := Lib.hid (H_w0.out.below hw)
  replace H_x0 := Lib.hid (H_x0.out.below hw)
  replace H_x1 := Lib.hid (H_x1.out.below hw)
  replace H_g0 := Lib.hid (H_g0.out.below hw)
  replace HB := Lib.hid (below_call HB.out HB.out.size hw)
  clear hw
  go_wp2_with fail
  refine (eqResponse _ _ (f0 a0 a1 a2 a3 a4) _ (H_h0.out.reads.below (by repeat (first | with_reducible exact belR | with_reducible apply belA | (with_reducible refine belS ?_ ?_; focus (first | omega | (simp; done) | (simp; omega))) | with_reducible apply belN | with_reducible apply belD | with_reducible assumption))) (H_w0.out.reads.below (by repeat (first | with_reducible exact belR | with_reducible apply belA | (with_reducible refine belS ?_ ?_; focus (first | omega | (simp; done) | (simp; omega))) | with_reducible apply belN | with_reducible apply belD | with_reducible assumption)))).mono ?_
  rintro e w26 ⟨rfl, hb⟩
  have hw : Below w25.heap.size w25 w26 := below_call (by repeat (first | with_reducible exact belR | with_reducible apply belA | (with_reducible refine belS ?_ ?_; focus (first | omega | (simp; done) | (simp; omega))) | with_reducible apply belN | with_reducible apply belD | with_reducible assumption)) (by first | omega | (simp; done) | (simp; omega)) hb
  have hsw26 : w25.heap.size ≤ w26.heap.size := by have y := hb.size; (try simp at y); omega
  clear cx_aS zx_aS
  replace HX_aS := Lib.hid (HX_aS.out.below hw)
  clear cx_aSite zx_aSite
  replace HX_aSite := Lib.hid (HX_aSite.out.below hw)
  clear cx_w0 zx_w0
  replace HX_w0 := Lib.hid (HX_w0.out.below hw)
  clear cx_x0 zx_x0
  replace HX_x0 := Lib.hid (HX_x0.out.below hw)
  clear cx_x1 zx_x1
  replace HX_x1 := Lib.hid (HX_x1.out.below hw)
  clear cx_g0 zx_g0
  replace HX_g0 := Lib.hid (HX_g0.out.below hw)
  clear cx_h0 zx_h0
  replace HX_h0 := Lib.hid (HX_h0.out.below hw)
  have ⟨cx_aS, zx_aS⟩ := HX_aS.out
  have ⟨cx_aSite, zx_aSite⟩ := HX_aSite.out
  have ⟨cx_w0, zx_w0⟩ := HX_w0.out
  have ⟨cx_x0, zx_x0⟩ := HX_x0.out
  have ⟨cx_x1, zx_x1⟩ := HX_x1.out
  have ⟨cx_g0, zx_g0⟩ := HX_g0.out
  have ⟨cx_h0, zx_h0⟩ := HX_h0.out
  replace HA0 := Lib.hid (HA0.out.below hw)
  replace HA1 := Lib.hid (HA1.out.below hw)
  replace H_w0 := Lib.hid (H_w0.out.below hw)
  replace H_x0 := Lib.hid (H_x0.out.below hw)
  replace H_x1 := Lib.hid (H_x1.out.below hw)
  replace H_g0 := Lib.hid (H_g0.out.below hw)
  replace H_h0 := Lib.hid (H_h0.out.below hw)
  replace HB := Lib.hid (below_call HB.out HB.out.size hw)
  clear hw
  clear hb
  go_wp2_with fail
  refine (heldResponse _ (f0 a0 a1 a2 a3 a4) (1) _ (H_g0.out.reads.below (by repeat (first | with_reducible exact belR | with_reducible apply belA | (with_reducible refine belS ?_ ?_; focus (first | omega | (simp; done) | (simp; omega))) | with_reducible apply belN | with_reducible apply belD | with_reducible assumption))) (by omega)).mono ?_
  rintro e w27 ⟨rfl, hb⟩
  have hw : Below w26.heap.size w26 w27 := below_call (by repeat (first | with_reducible exact belR | with_reducible apply belA | (with_reducible refine belS ?_ ?_; focus (first | omega | (simp; done) | (simp; omega))) | with_reducible apply belN | with_reducible apply belD | with_reducible assumption)) (by first | omega | (simp; done) | (simp; omega)) hb
  have hsw27 : w26.heap.size ≤ w27.heap.size := by have y := hb.size; (try simp at y); omega
  clear cx_aS zx_aS
  replace HX_aS := Lib.hid (HX_aS.out.below hw)
  clear cx_aSite zx_aSite
  replace HX_aSite := Lib.hid (HX_aSite.out.below hw)
  clear cx_w0 zx_w0
  replace HX_w0 := Lib.hid (HX_w0.out.below hw)
  clear cx_x0 zx_x0
  replace HX_x0 := Lib.hid (HX_x0.out.below hw)
  clear cx_x1 zx_x1
  replace HX_x1 := Lib.hid (HX_x1.out.below hw)
  clear cx_g0 zx_g0
  replace HX_g0 := Lib.hid (HX_g0.out.below hw)
  clear cx_h0 zx_h0
  replace HX_h0 := Lib.hid (HX_h0.out.below hw)
  have ⟨cx_aS, zx_aS⟩ := HX_aS.out
  have ⟨cx_aSite, zx_aSite⟩ := HX_aSite.out
  have ⟨cx_w0, zx_w0⟩ := HX_w0.out
  have ⟨cx_x0, zx_x0⟩ := HX_x0.out
  have ⟨cx_x1, zx_x1⟩ := HX_x1.out
  have ⟨cx_g0, zx_g0⟩ := HX_g0.out
  have ⟨cx_h0, zx_h0⟩ := HX_h0.out
  replace HA0 := Lib.hid (HA0.out.below hw)
  replace HA1 := Lib.hid (HA1.out.below hw)
  replace H_w0 := Lib.hid (H_w0.out.below hw)
  replace H_x0 := Lib.hid (H_x0.out.below hw)
  replace H_x1 := Lib.hid (H_x1.out.below hw)
  replace H_g0 := Lib.hid (H_g0.out.below hw)
  replace H_h0 := Lib.hid (H_h0.out.below hw)
  replace HB := Lib.hid (below_call HB.out HB.out.size hw)
  clear hw
  clear hb
  go_wp2_with fail
  go_ret
  have y := HB.out
  exact ⟨rfl, (by repeat (first | with_reducible exact belR | with_reducible apply belA | (with_reducible refine belS ?_ ?_; focus (first | omega | (simp; done) | (simp; omega))) | with_reducible apply belN | with_reducible apply belD | with_reducible assumption))⟩

set_option maxRecDepth 100000 in
set_option maxHeartbeats 1000000 in
theorem answerFetch_lifted (f0 : DCacheSet → DSite → Int → ByteArray → Bool → DResponse) (hS : SaidAnswerFetch f0 26) (hI : SaidAnswerFetch f0 29) (hm_g0 : ∀ (a0 : DCacheSet) (a1 : DSite) (a2 : Int) (a3 : ByteArray) (a4 : Bool), (a0).wt ≤ 1048576 → (a1).wt ≤ 1048576 → a3.size ≤ 1048576 → ((f0 a0 a1 a2 a3 a4)).mcnt ≤ 400000000) (hm_x0 : ∀ (a0 : DCacheSet), (a0).wt ≤ 1048576 → (a0).mcnt ≤ 400000000) (hm_x1 : ∀ (a1 : DSite), (a1).wt ≤ 1048576 → (a1).mcnt ≤ 400000000) (os : Os) (started : os.Started) (H : Type) (enc : TypeId × Value → H) :
    ReturnsInHanded {} Try.checked os 5 .any (Rows.fnExactAnswerFetchSpec.pre6 enc Try.prog Try.f5 Rows.fnExactAnswerFetchRow.domain false) (Rows.fnExactAnswerFetchSpec.post enc Try.prog Try.f5 false true false false) := by
  refine law_lift (C := Try.checked) Try.own started (by kernel_rfl) Try.func5 Try.laidOut (by kernel_rfl) rfl Try.underlying4 rfl ?_
    (ChangeSpec.witness6 (enc := enc) (C := Try.checked) false ⟨#[], #[.agg #[.slice none 0 0], .agg #[.string ByteArray.empty, .int .i64 0, .slice none 0 0, .bool false], .int .i64 0, .string ByteArray.empty, .bool false], []⟩ 8 (by kernel_rfl) (by kernel_rfl) (by kernel_rfl) (by kernel_rfl)) ?_
  · intro ds h
    match ds, h with
    | [_, _, _, _, _], _ => rfl
  · intro W base args ds ps hval hA0
    have hA : DataW.TrodAll enc Try.prog W 0 (fun _ => true) true Try.f5.params.toList args.toList ds ps := hA0
    rw [Try.params5] at hA hval
    obtain ⟨v0, v1, v2, v3, v4, _, _, _, _, _, _, _, _, _, _, rfl, t0, t1, t2, t3, t4⟩ := trodAll_open5 hA
    obtain ⟨c0, a0, rfl, r0⟩ := arg_struct Try.underlying59 DCacheSet.opens_laws (hval 0 59 v0 rfl rfl) t0
    obtain ⟨c1, a1, rfl, r1⟩ := arg_struct Try.underlying62 DSite.opens_laws (hval 1 62 v1 rfl rfl) t1
    obtain ⟨a2, rfl⟩ := arg_int Try.underlying3 (hval 2 3 v2 rfl rfl) t2
    obtain ⟨a3, rfl, z3⟩ := arg_str Try.underlying9 (hval 3 9 v3 rfl rfl) t3
    obtain ⟨a4, rfl⟩ := arg_bool Try.underlying4 (hval 4 4 v4 rfl rfl) t4
    exact lawAnswerFetch f0 hS hI hm_g0 hm_x0 hm_x1 c0.toList a0 c1.toList a1 a2 a3 a4 W r0 r1 z3

theorem answerFetch_of (f0 : DCacheSet → DSite → Int → ByteArray → Bool → DResponse) (hS : SaidAnswerFetch f0 26) (hI : SaidAnswerFetch f0 29) (hm_g0 : ∀ (a0 : DCacheSet) (a1 : DSite) (a2 : Int) (a3 : ByteArray) (a4 : Bool), (a0).wt ≤ 1048576 → (a1).wt ≤ 1048576 → a3.size ≤ 1048576 → ((f0 a0 a1 a2 a3 a4)).mcnt ≤ 400000000) (hm_x0 : ∀ (a0 : DCacheSet), (a0).wt ≤ 1048576 → (a0).mcnt ≤ 400000000) (hm_x1 : ∀ (a1 : DSite), (a1).wt ≤ 1048576 → (a1).mcnt ≤ 400000000) : Rows.FnExactAnswerFetchSaid :=
  OpenClaim.holds_of_wide 5 Try.f5 rfl rfl rfl rfl rfl rfl rfl ⟨rfl, rfl, rfl, rfl, rfl⟩ rfl rfl rfl rfl rfl (by kernel_rfl) Try.func5 (by kernel_rfl)
    (of_decide_eq_true (by kernel_rfl)) (by unfold Func.isWrapper; rw [if_neg (by decide +kernel)]; exact ⟨rfl, rfl⟩)
    (fun os started H enc _ => answerFetch_lifted f0 hS hI hm_g0 hm_x0 hm_x1 os started H enc)

end Go.Proofs.Ytmknfobkfimggaa
