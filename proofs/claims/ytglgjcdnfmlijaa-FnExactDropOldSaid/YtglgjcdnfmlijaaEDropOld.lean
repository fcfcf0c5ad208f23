/-
  FnExactDropOld: the law's walk, and its row, off the contracts of impl.DropOld and spec.DropOld.
-/
import Derived.Test.YtglgjcdnfmlijaaLPush
import Derived.Test.YtglgjcdnfmlijaaLSubscription
import Derived.Test.YtglgjcdnfmlijaaMarkSl
import Derived.Test.YtglgjcdnfmlijaaSlices
import Derived.Test.YtglgjcdnfmlijaaLaw
import Derived.Test.YtglgjcdnfmlijaaEnv
namespace Go.Proofs.Ytglgjcdnfmlijaa
open Go.RowKit Go.ChangeShapes

/-- What impl.DropOld and spec.DropOld are both shown to compute. -/
def SaidDropOld (f0 : (List DPush) → DSubscription → List DPush) (f : FuncId) : Prop :=
  ∀ (c0 : Value) (a0 : List DPush) (c1 : List Value) (a1 : DSubscription) (w : World) (_h0 : Reads (Rep.slice 38 DPush.rep) w [c0] a0) (_h1 : Reads DSubscription.rep w c1 a1)(_s0 : wtS DPush.wt a0 ≤ 1048576) (_s1 : (a1).wt ≤ 1048576), Calls Try.prog f #[c0, .agg c1.toArray] w fun e w' => ∃ (d0 : Value), e = .returned (d0) ∧ Fresh (Rep.slice 38 DPush.rep) w.heap.size w' [d0] (f0 a0 a1) ∧ Below w.heap.size w w'

set_option maxRecDepth 100000 in
set_option maxHeartbeats 16000000 in
theorem lawDropOld (f0 : (List DPush) → DSubscription → List DPush) (hS : SaidDropOld f0 66) (hI : SaidDropOld f0 51) (hm_g0 : ∀ (a0 : List DPush) (a1 : DSubscription), wtS DPush.wt a0 ≤ 1048576 → (a1).wt ≤ 1048576 → wtT DPush.cnt (f0 a0 a1) ((f0 a0 a1)).length ≤ 400000000) (hm_x0 : ∀ (a0 : List DPush), wtS DPush.wt a0 ≤ 1048576 → wtT DPush.cnt a0 (a0).length ≤ 400000000) (c0 : Value) (a0 : List DPush) (c1 : List Value) (a1 : DSubscription) (w : World) (h0 : Reads (Rep.slice 38 DPush.rep) w [c0] a0) (h1 : Reads DSubscription.rep w c1 a1)  :
    Calls Try.prog 13 #[c0, .agg c1.toArray] w fun e w' => e = .returned (.bool true) ∧ Below w.heap.size w w' := by
  have HA0 := Lib.hid (Low.start h0)
  obtain ⟨fp, hr⟩ := h0
  obtain ⟨ao0, cap0, rfl, hl0, _, _⟩ := slice_open hr
  clear hr
  have HA1 := Lib.hid (Low.start h1)
  obtain ⟨fp, hr⟩ := h1
  obtain ⟨rfl, _, _⟩ := DSubscription.rd.1 hr
  clear hr
  have HB : Hid (Below w.heap.size w w) := Lib.hid belR
  go_enter Try.func13, Try.ntmps13
  go_wp2_with fail
  refine (szPushS _ a0 (1048576) _ (HA0.out.reads.below (by repeat (first | with_reducible exact belR | with_reducible apply belA | (with_reducible refine belS ?_ ?_; focus (first | omega | (simp; done) | (simp; omega))) | with_reducible apply belN | with_reducible apply belD | with_reducible assumption))) (by omega) (by omega)).mono ?_
  rintro e w1 ⟨rfl, hb⟩
  have hw : Below w.heap.size w w1 := below_call (by repeat (first | with_reducible exact belR | with_reducible apply belA | (with_reducible refine belS ?_ ?_; focus (first | omega | (simp; done) | (simp; omega))) | with_reducible apply belN | with_reducible apply belD | with_reducible assumption)) (by first | omega | (simp; done) | (simp; omega)) hb
  have hsw1 : w.heap.size + 1 ≤ w1.heap.size := by have y := hb.size; (try simp at y); omega
  have HX_aS : Hid (Box w1 (w.heap.size) #[.string a1.site, .int .i64 a1.secret, .int .i64 a1.last]) := Lib.hid (Box.below (Box.at (by first | rfl | simp)) hb)
  have ⟨cx_aS, zx_aS⟩ := HX_aS.out
  replace HA0 := Lib.hid (HA0.out.below hw)
  replace HA1 := Lib.hid (HA1.out.below hw)
  replace HB := Lib.hid (below_call HB.out HB.out.size hw)
  clear hw
  clear hb
  have hz := szOf_spec (wtS DPush.wt a0) (1048576)
  by_cases hv_aL : ¬ ((wtS DPush.wt a0 : Nat) : Int) ≤ 1048576
  · rw [hz.2 hv_aL]; clear hz
    go_wp2
    all_goals go_ret
    have y := HB.out
    exact ⟨rfl, (by repeat (first | with_reducible exact belR | with_reducible apply belA | (with_reducible refine belS ?_ ?_; focus (first | omega | (simp; done) | (simp; omega))) | with_reducible apply belN | with_reducible apply belD | with_reducible assumption))⟩
  rw [Decidable.not_not] at hv_aL
  rw [hz.1 hv_aL]; clear hz
  go_wp2_with fail
  refine (szSubscription _ a1 (1048576 - ((wtS DPush.wt a0 : Nat) : Int)) _ (HA1.out.reads.below (by repeat (first | with_reducible exact belR | with_reducible apply belA | (with_reducible refine belS ?_ ?_; focus (first | omega | (simp; done) | (simp; omega))) | with_reducible apply belN | with_reducible apply belD | with_reducible assumption))) (by omega) (by omega)).mono ?_
  rintro e w2 ⟨rfl, hb⟩
  have hw : Below w1.heap.size w1 w2 := below_call (by repeat (first | with_reducible exact belR | with_reducible apply belA | (with_reducible refine belS ?_ ?_; focus (first | omega | (simp; done) | (simp; omega))) | with_reducible apply belN | with_reducible apply belD | with_reducible assumption)) (by first | omega | (simp; done) | (simp; omega)) hb
  have hsw2 : w1.heap.size ≤ w2.heap.size := by have y := hb.size; (try simp at y); omega
  clear cx_aS zx_aS
  replace HX_aS := Lib.hid (HX_aS.out.below hw)
  have ⟨cx_aS, zx_aS⟩ := HX_aS.out
  replace HA0 := Lib.hid (HA0.out.below hw)
  replace HA1 := Lib.hid (HA1.out.below hw)
  replace HB := Lib.hid (below_call HB.out HB.out.size hw)
  clear hw
  clear hb
  have hz := szOf_spec ((a1).wt) (1048576 - ((wtS DPush.wt a0 : Nat) : Int))
  by_cases hv_aS : ¬ (((a1).wt : Nat) : Int) ≤ 1048576 - ((wtS DPush.wt a0 : Nat) : Int)
  · rw [hz.2 hv_aS]; clear hz
    go_wp2
    all_goals go_ret
    have y := HB.out
    exact ⟨rfl, (by repeat (first | with_reducible exact belR | with_reducible apply belA | (with_reducible refine belS ?_ ?_; focus (first | omega | (simp; done) | (simp; omega))) | with_reducible apply belN | with_reducible apply belD | with_reducible assumption))⟩
  rw [Decidable.not_not] at hv_aS
  rw [hz.1 hv_aS]; clear hz
  go_wp2_with fail
  refine settle (fun W' => Below w2.heap.size w2 W' ∧ w2.heap.size ≤ W'.heap.size) ⟨(by repeat (first | with_reducible exact belR | with_reducible apply belA | (with_reducible refine belS ?_ ?_; focus (first | omega | (simp; done) | (simp; omega))) | with_reducible apply belN | with_reducible apply belD | with_reducible assumption)), (by first | omega | (simp; done) | (simp; omega))⟩ ?_
  rintro w3 ⟨hw, hsw3⟩
  clear cx_aS zx_aS
  replace HX_aS := Lib.hid (HX_aS.out.below hw)
  have ⟨cx_aS, zx_aS⟩ := HX_aS.out
  replace HA0 := Lib.hid (HA0.out.below hw)
  replace HA1 := Lib.hid (HA1.out.below hw)
  replace HB := Lib.hid (below_call HB.out HB.out.size hw)
  clear hw
  go_region_held3 (fun w' => (∀ o, w'.cell? ⟨w.heap.size, o, none⟩ = #[.string a1.site, .int .i64 a1.secret, .int .i64 a1.last][o]?) ∧ Below w3.heap.size w3 w')
    (first | exact ⟨fun o => (World.cell?_drew _ _ |>.trans <| hq_F6.cell (p := ⟨w.heap.size, o, none⟩) zx_aS).trans (cx_aS o), belD hq_F6⟩ | exact ⟨fun o => (hq_F6.cell (p := ⟨w.heap.size, o, none⟩) zx_aS).trans (cx_aS o), hq_F6⟩ | exact ⟨fun o => (World.cell?_drew _ _ |>.trans <| hq_w0_aS.cell (p := ⟨w.heap.size, o, none⟩) zx_aS).trans (cx_aS o), belD hq_w0_aS⟩ | exact ⟨fun o => (hq_w0_aS.cell (p := ⟨w.heap.size, o, none⟩) zx_aS).trans (cx_aS o), hq_w0_aS⟩ | exact ⟨fun o => (World.cell?_drew _ _ |>.trans <| hq_w0_aL.cell (p := ⟨w.heap.size, o, none⟩) zx_aS).trans (cx_aS o), belD hq_w0_aL⟩ | exact ⟨fun o => (hq_w0_aL.cell (p := ⟨w.heap.size, o, none⟩) zx_aS).trans (cx_aS o), hq_w0_aL⟩ | exact ⟨cx_aS, belR⟩ | exact ⟨cx_aS, belD belR⟩)
    (first | (go_at_call 66; have hx := hq_w0_aS; clear hx; have hS_F6 := ‹_ ∧ Below w3.heap.size w3 _›; refine (hS _ a0 _ a1 _ (hr_w0_aL.below (by first | exact belR | exact belD belR | exact belN (belD belR))) (hr_w0_aS.below (by first | exact belR | exact belD belR | exact belN (belD belR))) (by first | omega | exact hv_aL) (by first | omega | exact hv_aS)).mono ?_; rintro e w6 ⟨d_w_0, rfl, hf0, hb_F6⟩; have hq_F6 : Below w3.heap.size w3 w6 := below_call hS_F6.2 hS_F6.2.size hb_F6; clear hS_F6) | (go_at_call 22; have hx := hq_w0_aL; clear hx; have hS_w0_aS := ‹_ ∧ Below w3.heap.size w3 _›; refine (toSubscription _ a1 _ (HA1.out.reads.below hS_w0_aS.2) (by first | omega | (simp [DSubscription.wt]))).mono ?_; rintro e w5 ⟨d_w0_aS, rfl, hf_w0_aS, hb_w0_aS⟩; have hq_w0_aS : Below w3.heap.size w3 w5 := below_call hS_w0_aS.2 hS_w0_aS.2.size hb_w0_aS; clear hS_w0_aS; obtain ⟨_, y_w0_aS, _⟩ := id hf_w0_aS; obtain ⟨rfl, _, _⟩ := DSubscription.rd.1 y_w0_aS; clear y_w0_aS; have hr_w0_aS := hf_w0_aS.reads; replace hr_w0_aL := hr_w0_aL.below (by first | exact hb_w0_aS | exact (belD belR).trans hb_w0_aS)) | (go_at_call 67; have hS_w0_aL := ‹_ ∧ Below w3.heap.size w3 _›; refine (toPushS _ a0 _ (HA0.out.reads.below hS_w0_aL.2) (by first | omega | exact hv_aL)).mono ?_; rintro e w4 ⟨d_w0_aL, rfl, hf_w0_aL, hb_w0_aL⟩; have hq_w0_aL : Below w3.heap.size w3 w4 := below_call hS_w0_aL.2 hS_w0_aL.2.size hb_w0_aL; clear hS_w0_aL; obtain ⟨ao_w0_aL, cap_w0_aL, rfl⟩ := Fresh.slice hf_w0_aL; have hr_w0_aL := hf_w0_aL.reads))
  obtain ⟨ao_w0, cap_w0, rfl⟩ := Fresh.slice hf0
  obtain ⟨fp_w0, o_w0⟩ := Fresh.own hf0 (lo := w3.heap.size) (by first | exact hq_F6.size | exact hq_w0_aS.size)
  have H_w0 := Lib.hid o_w0; clear o_w0
  have hw := hq_F6
  have hsw6 : w3.heap.size ≤ w6.heap.size := hq_F6.size
  clear cx_aS zx_aS
  replace HX_aS := Lib.hid (HX_aS.out.below hw)
  have ⟨cx_aS, zx_aS⟩ := HX_aS.out
  replace HA0 := Lib.hid (HA0.out.below hw)
  replace HA1 := Lib.hid (HA1.out.below hw)
  replace HB := Lib.hid (below_call HB.out HB.out.size hw)
  clear hw
  go_wp2_with fail
  refine (toPushS _ a0 _ (HA0.out.reads.below (by repeat (first | with_reducible exact belR | with_reducible apply belA | (with_reducible refine belS ?_ ?_; focus (first | omega | (simp; done) | (simp; omega))) | with_reducible apply belN | with_reducible apply belD | with_reducible assumption))) (by first | omega | exact hv_aL)).mono ?_
  rintro e w7 ⟨d_x0, rfl, hf, hb⟩
  obtain ⟨ao_x0, cap_x0, rfl⟩ := Fresh.slice hf
  obtain ⟨fp_x0, o_x0⟩ := Fresh.own hf (lo := w6.heap.size) (by first | omega | (simp; done) | (simp; omega))
  have H_x0 := Lib.hid o_x0; clear o_x0
  have hw : Below w6.heap.size w6 w7 := below_call (by repeat (first | with_reducible exact belR | with_reducible apply belA | (with_reducible refine belS ?_ ?_; focus (first | omega | (simp; done) | (simp; omega))) | with_reducible apply belN | with_reducible apply belD | with_reducible assumption)) (by first | omega | (simp; done) | (simp; omega)) hb
  have hsw7 : w6.heap.size ≤ w7.heap.size := by have y := hb.size; (try simp at y); omega
  clear cx_aS zx_aS
  replace HX_aS := Lib.hid (HX_aS.out.below hw)
  have ⟨cx_aS, zx_aS⟩ := HX_aS.out
  replace HA0 := Lib.hid (HA0.out.below hw)
  replace HA1 := Lib.hid (HA1.out.below hw)
  replace H_w0 := Lib.hid (H_w0.out.below hw)
  replace HB := Lib.hid (below_call HB.out HB.out.size hw)
  clear hw
  clear hb hf
  go_wp2_with fail
  refine (toSubscription _ a1 _ (HA1.out.reads.below (by repeat (first | with_reducible exact belR | with_reducible apply belA | (with_reducible refine belS ?_ ?_; focus (first | omega | (simp; done) | (simp; omega))) | with_reducible apply belN | with_reducible apply belD | with_reducible assumption))) (by first | omega | (simp [DSubscription.wt]))).mono ?_
  rintro e w8 ⟨d_g0_aS, rfl, hf, hb⟩
  obtain ⟨_, y_g0_aS, _⟩ := id hf
  obtain ⟨rfl, _, _⟩ := DSubscription.rd.1 y_g0_aS
  clear y_g0_aS
  have H__g0_aS := Lib.hid (Fresh.reads' hf)
  have hw : Below w7.heap.size w7 w8 := below_call (by repeat (first | with_reducible exact belR | with_reducible apply belA | (with_reducible refine belS ?_ ?_; focus (first | omega | (simp; done) | (simp; omega))) | with_reducible apply belN | with_reducible apply belD | with_reducible assumption)) (by first | omega | (simp; done) | (simp; omega)) hb
  have hsw8 : w7.heap.size ≤ w8.heap.size := by have y := hb.size; (try simp at y); omega
  clear cx_aS zx_aS
  replace HX_aS := Lib.hid (HX_aS.out.below hw)
  have ⟨cx_aS, zx_aS⟩ := HX_aS.out
  replace HA0 := Lib.hid (HA0.out.below hw)
  replace HA1 := Lib.hid (HA1.out.below hw)
  replace H_w0 := Lib.hid (H_w0.out.below hw)
  replace H_x0 := Lib.hid (H_x0.out.below hw)
  replace HB := Lib.hid (below_call HB.out HB.out.size hw)
  clear hw
  clear hb hf
  go_wp2_with fail
  refine (hI _ a0 _ a1 _ (H_x0.out.reads.below (by repeat (first | with_reducible exact belR | with_reducible apply belA | (with_reducible refine belS ?_ ?_; focus (first | omega | (simp; done) | (simp; omega))) | with_reducible apply belN | with_reducible apply belD | with_reducible assumption))) (H__g0_aS.out.reads.below (by repeat (first | with_reducible exact belR | with_reducible apply belA | (with_reducible refine belS ?_ ?_; focus (first | omega | (simp; done) | (simp; omega))) | with_reducible apply belN | with_reducible apply belD | with_reducible assumption))) (by first | omega | exact hv_aL) (by first | omega | exact hv_aS)).mono ?_
  rintro e w9 ⟨d_g_0, rfl, hf0, hb⟩
  obtain ⟨ao_g0, cap_g0, rfl⟩ := Fresh.slice hf0
  obtain ⟨fp_g0, o_g0⟩ := Fresh.own hf0 (lo := w8.heap.size) (by first | omega | (simp; done) | (simp; omega))
  have H_g0 := Lib.hid o_g0; clear o_g0
  have hw : Below w8.heap.size w8 w9 := below_call (by repeat (first | with_reducible exact belR | with_reducible apply belA | (with_reducible refine belS ?_ ?_; focus (first | omega | (simp; done) | (simp; omega))) | with_reducible apply belN | with_reducible apply belD | with_reducible assumption)) (by first | omega | (simp; done) | (simp; omega)) hb
  have hsw9 : w8.heap.size ≤ w9.heap.size := by have y := hb.size; (try simp at y); omega
  clear cx_aS zx_aS
  replace HX_aS := Lib.hid (HX_aS.out.below hw)
  have ⟨cx_aS, zx_aS⟩ := HX_aS.out
  replace HA0 := Lib.hid (HA0.out.below hw)
  replace HA1 := Lib.hid (HA1.out.below hw)
  replace H_w0 := Lib.hid (H_w0.out.below hw)
  replace H_x0 := Lib.hid (H_x0.out.below hw)
  replace H__g0_aS := Lib.hid (H__g0_aS.out.below hw)
  replace HB := Lib.hid (below_call HB.out HB.out.size hw)
  clear hw
  clear hb
  clear H__g0_aS
  go_wp2_with fail
  refine (eqPushS _ _ (f0 a0 a1) _ (H_g0.out.reads.below (by repeat (first | with_reducible exact belR | with_reducible apply belA | (with_reducible refine belS ?_ ?_; focus (first | omega | (simp; done) | (simp; omega))) | with_reducible apply belN | with_reducible apply belD | with_reducible assumption))) (H_w0.out.reads.below (by repeat (first | with_reducible exact belR | with_reducible apply belA | (with_reducible refine belS ?_ ?_; focus (first | omega | (simp; done) | (simp; omega))) | with_reducible apply belN | with_reducible apply belD | with_reducible assumption)))).mono ?_
  rintro e w10 ⟨rfl, hb⟩
  have hw : Below w9.heap.size w9 w10 := below_call (by repeat (first | with_reducible exact belR | with_reducible apply belA | (with_reducible refine belS ?_ ?_; focus (first | omega | (simp; done) | (simp; omega))) | with_reducible apply belN | with_reducible apply belD | with_reducible assumption)) (by first | omega | (simp; done) | (simp; omega)) hb
  have hsw10 : w9.heap.size ≤ w10.heap.size := by have y := hb.size; (try simp at y); omega
  clear cx_aS zx_aS
  replace HX_aS := Lib.hid (HX_aS.out.below hw)
  have ⟨cx_aS, zx_aS⟩ := HX_aS.out
  replace HA0 := Lib.hid (HA0.out.below hw)
  replace HA1 := Lib.hid (HA1.out.below hw)
  replace H_w0 := Lib.hid (H_w0.out.below hw)
  replace H_x0 := Lib.hid (H_x0.out.below hw)
  replace H_g0 := Lib.hid (H_g0.out.below hw)
  replace HB := Lib.hid (below_call HB.out HB.out.size hw)
  clear hw
  clear hb
  go_wp2_with fail
  refine (toPushS _ a0 _ (HA0.out.reads.below (by repeat (first | with_reducible exact belR | with_reducible apply belA | (with_reducible refine belS ?_ ?_; focus (first | omega | (simp; done) | (simp; omega))) | with_reducible apply belN | with_reducible apply belD | with_reducible assumption))) (by first | omega | exact hv_aL)).mono ?_
  rintro e w11 ⟨d_x0_15, rfl, hf, hb⟩
  obtain ⟨ao_x0_15, cap_x0_15, rfl⟩ := Fresh.slice hf
  obtain ⟨fp__x0_15, o__x0_15⟩ := Fresh.own hf (lo := w10.heap.size) (by first | omega | (simp; done) | (simp; omega))
  have H__x0_15 := Lib.hid o__x0_15; clear o__x0_15
  have hw : Below w10.heap.size w10 w11 := below_call (by repeat (first | with_reducible exact belR | with_reducible apply belA | (with_reducible refine belS ?_ ?_; focus (first | omega | (simp; done) | (simp; omega))) | with_reducible apply belN | with_reducible apply belD | with_reducible assumption)) (by first | omega | (simp; done) | (simp; omega)) hb
  have hsw11 : w10.heap.size ≤ w11.heap.size := by have y := hb.size; (try simp at y); omega
  clear cx_aS zx_aS
  replace HX_aS := Lib.hid (HX_aS.out.below hw)
  have ⟨cx_aS, zx_aS⟩ := HX_aS.out
  replace HA0 := Lib.hid (HA0.out.below hw)
  replace HA1 := Lib.hid (HA1.out.below hw)
  replace H_w0 := Lib.hid (H_w0.out.below hw)
  replace H_x0 := Lib.hid (H_x0.out.below hw)
  replace H_g0 := Lib.hid (H_g0.out.below hw)
  replace HB := Lib.hid (below_call HB.out HB.out.size hw)
  clear hw
  clear hb hf
  go_wp2_with fail
  refine (eqPushS _ _ a0 _ (H_x0.out.reads.below (by repeat (first | with_reducible exact belR | with_reducible apply belA | (with_reducible refine belS ?_ ?_; focus (first | omega | (simp; done) | (simp; omega))) | with_reducible apply belN | with_reducible apply belD | with_reducible assumption))) (H__x0_15.out.reads.below (by repeat (first | with_reducible exact belR | with_reducible apply belA | (with_reducible refine belS ?_ ?_; focus (first | omega | (simp; done) | (simp; omega))) | with_reducible apply belN | with_reducible apply belD | with_reducible assumption)))).mono ?_
  rintro e w12 ⟨rfl, hb⟩
  have hw : Below w11.heap.size w11 w12 := below_call (by repeat (first | with_reducible exact belR | with_reducible apply belA | (with_reducible refine belS ?_ ?_; focus (first | omega | (simp; done) | (simp; omega))) | with_reducible apply belN | with_reducible apply belD | with_reducible assumption)) (by first | omega | (simp; done) | (simp; omega)) hb
  have hsw12 : w11.heap.size ≤ w12.heap.size := by have y := hb.size; (try simp at y); omega
  clear cx_aS zx_aS
  replace HX_aS := Lib.hid (HX_aS.out.below hw)
  have ⟨cx_aS, zx_aS⟩ := HX_aS.out
  replace HA0 := Lib.hid (HA0.out.below hw)
  replace HA1 := Lib.hid (HA1.out.below hw)
  replace H_w0 := Lib.hid (H_w0.out.below hw)
  replace H_x0 := Lib.hid (H_x0.out.below hw)
  replace H_g0 := Lib.hid (H_g0.out.below hw)
  replace H__x0_15 := Lib.hid (H__x0_15.out.below hw)
  replace HB := Lib.hid (below_call HB.out HB.out.size hw)
  clear hw
  clear hb
  clear H__x0_15
  go_wp2_with fail
  have hk_x0 := (hm_x0 a0 (by first | omega | exact hv_aL))
  refine (markPushS _ a0 fp_x0 (1) _ H_x0.out.rd H_x0.out.nodup (by omega)).mono ?_
  rintro e w13 ⟨rfl, hrd, hc⟩
  have hnew := Own.mk hrd H_x0.out.nodup (H_x0.out.ivl)
  have hq := H_x0.out.ivl
  have hsw13 : w12.heap.size ≤ w13.heap.size := hc.size
  clear cx_aS zx_aS
  replace HX_aS := Lib.hid (HX_aS.out.chg hc hq (by omega))
  have ⟨cx_aS, zx_aS⟩ := HX_aS.out
  replace HA0 := Lib.hid (HA0.out.chg hc hq (by omega))
  replace HA1 := Lib.hid (HA1.out.chg hc hq (by omega))
  replace H_w0 := Lib.hid (H_w0.out.chg hc (Own.apart H_w0.out H_x0.out (by omega)))
  replace H_g0 := Lib.hid (H_g0.out.chg hc (Own.apart H_g0.out H_x0.out (by omega)))
  replace HB := Lib.hid (Below.chg HB.out hc hq (by omega) HB.out.size)
  clear hq
  replace H_x0 := Lib.hid hnew; clear hnew hrd hc
  go_wp2_with fail
  refine (eqPushS _ _ (f0 a0 a1) _ (H_g0.out.reads.below (by repeat (first | with_reducible exact belR | with_reducible apply belA | (with_reducible refine belS ?_ ?_; focus (first | omega | (simp; done) | (simp; omega))) | with_reducible apply belN | with_reducible apply belD | with_reducible assumption))) (H_w0.out.reads.below (by repeat (first | with_reducible exact belR | with_reducible apply belA | (with_reducible refine belS ?_ ?_; focus (first | omega | (simp; done) | (simp; omega))) | with_reducible apply belN | with_reducible apply belD | with_reducible assumption)))).mono ?_
  rintro e w14 ⟨rfl, hb⟩
  have hw : Below w13.heap.size w13 w14 := below_call (by repeat (first | with_reducible exact belR | with_reducible apply belA | (with_reducible refine belS ?_ ?_; focus (first | omega | (simp; done) | (simp; omega))) | with_reducible apply belN | with_reducible apply belD | with_reducible assumption)) (by first | omega | (simp; done) | (simp; omega)) hb
  have hsw14 : w13.heap.size ≤ w14.heap.size := by have y := hb.size; (try simp at y); omega
  clear cx_aS zx_aS
  replace HX_aS := Lib.hid (HX_aS.out.below hw)
  have ⟨cx_aS, zx_aS⟩ := HX_aS.out
  replace HA0 := Lib.hid (HA0.out.below hw)
  replace HA1 := Lib.hid (HA1.out.below hw)
  replace H_w0 := Lib.hid (H_w0.out.below hw)
  replace H_x0 := Lib.hid (H_x0.out.below hw)
  replace H_g0 := Lib.hid (H_g0.out.below hw)
  replace HB := Lib.hid (below_call HB.out HB.out.size hw)
  clear hw
  clear hb
  go_wp2_with fail
  have hk_g0 := (hm_g0 a0 a1 (by first | omega | exact hv_aL) (by first | omega | exact hv_aS))
  refine (markPushS _ (f0 a0 a1) fp_g0 (1) _ H_g0.out.rd H_g0.out.nodup (by omega)).mono ?_
  rintro e w15 ⟨rfl, hrd, hc⟩
  have hnew := Own.mk hrd H_g0.out.nodup (H_g0.out.ivl)
  have hq := H_g0.out.ivl
  have hsw15 : w14.heap.size ≤ w15.heap.size := hc.size
  clear cx_aS zx_aS
  replace HX_aS := Lib.hid (HX_aS.out.chg hc hq (by omega))
  have ⟨cx_aS, zx_aS⟩ := HX_aS.out
  replace HA0 := Lib.hid (HA0.out.chg hc hq (by omega))
  replace HA1 := Lib.hid (HA1.out.chg hc hq (by omega))
  replace H_w0 := Lib.hid (H_w0.out.chg hc (Own.apart H_w0.out H_g0.out (by omega)))
  replace H_x0 := Lib.hid (H_x0.out.chg hc (Own.apart H_x0.out H_g0.out (by omega)))
  replace HB := Lib.hid (Below.chg HB.out hc hq (by omega) HB.out.size)
  clear hq
  replace H_g0 := Lib.hid hnew; clear hnew hrd hc
  go_wp2_with fail
  refine (heldPushS _ (f0 a0 a1) (1) _ (H_g0.out.reads.below (by repeat (first | with_reducible exact belR | with_reducible apply belA | (with_reducible refine belS ?_ ?_; focus (first | omega | (simp; done) | (simp; omega))) | with_reducible apply belN | with_reducible apply belD | with_reducible assumption))) (by omega)).mono ?_
  rintro e w16 ⟨rfl, hb⟩
  have hw : Below w15.heap.size w15 w16 := below_call (by repeat (first | with_reducible exact belR | with_reducible apply belA | (with_reducible refine belS ?_ ?_; focus (first | omega | (simp; done) | (simp; omega))) | with_reducible apply belN | with_reducible apply belD | with_reducible assumption)) (by first | omega | (simp; done) | (simp; omega)) hb
  have hsw16 : w15.heap.size ≤ w16.heap.size := by have y := hb.size; (try simp at y); omega
  clear cx_aS zx_aS
  replace HX_aS := Lib.hid (HX_aS.out.below hw)
  have ⟨cx_aS, zx_aS⟩ := HX_aS.out
  replace HA0 := Lib.hid (HA0.out.below hw)
  replace HA1 := Lib.hid (HA1.out.below hw)
  replace H_w0 := Lib.hid (H_w0.out.below hw)
  replace H_x0 := Lib.hid (H_x0.out.below hw)
  replace H_g0 := Lib.hid (H_g0.out.below hw)
  replace HB := Lib.hid (below_call HB.out HB.out.size hw)
  clear hw
  clear hb
  go_wp2_with fail
  refine settle (fun W' => Below w16.heap.size w16 W' ∧ w16.heap.size ≤ W'.heap.size) ⟨(by repeat (first | with_reducible exact belR | with_reducible apply belA | (with_reducible refine belS ?_ ?_; focus (first | omega | (simp; done) | (simp; omega))) | with_reducible apply belN | with_reducible apply belD | with_reducible assumption)), (by first | omega | (simp; done) | (simp; omega))⟩ ?_
  rintro w17 ⟨hw, hsw17⟩
  clear cx_aS zx_aS
  replace HX_aS := Lib.hid (HX_aS.out.below hw)
  have ⟨cx_aS, zx_aS⟩ := HX_aS.out
  replace HA0 := Lib.hid (HA0.out.below hw)
  replace HA1 := Lib.hid (HA1.out.below hw)
  replace H_w0 := Lib.hid (H_w0.out.below hw)
  replace H_x0 := Lib.hid (H_x0.out.below hw)
  replace H_g0 := Lib.hid (H_g0.out.below hw)
  replace HB := Lib.hid (below_call HB.out HB.out.size hw)
  clear hw
  go_region_held3 (fun w' => (∀ o, w'.cell? ⟨w.heap.size, o, none⟩ = #[.string a1.site, .int .i64 a1.secret, .int .i64 a1.last][o]?) ∧ Below w17.heap.size w17 w')
    (first | exact ⟨fun o => (World.cell?_drew _ _ |>.trans <| hq_F20.cell (p := ⟨w.heap.size, o, none⟩) zx_aS).trans (cx_aS o), belD hq_F20⟩ | exact ⟨fun o => (hq_F20.cell (p := ⟨w.heap.size, o, none⟩) zx_aS).trans (cx_aS o), hq_F20⟩ | exact ⟨fun o => (World.cell?_drew _ _ |>.trans <| hq_h0_aS.cell (p := ⟨w.heap.size, o, none⟩) zx_aS).trans (cx_aS o), belD hq_h0_aS⟩ | exact ⟨fun o => (hq_h0_aS.cell (p := ⟨w.heap.size, o, none⟩) zx_aS).trans (cx_aS o), hq_h0_aS⟩ | exact ⟨fun o => (World.cell?_drew _ _ |>.trans <| hq_h0_aL.cell (p := ⟨w.heap.size, o, none⟩) zx_aS).trans (cx_aS o), belD hq_h0_aL⟩ | exact ⟨fun o => (hq_h0_aL.cell (p := ⟨w.heap.size, o, none⟩) zx_aS).trans (cx_aS o), hq_h0_aL⟩ | exact ⟨cx_aS, belR⟩ | exact ⟨cx_aS, belD belR⟩)
    (first | (go_at_call 51; have hx := hq_h0_aS; clear hx; have hS_F20 := ‹_ ∧ Below w17.heap.size w17 _›; refine (hI _ a0 _ a1 _ (hr_h0_aL.below (by first | exact belR | exact belD belR | exact belN (belD belR))) (hr_h0_aS.below (by first | exact belR | exact belD belR | exact belN (belD belR))) (by first | omega | exact hv_aL) (by first | omega | exact hv_aS)).mono ?_; rintro e w20 ⟨d_h_0, rfl, hf0, hb_F20⟩; have hq_F20 : Below w17.heap.size w17 w20 := below_call hS_F20.2 hS_F20.2.size hb_F20; clear hS_F20) | (go_at_call 22; have hx := hq_h0_aL; clear hx; have hS_h0_aS := ‹_ ∧ Below w17.heap.size w17 _›; refine (toSubscription _ a1 _ (HA1.out.reads.below hS_h0_aS.2) (by first | omega | (simp [DSubscription.wt]))).mono ?_; rintro e w19 ⟨d_h0_aS, rfl, hf_h0_aS, hb_h0_aS⟩; have hq_h0_aS : Below w17.heap.size w17 w19 := below_call hS_h0_aS.2 hS_h0_aS.2.size hb_h0_aS; clear hS_h0_aS; obtain ⟨_, y_h0_aS, _⟩ := id hf_h0_aS; obtain ⟨rfl, _, _⟩ := DSubscription.rd.1 y_h0_aS; clear y_h0_aS; have hr_h0_aS := hf_h0_aS.reads; replace hr_h0_aL := hr_h0_aL.below (by first | exact hb_h0_aS | exact (belD belR).trans hb_h0_aS)) | (go_at_call 67; have hS_h0_aL := ‹_ ∧ Below w17.heap.size w17 _›; refine (toPushS _ a0 _ (HA0.out.reads.below hS_h0_aL.2) (by first | omega | exact hv_aL)).mono ?_; rintro e w18 ⟨d_h0_aL, rfl, hf_h0_aL, hb_h0_aL⟩; have hq_h0_aL : Below w17.heap.size w17 w18 := below_call hS_h0_aL.2 hS_h0_aL.2.size hb_h0_aL; clear hS_h0_aL; obtain ⟨ao_h0_aL, cap_h0_aL, rfl⟩ := Fresh.slice hf_h0_aL; have hr_h0_aL := hf_h0_aL.reads))
  obtain ⟨ao_h0, cap_h0, rfl⟩ := Fresh.slice hf0
  obtain ⟨fp_h0, o_h0⟩ := Fresh.own hf0 (lo := w17.heap.size) (by first | exact hq_F20.size | exact hq_h0_aS.size)
  have H_h0 := Lib.hid o_h0; clear o_h0
  have hw := hq_F20
  have hsw20 : w17.heap.size ≤ w20.heap.size := hq_F20.size
  clear cx_aS zx_aS
  replace HX_aS := Lib.hid (HX_aS.out.below hw)
  have ⟨cx_aS, zx_aS⟩ := HX_aS.out
  replace HA0 := Lib.hid (HA0.out.below hw)
  replace HA1 := Lib.hid (HA1.out.below hw)
  replace H_w0 := Lib.hid (H_w0.out.below hw)
  replace H_x0 := Lib.hid (H_x0.out.below hw)
  replace H_g0 := Lib.hid (H_g0.out.below hw)
  replace HB := Lib.hid (below_call HB.out HB.out.size hw)
  clear hw
  go_wp2_with fail
  refine (eqPushS _ _ (f0 a0 a1) _ (H_h0.out.reads.below (by repeat (first | with_reducible exact belR | with_reducible apply belA | (with_reducible refine belS ?_ ?_; focus (first | omega | (simp; done) | (simp; omega))) | with_reducible apply belN | with_reducible apply belD | with_reducible assumption))) (H_w0.out.reads.below (by repeat (first | with_reducible exact belR | with_reducible apply belA | (with_reducible refine belS ?_ ?_; focus (first | omega | (simp; done) | (simp; omega))) | with_reducible apply belN | with_reducible apply belD | with_reducible assumption)))).mono ?_
  rintro e w21 ⟨rfl, hb⟩
  have hw : Below w20.heap.size w20 w21 := below_call (by repeat (first | with_reducible exact belR | with_reducible apply belA | (with_reducible refine belS ?_ ?_; focus (first | omega | (simp; done) | (simp; omega))) | with_reducible apply belN | with_reducible apply belD | with_reducible assumption)) (by first | omega | (simp; done) | (simp; omega)) hb
  have hsw21 : w20.heap.size ≤ w21.heap.size := by have y := hb.size; (try simp at y); omega
  clear cx_aS zx_aS
  replace HX_aS := Lib.hid (HX_aS.out.below hw)
  have ⟨cx_aS, zx_aS⟩ := HX_aS.out
  replace HA0 := Lib.hid (HA0.out.below hw)
  replace HA1 := Lib.hid (HA1.out.below hw)
  replace H_w0 := Lib.hid (H_w0.out.below hw)
  replace H_x0 := Lib.hid (H_x0.out.below hw)
  replace H_g0 := Lib.hid (H_g0.out.below hw)
  replace H_h0 := Lib.hid (H_h0.out.below hw)
  replace HB := Lib.hid (below_call HB.out HB.out.size hw)
  clear hw
  clear hb
  go_wp2_with fail
  refine (heldPushS _ (f0 a0 a1) (1) _ (H_g0.out.reads.below (by repeat (first | with_reducible exact belR | with_reducible apply belA | (with_reducible refine belS ?_ ?_; focus (first | omega | (simp; done) | (simp; omega))) | with_reducible apply belN | with_reducible apply belD | with_reducible assumption))) (by omega)).mono ?_
  rintro e w22 ⟨rfl, hb⟩
  have hw : Below w21.heap.size w21 w22 := below_call (by repeat (first | with_reducible exact belR | with_reducible apply belA | (with_reducible refine belS ?_ ?_; focus (first | omega | (simp; done) | (simp; omega))) | with_reducible apply belN | with_reducible apply belD | with_reducible assumption)) (by first | omega | (simp; done) | (simp; omega)) hb
  have hsw22 : w21.heap.size ≤ w22.heap.size := by have y := hb.size; (try simp at y); omega
  clear cx_aS zx_aS
  replace HX_aS := Lib.hid (HX_aS.out.below hw)
  have ⟨cx_aS, zx_aS⟩ := HX_aS.out
  replace HA0 := Lib.hid (HA0.out.below hw)
  replace HA1 := Lib.hid (HA1.out.below hw)
  replace H_w0 := Lib.hid (H_w0.out.below hw)
  replace H_x0 := Lib.hid (H_x0.out.below hw)
  replace H_g0 := Lib.hid (H_g0.out.below hw)
  replace H_h0 := Lib.hid (H_h0.out.below hw)
  replace HB := Lib.hid (below_call HB.out HB.out.size hw)
  clear hw
  clear hb
  go_wp2_with fail
  go_ret
  have y := HB.out
  exact ⟨rfl, (by repeat (first | with_reducible exact belR | with_reducible apply belA | (with_reducible refine belS ?_ ?_; focus (first | omega | (simp; done) | (simp; omega))) | with_reducible apply belN | with_reducible apply belD | with_reducible assumption))⟩

set_option maxRecDepth 100000 in
set_option maxHeartbeats 1000000 in
theorem dropOld_lifted (f0 : (List DPush) → DSubscription → List DPush) (hS : SaidDropOld f0 66) (hI : SaidDropOld f0 51) (hm_g0 : ∀ (a0 : List DPush) (a1 : DSubscription), wtS DPush.wt a0 ≤ 1048576 → (a1).wt ≤ 1048576 → wtT DPush.cnt (f0 a0 a1) ((f0 a0 a1)).length ≤ 400000000) (hm_x0 : ∀ (a0 : List DPush), wtS DPush.wt a0 ≤ 1048576 → wtT DPush.cnt a0 (a0).length ≤ 400000000) (os : Os) (started : os.Started) (H : Type) (enc : TypeId × Value → H) :
    ReturnsInHanded {} Try.checked os 13 .any (Rows.fnExactDropOldSpec.pre6 enc Try.prog Try.f13 Rows.fnExactDropOldRow.domain false) (Rows.fnExactDropOldSpec.post enc Try.prog Try.f13 false true false false) := by
  refine law_lift (C := Try.checked) Try.own started (by kernel_rfl) Try.func13 Try.laidOut (by kernel_rfl) rfl Try.underlying4 rfl ?_
    (ChangeSpec.witness6 (enc := enc) (C := Try.checked) false ⟨#[], #[.slice none 0 0, .agg #[.string ByteArray.empty, .int .i64 0, .int .i64 0]], []⟩ 8 (by kernel_rfl) (by kernel_rfl) (by kernel_rfl) (by kernel_rfl)) ?_
  · intro ds h
    match ds, h with
    | [_, _], _ => rfl
  · intro W base args ds ps hval hA0
    have hA : DataW.TrodAll enc Try.prog W 0 (fun _ => true) true Try.f13.params.toList args.toList ds ps := hA0
    rw [Try.params13] at hA hval
    obtain ⟨v0, v1, _, _, _, _, rfl, t0, t1⟩ := trodAll_open2 hA
    obtain ⟨a0, r0⟩ := arg_slice (R := DPush.rep) (E := 38) Try.underlying97 (opens_slice Try.underlying97 (by kernel_rfl) (by decide) DPush.opens_laws) (hval 0 97 v0 rfl rfl) t0
    obtain ⟨c1, a1, rfl, r1⟩ := arg_struct Try.underlying34 DSubscription.opens_laws (hval 1 34 v1 rfl rfl) t1
    exact lawDropOld f0 hS hI hm_g0 hm_x0 v0 a0 c1.toList a1 W r0 r1

theorem dropOld_of (f0 : (List DPush) → DSubscription → List DPush) (hS : SaidDropOld f0 66) (hI : SaidDropOld f0 51) (hm_g0 : ∀ (a0 : List DPush) (a1 : DSubscription), wtS DPush.wt a0 ≤ 1048576 → (a1).wt ≤ 1048576 → wtT DPush.cnt (f0 a0 a1) ((f0 a0 a1)).length ≤ 400000000) (hm_x0 : ∀ (a0 : List DPush), wtS DPush.wt a0 ≤ 1048576 → wtT DPush.cnt a0 (a0).length ≤ 400000000) : Rows.FnExactDropOldSaid :=
  OpenClaim.holds_of_wide 13 Try.f13 rfl rfl rfl rfl rfl rfl rfl ⟨rfl, rfl, rfl, rfl, rfl⟩ rfl rfl rfl rfl rfl (by kernel_rfl) Try.func13 (by kernel_rfl)
    (of_decide_eq_true (by kernel_rfl)) (by unfold Func.isWrapper; rw [if_neg (by decide +kernel)]; exact ⟨rfl, rfl⟩)
    (fun os started H enc _ => dropOld_lifted f0 hS hI hm_g0 hm_x0 os started H enc)

end Go.Proofs.Ytglgjcdnfmlijaa
