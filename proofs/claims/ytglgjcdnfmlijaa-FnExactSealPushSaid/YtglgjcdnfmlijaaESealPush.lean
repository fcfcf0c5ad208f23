/-
  FnExactSealPush: the law's walk, and its row, off the contracts of impl.SealPush and spec.SealPush.
-/
import Derived.Test.YtglgjcdnfmlijaaLPush
import Derived.Test.YtglgjcdnfmlijaaLSubscription
import Derived.Test.YtglgjcdnfmlijaaMarkSl
import Derived.Test.YtglgjcdnfmlijaaSlices
import Derived.Test.YtglgjcdnfmlijaaLaw
import Derived.Test.YtglgjcdnfmlijaaEnv
namespace Go.Proofs.Ytglgjcdnfmlijaa
open Go.RowKit Go.ChangeShapes

/-- What impl.SealPush and spec.SealPush are both shown to compute. -/
def SaidSealPush (f0 : DSubscription → Int → (List UInt8) → DPush) (f1 : DSubscription → Int → (List UInt8) → Bool) (f : FuncId) : Prop :=
  ∀ (c0 : List Value) (a0 : DSubscription) (a1 : Int) (c2 : Value) (a2 : List UInt8) (w : World) (_h0 : Reads DSubscription.rep w c0 a0) (_h2 : Reads (Rep.slice 5 Rep.byte) w [c2] a2)(_s0 : (a0).wt ≤ 1048576) (_s1 : wtS wt0 a2 ≤ 1048576), Calls Try.prog f #[.agg c0.toArray, .int .i64 a1, c2] w fun e w' => ∃ (d0 : List Value), e = .returned (.tuple #[.agg d0.toArray, .bool (f1 a0 a1 a2)]) ∧ Fresh DPush.rep w.heap.size w' d0 (f0 a0 a1 a2) ∧ Below w.heap.size w w'

set_option maxRecDepth 100000 in
set_option maxHeartbeats 16000000 in
theorem lawSealPush (f0 : DSubscription → Int → (List UInt8) → DPush) (f1 : DSubscription → Int → (List UInt8) → Bool) (hS : SaidSealPush f0 f1 21) (hI : SaidSealPush f0 f1 24) (hm_g0 : ∀ (a0 : DSubscription) (a1 : Int) (a2 : List UInt8), (a0).wt ≤ 1048576 → wtS wt0 a2 ≤ 1048576 → ((f0 a0 a1 a2)).mcnt ≤ 400000000) (hm_x2 : ∀ (a2 : List UInt8), wtS wt0 a2 ≤ 1048576 → wtT cnt1 a2 (a2).length ≤ 400000000) (c0 : List Value) (a0 : DSubscription) (a1 : Int) (c2 : Value) (a2 : List UInt8) (w : World) (h0 : Reads DSubscription.rep w c0 a0) (h2 : Reads (Rep.slice 5 Rep.byte) w [c2] a2)  :
    Calls Try.prog 4 #[.agg c0.toArray, .int .i64 a1, c2] w fun e w' => e = .returned (.bool true) ∧ Below w.heap.size w w' := by
  have HA0 := Lib.hid (Low.start h0)
  obtain ⟨fp, hr⟩ := h0
  obtain ⟨rfl, _, _⟩ := DSubscription.rd.1 hr
  clear hr
  have HA2 := Lib.hid (Low.start h2)
  obtain ⟨fp, hr⟩ := h2
  obtain ⟨ao2, cap2, rfl, hl2, _, _⟩ := slice_open hr
  clear hr
  have HB : Hid (Below w.heap.size w w) := Lib.hid belR
  by_cases hg_aData : ¬ a2.length ≤ 1048576
  · go_enter Try.func4, Try.ntmps4
    go_wp2
    all_goals first | (go_ret; exact ⟨rfl, (by repeat (first | with_reducible exact belR | with_reducible apply belA | (with_reducible refine belS ?_ ?_; focus (first | omega | (simp; done) | (simp; omega))) | with_reducible apply belN | with_reducible apply belD | with_reducible assumption))⟩) | (exfalso; omega)
  rw [Decidable.not_not] at hg_aData
  have hv_aData : wtS wt0 a2 ≤ 1048576 := by rw [show wtS wt0 a2 = a2.length from wtS_zero _]; exact hg_aData
  go_enter Try.func4, Try.ntmps4
  go_wp2_with fail
  refine (szSubscription _ a0 (1048576) _ (HA0.out.reads.below (by repeat (first | with_reducible exact belR | with_reducible apply belA | (with_reducible refine belS ?_ ?_; focus (first | omega | (simp; done) | (simp; omega))) | with_reducible apply belN | with_reducible apply belD | with_reducible assumption))) (by omega) (by omega)).mono ?_
  rintro e w1 ⟨rfl, hb⟩
  have hw : Below w.heap.size w w1 := below_call (by repeat (first | with_reducible exact belR | with_reducible apply belA | (with_reducible refine belS ?_ ?_; focus (first | omega | (simp; done) | (simp; omega))) | with_reducible apply belN | with_reducible apply belD | with_reducible assumption)) (by first | omega | (simp; done) | (simp; omega)) hb
  have hsw1 : w.heap.size + 1 ≤ w1.heap.size := by have y := hb.size; (try simp at y); omega
  have HX_aS : Hid (Box w1 (w.heap.size) #[.string a0.site, .int .i64 a0.secret, .int .i64 a0.last]) := Lib.hid (Box.below (Box.at (by first | rfl | simp)) hb)
  have ⟨cx_aS, zx_aS⟩ := HX_aS.out
  replace HA0 := Lib.hid (HA0.out.below hw)
  replace HA2 := Lib.hid (HA2.out.below hw)
  replace HB := Lib.hid (below_call HB.out HB.out.size hw)
  clear hw
  clear hb
  have hz := szOf_spec ((a0).wt) (1048576)
  by_cases hv_aS : ¬ (((a0).wt : Nat) : Int) ≤ 1048576
  · rw [hz.2 hv_aS]; clear hz
    go_wp2
    all_goals go_ret
    have y := HB.out
    exact ⟨rfl, (by repeat (first | with_reducible exact belR | with_reducible apply belA | (with_reducible refine belS ?_ ?_; focus (first | omega | (simp; done) | (simp; omega))) | with_reducible apply belN | with_reducible apply belD | with_reducible assumption))⟩
  rw [Decidable.not_not] at hv_aS
  rw [hz.1 hv_aS]; clear hz
  go_wp2_with fail
  refine (toSubscription _ a0 _ (HA0.out.reads.below (by repeat (first | with_reducible exact belR | with_reducible apply belA | (with_reducible refine belS ?_ ?_; focus (first | omega | (simp; done) | (simp; omega))) | with_reducible apply belN | with_reducible apply belD | with_reducible assumption))) (by first | omega | (simp [DSubscription.wt]))).mono ?_
  rintro e w2 ⟨d_w0_aS, rfl, hf, hb⟩
  obtain ⟨_, y_w0_aS, _⟩ := id hf
  obtain ⟨rfl, _, _⟩ := DSubscription.rd.1 y_w0_aS
  clear y_w0_aS
  have H__w0_aS := Lib.hid (Fresh.reads' hf)
  have hw : Below w1.heap.size w1 w2 := below_call (by repeat (first | with_reducible exact belR | with_reducible apply belA | (with_reducible refine belS ?_ ?_; focus (first | omega | (simp; done) | (simp; omega))) | with_reducible apply belN | with_reducible apply belD | with_reducible assumption)) (by first | omega | (simp; done) | (simp; omega)) hb
  have hsw2 : w1.heap.size ≤ w2.heap.size := by have y := hb.size; (try simp at y); omega
  clear cx_aS zx_aS
  replace HX_aS := Lib.hid (HX_aS.out.below hw)
  have ⟨cx_aS, zx_aS⟩ := HX_aS.out
  replace HA0 := Lib.hid (HA0.out.below hw)
  replace HA2 := Lib.hid (HA2.out.below hw)
  replace HB := Lib.hid (below_call HB.out HB.out.size hw)
  clear hw
  clear hb hf
  go_wp2_with fail
  refine (toByteS _ a2 _ (HA2.out.reads.below (by repeat (first | with_reducible exact belR | with_reducible apply belA | (with_reducible refine belS ?_ ?_; focus (first | omega | (simp; done) | (simp; omega))) | with_reducible apply belN | with_reducible apply belD | with_reducible assumption))) (by first | omega | exact hv_aData)).mono ?_
  rintro e w3 ⟨d_w0_aData, rfl, hf, hb⟩
  obtain ⟨ao_w0_aData, cap_w0_aData, rfl⟩ := Fresh.slice hf
  obtain ⟨fp__w0_aData, o__w0_aData⟩ := Fresh.own hf (lo := w2.heap.size) (by first | omega | (simp; done) | (simp; omega))
  have H__w0_aData := Lib.hid o__w0_aData; clear o__w0_aData
  have hw : Below w2.heap.size w2 w3 := below_call (by repeat (first | with_reducible exact belR | with_reducible apply belA | (with_reducible refine belS ?_ ?_; focus (first | omega | (simp; done) | (simp; omega))) | with_reducible apply belN | with_reducible apply belD | with_reducible assumption)) (by first | omega | (simp; done) | (simp; omega)) hb
  have hsw3 : w2.heap.size ≤ w3.heap.size := by have y := hb.size; (try simp at y); omega
  clear cx_aS zx_aS
  replace HX_aS := Lib.hid (HX_aS.out.below hw)
  have ⟨cx_aS, zx_aS⟩ := HX_aS.out
  replace HA0 := Lib.hid (HA0.out.below hw)
  replace HA2 := Lib.hid (HA2.out.below hw)
  replace H__w0_aS := Lib.hid (H__w0_aS.out.below hw)
  replace HB := Lib.hid (below_call HB.out HB.out.size hw)
  clear hw
  clear hb hf
  go_wp2_with fail
  refine (hS _ a0 a1 _ a2 _ (H__w0_aS.out.reads.below (by repeat (first | with_reducible exact belR | with_reducible apply belA | (with_reducible refine belS ?_ ?_; focus (first | omega | (simp; done) | (simp; omega))) | with_reducible apply belN | with_reducible apply belD | with_reducible assumption))) (H__w0_aData.out.reads.below (by repeat (first | with_reducible exact belR | with_reducible apply belA | (with_reducible refine belS ?_ ?_; focus (first | omega | (simp; done) | (simp; omega))) | with_reducible apply belN | with_reducible apply belD | with_reducible assumption))) (by first | omega | exact hv_aS) (by first | omega | exact hv_aData)).mono ?_
  rintro e w4 ⟨d_w_0, rfl, hf0, hb⟩
  obtain ⟨ao_w0_0, cap_w0_0, rfl⟩ := DPush.fshape hf0
  obtain ⟨fp_w0, o_w0⟩ := Fresh.own hf0 (lo := w3.heap.size) (by first | omega | (simp; done) | (simp; omega))
  have H_w0 := Lib.hid o_w0; clear o_w0
  have hw : Below w3.heap.size w3 w4 := below_call (by repeat (first | with_reducible exact belR | with_reducible apply belA | (with_reducible refine belS ?_ ?_; focus (first | omega | (simp; done) | (simp; omega))) | with_reducible apply belN | with_reducible apply belD | with_reducible assumption)) (by first | omega | (simp; done) | (simp; omega)) hb
  have hsw4 : w3.heap.size ≤ w4.heap.size := by have y := hb.size; (try simp at y); omega
  clear cx_aS zx_aS
  replace HX_aS := Lib.hid (HX_aS.out.below hw)
  have ⟨cx_aS, zx_aS⟩ := HX_aS.out
  replace HA0 := Lib.hid (HA0.out.below hw)
  replace HA2 := Lib.hid (HA2.out.below hw)
  replace H__w0_aS := Lib.hid (H__w0_aS.out.below hw)
  replace H__w0_aData := Lib.hid (H__w0_aData.out.below hw)
  replace HB := Lib.hid (below_call HB.out HB.out.size hw)
  clear hw
  clear hb
  clear H__w0_aS
  clear H__w0_aData
  go_wp2_with fail
  refine (toByteS _ a2 _ (HA2.out.reads.below (by repeat (first | with_reducible exact belR | with_reducible apply belA | (with_reducible refine belS ?_ ?_; focus (first | omega | (simp; done) | (simp; omega))) | with_reducible apply belN | with_reducible apply belD | with_reducible assumption))) (by first | omega | exact hv_aData)).mono ?_
  rintro e w5 ⟨d_x2, rfl, hf, hb⟩
  obtain ⟨ao_x2, cap_x2, rfl⟩ := Fresh.slice hf
  obtain ⟨fp_x2, o_x2⟩ := Fresh.own hf (lo := w4.heap.size + 1) (by first | omega | (simp; done) | (simp; omega))
  have H_x2 := Lib.hid o_x2; clear o_x2
  have hw : Below w4.heap.size w4 w5 := below_call (by repeat (first | with_reducible exact belR | with_reducible apply belA | (with_reducible refine belS ?_ ?_; focus (first | omega | (simp; done) | (simp; omega))) | with_reducible apply belN | with_reducible apply belD | with_reducible assumption)) (by first | omega | (simp; done) | (simp; omega)) hb
  have hsw5 : w4.heap.size + 1 ≤ w5.heap.size := by have y := hb.size; (try simp at y); omega
  clear cx_aS zx_aS
  replace HX_aS := Lib.hid (HX_aS.out.below hw)
  have HX_w0 : Hid (Box w5 (w4.heap.size) #[.string ((f0 a0 a1 a2)).site, .int .i64 ((f0 a0 a1 a2)).number, .slice ao_w0_0 ((f0 a0 a1 a2)).data.length cap_w0_0, .int .i64 ((f0 a0 a1 a2)).mac]) := Lib.hid (Box.below (Box.at (by first | rfl | simp)) hb)
  have ⟨cx_aS, zx_aS⟩ := HX_aS.out
  have ⟨cx_w0, zx_w0⟩ := HX_w0.out
  replace HA0 := Lib.hid (HA0.out.below hw)
  replace HA2 := Lib.hid (HA2.out.below hw)
  replace H_w0 := Lib.hid (H_w0.out.below hw)
  replace HB := Lib.hid (below_call HB.out HB.out.size hw)
  clear hw
  clear hb hf
  go_wp2_with fail
  refine (toSubscription _ a0 _ (HA0.out.reads.below (by repeat (first | with_reducible exact belR | with_reducible apply belA | (with_reducible refine belS ?_ ?_; focus (first | omega | (simp; done) | (simp; omega))) | with_reducible apply belN | with_reducible apply belD | with_reducible assumption))) (by first | omega | (simp [DSubscription.wt]))).mono ?_
  rintro e w6 ⟨d_g0_aS, rfl, hf, hb⟩
  obtain ⟨_, y_g0_aS, _⟩ := id hf
  obtain ⟨rfl, _, _⟩ := DSubscription.rd.1 y_g0_aS
  clear y_g0_aS
  have H__g0_aS := Lib.hid (Fresh.reads' hf)
  have hw : Below w5.heap.size w5 w6 := below_call (by repeat (first | with_reducible exact belR | with_reducible apply belA | (with_reducible refine belS ?_ ?_; focus (first | omega | (simp; done) | (simp; omega))) | with_reducible apply belN | with_reducible apply belD | with_reducible assumption)) (by first | omega | (simp; done) | (simp; omega)) hb
  have hsw6 : w5.heap.size ≤ w6.heap.size := by have y := hb.size; (try simp at y); omega
  clear cx_aS zx_aS
  replace HX_aS := Lib.hid (HX_aS.out.below hw)
  clear cx_w0 zx_w0
  replace HX_w0 := Lib.hid (HX_w0.out.below hw)
  have ⟨cx_aS, zx_aS⟩ := HX_aS.out
  have ⟨cx_w0, zx_w0⟩ := HX_w0.out
  replace HA0 := Lib.hid (HA0.out.below hw)
  replace HA2 := Lib.hid (HA2.out.below hw)
  replace H_w0 := Lib.hid (H_w0.out.below hw)
  replace H_x2 := Lib.hid (H_x2.out.below hw)
  replace HB := Lib.hid (below_call HB.out HB.out.size hw)
  clear hw
  clear hb hf
  go_wp2_with fail
  refine (hI _ a0 a1 _ a2 _ (H__g0_aS.out.reads.below (by repeat (first | with_reducible exact belR | with_reducible apply belA | (with_reducible refine belS ?_ ?_; focus (first | omega | (simp; done) | (simp; omega))) | with_reducible apply belN | with_reducible apply belD | with_reducible assumption))) (H_x2.out.reads.below (by repeat (first | with_reducible exact belR | with_reducible apply belA | (with_reducible refine belS ?_ ?_; focus (first | omega | (simp; done) | (simp; omega))) | with_reducible apply belN | with_reducible apply belD | with_reducible assumption))) (by first | omega | exact hv_aS) (by first | omega | exact hv_aData)).mono ?_
  rintro e w7 ⟨d_g_0, rfl, hf0, hb⟩
  obtain ⟨ao_g0_0, cap_g0_0, rfl⟩ := DPush.fshape hf0
  obtain ⟨fp_g0, o_g0⟩ := Fresh.own hf0 (lo := w6.heap.size) (by first | omega | (simp; done) | (simp; omega))
  have H_g0 := Lib.hid o_g0; clear o_g0
  have hw : Below w6.heap.size w6 w7 := below_call (by repeat (first | with_reducible exact belR | with_reducible apply belA | (with_reducible refine belS ?_ ?_; focus (first | omega | (simp; done) | (simp; omega))) | with_reducible apply belN | with_reducible apply belD | with_reducible assumption)) (by first | omega | (simp; done) | (simp; omega)) hb
  have hsw7 : w6.heap.size ≤ w7.heap.size := by have y := hb.size; (try simp at y); omega
  clear cx_aS zx_aS
  replace HX_aS := Lib.hid (HX_aS.out.below hw)
  clear cx_w0 zx_w0
  replace HX_w0 := Lib.hid (HX_w0.out.below hw)
  have ⟨cx_aS, zx_aS⟩ := HX_aS.out
  have ⟨cx_w0, zx_w0⟩ := HX_w0.out
  replace HA0 := Lib.hid (HA0.out.below hw)
  replace HA2 := Lib.hid (HA2.out.below hw)
  replace H_w0 := Lib.hid (H_w0.out.below hw)
  replace H_x2 := Lib.hid (H_x2.out.below hw)
  replace H__g0_aS := Lib.hid (H__g0_aS.out.below hw)
  replace HB := Lib.hid (below_call HB.out HB.out.size hw)
  clear hw
  clear hb
  clear H__g0_aS
  go_wp2_with fail
  refine (eqPush _ _ (f0 a0 a1 a2) _ (H_g0.out.reads.below (by repeat (first | with_reducible exact belR | with_reducible apply belA | (with_reducible refine belS ?_ ?_; focus (first | omega | (simp; done) | (simp; omega))) | with_reducible apply belN | with_reducible apply belD | with_reducible assumption))) (H_w0.out.reads.below (by repeat (first | with_reducible exact belR | with_reducible apply belA | (with_reducible refine belS ?_ ?_; focus (first | omega | (simp; done) | (simp; omega))) | with_reducible apply belN | with_reducible apply belD | with_reducible assumption)))).mono ?_
  rintro e w8 ⟨rfl, hb⟩
  have hw : Below w7.heap.size w7 w8 := below_call (by repeat (first | with_reducible exact belR | with_reducible apply belA | (with_reducible refine belS ?_ ?_; focus (first | omega | (simp; done) | (simp; omega))) | with_reducible apply belN | with_reducible apply belD | with_reducible assumption)) (by first | omega | (simp; done) | (simp; omega)) hb
  have hsw8 : w7.heap.size + 1 ≤ w8.heap.size := by have y := hb.size; (try simp at y); omega
  clear cx_aS zx_aS
  replace HX_aS := Lib.hid (HX_aS.out.below hw)
  clear cx_w0 zx_w0
  replace HX_w0 := Lib.hid (HX_w0.out.below hw)
  have HX_g0 : Hid (Box w8 (w7.heap.size) #[.string ((f0 a0 a1 a2)).site, .int .i64 ((f0 a0 a1 a2)).number, .slice ao_g0_0 ((f0 a0 a1 a2)).data.length cap_g0_0, .int .i64 ((f0 a0 a1 a2)).mac]) := Lib.hid (Box.below (Box.at (by first | rfl | simp)) hb)
  have ⟨cx_aS, zx_aS⟩ := HX_aS.out
  have ⟨cx_w0, zx_w0⟩ := HX_w0.out
  have ⟨cx_g0, zx_g0⟩ := HX_g0.out
  replace HA0 := Lib.hid (HA0.out.below hw)
  replace HA2 := Lib.hid (HA2.out.below hw)
  replace H_w0 := Lib.hid (H_w0.out.below hw)
  replace H_x2 := Lib.hid (H_x2.out.below hw)
  replace H_g0 := Lib.hid (H_g0.out.below hw)
  replace HB := Lib.hid (below_call HB.out HB.out.size hw)
  clear hw
  clear hb
  go_wp2_with fail
  refine (toByteS _ a2 _ (HA2.out.reads.below (by repeat (first | with_reducible exact belR | with_reducible apply belA | (with_reducible refine belS ?_ ?_; focus (first | omega | (simp; done) | (simp; omega))) | with_reducible apply belN | with_reducible apply belD | with_reducible assumption))) (by first | omega | exact hv_aData)).mono ?_
  rintro e w9 ⟨d_x2_14, rfl, hf, hb⟩
  obtain ⟨ao_x2_14, cap_x2_14, rfl⟩ := Fresh.slice hf
  obtain ⟨fp__x2_14, o__x2_14⟩ := Fresh.own hf (lo := w8.heap.size) (by first | omega | (simp; done) | (simp; omega))
  have H__x2_14 := Lib.hid o__x2_14; clear o__x2_14
  have hw : Below w8.heap.size w8 w9 := below_call (by repeat (first | with_reducible exact belR | with_reducible apply belA | (with_reducible refine belS ?_ ?_; focus (first | omega | (simp; done) | (simp; omega))) | with_reducible apply belN | with_reducible apply belD | with_reducible assumption)) (by first | omega | (simp; done) | (simp; omega)) hb
  have hsw9 : w8.heap.size ≤ w9.heap.size := by have y := hb.size; (try simp at y); omega
  clear cx_aS zx_aS
  replace HX_aS := Lib.hid (HX_aS.out.below hw)
  clear cx_w0 zx_w0
  replace HX_w0 := Lib.hid (HX_w0.out.below hw)
  clear cx_g0 zx_g0
  replace HX_g0 := Lib.hid (HX_g0.out.below hw)
  have ⟨cx_aS, zx_aS⟩ := HX_aS.out
  have ⟨cx_w0, zx_w0⟩ := HX_w0.out
  have ⟨cx_g0, zx_g0⟩ := HX_g0.out
  replace HA0 := Lib.hid (HA0.out.below hw)
  replace HA2 := Lib.hid (HA2.out.below hw)
  replace H_w0 := Lib.hid (H_w0.out.below hw)
  replace H_x2 := Lib.hid (H_x2.out.below hw)
  replace H_g0 := Lib.hid (H_g0.out.below hw)
  replace HB := Lib.hid (below_call HB.out HB.out.size hw)
  clear hw
  clear hb hf
  go_wp2_with fail
  refine (eqByteS _ _ a2 _ (H_x2.out.reads.below (by repeat (first | with_reducible exact belR | with_reducible apply belA | (with_reducible refine belS ?_ ?_; focus (first | omega | (simp; done) | (simp; omega))) | with_reducible apply belN | with_reducible apply belD | with_reducible assumption))) (H__x2_14.out.reads.below (by repeat (first | with_reducible exact belR | with_reducible apply belA | (with_reducible refine belS ?_ ?_; focus (first | omega | (simp; done) | (simp; omega))) | with_reducible apply belN | with_reducible apply belD | with_reducible assumption)))).mono ?_
  rintro e w10 ⟨rfl, hb⟩
  have hw : Below w9.heap.size w9 w10 := below_call (by repeat (first | with_reducible exact belR | with_reducible apply belA | (with_reducible refine belS ?_ ?_; focus (first | omega | (simp; done) | (simp; omega))) | with_reducible apply belN | with_reducible apply belD | with_reducible assumption)) (by first | omega | (simp; done) | (simp; omega)) hb
  have hsw10 : w9.heap.size ≤ w10.heap.size := by have y := hb.size; (try simp at y); omega
  clear cx_aS zx_aS
  replace HX_aS := Lib.hid (HX_aS.out.below hw)
  clear cx_w0 zx_w0
  replace HX_w0 := Lib.hid (HX_w0.out.below hw)
  clear cx_g0 zx_g0
  replace HX_g0 := Lib.hid (HX_g0.out.below hw)
  have ⟨cx_aS, zx_aS⟩ := HX_aS.out
  have ⟨cx_w0, zx_w0⟩ := HX_w0.out
  have ⟨cx_g0, zx_g0⟩ := HX_g0.out
  replace HA0 := Lib.hid (HA0.out.below hw)
  replace HA2 := Lib.hid (HA2.out.below hw)
  replace H_w0 := Lib.hid (H_w0.out.below hw)
  replace H_x2 := Lib.hid (H_x2.out.below hw)
  replace H_g0 := Lib.hid (H_g0.out.below hw)
  replace H__x2_14 := Lib.hid (H__x2_14.out.below hw)
  replace HB := Lib.hid (below_call HB.out HB.out.size hw)
  clear hw
  clear hb
  clear H__x2_14
  go_wp2_with fail
  have hk_x2 := (hm_x2 a2 (by first | omega | exact hv_aData))
  refine (markByteS _ a2 fp_x2 (1) _ H_x2.out.rd H_x2.out.nodup (by omega)).mono ?_
  rintro e w11 ⟨rfl, hrd, hc⟩
  have hnew := Own.mk hrd H_x2.out.nodup (H_x2.out.ivl)
  have hq := H_x2.out.ivl
  have hsw11 : w10.heap.size ≤ w11.heap.size := hc.size
  clear cx_aS zx_aS
  replace HX_aS := Lib.hid (HX_aS.out.chg hc hq (by omega))
  clear cx_w0 zx_w0
  replace HX_w0 := Lib.hid (HX_w0.out.chg hc hq (by omega))
  clear cx_g0 zx_g0
  replace HX_g0 := Lib.hid (HX_g0.out.chg hc hq (by omega))
  have ⟨cx_aS, zx_aS⟩ := HX_aS.out
  have ⟨cx_w0, zx_w0⟩ := HX_w0.out
  have ⟨cx_g0, zx_g0⟩ := HX_g0.out
  replace HA0 := Lib.hid (HA0.out.chg hc hq (by omega))
  replace HA2 := Lib.hid (HA2.out.chg hc hq (by omega))
  replace H_w0 := Lib.hid (H_w0.out.chg hc (Own.apart H_w0.out H_x2.out (by omega)))
  replace H_g0 := Lib.hid (H_g0.out.chg hc (Own.apart H_g0.out H_x2.out (by omega)))
  replace HB := Lib.hid (Below.chg HB.out hc hq (by omega) HB.out.size)
  clear hq
  replace H_x2 := Lib.hid hnew; clear hnew hrd hc
  go_wp2_with fail
  refine (eqPush _ _ (f0 a0 a1 a2) _ (H_g0.out.reads.below (by repeat (first | with_reducible exact belR | with_reducible apply belA | (with_reducible refine belS ?_ ?_; focus (first | omega | (simp; done) | (simp; omega))) | with_reducible apply belN | with_reducible apply belD | with_reducible assumption))) (H_w0.out.reads.below (by repeat (first | with_reducible exact belR | with_reducible apply belA | (with_reducible refine belS ?_ ?_; focus (first | omega | (simp; done) | (simp; omega))) | with_reducible apply belN | with_reducible apply belD | with_reducible assumption)))).mono ?_
  rintro e w12 ⟨rfl, hb⟩
  have hw : Below w11.heap.size w11 w12 := below_call (by repeat (first | with_reducible exact belR | with_reducible apply belA | (with_reducible refine belS ?_ ?_; focus (first | omega | (simp; done) | (simp; omega))) | with_reducible apply belN | with_reducible apply belD | with_reducible assumption)) (by first | omega | (simp; done) | (simp; omega)) hb
  have hsw12 : w11.heap.size ≤ w12.heap.size := by have y := hb.size; (try simp at y); omega
  clear cx_aS zx_aS
  replace HX_aS := Lib.hid (HX_aS.out.below hw)
  clear cx_w0 zx_w0
  replace HX_w0 := Lib.hid (HX_w0.out.below hw)
  clear cx_g0 zx_g0
  replace HX_g0 := Lib.hid (HX_g0.out.below hw)
  have ⟨cx_aS, zx_aS⟩ := HX_aS.out
  have ⟨cx_w0, zx_w0⟩ := HX_w0.out
  have ⟨cx_g0, zx_g0⟩ := HX_g0.out
  replace HA0 := Lib.hid (HA0.out.below hw)
  replace HA2 := Lib.hid (HA2.out.below hw)
  replace H_w0 := Lib.hid (H_w0.out.below hw)
  replace H_x2 := Lib.hid (H_x2.out.below hw)
  replace H_g0 := Lib.hid (H_g0.out.below hw)
  replace HB := Lib.hid (below_call HB.out HB.out.size hw)
  clear hw
  clear hb
  go_wp2_with fail
  have hk_g0 := (hm_g0 a0 a1 a2 (by first | omega | exact hv_aS) (by first | omega | exact hv_aData))
  refine (markPush _ (f0 a0 a1 a2) fp_g0 (1) _ H_g0.out.rd H_g0.out.nodup (by omega)).mono ?_
  rintro e w13 ⟨rfl, hrd, hc⟩
  have hnew := Own.mk hrd H_g0.out.nodup (H_g0.out.ivl)
  have hq := H_g0.out.ivl
  have hsw13 : w12.heap.size ≤ w13.heap.size := hc.size
  clear cx_aS zx_aS
  replace HX_aS := Lib.hid (HX_aS.out.chg hc hq (by omega))
  clear cx_w0 zx_w0
  replace HX_w0 := Lib.hid (HX_w0.out.chg hc hq (by omega))
  clear cx_g0 zx_g0
  replace HX_g0 := Lib.hid (HX_g0.out.chg hc hq (by omega))
  have ⟨cx_aS, zx_aS⟩ := HX_aS.out
  have ⟨cx_w0, zx_w0⟩ := HX_w0.out
  have ⟨cx_g0, zx_g0⟩ := HX_g0.out
  replace HA0 := Lib.hid (HA0.out.chg hc hq (by omega))
  replace HA2 := Lib.hid (HA2.out.chg hc hq (by omega))
  replace H_w0 := Lib.hid (H_w0.out.chg hc (Own.apart H_w0.out H_g0.out (by omega)))
  replace H_x2 := Lib.hid (H_x2.out.chg hc (Own.apart H_x2.out H_g0.out (by omega)))
  replace HB := Lib.hid (Below.chg HB.out hc hq (by omega) HB.out.size)
  clear hq
  replace H_g0 := Lib.hid hnew; clear hnew hrd hc
  go_wp2_with fail
  refine (heldPush _ (f0 a0 a1 a2) (1) _ (H_g0.out.reads.below (by repeat (first | with_reducible exact belR | with_reducible apply belA | (with_reducible refine belS ?_ ?_; focus (first | omega | (simp; done) | (simp; omega))) | with_reducible apply belN | with_reducible apply belD | with_reducible assumption))) (by omega)).mono ?_
  rintro e w14 ⟨rfl, hb⟩
  have hw : Below w13.heap.size w13 w14 := below_call (by repeat (first | with_reducible exact belR | with_reducible apply belA | (with_reducible refine belS ?_ ?_; focus (first | omega | (simp; done) | (simp; omega))) | with_reducible apply belN | with_reducible apply belD | with_reducible assumption)) (by first | omega | (simp; done) | (simp; omega)) hb
  have hsw14 : w13.heap.size ≤ w14.heap.size := by have y := hb.size; (try simp at y); omega
  clear cx_aS zx_aS
  replace HX_aS := Lib.hid (HX_aS.out.below hw)
  clear cx_w0 zx_w0
  replace HX_w0 := Lib.hid (HX_w0.out.below hw)
  clear cx_g0 zx_g0
  replace HX_g0 := Lib.hid (HX_g0.out.below hw)
  have ⟨cx_aS, zx_aS⟩ := HX_aS.out
  have ⟨cx_w0, zx_w0⟩ := HX_w0.out
  have ⟨cx_g0, zx_g0⟩ := HX_g0.out
  replace HA0 := Lib.hid (HA0.out.below hw)
  replace HA2 := Lib.hid (HA2.out.below hw)
  replace H_w0 := Lib.hid (H_w0.out.below hw)
  replace H_x2 := Lib.hid (H_x2.out.below hw)
  replace H_g0 := Lib.hid (H_g0.out.below hw)
  replace HB := Lib.hid (below_call HB.out HB.out.size hw)
  clear hw
  clear hb
  go_wp2_with fail
  refine (toSubscription _ a0 _ (HA0.out.reads.below (by repeat (first | with_reducible exact belR | with_reducible apply belA | (with_reducible refine belS ?_ ?_; focus (first | omega | (simp; done) | (simp; omega))) | with_reducible apply belN | with_reducible apply belD | with_reducible assumption))) (by first | omega | (simp [DSubscription.wt]))).mono ?_
  rintro e w15 ⟨d_h0_aS, rfl, hf, hb⟩
  obtain ⟨_, y_h0_aS, _⟩ := id hf
  obtain ⟨rfl, _, _⟩ := DSubscription.rd.1 y_h0_aS
  clear y_h0_aS
  have H__h0_aS := Lib.hid (Fresh.reads' hf)
  have hw : Below w14.heap.size w14 w15 := below_call (by repeat (first | with_reducible exact belR | with_reducible apply belA | (with_reducible refine belS ?_ ?_; focus (first | omega | (simp; done) | (simp; omega))) | with_reducible apply belN | with_reducible apply belD | with_reducible assumption)) (by first | omega | (simp; done) | (simp; omega)) hb
  have hsw15 : w14.heap.size ≤ w15.heap.size := by have y := hb.size; (try simp at y); omega
  clear cx_aS zx_aS
  replace HX_aS := Lib.hid (HX_aS.out.below hw)
  clear cx_w0 zx_w0
  replace HX_w0 := Lib.hid (HX_w0.out.below hw)
  clear cx_g0 zx_g0
  replace HX_g0 := Lib.hid (HX_g0.out.below hw)
  have ⟨cx_aS, zx_aS⟩ := HX_aS.out
  have ⟨cx_w0, zx_w0⟩ := HX_w0.out
  have ⟨cx_g0, zx_g0⟩ := HX_g0.out
  replace HA0 := Lib.hid (HA0.out.below hw)
  replace HA2 := Lib.hid (HA2.out.below hw)
  replace H_w0 := Lib.hid (H_w0.out.below hw)
  replace H_x2 := Lib.hid (H_x2.out.below hw)
  replace H_g0 := Lib.hid (H_g0.out.below hw)
  replace HB := Lib.hid (below_call HB.out HB.out.size hw)
  clear hw
  clear hb hf
  go_wp2_with fail
  refine (toByteS _ a2 _ (HA2.out.reads.below (by repeat (first | with_reducible exact belR | with_reducible apply belA | (with_reducible refine belS ?_ ?_; focus (first | omega | (simp; done) | (simp; omega))) | with_reducible apply belN | with_reducible apply belD | with_reducible assumption))) (by first | omega | exact hv_aData)).mono ?_
  rintro e w16 ⟨d_h0_aData, rfl, hf, hb⟩
  obtain ⟨ao_h0_aData, cap_h0_aData, rfl⟩ := Fresh.slice hf
  obtain ⟨fp__h0_aData, o__h0_aData⟩ := Fresh.own hf (lo := w15.heap.size) (by first | omega | (simp; done) | (simp; omega))
  have H__h0_aData := Lib.hid o__h0_aData; clear o__h0_aData
  have hw : Below w15.heap.size w15 w16 := below_call (by repeat (first | with_reducible exact belR | with_reducible apply belA | (with_reducible refine belS ?_ ?_; focus (first | omega | (simp; done) | (simp; omega))) | with_reducible apply belN | with_reducible apply belD | with_reducible assumption)) (by first | omega | (simp; done) | (simp; omega)) hb
  have hsw16 : w15.heap.size ≤ w16.heap.size := by have y := hb.size; (try simp at y); omega
  clear cx_aS zx_aS
  replace HX_aS := Lib.hid (HX_aS.out.below hw)
  clear cx_w0 zx_w0
  replace HX_w0 := Lib.hid (HX_w0.out.below hw)
  clear cx_g0 zx_g0
  replace HX_g0 := Lib.hid (HX_g0.out.below hw)
  have ⟨cx_aS, zx_aS⟩ := HX_aS.out
  have ⟨cx_w0, zx_w0⟩ := HX_w0.out
  have ⟨cx_g0, zx_g0⟩ := HX_g0.out
  replace HA0 := Lib.hid (HA0.out.below hw)
  replace HA2 := Lib.hid (HA2.out.below hw)
  replace H_w0 := Lib.hid (H_w0.out.below hw)
  replace H_x2 := Lib.hid (H_x2.out.below hw)
  replace H_g0 := Lib.hid (H_g0.out.below hw)
  replace H__h0_aS := Lib.hid (H__h0_aS.out.below hw)
  replace HB := Lib.hid (below_call HB.out HB.out.size hw)
  clear hw
  clear hb hf
  go_wp2_with fail
  refine (hI _ a0 a1 _ a2 _ (H__h0_aS.out.reads.below (by repeat (first | with_reducible exact belR | with_reducible apply belA | (with_reducible refine belS ?_ ?_; focus (first | omega | (simp; done) | (simp; omega))) | with_reducible apply belN | with_reducible apply belD | with_reducible assumption))) (H__h0_aData.out.reads.below (by repeat (first | with_reducible exact belR | with_reducible apply belA | (with_reducible refine belS ?_ ?_; focus (first | omega | (simp; done) | (simp; omega))) | with_reducible apply belN | with_reducible apply belD | with_reducible assumption))) (by first | omega | exact hv_aS) (by first | omega | exact hv_aData)).mono ?_
  rintro e w17 ⟨d_h_0, rfl, hf0, hb⟩
  obtain ⟨ao_h0_0, cap_h0_0, rfl⟩ := DPush.fshape hf0
  obtain ⟨fp_h0, o_h0⟩ := Fresh.own hf0 (lo := w16.heap.size) (by first | omega | (simp; done) | (simp; omega))
  have H_h0 := Lib.hid o_h0; clear o_h0
  have hw : Below w16.heap.size w16 w17 := below_call (by repeat (first | with_reducible exact belR | with_reducible apply belA | (with_reducible refine belS ?_ ?_; focus (first | omega | (simp; done) | (simp; omega))) | with_reducible apply belN | with_reducible apply belD | with_reducible assumption)) (by first | omega | (simp; done) | (simp; omega)) hb
  have hsw17 : w16.heap.size ≤ w17.heap.size := by have y := hb.size; (try simp at y); omega
  clear cx_aS zx_aS
  replace HX_aS := Lib.hid (HX_aS.out.below hw)
  clear cx_w0 zx_w0
  replace HX_w0 := Lib.hid (HX_w0.out.below hw)
  clear cx_g0 zx_g0
  replace HX_g0 := Lib.hid (HX_g0.out.below hw)
  have ⟨cx_aS, zx_aS⟩ := HX_aS.out
  have ⟨cx_w0, zx_w0⟩ := HX_w0.out
  have ⟨cx_g0, zx_g0⟩ := HX_g0.out
  replace HA0 := Lib.hid (HA0.out.below hw)
  replace HA2 := Lib.hid (HA2.out.below hw)
  replace H_w0 := Lib.hid (H_w0.out.below hw)
  replace H_x2 := Lib.hid (H_x2.out.below hw)
  replace H_g0 := Lib.hid (H_g0.out.below hw)
  replace H__h0_aS := Lib.hid (H__h0_aS.out.below hw)
  replace H__h0_aData := Lib.hid (H__h0_aData.out.below hw)
  replace HB := Lib.hid (below_call HB.out HB.out.size hw)
  clear hw
  clear hb
  clear H__h0_aS
  clear H__h0_aData
  go_wp2_with fail
  refine (eqPush _ _ (f0 a0 a1 a2) _ (H_h0.out.reads.below (by repeat (first | with_reducible exact belR | with_reducible apply belA | (with_reducible refine belS ?_ ?_; focus (first | omega | (simp; done) | (simp; omega))) | with_reducible apply belN | with_reducible apply belD | with_reducible assumption))) (H_w0.out.reads.below (by repeat (first | with_reducible exact belR | with_reducible apply belA | (with_reducible refine belS ?_ ?_; focus (first | omega | (simp; done) | (simp; omega))) | with_reducible apply belN | with_reducible apply belD | with_reducible assumption)))).mono ?_
  rintro e w18 ⟨rfl, hb⟩
  have hw : Below w17.heap.size w17 w18 := below_call (by repeat (first | with_reducible exact belR | with_reducible apply belA | (with_reducible refine belS ?_ ?_; focus (first | omega | (simp; done) | (simp; omega))) | with_reducible apply belN | with_reducible apply belD | with_reducible assumption)) (by first | omega | (simp; done) | (simp; omega)) hb
  have hsw18 : w17.heap.size + 1 ≤ w18.heap.size := by have y := hb.size; (try simp at y); omega
  clear cx_aS zx_aS
  replace HX_aS := Lib.hid (HX_aS.out.below hw)
  clear cx_w0 zx_w0
  replace HX_w0 := Lib.hid (HX_w0.out.below hw)
  clear cx_g0 zx_g0
  replace HX_g0 := Lib.hid (HX_g0.out.below hw)
  have HX_h0 : Hid (Box w18 (w17.heap.size) #[.string ((f0 a0 a1 a2)).site, .int .i64 ((f0 a0 a1 a2)).number, .slice ao_h0_0 ((f0 a0 a1 a2)).data.length cap_h0_0, .int .i64 ((f0 a0 a1 a2)).mac]) := Lib.hid (Box.below (Box.at (by first | rfl | simp)) hb)
  have ⟨cx_aS, zx_aS⟩ := HX_aS.out
  have ⟨cx_w0, zx_w0⟩ := HX_w0.out
  have ⟨cx_g0, zx_g0⟩ := HX_g0.out
  have ⟨cx_h0, zx_h0⟩ := HX_h0.out
  replace HA0 := Lib.hid (HA0.out.below hw)
  replace HA2 := Lib.hid (HA2.out.below hw)
  replace H_w0 := Lib.hid (H_w0.out.below hw)
  replace H_x2 := Lib.hid (H_x2.out.below hw)
  replace H_g0 := Lib.hid (H_g0.out.below hw)
  replace H_h0 := Lib.hid (H_h0.out.below hw)
  replace HB := Lib.hid (below_call HB.out HB.out.size hw)
  clear hw
  clear hb
  go_wp2_with fail
  refine (heldPush _ (f0 a0 a1 a2) (1) _ (H_g0.out.reads.below (by repeat (first | with_reducible exact belR | with_reducible apply belA | (with_reducible refine belS ?_ ?_; focus (first | omega | (simp; done) | (simp; omega))) | with_reducible apply belN | with_reducible apply belD | with_reducible assumption))) (by omega)).mono ?_
  rintro e w19 ⟨rfl, hb⟩
  have hw : Below w18.heap.size w18 w19 := below_call (by repeat (first | with_reducible exact belR | with_reducible apply belA | (with_reducible refine belS ?_ ?_; focus (first | omega | (simp; done) | (simp; omega))) | with_reducible apply belN | with_reducible apply belD | with_reducible assumption)) (by first | omega | (simp; done) | (simp; omega)) hb
  have hsw19 : w18.heap.size ≤ w19.heap.size := by have y := hb.size; (try simp at y); omega
  clear cx_aS zx_aS
  replace HX_aS := Lib.hid (HX_aS.out.below hw)
  clear cx_w0 zx_w0
  replace HX_w0 := Lib.hid (HX_w0.out.below hw)
  clear cx_g0 zx_g0
  replace HX_g0 := Lib.hid (HX_g0.out.below hw)
  clear cx_h0 zx_h0
  replace HX_h0 := Lib.hid (HX_h0.out.below hw)
  have ⟨cx_aS, zx_aS⟩ := HX_aS.out
  have ⟨cx_w0, zx_w0⟩ := HX_w0.out
  have ⟨cx_g0, zx_g0⟩ := HX_g0.out
  have ⟨cx_h0, zx_h0⟩ := HX_h0.out
  replace HA0 := Lib.hid (HA0.out.below hw)
  replace HA2 := Lib.hid (HA2.out.below hw)
  replace H_w0 := Lib.hid (H_w0.out.below hw)
  replace H_x2 := Lib.hid (H_x2.out.below hw)
  replace H_g0 := Lib.hid (H_g0.out.below hw)
  replace H_h0 := Lib.hid (H_h0.out.below hw)
  replace HB := Lib.hid (below_call HB.out HB.out.size hw)
  clear hw
  clear hb
  go_wp2_with fail
  go_ret
  have y := HB.out
  exact ⟨rfl, (by repeat (first | with_reducible exact belR | with_reducible apply belA | (with_reducible refine belS ?_ ?_; focus (first | omega | (simp; done) | (simp; omega))) | with_reducible apply belN | with_reducible apply belD | with_reducible assumption))⟩

set_option maxRecDepth 100000 in
set_option maxHeartbeats 1000000 in
theorem sealPush_lifted (f0 : DSubscription → Int → (List UInt8) → DPush) (f1 : DSubscription → Int → (List UInt8) → Bool) (hS : SaidSealPush f0 f1 21) (hI : SaidSealPush f0 f1 24) (hm_g0 : ∀ (a0 : DSubscription) (a1 : Int) (a2 : List UInt8), (a0).wt ≤ 1048576 → wtS wt0 a2 ≤ 1048576 → ((f0 a0 a1 a2)).mcnt ≤ 400000000) (hm_x2 : ∀ (a2 : List UInt8), wtS wt0 a2 ≤ 1048576 → wtT cnt1 a2 (a2).length ≤ 400000000) (os : Os) (started : os.Started) (H : Type) (enc : TypeId × Value → H) :
    ReturnsInHanded {} Try.checked os 4 .any (Rows.fnExactSealPushSpec.pre6 enc Try.prog Try.f4 Rows.fnExactSealPushRow.domain false) (Rows.fnExactSealPushSpec.post enc Try.prog Try.f4 false true false false) := by
  refine law_lift (C := Try.checked) Try.own started (by kernel_rfl) Try.func4 Try.laidOut (by kernel_rfl) rfl Try.underlying4 rfl ?_
    (ChangeSpec.witness6 (enc := enc) (C := Try.checked) false ⟨#[], #[.agg #[.string ByteArray.empty, .int .i64 0, .int .i64 0], .int .i64 0, .slice none 0 0], []⟩ 8 (by kernel_rfl) (by kernel_rfl) (by kernel_rfl) (by kernel_rfl)) ?_
  · intro ds h
    match ds, h with
    | [_, _, _], _ => rfl
  · intro W base args ds ps hval hA0
    have hA : DataW.TrodAll enc Try.prog W 0 (fun _ => true) true Try.f4.params.toList args.toList ds ps := hA0
    rw [Try.params4] at hA hval
    obtain ⟨v0, v1, v2, _, _, _, _, _, _, rfl, t0, t1, t2⟩ := trodAll_open3 hA
    obtain ⟨c0, a0, rfl, r0⟩ := arg_struct Try.underlying34 DSubscription.opens_laws (hval 0 34 v0 rfl rfl) t0
    obtain ⟨a1, rfl⟩ := arg_int Try.underlying3 (hval 1 3 v1 rfl rfl) t1
    obtain ⟨a2, r2⟩ := arg_slice (R := Rep.byte) (E := 5) Try.underlying35 (opens_slice Try.underlying35 (by kernel_rfl) (by decide) (opens_byte Try.underlying5)) (hval 2 35 v2 rfl rfl) t2
    exact lawSealPush f0 f1 hS hI hm_g0 hm_x2 c0.toList a0 a1 v2 a2 W r0 r2

theorem sealPush_of (f0 : DSubscription → Int → (List UInt8) → DPush) (f1 : DSubscription → Int → (List UInt8) → Bool) (hS : SaidSealPush f0 f1 21) (hI : SaidSealPush f0 f1 24) (hm_g0 : ∀ (a0 : DSubscription) (a1 : Int) (a2 : List UInt8), (a0).wt ≤ 1048576 → wtS wt0 a2 ≤ 1048576 → ((f0 a0 a1 a2)).mcnt ≤ 400000000) (hm_x2 : ∀ (a2 : List UInt8), wtS wt0 a2 ≤ 1048576 → wtT cnt1 a2 (a2).length ≤ 400000000) : Rows.FnExactSealPushSaid :=
  OpenClaim.holds_of_wide 4 Try.f4 rfl rfl rfl rfl rfl rfl rfl ⟨rfl, rfl, rfl, rfl, rfl⟩ rfl rfl rfl rfl rfl (by kernel_rfl) Try.func4 (by kernel_rfl)
    (of_decide_eq_true (by kernel_rfl)) (by unfold Func.isWrapper; rw [if_neg (by decide +kernel)]; exact ⟨rfl, rfl⟩)
    (fun os started H enc _ => sealPush_lifted f0 f1 hS hI hm_g0 hm_x2 os started H enc)

end Go.Proofs.Ytglgjcdnfmlijaa
