/-
  FnExactUsedVersions: the law's walk, and its row, off the contracts of impl.UsedVersions and spec.UsedVersions.
-/
import Derived.Test.YtamdjeajmfjfmaaLPage
import Derived.Test.YtamdjeajmfjfmaaBase
namespace Go.Proofs.Ytamdjeajmfjfmaa
open Go.RowKit Go.ChangeShapes

/-- What impl.UsedVersions and spec.UsedVersions are both shown to compute. -/
def SaidUsedVersions (f0 : (List DPage) → ByteArray → List Int) (f : FuncId) : Prop :=
  ∀ (c0 : Value) (a0 : List DPage) (a1 : ByteArray) (w : World) (_h0 : Reads (Rep.slice 55 DPage.rep) w [c0] a0)(_s0 : wtS DPage.wt a0 ≤ 1048576) (_s1 : a1.size ≤ 1048576), Calls Try.prog f #[c0, .string a1] w fun e w' => ∃ (d0 : Value), e = .returned (d0) ∧ Fresh (Rep.slice 3 Rep.int) w.heap.size w' [d0] (f0 a0 a1) ∧ Below w.heap.size w w'

set_option maxRecDepth 100000 in
set_option maxHeartbeats 16000000 in
theorem lawUsedVersions (f0 : (List DPage) → ByteArray → List Int) (hS : SaidUsedVersions f0 17) (hI : SaidUsedVersions f0 19) (hm_g0 : ∀ (a0 : List DPage) (a1 : ByteArray), wtS DPage.wt a0 ≤ 1048576 → a1.size ≤ 1048576 → wtT cnt1 (f0 a0 a1) ((f0 a0 a1)).length ≤ 400000000) (hm_x0 : ∀ (a0 : List DPage), wtS DPage.wt a0 ≤ 1048576 → wtT DPage.cnt a0 (a0).length ≤ 400000000) (c0 : Value) (a0 : List DPage) (a1 : ByteArray) (w : World) (h0 : Reads (Rep.slice 55 DPage.rep) w [c0] a0) (hz1 : a1.size ≤ maxLen) :
    Calls Try.prog 4 #[c0, .string a1] w fun e w' => e = .returned (.bool true) ∧ Below w.heap.size w w' := by
  have HA0 := Lib.hid (Low.start h0)
  obtain ⟨fp, hr⟩ := h0
  obtain ⟨ao0, cap0, rfl, hl0, _, _⟩ := slice_open hr
  clear hr
  unfold maxLen at hz1
  have HB : Hid (Below w.heap.size w w) := Lib.hid belR
  by_cases hg_aSite : ¬ a1.size ≤ 1048576
  · go_enter Try.func4, Try.ntmps4
    go_wp2
    all_goals first | (go_ret; exact ⟨rfl, (by repeat (first | with_reducible exact belR | with_reducible apply belA | (with_reducible refine belS ?_ ?_; focus (first | omega | (simp; done) | (simp; omega))) | with_reducible apply belN | with_reducible apply belD | with_reducible assumption))⟩) | (exfalso; omega)
  rw [Decidable.not_not] at hg_aSite
  go_enter Try.func4, Try.ntmps4
  go_wp2_with fail
  refine (szPageS _ a0 (1048576) _ (HA0.out.reads.below (by repeat (first | with_reducible exact belR | with_reducible apply belA | (with_reducible refine belS ?_ ?_; focus (first | omega | (simp; done) | (simp; omega))) | with_reducible apply belN | with_reducible apply belD | with_reducible assumption))) (by omega) (by omega)).mono ?_
  rintro e w1 ⟨rfl, hb⟩
  have hw : Below w.heap.size w w1 := below_call (by repeat (first | with_reducible exact belR | with_reducible apply belA | (with_reducible refine belS ?_ ?_; focus (first | omega | (simp; done) | (simp; omega))) | with_reducible apply belN | with_reducible apply belD | with_reducible assumption)) (by first | omega | (simp; done) | (simp; omega)) hb
  have hsw1 : w.heap.size ≤ w1.heap.size := by have y := hb.size; (try simp at y); omega
  replace HA0 := Lib.hid (HA0.out.below hw)
  replace HB := Lib.hid (below_call HB.out HB.out.size hw)
  clear hw
  clear hb
  have hz := szOf_spec (wtS DPage.wt a0) (1048576)
  by_cases hv_aL : ¬ ((wtS DPage.wt a0 : Nat) : Int) ≤ 1048576
  · rw [hz.2 hv_aL]; clear hz
    go_wp2
    all_goals go_ret
    have y := HB.out
    exact ⟨rfl, (by repeat (first | with_reducible exact belR | with_reducible apply belA | (with_reducible refine belS ?_ ?_; focus (first | omega | (simp; done) | (simp; omega))) | with_reducible apply belN | with_reducible apply belD | with_reducible assumption))⟩
  rw [Decidable.not_not] at hv_aL
  rw [hz.1 hv_aL]; clear hz
  go_wp2_with fail
  refine (toPageS _ a0 _ (HA0.out.reads.below (by repeat (first | with_reducible exact belR | with_reducible apply belA | (with_reducible refine belS ?_ ?_; focus (first | omega | (simp; done) | (simp; omega))) | with_reducible apply belN | with_reducible apply belD | with_reducible assumption))) (by first | omega | exact hv_aL)).mono ?_
  rintro e w2 ⟨d_w0_aL, rfl, hf, hb⟩
  obtain ⟨ao_w0_aL, cap_w0_aL, rfl⟩ := Fresh.slice hf
  obtain ⟨fp__w0_aL, o__w0_aL⟩ := Fresh.own hf (lo := w1.heap.size) (by first | omega | (simp; done) | (simp; omega))
  have H__w0_aL := Lib.hid o__w0_aL; clear o__w0_aL
  have hw : Below w1.heap.size w1 w2 := below_call (by repeat (first | with_reducible exact belR | with_reducible apply belA | (with_reducible refine belS ?_ ?_; focus (first | omega | (simp; done) | (simp; omega))) | with_reducible apply belN | with_reducible apply belD | with_reducible assumption)) (by first | omega | (simp; done) | (simp; omega)) hb
  have hsw2 : w1.heap.size ≤ w2.heap.size := by have y := hb.size; (try simp at y); omega
  replace HA0 := Lib.hid (HA0.out.below hw)
  replace HB := Lib.hid (below_call HB.out HB.out.size hw)
  clear hw
  clear hb hf
  go_wp2_with fail
  refine (hS _ a0 a1 _ (H__w0_aL.out.reads.below (by repeat (first | with_reducible exact belR | with_reducible apply belA | (with_reducible refine belS ?_ ?_; focus (first | omega | (simp; done) | (simp; omega))) | with_reducible apply belN | with_reducible apply belD | with_reducible assumption))) (by first | omega | exact hv_aL) (by first | omega | exact hg_aSite)).mono ?_
  rintro e w3 ⟨d_w_0, rfl, hf0, hb⟩
  obtain ⟨ao_w0, cap_w0, rfl⟩ := Fresh.slice hf0
  obtain ⟨fp_w0, o_w0⟩ := Fresh.own hf0 (lo := w2.heap.size) (by first | omega | (simp; done) | (simp; omega))
  have H_w0 := Lib.hid o_w0; clear o_w0
  have hw : Below w2.heap.size w2 w3 := below_call (by repeat (first | with_reducible exact belR | with_reducible apply belA | (with_reducible refine belS ?_ ?_; focus (first | omega | (simp; done) | (simp; omega))) | with_reducible apply belN | with_reducible apply belD | with_reducible assumption)) (by first | omega | (simp; done) | (simp; omega)) hb
  have hsw3 : w2.heap.size ≤ w3.heap.size := by have y := hb.size; (try simp at y); omega
  replace HA0 := Lib.hid (HA0.out.below hw)
  replace H__w0_aL := Lib.hid (H__w0_aL.out.below hw)
  replace HB := Lib.hid (below_call HB.out HB.out.size hw)
  clear hw
  clear hb
  clear H__w0_aL
  go_wp2_with fail
  refine (toPageS _ a0 _ (HA0.out.reads.below (by repeat (first | with_reducible exact belR | with_reducible apply belA | (with_reducible refine belS ?_ ?_; focus (first | omega | (simp; done) | (simp; omega))) | with_reducible apply belN | with_reducible apply belD | with_reducible assumption))) (by first | omega | exact hv_aL)).mono ?_
  rintro e w4 ⟨d_x0, rfl, hf, hb⟩
  obtain ⟨ao_x0, cap_x0, rfl⟩ := Fresh.slice hf
  obtain ⟨fp_x0, o_x0⟩ := Fresh.own hf (lo := w3.heap.size) (by first | omega | (simp; done) | (simp; omega))
  have H_x0 := Lib.hid o_x0; clear o_x0
  have hw : Below w3.heap.size w3 w4 := below_call (by repeat (first | with_reducible exact belR | with_reducible apply belA | (with_reducible refine belS ?_ ?_; focus (first | omega | (simp; done) | (simp; omega))) | with_reducible apply belN | with_reducible apply belD | with_reducible assumption)) (by first | omega | (simp; done) | (simp; omega)) hb
  have hsw4 : w3.heap.size ≤ w4.heap.size := by have y := hb.size; (try simp at y); omega
  replace HA0 := Lib.hid (HA0.out.below hw)
  replace H_w0 := Lib.hid (H_w0.out.below hw)
  replace HB := Lib.hid (below_call HB.out HB.out.size hw)
  clear hw
  clear hb hf
  go_wp2_with fail
  refine (hI _ a0 a1 _ (H_x0.out.reads.below (by repeat (first | with_reducible exact belR | with_reducible apply belA | (with_reducible refine belS ?_ ?_; focus (first | omega | (simp; done) | (simp; omega))) | with_reducible apply belN | with_reducible apply belD | with_reducible assumption))) (by first | omega | exact hv_aL) (by first | omega | exact hg_aSite)).mono ?_
  rintro e w5 ⟨d_g_0, rfl, hf0, hb⟩
  obtain ⟨ao_g0, cap_g0, rfl⟩ := Fresh.slice hf0
  obtain ⟨fp_g0, o_g0⟩ := Fresh.own hf0 (lo := w4.heap.size) (by first | omega | (simp; done) | (simp; omega))
  have H_g0 := Lib.hid o_g0; clear o_g0
  have hw : Below w4.heap.size w4 w5 := below_call (by repeat (first | with_reducible exact belR | with_reducible apply belA | (with_reducible refine belS ?_ ?_; focus (first | omega | (simp; done) | (simp; omega))) | with_reducible apply belN | with_reducible apply belD | with_reducible assumption)) (by first | omega | (simp; done) | (simp; omega)) hb
  have hsw5 : w4.heap.size ≤ w5.heap.size := by have y := hb.size; (try simp at y); omega
  replace HA0 := Lib.hid (HA0.out.below hw)
  replace H_w0 := Lib.hid (H_w0.out.below hw)
  replace H_x0 := Lib.hid (H_x0.out.below hw)
  replace HB := Lib.hid (below_call HB.out HB.out.size hw)
  clear hw
  clear hb
  go_wp2_with fail
  refine (eqIntS _ _ (f0 a0 a1) _ (H_g0.out.reads.below (by repeat (first | with_reducible exact belR | with_reducible apply belA | (with_reducible refine belS ?_ ?_; focus (first | omega | (simp; done) | (simp; omega))) | with_reducible apply belN | with_reducible apply belD | with_reducible assumption))) (H_w0.out.reads.below (by repeat (first | with_reducible exact belR | with_reducible apply belA | (with_reducible refine belS ?_ ?_; focus (first | omega | (simp; done) | (simp; omega))) | with_reducible apply belN | with_reducible apply belD | with_reducible assumption)))).mono ?_
  rintro e w6 ⟨rfl, hb⟩
  have hw : Below w5.heap.size w5 w6 := below_call (by repeat (first | with_reducible exact belR | with_reducible apply belA | (with_reducible refine belS ?_ ?_; focus (first | omega | (simp; done) | (simp; omega))) | with_reducible apply belN | with_reducible apply belD | with_reducible assumption)) (by first | omega | (simp; done) | (simp; omega)) hb
  have hsw6 : w5.heap.size ≤ w6.heap.size := by have y := hb.size; (try simp at y); omega
  replace HA0 := Lib.hid (HA0.out.below hw)
  replace H_w0 := Lib.hid (H_w0.out.below hw)
  replace H_x0 := Lib.hid (H_x0.out.below hw)
  replace H_g0 := Lib.hid (H_g0.out.below hw)
  replace HB := Lib.hid (below_call HB.out HB.out.size hw)
  clear hw
  clear hb
  go_wp2_with fail
  refine (toPageS _ a0 _ (HA0.out.reads.below (by repeat (first | with_reducible exact belR | with_reducible apply belA | (with_reducible refine belS ?_ ?_; focus (first | omega | (simp; done) | (simp; omega))) | with_reducible apply belN | with_reducible apply belD | with_reducible assumption))) (by first | omega | exact hv_aL)).mono ?_
  rintro e w7 ⟨d_x0_14, rfl, hf, hb⟩
  obtain ⟨ao_x0_14, cap_x0_14, rfl⟩ := Fresh.slice hf
  obtain ⟨fp__x0_14, o__x0_14⟩ := Fresh.own hf (lo := w6.heap.size) (by first | omega | (simp; done) | (simp; omega))
  have H__x0_14 := Lib.hid o__x0_14; clear o__x0_14
  have hw : Below w6.heap.size w6 w7 := below_call (by repeat (first | with_reducible exact belR | with_reducible apply belA | (with_reducible refine belS ?_ ?_; focus (first | omega | (simp; done) | (simp; omega))) | with_reducible apply belN | with_reducible apply belD | with_reducible assumption)) (by first | omega | (simp; done) | (simp; omega)) hb
  have hsw7 : w6.heap.size ≤ w7.heap.size := by have y := hb.size; (try simp at y); omega
  replace HA0 := Lib.hid (HA0.out.below hw)
  replace H_w0 := Lib.hid (H_w0.out.below hw)
  replace H_x0 := Lib.hid (H_x0.out.below hw)
  replace H_g0 := Lib.hid (H_g0.out.below hw)
  replace HB := Lib.hid (below_call HB.out HB.out.size hw)
  clear hw
  clear hb hf
  go_wp2_with fail
  refine (eqPageS _ _ a0 _ (H_x0.out.reads.below (by repeat (first | with_reducible exact belR | with_reducible apply belA | (with_reducible refine belS ?_ ?_; focus (first | omega | (simp; done) | (simp; omega))) | with_reducible apply belN | with_reducible apply belD | with_reducible assumption))) (H__x0_14.out.reads.below (by repeat (first | with_reducible exact belR | with_reducible apply belA | (with_reducible refine belS ?_ ?_; focus (first | omega | (simp; done) | (simp; omega))) | with_reducible apply belN | with_reducible apply belD | with_reducible assumption)))).mono ?_
  rintro e w8 ⟨rfl, hb⟩
  have hw : Below w7.heap.size w7 w8 := below_call (by repeat (first | with_reducible exact belR | with_reducible apply belA | (with_reducible refine belS ?_ ?_; focus (first | omega | (simp; done) | (simp; omega))) | with_reducible apply belN | with_reducible apply belD | with_reducible assumption)) (by first | omega | (simp; done) | (simp; omega)) hb
  have hsw8 : w7.heap.size ≤ w8.heap.size := by have y := hb.size; (try simp at y); omega
  replace HA0 := Lib.hid (HA0.out.below hw)
  replace H_w0 := Lib.hid (H_w0.out.below hw)
  replace H_x0 := Lib.hid (H_x0.out.below hw)
  replace H_g0 := Lib.hid (H_g0.out.below hw)
  replace H__x0_14 := Lib.hid (H__x0_14.out.below hw)
  replace HB := Lib.hid (below_call HB.out HB.out.size hw)
  clear hw
  clear hb
  clear H__x0_14
  go_wp2_with fail
  have hk_x0 := (hm_x0 a0 (by first | omega | exact hv_aL))
  refine (markPageS _ a0 fp_x0 (1) _ H_x0.out.rd H_x0.out.nodup (by omega)).mono ?_
  rintro e w9 ⟨rfl, hrd, hc⟩
  have hnew := Own.mk hrd H_x0.out.nodup (H_x0.out.ivl)
  have hq := H_x0.out.ivl
  have hsw9 : w8.heap.size ≤ w9.heap.size := hc.size
  replace HA0 := Lib.hid (HA0.out.chg hc hq (by omega))
  replace H_w0 := Lib.hid (H_w0.out.chg hc (Own.apart H_w0.out H_x0.out (by omega)))
  replace H_g0 := Lib.hid (H_g0.out.chg hc (Own.apart H_g0.out H_x0.out (by omega)))
  replace HB := Lib.hid (Below.chg HB.out hc hq (by omega) HB.out.size)
  clear hq
  replace H_x0 := Lib.hid hnew; clear hnew hrd hc
  go_wp2_with fail
  refine (eqIntS _ _ (f0 a0 a1) _ (H_g0.out.reads.below (by repeat (first | with_reducible exact belR | with_reducible apply belA | (with_reducible refine belS ?_ ?_; focus (first | omega | (simp; done) | (simp; omega))) | with_reducible apply belN | with_reducible apply belD | with_reducible assumption))) (H_w0.out.reads.below (by repeat (first | with_reducible exact belR | with_reducible apply belA | (with_reducible refine belS ?_ ?_; focus (first | omega | (simp; done) | (simp; omega))) | with_reducible apply belN | with_reducible apply belD | with_reducible assumption)))).mono ?_
  rintro e w10 ⟨rfl, hb⟩
  have hw : Below w9.heap.size w9 w10 := below_call (by repeat (first | with_reducible exact belR | with_reducible apply belA | (with_reducible refine belS ?_ ?_; focus (first | omega | (simp; done) | (simp; omega))) | with_reducible apply belN | with_reducible apply belD | with_reducible assumption)) (by first | omega | (simp; done) | (simp; omega)) hb
  have hsw10 : w9.heap.size ≤ w10.heap.size := by have y := hb.size; (try simp at y); omega
  replace HA0 := Lib.hid (HA0.out.below hw)
  replace H_w0 := Lib.hid (H_w0.out.below hw)
  replace H_x0 := Lib.hid (H_x0.out.below hw)
  replace H_g0 := Lib.hid (H_g0.out.below hw)
  replace HB := Lib.hid (below_call HB.out HB.out.size hw)
  clear hw
  clear hb
  go_wp2_with fail
  have hk_g0 := (hm_g0 a0 a1 (by first | omega | exact hv_aL) (by first | omega | exact hg_aSite))
  refine (markIntS _ (f0 a0 a1) fp_g0 (1) _ H_g0.out.rd H_g0.out.nodup (by omega)).mono ?_
  rintro e w11 ⟨rfl, hrd, hc⟩
  have hnew := Own.mk hrd H_g0.out.nodup (H_g0.out.ivl)
  have hq := H_g0.out.ivl
  have hsw11 : w10.heap.size ≤ w11.heap.size := hc.size
  replace HA0 := Lib.hid (HA0.out.chg hc hq (by omega))
  replace H_w0 := Lib.hid (H_w0.out.chg hc (Own.apart H_w0.out H_g0.out (by omega)))
  replace H_x0 := Lib.hid (H_x0.out.chg hc (Own.apart H_x0.out H_g0.out (by omega)))
  replace HB := Lib.hid (Below.chg HB.out hc hq (by omega) HB.out.size)
  clear hq
  replace H_g0 := Lib.hid hnew; clear hnew hrd hc
  go_wp2_with fail
  refine (heldIntS _ (f0 a0 a1) (1) _ (H_g0.out.reads.below (by repeat (first | with_reducible exact belR | with_reducible apply belA | (with_reducible refine belS ?_ ?_; focus (first | omega | (simp; done) | (simp; omega))) | with_reducible apply belN | with_reducible apply belD | with_reducible assumption))) (by omega)).mono ?_
  rintro e w12 ⟨rfl, hb⟩
  have hw : Below w11.heap.size w11 w12 := below_call (by repeat (first | with_reducible exact belR | with_reducible apply belA | (with_reducible refine belS ?_ ?_; focus (first | omega | (simp; done) | (simp; omega))) | with_reducible apply belN | with_reducible apply belD | with_reducible assumption)) (by first | omega | (simp; done) | (simp; omega)) hb
  have hsw12 : w11.heap.size ≤ w12.heap.size := by have y := hb.size; (try simp at y); omega
  replace HA0 := Lib.hid (HA0.out.below hw)
  replace H_w0 := Lib.hid (H_w0.out.below hw)
  replace H_x0 := Lib.hid (H_x0.out.below hw)
  replace H_g0 := Lib.hid (H_g0.out.below hw)
  replace HB := Lib.hid (below_call HB.out HB.out.size hw)
  clear hw
  clear hb
  go_wp2_with fail
  refine (toPageS _ a0 _ (HA0.out.reads.below (by repeat (first | with_reducible exact belR | with_reducible apply belA | (with_reducible refine belS ?_ ?_; focus (first | omega | (simp; done) | (simp; omega))) | with_reducible apply belN | with_reducible apply belD | with_reducible assumption))) (by first | omega | exact hv_aL)).mono ?_
  rintro e w13 ⟨d_h0_aL, rfl, hf, hb⟩
  obtain ⟨ao_h0_aL, cap_h0_aL, rfl⟩ := Fresh.slice hf
  obtain ⟨fp__h0_aL, o__h0_aL⟩ := Fresh.own hf (lo := w12.heap.size) (by first | omega | (simp; done) | (simp; omega))
  have H__h0_aL := Lib.hid o__h0_aL; clear o__h0_aL
  have hw : Below w12.heap.size w12 w13 := below_call (by repeat (first | with_reducible exact belR | with_reducible apply belA | (with_reducible refine belS ?_ ?_; focus (first | omega | (simp; done) | (simp; omega))) | with_reducible apply belN | with_reducible apply belD | with_reducible assumption)) (by first | omega | (simp; done) | (simp; omega)) hb
  have hsw13 : w12.heap.size ≤ w13.heap.size := by have y := hb.size; (try simp at y); omega
  replace HA0 := Lib.hid (HA0.out.below hw)
  replace H_w0 := Lib.hid (H_w0.out.below hw)
  replace H_x0 := Lib.hid (H_x0.out.below hw)
  replace H_g0 := Lib.hid (H_g0.out.below hw)
  replace HB := Lib.hid (below_call HB.out HB.out.size hw)
  clear hw
  clear hb hf
  go_wp2_with fail
  refine (hI _ a0 a1 _ (H__h0_aL.out.reads.below (by repeat (first | with_reducible exact belR | with_reducible apply belA | (with_reducible refine belS ?_ ?_; focus (first | omega | (simp; done) | (simp; omega))) | with_reducible apply belN | with_reducible apply belD | with_reducible assumption))) (by first | omega | exact hv_aL) (by first | omega | exact hg_aSite)).mono ?_
  rintro e w14 ⟨d_h_0, rfl, hf0, hb⟩
  obtain ⟨ao_h0, cap_h0, rfl⟩ := Fresh.slice hf0
  obtain ⟨fp_h0, o_h0⟩ := Fresh.own hf0 (lo := w13.heap.size) (by first | omega | (simp; done) | (simp; omega))
  have H_h0 := Lib.hid o_h0; clear o_h0
  have hw : Below w13.heap.size w13 w14 := below_call (by repeat (first | with_reducible exact belR | with_reducible apply belA | (with_reducible refine belS ?_ ?_; focus (first | omega | (simp; done) | (simp; omega))) | with_reducible apply belN | with_reducible apply belD | with_reducible assumption)) (by first | omega | (simp; done) | (simp; omega)) hb
  have hsw14 : w13.heap.size ≤ w14.heap.size := by have y := hb.size; (try simp at y); omega
  replace HA0 := Lib.hid (HA0.out.below hw)
  replace H_w0 := Lib.hid (H_w0.out.below hw)
  replace H_x0 := Lib.hid (H_x0.out.below hw)
  replace H_g0 := Lib.hid (H_g0.out.below hw)
  replace H__h0_aL := Lib.hid (H__h0_aL.out.below hw)
  replace HB := Lib.hid (below_call HB.out HB.out.size hw)
  clear hw
  clear hb
  clear H__h0_aL
  go_wp2_with fail
  refine (eqIntS _ _ (f0 a0 a1) _ (H_h0.out.reads.below (by repeat (first | with_reducible exact belR | with_reducible apply belA | (with_reducible refine belS ?_ ?_; focus (first | omega | (simp; done) | (simp; omega))) | with_reducible apply belN | with_reducible apply belD | with_reducible assumption))) (H_w0.out.reads.below (by repeat (first | with_reducible exact belR | with_reducible apply belA | (with_reducible refine belS ?_ ?_; focus (first | omega | (simp; done) | (simp; omega))) | with_reducible apply belN | with_reducible apply belD | with_reducible assumption)))).mono ?_
  rintro e w15 ⟨rfl, hb⟩
  have hw : Below w14.heap.size w14 w15 := below_call (by repeat (first | with_reducible exact belR | with_reducible apply belA | (with_reducible refine belS ?_ ?_; focus (first | omega | (simp; done) | (simp; omega))) | with_reducible apply belN | with_reducible apply belD | with_reducible assumption)) (by first | omega | (simp; done) | (simp; omega)) hb
  have hsw15 : w14.heap.size ≤ w15.heap.size := by have y := hb.size; (try simp at y); omega
  replace HA0 := Lib.hid (HA0.out.below hw)
  replace H_w0 := Lib.hid (H_w0.out.below hw)
  replace H_x0 := Lib.hid (H_x0.out.below hw)
  replace H_g0 := Lib.hid (H_g0.out.below hw)
  replace H_h0 := Lib.hid (H_h0.out.below hw)
  replace HB := Lib.hid (below_call HB.out HB.out.size hw)
  clear hw
  clear hb
  go_wp2_with fail
  refine (heldIntS _ (f0 a0 a1) (1) _ (H_g0.out.reads.below (by repeat (first | with_reducible exact belR | with_reducible apply belA | (with_reducible refine belS ?_ ?_; focus (first | omega | (simp; done) | (simp; omega))) | with_reducible apply belN | with_reducible apply belD | with_reducible assumption))) (by omega)).mono ?_
  rintro e w16 ⟨rfl, hb⟩
  have hw : Below w15.heap.size w15 w16 := below_call (by repeat (first | with_reducible exact belR | with_reducible apply belA | (with_reducible refine belS ?_ ?_; focus (first | omega | (simp; done) | (simp; omega))) | with_reducible apply belN | with_reducible apply belD | with_reducible assumption)) (by first | omega | (simp; done) | (simp; omega)) hb
  have hsw16 : w15.heap.size ≤ w16.heap.size := by have y := hb.size; (try simp at y); omega
  replace HA0 := Lib.hid (HA0.out.below hw)
  replace H_w0 := Lib.hid (H_w0.out.below hw)
  replace H_x0 := Lib.hid (H_x0.out.below hw)
  replace H_g0 := Lib.hid (H_g0.out.below hw)
  replace H_h0 := Lib.hid (H_h0.out.below hw)
  replace HB := Lib.hid (below_call HB.out HB.out.size hw)
  clear hw
  clear hb
  go_wp2_with fail
  go_ret
  have y := HB.out
  exact ⟨rfl, (by repeat (first | with_reducible exact belR | with_reducible apply belA | (with_reducible refine belS ?_ ?_; focus (first | omega | (simp; done) | (simp; omega))) | with_reducible apply belN | with_reducible apply belD | with_reducible assumption))⟩

set_option maxRecDepth 100000 in
set_option maxHeartbeats 1000000 in
theorem usedVersions_lifted (f0 : (List DPage) → ByteArray → List Int) (hS : SaidUsedVersions f0 17) (hI : SaidUsedVersions f0 19) (hm_g0 : ∀ (a0 : List DPage) (a1 : ByteArray), wtS DPage.wt a0 ≤ 1048576 → a1.size ≤ 1048576 → wtT cnt1 (f0 a0 a1) ((f0 a0 a1)).length ≤ 400000000) (hm_x0 : ∀ (a0 : List DPage), wtS DPage.wt a0 ≤ 1048576 → wtT DPage.cnt a0 (a0).length ≤ 400000000) (os : Os) (started : os.Started) (H : Type) (enc : TypeId × Value → H) :
    ReturnsInHanded {} Try.checked os 4 .any (Rows.fnExactUsedVersionsSpec.pre6 enc Try.prog Try.f4 Rows.fnExactUsedVersionsRow.domain false) (Rows.fnExactUsedVersionsSpec.post enc Try.prog Try.f4 false true false false) := by
  refine law_lift (C := Try.checked) Try.own started (by kernel_rfl) Try.func4 Try.laidOut (by kernel_rfl) rfl Try.underlying4 rfl ?_
    (ChangeSpec.witness6 (enc := enc) (C := Try.checked) false ⟨#[], #[.slice none 0 0, .string ByteArray.empty], []⟩ 8 (by kernel_rfl) (by kernel_rfl) (by kernel_rfl) (by kernel_rfl)) ?_
  · intro ds h
    match ds, h with
    | [_, _], _ => rfl
  · intro W base args ds ps hval hA0
    have hA : DataW.TrodAll enc Try.prog W 0 (fun _ => true) true Try.f4.params.toList args.toList ds ps := hA0
    rw [Try.params4] at hA hval
    obtain ⟨v0, v1, _, _, _, _, rfl, t0, t1⟩ := trodAll_open2 hA
    obtain ⟨a0, r0⟩ := arg_slice (R := DPage.rep) (E := 55) Try.underlying38 (opens_slice Try.underlying38 (by kernel_rfl) (by decide) DPage.opens_laws) (hval 0 38 v0 rfl rfl) t0
    obtain ⟨a1, rfl, z1⟩ := arg_str Try.underlying9 (hval 1 9 v1 rfl rfl) t1
    exact lawUsedVersions f0 hS hI hm_g0 hm_x0 v0 a0 a1 W r0 z1

theorem usedVersions_of (f0 : (List DPage) → ByteArray → List Int) (hS : SaidUsedVersions f0 17) (hI : SaidUsedVersions f0 19) (hm_g0 : ∀ (a0 : List DPage) (a1 : ByteArray), wtS DPage.wt a0 ≤ 1048576 → a1.size ≤ 1048576 → wtT cnt1 (f0 a0 a1) ((f0 a0 a1)).length ≤ 400000000) (hm_x0 : ∀ (a0 : List DPage), wtS DPage.wt a0 ≤ 1048576 → wtT DPage.cnt a0 (a0).length ≤ 400000000) : Rows.FnExactUsedVersionsSaid :=
  OpenClaim.holds_of_wide 4 Try.f4 rfl rfl rfl rfl rfl rfl rfl ⟨rfl, rfl, rfl, rfl, rfl⟩ rfl rfl rfl rfl rfl (by kernel_rfl) Try.func4 (by kernel_rfl)
    (of_decide_eq_true (by kernel_rfl)) (by unfold Func.isWrapper; rw [if_neg (by decide +kernel)]; exact ⟨rfl, rfl⟩)
    (fun os started H enc _ => usedVersions_lifted f0 hS hI hm_g0 hm_x0 os started H enc)

end Go.Proofs.Ytamdjeajmfjfmaa
