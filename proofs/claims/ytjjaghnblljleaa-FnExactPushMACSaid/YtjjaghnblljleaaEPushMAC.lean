/-
  FnExactPushMAC: the law's walk, and its row, off the contracts of impl.PushMAC and spec.PushMAC.
-/
import Derived.Test.YtjjaghnblljleaaLPush
import Derived.Test.YtjjaghnblljleaaLSubscription
import Derived.Test.YtjjaghnblljleaaMarkSl
import Derived.Test.YtjjaghnblljleaaSlices
import Derived.Test.YtjjaghnblljleaaLaw
import Derived.Test.YtjjaghnblljleaaEnv
namespace Go.Proofs.Ytjjaghnblljleaa
open Go.RowKit Go.ChangeShapes

/-- What impl.PushMAC and spec.PushMAC are both shown to compute. -/
def SaidPushMAC (f0 : DSubscription → DPush → Int) (f : FuncId) : Prop :=
  ∀ (c0 : List Value) (a0 : DSubscription) (c1 : List Value) (a1 : DPush) (w : World) (_h0 : Reads DSubscription.rep w c0 a0) (_h1 : Reads DPush.rep w c1 a1)(_s0 : (a0).wt ≤ 1048576) (_s1 : (a1).wt ≤ 1048576), Calls Try.prog f #[.agg c0.toArray, .agg c1.toArray] w fun e w' => e = .returned (.int .i64 (f0 a0 a1)) ∧ Below w.heap.size w w'

set_option maxRecDepth 100000 in
set_option maxHeartbeats 16000000 in
theorem lawPushMAC (f0 : DSubscription → DPush → Int) (hS : SaidPushMAC f0 48) (hI : SaidPushMAC f0 51) (c0 : List Value) (a0 : DSubscription) (c1 : List Value) (a1 : DPush) (w : World) (h0 : Reads DSubscription.rep w c0 a0) (h1 : Reads DPush.rep w c1 a1)  :
    Calls Try.prog 9 #[.agg c0.toArray, .agg c1.toArray] w fun e w' => e = .returned (.bool true) ∧ Below w.heap.size w w' := by
  have HA0 := Lib.hid (Low.start h0)
  obtain ⟨fp, hr⟩ := h0
  obtain ⟨rfl, _, _⟩ := DSubscription.rd.1 hr
  clear hr
  have HA1 := Lib.hid (Low.start h1)
  obtain ⟨fp, hr⟩ := h1
  obtain ⟨ao1_0, cap1_0, rfl⟩ := DPush.shape hr
  clear hr
  have HB : Hid (Below w.heap.size w w) := Lib.hid belR
  go_enter Try.func9, Try.ntmps9
  go_wp2_with fail
  refine (szSubscription _ a0 (1048576) _ (HA0.out.reads.below (by repeat (first | with_reducible exact belR | with_reducible apply belA | (with_reducible refine belS ?_ ?_; focus (first | omega | (simp; done) | (simp; omega))) | with_reducible apply belN | with_reducible apply belD | with_reducible assumption))) (by omega) (by omega)).mono ?_
  rintro e w1 ⟨rfl, hb⟩
  have hw : Below w.heap.size w w1 := below_call (by repeat (first | with_reducible exact belR | with_reducible apply belA | (with_reducible refine belS ?_ ?_; focus (first | omega | (simp; done) | (simp; omega))) | with_reducible apply belN | with_reducible apply belD | with_reducible assumption)) (by first | omega | (simp; done) | (simp; omega)) hb
  have hsw1 : w.heap.size + 1 + 1 ≤ w1.heap.size := by have y := hb.size; (try simp at y); omega
  have HX_aS : Hid (Box w1 (w.heap.size) #[.string a0.site, .int .i64 a0.secret, .int .i64 a0.last]) := Lib.hid (Box.below (Box.growA (Box.at (by first | rfl | simp))) hb)
  have HX_aP : Hid (Box w1 (w.heap.size + 1) #[.string a1.site, .int .i64 a1.number, .slice ao1_0 a1.data.length cap1_0, .int .i64 a1.mac]) := Lib.hid (Box.below (Box.at (by first | rfl | simp)) hb)
  have ⟨cx_aS, zx_aS⟩ := HX_aS.out
  have ⟨cx_aP, zx_aP⟩ := HX_aP.out
  replace HA0 := Lib.hid (HA0.out.below hw)
  replace HA1 := Lib.hid (HA1.out.below hw)
  replace HB := Lib.hid (below_call HB.out HB.out.size hw)
  clear hw
  clear hb
  have hz := szOf_spec ((a0).wt) (1048576)
  by_cases hv_aS : ¬ (((a0).wt : Nat) : Int) ≤ 1048576
  · rw [hz.2 hv_aS]; clear hz
    go_wp2
    all_goals go_ret
    have y := HB.out
    exact ⟨rfl, (by repeat (first | with_reducible exact belR | with_reducible apply belA | (with_reducible refine belS ?_ ?_; focus (first | omega | (simp; done) | (simp; omega))) | with_reducible apply belN | with_reducible apply belD | with_reducible assumption))⟩
  rw [Decidable.not_not] at hv_aS
  rw [hz.1 hv_aS]; clear hz
  go_wp2_with fail
  refine (szPush _ a1 (1048576 - (((a0).wt : Nat) : Int)) _ (HA1.out.reads.below (by repeat (first | with_reducible exact belR | with_reducible apply belA | (with_reducible refine belS ?_ ?_; focus (first | omega | (simp; done) | (simp; omega))) | with_reducible apply belN | with_reducible apply belD | with_reducible assumption))) (by omega) (by omega)).mono ?_
  rintro e w2 ⟨rfl, hb⟩
  have hw : Below w1.heap.size w1 w2 := below_call (by repeat (first | with_reducible exact belR | with_reducible apply belA | (with_reducible refine belS ?_ ?_; focus (first | omega | (simp; done) | (simp; omega))) | with_reducible apply belN | with_reducible apply belD | with_reducible assumption)) (by first | omega | (simp; done) | (simp; omega)) hb
  have hsw2 : w1.heap.size ≤ w2.heap.size := by have y := hb.size; (try simp at y); omega
  clear cx_aS zx_aS
  replace HX_aS := Lib.hid (HX_aS.out.below hw)
  clear cx_aP zx_aP
  replace HX_aP := Lib.hid (HX_aP.out.below hw)
  have ⟨cx_aS, zx_aS⟩ := HX_aS.out
  have ⟨cx_aP, zx_aP⟩ := HX_aP.out
  replace HA0 := Lib.hid (HA0.out.below hw)
  replace HA1 := Lib.hid (HA1.out.below hw)
  replace HB := Lib.hid (below_call HB.out HB.out.size hw)
  clear hw
  clear hb
  have hz := szOf_spec ((a1).wt) (1048576 - (((a0).wt : Nat) : Int))
  by_cases hv_aP : ¬ (((a1).wt : Nat) : Int) ≤ 1048576 - (((a0).wt : Nat) : Int)
  · rw [hz.2 hv_aP]; clear hz
    go_wp2
    all_goals go_ret
    have y := HB.out
    exact ⟨rfl, (by repeat (first | with_reducible exact belR | with_reducible apply belA | (with_reducible refine belS ?_ ?_; focus (first | omega | (simp; done) | (simp; omega))) | with_reducible apply belN | with_reducible apply belD | with_reducible assumption))⟩
  rw [Decidable.not_not] at hv_aP
  rw [hz.1 hv_aP]; clear hz
  go_wp2_with fail
  refine settle (fun W' => Below w2.heap.size w2 W' ∧ w2.heap.size ≤ W'.heap.size) ⟨(by repeat (first | with_reducible exact belR | with_reducible apply belA | (with_reducible refine belS ?_ ?_; focus (first | omega | (simp; done) | (simp; omega))) | with_reducible apply belN | with_reducible apply belD | with_reducible assumption)), (by first | omega | (simp; done) | (simp; omega))⟩ ?_
  rintro w3 ⟨hw, hsw3⟩
  clear cx_aS zx_aS
  replace HX_aS := Lib.hid (HX_aS.out.below hw)
  clear cx_aP zx_aP
  replace HX_aP := Lib.hid (HX_aP.out.below hw)
  have ⟨cx_aS, zx_aS⟩ := HX_aS.out
  have ⟨cx_aP, zx_aP⟩ := HX_aP.out
  replace HA0 := Lib.hid (HA0.out.below hw)
  replace HA1 := Lib.hid (HA1.out.below hw)
  replace HB := Lib.hid (below_call HB.out HB.out.size hw)
  clear hw
  go_region_held3 (fun w' => (∀ o, w'.cell? ⟨w.heap.size, o, none⟩ = #[.string a0.site, .int .i64 a0.secret, .int .i64 a0.last][o]?) ∧ (∀ o, w'.cell? ⟨w.heap.size + 1, o, none⟩ = #[.string a1.site, .int .i64 a1.number, .slice ao1_0 a1.data.length cap1_0, .int .i64 a1.mac][o]?) ∧ Below w3.heap.size w3 w')
    (first | exact ⟨fun o => (World.cell?_drew _ _ |>.trans <| hq_F6.cell (p := ⟨w.heap.size, o, none⟩) zx_aS).trans (cx_aS o), fun o => (World.cell?_drew _ _ |>.trans <| hq_F6.cell (p := ⟨w.heap.size + 1, o, none⟩) zx_aP).trans (cx_aP o), belD hq_F6⟩ | exact ⟨fun o => (hq_F6.cell (p := ⟨w.heap.size, o, none⟩) zx_aS).trans (cx_aS o), fun o => (hq_F6.cell (p := ⟨w.heap.size + 1, o, none⟩) zx_aP).trans (cx_aP o), hq_F6⟩ | exact ⟨fun o => (World.cell?_drew _ _ |>.trans <| hq_w0_aP.cell (p := ⟨w.heap.size, o, none⟩) zx_aS).trans (cx_aS o), fun o => (World.cell?_drew _ _ |>.trans <| hq_w0_aP.cell (p := ⟨w.heap.size + 1, o, none⟩) zx_aP).trans (cx_aP o), belD hq_w0_aP⟩ | exact ⟨fun o => (hq_w0_aP.cell (p := ⟨w.heap.size, o, none⟩) zx_aS).trans (cx_aS o), fun o => (hq_w0_aP.cell (p := ⟨w.heap.size + 1, o, none⟩) zx_aP).trans (cx_aP o), hq_w0_aP⟩ | exact ⟨fun o => (World.cell?_drew _ _ |>.trans <| hq_w0_aS.cell (p := ⟨w.heap.size, o, none⟩) zx_aS).trans (cx_aS o), fun o => (World.cell?_drew _ _ |>.trans <| hq_w0_aS.cell (p := ⟨w.heap.size + 1, o, none⟩) zx_aP).trans (cx_aP o), belD hq_w0_aS⟩ | exact ⟨fun o => (hq_w0_aS.cell (p := ⟨w.heap.size, o, none⟩) zx_aS).trans (cx_aS o), fun o => (hq_w0_aS.cell (p := ⟨w.heap.size + 1, o, none⟩) zx_aP).trans (cx_aP o), hq_w0_aS⟩ | exact ⟨cx_aS, cx_aP, belR⟩ | exact ⟨cx_aS, cx_aP, belD belR⟩)
    (first | (go_at_call 48; have hx := hq_w0_aP; clear hx; have hS_F6 := ‹_ ∧ _ ∧ Below w3.heap.size w3 _›; refine (hS _ a0 _ a1 _ (hr_w0_aS.below (by first | exact belR | exact belD belR | exact belN (belD belR))) (hr_w0_aP.below (by first | exact belR | exact belD belR | exact belN (belD belR))) (by first | omega | exact hv_aS) (by first | omega | exact hv_aP)).mono ?_; rintro e w6 ⟨rfl, hb_F6⟩; have hq_F6 : Below w3.heap.size w3 w6 := below_call hS_F6.2.2 hS_F6.2.2.size hb_F6; clear hS_F6) | (go_at_call 50; have hx := hq_w0_aS; clear hx; have hS_w0_aP := ‹_ ∧ _ ∧ Below w3.heap.size w3 _›; refine (toPush _ a1 _ (HA1.out.reads.below hS_w0_aP.2.2) (by first | omega | (simp [DPush.wt]))).mono ?_; rintro e w5 ⟨d_w0_aP, rfl, hf_w0_aP, hb_w0_aP⟩; have hq_w0_aP : Below w3.heap.size w3 w5 := below_call hS_w0_aP.2.2 hS_w0_aP.2.2.size hb_w0_aP; clear hS_w0_aP; obtain ⟨ao_w0_aP_0, cap_w0_aP_0, rfl⟩ := DPush.fshape hf_w0_aP; have hr_w0_aP := hf_w0_aP.reads; replace hr_w0_aS := hr_w0_aS.below (by first | exact hb_w0_aP | exact (belD belR).trans hb_w0_aP)) | (go_at_call 49; have hS_w0_aS := ‹_ ∧ _ ∧ Below w3.heap.size w3 _›; refine (toSubscription _ a0 _ (HA0.out.reads.below hS_w0_aS.2.2) (by first | omega | (simp [DSubscription.wt]))).mono ?_; rintro e w4 ⟨d_w0_aS, rfl, hf_w0_aS, hb_w0_aS⟩; have hq_w0_aS : Below w3.heap.size w3 w4 := below_call hS_w0_aS.2.2 hS_w0_aS.2.2.size hb_w0_aS; clear hS_w0_aS; obtain ⟨_, y_w0_aS, _⟩ := id hf_w0_aS; obtain ⟨rfl, _, _⟩ := DSubscription.rd.1 y_w0_aS; clear y_w0_aS; have hr_w0_aS := hf_w0_aS.reads))
  have hw := hq_F6
  have hsw6 : w3.heap.size ≤ w6.heap.size := hq_F6.size
  clear cx_aS zx_aS
  replace HX_aS := Lib.hid (HX_aS.out.below hw)
  clear cx_aP zx_aP
  replace HX_aP := Lib.hid (HX_aP.out.below hw)
  have ⟨cx_aS, zx_aS⟩ := HX_aS.out
  have ⟨cx_aP, zx_aP⟩ := HX_aP.out
  replace HA0 := Lib.hid (HA0.out.below hw)
  replace HA1 := Lib.hid (HA1.out.below hw)
  replace HB := Lib.hid (below_call HB.out HB.out.size hw)
  clear hw
  go_wp2_with fail
  refine (toPush _ a1 _ (HA1.out.reads.below (by repeat (first | with_reducible exact belR | with_reducible apply belA | (with_reducible refine belS ?_ ?_; focus (first | omega | (simp; done) | (simp; omega))) | with_reducible apply belN | with_reducible apply belD | with_reducible assumption))) (by first | omega | (simp [DPush.wt]))).mono ?_
  rintro e w7 ⟨d_x1, rfl, hf, hb⟩
  obtain ⟨ao_x1_0, cap_x1_0, rfl⟩ := DPush.fshape hf
  obtain ⟨fp_x1, o_x1⟩ := Fresh.own hf (lo := w6.heap.size) (by first | omega | (simp; done) | (simp; omega))
  have H_x1 := Lib.hid o_x1; clear o_x1
  have hw : Below w6.heap.size w6 w7 := below_call (by repeat (first | with_reducible exact belR | with_reducible apply belA | (with_reducible refine belS ?_ ?_; focus (first | omega | (simp; done) | (simp; omega))) | with_reducible apply belN | with_reducible apply belD | with_reducible assumption)) (by first | omega | (simp; done) | (simp; omega)) hb
  have hsw7 : w6.heap.size ≤ w7.heap.size := by have y := hb.size; (try simp at y); omega
  clear cx_aS zx_aS
  replace HX_aS := Lib.hid (HX_aS.out.below hw)
  clear cx_aP zx_aP
  replace HX_aP := Lib.hid (HX_aP.out.below hw)
  have ⟨cx_aS, zx_aS⟩ := HX_aS.out
  have ⟨cx_aP, zx_aP⟩ := HX_aP.out
  replace HA0 := Lib.hid (HA0.out.below hw)
  replace HA1 := Lib.hid (HA1.out.below hw)
  replace HB := Lib.hid (below_call HB.out HB.out.size hw)
  clear hw
  clear hb hf
  go_wp2_with fail
  refine settle (fun W' => Below w7.heap.size w7 W' ∧ Box W' (w7.heap.size) #[.string (a1).site, .int .i64 (a1).number, .slice ao_x1_0 (a1).data.length cap_x1_0, .int .i64 (a1).mac] ∧ w7.heap.size + 1 ≤ W'.heap.size) ⟨(by repeat (first | with_reducible exact belR | with_reducible apply belA | (with_reducible refine belS ?_ ?_; focus (first | omega | (simp; done) | (simp; omega))) | with_reducible apply belN | with_reducible apply belD | with_reducible assumption)), (Box.at (by first | rfl | simp)), (by first | omega | (simp; done) | (simp; omega))⟩ ?_
  rintro w8 ⟨hw, hx0, hsw8⟩
  clear cx_aS zx_aS
  replace HX_aS := Lib.hid (HX_aS.out.below hw)
  clear cx_aP zx_aP
  replace HX_aP := Lib.hid (HX_aP.out.below hw)
  have HX_x1 := Lib.hid hx0
  clear hx0
  have ⟨cx_aS, zx_aS⟩ := HX_aS.out
  have ⟨cx_aP, zx_aP⟩ := HX_aP.out
  have ⟨cx_x1, zx_x1⟩ := HX_x1.out
  replace HA0 := Lib.hid (HA0.out.below hw)
  replace HA1 := Lib.hid (HA1.out.below hw)
  replace H_x1 := Lib.hid (H_x1.out.below hw)
  replace HB := Lib.hid (below_call HB.out HB.out.size hw)
  clear hw
  go_region_held3 (fun w' => (∀ o, w'.cell? ⟨w.heap.size, o, none⟩ = #[.string a0.site, .int .i64 a0.secret, .int .i64 a0.last][o]?) ∧ (∀ o, w'.cell? ⟨w7.heap.size, o, none⟩ = #[.string (a1).site, .int .i64 (a1).number, .slice ao_x1_0 (a1).data.length cap_x1_0, .int .i64 (a1).mac][o]?) ∧ Below w8.heap.size w8 w')
    (first | exact ⟨fun o => (World.cell?_drew _ _ |>.trans <| hq_F10.cell (p := ⟨w.heap.size, o, none⟩) zx_aS).trans (cx_aS o), fun o => (World.cell?_drew _ _ |>.trans <| hq_F10.cell (p := ⟨w7.heap.size, o, none⟩) zx_x1).trans (cx_x1 o), belD hq_F10⟩ | exact ⟨fun o => (hq_F10.cell (p := ⟨w.heap.size, o, none⟩) zx_aS).trans (cx_aS o), fun o => (hq_F10.cell (p := ⟨w7.heap.size, o, none⟩) zx_x1).trans (cx_x1 o), hq_F10⟩ | exact ⟨fun o => (World.cell?_drew _ _ |>.trans <| hq_g0_aS.cell (p := ⟨w.heap.size, o, none⟩) zx_aS).trans (cx_aS o), fun o => (World.cell?_drew _ _ |>.trans <| hq_g0_aS.cell (p := ⟨w7.heap.size, o, none⟩) zx_x1).trans (cx_x1 o), belD hq_g0_aS⟩ | exact ⟨fun o => (hq_g0_aS.cell (p := ⟨w.heap.size, o, none⟩) zx_aS).trans (cx_aS o), fun o => (hq_g0_aS.cell (p := ⟨w7.heap.size, o, none⟩) zx_x1).trans (cx_x1 o), hq_g0_aS⟩ | exact ⟨cx_aS, cx_x1, belR⟩ | exact ⟨cx_aS, cx_x1, belD belR⟩)
    (first | (go_at_call 51; have hx := hq_g0_aS; clear hx; have hS_F10 := ‹_ ∧ _ ∧ Below w8.heap.size w8 _›; refine (hI _ a0 _ a1 _ (hr_g0_aS.below (by first | exact belR | exact belD belR | exact belN (belD belR))) (H_x1.out.reads.below hS_F10.2.2) (by first | omega | exact hv_aS) (by first | omega | exact hv_aP)).mono ?_; rintro e w10 ⟨rfl, hb_F10⟩; have hq_F10 : Below w8.heap.size w8 w10 := below_call hS_F10.2.2 hS_F10.2.2.size hb_F10; clear hS_F10) | (go_at_call 49; have hS_g0_aS := ‹_ ∧ _ ∧ Below w8.heap.size w8 _›; refine (toSubscription _ a0 _ (HA0.out.reads.below hS_g0_aS.2.2) (by first | omega | (simp [DSubscription.wt]))).mono ?_; rintro e w9 ⟨d_g0_aS, rfl, hf_g0_aS, hb_g0_aS⟩; have hq_g0_aS : Below w8.heap.size w8 w9 := below_call hS_g0_aS.2.2 hS_g0_aS.2.2.size hb_g0_aS; clear hS_g0_aS; obtain ⟨_, y_g0_aS, _⟩ := id hf_g0_aS; obtain ⟨rfl, _, _⟩ := DSubscription.rd.1 y_g0_aS; clear y_g0_aS; have hr_g0_aS := hf_g0_aS.reads))
  have hw := hq_F10
  have hsw10 : w8.heap.size ≤ w10.heap.size := hq_F10.size
  clear cx_aS zx_aS
  replace HX_aS := Lib.hid (HX_aS.out.below hw)
  clear cx_aP zx_aP
  replace HX_aP := Lib.hid (HX_aP.out.below hw)
  clear cx_x1 zx_x1
  replace HX_x1 := Lib.hid (HX_x1.out.below hw)
  have ⟨cx_aS, zx_aS⟩ := HX_aS.out
  have ⟨cx_aP, zx_aP⟩ := HX_aP.out
  have ⟨cx_x1, zx_x1⟩ := HX_x1.out
  replace HA0 := Lib.hid (HA0.out.below hw)
  replace HA1 := Lib.hid (HA1.out.below hw)
  replace H_x1 := Lib.hid (H_x1.out.below hw)
  replace HB := Lib.hid (below_call HB.out HB.out.size hw)
  clear hw
  go_wp2_with fail
  refine settle (fun W' => Below w10.heap.size w10 W' ∧ w10.heap.size ≤ W'.heap.size) ⟨(by repeat (first | with_reducible exact belR | with_reducible apply belA | (with_reducible refine belS ?_ ?_; focus (first | omega | (simp; done) | (simp; omega))) | with_reducible apply belN | with_reducible apply belD | with_reducible assumption)), (by first | omega | (simp; done) | (simp; omega))⟩ ?_
  rintro w11 ⟨hw, hsw11⟩
  clear cx_aS zx_aS
  replace HX_aS := Lib.hid (HX_aS.out.below hw)
  clear cx_aP zx_aP
  replace HX_aP := Lib.hid (HX_aP.out.below hw)
  clear cx_x1 zx_x1
  replace HX_x1 := Lib.hid (HX_x1.out.below hw)
  have ⟨cx_aS, zx_aS⟩ := HX_aS.out
  have ⟨cx_aP, zx_aP⟩ := HX_aP.out
  have ⟨cx_x1, zx_x1⟩ := HX_x1.out
  replace HA0 := Lib.hid (HA0.out.below hw)
  replace HA1 := Lib.hid (HA1.out.below hw)
  replace H_x1 := Lib.hid (H_x1.out.below hw)
  replace HB := Lib.hid (below_call HB.out HB.out.size hw)
  clear hw
  go_region_held3 (fun w' => (∀ o, w'.cell? ⟨w7.heap.size, o, none⟩ = #[.string (a1).site, .int .i64 (a1).number, .slice ao_x1_0 (a1).data.length cap_x1_0, .int .i64 (a1).mac][o]?) ∧ (∀ o, w'.cell? ⟨w.heap.size + 1, o, none⟩ = #[.string a1.site, .int .i64 a1.number, .slice ao1_0 a1.data.length cap1_0, .int .i64 a1.mac][o]?) ∧ Below w11.heap.size w11 w')
    (first | exact ⟨fun o => (World.cell?_drew _ _ |>.trans <| hq_E13.cell (p := ⟨w7.heap.size, o, none⟩) zx_x1).trans (cx_x1 o), fun o => (World.cell?_drew _ _ |>.trans <| hq_E13.cell (p := ⟨w.heap.size + 1, o, none⟩) zx_aP).trans (cx_aP o), belD hq_E13⟩ | exact ⟨fun o => (hq_E13.cell (p := ⟨w7.heap.size, o, none⟩) zx_x1).trans (cx_x1 o), fun o => (hq_E13.cell (p := ⟨w.heap.size + 1, o, none⟩) zx_aP).trans (cx_aP o), hq_E13⟩ | exact ⟨fun o => (World.cell?_drew _ _ |>.trans <| hq_x1_e11.cell (p := ⟨w7.heap.size, o, none⟩) zx_x1).trans (cx_x1 o), fun o => (World.cell?_drew _ _ |>.trans <| hq_x1_e11.cell (p := ⟨w.heap.size + 1, o, none⟩) zx_aP).trans (cx_aP o), belD hq_x1_e11⟩ | exact ⟨fun o => (hq_x1_e11.cell (p := ⟨w7.heap.size, o, none⟩) zx_x1).trans (cx_x1 o), fun o => (hq_x1_e11.cell (p := ⟨w.heap.size + 1, o, none⟩) zx_aP).trans (cx_aP o), hq_x1_e11⟩ | exact ⟨cx_x1, cx_aP, belR⟩ | exact ⟨cx_x1, cx_aP, belD belR⟩)
    (first | (go_at_call 52; have hx := hq_x1_e11; clear hx; have hS_E13 := ‹_ ∧ _ ∧ Below w11.heap.size w11 _›; refine (eqPush _ _ a1 _ (H_x1.out.reads.below hS_E13.2.2) (hr_x1_e11.below (by first | exact belR | exact belD belR | exact belN (belD belR)))).mono ?_; rintro e w13 ⟨rfl, hb_E13⟩; have hq_E13 : Below w11.heap.size w11 w13 := below_call hS_E13.2.2 hS_E13.2.2.size hb_E13; clear hS_E13) | (go_at_call 50; have hS_x1_e11 := ‹_ ∧ _ ∧ Below w11.heap.size w11 _›; refine (toPush _ a1 _ (HA1.out.reads.below hS_x1_e11.2.2) (by first | omega | (simp [DPush.wt]))).mono ?_; rintro e w12 ⟨d_x1_e11, rfl, hf_x1_e11, hb_x1_e11⟩; have hq_x1_e11 : Below w11.heap.size w11 w12 := below_call hS_x1_e11.2.2 hS_x1_e11.2.2.size hb_x1_e11; clear hS_x1_e11; obtain ⟨ao_x1_e11_0, cap_x1_e11_0, rfl⟩ := DPush.fshape hf_x1_e11; have hr_x1_e11 := hf_x1_e11.reads))
  have hw := hq_E13
  have hsw13 : w11.heap.size ≤ w13.heap.size := hq_E13.size
  clear cx_aS zx_aS
  replace HX_aS := Lib.hid (HX_aS.out.below hw)
  clear cx_aP zx_aP
  replace HX_aP := Lib.hid (HX_aP.out.below hw)
  clear cx_x1 zx_x1
  replace HX_x1 := Lib.hid (HX_x1.out.below hw)
  have ⟨cx_aS, zx_aS⟩ := HX_aS.out
  have ⟨cx_aP, zx_aP⟩ := HX_aP.out
  have ⟨cx_x1, zx_x1⟩ := HX_x1.out
  replace HA0 := Lib.hid (HA0.out.below hw)
  replace HA1 := Lib.hid (HA1.out.below hw)
  replace H_x1 := Lib.hid (H_x1.out.below hw)
  replace HB := Lib.hid (below_call HB.out HB.out.size hw)
  clear hw
  go_wp2_with fail
  go_ret
  have y := HB.out
  exact ⟨rfl, (by repeat (first | with_reducible exact belR | with_reducible apply belA | (with_reducible refine belS ?_ ?_; focus (first | omega | (simp; done) | (simp; omega))) | with_reducible apply belN | with_reducible apply belD | with_reducible assumption))⟩

set_option maxRecDepth 100000 in
set_option maxHeartbeats 1000000 in
theorem pushMAC_lifted (f0 : DSubscription → DPush → Int) (hS : SaidPushMAC f0 48) (hI : SaidPushMAC f0 51) (os : Os) (started : os.Started) (H : Type) (enc : TypeId × Value → H) :
    ReturnsInHanded {} Try.checked os 9 .any (Rows.fnExactPushMACSpec.pre6 enc Try.prog Try.f9 Rows.fnExactPushMACRow.domain false) (Rows.fnExactPushMACSpec.post enc Try.prog Try.f9 false true false false) := by
  refine law_lift (C := Try.checked) Try.own started (by kernel_rfl) Try.func9 Try.laidOut (by kernel_rfl) rfl Try.underlying4 rfl ?_
    (ChangeSpec.witness6 (enc := enc) (C := Try.checked) false ⟨#[], #[.agg #[.string ByteArray.empty, .int .i64 0, .int .i64 0], .agg #[.string ByteArray.empty, .int .i64 0, .slice none 0 0, .int .i64 0]], []⟩ 8 (by kernel_rfl) (by kernel_rfl) (by kernel_rfl) (by kernel_rfl)) ?_
  · intro ds h
    match ds, h with
    | [_, _], _ => rfl
  · intro W base args ds ps hval hA0
    have hA : DataW.TrodAll enc Try.prog W 0 (fun _ => true) true Try.f9.params.toList args.toList ds ps := hA0
    rw [Try.params9] at hA hval
    obtain ⟨v0, v1, _, _, _, _, rfl, t0, t1⟩ := trodAll_open2 hA
    obtain ⟨c0, a0, rfl, r0⟩ := arg_struct Try.underlying79 DSubscription.opens_laws (hval 0 79 v0 rfl rfl) t0
    obtain ⟨c1, a1, rfl, r1⟩ := arg_struct Try.underlying81 DPush.opens_laws (hval 1 81 v1 rfl rfl) t1
    exact lawPushMAC f0 hS hI c0.toList a0 c1.toList a1 W r0 r1

theorem pushMAC_of (f0 : DSubscription → DPush → Int) (hS : SaidPushMAC f0 48) (hI : SaidPushMAC f0 51) : Rows.FnExactPushMACSaid :=
  OpenClaim.holds_of_wide 9 Try.f9 rfl rfl rfl rfl rfl rfl rfl ⟨rfl, rfl, rfl, rfl, rfl⟩ rfl rfl rfl rfl rfl (by kernel_rfl) Try.func9 (by kernel_rfl)
    (of_decide_eq_true (by kernel_rfl)) (by unfold Func.isWrapper; rw [if_neg (by decide +kernel)]; exact ⟨rfl, rfl⟩)
    (fun os started H enc _ => pushMAC_lifted f0 hS hI os started H enc)

end Go.Proofs.Ytjjaghnblljleaa
