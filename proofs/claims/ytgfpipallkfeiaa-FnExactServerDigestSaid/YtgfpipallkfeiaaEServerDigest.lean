/-
  FnExactServerDigest: the law's walk, and its row, off the contracts of impl.ServerDigest and spec.ServerDigest.
-/
import Derived.Test.YtgfpipallkfeiaaLFamB
import Derived.Test.YtgfpipallkfeiaaBase
namespace Go.Proofs.Ytgfpipallkfeiaa
open Go.RowKit Go.ChangeShapes

/-- What impl.ServerDigest and spec.ServerDigest are both shown to compute. -/
def SaidServerDigest (f0 : DServer → Int) (f : FuncId) : Prop :=
  ∀ (c0 : List Value) (a0 : DServer) (w : World) (_h0 : Reads DServer.rep w c0 a0)(_s0 : (a0).wt ≤ 1048576), Calls Try.prog f #[.agg c0.toArray] w fun e w' => e = .returned (.int .i64 (f0 a0)) ∧ Below w.heap.size w w'

set_option maxRecDepth 100000 in
set_option maxHeartbeats 16000000 in
theorem lawServerDigest (f0 : DServer → Int) (hS : SaidServerDigest f0 5) (hI : SaidServerDigest f0 7) (c0 : List Value) (a0 : DServer) (w : World) (h0 : Reads DServer.rep w c0 a0)  :
    Calls Try.prog 3 #[.agg c0.toArray] w fun e w' => e = .returned (.bool true) ∧ Below w.heap.size w w' := by
  have HA0 := Lib.hid (Low.start h0)
  obtain ⟨fp, hr⟩ := h0
  obtain ⟨ao0_0, cap0_0, ao0_1, cap0_1, ao0_2, cap0_2, rfl⟩ := DServer.shape hr
  clear hr
  have HB : Hid (Below w.heap.size w w) := Lib.hid belR
  go_enter Try.func3, Try.ntmps3
  go_wp2_with fail
  refine (szServer _ a0 (1048576) _ (HA0.out.reads.below (by repeat (first | with_reducible exact belR | with_reducible apply belA | (with_reducible refine belS ?_ ?_; focus (first | omega | (simp; done) | (simp; omega))) | with_reducible apply belN | with_reducible apply belD | with_reducible assumption))) (by omega) (by omega)).mono ?_
  rintro e w1 ⟨rfl, hb⟩
  have hw : Below w.heap.size w w1 := below_call (by repeat (first | with_reducible exact belR | with_reducible apply belA | (with_reducible refine belS ?_ ?_; focus (first | omega | (simp; done) | (simp; omega))) | with_reducible apply belN | with_reducible apply belD | with_reducible assumption)) (by first | omega | (simp; done) | (simp; omega)) hb
  have hsw1 : w.heap.size + 1 ≤ w1.heap.size := by have y := hb.size; (try simp at y); omega
  have HX_aS : Hid (Box w1 (w.heap.size) #[.string a0.store.name, .slice ao0_0 a0.store.items.length cap0_0, .int .i64 a0.store.auto, .slice ao0_1 a0.applied.length cap0_1, .slice ao0_2 a0.changes.length cap0_2]) := Lib.hid (Box.below (Box.at (by first | rfl | simp)) hb)
  have ⟨cx_aS, zx_aS⟩ := HX_aS.out
  replace HA0 := Lib.hid (HA0.out.below hw)
  replace HB := Lib.hid (below_call HB.out HB.out.size hw)
  clear hw
  clear hb
  have hz := szOf_spec ((a0).wt) (1048576)
  by_cases hv_aS : ¬ (((a0).wt : Nat) : Int) ≤ 1048576
  · rw [hz.2 hv_aS]; clear hz
    go_wp2
    all_goals go_ret
    have y := HB.out
    exact ⟨rfl, (by repeat (first | with_reducible exact belR | with_reducible apply belA | (with_reducible refine belS ?_ ?_; focus (first | omega | (simp; done) | (simp; omega))) | with_reducible apply belN | with_reducible apply belD | with_reducible assumption))⟩
  rw [Decidable.not_not] at hv_aS
  rw [hz.1 hv_aS]; clear hz
  go_wp2_with fail
  refine (toServer _ a0 _ (HA0.out.reads.below (by repeat (first | with_reducible exact belR | with_reducible apply belA | (with_reducible refine belS ?_ ?_; focus (first | omega | (simp; done) | (simp; omega))) | with_reducible apply belN | with_reducible apply belD | with_reducible assumption))) (by first | omega | (simp [DServer.wt]))).mono ?_
  rintro e w2 ⟨d_w0_aS, rfl, hf, hb⟩
  obtain ⟨ao_w0_aS_0, cap_w0_aS_0, ao_w0_aS_1, cap_w0_aS_1, ao_w0_aS_2, cap_w0_aS_2, rfl⟩ := DServer.fshape hf
  obtain ⟨fp__w0_aS, o__w0_aS⟩ := Fresh.own hf (lo := w1.heap.size) (by first | omega | (simp; done) | (simp; omega))
  have H__w0_aS := Lib.hid o__w0_aS; clear o__w0_aS
  have hw : Below w1.heap.size w1 w2 := below_call (by repeat (first | with_reducible exact belR | with_reducible apply belA | (with_reducible refine belS ?_ ?_; focus (first | omega | (simp; done) | (simp; omega))) | with_reducible apply belN | with_reducible apply belD | with_reducible assumption)) (by first | omega | (simp; done) | (simp; omega)) hb
  have hsw2 : w1.heap.size ≤ w2.heap.size := by have y := hb.size; (try simp at y); omega
  clear cx_aS zx_aS
  replace HX_aS := Lib.hid (HX_aS.out.below hw)
  have ⟨cx_aS, zx_aS⟩ := HX_aS.out
  replace HA0 := Lib.hid (HA0.out.below hw)
  replace HB := Lib.hid (below_call HB.out HB.out.size hw)
  clear hw
  clear hb hf
  go_wp2_with fail
  refine (hS _ a0 _ (H__w0_aS.out.reads.below (by repeat (first | with_reducible exact belR | with_reducible apply belA | (with_reducible refine belS ?_ ?_; focus (first | omega | (simp; done) | (simp; omega))) | with_reducible apply belN | with_reducible apply belD | with_reducible assumption))) (by first | omega | exact hv_aS)).mono ?_
  rintro e w3 ⟨rfl, hb⟩
  have hw : Below w2.heap.size w2 w3 := below_call (by repeat (first | with_reducible exact belR | with_reducible apply belA | (with_reducible refine belS ?_ ?_; focus (first | omega | (simp; done) | (simp; omega))) | with_reducible apply belN | with_reducible apply belD | with_reducible assumption)) (by first | omega | (simp; done) | (simp; omega)) hb
  have hsw3 : w2.heap.size ≤ w3.heap.size := by have y := hb.size; (try simp at y); omega
  clear cx_aS zx_aS
  replace HX_aS := Lib.hid (HX_aS.out.below hw)
  have ⟨cx_aS, zx_aS⟩ := HX_aS.out
  replace HA0 := Lib.hid (HA0.out.below hw)
  replace H__w0_aS := Lib.hid (H__w0_aS.out.below hw)
  replace HB := Lib.hid (below_call HB.out HB.out.size hw)
  clear hw
  clear hb
  clear H__w0_aS
  go_wp2_with fail
  refine (toServer _ a0 _ (HA0.out.reads.below (by repeat (first | with_reducible exact belR | with_reducible apply belA | (with_reducible refine belS ?_ ?_; focus (first | omega | (simp; done) | (simp; omega))) | with_reducible apply belN | with_reducible apply belD | with_reducible assumption))) (by first | omega | (simp [DServer.wt]))).mono ?_
  rintro e w4 ⟨d_x0, rfl, hf, hb⟩
  obtain ⟨ao_x0_0, cap_x0_0, ao_x0_1, cap_x0_1, ao_x0_2, cap_x0_2, rfl⟩ := DServer.fshape hf
  obtain ⟨fp_x0, o_x0⟩ := Fresh.own hf (lo := w3.heap.size) (by first | omega | (simp; done) | (simp; omega))
  have H_x0 := Lib.hid o_x0; clear o_x0
  have hw : Below w3.heap.size w3 w4 := below_call (by repeat (first | with_reducible exact belR | with_reducible apply belA | (with_reducible refine belS ?_ ?_; focus (first | omega | (simp; done) | (simp; omega))) | with_reducible apply belN | with_reducible apply belD | with_reducible assumption)) (by first | omega | (simp; done) | (simp; omega)) hb
  have hsw4 : w3.heap.size ≤ w4.heap.size := by have y := hb.size; (try simp at y); omega
  clear cx_aS zx_aS
  replace HX_aS := Lib.hid (HX_aS.out.below hw)
  have ⟨cx_aS, zx_aS⟩ := HX_aS.out
  replace HA0 := Lib.hid (HA0.out.below hw)
  replace HB := Lib.hid (below_call HB.out HB.out.size hw)
  clear hw
  clear hb hf
  go_wp2_with fail
  refine (hI _ a0 _ (H_x0.out.reads.below (by repeat (first | with_reducible exact belR | with_reducible apply belA | (with_reducible refine belS ?_ ?_; focus (first | omega | (simp; done) | (simp; omega))) | with_reducible apply belN | with_reducible apply belD | with_reducible assumption))) (by first | omega | exact hv_aS)).mono ?_
  rintro e w5 ⟨rfl, hb⟩
  have hw : Below w4.heap.size w4 w5 := below_call (by repeat (first | with_reducible exact belR | with_reducible apply belA | (with_reducible refine belS ?_ ?_; focus (first | omega | (simp; done) | (simp; omega))) | with_reducible apply belN | with_reducible apply belD | with_reducible assumption)) (by first | omega | (simp; done) | (simp; omega)) hb
  have hsw5 : w4.heap.size + 1 ≤ w5.heap.size := by have y := hb.size; (try simp at y); omega
  clear cx_aS zx_aS
  replace HX_aS := Lib.hid (HX_aS.out.below hw)
  have HX_x0 : Hid (Box w5 (w4.heap.size) #[.string (a0).store.name, .slice ao_x0_0 (a0).store.items.length cap_x0_0, .int .i64 (a0).store.auto, .slice ao_x0_1 (a0).applied.length cap_x0_1, .slice ao_x0_2 (a0).changes.length cap_x0_2]) := Lib.hid (Box.below (Box.at (by first | rfl | simp)) hb)
  have ⟨cx_aS, zx_aS⟩ := HX_aS.out
  have ⟨cx_x0, zx_x0⟩ := HX_x0.out
  replace HA0 := Lib.hid (HA0.out.below hw)
  replace H_x0 := Lib.hid (H_x0.out.below hw)
  replace HB := Lib.hid (below_call HB.out HB.out.size hw)
  clear hw
  clear hb
  go_wp2_with fail
  refine settle (fun W' => Below w5.heap.size w5 W' ∧ w5.heap.size ≤ W'.heap.size) ⟨(by repeat (first | with_reducible exact belR | with_reducible apply belA | (with_reducible refine belS ?_ ?_; focus (first | omega | (simp; done) | (simp; omega))) | with_reducible apply belN | with_reducible apply belD | with_reducible assumption)), (by first | omega | (simp; done) | (simp; omega))⟩ ?_
  rintro w6 ⟨hw, hsw6⟩
  clear cx_aS zx_aS
  replace HX_aS := Lib.hid (HX_aS.out.below hw)
  clear cx_x0 zx_x0
  replace HX_x0 := Lib.hid (HX_x0.out.below hw)
  have ⟨cx_aS, zx_aS⟩ := HX_aS.out
  have ⟨cx_x0, zx_x0⟩ := HX_x0.out
  replace HA0 := Lib.hid (HA0.out.below hw)
  replace H_x0 := Lib.hid (H_x0.out.below hw)
  replace HB := Lib.hid (below_call HB.out HB.out.size hw)
  clear hw
  go_region_held3 (fun w' => (∀ o, w'.cell? ⟨w4.heap.size, o, none⟩ = #[.string (a0).store.name, .slice ao_x0_0 (a0).store.items.length cap_x0_0, .int .i64 (a0).store.auto, .slice ao_x0_1 (a0).applied.length cap_x0_1, .slice ao_x0_2 (a0).changes.length cap_x0_2][o]?) ∧ (∀ o, w'.cell? ⟨w.heap.size, o, none⟩ = #[.string a0.store.name, .slice ao0_0 a0.store.items.length cap0_0, .int .i64 a0.store.auto, .slice ao0_1 a0.applied.length cap0_1, .slice ao0_2 a0.changes.length cap0_2][o]?) ∧ Below w6.heap.size w6 w')
    (first | exact ⟨fun o => (World.cell?_drew _ _ |>.trans <| hq_E8.cell (p := ⟨w4.heap.size, o, none⟩) zx_x0).trans (cx_x0 o), fun o => (World.cell?_drew _ _ |>.trans <| hq_E8.cell (p := ⟨w.heap.size, o, none⟩) zx_aS).trans (cx_aS o), belD hq_E8⟩ | exact ⟨fun o => (hq_E8.cell (p := ⟨w4.heap.size, o, none⟩) zx_x0).trans (cx_x0 o), fun o => (hq_E8.cell (p := ⟨w.heap.size, o, none⟩) zx_aS).trans (cx_aS o), hq_E8⟩ | exact ⟨fun o => (World.cell?_drew _ _ |>.trans <| hq_x0_e6.cell (p := ⟨w4.heap.size, o, none⟩) zx_x0).trans (cx_x0 o), fun o => (World.cell?_drew _ _ |>.trans <| hq_x0_e6.cell (p := ⟨w.heap.size, o, none⟩) zx_aS).trans (cx_aS o), belD hq_x0_e6⟩ | exact ⟨fun o => (hq_x0_e6.cell (p := ⟨w4.heap.size, o, none⟩) zx_x0).trans (cx_x0 o), fun o => (hq_x0_e6.cell (p := ⟨w.heap.size, o, none⟩) zx_aS).trans (cx_aS o), hq_x0_e6⟩ | exact ⟨cx_x0, cx_aS, belR⟩ | exact ⟨cx_x0, cx_aS, belD belR⟩)
    (first | (go_at_call 8; have hx := hq_x0_e6; clear hx; have hS_E8 := ‹_ ∧ _ ∧ Below w6.heap.size w6 _›; refine (eqServer _ _ a0 _ (H_x0.out.reads.below hS_E8.2.2) (hr_x0_e6.below (by first | exact belR | exact belD belR | exact belN (belD belR)))).mono ?_; rintro e w8 ⟨rfl, hb_E8⟩; have hq_E8 : Below w6.heap.size w6 w8 := below_call hS_E8.2.2 hS_E8.2.2.size hb_E8; clear hS_E8) | (go_at_call 6; have hS_x0_e6 := ‹_ ∧ _ ∧ Below w6.heap.size w6 _›; refine (toServer _ a0 _ (HA0.out.reads.below hS_x0_e6.2.2) (by first | omega | (simp [DServer.wt]))).mono ?_; rintro e w7 ⟨d_x0_e6, rfl, hf_x0_e6, hb_x0_e6⟩; have hq_x0_e6 : Below w6.heap.size w6 w7 := below_call hS_x0_e6.2.2 hS_x0_e6.2.2.size hb_x0_e6; clear hS_x0_e6; obtain ⟨ao_x0_e6_0, cap_x0_e6_0, ao_x0_e6_1, cap_x0_e6_1, ao_x0_e6_2, cap_x0_e6_2, rfl⟩ := DServer.fshape hf_x0_e6; have hr_x0_e6 := hf_x0_e6.reads))
  have hw := hq_E8
  have hsw8 : w6.heap.size ≤ w8.heap.size := hq_E8.size
  clear cx_aS zx_aS
  replace HX_aS := Lib.hid (HX_aS.out.below hw)
  clear cx_x0 zx_x0
  replace HX_x0 := Lib.hid (HX_x0.out.below hw)
  have ⟨cx_aS, zx_aS⟩ := HX_aS.out
  have ⟨cx_x0, zx_x0⟩ := HX_x0.out
  replace HA0 := Lib.hid (HA0.out.below hw)
  replace H_x0 := Lib.hid (H_x0.out.below hw)
  replace HB := Lib.hid (below_call HB.out HB.out.size hw)
  clear hw
  go_wp2_with fail
  go_ret
  have y := HB.out
  exact ⟨rfl, (by repeat (first | with_reducible exact belR | with_reducible apply belA | (with_reducible refine belS ?_ ?_; focus (first | omega | (simp; done) | (simp; omega))) | with_reducible apply belN | with_reducible apply belD | with_reducible assumption))⟩

set_option maxRecDepth 100000 in
set_option maxHeartbeats 1000000 in
theorem serverDigest_lifted (f0 : DServer → Int) (hS : SaidServerDigest f0 5) (hI : SaidServerDigest f0 7) (os : Os) (started : os.Started) (H : Type) (enc : TypeId × Value → H) :
    ReturnsInHanded {} Try.checked os 3 .any (Rows.fnExactServerDigestSpec.pre6 enc Try.prog Try.f3 Rows.fnExactServerDigestRow.domain false) (Rows.fnExactServerDigestSpec.post enc Try.prog Try.f3 false true false false) := by
  refine law_lift (C := Try.checked) Try.own started (by kernel_rfl) Try.func3 Try.laidOut (by kernel_rfl) rfl Try.underlying4 rfl ?_
    (ChangeSpec.witness6 (enc := enc) (C := Try.checked) false ⟨#[], #[.agg #[.string ByteArray.empty, .slice none 0 0, .int .i64 0, .slice none 0 0, .slice none 0 0]], []⟩ 8 (by kernel_rfl) (by kernel_rfl) (by kernel_rfl) (by kernel_rfl)) ?_
  · intro ds h
    match ds, h with
    | [_], _ => rfl
  · intro W base args ds ps hval hA0
    have hA : DataW.TrodAll enc Try.prog W 0 (fun _ => true) true Try.f3.params.toList args.toList ds ps := hA0
    rw [Try.params3] at hA hval
    obtain ⟨v0, _, _, rfl, t0⟩ := trodAll_open1 hA
    obtain ⟨c0, a0, rfl, r0⟩ := arg_struct Try.underlying28 DServer.opens_laws (hval 0 28 v0 rfl rfl) t0
    exact lawServerDigest f0 hS hI c0.toList a0 W r0

theorem serverDigest_of (f0 : DServer → Int) (hS : SaidServerDigest f0 5) (hI : SaidServerDigest f0 7) : Rows.FnExactServerDigestSaid :=
  OpenClaim.holds_of_wide 3 Try.f3 rfl rfl rfl rfl rfl rfl rfl ⟨rfl, rfl, rfl, rfl, rfl⟩ rfl rfl rfl rfl rfl (by kernel_rfl) Try.func3 (by kernel_rfl)
    (of_decide_eq_true (by kernel_rfl)) (by unfold Func.isWrapper; rw [if_neg (by decide +kernel)]; exact ⟨rfl, rfl⟩)
    (fun os started H enc _ => serverDigest_lifted f0 hS hI os started H enc)

end Go.Proofs.Ytgfpipallkfeiaa
