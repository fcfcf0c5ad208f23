/-
  FnExactFirstWrite: the law's walk, and its row, off the contracts of impl.FirstWrite and spec.FirstWrite.
-/
import Derived.Test.YtjjaghnblljleaaLOutbox
import Derived.Test.YtjjaghnblljleaaLWrite
import Derived.Test.YtjjaghnblljleaaMarkSl
import Derived.Test.YtjjaghnblljleaaSlices
import Derived.Test.YtjjaghnblljleaaLaw
import Derived.Test.YtjjaghnblljleaaEnv
namespace Go.Proofs.Ytjjaghnblljleaa
open Go.RowKit Go.ChangeShapes

/-- What impl.FirstWrite and spec.FirstWrite are both shown to compute. -/
def SaidFirstWrite (f0 : DOutbox → DWrite) (f1 : DOutbox → Bool) (f : FuncId) : Prop :=
  ∀ (c0 : List Value) (a0 : DOutbox) (w : World) (_h0 : Reads DOutbox.rep w c0 a0)(_s0 : (a0).wt ≤ 1048576), Calls Try.prog f #[.agg c0.toArray] w fun e w' => ∃ (d0 : List Value), e = .returned (.tuple #[.agg d0.toArray, .bool (f1 a0)]) ∧ Fresh DWrite.rep w.heap.size w' d0 (f0 a0) ∧ Below w.heap.size w w'

set_option maxRecDepth 100000 in
set_option maxHeartbeats 16000000 in
theorem lawFirstWrite (f0 : DOutbox → DWrite) (f1 : DOutbox → Bool) (hS : SaidFirstWrite f0 f1 38) (hI : SaidFirstWrite f0 f1 40) (c0 : List Value) (a0 : DOutbox) (w : World) (h0 : Reads DOutbox.rep w c0 a0)  :
    Calls Try.prog 7 #[.agg c0.toArray] w fun e w' => e = .returned (.bool true) ∧ Below w.heap.size w w' := by
  have HA0 := Lib.hid (Low.start h0)
  obtain ⟨fp, hr⟩ := h0
  obtain ⟨ao0_0, cap0_0, rfl⟩ := DOutbox.shape hr
  clear hr
  have HB : Hid (Below w.heap.size w w) := Lib.hid belR
  go_enter Try.func7, Try.ntmps7
  go_wp2_with fail
  refine (szOutbox _ a0 (1048576) _ (HA0.out.reads.below (by repeat (first | with_reducible exact belR | with_reducible apply belA | (with_reducible refine belS ?_ ?_; focus (first | omega | (simp; done) | (simp; omega))) | with_reducible apply belN | with_reducible apply belD | with_reducible assumption))) (by omega) (by omega)).mono ?_
  rintro e w1 ⟨rfl, hb⟩
  have hw : Below w.heap.size w w1 := below_call (by repeat (first | with_reducible exact belR | with_reducible apply belA | (with_reducible refine belS ?_ ?_; focus (first | omega | (simp; done) | (simp; omega))) | with_reducible apply belN | with_reducible apply belD | with_reducible assumption)) (by first | omega | (simp; done) | (simp; omega)) hb
  have hsw1 : w.heap.size + 1 ≤ w1.heap.size := by have y := hb.size; (try simp at y); omega
  have HX_aO : Hid (Box w1 (w.heap.size) #[.int .i64 a0.device, .int .i64 a0.next, .slice ao0_0 a0.writes.length cap0_0]) := Lib.hid (Box.below (Box.at (by first | rfl | simp)) hb)
  have ⟨cx_aO, zx_aO⟩ := HX_aO.out
  replace HA0 := Lib.hid (HA0.out.below hw)
  replace HB := Lib.hid (below_call HB.out HB.out.size hw)
  clear hw
  clear hb
  have hz := szOf_spec ((a0).wt) (1048576)
  by_cases hv_aO : ¬ (((a0).wt : Nat) : Int) ≤ 1048576
  · rw [hz.2 hv_aO]; clear hz
    go_wp2
    all_goals go_ret
    have y := HB.out
    exact ⟨rfl, (by repeat (first | with_reducible exact belR | with_reducible apply belA | (with_reducible refine belS ?_ ?_; focus (first | omega | (simp; done) | (simp; omega))) | with_reducible apply belN | with_reducible apply belD | with_reducible assumption))⟩
  rw [Decidable.not_not] at hv_aO
  rw [hz.1 hv_aO]; clear hz
  go_wp2_with fail
  refine (toOutbox _ a0 _ (HA0.out.reads.below (by repeat (first | with_reducible exact belR | with_reducible apply belA | (with_reducible refine belS ?_ ?_; focus (first | omega | (simp; done) | (simp; omega))) | with_reducible apply belN | with_reducible apply belD | with_reducible assumption))) (by first | omega | (simp [DOutbox.wt]))).mono ?_
  rintro e w2 ⟨d_w0_aO, rfl, hf, hb⟩
  obtain ⟨ao_w0_aO_0, cap_w0_aO_0, rfl⟩ := DOutbox.fshape hf
  obtain ⟨fp__w0_aO, o__w0_aO⟩ := Fresh.own hf (lo := w1.heap.size) (by first | omega | (simp; done) | (simp; omega))
  have H__w0_aO := Lib.hid o__w0_aO; clear o__w0_aO
  have hw : Below w1.heap.size w1 w2 := below_call (by repeat (first | with_reducible exact belR | with_reducible apply belA | (with_reducible refine belS ?_ ?_; focus (first | omega | (simp; done) | (simp; omega))) | with_reducible apply belN | with_reducible apply belD | with_reducible assumption)) (by first | omega | (simp; done) | (simp; omega)) hb
  have hsw2 : w1.heap.size ≤ w2.heap.size := by have y := hb.size; (try simp at y); omega
  clear cx_aO zx_aO
  replace HX_aO := Lib.hid (HX_aO.out.below hw)
  have ⟨cx_aO, zx_aO⟩ := HX_aO.out
  replace HA0 := Lib.hid (HA0.out.below hw)
  replace HB := Lib.hid (below_call HB.out HB.out.size hw)
  clear hw
  clear hb hf
  go_wp2_with fail
  refine (hS _ a0 _ (H__w0_aO.out.reads.below (by repeat (first | with_reducible exact belR | with_reducible apply belA | (with_reducible refine belS ?_ ?_; focus (first | omega | (simp; done) | (simp; omega))) | with_reducible apply belN | with_reducible apply belD | with_reducible assumption))) (by first | omega | exact hv_aO)).mono ?_
  rintro e w3 ⟨d_w_0, rfl, hf0, hb⟩
  obtain ⟨_, y_w0, _⟩ := id hf0
  obtain ⟨rfl, _, _, _⟩ := DWrite.rd.1 y_w0
  clear y_w0
  have H_w0 := Lib.hid (Fresh.reads' hf0)
  have hw : Below w2.heap.size w2 w3 := below_call (by repeat (first | with_reducible exact belR | with_reducible apply belA | (with_reducible refine belS ?_ ?_; focus (first | omega | (simp; done) | (simp; omega))) | with_reducible apply belN | with_reducible apply belD | with_reducible assumption)) (by first | omega | (simp; done) | (simp; omega)) hb
  have hsw3 : w2.heap.size ≤ w3.heap.size := by have y := hb.size; (try simp at y); omega
  clear cx_aO zx_aO
  replace HX_aO := Lib.hid (HX_aO.out.below hw)
  have ⟨cx_aO, zx_aO⟩ := HX_aO.out
  replace HA0 := Lib.hid (HA0.out.below hw)
  replace H__w0_aO := Lib.hid (H__w0_aO.out.below hw)
  replace HB := Lib.hid (below_call HB.out HB.out.size hw)
  clear hw
  clear hb
  clear H__w0_aO
  go_wp2_with fail
  refine (toOutbox _ a0 _ (HA0.out.reads.below (by repeat (first | with_reducible exact belR | with_reducible apply belA | (with_reducible refine belS ?_ ?_; focus (first | omega | (simp; done) | (simp; omega))) | with_reducible apply belN | with_reducible apply belD | with_reducible assumption))) (by first | omega | (simp [DOutbox.wt]))).mono ?_
  rintro e w4 ⟨d_x0, rfl, hf, hb⟩
  obtain ⟨ao_x0_0, cap_x0_0, rfl⟩ := DOutbox.fshape hf
  obtain ⟨fp_x0, o_x0⟩ := Fresh.own hf (lo := w3.heap.size + 1) (by first | omega | (simp; done) | (simp; omega))
  have H_x0 := Lib.hid o_x0; clear o_x0
  have hw : Below w3.heap.size w3 w4 := below_call (by repeat (first | with_reducible exact belR | with_reducible apply belA | (with_reducible refine belS ?_ ?_; focus (first | omega | (simp; done) | (simp; omega))) | with_reducible apply belN | with_reducible apply belD | with_reducible assumption)) (by first | omega | (simp; done) | (simp; omega)) hb
  have hsw4 : w3.heap.size + 1 ≤ w4.heap.size := by have y := hb.size; (try simp at y); omega
  clear cx_aO zx_aO
  replace HX_aO := Lib.hid (HX_aO.out.below hw)
  have HX_w0 : Hid (Box w4 (w3.heap.size) #[.int .i64 ((f0 a0)).device, .int .i64 ((f0 a0)).seq, .int .i64 ((f0 a0)).key.kind, .int .i64 ((f0 a0)).key.n, .string ((f0 a0)).key.text, .string ((f0 a0)).field, .int .i64 ((f0 a0)).n]) := Lib.hid (Box.below (Box.at (by first | rfl | simp)) hb)
  have ⟨cx_aO, zx_aO⟩ := HX_aO.out
  have ⟨cx_w0, zx_w0⟩ := HX_w0.out
  replace HA0 := Lib.hid (HA0.out.below hw)
  replace H_w0 := Lib.hid (H_w0.out.below hw)
  replace HB := Lib.hid (below_call HB.out HB.out.size hw)
  clear hw
  clear hb hf
  go_wp2_with fail
  refine (hI _ a0 _ (H_x0.out.reads.below (by repeat (first | with_reducible exact belR | with_reducible apply belA | (with_reducible refine belS ?_ ?_; focus (first | omega | (simp; done) | (simp; omega))) | with_reducible apply belN | with_reducible apply belD | with_reducible assumption))) (by first | omega | exact hv_aO)).mono ?_
  rintro e w5 ⟨d_g_0, rfl, hf0, hb⟩
  obtain ⟨_, y_g0, _⟩ := id hf0
  obtain ⟨rfl, _, _, _⟩ := DWrite.rd.1 y_g0
  clear y_g0
  have H_g0 := Lib.hid (Fresh.reads' hf0)
  have hw : Below w4.heap.size w4 w5 := below_call (by repeat (first | with_reducible exact belR | with_reducible apply belA | (with_reducible refine belS ?_ ?_; focus (first | omega | (simp; done) | (simp; omega))) | with_reducible apply belN | with_reducible apply belD | with_reducible assumption)) (by first | omega | (simp; done) | (simp; omega)) hb
  have hsw5 : w4.heap.size + 1 ≤ w5.heap.size := by have y := hb.size; (try simp at y); omega
  clear cx_aO zx_aO
  replace HX_aO := Lib.hid (HX_aO.out.below hw)
  clear cx_w0 zx_w0
  replace HX_w0 := Lib.hid (HX_w0.out.below hw)
  have HX_x0 : Hid (Box w5 (w4.heap.size) #[.int .i64 (a0).device, .int .i64 (a0).next, .slice ao_x0_0 (a0).writes.length cap_x0_0]) := Lib.hid (Box.below (Box.at (by first | rfl | simp)) hb)
  have ⟨cx_aO, zx_aO⟩ := HX_aO.out
  have ⟨cx_w0, zx_w0⟩ := HX_w0.out
  have ⟨cx_x0, zx_x0⟩ := HX_x0.out
  replace HA0 := Lib.hid (HA0.out.below hw)
  replace H_w0 := Lib.hid (H_w0.out.below hw)
  replace H_x0 := Lib.hid (H_x0.out.below hw)
  replace HB := Lib.hid (below_call HB.out HB.out.size hw)
  clear hw
  clear hb
  go_wp2_with fail
  refine (eqWrite _ _ (f0 a0) _ (H_g0.out.reads.below (by repeat (first | with_reducible exact belR | with_reducible apply belA | (with_reducible refine belS ?_ ?_; focus (first | omega | (simp; done) | (simp; omega))) | with_reducible apply belN | with_reducible apply belD | with_reducible assumption))) (H_w0.out.reads.below (by repeat (first | with_reducible exact belR | with_reducible apply belA | (with_reducible refine belS ?_ ?_; focus (first | omega | (simp; done) | (simp; omega))) | with_reducible apply belN | with_reducible apply belD | with_reducible assumption)))).mono ?_
  rintro e w6 ⟨rfl, hb⟩
  have hw : Below w5.heap.size w5 w6 := below_call (by repeat (first | with_reducible exact belR | with_reducible apply belA | (with_reducible refine belS ?_ ?_; focus (first | omega | (simp; done) | (simp; omega))) | with_reducible apply belN | with_reducible apply belD | with_reducible assumption)) (by first | omega | (simp; done) | (simp; omega)) hb
  have hsw6 : w5.heap.size + 1 ≤ w6.heap.size := by have y := hb.size; (try simp at y); omega
  clear cx_aO zx_aO
  replace HX_aO := Lib.hid (HX_aO.out.below hw)
  clear cx_w0 zx_w0
  replace HX_w0 := Lib.hid (HX_w0.out.below hw)
  clear cx_x0 zx_x0
  replace HX_x0 := Lib.hid (HX_x0.out.below hw)
  have HX_g0 : Hid (Box w6 (w5.heap.size) #[.int .i64 ((f0 a0)).device, .int .i64 ((f0 a0)).seq, .int .i64 ((f0 a0)).key.kind, .int .i64 ((f0 a0)).key.n, .string ((f0 a0)).key.text, .string ((f0 a0)).field, .int .i64 ((f0 a0)).n]) := Lib.hid (Box.below (Box.at (by first | rfl | simp)) hb)
  have ⟨cx_aO, zx_aO⟩ := HX_aO.out
  have ⟨cx_w0, zx_w0⟩ := HX_w0.out
  have ⟨cx_x0, zx_x0⟩ := HX_x0.out
  have ⟨cx_g0, zx_g0⟩ := HX_g0.out
  replace HA0 := Lib.hid (HA0.out.below hw)
  replace H_w0 := Lib.hid (H_w0.out.below hw)
  replace H_x0 := Lib.hid (H_x0.out.below hw)
  replace H_g0 := Lib.hid (H_g0.out.below hw)
  replace HB := Lib.hid (below_call HB.out HB.out.size hw)
  clear hw
  clear hb
  go_wp2_with fail
  refine settle (fun W' => Below w6.heap.size w6 W' ∧ w6.heap.size ≤ W'.heap.size) ⟨(by repeat (first | with_reducible exact belR | with_reducible apply belA | (with_reducible refine belS ?_ ?_; focus (first | omega | (simp; done) | (simp; omega))) | with_reducible apply belN | with_reducible apply belD | with_reducible assumption)), (by first | omega | (simp; done) | (simp; omega))⟩ ?_
  rintro w7 ⟨hw, hsw7⟩
  clear cx_aO zx_aO
  replace HX_aO := Lib.hid (HX_aO.out.below hw)
  clear cx_w0 zx_w0
  replace HX_w0 := Lib.hid (HX_w0.out.below hw)
  clear cx_x0 zx_x0
  replace HX_x0 := Lib.hid (HX_x0.out.below hw)
  clear cx_g0 zx_g0
  replace HX_g0 := Lib.hid (HX_g0.out.below hw)
  have ⟨cx_aO, zx_aO⟩ := HX_aO.out
  have ⟨cx_w0, zx_w0⟩ := HX_w0.out
  have ⟨cx_x0, zx_x0⟩ := HX_x0.out
  have ⟨cx_g0, zx_g0⟩ := HX_g0.out
  replace HA0 := Lib.hid (HA0.out.below hw)
  replace H_w0 := Lib.hid (H_w0.out.below hw)
  replace H_x0 := Lib.hid (H_x0.out.below hw)
  replace H_g0 := Lib.hid (H_g0.out.below hw)
  replace HB := Lib.hid (below_call HB.out HB.out.size hw)
  clear hw
  go_region_held3 (fun w' => (∀ o, w'.cell? ⟨w4.heap.size, o, none⟩ = #[.int .i64 (a0).device, .int .i64 (a0).next, .slice ao_x0_0 (a0).writes.length cap_x0_0][o]?) ∧ (∀ o, w'.cell? ⟨w.heap.size, o, none⟩ = #[.int .i64 a0.device, .int .i64 a0.next, .slice ao0_0 a0.writes.length cap0_0][o]?) ∧ Below w7.heap.size w7 w')
    (first | exact ⟨fun o => (World.cell?_drew _ _ |>.trans <| hq_E9.cell (p := ⟨w4.heap.size, o, none⟩) zx_x0).trans (cx_x0 o), fun o => (World.cell?_drew _ _ |>.trans <| hq_E9.cell (p := ⟨w.heap.size, o, none⟩) zx_aO).trans (cx_aO o), belD hq_E9⟩ | exact ⟨fun o => (hq_E9.cell (p := ⟨w4.heap.size, o, none⟩) zx_x0).trans (cx_x0 o), fun o => (hq_E9.cell (p := ⟨w.heap.size, o, none⟩) zx_aO).trans (cx_aO o), hq_E9⟩ | exact ⟨fun o => (World.cell?_drew _ _ |>.trans <| hq_x0_e7.cell (p := ⟨w4.heap.size, o, none⟩) zx_x0).trans (cx_x0 o), fun o => (World.cell?_drew _ _ |>.trans <| hq_x0_e7.cell (p := ⟨w.heap.size, o, none⟩) zx_aO).trans (cx_aO o), belD hq_x0_e7⟩ | exact ⟨fun o => (hq_x0_e7.cell (p := ⟨w4.heap.size, o, none⟩) zx_x0).trans (cx_x0 o), fun o => (hq_x0_e7.cell (p := ⟨w.heap.size, o, none⟩) zx_aO).trans (cx_aO o), hq_x0_e7⟩ | exact ⟨cx_x0, cx_aO, belR⟩ | exact ⟨cx_x0, cx_aO, belD belR⟩)
    (first | (go_at_call 42; have hx := hq_x0_e7; clear hx; have hS_E9 := ‹_ ∧ _ ∧ Below w7.heap.size w7 _›; refine (eqOutbox _ _ a0 _ (H_x0.out.reads.below hS_E9.2.2) (hr_x0_e7.below (by first | exact belR | exact belD belR | exact belN (belD belR)))).mono ?_; rintro e w9 ⟨rfl, hb_E9⟩; have hq_E9 : Below w7.heap.size w7 w9 := below_call hS_E9.2.2 hS_E9.2.2.size hb_E9; clear hS_E9) | (go_at_call 39; have hS_x0_e7 := ‹_ ∧ _ ∧ Below w7.heap.size w7 _›; refine (toOutbox _ a0 _ (HA0.out.reads.below hS_x0_e7.2.2) (by first | omega | (simp [DOutbox.wt]))).mono ?_; rintro e w8 ⟨d_x0_e7, rfl, hf_x0_e7, hb_x0_e7⟩; have hq_x0_e7 : Below w7.heap.size w7 w8 := below_call hS_x0_e7.2.2 hS_x0_e7.2.2.size hb_x0_e7; clear hS_x0_e7; obtain ⟨ao_x0_e7_0, cap_x0_e7_0, rfl⟩ := DOutbox.fshape hf_x0_e7; have hr_x0_e7 := hf_x0_e7.reads))
  have hw := hq_E9
  have hsw9 : w7.heap.size ≤ w9.heap.size := hq_E9.size
  clear cx_aO zx_aO
  replace HX_aO := Lib.hid (HX_aO.out.below hw)
  clear cx_w0 zx_w0
  replace HX_w0 := Lib.hid (HX_w0.out.below hw)
  clear cx_x0 zx_x0
  replace HX_x0 := Lib.hid (HX_x0.out.below hw)
  clear cx_g0 zx_g0
  replace HX_g0 := Lib.hid (HX_g0.out.below hw)
  have ⟨cx_aO, zx_aO⟩ := HX_aO.out
  have ⟨cx_w0, zx_w0⟩ := HX_w0.out
  have ⟨cx_x0, zx_x0⟩ := HX_x0.out
  have ⟨cx_g0, zx_g0⟩ := HX_g0.out
  replace HA0 := Lib.hid (HA0.out.below hw)
  replace H_w0 := Lib.hid (H_w0.out.below hw)
  replace H_x0 := Lib.hid (H_x0.out.below hw)
  replace H_g0 := Lib.hid (H_g0.out.below hw)
  replace HB := Lib.hid (below_call HB.out HB.out.size hw)
  clear hw
  go_wp2_with fail
  go_ret
  have y := HB.out
  exact ⟨rfl, (by repeat (first | with_reducible exact belR | with_reducible apply belA | (with_reducible refine belS ?_ ?_; focus (first | omega | (simp; done) | (simp; omega))) | with_reducible apply belN | with_reducible apply belD | with_reducible assumption))⟩

set_option maxRecDepth 100000 in
set_option maxHeartbeats 1000000 in
theorem firstWrite_lifted (f0 : DOutbox → DWrite) (f1 : DOutbox → Bool) (hS : SaidFirstWrite f0 f1 38) (hI : SaidFirstWrite f0 f1 40) (os : Os) (started : os.Started) (H : Type) (enc : TypeId × Value → H) :
    ReturnsInHanded {} Try.checked os 7 .any (Rows.fnExactFirstWriteSpec.pre6 enc Try.prog Try.f7 Rows.fnExactFirstWriteRow.domain false) (Rows.fnExactFirstWriteSpec.post enc Try.prog Try.f7 false true false false) := by
  refine law_lift (C := Try.checked) Try.own started (by kernel_rfl) Try.func7 Try.laidOut (by kernel_rfl) rfl Try.underlying4 rfl ?_
    (ChangeSpec.witness6 (enc := enc) (C := Try.checked) false ⟨#[], #[.agg #[.int .i64 0, .int .i64 0, .slice none 0 0]], []⟩ 8 (by kernel_rfl) (by kernel_rfl) (by kernel_rfl) (by kernel_rfl)) ?_
  · intro ds h
    match ds, h with
    | [_], _ => rfl
  · intro W base args ds ps hval hA0
    have hA : DataW.TrodAll enc Try.prog W 0 (fun _ => true) true Try.f7.params.toList args.toList ds ps := hA0
    rw [Try.params7] at hA hval
    obtain ⟨v0, _, _, rfl, t0⟩ := trodAll_open1 hA
    obtain ⟨c0, a0, rfl, r0⟩ := arg_struct Try.underlying62 DOutbox.opens_laws (hval 0 62 v0 rfl rfl) t0
    exact lawFirstWrite f0 f1 hS hI c0.toList a0 W r0

theorem firstWrite_of (f0 : DOutbox → DWrite) (f1 : DOutbox → Bool) (hS : SaidFirstWrite f0 f1 38) (hI : SaidFirstWrite f0 f1 40) : Rows.FnExactFirstWriteSaid :=
  OpenClaim.holds_of_wide 7 Try.f7 rfl rfl rfl rfl rfl rfl rfl ⟨rfl, rfl, rfl, rfl, rfl⟩ rfl rfl rfl rfl rfl (by kernel_rfl) Try.func7 (by kernel_rfl)
    (of_decide_eq_true (by kernel_rfl)) (by unfold Func.isWrapper; rw [if_neg (by decide +kernel)]; exact ⟨rfl, rfl⟩)
    (fun os started H enc _ => firstWrite_lifted f0 f1 hS hI os started H enc)

end Go.Proofs.Ytjjaghnblljleaa
