/-
  FnExactIsLockTable: the law's walk, and its row, off the contracts of impl.IsLockTable and spec.IsLockTable.
-/
import Derived.Test.YtjjaghnblljleaaLLockTable
import Derived.Test.YtjjaghnblljleaaMarkSl
import Derived.Test.YtjjaghnblljleaaSlices
import Derived.Test.YtjjaghnblljleaaLaw
import Derived.Test.YtjjaghnblljleaaEnv
namespace Go.Proofs.Ytjjaghnblljleaa
open Go.RowKit Go.ChangeShapes

/-- What impl.IsLockTable and spec.IsLockTable are both shown to compute. -/
def SaidIsLockTable (f0 : DLockTable → Bool) (f : FuncId) : Prop :=
  ∀ (c0 : List Value) (a0 : DLockTable) (w : World) (_h0 : Reads DLockTable.rep w c0 a0)(_s0 : (a0).wt ≤ 1048576), Calls Try.prog f #[.agg c0.toArray] w fun e w' => e = .returned (.bool (f0 a0)) ∧ Below w.heap.size w w'

set_option maxRecDepth 100000 in
set_option maxHeartbeats 16000000 in
theorem lawIsLockTable (f0 : DLockTable → Bool) (hS : SaidIsLockTable f0 36) (hI : SaidIsLockTable f0 24) (c0 : List Value) (a0 : DLockTable) (w : World) (h0 : Reads DLockTable.rep w c0 a0)  :
    Calls Try.prog 6 #[.agg c0.toArray] w fun e w' => e = .returned (.bool true) ∧ Below w.heap.size w w' := by
  have HA0 := Lib.hid (Low.start h0)
  obtain ⟨fp, hr⟩ := h0
  obtain ⟨ao0_0, cap0_0, rfl⟩ := DLockTable.shape hr
  clear hr
  have HB : Hid (Below w.heap.size w w) := Lib.hid belR
  go_enter Try.func6, Try.ntmps6
  go_wp2_with fail
  refine (szLockTable _ a0 (1048576) _ (HA0.out.reads.below (by repeat (first | with_reducible exact belR | with_reducible apply belA | (with_reducible refine belS ?_ ?_; focus (first | omega | (simp; done) | (simp; omega))) | with_reducible apply belN | with_reducible apply belD | with_reducible assumption))) (by omega) (by omega)).mono ?_
  rintro e w1 ⟨rfl, hb⟩
  have hw : Below w.heap.size w w1 := below_call (by repeat (first | with_reducible exact belR | with_reducible apply belA | (with_reducible refine belS ?_ ?_; focus (first | omega | (simp; done) | (simp; omega))) | with_reducible apply belN | with_reducible apply belD | with_reducible assumption)) (by first | omega | (simp; done) | (simp; omega)) hb
  have hsw1 : w.heap.size + 1 ≤ w1.heap.size := by have y := hb.size; (try simp at y); omega
  have HX_aT : Hid (Box w1 (w.heap.size) #[.slice ao0_0 a0.locks.length cap0_0]) := Lib.hid (Box.below (Box.at (by first | rfl | simp)) hb)
  have ⟨cx_aT, zx_aT⟩ := HX_aT.out
  replace HA0 := Lib.hid (HA0.out.below hw)
  replace HB := Lib.hid (below_call HB.out HB.out.size hw)
  clear hw
  clear hb
  have hz := szOf_spec ((a0).wt) (1048576)
  by_cases hv_aT : ¬ (((a0).wt : Nat) : Int) ≤ 1048576
  · rw [hz.2 hv_aT]; clear hz
    go_wp2
    all_goals go_ret
    have y := HB.out
    exact ⟨rfl, (by repeat (first | with_reducible exact belR | with_reducible apply belA | (with_reducible refine belS ?_ ?_; focus (first | omega | (simp; done) | (simp; omega))) | with_reducible apply belN | with_reducible apply belD | with_reducible assumption))⟩
  rw [Decidable.not_not] at hv_aT
  rw [hz.1 hv_aT]; clear hz
  go_wp2_with fail
  refine (toLockTable _ a0 _ (HA0.out.reads.below (by repeat (first | with_reducible exact belR | with_reducible apply belA | (with_reducible refine belS ?_ ?_; focus (first | omega | (simp; done) | (simp; omega))) | with_reducible apply belN | with_reducible apply belD | with_reducible assumption))) (by first | omega | (simp [DLockTable.wt]))).mono ?_
  rintro e w2 ⟨d_w0_aT, rfl, hf, hb⟩
  obtain ⟨ao_w0_aT_0, cap_w0_aT_0, rfl⟩ := DLockTable.fshape hf
  obtain ⟨fp__w0_aT, o__w0_aT⟩ := Fresh.own hf (lo := w1.heap.size) (by first | omega | (simp; done) | (simp; omega))
  have H__w0_aT := Lib.hid o__w0_aT; clear o__w0_aT
  have hw : Below w1.heap.size w1 w2 := below_call (by repeat (first | with_reducible exact belR | with_reducible apply belA | (with_reducible refine belS ?_ ?_; focus (first | omega | (simp; done) | (simp; omega))) | with_reducible apply belN | with_reducible apply belD | with_reducible assumption)) (by first | omega | (simp; done) | (simp; omega)) hb
  have hsw2 : w1.heap.size ≤ w2.heap.size := by have y := hb.size; (try simp at y); omega
  clear cx_aT zx_aT
  replace HX_aT := Lib.hid (HX_aT.out.below hw)
  have ⟨cx_aT, zx_aT⟩ := HX_aT.out
  replace HA0 := Lib.hid (HA0.out.below hw)
  replace HB := Lib.hid (below_call HB.out HB.out.size hw)
  clear hw
  clear hb hf
  go_wp2_with fail
  refine (hS _ a0 _ (H__w0_aT.out.reads.below (by repeat (first | with_reducible exact belR | with_reducible apply belA | (with_reducible refine belS ?_ ?_; focus (first | omega | (simp; done) | (simp; omega))) | with_reducible apply belN | with_reducible apply belD | with_reducible assumption))) (by first | omega | exact hv_aT)).mono ?_
  rintro e w3 ⟨rfl, hb⟩
  have hw : Below w2.heap.size w2 w3 := below_call (by repeat (first | with_reducible exact belR | with_reducible apply belA | (with_reducible refine belS ?_ ?_; focus (first | omega | (simp; done) | (simp; omega))) | with_reducible apply belN | with_reducible apply belD | with_reducible assumption)) (by first | omega | (simp; done) | (simp; omega)) hb
  have hsw3 : w2.heap.size ≤ w3.heap.size := by have y := hb.size; (try simp at y); omega
  clear cx_aT zx_aT
  replace HX_aT := Lib.hid (HX_aT.out.below hw)
  have ⟨cx_aT, zx_aT⟩ := HX_aT.out
  replace HA0 := Lib.hid (HA0.out.below hw)
  replace H__w0_aT := Lib.hid (H__w0_aT.out.below hw)
  replace HB := Lib.hid (below_call HB.out HB.out.size hw)
  clear hw
  clear hb
  clear H__w0_aT
  go_wp2_with fail
  refine (toLockTable _ a0 _ (HA0.out.reads.below (by repeat (first | with_reducible exact belR | with_reducible apply belA | (with_reducible refine belS ?_ ?_; focus (first | omega | (simp; done) | (simp; omega))) | with_reducible apply belN | with_reducible apply belD | with_reducible assumption))) (by first | omega | (simp [DLockTable.wt]))).mono ?_
  rintro e w4 ⟨d_x0, rfl, hf, hb⟩
  obtain ⟨ao_x0_0, cap_x0_0, rfl⟩ := DLockTable.fshape hf
  obtain ⟨fp_x0, o_x0⟩ := Fresh.own hf (lo := w3.heap.size) (by first | omega | (simp; done) | (simp; omega))
  have H_x0 := Lib.hid o_x0; clear o_x0
  have hw : Below w3.heap.size w3 w4 := below_call (by repeat (first | with_reducible exact belR | with_reducible apply belA | (with_reducible refine belS ?_ ?_; focus (first | omega | (simp; done) | (simp; omega))) | with_reducible apply belN | with_reducible apply belD | with_reducible assumption)) (by first | omega | (simp; done) | (simp; omega)) hb
  have hsw4 : w3.heap.size ≤ w4.heap.size := by have y := hb.size; (try simp at y); omega
  clear cx_aT zx_aT
  replace HX_aT := Lib.hid (HX_aT.out.below hw)
  have ⟨cx_aT, zx_aT⟩ := HX_aT.out
  replace HA0 := Lib.hid (HA0.out.below hw)
  replace HB := Lib.hid (below_call HB.out HB.out.size hw)
  clear hw
  clear hb hf
  go_wp2_with fail
  refine (hI _ a0 _ (H_x0.out.reads.below (by repeat (first | with_reducible exact belR | with_reducible apply belA | (with_reducible refine belS ?_ ?_; focus (first | omega | (simp; done) | (simp; omega))) | with_reducible apply belN | with_reducible apply belD | with_reducible assumption))) (by first | omega | exact hv_aT)).mono ?_
  rintro e w5 ⟨rfl, hb⟩
  have hw : Below w4.heap.size w4 w5 := below_call (by repeat (first | with_reducible exact belR | with_reducible apply belA | (with_reducible refine belS ?_ ?_; focus (first | omega | (simp; done) | (simp; omega))) | with_reducible apply belN | with_reducible apply belD | with_reducible assumption)) (by first | omega | (simp; done) | (simp; omega)) hb
  have hsw5 : w4.heap.size + 1 ≤ w5.heap.size := by have y := hb.size; (try simp at y); omega
  clear cx_aT zx_aT
  replace HX_aT := Lib.hid (HX_aT.out.below hw)
  have HX_x0 : Hid (Box w5 (w4.heap.size) #[.slice ao_x0_0 (a0).locks.length cap_x0_0]) := Lib.hid (Box.below (Box.at (by first | rfl | simp)) hb)
  have ⟨cx_aT, zx_aT⟩ := HX_aT.out
  have ⟨cx_x0, zx_x0⟩ := HX_x0.out
  replace HA0 := Lib.hid (HA0.out.below hw)
  replace H_x0 := Lib.hid (H_x0.out.below hw)
  replace HB := Lib.hid (below_call HB.out HB.out.size hw)
  clear hw
  clear hb
  go_wp2_with fail
  refine settle (fun W' => Below w5.heap.size w5 W' ∧ w5.heap.size ≤ W'.heap.size) ⟨(by repeat (first | with_reducible exact belR | with_reducible apply belA | (with_reducible refine belS ?_ ?_; focus (first | omega | (simp; done) | (simp; omega))) | with_reducible apply belN | with_reducible apply belD | with_reducible assumption)), (by first | omega | (simp; done) | (simp; omega))⟩ ?_
  rintro w6 ⟨hw, hsw6⟩
  clear cx_aT zx_aT
  replace HX_aT := Lib.hid (HX_aT.out.below hw)
  clear cx_x0 zx_x0
  replace HX_x0 := Lib.hid (HX_x0.out.below hw)
  have ⟨cx_aT, zx_aT⟩ := HX_aT.out
  have ⟨cx_x0, zx_x0⟩ := HX_x0.out
  replace HA0 := Lib.hid (HA0.out.below hw)
  replace H_x0 := Lib.hid (H_x0.out.below hw)
  replace HB := Lib.hid (below_call HB.out HB.out.size hw)
  clear hw
  go_region_held3 (fun w' => (∀ o, w'.cell? ⟨w4.heap.size, o, none⟩ = #[.slice ao_x0_0 (a0).locks.length cap_x0_0][o]?) ∧ (∀ o, w'.cell? ⟨w.heap.size, o, none⟩ = #[.slice ao0_0 a0.locks.length cap0_0][o]?) ∧ Below w6.heap.size w6 w')
    (first | exact ⟨fun o => (World.cell?_drew _ _ |>.trans <| hq_E8.cell (p := ⟨w4.heap.size, o, none⟩) zx_x0).trans (cx_x0 o), fun o => (World.cell?_drew _ _ |>.trans <| hq_E8.cell (p := ⟨w.heap.size, o, none⟩) zx_aT).trans (cx_aT o), belD hq_E8⟩ | exact ⟨fun o => (hq_E8.cell (p := ⟨w4.heap.size, o, none⟩) zx_x0).trans (cx_x0 o), fun o => (hq_E8.cell (p := ⟨w.heap.size, o, none⟩) zx_aT).trans (cx_aT o), hq_E8⟩ | exact ⟨fun o => (World.cell?_drew _ _ |>.trans <| hq_x0_e6.cell (p := ⟨w4.heap.size, o, none⟩) zx_x0).trans (cx_x0 o), fun o => (World.cell?_drew _ _ |>.trans <| hq_x0_e6.cell (p := ⟨w.heap.size, o, none⟩) zx_aT).trans (cx_aT o), belD hq_x0_e6⟩ | exact ⟨fun o => (hq_x0_e6.cell (p := ⟨w4.heap.size, o, none⟩) zx_x0).trans (cx_x0 o), fun o => (hq_x0_e6.cell (p := ⟨w.heap.size, o, none⟩) zx_aT).trans (cx_aT o), hq_x0_e6⟩ | exact ⟨cx_x0, cx_aT, belR⟩ | exact ⟨cx_x0, cx_aT, belD belR⟩)
    (first | (go_at_call 19; have hx := hq_x0_e6; clear hx; have hS_E8 := ‹_ ∧ _ ∧ Below w6.heap.size w6 _›; refine (eqLockTable _ _ a0 _ (H_x0.out.reads.below hS_E8.2.2) (hr_x0_e6.below (by first | exact belR | exact belD belR | exact belN (belD belR)))).mono ?_; rintro e w8 ⟨rfl, hb_E8⟩; have hq_E8 : Below w6.heap.size w6 w8 := below_call hS_E8.2.2 hS_E8.2.2.size hb_E8; clear hS_E8) | (go_at_call 17; have hS_x0_e6 := ‹_ ∧ _ ∧ Below w6.heap.size w6 _›; refine (toLockTable _ a0 _ (HA0.out.reads.below hS_x0_e6.2.2) (by first | omega | (simp [DLockTable.wt]))).mono ?_; rintro e w7 ⟨d_x0_e6, rfl, hf_x0_e6, hb_x0_e6⟩; have hq_x0_e6 : Below w6.heap.size w6 w7 := below_call hS_x0_e6.2.2 hS_x0_e6.2.2.size hb_x0_e6; clear hS_x0_e6; obtain ⟨ao_x0_e6_0, cap_x0_e6_0, rfl⟩ := DLockTable.fshape hf_x0_e6; have hr_x0_e6 := hf_x0_e6.reads))
  have hw := hq_E8
  have hsw8 : w6.heap.size ≤ w8.heap.size := hq_E8.size
  clear cx_aT zx_aT
  replace HX_aT := Lib.hid (HX_aT.out.below hw)
  clear cx_x0 zx_x0
  replace HX_x0 := Lib.hid (HX_x0.out.below hw)
  have ⟨cx_aT, zx_aT⟩ := HX_aT.out
  have ⟨cx_x0, zx_x0⟩ := HX_x0.out
  replace HA0 := Lib.hid (HA0.out.below hw)
  replace H_x0 := Lib.hid (H_x0.out.below hw)
  replace HB := Lib.hid (below_call HB.out HB.out.size hw)
  clear hw
  go_wp2_with fail
  go_ret
  have y := HB.out
  exact ⟨rfl, (by repeat (first | with_reducible exact belR | with_reducible apply belA | (with_reducible refine belS ?_ ?_; focus (first | omega | (simp; done) | (simp; omega))) | with_reducible apply belN | with_reducible apply belD | with_reducible assumption))⟩

set_option maxRecDepth 100000 in
set_option maxHeartbeats 1000000 in
theorem isLockTable_lifted (f0 : DLockTable → Bool) (hS : SaidIsLockTable f0 36) (hI : SaidIsLockTable f0 24) (os : Os) (started : os.Started) (H : Type) (enc : TypeId × Value → H) :
    ReturnsInHanded {} Try.checked os 6 .any (Rows.fnExactIsLockTableSpec.pre6 enc Try.prog Try.f6 Rows.fnExactIsLockTableRow.domain false) (Rows.fnExactIsLockTableSpec.post enc Try.prog Try.f6 false true false false) := by
  refine law_lift (C := Try.checked) Try.own started (by kernel_rfl) Try.func6 Try.laidOut (by kernel_rfl) rfl Try.underlying4 rfl ?_
    (ChangeSpec.witness6 (enc := enc) (C := Try.checked) false ⟨#[], #[.agg #[.slice none 0 0]], []⟩ 8 (by kernel_rfl) (by kernel_rfl) (by kernel_rfl) (by kernel_rfl)) ?_
  · intro ds h
    match ds, h with
    | [_], _ => rfl
  · intro W base args ds ps hval hA0
    have hA : DataW.TrodAll enc Try.prog W 0 (fun _ => true) true Try.f6.params.toList args.toList ds ps := hA0
    rw [Try.params6] at hA hval
    obtain ⟨v0, _, _, rfl, t0⟩ := trodAll_open1 hA
    obtain ⟨c0, a0, rfl, r0⟩ := arg_struct Try.underlying24 DLockTable.opens_laws (hval 0 24 v0 rfl rfl) t0
    exact lawIsLockTable f0 hS hI c0.toList a0 W r0

theorem isLockTable_of (f0 : DLockTable → Bool) (hS : SaidIsLockTable f0 36) (hI : SaidIsLockTable f0 24) : Rows.FnExactIsLockTableSaid :=
  OpenClaim.holds_of_wide 6 Try.f6 rfl rfl rfl rfl rfl rfl rfl ⟨rfl, rfl, rfl, rfl, rfl⟩ rfl rfl rfl rfl rfl (by kernel_rfl) Try.func6 (by kernel_rfl)
    (of_decide_eq_true (by kernel_rfl)) (by unfold Func.isWrapper; rw [if_neg (by decide +kernel)]; exact ⟨rfl, rfl⟩)
    (fun os started H enc _ => isLockTable_lifted f0 hS hI os started H enc)

end Go.Proofs.Ytjjaghnblljleaa
