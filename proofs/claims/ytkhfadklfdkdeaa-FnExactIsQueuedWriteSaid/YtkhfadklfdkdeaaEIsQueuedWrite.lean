/-
  FnExactIsQueuedWrite: the law's walk, and its row, off the contracts of impl.IsQueuedWrite and spec.IsQueuedWrite.
-/
import Derived.Test.YtkhfadklfdkdeaaLWrite
import Derived.Test.YtkhfadklfdkdeaaMarkSl
import Derived.Test.YtkhfadklfdkdeaaSlices
import Derived.Test.YtkhfadklfdkdeaaLaw
import Derived.Test.YtkhfadklfdkdeaaEnv
namespace Go.Proofs.Ytkhfadklfdkdeaa
open Go.RowKit Go.ChangeShapes

/-- What impl.IsQueuedWrite and spec.IsQueuedWrite are both shown to compute. -/
def SaidIsQueuedWrite (f0 : DWrite → Bool) (f : FuncId) : Prop :=
  ∀ (c0 : List Value) (a0 : DWrite) (w : World) (_h0 : Reads DWrite.rep w c0 a0)(_s0 : (a0).wt ≤ 1048576), Calls Try.prog f #[.agg c0.toArray] w fun e w' => e = .returned (.bool (f0 a0)) ∧ Below w.heap.size w w'

set_option maxRecDepth 100000 in
set_option maxHeartbeats 16000000 in
theorem lawIsQueuedWrite (f0 : DWrite → Bool) (hS : SaidIsQueuedWrite f0 25) (hI : SaidIsQueuedWrite f0 27) (c0 : List Value) (a0 : DWrite) (w : World) (h0 : Reads DWrite.rep w c0 a0)  :
    Calls Try.prog 8 #[.agg c0.toArray] w fun e w' => e = .returned (.bool true) ∧ Below w.heap.size w w' := by
  have HA0 := Lib.hid (Low.start h0)
  obtain ⟨fp, hr⟩ := h0
  obtain ⟨rfl, _, _, _⟩ := DWrite.rd.1 hr
  clear hr
  have HB : Hid (Below w.heap.size w w) := Lib.hid belR
  go_enter Try.func8, Try.ntmps8
  go_wp2_with fail
  refine (szWrite _ a0 (1048576) _ (HA0.out.reads.below (by repeat (first | with_reducible exact belR | with_reducible apply belA | (with_reducible refine belS ?_ ?_; focus (first | omega | (simp; done) | (simp; omega))) | with_reducible apply belN | with_reducible apply belD | with_reducible assumption))) (by omega) (by omega)).mono ?_
  rintro e w1 ⟨rfl, hb⟩
  have hw : Below w.heap.size w w1 := below_call (by repeat (first | with_reducible exact belR | with_reducible apply belA | (with_reducible refine belS ?_ ?_; focus (first | omega | (simp; done) | (simp; omega))) | with_reducible apply belN | with_reducible apply belD | with_reducible assumption)) (by first | omega | (simp; done) | (simp; omega)) hb
  have hsw1 : w.heap.size + 1 ≤ w1.heap.size := by have y := hb.size; (try simp at y); omega
  have HX_aW : Hid (Box w1 (w.heap.size) #[.int .i64 a0.device, .int .i64 a0.seq, .int .i64 a0.key.kind, .int .i64 a0.key.n, .string a0.key.text, .string a0.field, .int .i64 a0.n]) := Lib.hid (Box.below (Box.at (by first | rfl | simp)) hb)
  have ⟨cx_aW, zx_aW⟩ := HX_aW.out
  replace HA0 := Lib.hid (HA0.out.below hw)
  replace HB := Lib.hid (below_call HB.out HB.out.size hw)
  clear hw
  clear hb
  have hz := szOf_spec ((a0).wt) (1048576)
  by_cases hv_aW : ¬ (((a0).wt : Nat) : Int) ≤ 1048576
  · rw [hz.2 hv_aW]; clear hz
    go_wp2
    all_goals go_ret
    have y := HB.out
    exact ⟨rfl, (by repeat (first | with_reducible exact belR | with_reducible apply belA | (with_reducible refine belS ?_ ?_; focus (first | omega | (simp; done) | (simp; omega))) | with_reducible apply belN | with_reducible apply belD | with_reducible assumption))⟩
  rw [Decidable.not_not] at hv_aW
  rw [hz.1 hv_aW]; clear hz
  go_wp2_with fail
  refine (toWrite _ a0 _ (HA0.out.reads.below (by repeat (first | with_reducible exact belR | with_reducible apply belA | (with_reducible refine belS ?_ ?_; focus (first | omega | (simp; done) | (simp; omega))) | with_reducible apply belN | with_reducible apply belD | with_reducible assumption))) (by first | omega | (simp [DWrite.wt]))).mono ?_
  rintro e w2 ⟨d_w0_aW, rfl, hf, hb⟩
  obtain ⟨_, y_w0_aW, _⟩ := id hf
  obtain ⟨rfl, _, _, _⟩ := DWrite.rd.1 y_w0_aW
  clear y_w0_aW
  have H__w0_aW := Lib.hid (Fresh.reads' hf)
  have hw : Below w1.heap.size w1 w2 := below_call (by repeat (first | with_reducible exact belR | with_reducible apply belA | (with_reducible refine belS ?_ ?_; focus (first | omega | (simp; done) | (simp; omega))) | with_reducible apply belN | with_reducible apply belD | with_reducible assumption)) (by first | omega | (simp; done) | (simp; omega)) hb
  have hsw2 : w1.heap.size ≤ w2.heap.size := by have y := hb.size; (try simp at y); omega
  clear cx_aW zx_aW
  replace HX_aW := Lib.hid (HX_aW.out.below hw)
  have ⟨cx_aW, zx_aW⟩ := HX_aW.out
  replace HA0 := Lib.hid (HA0.out.below hw)
  replace HB := Lib.hid (below_call HB.out HB.out.size hw)
  clear hw
  clear hb hf
  go_wp2_with fail
  refine (hS _ a0 _ (H__w0_aW.out.reads.below (by repeat (first | with_reducible exact belR | with_reducible apply belA | (with_reducible refine belS ?_ ?_; focus (first | omega | (simp; done) | (simp; omega))) | with_reducible apply belN | with_reducible apply belD | with_reducible assumption))) (by first | omega | exact hv_aW)).mono ?_
  rintro e w3 ⟨rfl, hb⟩
  have hw : Below w2.heap.size w2 w3 := below_call (by repeat (first | with_reducible exact belR | with_reducible apply belA | (with_reducible refine belS ?_ ?_; focus (first | omega | (simp; done) | (simp; omega))) | with_reducible apply belN | with_reducible apply belD | with_reducible assumption)) (by first | omega | (simp; done) | (simp; omega)) hb
  have hsw3 : w2.heap.size ≤ w3.heap.size := by have y := hb.size; (try simp at y); omega
  clear cx_aW zx_aW
  replace HX_aW := Lib.hid (HX_aW.out.below hw)
  have ⟨cx_aW, zx_aW⟩ := HX_aW.out
  replace HA0 := Lib.hid (HA0.out.below hw)
  replace H__w0_aW := Lib.hid (H__w0_aW.out.below hw)
  replace HB := Lib.hid (below_call HB.out HB.out.size hw)
  clear hw
  clear hb
  clear H__w0_aW
  go_wp2_with fail
  refine (toWrite _ a0 _ (HA0.out.reads.below (by repeat (first | with_reducible exact belR | with_reducible apply belA | (with_reducible refine belS ?_ ?_; focus (first | omega | (simp; done) | (simp; omega))) | with_reducible apply belN | with_reducible apply belD | with_reducible assumption))) (by first | omega | (simp [DWrite.wt]))).mono ?_
  rintro e w4 ⟨d_g0_aW, rfl, hf, hb⟩
  obtain ⟨_, y_g0_aW, _⟩ := id hf
  obtain ⟨rfl, _, _, _⟩ := DWrite.rd.1 y_g0_aW
  clear y_g0_aW
  have H__g0_aW := Lib.hid (Fresh.reads' hf)
  have hw : Below w3.heap.size w3 w4 := below_call (by repeat (first | with_reducible exact belR | with_reducible apply belA | (with_reducible refine belS ?_ ?_; focus (first | omega | (simp; done) | (simp; omega))) | with_reducible apply belN | with_reducible apply belD | with_reducible assumption)) (by first | omega | (simp; done) | (simp; omega)) hb
  have hsw4 : w3.heap.size ≤ w4.heap.size := by have y := hb.size; (try simp at y); omega
  clear cx_aW zx_aW
  replace HX_aW := Lib.hid (HX_aW.out.below hw)
  have ⟨cx_aW, zx_aW⟩ := HX_aW.out
  replace HA0 := Lib.hid (HA0.out.below hw)
  replace HB := Lib.hid (below_call HB.out HB.out.size hw)
  clear hw
  clear hb hf
  go_wp2_with fail
  refine (hI _ a0 _ (H__g0_aW.out.reads.below (by repeat (first | with_reducible exact belR | with_reducible apply belA | (with_reducible refine belS ?_ ?_; focus (first | omega | (simp; done) | (simp; omega))) | with_reducible apply belN | with_reducible apply belD | with_reducible assumption))) (by first | omega | exact hv_aW)).mono ?_
  rintro e w5 ⟨rfl, hb⟩
  have hw : Below w4.heap.size w4 w5 := below_call (by repeat (first | with_reducible exact belR | with_reducible apply belA | (with_reducible refine belS ?_ ?_; focus (first | omega | (simp; done) | (simp; omega))) | with_reducible apply belN | with_reducible apply belD | with_reducible assumption)) (by first | omega | (simp; done) | (simp; omega)) hb
  have hsw5 : w4.heap.size ≤ w5.heap.size := by have y := hb.size; (try simp at y); omega
  clear cx_aW zx_aW
  replace HX_aW := Lib.hid (HX_aW.out.below hw)
  have ⟨cx_aW, zx_aW⟩ := HX_aW.out
  replace HA0 := Lib.hid (HA0.out.below hw)
  replace H__g0_aW := Lib.hid (H__g0_aW.out.below hw)
  replace HB := Lib.hid (below_call HB.out HB.out.size hw)
  clear hw
  clear hb
  clear H__g0_aW
  go_wp2_with fail
  go_ret
  have y := HB.out
  exact ⟨rfl, (by repeat (first | with_reducible exact belR | with_reducible apply belA | (with_reducible refine belS ?_ ?_; focus (first | omega | (simp; done) | (simp; omega))) | with_reducible apply belN | with_reducible apply belD | with_reducible assumption))⟩

set_option maxHeartbeats 1000000 in
theorem isQueuedWrite_lifted (f0 : DWrite → Bool) (hS : SaidIsQueuedWrite f0 25) (hI : SaidIsQueuedWrite f0 27) (os : Os) (started : os.Started) (H : Type) (enc : TypeId × Value → H) :
    ReturnsInHanded {} Try.checked os 8 .any (Rows.fnExactIsQueuedWriteSpec.pre6 enc Try.prog Try.f8 Rows.fnExactIsQueuedWriteRow.domain false) (Rows.fnExactIsQueuedWriteSpec.post enc Try.prog Try.f8 false true false false) := by
  refine law_lift (C := Try.checked) Try.own started (by kernel_rfl) Try.func8 Try.laidOut (by kernel_rfl) rfl Try.underlying4 rfl ?_
    (ChangeSpec.witness6 (enc := enc) (C := Try.checked) false ⟨#[], #[.agg #[.int .i64 0, .int .i64 0, .int .i64 0, .int .i64 0, .string ByteArray.empty, .string ByteArray.empty, .int .i64 0]], []⟩ 8 (by kernel_rfl) (by kernel_rfl) (by kernel_rfl) (by kernel_rfl)) ?_
  · intro ds h
    match ds, h with
    | [_], _ => rfl
  · intro W base args ds ps hval hA0
    have hA : DataW.TrodAll enc Try.prog W 0 (fun _ => true) true Try.f8.params.toList args.toList ds ps := hA0
    rw [Try.params8] at hA hval
    obtain ⟨v0, _, _, rfl, t0⟩ := trodAll_open1 hA
    obtain ⟨c0, a0, rfl, r0⟩ := arg_struct Try.underlying45 DWrite.opens_laws (hval 0 45 v0 rfl rfl) t0
    exact lawIsQueuedWrite f0 hS hI c0.toList a0 W r0

theorem isQueuedWrite_of (f0 : DWrite → Bool) (hS : SaidIsQueuedWrite f0 25) (hI : SaidIsQueuedWrite f0 27) : Rows.FnExactIsQueuedWriteSaid :=
  OpenClaim.holds_of_wide 8 Try.f8 rfl rfl rfl rfl rfl rfl rfl ⟨rfl, rfl, rfl, rfl, rfl⟩ rfl rfl rfl rfl rfl (by kernel_rfl) Try.func8 (by kernel_rfl)
    (of_decide_eq_true (by kernel_rfl)) (by unfold Func.isWrapper; rw [if_neg (by decide +kernel)]; exact ⟨rfl, rfl⟩)
    (fun os started H enc _ => isQueuedWrite_lifted f0 hS hI os started H enc)

end Go.Proofs.Ytkhfadklfdkdeaa
