/-
  FnExactIsSubscription: the law's walk, and its row, off the contracts of impl.IsSubscription and spec.IsSubscription.
-/
import Derived.Test.YtkhfadklfdkdeaaLSubscription
import Derived.Test.YtkhfadklfdkdeaaMarkSl
import Derived.Test.YtkhfadklfdkdeaaSlices
import Derived.Test.YtkhfadklfdkdeaaLaw
import Derived.Test.YtkhfadklfdkdeaaEnv
namespace Go.Proofs.Ytkhfadklfdkdeaa
open Go.RowKit Go.ChangeShapes

/-- What impl.IsSubscription and spec.IsSubscription are both shown to compute. -/
def SaidIsSubscription (f0 : DSubscription → Bool) (f : FuncId) : Prop :=
  ∀ (c0 : List Value) (a0 : DSubscription) (w : World) (_h0 : Reads DSubscription.rep w c0 a0)(_s0 : (a0).wt ≤ 1048576), Calls Try.prog f #[.agg c0.toArray] w fun e w' => e = .returned (.bool (f0 a0)) ∧ Below w.heap.size w w'

set_option maxRecDepth 100000 in
set_option maxHeartbeats 16000000 in
theorem lawIsSubscription (f0 : DSubscription → Bool) (hS : SaidIsSubscription f0 14) (hI : SaidIsSubscription f0 16) (c0 : List Value) (a0 : DSubscription) (w : World) (h0 : Reads DSubscription.rep w c0 a0)  :
    Calls Try.prog 5 #[.agg c0.toArray] w fun e w' => e = .returned (.bool true) ∧ Below w.heap.size w w' := by
  have HA0 := Lib.hid (Low.start h0)
  obtain ⟨fp, hr⟩ := h0
  obtain ⟨rfl, _, _⟩ := DSubscription.rd.1 hr
  clear hr
  have HB : Hid (Below w.heap.size w w) := Lib.hid belR
  go_enter Try.func5, Try.ntmps5
  go_wp2_with fail
  refine (szSubscription _ a0 (1048576) _ (HA0.out.reads.below (by repeat (first | with_reducible exact belR | with_reducible apply belA | (with_reducible refine belS ?_ ?_; focus (first | omega | (simp; done) | (simp; omega))) | with_reducible apply belN | with_reducible apply belD | with_reducible assumption))) (by omega) (by omega)).mono ?_
  rintro e w1 ⟨rfl, hb⟩
  have hw : Below w.heap.size w w1 := below_call (by repeat (first | with_reducible exact belR | with_reducible apply belA | (with_reducible refine belS ?_ ?_; focus (first | omega | (simp; done) | (simp; omega))) | with_reducible apply belN | with_reducible apply belD | with_reducible assumption)) (by first | omega | (simp; done) | (simp; omega)) hb
  have hsw1 : w.heap.size + 1 ≤ w1.heap.size := by have y := hb.size; (try simp at y); omega
  have HX_aS : Hid (Box w1 (w.heap.size) #[.string a0.site, .int .i64 a0.secret, .int .i64 a0.last]) := Lib.hid (Box.below (Box.at (by first | rfl | simp)) hb)
  have ⟨cx_aS, zx_aS⟩ := HX_aS.out
  replace HA0 := Lib.hid (HA0.out.below hw)
  replace HB := Lib.hid (below_call HB.out HB.out.size hw)
  clear hw
  clear hb
  have hz := szOf_spec ((a0).wt) (1048576)
  by_cases hv_aS : ¬ (((a0).wt : Nat) : Int) ≤ 1048576
  · rw [hz.2 hv_aS]; clear hz
    go_wp2
    all_goals go_ret
    have y := HB.out
    exact ⟨rfl, (by repeat (first | with_reducible exact belR | with_reducible apply belA | (with_reducible refine belS ?_ ?_; focus (first | omega | (simp; done) | (simp; omega))) | with_reducible apply belN | with_reducible apply belD | with_reducible assumption))⟩
  rw [Decidable.not_not] at hv_aS
  rw [hz.1 hv_aS]; clear hz
  go_wp2_with fail
  refine (toSubscription _ a0 _ (HA0.out.reads.below (by repeat (first | with_reducible exact belR | with_reducible apply belA | (with_reducible refine belS ?_ ?_; focus (first | omega | (simp; done) | (simp; omega))) | with_reducible apply belN | with_reducible apply belD | with_reducible assumption))) (by first | omega | (simp [DSubscription.wt]))).mono ?_
  rintro e w2 ⟨d_w0_aS, rfl, hf, hb⟩
  obtain ⟨_, y_w0_aS, _⟩ := id hf
  obtain ⟨rfl, _, _⟩ := DSubscription.rd.1 y_w0_aS
  clear y_w0_aS
  have H__w0_aS := Lib.hid (Fresh.reads' hf)
  have hw : Below w1.heap.size w1 w2 := below_call (by repeat (first | with_reducible exact belR | with_reducible apply belA | (with_reducible refine belS ?_ ?_; focus (first | omega | (simp; done) | (simp; omega))) | with_reducible apply belN | with_reducible apply belD | with_reducible assumption)) (by first | omega | (simp; done) | (simp; omega)) hb
  have hsw2 : w1.heap.size ≤ w2.heap.size := by have y := hb.size; (try simp at y); omega
  clear cx_aS zx_aS
  replace HX_aS := Lib.hid (HX_aS.out.below hw)
  have ⟨cx_aS, zx_aS⟩ := HX_aS.out
  replace HA0 := Lib.hid (HA0.out.below hw)
  replace HB := Lib.hid (below_call HB.out HB.out.size hw)
  clear hw
  clear hb hf
  go_wp2_with fail
  refine (hS _ a0 _ (H__w0_aS.out.reads.below (by repeat (first | with_reducible exact belR | with_reducible apply belA | (with_reducible refine belS ?_ ?_; focus (first | omega | (simp; done) | (simp; omega))) | with_reducible apply belN | with_reducible apply belD | with_reducible assumption))) (by first | omega | exact hv_aS)).mono ?_
  rintro e w3 ⟨rfl, hb⟩
  have hw : Below w2.heap.size w2 w3 := below_call (by repeat (first | with_reducible exact belR | with_reducible apply belA | (with_reducible refine belS ?_ ?_; focus (first | omega | (simp; done) | (simp; omega))) | with_reducible apply belN | with_reducible apply belD | with_reducible assumption)) (by first | omega | (simp; done) | (simp; omega)) hb
  have hsw3 : w2.heap.size ≤ w3.heap.size := by have y := hb.size; (try simp at y); omega
  clear cx_aS zx_aS
  replace HX_aS := Lib.hid (HX_aS.out.below hw)
  have ⟨cx_aS, zx_aS⟩ := HX_aS.out
  replace HA0 := Lib.hid (HA0.out.below hw)
  replace H__w0_aS := Lib.hid (H__w0_aS.out.below hw)
  replace HB := Lib.hid (below_call HB.out HB.out.size hw)
  clear hw
  clear hb
  clear H__w0_aS
  go_wp2_with fail
  refine (toSubscription _ a0 _ (HA0.out.reads.below (by repeat (first | with_reducible exact belR | with_reducible apply belA | (with_reducible refine belS ?_ ?_; focus (first | omega | (simp; done) | (simp; omega))) | with_reducible apply belN | with_reducible apply belD | with_reducible assumption))) (by first | omega | (simp [DSubscription.wt]))).mono ?_
  rintro e w4 ⟨d_g0_aS, rfl, hf, hb⟩
  obtain ⟨_, y_g0_aS, _⟩ := id hf
  obtain ⟨rfl, _, _⟩ := DSubscription.rd.1 y_g0_aS
  clear y_g0_aS
  have H__g0_aS := Lib.hid (Fresh.reads' hf)
  have hw : Below w3.heap.size w3 w4 := below_call (by repeat (first | with_reducible exact belR | with_reducible apply belA | (with_reducible refine belS ?_ ?_; focus (first | omega | (simp; done) | (simp; omega))) | with_reducible apply belN | with_reducible apply belD | with_reducible assumption)) (by first | omega | (simp; done) | (simp; omega)) hb
  have hsw4 : w3.heap.size ≤ w4.heap.size := by have y := hb.size; (try simp at y); omega
  clear cx_aS zx_aS
  replace HX_aS := Lib.hid (HX_aS.out.below hw)
  have ⟨cx_aS, zx_aS⟩ := HX_aS.out
  replace HA0 := Lib.hid (HA0.out.below hw)
  replace HB := Lib.hid (below_call HB.out HB.out.size hw)
  clear hw
  clear hb hf
  go_wp2_with fail
  refine (hI _ a0 _ (H__g0_aS.out.reads.below (by repeat (first | with_reducible exact belR | with_reducible apply belA | (with_reducible refine belS ?_ ?_; focus (first | omega | (simp; done) | (simp; omega))) | with_reducible apply belN | with_reducible apply belD | with_reducible assumption))) (by first | omega | exact hv_aS)).mono ?_
  rintro e w5 ⟨rfl, hb⟩
  have hw : Below w4.heap.size w4 w5 := below_call (by repeat (first | with_reducible exact belR | with_reducible apply belA | (with_reducible refine belS ?_ ?_; focus (first | omega | (simp; done) | (simp; omega))) | with_reducible apply belN | with_reducible apply belD | with_reducible assumption)) (by first | omega | (simp; done) | (simp; omega)) hb
  have hsw5 : w4.heap.size ≤ w5.heap.size := by have y := hb.size; (try simp at y); omega
  clear cx_aS zx_aS
  replace HX_aS := Lib.hid (HX_aS.out.below hw)
  have ⟨cx_aS, zx_aS⟩ := HX_aS.out
  replace HA0 := Lib.hid (HA0.out.below hw)
  replace H__g0_aS := Lib.hid (H__g0_aS.out.below hw)
  replace HB := Lib.hid (below_call HB.out HB.out.size hw)
  clear hw
  clear hb
  clear H__g0_aS
  go_wp2_with fail
  go_ret
  have y := HB.out
  exact ⟨rfl, (by repeat (first | with_reducible exact belR | with_reducible apply belA | (with_reducible refine belS ?_ ?_; focus (first | omega | (simp; done) | (simp; omega))) | with_reducible apply belN | with_reducible apply belD | with_reducible assumption))⟩

set_option maxHeartbeats 1000000 in
theorem isSubscription_lifted (f0 : DSubscription → Bool) (hS : SaidIsSubscription f0 14) (hI : SaidIsSubscription f0 16) (os : Os) (started : os.Started) (H : Type) (enc : TypeId × Value → H) :
    ReturnsInHanded {} Try.checked os 5 .any (Rows.fnExactIsSubscriptionSpec.pre6 enc Try.prog Try.f5 Rows.fnExactIsSubscriptionRow.domain false) (Rows.fnExactIsSubscriptionSpec.post enc Try.prog Try.f5 false true false false) := by
  refine law_lift (C := Try.checked) Try.own started (by kernel_rfl) Try.func5 Try.laidOut (by kernel_rfl) rfl Try.underlying4 rfl ?_
    (ChangeSpec.witness6 (enc := enc) (C := Try.checked) false ⟨#[], #[.agg #[.string ByteArray.empty, .int .i64 0, .int .i64 0]], []⟩ 8 (by kernel_rfl) (by kernel_rfl) (by kernel_rfl) (by kernel_rfl)) ?_
  · intro ds h
    match ds, h with
    | [_], _ => rfl
  · intro W base args ds ps hval hA0
    have hA : DataW.TrodAll enc Try.prog W 0 (fun _ => true) true Try.f5.params.toList args.toList ds ps := hA0
    rw [Try.params5] at hA hval
    obtain ⟨v0, _, _, rfl, t0⟩ := trodAll_open1 hA
    obtain ⟨c0, a0, rfl, r0⟩ := arg_struct Try.underlying26 DSubscription.opens_laws (hval 0 26 v0 rfl rfl) t0
    exact lawIsSubscription f0 hS hI c0.toList a0 W r0

theorem isSubscription_of (f0 : DSubscription → Bool) (hS : SaidIsSubscription f0 14) (hI : SaidIsSubscription f0 16) : Rows.FnExactIsSubscriptionSaid :=
  OpenClaim.holds_of_wide 5 Try.f5 rfl rfl rfl rfl rfl rfl rfl ⟨rfl, rfl, rfl, rfl, rfl⟩ rfl rfl rfl rfl rfl (by kernel_rfl) Try.func5 (by kernel_rfl)
    (of_decide_eq_true (by kernel_rfl)) (by unfold Func.isWrapper; rw [if_neg (by decide +kernel)]; exact ⟨rfl, rfl⟩)
    (fun os started H enc _ => isSubscription_lifted f0 hS hI os started H enc)

end Go.Proofs.Ytkhfadklfdkdeaa
