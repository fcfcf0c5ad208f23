/-
  FnAnsweredFetches: for every input the law answers true. No condition.
-/
import Derived.Test.YteajhmpppciicaaAnsweredWalk
import Derived.Test.YteajhmpppciicaaBase
namespace Go.Proofs.Yteajhmpppciicaa
open Go.RowKit Go.ChangeShapes

set_option maxRecDepth 100000 in
set_option maxHeartbeats 1000000 in
theorem answeredFetches_lifted (os : Os) (started : os.Started) (H : Type) (enc : TypeId × Value → H) :
    ReturnsInHanded {} Try.checked os 4 .any (Rows.fnAnsweredFetchesSpec.pre6 enc Try.prog Try.f4 Rows.fnAnsweredFetchesRow.domain false) (Rows.fnAnsweredFetchesSpec.post enc Try.prog Try.f4 false true false false) := by
  refine law_lift (C := Try.checked) Try.own started (by kernel_rfl) Try.func4 Try.laidOut (by kernel_rfl) rfl Try.underlying4 rfl ?_
    (ChangeSpec.witness6 (enc := enc) (C := Try.checked) false ⟨#[], #[.slice none 0 0], []⟩ 8 (by kernel_rfl) (by kernel_rfl) (by kernel_rfl) (by kernel_rfl)) ?_
  · intro ds h
    match ds, h with
    | [_], _ => rfl
  · intro W base args ds ps hval hA0
    have hA : DataW.TrodAll enc Try.prog W 0 (fun _ => true) true Try.f4.params.toList args.toList ds ps := hA0
    rw [Try.params4] at hA hval
    obtain ⟨v0, _, _, rfl, t0⟩ := trodAll_open1 hA
    obtain ⟨a0, r0⟩ := arg_slice (R := Rep.byte) (E := 5) Try.underlying22 (opens_slice Try.underlying22 (by kernel_rfl) (by decide) (opens_byte Try.underlying5)) (hval 0 22 v0 rfl rfl) t0
    exact lawAnswered v0 a0 W r0

theorem answeredFetches_holds : Rows.FnAnsweredFetchesSaid :=
  OpenClaim.holds_of_wide 4 Try.f4 rfl rfl rfl rfl rfl rfl rfl ⟨rfl, rfl, rfl, rfl, rfl⟩ rfl rfl rfl rfl rfl (by kernel_rfl) Try.func4 (by kernel_rfl)
    (of_decide_eq_true (by kernel_rfl)) (by unfold Func.isWrapper; rw [if_neg (by decide +kernel)]; exact ⟨rfl, rfl⟩)
    (fun os started H enc _ => answeredFetches_lifted os started H enc)

end Go.Proofs.Yteajhmpppciicaa
