/-
 FnPulls: for every input the law answers true. No condition.
-/
import Derived.Test.YtlfebehpmefioaaGreatPullsWalk
import Derived.Test.YtlfebehpmefioaaGreatBase
namespace Go.Proofs.YtlfebehpmefioaaGreat
open Go.RowKit Go.ChangeShapes

set_option maxRecDepth 100000 in
set_option maxHeartbeats 1000000 in
theorem pulls_lifted (os : Os) (started : os.Started) (H : Type) (enc : TypeId × Value → H) :
  ReturnsInHanded {} Tryz.checked os 7 .any (Rows.fnPullsSpec.pre6 enc Tryz.prog Tryz.f7 Rows.fnPullsRow.domain false) (Rows.fnPullsSpec.post enc Tryz.prog Tryz.f7 false true false false) := by
 refine law_lift (C := Tryz.checked) Tryz.own started (by kernel_rfl) Tryz.func7 Tryz.laidOut (by kernel_rfl) rfl Tryz.underlying4 rfl ?_
  (ChangeSpec.witness6 (enc := enc) (C := Tryz.checked) false ⟨#[], #[.slice none 0 0], []⟩ 8 (by kernel_rfl) (by kernel_rfl) (by kernel_rfl) (by kernel_rfl)) ?_
 ·intro ds h
  match ds, h with
  | [_], _ => rfl
 ·intro W base args ds ps hval hA0
  have hA : DataW.TrodAll enc Tryz.prog W 0 (fun _ => true) true Tryz.f7.params.toList args.toList ds ps := hA0
  rw [Tryz.params7] at hA hval
  obtain ⟨v0, _, _, rfl, t0⟩ := trodAll_open1 hA
  obtain ⟨a0, r0⟩ := arg_slice (R := Rep.byte) (E := 5) Tryz.underlying22 (opens_slice Tryz.underlying22 (by kernel_rfl) (by decide) (opens_byte Tryz.underlying5)) (hval 0 22 v0 rfl rfl) t0
  exact lawPulls v0 a0 W r0

theorem pulls_holds : Rows.FnPullsSaid :=
 OpenClaim.holds_of_wide 7 Tryz.f7 rfl rfl rfl rfl rfl rfl rfl ⟨rfl, rfl, rfl, rfl, rfl⟩ rfl rfl rfl rfl rfl (by kernel_rfl) Tryz.func7 (by kernel_rfl)
  (of_decide_eq_true (by kernel_rfl)) (by unfold Func.isWrapper; rw [if_neg (by decide +kernel)]; exact ⟨rfl, rfl⟩)
  (fun os started H enc _ => pulls_lifted os started H enc)

end Go.Proofs.YtlfebehpmefioaaGreat
