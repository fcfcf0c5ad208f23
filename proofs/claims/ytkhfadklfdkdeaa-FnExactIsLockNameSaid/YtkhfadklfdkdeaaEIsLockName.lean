/-
  FnExactIsLockName.
-/
import Derived.Test.YtkhfadklfdkdeaaLockName
import Derived.Test.YtkhfadklfdkdeaaLaw
namespace Go.Proofs.Ytkhfadklfdkdeaa
open Go.RowKit Go.ChangeShapes

set_option maxHeartbeats 800000 in
theorem lawIsLockName (a : ByteArray) (h0 : a.size ≤ maxLen) (w : World) :
    Calls Try.prog 4 #[.string a] w fun e w' => e = .returned (.bool true) ∧ Below w.heap.size w w' := by
  have hm := h0
  unfold maxLen at hm
  go_enter Try.func4, Try.ntmps4
  go_wp2_with (first | (go_at_call 11; refine (specIsLockName _ h0 _).mono ?_; rintro e w' ⟨rfl, rfl⟩) | (go_at_call 12; refine (implIsLockName _ h0 _).mono ?_; rintro e w' ⟨rfl, rfl⟩))
  all_goals go_ret
  all_goals exact ⟨rfl, belR⟩

theorem isLockName_lifted (os : Os) (started : os.Started) (H : Type) (enc : TypeId × Value → H) :
    ReturnsInHanded {} Try.checked os 4 .any (Rows.fnExactIsLockNameSpec.pre6 enc Try.prog Try.f4 Rows.fnExactIsLockNameRow.domain false) (Rows.fnExactIsLockNameSpec.post enc Try.prog Try.f4 false true false false) := by
  refine law_lift (C := Try.checked) Try.own started (by kernel_rfl) Try.func4 Try.laidOut (by kernel_rfl) rfl Try.underlying4 rfl ?_
    (ChangeSpec.witness6 (enc := enc) (C := Try.checked) false ⟨#[], #[.string ByteArray.empty], []⟩ 8 (by kernel_rfl) (by kernel_rfl) (by kernel_rfl) (by kernel_rfl)) ?_
  · intro ds h
    match ds, h with
    | [_], _ => rfl
  · intro W base args ds ps hval hA0
    have hA : DataW.TrodAll enc Try.prog W 0 (fun _ => true) true Try.f4.params.toList args.toList ds ps := hA0
    rw [Try.params4] at hA hval
    obtain ⟨v0, d0, p0, rfl, h0⟩ := trodAll_open1 hA
    obtain ⟨a, rfl, wa⟩ := arg_str Try.underlying9 (hval 0 9 v0 rfl rfl) h0
    exact lawIsLockName a wa W

theorem isLockName_holds : Rows.FnExactIsLockNameSaid :=
  OpenClaim.holds_of_wide 4 Try.f4 rfl rfl rfl rfl rfl rfl rfl ⟨rfl, rfl, rfl, rfl, rfl⟩ rfl rfl rfl rfl rfl (by kernel_rfl) Try.func4 (by kernel_rfl)
    (of_decide_eq_true (by kernel_rfl)) (by unfold Func.isWrapper; rw [if_neg (by decide +kernel)]; exact ⟨rfl, rfl⟩)
    (fun os started H enc _ => isLockName_lifted os started H enc)

end Go.Proofs.Ytkhfadklfdkdeaa
