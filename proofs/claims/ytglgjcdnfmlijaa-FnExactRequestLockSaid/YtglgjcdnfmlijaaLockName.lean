/-
  Lock names.
-/
import Derived.Test.YtglgjcdnfmlijaaWords
namespace Go.Proofs.Ytglgjcdnfmlijaa
open Go.RowKit

set_option maxHeartbeats 400000 in
theorem implIsLockName (s : ByteArray) (hs : s.size ≤ maxLen) (w : World) :
    Calls Try.prog 149 #[.string s] w fun e w' => e = .returned (.bool (isWordF s 30 true)) ∧ w = w' := by
  go_enter Try.func149, Try.ntmps149
  go_wp2_with (go_at_call 162; refine (implIsWord _ _ _ hs _).mono ?_; rintro e w' ⟨rfl, rfl⟩)
  go_ret
  exact ⟨rfl, rfl⟩

set_option maxHeartbeats 400000 in
theorem specIsLockName (s : ByteArray) (hs : s.size ≤ maxLen) (w : World) :
    Calls Try.prog 148 #[.string s] w fun e w' => e = .returned (.bool (isWordF s 30 true)) ∧ w = w' := by
  unfold maxLen at hs
  go_enter Try.func148, Try.ntmps148
  go_wp2
  go_loop [3] (fun i => ∃ k : Nat, k ≤ s.size ∧ i = .int .i64 k ∧ ∀ j, (hj : j < s.size) → j < k → wordByte true s[j] = true) (fun i => s.size - (intOf i).toNat)
  case atStart => exact ⟨0, by omega, rfl, by intro j hj h; omega⟩
  case round =>
    obtain ⟨k, hk, rfl, hall⟩ := hrel
    have HA := Lib.hid hall; clear hall
    by_cases hlt : k < s.size
    · have hw := wordByte_t s[k]
      have HW := Lib.hid hw; clear hw
      go_wp2
      all_goals first
        | (go_ret; exact ⟨isWordF_no hlt (by go_light; rw [HW.out]; simp_all; try omega), rfl⟩)
        | (go_light; refine ⟨⟨k + 1, by omega, by go_num, snoc_bytes hlt HA.out (by rw [HW.out]; simp_all; try omega)⟩, ?_⟩; simp [intOf]; omega)
    · go_wp2_with (go_at_call 77; refine (specIn _ _ _ _).mono ?_; rintro e w' ⟨rfl, rfl⟩)
      go_ret
      exact ⟨isWordF_yes fun j hj => HA.out j hj (by omega), rfl⟩

end Go.Proofs.Ytglgjcdnfmlijaa
