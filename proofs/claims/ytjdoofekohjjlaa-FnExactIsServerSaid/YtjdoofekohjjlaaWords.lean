/-
  Words and names: what isWord, IsLockName, IsName, isKeyText and the reference's twins compute.
-/
import Derived.Test.YtjdoofekohjjlaaSeat
namespace Go.Proofs.Ytjdoofekohjjlaa
open Go.RowKit

/-- A byte of a word. -/
def wordByte (slash : Bool) (c : UInt8) : Bool := (97 ≤ c.toNat && c.toNat ≤ 122) || (slash && c.toNat == 47)
def keyByte (c : UInt8) : Bool := (97 ≤ c.toNat && c.toNat ≤ 122) || (48 ≤ c.toNat && c.toNat ≤ 57)
def allBytes (p : UInt8 → Bool) (s : ByteArray) : Bool := s.data.toList.all p
def within (n lo hi : Int) : Bool := decide (lo ≤ n) && decide (n ≤ hi)
def isWordF (s : ByteArray) (most : Int) (slash : Bool) : Bool := allBytes (wordByte slash) s && within s.size 1 most
theorem allBytes_no {p : UInt8 → Bool} {s : ByteArray} {k : Nat} (hk : k < s.size) (h : p s[k] = false) : allBytes p s = false := by
  unfold allBytes
  rw [List.all_eq_false]
  exact ⟨s[k], by have : s[k] = s.data.toList[k]'(by simpa using hk) := rfl
                  rw [this]; exact List.getElem_mem _, by simp [h]⟩
theorem allBytes_yes {p : UInt8 → Bool} {s : ByteArray} (h : ∀ k, (hk : k < s.size) → p s[k] = true) : allBytes p s = true := by
  unfold allBytes
  rw [List.all_eq_true]
  intro x hx
  obtain ⟨i, hi, rfl⟩ := List.getElem_of_mem hx
  exact h i (by simpa using hi)

set_option maxHeartbeats 400000 in
theorem implInRange (a b c : Int) (w : World) :
    Calls Try.prog 61 #[.int .i64 a, .int .i64 b, .int .i64 c] w fun e w' => e = .returned (.bool (within a b c)) ∧ w = w' := by
  by_cases h : b ≤ a
  all_goals
    go_enter Try.func61, Try.ntmps61
    go_wp2
    go_ret
    exact ⟨by simp [within]; try omega, rfl⟩

set_option maxHeartbeats 400000 in
theorem specIn (a b c : Int) (w : World) :
    Calls Try.prog 58 #[.int .i64 a, .int .i64 b, .int .i64 c] w fun e w' => e = .returned (.bool (within a b c)) ∧ w = w' := by
  by_cases h : b ≤ a
  all_goals
    go_enter Try.func58, Try.ntmps58
    go_wp2
    go_ret
    exact ⟨by simp [within]; try omega, rfl⟩

theorem wordByte_t (c : UInt8) : wordByte true c = true ↔ ((97 ≤ (c.toNat : Int) ∧ (c.toNat : Int) ≤ 122) ∨ (c.toNat : Int) = 47) := by
  simp [wordByte]; omega
theorem wordByte_f (c : UInt8) : wordByte false c = true ↔ (97 ≤ (c.toNat : Int) ∧ (c.toNat : Int) ≤ 122) := by
  simp [wordByte]; omega
theorem keyByte_i (c : UInt8) : keyByte c = true ↔ ((97 ≤ (c.toNat : Int) ∧ (c.toNat : Int) ≤ 122) ∨ (48 ≤ (c.toNat : Int) ∧ (c.toNat : Int) ≤ 57)) := by
  simp [keyByte]; omega
theorem isWordF_no {s : ByteArray} {most : Int} {slash : Bool} {k : Nat} (hk : k < s.size) (h : ¬ wordByte slash s[k] = true) : Ending.returned (.bool false) = .returned (.bool (isWordF s most slash)) := by
  rw [isWordF, allBytes_no hk (by simpa using h)]; rfl
theorem isWordF_yes {s : ByteArray} {most : Int} {slash : Bool} (h : ∀ k, (hk : k < s.size) → wordByte slash s[k] = true) : Ending.returned (.bool (within s.size 1 most)) = .returned (.bool (isWordF s most slash)) := by
  rw [isWordF, allBytes_yes h]; rfl
theorem snoc_bytes {p : UInt8 → Bool} {s : ByteArray} {k : Nat} (hk : k < s.size) (hall : ∀ j, (hj : j < s.size) → j < k → p s[j] = true) (h : p s[k] = true) : ∀ j, (hj : j < s.size) → j < k + 1 → p s[j] = true := by
  intro j hj hjk
  by_cases e : j = k
  · subst e; exact h
  · exact hall j hj (by omega)

set_option maxHeartbeats 400000 in
theorem implIsWord_t (s : ByteArray) (most : Int) (hs : s.size ≤ maxLen) (w : World) :
    Calls Try.prog 144 #[.string s, .int .i64 most, .bool true] w fun e w' => e = .returned (.bool (isWordF s most true)) ∧ w = w' := by
  unfold maxLen at hs
  go_enter Try.func144, Try.ntmps144
  go_wp2
  go_loop [7] (fun i => ∃ k : Nat, k ≤ s.size ∧ i = .int .i64 k ∧ ∀ j, (hj : j < s.size) → j < k → wordByte true s[j] = true) (fun i => s.size - (intOf i).toNat)
  case atStart => exact ⟨0, by omega, rfl, by intro j hj h; omega⟩
  case round =>
    obtain ⟨k, hk, rfl, hall⟩ := hrel
    have HA := Lib.hid hall; clear hall
    by_cases hlt : k < s.size
    · have hw := wordByte_t s[k]
      have HW := Lib.hid hw; clear hw
      go_wp2
      all_goals first
        | (go_ret; exact ⟨isWordF_no hlt (by go_light; rw [HW.out]; simp_all; try omega), rfl⟩)
        | (go_light; refine ⟨⟨k + 1, by omega, by go_num, snoc_bytes hlt HA.out (by rw [HW.out]; simp_all; try omega)⟩, ?_⟩; simp [intOf]; omega)
    · go_wp2_with (go_at_call 61; refine (implInRange _ _ _ _).mono ?_; rintro e w' ⟨rfl, rfl⟩)
      go_ret
      exact ⟨isWordF_yes fun j hj => HA.out j hj (by omega), rfl⟩
set_option maxHeartbeats 400000 in
theorem implIsWord_f (s : ByteArray) (most : Int) (hs : s.size ≤ maxLen) (w : World) :
    Calls Try.prog 144 #[.string s, .int .i64 most, .bool false] w fun e w' => e = .returned (.bool (isWordF s most false)) ∧ w = w' := by
  unfold maxLen at hs
  go_enter Try.func144, Try.ntmps144
  go_wp2
  go_loop [7] (fun i => ∃ k : Nat, k ≤ s.size ∧ i = .int .i64 k ∧ ∀ j, (hj : j < s.size) → j < k → wordByte false s[j] = true) (fun i => s.size - (intOf i).toNat)
  case atStart => exact ⟨0, by omega, rfl, by intro j hj h; omega⟩
  case round =>
    obtain ⟨k, hk, rfl, hall⟩ := hrel
    have HA := Lib.hid hall; clear hall
    by_cases hlt : k < s.size
    · have hw := wordByte_f s[k]
      have HW := Lib.hid hw; clear hw
      go_wp2
      all_goals first
        | (go_ret; exact ⟨isWordF_no hlt (by go_light; rw [HW.out]; simp_all; try omega), rfl⟩)
        | (go_light; refine ⟨⟨k + 1, by omega, by go_num, snoc_bytes hlt HA.out (by rw [HW.out]; simp_all; try omega)⟩, ?_⟩; simp [intOf]; omega)
    · go_wp2_with (go_at_call 61; refine (implInRange _ _ _ _).mono ?_; rintro e w' ⟨rfl, rfl⟩)
      go_ret
      exact ⟨isWordF_yes fun j hj => HA.out j hj (by omega), rfl⟩
theorem implIsWord (s : ByteArray) (most : Int) (slash : Bool) (hs : s.size ≤ maxLen) (w : World) :
    Calls Try.prog 144 #[.string s, .int .i64 most, .bool slash] w fun e w' => e = .returned (.bool (isWordF s most slash)) ∧ w = w' := by
  cases slash
  · exact implIsWord_f s most hs w
  · exact implIsWord_t s most hs w

set_option maxHeartbeats 400000 in
theorem implIsName (s : ByteArray) (hs : s.size ≤ maxLen) (w : World) :
    Calls Try.prog 113 #[.string s] w fun e w' => e = .returned (.bool (isWordF s 8 false)) ∧ w = w' := by
  go_enter Try.func113, Try.ntmps113
  go_wp2_with (go_at_call 144; refine (implIsWord _ _ _ hs _).mono ?_; rintro e w' ⟨rfl, rfl⟩)
  go_ret
  exact ⟨rfl, rfl⟩

set_option maxHeartbeats 400000 in
theorem specIsName (s : ByteArray) (hs : s.size ≤ maxLen) (w : World) :
    Calls Try.prog 109 #[.string s] w fun e w' => e = .returned (.bool (isWordF s 8 false)) ∧ w = w' := by
  unfold maxLen at hs
  go_enter Try.func109, Try.ntmps109
  go_wp2
  go_loop [3] (fun i => ∃ k : Nat, k ≤ s.size ∧ i = .int .i64 k ∧ ∀ j, (hj : j < s.size) → j < k → wordByte false s[j] = true) (fun i => s.size - (intOf i).toNat)
  case atStart => exact ⟨0, by omega, rfl, by intro j hj h; omega⟩
  case round =>
    obtain ⟨k, hk, rfl, hall⟩ := hrel
    have HA := Lib.hid hall; clear hall
    by_cases hlt : k < s.size
    · have hw := wordByte_f s[k]
      have HW := Lib.hid hw; clear hw
      go_wp2
      all_goals first
        | (go_ret; exact ⟨isWordF_no hlt (by go_light; rw [HW.out]; simp_all; try omega), rfl⟩)
        | (go_light; refine ⟨⟨k + 1, by omega, by go_num, snoc_bytes hlt HA.out (by rw [HW.out]; simp_all; try omega)⟩, ?_⟩; simp [intOf]; omega)
    · go_wp2_with (go_at_call 58; refine (specIn _ _ _ _).mono ?_; rintro e w' ⟨rfl, rfl⟩)
      go_ret
      exact ⟨isWordF_yes fun j hj => HA.out j hj (by omega), rfl⟩

end Go.Proofs.Ytjdoofekohjjlaa
