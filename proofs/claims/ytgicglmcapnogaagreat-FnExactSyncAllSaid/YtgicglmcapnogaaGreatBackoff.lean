/-
  What BackoffOf computes, in the program and in the reference: two to the number of tries, at most 64.
-/
import Derived.Test.YtgicglmcapnogaaGreatBase
namespace Go.Proofs.YtgicglmcapnogaaGreat
open Go.RowKit

def pow2 (k : Nat) : Int := (2 : Int) ^ k
theorem pow2_succ (k : Nat) : pow2 (k+1) = 2 * pow2 k := by unfold pow2; rw [Int.pow_succ]; omega
theorem pow2_pos (k : Nat) : 0 < pow2 k := by unfold pow2; exact Int.pow_pos (by decide)
def boff (t : Int) : Int := pow2 (min t.toNat 6)
theorem pow2_lt (k : Nat) : pow2 k < 64 ↔ k < 6 := by
  constructor
  · intro h
    apply Decidable.byContradiction; intro hk
    have : ∃ j, k = 6 + j := ⟨k - 6, by omega⟩
    obtain ⟨j, rfl⟩ := this
    have : pow2 (6+j) = 64 * pow2 j := by unfold pow2; rw [Int.pow_add]; rfl
    have := pow2_pos j
    omega
  · intro h
    have : k = 0 ∨ k = 1 ∨ k = 2 ∨ k = 3 ∨ k = 4 ∨ k = 5 := by omega
    rcases this with rfl|rfl|rfl|rfl|rfl|rfl <;> decide
theorem pow2_le (k : Nat) (h : k ≤ 6) : pow2 k ≤ 64 := by
  have : k = 0 ∨ k = 1 ∨ k = 2 ∨ k = 3 ∨ k = 4 ∨ k = 5 ∨ k = 6 := by omega
  rcases this with rfl|rfl|rfl|rfl|rfl|rfl|rfl <;> decide
theorem boff_stop (k : Nat) (t : Int) (hk : k ≤ 6) (ht : k = 0 ∨ (k : Int) ≤ t) (h : 64 ≤ pow2 k ∨ t ≤ k) : Ending.returned (.int .i64 (pow2 k)) = .returned (.int .i64 (boff t)) := by
  have : min t.toNat 6 = k := by
    rcases h with h | h
    · have := pow2_lt k; omega
    · omega
  rw [boff, this]

set_option maxHeartbeats 400000 in
theorem specBackoff (t : Int) (w : World) :
    Calls Tryz.prog 37 #[.int .i64 t] w fun e w' => e = .returned (.int .i64 (boff t)) ∧ w = w' := by
  go_enter Tryz.func37, Tryz.ntmps37
  go_wp2
  go_loop [3, 4] (fun n i => ∃ k : Nat, k ≤ 6 ∧ (k = 0 ∨ (k : Int) ≤ t) ∧ i = .int .i64 k ∧ n = .int .i64 (pow2 k)) (fun _ i => (7 - (intOf i)).toNat)
  case atStart => exact ⟨0, by omega, by omega, rfl, rfl⟩
  case round =>
    obtain ⟨k, hk, ht, rfl, rfl⟩ := hrel
    have h1 := pow2_pos k
    have h2 := pow2_le k hk
    go_wp2
    · have := pow2_lt k
      refine ⟨⟨k + 1, by omega, by omega, by go_num, by rw [pow2_succ]⟩, ?_⟩
      simp [intOf]; omega
    · go_ret; exact ⟨boff_stop k t hk ht (.inl (by assumption)), rfl⟩
    · go_ret; exact ⟨boff_stop k t hk ht (.inr (by assumption)), rfl⟩

set_option maxHeartbeats 400000 in
theorem implBackoff (t : Int) (w : World) :
    Calls Tryz.prog 49 #[.int .i64 t] w fun e w' => e = .returned (.int .i64 (boff t)) ∧ w = w' := by
  go_enter Tryz.func49, Tryz.ntmps49
  go_wp2
  go_loop [3, 4] (fun n i => ∃ k : Nat, k ≤ 6 ∧ (k = 0 ∨ (k : Int) ≤ t) ∧ i = .int .i64 k ∧ n = .int .i64 (pow2 k)) (fun _ i => (7 - (intOf i)).toNat)
  case atStart => exact ⟨0, by omega, by omega, rfl, rfl⟩
  case round =>
    obtain ⟨k, hk, ht, rfl, rfl⟩ := hrel
    have h1 := pow2_pos k
    have h2 := pow2_le k hk
    go_wp2
    · have := pow2_lt k
      refine ⟨⟨k + 1, by omega, by omega, by go_num, ?_⟩, ?_⟩
      · rw [pow2_succ, Int.mul_comm]
      simp [intOf]; omega
    · go_ret; exact ⟨boff_stop k t hk ht (.inl (by assumption)), rfl⟩
    · go_ret; exact ⟨boff_stop k t hk ht (.inr (by assumption)), rfl⟩

end Go.Proofs.YtgicglmcapnogaaGreat
