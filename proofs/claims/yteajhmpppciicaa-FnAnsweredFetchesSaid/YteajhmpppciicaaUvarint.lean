/-
  AppendUvarint, AppendBytes.
-/
import Derived.Test.YteajhmpppciicaaEncrypt
import Derived.Test.YteajhmpppciicaaDerive
import Derived.Laws.Bits128
namespace Go.Proofs.Yteajhmpppciicaa
open Go.RowKit

def uvF (n : Nat) : List UInt8 := if n < 128 then [UInt8.ofNat n] else UInt8.ofNat (n % 128 + 128) :: uvF (n / 128)
termination_by n
decreasing_by omega
theorem uvF_small {n : Nat} (h : n < 128) : uvF n = [UInt8.ofNat n] := by rw [uvF, if_pos h]
theorem uvF_big {n : Nat} (h : ¬ n < 128) : uvF n = UInt8.ofNat (n % 128 + 128) :: uvF (n / 128) := by rw [uvF, if_neg h]
theorem uvF_len : ∀ (k n : Nat), n < 128 ^ (k + 1) → (uvF n).length ≤ k + 1
  | 0, n, h => by rw [uvF_small (by simpa using h)]; simp
  | k + 1, n, h => by
    by_cases hn : n < 128
    · rw [uvF_small hn]; simp
    · rw [uvF_big hn]
      have := uvF_len k (n / 128) (by rw [Nat.pow_succ] at h; exact Nat.div_lt_of_lt_mul (by rw [Nat.mul_comm]; exact h))
      simp only [List.length_cons]; omega
def uvarintF (n : Int) : List UInt8 := if within n 0 1000000000000 then uvF n.toNat else []
theorem uvarintF_no {n : Int} (h : within n 0 1000000000000 = false) : uvarintF n = [] := by unfold uvarintF; rw [h]; rfl
theorem uvarintF_yes {n : Int} (h : within n 0 1000000000000 = true) : ∃ m : Nat, n = (m : Int) ∧ m ≤ 1000000000000 ∧ uvarintF n = uvF m := by
  unfold within at h
  simp only [Bool.and_eq_true, decide_eq_true_eq] at h
  refine ⟨n.toNat, by omega, by omega, ?_⟩
  unfold uvarintF within
  rw [decide_eq_true h.1, decide_eq_true h.2]; rfl
theorem uvarintF_len (n : Int) : (uvarintF n).length ≤ 6 := by
  cases h : within n 0 1000000000000
  · rw [uvarintF_no h]; simp
  · obtain ⟨m, _, hm, e⟩ := uvarintF_yes h
    rw [e]; exact uvF_len 5 m (by omega)
attribute [irreducible] uvarintF

/-- One byte of a number. -/
def uvB (m : Nat) : UInt8 := UInt8.ofNat (m % 128 + 128)
theorem uvB_to (m : Nat) : ((uvB m).toNat : Int) = (m : Int) % 128 + 128 := by
  unfold uvB; rw [UInt8.toNat_ofNat']; omega
def lastB (m : Nat) : UInt8 := UInt8.ofNat m
theorem lastB_to {m : Nat} (h : m < 128) : ((lastB m).toNat : Int) = (m : Int) := by
  unfold lastB; rw [UInt8.toNat_ofNat']; omega
theorem or128 (x : Int) (h0 : 0 ≤ x) (h1 : x < 128) : bits .or .i64 x 128 = x + 128 := by
  obtain ⟨n, rfl⟩ := Int.eq_ofNat_of_zero_le h0
  have h := (bits_nat .i64 62 (by decide) (fun n h0 h1 => by rw [IntKind.wrap_i64]; omega) n 128 (by omega) (by decide)).2
  rw [show ((128 : Int)) = ((128 : Nat) : Int) from rfl, h]
  have e : n ||| 128 = n + 128 := by
    have := Nat.shiftLeft_add_eq_or_of_lt (i := 7) (b := n) (show n < 2 ^ 7 by omega) 1
    rw [show 1 <<< 7 = 128 from rfl] at this
    rw [Nat.or_comm, ← this]; omega
  rw [e]; omega

end Go.Proofs.Yteajhmpppciicaa
