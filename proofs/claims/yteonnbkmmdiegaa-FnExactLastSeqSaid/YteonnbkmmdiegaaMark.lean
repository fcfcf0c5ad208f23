/-
  The marks of the laws.
-/
import Derived.Test.YteonnbkmmdiegaaBytes
import Derived.Laws.BytesArg
namespace Go.Proofs.Yteonnbkmmdiegaa
open Go.RowKit

/-- The digits that markText gathers. -/
def digitsT : Nat → Nat → List UInt8 → List UInt8
  | 0, _, acc => acc
  | fuel + 1, k, acc => if k = 0 then acc else digitsT fuel (k / 10) (UInt8.ofNat (48 + k % 10) :: acc)
def markT (k : Nat) : ByteArray := if k = 0 then ⟨#[109, 48]⟩ else ⟨(109 :: digitsT 10 k []).toArray⟩
theorem digitsT_step (f k : Nat) (acc : List UInt8) (h : 0 < k) : digitsT (f + 1) k acc = digitsT f (k / 10) (UInt8.ofNat (48 + k % 10) :: acc) := by
  rw [digitsT, if_neg (by omega)]
theorem digitsT_zero (f : Nat) (acc : List UInt8) : digitsT f 0 acc = acc := by cases f <;> simp [digitsT]
theorem digitsT_length (f : Nat) : ∀ (k : Nat) (acc : List UInt8), (digitsT f k acc).length ≤ acc.length + f := by
  induction f with
  | zero => intro k acc; simp [digitsT]
  | succ f ih =>
    intro k acc
    rw [digitsT]
    split
    · omega
    · have := ih (k / 10) (UInt8.ofNat (48 + k % 10) :: acc); rw [List.length_cons] at this; omega
theorem markT_size (k : Nat) : (markT k).size ≤ 66 := by
  unfold markT
  split
  · decide
  · have := digitsT_length 10 k []
    show (109 :: digitsT 10 k []).toArray.size ≤ 66
    simp at *; omega
theorem markT_le (k : Nat) : (markT k).size ≤ maxLen := by have := markT_size k; unfold maxLen; omega

theorem pos_fuel {j f : Nat} (h : j < 10 ^ f) (hj : 0 < j) : ∃ g, f = g + 1 := by
  cases f with
  | zero => rw [Nat.pow_zero] at h; omega
  | succ f => exact ⟨f, rfl⟩

end Go.Proofs.Yteonnbkmmdiegaa
