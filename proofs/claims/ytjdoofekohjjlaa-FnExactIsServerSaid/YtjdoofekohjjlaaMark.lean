/-
  The marks of the laws.
-/
import Derived.Test.YtjdoofekohjjlaaBytes
import Derived.Laws.BytesArg
namespace Go.Proofs.Ytjdoofekohjjlaa
open Go.RowKit

/-- The digits that markText gathers. -/
def digitsT : Nat → Nat → List UInt8 → List UInt8
  | 0, _, acc => acc
  | fuel + 1, k, acc => if k = 0 then acc else digitsT fuel (k / 10) (UInt8.ofNat (48 + k % 10) :: acc)
def markT (k : Nat) : ByteArray := if k = 0 then ⟨#[109, 48]⟩ else ⟨(109 :: digitsT 10 k []).toArray⟩
theorem digitsT_step (f k : Nat) (acc : List UInt8) (h : 0 < k) : digitsT (f + 1) k acc = digitsT f (k / 10) (UInt8.ofNat (48 + k % 10) :: acc) := by
  rw [digitsT, if_neg (by omega)]
theorem digitsT_zero (f : Nat) (acc : List UInt8) : digitsT f 0 acc = acc := by cases f <;> simp [digitsT]
theorem digitsT_length (f : Nat) : ∀ (k : Nat) (acc : List UInt8), (digitsT f k acc).length ≤ acc.length + f := by
  induction f with
  | zero => intro k acc; simp [digitsT]
  | succ f ih =>
    intro k acc
    rw [digitsT]
    split
    · omega
    · have := ih (k / 10) (UInt8.ofNat (48 + k % 10) :: acc); rw [List.length_cons] at this; omega
theorem markT_size (k : Nat) : (markT k).size ≤ 66 := by
  unfold markT
  split
  · decide
  · have := digitsT_length 10 k []
    show (109 :: digitsT 10 k []).toArray.size ≤ 66
    simp at *; omega
theorem markT_le (k : Nat) : (markT k).size ≤ maxLen := by have := markT_size k; unfold maxLen; omega

theorem pos_fuel {j f : Nat} (h : j < 10 ^ f) (hj : 0 < j) : ∃ g, f = g + 1 := by
  cases f with
  | zero => rw [Nat.pow_zero] at h; omega
  | succ f => exact ⟨f, rfl⟩

set_option maxRecDepth 100000 in
set_option maxHeartbeats 400000 in
theorem markText (k : Nat) (hk : k ≤ 1000000000) (w : World) :
    Calls Try.prog 134 #[.int .i64 k] w fun e w' => e = .returned (.string (markT k)) ∧ Below w.heap.size w w' := by
  by_cases h0 : k = 0
  · subst h0
    go_enter Try.func134, Try.ntmps134
    go_wp2
    go_ret
    exact ⟨rfl, (by repeat (first | with_reducible exact belR | with_reducible apply belA | (with_reducible refine belS ?_ ?_; focus (first | omega | (simp; done) | (simp; omega))) | with_reducible apply belN | with_reducible apply belD | with_reducible assumption))⟩
  · have h1 : decide ((k : Int) ≤ 0) = false := by simp; omega
    go_enter Try.func134, Try.ntmps134
    go_wp2
    go_loopw [0, 3] (fun a s wr => ∃ f j : Nat, ∃ acc : List UInt8, a = .int .i64 j ∧ s = .string ⟨acc.toArray⟩ ∧ digitsT f j acc = digitsT 10 k [] ∧ j < 10 ^ f ∧ acc.length + f ≤ 10 ∧ j ≤ k ∧ Below w.heap.size w wr) (fun a _ _ => (intOf a).toNat)
    case atStart => exact ⟨10, k, [], rfl, rfl, rfl, Nat.lt_of_le_of_lt hk (by decide), by simp, Nat.le_refl _, (by repeat (first | with_reducible exact belR | with_reducible apply belA | (with_reducible refine belS ?_ ?_; focus (first | omega | (simp; done) | (simp; omega))) | with_reducible apply belN | with_reducible apply belD | with_reducible assumption))⟩
    case round =>
      obtain ⟨f, j, acc, rfl, rfl, hd, hj, hal, hjk, hb⟩ := hrel
      have HB := Lib.hid hb; clear hb
      have HD := Lib.hid hd; clear hd
      have HJ := Lib.hid hj; clear hj
      by_cases hlt : 0 < j
      · obtain ⟨f, rfl⟩ := pos_fuel HJ.out hlt
        have hcv := run_convert_bytes_arg (P := Try.prog) (wr.alloc (.cells #[.int .u8 (48 + ↑j % 10)] 5)) 100 5 Try.underlying100 Try.underlying5 wr.heap.size 0 1 1 [48 + ↑j % 10] rfl
          (by intro i hi; obtain rfl : i = 0 := by omega
              rw [cell_of_row _ _ _ _ _ _ (heap_alloc_new wr _)]; rfl) 9 Try.underlying9
        have hs1 : (strOfNums [48 + (j : Int) % 10]).size = 1 := strOfNums_size _
        have hs2 : ByteArray.size ⟨acc.toArray⟩ = acc.length := by simp [ByteArray.size]
        go_wp2
        go_light
        have hj := HJ.out
        have e : (48 + (j : Int) % 10).toNat = 48 + j % 10 := by omega
        refine ⟨⟨f, j / 10, UInt8.ofNat (48 + j % 10) :: acc, by go_num, ?_, (digitsT_step f j acc hlt).symm.trans HD.out, by rw [Nat.pow_succ] at hj; omega, by simp; omega, by omega, ?_⟩, by simp [intOf]; omega⟩
        · simp [strOfNums, e]
          rfl
        · have := HB.out
          exact (by repeat (first | with_reducible exact belR | with_reducible apply belA | (with_reducible refine belS ?_ ?_; focus (first | omega | (simp; done) | (simp; omega))) | with_reducible apply belN | with_reducible apply belD | with_reducible assumption))
      · have hj0 : j = 0 := by omega
        have HE : Hid (markT k = ⟨(109 :: acc).toArray⟩) := by
          have := HD.out
          rw [hj0, digitsT_zero] at this
          rw [markT, if_neg h0, ← this]; exact rfl
        clear hj0
        go_wp2
        go_ret
        refine ⟨ret_val (congrArg Value.string ?_), HB.out⟩
        rw [HE.out]
        rfl

end Go.Proofs.Ytjdoofekohjjlaa
