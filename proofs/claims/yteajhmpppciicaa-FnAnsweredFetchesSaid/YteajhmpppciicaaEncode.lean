/-
  EncodeKey.
-/
import Derived.Test.YteajhmpppciicaaUvarint
import Derived.Test.YteajhmpppciicaaKeys
namespace Go.Proofs.Yteajhmpppciicaa
open Go.RowKit

def numB (v c : Int) : UInt8 := UInt8.ofNat (v / 2 ^ (8 * c).toNat % 256).toNat
theorem numB_to (v c : Int) : ((numB v c).toNat : Int) = v / 2 ^ (8 * c).toNat % 256 := by
  unfold numB
  rw [UInt8.toNat_ofNat']
  generalize v / 2 ^ (8 * c).toNat = z
  omega
def numL (v c : Int) : List UInt8 := (List.range (5 - c).toNat).map fun (t : Nat) => numB v (5 - (t : Int))
theorem numL_snoc {v c : Int} (h0 : 0 ≤ c) (h1 : c ≤ 5) : numL v c ++ [numB v c] = numL v (c - 1) := by
  unfold numL
  rw [show (5 - (c - 1)).toNat = (5 - c).toNat + 1 by omega, List.range_succ, List.map_append]
  simp only [List.map_cons, List.map_nil]
  rw [show (5 : Int) - ((5 - c).toNat : Int) = c by omega]
theorem numL_len (v : Int) {c : Int} (h0 : -1 ≤ c) : (numL v c).length ≤ 6 := by unfold numL; rw [List.length_map, List.length_range]; omega
theorem numL_5 (v : Int) : numL v 5 = [] := rfl
def encodeKeyF (x : DKey) : List UInt8 := if isKeyF x then UInt8.ofNat x.kind.toNat :: ((if x.kind == 2 then [] else numL (x.n + 1000000000000) (-1)) ++ x.text.data.toList) else []
attribute [irreducible] numL numB
theorem shr255 (v : Int) (k : Nat) (h0 : 0 ≤ v) (h1 : v ≤ 2000000000000) : bits .and .i64 (v / 2 ^ k) 255 % 256 = v / 2 ^ k % 256 := by
  have g0 : 0 ≤ v / 2 ^ k := Int.ediv_nonneg h0 (Int.le_of_lt (Int.pow_pos (by decide)))
  have g1 : v / 2 ^ k ≤ v := Int.ediv_le_self _ h0
  generalize v / 2 ^ k = z at *
  have h := bits_mask .i64 62 (by decide) (fun n h0 h1 => by rw [IntKind.wrap_i64]; omega) 8 (by decide) z g0 (by omega)
  have e : ((2 : Int) ^ 8 - 1) = 255 := by decide
  have e2 : ((2 : Int) ^ 8) = 256 := by decide
  rw [e, e2] at h
  rw [h]; omega
theorem encodeKeyF_no {x : DKey} (h : isKeyF x = false) : encodeKeyF x = [] := by unfold encodeKeyF; rw [h]; rfl
theorem isKey_text {x : DKey} (h : isKeyF x = true) : x.text.size ≤ 12 := by
  unfold isKeyF isKeyTextF within at h
  simp only [Bool.and_eq_true, decide_eq_true_eq] at h
  omega
theorem encodeKeyF_len (x : DKey) : (encodeKeyF x).length ≤ 19 := by
  cases h : isKeyF x
  · rw [encodeKeyF_no h]; simp
  · have h1 := isKey_text h
    unfold encodeKeyF
    rw [h]
    have h2 := numL_len (x.n + 1000000000000) (c := -1) (by omega)
    simp only [if_true, List.length_cons, List.length_append, Array.length_toList, ByteArray.size_data]
    split
    · simp; omega
    · omega
theorem str_src {P : Program} {tx : TypeId} {w : World} (hk : P.underlying tx = some .string) (s : ByteArray) : Src P 1 tx (.string s) s.data.toList.length (s.data.toList.flatMap fun n => [Value.int .u8 n.toNat]) w := by
  have h := Src.ofString (P := P) (w := w) hk s
  have e1 : s.data.toList.length = s.size := by simp
  have e2 : (s.data.toList.flatMap fun n => [Value.int .u8 n.toNat]) = byteCells s := by
    unfold byteCells
    generalize s.data.toList = l
    induction l with
    | nil => rfl
    | cons x l ih => rw [List.flatMap_cons, List.map_cons, ih]; rfl
  rw [e1, e2]; exact h

end Go.Proofs.Yteajhmpppciicaa
