/-
  EncodeKey.
-/
import Derived.Test.YtlfebehpmefioaaGreatUvarint
import Derived.Test.YtlfebehpmefioaaGreatKeys
namespace Go.Proofs.YtlfebehpmefioaaGreat
open Go.RowKit

def numB (v c : Int) : UInt8 := UInt8.ofNat (v / 2 ^ (8 * c).toNat % 256).toNat
theorem numB_to (v c : Int) : ((numB v c).toNat : Int) = v / 2 ^ (8 * c).toNat % 256 := by
  unfold numB
  rw [UInt8.toNat_ofNat']
  generalize v / 2 ^ (8 * c).toNat = z
  omega
def numL (v c : Int) : List UInt8 := (List.range (5 - c).toNat).map fun (t : Nat) => numB v (5 - (t : Int))
theorem numL_snoc {v c : Int} (h0 : 0 ≤ c) (h1 : c ≤ 5) : numL v c ++ [numB v c] = numL v (c - 1) := by
  unfold numL
  rw [show (5 - (c - 1)).toNat = (5 - c).toNat + 1 by omega, List.range_succ, List.map_append]
  simp only [List.map_cons, List.map_nil]
  rw [show (5 : Int) - ((5 - c).toNat : Int) = c by omega]
theorem numL_len (v : Int) {c : Int} (h0 : -1 ≤ c) : (numL v c).length ≤ 6 := by unfold numL; rw [List.length_map, List.length_range]; omega
theorem numL_5 (v : Int) : numL v 5 = [] := rfl
def encodeKeyF (x : DKey) : List UInt8 := if isKeyF x then UInt8.ofNat x.kind.toNat :: ((if x.kind == 2 then [] else numL (x.n + 1000000000000) (-1)) ++ x.text.data.toList) else []
attribute [irreducible] numL numB
theorem shr255 (v : Int) (k : Nat) (h0 : 0 ≤ v) (h1 : v ≤ 2000000000000) : bits .and .i64 (v / 2 ^ k) 255 % 256 = v / 2 ^ k % 256 := by
  have g0 : 0 ≤ v / 2 ^ k := Int.ediv_nonneg h0 (Int.le_of_lt (Int.pow_pos (by decide)))
  have g1 : v / 2 ^ k ≤ v := Int.ediv_le_self _ h0
  generalize v / 2 ^ k = z at *
  have h := bits_mask .i64 62 (by decide) (fun n h0 h1 => by rw [IntKind.wrap_i64]; omega) 8 (by decide) z g0 (by omega)
  have e : ((2 : Int) ^ 8 - 1) = 255 := by decide
  have e2 : ((2 : Int) ^ 8) = 256 := by decide
  rw [e, e2] at h
  rw [h]; omega
theorem encodeKeyF_no {x : DKey} (h : isKeyF x = false) : encodeKeyF x = [] := by unfold encodeKeyF; rw [h]; rfl
theorem isKey_text {x : DKey} (h : isKeyF x = true) : x.text.size ≤ 12 := by
  unfold isKeyF isKeyTextF within at h
  simp only [Bool.and_eq_true, decide_eq_true_eq] at h
  omega
theorem encodeKeyF_len (x : DKey) : (encodeKeyF x).length ≤ 19 := by
  cases h : isKeyF x
  · rw [encodeKeyF_no h]; simp
  · have h1 := isKey_text h
    unfold encodeKeyF
    rw [h]
    have h2 := numL_len (x.n + 1000000000000) (c := -1) (by omega)
    simp only [if_true, List.length_cons, List.length_append, Array.length_toList, ByteArray.size_data]
    split
    · simp; omega
    · omega
theorem str_src {P : Program} {tx : TypeId} {w : World} (hk : P.underlying tx = some .string) (s : ByteArray) : Src P 1 tx (.string s) s.data.toList.length (s.data.toList.flatMap fun n => [Value.int .u8 n.toNat]) w := by
  have h := Src.ofString (P := P) (w := w) hk s
  have e1 : s.data.toList.length = s.size := by simp
  have e2 : (s.data.toList.flatMap fun n => [Value.int .u8 n.toNat]) = byteCells s := by
    unfold byteCells
    generalize s.data.toList = l
    induction l with
    | nil => rfl
    | cons x l ih => rw [List.flatMap_cons, List.map_cons, ih]; rfl
  rw [e1, e2]; exact h

set_option maxRecDepth 100000 in
set_option maxHeartbeats 1600000 in
theorem implEncodeKey_1 (cs : List Value) (n : Int) (text : ByteArray) (w : World) (h : Reads DKey.rep w cs ⟨1, n, text⟩) (hk : isKeyF ⟨1, n, text⟩ = true) :
    Calls Tryz.prog 57 #[.agg cs.toArray] w fun e w' => ∃ v', e = .returned v' ∧ Fresh (Rep.slice 5 Rep.byte) w.heap.size w' [v'] (encodeKeyF ⟨1, n, text⟩) ∧ Below w.heap.size w w' := by
  have HR := Lib.hid h
  obtain ⟨fp, h⟩ := h
  obtain ⟨rfl, _, hs⟩ := DKey.rd.1 h
  clear h
  have ht := isKey_text hk
  simp only at hs ht
  obtain ⟨i0, hi, hz0, hz1, hz2⟩ := info_parts Tryz.infoByte
  have hn : -1000000000000 ≤ n ∧ n ≤ 1000000000000 := by
    have hk' := hk
    unfold isKeyF within at hk'
    simp only [Bool.and_eq_true, decide_eq_true_eq] at hk'
    omega
  have HE := Lib.hid (show encodeKeyF ⟨1, n, text⟩ = (1 : UInt8) :: ((numL (n + 1000000000000) (-1)) ++ text.data.toList) by unfold encodeKeyF; rw [hk]; rfl)
  have htl : text.data.toList.length ≤ 12 := by simp; omega
  go_enter Tryz.func57, Tryz.ntmps57
  go_wp2_with fail
  refine (implIsKey _ _ _ (HR.out.below (by repeat (first | with_reducible exact belR | with_reducible apply belA | (with_reducible refine belS ?_ ?_; focus (first | omega | (simp; done) | (simp; omega))) | with_reducible apply belN | with_reducible apply belD | with_reducible assumption)))).mono ?_
  rintro e w1 ⟨rfl, hb⟩
  have HX : Hid (WB w1 w.heap.size #[.int .i64 1, .int .i64 n, .string text]) := Lib.hid ((WB.at rfl).keep hb)
  have HB : Hid (Below w.heap.size w w1) := Lib.hid (below_call (by repeat (first | with_reducible exact belR | with_reducible apply belA | (with_reducible refine belS ?_ ?_; focus (first | omega | (simp; done) | (simp; omega))) | with_reducible apply belN | with_reducible apply belD | with_reducible assumption)) (by first | omega | (simp; done) | (simp; omega)) hb)
  have hsz : w.heap.size + 1 ≤ w1.heap.size := by have y := hb.size; simp at y; omega
  clear hb
  have ⟨c_HX, z_HX, f_HX⟩ := HX.out
  go_wp2
  clear c_HX z_HX f_HX
  go_loopw [3, 4] (fun r i wr => ∃ c : Int, -1 ≤ c ∧ c ≤ 5 ∧ i = .int .i64 c ∧ WB wr w.heap.size #[.int .i64 1, .int .i64 n, .string text] ∧ Fresh (Rep.slice 5 Rep.byte) (w.heap.size + 1) wr [r] ((1 : UInt8) :: numL (n + 1000000000000) c) ∧ Below w.heap.size w wr) (fun _ i _ => (intOf i + 1).toNat)
  case atStart => exact ⟨5, by omega, by omega, rfl, HX.out.growA, by rw [numL_5]; exact (lit_fresh FlatR.byte (w := w1) (xs := #[.int .u8 1]) (us := [(1 : UInt8)]) rfl rfl (by decide) (by simp) rfl).mono hsz, by have y := HB.out; exact (by repeat (first | with_reducible exact belR | with_reducible apply belA | (with_reducible refine belS ?_ ?_; focus (first | omega | (simp; done) | (simp; omega))) | with_reducible apply belN | with_reducible apply belD | with_reducible assumption))⟩
  case round =>
    obtain ⟨c, hc0, hc5, rfl, hx, hf, hbb⟩ := hrel
    replace HX := Lib.hid hx; clear hx
    obtain ⟨bo, cap, rfl⟩ := hf.slice
    replace HB := Lib.hid hbb; clear hbb
    have HF := Lib.hid hf; clear hf
    have hll := numL_len (n + 1000000000000) (c := c) (by omega)
    generalize hq : (1 : UInt8) :: numL (n + 1000000000000) c = q at *
    have HQ := Lib.hid hq; clear hq
    have hql : q.length ≤ 7 := by rw [← HQ.out, List.length_cons]; omega
    have ⟨c_HX, z_HX, f_HX⟩ := HX.out
    by_cases hlt : 0 ≤ c
    · obtain ⟨u, hu⟩ : ∃ u : UInt8, u = numB (n + 1000000000000) c := ⟨_, rfl⟩
      have hto : (u.toNat : Int) = (n + 1000000000000) / 2 ^ (8 * c).toNat % 256 := by rw [hu, numB_to]
      have hsn := Lib.hid (show q ++ [u] = (1 : UInt8) :: numL (n + 1000000000000) (c - 1) by rw [← HQ.out, hu, ← numL_snoc hlt hc5]; rfl)
      clear hu
      have hsh : min (8 * c).toNat 64 = (8 * c).toNat := by omega
      go_wp2_with (at_builtin; refine wpList_push _ rfl _ _ 22 22 rfl FlatR.byte (w.heap.size + 1) 5 i0 _ _ Tryz.underlying22 Tryz.underlying22 hi hz0 hz1 hz2 rfl _ q rfl (HF.out.below (by repeat (first | with_reducible exact belR | with_reducible apply belA | (with_reducible refine belS ?_ ?_; focus (first | omega | (simp; done) | (simp; omega))) | with_reducible apply belN | with_reducible apply belD | with_reducible assumption))) u _ _ _ rfl ?p0a ?p4a trivial ?p1a ?p2a ?p3a ?_)
      case p0a => first | rfl | simp
      all_goals try (case p4a => exact shr255 _ _ (by omega) (by omega))
      case p1a => omega
      case p2a => decide
      case p3a => have y := HB.out.size; have y2 := HX.out.lt; simp; omega
      intro bo' cap' w2 hf1 hb1
      rw [hsn.out] at hf1
      have HF2 := Lib.hid hf1
      have HX2 := Lib.hid (HX.out.grow hb1 (Nat.lt_succ_self _))
      have HB2 : Hid (Below w.heap.size w w2) := Lib.hid (HB.out.trans (hb1.mono (Nat.le_succ _)))
      clear hf1 hb1
      clear c_HX z_HX f_HX
      clear HX HF HB
      go_wp2
      go_light
      exact ⟨⟨c - 1, by omega, by omega, by go_num, HX2.out, HF2.out, HB2.out⟩, by simp [intOf]; omega⟩
    · have hce : c = -1 := by omega
      subst hce
      go_wp2_with (at_builtin; refine wpList_grow _ rfl _ _ 22 9 rfl FlatR.byte (w.heap.size + 1) 5 i0 _ 1 Tryz.underlying22 hi hz0 hz1 hz2 rfl _ q rfl (HF.out.below (by repeat (first | with_reducible exact belR | with_reducible apply belA | (with_reducible refine belS ?_ ?_; focus (first | omega | (simp; done) | (simp; omega))) | with_reducible apply belN | with_reducible apply belD | with_reducible assumption))) _ text.data.toList rfl (str_src Tryz.underlying9 text) (by simp) ?c1 ?c2 ?c3 ?_)
      case c1 => first | omega | (simp; omega)
      case c2 => unfold maxLen; first | omega | (simp; omega)
      case c3 => have y := HX.out.lt; simp; omega
      intro ao2 cap2 w2 hf2 hb2
      have HF2 : Hid (Fresh (Rep.slice 5 Rep.byte) w.heap.size w2 [.slice ao2 (q.length + text.data.toList.length) cap2] (encodeKeyF ⟨1, n, text⟩)) := Lib.hid (by rw [HE.out, ← List.cons_append, HQ.out]; exact hf2.mono (Nat.le_succ _))
      have HB2 : Hid (Below w.heap.size w w2) := Lib.hid (by have y := HB.out; exact Below.trans (by repeat (first | with_reducible exact belR | with_reducible apply belA | (with_reducible refine belS ?_ ?_; focus (first | omega | (simp; done) | (simp; omega))) | with_reducible apply belN | with_reducible apply belD | with_reducible assumption)) (hb2.mono (Nat.le_succ _)))
      clear hf2 hb2
      go_wp2
      go_ret
      exact ⟨_, rfl, HF2.out, HB2.out⟩

set_option maxRecDepth 100000 in
set_option maxHeartbeats 1600000 in
theorem implEncodeKey_2 (cs : List Value) (n : Int) (text : ByteArray) (w : World) (h : Reads DKey.rep w cs ⟨2, n, text⟩) (hk : isKeyF ⟨2, n, text⟩ = true) :
    Calls Tryz.prog 57 #[.agg cs.toArray] w fun e w' => ∃ v', e = .returned v' ∧ Fresh (Rep.slice 5 Rep.byte) w.heap.size w' [v'] (encodeKeyF ⟨2, n, text⟩) ∧ Below w.heap.size w w' := by
  have HR := Lib.hid h
  obtain ⟨fp, h⟩ := h
  obtain ⟨rfl, _, hs⟩ := DKey.rd.1 h
  clear h
  have ht := isKey_text hk
  simp only at hs ht
  obtain ⟨i0, hi, hz0, hz1, hz2⟩ := info_parts Tryz.infoByte
  have hn : -1000000000000 ≤ n ∧ n ≤ 1000000000000 := by
    have hk' := hk
    unfold isKeyF within at hk'
    simp only [Bool.and_eq_true, decide_eq_true_eq] at hk'
    omega
  have HE := Lib.hid (show encodeKeyF ⟨2, n, text⟩ = (2 : UInt8) :: (([]) ++ text.data.toList) by unfold encodeKeyF; rw [hk]; rfl)
  have htl : text.data.toList.length ≤ 12 := by simp; omega
  go_enter Tryz.func57, Tryz.ntmps57
  go_wp2_with fail
  refine (implIsKey _ _ _ (HR.out.below (by repeat (first | with_reducible exact belR | with_reducible apply belA | (with_reducible refine belS ?_ ?_; focus (first | omega | (simp; done) | (simp; omega))) | with_reducible apply belN | with_reducible apply belD | with_reducible assumption)))).mono ?_
  rintro e w1 ⟨rfl, hb⟩
  have HX : Hid (WB w1 w.heap.size #[.int .i64 2, .int .i64 n, .string text]) := Lib.hid ((WB.at rfl).keep hb)
  have HB : Hid (Below w.heap.size w w1) := Lib.hid (below_call (by repeat (first | with_reducible exact belR | with_reducible apply belA | (with_reducible refine belS ?_ ?_; focus (first | omega | (simp; done) | (simp; omega))) | with_reducible apply belN | with_reducible apply belD | with_reducible assumption)) (by first | omega | (simp; done) | (simp; omega)) hb)
  have hsz : w.heap.size + 1 ≤ w1.heap.size := by have y := hb.size; simp at y; omega
  clear hb
  have ⟨c_HX, z_HX, f_HX⟩ := HX.out
  obtain ⟨q, hq⟩ : ∃ q : List UInt8, q = [(2 : UInt8)] := ⟨_, rfl⟩
  have HQ : Hid ((2 : UInt8) :: [] = q) := Lib.hid hq.symm
  have hql : q.length ≤ 7 := by rw [hq]; decide
  clear hq
  go_wp2_with (at_builtin; refine wpList_grow _ rfl _ _ 22 9 rfl FlatR.byte (w.heap.size + 1) 5 i0 _ 1 Tryz.underlying22 hi hz0 hz1 hz2 rfl _ [(2 : UInt8)] rfl ((lit_fresh FlatR.byte (w := w1) (xs := #[.int .u8 2]) (us := [(2 : UInt8)]) rfl rfl (by decide) (by simp) rfl).mono hsz) _ text.data.toList rfl (str_src Tryz.underlying9 text) (by simp) ?c1 ?c2 ?c3 ?_)
  case c1 => first | omega | (simp; omega)
  case c2 => unfold maxLen; first | omega | (simp; omega)
  case c3 => have y := HX.out.lt; simp; omega
  intro ao2 cap2 w2 hf2 hb2
  have HF2 : Hid (Fresh (Rep.slice 5 Rep.byte) w.heap.size w2 [.slice ao2 ([(2 : UInt8)].length + text.data.toList.length) cap2] (encodeKeyF ⟨2, n, text⟩)) := Lib.hid (by rw [HE.out, ← List.cons_append]; exact hf2.mono (Nat.le_succ _))
  have HB2 : Hid (Below w.heap.size w w2) := Lib.hid (by have y := HB.out; exact Below.trans (by repeat (first | with_reducible exact belR | with_reducible apply belA | (with_reducible refine belS ?_ ?_; focus (first | omega | (simp; done) | (simp; omega))) | with_reducible apply belN | with_reducible apply belD | with_reducible assumption)) (hb2.mono (Nat.le_succ _)))
  clear hf2 hb2
  go_wp2
  go_ret
  exact ⟨_, rfl, HF2.out, HB2.out⟩

set_option maxRecDepth 100000 in
set_option maxHeartbeats 1600000 in
theorem implEncodeKey_3 (cs : List Value) (n : Int) (text : ByteArray) (w : World) (h : Reads DKey.rep w cs ⟨3, n, text⟩) (hk : isKeyF ⟨3, n, text⟩ = true) :
    Calls Tryz.prog 57 #[.agg cs.toArray] w fun e w' => ∃ v', e = .returned v' ∧ Fresh (Rep.slice 5 Rep.byte) w.heap.size w' [v'] (encodeKeyF ⟨3, n, text⟩) ∧ Below w.heap.size w w' := by
  have HR := Lib.hid h
  obtain ⟨fp, h⟩ := h
  obtain ⟨rfl, _, hs⟩ := DKey.rd.1 h
  clear h
  have ht := isKey_text hk
  simp only at hs ht
  obtain ⟨i0, hi, hz0, hz1, hz2⟩ := info_parts Tryz.infoByte
  have hn : -1000000000000 ≤ n ∧ n ≤ 1000000000000 := by
    have hk' := hk
    unfold isKeyF within at hk'
    simp only [Bool.and_eq_true, decide_eq_true_eq] at hk'
    omega
  have HE := Lib.hid (show encodeKeyF ⟨3, n, text⟩ = (3 : UInt8) :: ((numL (n + 1000000000000) (-1)) ++ text.data.toList) by unfold encodeKeyF; rw [hk]; rfl)
  have htl : text.data.toList.length ≤ 12 := by simp; omega
  go_enter Tryz.func57, Tryz.ntmps57
  go_wp2_with fail
  refine (implIsKey _ _ _ (HR.out.below (by repeat (first | with_reducible exact belR | with_reducible apply belA | (with_reducible refine belS ?_ ?_; focus (first | omega | (simp; done) | (simp; omega))) | with_reducible apply belN | with_reducible apply belD | with_reducible assumption)))).mono ?_
  rintro e w1 ⟨rfl, hb⟩
  have HX : Hid (WB w1 w.heap.size #[.int .i64 3, .int .i64 n, .string text]) := Lib.hid ((WB.at rfl).keep hb)
  have HB : Hid (Below w.heap.size w w1) := Lib.hid (below_call (by repeat (first | with_reducible exact belR | with_reducible apply belA | (with_reducible refine belS ?_ ?_; focus (first | omega | (simp; done) | (simp; omega))) | with_reducible apply belN | with_reducible apply belD | with_reducible assumption)) (by first | omega | (simp; done) | (simp; omega)) hb)
  have hsz : w.heap.size + 1 ≤ w1.heap.size := by have y := hb.size; simp at y; omega
  clear hb
  have ⟨c_HX, z_HX, f_HX⟩ := HX.out
  go_wp2
  clear c_HX z_HX f_HX
  go_loopw [3, 4] (fun r i wr => ∃ c : Int, -1 ≤ c ∧ c ≤ 5 ∧ i = .int .i64 c ∧ WB wr w.heap.size #[.int .i64 3, .int .i64 n, .string text] ∧ Fresh (Rep.slice 5 Rep.byte) (w.heap.size + 1) wr [r] ((3 : UInt8) :: numL (n + 1000000000000) c) ∧ Below w.heap.size w wr) (fun _ i _ => (intOf i + 1).toNat)
  case atStart => exact ⟨5, by omega, by omega, rfl, HX.out.growA, by rw [numL_5]; exact (lit_fresh FlatR.byte (w := w1) (xs := #[.int .u8 3]) (us := [(3 : UInt8)]) rfl rfl (by decide) (by simp) rfl).mono hsz, by have y := HB.out; exact (by repeat (first | with_reducible exact belR | with_reducible apply belA | (with_reducible refine belS ?_ ?_; focus (first | omega | (simp; done) | (simp; omega))) | with_reducible apply belN | with_reducible apply belD | with_reducible assumption))⟩
  case round =>
    obtain ⟨c, hc0, hc5, rfl, hx, hf, hbb⟩ := hrel
    replace HX := Lib.hid hx; clear hx
    obtain ⟨bo, cap, rfl⟩ := hf.slice
    replace HB := Lib.hid hbb; clear hbb
    have HF := Lib.hid hf; clear hf
    have hll := numL_len (n + 1000000000000) (c := c) (by omega)
    generalize hq : (3 : UInt8) :: numL (n + 1000000000000) c = q at *
    have HQ := Lib.hid hq; clear hq
    have hql : q.length ≤ 7 := by rw [← HQ.out, List.length_cons]; omega
    have ⟨c_HX, z_HX, f_HX⟩ := HX.out
    by_cases hlt : 0 ≤ c
    · obtain ⟨u, hu⟩ : ∃ u : UInt8, u = numB (n + 1000000000000) c := ⟨_, rfl⟩
      have hto : (u.toNat : Int) = (n + 1000000000000) / 2 ^ (8 * c).toNat % 256 := by rw [hu, numB_to]
      have hsn := Lib.hid (show q ++ [u] = (3 : UInt8) :: numL (n + 1000000000000) (c - 1) by rw [← HQ.out, hu, ← numL_snoc hlt hc5]; rfl)
      clear hu
      have hsh : min (8 * c).toNat 64 = (8 * c).toNat := by omega
      go_wp2_with (at_builtin; refine wpList_push _ rfl _ _ 22 22 rfl FlatR.byte (w.heap.size + 1) 5 i0 _ _ Tryz.underlying22 Tryz.underlying22 hi hz0 hz1 hz2 rfl _ q rfl (HF.out.below (by repeat (first | with_reducible exact belR | with_reducible apply belA | (with_reducible refine belS ?_ ?_; focus (first | omega | (simp; done) | (simp; omega))) | with_reducible apply belN | with_reducible apply belD | with_reducible assumption))) u _ _ _ rfl ?p0a ?p4a trivial ?p1a ?p2a ?p3a ?_)
      case p0a => first | rfl | simp
      all_goals try (case p4a => exact shr255 _ _ (by omega) (by omega))
      case p1a => omega
      case p2a => decide
      case p3a => have y := HB.out.size; have y2 := HX.out.lt; simp; omega
      intro bo' cap' w2 hf1 hb1
      rw [hsn.out] at hf1
      have HF2 := Lib.hid hf1
      have HX2 := Lib.hid (HX.out.grow hb1 (Nat.lt_succ_self _))
      have HB2 : Hid (Below w.heap.size w w2) := Lib.hid (HB.out.trans (hb1.mono (Nat.le_succ _)))
      clear hf1 hb1
      clear c_HX z_HX f_HX
      clear HX HF HB
      go_wp2
      go_light
      exact ⟨⟨c - 1, by omega, by omega, by go_num, HX2.out, HF2.out, HB2.out⟩, by simp [intOf]; omega⟩
    · have hce : c = -1 := by omega
      subst hce
      go_wp2_with (at_builtin; refine wpList_grow _ rfl _ _ 22 9 rfl FlatR.byte (w.heap.size + 1) 5 i0 _ 1 Tryz.underlying22 hi hz0 hz1 hz2 rfl _ q rfl (HF.out.below (by repeat (first | with_reducible exact belR | with_reducible apply belA | (with_reducible refine belS ?_ ?_; focus (first | omega | (simp; done) | (simp; omega))) | with_reducible apply belN | with_reducible apply belD | with_reducible assumption))) _ text.data.toList rfl (str_src Tryz.underlying9 text) (by simp) ?c1 ?c2 ?c3 ?_)
      case c1 => first | omega | (simp; omega)
      case c2 => unfold maxLen; first | omega | (simp; omega)
      case c3 => have y := HX.out.lt; simp; omega
      intro ao2 cap2 w2 hf2 hb2
      have HF2 : Hid (Fresh (Rep.slice 5 Rep.byte) w.heap.size w2 [.slice ao2 (q.length + text.data.toList.length) cap2] (encodeKeyF ⟨3, n, text⟩)) := Lib.hid (by rw [HE.out, ← List.cons_append, HQ.out]; exact hf2.mono (Nat.le_succ _))
      have HB2 : Hid (Below w.heap.size w w2) := Lib.hid (by have y := HB.out; exact Below.trans (by repeat (first | with_reducible exact belR | with_reducible apply belA | (with_reducible refine belS ?_ ?_; focus (first | omega | (simp; done) | (simp; omega))) | with_reducible apply belN | with_reducible apply belD | with_reducible assumption)) (hb2.mono (Nat.le_succ _)))
      clear hf2 hb2
      go_wp2
      go_ret
      exact ⟨_, rfl, HF2.out, HB2.out⟩

set_option maxRecDepth 100000 in
set_option maxHeartbeats 800000 in
theorem implEncodeKey (cs : List Value) (x : DKey) (w : World) (h : Reads DKey.rep w cs x) :
    Calls Tryz.prog 57 #[.agg cs.toArray] w fun e w' => ∃ v', e = .returned v' ∧ Fresh (Rep.slice 5 Rep.byte) w.heap.size w' [v'] (encodeKeyF x) ∧ Below w.heap.size w w' := by
  cases hk : isKeyF x
  · have HR := Lib.hid h
    obtain ⟨fp, h⟩ := h
    obtain ⟨rfl, _, hs⟩ := DKey.rd.1 h
    clear h
    rw [encodeKeyF_no hk]
    go_enter Tryz.func57, Tryz.ntmps57
    go_wp2_with fail
    refine (implIsKey _ _ _ (HR.out.below (by repeat (first | with_reducible exact belR | with_reducible apply belA | (with_reducible refine belS ?_ ?_; focus (first | omega | (simp; done) | (simp; omega))) | with_reducible apply belN | with_reducible apply belD | with_reducible assumption)))).mono ?_
    rintro e w1 ⟨rfl, hb⟩
    have HB : Hid (Below w.heap.size w w1) := Lib.hid (below_call (by repeat (first | with_reducible exact belR | with_reducible apply belA | (with_reducible refine belS ?_ ?_; focus (first | omega | (simp; done) | (simp; omega))) | with_reducible apply belN | with_reducible apply belD | with_reducible assumption)) (by first | omega | (simp; done) | (simp; omega)) hb)
    have hsz : w.heap.size ≤ w1.heap.size := HB.out.size
    clear hb
    go_wp2
    go_ret
    have y := HB.out
    exact ⟨_, rfl, (lit_fresh FlatR.byte (w := w1) (xs := #[]) (us := []) rfl rfl (by decide) (by simp) rfl).mono hsz, (by repeat (first | with_reducible exact belR | with_reducible apply belA | (with_reducible refine belS ?_ ?_; focus (first | omega | (simp; done) | (simp; omega))) | with_reducible apply belN | with_reducible apply belD | with_reducible assumption))⟩
  · obtain ⟨kind, n, text⟩ := x
    have h3 : kind = 1 ∨ kind = 2 ∨ kind = 3 := by
      have hk' := hk
      unfold isKeyF within at hk'
      simp only [Bool.and_eq_true, decide_eq_true_eq] at hk'
      omega
    rcases h3 with rfl | rfl | rfl
    · exact implEncodeKey_1 cs n text w h hk
    · exact implEncodeKey_2 cs n text w h hk
    · exact implEncodeKey_3 cs n text w h hk

end Go.Proofs.YtlfebehpmefioaaGreat
