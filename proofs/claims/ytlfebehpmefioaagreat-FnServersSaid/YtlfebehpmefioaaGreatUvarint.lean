/-
  AppendUvarint, AppendBytes.
-/
import Derived.Test.YtlfebehpmefioaaGreatEncrypt
import Derived.Test.YtlfebehpmefioaaGreatDerive
import Derived.Laws.Bits128
namespace Go.Proofs.YtlfebehpmefioaaGreat
open Go.RowKit

def uvF (n : Nat) : List UInt8 := if n < 128 then [UInt8.ofNat n] else UInt8.ofNat (n % 128 + 128) :: uvF (n / 128)
termination_by n
decreasing_by omega
theorem uvF_small {n : Nat} (h : n < 128) : uvF n = [UInt8.ofNat n] := by rw [uvF, if_pos h]
theorem uvF_big {n : Nat} (h : ¬ n < 128) : uvF n = UInt8.ofNat (n % 128 + 128) :: uvF (n / 128) := by rw [uvF, if_neg h]
theorem uvF_len : ∀ (k n : Nat), n < 128 ^ (k + 1) → (uvF n).length ≤ k + 1
  | 0, n, h => by rw [uvF_small (by simpa using h)]; simp
  | k + 1, n, h => by
    by_cases hn : n < 128
    · rw [uvF_small hn]; simp
    · rw [uvF_big hn]
      have := uvF_len k (n / 128) (by rw [Nat.pow_succ] at h; exact Nat.div_lt_of_lt_mul (by rw [Nat.mul_comm]; exact h))
      simp only [List.length_cons]; omega
def uvarintF (n : Int) : List UInt8 := if within n 0 1000000000000 then uvF n.toNat else []
theorem uvarintF_no {n : Int} (h : within n 0 1000000000000 = false) : uvarintF n = [] := by unfold uvarintF; rw [h]; rfl
theorem uvarintF_yes {n : Int} (h : within n 0 1000000000000 = true) : ∃ m : Nat, n = (m : Int) ∧ m ≤ 1000000000000 ∧ uvarintF n = uvF m := by
  unfold within at h
  simp only [Bool.and_eq_true, decide_eq_true_eq] at h
  refine ⟨n.toNat, by omega, by omega, ?_⟩
  unfold uvarintF within
  rw [decide_eq_true h.1, decide_eq_true h.2]; rfl
theorem uvarintF_len (n : Int) : (uvarintF n).length ≤ 6 := by
  cases h : within n 0 1000000000000
  · rw [uvarintF_no h]; simp
  · obtain ⟨m, _, hm, e⟩ := uvarintF_yes h
    rw [e]; exact uvF_len 5 m (by omega)
attribute [irreducible] uvarintF

/-- One byte of a number. -/
def uvB (m : Nat) : UInt8 := UInt8.ofNat (m % 128 + 128)
theorem uvB_to (m : Nat) : ((uvB m).toNat : Int) = (m : Int) % 128 + 128 := by
  unfold uvB; rw [UInt8.toNat_ofNat']; omega
def lastB (m : Nat) : UInt8 := UInt8.ofNat m
theorem lastB_to {m : Nat} (h : m < 128) : ((lastB m).toNat : Int) = (m : Int) := by
  unfold lastB; rw [UInt8.toNat_ofNat']; omega
theorem or128 (x : Int) (h0 : 0 ≤ x) (h1 : x < 128) : bits .or .i64 x 128 = x + 128 := by
  obtain ⟨n, rfl⟩ := Int.eq_ofNat_of_zero_le h0
  have h := (bits_nat .i64 62 (by decide) (fun n h0 h1 => by rw [IntKind.wrap_i64]; omega) n 128 (by omega) (by decide)).2
  rw [show ((128 : Int)) = ((128 : Nat) : Int) from rfl, h]
  have e : n ||| 128 = n + 128 := by
    have := Nat.shiftLeft_add_eq_or_of_lt (i := 7) (b := n) (show n < 2 ^ 7 by omega) 1
    rw [show 1 <<< 7 = 128 from rfl] at this
    rw [Nat.or_comm, ← this]; omega
  rw [e]; omega

set_option maxRecDepth 100000 in
set_option maxHeartbeats 1600000 in
theorem implAppendUvarint (v : Value) (l : List UInt8) (n : Int) (w : World) (h : Reads Rep.bytes w [v] l) (hs : l.length ≤ 4194304) :
    Calls Tryz.prog 107 #[v, .int .i64 n] w fun e w' => ∃ v', e = .returned v' ∧ Fresh (Rep.slice 5 Rep.byte) w.heap.size w' [v'] (l ++ uvarintF n) ∧ Below w.heap.size w w' := by
  have HK : Hid (Reads (Rep.slice 5 Rep.byte) w [v] l) := Lib.hid h
  obtain ⟨fp, h⟩ := h
  obtain ⟨ao, c1, rfl, hm, _, hu⟩ := slice_open h
  clear hu h
  obtain ⟨i0, hi, hz0, hz1, hz2⟩ := info_parts Tryz.infoByte
  go_enter Tryz.func107, Tryz.ntmps107
  go_wp2_with fail
  refine (implCopyBytes _ l _ HK.out hs).mono ?_
  rintro e w1 ⟨v', rfl, hf1, hb1⟩
  obtain ⟨ao1, cap1, rfl⟩ := hf1.slice
  have HF1 := Lib.hid hf1
  have HB1 := Lib.hid hb1
  clear hf1 hb1
  cases n1 : within n 0 1000000000000
  · have he := Lib.hid (uvarintF_no n1)
    go_wp2_with (go_at_call 60; refine (implInRange _ _ _ _).mono ?_; rintro e w2 ⟨rfl, rfl⟩)
    go_ret
    exact ⟨_, rfl, by rw [he.out, List.append_nil]; exact HF1.out, HB1.out⟩
  · obtain ⟨m0, rfl, hm0, he⟩ := uvarintF_yes n1
    have HE := Lib.hid he; clear he
    have hl0 : (uvarintF (m0 : Int)).length ≤ 6 := uvarintF_len _
    rw [HE.out] at hl0
    go_wp2_with (go_at_call 60; refine (implInRange _ _ _ _).mono ?_; rintro e w2 ⟨rfl, rfl⟩)
    go_loopw [1, 5] (fun a r wr => ∃ (m : Nat) (p : List UInt8), m ≤ 1000000000000 ∧ a = .int .i64 m ∧ p.length ≤ 6 ∧ Hid (p ++ uvF m = uvF m0) ∧ Fresh (Rep.slice 5 Rep.byte) w.heap.size wr [r] (l ++ p) ∧ Below w.heap.size w wr) (fun a _ _ => (intOf a).toNat)
    case atStart => exact ⟨m0, [], hm0, rfl, by simp, Lib.hid rfl, by rw [List.append_nil]; exact HF1.out, HB1.out⟩
    case round =>
      obtain ⟨m, p, hm, rfl, hp, hpu, hf, hb⟩ := hrel
      obtain ⟨bo, cap, rfl⟩ := hf.slice
      have HB := Lib.hid hb; clear hb
      have HF := Lib.hid hf; clear hf
      have hlp : (l ++ p).length = l.length + p.length := List.length_append
      by_cases hlt : m < 128
      · obtain ⟨u, hu⟩ : ∃ u : UInt8, u = lastB m := ⟨_, rfl⟩
        have hv : IntKind.u8.wrap (m : Int) = (u.toNat : Int) := by rw [hu, lastB_to hlt, u8_wrap]; omega
        have hfin := Lib.hid (show l ++ (p ++ [u]) = l ++ uvF m0 by rw [← hpu.out, uvF_small hlt, hu]; rfl)
        have i1 : (m : Int) < 128 := by omega
        clear hu
        go_wp2_with (at_builtin; refine wpList_push _ rfl _ _ 22 22 rfl FlatR.byte w.heap.size 5 i0 _ _ Tryz.underlying22 Tryz.underlying22 hi hz0 hz1 hz2 rfl _ _ rfl (HF.out.below (by repeat (first | with_reducible exact belR | with_reducible apply belA | (with_reducible refine belS ?_ ?_; focus (first | omega | (simp; done) | (simp; omega))) | with_reducible apply belN | with_reducible apply belD | with_reducible assumption))) u _ _ _ rfl ?p0a rfl trivial ?p1a ?p2a ?p3a ?_)
        case p0a => first | rfl | simp
        case p1a => omega
        case p2a => decide
        case p3a => have y := HB.out.size; simp; omega
        intro bo' cap' w1 hf1 hb1
        rw [hfin.out] at hf1
        have HF2 := Lib.hid hf1; clear hf1
        have HB2 : Hid (Below w.heap.size w w1) := Lib.hid (by have y := HB.out; exact Below.trans (by repeat (first | with_reducible exact belR | with_reducible apply belA | (with_reducible refine belS ?_ ?_; focus (first | omega | (simp; done) | (simp; omega))) | with_reducible apply belN | with_reducible apply belD | with_reducible assumption)) hb1); clear hb1
        go_wp2
        go_ret
        exact ⟨_, rfl, by rw [HE.out]; exact HF2.out, HB2.out⟩
      · obtain ⟨u, hu⟩ : ∃ u : UInt8, u = uvB m := ⟨_, rfl⟩
        have i1 : (128 : Int) ≤ (m : Int) := by omega
        have hto : (u.toNat : Int) = (m : Int) % 128 + 128 := by rw [hu, uvB_to]
        have hq : (m : Int).tmod 128 = (m : Int) % 128 := Int.tmod_eq_emod_of_nonneg (by omega)
        have hd : (m : Int).tdiv 128 = (m : Int) / 128 := Int.tdiv_eq_ediv_of_nonneg (by omega)
        have hv : IntKind.u8.wrap ((m : Int) % 128 + 128) = (u.toNat : Int) := by rw [hto, u8_wrap]; omega
        have hor : bits .or .i64 ((m : Int) % 128) 128 = (m : Int) % 128 + 128 := or128 _ (by omega) (by omega)
        have hpl := uvF_len 0 (m / 128)
        have hpu' := hpu.out
        rw [uvF_big hlt] at hpu'
        have hlen := congrArg List.length hpu'
        simp only [List.length_append, List.length_cons] at hlen
        have hpu2 := Lib.hid (show (p ++ [u]) ++ uvF (m / 128) = uvF m0 by rw [List.append_assoc, hu]; exact hpu')
        clear hpu' hu hpl
        have hp1 : (p ++ [u]).length ≤ 6 := by rw [List.length_append, List.length_singleton]; omega
        have hand : bits .and .i64 (m : Int) 127 = (m : Int) % 128 := i64_and127 _
        go_wp2_with (at_builtin; refine wpList_push _ rfl _ _ 22 22 rfl FlatR.byte w.heap.size 5 i0 _ _ Tryz.underlying22 Tryz.underlying22 hi hz0 hz1 hz2 rfl _ _ rfl (HF.out.below (by repeat (first | with_reducible exact belR | with_reducible apply belA | (with_reducible refine belS ?_ ?_; focus (first | omega | (simp; done) | (simp; omega))) | with_reducible apply belN | with_reducible apply belD | with_reducible assumption))) u _ _ _ rfl ?p0a ?p4a trivial ?p1a ?p2a ?p3a ?_)
        case p0a => first | rfl | simp
        case p1a => omega
        case p2a => decide
        case p3a => have y := HB.out.size; simp; omega
        intro bo' cap' w1 hf1 hb1
        have HF2 := Lib.hid hf1; clear hf1
        have HB2 : Hid (Below w.heap.size w w1) := Lib.hid (by have y := HB.out; exact Below.trans (by repeat (first | with_reducible exact belR | with_reducible apply belA | (with_reducible refine belS ?_ ?_; focus (first | omega | (simp; done) | (simp; omega))) | with_reducible apply belN | with_reducible apply belD | with_reducible assumption)) hb1); clear hb1
        go_wp2
        go_light
        exact ⟨⟨m / 128, p ++ [u], by omega, by go_num, hp1, hpu2, HF2.out, HB2.out⟩, by simp [intOf]; omega⟩

set_option maxRecDepth 100000 in
set_option maxHeartbeats 1600000 in
theorem implAppendBytes (v d : Value) (l s : List UInt8) (w : World) (h : Reads Rep.bytes w [v] l) (h' : Reads Rep.bytes w [d] s) (hs : l.length ≤ 4194304) (hs' : s.length ≤ 4194304) :
    Calls Tryz.prog 108 #[v, d] w fun e w' => ∃ v', e = .returned v' ∧ Fresh (Rep.slice 5 Rep.byte) w.heap.size w' [v'] (l ++ uvarintF s.length ++ s) ∧ Below w.heap.size w w' := by
  have HK : Hid (Reads (Rep.slice 5 Rep.byte) w [v] l) := Lib.hid h
  have HD : Hid (Reads (Rep.slice 5 Rep.byte) w [d] s) := Lib.hid h'
  obtain ⟨fp, h⟩ := h
  obtain ⟨ao, c1, rfl, hm, _, hu⟩ := slice_open h
  clear hu h
  obtain ⟨fp', h'⟩ := h'
  obtain ⟨ad, cd, rfl, hmd, _, hud⟩ := slice_open h'
  clear hud h'
  obtain ⟨i0, hi, hz0, hz1, hz2⟩ := info_parts Tryz.infoByte
  have hul := uvarintF_len (s.length : Int)
  go_enter Tryz.func108, Tryz.ntmps108
  go_wp2_with fail
  refine (implAppendUvarint _ l _ _ HK.out hs).mono ?_
  rintro e w1 ⟨v', rfl, hf1, hb1⟩
  obtain ⟨ao1, cap1, rfl⟩ := hf1.slice
  have hle : (l ++ uvarintF (s.length : Int)).length ≤ 4194310 := by rw [List.length_append]; omega
  generalize hq : l ++ uvarintF (s.length : Int) = q at *
  have HQ := Lib.hid hq
  clear hq
  have HF := Lib.hid hf1
  have HB := Lib.hid hb1
  replace HD := Lib.hid (HD.out.below hb1)
  clear hf1 hb1
  go_wp2_with (at_builtin; refine wpList_grow _ rfl _ _ 22 22 rfl FlatR.byte w.heap.size 5 i0 _ 1 Tryz.underlying22 hi hz0 hz1 hz2 rfl _ q rfl HF.out _ s rfl (FlatR.byte.src Tryz.underlying22 HD.out) (FlatR.byte.row HD.out).2 ?c1 ?c2 HB.out.size ?_)
  case c1 => omega
  case c2 => unfold maxLen; omega
  intro ao2 cap2 w2 hf2 hb2
  have HF2 := Lib.hid hf2
  have HB2 := Lib.hid (HB.out.trans (hb2.mono (Nat.le_refl _)))
  clear hf2 hb2
  go_wp2
  go_ret
  exact ⟨_, rfl, by first | exact HF2.out | (rw [HQ.out]; exact HF2.out), HB2.out⟩

end Go.Proofs.YtlfebehpmefioaaGreat
