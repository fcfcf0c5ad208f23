/-
  BytesToInts, DeriveFromString.
-/
import Derived.Test.YteajhmpppciicaaKeyed
import Derived.Test.YteajhmpppciicaaTSubscription
import Derived.Test.YteajhmpppciicaaTPush
import Derived.Test.YteajhmpppciicaaBase
import Derived.Laws.IdiomStrings
namespace Go.Proofs.Yteajhmpppciicaa
open Go.RowKit

def bytesToIntsF (l : List UInt8) : List Int := (l.length : Int) :: l.map fun b => (b.toNat : Int)
def bytesToIntsN (l : List UInt8) (k : Nat) : List Int := (l.length : Int) :: (l.take k).map fun b => (b.toNat : Int)
theorem bytesToIntsN_succ {l : List UInt8} {k : Nat} (h : k < l.length) : bytesToIntsN l k ++ [(l[k].toNat : Int)] = bytesToIntsN l (k + 1) := by
  unfold bytesToIntsN; rw [List.take_succ_eq_append_getElem h, List.map_append]; rfl
theorem bytesToIntsN_all {l : List UInt8} {k : Nat} (h : ¬ k < l.length) : bytesToIntsN l k = bytesToIntsF l := by
  unfold bytesToIntsN bytesToIntsF; rw [List.take_of_length_le (by omega)]
theorem bytesToIntsN_len (l : List UInt8) (k : Nat) : (bytesToIntsN l k).length ≤ l.length + 1 := by
  unfold bytesToIntsN; rw [List.length_cons, List.length_map, List.length_take]; omega
theorem bytesToIntsF_len (l : List UInt8) : (bytesToIntsF l).length = l.length + 1 := by
  unfold bytesToIntsF; rw [List.length_cons, List.length_map]
attribute [irreducible] bytesToIntsN bytesToIntsF

set_option maxRecDepth 100000 in
set_option maxHeartbeats 800000 in
theorem implBytesToInts (v : Value) (l : List UInt8) (w : World) (h : Reads Rep.bytes w [v] l) (hs : l.length ≤ 4194304) :
    Calls Try.prog 105 #[v] w fun e w' => ∃ v', e = .returned v' ∧ Fresh (Rep.slice 3 Rep.int) w.heap.size w' [v'] (bytesToIntsF l) ∧ Below w.heap.size w w' := by
  have HK := Lib.hid h
  obtain ⟨fp, h⟩ := h
  obtain ⟨ao, c1, rfl, hm, _, hu⟩ := slice_open h
  clear hu h
  obtain ⟨i0, hi, hz0, hz1, hz2⟩ := info_parts Try.infoInt
  have e0 := Lib.hid (show bytesToIntsN l 0 = [(l.length : Int)] by unfold bytesToIntsN; rfl)
  go_enter Try.func105, Try.ntmps105
  go_wp2
  go_loopw [3, 11] (fun r i wr => ∃ k : Nat, k ≤ l.length ∧ i = .int .i64 k ∧ Fresh (Rep.slice 3 Rep.int) w.heap.size wr [r] (bytesToIntsN l k) ∧ Below w.heap.size w wr) (fun _ i _ => l.length - (intOf i).toNat)
  case atStart => exact ⟨0, by omega, rfl, by rw [e0.out]; exact lit_fresh FlatR.int (w := w) (xs := #[.int .i64 l.length]) (us := [(l.length : Int)]) rfl rfl (by unfold maxLen; simp) (by simp) rfl, (by repeat (first | with_reducible exact belR | with_reducible apply belA | (with_reducible refine belS ?_ ?_; focus (first | omega | (simp; done) | (simp; omega))) | with_reducible apply belN | with_reducible apply belD | with_reducible assumption))⟩
  case round =>
    obtain ⟨k, hk, rfl, hf, hb⟩ := hrel
    obtain ⟨bo, cap, rfl⟩ := hf.slice
    have HB := Lib.hid hb; clear hb
    have HF := Lib.hid hf; clear hf
    have hle := bytesToIntsN_len l k
    by_cases hlt : k < l.length
    · obtain ⟨b, off, cs_b, rfl, hw_b, hr_b, hcell_b⟩ := slice_at (HK.out.below HB.out) k hlt
      obtain ⟨fe_b, hrd_b⟩ := hr_b
      obtain ⟨rfl, _, b_s0⟩ := hrd_b
      have b_c0 : wr.cell? ⟨b, off + k, none⟩ = some (.int .u8 l[k].toNat) := by have h := hcell_b 0 (by decide); rwa [show off + k * Rep.byte.n + 0 = off + k from by show off + k * 1 + 0 = off + k; omega] at h
      have b_u1 : (l[k].toNat : Int) ≤ 255 := by have := l[k].toNat_lt; omega
      clear hcell_b
      go_wp2_with (at_builtin; refine wpList_push _ rfl _ _ 94 94 rfl FlatR.int w.heap.size 3 i0 _ _ Try.underlying94 Try.underlying94 hi hz0 hz1 hz2 rfl _ _ rfl (HF.out.below (by repeat (first | with_reducible exact belR | with_reducible apply belA | (with_reducible refine belS ?_ ?_; focus (first | omega | (simp; done) | (simp; omega))) | with_reducible apply belN | with_reducible apply belD | with_reducible assumption))) (l[k].toNat : Int) _ _ _ rfl ?p0a rfl trivial ?p1a ?p2a ?p3a ?_)
      case p0a => first | rfl | simp
      case p1a => omega
      case p2a => decide
      case p3a => have y := HB.out.size; simp; omega
      intro bo' cap' w1 hf1 hb1
      rw [bytesToIntsN_succ hlt] at hf1
      have HF1 := Lib.hid hf1; clear hf1
      have HB1 : Hid (Below w.heap.size w w1) := Lib.hid (by have y := HB.out; exact Below.trans (by repeat (first | with_reducible exact belR | with_reducible apply belA | (with_reducible refine belS ?_ ?_; focus (first | omega | (simp; done) | (simp; omega))) | with_reducible apply belN | with_reducible apply belD | with_reducible assumption)) hb1); clear hb1
      go_wp2
      go_light
      exact ⟨⟨k + 1, by omega, by go_num, HF1.out, HB1.out⟩, by simp [intOf]; omega⟩
    · have e := Lib.hid (bytesToIntsN_all hlt)
      go_wp2
      go_ret
      exact ⟨_, rfl, by rw [← e.out]; exact HF.out, HB.out⟩


set_option maxRecDepth 100000 in
set_option maxHeartbeats 800000 in
theorem specBytesToInts (v : Value) (l : List UInt8) (w : World) (h : Reads Rep.bytes w [v] l) (hs : l.length ≤ 4194304) :
    Calls Try.prog 107 #[v] w fun e w' => ∃ v', e = .returned v' ∧ Fresh (Rep.slice 3 Rep.int) w.heap.size w' [v'] (bytesToIntsF l) ∧ Below w.heap.size w w' := by
  have HK := Lib.hid h
  obtain ⟨fp, h⟩ := h
  obtain ⟨ao, c1, rfl, hm, _, hu⟩ := slice_open h
  clear hu h
  obtain ⟨i0, hi, hz0, hz1, hz2⟩ := info_parts Try.infoInt
  have e0 := Lib.hid (show bytesToIntsN l 0 = [(l.length : Int)] by unfold bytesToIntsN; rfl)
  go_enter Try.func107, Try.ntmps107
  go_wp2
  go_loopw [3, 4] (fun r i wr => ∃ k : Nat, k ≤ l.length ∧ i = .int .i64 k ∧ Fresh (Rep.slice 3 Rep.int) w.heap.size wr [r] (bytesToIntsN l k) ∧ Below w.heap.size w wr) (fun _ i _ => l.length - (intOf i).toNat)
  case atStart => exact ⟨0, by omega, rfl, by rw [e0.out]; exact lit_fresh FlatR.int (w := w) (xs := #[.int .i64 l.length]) (us := [(l.length : Int)]) rfl rfl (by unfold maxLen; simp) (by simp) rfl, (by repeat (first | with_reducible exact belR | with_reducible apply belA | (with_reducible refine belS ?_ ?_; focus (first | omega | (simp; done) | (simp; omega))) | with_reducible apply belN | with_reducible apply belD | with_reducible assumption))⟩
  case round =>
    obtain ⟨k, hk, rfl, hf, hb⟩ := hrel
    obtain ⟨bo, cap, rfl⟩ := hf.slice
    have HB := Lib.hid hb; clear hb
    have HF := Lib.hid hf; clear hf
    have hle := bytesToIntsN_len l k
    by_cases hlt : k < l.length
    · obtain ⟨b, off, cs_b, rfl, hw_b, hr_b, hcell_b⟩ := slice_at (HK.out.below HB.out) k hlt
      obtain ⟨fe_b, hrd_b⟩ := hr_b
      obtain ⟨rfl, _, b_s0⟩ := hrd_b
      have b_c0 : wr.cell? ⟨b, off + k, none⟩ = some (.int .u8 l[k].toNat) := by have h := hcell_b 0 (by decide); rwa [show off + k * Rep.byte.n + 0 = off + k from by show off + k * 1 + 0 = off + k; omega] at h
      have b_u1 : (l[k].toNat : Int) ≤ 255 := by have := l[k].toNat_lt; omega
      clear hcell_b
      go_wp2_with (at_builtin; refine wpList_push _ rfl _ _ 94 94 rfl FlatR.int w.heap.size 3 i0 _ _ Try.underlying94 Try.underlying94 hi hz0 hz1 hz2 rfl _ _ rfl (HF.out.below (by repeat (first | with_reducible exact belR | with_reducible apply belA | (with_reducible refine belS ?_ ?_; focus (first | omega | (simp; done) | (simp; omega))) | with_reducible apply belN | with_reducible apply belD | with_reducible assumption))) (l[k].toNat : Int) _ _ _ rfl ?p0a rfl trivial ?p1a ?p2a ?p3a ?_)
      case p0a => first | rfl | simp
      case p1a => omega
      case p2a => decide
      case p3a => have y := HB.out.size; simp; omega
      intro bo' cap' w1 hf1 hb1
      rw [bytesToIntsN_succ hlt] at hf1
      have HF1 := Lib.hid hf1; clear hf1
      have HB1 : Hid (Below w.heap.size w w1) := Lib.hid (by have y := HB.out; exact Below.trans (by repeat (first | with_reducible exact belR | with_reducible apply belA | (with_reducible refine belS ?_ ?_; focus (first | omega | (simp; done) | (simp; omega))) | with_reducible apply belN | with_reducible apply belD | with_reducible assumption)) hb1); clear hb1
      go_wp2
      go_light
      exact ⟨⟨k + 1, by omega, by go_num, HF1.out, HB1.out⟩, by simp [intOf]; omega⟩
    · have e := Lib.hid (bytesToIntsN_all hlt)
      go_wp2
      go_ret
      exact ⟨_, rfl, by rw [← e.out]; exact HF.out, HB.out⟩

/-- What a string's bytes read as. -/
theorem bytes_of_string {w : World} {s : ByteArray} {t : TypeId} {c : Nat} {m : Nat × Nat} {k : Nat} (hk : k = w.heap.size) (hc : s.size ≤ c) (hm : c ≤ maxLen) : Reads Rep.bytes (w.alloc (.cells (bytesRow s c) t m)) [.slice (some ⟨k, 0, none⟩) s.size c] s.data.toList := by
  subst hk
  have hl : s.data.toList.length = s.size := by simp
  have hc1 : cellsOf (s.data.toList.map fun x => (([.int .u8 x.toNat], x, []) : El UInt8)) = s.data.toList.map fun x => Value.int .u8 x.toNat := by
    rw [(els_flat (fun x : UInt8 => [Value.int .u8 x.toNat]) s.data.toList).1]
    generalize s.data.toList = l
    induction l with
    | nil => rfl
    | cons x l ih => rw [List.flatMap_cons, List.map_cons, ih]; rfl
  refine ⟨_, .slice (some ⟨w.heap.size, 0, none⟩) s.size c, s.data.toList.map fun x => (([.int .u8 x.toNat], x, []) : El UInt8), rfl, ?_, rfl, fun t ht => ?_, ?_, fun h => by cases h⟩
  · exact (els_flat (fun x : UInt8 => [Value.int .u8 x.toNat]) s.data.toList).2.2.symm
  · obtain ⟨x, _, rfl⟩ := List.mem_map.1 ht
    exact ⟨rfl, rfl, trivial⟩
  · rw [hc1, List.length_map, hl]
    refine ⟨_, c, rfl, hc, hm, .inr ⟨w.heap.size, 0, rfl, by simp, fun j u hu => ?_⟩⟩
    have hj : j < s.data.size := by
      have := (List.getElem?_eq_some_iff.1 hu).1
      simpa using this
    have := bytesRow_at s c j hj
    rw [List.getElem?_map, Array.getElem?_toList, Array.getElem?_eq_getElem hj] at hu
    rw [Nat.zero_add]
    exact (World.cell?_alloc_mark w _ t m j).trans (this.trans hu)

def deriveF (key : Int) (s : ByteArray) : Int := if hashF ([key] ++ bytesToIntsF s.data.toList ++ [key]) = 0 then 1 else hashF ([key] ++ bytesToIntsF s.data.toList ++ [key])

set_option maxHeartbeats 400000 in
theorem specMax (a b : Int) (w : World) : Calls Try.prog 87 #[.int .i64 a, .int .i64 b] w fun e w' => e = .returned (.int .i64 (if a < b then b else a)) ∧ w = w' := by
  by_cases h : a < b
  all_goals
    go_enter Try.func87, Try.ntmps87
    go_wp2
    go_ret
    exact ⟨rfl, rfl⟩

set_option maxRecDepth 100000 in
set_option maxHeartbeats 800000 in
theorem implDeriveFromString (key : Int) (s : ByteArray) (w : World) (hs : s.size ≤ 4000000) :
    Calls Try.prog 97 #[.int .i64 key, .string s] w fun e w' => e = .returned (.int .i64 (deriveF key s)) ∧ Below w.heap.size w w' := by
  have kc := fun (wx : World) => run_bytes_of_string (P := Try.prog) wx 9 22 5 s Try.underlying9 Try.underlying22 Try.underlying5
  have hc := Lib.hid (fun (wx : World) => show s.size ≤ grownCap wx s.size 0 5 ∧ grownCap wx s.size 0 5 ≤ maxLen from ⟨grownCap_ge wx s.size 0 _, grownCap_le_maxLen wx s.size 0 _ (by unfold maxLen; omega)⟩)
  have HL := Lib.hid (show s.data.toList.length ≤ 4000000 by simp; omega)
  have hh := Lib.hid (hashF_ge ([key] ++ bytesToIntsF s.data.toList ++ [key]))
  go_enter Try.func97, Try.ntmps97
  go_wp2_with fail
  refine (implBytesToInts _ s.data.toList _ ((bytes_of_string rfl (hc.out w).1 (hc.out w).2).below (belD belR)) (by have := HL.out; omega)).mono ?_
  rintro e w1 ⟨v', rfl, hf, hb⟩
  have HF := Lib.hid hf.reads
  have HB : Hid (Below w.heap.size w w1) := Lib.hid (Below.trans (by repeat (first | with_reducible exact belR | (with_reducible refine belAB ?_ ?_; focus (first | omega | (simp; done) | (simp; omega))) | (with_reducible refine belS ?_ ?_; focus (first | omega | (simp; done) | (simp; omega))) | with_reducible apply belN | with_reducible apply belD | with_reducible assumption)) (hb.mono (by first | omega | (simp; done) | (simp; omega))))
  clear hf hb
  go_wp2_with fail
  refine (implKeyedHash _ _ _ _ HF.out (by rw [bytesToIntsF_len]; have := HL.out; omega)).mono ?_
  rintro e w2 ⟨rfl, hb⟩
  have HB2 : Hid (Below w.heap.size w w2) := Lib.hid (HB.out.trans (hb.mono HB.out.size))
  clear hb
  obtain ⟨g1, g2⟩ := hh.out
  have HD : Hid (deriveF key s = if hashF ([key] ++ bytesToIntsF s.data.toList ++ [key]) = 0 then 1 else hashF ([key] ++ bytesToIntsF s.data.toList ++ [key])) := Lib.hid rfl
  clear hh
  generalize hashF ([key] ++ bytesToIntsF s.data.toList ++ [key]) = n at *
  by_cases hn : n = 0
  · have hn' : (n == 0) = true := by simp [hn]
    go_wp2
    go_ret
    exact ⟨ret_int (by rw [HD.out, if_pos hn]), HB2.out⟩
  · have hn' : (n == 0) = false := by simp [hn]
    go_wp2
    go_ret
    exact ⟨ret_int (by rw [HD.out, if_neg hn]), HB2.out⟩


set_option maxRecDepth 100000 in
set_option maxHeartbeats 800000 in
theorem specDeriveFromString (key : Int) (s : ByteArray) (w : World) (hs : s.size ≤ 4000000) :
    Calls Try.prog 99 #[.int .i64 key, .string s] w fun e w' => e = .returned (.int .i64 (deriveF key s)) ∧ Below w.heap.size w w' := by
  have kc := fun (wx : World) => run_bytes_of_string (P := Try.prog) wx 9 22 5 s Try.underlying9 Try.underlying22 Try.underlying5
  have hc := Lib.hid (fun (wx : World) => show s.size ≤ grownCap wx s.size 0 5 ∧ grownCap wx s.size 0 5 ≤ maxLen from ⟨grownCap_ge wx s.size 0 _, grownCap_le_maxLen wx s.size 0 _ (by unfold maxLen; omega)⟩)
  have HL := Lib.hid (show s.data.toList.length ≤ 4000000 by simp; omega)
  have hh := Lib.hid (hashF_ge ([key] ++ bytesToIntsF s.data.toList ++ [key]))
  go_enter Try.func99, Try.ntmps99
  go_wp2_with fail
  refine (specBytesToInts _ s.data.toList _ ((bytes_of_string rfl (hc.out w).1 (hc.out w).2).below (belD belR)) (by have := HL.out; omega)).mono ?_
  rintro e w1 ⟨v', rfl, hf, hb⟩
  have HF := Lib.hid hf.reads
  have HB : Hid (Below w.heap.size w w1) := Lib.hid (Below.trans (by repeat (first | with_reducible exact belR | (with_reducible refine belAB ?_ ?_; focus (first | omega | (simp; done) | (simp; omega))) | (with_reducible refine belS ?_ ?_; focus (first | omega | (simp; done) | (simp; omega))) | with_reducible apply belN | with_reducible apply belD | with_reducible assumption)) (hb.mono (by first | omega | (simp; done) | (simp; omega))))
  clear hf hb
  go_wp2_with fail
  refine (specKeyedHash _ _ _ _ HF.out (by rw [bytesToIntsF_len]; have := HL.out; omega)).mono ?_
  rintro e w2 ⟨rfl, hb⟩
  have HB2 : Hid (Below w.heap.size w w2) := Lib.hid (HB.out.trans (hb.mono HB.out.size))
  clear hb
  obtain ⟨g1, g2⟩ := hh.out
  have HD : Hid (deriveF key s = if hashF ([key] ++ bytesToIntsF s.data.toList ++ [key]) = 0 then 1 else hashF ([key] ++ bytesToIntsF s.data.toList ++ [key])) := Lib.hid rfl
  clear hh
  generalize hashF ([key] ++ bytesToIntsF s.data.toList ++ [key]) = n at *
  by_cases hn : n = 0
  all_goals
    go_wp2_with fail
    refine (specMax _ _ _).mono ?_
    rintro e w3 ⟨rfl, rfl⟩
    go_wp2
    all_goals
      go_ret
      refine ⟨ret_int ?_, HB2.out⟩
      rw [HD.out]
      first
        | (rw [if_pos hn]; done)
        | (rw [if_pos hn]; omega)
        | (rw [if_neg hn]; done)
        | (rw [if_neg hn]; omega)
        | (rw [if_neg hn]; split <;> omega)

def pushMACF (x : DSubscription) (y : DPush) : Int := hashF ([x.secret] ++ ([127, deriveF 131 y.site, y.number] ++ bytesToIntsF y.data) ++ [x.secret])

end Go.Proofs.Yteajhmpppciicaa
