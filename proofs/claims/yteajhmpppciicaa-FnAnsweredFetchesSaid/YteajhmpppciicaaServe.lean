/-
  BodyOf, ServeFile, MatchCache, AnswerFetch.
-/
import Derived.Test.YteajhmpppciicaaSites
import Derived.Test.YteajhmpppciicaaCaches
import Derived.Test.YteajhmpppciicaaEncode
namespace Go.Proofs.Yteajhmpppciicaa
open Go.RowKit

def bodyHash (name path : ByteArray) (v : Int) : Int := hashF ([1 + v] ++ [103, deriveF 107 name, deriveF 109 path] ++ [1 + v])
theorem bodyHash_ge (name path : ByteArray) (v : Int) : 0 ≤ bodyHash name path v ∧ bodyHash name path v < 2147483647 := hashF_ge _
def bodyF (name path : ByteArray) (v : Int) : List UInt8 := numL (bodyHash name path v) (-1)
theorem bodyF_len (name path : ByteArray) (v : Int) : (bodyF name path v).length ≤ 6 := numL_len _ (by omega)
theorem three_reads (a b c : Int) {w : World} {k : Nat} (hk : k = w.heap.size) : Reads (Rep.slice 3 Rep.int) (w.alloc (.cells #[.int .i64 a, .int .i64 b, .int .i64 c] 3)) [.slice (some ⟨k, 0, none⟩) 3 3] [a, b, c] :=
  (lit_fresh FlatR.int (us := [a, b, c]) rfl rfl (by show 3 ≤ maxLen; decide) (fun _ _ => trivial) hk).reads
attribute [irreducible] bodyHash

set_option maxRecDepth 100000 in
set_option maxHeartbeats 1600000 in
theorem implBodyOf (cs : List Value) (x : DSite) (path : ByteArray) (v : Int) (w : World) (h : Reads DSite.rep w cs x) (h1 : x.name.size ≤ 4000000) (h2 : path.size ≤ 4000000) (hv : 1 ≤ v ∧ v ≤ 1000000000000) :
    Calls Try.prog 76 #[.agg cs.toArray, .string path, .int .i64 v] w fun e w' => ∃ v', e = .returned v' ∧ Fresh (Rep.slice 5 Rep.byte) w.heap.size w' [v'] (bodyF x.name path v) ∧ Below w.heap.size w w' := by
  obtain ⟨fp_q, h⟩ := h
  obtain ⟨q_v1, q_f1, rfl, _, q_s0, q_r1⟩ := DSite.rd.1 h
  obtain ⟨q_a1, q_c1, rfl, q_hm1, q_lc1, q_hu1⟩ := slice_open q_r1; clear q_hu1
  have q_K1 : Hid (Reads (Rep.slice 9 Rep.str) w [.slice q_a1 x.files.length q_c1] x.files) := ⟨_, q_r1⟩
  clear q_r1 h
  obtain ⟨i0, hi, hz0, hz1, hz2⟩ := info_parts Try.infoByte
  have hw : wrap64 (1 + v) = 1 + v := Go.IntWalk.wrap64_in _ (by omega)
  have HH : Hid (hashF ([1 + v] ++ [103, deriveF 107 x.name, deriveF 109 path] ++ [1 + v]) = bodyHash x.name path v) := Lib.hid (by unfold bodyHash; rfl)
  have HF0 : Hid (bodyF x.name path v = numL (bodyHash x.name path v) (-1)) := Lib.hid rfl
  have HG := bodyHash_ge x.name path v
  go_enter Try.func76, Try.ntmps76
  go_wp2_with fail
  refine (implDeriveFromString 107 x.name _ h1).mono ?_
  rintro e w1 ⟨rfl, hb⟩
  have HX : Hid (WB w1 w.heap.size #[.string x.name, .int .i64 x.version, .slice q_a1 x.files.length q_c1, .bool x.shared]) := Lib.hid ((WB.at rfl).keep hb)
  have HB : Hid (Below w.heap.size w w1) := Lib.hid (below_call (by repeat (first | with_reducible exact belR | with_reducible apply belA | (with_reducible refine belS ?_ ?_; focus (first | omega | (simp; done) | (simp; omega))) | with_reducible apply belN | with_reducible apply belD | with_reducible assumption)) (by first | omega | (simp; done) | (simp; omega)) hb)
  clear hb
  go_wp2_with fail
  refine (implDeriveFromString 109 path _ h2).mono ?_
  rintro e w2 ⟨rfl, hb⟩
  replace HB : Hid (Below w.heap.size w w2) := Lib.hid (HB.out.trans (hb.mono HB.out.size))
  clear hb HX
  have hzw := HB.out.size
  go_wp2_with fail
  refine (implKeyedHash (1 + v) _ [103, deriveF 107 x.name, deriveF 109 path] _ (three_reads _ _ _ rfl) (by show 3 ≤ 4194304; decide)).mono ?_
  rw [HH.out]
  rintro e w3 ⟨rfl, hb⟩
  replace HB : Hid (Below w.heap.size w w3) := Lib.hid (by have y := HB.out; exact below_call (by repeat (first | with_reducible exact belR | with_reducible apply belA | (with_reducible refine belS ?_ ?_; focus (first | omega | (simp; done) | (simp; omega))) | with_reducible apply belN | with_reducible apply belD | with_reducible assumption)) (by first | omega | (simp; done) | (simp; omega)) hb)
  clear hb
  generalize bodyHash x.name path v = z at *
  go_wp2
  go_loopw [8, 9] (fun r i wr => ∃ c : Int, -1 ≤ c ∧ c ≤ 5 ∧ i = .int .i64 c ∧ Fresh (Rep.slice 5 Rep.byte) w.heap.size wr [r] (numL z c) ∧ Below w.heap.size w wr) (fun _ i _ => (intOf i + 1).toNat)
  case atStart => exact ⟨5, by omega, by omega, rfl, by rw [numL_5]; exact (lit_fresh FlatR.byte (w := w3) (xs := #[]) (us := []) rfl rfl (by decide) (by simp) rfl).mono HB.out.size, by have y := HB.out; exact (by repeat (first | with_reducible exact belR | with_reducible apply belA | (with_reducible refine belS ?_ ?_; focus (first | omega | (simp; done) | (simp; omega))) | with_reducible apply belN | with_reducible apply belD | with_reducible assumption))⟩
  case round =>
    obtain ⟨c, hc0, hc5, rfl, hf, hbb⟩ := hrel
    obtain ⟨bo, cap, rfl⟩ := hf.slice
    replace HB := Lib.hid hbb; clear hbb
    have HF := Lib.hid hf; clear hf
    have hll := numL_len z (c := c) (by omega)
    generalize hq : numL z c = q at *
    have HQ := Lib.hid hq; clear hq
    by_cases hlt : 0 ≤ c
    · obtain ⟨u, hu⟩ : ∃ u : UInt8, u = numB z c := ⟨_, rfl⟩
      have hto : (u.toNat : Int) = z / 2 ^ (8 * c).toNat % 256 := by rw [hu, numB_to]
      have hsn := Lib.hid (show q ++ [u] = numL z (c - 1) by rw [← HQ.out, hu, ← numL_snoc hlt hc5])
      clear hu
      have hsh : min (8 * c).toNat 64 = (8 * c).toNat := by omega
      go_wp2_with (at_builtin; refine wpList_push _ rfl _ _ 22 22 rfl FlatR.byte w.heap.size 5 i0 _ _ Try.underlying22 Try.underlying22 hi hz0 hz1 hz2 rfl _ q rfl (HF.out.below (by repeat (first | with_reducible exact belR | with_reducible apply belA | (with_reducible refine belS ?_ ?_; focus (first | omega | (simp; done) | (simp; omega))) | with_reducible apply belN | with_reducible apply belD | with_reducible assumption))) u _ _ _ rfl ?p0a ?p4a trivial ?p1a ?p2a ?p3a ?_)
      case p0a => first | rfl | simp
      all_goals try (case p4a => exact shr255 _ _ (by omega) (by omega))
      case p1a => omega
      case p2a => decide
      case p3a => have y := HB.out.size; simp; omega
      intro bo' cap' w4 hf1 hb1
      rw [hsn.out] at hf1
      have HF2 := Lib.hid hf1
      have HB2 : Hid (Below w.heap.size w w4) := Lib.hid (by have y := HB.out; exact Below.trans (by repeat (first | with_reducible exact belR | with_reducible apply belA | (with_reducible refine belS ?_ ?_; focus (first | omega | (simp; done) | (simp; omega))) | with_reducible apply belN | with_reducible apply belD | with_reducible assumption)) hb1)
      clear hf1 hb1 HF HB
      go_wp2
      go_light
      exact ⟨⟨c - 1, by omega, by omega, by go_num, HF2.out, HB2.out⟩, by simp [intOf]; omega⟩
    · have hce : c = -1 := by omega
      subst hce
      go_wp2
      go_ret
      exact ⟨_, rfl, by rw [HF0.out, HQ.out]; exact HF.out, HB.out⟩


set_option maxRecDepth 100000 in
set_option maxHeartbeats 1600000 in
theorem specBodyOf (cs : List Value) (x : DSite) (path : ByteArray) (v : Int) (w : World) (h : Reads DSite.rep w cs x) (h1 : x.name.size ≤ 4000000) (h2 : path.size ≤ 4000000) (hv : 1 ≤ v ∧ v ≤ 1000000000000) :
    Calls Try.prog 80 #[.agg cs.toArray, .string path, .int .i64 v] w fun e w' => ∃ v', e = .returned v' ∧ Fresh (Rep.slice 5 Rep.byte) w.heap.size w' [v'] (bodyF x.name path v) ∧ Below w.heap.size w w' := by
  obtain ⟨fp_q, h⟩ := h
  obtain ⟨q_v1, q_f1, rfl, _, q_s0, q_r1⟩ := DSite.rd.1 h
  obtain ⟨q_a1, q_c1, rfl, q_hm1, q_lc1, q_hu1⟩ := slice_open q_r1; clear q_hu1
  have q_K1 : Hid (Reads (Rep.slice 9 Rep.str) w [.slice q_a1 x.files.length q_c1] x.files) := ⟨_, q_r1⟩
  clear q_r1 h
  obtain ⟨i0, hi, hz0, hz1, hz2⟩ := info_parts Try.infoByte
  have hw : wrap64 (1 + v) = 1 + v := Go.IntWalk.wrap64_in _ (by omega)
  have HH : Hid (hashF ([1 + v] ++ [103, deriveF 107 x.name, deriveF 109 path] ++ [1 + v]) = bodyHash x.name path v) := Lib.hid (by unfold bodyHash; rfl)
  have HF0 : Hid (bodyF x.name path v = numL (bodyHash x.name path v) (-1)) := Lib.hid rfl
  have HG := bodyHash_ge x.name path v
  go_enter Try.func80, Try.ntmps80
  go_wp2_with fail
  refine (specDeriveFromString 107 x.name _ h1).mono ?_
  rintro e w1 ⟨rfl, hb⟩
  have HX : Hid (WB w1 w.heap.size #[.string x.name, .int .i64 x.version, .slice q_a1 x.files.length q_c1, .bool x.shared]) := Lib.hid ((WB.at rfl).keep hb)
  have HB : Hid (Below w.heap.size w w1) := Lib.hid (below_call (by repeat (first | with_reducible exact belR | with_reducible apply belA | (with_reducible refine belS ?_ ?_; focus (first | omega | (simp; done) | (simp; omega))) | with_reducible apply belN | with_reducible apply belD | with_reducible assumption)) (by first | omega | (simp; done) | (simp; omega)) hb)
  clear hb
  go_wp2_with fail
  refine (specDeriveFromString 109 path _ h2).mono ?_
  rintro e w2 ⟨rfl, hb⟩
  replace HB : Hid (Below w.heap.size w w2) := Lib.hid (HB.out.trans (hb.mono HB.out.size))
  clear hb HX
  have hzw := HB.out.size
  go_wp2_with fail
  refine (specKeyedHash (1 + v) _ [103, deriveF 107 x.name, deriveF 109 path] _ (three_reads _ _ _ rfl) (by show 3 ≤ 4194304; decide)).mono ?_
  rw [HH.out]
  rintro e w3 ⟨rfl, hb⟩
  replace HB : Hid (Below w.heap.size w w3) := Lib.hid (by have y := HB.out; exact below_call (by repeat (first | with_reducible exact belR | with_reducible apply belA | (with_reducible refine belS ?_ ?_; focus (first | omega | (simp; done) | (simp; omega))) | with_reducible apply belN | with_reducible apply belD | with_reducible assumption)) (by first | omega | (simp; done) | (simp; omega)) hb)
  clear hb
  generalize bodyHash x.name path v = z at *
  go_wp2
  go_loopw [8, 9] (fun r i wr => ∃ c : Int, -1 ≤ c ∧ c ≤ 5 ∧ i = .int .i64 c ∧ Fresh (Rep.slice 5 Rep.byte) w.heap.size wr [r] (numL z c) ∧ Below w.heap.size w wr) (fun _ i _ => (intOf i + 1).toNat)
  case atStart => exact ⟨5, by omega, by omega, rfl, by rw [numL_5]; exact (lit_fresh FlatR.byte (w := w3) (xs := #[]) (us := []) rfl rfl (by decide) (by simp) rfl).mono HB.out.size, by have y := HB.out; exact (by repeat (first | with_reducible exact belR | with_reducible apply belA | (with_reducible refine belS ?_ ?_; focus (first | omega | (simp; done) | (simp; omega))) | with_reducible apply belN | with_reducible apply belD | with_reducible assumption))⟩
  case round =>
    obtain ⟨c, hc0, hc5, rfl, hf, hbb⟩ := hrel
    obtain ⟨bo, cap, rfl⟩ := hf.slice
    replace HB := Lib.hid hbb; clear hbb
    have HF := Lib.hid hf; clear hf
    have hll := numL_len z (c := c) (by omega)
    generalize hq : numL z c = q at *
    have HQ := Lib.hid hq; clear hq
    by_cases hlt : 0 ≤ c
    · obtain ⟨u, hu⟩ : ∃ u : UInt8, u = numB z c := ⟨_, rfl⟩
      have hto : (u.toNat : Int) = z / 2 ^ (8 * c).toNat % 256 := by rw [hu, numB_to]
      have hsn := Lib.hid (show q ++ [u] = numL z (c - 1) by rw [← HQ.out, hu, ← numL_snoc hlt hc5])
      clear hu
      have hsh : min (8 * c).toNat 64 = (8 * c).toNat := by omega
      go_wp2_with (at_builtin; refine wpList_push _ rfl _ _ 22 22 rfl FlatR.byte w.heap.size 5 i0 _ _ Try.underlying22 Try.underlying22 hi hz0 hz1 hz2 rfl _ q rfl (HF.out.below (by repeat (first | with_reducible exact belR | with_reducible apply belA | (with_reducible refine belS ?_ ?_; focus (first | omega | (simp; done) | (simp; omega))) | with_reducible apply belN | with_reducible apply belD | with_reducible assumption))) u _ _ _ rfl ?p0a ?p4a trivial ?p1a ?p2a ?p3a ?_)
      case p0a => first | rfl | simp
      all_goals try (case p4a => exact shr255 _ _ (by omega) (by omega))
      case p1a => omega
      case p2a => decide
      case p3a => have y := HB.out.size; simp; omega
      intro bo' cap' w4 hf1 hb1
      rw [hsn.out] at hf1
      have HF2 := Lib.hid hf1
      have HB2 : Hid (Below w.heap.size w w4) := Lib.hid (by have y := HB.out; exact Below.trans (by repeat (first | with_reducible exact belR | with_reducible apply belA | (with_reducible refine belS ?_ ?_; focus (first | omega | (simp; done) | (simp; omega))) | with_reducible apply belN | with_reducible apply belD | with_reducible assumption)) hb1)
      clear hf1 hb1 HF HB
      go_wp2
      go_light
      exact ⟨⟨c - 1, by omega, by omega, by go_num, HF2.out, HB2.out⟩, by simp [intOf]; omega⟩
    · have hce : c = -1 := by omega
      subst hce
      go_wp2
      go_ret
      exact ⟨_, rfl, by rw [HF0.out, HQ.out]; exact HF.out, HB.out⟩


def serveF (x : DSite) (path : ByteArray) (v : Int) : DResponse := if isSiteF x then (if servesF x v && hasFileF x path then ⟨1, 200, v, bodyF x.name path v, x.shared⟩ else ⟨1, 404, x.version, [], false⟩) else errorResp
theorem serve_none {x : DSite} {path : ByteArray} {v : Int} (h : isSiteF x = false) : serveF x path v = errorResp := by unfold serveF; rw [h]; rfl
theorem serve_no {x : DSite} {path : ByteArray} {v : Int} (h : isSiteF x = true) (h1 : servesF x v = false) : serveF x path v = ⟨1, 404, x.version, [], false⟩ := by unfold serveF; rw [h, h1]; rfl
theorem serve_not {x : DSite} {path : ByteArray} {v : Int} (h : isSiteF x = true) (h1 : servesF x v = true) (h2 : hasFileF x path = false) : serveF x path v = ⟨1, 404, x.version, [], false⟩ := by unfold serveF; rw [h, h1, h2]; rfl
theorem serve_yes {x : DSite} {path : ByteArray} {v : Int} (h : isSiteF x = true) (h1 : servesF x v = true) (h2 : hasFileF x path = true) : serveF x path v = ⟨1, 200, v, bodyF x.name path v, x.shared⟩ := by unfold serveF; rw [h, h1, h2]; rfl
theorem serve_len (x : DSite) (path : ByteArray) (v : Int) : (serveF x path v).body.length ≤ 6 := by
  unfold serveF
  split
  · split
    · exact bodyF_len _ _ _
    · exact Nat.zero_le _
  · exact Nat.zero_le _

set_option maxRecDepth 100000 in
set_option maxHeartbeats 1600000 in
theorem implServeFile (cs : List Value) (x : DSite) (path : ByteArray) (v : Int) (w : World) (h : Reads DSite.rep w cs x) (h1 : x.name.size ≤ 4000000) (h2 : path.size ≤ 4000000) :
    Calls Try.prog 41 #[.agg cs.toArray, .string path, .int .i64 v] w fun e w' => ∃ ds, e = .returned (.agg ds.toArray) ∧ Fresh DResponse.rep w.heap.size w' ds (serveF x path v) ∧ Below w.heap.size w w' := by
  have HR := Lib.hid h
  obtain ⟨fp_q, h⟩ := h
  obtain ⟨q_v1, q_f1, rfl, _, q_s0, q_r1⟩ := DSite.rd.1 h
  obtain ⟨q_a1, q_c1, rfl, q_hm1, q_lc1, q_hu1⟩ := slice_open q_r1; clear q_hu1
  have q_K1 : Hid (Reads (Rep.slice 9 Rep.str) w [.slice q_a1 x.files.length q_c1] x.files) := ⟨_, q_r1⟩
  clear q_r1 h
  go_enter Try.func41, Try.ntmps41
  go_wp2_with fail
  refine (implIsSite _ x _ (HR.out.below (by repeat (first | with_reducible exact belR | with_reducible apply belA | (with_reducible refine belS ?_ ?_; focus (first | omega | (simp; done) | (simp; omega))) | with_reducible apply belN | with_reducible apply belD | with_reducible assumption)))).mono ?_
  rintro e w1 ⟨rfl, hb⟩
  have HX : Hid (WB w1 w.heap.size #[.string x.name, .int .i64 x.version, .slice q_a1 x.files.length q_c1, .bool x.shared]) := Lib.hid ((WB.at rfl).growA.keep hb)
  have HT : Hid (WB w1 (w.heap.size + 1) #[.int .i64 0, .int .i64 0, .int .i64 0, .slice none 0 0, .bool false]) := Lib.hid ((WB.at (by simp)).keep hb)
  have HB : Hid (Below w.heap.size w w1) := Lib.hid (below_call (by repeat (first | with_reducible exact belR | with_reducible apply belA | (with_reducible refine belS ?_ ?_; focus (first | omega | (simp; done) | (simp; omega))) | with_reducible apply belN | with_reducible apply belD | with_reducible assumption)) (by first | omega | (simp; done) | (simp; omega)) hb)
  have hzw : w.heap.size + 2 ≤ w1.heap.size := by have y := hb.size; simp at y; omega
  clear hb
  cases hB : isSiteF x
  · have HE := Lib.hid (serve_none (path := path) (v := v) hB)
    go_wp2_with fail
    refine (implErrorResponse _).mono ?_
    rintro e w2 ⟨rfl, hb⟩
    replace HX := Lib.hid (HX.out.keep hb)
    replace HT := Lib.hid (HT.out.keep hb)
    replace HB := Lib.hid (HB.out.trans (hb.mono HB.out.size))
    clear hb
    have ⟨c_HT, z_HT, f_HT⟩ := HT.out
    go_wp2
    refine bodyPost_ret (v := .agg #[.int .i64 4, .int .i64 0, .int .i64 0, .slice none 0 0, .bool false]) (by simp [results, Try.results41, go_sem, c_HT]) rfl ⟨_, rfl, ?_, ?_⟩
    · rw [HE.out]
      exact DResponse.fmk (x := errorResp) Fresh.nil
    · have y := HB.out
      exact (by repeat (first | with_reducible exact belR | (with_reducible refine belAB ?_ ?_; focus (first | omega | (simp; done) | (simp; omega))) | (with_reducible refine belS ?_ ?_; focus (first | omega | (simp; done) | (simp; omega))) | with_reducible apply belN | with_reducible apply belD | with_reducible assumption))
  have ⟨c_HX, z_HX, f_HX⟩ := HX.out
  go_wp2_with fail
  refine (implServesVersion _ x v _ (HR.out.below HB.out)).mono ?_
  rintro e w2 ⟨rfl, hb⟩
  clear c_HX z_HX f_HX
  replace HX := Lib.hid (HX.out.keep hb)
  replace HT := Lib.hid (HT.out.keep hb)
  replace HB := Lib.hid (HB.out.trans (hb.mono HB.out.size))
  have hzw2 := hb.size
  clear hb
  cases hV : servesF x v
  · have HE := Lib.hid (serve_no (path := path) hB hV)
    have ⟨c_HX, z_HX, f_HX⟩ := HX.out
    have ⟨c_HT, z_HT, f_HT⟩ := HT.out
    go_wp2
    refine bodyPost_ret (v := .agg #[.int .i64 1, .int .i64 404, .int .i64 x.version, .slice none 0 0, .bool false]) (by simp [results, Try.results41, go_sem, c_HT]) rfl ⟨_, rfl, ?_, ?_⟩
    · rw [HE.out]
      exact DResponse.fmk (x := ⟨1, 404, x.version, [], false⟩) Fresh.nil
    · have y := HB.out
      exact (by repeat (first | with_reducible exact belR | (with_reducible refine belAB ?_ ?_; focus (first | omega | (simp; done) | (simp; omega))) | (with_reducible refine belS ?_ ?_; focus (first | omega | (simp; done) | (simp; omega))) | with_reducible apply belN | with_reducible apply belD | with_reducible assumption))
  have ⟨c_HX, z_HX, f_HX⟩ := HX.out
  go_wp2_with fail
  refine (implHasFile _ x path _ (HR.out.below HB.out)).mono ?_
  rintro e w3 ⟨rfl, hb⟩
  clear c_HX z_HX f_HX
  replace HX := Lib.hid (HX.out.keep hb)
  replace HT := Lib.hid (HT.out.keep hb)
  replace HB := Lib.hid (HB.out.trans (hb.mono HB.out.size))
  have hzw3 := hb.size
  clear hb
  cases hF : hasFileF x path
  · have HE := Lib.hid (serve_not hB hV hF)
    have ⟨c_HX, z_HX, f_HX⟩ := HX.out
    have ⟨c_HT, z_HT, f_HT⟩ := HT.out
    go_wp2
    refine bodyPost_ret (v := .agg #[.int .i64 1, .int .i64 404, .int .i64 x.version, .slice none 0 0, .bool false]) (by simp [results, Try.results41, go_sem, c_HT]) rfl ⟨_, rfl, ?_, ?_⟩
    · rw [HE.out]
      exact DResponse.fmk (x := ⟨1, 404, x.version, [], false⟩) Fresh.nil
    · have y := HB.out
      exact (by repeat (first | with_reducible exact belR | (with_reducible refine belAB ?_ ?_; focus (first | omega | (simp; done) | (simp; omega))) | (with_reducible refine belS ?_ ?_; focus (first | omega | (simp; done) | (simp; omega))) | with_reducible apply belN | with_reducible apply belD | with_reducible assumption))
  have HE := Lib.hid (serve_yes hB hV hF)
  have HV := Lib.hid (serves_version hV)
  have ⟨c_HX, z_HX, f_HX⟩ := HX.out
  have ⟨c_HT, z_HT, f_HT⟩ := HT.out
  go_upto_region 5 with fail
  go_region_with (first | (go_at_call 76; refine (implBodyOf _ x path v _ (HR.out.below (by have y := HB.out; exact (by repeat (first | with_reducible exact belR | with_reducible apply belA | (with_reducible refine belS ?_ ?_; focus (first | omega | (simp; done) | (simp; omega))) | with_reducible apply belN | with_reducible apply belD | with_reducible assumption)))) h1 h2 ⟨HV.out.1, HV.out.2.1⟩).mono ?_; rintro e w4 ⟨vv, rfl, hf4, hb4⟩; obtain ⟨ao, cap, rfl⟩ := hf4.slice; have hq4 : Below w3.heap.size w3 w4 := below_call (by repeat (first | with_reducible exact belR | with_reducible apply belA | (with_reducible refine belS ?_ ?_; focus (first | omega | (simp; done) | (simp; omega))) | with_reducible apply belN | with_reducible apply belD | with_reducible assumption)) (by first | omega | (simp; done) | (simp; omega)) hb4; have hx4 := HX.out.keep hq4; have ht4 := HT.out.keep hq4; have ⟨cx4, zx4, fx4⟩ := hx4; have ⟨ct4, zt4, ft4⟩ := ht4))
  all_goals
    have HF4 : Hid (Fresh (Rep.slice 5 Rep.byte) (w.heap.size + 2) w4 [.slice ao (bodyF x.name path v).length cap] (bodyF x.name path v)) := Lib.hid (hf4.mono (by first | omega | (simp; omega)))
    have HB4 : Hid (Below w.heap.size w w4) := Lib.hid (HB.out.trans (hq4.mono HB.out.size))
    go_wp2
    refine bodyPost_ret (v := .agg #[.int .i64 1, .int .i64 200, .int .i64 v, .slice ao (bodyF x.name path v).length cap, .bool x.shared]) (by simp [results, Try.results41, go_sem, ct4]) rfl ⟨_, rfl, ?_, ?_⟩
    · rw [HE.out]
      exact DResponse.fmk (x := ⟨1, 200, v, bodyF x.name path v, x.shared⟩) (Fresh.mono (B := (w.heap.size + 2)) (by repeat (first | with_reducible exact HF4.out | with_reducible refine Fresh.setLow ?_ (by omega) | with_reducible refine Fresh.drew ?_)) (by omega))
    · have y := HB4.out
      exact (by repeat (first | with_reducible exact belR | (with_reducible refine belAB ?_ ?_; focus (first | omega | (simp; done) | (simp; omega))) | (with_reducible refine belS ?_ ?_; focus (first | omega | (simp; done) | (simp; omega))) | with_reducible apply belN | with_reducible apply belD | with_reducible assumption))


set_option maxRecDepth 100000 in
set_option maxHeartbeats 1600000 in
theorem specServeFile (cs : List Value) (x : DSite) (path : ByteArray) (v : Int) (w : World) (h : Reads DSite.rep w cs x) (h1 : x.name.size ≤ 4000000) (h2 : path.size ≤ 4000000) :
    Calls Try.prog 44 #[.agg cs.toArray, .string path, .int .i64 v] w fun e w' => ∃ ds, e = .returned (.agg ds.toArray) ∧ Fresh DResponse.rep w.heap.size w' ds (serveF x path v) ∧ Below w.heap.size w w' := by
  have HR := Lib.hid h
  obtain ⟨fp_q, h⟩ := h
  obtain ⟨q_v1, q_f1, rfl, _, q_s0, q_r1⟩ := DSite.rd.1 h
  obtain ⟨q_a1, q_c1, rfl, q_hm1, q_lc1, q_hu1⟩ := slice_open q_r1; clear q_hu1
  have q_K1 : Hid (Reads (Rep.slice 9 Rep.str) w [.slice q_a1 x.files.length q_c1] x.files) := ⟨_, q_r1⟩
  clear q_r1 h
  go_enter Try.func44, Try.ntmps44
  go_wp2_with fail
  refine (specIsSite _ x _ (HR.out.below (by repeat (first | with_reducible exact belR | with_reducible apply belA | (with_reducible refine belS ?_ ?_; focus (first | omega | (simp; done) | (simp; omega))) | with_reducible apply belN | with_reducible apply belD | with_reducible assumption)))).mono ?_
  rintro e w1 ⟨rfl, hb⟩
  have HX : Hid (WB w1 w.heap.size #[.string x.name, .int .i64 x.version, .slice q_a1 x.files.length q_c1, .bool x.shared]) := Lib.hid ((WB.at rfl).growA.keep hb)
  have HT : Hid (WB w1 (w.heap.size + 1) #[.int .i64 0, .int .i64 0, .int .i64 0, .slice none 0 0, .bool false]) := Lib.hid ((WB.at (by simp)).keep hb)
  have HB : Hid (Below w.heap.size w w1) := Lib.hid (below_call (by repeat (first | with_reducible exact belR | with_reducible apply belA | (with_reducible refine belS ?_ ?_; focus (first | omega | (simp; done) | (simp; omega))) | with_reducible apply belN | with_reducible apply belD | with_reducible assumption)) (by first | omega | (simp; done) | (simp; omega)) hb)
  have hzw : w.heap.size + 2 ≤ w1.heap.size := by have y := hb.size; simp at y; omega
  clear hb
  cases hB : isSiteF x
  · have HE := Lib.hid (serve_none (path := path) (v := v) hB)
    go_wp2_with fail
    refine (specErrorResponse _).mono ?_
    rintro e w2 ⟨rfl, hb⟩
    replace HX := Lib.hid (HX.out.keep hb)
    replace HT := Lib.hid (HT.out.keep hb)
    replace HB := Lib.hid (HB.out.trans (hb.mono HB.out.size))
    clear hb
    have ⟨c_HT, z_HT, f_HT⟩ := HT.out
    go_wp2
    refine bodyPost_ret (v := .agg #[.int .i64 4, .int .i64 0, .int .i64 0, .slice none 0 0, .bool false]) (by simp [results, Try.results44, go_sem, c_HT]) rfl ⟨_, rfl, ?_, ?_⟩
    · rw [HE.out]
      exact DResponse.fmk (x := errorResp) Fresh.nil
    · have y := HB.out
      exact (by repeat (first | with_reducible exact belR | (with_reducible refine belAB ?_ ?_; focus (first | omega | (simp; done) | (simp; omega))) | (with_reducible refine belS ?_ ?_; focus (first | omega | (simp; done) | (simp; omega))) | with_reducible apply belN | with_reducible apply belD | with_reducible assumption))
  have ⟨c_HX, z_HX, f_HX⟩ := HX.out
  go_wp2_with fail
  refine (specServesVersion _ x v _ (HR.out.below HB.out)).mono ?_
  rintro e w2 ⟨rfl, hb⟩
  clear c_HX z_HX f_HX
  replace HX := Lib.hid (HX.out.keep hb)
  replace HT := Lib.hid (HT.out.keep hb)
  replace HB := Lib.hid (HB.out.trans (hb.mono HB.out.size))
  have hzw2 := hb.size
  clear hb
  cases hV : servesF x v
  · have HE := Lib.hid (serve_no (path := path) hB hV)
    have ⟨c_HX, z_HX, f_HX⟩ := HX.out
    have ⟨c_HT, z_HT, f_HT⟩ := HT.out
    go_wp2
    refine bodyPost_ret (v := .agg #[.int .i64 1, .int .i64 404, .int .i64 x.version, .slice none 0 0, .bool false]) (by simp [results, Try.results44, go_sem, c_HT]) rfl ⟨_, rfl, ?_, ?_⟩
    · rw [HE.out]
      exact DResponse.fmk (x := ⟨1, 404, x.version, [], false⟩) Fresh.nil
    · have y := HB.out
      exact (by repeat (first | with_reducible exact belR | (with_reducible refine belAB ?_ ?_; focus (first | omega | (simp; done) | (simp; omega))) | (with_reducible refine belS ?_ ?_; focus (first | omega | (simp; done) | (simp; omega))) | with_reducible apply belN | with_reducible apply belD | with_reducible assumption))
  have ⟨c_HX, z_HX, f_HX⟩ := HX.out
  go_wp2_with fail
  refine (specHasFile _ x path _ (HR.out.below HB.out)).mono ?_
  rintro e w3 ⟨rfl, hb⟩
  clear c_HX z_HX f_HX
  replace HX := Lib.hid (HX.out.keep hb)
  replace HT := Lib.hid (HT.out.keep hb)
  replace HB := Lib.hid (HB.out.trans (hb.mono HB.out.size))
  have hzw3 := hb.size
  clear hb
  cases hF : hasFileF x path
  · have HE := Lib.hid (serve_not hB hV hF)
    have ⟨c_HX, z_HX, f_HX⟩ := HX.out
    have ⟨c_HT, z_HT, f_HT⟩ := HT.out
    go_wp2
    refine bodyPost_ret (v := .agg #[.int .i64 1, .int .i64 404, .int .i64 x.version, .slice none 0 0, .bool false]) (by simp [results, Try.results44, go_sem, c_HT]) rfl ⟨_, rfl, ?_, ?_⟩
    · rw [HE.out]
      exact DResponse.fmk (x := ⟨1, 404, x.version, [], false⟩) Fresh.nil
    · have y := HB.out
      exact (by repeat (first | with_reducible exact belR | (with_reducible refine belAB ?_ ?_; focus (first | omega | (simp; done) | (simp; omega))) | (with_reducible refine belS ?_ ?_; focus (first | omega | (simp; done) | (simp; omega))) | with_reducible apply belN | with_reducible apply belD | with_reducible assumption))
  have HE := Lib.hid (serve_yes hB hV hF)
  have HV := Lib.hid (serves_version hV)
  have ⟨c_HX, z_HX, f_HX⟩ := HX.out
  have ⟨c_HT, z_HT, f_HT⟩ := HT.out
  go_upto_region 5 with fail
  go_region_with (first | (go_at_call 80; refine (specBodyOf _ x path v _ (HR.out.below (by have y := HB.out; exact (by repeat (first | with_reducible exact belR | with_reducible apply belA | (with_reducible refine belS ?_ ?_; focus (first | omega | (simp; done) | (simp; omega))) | with_reducible apply belN | with_reducible apply belD | with_reducible assumption)))) h1 h2 ⟨HV.out.1, HV.out.2.1⟩).mono ?_; rintro e w4 ⟨vv, rfl, hf4, hb4⟩; obtain ⟨ao, cap, rfl⟩ := hf4.slice; have hq4 : Below w3.heap.size w3 w4 := below_call (by repeat (first | with_reducible exact belR | with_reducible apply belA | (with_reducible refine belS ?_ ?_; focus (first | omega | (simp; done) | (simp; omega))) | with_reducible apply belN | with_reducible apply belD | with_reducible assumption)) (by first | omega | (simp; done) | (simp; omega)) hb4; have hx4 := HX.out.keep hq4; have ht4 := HT.out.keep hq4; have ⟨cx4, zx4, fx4⟩ := hx4; have ⟨ct4, zt4, ft4⟩ := ht4))
  all_goals
    have HF4 : Hid (Fresh (Rep.slice 5 Rep.byte) (w.heap.size + 2) w4 [.slice ao (bodyF x.name path v).length cap] (bodyF x.name path v)) := Lib.hid (hf4.mono (by first | omega | (simp; omega)))
    have HB4 : Hid (Below w.heap.size w w4) := Lib.hid (HB.out.trans (hq4.mono HB.out.size))
    go_wp2
    refine bodyPost_ret (v := .agg #[.int .i64 1, .int .i64 200, .int .i64 v, .slice ao (bodyF x.name path v).length cap, .bool x.shared]) (by simp [results, Try.results44, go_sem, ct4]) rfl ⟨_, rfl, ?_, ?_⟩
    · rw [HE.out]
      exact DResponse.fmk (x := ⟨1, 200, v, bodyF x.name path v, x.shared⟩) (Fresh.mono (B := (w.heap.size + 2)) (by repeat (first | with_reducible exact HF4.out | with_reducible refine Fresh.setLow ?_ (by omega) | with_reducible refine Fresh.drew ?_)) (by omega))
    · have y := HB4.out
      exact (by repeat (first | with_reducible exact belR | (with_reducible refine belAB ?_ ?_; focus (first | omega | (simp; done) | (simp; omega))) | (with_reducible refine belS ?_ ?_; focus (first | omega | (simp; done) | (simp; omega))) | with_reducible apply belN | with_reducible apply belD | with_reducible assumption))


set_option maxRecDepth 100000 in
set_option maxHeartbeats 1600000 in
theorem implMatchCache (cs : List Value) (x : DCacheSet) (v : Int) (site path : ByteArray) (w : World) (h : Reads DCacheSet.rep w cs x) (hs : ∀ c ∈ x.caches, ∀ e ∈ c.entries, e.response.body.length ≤ 4194304) :
    Calls Try.prog 40 #[.agg cs.toArray, .int .i64 v, .string site, .string path] w fun e w' => ∃ ds, e = .returned (.tuple #[.agg ds.toArray, .bool (matchB x v site path)]) ∧ Fresh DResponse.rep w.heap.size w' ds (matchF x v site path) ∧ Below w.heap.size w w' := by
  have HR := Lib.hid h
  have HS := Lib.hid hs
  clear hs
  obtain ⟨fp_q, h⟩ := h
  obtain ⟨q_v1, q_f1, rfl, _, q_r1⟩ := DCacheSet.rd.1 h
  obtain ⟨q_a1, q_c1, rfl, q_hm1, q_lc1, q_hu1⟩ := slice_open q_r1; clear q_hu1
  have q_K1 : Hid (Reads (Rep.slice 85 DCache.rep) w [.slice q_a1 x.caches.length q_c1] x.caches) := ⟨_, q_r1⟩
  clear q_r1 h
  go_enter Try.func40, Try.ntmps40
  go_wp2_with fail
  refine (implFindCache _ x v _ (HR.out.below (by repeat (first | with_reducible exact belR | with_reducible apply belA | (with_reducible refine belS ?_ ?_; focus (first | omega | (simp; done) | (simp; omega))) | with_reducible apply belN | with_reducible apply belD | with_reducible assumption)))).mono ?_
  rintro e w1 ⟨rfl, hb⟩
  have HX : Hid (WB w1 w.heap.size #[.slice q_a1 x.caches.length q_c1]) := Lib.hid ((WB.at rfl).growA.keep hb)
  have HT : Hid (WB w1 (w.heap.size + 1) #[.int .i64 0, .int .i64 0, .int .i64 0, .slice none 0 0, .bool false]) := Lib.hid ((WB.at (by simp)).keep hb)
  have HB : Hid (Below w.heap.size w w1) := Lib.hid (below_call (by repeat (first | with_reducible exact belR | with_reducible apply belA | (with_reducible refine belS ?_ ?_; focus (first | omega | (simp; done) | (simp; omega))) | with_reducible apply belN | with_reducible apply belD | with_reducible assumption)) (by first | omega | (simp; done) | (simp; omega)) hb)
  have hzw : w.heap.size + 2 ≤ w1.heap.size := by have y := hb.size; simp at y; omega
  clear hb
  rcases idxF_cases (versionIs v) x.caches with ⟨e1, hn⟩ | ⟨k, hk, e1, hy, hall⟩
  · have HE := Lib.hid (hit_no (site := site) (path := path) hn)
    clear hn
    go_wp2_with fail
    refine (implErrorResponse _).mono ?_
    rintro e w2 ⟨rfl, hb⟩
    replace HX := Lib.hid (HX.out.keep hb)
    replace HT := Lib.hid (HT.out.keep hb)
    replace HB := Lib.hid (HB.out.trans (hb.mono HB.out.size))
    clear hb
    have ⟨c_HT, z_HT, f_HT⟩ := HT.out
    go_wp2
    refine bodyPost_ret (v := .tuple #[.agg #[.int .i64 4, .int .i64 0, .int .i64 0, .slice none 0 0, .bool false], .bool false]) (by simp [results, Try.results40, go_sem, c_HT]) rfl ⟨_, by rw [HE.out.1], ?_, ?_⟩
    · rw [HE.out.2]
      exact DResponse.fmk (x := errorResp) Fresh.nil
    · have y := HB.out
      exact (by repeat (first | with_reducible exact belR | (with_reducible refine belAB ?_ ?_; focus (first | omega | (simp; done) | (simp; omega))) | (with_reducible refine belS ?_ ?_; focus (first | omega | (simp; done) | (simp; omega))) | with_reducible apply belN | with_reducible apply belD | with_reducible assumption))
  have HY := Lib.hid hy
  have HA := Lib.hid hall
  clear hy hall
  have j1 : (0 : Int) ≤ (k : Int) := by omega
  have j3 : (k : Int) < (x.caches.length : Int) := by omega
  obtain ⟨b, off, cs_b, rfl, hw_b, hr_b, hcell_b⟩ := slice_at (q_K1.out.below HB.out) k hk
  obtain ⟨fe_b, hrd_b⟩ := hr_b
  have HR_b : Hid (Reads DCache.rep w1 cs_b x.caches[k]) := ⟨_, hrd_b⟩
  obtain ⟨b_v1, b_f1, rfl, _, b_r1⟩ := DCache.rd.1 hrd_b
  obtain ⟨b_a1, b_k1, rfl, _⟩ := slice_open b_r1
  have b_R1 : Hid (Reads (Rep.slice 88 DCached.rep) w1 [.slice b_a1 x.caches[k].entries.length b_k1] x.caches[k].entries) := ⟨_, b_r1⟩
  clear b_r1
  clear hrd_b
  have b_c0 : w1.cell? ⟨b, off + k * 2, none⟩ = some (.int .i64 x.caches[k].version) := hcell_b 0 (by decide)
  have b_c1 : w1.cell? ⟨b, off + k * 2 + 1, none⟩ = some (.slice b_a1 x.caches[k].entries.length b_k1) := hcell_b 1 (by decide)
  clear hcell_b
  have ⟨c_HX, z_HX, f_HX⟩ := HX.out
  go_wp2_with fail
  refine (implEntryAt _ x.caches[k] site path _ (HR_b.out.below (by repeat (first | with_reducible exact belR | with_reducible apply belA | (with_reducible refine belS ?_ ?_; focus (first | omega | (simp; done) | (simp; omega))) | with_reducible apply belN | with_reducible apply belD | with_reducible assumption)))).mono ?_
  rintro e w2 ⟨rfl, hb⟩
  clear c_HX z_HX f_HX
  replace HX := Lib.hid (HX.out.keep hb)
  replace HT := Lib.hid (HT.out.keep hb)
  replace b_R1 := Lib.hid (b_R1.out.below hb)
  replace HB := Lib.hid (HB.out.trans (hb.mono HB.out.size))
  have hzw2 := hb.size
  have c0 := (hb.cell (block_lt_of_cell b_c0)).trans b_c0
  have c1 := (hb.cell (block_lt_of_cell b_c1)).trans b_c1
  have hwb2 : b < w2.heap.size := by omega
  clear hb b_c0 b_c1 HR_b
  rcases idxF_cases (entryIs site path) x.caches[k].entries with ⟨e2, hn⟩ | ⟨i, hi, e2, hy, hall⟩
  · have HE := Lib.hid (hit_none hk HY.out HA.out hn)
    clear hn
    go_wp2_with fail
    refine (implErrorResponse _).mono ?_
    rintro e w3 ⟨rfl, hb⟩
    replace HX := Lib.hid (HX.out.keep hb)
    replace HT := Lib.hid (HT.out.keep hb)
    replace HB := Lib.hid (HB.out.trans (hb.mono HB.out.size))
    clear hb c0 c1
    have ⟨c_HT, z_HT, f_HT⟩ := HT.out
    go_wp2
    refine bodyPost_ret (v := .tuple #[.agg #[.int .i64 4, .int .i64 0, .int .i64 0, .slice none 0 0, .bool false], .bool false]) (by simp [results, Try.results40, go_sem, c_HT]) rfl ⟨_, by rw [HE.out.1], ?_, ?_⟩
    · rw [HE.out.2]
      exact DResponse.fmk (x := errorResp) Fresh.nil
    · have y := HB.out
      exact (by repeat (first | with_reducible exact belR | (with_reducible refine belAB ?_ ?_; focus (first | omega | (simp; done) | (simp; omega))) | (with_reducible refine belS ?_ ?_; focus (first | omega | (simp; done) | (simp; omega))) | with_reducible apply belN | with_reducible apply belD | with_reducible assumption))
  have HE := Lib.hid (hit_some hk HY.out HA.out hi hy hall)
  have hsm := HS.out _ (List.getElem_mem hk) _ (List.getElem_mem hi)
  clear hy hall
  have j4 : (0 : Int) ≤ (i : Int) := by omega
  have j6 : (i : Int) < (x.caches[k].entries.length : Int) := by omega
  obtain ⟨d, off2, cs_d, rfl, hw_d, hr_d, hcell_d⟩ := slice_at b_R1.out i hi
  obtain ⟨fe_d, hrd_d⟩ := hr_d
  have HR_d : Hid (Reads DCached.rep w2 cs_d x.caches[k].entries[i]) := ⟨_, hrd_d⟩
  obtain ⟨d_v1, d_f1, rfl, _, d_s0, d_s1, d_r1⟩ := DCached.rd.1 hrd_d
  obtain ⟨d_a1, d_k1, rfl, _⟩ := slice_open d_r1
  have d_R1 : Hid (Reads (Rep.slice 5 Rep.byte) w2 [.slice d_a1 x.caches[k].entries[i].response.body.length d_k1] x.caches[k].entries[i].response.body) := ⟨_, d_r1⟩
  clear d_r1
  clear hrd_d
  have d_c0 : w2.cell? ⟨d, off2 + i * 7, none⟩ = some (.string x.caches[k].entries[i].site) := hcell_d 0 (by decide)
  have d_c1 : w2.cell? ⟨d, off2 + i * 7 + 1, none⟩ = some (.string x.caches[k].entries[i].path) := hcell_d 1 (by decide)
  have d_c2 : w2.cell? ⟨d, off2 + i * 7 + 2, none⟩ = some (.int .i64 x.caches[k].entries[i].response.type_) := hcell_d 2 (by decide)
  have d_c3 : w2.cell? ⟨d, off2 + i * 7 + 3, none⟩ = some (.int .i64 x.caches[k].entries[i].response.status) := hcell_d 3 (by decide)
  have d_c4 : w2.cell? ⟨d, off2 + i * 7 + 4, none⟩ = some (.int .i64 x.caches[k].entries[i].response.version) := hcell_d 4 (by decide)
  have d_c5 : w2.cell? ⟨d, off2 + i * 7 + 5, none⟩ = some (.slice d_a1 x.caches[k].entries[i].response.body.length d_k1) := hcell_d 5 (by decide)
  have d_c6 : w2.cell? ⟨d, off2 + i * 7 + 6, none⟩ = some (.bool x.caches[k].entries[i].response.shares) := hcell_d 6 (by decide)
  clear hcell_d
  have ⟨c_HX, z_HX, f_HX⟩ := HX.out
  go_wp2_with fail
  refine (implCopyResponse _ x.caches[k].entries[i].response _ (by obtain ⟨f, hr⟩ := d_R1.out; exact Reads.below ⟨f, DResponse.rd.2 ⟨_, _, rfl, rfl, hr⟩⟩ (by repeat (first | with_reducible exact belR | with_reducible apply belA | (with_reducible refine belS ?_ ?_; focus (first | omega | (simp; done) | (simp; omega))) | with_reducible apply belN | with_reducible apply belD | with_reducible assumption))) hsm).mono ?_
  rintro e w3 ⟨ds, rfl, hf, hb⟩
  clear c_HX z_HX f_HX
  obtain ⟨ao, cap, rfl⟩ := DResponse.fshape hf
  replace HT := Lib.hid (HT.out.keep hb)
  replace HB := Lib.hid (HB.out.trans (hb.mono HB.out.size))
  have HF : Hid (Fresh DResponse.rep (w.heap.size + 2) w3 [.int .i64 x.caches[k].entries[i].response.type_, .int .i64 x.caches[k].entries[i].response.status, .int .i64 x.caches[k].entries[i].response.version, .slice ao x.caches[k].entries[i].response.body.length cap, .bool x.caches[k].entries[i].response.shares] x.caches[k].entries[i].response) := Lib.hid (hf.mono (by omega))
  clear hb hf
  have ⟨c_HT, z_HT, f_HT⟩ := HT.out
  go_wp2
  refine bodyPost_ret (v := .tuple #[.agg #[.int .i64 x.caches[k].entries[i].response.type_, .int .i64 x.caches[k].entries[i].response.status, .int .i64 x.caches[k].entries[i].response.version, .slice ao x.caches[k].entries[i].response.body.length cap, .bool x.caches[k].entries[i].response.shares], .bool true]) (by simp [results, Try.results40, go_sem, c_HT]) rfl ⟨_, by rw [HE.out.1], ?_, ?_⟩
  · rw [HE.out.2]
    exact (Fresh.mono (B := (w.heap.size + 2)) (by repeat (first | with_reducible exact HF.out | with_reducible refine Fresh.setLow ?_ (by omega) | with_reducible refine Fresh.drew ?_)) (by omega))
  · have y := HB.out
    exact (by repeat (first | with_reducible exact belR | (with_reducible refine belAB ?_ ?_; focus (first | omega | (simp; done) | (simp; omega))) | (with_reducible refine belS ?_ ?_; focus (first | omega | (simp; done) | (simp; omega))) | with_reducible apply belN | with_reducible apply belD | with_reducible assumption))


set_option maxRecDepth 100000 in
set_option maxHeartbeats 1600000 in
theorem specMatchCache (cs : List Value) (x : DCacheSet) (v : Int) (site path : ByteArray) (w : World) (h : Reads DCacheSet.rep w cs x) (hs : ∀ c ∈ x.caches, ∀ e ∈ c.entries, e.response.body.length ≤ 4194304) :
    Calls Try.prog 18 #[.agg cs.toArray, .int .i64 v, .string site, .string path] w fun e w' => ∃ ds, e = .returned (.tuple #[.agg ds.toArray, .bool (matchB x v site path)]) ∧ Fresh DResponse.rep w.heap.size w' ds (matchF x v site path) ∧ Below w.heap.size w w' := by
  have HR := Lib.hid h
  have HS := Lib.hid hs
  clear hs
  obtain ⟨fp_q, h⟩ := h
  obtain ⟨q_v1, q_f1, rfl, _, q_r1⟩ := DCacheSet.rd.1 h
  obtain ⟨q_a1, q_c1, rfl, q_hm1, q_lc1, q_hu1⟩ := slice_open q_r1; clear q_hu1
  have q_K1 : Hid (Reads (Rep.slice 85 DCache.rep) w [.slice q_a1 x.caches.length q_c1] x.caches) := ⟨_, q_r1⟩
  clear q_r1 h
  go_enter Try.func18, Try.ntmps18
  go_wp2_with fail
  refine (specFindCache _ x v _ (HR.out.below (by repeat (first | with_reducible exact belR | with_reducible apply belA | (with_reducible refine belS ?_ ?_; focus (first | omega | (simp; done) | (simp; omega))) | with_reducible apply belN | with_reducible apply belD | with_reducible assumption)))).mono ?_
  rintro e w1 ⟨rfl, hb⟩
  have HX : Hid (WB w1 w.heap.size #[.slice q_a1 x.caches.length q_c1]) := Lib.hid ((WB.at rfl).growA.keep hb)
  have HT : Hid (WB w1 (w.heap.size + 1) #[.int .i64 0, .int .i64 0, .int .i64 0, .slice none 0 0, .bool false]) := Lib.hid ((WB.at (by simp)).keep hb)
  have HB : Hid (Below w.heap.size w w1) := Lib.hid (below_call (by repeat (first | with_reducible exact belR | with_reducible apply belA | (with_reducible refine belS ?_ ?_; focus (first | omega | (simp; done) | (simp; omega))) | with_reducible apply belN | with_reducible apply belD | with_reducible assumption)) (by first | omega | (simp; done) | (simp; omega)) hb)
  have hzw : w.heap.size + 2 ≤ w1.heap.size := by have y := hb.size; simp at y; omega
  clear hb
  rcases idxF_cases (versionIs v) x.caches with ⟨e1, hn⟩ | ⟨k, hk, e1, hy, hall⟩
  · have HE := Lib.hid (hit_no (site := site) (path := path) hn)
    clear hn
    go_wp2_with fail
    refine (specErrorResponse _).mono ?_
    rintro e w2 ⟨rfl, hb⟩
    replace HX := Lib.hid (HX.out.keep hb)
    replace HT := Lib.hid (HT.out.keep hb)
    replace HB := Lib.hid (HB.out.trans (hb.mono HB.out.size))
    clear hb
    have ⟨c_HT, z_HT, f_HT⟩ := HT.out
    go_wp2
    refine bodyPost_ret (v := .tuple #[.agg #[.int .i64 4, .int .i64 0, .int .i64 0, .slice none 0 0, .bool false], .bool false]) (by simp [results, Try.results18, go_sem, c_HT]) rfl ⟨_, by rw [HE.out.1], ?_, ?_⟩
    · rw [HE.out.2]
      exact DResponse.fmk (x := errorResp) Fresh.nil
    · have y := HB.out
      exact (by repeat (first | with_reducible exact belR | (with_reducible refine belAB ?_ ?_; focus (first | omega | (simp; done) | (simp; omega))) | (with_reducible refine belS ?_ ?_; focus (first | omega | (simp; done) | (simp; omega))) | with_reducible apply belN | with_reducible apply belD | with_reducible assumption))
  have HY := Lib.hid hy
  have HA := Lib.hid hall
  clear hy hall
  have j1 : (0 : Int) ≤ (k : Int) := by omega
  have j3 : (k : Int) < (x.caches.length : Int) := by omega
  obtain ⟨b, off, cs_b, rfl, hw_b, hr_b, hcell_b⟩ := slice_at (q_K1.out.below HB.out) k hk
  obtain ⟨fe_b, hrd_b⟩ := hr_b
  have HR_b : Hid (Reads DCache.rep w1 cs_b x.caches[k]) := ⟨_, hrd_b⟩
  obtain ⟨b_v1, b_f1, rfl, _, b_r1⟩ := DCache.rd.1 hrd_b
  obtain ⟨b_a1, b_k1, rfl, _⟩ := slice_open b_r1
  have b_R1 : Hid (Reads (Rep.slice 88 DCached.rep) w1 [.slice b_a1 x.caches[k].entries.length b_k1] x.caches[k].entries) := ⟨_, b_r1⟩
  clear b_r1
  clear hrd_b
  have b_c0 : w1.cell? ⟨b, off + k * 2, none⟩ = some (.int .i64 x.caches[k].version) := hcell_b 0 (by decide)
  have b_c1 : w1.cell? ⟨b, off + k * 2 + 1, none⟩ = some (.slice b_a1 x.caches[k].entries.length b_k1) := hcell_b 1 (by decide)
  clear hcell_b
  have ⟨c_HX, z_HX, f_HX⟩ := HX.out
  go_wp2_with fail
  refine (specEntryAt _ x.caches[k] site path _ (HR_b.out.below (by repeat (first | with_reducible exact belR | with_reducible apply belA | (with_reducible refine belS ?_ ?_; focus (first | omega | (simp; done) | (simp; omega))) | with_reducible apply belN | with_reducible apply belD | with_reducible assumption)))).mono ?_
  rintro e w2 ⟨rfl, hb⟩
  clear c_HX z_HX f_HX
  replace HX := Lib.hid (HX.out.keep hb)
  replace HT := Lib.hid (HT.out.keep hb)
  replace b_R1 := Lib.hid (b_R1.out.below hb)
  replace HB := Lib.hid (HB.out.trans (hb.mono HB.out.size))
  have hzw2 := hb.size
  have c0 := (hb.cell (block_lt_of_cell b_c0)).trans b_c0
  have c1 := (hb.cell (block_lt_of_cell b_c1)).trans b_c1
  have hwb2 : b < w2.heap.size := by omega
  clear hb b_c0 b_c1 HR_b
  rcases idxF_cases (entryIs site path) x.caches[k].entries with ⟨e2, hn⟩ | ⟨i, hi, e2, hy, hall⟩
  · have HE := Lib.hid (hit_none hk HY.out HA.out hn)
    clear hn
    go_wp2_with fail
    refine (specErrorResponse _).mono ?_
    rintro e w3 ⟨rfl, hb⟩
    replace HX := Lib.hid (HX.out.keep hb)
    replace HT := Lib.hid (HT.out.keep hb)
    replace HB := Lib.hid (HB.out.trans (hb.mono HB.out.size))
    clear hb c0 c1
    have ⟨c_HT, z_HT, f_HT⟩ := HT.out
    go_wp2
    refine bodyPost_ret (v := .tuple #[.agg #[.int .i64 4, .int .i64 0, .int .i64 0, .slice none 0 0, .bool false], .bool false]) (by simp [results, Try.results18, go_sem, c_HT]) rfl ⟨_, by rw [HE.out.1], ?_, ?_⟩
    · rw [HE.out.2]
      exact DResponse.fmk (x := errorResp) Fresh.nil
    · have y := HB.out
      exact (by repeat (first | with_reducible exact belR | (with_reducible refine belAB ?_ ?_; focus (first | omega | (simp; done) | (simp; omega))) | (with_reducible refine belS ?_ ?_; focus (first | omega | (simp; done) | (simp; omega))) | with_reducible apply belN | with_reducible apply belD | with_reducible assumption))
  have HE := Lib.hid (hit_some hk HY.out HA.out hi hy hall)
  have hsm := HS.out _ (List.getElem_mem hk) _ (List.getElem_mem hi)
  clear hy hall
  have j4 : (0 : Int) ≤ (i : Int) := by omega
  have j6 : (i : Int) < (x.caches[k].entries.length : Int) := by omega
  obtain ⟨d, off2, cs_d, rfl, hw_d, hr_d, hcell_d⟩ := slice_at b_R1.out i hi
  obtain ⟨fe_d, hrd_d⟩ := hr_d
  have HR_d : Hid (Reads DCached.rep w2 cs_d x.caches[k].entries[i]) := ⟨_, hrd_d⟩
  obtain ⟨d_v1, d_f1, rfl, _, d_s0, d_s1, d_r1⟩ := DCached.rd.1 hrd_d
  obtain ⟨d_a1, d_k1, rfl, _⟩ := slice_open d_r1
  have d_R1 : Hid (Reads (Rep.slice 5 Rep.byte) w2 [.slice d_a1 x.caches[k].entries[i].response.body.length d_k1] x.caches[k].entries[i].response.body) := ⟨_, d_r1⟩
  clear d_r1
  clear hrd_d
  have d_c0 : w2.cell? ⟨d, off2 + i * 7, none⟩ = some (.string x.caches[k].entries[i].site) := hcell_d 0 (by decide)
  have d_c1 : w2.cell? ⟨d, off2 + i * 7 + 1, none⟩ = some (.string x.caches[k].entries[i].path) := hcell_d 1 (by decide)
  have d_c2 : w2.cell? ⟨d, off2 + i * 7 + 2, none⟩ = some (.int .i64 x.caches[k].entries[i].response.type_) := hcell_d 2 (by decide)
  have d_c3 : w2.cell? ⟨d, off2 + i * 7 + 3, none⟩ = some (.int .i64 x.caches[k].entries[i].response.status) := hcell_d 3 (by decide)
  have d_c4 : w2.cell? ⟨d, off2 + i * 7 + 4, none⟩ = some (.int .i64 x.caches[k].entries[i].response.version) := hcell_d 4 (by decide)
  have d_c5 : w2.cell? ⟨d, off2 + i * 7 + 5, none⟩ = some (.slice d_a1 x.caches[k].entries[i].response.body.length d_k1) := hcell_d 5 (by decide)
  have d_c6 : w2.cell? ⟨d, off2 + i * 7 + 6, none⟩ = some (.bool x.caches[k].entries[i].response.shares) := hcell_d 6 (by decide)
  clear hcell_d
  have ⟨c_HX, z_HX, f_HX⟩ := HX.out
  go_wp2_with fail
  refine (specCopyResponse _ x.caches[k].entries[i].response _ (by obtain ⟨f, hr⟩ := d_R1.out; exact Reads.below ⟨f, DResponse.rd.2 ⟨_, _, rfl, rfl, hr⟩⟩ (by repeat (first | with_reducible exact belR | with_reducible apply belA | (with_reducible refine belS ?_ ?_; focus (first | omega | (simp; done) | (simp; omega))) | with_reducible apply belN | with_reducible apply belD | with_reducible assumption))) hsm).mono ?_
  rintro e w3 ⟨ds, rfl, hf, hb⟩
  clear c_HX z_HX f_HX
  obtain ⟨ao, cap, rfl⟩ := DResponse.fshape hf
  replace HT := Lib.hid (HT.out.keep hb)
  replace HB := Lib.hid (HB.out.trans (hb.mono HB.out.size))
  have HF : Hid (Fresh DResponse.rep (w.heap.size + 2) w3 [.int .i64 x.caches[k].entries[i].response.type_, .int .i64 x.caches[k].entries[i].response.status, .int .i64 x.caches[k].entries[i].response.version, .slice ao x.caches[k].entries[i].response.body.length cap, .bool x.caches[k].entries[i].response.shares] x.caches[k].entries[i].response) := Lib.hid (hf.mono (by omega))
  clear hb hf
  have ⟨c_HT, z_HT, f_HT⟩ := HT.out
  go_wp2
  refine bodyPost_ret (v := .tuple #[.agg #[.int .i64 x.caches[k].entries[i].response.type_, .int .i64 x.caches[k].entries[i].response.status, .int .i64 x.caches[k].entries[i].response.version, .slice ao x.caches[k].entries[i].response.body.length cap, .bool x.caches[k].entries[i].response.shares], .bool true]) (by simp [results, Try.results18, go_sem, c_HT]) rfl ⟨_, by rw [HE.out.1], ?_, ?_⟩
  · rw [HE.out.2]
    exact (Fresh.mono (B := (w.heap.size + 2)) (by repeat (first | with_reducible exact HF.out | with_reducible refine Fresh.setLow ?_ (by omega) | with_reducible refine Fresh.drew ?_)) (by omega))
  · have y := HB.out
    exact (by repeat (first | with_reducible exact belR | (with_reducible refine belAB ?_ ?_; focus (first | omega | (simp; done) | (simp; omega))) | (with_reducible refine belS ?_ ?_; focus (first | omega | (simp; done) | (simp; omega))) | with_reducible apply belN | with_reducible apply belD | with_reducible assumption))


def answerF (s : DCacheSet) (x : DSite) (v : Int) (path : ByteArray) (online : Bool) : DResponse := if matchB s v x.name path then matchF s v x.name path else if online then serveF x path v else errorResp

set_option maxRecDepth 100000 in
set_option maxHeartbeats 1600000 in
theorem implAnswerFetch (cs : List Value) (cx : List Value) (s : DCacheSet) (x : DSite) (v : Int) (path : ByteArray) (online : Bool) (w : World) (h : Reads DCacheSet.rep w cs s) (h' : Reads DSite.rep w cx x) (hs : ∀ c ∈ s.caches, ∀ e ∈ c.entries, e.response.body.length ≤ 4194304) (h1 : x.name.size ≤ 4000000) (h2 : path.size ≤ 4000000) :
    Calls Try.prog 15 #[.agg cs.toArray, .agg cx.toArray, .int .i64 v, .string path, .bool online] w fun e w' => ∃ ds, e = .returned (.agg ds.toArray) ∧ Fresh DResponse.rep w.heap.size w' ds (answerF s x v path online) ∧ Below w.heap.size w w' := by
  have HR := Lib.hid h
  have HY := Lib.hid h'
  obtain ⟨fp_q, h⟩ := h
  obtain ⟨q_v1, q_f1, rfl, _, q_r1⟩ := DCacheSet.rd.1 h
  obtain ⟨q_a1, q_c1, rfl, q_hm1, q_lc1, q_hu1⟩ := slice_open q_r1; clear q_hu1
  have q_K1 : Hid (Reads (Rep.slice 85 DCache.rep) w [.slice q_a1 s.caches.length q_c1] s.caches) := ⟨_, q_r1⟩
  clear q_r1 h
  obtain ⟨fp_r, h'⟩ := h'
  obtain ⟨r_v1, r_f1, rfl, _, r_s0, r_r1⟩ := DSite.rd.1 h'
  obtain ⟨r_a1, r_c1, rfl, r_hm1, r_lc1, r_hu1⟩ := slice_open r_r1; clear r_hu1
  have r_K1 : Hid (Reads (Rep.slice 9 Rep.str) w [.slice r_a1 x.files.length r_c1] x.files) := ⟨_, r_r1⟩
  clear r_r1 h'
  have HE1 : Hid (matchB s v x.name path = true → answerF s x v path online = matchF s v x.name path) := Lib.hid (fun h => by unfold answerF; rw [h]; rfl)
  have HE2 : Hid (matchB s v x.name path = false → online = true → answerF s x v path online = serveF x path v) := Lib.hid (fun h h2 => by unfold answerF; rw [h, h2]; rfl)
  have HE3 : Hid (matchB s v x.name path = false → online = false → answerF s x v path online = errorResp) := Lib.hid (fun h h2 => by unfold answerF; rw [h, h2]; rfl)
  go_enter Try.func15, Try.ntmps15
  go_wp2_with fail
  refine (implMatchCache _ s v x.name path _ (HR.out.below (by repeat (first | with_reducible exact belR | with_reducible apply belA | (with_reducible refine belS ?_ ?_; focus (first | omega | (simp; done) | (simp; omega))) | with_reducible apply belN | with_reducible apply belD | with_reducible assumption))) hs).mono ?_
  rintro e w1 ⟨ds, rfl, hf, hb⟩
  obtain ⟨ao, cap, rfl⟩ := DResponse.fshape hf
  have HX : Hid (WB w1 (w.heap.size + 1) #[.string x.name, .int .i64 x.version, .slice r_a1 x.files.length r_c1, .bool x.shared]) := Lib.hid ((WB.at (by simp)).growA.keep hb)
  have HT : Hid (WB w1 (w.heap.size + 2) #[.int .i64 0, .int .i64 0, .int .i64 0, .slice none 0 0, .bool false]) := Lib.hid ((WB.at (by simp)).keep hb)
  have HB : Hid (Below w.heap.size w w1) := Lib.hid (below_call (by repeat (first | with_reducible exact belR | with_reducible apply belA | (with_reducible refine belS ?_ ?_; focus (first | omega | (simp; done) | (simp; omega))) | with_reducible apply belN | with_reducible apply belD | with_reducible assumption)) (by first | omega | (simp; done) | (simp; omega)) hb)
  have HF := Lib.hid (hf.mono (B' := w.heap.size + 3) (by simp))
  have hzw : w.heap.size + 3 ≤ w1.heap.size := by have y := hb.size; simp at y; omega
  clear hb hf
  cases hM : matchB s v x.name path
  · cases online
    · have HE := Lib.hid (HE3.out hM rfl)
      go_wp2_with fail
      refine (implErrorResponse _).mono ?_
      rintro e w2 ⟨rfl, hb⟩
      have hq : Below w1.heap.size w1 w2 := below_call (by repeat (first | with_reducible exact belR | with_reducible apply belA | (with_reducible refine belS ?_ ?_; focus (first | omega | (simp; done) | (simp; omega))) | with_reducible apply belN | with_reducible apply belD | with_reducible assumption)) (by first | omega | (simp; done) | (simp; omega)) hb
      replace HT := Lib.hid (HT.out.keep hq)
      replace HB := Lib.hid (HB.out.trans (hq.mono HB.out.size))
      clear hb hq
      have ⟨c_HT, z_HT, f_HT⟩ := HT.out
      go_wp2
      refine bodyPost_ret (v := .agg #[.int .i64 4, .int .i64 0, .int .i64 0, .slice none 0 0, .bool false]) (by simp [results, Try.results15, go_sem, c_HT]) rfl ⟨_, rfl, ?_, ?_⟩
      · rw [HE.out]
        exact DResponse.fmk (x := errorResp) Fresh.nil
      · have y := HB.out
        exact (by repeat (first | with_reducible exact belR | (with_reducible refine belAB ?_ ?_; focus (first | omega | (simp; done) | (simp; omega))) | (with_reducible refine belS ?_ ?_; focus (first | omega | (simp; done) | (simp; omega))) | with_reducible apply belN | with_reducible apply belD | with_reducible assumption))
    · have HE := Lib.hid (HE2.out hM rfl)
      have ⟨c_HX, z_HX, f_HX⟩ := HX.out
      go_wp2_with fail
      refine (implServeFile _ x path v _ (HY.out.below (by have y := HB.out; exact (by repeat (first | with_reducible exact belR | with_reducible apply belA | (with_reducible refine belS ?_ ?_; focus (first | omega | (simp; done) | (simp; omega))) | with_reducible apply belN | with_reducible apply belD | with_reducible assumption)))) h1 h2).mono ?_
      rintro e w2 ⟨ds, rfl, hf2, hb⟩
      clear c_HX z_HX f_HX
      obtain ⟨ao2, cap2, rfl⟩ := DResponse.fshape hf2
      have hq : Below w1.heap.size w1 w2 := below_call (by repeat (first | with_reducible exact belR | with_reducible apply belA | (with_reducible refine belS ?_ ?_; focus (first | omega | (simp; done) | (simp; omega))) | with_reducible apply belN | with_reducible apply belD | with_reducible assumption)) (by first | omega | (simp; done) | (simp; omega)) hb
      have HF2 := Lib.hid (hf2.mono (B' := w.heap.size + 3) (by first | omega | (simp; omega)))
      replace HT := Lib.hid (HT.out.keep hq)
      replace HB := Lib.hid (HB.out.trans (hq.mono HB.out.size))
      clear hb hq hf2
      have ⟨c_HT, z_HT, f_HT⟩ := HT.out
      go_wp2
      refine bodyPost_ret (v := .agg #[.int .i64 (serveF x path v).type_, .int .i64 (serveF x path v).status, .int .i64 (serveF x path v).version, .slice ao2 (serveF x path v).body.length cap2, .bool (serveF x path v).shares]) (by simp [results, Try.results15, go_sem, c_HT]) rfl ⟨_, rfl, ?_, ?_⟩
      · rw [HE.out]
        exact (Fresh.mono (B := (w.heap.size + 3)) (by repeat (first | with_reducible exact HF2.out | with_reducible refine Fresh.setLow ?_ (by omega) | with_reducible refine Fresh.drew ?_)) (by omega))
      · have y := HB.out
        exact (by repeat (first | with_reducible exact belR | (with_reducible refine belAB ?_ ?_; focus (first | omega | (simp; done) | (simp; omega))) | (with_reducible refine belS ?_ ?_; focus (first | omega | (simp; done) | (simp; omega))) | with_reducible apply belN | with_reducible apply belD | with_reducible assumption))
  · have HE := Lib.hid (HE1.out hM)
    go_upto_region 3 with fail
    refine settle (fun W => WB W w1.heap.size #[.int .i64 (matchF s v x.name path).type_, .int .i64 (matchF s v x.name path).status, .int .i64 (matchF s v x.name path).version, .slice ao (matchF s v x.name path).body.length cap, .bool (matchF s v x.name path).shares] ∧ WB W (w.heap.size + 2) #[.int .i64 0, .int .i64 0, .int .i64 0, .slice none 0 0, .bool false] ∧ Fresh DResponse.rep (w.heap.size + 3) W [.int .i64 (matchF s v x.name path).type_, .int .i64 (matchF s v x.name path).status, .int .i64 (matchF s v x.name path).version, .slice ao (matchF s v x.name path).body.length cap, .bool (matchF s v x.name path).shares] (matchF s v x.name path) ∧ Below w.heap.size w W) ⟨WB.at rfl, HT.out.growA, HF.out.below (belA belR), by have y := HB.out; exact (by repeat (first | with_reducible exact belR | (with_reducible refine belAB ?_ ?_; focus (first | omega | (simp; done) | (simp; omega))) | (with_reducible refine belS ?_ ?_; focus (first | omega | (simp; done) | (simp; omega))) | with_reducible apply belN | with_reducible apply belD | with_reducible assumption))⟩ ?_
    clear HX HT HF HB
    rintro w2 ⟨hm, ht, hf, hb⟩
    have HM := Lib.hid hm
    have HT := Lib.hid ht
    have HF := Lib.hid hf
    have HB := Lib.hid hb
    clear hm ht hf hb
    have ⟨c_HM, z_HM, f_HM⟩ := HM.out
    have ⟨c_HT, z_HT, f_HT⟩ := HT.out
    go_wp2
    refine bodyPost_ret (v := .agg #[.int .i64 (matchF s v x.name path).type_, .int .i64 (matchF s v x.name path).status, .int .i64 (matchF s v x.name path).version, .slice ao (matchF s v x.name path).body.length cap, .bool (matchF s v x.name path).shares]) (by simp [results, Try.results15, go_sem, c_HT]) rfl ⟨_, rfl, ?_, ?_⟩
    · rw [HE.out]
      exact (Fresh.mono (B := (w.heap.size + 3)) (by repeat (first | with_reducible exact HF.out | with_reducible refine Fresh.setLow ?_ (by omega) | with_reducible refine Fresh.drew ?_)) (by omega))
    · have y := HB.out
      exact (by repeat (first | with_reducible exact belR | (with_reducible refine belAB ?_ ?_; focus (first | omega | (simp; done) | (simp; omega))) | (with_reducible refine belS ?_ ?_; focus (first | omega | (simp; done) | (simp; omega))) | with_reducible apply belN | with_reducible apply belD | with_reducible assumption))


set_option maxRecDepth 100000 in
set_option maxHeartbeats 1600000 in
theorem specAnswerFetch (cs : List Value) (cx : List Value) (s : DCacheSet) (x : DSite) (v : Int) (path : ByteArray) (online : Bool) (w : World) (h : Reads DCacheSet.rep w cs s) (h' : Reads DSite.rep w cx x) (hs : ∀ c ∈ s.caches, ∀ e ∈ c.entries, e.response.body.length ≤ 4194304) (h1 : x.name.size ≤ 4000000) (h2 : path.size ≤ 4000000) :
    Calls Try.prog 17 #[.agg cs.toArray, .agg cx.toArray, .int .i64 v, .string path, .bool online] w fun e w' => ∃ ds, e = .returned (.agg ds.toArray) ∧ Fresh DResponse.rep w.heap.size w' ds (answerF s x v path online) ∧ Below w.heap.size w w' := by
  have HR := Lib.hid h
  have HY := Lib.hid h'
  obtain ⟨fp_q, h⟩ := h
  obtain ⟨q_v1, q_f1, rfl, _, q_r1⟩ := DCacheSet.rd.1 h
  obtain ⟨q_a1, q_c1, rfl, q_hm1, q_lc1, q_hu1⟩ := slice_open q_r1; clear q_hu1
  have q_K1 : Hid (Reads (Rep.slice 85 DCache.rep) w [.slice q_a1 s.caches.length q_c1] s.caches) := ⟨_, q_r1⟩
  clear q_r1 h
  obtain ⟨fp_r, h'⟩ := h'
  obtain ⟨r_v1, r_f1, rfl, _, r_s0, r_r1⟩ := DSite.rd.1 h'
  obtain ⟨r_a1, r_c1, rfl, r_hm1, r_lc1, r_hu1⟩ := slice_open r_r1; clear r_hu1
  have r_K1 : Hid (Reads (Rep.slice 9 Rep.str) w [.slice r_a1 x.files.length r_c1] x.files) := ⟨_, r_r1⟩
  clear r_r1 h'
  have HE1 : Hid (matchB s v x.name path = true → answerF s x v path online = matchF s v x.name path) := Lib.hid (fun h => by unfold answerF; rw [h]; rfl)
  have HE2 : Hid (matchB s v x.name path = false → online = true → answerF s x v path online = serveF x path v) := Lib.hid (fun h h2 => by unfold answerF; rw [h, h2]; rfl)
  have HE3 : Hid (matchB s v x.name path = false → online = false → answerF s x v path online = errorResp) := Lib.hid (fun h h2 => by unfold answerF; rw [h, h2]; rfl)
  go_enter Try.func17, Try.ntmps17
  go_wp2_with fail
  refine (specMatchCache _ s v x.name path _ (HR.out.below (by repeat (first | with_reducible exact belR | with_reducible apply belA | (with_reducible refine belS ?_ ?_; focus (first | omega | (simp; done) | (simp; omega))) | with_reducible apply belN | with_reducible apply belD | with_reducible assumption))) hs).mono ?_
  rintro e w1 ⟨ds, rfl, hf, hb⟩
  obtain ⟨ao, cap, rfl⟩ := DResponse.fshape hf
  have HX : Hid (WB w1 (w.heap.size + 1) #[.string x.name, .int .i64 x.version, .slice r_a1 x.files.length r_c1, .bool x.shared]) := Lib.hid ((WB.at (by simp)).growA.keep hb)
  have HT : Hid (WB w1 (w.heap.size + 2) #[.int .i64 0, .int .i64 0, .int .i64 0, .slice none 0 0, .bool false]) := Lib.hid ((WB.at (by simp)).keep hb)
  have HB : Hid (Below w.heap.size w w1) := Lib.hid (below_call (by repeat (first | with_reducible exact belR | with_reducible apply belA | (with_reducible refine belS ?_ ?_; focus (first | omega | (simp; done) | (simp; omega))) | with_reducible apply belN | with_reducible apply belD | with_reducible assumption)) (by first | omega | (simp; done) | (simp; omega)) hb)
  have HF := Lib.hid (hf.mono (B' := w.heap.size + 3) (by simp))
  have hzw : w.heap.size + 3 ≤ w1.heap.size := by have y := hb.size; simp at y; omega
  clear hb hf
  cases hM : matchB s v x.name path
  · cases online
    · have HE := Lib.hid (HE3.out hM rfl)
      go_wp2_with fail
      refine (specErrorResponse _).mono ?_
      rintro e w2 ⟨rfl, hb⟩
      have hq : Below w1.heap.size w1 w2 := below_call (by repeat (first | with_reducible exact belR | with_reducible apply belA | (with_reducible refine belS ?_ ?_; focus (first | omega | (simp; done) | (simp; omega))) | with_reducible apply belN | with_reducible apply belD | with_reducible assumption)) (by first | omega | (simp; done) | (simp; omega)) hb
      replace HT := Lib.hid (HT.out.keep hq)
      replace HB := Lib.hid (HB.out.trans (hq.mono HB.out.size))
      clear hb hq
      have ⟨c_HT, z_HT, f_HT⟩ := HT.out
      go_wp2
      refine bodyPost_ret (v := .agg #[.int .i64 4, .int .i64 0, .int .i64 0, .slice none 0 0, .bool false]) (by simp [results, Try.results17, go_sem, c_HT]) rfl ⟨_, rfl, ?_, ?_⟩
      · rw [HE.out]
        exact DResponse.fmk (x := errorResp) Fresh.nil
      · have y := HB.out
        exact (by repeat (first | with_reducible exact belR | (with_reducible refine belAB ?_ ?_; focus (first | omega | (simp; done) | (simp; omega))) | (with_reducible refine belS ?_ ?_; focus (first | omega | (simp; done) | (simp; omega))) | with_reducible apply belN | with_reducible apply belD | with_reducible assumption))
    · have HE := Lib.hid (HE2.out hM rfl)
      have ⟨c_HX, z_HX, f_HX⟩ := HX.out
      go_wp2_with fail
      refine (specServeFile _ x path v _ (HY.out.below (by have y := HB.out; exact (by repeat (first | with_reducible exact belR | with_reducible apply belA | (with_reducible refine belS ?_ ?_; focus (first | omega | (simp; done) | (simp; omega))) | with_reducible apply belN | with_reducible apply belD | with_reducible assumption)))) h1 h2).mono ?_
      rintro e w2 ⟨ds, rfl, hf2, hb⟩
      clear c_HX z_HX f_HX
      obtain ⟨ao2, cap2, rfl⟩ := DResponse.fshape hf2
      have hq : Below w1.heap.size w1 w2 := below_call (by repeat (first | with_reducible exact belR | with_reducible apply belA | (with_reducible refine belS ?_ ?_; focus (first | omega | (simp; done) | (simp; omega))) | with_reducible apply belN | with_reducible apply belD | with_reducible assumption)) (by first | omega | (simp; done) | (simp; omega)) hb
      have HF2 := Lib.hid (hf2.mono (B' := w.heap.size + 3) (by first | omega | (simp; omega)))
      replace HT := Lib.hid (HT.out.keep hq)
      replace HB := Lib.hid (HB.out.trans (hq.mono HB.out.size))
      clear hb hq hf2
      have ⟨c_HT, z_HT, f_HT⟩ := HT.out
      go_wp2
      refine bodyPost_ret (v := .agg #[.int .i64 (serveF x path v).type_, .int .i64 (serveF x path v).status, .int .i64 (serveF x path v).version, .slice ao2 (serveF x path v).body.length cap2, .bool (serveF x path v).shares]) (by simp [results, Try.results17, go_sem, c_HT]) rfl ⟨_, rfl, ?_, ?_⟩
      · rw [HE.out]
        exact (Fresh.mono (B := (w.heap.size + 3)) (by repeat (first | with_reducible exact HF2.out | with_reducible refine Fresh.setLow ?_ (by omega) | with_reducible refine Fresh.drew ?_)) (by omega))
      · have y := HB.out
        exact (by repeat (first | with_reducible exact belR | (with_reducible refine belAB ?_ ?_; focus (first | omega | (simp; done) | (simp; omega))) | (with_reducible refine belS ?_ ?_; focus (first | omega | (simp; done) | (simp; omega))) | with_reducible apply belN | with_reducible apply belD | with_reducible assumption))
  · have HE := Lib.hid (HE1.out hM)
    go_upto_region 3 with fail
    refine settle (fun W => WB W w1.heap.size #[.int .i64 (matchF s v x.name path).type_, .int .i64 (matchF s v x.name path).status, .int .i64 (matchF s v x.name path).version, .slice ao (matchF s v x.name path).body.length cap, .bool (matchF s v x.name path).shares] ∧ WB W (w.heap.size + 2) #[.int .i64 0, .int .i64 0, .int .i64 0, .slice none 0 0, .bool false] ∧ Fresh DResponse.rep (w.heap.size + 3) W [.int .i64 (matchF s v x.name path).type_, .int .i64 (matchF s v x.name path).status, .int .i64 (matchF s v x.name path).version, .slice ao (matchF s v x.name path).body.length cap, .bool (matchF s v x.name path).shares] (matchF s v x.name path) ∧ Below w.heap.size w W) ⟨WB.at rfl, HT.out.growA, HF.out.below (belA belR), by have y := HB.out; exact (by repeat (first | with_reducible exact belR | (with_reducible refine belAB ?_ ?_; focus (first | omega | (simp; done) | (simp; omega))) | (with_reducible refine belS ?_ ?_; focus (first | omega | (simp; done) | (simp; omega))) | with_reducible apply belN | with_reducible apply belD | with_reducible assumption))⟩ ?_
    clear HX HT HF HB
    rintro w2 ⟨hm, ht, hf, hb⟩
    have HM := Lib.hid hm
    have HT := Lib.hid ht
    have HF := Lib.hid hf
    have HB := Lib.hid hb
    clear hm ht hf hb
    have ⟨c_HM, z_HM, f_HM⟩ := HM.out
    have ⟨c_HT, z_HT, f_HT⟩ := HT.out
    go_wp2
    refine bodyPost_ret (v := .agg #[.int .i64 (matchF s v x.name path).type_, .int .i64 (matchF s v x.name path).status, .int .i64 (matchF s v x.name path).version, .slice ao (matchF s v x.name path).body.length cap, .bool (matchF s v x.name path).shares]) (by simp [results, Try.results17, go_sem, c_HT]) rfl ⟨_, rfl, ?_, ?_⟩
    · rw [HE.out]
      exact (Fresh.mono (B := (w.heap.size + 3)) (by repeat (first | with_reducible exact HF.out | with_reducible refine Fresh.setLow ?_ (by omega) | with_reducible refine Fresh.drew ?_)) (by omega))
    · have y := HB.out
      exact (by repeat (first | with_reducible exact belR | (with_reducible refine belAB ?_ ?_; focus (first | omega | (simp; done) | (simp; omega))) | (with_reducible refine belS ?_ ?_; focus (first | omega | (simp; done) | (simp; omega))) | with_reducible apply belN | with_reducible apply belD | with_reducible assumption))

end Go.Proofs.Yteajhmpppciicaa
