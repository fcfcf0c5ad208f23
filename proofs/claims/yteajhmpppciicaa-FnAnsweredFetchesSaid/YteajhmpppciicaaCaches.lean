/-
  ErrorResponse, copyResponse, FindCache, entryAt, MatchCache.
-/
import Derived.Test.YteajhmpppciicaaFuncsCache
import Derived.Test.YteajhmpppciicaaFuncsCached
import Derived.Test.YteajhmpppciicaaTCacheSet
import Derived.Test.YteajhmpppciicaaEncrypt
namespace Go.Proofs.Yteajhmpppciicaa
open Go.RowKit

def errorResp : DResponse := ⟨4, 0, 0, [], false⟩
theorem DResponse.fmk {B : Nat} {w : World} {v : Value} {x : DResponse} (h : Fresh (Rep.slice 5 Rep.byte) B w [v] x.body) : Fresh DResponse.rep B w [.int .i64 x.type_, .int .i64 x.status, .int .i64 x.version, v, .bool x.shares] x :=
  DResponse.fresh (h.partAt (Nat.le_refl _)) (Nat.le_refl _)

theorem implErrorResponse (w : World) :
    Calls Try.prog 42 #[] w fun e w' => e = .returned (.agg #[.int .i64 4, .int .i64 0, .int .i64 0, .slice none 0 0, .bool false]) ∧ Below w.heap.size w w' := by
  go_enter Try.func42, Try.ntmps42
  go_upto_region 1 with fail
  refine settle (fun W => WB W w.heap.size #[.int .i64 0, .int .i64 0, .int .i64 0, .slice none 0 0, .bool false] ∧ Below w.heap.size w W) ⟨WB.at rfl, (by repeat (first | with_reducible exact belR | with_reducible apply belA | (with_reducible refine belS ?_ ?_; focus (first | omega | (simp; done) | (simp; omega))) | with_reducible apply belN | with_reducible apply belD | with_reducible assumption))⟩ ?_
  rintro w1 ⟨ht, hb⟩
  have HT := Lib.hid ht
  have HB := Lib.hid hb
  clear ht hb
  have ⟨c_HT, z_HT, f_HT⟩ := HT.out
  go_wp2
  refine bodyPost_ret (v := .agg #[.int .i64 4, .int .i64 0, .int .i64 0, .slice none 0 0, .bool false]) (by simp [results, Try.results42, go_sem, c_HT]) rfl ⟨rfl, ?_⟩
  have y := HB.out
  exact (by repeat (first | with_reducible exact belR | (with_reducible refine belAB ?_ ?_; focus (first | omega | (simp; done) | (simp; omega))) | (with_reducible refine belS ?_ ?_; focus (first | omega | (simp; done) | (simp; omega))) | with_reducible apply belN | with_reducible apply belD | with_reducible assumption))


theorem specErrorResponse (w : World) :
    Calls Try.prog 45 #[] w fun e w' => e = .returned (.agg #[.int .i64 4, .int .i64 0, .int .i64 0, .slice none 0 0, .bool false]) ∧ Below w.heap.size w w' := by
  go_enter Try.func45, Try.ntmps45
  go_upto_region 1 with fail
  refine settle (fun W => WB W w.heap.size #[.int .i64 0, .int .i64 0, .int .i64 0, .slice none 0 0, .bool false] ∧ Below w.heap.size w W) ⟨WB.at rfl, (by repeat (first | with_reducible exact belR | with_reducible apply belA | (with_reducible refine belS ?_ ?_; focus (first | omega | (simp; done) | (simp; omega))) | with_reducible apply belN | with_reducible apply belD | with_reducible assumption))⟩ ?_
  rintro w1 ⟨ht, hb⟩
  have HT := Lib.hid ht
  have HB := Lib.hid hb
  clear ht hb
  have ⟨c_HT, z_HT, f_HT⟩ := HT.out
  go_wp2
  refine bodyPost_ret (v := .agg #[.int .i64 4, .int .i64 0, .int .i64 0, .slice none 0 0, .bool false]) (by simp [results, Try.results45, go_sem, c_HT]) rfl ⟨rfl, ?_⟩
  have y := HB.out
  exact (by repeat (first | with_reducible exact belR | (with_reducible refine belAB ?_ ?_; focus (first | omega | (simp; done) | (simp; omega))) | (with_reducible refine belS ?_ ?_; focus (first | omega | (simp; done) | (simp; omega))) | with_reducible apply belN | with_reducible apply belD | with_reducible assumption))


set_option maxHeartbeats 800000 in
theorem implCopyResponse (cs : List Value) (x : DResponse) (w : World) (h : Reads DResponse.rep w cs x) (hs : x.body.length ≤ 4194304) :
    Calls Try.prog 72 #[.agg cs.toArray] w fun e w' => ∃ ds, e = .returned (.agg ds.toArray) ∧ Fresh DResponse.rep w.heap.size w' ds x ∧ Below w.heap.size w w' := by
  obtain ⟨fp_q, h⟩ := h
  obtain ⟨q_v1, q_f1, rfl, _, q_r1⟩ := DResponse.rd.1 h
  obtain ⟨q_a1, q_c1, rfl, q_hm1, q_lc1, q_hu1⟩ := slice_open q_r1; clear q_hu1
  have q_K1 : Hid (Reads (Rep.slice 5 Rep.byte) w [.slice q_a1 x.body.length q_c1] x.body) := ⟨_, q_r1⟩
  clear q_r1 h
  go_enter Try.func72, Try.ntmps72
  go_wp2_with fail
  refine (implCopyBytes _ x.body _ (q_K1.out.below (by repeat (first | with_reducible exact belR | with_reducible apply belA | (with_reducible refine belS ?_ ?_; focus (first | omega | (simp; done) | (simp; omega))) | with_reducible apply belN | with_reducible apply belD | with_reducible assumption))) hs).mono ?_
  rintro e w1 ⟨v, rfl, hf, hb⟩
  obtain ⟨ao, cap, rfl⟩ := hf.slice
  have HF : Hid (Fresh (Rep.slice 5 Rep.byte) (w.heap.size + 2) w1 [.slice ao x.body.length cap] x.body) := Lib.hid (hf.mono (by simp))
  have HX : Hid (WB w1 w.heap.size #[.int .i64 x.type_, .int .i64 x.status, .int .i64 x.version, .slice q_a1 x.body.length q_c1, .bool x.shares]) := Lib.hid ((WB.at rfl).growA.keep hb)
  have HT : Hid (WB w1 (w.heap.size + 1) #[.int .i64 0, .int .i64 0, .int .i64 0, .slice none 0 0, .bool false]) := Lib.hid ((WB.at (by simp)).keep hb)
  have HB : Hid (Below w.heap.size w w1) := Lib.hid (below_call (by repeat (first | with_reducible exact belR | with_reducible apply belA | (with_reducible refine belS ?_ ?_; focus (first | omega | (simp; done) | (simp; omega))) | with_reducible apply belN | with_reducible apply belD | with_reducible assumption)) (by first | omega | (simp; done) | (simp; omega)) hb)
  clear hf hb
  have ⟨c_HX, z_HX, f_HX⟩ := HX.out
  have ⟨c_HT, z_HT, f_HT⟩ := HT.out
  go_wp2
  refine bodyPost_ret (v := .agg #[.int .i64 x.type_, .int .i64 x.status, .int .i64 x.version, .slice ao x.body.length cap, .bool x.shares]) (by simp [results, Try.results72, go_sem, c_HT]) rfl ⟨_, rfl, ?_, ?_⟩
  · exact DResponse.fmk (Fresh.mono (B := (w.heap.size + 2)) (by repeat (first | with_reducible exact HF.out | with_reducible refine Fresh.setLow ?_ (by omega) | with_reducible refine Fresh.drew ?_)) (by omega))
  · have y := HB.out
    exact (by repeat (first | with_reducible exact belR | (with_reducible refine belAB ?_ ?_; focus (first | omega | (simp; done) | (simp; omega))) | (with_reducible refine belS ?_ ?_; focus (first | omega | (simp; done) | (simp; omega))) | with_reducible apply belN | with_reducible apply belD | with_reducible assumption))

set_option maxHeartbeats 1600000 in
theorem specCopyResponse (cs : List Value) (x : DResponse) (w : World) (h : Reads DResponse.rep w cs x) (hs : x.body.length ≤ 4194304) :
    Calls Try.prog 48 #[.agg cs.toArray] w fun e w' => ∃ ds, e = .returned (.agg ds.toArray) ∧ Fresh DResponse.rep w.heap.size w' ds x ∧ Below w.heap.size w w' := by
  obtain ⟨fp_q, h⟩ := h
  obtain ⟨q_v1, q_f1, rfl, _, q_r1⟩ := DResponse.rd.1 h
  obtain ⟨q_a1, q_c1, rfl, q_hm1, q_lc1, q_hu1⟩ := slice_open q_r1; clear q_hu1
  have q_K1 : Hid (Reads (Rep.slice 5 Rep.byte) w [.slice q_a1 x.body.length q_c1] x.body) := ⟨_, q_r1⟩
  clear q_r1 h
  obtain ⟨i0, hi, hz0, hz1, hz2⟩ := info_parts Try.infoByte
  go_enter Try.func48, Try.ntmps48
  go_wp2_with (at_builtin; refine wpList_grow _ rfl _ _ 22 22 rfl FlatR.byte (w.heap.size + 3) 5 i0 _ _ Try.underlying22 hi hz0 hz1 hz2 rfl _ [] rfl (lit_fresh FlatR.byte (w := _) (xs := #[]) (us := []) rfl rfl (by decide) (by simp) (by simp)) _ x.body rfl (FlatR.byte.src Try.underlying22 (q_K1.out.below (by repeat (first | with_reducible exact belR | with_reducible apply belA | (with_reducible refine belS ?_ ?_; focus (first | omega | (simp; done) | (simp; omega))) | with_reducible apply belN | with_reducible apply belD | with_reducible assumption)))) ?c1a ?c2a ?c3a ?c4a ?_)
  case c1a => exact (FlatR.byte.row q_K1.out).2
  case c2a => (try simp only [List.length_nil, Nat.zero_add]); omega
  case c3a => (try simp only [List.length_nil, Nat.zero_add]); unfold maxLen; omega
  try (case c4a => simp; try omega)
  intro ao1 cap1 w1 hf1 hb1
  have HF1 := Lib.hid hf1
  have HB1 := Lib.hid (Below.trans (by repeat (first | with_reducible exact belR | (with_reducible refine belAB ?_ ?_; focus (first | omega | (simp; done) | (simp; omega))) | (with_reducible refine belS ?_ ?_; focus (first | omega | (simp; done) | (simp; omega))) | with_reducible apply belN | with_reducible apply belD | with_reducible assumption)) (hb1.mono (by omega)) : Below w.heap.size w w1)
  have HT : Hid (WB w1 (w.heap.size + 1) #[.int .i64 0, .int .i64 0, .int .i64 0, .slice none 0 0, .bool false]) := Lib.hid (((WB.at (by simp)).growA.growA).grow hb1 (by omega))
  have HX : Hid (WB w1 (w.heap.size + 2) #[.int .i64 x.type_, .int .i64 x.status, .int .i64 x.version, .slice q_a1 x.body.length q_c1, .bool x.shares]) := Lib.hid (((WB.at (by simp)).growA).grow hb1 (by omega))
  clear hf1 hb1
  have ⟨c_HX, z_HX, f_HX⟩ := HX.out
  have ⟨c_HT, z_HT, f_HT⟩ := HT.out
  go_wp2
  refine bodyPost_ret (v := .agg #[.int .i64 x.type_, .int .i64 x.status, .int .i64 x.version, .slice ao1 x.body.length cap1, .bool x.shares]) (by simp [results, Try.results48, go_sem, c_HT]) rfl ⟨_, rfl, ?_, ?_⟩
  · exact DResponse.fmk (Fresh.mono (B := (w.heap.size + 3)) (by repeat (first | with_reducible exact HF1.out | with_reducible refine Fresh.setLow ?_ (by omega) | with_reducible refine Fresh.drew ?_)) (by omega))
  · have y := HB1.out
    exact (by repeat (first | with_reducible exact belR | (with_reducible refine belAB ?_ ?_; focus (first | omega | (simp; done) | (simp; omega))) | (with_reducible refine belS ?_ ?_; focus (first | omega | (simp; done) | (simp; omega))) | with_reducible apply belN | with_reducible apply belD | with_reducible assumption))

def versionIs (v : Int) (c : DCache) : Bool := c.version == v
def entryIs (site path : ByteArray) (e : DCached) : Bool := (e.site.toList == site.toList) && (e.path.toList == path.toList)
def cacheHit (s : DCacheSet) (v : Int) (site path : ByteArray) : Option DResponse := (s.caches.find? (versionIs v)).bind fun c => (c.entries.find? (entryIs site path)).map (·.response)
def matchB (s : DCacheSet) (v : Int) (site path : ByteArray) : Bool := (cacheHit s v site path).isSome
def matchF (s : DCacheSet) (v : Int) (site path : ByteArray) : DResponse := (cacheHit s v site path).getD errorResp
theorem find_hit {α : Type} {p : α → Bool} {l : List α} {k : Nat} (hk : k < l.length) (h1 : p l[k] = true) (h2 : ∀ j, (hj : j < l.length) → j < k → p l[j] = false) : l.find? p = some l[k] :=
  List.find?_eq_some_iff_getElem.2 ⟨h1, k, hk, rfl, fun j hj => by have := h2 j (by omega) hj; simp [this]⟩
theorem find_miss {α : Type} {p : α → Bool} {l : List α} (h : ∀ j, (hj : j < l.length) → p l[j] = false) : l.find? p = none :=
  List.find?_eq_none.2 fun x hx => by
    obtain ⟨j, hj, rfl⟩ := List.getElem_of_mem hx
    rw [h j hj]; simp
theorem hit_no {s : DCacheSet} {v : Int} {site path : ByteArray} (h : ∀ j, (hj : j < s.caches.length) → versionIs v s.caches[j] = false) : matchB s v site path = false ∧ matchF s v site path = errorResp := by
  unfold matchB matchF cacheHit; rw [find_miss h]; exact ⟨rfl, rfl⟩
theorem hit_none {s : DCacheSet} {v : Int} {site path : ByteArray} {k : Nat} (hk : k < s.caches.length) (h1 : versionIs v s.caches[k] = true) (h2 : ∀ j, (hj : j < s.caches.length) → j < k → versionIs v s.caches[j] = false)
    (h : ∀ j, (hj : j < s.caches[k].entries.length) → entryIs site path s.caches[k].entries[j] = false) : matchB s v site path = false ∧ matchF s v site path = errorResp := by
  unfold matchB matchF cacheHit; rw [find_hit hk h1 h2, Option.bind_some, find_miss h]; exact ⟨rfl, rfl⟩
theorem hit_some {s : DCacheSet} {v : Int} {site path : ByteArray} {k i : Nat} (hk : k < s.caches.length) (h1 : versionIs v s.caches[k] = true) (h2 : ∀ j, (hj : j < s.caches.length) → j < k → versionIs v s.caches[j] = false)
    (hi : i < s.caches[k].entries.length) (h3 : entryIs site path s.caches[k].entries[i] = true) (h4 : ∀ j, (hj : j < s.caches[k].entries.length) → j < i → entryIs site path s.caches[k].entries[j] = false) : matchB s v site path = true ∧ matchF s v site path = s.caches[k].entries[i].response := by
  unfold matchB matchF cacheHit; rw [find_hit hk h1 h2, Option.bind_some, find_hit hi h3 h4]; exact ⟨rfl, rfl⟩
theorem match_small {s : DCacheSet} {v : Int} {site path : ByteArray} {n : Nat} (h : ∀ c ∈ s.caches, ∀ e ∈ c.entries, e.response.body.length ≤ n) : (matchF s v site path).body.length ≤ n := by
  unfold matchF cacheHit
  cases h1 : s.caches.find? (versionIs v) with
  | none => exact Nat.zero_le _
  | some c =>
    rw [Option.bind_some]
    cases h2 : c.entries.find? (entryIs site path) with
    | none => exact Nat.zero_le _
    | some e => exact h c (List.mem_of_find?_eq_some h1) e (List.mem_of_find?_eq_some h2)
attribute [irreducible] cacheHit matchB matchF

theorem versionPred (v : Int) (B k : Nat) (w : World) (hk : k < B) (hc : w.cell? ⟨k, 0, none⟩ = some (.int .i64 v)) : PredOn Try.prog DCache.rep 91 #[.pointer (some ⟨k, 0, none⟩)] (versionIs v) B w := by
  intro W cs x hb hr
  obtain ⟨fp, hr⟩ := hr
  obtain ⟨q_a1, q_c1, rfl⟩ := DCache.shape hr
  have hc' := (hb.cell (p := ⟨k, 0, none⟩) hk).trans hc
  have hkW := block_lt_of_cell hc'
  clear hr hb hc
  change Calls Try.prog 91 #[.agg #[.int .i64 x.version, .slice q_a1 x.entries.length q_c1], .pointer (some ⟨k, 0, none⟩)] W _
  go_enter Try.func91, Try.ntmps91
  go_wp2
  go_ret
  exact ⟨rfl, (by repeat (first | with_reducible exact belR | with_reducible apply belA | (with_reducible refine belS ?_ ?_; focus (first | omega | (simp; done) | (simp; omega))) | with_reducible apply belN | with_reducible apply belD | with_reducible assumption))⟩

set_option maxHeartbeats 800000 in
theorem implFindCache (cs : List Value) (x : DCacheSet) (v : Int) (w : World) (h : Reads DCacheSet.rep w cs x) :
    Calls Try.prog 70 #[.agg cs.toArray, .int .i64 v] w fun e w' => e = .returned (.int .i64 (idxF (versionIs v) x.caches)) ∧ Below w.heap.size w w' := by
  obtain ⟨fp_q, h⟩ := h
  obtain ⟨q_v1, q_f1, rfl, _, q_r1⟩ := DCacheSet.rd.1 h
  obtain ⟨q_a1, q_c1, rfl, q_hm1, q_lc1, q_hu1⟩ := slice_open q_r1; clear q_hu1
  have q_K1 : Hid (Reads (Rep.slice 85 DCache.rep) w [.slice q_a1 x.caches.length q_c1] x.caches) := ⟨_, q_r1⟩
  clear q_r1 h
  go_enter Try.func70, Try.ntmps70
  go_wp2_with fail
  refine (indexFuncCache _ _ (versionIs v) (w.heap.size + 2) _ _ _ (enters_at Try.func91 (by kernel_rfl) rfl) (q_K1.out.below (by repeat (first | with_reducible exact belR | with_reducible apply belA | (with_reducible refine belS ?_ ?_; focus (first | omega | (simp; done) | (simp; omega))) | with_reducible apply belN | with_reducible apply belD | with_reducible assumption))) (versionPred v _ _ _ (by omega) ((WB.at (by simp)).cell 0)) (by simp)).mono ?_
  rintro e w1 ⟨rfl, hb⟩
  have HB := Lib.hid (Below.trans (by repeat (first | with_reducible exact belR | with_reducible apply belA | (with_reducible refine belS ?_ ?_; focus (first | omega | (simp; done) | (simp; omega))) | with_reducible apply belN | with_reducible apply belD | with_reducible assumption)) (hb.mono (by first | omega | (simp; done) | (simp; omega))) : Below w.heap.size w w1)
  clear hb
  go_wp2
  go_ret
  exact ⟨rfl, HB.out⟩

theorem entryPred (site path : ByteArray) (B k j : Nat) (w : World) (hk : k < B) (hj : j < B) (hc : w.cell? ⟨k, 0, none⟩ = some (.string site)) (hd : w.cell? ⟨j, 0, none⟩ = some (.string path)) : PredOn Try.prog DCached.rep 93 #[.pointer (some ⟨k, 0, none⟩), .pointer (some ⟨j, 0, none⟩)] (entryIs site path) B w := by
  intro W cs x hb hr
  obtain ⟨fp, hr⟩ := hr
  obtain ⟨q_a1, q_c1, rfl⟩ := DCached.shape hr
  have hc' := (hb.cell (p := ⟨k, 0, none⟩) hk).trans hc
  have hd' := (hb.cell (p := ⟨j, 0, none⟩) hj).trans hd
  have hkW := block_lt_of_cell hc'
  have hjW := block_lt_of_cell hd'
  clear hr hb hc hd
  change Calls Try.prog 93 #[.agg #[.string x.site, .string x.path, .int .i64 x.response.type_, .int .i64 x.response.status, .int .i64 x.response.version, .slice q_a1 x.response.body.length q_c1, .bool x.response.shares], .pointer (some ⟨k, 0, none⟩), .pointer (some ⟨j, 0, none⟩)] W _
  unfold entryIs
  cases n1 : (x.site.toList == site.toList)
  case' true => cases n2 : (x.path.toList == path.toList)
  all_goals
    go_enter Try.func93, Try.ntmps93
    go_wp2
    go_ret
    exact ⟨rfl, (by repeat (first | with_reducible exact belR | with_reducible apply belA | (with_reducible refine belS ?_ ?_; focus (first | omega | (simp; done) | (simp; omega))) | with_reducible apply belN | with_reducible apply belD | with_reducible assumption))⟩

set_option maxHeartbeats 800000 in
theorem implEntryAt (cs : List Value) (x : DCache) (site path : ByteArray) (w : World) (h : Reads DCache.rep w cs x) :
    Calls Try.prog 71 #[.agg cs.toArray, .string site, .string path] w fun e w' => e = .returned (.int .i64 (idxF (entryIs site path) x.entries)) ∧ Below w.heap.size w w' := by
  obtain ⟨fp_q, h⟩ := h
  obtain ⟨q_v1, q_f1, rfl, _, q_r1⟩ := DCache.rd.1 h
  obtain ⟨q_a1, q_c1, rfl, q_hm1, q_lc1, q_hu1⟩ := slice_open q_r1; clear q_hu1
  have q_K1 : Hid (Reads (Rep.slice 88 DCached.rep) w [.slice q_a1 x.entries.length q_c1] x.entries) := ⟨_, q_r1⟩
  clear q_r1 h
  go_enter Try.func71, Try.ntmps71
  go_wp2_with fail
  refine (indexFuncCached _ _ (entryIs site path) (w.heap.size + 3) _ _ _ (enters_at Try.func93 (by kernel_rfl) rfl) (q_K1.out.below (by repeat (first | with_reducible exact belR | with_reducible apply belA | (with_reducible refine belS ?_ ?_; focus (first | omega | (simp; done) | (simp; omega))) | with_reducible apply belN | with_reducible apply belD | with_reducible assumption))) (entryPred site path _ _ _ _ (by omega) (by omega) (((WB.at (by simp)).growA).cell 0) ((WB.at (by simp)).cell 0)) (by simp)).mono ?_
  rintro e w1 ⟨rfl, hb⟩
  have HB := Lib.hid (Below.trans (by repeat (first | with_reducible exact belR | with_reducible apply belA | (with_reducible refine belS ?_ ?_; focus (first | omega | (simp; done) | (simp; omega))) | with_reducible apply belN | with_reducible apply belD | with_reducible assumption)) (hb.mono (by first | omega | (simp; done) | (simp; omega))) : Below w.heap.size w w1)
  clear hb
  go_wp2
  go_ret
  exact ⟨rfl, HB.out⟩

set_option maxRecDepth 100000 in
set_option maxHeartbeats 1600000 in
theorem specFindCache (cs : List Value) (x : DCacheSet) (v : Int) (w : World) (h : Reads DCacheSet.rep w cs x) :
    Calls Try.prog 46 #[.agg cs.toArray, .int .i64 v] w fun e w' => e = .returned (.int .i64 (idxF (versionIs v) x.caches)) ∧ Below w.heap.size w w' := by
  obtain ⟨fp_q, h⟩ := h
  obtain ⟨q_v1, q_f1, rfl, _, q_r1⟩ := DCacheSet.rd.1 h
  obtain ⟨q_a1, q_c1, rfl, q_hm1, q_lc1, q_hu1⟩ := slice_open q_r1; clear q_hu1
  have q_K1 : Hid (Reads (Rep.slice 85 DCache.rep) w [.slice q_a1 x.caches.length q_c1] x.caches) := ⟨_, q_r1⟩
  clear q_r1 h
  go_enter Try.func46, Try.ntmps46
  go_wp2
  go_loopw [5] (fun i wr => ∃ k : Nat, k ≤ x.caches.length ∧ i = .int .i64 k ∧ Hid (∀ j, (hj : j < x.caches.length) → j < k → versionIs v x.caches[j] = false) ∧ WB wr w.heap.size #[.slice q_a1 x.caches.length q_c1] ∧ Below w.heap.size w wr) (fun i _ => x.caches.length - (intOf i).toNat)
  case atStart => exact ⟨0, by omega, rfl, Lib.hid (by intro j hj h; omega), WB.at rfl, (by repeat (first | with_reducible exact belR | with_reducible apply belA | (with_reducible refine belS ?_ ?_; focus (first | omega | (simp; done) | (simp; omega))) | with_reducible apply belN | with_reducible apply belD | with_reducible assumption))⟩
  case round =>
    obtain ⟨k, hk, rfl, HA, hx, hb⟩ := hrel
    have HB := Lib.hid hb
    have HX := Lib.hid hx
    clear hb hx
    have ⟨c_HX, z_HX, f_HX⟩ := HX.out
    by_cases hlt : k < x.caches.length
    · obtain ⟨b, off, cs_b, rfl, hw_b, hr_b, hcell_b⟩ := slice_at (q_K1.out.below HB.out) k hlt
      obtain ⟨fe_b, hrd_b⟩ := hr_b
      have HR_b : Hid (Reads DCache.rep wr cs_b x.caches[k]) := ⟨_, hrd_b⟩
      obtain ⟨b_v1, b_f1, rfl, _, b_r1⟩ := DCache.rd.1 hrd_b
      obtain ⟨b_a1, b_k1, rfl, _⟩ := slice_open b_r1
      have b_R1 : Hid (Reads (Rep.slice 88 DCached.rep) wr [.slice b_a1 x.caches[k].entries.length b_k1] x.caches[k].entries) := ⟨_, b_r1⟩
      clear b_r1
      clear hrd_b
      have b_c0 : wr.cell? ⟨b, off + k * 2, none⟩ = some (.int .i64 x.caches[k].version) := hcell_b 0 (by decide)
      have b_c1 : wr.cell? ⟨b, off + k * 2 + 1, none⟩ = some (.slice b_a1 x.caches[k].entries.length b_k1) := hcell_b 1 (by decide)
      clear hcell_b
      have j1 : (0 : Int) ≤ (k : Int) := by omega
      have j3 : (k : Int) < (x.caches.length : Int) := by omega
      cases hq : (x.caches[k].version == v)
      · have HE := Lib.hid (none_snoc (p := versionIs v) hlt HA.out hq)
        go_wp2
        go_light
        have y := HB.out
        exact ⟨⟨k + 1, by omega, by go_num, HE, HX.out, (by repeat (first | with_reducible exact belR | with_reducible apply belA | (with_reducible refine belS ?_ ?_; focus (first | omega | (simp; done) | (simp; omega))) | with_reducible apply belN | with_reducible apply belD | with_reducible assumption))⟩, by simp [intOf]; omega⟩
      · have HE := Lib.hid (idxF_hit (p := versionIs v) hlt hq HA.out)
        go_wp2
        go_ret
        have y := HB.out
        exact ⟨ret_int HE.out.symm, (by repeat (first | with_reducible exact belR | with_reducible apply belA | (with_reducible refine belS ?_ ?_; focus (first | omega | (simp; done) | (simp; omega))) | with_reducible apply belN | with_reducible apply belD | with_reducible assumption))⟩
    · have HE := Lib.hid (idxF_miss (p := versionIs v) (l := x.caches) (fun j hj => HA.out j hj (by omega)))
      go_wp2
      go_ret
      exact ⟨ret_int HE.out.symm, HB.out⟩

set_option maxRecDepth 100000 in
set_option maxHeartbeats 1600000 in
theorem specEntryAt (cs : List Value) (x : DCache) (site path : ByteArray) (w : World) (h : Reads DCache.rep w cs x) :
    Calls Try.prog 47 #[.agg cs.toArray, .string site, .string path] w fun e w' => e = .returned (.int .i64 (idxF (entryIs site path) x.entries)) ∧ Below w.heap.size w w' := by
  obtain ⟨fp_q, h⟩ := h
  obtain ⟨q_v1, q_f1, rfl, _, q_r1⟩ := DCache.rd.1 h
  obtain ⟨q_a1, q_c1, rfl, q_hm1, q_lc1, q_hu1⟩ := slice_open q_r1; clear q_hu1
  have q_K1 : Hid (Reads (Rep.slice 88 DCached.rep) w [.slice q_a1 x.entries.length q_c1] x.entries) := ⟨_, q_r1⟩
  clear q_r1 h
  go_enter Try.func47, Try.ntmps47
  go_wp2
  go_loopw [7] (fun i wr => ∃ k : Nat, k ≤ x.entries.length ∧ i = .int .i64 k ∧ Hid (∀ j, (hj : j < x.entries.length) → j < k → entryIs site path x.entries[j] = false) ∧ WB wr w.heap.size #[.int .i64 x.version, .slice q_a1 x.entries.length q_c1] ∧ Below w.heap.size w wr) (fun i _ => x.entries.length - (intOf i).toNat)
  case atStart => exact ⟨0, by omega, rfl, Lib.hid (by intro j hj h; omega), WB.at rfl, (by repeat (first | with_reducible exact belR | with_reducible apply belA | (with_reducible refine belS ?_ ?_; focus (first | omega | (simp; done) | (simp; omega))) | with_reducible apply belN | with_reducible apply belD | with_reducible assumption))⟩
  case round =>
    obtain ⟨k, hk, rfl, HA, hx, hb⟩ := hrel
    have HB := Lib.hid hb
    have HX := Lib.hid hx
    clear hb hx
    have ⟨c_HX, z_HX, f_HX⟩ := HX.out
    by_cases hlt : k < x.entries.length
    · obtain ⟨b, off, cs_b, rfl, hw_b, hr_b, hcell_b⟩ := slice_at (q_K1.out.below HB.out) k hlt
      obtain ⟨fe_b, hrd_b⟩ := hr_b
      have HR_b : Hid (Reads DCached.rep wr cs_b x.entries[k]) := ⟨_, hrd_b⟩
      obtain ⟨b_v1, b_f1, rfl, _, b_s0, b_s1, b_r1⟩ := DCached.rd.1 hrd_b
      obtain ⟨b_a1, b_k1, rfl, _⟩ := slice_open b_r1
      have b_R1 : Hid (Reads (Rep.slice 5 Rep.byte) wr [.slice b_a1 x.entries[k].response.body.length b_k1] x.entries[k].response.body) := ⟨_, b_r1⟩
      clear b_r1
      clear hrd_b
      have b_c0 : wr.cell? ⟨b, off + k * 7, none⟩ = some (.string x.entries[k].site) := hcell_b 0 (by decide)
      have b_c1 : wr.cell? ⟨b, off + k * 7 + 1, none⟩ = some (.string x.entries[k].path) := hcell_b 1 (by decide)
      have b_c2 : wr.cell? ⟨b, off + k * 7 + 2, none⟩ = some (.int .i64 x.entries[k].response.type_) := hcell_b 2 (by decide)
      have b_c3 : wr.cell? ⟨b, off + k * 7 + 3, none⟩ = some (.int .i64 x.entries[k].response.status) := hcell_b 3 (by decide)
      have b_c4 : wr.cell? ⟨b, off + k * 7 + 4, none⟩ = some (.int .i64 x.entries[k].response.version) := hcell_b 4 (by decide)
      have b_c5 : wr.cell? ⟨b, off + k * 7 + 5, none⟩ = some (.slice b_a1 x.entries[k].response.body.length b_k1) := hcell_b 5 (by decide)
      have b_c6 : wr.cell? ⟨b, off + k * 7 + 6, none⟩ = some (.bool x.entries[k].response.shares) := hcell_b 6 (by decide)
      clear hcell_b
      have j1 : (0 : Int) ≤ (k : Int) := by omega
      have j3 : (k : Int) < (x.entries.length : Int) := by omega
      have eo := Lib.hid (show entryIs site path x.entries[k] = ((x.entries[k].site.toList == site.toList) && (x.entries[k].path.toList == path.toList)) from rfl)
      cases n1 : (x.entries[k].site.toList == site.toList)
      case' false =>
        have HQ : Hid (entryIs site path x.entries[k] = false) := Lib.hid (by rw [eo.out, n1]; rfl)
      case' true => cases n2 : (x.entries[k].path.toList == path.toList)
      case' true.true =>
        have HQ : Hid (entryIs site path x.entries[k] = true) := Lib.hid (by rw [eo.out, n1, n2]; rfl)
      case' true.false =>
        have HQ : Hid (entryIs site path x.entries[k] = false) := Lib.hid (by rw [eo.out, n1, n2]; rfl)
      all_goals
        first
          | (have HE := Lib.hid (none_snoc (p := entryIs site path) hlt HA.out HQ.out)
             go_wp2
             go_light
             have y := HB.out
             exact ⟨⟨k + 1, by omega, by go_num, HE, HX.out, (by repeat (first | with_reducible exact belR | with_reducible apply belA | (with_reducible refine belS ?_ ?_; focus (first | omega | (simp; done) | (simp; omega))) | with_reducible apply belN | with_reducible apply belD | with_reducible assumption))⟩, by simp [intOf]; omega⟩)
          | (have HE := Lib.hid (idxF_hit (p := entryIs site path) hlt HQ.out HA.out)
             go_wp2
             go_ret
             have y := HB.out
             exact ⟨ret_int HE.out.symm, (by repeat (first | with_reducible exact belR | with_reducible apply belA | (with_reducible refine belS ?_ ?_; focus (first | omega | (simp; done) | (simp; omega))) | with_reducible apply belN | with_reducible apply belD | with_reducible assumption))⟩)
    · have HE := Lib.hid (idxF_miss (p := entryIs site path) (l := x.entries) (fun j hj => HA.out j hj (by omega)))
      go_wp2
      go_ret
      exact ⟨ret_int HE.out.symm, HB.out⟩

end Go.Proofs.Yteajhmpppciicaa
