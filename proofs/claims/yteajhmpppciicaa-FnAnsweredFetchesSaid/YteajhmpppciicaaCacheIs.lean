/-
  IsResponse, l17Entries, IsCacheSet of the reference.
-/
import Derived.Test.YteajhmpppciicaaCaches
import Derived.Test.YteajhmpppciicaaSites
namespace Go.Proofs.Yteajhmpppciicaa
open Go.RowKit

def isRespF (x : DResponse) : Bool := within x.type_ 1 4 && (within x.status 0 999 && (within x.version 0 1000000000000 && decide ((x.body.length : Int) ≤ 60)))

set_option maxHeartbeats 800000 in
theorem specIsResponse (cs : List Value) (x : DResponse) (w : World) (h : Reads DResponse.rep w cs x) :
    Calls Try.prog 108 #[.agg cs.toArray] w fun e w' => e = .returned (.bool (isRespF x)) ∧ Below w.heap.size w w' := by
  obtain ⟨fp_q, h⟩ := h
  obtain ⟨q_v1, q_f1, rfl, _, q_r1⟩ := DResponse.rd.1 h
  obtain ⟨q_a1, q_c1, rfl, q_hm1, q_lc1, q_hu1⟩ := slice_open q_r1; clear q_hu1
  have q_K1 : Hid (Reads (Rep.slice 5 Rep.byte) w [.slice q_a1 x.body.length q_c1] x.body) := ⟨_, q_r1⟩
  clear q_r1 h
  unfold isRespF
  go_enter Try.func108, Try.ntmps108
  cases n1 : within x.type_ 1 4
  case' true => cases n2 : within x.status 0 999
  case' true.true => cases n3 : within x.version 0 1000000000000
  case' true.true.true => cases n4 : decide ((x.body.length : Int) ≤ 60)
  all_goals
    go_wp2_with (go_at_call 55; refine (specIn _ _ _ _).mono ?_; rintro e w' ⟨rfl, rfl⟩)
    go_ret
    exact ⟨by simp [*], (by repeat (first | with_reducible exact belR | with_reducible apply belA | (with_reducible refine belS ?_ ?_; focus (first | omega | (simp; done) | (simp; omega))) | with_reducible apply belN | with_reducible apply belD | with_reducible assumption))⟩

def sameEntry (e f : DCached) : Bool := f.site.toList == e.site.toList && f.path.toList == e.path.toList
def entryOk (l : List DCached) (i : Nat) : Bool := match l[i]? with | none => true | some e => isWordF e.site 8 false && (isWordF e.path 8 false && (isRespF e.response && !((l.take i).any (sameEntry e))))
def entriesF (l : List DCached) : Bool := (List.range l.length).all (entryOk l) && decide ((l.length : Int) ≤ 12)
theorem entryOk_at {l : List DCached} {i : Nat} (hi : i < l.length) : entryOk l i = (isWordF l[i].site 8 false && (isWordF l[i].path 8 false && (isRespF l[i].response && !((l.take i).any (sameEntry l[i]))))) := by
  unfold entryOk
  rw [List.getElem?_eq_getElem hi]
theorem entries_no {l : List DCached} {i : Nat} (hi : i < l.length) (h : entryOk l i = false) : entriesF l = false := by
  have : (List.range l.length).all (entryOk l) = false := by
    rw [List.all_eq_false]
    exact ⟨i, List.mem_range.2 hi, by simp [h]⟩
  unfold entriesF
  rw [this]
  rfl
theorem entries_yes {l : List DCached} {k : Nat} (hk : ¬ k < l.length) (h : ∀ i, i < k → entryOk l i = true) : entriesF l = decide ((l.length : Int) ≤ 12) := by
  have : (List.range l.length).all (entryOk l) = true := by
    rw [List.all_eq_true]
    exact fun i hi => h i (by have := List.mem_range.1 hi; omega)
  unfold entriesF
  rw [this]
  rfl
theorem take_any {α : Type} {p : α → Bool} {l : List α} {j : Nat} (hj : j < l.length) (h : (l.take j).any p = false) (h2 : p l[j] = false) : (l.take (j + 1)).any p = false := by
  rw [List.take_succ_eq_append_getElem hj, List.any_append, h]
  simp [h2]
theorem take_hit {α : Type} {p : α → Bool} {l : List α} {j k : Nat} (hj : j < k) (hk : k < l.length) (h2 : p l[j] = true) : (l.take k).any p = true := by
  rw [List.any_eq_true]
  exact ⟨l[j], List.mem_take_iff_getElem.2 ⟨j, by omega, rfl⟩, h2⟩

set_option maxRecDepth 100000 in
set_option maxHeartbeats 3200000 in
theorem specEntries (v : Value) (l : List DCached) (w : World) (h : Reads (Rep.slice 88 DCached.rep) w [v] l) :
    Calls Try.prog 102 #[v] w fun e w' => e = .returned (.bool (entriesF l)) ∧ Below w.heap.size w w' := by
  have HL := Lib.hid h
  obtain ⟨fp, hr⟩ := h
  obtain ⟨a1, c1, rfl, _⟩ := slice_open hr
  clear hr
  go_enter Try.func102, Try.ntmps102
  go_wp2
  go_loopw [3] (fun i wr => ∃ k : Nat, k ≤ l.length ∧ i = .int .i64 k ∧ Hid (∀ i, i < k → entryOk l i = true) ∧ Below w.heap.size w wr) (fun i _ => l.length - (intOf i).toNat)
  case atStart => exact ⟨0, by omega, rfl, Lib.hid (by intro i hi; omega), (by repeat (first | with_reducible exact belR | with_reducible apply belA | (with_reducible refine belS ?_ ?_; focus (first | omega | (simp; done) | (simp; omega))) | with_reducible apply belN | with_reducible apply belD | with_reducible assumption))⟩
  case round =>
    obtain ⟨k, hk, rfl, HA, hb⟩ := hrel
    have HB := Lib.hid hb; clear hb
    by_cases hlt : k < l.length
    · have eo := Lib.hid (entryOk_at hlt)
      obtain ⟨b, off, cs_b, rfl, hw_b, hr_b, hcell_b⟩ := slice_at (HL.out.below HB.out) k hlt
      obtain ⟨fe_b, hrd_b⟩ := hr_b
      have HR_b : Hid (Reads DCached.rep wr cs_b l[k]) := ⟨_, hrd_b⟩
      obtain ⟨b_v1, b_f1, rfl, _, b_s0, b_s1, b_r1⟩ := DCached.rd.1 hrd_b
      obtain ⟨b_a1, b_k1, rfl, _⟩ := slice_open b_r1
      have b_R1 : Hid (Reads (Rep.slice 5 Rep.byte) wr [.slice b_a1 l[k].response.body.length b_k1] l[k].response.body) := ⟨_, b_r1⟩
      clear b_r1
      clear hrd_b
      have b_c0 : wr.cell? ⟨b, off + k * 7, none⟩ = some (.string l[k].site) := hcell_b 0 (by decide)
      have b_c1 : wr.cell? ⟨b, off + k * 7 + 1, none⟩ = some (.string l[k].path) := hcell_b 1 (by decide)
      have b_c2 : wr.cell? ⟨b, off + k * 7 + 2, none⟩ = some (.int .i64 l[k].response.type_) := hcell_b 2 (by decide)
      have b_c3 : wr.cell? ⟨b, off + k * 7 + 3, none⟩ = some (.int .i64 l[k].response.status) := hcell_b 3 (by decide)
      have b_c4 : wr.cell? ⟨b, off + k * 7 + 4, none⟩ = some (.int .i64 l[k].response.version) := hcell_b 4 (by decide)
      have b_c5 : wr.cell? ⟨b, off + k * 7 + 5, none⟩ = some (.slice b_a1 l[k].response.body.length b_k1) := hcell_b 5 (by decide)
      have b_c6 : wr.cell? ⟨b, off + k * 7 + 6, none⟩ = some (.bool l[k].response.shares) := hcell_b 6 (by decide)
      clear hcell_b
      have HRP : Hid (Reads DResponse.rep wr [.int .i64 l[k].response.type_, .int .i64 l[k].response.status, .int .i64 l[k].response.version, .slice b_a1 l[k].response.body.length b_k1, .bool l[k].response.shares] l[k].response) := Lib.hid (by obtain ⟨f, hf⟩ := b_R1.out; exact ⟨f, DResponse.rd.2 ⟨_, _, rfl, rfl, hf⟩⟩)
      cases n1 : isWordF l[k].site 8 false
      case' true => cases n2 : isWordF l[k].path 8 false
      case' true.true =>
        go_wp2_with (go_at_call 85; (first | (with_reducible refine (specIsName _ b_s0 _).mono ?_; rintro e w' ⟨rfl, rfl⟩) | (with_reducible refine (specIsName _ b_s1 _).mono ?_; rintro e w' ⟨rfl, rfl⟩)))
        obtain ⟨r, n3⟩ : ∃ r, isRespF l[k].response = r := ⟨_, rfl⟩
        refine (specIsResponse _ _ _ HRP.out).mono ?_
        rintro e w2 ⟨rfl, hb2⟩
        rw [n3]
        have HN3 := Lib.hid n3
        replace HB := Lib.hid (HB.out.trans (hb2.mono HB.out.size))
        clear n3 hb2 HRP b_c0 b_c1 b_c2 b_c3 b_c4 b_c5 b_c6
        cases r
        case' true =>
          go_wp2
          go_loopw [4] (fun i wr => ∃ j : Nat, j ≤ k ∧ i = .int .i64 j ∧ Hid ((l.take j).any (sameEntry l[k]) = false) ∧ Below w.heap.size w wr) (fun i _ => k - (intOf i).toNat)
          case atStart => exact ⟨0, by omega, rfl, Lib.hid rfl, HB.out⟩
          case round =>
            obtain ⟨j, hj, rfl, HJ, hb⟩ := hrel
            have HB2 := Lib.hid hb; clear hb
            by_cases hjk : j < k
            · have hlj : j < l.length := by omega
              obtain ⟨cs2, _, ⟨_, hrd2⟩, hcell2⟩ := slice_at' (HL.out.below HB2.out) j hlj
              obtain ⟨cs3, _, ⟨_, hrd3⟩, hcell3⟩ := slice_at' (HL.out.below HB2.out) k hlt
              obtain ⟨v2, f2, rfl, _⟩ := DCached.rd.1 hrd2
              obtain ⟨v3, f3, rfl, _⟩ := DCached.rd.1 hrd3
              have d0 : wr.cell? ⟨b, off + j * 7, none⟩ = some (.string l[j].site) := hcell2 0 (by decide)
              have d1 : wr.cell? ⟨b, off + j * 7 + 1, none⟩ = some (.string l[j].path) := hcell2 1 (by decide)
              have e0 : wr.cell? ⟨b, off + k * 7, none⟩ = some (.string l[k].site) := hcell3 0 (by decide)
              have e1 : wr.cell? ⟨b, off + k * 7 + 1, none⟩ = some (.string l[k].path) := hcell3 1 (by decide)
              clear hcell2 hcell3 hrd2 hrd3
              have D0 := rg_cell d0
              have D1 := rg_cell d1
              have E0 := rg_cell e0
              have E1 := rg_cell e1
              have j1 : (0 : Int) ≤ (j : Int) := by omega
              have j2 : (j : Int) < (l.length : Int) := by omega
              have j3 : (0 : Int) ≤ (k : Int) := by omega
              have j4 : (k : Int) < (l.length : Int) := by omega
              have j5 : (j : Int) < (k : Int) := by omega
              cases m1 : (l[j].site.toList == l[k].site.toList)
              case' true => cases m2 : (l[j].path.toList == l[k].path.toList)
              all_goals
                go_wp2
                refine wp_region_rg (by kernel_rfl) (by kernel_rfl) ?_
                repeat (go_big_quiet_step ((fail)))
                refine wpQuiet_nil ?_
                rintro _ ⟨pq, rfl⟩
                clear D0 D1 E0 E1
                have HB3 := Lib.hid (rg_below wr pq)
              all_goals
                first
                  | (go_wp2
                     go_ret
                     refine ⟨ret_bool (entries_no hlt ?_).symm, below_call HB2.out HB2.out.size HB3.out⟩
                     rw [eo.out, n1, n2, HN3.out, take_hit hjk hlt (show sameEntry l[k] l[j] = true by unfold sameEntry; rw [m1, m2]; rfl)]
                     rfl)
                  | (go_wp2
                     go_light
                     exact ⟨⟨j + 1, by omega, by go_num, Lib.hid (take_any hlj HJ.out (by unfold sameEntry; first | (rw [m1, m2]; rfl) | (rw [m1]; rfl))), below_call HB2.out HB2.out.size HB3.out⟩, by simp [intOf]; omega⟩)
            · have j5 : ¬ (j : Int) < (k : Int) := by omega
              have hz := HJ.out
              rw [show j = k by omega] at hz
              have HK := Lib.hid (show entryOk l k = true by rw [eo.out, n1, n2, HN3.out, hz]; rfl)
              clear hz
              go_wp2
              go_light
              exact ⟨⟨k + 1, by omega, by go_num, Lib.hid (all_snoc HA.out HK.out), HB2.out⟩, by simp [intOf]; omega⟩
        case false =>
          go_wp2
          go_ret
          exact ⟨ret_bool (entries_no hlt (by rw [eo.out, n1, n2, HN3.out]; rfl)).symm, HB.out⟩
      all_goals
        go_wp2_with (go_at_call 85; (first | (with_reducible refine (specIsName _ b_s0 _).mono ?_; rintro e w' ⟨rfl, rfl⟩) | (with_reducible refine (specIsName _ b_s1 _).mono ?_; rintro e w' ⟨rfl, rfl⟩)))
        go_ret
        exact ⟨ret_bool (entries_no hlt (by rw [eo.out]; first | (rw [n1, n2]; rfl) | (rw [n1]; rfl))).symm, HB.out⟩
    · have he := Lib.hid (entries_yes hlt HA.out)
      cases nn : decide ((l.length : Int) ≤ 12)
      all_goals
        go_wp2
        go_ret
        exact ⟨ret_bool (by rw [he.out, nn]), HB.out⟩

def versionBad (l : List DCache) (i : Nat) : Bool := match l[i]?, l[i - 1]? with | some f, some g => decide (f.version ≤ g.version) | _, _ => false
def cacheOk (l : List DCache) (i : Nat) : Bool := match l[i]? with | none => true | some c => within c.version 1 1000000000000 && (!(decide (0 < i) && versionBad l i) && entriesF c.entries)
def isCachesF (s : DCacheSet) : Bool := (List.range s.caches.length).all (cacheOk s.caches) && decide ((s.caches.length : Int) ≤ 4)
theorem versionBad_at {l : List DCache} {i : Nat} (hi : i < l.length) : versionBad l i = decide (l[i].version ≤ l[i - 1].version) := by
  unfold versionBad
  rw [List.getElem?_eq_getElem hi, List.getElem?_eq_getElem (by omega)]
theorem cacheOk_at {l : List DCache} {i : Nat} (hi : i < l.length) : cacheOk l i = (within l[i].version 1 1000000000000 && (!(decide (0 < i) && versionBad l i) && entriesF l[i].entries)) := by
  unfold cacheOk
  rw [List.getElem?_eq_getElem hi]
theorem caches_no {s : DCacheSet} {i : Nat} (hi : i < s.caches.length) (h : cacheOk s.caches i = false) : isCachesF s = false := by
  have : (List.range s.caches.length).all (cacheOk s.caches) = false := by
    rw [List.all_eq_false]
    exact ⟨i, List.mem_range.2 hi, by simp [h]⟩
  unfold isCachesF
  rw [this]
  rfl
theorem caches_yes {s : DCacheSet} {k : Nat} (hk : ¬ k < s.caches.length) (h : ∀ i, i < k → cacheOk s.caches i = true) : isCachesF s = decide ((s.caches.length : Int) ≤ 4) := by
  have : (List.range s.caches.length).all (cacheOk s.caches) = true := by
    rw [List.all_eq_true]
    exact fun i hi => h i (by have := List.mem_range.1 hi; omega)
  unfold isCachesF
  rw [this]
  rfl
theorem specEntriesAs (b : Bool) (v : Value) (l : List DCached) (hb : entriesF l = b) (w : World) (h : Reads (Rep.slice 88 DCached.rep) w [v] l) :
    Calls Try.prog 102 #[v] w fun e w' => e = .returned (.bool b) ∧ Below w.heap.size w w' := by
  subst hb
  exact specEntries v l w h

set_option maxRecDepth 100000 in
set_option maxHeartbeats 3200000 in
theorem specIsCacheSet (cs : List Value) (x : DCacheSet) (w : World) (h : Reads DCacheSet.rep w cs x) :
    Calls Try.prog 86 #[.agg cs.toArray] w fun e w' => e = .returned (.bool (isCachesF x)) ∧ Below w.heap.size w w' := by
  obtain ⟨fp_q, h⟩ := h
  obtain ⟨q_v1, q_f1, rfl, _, q_r1⟩ := DCacheSet.rd.1 h
  obtain ⟨q_a1, q_c1, rfl, q_hm1, q_lc1, q_hu1⟩ := slice_open q_r1; clear q_hu1
  have q_K1 : Hid (Reads (Rep.slice 85 DCache.rep) w [.slice q_a1 x.caches.length q_c1] x.caches) := ⟨_, q_r1⟩
  clear q_r1 h
  go_enter Try.func86, Try.ntmps86
  go_wp2
  go_loopw [3] (fun i wr => ∃ k : Nat, k ≤ x.caches.length ∧ i = .int .i64 k ∧ Hid (∀ i, i < k → cacheOk x.caches i = true) ∧ WB wr w.heap.size #[.slice q_a1 x.caches.length q_c1] ∧ Below w.heap.size w wr) (fun i _ => x.caches.length - (intOf i).toNat)
  case atStart => exact ⟨0, by omega, rfl, Lib.hid (by intro i hi; omega), WB.at rfl, (by repeat (first | with_reducible exact belR | with_reducible apply belA | (with_reducible refine belS ?_ ?_; focus (first | omega | (simp; done) | (simp; omega))) | with_reducible apply belN | with_reducible apply belD | with_reducible assumption))⟩
  case round =>
    obtain ⟨k, hk, rfl, HA, hx, hb⟩ := hrel
    have HB := Lib.hid hb; clear hb
    have HX := Lib.hid hx
    clear hx
    have ⟨c_HX, z_HX, f_HX⟩ := HX.out
    by_cases hlt : k < x.caches.length
    · have eo := Lib.hid (cacheOk_at hlt)
      have hlt' : k - 1 < x.caches.length := by omega
      obtain ⟨b, off, cs_b, rfl, hw_b, hr_b, hcell_b⟩ := slice_at (q_K1.out.below HB.out) k hlt
      obtain ⟨fe_b, hrd_b⟩ := hr_b
      have HR_b : Hid (Reads DCache.rep wr cs_b x.caches[k]) := ⟨_, hrd_b⟩
      obtain ⟨b_v1, b_f1, rfl, _, b_r1⟩ := DCache.rd.1 hrd_b
      obtain ⟨b_a1, b_k1, rfl, _⟩ := slice_open b_r1
      have b_R1 : Hid (Reads (Rep.slice 88 DCached.rep) wr [.slice b_a1 x.caches[k].entries.length b_k1] x.caches[k].entries) := ⟨_, b_r1⟩
      clear b_r1
      clear hrd_b
      have b_c0 : wr.cell? ⟨b, off + k * 2, none⟩ = some (.int .i64 x.caches[k].version) := hcell_b 0 (by decide)
      have b_c1 : wr.cell? ⟨b, off + k * 2 + 1, none⟩ = some (.slice b_a1 x.caches[k].entries.length b_k1) := hcell_b 1 (by decide)
      clear hcell_b
      obtain ⟨cs2, _, ⟨_, hrd2⟩, hcell2⟩ := slice_at' (q_K1.out.below HB.out) (k - 1) hlt'
      obtain ⟨v2, f2, rfl, _⟩ := DCache.rd.1 hrd2
      have p0 : wr.cell? ⟨b, off + (k - 1) * 2, none⟩ = some (.int .i64 x.caches[k - 1].version) := hcell2 0 (by decide)
      clear hcell2 hrd2
      have j1 : (0 : Int) ≤ (k : Int) := by omega
      have j3 : (k : Int) < (x.caches.length : Int) := by omega
      have K0 := rg_var HX.out
      have C0 := rg_cell b_c0
      have C1 := rg_cell b_c1
      have C2 := rg_cell p0
      cases n1 : within x.caches[k].version 1 1000000000000
      case' true => cases n3 : decide (0 < k)
      case' true.true => cases n4 : versionBad x.caches k
      case' true.true.false => cases n6 : entriesF x.caches[k].entries
      case' true.false => cases n6 : entriesF x.caches[k].entries
      all_goals
        first | (have hk0 := of_decide_eq_true n3; have hw : IntKind.i64.wrap ((k : Int) - 1) = ((k - 1 : Nat) : Int) := by rw [Go.IntWalk.i64_in _ (by omega)]; omega) | (have hw : True := trivial)
        have j4 : (0 : Int) ≤ ((k - 1 : Nat) : Int) := by omega
        have j5 : ((k - 1 : Nat) : Int) < (x.caches.length : Int) := by omega
        first | (have n5 := (versionBad_at hlt).symm.trans n4) | (have n5 : True := trivial)
        go_wp2
        refine wp_region_rg (by kernel_rfl) (by kernel_rfl) ?_
        repeat (go_big_quiet_step ((first | (go_at_call 55; exact calls_rgSame (specIn _ _ _ _)) | (go_at_call 102; exact calls_rg (specEntriesAs _ _ _ n6 _ (b_R1.out.below (rg_below wr _)))))))
        refine wpQuiet_nil ?_
        rintro _ ⟨pq, rfl⟩
        clear K0 C0 C1 C2 hw n5
        have HB1 := Lib.hid (rg_below wr pq)
      all_goals
        first
          | (go_wp2
             go_ret
             refine ⟨ret_bool (caches_no hlt ?_).symm, below_call HB.out HB.out.size HB1.out⟩
             rw [eo.out]
             first
               | (rw [n1]; rfl)
               | (rw [n1, n3, n4, n6]; rfl)
               | (rw [n1, n3, n6]; rfl)
               | (rw [n1, n3, n4]; rfl))
          | (have HK : Hid (cacheOk x.caches k = true) := Lib.hid (by
               rw [eo.out]
               first
                 | (rw [n1, n3, n4, n6]; rfl)
                 | (rw [n1, n3, n6]; rfl))
             go_wp2
             go_light
             exact ⟨⟨k + 1, by omega, by go_num, Lib.hid (all_snoc HA.out HK.out), HX.out.keep HB1.out, below_call HB.out HB.out.size HB1.out⟩, by simp [intOf]; omega⟩)
    · have he := Lib.hid (caches_yes hlt HA.out)
      cases nn : decide ((x.caches.length : Int) ≤ 4)
      all_goals
        go_wp2
        go_ret
        exact ⟨ret_bool (by rw [he.out, nn]), HB.out⟩

end Go.Proofs.Yteajhmpppciicaa
