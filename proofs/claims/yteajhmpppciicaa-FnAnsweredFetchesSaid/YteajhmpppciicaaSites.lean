/-
  IsSite, ServesVersion, HasFile.
-/
import Derived.Test.YteajhmpppciicaaTSite
import Derived.Test.YteajhmpppciicaaRecFam
import Derived.Test.YteajhmpppciicaaDerive
namespace Go.Proofs.Yteajhmpppciicaa
open Go.RowKit

def strIs (s : ByteArray) (x : ByteArray) : Bool := x.toList == s.toList
def fileBad (l : List ByteArray) (i : Nat) : Bool := match l[i]?, l[i - 1]? with | some f, some g => !(Op.bytesLess g.toList f.toList) | _, _ => false
def fileOk (l : List ByteArray) (i : Nat) : Bool := match l[i]? with | none => true | some f => isWordF f 8 false && !(decide (0 < i) && fileBad l i)
def isSiteF (x : DSite) : Bool := (List.range x.files.length).all (fileOk x.files) && (isWordF x.name 8 false && (within x.version 1 1000000000000 && within (x.files.length : Int) 1 6))
theorem fileBad_at {l : List ByteArray} {i : Nat} (hi : i < l.length) : fileBad l i = !(Op.bytesLess l[i - 1].toList l[i].toList) := by
  unfold fileBad; rw [List.getElem?_eq_getElem hi, List.getElem?_eq_getElem (show i - 1 < l.length by omega)]
theorem fileOk_at {l : List ByteArray} {i : Nat} (hi : i < l.length) : fileOk l i = (isWordF l[i] 8 false && !(decide (0 < i) && fileBad l i)) := by
  unfold fileOk; rw [List.getElem?_eq_getElem hi]
theorem site_no {x : DSite} {i : Nat} (hi : i < x.files.length) (h : fileOk x.files i = false) : isSiteF x = false := by
  have : (List.range x.files.length).all (fileOk x.files) = false := List.all_eq_false.2 ⟨i, List.mem_range.2 hi, by rw [h]; simp⟩
  rw [isSiteF, this, Bool.false_and]
theorem site_yes {x : DSite} {k : Nat} (hk : ¬ k < x.files.length) (h : ∀ i, i < k → fileOk x.files i = true) : isSiteF x = (isWordF x.name 8 false && (within x.version 1 1000000000000 && within (x.files.length : Int) 1 6)) := by
  have : (List.range x.files.length).all (fileOk x.files) = true := List.all_eq_true.2 fun i hi => h i (by have := List.mem_range.1 hi; omega)
  rw [isSiteF, this, Bool.true_and]
attribute [irreducible] fileOk fileBad

set_option maxRecDepth 100000 in
set_option maxHeartbeats 3200000 in
theorem specIsSite (cs : List Value) (x : DSite) (w : World) (h : Reads DSite.rep w cs x) :
    Calls Try.prog 78 #[.agg cs.toArray] w fun e w' => e = .returned (.bool (isSiteF x)) ∧ Below w.heap.size w w' := by
  obtain ⟨fp_q, h⟩ := h
  obtain ⟨q_v1, q_f1, rfl, _, q_s0, q_r1⟩ := DSite.rd.1 h
  obtain ⟨q_a1, q_c1, rfl, q_hm1, q_lc1, q_hu1⟩ := slice_open q_r1; clear q_hu1
  have q_K1 : Hid (Reads (Rep.slice 9 Rep.str) w [.slice q_a1 x.files.length q_c1] x.files) := ⟨_, q_r1⟩
  clear q_r1 h
  go_enter Try.func78, Try.ntmps78
  go_wp2
  go_loopw [3] (fun i wr => ∃ k : Nat, k ≤ x.files.length ∧ i = .int .i64 k ∧ Hid (∀ i, i < k → fileOk x.files i = true) ∧ WB wr w.heap.size #[.string x.name, .int .i64 x.version, .slice q_a1 x.files.length q_c1, .bool x.shared] ∧ Below w.heap.size w wr) (fun i _ => x.files.length - (intOf i).toNat)
  case atStart => exact ⟨0, by omega, rfl, Lib.hid (by intro i hi; omega), WB.at rfl, (by repeat (first | with_reducible exact belR | with_reducible apply belA | (with_reducible refine belS ?_ ?_; focus (first | omega | (simp; done) | (simp; omega))) | with_reducible apply belN | with_reducible apply belD | with_reducible assumption))⟩
  case round =>
    obtain ⟨k, hk, rfl, HA, hx, hb⟩ := hrel
    have HB := Lib.hid hb; clear hb
    have HX := Lib.hid hx
    clear hx
    have ⟨c_HX, z_HX, f_HX⟩ := HX.out
    by_cases hlt : k < x.files.length
    · have eo := Lib.hid (fileOk_at hlt)
      have hlt' : k - 1 < x.files.length := by omega
      obtain ⟨b, off, cs_b, rfl, hw_b, hr_b, hcell_b⟩ := slice_at (q_K1.out.below HB.out) k hlt
      obtain ⟨fe_b, hrd_b⟩ := hr_b
      obtain ⟨rfl, _, b_s0⟩ := hrd_b
      have b_c0 : wr.cell? ⟨b, off + k, none⟩ = some (.string x.files[k]) := by have h := hcell_b 0 (by decide); rwa [show off + k * Rep.str.n + 0 = off + k from by show off + k * 1 + 0 = off + k; omega] at h
      clear hcell_b
      obtain ⟨cs2, _, ⟨_, hrd2⟩, hcell2⟩ := slice_at' (q_K1.out.below HB.out) (k - 1) hlt'
      obtain ⟨rfl, _, _⟩ := hrd2
      have c_c0 : wr.cell? ⟨b, off + (k - 1), none⟩ = some (.string x.files[k - 1]) := by have h := hcell2 0 (by decide); rwa [show off + (k - 1) * Rep.str.n + 0 = off + (k - 1) from by show off + (k - 1) * 1 + 0 = off + (k - 1); omega] at h
      clear hcell2
      have j1 : (0 : Int) ≤ (k : Int) := by omega
      have j3 : (k : Int) < (x.files.length : Int) := by omega
      have K0 := rg_var HX.out
      have C0 := rg_cell b_c0
      have C2 := rg_cell c_c0
      cases n1 : isWordF x.files[k] 8 false
      case' true => cases n3 : decide (0 < k)
      case' true.true => cases n4 : fileBad x.files k
      all_goals
        first | (have hk0 := of_decide_eq_true n3; have hw : IntKind.i64.wrap ((k : Int) - 1) = ((k - 1 : Nat) : Int) := by rw [Go.IntWalk.i64_in _ (by omega)]; omega) | (have hw : True := trivial)
        have j4 : (0 : Int) ≤ ((k - 1 : Nat) : Int) := by omega
        have j5 : ((k - 1 : Nat) : Int) < (x.files.length : Int) := by omega
        first | (have n5 := (fileBad_at hlt).symm.trans n4) | (have n5 : True := trivial)
        go_wp2
        refine wp_region_rg (by kernel_rfl) (by kernel_rfl) ?_
        repeat (go_big_quiet_step ((first | (go_at_call 85; exact calls_rgSame (specIsName _ b_s0 _)))))
        refine wpQuiet_nil ?_
        rintro _ ⟨pq, rfl⟩
        clear K0 C0 C2 hw n5
        have HB1 := Lib.hid (rg_below wr pq)
      all_goals
        first
          | (go_wp2
             go_ret
             refine ⟨ret_bool (site_no hlt ?_).symm, below_call HB.out HB.out.size HB1.out⟩
             rw [eo.out]
             first
               | (rw [n1]; rfl)
               | (rw [n1, n3, n4]; rfl))
          | (have HK : Hid (fileOk x.files k = true) := Lib.hid (by
               rw [eo.out]
               first
                 | (rw [n1, n3, n4]; rfl)
                 | (rw [n1, n3]; rfl))
             go_wp2
             go_light
             exact ⟨⟨k + 1, by omega, by go_num, Lib.hid (all_snoc HA.out HK.out), HX.out.keep HB1.out, below_call HB.out HB.out.size HB1.out⟩, by simp [intOf]; omega⟩)
    · have he := Lib.hid (site_yes hlt HA.out)
      cases n1 : isWordF x.name 8 false
      case' true => cases n2 : within x.version 1 1000000000000
      case' true.true => cases n3 : within (x.files.length : Int) 1 6
      all_goals
        go_wp2_with (first | (go_at_call 85; refine (specIsName _ q_s0 _).mono ?_; rintro e w' ⟨rfl, rfl⟩) | (go_at_call 55; refine (specIn _ _ _ _).mono ?_; rintro e w' ⟨rfl, rfl⟩))
        go_ret
        refine ⟨ret_bool ?_, HB.out⟩
        rw [he.out]
        simp [n1]
        try simp [*]

set_option maxRecDepth 100000 in
set_option maxHeartbeats 3200000 in
theorem implIsSite (cs : List Value) (x : DSite) (w : World) (h : Reads DSite.rep w cs x) :
    Calls Try.prog 73 #[.agg cs.toArray] w fun e w' => e = .returned (.bool (isSiteF x)) ∧ Below w.heap.size w w' := by
  obtain ⟨fp_q, h⟩ := h
  obtain ⟨q_v1, q_f1, rfl, _, q_s0, q_r1⟩ := DSite.rd.1 h
  obtain ⟨q_a1, q_c1, rfl, q_hm1, q_lc1, q_hu1⟩ := slice_open q_r1; clear q_hu1
  have q_K1 : Hid (Reads (Rep.slice 9 Rep.str) w [.slice q_a1 x.files.length q_c1] x.files) := ⟨_, q_r1⟩
  clear q_r1 h
  go_enter Try.func73, Try.ntmps73
  go_wp2
  go_loopw [8] (fun i wr => ∃ k : Nat, k ≤ x.files.length ∧ i = .int .i64 k ∧ Hid (∀ i, i < k → fileOk x.files i = true) ∧ WB wr w.heap.size #[.string x.name, .int .i64 x.version, .slice q_a1 x.files.length q_c1, .bool x.shared] ∧ Below w.heap.size w wr) (fun i _ => x.files.length - (intOf i).toNat)
  case atStart => exact ⟨0, by omega, rfl, Lib.hid (by intro i hi; omega), WB.at rfl, (by repeat (first | with_reducible exact belR | with_reducible apply belA | (with_reducible refine belS ?_ ?_; focus (first | omega | (simp; done) | (simp; omega))) | with_reducible apply belN | with_reducible apply belD | with_reducible assumption))⟩
  case round =>
    obtain ⟨k, hk, rfl, HA, hx, hb⟩ := hrel
    have HB := Lib.hid hb; clear hb
    have HX := Lib.hid hx
    clear hx
    have ⟨c_HX, z_HX, f_HX⟩ := HX.out
    by_cases hlt : k < x.files.length
    · have eo := Lib.hid (fileOk_at hlt)
      have hlt' : k - 1 < x.files.length := by omega
      obtain ⟨b, off, cs_b, rfl, hw_b, hr_b, hcell_b⟩ := slice_at (q_K1.out.below HB.out) k hlt
      obtain ⟨fe_b, hrd_b⟩ := hr_b
      obtain ⟨rfl, _, b_s0⟩ := hrd_b
      have b_c0 : wr.cell? ⟨b, off + k, none⟩ = some (.string x.files[k]) := by have h := hcell_b 0 (by decide); rwa [show off + k * Rep.str.n + 0 = off + k from by show off + k * 1 + 0 = off + k; omega] at h
      clear hcell_b
      obtain ⟨cs2, _, ⟨_, hrd2⟩, hcell2⟩ := slice_at' (q_K1.out.below HB.out) (k - 1) hlt'
      obtain ⟨rfl, _, _⟩ := hrd2
      have c_c0 : wr.cell? ⟨b, off + (k - 1), none⟩ = some (.string x.files[k - 1]) := by have h := hcell2 0 (by decide); rwa [show off + (k - 1) * Rep.str.n + 0 = off + (k - 1) from by show off + (k - 1) * 1 + 0 = off + (k - 1); omega] at h
      clear hcell2
      have j1 : (0 : Int) ≤ (k : Int) := by omega
      have j3 : (k : Int) < (x.files.length : Int) := by omega
      cases n1 : isWordF x.files[k] 8 false
      case' true => cases n3 : decide (0 < k)
      case' true.true => cases n4 : fileBad x.files k
      all_goals
        first | (have hk0 := of_decide_eq_true n3; have hw : IntKind.i64.wrap ((k : Int) - 1) = ((k - 1 : Nat) : Int) := by rw [Go.IntWalk.i64_in _ (by omega)]; omega) | (have hw : True := trivial)
        have j4 : (0 : Int) ≤ ((k - 1 : Nat) : Int) := by omega
        have j5 : ((k - 1 : Nat) : Int) < (x.files.length : Int) := by omega
        first | (have n5 := (bl_total _ _).trans ((fileBad_at hlt).symm.trans n4)) | (have n5 : True := trivial)
        go_wp2_with (go_at_call 33; refine (implIsName _ b_s0 _).mono ?_; rintro e w' ⟨rfl, rfl⟩)
      all_goals
        first
          | (go_ret
             refine ⟨ret_bool (site_no hlt ?_).symm, HB.out⟩
             rw [eo.out]
             first
               | (rw [n1]; rfl)
               | (rw [n1, n3, n4]; rfl))
          | (have HK : Hid (fileOk x.files k = true) := Lib.hid (by
               rw [eo.out]
               first
                 | (rw [n1, n3, n4]; rfl)
                 | (rw [n1, n3]; rfl))
             go_light
             exact ⟨⟨k + 1, by omega, by go_num, Lib.hid (all_snoc HA.out HK.out), HX.out, HB.out⟩, by simp [intOf]; omega⟩)
    · have he := Lib.hid (site_yes hlt HA.out)
      cases n1 : isWordF x.name 8 false
      case' true => cases n2 : within x.version 1 1000000000000
      case' true.true => cases n3 : within (x.files.length : Int) 1 6
      all_goals
        go_wp2_with (first | (go_at_call 33; refine (implIsName _ q_s0 _).mono ?_; rintro e w' ⟨rfl, rfl⟩) | (go_at_call 29; refine (implInRange _ _ _ _).mono ?_; rintro e w' ⟨rfl, rfl⟩))
        go_ret
        refine ⟨ret_bool ?_, HB.out⟩
        rw [he.out]
        simp [n1]
        try simp [*]

def servesF (x : DSite) (v : Int) : Bool := isSiteF x && (decide (x.version - 2 < v) && (decide (v ≤ x.version) && decide (1 ≤ v)))
theorem site_version {x : DSite} (h : isSiteF x = true) : 1 ≤ x.version ∧ x.version ≤ 1000000000000 := by
  unfold isSiteF within at h
  simp only [Bool.and_eq_true, decide_eq_true_eq] at h
  omega
theorem serves_version {x : DSite} {v : Int} (h : servesF x v = true) : 1 ≤ v ∧ v ≤ 1000000000000 ∧ isSiteF x = true := by
  unfold servesF at h
  rw [Bool.and_eq_true] at h
  have := site_version h.1
  simp only [Bool.and_eq_true, decide_eq_true_eq] at h
  exact ⟨h.2.2.2, by omega, h.1⟩

set_option maxRecDepth 100000 in
set_option maxHeartbeats 1600000 in
theorem implServesVersion (cs : List Value) (x : DSite) (v : Int) (w : World) (h : Reads DSite.rep w cs x) :
    Calls Try.prog 74 #[.agg cs.toArray, .int .i64 v] w fun e w' => e = .returned (.bool (servesF x v)) ∧ Below w.heap.size w w' := by
  have HR := Lib.hid h
  obtain ⟨fp_q, h⟩ := h
  obtain ⟨q_v1, q_f1, rfl, _, q_s0, q_r1⟩ := DSite.rd.1 h
  obtain ⟨q_a1, q_c1, rfl, q_hm1, q_lc1, q_hu1⟩ := slice_open q_r1; clear q_hu1
  have q_K1 : Hid (Reads (Rep.slice 9 Rep.str) w [.slice q_a1 x.files.length q_c1] x.files) := ⟨_, q_r1⟩
  clear q_r1 h
  cases hB : isSiteF x
  · have HE : Hid (servesF x v = false) := Lib.hid (by unfold servesF; rw [hB]; rfl)
    go_enter Try.func74, Try.ntmps74
    go_wp2_with fail
    refine (implIsSite _ x _ (HR.out.below (by repeat (first | with_reducible exact belR | with_reducible apply belA | (with_reducible refine belS ?_ ?_; focus (first | omega | (simp; done) | (simp; omega))) | with_reducible apply belN | with_reducible apply belD | with_reducible assumption)))).mono ?_
    rw [hB]
    rintro e w1 ⟨rfl, hb⟩
    have HX : Hid (WB w1 w.heap.size #[.string x.name, .int .i64 x.version, .slice q_a1 x.files.length q_c1, .bool x.shared]) := Lib.hid ((WB.at rfl).keep hb)
    have HB : Hid (Below w.heap.size w w1) := Lib.hid (below_call (by repeat (first | with_reducible exact belR | with_reducible apply belA | (with_reducible refine belS ?_ ?_; focus (first | omega | (simp; done) | (simp; omega))) | with_reducible apply belN | with_reducible apply belD | with_reducible assumption)) (by first | omega | (simp; done) | (simp; omega)) hb)
    clear hb
    have ⟨c_HX, z_HX, f_HX⟩ := HX.out
    go_wp2
    go_ret
    exact ⟨ret_bool HE.out.symm, HB.out⟩
  · have hv := site_version hB
    have HE : Hid (servesF x v = (decide (x.version - 2 < v) && (decide (v ≤ x.version) && decide (1 ≤ v)))) := Lib.hid (by unfold servesF; rw [hB, Bool.true_and])
    have hw : wrap64 (x.version - 2) = x.version - 2 := Go.IntWalk.wrap64_in _ (by omega)
    go_enter Try.func74, Try.ntmps74
    go_wp2_with fail
    refine (implIsSite _ x _ (HR.out.below (by repeat (first | with_reducible exact belR | with_reducible apply belA | (with_reducible refine belS ?_ ?_; focus (first | omega | (simp; done) | (simp; omega))) | with_reducible apply belN | with_reducible apply belD | with_reducible assumption)))).mono ?_
    rw [hB]
    rintro e w1 ⟨rfl, hb⟩
    have HX : Hid (WB w1 w.heap.size #[.string x.name, .int .i64 x.version, .slice q_a1 x.files.length q_c1, .bool x.shared]) := Lib.hid ((WB.at rfl).keep hb)
    have HB : Hid (Below w.heap.size w w1) := Lib.hid (below_call (by repeat (first | with_reducible exact belR | with_reducible apply belA | (with_reducible refine belS ?_ ?_; focus (first | omega | (simp; done) | (simp; omega))) | with_reducible apply belN | with_reducible apply belD | with_reducible assumption)) (by first | omega | (simp; done) | (simp; omega)) hb)
    clear hb
    have ⟨c_HX, z_HX, f_HX⟩ := HX.out
    by_cases n1 : x.version - 2 < v
    · have D1 := Lib.hid (decide_eq_true n1)
      by_cases n2 : v ≤ x.version
      · have D2 := Lib.hid (decide_eq_true n2)
        by_cases n3 : 1 ≤ v
        · have D3 := Lib.hid (decide_eq_true n3)
          go_wp2
          go_ret
          exact ⟨ret_bool (by rw [HE.out, D1.out, D2.out, D3.out]; simp; try omega), HB.out⟩
        · have D3 := Lib.hid (decide_eq_false n3)
          go_wp2
          go_ret
          exact ⟨ret_bool (by rw [HE.out, D1.out, D2.out, D3.out]; simp; try omega), HB.out⟩
      · have D2 := Lib.hid (decide_eq_false n2)
        go_wp2
        go_ret
        exact ⟨ret_bool (by rw [HE.out, D1.out, D2.out]; simp; try omega), HB.out⟩
    · have D1 := Lib.hid (decide_eq_false n1)
      go_wp2
      go_ret
      exact ⟨ret_bool (by rw [HE.out, D1.out]; simp; try omega), HB.out⟩

theorem specIsSiteAs (b : Bool) (cs : List Value) (x : DSite) (hb : isSiteF x = b) (w : World) (h : Reads DSite.rep w cs x) :
    Calls Try.prog 78 #[.agg cs.toArray] w fun e w' => e = .returned (.bool b) ∧ Below w.heap.size w w' := by
  subst hb
  exact specIsSite cs x w h
theorem serve_eq {x : DSite} {v : Int} (h : 1 ≤ x.version ∧ x.version ≤ 1000000000000) : within v (if 1 < x.version - 1 then x.version - 1 else 1) x.version = (decide (x.version - 2 < v) && (decide (v ≤ x.version) && decide (1 ≤ v))) := by
  unfold within
  by_cases n1 : x.version - 2 < v <;> by_cases n2 : v ≤ x.version <;> by_cases n3 : 1 ≤ v <;> simp only [n1, n2, n3, decide_true, decide_false, Bool.and_true, Bool.and_false, Bool.and_self] <;> (first | rfl | (split <;> simp <;> omega))

set_option maxRecDepth 100000 in
set_option maxHeartbeats 1600000 in
theorem specServesVersion (cs : List Value) (x : DSite) (v : Int) (w : World) (h : Reads DSite.rep w cs x) :
    Calls Try.prog 65 #[.agg cs.toArray, .int .i64 v] w fun e w' => e = .returned (.bool (servesF x v)) ∧ Below w.heap.size w w' := by
  have HR := Lib.hid h
  obtain ⟨fp_q, h⟩ := h
  obtain ⟨q_v1, q_f1, rfl, _, q_s0, q_r1⟩ := DSite.rd.1 h
  obtain ⟨q_a1, q_c1, rfl, q_hm1, q_lc1, q_hu1⟩ := slice_open q_r1; clear q_hu1
  have q_K1 : Hid (Reads (Rep.slice 9 Rep.str) w [.slice q_a1 x.files.length q_c1] x.files) := ⟨_, q_r1⟩
  clear q_r1 h
  have HL : Hid (isSiteF x = true → 1 ≤ x.version ∧ x.version ≤ 1000000000000) := Lib.hid site_version
  have HV : Hid (isSiteF x = true → servesF x v = within v (if 1 < x.version - 1 then x.version - 1 else 1) x.version) := Lib.hid (fun hB => by rw [← Bool.true_and (within _ _ _), serve_eq (site_version hB)]; unfold servesF; rw [hB])
  have HN : Hid (isSiteF x = false → servesF x v = false) := Lib.hid (fun hB => by unfold servesF; rw [hB]; rfl)
  go_enter Try.func65, Try.ntmps65
  go_upto_region 1 with fail
  refine settle (fun W => WB W w.heap.size #[.string x.name, .int .i64 x.version, .slice q_a1 x.files.length q_c1, .bool x.shared] ∧ Below w.heap.size w W) ⟨WB.at rfl, (by repeat (first | with_reducible exact belR | with_reducible apply belA | (with_reducible refine belS ?_ ?_; focus (first | omega | (simp; done) | (simp; omega))) | with_reducible apply belN | with_reducible apply belD | with_reducible assumption))⟩ ?_
  rintro w0 ⟨hx, hb0⟩
  have K0 := rg_var hx
  have HQ : Hid (∀ q, Below w0.heap.size w0 (rg w0 q)) := Lib.hid (rg_below w0)
  have HH := Lib.hid (HR.out.below hb0)
  cases hB : isSiteF x
  · refine wp_region_rg (by kernel_rfl) (by kernel_rfl) ?_
    repeat (go_big_quiet_step ((first | (go_at_call 78; exact calls_rg (specIsSiteAs false _ x hB _ (HH.out.below (HQ.out _)))) | (go_at_call 87; exact calls_rgSame (specMax _ _ _)) | (go_at_call 55; exact calls_rgSame (specIn _ _ _ _)))))
    refine wpQuiet_nil ?_
    rintro _ ⟨pq, rfl⟩
    have HB1 := Lib.hid (hb0.trans ((rg_below w0 pq).mono hb0.size))
    have HE := Lib.hid (HN.out hB)
    go_wp2
    go_ret
    exact ⟨ret_bool HE.out.symm, HB1.out⟩
  · have hv := HL.out hB
    have hw : IntKind.i64.wrap (x.version - 2) = x.version - 2 := Go.IntWalk.i64_in _ (by omega)
    have hw2 : IntKind.i64.wrap (x.version - 2 + 1) = x.version - 1 := (Go.IntWalk.i64_in _ (by omega)).trans (by omega)
    refine wp_region_rg (by kernel_rfl) (by kernel_rfl) ?_
    repeat (go_big_quiet_step ((first | (go_at_call 78; exact calls_rg (specIsSiteAs true _ x hB _ (HH.out.below (HQ.out _)))) | (go_at_call 87; exact calls_rgSame (specMax _ _ _)) | (go_at_call 55; exact calls_rgSame (specIn _ _ _ _)))))
    refine wpQuiet_nil ?_
    rintro _ ⟨pq, rfl⟩
    have HB1 := Lib.hid (hb0.trans ((rg_below w0 pq).mono hb0.size))
    have HE := Lib.hid (HV.out hB)
    go_wp2
    all_goals
      go_ret
      exact ⟨ret_bool (by rw [HE.out]; first | rfl | (rw [if_pos (by assumption)]) | (rw [if_neg (by omega)])), HB1.out⟩

def hasFileF (x : DSite) (path : ByteArray) : Bool := x.files.any (strIs path)

set_option maxRecDepth 100000 in
set_option maxHeartbeats 800000 in
theorem indexString (v : Value) (s : ByteArray) (l : List ByteArray) (w : World) (h : Reads (Rep.slice 9 Rep.str) w [v] l) :
    Calls Try.prog 103 #[v, .string s] w fun e w' => e = .returned (.int .i64 (idxF (strIs s) l)) ∧ Below w.heap.size w w' := by
  obtain ⟨fp, h⟩ := h
  obtain ⟨ao, c1, rfl, hm, _, hu⟩ := slice_open h
  have HK : Hid (Reads (Rep.slice 9 Rep.str) w [.slice ao l.length c1] l) := ⟨_, h⟩
  clear h hu
  go_enter Try.func103, Try.ntmps103
  go_wp2
  go_loopw [8] (fun i wr => ∃ k : Nat, k ≤ l.length ∧ i = .int .i64 k ∧ Hid (∀ j, (hj : j < l.length) → j < k → strIs s l[j] = false) ∧ Below w.heap.size w wr) (fun i _ => l.length - (intOf i).toNat)
  case atStart => exact ⟨0, by omega, rfl, Lib.hid (by intro j hj h; omega), (by repeat (first | with_reducible exact belR | with_reducible apply belA | (with_reducible refine belS ?_ ?_; focus (first | omega | (simp; done) | (simp; omega))) | with_reducible apply belN | with_reducible apply belD | with_reducible assumption))⟩
  case round =>
    obtain ⟨k, hk, rfl, HA, hb⟩ := hrel
    have HB := Lib.hid hb; clear hb
    by_cases hlt : k < l.length
    · obtain ⟨b, off, cs_b, rfl, hw_b, hr_b, hcell_b⟩ := slice_at (HK.out.below HB.out) k hlt
      obtain ⟨fe_b, hrd_b⟩ := hr_b
      obtain ⟨rfl, _, b_s0⟩ := hrd_b
      have b_c0 : wr.cell? ⟨b, off + k, none⟩ = some (.string l[k]) := by have h := hcell_b 0 (by decide); rwa [show off + k * Rep.str.n + 0 = off + k from by show off + k * 1 + 0 = off + k; omega] at h
      clear hcell_b
      cases hq : (l[k].toList == s.toList) with
      | true =>
        have e := Lib.hid (idxF_hit (p := strIs s) hlt hq HA.out)
        have hq2 : (s.toList == l[k].toList) = true := by rw [beq_iff_eq] at hq ⊢; exact hq.symm
        clear hq
        go_wp2
        go_ret
        have y := HB.out
        exact ⟨ret_int e.out.symm, (by repeat (first | with_reducible exact belR | with_reducible apply belA | (with_reducible refine belS ?_ ?_; focus (first | omega | (simp; done) | (simp; omega))) | with_reducible apply belN | with_reducible apply belD | with_reducible assumption))⟩
      | false =>
        have e := Lib.hid (none_snoc (p := strIs s) hlt HA.out hq)
        have hq2 : (s.toList == l[k].toList) = false := by rw [beq_eq_false_iff_ne] at hq ⊢; exact fun h => hq h.symm
        clear hq
        go_wp2
        go_light
        have y := HB.out
        exact ⟨⟨k + 1, by omega, by go_num, e, (by repeat (first | with_reducible exact belR | with_reducible apply belA | (with_reducible refine belS ?_ ?_; focus (first | omega | (simp; done) | (simp; omega))) | with_reducible apply belN | with_reducible apply belD | with_reducible assumption))⟩, by simp [intOf]; omega⟩
    · have e := Lib.hid (idxF_miss (p := strIs s) (l := l) (fun j hj => HA.out j hj (by omega)))
      go_wp2
      go_ret
      exact ⟨ret_int e.out.symm, HB.out⟩

set_option maxHeartbeats 800000 in
theorem containsString (v : Value) (s : ByteArray) (l : List ByteArray) (w : World) (h : Reads (Rep.slice 9 Rep.str) w [v] l) :
    Calls Try.prog 95 #[v, .string s] w fun e w' => e = .returned (.bool (l.any (strIs s))) ∧ Below w.heap.size w w' := by
  have HI := Lib.hid (indexString v s l w h)
  have he := Lib.hid (any_idxF (strIs s) l)
  clear h
  go_enter Try.func95, Try.ntmps95
  go_wp2_with fail
  refine HI.out.mono ?_
  rintro e w1 ⟨rfl, hb⟩
  go_wp2
  go_ret
  exact ⟨ret_bool he.out, hb⟩

theorem implHasFile (cs : List Value) (x : DSite) (path : ByteArray) (w : World) (h : Reads DSite.rep w cs x) :
    Calls Try.prog 75 #[.agg cs.toArray, .string path] w fun e w' => e = .returned (.bool (hasFileF x path)) ∧ Below w.heap.size w w' := by
  obtain ⟨fp_q, h⟩ := h
  obtain ⟨q_v1, q_f1, rfl, _, q_s0, q_r1⟩ := DSite.rd.1 h
  obtain ⟨q_a1, q_c1, rfl, q_hm1, q_lc1, q_hu1⟩ := slice_open q_r1; clear q_hu1
  have q_K1 : Hid (Reads (Rep.slice 9 Rep.str) w [.slice q_a1 x.files.length q_c1] x.files) := ⟨_, q_r1⟩
  clear q_r1 h
  go_enter Try.func75, Try.ntmps75
  go_wp2_with fail
  refine (containsString _ path x.files _ (q_K1.out.below (by repeat (first | with_reducible exact belR | with_reducible apply belA | (with_reducible refine belS ?_ ?_; focus (first | omega | (simp; done) | (simp; omega))) | with_reducible apply belN | with_reducible apply belD | with_reducible assumption)))).mono ?_
  rintro e w1 ⟨rfl, hb⟩
  have HB : Hid (Below w.heap.size w w1) := Lib.hid (below_call (by repeat (first | with_reducible exact belR | with_reducible apply belA | (with_reducible refine belS ?_ ?_; focus (first | omega | (simp; done) | (simp; omega))) | with_reducible apply belN | with_reducible apply belD | with_reducible assumption)) (by first | omega | (simp; done) | (simp; omega)) hb)
  clear hb
  go_wp2
  go_ret
  exact ⟨rfl, HB.out⟩

theorem any_no {l : List ByteArray} {s : ByteArray} (h : ∀ j, (hj : j < l.length) → strIs s l[j] = false) : l.any (strIs s) = false :=
  List.any_eq_false.2 fun x hx => by
    obtain ⟨j, hj, rfl⟩ := List.getElem_of_mem hx
    rw [h j hj]; simp

set_option maxRecDepth 100000 in
set_option maxHeartbeats 1600000 in
theorem specHasFile (cs : List Value) (x : DSite) (path : ByteArray) (w : World) (h : Reads DSite.rep w cs x) :
    Calls Try.prog 79 #[.agg cs.toArray, .string path] w fun e w' => e = .returned (.bool (hasFileF x path)) ∧ Below w.heap.size w w' := by
  obtain ⟨fp_q, h⟩ := h
  obtain ⟨q_v1, q_f1, rfl, _, q_s0, q_r1⟩ := DSite.rd.1 h
  obtain ⟨q_a1, q_c1, rfl, q_hm1, q_lc1, q_hu1⟩ := slice_open q_r1; clear q_hu1
  have q_K1 : Hid (Reads (Rep.slice 9 Rep.str) w [.slice q_a1 x.files.length q_c1] x.files) := ⟨_, q_r1⟩
  clear q_r1 h
  go_enter Try.func79, Try.ntmps79
  go_wp2
  go_loopw [5] (fun i wr => ∃ k : Nat, k ≤ x.files.length ∧ i = .int .i64 k ∧ Hid (∀ j, (hj : j < x.files.length) → j < k → strIs path x.files[j] = false) ∧ WB wr w.heap.size #[.string x.name, .int .i64 x.version, .slice q_a1 x.files.length q_c1, .bool x.shared] ∧ Below w.heap.size w wr) (fun i _ => x.files.length - (intOf i).toNat)
  case atStart => exact ⟨0, by omega, rfl, Lib.hid (by intro j hj h; omega), WB.at rfl, (by repeat (first | with_reducible exact belR | with_reducible apply belA | (with_reducible refine belS ?_ ?_; focus (first | omega | (simp; done) | (simp; omega))) | with_reducible apply belN | with_reducible apply belD | with_reducible assumption))⟩
  case round =>
    obtain ⟨k, hk, rfl, HA, hx, hb⟩ := hrel
    have HB := Lib.hid hb
    have HX := Lib.hid hx
    clear hb hx
    have ⟨c_HX, z_HX, f_HX⟩ := HX.out
    by_cases hlt : k < x.files.length
    · obtain ⟨b, off, cs_b, rfl, hw_b, hr_b, hcell_b⟩ := slice_at (q_K1.out.below HB.out) k hlt
      obtain ⟨fe_b, hrd_b⟩ := hr_b
      obtain ⟨rfl, _, b_s0⟩ := hrd_b
      have b_c0 : wr.cell? ⟨b, off + k, none⟩ = some (.string x.files[k]) := by have h := hcell_b 0 (by decide); rwa [show off + k * Rep.str.n + 0 = off + k from by show off + k * 1 + 0 = off + k; omega] at h
      clear hcell_b
      have j1 : (0 : Int) ≤ (k : Int) := by omega
      have j3 : (k : Int) < (x.files.length : Int) := by omega
      cases hq : (x.files[k].toList == path.toList)
      · have HE := Lib.hid (none_snoc (p := strIs path) hlt HA.out hq)
        go_wp2
        go_light
        have y := HB.out
        exact ⟨⟨k + 1, by omega, by go_num, HE, HX.out, (by repeat (first | with_reducible exact belR | with_reducible apply belA | (with_reducible refine belS ?_ ?_; focus (first | omega | (simp; done) | (simp; omega))) | with_reducible apply belN | with_reducible apply belD | with_reducible assumption))⟩, by simp [intOf]; omega⟩
      · have HE : Hid (hasFileF x path = true) := Lib.hid (List.any_eq_true.2 ⟨x.files[k], List.getElem_mem hlt, hq⟩)
        go_wp2
        go_ret
        have y := HB.out
        exact ⟨ret_bool HE.out.symm, (by repeat (first | with_reducible exact belR | with_reducible apply belA | (with_reducible refine belS ?_ ?_; focus (first | omega | (simp; done) | (simp; omega))) | with_reducible apply belN | with_reducible apply belD | with_reducible assumption))⟩
    · have HE : Hid (hasFileF x path = false) := Lib.hid (any_no (fun j hj => HA.out j hj (by omega)))
      go_wp2
      go_ret
      exact ⟨ret_bool HE.out.symm, HB.out⟩

end Go.Proofs.Yteajhmpppciicaa
