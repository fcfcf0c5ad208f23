/-
  OpenPush.
-/
import Derived.Test.YtmknfobkfimggaaSealPush
namespace Go.Proofs.Ytmknfobkfimggaa
open Go.RowKit

def openPushB (s : DSubscription) (p : DPush) : Bool := isSubscriptionF s && ((p.site.toList == s.site.toList) && (decide (s.last < p.number) && (decide (p.number ≤ 1000000) && (decide (p.data.length ≤ 40) && !(p.mac != pushMACF s p)))))
def opened (s : DSubscription) (p : DPush) : DSubscription := ⟨s.site, s.secret, p.number⟩
def openPushF (s : DSubscription) (p : DPush) : DSubscription := if openPushB s p then opened s p else s
def openPushD (s : DSubscription) (p : DPush) : List UInt8 := if openPushB s p then decryptF (pushKeyF s p.number) p.data else []
theorem pushKey_opened (s : DSubscription) (p : DPush) (n : Int) : pushKeyF (opened s p) n = pushKeyF s n := rfl
theorem fresh_sub {B : Nat} {w : World} {x : DSubscription} (h : x.site.size ≤ maxLen) : Fresh DSubscription.rep B w [.string x.site, .int .i64 x.secret, .int .i64 x.last] x := ⟨[], DSubscription.rd.2 ⟨rfl, rfl, h⟩, by simp, by simp⟩

set_option maxRecDepth 100000 in
set_option maxHeartbeats 8000000 in
theorem implOpenPush (cs ds : List Value) (s : DSubscription) (p : DPush) (w : World) (h : Reads DSubscription.rep w cs s) (h' : Reads DPush.rep w ds p) (hs1 : p.site.size ≤ 4000000) (hs2 : p.data.length ≤ 4000000) :
    Calls Try.prog 10 #[.agg cs.toArray, .agg ds.toArray] w fun e w' => ∃ d0 d1, e = .returned (.tuple #[.agg d0.toArray, d1, .bool (openPushB s p)]) ∧ Fresh DSubscription.rep w.heap.size w' d0 (openPushF s p) ∧ Fresh (Rep.slice 5 Rep.byte) w.heap.size w' [d1] (openPushD s p) ∧ Below w.heap.size w w' := by
  have HH := Lib.hid h
  have HP := Lib.hid h'
  obtain ⟨fp, h⟩ := h
  obtain ⟨rfl, _, s0⟩ := DSubscription.rd.1 h
  clear h
  obtain ⟨fp_r, h'⟩ := h'
  obtain ⟨r_v1, r_f1, rfl, _, r_s0, r_r1⟩ := DPush.rd.1 h'
  obtain ⟨r_a1, r_c1, rfl, r_hm1, r_lc1, r_hu1⟩ := slice_open r_r1; clear r_hu1
  have r_K1 : Hid (Reads (Rep.slice 5 Rep.byte) w [.slice r_a1 p.data.length r_c1] p.data) := ⟨_, r_r1⟩
  clear r_r1 h'
  go_enter Try.func10, Try.ntmps10
  go_wp2_with fail
  refine settle (fun W => WB W w.heap.size #[.string s.site, .int .i64 s.secret, .int .i64 s.last] ∧ WB W (w.heap.size + 1) #[.string p.site, .int .i64 p.number, .slice r_a1 p.data.length r_c1, .int .i64 p.mac] ∧ WB W (w.heap.size + 2) #[.string ⟨#[]⟩, .int .i64 0, .int .i64 0] ∧ Below w.heap.size w W ∧ w.heap.size + 3 ≤ W.heap.size) ⟨(WB.at rfl).growA.growA, (WB.at (by simp)).growA, WB.at (by simp), (by repeat (first | with_reducible exact belR | with_reducible apply belA | (with_reducible refine belS ?_ ?_; focus (first | omega | (simp; done) | (simp; omega))) | with_reducible apply belN | with_reducible apply belD | with_reducible assumption)), by simp⟩ ?_
  rintro w0 ⟨hx, hy, hr, hb, hz⟩
  have HX := Lib.hid hx
  have HY := Lib.hid hy
  have HR := Lib.hid hr
  have HB := Lib.hid hb
  clear hx hy hr hb
  have KX := rg_var HX.out
  have KY := rg_var HY.out
  have HQ : Hid (∀ q, Below w.heap.size w (rg w0 q)) := Lib.hid fun q => HB.out.trans ((rg_below w0 q).mono HB.out.size)
  cases g1 : isSubscriptionF s
  case' true => cases g2 : (p.site.toList == s.site.toList)
  case' true.true => cases g3 : decide (p.number ≤ s.last)
  case' true.true.false => cases g4 : decide (1000000 < p.number)
  case' true.true.false.false => cases g5 : decide ((40 : Int) < (p.data.length : Int))
  case' true.true.false.false.false => cases g6 : (p.mac != pushMACF s p)
  all_goals
    refine wp_region_rg (by kernel_rfl) (by kernel_rfl) ?_
    repeat (go_big_quiet_step ((first | (go_at_call 43; exact calls_rg (implIsSubscription _ s _ (HH.out.below (HQ.out _)))) | (go_at_call 47; exact calls_rg (implPushMAC _ _ s p _ (HH.out.below (HQ.out _)) (HP.out.below (HQ.out _)) hs1 hs2)))))
    refine wpQuiet_nil ?_
    rintro _ ⟨pq, rfl⟩
    clear KX KY
    have hq := rg_below w0 pq
    generalize rg w0 pq = w1 at *
    have hz1 := hq.size
    replace HX := Lib.hid (HX.out.keep hq)
    replace HY := Lib.hid (HY.out.keep hq)
    replace HR := Lib.hid (HR.out.keep hq)
    replace HB := Lib.hid (HB.out.trans (hq.mono HB.out.size))
    clear hq HQ
    have ⟨c_HX, z_HX, f_HX⟩ := HX.out
    have ⟨c_HY, z_HY, f_HY⟩ := HY.out
    have ⟨c_HR, z_HR, f_HR⟩ := HR.out
  case true.true.false.false.false.false =>
    have hB : Hid (openPushB s p = true) := Lib.hid (by
      have k3 := of_decide_eq_false g3
      have k4 := of_decide_eq_false g4
      have k5 := of_decide_eq_false g5
      rw [openPushB, g1, g2, g6, decide_eq_true (show s.last < p.number by omega), decide_eq_true (show p.number ≤ 1000000 by omega), decide_eq_true (show p.data.length ≤ 40 by omega)]; rfl)
    have hn : p.number ≤ 1000000 := by have k4 := of_decide_eq_false g4; omega
    have hR5 : Hid (∀ W, Reads DSubscription.rep W [.string s.site, .int .i64 s.secret, .int .i64 p.number] (opened s p)) := Lib.hid fun W => ⟨[], DSubscription.rd.2 ⟨rfl, rfl, s0⟩⟩
    clear g1 g2 g3 g4 g5 g6
    go_wp2_with fail
    refine settle (fun W => WB W w.heap.size #[.string s.site, .int .i64 s.secret, .int .i64 p.number] ∧ WB W (w.heap.size + 1) #[.string p.site, .int .i64 p.number, .slice r_a1 p.data.length r_c1, .int .i64 p.mac] ∧ WB W (w.heap.size + 2) #[.string ⟨#[]⟩, .int .i64 0, .int .i64 0] ∧ Below w.heap.size w W) ⟨HX.out.setAt (by simp) rfl, HY.out.setOther (by omega), HR.out.setOther (by omega), by have y := HB.out; exact (by repeat (first | with_reducible exact belR | (with_reducible refine belAB ?_ ?_; focus (first | omega | (simp; done) | (simp; omega))) | (with_reducible refine belS ?_ ?_; focus (first | omega | (simp; done) | (simp; omega))) | with_reducible apply belN | with_reducible apply belD | with_reducible assumption))⟩ ?_
    clear c_HX z_HX f_HX c_HY z_HY f_HY c_HR z_HR f_HR
    clear HX HY HR HB
    rintro w2 ⟨hx, hy, hr, hb⟩
    have HX := Lib.hid hx
    have HY := Lib.hid hy
    have HR := Lib.hid hr
    have HB := Lib.hid hb
    clear hx hy hr hb
    have hz2 := HB.out.size
    have HS : Hid (∀ w', Chg [w.heap.size + 2] w2 w' → (∀ o, w'.cell? ⟨w.heap.size, o, none⟩ = #[.string s.site, .int .i64 s.secret, .int .i64 p.number][o]?) ∧ (∀ o, w'.cell? ⟨w.heap.size + 1, o, none⟩ = #[.string p.site, .int .i64 p.number, .slice r_a1 p.data.length r_c1, .int .i64 p.mac][o]?) ∧ Chg [w.heap.size + 2] w2 w') := Lib.hid fun w' hw' => ⟨(HX.out.chg hw' (by simp)).cell, (HY.out.chg hw' (by simp)).cell, hw'⟩
    have ⟨c_HR, z_HR, f_HR⟩ := HR.out
    go_region_held3 (fun w' => (∀ o, w'.cell? ⟨w.heap.size, o, none⟩ = #[.string s.site, .int .i64 s.secret, .int .i64 p.number][o]?) ∧ (∀ o, w'.cell? ⟨w.heap.size + 1, o, none⟩ = #[.string p.site, .int .i64 p.number, .slice r_a1 p.data.length r_c1, .int .i64 p.mac][o]?) ∧ Chg [w.heap.size + 2] w2 w')
      (first | exact HS.out _ (chgD Chg.refl) | exact HS.out _ (chgD (Chg.set (by simp) (Chg.set (by simp) (Chg.set (by simp) Chg.refl)))) | exact HS.out _ hc4 | exact HS.out _ (Chg.set (by simp) (Chg.set (by simp) (Chg.set (by simp) hc4))) | exact HS.out _ hc3 | exact HS.out _ (Chg.set (by simp) (Chg.set (by simp) (Chg.set (by simp) hc3))))
      (first
        | (go_at_call 46; refine (implPushKey _ (opened s p) p.number _ (hR5.out _)).mono ?_; rintro e w3 ⟨rfl, hb3⟩; (first | (have hc3 : Chg [w.heap.size + 2] w2 w3 := (chgD Chg.refl).trans (Chg.of_below hb3 (Nat.le_refl _)); have hw3 := HR.out.growD.keep hb3) | (have hc3 : Chg [w.heap.size + 2] w2 w3 := (chgD (Chg.set (by simp) (Chg.set (by simp) (Chg.set (by simp) Chg.refl)))).trans (Chg.of_below hb3 (Nat.le_refl _)); have hw3 := HR.out.set3.growD.keep hb3)); have ⟨e3, l3, f3⟩ := hw3; have hb3' : Below w.heap.size w w3 := HB.out.trans (hc3.below (by simp) HB.out.size))
        | (go_at_call 48; refine (implDecrypt _ _ p.data _ (r_K1.out.below (by have y := hb3'; exact (by repeat (first | with_reducible exact belR | (with_reducible refine belAB ?_ ?_; focus (first | omega | (simp; done) | (simp; omega))) | (with_reducible refine belS ?_ ?_; focus (first | omega | (simp; done) | (simp; omega))) | with_reducible apply belN | with_reducible apply belD | with_reducible assumption)))) (Nat.le_trans hs2 (by decide))).mono ?_; rintro e w4 ⟨v', rfl, hf4, hb4⟩; obtain ⟨ao, cap, rfl⟩ := hf4.slice; rw [decryptF_len] at *; (first | (have hc4 : Chg [w.heap.size + 2] w2 w4 := hc3.trans (Chg.of_below hb4 (Nat.le_refl _)); have hw4 := hw3.keep hb4) | (have hc4 : Chg [w.heap.size + 2] w2 w4 := (Chg.set (by simp) (Chg.set (by simp) (Chg.set (by simp) hc3))).trans (Chg.of_below hb4 (Nat.le_refl _)); have hw4 := hw3.set3.keep hb4)); have ⟨e4, l4, f4⟩ := hw4; have hb4' : Below w.heap.size w w4 := HB.out.trans (hc4.below (by simp) HB.out.size)))
    have HF4 := Lib.hid hf4
    have HB4 := Lib.hid hb4'
    clear hf4 hb4'
    go_wp2
    refine bodyPost_ret (v := .tuple #[.agg #[.string s.site, .int .i64 s.secret, .int .i64 p.number], .slice ao p.data.length cap, .bool true]) (by simp [results, Try.results10, go_sem, e4]) rfl ⟨_, _, by rw [hB.out], ?_, ?_, ?_⟩
    · rw [openPushF, hB.out]
      exact fresh_sub (x := opened s p) s0
    · rw [openPushD, hB.out]
      exact (Fresh.mono (B := w3.heap.size) (by repeat (first | exact HF4.out | refine Fresh.setLow ?_ (by omega) | refine Fresh.drew ?_)) (by omega))
    · have y := HB4.out
      exact (by repeat (first | with_reducible exact belR | (with_reducible refine belAB ?_ ?_; focus (first | omega | (simp; done) | (simp; omega))) | (with_reducible refine belS ?_ ?_; focus (first | omega | (simp; done) | (simp; omega))) | with_reducible apply belN | with_reducible apply belD | with_reducible assumption))
  all_goals
    have hB : Hid (openPushB s p = false) := Lib.hid (by
      rw [openPushB]
      first
        | (rw [g1]; rfl)
        | (rw [g1, g2]; rfl)
        | (have k3 := of_decide_eq_true g3; rw [g1, g2, decide_eq_false (show ¬ s.last < p.number by omega)]; rfl)
        | (have k3 := of_decide_eq_false g3; have k4 := of_decide_eq_true g4; rw [g1, g2, decide_eq_true (show s.last < p.number by omega), decide_eq_false (show ¬ p.number ≤ 1000000 by omega)]; rfl)
        | (have k5 := of_decide_eq_true g5; rw [decide_eq_false (show ¬ p.data.length ≤ 40 by omega), Bool.false_and, Bool.and_false, Bool.and_false, Bool.and_false, Bool.and_false])
        | (rw [g6, Bool.not_true, Bool.and_false, Bool.and_false, Bool.and_false, Bool.and_false, Bool.and_false]))
    have zz : w.heap.size + 1 + 1 < w1.heap.size := z_HR
    go_wp2
    refine bodyPost_ret (v := .tuple #[.agg #[.string s.site, .int .i64 s.secret, .int .i64 s.last], .slice (some ⟨w1.heap.size, 0, none⟩) 0 0, .bool false]) (by simp [results, Try.results10, go_sem, c_HR, zz]) rfl ⟨_, _, by rw [hB.out], ?_, ?_, ?_⟩
    · rw [openPushF, hB.out]
      exact fresh_sub s0
    · rw [openPushD, hB.out]
      exact (lit_fresh FlatR.byte (k := w1.heap.size) (xs := #[]) (us := []) rfl rfl (by decide) (by simp) (by simp)).mono (by omega)
    · have y := HB.out
      exact (by repeat (first | with_reducible exact belR | (with_reducible refine belAB ?_ ?_; focus (first | omega | (simp; done) | (simp; omega))) | (with_reducible refine belS ?_ ?_; focus (first | omega | (simp; done) | (simp; omega))) | with_reducible apply belN | with_reducible apply belD | with_reducible assumption))

theorem sub_last {s : DSubscription} (h : isSubscriptionF s = true) : 0 ≤ s.last ∧ s.last ≤ 1000000 := by
  unfold isSubscriptionF at h
  simp only [Bool.and_eq_true, within, decide_eq_true_eq] at h
  exact h.2
theorem open_range {a n : Int} (_h : 0 ≤ a ∧ a ≤ 1000000) (g : within n (a + 1) 1000000 = true) : a < n ∧ n ≤ 1000000 := by
  simp only [Bool.and_eq_true, within, decide_eq_true_eq] at g
  omega
theorem open_out {a n : Int} (_h : 0 ≤ a ∧ a ≤ 1000000) (g : within n (a + 1) 1000000 = false) : (decide (a < n) && decide (n ≤ 1000000)) = false := by
  cases h1 : decide (a < n) <;> cases h2 : decide (n ≤ 1000000) <;> try rfl
  have h1 := of_decide_eq_true h1
  have h2 := of_decide_eq_true h2
  unfold within at g
  rw [decide_eq_true (show a + 1 ≤ n by omega), decide_eq_true h2] at g
  exact absurd g (by decide)

set_option maxRecDepth 100000 in
set_option maxHeartbeats 8000000 in
theorem specOpenPush (cs ds : List Value) (s : DSubscription) (p : DPush) (w : World) (h : Reads DSubscription.rep w cs s) (h' : Reads DPush.rep w ds p) (hs1 : p.site.size ≤ 4000000) (hs2 : p.data.length ≤ 4000000) :
    Calls Try.prog 13 #[.agg cs.toArray, .agg ds.toArray] w fun e w' => ∃ d0 d1, e = .returned (.tuple #[.agg d0.toArray, d1, .bool (openPushB s p)]) ∧ Fresh DSubscription.rep w.heap.size w' d0 (openPushF s p) ∧ Fresh (Rep.slice 5 Rep.byte) w.heap.size w' [d1] (openPushD s p) ∧ Below w.heap.size w w' := by
  have HH := Lib.hid h
  have HP := Lib.hid h'
  obtain ⟨fp, h⟩ := h
  obtain ⟨rfl, _, s0⟩ := DSubscription.rd.1 h
  clear h
  obtain ⟨fp_r, h'⟩ := h'
  obtain ⟨r_v1, r_f1, rfl, _, r_s0, r_r1⟩ := DPush.rd.1 h'
  obtain ⟨r_a1, r_c1, rfl, r_hm1, r_lc1, r_hu1⟩ := slice_open r_r1; clear r_hu1
  have r_K1 : Hid (Reads (Rep.slice 5 Rep.byte) w [.slice r_a1 p.data.length r_c1] p.data) := ⟨_, r_r1⟩
  clear r_r1 h'
  go_enter Try.func13, Try.ntmps13
  go_wp2_with fail
  refine settle (fun W => WB W w.heap.size #[.string s.site, .int .i64 s.secret, .int .i64 s.last] ∧ WB W (w.heap.size + 1) #[.string p.site, .int .i64 p.number, .slice r_a1 p.data.length r_c1, .int .i64 p.mac] ∧ WB W (w.heap.size + 2) #[.string ⟨#[]⟩, .int .i64 0, .int .i64 0] ∧ Below w.heap.size w W ∧ w.heap.size + 3 ≤ W.heap.size) ⟨(WB.at rfl).growA.growA, (WB.at (by simp)).growA, WB.at (by simp), (by repeat (first | with_reducible exact belR | with_reducible apply belA | (with_reducible refine belS ?_ ?_; focus (first | omega | (simp; done) | (simp; omega))) | with_reducible apply belN | with_reducible apply belD | with_reducible assumption)), by simp⟩ ?_
  rintro w0 ⟨hx, hy, hr, hb, hz⟩
  have HX := Lib.hid hx
  have HY := Lib.hid hy
  have HR := Lib.hid hr
  have HB := Lib.hid hb
  clear hx hy hr hb
  have KX := rg_var HX.out
  have KY := rg_var HY.out
  have HQ : Hid (∀ q, Below w.heap.size w (rg w0 q)) := Lib.hid fun q => HB.out.trans ((rg_below w0 q).mono HB.out.size)
  cases g1 : isSubscriptionF s
  case' true => cases g2 : (p.site.toList == s.site.toList)
  case' true.true => cases g3 : within p.number (s.last + 1) 1000000
  case' true.true.true => cases g5 : decide ((40 : Int) < (p.data.length : Int))
  case' true.true.true.false => cases g6 : (p.mac != pushMACF s p)
  all_goals
    first | (have hw : IntKind.i64.wrap (s.last + 1) = s.last + 1 := Go.IntWalk.i64_in _ (by have := sub_last g1; omega)) | (have hw : True := trivial)
    refine wp_region_rg (by kernel_rfl) (by kernel_rfl) ?_
    repeat (go_big_quiet_step ((first | (go_at_call 52; exact calls_rgSame (specIn _ _ _ _)) | (go_at_call 51; exact calls_rg (specIsSubscription _ s _ (HH.out.below (HQ.out _)))) | (go_at_call 53; exact calls_rg (specPushMAC _ _ s p _ (HH.out.below (HQ.out _)) (HP.out.below (HQ.out _)) hs1 hs2)))))
    refine wpQuiet_nil ?_
    rintro _ ⟨pq, rfl⟩
    clear KX KY hw
    have hq := rg_below w0 pq
    generalize rg w0 pq = w1 at *
    have hz1 := hq.size
    replace HX := Lib.hid (HX.out.keep hq)
    replace HY := Lib.hid (HY.out.keep hq)
    replace HR := Lib.hid (HR.out.keep hq)
    replace HB := Lib.hid (HB.out.trans (hq.mono HB.out.size))
    clear hq HQ
    have ⟨c_HX, z_HX, f_HX⟩ := HX.out
    have ⟨c_HY, z_HY, f_HY⟩ := HY.out
    have ⟨c_HR, z_HR, f_HR⟩ := HR.out
  case true.true.true.false.false =>
    have hB : Hid (openPushB s p = true) := Lib.hid (by
      have k3 := open_range (sub_last g1) g3
      have k5 := of_decide_eq_false g5
      rw [openPushB, g1, g2, g6, decide_eq_true k3.1, decide_eq_true k3.2, decide_eq_true (show p.data.length ≤ 40 by omega)]; rfl)
    have hR5 : Hid (∀ W, Reads DSubscription.rep W [.string s.site, .int .i64 s.secret, .int .i64 s.last] s) := Lib.hid fun W => ⟨[], DSubscription.rd.2 ⟨rfl, rfl, s0⟩⟩
    clear g1 g2 g3 g5 g6
    go_wp2_with fail
    have zz : w.heap.size + 3 ≤ w1.heap.size := by omega
    refine settle (fun W => WB W w1.heap.size #[.string s.site, .int .i64 s.secret, .int .i64 p.number] ∧ WB W w.heap.size #[.string s.site, .int .i64 s.secret, .int .i64 s.last] ∧ WB W (w.heap.size + 1) #[.string p.site, .int .i64 p.number, .slice r_a1 p.data.length r_c1, .int .i64 p.mac] ∧ WB W (w.heap.size + 2) #[.string ⟨#[]⟩, .int .i64 0, .int .i64 0] ∧ Below w.heap.size w W) ⟨?_, HX.out.growA, HY.out.growA, HR.out.growA, by have y := HB.out; exact (by repeat (first | with_reducible exact belR | (with_reducible refine belAB ?_ ?_; focus (first | omega | (simp; done) | (simp; omega))) | (with_reducible refine belS ?_ ?_; focus (first | omega | (simp; done) | (simp; omega))) | with_reducible apply belN | with_reducible apply belD | with_reducible assumption))⟩ ?_
    · exact WB.at rfl
    clear c_HX z_HX f_HX c_HY z_HY f_HY c_HR z_HR f_HR
    clear HX HY HR HB
    rintro w2 ⟨ho, hx, hy, hr, hb⟩
    have HO := Lib.hid ho
    have HX := Lib.hid hx
    have HY := Lib.hid hy
    have HR := Lib.hid hr
    have HB := Lib.hid hb
    clear ho hx hy hr hb
    have hz2 := HB.out.size
    have hno : w1.heap.size ∉ [w.heap.size + 2] := by simp; omega
    have HS : Hid (∀ w', Chg [w.heap.size + 2] w2 w' → (∀ o, w'.cell? ⟨w1.heap.size, o, none⟩ = #[.string s.site, .int .i64 s.secret, .int .i64 p.number][o]?) ∧ (∀ o, w'.cell? ⟨w.heap.size, o, none⟩ = #[.string s.site, .int .i64 s.secret, .int .i64 s.last][o]?) ∧ (∀ o, w'.cell? ⟨w.heap.size + 1, o, none⟩ = #[.string p.site, .int .i64 p.number, .slice r_a1 p.data.length r_c1, .int .i64 p.mac][o]?) ∧ Chg [w.heap.size + 2] w2 w') := Lib.hid fun w' hw' => ⟨(HO.out.chg hw' hno).cell, (HX.out.chg hw' (by simp)).cell, (HY.out.chg hw' (by simp)).cell, hw'⟩
    have ⟨c_HR, z_HR, f_HR⟩ := HR.out
    go_region_held3 (fun w' => (∀ o, w'.cell? ⟨w1.heap.size, o, none⟩ = #[.string s.site, .int .i64 s.secret, .int .i64 p.number][o]?) ∧ (∀ o, w'.cell? ⟨w.heap.size, o, none⟩ = #[.string s.site, .int .i64 s.secret, .int .i64 s.last][o]?) ∧ (∀ o, w'.cell? ⟨w.heap.size + 1, o, none⟩ = #[.string p.site, .int .i64 p.number, .slice r_a1 p.data.length r_c1, .int .i64 p.mac][o]?) ∧ Chg [w.heap.size + 2] w2 w')
      (first | exact HS.out _ (chgD Chg.refl) | exact HS.out _ (chgD (Chg.set (by simp) (Chg.set (by simp) (Chg.set (by simp) Chg.refl)))) | exact HS.out _ hc4 | exact HS.out _ (Chg.set (by simp) (Chg.set (by simp) (Chg.set (by simp) hc4))) | exact HS.out _ hc3 | exact HS.out _ (Chg.set (by simp) (Chg.set (by simp) (Chg.set (by simp) hc3))))
      (first
        | (go_at_call 55; refine (specPushKey _ s p.number _ (hR5.out _)).mono ?_; rintro e w3 ⟨rfl, hb3⟩; (first | (have hc3 : Chg [w.heap.size + 2] w2 w3 := (chgD Chg.refl).trans (Chg.of_below hb3 (Nat.le_refl _)); have hw3 := HR.out.growD.keep hb3) | (have hc3 : Chg [w.heap.size + 2] w2 w3 := (chgD (Chg.set (by simp) (Chg.set (by simp) (Chg.set (by simp) Chg.refl)))).trans (Chg.of_below hb3 (Nat.le_refl _)); have hw3 := HR.out.set3.growD.keep hb3)); have ⟨e3, l3, f3⟩ := hw3; have hb3' : Below w.heap.size w w3 := HB.out.trans (hc3.below (by simp) HB.out.size))
        | (go_at_call 54; refine (specDecrypt _ _ p.data _ (r_K1.out.below (by have y := hb3'; exact (by repeat (first | with_reducible exact belR | (with_reducible refine belAB ?_ ?_; focus (first | omega | (simp; done) | (simp; omega))) | (with_reducible refine belS ?_ ?_; focus (first | omega | (simp; done) | (simp; omega))) | with_reducible apply belN | with_reducible apply belD | with_reducible assumption)))) (Nat.le_trans hs2 (by decide))).mono ?_; rintro e w4 ⟨v', rfl, hf4, hb4⟩; obtain ⟨ao, cap, rfl⟩ := hf4.slice; rw [decryptF_len] at *; (first | (have hc4 : Chg [w.heap.size + 2] w2 w4 := hc3.trans (Chg.of_below hb4 (Nat.le_refl _)); have hw4 := hw3.keep hb4) | (have hc4 : Chg [w.heap.size + 2] w2 w4 := (Chg.set (by simp) (Chg.set (by simp) (Chg.set (by simp) hc3))).trans (Chg.of_below hb4 (Nat.le_refl _)); have hw4 := hw3.set3.keep hb4)); have ⟨e4, l4, f4⟩ := hw4; have hb4' : Below w.heap.size w w4 := HB.out.trans (hc4.below (by simp) HB.out.size)))
    have HF4 := Lib.hid hf4
    have HB4 := Lib.hid hb4'
    clear hf4 hb4'
    go_wp2
    refine bodyPost_ret (v := .tuple #[.agg #[.string s.site, .int .i64 s.secret, .int .i64 p.number], .slice ao p.data.length cap, .bool true]) (by simp [results, Try.results13, go_sem, e4]) rfl ⟨_, _, by rw [hB.out], ?_, ?_, ?_⟩
    · rw [openPushF, hB.out]
      exact fresh_sub (x := opened s p) s0
    · rw [openPushD, hB.out]
      exact (Fresh.mono (B := w3.heap.size) (by repeat (first | exact HF4.out | refine Fresh.setLow ?_ (by omega) | refine Fresh.drew ?_)) (by omega))
    · have y := HB4.out
      exact (by repeat (first | with_reducible exact belR | (with_reducible refine belAB ?_ ?_; focus (first | omega | (simp; done) | (simp; omega))) | (with_reducible refine belS ?_ ?_; focus (first | omega | (simp; done) | (simp; omega))) | with_reducible apply belN | with_reducible apply belD | with_reducible assumption))
  all_goals
    have hB : Hid (openPushB s p = false) := Lib.hid (by
      rw [openPushB]
      first
        | (rw [g1]; rfl)
        | (rw [g1, g2]; rfl)
        | (have k3 := open_out (sub_last g1) g3; rw [g1, g2, Bool.true_and, Bool.true_and, ← Bool.and_assoc, k3]; rfl)
        | (have k5 := of_decide_eq_true g5; rw [decide_eq_false (show ¬ p.data.length ≤ 40 by omega), Bool.false_and, Bool.and_false, Bool.and_false, Bool.and_false, Bool.and_false])
        | (rw [g6, Bool.not_true, Bool.and_false, Bool.and_false, Bool.and_false, Bool.and_false, Bool.and_false]))
    have zz : w.heap.size + 1 + 1 < w1.heap.size := z_HR
    go_wp2
    refine bodyPost_ret (v := .tuple #[.agg #[.string s.site, .int .i64 s.secret, .int .i64 s.last], .slice (some ⟨w1.heap.size, 0, none⟩) 0 0, .bool false]) (by simp [results, Try.results13, go_sem, c_HR, zz]) rfl ⟨_, _, by rw [hB.out], ?_, ?_, ?_⟩
    · rw [openPushF, hB.out]
      exact fresh_sub s0
    · rw [openPushD, hB.out]
      exact (lit_fresh FlatR.byte (k := w1.heap.size) (xs := #[]) (us := []) rfl rfl (by decide) (by simp) (by simp)).mono (by omega)
    · have y := HB.out
      exact (by repeat (first | with_reducible exact belR | (with_reducible refine belAB ?_ ?_; focus (first | omega | (simp; done) | (simp; omega))) | (with_reducible refine belS ?_ ?_; focus (first | omega | (simp; done) | (simp; omega))) | with_reducible apply belN | with_reducible apply belD | with_reducible assumption))

end Go.Proofs.Ytmknfobkfimggaa
