/-
  SealPush.
-/
import Derived.Test.YtmknfobkfimggaaDecrypt
import Derived.Test.YtmknfobkfimggaaBase
import Derived.Test.YtmknfobkfimggaaPushes
import Derived.Test.YtmknfobkfimggaaPushKey
import Derived.Test.YtmknfobkfimggaaDerive
namespace Go.Proofs.Ytmknfobkfimggaa
open Go.RowKit

def sealBase (s : DSubscription) (n : Int) (d : List UInt8) : DPush := ⟨s.site, n, encryptF (pushKeyF s n) d, 0⟩
def sealOut (s : DSubscription) (n : Int) (d : List UInt8) : DPush := ⟨s.site, n, encryptF (pushKeyF s n) d, pushMACF s (sealBase s n d)⟩
def sealPushB (s : DSubscription) (n : Int) (d : List UInt8) : Bool := isSubscriptionF s && (within n 1 1000000 && decide (d.length ≤ 40))
def noPush : DPush := ⟨⟨#[]⟩, 0, [], 0⟩
def sealPushF (s : DSubscription) (n : Int) (d : List UInt8) : DPush := if sealPushB s n d then sealOut s n d else noPush

theorem DPush.fmk {B : Nat} {w : World} {v : Value} {x : DPush} (h : Fresh (Rep.slice 5 Rep.byte) B w [v] x.data) (s0 : x.site.size ≤ maxLen) : Fresh DPush.rep B w [.string x.site, .int .i64 x.number, v, .int .i64 x.mac] x :=
  DPush.fresh (h.partAt (Nat.le_refl _)) (Nat.le_refl _) s0

set_option maxRecDepth 100000 in
set_option maxHeartbeats 4000000 in
theorem implSealPush (cs : List Value) (s : DSubscription) (n : Int) (v : Value) (d : List UInt8) (w : World) (h : Reads DSubscription.rep w cs s) (h' : Reads (Rep.slice 5 Rep.byte) w [v] d) (hs : s.site.size ≤ 4000000) (hd : d.length ≤ 4000000) :
    Calls Try.prog 9 #[.agg cs.toArray, .int .i64 n, v] w fun e w' => ∃ ds, e = .returned (.tuple #[.agg ds.toArray, .bool (sealPushB s n d)]) ∧ Fresh DPush.rep w.heap.size w' ds (sealPushF s n d) ∧ Below w.heap.size w w' := by
  have HH := Lib.hid h
  have HD := Lib.hid h'
  obtain ⟨fp, h⟩ := h
  obtain ⟨rfl, _, s0⟩ := DSubscription.rd.1 h
  obtain ⟨fd, h'⟩ := h'
  obtain ⟨ad, cd, rfl, hmd, hcd, hud⟩ := slice_open h'
  clear hud h h'
  go_enter Try.func9, Try.ntmps9
  go_wp2_with fail
  refine (implIsSubscription _ s _ (HH.out.below (by repeat (first | with_reducible exact belR | with_reducible apply belA | (with_reducible refine belS ?_ ?_; focus (first | omega | (simp; done) | (simp; omega))) | with_reducible apply belN | with_reducible apply belD | with_reducible assumption)))).mono ?_
  rintro e w1 ⟨rfl, hb⟩
  have HX : Hid (WB w1 w.heap.size #[.string s.site, .int .i64 s.secret, .int .i64 s.last]) := Lib.hid ((WB.at rfl).growA.keep hb)
  have HR : Hid (WB w1 (w.heap.size + 1) #[.string ⟨#[]⟩, .int .i64 0, .slice none 0 0, .int .i64 0]) := Lib.hid ((WB.at (by simp)).keep hb)
  have HB : Hid (Below w.heap.size w w1) := Lib.hid (below_call (by repeat (first | with_reducible exact belR | with_reducible apply belA | (with_reducible refine belS ?_ ?_; focus (first | omega | (simp; done) | (simp; omega))) | with_reducible apply belN | with_reducible apply belD | with_reducible assumption)) (by first | omega | (simp; done) | (simp; omega)) hb)
  have hz : w.heap.size + 2 ≤ w1.heap.size := by have y := hb.size; simp at y; omega
  clear hb
  have ⟨c_HX, z_HX, f_HX⟩ := HX.out
  have ⟨c_HR, z_HR, f_HR⟩ := HR.out
  cases h1 : isSubscriptionF s
  case' true => cases h2 : within n 1 1000000
  case' true.true => cases h3 : decide (d.length ≤ 40)
  case true.true.true =>
    have h4 := of_decide_eq_true h3
    have H1 : Hid (sealPushB s n d = true) := Lib.hid (by rw [sealPushB, h1, h2, h3]; rfl)
    go_upto_region 3 with (go_at_call 44; refine (implInRange _ _ _ _).mono ?_; rintro e w' ⟨rfl, rfl⟩)
    clear c_HR z_HR f_HR
    go_cut [8] (fun p wx => ∃ (kb : Nat) (ao : Option Addr) (cap : Nat), p = .pointer (some ⟨kb, 0, none⟩) ∧ WB wx kb #[.string s.site, .int .i64 n, .slice ao d.length cap, .int .i64 0] ∧ WB wx w.heap.size #[.string s.site, .int .i64 s.secret, .int .i64 s.last] ∧ WB wx (w.heap.size + 1) #[.string ⟨#[]⟩, .int .i64 0, .slice none 0 0, .int .i64 0] ∧ Fresh (Rep.slice 5 Rep.byte) (w.heap.size + 2) wx [.slice ao d.length cap] (encryptF (pushKeyF s n) d) ∧ kb ∉ (Value.slice ao d.length cap).ownBlock.toList ∧ w.heap.size + 2 ≤ kb ∧ Below w.heap.size w wx)
    case first =>
      have HS : Hid (∀ w', Below w1.heap.size w1 w' → (∀ o, w'.cell? ⟨w.heap.size, o, none⟩ = #[.string s.site, .int .i64 s.secret, .int .i64 s.last][o]?) ∧ Below w1.heap.size w1 w') := Lib.hid fun w' hw' => ⟨(HX.out.keep hw').cell, hw'⟩
      go_region_held3 (fun w' => (∀ o, w'.cell? ⟨w.heap.size, o, none⟩ = #[.string s.site, .int .i64 s.secret, .int .i64 s.last][o]?) ∧ Below w1.heap.size w1 w')
        (first | exact HS.out _ (by repeat (first | with_reducible exact belR | (with_reducible refine belAB ?_ ?_; focus (first | omega | (simp; done) | (simp; omega))) | (with_reducible refine belS ?_ ?_; focus (first | omega | (simp; done) | (simp; omega))) | with_reducible apply belN | with_reducible apply belD | with_reducible assumption)))
        (first
          | (go_at_call 46; refine (implPushKey _ s n _ (HH.out.below (by have y := HB.out; exact (by repeat (first | with_reducible exact belR | with_reducible apply belA | (with_reducible refine belS ?_ ?_; focus (first | omega | (simp; done) | (simp; omega))) | with_reducible apply belN | with_reducible apply belD | with_reducible assumption))))).mono ?_; rintro e w2 ⟨rfl, hb2⟩; have hq2 : Below w1.heap.size w1 w2 := (Below.trans (by repeat (first | with_reducible exact belR | (with_reducible refine belAB ?_ ?_; focus (first | omega | (simp; done) | (simp; omega))) | (with_reducible refine belS ?_ ?_; focus (first | omega | (simp; done) | (simp; omega))) | with_reducible apply belN | with_reducible apply belD | with_reducible assumption)) (hb2.mono (by first | omega | (simp; done) | (simp; omega)))); have hs2 := hq2.size; (first | (have hw2 : WB w2 w1.heap.size #[.string ⟨#[]⟩, .int .i64 0, .slice none 0 0, .int .i64 0] := (WB.at rfl).growD.keep hb2; have hz2 := hw2.lt; have ⟨e2, l2, f2⟩ := hw2) | skip))
          | (go_at_call 45; refine (implEncrypt _ _ d _ (HD.out.below (by have y := HB.out.trans (hq2.mono HB.out.size); exact (by repeat (first | with_reducible exact belR | with_reducible apply belA | (with_reducible refine belS ?_ ?_; focus (first | omega | (simp; done) | (simp; omega))) | with_reducible apply belN | with_reducible apply belD | with_reducible assumption)))) (Nat.le_trans hd (by decide))).mono ?_; rintro e w3 ⟨v', rfl, hf3, hb3⟩; obtain ⟨ao, cap, rfl⟩ := hf3.slice; rw [encryptF_len] at *; have hq3 : Below w1.heap.size w1 w3 := hq2.trans (Below.trans (by repeat (first | with_reducible exact belR | (with_reducible refine belAB ?_ ?_; focus (first | omega | (simp; done) | (simp; omega))) | (with_reducible refine belS ?_ ?_; focus (first | omega | (simp; done) | (simp; omega))) | with_reducible apply belN | with_reducible apply belD | with_reducible assumption)) (hb3.mono (by first | omega | (simp; done) | (simp; omega)))); have hs3 := hq3.size; (first | (have hw3 := hw2.keep hb3; have ⟨e3, l3, f3⟩ := hw3) | (have hw3 : WB w3 w2.heap.size #[.string ⟨#[]⟩, .int .i64 0, .slice none 0 0, .int .i64 0] := (WB.at rfl).keep hb3; have ⟨e3, l3, f3⟩ := hw3) | skip)))
      · go_wp2_with fail
        go_meet
        refine ⟨_, ao, cap, rfl, ?_, ?_, ?_, ?_, ?_, ?_, ?_⟩
        · exact WB.at rfl
        · exact (HX.out.keep hq3).growA
        · exact (HR.out.keep hq3).growA
        · exact (hf3.below (belA belR)).mono (by omega)
        · intro hm
          have hz9 := hf3.ownlt _ hm
          omega
        · omega
        · have y := HB.out.trans (hq3.mono HB.out.size)
          exact (by repeat (first | with_reducible exact belR | (with_reducible refine belAB ?_ ?_; focus (first | omega | (simp; done) | (simp; omega))) | (with_reducible refine belS ?_ ?_; focus (first | omega | (simp; done) | (simp; omega))) | with_reducible apply belN | with_reducible apply belD | with_reducible assumption))
      · go_wp2_with fail
        go_meet
        refine ⟨_, ao, cap, rfl, ?_, ?_, ?_, ?_, ?_, ?_, ?_⟩
        · exact hw3.set4
        · exact ((((HX.out.keep hq3).setOther (by omega)).setOther (by omega)).setOther (by omega)).setOther (by omega)
        · exact ((((HR.out.keep hq3).setOther (by omega)).setOther (by omega)).setOther (by omega)).setOther (by omega)
        · exact ((((hf3.setLow (by simp)).setLow (by simp)).setLow (by simp)).setLow (by simp)).mono (by simp; omega)
        · intro hm
          have hz9 := hf3.ownlt _ hm
          (try simp at hz9); omega
        · omega
        · have y := HB.out.trans (hq3.mono HB.out.size)
          exact (by repeat (first | with_reducible exact belR | (with_reducible refine belAB ?_ ?_; focus (first | omega | (simp; done) | (simp; omega))) | (with_reducible refine belS ?_ ?_; focus (first | omega | (simp; done) | (simp; omega))) | with_reducible apply belN | with_reducible apply belD | with_reducible assumption))
      · go_wp2_with fail
        go_meet
        refine ⟨_, ao, cap, rfl, ?_, ?_, ?_, ?_, ?_, ?_, ?_⟩
        · exact hw3.set4
        · exact ((((HX.out.keep hq3).setOther (by omega)).setOther (by omega)).setOther (by omega)).setOther (by omega)
        · exact ((((HR.out.keep hq3).setOther (by omega)).setOther (by omega)).setOther (by omega)).setOther (by omega)
        · exact ((((hf3.setLow (by omega)).setLow (by omega)).setLow (by omega)).setLow (by omega)).mono (by omega)
        · intro hm
          have hz9 := hf3.ownlt _ hm
          omega
        · omega
        · have y := HB.out.trans (hq3.mono HB.out.size)
          exact (by repeat (first | with_reducible exact belR | (with_reducible refine belAB ?_ ?_; focus (first | omega | (simp; done) | (simp; omega))) | (with_reducible refine belS ?_ ?_; focus (first | omega | (simp; done) | (simp; omega))) | with_reducible apply belN | with_reducible apply belD | with_reducible assumption))
    case rest =>
      obtain ⟨kb, ao, cap, rfl, ho, hx, hr, hf, hap, hkb, hb⟩ := hcut
      clear c_HX z_HX f_HX
      clear HX HR HB
      have HO := Lib.hid ho
      have HX := Lib.hid hx
      have HR := Lib.hid hr
      have HF := Lib.hid hf
      have HB := Lib.hid hb
      have HP := Lib.hid hap
      clear ho hx hr hf hb hap
      have ⟨c_HX, z_HX, f_HX⟩ := HX.out
      have ⟨c_HO, z_HO, f_HO⟩ := HO.out
      go_wp2_with fail
      refine (implPushMAC _ _ s (sealBase s n d) _ (HH.out.below HB.out) (DPush.fmk (x := sealBase s n d) HF.out s0).reads hs (by show (encryptF _ d).length ≤ _; rw [encryptF_len]; exact hd)).mono ?_
      rintro e w5 ⟨rfl, hq⟩
      clear c_HX z_HX f_HX c_HO z_HO f_HO
      replace HX := Lib.hid (HX.out.keep hq)
      replace HR := Lib.hid (HR.out.keep hq)
      replace HO := Lib.hid (HO.out.keep hq)
      replace HF := Lib.hid (HF.out.below hq)
      replace HB := Lib.hid (HB.out.trans (hq.mono HB.out.size))
      clear hq
      have ⟨c_HR, z_HR, f_HR⟩ := HR.out
      have ⟨c_HO, z_HO, f_HO⟩ := HO.out
      go_wp2
      refine bodyPost_ret (v := .tuple #[.agg #[.string s.site, .int .i64 n, .slice ao d.length cap, .int .i64 (pushMACF s (sealBase s n d))], .bool true]) (by simp [results, Try.results9, go_sem, c_HR]) rfl ⟨_, by rw [H1.out], ?_, ?_⟩
      · rw [sealPushF, H1.out]
        exact DPush.fmk (x := sealOut s n d) (Fresh.mono (B := w.heap.size + 2) (by repeat (first | exact FlatR.byte.setApart HF.out HP.out | refine Fresh.setLow ?_ (by omega))) (by omega)) s0
      · have y := HB.out
        exact (by repeat (first | with_reducible exact belR | (with_reducible refine belAB ?_ ?_; focus (first | omega | (simp; done) | (simp; omega))) | (with_reducible refine belS ?_ ?_; focus (first | omega | (simp; done) | (simp; omega))) | with_reducible apply belN | with_reducible apply belD | with_reducible assumption))
  all_goals
    first | (have h4 := of_decide_eq_false h3) | skip
    have H1 : Hid (sealPushB s n d = false) := Lib.hid (by first | (rw [sealPushB, h1]; rfl) | (rw [sealPushB, h1, h2]; rfl) | (rw [sealPushB, h1, h2, h3]; rfl))
    go_wp2_with (go_at_call 44; refine (implInRange _ _ _ _).mono ?_; rintro e w' ⟨rfl, rfl⟩)
    refine bodyPost_ret (v := .tuple #[.agg #[.string ⟨#[]⟩, .int .i64 0, .slice none 0 0, .int .i64 0], .bool false]) (by simp [results, Try.results9, go_sem, c_HR]) rfl ⟨_, by rw [H1.out], ?_, ?_⟩
    · rw [sealPushF, H1.out]
      exact DPush.fmk (x := noPush) Fresh.nil (by decide)
    · have y := HB.out
      exact (by repeat (first | with_reducible exact belR | (with_reducible refine belAB ?_ ?_; focus (first | omega | (simp; done) | (simp; omega))) | (with_reducible refine belS ?_ ?_; focus (first | omega | (simp; done) | (simp; omega))) | with_reducible apply belN | with_reducible apply belD | with_reducible assumption))


set_option maxRecDepth 100000 in
set_option maxHeartbeats 4000000 in
theorem specSealPush (cs : List Value) (s : DSubscription) (n : Int) (v : Value) (d : List UInt8) (w : World) (h : Reads DSubscription.rep w cs s) (h' : Reads (Rep.slice 5 Rep.byte) w [v] d) (hs : s.site.size ≤ 4000000) (hd : d.length ≤ 4000000) :
    Calls Try.prog 142 #[.agg cs.toArray, .int .i64 n, v] w fun e w' => ∃ ds, e = .returned (.tuple #[.agg ds.toArray, .bool (sealPushB s n d)]) ∧ Fresh DPush.rep w.heap.size w' ds (sealPushF s n d) ∧ Below w.heap.size w w' := by
  have HH := Lib.hid h
  have HD := Lib.hid h'
  obtain ⟨fp, h⟩ := h
  obtain ⟨rfl, _, s0⟩ := DSubscription.rd.1 h
  obtain ⟨fd, h'⟩ := h'
  obtain ⟨ad, cd, rfl, hmd, hcd, hud⟩ := slice_open h'
  clear hud h h'
  go_enter Try.func142, Try.ntmps142
  go_wp2_with fail
  refine (specIsSubscription _ s _ (HH.out.below (by repeat (first | with_reducible exact belR | with_reducible apply belA | (with_reducible refine belS ?_ ?_; focus (first | omega | (simp; done) | (simp; omega))) | with_reducible apply belN | with_reducible apply belD | with_reducible assumption)))).mono ?_
  rintro e w1 ⟨rfl, hb⟩
  have HX : Hid (WB w1 w.heap.size #[.string s.site, .int .i64 s.secret, .int .i64 s.last]) := Lib.hid ((WB.at rfl).growA.keep hb)
  have HR : Hid (WB w1 (w.heap.size + 1) #[.string ⟨#[]⟩, .int .i64 0, .slice none 0 0, .int .i64 0]) := Lib.hid ((WB.at (by simp)).keep hb)
  have HB : Hid (Below w.heap.size w w1) := Lib.hid (below_call (by repeat (first | with_reducible exact belR | with_reducible apply belA | (with_reducible refine belS ?_ ?_; focus (first | omega | (simp; done) | (simp; omega))) | with_reducible apply belN | with_reducible apply belD | with_reducible assumption)) (by first | omega | (simp; done) | (simp; omega)) hb)
  have hz : w.heap.size + 2 ≤ w1.heap.size := by have y := hb.size; simp at y; omega
  clear hb
  have ⟨c_HX, z_HX, f_HX⟩ := HX.out
  have ⟨c_HR, z_HR, f_HR⟩ := HR.out
  cases h1 : isSubscriptionF s
  case' true => cases h2 : within n 1 1000000
  case' true.true => cases h3 : decide (d.length ≤ 40)
  case true.true.true =>
    have h4 := of_decide_eq_true h3
    have H1 : Hid (sealPushB s n d = true) := Lib.hid (by rw [sealPushB, h1, h2, h3]; rfl)
    go_upto_region 3 with (go_at_call 52; refine (specIn _ _ _ _).mono ?_; rintro e w' ⟨rfl, rfl⟩)
    clear c_HR z_HR f_HR
    go_cut [8] (fun p wx => ∃ (kb : Nat) (ao : Option Addr) (cap : Nat), p = .pointer (some ⟨kb, 0, none⟩) ∧ WB wx kb #[.string s.site, .int .i64 n, .slice ao d.length cap, .int .i64 0] ∧ WB wx w.heap.size #[.string s.site, .int .i64 s.secret, .int .i64 s.last] ∧ WB wx (w.heap.size + 1) #[.string ⟨#[]⟩, .int .i64 0, .slice none 0 0, .int .i64 0] ∧ Fresh (Rep.slice 5 Rep.byte) (w.heap.size + 2) wx [.slice ao d.length cap] (encryptF (pushKeyF s n) d) ∧ kb ∉ (Value.slice ao d.length cap).ownBlock.toList ∧ w.heap.size + 2 ≤ kb ∧ Below w.heap.size w wx)
    case first =>
      have HS : Hid (∀ w', Below w1.heap.size w1 w' → (∀ o, w'.cell? ⟨w.heap.size, o, none⟩ = #[.string s.site, .int .i64 s.secret, .int .i64 s.last][o]?) ∧ Below w1.heap.size w1 w') := Lib.hid fun w' hw' => ⟨(HX.out.keep hw').cell, hw'⟩
      go_region_held3 (fun w' => (∀ o, w'.cell? ⟨w.heap.size, o, none⟩ = #[.string s.site, .int .i64 s.secret, .int .i64 s.last][o]?) ∧ Below w1.heap.size w1 w')
        (first | exact HS.out _ (by repeat (first | with_reducible exact belR | (with_reducible refine belAB ?_ ?_; focus (first | omega | (simp; done) | (simp; omega))) | (with_reducible refine belS ?_ ?_; focus (first | omega | (simp; done) | (simp; omega))) | with_reducible apply belN | with_reducible apply belD | with_reducible assumption)))
        (first
          | (go_at_call 55; refine (specPushKey _ s n _ (HH.out.below (by have y := HB.out; exact (by repeat (first | with_reducible exact belR | with_reducible apply belA | (with_reducible refine belS ?_ ?_; focus (first | omega | (simp; done) | (simp; omega))) | with_reducible apply belN | with_reducible apply belD | with_reducible assumption))))).mono ?_; rintro e w2 ⟨rfl, hb2⟩; have hq2 : Below w1.heap.size w1 w2 := (Below.trans (by repeat (first | with_reducible exact belR | (with_reducible refine belAB ?_ ?_; focus (first | omega | (simp; done) | (simp; omega))) | (with_reducible refine belS ?_ ?_; focus (first | omega | (simp; done) | (simp; omega))) | with_reducible apply belN | with_reducible apply belD | with_reducible assumption)) (hb2.mono (by first | omega | (simp; done) | (simp; omega)))); have hs2 := hq2.size; (first | (have hw2 : WB w2 w1.heap.size #[.string ⟨#[]⟩, .int .i64 0, .slice none 0 0, .int .i64 0] := (WB.at rfl).growD.keep hb2; have hz2 := hw2.lt; have ⟨e2, l2, f2⟩ := hw2) | skip))
          | (go_at_call 161; refine (specEncrypt _ _ d _ (HD.out.below (by have y := HB.out.trans (hq2.mono HB.out.size); exact (by repeat (first | with_reducible exact belR | with_reducible apply belA | (with_reducible refine belS ?_ ?_; focus (first | omega | (simp; done) | (simp; omega))) | with_reducible apply belN | with_reducible apply belD | with_reducible assumption)))) (Nat.le_trans hd (by decide))).mono ?_; rintro e w3 ⟨v', rfl, hf3, hb3⟩; obtain ⟨ao, cap, rfl⟩ := hf3.slice; rw [encryptF_len] at *; have hq3 : Below w1.heap.size w1 w3 := hq2.trans (Below.trans (by repeat (first | with_reducible exact belR | (with_reducible refine belAB ?_ ?_; focus (first | omega | (simp; done) | (simp; omega))) | (with_reducible refine belS ?_ ?_; focus (first | omega | (simp; done) | (simp; omega))) | with_reducible apply belN | with_reducible apply belD | with_reducible assumption)) (hb3.mono (by first | omega | (simp; done) | (simp; omega)))); have hs3 := hq3.size; (first | (have hw3 := hw2.keep hb3; have ⟨e3, l3, f3⟩ := hw3) | (have hw3 : WB w3 w2.heap.size #[.string ⟨#[]⟩, .int .i64 0, .slice none 0 0, .int .i64 0] := (WB.at rfl).keep hb3; have ⟨e3, l3, f3⟩ := hw3) | skip)))
      · go_wp2_with fail
        go_meet
        refine ⟨_, ao, cap, rfl, ?_, ?_, ?_, ?_, ?_, ?_, ?_⟩
        · exact WB.at rfl
        · exact (HX.out.keep hq3).growA
        · exact (HR.out.keep hq3).growA
        · exact (hf3.below (belA belR)).mono (by omega)
        · intro hm
          have hz9 := hf3.ownlt _ hm
          omega
        · omega
        · have y := HB.out.trans (hq3.mono HB.out.size)
          exact (by repeat (first | with_reducible exact belR | (with_reducible refine belAB ?_ ?_; focus (first | omega | (simp; done) | (simp; omega))) | (with_reducible refine belS ?_ ?_; focus (first | omega | (simp; done) | (simp; omega))) | with_reducible apply belN | with_reducible apply belD | with_reducible assumption))
      · go_wp2_with fail
        go_meet
        refine ⟨_, ao, cap, rfl, ?_, ?_, ?_, ?_, ?_, ?_, ?_⟩
        · exact hw3.set4
        · exact ((((HX.out.keep hq3).setOther (by omega)).setOther (by omega)).setOther (by omega)).setOther (by omega)
        · exact ((((HR.out.keep hq3).setOther (by omega)).setOther (by omega)).setOther (by omega)).setOther (by omega)
        · exact ((((hf3.setLow (by simp)).setLow (by simp)).setLow (by simp)).setLow (by simp)).mono (by simp; omega)
        · intro hm
          have hz9 := hf3.ownlt _ hm
          (try simp at hz9); omega
        · omega
        · have y := HB.out.trans (hq3.mono HB.out.size)
          exact (by repeat (first | with_reducible exact belR | (with_reducible refine belAB ?_ ?_; focus (first | omega | (simp; done) | (simp; omega))) | (with_reducible refine belS ?_ ?_; focus (first | omega | (simp; done) | (simp; omega))) | with_reducible apply belN | with_reducible apply belD | with_reducible assumption))
      · go_wp2_with fail
        go_meet
        refine ⟨_, ao, cap, rfl, ?_, ?_, ?_, ?_, ?_, ?_, ?_⟩
        · exact hw3.set4
        · exact ((((HX.out.keep hq3).setOther (by omega)).setOther (by omega)).setOther (by omega)).setOther (by omega)
        · exact ((((HR.out.keep hq3).setOther (by omega)).setOther (by omega)).setOther (by omega)).setOther (by omega)
        · exact ((((hf3.setLow (by omega)).setLow (by omega)).setLow (by omega)).setLow (by omega)).mono (by omega)
        · intro hm
          have hz9 := hf3.ownlt _ hm
          omega
        · omega
        · have y := HB.out.trans (hq3.mono HB.out.size)
          exact (by repeat (first | with_reducible exact belR | (with_reducible refine belAB ?_ ?_; focus (first | omega | (simp; done) | (simp; omega))) | (with_reducible refine belS ?_ ?_; focus (first | omega | (simp; done) | (simp; omega))) | with_reducible apply belN | with_reducible apply belD | with_reducible assumption))
    case rest =>
      obtain ⟨kb, ao, cap, rfl, ho, hx, hr, hf, hap, hkb, hb⟩ := hcut
      clear c_HX z_HX f_HX
      clear HX HR HB
      have HO := Lib.hid ho
      have HX := Lib.hid hx
      have HR := Lib.hid hr
      have HF := Lib.hid hf
      have HB := Lib.hid hb
      have HP := Lib.hid hap
      clear ho hx hr hf hb hap
      have ⟨c_HX, z_HX, f_HX⟩ := HX.out
      have ⟨c_HO, z_HO, f_HO⟩ := HO.out
      go_wp2_with fail
      refine (specPushMAC _ _ s (sealBase s n d) _ (HH.out.below HB.out) (DPush.fmk (x := sealBase s n d) HF.out s0).reads hs (by show (encryptF _ d).length ≤ _; rw [encryptF_len]; exact hd)).mono ?_
      rintro e w5 ⟨rfl, hq⟩
      clear c_HX z_HX f_HX c_HO z_HO f_HO
      replace HX := Lib.hid (HX.out.keep hq)
      replace HR := Lib.hid (HR.out.keep hq)
      replace HO := Lib.hid (HO.out.keep hq)
      replace HF := Lib.hid (HF.out.below hq)
      replace HB := Lib.hid (HB.out.trans (hq.mono HB.out.size))
      clear hq
      have ⟨c_HR, z_HR, f_HR⟩ := HR.out
      have ⟨c_HO, z_HO, f_HO⟩ := HO.out
      go_wp2
      refine bodyPost_ret (v := .tuple #[.agg #[.string s.site, .int .i64 n, .slice ao d.length cap, .int .i64 (pushMACF s (sealBase s n d))], .bool true]) (by simp [results, Try.results142, go_sem, c_HR]) rfl ⟨_, by rw [H1.out], ?_, ?_⟩
      · rw [sealPushF, H1.out]
        exact DPush.fmk (x := sealOut s n d) (Fresh.mono (B := w.heap.size + 2) (by repeat (first | exact FlatR.byte.setApart HF.out HP.out | refine Fresh.setLow ?_ (by omega))) (by omega)) s0
      · have y := HB.out
        exact (by repeat (first | with_reducible exact belR | (with_reducible refine belAB ?_ ?_; focus (first | omega | (simp; done) | (simp; omega))) | (with_reducible refine belS ?_ ?_; focus (first | omega | (simp; done) | (simp; omega))) | with_reducible apply belN | with_reducible apply belD | with_reducible assumption))
  all_goals
    first | (have h4 := of_decide_eq_false h3) | skip
    have H1 : Hid (sealPushB s n d = false) := Lib.hid (by first | (rw [sealPushB, h1]; rfl) | (rw [sealPushB, h1, h2]; rfl) | (rw [sealPushB, h1, h2, h3]; rfl))
    go_wp2_with (go_at_call 52; refine (specIn _ _ _ _).mono ?_; rintro e w' ⟨rfl, rfl⟩)
    refine bodyPost_ret (v := .tuple #[.agg #[.string ⟨#[]⟩, .int .i64 0, .slice none 0 0, .int .i64 0], .bool false]) (by simp [results, Try.results142, go_sem, c_HR]) rfl ⟨_, by rw [H1.out], ?_, ?_⟩
    · rw [sealPushF, H1.out]
      exact DPush.fmk (x := noPush) Fresh.nil (by decide)
    · have y := HB.out
      exact (by repeat (first | with_reducible exact belR | (with_reducible refine belAB ?_ ?_; focus (first | omega | (simp; done) | (simp; omega))) | (with_reducible refine belS ?_ ?_; focus (first | omega | (simp; done) | (simp; omega))) | with_reducible apply belN | with_reducible apply belD | with_reducible assumption))


end Go.Proofs.Ytmknfobkfimggaa
