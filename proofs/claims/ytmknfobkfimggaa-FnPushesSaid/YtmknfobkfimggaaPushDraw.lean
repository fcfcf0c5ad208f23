/-
  The draws of FnPushes: l24Sub, l24Push, DrawPushMAC, DrawOpenPush.
-/
import Derived.Test.YtmknfobkfimggaaCur
import Derived.Test.YtmknfobkfimggaaDropOld
namespace Go.Proofs.Ytmknfobkfimggaa
open Go.RowKit

theorem site_small {x : ByteArray} (h : x ∈ [(⟨#[98, 97, 110, 107]⟩ : ByteArray), ⟨#[115, 104, 111, 112]⟩, ⟨#[110, 101, 119, 115]⟩]) : x.size ≤ 8 := by
  simp only [List.mem_cons, List.not_mem_nil, or_false] at h
  rcases h with rfl | rfl | rfl <;> decide

theorem seal_small (s : DSubscription) (n : Int) (d : List UInt8) (h : s.site.size ≤ 8) : (sealPushF s n d).site.size ≤ 8 ∧ (sealPushF s n d).data.length ≤ d.length := by
  unfold sealPushF
  split
  · exact ⟨h, Nat.le_of_eq (encryptF_len _ _)⟩
  · exact ⟨by decide, Nat.zero_le _⟩

set_option maxRecDepth 100000 in
set_option maxHeartbeats 1600000 in
theorem specSub (k : Kur) (w : World) (h : Cur w k) : Calls Try.prog 98 #[.pointer (some ⟨k.k, 0, none⟩)] w fun e w' => ∃ x : DSubscription, e = .returned (.agg #[.string x.site, .int .i64 x.secret, .int .i64 x.last]) ∧ x.site.size ≤ 8 ∧ Mov k w w' := by
  have hk := h.lt
  go_enter Try.func98, Try.ntmps98
  go_wp2_with fail
  refine (specSite k _ (h.below (by repeat (first | with_reducible exact belR | with_reducible apply belA | (with_reducible refine belS ?_ ?_; focus (first | omega | (simp; done) | (simp; omega))) | with_reducible apply belN | with_reducible apply belD | with_reducible assumption)))).mono ?_
  rintro e w1 ⟨a, rfl, ha, hm⟩
  have ha8 := site_small ha
  clear ha
  have HT : Hid (WB w1 w.heap.size #[.string ⟨#[]⟩, .int .i64 0, .int .i64 0]) := Lib.hid ((WB.at rfl).mov hm (by omega))
  have HM : Hid (Mov k w w1) := Lib.hid (Mov.belowL (by repeat (first | with_reducible exact belR | with_reducible apply belA | (with_reducible refine belS ?_ ?_; focus (first | omega | (simp; done) | (simp; omega))) | with_reducible apply belN | with_reducible apply belD | with_reducible assumption)) hm)
  clear hm
  go_wp2_with fail
  refine (specBelow k _ _ HM.out.2).mono ?_
  rintro e w2 ⟨b, rfl, hb0, hb1, hm⟩
  replace HT := Lib.hid (HT.out.mov hm (by omega))
  replace HM := Lib.hid (HM.out.trans hm)
  clear hm
  go_wp2_with fail
  refine (specBelow k _ _ HM.out.2).mono ?_
  rintro e w3 ⟨c, rfl, hc0, hc1, hm⟩
  replace HT := Lib.hid (HT.out.mov hm (by omega))
  replace HM := Lib.hid (HM.out.trans hm)
  clear hm
  have hz3 := HT.out.lt
  have hb2 := hb1 (by decide)
  have hc2 := hc1 (by decide)
  clear hb1 hc1
  go_wp2_with fail
  refine (specBelow k _ _ (HM.out.2.below (by repeat (first | with_reducible exact belR | with_reducible apply belA | (with_reducible refine belS ?_ ?_; focus (first | omega | (simp; done) | (simp; omega))) | with_reducible apply belN | with_reducible apply belD | with_reducible assumption)))).mono ?_
  rintro e w4 ⟨d, rfl, hd0, hd1, hm⟩
  clear hd1
  have HX : Hid (WB w4 w3.heap.size #[.string a, .int .i64 (1 + b), .int .i64 c]) := Lib.hid ((WB.at rfl).mov hm (by omega))
  replace HT := Lib.hid (HT.out.growA.mov hm (by omega))
  replace HM := Lib.hid (HM.out.trans (Mov.belowL (by repeat (first | with_reducible exact belR | with_reducible apply belA | (with_reducible refine belS ?_ ?_; focus (first | omega | (simp; done) | (simp; omega))) | with_reducible apply belN | with_reducible apply belD | with_reducible assumption)) hm))
  clear hm
  cases n0 : (d == 0)
  case' false => cases n1 : (d == 1)
  case false.false =>
    have ⟨c_HX, z_HX, f_HX⟩ := HX.out
    have ⟨c_HT, z_HT, f_HT⟩ := HT.out
    go_wp2
    refine bodyPost_ret (v := .agg #[.string a, .int .i64 (1 + b), .int .i64 c]) (by simp [results, Try.results98, go_sem, c_HT]) rfl ⟨⟨a, 1 + b, c⟩, rfl, ha8, HM.out.low (B := w.heap.size) (by repeat (first | with_reducible exact belR | (with_reducible refine belAB ?_ ?_; focus (first | omega | (simp; done) | (simp; omega))) | (with_reducible refine belS ?_ ?_; focus (first | omega | (simp; done) | (simp; omega))) | with_reducible apply belN | with_reducible apply belD | with_reducible assumption)) (Nat.le_refl _) hk⟩
  case' true =>
    have ⟨c_HX, z_HX, f_HX⟩ := HX.out
    have ⟨c_HT, z_HT, f_HT⟩ := HT.out
    go_wp2_with fail
    refine (specLitInt k [0, -1, 2147483646, 2147483647] _ HM.out.2 rfl rfl rfl (by decide) (by decide)).mono ?_
  case' false.true =>
    have ⟨c_HX, z_HX, f_HX⟩ := HX.out
    have ⟨c_HT, z_HT, f_HT⟩ := HT.out
    go_wp2_with fail
    refine (specLitInt k [-1, 999999, 1000000, 1000001] _ HM.out.2 rfl rfl rfl (by decide) (by decide)).mono ?_
  all_goals
    rintro e w5 ⟨x, rfl, hx, hm⟩
    clear hx
    clear c_HX z_HX f_HX c_HT z_HT f_HT
    have hz4 := HM.out.size
    replace HX := Lib.hid (HX.out.mov hm (by omega))
    replace HT := Lib.hid (HT.out.mov hm (by omega))
    replace HM := Lib.hid (HM.out.trans hm)
    clear hm
    have ⟨c_HX, z_HX, f_HX⟩ := HX.out
    have ⟨c_HT, z_HT, f_HT⟩ := HT.out
    go_wp2
  · refine bodyPost_ret (v := .agg #[.string a, .int .i64 (1 + b), .int .i64 x]) (by simp [results, Try.results98, go_sem, c_HT]) rfl ⟨⟨a, 1 + b, x⟩, rfl, ha8, HM.out.low (B := w.heap.size) (by repeat (first | with_reducible exact belR | (with_reducible refine belAB ?_ ?_; focus (first | omega | (simp; done) | (simp; omega))) | (with_reducible refine belS ?_ ?_; focus (first | omega | (simp; done) | (simp; omega))) | with_reducible apply belN | with_reducible apply belD | with_reducible assumption)) (Nat.le_refl _) hk⟩
  · refine bodyPost_ret (v := .agg #[.string a, .int .i64 x, .int .i64 c]) (by simp [results, Try.results98, go_sem, c_HT]) rfl ⟨⟨a, x, c⟩, rfl, ha8, HM.out.low (B := w.heap.size) (by repeat (first | with_reducible exact belR | (with_reducible refine belAB ?_ ?_; focus (first | omega | (simp; done) | (simp; omega))) | (with_reducible refine belS ?_ ?_; focus (first | omega | (simp; done) | (simp; omega))) | with_reducible apply belN | with_reducible apply belD | with_reducible assumption)) (Nat.le_refl _) hk⟩


-- gen
set_option maxRecDepth 100000 in
set_option maxHeartbeats 8000000 in
theorem specPush (k : Kur) (s : DSubscription) (w : World) (h : Cur w k) (hs : s.site.size ≤ 8) : Calls Try.prog 99 #[.pointer (some ⟨k.k, 0, none⟩), .agg #[.string s.site, .int .i64 s.secret, .int .i64 s.last]] w fun e w' => ∃ (ds : List Value) (p : DPush), e = .returned (.agg ds.toArray) ∧ Fresh DPush.rep w.heap.size w' ds p ∧ p.site.size ≤ 8 ∧ p.data.length ≤ 7 ∧ Mov k w w' := by
  have hk := h.lt
  have s0 : s.site.size ≤ maxLen := by unfold maxLen; omega
  have HRS : Hid (∀ W, Reads DSubscription.rep W [.string s.site, .int .i64 s.secret, .int .i64 s.last] s) := Lib.hid fun W => ⟨[], DSubscription.rd.2 ⟨rfl, rfl, s0⟩⟩
  go_enter Try.func99, Try.ntmps99
  go_upto_region 1 with fail
  refine settle (fun W => WB W w.heap.size #[.string s.site, .int .i64 s.secret, .int .i64 s.last] ∧ WB W (w.heap.size + 1) #[.string ⟨#[]⟩, .int .i64 0, .slice none 0 0, .int .i64 0] ∧ Mov k w W ∧ w.heap.size + 2 ≤ W.heap.size) ⟨(WB.at rfl).growA, WB.at (by simp), Mov.below (Mov.refl h) (by repeat (first | with_reducible exact belR | with_reducible apply belA | (with_reducible refine belS ?_ ?_; focus (first | omega | (simp; done) | (simp; omega))) | with_reducible apply belN | with_reducible apply belD | with_reducible assumption)), by simp⟩ ?_
  rintro w1 ⟨hx, ht, hm1, hz1⟩
  have ⟨cx, zx, fx⟩ := hx
  have hk1 : k.k < w1.heap.size := by omega
  have hq0 : Mov k w1 w1 := Mov.refl hm1.2
  have HS : Hid (∀ W', Mov k w1 W' → (∀ o, W'.cell? ⟨w.heap.size, o, none⟩ = #[.string s.site, .int .i64 s.secret, .int .i64 s.last][o]?) ∧ Mov k w1 W') := Lib.hid fun W' hW' => ⟨(hx.mov hW' (by omega)).cell, hW'⟩
  go_cut [5] (fun p W => ∃ (kb : Nat) (ao : Option Addr) (cap : Nat) (p' : DPush), p = .pointer (some ⟨kb, 0, none⟩) ∧ WB W kb #[.string p'.site, .int .i64 p'.number, .slice ao p'.data.length cap, .int .i64 p'.mac] ∧ Fresh (Rep.slice 5 Rep.byte) w1.heap.size W [.slice ao p'.data.length cap] p'.data ∧ p'.site.size ≤ 8 ∧ p'.data.length ≤ 6 ∧ kb ∉ (Value.slice ao p'.data.length cap).ownBlock.toList ∧ w1.heap.size ≤ kb ∧ Mov k w1 W)
  case first =>
    go_region_held3 (fun W' => (∀ o, W'.cell? ⟨w.heap.size, o, none⟩ = #[.string s.site, .int .i64 s.secret, .int .i64 s.last][o]?) ∧ Mov k w1 W')
      (first | exact HS.out _ (hq4.low (B := w1.heap.size) (by repeat (first | with_reducible exact belR | (with_reducible refine belAB ?_ ?_; focus (first | omega | (simp; done) | (simp; omega))) | (with_reducible refine belS ?_ ?_; focus (first | omega | (simp; done) | (simp; omega))) | with_reducible apply belN | with_reducible apply belD | with_reducible assumption)) (Nat.le_refl _) hk1) | exact HS.out _ (hq3.low (B := w1.heap.size) (by repeat (first | with_reducible exact belR | (with_reducible refine belAB ?_ ?_; focus (first | omega | (simp; done) | (simp; omega))) | (with_reducible refine belS ?_ ?_; focus (first | omega | (simp; done) | (simp; omega))) | with_reducible apply belN | with_reducible apply belD | with_reducible assumption)) (Nat.le_refl _) hk1) | exact HS.out _ (hq2.low (B := w1.heap.size) (by repeat (first | with_reducible exact belR | (with_reducible refine belAB ?_ ?_; focus (first | omega | (simp; done) | (simp; omega))) | (with_reducible refine belS ?_ ?_; focus (first | omega | (simp; done) | (simp; omega))) | with_reducible apply belN | with_reducible apply belD | with_reducible assumption)) (Nat.le_refl _) hk1) | exact HS.out _ (hq1.low (B := w1.heap.size) (by repeat (first | with_reducible exact belR | (with_reducible refine belAB ?_ ?_; focus (first | omega | (simp; done) | (simp; omega))) | (with_reducible refine belS ?_ ?_; focus (first | omega | (simp; done) | (simp; omega))) | with_reducible apply belN | with_reducible apply belD | with_reducible assumption)) (Nat.le_refl _) hk1) | exact HS.out _ (hq0.low (B := w1.heap.size) (by repeat (first | with_reducible exact belR | (with_reducible refine belAB ?_ ?_; focus (first | omega | (simp; done) | (simp; omega))) | (with_reducible refine belS ?_ ?_; focus (first | omega | (simp; done) | (simp; omega))) | with_reducible apply belN | with_reducible apply belD | with_reducible assumption)) (Nat.le_refl _) hk1))
      (first | (go_at_call 142; have hx := hq3; clear hx; have hS4 := ‹_ ∧ Mov k w1 _›; refine (specSealPush _ s _ _ l3 _ (HRS.out _) (hf3.reads.below (by repeat (first | with_reducible exact belR | with_reducible apply belA | (with_reducible refine belS ?_ ?_; focus (first | omega | (simp; done) | (simp; omega))) | with_reducible apply belN | with_reducible apply belD | with_reducible assumption))) (by omega) (by omega)).mono ?_; rintro e w5 ⟨ds, rfl, hf4, hb4⟩; have hm4 := Mov.below (Mov.refl hS4.2.2) hb4; have hq4 : Mov k w1 w5 := hS4.2.trans hm4; clear hS4; have hz4 := hq4.size; (first | (have hq := hwb3; clear hq; have hwb4 : WB w5 _ #[.string ⟨#[]⟩, .int .i64 0, .slice none 0 0, .int .i64 0] := (by with_reducible exact WB.mov hwb3 hm4 (by omega)); have ⟨we4, wl4, wf4⟩ := hwb4) | (have hwb4 : WB w5 w4.heap.size #[.string ⟨#[]⟩, .int .i64 0, .slice none 0 0, .int .i64 0] := (by with_reducible exact WB.mov (WB.at (Eq.refl _)) hm4 (by omega)); have ⟨we4, wl4, wf4⟩ := hwb4) | skip); obtain ⟨ao4, cp4, rfl, hf5⟩ := DPush.fopen hf4) | (go_at_call 143; have hx := hq2; clear hx; have hS3 := ‹_ ∧ Mov k w1 _›; refine (specDrawBytes k n2 _ hS3.2.2 (by omega)).mono ?_; rintro e w4 ⟨v3, l3, rfl, hf3, rfl, hm3⟩; have hq3 : Mov k w1 w4 := hS3.2.trans hm3; clear hS3; have hz3 := hq3.size; (first | (have hq := hwb2; clear hq; have hwb3 : WB w4 _ #[.string ⟨#[]⟩, .int .i64 0, .slice none 0 0, .int .i64 0] := (by with_reducible exact WB.mov hwb2 hm3 (by omega)); have ⟨we3, wl3, wf3⟩ := hwb3) | (have hwb3 : WB w4 w3.heap.size #[.string ⟨#[]⟩, .int .i64 0, .slice none 0 0, .int .i64 0] := (by with_reducible exact WB.mov (WB.at (Eq.refl _)) hm3 (by omega)); have ⟨we3, wl3, wf3⟩ := hwb3) | skip); obtain ⟨ao3, cp3, rfl⟩ := hf3.slice) | (go_at_call 85; have hx := hq1; clear hx; have hS2 := ‹_ ∧ Mov k w1 _›; refine (specBelow k _ _ hS2.2.2).mono ?_; rintro e w3 ⟨x2, rfl, x20, x21, hm2⟩; have hq2 : Mov k w1 w3 := hS2.2.trans hm2; clear hS2; have hz2 := hq2.size; (first | (have hq := hwb1; clear hq; have hwb2 : WB w3 _ #[.string ⟨#[]⟩, .int .i64 0, .slice none 0 0, .int .i64 0] := (by with_reducible exact WB.mov hwb1 hm2 (by omega)); have ⟨we2, wl2, wf2⟩ := hwb2) | (have hwb2 : WB w3 w2.heap.size #[.string ⟨#[]⟩, .int .i64 0, .slice none 0 0, .int .i64 0] := (by with_reducible exact WB.mov (WB.at (Eq.refl _)) hm2 (by omega)); have ⟨we2, wl2, wf2⟩ := hwb2) | skip); obtain ⟨n2, rfl⟩ := Int.eq_ofNat_of_zero_le x20; have x22 := x21 (by decide)) | (go_at_call 85; have hS1 := ‹_ ∧ Mov k w1 _›; refine (specBelow k _ _ hS1.2.2).mono ?_; rintro e w2 ⟨x1, rfl, x10, x11, hm1⟩; have hq1 : Mov k w1 w2 := hS1.2.trans hm1; clear hS1; have hz1 := hq1.size; (first | (have hwb1 : WB w2 w1.heap.size #[.string ⟨#[]⟩, .int .i64 0, .slice none 0 0, .int .i64 0] := (by with_reducible exact WB.mov (WB.growD (WB.at (Eq.refl _))) hm1 (by omega)); have ⟨we1, wl1, wf1⟩ := hwb1) | (have hwb1 : WB w2 w1.heap.size #[.string ⟨#[]⟩, .int .i64 0, .slice none 0 0, .int .i64 0] := (by with_reducible exact WB.mov (WB.at (Eq.refl _)) hm1 (by omega)); have ⟨we1, wl1, wf1⟩ := hwb1) | skip)))
    all_goals
      go_wp2_with fail
      go_meet
      have hH := ‹_ ∧ Mov k w1 _›
      have hsm := seal_small s (IntKind.i64.wrap (1 + x1)) l3 hs
      have hown := hf5.ownlt
      first
        | exact ⟨w5.heap.size, ao4, cp4, _, rfl, WB.at rfl, (hf5.below (belA belR)).mono (by first | omega | (simp; omega)), hsm.1, by omega, fun hm => by have := hown _ hm; omega, by omega, hH.2⟩
        | exact ⟨_, ao4, cp4, _, rfl, hwb4.set4, ((((hf5.setLow (by first | omega | (simp; done) | (simp; omega))).setLow (by first | omega | (simp; done) | (simp; omega))).setLow (by first | omega | (simp; done) | (simp; omega))).setLow (by first | omega | (simp; done) | (simp; omega))).mono (by first | omega | (simp; omega)), hsm.1, by omega, fun hm => by have y := hown _ hm; (try simp at y); omega, by omega, hH.2⟩
  case rest =>
    obtain ⟨kb, ap, cp, p, rfl, hbx, hf, hps, hpl, hnb, hkb, hm⟩ := hcut
    have HX := Lib.hid hbx
    have HT := Lib.hid (ht.mov hm (by omega))
    have HF := Lib.hid (hf.mono (B' := w.heap.size + 2) hz1)
    have HN := Lib.hid hnb
    have hz2 := hm.size
    have HM := Lib.hid (hm1.trans hm)
    clear hbx ht hf hnb hm hm1 hq0 HS cx zx fx hx HRS
    have ⟨c_HX, z_HX, f_HX⟩ := HX.out
    go_wp2_with fail
    refine (specBelow k _ _ HM.out.2).mono ?_
    rintro e w2 ⟨d, rfl, hd0, hd1, hm⟩
    clear hd1
    clear c_HX z_HX f_HX
    have hz3 := hm.size
    have hkz := HX.out.lt
    replace HX := Lib.hid (HX.out.mov hm (by omega))
    replace HT := Lib.hid (HT.out.mov hm (by omega))
    replace HF := Lib.hid (HF.out.mov hm (by omega))
    replace HM := Lib.hid (HM.out.trans hm)
    clear hm
    obtain ⟨M, hM⟩ : ∃ M, wrap64 (p.mac + 1) = M := ⟨_, rfl⟩
    obtain ⟨N, hN⟩ : ∃ N, wrap64 (p.number + 1) = N := ⟨_, rfl⟩
    cases n0 : (d == 0)
    case' false => cases n1 : (d == 1)
    case' false.false => cases n2 : (d == 2)
    case' false.false.false => cases n3 : (d == 3)
    case false.false.false.false =>
      have ⟨c_HX, z_HX, f_HX⟩ := HX.out
      have ⟨c_HT, z_HT, f_HT⟩ := HT.out
      go_upto_region 11 with fail
      refine settle (fun W => ∃ (p : DPush) (ap : Option Addr) (cp : Nat), WB W kb #[.string p.site, .int .i64 p.number, .slice ap p.data.length cp, .int .i64 p.mac] ∧ WB W (w.heap.size + 1) #[.string ⟨#[]⟩, .int .i64 0, .slice none 0 0, .int .i64 0] ∧ Fresh (Rep.slice 5 Rep.byte) (w.heap.size + 2) W [.slice ap p.data.length cp] p.data ∧ p.site.size ≤ 8 ∧ p.data.length ≤ 7 ∧ Mov k w W ∧ w.heap.size + 2 ≤ kb) ⟨p, ap, cp, HX.out.keep (by repeat (first | with_reducible exact belR | with_reducible apply belA | (with_reducible refine belS ?_ ?_; focus (first | omega | (simp; done) | (simp; omega))) | with_reducible apply belN | with_reducible apply belD | with_reducible assumption)), HT.out.keep (by repeat (first | with_reducible exact belR | with_reducible apply belA | (with_reducible refine belS ?_ ?_; focus (first | omega | (simp; done) | (simp; omega))) | with_reducible apply belN | with_reducible apply belD | with_reducible assumption)), HF.out.below (by repeat (first | with_reducible exact belR | with_reducible apply belA | (with_reducible refine belS ?_ ?_; focus (first | omega | (simp; done) | (simp; omega))) | with_reducible apply belN | with_reducible apply belD | with_reducible assumption)), by omega, by omega, HM.out.below (by repeat (first | with_reducible exact belR | with_reducible apply belA | (with_reducible refine belS ?_ ?_; focus (first | omega | (simp; done) | (simp; omega))) | with_reducible apply belN | with_reducible apply belD | with_reducible assumption)), by omega⟩ ?_
      clear c_HX z_HX f_HX c_HT z_HT f_HT
      clear HX HT HF HM HN hM hN hps hpl
      rintro w9 ⟨p, ap, cp, hx, ht, hf, hps, hpl, hm, hkb2⟩
      have HX := Lib.hid hx
      have HT := Lib.hid ht
      have ⟨c_HX, z_HX, f_HX⟩ := HX.out
      have ⟨c_HT, z_HT, f_HT⟩ := HT.out
      go_wp2
      refine bodyPost_ret (v := .agg #[.string p.site, .int .i64 p.number, .slice ap p.data.length cp, .int .i64 p.mac]) (by simp [results, Try.results99, go_sem, c_HT]) rfl ⟨_, p, rfl, ?_, hps, hpl, hm.low (B := w.heap.size) (by repeat (first | with_reducible exact belR | (with_reducible refine belAB ?_ ?_; focus (first | omega | (simp; done) | (simp; omega))) | (with_reducible refine belS ?_ ?_; focus (first | omega | (simp; done) | (simp; omega))) | with_reducible apply belN | with_reducible apply belD | with_reducible assumption)) (Nat.le_refl _) hk⟩
      exact DPush.fmk (Fresh.mono (B := w.heap.size + 2) (by repeat (first | with_reducible exact hf | with_reducible refine Fresh.setLow ?_ (by omega))) (by omega)) (by unfold maxLen; omega)
    case true =>
      have ⟨c_HX, z_HX, f_HX⟩ := HX.out
      have ⟨c_HT, z_HT, f_HT⟩ := HT.out
      go_upto_region 11 with fail
      refine settle (fun W => ∃ (p : DPush) (ap : Option Addr) (cp : Nat), WB W kb #[.string p.site, .int .i64 p.number, .slice ap p.data.length cp, .int .i64 p.mac] ∧ WB W (w.heap.size + 1) #[.string ⟨#[]⟩, .int .i64 0, .slice none 0 0, .int .i64 0] ∧ Fresh (Rep.slice 5 Rep.byte) (w.heap.size + 2) W [.slice ap p.data.length cp] p.data ∧ p.site.size ≤ 8 ∧ p.data.length ≤ 7 ∧ Mov k w W ∧ w.heap.size + 2 ≤ kb) ⟨⟨p.site, p.number, p.data, M⟩, ap, cp, HX.out.setAt (i := 3) (by simp) rfl, HT.out.setOther (by omega), (FlatR.byte.setApart HF.out HN.out), hps, by show p.data.length ≤ 7; omega, HM.out.low (B := w.heap.size) (by repeat (first | with_reducible exact belR | (with_reducible refine belAB ?_ ?_; focus (first | omega | (simp; done) | (simp; omega))) | (with_reducible refine belS ?_ ?_; focus (first | omega | (simp; done) | (simp; omega))) | with_reducible apply belN | with_reducible apply belD | with_reducible assumption)) (Nat.le_refl _) hk, by omega⟩ ?_
      clear c_HX z_HX f_HX c_HT z_HT f_HT
      clear HX HT HF HM HN hM hN hps hpl
      rintro w9 ⟨p, ap, cp, hx, ht, hf, hps, hpl, hm, hkb2⟩
      have HX := Lib.hid hx
      have HT := Lib.hid ht
      have ⟨c_HX, z_HX, f_HX⟩ := HX.out
      have ⟨c_HT, z_HT, f_HT⟩ := HT.out
      go_wp2
      refine bodyPost_ret (v := .agg #[.string p.site, .int .i64 p.number, .slice ap p.data.length cp, .int .i64 p.mac]) (by simp [results, Try.results99, go_sem, c_HT]) rfl ⟨_, p, rfl, ?_, hps, hpl, hm.low (B := w.heap.size) (by repeat (first | with_reducible exact belR | (with_reducible refine belAB ?_ ?_; focus (first | omega | (simp; done) | (simp; omega))) | (with_reducible refine belS ?_ ?_; focus (first | omega | (simp; done) | (simp; omega))) | with_reducible apply belN | with_reducible apply belD | with_reducible assumption)) (Nat.le_refl _) hk⟩
      exact DPush.fmk (Fresh.mono (B := w.heap.size + 2) (by repeat (first | with_reducible exact hf | with_reducible refine Fresh.setLow ?_ (by omega))) (by omega)) (by unfold maxLen; omega)
    case false.true =>
      have ⟨c_HX, z_HX, f_HX⟩ := HX.out
      have ⟨c_HT, z_HT, f_HT⟩ := HT.out
      go_upto_region 11 with fail
      refine settle (fun W => ∃ (p : DPush) (ap : Option Addr) (cp : Nat), WB W kb #[.string p.site, .int .i64 p.number, .slice ap p.data.length cp, .int .i64 p.mac] ∧ WB W (w.heap.size + 1) #[.string ⟨#[]⟩, .int .i64 0, .slice none 0 0, .int .i64 0] ∧ Fresh (Rep.slice 5 Rep.byte) (w.heap.size + 2) W [.slice ap p.data.length cp] p.data ∧ p.site.size ≤ 8 ∧ p.data.length ≤ 7 ∧ Mov k w W ∧ w.heap.size + 2 ≤ kb) ⟨⟨p.site, N, p.data, p.mac⟩, ap, cp, HX.out.setAt (i := 1) (by simp) rfl, HT.out.setOther (by omega), (FlatR.byte.setApart HF.out HN.out), hps, by show p.data.length ≤ 7; omega, HM.out.low (B := w.heap.size) (by repeat (first | with_reducible exact belR | (with_reducible refine belAB ?_ ?_; focus (first | omega | (simp; done) | (simp; omega))) | (with_reducible refine belS ?_ ?_; focus (first | omega | (simp; done) | (simp; omega))) | with_reducible apply belN | with_reducible apply belD | with_reducible assumption)) (Nat.le_refl _) hk, by omega⟩ ?_
      clear c_HX z_HX f_HX c_HT z_HT f_HT
      clear HX HT HF HM HN hM hN hps hpl
      rintro w9 ⟨p, ap, cp, hx, ht, hf, hps, hpl, hm, hkb2⟩
      have HX := Lib.hid hx
      have HT := Lib.hid ht
      have ⟨c_HX, z_HX, f_HX⟩ := HX.out
      have ⟨c_HT, z_HT, f_HT⟩ := HT.out
      go_wp2
      refine bodyPost_ret (v := .agg #[.string p.site, .int .i64 p.number, .slice ap p.data.length cp, .int .i64 p.mac]) (by simp [results, Try.results99, go_sem, c_HT]) rfl ⟨_, p, rfl, ?_, hps, hpl, hm.low (B := w.heap.size) (by repeat (first | with_reducible exact belR | (with_reducible refine belAB ?_ ?_; focus (first | omega | (simp; done) | (simp; omega))) | (with_reducible refine belS ?_ ?_; focus (first | omega | (simp; done) | (simp; omega))) | with_reducible apply belN | with_reducible apply belD | with_reducible assumption)) (Nat.le_refl _) hk⟩
      exact DPush.fmk (Fresh.mono (B := w.heap.size + 2) (by repeat (first | with_reducible exact hf | with_reducible refine Fresh.setLow ?_ (by omega))) (by omega)) (by unfold maxLen; omega)
    case false.false.true =>
      have ⟨c_HX, z_HX, f_HX⟩ := HX.out
      have ⟨c_HT, z_HT, f_HT⟩ := HT.out
      go_wp2_with fail
      refine (specSite k _ HM.out.2).mono ?_
      rintro e w3 ⟨x, rfl, hx, hm⟩
      clear c_HX z_HX f_HX c_HT z_HT f_HT
      have hz4 := hm.size
      replace HX := Lib.hid (HX.out.mov hm (by omega))
      replace HT := Lib.hid (HT.out.mov hm (by omega))
      replace HF := Lib.hid (HF.out.mov hm (by omega))
      replace HM := Lib.hid (HM.out.trans hm)
      clear hm
      have ⟨c_HX, z_HX, f_HX⟩ := HX.out
      have ⟨c_HT, z_HT, f_HT⟩ := HT.out
      go_upto_region 11 with fail
      refine settle (fun W => ∃ (p : DPush) (ap : Option Addr) (cp : Nat), WB W kb #[.string p.site, .int .i64 p.number, .slice ap p.data.length cp, .int .i64 p.mac] ∧ WB W (w.heap.size + 1) #[.string ⟨#[]⟩, .int .i64 0, .slice none 0 0, .int .i64 0] ∧ Fresh (Rep.slice 5 Rep.byte) (w.heap.size + 2) W [.slice ap p.data.length cp] p.data ∧ p.site.size ≤ 8 ∧ p.data.length ≤ 7 ∧ Mov k w W ∧ w.heap.size + 2 ≤ kb) ⟨⟨x, p.number, p.data, p.mac⟩, ap, cp, HX.out.setAt (i := 0) (by simp) rfl, HT.out.setOther (by omega), (FlatR.byte.setApart HF.out HN.out), site_small hx, by show p.data.length ≤ 7; omega, HM.out.low (B := w.heap.size) (by repeat (first | with_reducible exact belR | (with_reducible refine belAB ?_ ?_; focus (first | omega | (simp; done) | (simp; omega))) | (with_reducible refine belS ?_ ?_; focus (first | omega | (simp; done) | (simp; omega))) | with_reducible apply belN | with_reducible apply belD | with_reducible assumption)) (Nat.le_refl _) hk, by omega⟩ ?_
      clear c_HX z_HX f_HX c_HT z_HT f_HT
      clear HX HT HF HM HN hM hN hps hpl
      rintro w9 ⟨p, ap, cp, hx, ht, hf, hps, hpl, hm, hkb2⟩
      have HX := Lib.hid hx
      have HT := Lib.hid ht
      have ⟨c_HX, z_HX, f_HX⟩ := HX.out
      have ⟨c_HT, z_HT, f_HT⟩ := HT.out
      go_wp2
      refine bodyPost_ret (v := .agg #[.string p.site, .int .i64 p.number, .slice ap p.data.length cp, .int .i64 p.mac]) (by simp [results, Try.results99, go_sem, c_HT]) rfl ⟨_, p, rfl, ?_, hps, hpl, hm.low (B := w.heap.size) (by repeat (first | with_reducible exact belR | (with_reducible refine belAB ?_ ?_; focus (first | omega | (simp; done) | (simp; omega))) | (with_reducible refine belS ?_ ?_; focus (first | omega | (simp; done) | (simp; omega))) | with_reducible apply belN | with_reducible apply belD | with_reducible assumption)) (Nat.le_refl _) hk⟩
      exact DPush.fmk (Fresh.mono (B := w.heap.size + 2) (by repeat (first | with_reducible exact hf | with_reducible refine Fresh.setLow ?_ (by omega))) (by omega)) (by unfold maxLen; omega)
    case false.false.false.true =>
      obtain ⟨i0, hi, hz0, hz8, hz9⟩ := info_parts Try.infoByte
      have HB := HM
      have ⟨c_HX, z_HX, f_HX⟩ := HX.out
      have ⟨c_HT, z_HT, f_HT⟩ := HT.out
      go_wp2_with (at_builtin; (refine wpList_pushC _ rfl _ _ 22 22 rfl FlatR.byte (w.heap.size + 2) 5 i0 _ 1 Try.underlying22 Try.underlying22 hi hz0 hz8 hz9 rfl _ p.data rfl (HF.out.below (by repeat (first | with_reducible exact belR | with_reducible apply belA | (with_reducible refine belS ?_ ?_; focus (first | omega | (simp; done) | (simp; omega))) | with_reducible apply belN | with_reducible apply belD | with_reducible assumption))) (7 : UInt8) _ _ _ rfl ?p0 rfl trivial ?p1 ?p2 ?p3 ?_))
      case p0 => first | rfl | simp
      case p1 => omega
      case p2 => decide
      case p3 => have y := HM.out.size; omega
      intro ao2 cap2 w5 hf2 hg2 hnew
      have hown := HF.out.ownlt
      have hc5 : Chg (Value.slice ap p.data.length cp).ownBlock.toList w2 w5 := (Chg.of_below (B := w2.heap.size) (by repeat (first | with_reducible exact belR | with_reducible apply belA | (with_reducible refine belS ?_ ?_; focus (first | omega | (simp; done) | (simp; omega))) | with_reducible apply belN | with_reducible apply belD | with_reducible assumption)) (Nat.le_refl _)).trans (Chg.of_grown hg2)
      have hn2 : kb ∉ (Value.slice ao2 (p.data.length + 1) cap2).ownBlock.toList := fun hm => by
        rcases hnew kb (by simpa using hm) with e | e
        · exact HN.out (by simp [e])
        · have := HX.out.lt; omega
      clear c_HX z_HX f_HX c_HT z_HT f_HT
      have HX2 := Lib.hid (HX.out.chg hc5 HN.out)
      have HT2 := Lib.hid (HT.out.chg hc5 (fun hm => by have := hown _ hm; omega))
      have HM2 := Lib.hid (HM.out.low (hc5.below (B := w.heap.size) (fun b hb => by have := hown b hb; omega) HM.out.size) (Nat.le_refl _) hk)
      have HF2 := Lib.hid hf2
      clear HX HT HM HF HB hf2 hg2 hnew hc5 hown
      have ⟨c_HX2, z_HX2, f_HX2⟩ := HX2.out
      have ⟨c_HT2, z_HT2, f_HT2⟩ := HT2.out
      go_upto_region 11 with fail
      refine settle (fun W => ∃ (p : DPush) (ap : Option Addr) (cp : Nat), WB W kb #[.string p.site, .int .i64 p.number, .slice ap p.data.length cp, .int .i64 p.mac] ∧ WB W (w.heap.size + 1) #[.string ⟨#[]⟩, .int .i64 0, .slice none 0 0, .int .i64 0] ∧ Fresh (Rep.slice 5 Rep.byte) (w.heap.size + 2) W [.slice ap p.data.length cp] p.data ∧ p.site.size ≤ 8 ∧ p.data.length ≤ 7 ∧ Mov k w W ∧ w.heap.size + 2 ≤ kb) ⟨⟨p.site, p.number, p.data ++ [7], p.mac⟩, ao2, cap2, by rw [show (p.data ++ [(7 : UInt8)]).length = p.data.length + 1 by simp]; exact HX2.out.setAt (i := 2) (by simp) rfl, HT2.out.setOther (by omega), by rw [show (p.data ++ [(7 : UInt8)]).length = p.data.length + 1 by simp]; exact FlatR.byte.setApart HF2.out hn2, hps, by show (p.data ++ [(7 : UInt8)]).length ≤ 7; simp; omega, HM2.out.low (B := w.heap.size) (by repeat (first | with_reducible exact belR | (with_reducible refine belAB ?_ ?_; focus (first | omega | (simp; done) | (simp; omega))) | (with_reducible refine belS ?_ ?_; focus (first | omega | (simp; done) | (simp; omega))) | with_reducible apply belN | with_reducible apply belD | with_reducible assumption)) (Nat.le_refl _) hk, by omega⟩ ?_
      clear c_HX2 z_HX2 f_HX2 c_HT2 z_HT2 f_HT2
      clear HX2 HT2 HF2 HM2 HN hn2 hM hN hps hpl
      rintro w9 ⟨p, ap, cp, hx, ht, hf, hps, hpl, hm, hkb2⟩
      have HX := Lib.hid hx
      have HT := Lib.hid ht
      have ⟨c_HX, z_HX, f_HX⟩ := HX.out
      have ⟨c_HT, z_HT, f_HT⟩ := HT.out
      go_wp2
      refine bodyPost_ret (v := .agg #[.string p.site, .int .i64 p.number, .slice ap p.data.length cp, .int .i64 p.mac]) (by simp [results, Try.results99, go_sem, c_HT]) rfl ⟨_, p, rfl, ?_, hps, hpl, hm.low (B := w.heap.size) (by repeat (first | with_reducible exact belR | (with_reducible refine belAB ?_ ?_; focus (first | omega | (simp; done) | (simp; omega))) | (with_reducible refine belS ?_ ?_; focus (first | omega | (simp; done) | (simp; omega))) | with_reducible apply belN | with_reducible apply belD | with_reducible assumption)) (Nat.le_refl _) hk⟩
      exact DPush.fmk (Fresh.mono (B := w.heap.size + 2) (by repeat (first | with_reducible exact hf | with_reducible refine Fresh.setLow ?_ (by omega))) (by omega)) (by unfold maxLen; omega)

theorem DPush.fshape' {B : Nat} {w : World} {cs : List Value} {p : DPush} (h : Fresh DPush.rep B w cs p) : ∃ ap cp, cs = [.string p.site, .int .i64 p.number, .slice ap p.data.length cp, .int .i64 p.mac] := by
  obtain ⟨ap, cp, rfl, _⟩ := DPush.fopen h
  exact ⟨ap, cp, rfl⟩

set_option maxRecDepth 100000 in
set_option maxHeartbeats 4000000 in
theorem specDrawMAC (v : Value) (l : List UInt8) (w : World) (h : Reads Rep.bytes w [v] l) (hl : l.length ≤ 1048576) : Calls Try.prog 50 #[v] w fun e w' => ∃ (x : DSubscription) (p : DPush) (ap : Option Addr) (cp : Nat), e = .returned (.tuple #[.agg #[.string x.site, .int .i64 x.secret, .int .i64 x.last], .agg #[.string p.site, .int .i64 p.number, .slice ap p.data.length cp, .int .i64 p.mac]]) ∧ Fresh DPush.rep w.heap.size w' [.string p.site, .int .i64 p.number, .slice ap p.data.length cp, .int .i64 p.mac] p ∧ x.site.size ≤ 8 ∧ p.site.size ≤ 8 ∧ p.data.length ≤ 7 ∧ Below w.heap.size w w' := by
  go_enter Try.func50, Try.ntmps50
  go_wp2_with fail
  refine (specNew v l _ w.heap.size (h.lo (by repeat (first | with_reducible exact belR | with_reducible apply belA | (with_reducible refine belS ?_ ?_; focus (first | omega | (simp; done) | (simp; omega))) | with_reducible apply belN | with_reducible apply belD | with_reducible assumption))) (by simp; omega) hl).mono ?_
  rintro e w1 ⟨k, rfl, hk0, hkb, hcur, hb⟩
  have HT : Hid (WB w1 w.heap.size #[.string ⟨#[]⟩, .int .i64 0, .int .i64 0]) := Lib.hid (((WB.at rfl).growA).keep hb)
  have HU : Hid (WB w1 (w.heap.size + 1) #[.string ⟨#[]⟩, .int .i64 0, .slice none 0 0, .int .i64 0]) := Lib.hid ((WB.at (by simp)).keep hb)
  have HB : Hid (Below w.heap.size w w1) := Lib.hid (below_call (by repeat (first | with_reducible exact belR | with_reducible apply belA | (with_reducible refine belS ?_ ?_; focus (first | omega | (simp; done) | (simp; omega))) | with_reducible apply belN | with_reducible apply belD | with_reducible assumption)) (by first | omega | (simp; done) | (simp; omega)) hb)
  have hk : w.heap.size + 2 ≤ k.k := by (try simp at hk0); omega
  have hkw := hcur.lt
  clear hb hk0
  go_wp2_with fail
  refine (specSub k _ hcur).mono ?_
  rintro e w2 ⟨x, rfl, hxs, hm⟩
  replace HT := Lib.hid (HT.out.mov hm (by omega))
  replace HU := Lib.hid (HU.out.mov hm (by omega))
  replace HB := Lib.hid (HB.out.trans (hm.toBelow (B := w.heap.size) (by omega) hkw))
  have hz2 := hm.size
  go_upto_region 3 with fail
  refine settle (fun W => WB W w.heap.size #[.string ⟨#[]⟩, .int .i64 0, .int .i64 0] ∧ WB W (w.heap.size + 1) #[.string ⟨#[]⟩, .int .i64 0, .slice none 0 0, .int .i64 0] ∧ WB W w2.heap.size #[.string x.site, .int .i64 x.secret, .int .i64 x.last] ∧ Below w.heap.size w W ∧ Cur W k ∧ w2.heap.size < W.heap.size) ⟨HT.out.growA, HU.out.growA, WB.at rfl, (by have y := HB.out; exact (by repeat (first | with_reducible exact belR | (with_reducible refine belAB ?_ ?_; focus (first | omega | (simp; done) | (simp; omega))) | (with_reducible refine belS ?_ ?_; focus (first | omega | (simp; done) | (simp; omega))) | with_reducible apply belN | with_reducible apply belD | with_reducible assumption))), hm.2.below (by repeat (first | with_reducible exact belR | with_reducible apply belA | (with_reducible refine belS ?_ ?_; focus (first | omega | (simp; done) | (simp; omega))) | with_reducible apply belN | with_reducible apply belD | with_reducible assumption)), by simp⟩ ?_
  clear HT HU HB hm
  rintro w3 ⟨ht, hu, hx, hb, hc, hz3⟩
  have ⟨cx, zx, fx⟩ := hx
  have ⟨ct, zt, ft⟩ := ht
  have ⟨cu, zu, fu⟩ := hu
  have hk3 : k.k < w3.heap.size := hc.lt
  have HS : Hid (∀ W', WB W' w2.heap.size #[.string x.site, .int .i64 x.secret, .int .i64 x.last] → (∀ o, W'.cell? ⟨w2.heap.size, o, none⟩ = #[.string x.site, .int .i64 x.secret, .int .i64 x.last][o]?)) := Lib.hid fun W' hW' => hW'.cell
  go_cut [] from 10 to 13 (fun W => ∃ (p : DPush) (ap : Option Addr) (cp : Nat), WB W w.heap.size #[.string x.site, .int .i64 x.secret, .int .i64 x.last] ∧ WB W (w.heap.size + 1) #[.string p.site, .int .i64 p.number, .slice ap p.data.length cp, .int .i64 p.mac] ∧ Fresh DPush.rep (w.heap.size + 2) W [.string p.site, .int .i64 p.number, .slice ap p.data.length cp, .int .i64 p.mac] p ∧ p.site.size ≤ 8 ∧ p.data.length ≤ 7 ∧ Below w.heap.size w W)
  case first =>
    go_region_held3 (fun W' => ∀ o, W'.cell? ⟨w2.heap.size, o, none⟩ = #[.string x.site, .int .i64 x.secret, .int .i64 x.last][o]?)
      (first
        | (refine HS.out _ ?_; (repeat (first | with_reducible exact hx4 | with_reducible refine WB.setOther ?_ (by omega) | with_reducible refine WB.growD ?_)); done)
        | (refine HS.out _ ?_; (repeat (first | with_reducible exact hx | with_reducible refine WB.setOther ?_ (by omega) | with_reducible refine WB.growD ?_)); done))
      (first | (go_at_call 99; refine (specPush k x _ (by repeat (first | with_reducible exact hc | with_reducible refine Cur.set ?_ (by omega) (by omega) | with_reducible refine Cur.below ?_ (belD belR))) hxs).mono ?_; rintro e w4 ⟨ds, p, rfl, hf, hps, hpl, hm⟩; obtain ⟨ap, cp, rfl⟩ := DPush.fshape' hf; have hx4 : WB w4 w2.heap.size #[.string x.site, .int .i64 x.secret, .int .i64 x.last] := WB.mov (by (repeat (first | with_reducible exact hx | with_reducible refine WB.setOther ?_ (by omega) | with_reducible refine WB.growD ?_)); done) hm (by omega); (first | (have ht4 : WB w4 w.heap.size #[.string ⟨#[]⟩, .int .i64 0, .int .i64 0] := (by with_reducible exact WB.mov ht.growD hm (by omega))) | (have ht4 : WB w4 w.heap.size #[.string x.site, .int .i64 x.secret, .int .i64 x.last] := (by with_reducible exact WB.mov ht.growD.set3 hm (by omega)))); (first | (have hu4 : WB w4 (w.heap.size + 1) #[.string ⟨#[]⟩, .int .i64 0, .slice none 0 0, .int .i64 0] := (by with_reducible exact WB.mov hu.growD hm (by omega))) | (have hu4 : WB w4 (w.heap.size + 1) #[.string ⟨#[]⟩, .int .i64 0, .slice none 0 0, .int .i64 0] := (by with_reducible exact WB.mov (((hu.growD.setOther (by omega)).setOther (by omega)).setOther (by omega)) hm (by omega)))); have ⟨ct4, zt4, ft4⟩ := ht4; have ⟨cu4, zu4, fu4⟩ := hu4; have hz4 := hm.size; have hb4 : Below w.heap.size w w4 := Below.trans (by have y := hb; exact (by repeat (first | with_reducible exact belR | (with_reducible refine belAB ?_ ?_; focus (first | omega | (simp; done) | (simp; omega))) | (with_reducible refine belS ?_ ?_; focus (first | omega | (simp; done) | (simp; omega))) | with_reducible apply belN | with_reducible apply belD | with_reducible assumption))) (hm.toBelow (B := w.heap.size) (by omega) (by first | omega | (simp; omega)))))
    all_goals
      go_wp2_with fail
      go_meet
      have y := hb4
      exact ⟨p, ap, cp, ((((ht4.set3).setOther (by omega)).setOther (by omega)).setOther (by omega)).setOther (by omega), (((hu4.setOther (by omega)).setOther (by omega)).setOther (by omega)).set4, Fresh.mono (B := w.heap.size + 2) (by repeat (first | with_reducible exact (hf.mono (B' := w.heap.size + 2) (by first | omega | (simp; omega))) | with_reducible refine Fresh.setLow ?_ (by omega))) (Nat.le_refl _), hps, hpl, (by repeat (first | with_reducible exact belR | (with_reducible refine belAB ?_ ?_; focus (first | omega | (simp; done) | (simp; omega))) | (with_reducible refine belS ?_ ?_; focus (first | omega | (simp; done) | (simp; omega))) | with_reducible apply belN | with_reducible apply belD | with_reducible assumption))⟩
  case rest =>
    obtain ⟨p, ap, cp, h2, h3, hf, hps, hpl, hbb⟩ := hcut
    have c2 := h2.cell
    have c3 := h3.cell
    go_wp2
    exact bodyPost_ret (v := .tuple #[.agg #[.string x.site, .int .i64 x.secret, .int .i64 x.last], .agg #[.string p.site, .int .i64 p.number, .slice ap p.data.length cp, .int .i64 p.mac]]) (by simp [results, Try.results50, go_sem, c2, c3]) rfl ⟨x, p, ap, cp, rfl, hf.mono (by omega), hxs, hps, hpl, hbb⟩

set_option maxRecDepth 100000 in
set_option maxHeartbeats 1600000 in
theorem specDrawOpen (v : Value) (l : List UInt8) (w : World) (h : Reads Rep.bytes w [v] l) (hl : l.length ≤ 1048576) : Calls Try.prog 12 #[v] w fun e w' => ∃ (x : DSubscription) (p : DPush) (ap : Option Addr) (cp : Nat), e = .returned (.tuple #[.agg #[.string x.site, .int .i64 x.secret, .int .i64 x.last], .agg #[.string p.site, .int .i64 p.number, .slice ap p.data.length cp, .int .i64 p.mac]]) ∧ Fresh DPush.rep w.heap.size w' [.string p.site, .int .i64 p.number, .slice ap p.data.length cp, .int .i64 p.mac] p ∧ x.site.size ≤ 8 ∧ p.site.size ≤ 8 ∧ p.data.length ≤ 7 ∧ Below w.heap.size w w' := by
  go_enter Try.func12, Try.ntmps12
  go_wp2_with fail
  refine (specDrawMAC v l _ (h.below (by repeat (first | with_reducible exact belR | with_reducible apply belA | (with_reducible refine belS ?_ ?_; focus (first | omega | (simp; done) | (simp; omega))) | with_reducible apply belN | with_reducible apply belD | with_reducible assumption))) hl).mono ?_
  rintro e w1 ⟨x, p, ap, cp, rfl, hf, hxs, hps, hpl, hb⟩
  have HT : Hid (WB w1 w.heap.size #[.string ⟨#[]⟩, .int .i64 0, .int .i64 0]) := Lib.hid (((WB.at rfl).growA).keep hb)
  have HU : Hid (WB w1 (w.heap.size + 1) #[.string ⟨#[]⟩, .int .i64 0, .slice none 0 0, .int .i64 0]) := Lib.hid ((WB.at (by simp)).keep hb)
  have HB : Hid (Below w.heap.size w w1) := Lib.hid (below_call (by repeat (first | with_reducible exact belR | with_reducible apply belA | (with_reducible refine belS ?_ ?_; focus (first | omega | (simp; done) | (simp; omega))) | with_reducible apply belN | with_reducible apply belD | with_reducible assumption)) (by first | omega | (simp; done) | (simp; omega)) hb)
  have HF : Hid (Fresh DPush.rep (w.heap.size + 2) w1 [.string p.site, .int .i64 p.number, .slice ap p.data.length cp, .int .i64 p.mac] p) := Lib.hid (hf.mono (by simp))
  clear hf hb
  have ⟨c_HT, z_HT, f_HT⟩ := HT.out
  have ⟨c_HU, z_HU, f_HU⟩ := HU.out
  go_wp2
  refine bodyPost_ret (v := .tuple #[.agg #[.string x.site, .int .i64 x.secret, .int .i64 x.last], .agg #[.string p.site, .int .i64 p.number, .slice ap p.data.length cp, .int .i64 p.mac]]) (by simp [results, Try.results12, go_sem, c_HT, c_HU]) rfl ⟨x, p, ap, cp, rfl, Fresh.mono (B := w.heap.size + 2) (by repeat (first | with_reducible exact HF.out | with_reducible refine Fresh.setLow ?_ (by omega))) (by omega), hxs, hps, hpl, ?_⟩
  have y := HB.out
  exact (by repeat (first | with_reducible exact belR | (with_reducible refine belAB ?_ ?_; focus (first | omega | (simp; done) | (simp; omega))) | (with_reducible refine belS ?_ ?_; focus (first | omega | (simp; done) | (simp; omega))) | with_reducible apply belN | with_reducible apply belD | with_reducible assumption))


end Go.Proofs.Ytmknfobkfimggaa
