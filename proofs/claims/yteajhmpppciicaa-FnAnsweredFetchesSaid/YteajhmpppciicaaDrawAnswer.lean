/-
  spec.DrawAnswerFetch.
-/
import Derived.Test.YteajhmpppciicaaInstall
import Derived.Test.YteajhmpppciicaaAnyCaches
import Derived.Test.YteajhmpppciicaaDrawVersion
namespace Go.Proofs.Yteajhmpppciicaa
open Go.RowKit

set_option maxRecDepth 100000 in
set_option maxHeartbeats 6400000 in
theorem specDrawAnswer (v : Value) (l : List UInt8) (w : World) (h : Reads Rep.bytes w [v] l) (hl : l.length ≤ 1048576) : Calls Try.prog 14 #[v] w fun e w' => ∃ (s : DCacheSet) (x : DSite) (ver : Int) (path : ByteArray) (on : Bool) (a : Option Addr) (c : Nat) (sa : Option Addr) (sc : Nat), e = .returned (.tuple #[.agg #[.slice a s.caches.length c], .agg #[.string x.name, .int .i64 x.version, .slice sa x.files.length sc, .bool x.shared], .int .i64 ver, .string path, .bool on]) ∧ Reads DCacheSet.rep w' [.slice a s.caches.length c] s ∧ Reads DSite.rep w' [.string x.name, .int .i64 x.version, .slice sa x.files.length sc, .bool x.shared] x ∧ SetLe 8 8 s ∧ x.name.size ≤ 20 ∧ path.size ≤ 20 ∧ Below w.heap.size w w' := by
  have HK := Lib.hid h
  clear h
  go_enter Try.func14, Try.ntmps14
  go_wp2_with fail
  refine (specNew v l _ w.heap.size (HK.out.lo (by repeat (first | with_reducible exact belR | with_reducible apply belA | (with_reducible refine belS ?_ ?_; focus (first | omega | (simp; done) | (simp; omega))) | with_reducible apply belN | with_reducible apply belD | with_reducible assumption))) (by simp; omega) hl).mono ?_
  rintro e w1 ⟨k, rfl, hk, hkb, hc, hb⟩
  simp at hk
  have HT : Hid (WB w1 w.heap.size #[.slice none 0 0]) := Lib.hid (((WB.at rfl).growA).keep hb)
  have HU : Hid (WB w1 (w.heap.size + 1) #[.string ⟨#[]⟩, .int .i64 0, .slice none 0 0, .bool false]) := Lib.hid ((WB.at (by simp)).keep hb)
  have HB : Hid (Below w.heap.size w w1) := Lib.hid (below_call (by repeat (first | with_reducible exact belR | with_reducible apply belA | (with_reducible refine belS ?_ ?_; focus (first | omega | (simp; done) | (simp; omega))) | with_reducible apply belN | with_reducible apply belD | with_reducible assumption)) (by first | omega | (simp; done) | (simp; omega)) hb)
  have hzb := HB.out.size
  have hc1 := hc.lt
  clear hb
  go_wp2_with fail
  refine (specAnySite k _ hc).mono ?_
  rintro e w2 ⟨x, sa, sc, rfl, hf, hx1, hx2, hx3, hm⟩
  have HFs := Lib.hid hx3
  replace HT := Lib.hid (HT.out.mov hm (by omega))
  replace HU := Lib.hid (HU.out.mov hm (by omega))
  have HM : Hid (Mov k w1 w2) := Lib.hid hm
  have hz2 := hm.size
  clear hm hx3
  go_upto_region 3 with fail
  refine settle (fun W => ∃ kx, kx = w2.heap.size ∧ WB W kx #[.string x.name, .int .i64 x.version, .slice sa x.files.length sc, .bool x.shared] ∧ WB W w.heap.size #[.slice none 0 0] ∧ WB W (w.heap.size + 1) #[.string ⟨#[]⟩, .int .i64 0, .slice none 0 0, .bool false] ∧ Owns DSite.rep w1.heap.size [kx] W [.string x.name, .int .i64 x.version, .slice sa x.files.length sc, .bool x.shared] x ∧ Mov k w1 W) ⟨_, rfl, WB.at rfl, HT.out.growA, HU.out.growA, (Owns.of (K := [w2.heap.size]) hf (Nat.le_refl _) (by intro b hb; simp at hb; omega)).below (belA belR), HM.out.below (by repeat (first | with_reducible exact belR | with_reducible apply belA | (with_reducible refine belS ?_ ?_; focus (first | omega | (simp; done) | (simp; omega))) | with_reducible apply belN | with_reducible apply belD | with_reducible assumption))⟩ ?_
  clear HT HU HM hf
  rintro w3 ⟨kx, hkx, hx, ht, hu, hf, hm⟩
  rw [← hkx]
  have hkk : w.heap.size + 2 ≤ w1.heap.size ∧ w1.heap.size ≤ kx ∧ k.k < w1.heap.size ∧ w.heap.size + 2 ≤ k.k := by omega
  have HX := Lib.hid hx
  have HT := Lib.hid ht
  have HU := Lib.hid hu
  have HF := Lib.hid hf
  have HM := Lib.hid hm
  clear hx ht hu hf hm hkx hz2
  go_upto_region 3 with fail
  refine wp_region_mv k [] (by kernel_rfl) ?_
  intro wd hbd
  have hwz := hbd.size
  replace HX := Lib.hid (HX.out.keep hbd)
  replace HT := Lib.hid (HT.out.keep hbd)
  replace HU := Lib.hid (HU.out.keep hbd)
  replace HF := Lib.hid (HF.out.below hbd)
  replace HM := Lib.hid (HM.out.below hbd)
  clear hbd
  have hne : Nonempty (Moved k wd) := ⟨⟨wd, Mov.refl HM.out.cur⟩⟩
  have K_HX := mv_var (k := k) HX.out (by omega)
  refine wpU_group (fun _ _ _ _ _ h => h) (by kernel_rfl) (mv_of (Mov.refl HM.out.cur)) [0,1,2] _ _ _ rfl (by kernel_rfl) ?_
  repeat (go_big_quiet_step (fail))
  refine wpQuiet_nil ?_
  clear K_HX
  refine wpU_one 3 rfl (by kernel_rfl) ?_
  go_wp2_with fail
  refine (specBelow k _ _ HM.out.cur).mono ?_
  rintro e w4 ⟨d, rfl, _, _, hm⟩
  go_wp2_with fail
  refine HardPost.mk (mv_of (hm)) ?_
  refine wpU_group (fun _ _ _ _ _ h => h) (by kernel_rfl) (mv_of (hm)) [4,5,6] _ _ _ rfl (by kernel_rfl) ?_
  repeat (go_big_quiet_step (fail))
  refine wpQuiet_nil ?_
  refine wpU_tail [] _ _ _ _ rfl (by kernel_rfl) ?_
  go_wp2_with fail
  refine NoPanic.normal ?_
  have hz3 := HX.out.lt
  replace HX := Lib.hid (HX.out.mov hm (by omega))
  replace HT := Lib.hid (HT.out.mov hm (by omega))
  replace HU := Lib.hid (HU.out.mov hm (by omega))
  replace HF := Lib.hid (HF.out.movL hm (by omega))
  replace HM := Lib.hid (HM.out.trans hm)
  have hz4 := hm.size
  clear hm hne
  have ⟨c_HX, z_HX, f_HX⟩ := HX.out
  go_wp2_with fail
  refine (specInstallFiles _ _ ⟨[]⟩ x _ _ (Fresh.nil (B := 0)).reads (HF.out.reads) 0 0 ⟨Nat.zero_le _, fun c hc => by simp at hc⟩ (by omega) (by omega) hx1 hx2 HFs.out).mono ?_
  rintro e w5 ⟨y, b, a, c, rfl, hg, hle, hb⟩
  clear c_HX z_HX f_HX
  have hz5 := hb.size
  replace HX := Lib.hid (HX.out.keep hb)
  replace HT := Lib.hid (HT.out.keep hb)
  replace HU := Lib.hid (HU.out.keep hb)
  replace HF := Lib.hid (HF.out.below hb)
  replace HM := Lib.hid (HM.out.below hb)
  clear hb
  go_upto_region 5 with fail
  refine settle (fun W => ∃ ks, ks = w5.heap.size ∧ WB W ks #[.slice a y.caches.length c] ∧ WB W kx #[.string x.name, .int .i64 x.version, .slice sa x.files.length sc, .bool x.shared] ∧ WB W w.heap.size #[.slice none 0 0] ∧ WB W (w.heap.size + 1) #[.string ⟨#[]⟩, .int .i64 0, .slice none 0 0, .bool false] ∧ Owns DSite.rep w1.heap.size [kx, ks] W [.string x.name, .int .i64 x.version, .slice sa x.files.length sc, .bool x.shared] x ∧ Owns (Rep.slice 85 DCache.rep) w1.heap.size [ks] W [.slice a y.caches.length c] y.caches ∧ Mov k w1 W) ⟨_, rfl, WB.at rfl, HX.out.growA, HT.out.growA, HU.out.growA, (HF.out.more (K' := [kx, w5.heap.size]) (by intro b hb; simp at hb; rcases hb with rfl | rfl <;> simp)).below (belA belR), (Owns.of (K := [w5.heap.size]) hg (by omega) (by intro b hb; simp at hb; omega)).below (belA belR), HM.out.below (by repeat (first | with_reducible exact belR | with_reducible apply belA | (with_reducible refine belS ?_ ?_; focus (first | omega | (simp; done) | (simp; omega))) | with_reducible apply belN | with_reducible apply belD | with_reducible assumption))⟩ ?_
  clear HX HT HU HF HM hg
  rintro w6 ⟨ks, hks, hs, hx, ht, hu, hf, hg, hm⟩
  rw [← hks]
  have hkl : kx < ks := by omega
  have HS := Lib.hid hs
  have HX := Lib.hid hx
  have HT := Lib.hid ht
  have HU := Lib.hid hu
  have HF := Lib.hid hf
  have HG := Lib.hid hg
  have HM := Lib.hid hm
  have HL := Lib.hid hle
  clear hs hx ht hu hf hg hm hks hz3 hz4 hz5 hle
  cases b
  case' false =>
    go_wp2_with fail
    refine (specAnyCaches k _ HM.out.cur).mono ?_
    rintro e w8 ⟨s, a8, c8, rfl, hg8, hl8, hm⟩
    have hz3 := HS.out.lt
    have hz8 := hm.size
    replace HS := Lib.hid (HS.out.mov hm (by omega))
    replace HX := Lib.hid (HX.out.mov hm (by omega))
    replace HT := Lib.hid (HT.out.mov hm (by omega))
    replace HU := Lib.hid (HU.out.mov hm (by omega))
    replace HF := Lib.hid (HF.out.movL hm (by omega))
    replace HM := Lib.hid (HM.out.trans hm)
    have HG8 := Lib.hid (Owns.of (B := w1.heap.size) (K := [ks]) hg8 (by omega) (by intro b hb; simp at hb; omega))
    clear hm hg8 HG
    have ⟨c_HS, z_HS, f_HS⟩ := HS.out
    go_upto_region 7 with fail
    refine settle (fun W => ∃ (s : DCacheSet) (a : Option Addr) (c : Nat), SetLe 8 8 s ∧ WB W ks #[.slice a s.caches.length c] ∧ WB W kx #[.string x.name, .int .i64 x.version, .slice sa x.files.length sc, .bool x.shared] ∧ WB W w.heap.size #[.slice none 0 0] ∧ WB W (w.heap.size + 1) #[.string ⟨#[]⟩, .int .i64 0, .slice none 0 0, .bool false] ∧ Owns DSite.rep w1.heap.size [kx, ks] W [.string x.name, .int .i64 x.version, .slice sa x.files.length sc, .bool x.shared] x ∧ Owns (Rep.slice 85 DCache.rep) w1.heap.size [ks] W [.slice a s.caches.length c] s.caches ∧ Mov k w1 W) ⟨s, a8, c8, hl8, HS.out.setAt (i := 0) (by simp) rfl, HX.out.setOther (by omega), HT.out.setOther (by omega), HU.out.setOther (by omega), HF.out.set (.inl (by simp)), HG8.out.set (.inl (by simp)), HM.out.low (B := w1.heap.size) (by repeat (first | with_reducible exact belR | (with_reducible refine belAB ?_ ?_; focus (first | omega | (simp; done) | (simp; omega))) | (with_reducible refine belS ?_ ?_; focus (first | omega | (simp; done) | (simp; omega))) | with_reducible apply belN | with_reducible apply belD | with_reducible assumption)) (Nat.le_refl _) hc1⟩ ?_
    clear c_HS z_HS f_HS
    clear HS HX HT HU HF HM HG8 HL
  case' true =>
    go_wp2_with fail
    refine (specOnce k _ _ HM.out.cur).mono ?_
    rintro e w7 ⟨b2, rfl, hm⟩
    have hz3 := HS.out.lt
    replace HS := Lib.hid (HS.out.mov hm (by omega))
    replace HX := Lib.hid (HX.out.mov hm (by omega))
    replace HT := Lib.hid (HT.out.mov hm (by omega))
    replace HU := Lib.hid (HU.out.mov hm (by omega))
    replace HF := Lib.hid (HF.out.movL hm (by omega))
    replace HG := Lib.hid (HG.out.movL hm (by omega))
    replace HM := Lib.hid (HM.out.trans hm)
    clear hm hz3
    cases b2
    case' true =>
      go_wp2_with fail
      refine (specAnyCaches k _ HM.out.cur).mono ?_
      rintro e w8 ⟨s, a8, c8, rfl, hg8, hl8, hm⟩
      have hz3 := HS.out.lt
      have hz8 := hm.size
      replace HS := Lib.hid (HS.out.mov hm (by omega))
      replace HX := Lib.hid (HX.out.mov hm (by omega))
      replace HT := Lib.hid (HT.out.mov hm (by omega))
      replace HU := Lib.hid (HU.out.mov hm (by omega))
      replace HF := Lib.hid (HF.out.movL hm (by omega))
      replace HM := Lib.hid (HM.out.trans hm)
      have HG8 := Lib.hid (Owns.of (B := w1.heap.size) (K := [ks]) hg8 (by omega) (by intro b hb; simp at hb; omega))
      clear hm hg8 HG
      have ⟨c_HS, z_HS, f_HS⟩ := HS.out
      go_upto_region 7 with fail
      refine settle (fun W => ∃ (s : DCacheSet) (a : Option Addr) (c : Nat), SetLe 8 8 s ∧ WB W ks #[.slice a s.caches.length c] ∧ WB W kx #[.string x.name, .int .i64 x.version, .slice sa x.files.length sc, .bool x.shared] ∧ WB W w.heap.size #[.slice none 0 0] ∧ WB W (w.heap.size + 1) #[.string ⟨#[]⟩, .int .i64 0, .slice none 0 0, .bool false] ∧ Owns DSite.rep w1.heap.size [kx, ks] W [.string x.name, .int .i64 x.version, .slice sa x.files.length sc, .bool x.shared] x ∧ Owns (Rep.slice 85 DCache.rep) w1.heap.size [ks] W [.slice a s.caches.length c] s.caches ∧ Mov k w1 W) ⟨s, a8, c8, hl8, HS.out.setAt (i := 0) (by simp) rfl, HX.out.setOther (by omega), HT.out.setOther (by omega), HU.out.setOther (by omega), HF.out.set (.inl (by simp)), HG8.out.set (.inl (by simp)), HM.out.low (B := w1.heap.size) (by repeat (first | with_reducible exact belR | (with_reducible refine belAB ?_ ?_; focus (first | omega | (simp; done) | (simp; omega))) | (with_reducible refine belS ?_ ?_; focus (first | omega | (simp; done) | (simp; omega))) | with_reducible apply belN | with_reducible apply belD | with_reducible assumption)) (Nat.le_refl _) hc1⟩ ?_
      clear c_HS z_HS f_HS
      clear HS HX HT HU HF HM HG8 HL
    case' false =>
      go_upto_region 7 with fail
      refine settle (fun W => ∃ (s : DCacheSet) (a : Option Addr) (c : Nat), SetLe 8 8 s ∧ WB W ks #[.slice a s.caches.length c] ∧ WB W kx #[.string x.name, .int .i64 x.version, .slice sa x.files.length sc, .bool x.shared] ∧ WB W w.heap.size #[.slice none 0 0] ∧ WB W (w.heap.size + 1) #[.string ⟨#[]⟩, .int .i64 0, .slice none 0 0, .bool false] ∧ Owns DSite.rep w1.heap.size [kx, ks] W [.string x.name, .int .i64 x.version, .slice sa x.files.length sc, .bool x.shared] x ∧ Owns (Rep.slice 85 DCache.rep) w1.heap.size [ks] W [.slice a s.caches.length c] s.caches ∧ Mov k w1 W) ⟨y, a, c, HL.out.mono (by omega) (by omega), HS.out, HX.out, HT.out, HU.out, HF.out, HG.out, HM.out⟩ ?_
      clear HS HX HT HU HF HM HG HL
  all_goals
    rintro w9 ⟨s, a9, c9, hl9, hs, hx, ht, hu, hf, hg, hm⟩
    have HS := Lib.hid hs
    have HX := Lib.hid hx
    have HT := Lib.hid ht
    have HU := Lib.hid hu
    have HF := Lib.hid hf
    have HG := Lib.hid hg
    have HM := Lib.hid hm
    have HLs := Lib.hid hl9
    clear hs hx ht hu hf hg hm hl9
    go_wp2_with fail
    refine (specPath k _ HM.out.cur).mono ?_
    rintro e w10 ⟨pt, rfl, hpt, hm⟩
    have hps := path_le hpt
    have hz9 := HS.out.lt
    replace HS := Lib.hid (HS.out.mov hm (by omega))
    replace HX := Lib.hid (HX.out.mov hm (by omega))
    replace HT := Lib.hid (HT.out.mov hm (by omega))
    replace HU := Lib.hid (HU.out.mov hm (by omega))
    replace HF := Lib.hid (HF.out.movL hm (by omega))
    replace HG := Lib.hid (HG.out.movL hm (by omega))
    replace HM := Lib.hid (HM.out.trans hm)
    clear hm hpt
    go_upto_region 8 with fail
    refine wp_region_mvf k ([w.heap.size, w.heap.size + 1]) [] (by kernel_rfl) ?_
    intro wd hbd
    have hwz := hbd.size
    replace HS := Lib.hid (HS.out.keep hbd)
    replace HX := Lib.hid (HX.out.keep hbd)
    replace HT := Lib.hid (HT.out.keep hbd)
    replace HU := Lib.hid (HU.out.keep hbd)
    replace HF := Lib.hid (HF.out.below hbd)
    replace HG := Lib.hid (HG.out.below hbd)
    replace HM := Lib.hid (HM.out.below hbd)
    clear hbd
    have hne : Nonempty (MovedF k ([w.heap.size, w.heap.size + 1]) wd) := ⟨⟨wd, MovF.of (Mov.refl HM.out.cur)⟩⟩
    have K_HS := mvf_var (k := k) (fp := ([w.heap.size, w.heap.size + 1])) HS.out (by omega) (by first | (simp; omega) | assumption)
    have K_HX := mvf_var (k := k) (fp := ([w.heap.size, w.heap.size + 1])) HX.out (by omega) (by first | (simp; omega) | assumption)
    refine wpU_group (fun _ _ _ _ _ h => h) (by kernel_rfl) (mvf_of (MovF.of (Mov.refl HM.out.cur))) [0,1,2,3,4] _ _ _ rfl (by kernel_rfl) ?_
    repeat (go_big_quiet_step (fail))
    refine wpQuiet_nil ?_
    clear K_HS K_HX
    refine wpU_one 5 rfl (by kernel_rfl) ?_
    go_wp2_with fail
    refine (specOnce k _ _ HM.out.cur).mono ?_
    rintro e w11 ⟨on, rfl, hm⟩
    have hq0 : MovF k [w.heap.size, w.heap.size + 1] wd w11 := MovF.of hm
    go_wp2_with fail
    refine HardPost.mk (mvf_of hq0) ?_
    have hzs := HS.out.lt
    replace HT := Lib.hid (HT.out.mov hm (by omega))
    replace HU := Lib.hid (HU.out.mov hm (by omega))
    replace HF := Lib.hid (HF.out.movL hm (by omega))
    replace HG := Lib.hid (HG.out.movL hm (by omega))
    replace HM := Lib.hid (HM.out.trans hm)
    clear hm HS HX
    have ⟨c_HT, z_HT, f_HT⟩ := HT.out
    have ⟨c_HU, z_HU, f_HU⟩ := HU.out
    refine wpU_one 6 rfl (by kernel_rfl) ?_
    go_wp2_with fail
    have hq1 := hq0.set (b := w.heap.size) (o := 0) (u := .slice a9 s.caches.length c9) (by simp) (by omega) (by omega)
    refine HardPost.mk (mvf_of hq1) ?_
    have HT1 : Hid (WB _ w.heap.size #[.slice a9 s.caches.length c9]) := Lib.hid (HT.out.setAt (i := 0) (u := .slice a9 s.caches.length c9) (by simp) rfl)
    have HU1 := Lib.hid (HU.out.setOther (g := w.heap.size) (o := 0) (u := .slice a9 s.caches.length c9) (by omega))
    clear c_HT z_HT f_HT c_HU z_HU f_HU
    have ⟨c_HU1, z_HU1, f_HU1⟩ := HU1.out
    refine wpU_one 7 rfl (by kernel_rfl) ?_
    go_wp2_with fail
    have hq2 := hq1.set4 (b := w.heap.size + 1) (u0 := .string x.name) (u1 := .int .i64 x.version) (u2 := .slice sa x.files.length sc) (u3 := .bool x.shared) (by simp) (by omega) (by omega)
    refine HardPost.mk (mvf_of hq2) ?_
    have HT2 := Lib.hid (off4 HT1.out (g := w.heap.size + 1) (b0 := .string x.name) (b1 := .int .i64 x.version) (b2 := .slice sa x.files.length sc) (b3 := .bool x.shared) (by omega))
    have HU2 := Lib.hid (set4 HU1.out (b0 := .string x.name) (b1 := .int .i64 x.version) (b2 := .slice sa x.files.length sc) (b3 := .bool x.shared))
    clear c_HU1 z_HU1 f_HU1
    refine wpU_group (fun _ _ _ _ _ h => h) (by kernel_rfl) (mvf_of (hq2)) [8,9,10] _ _ _ rfl (by kernel_rfl) ?_
    repeat (go_big_quiet_step (fail))
    refine wpQuiet_nil ?_
    refine wpU_tail [] _ _ _ _ rfl (by kernel_rfl) ?_
    go_wp2_with fail
    refine NoPanic.normal ?_
    have ⟨c_HT2, z_HT2, f_HT2⟩ := HT2.out
    have ⟨c_HU2, z_HU2, f_HU2⟩ := HU2.out
    go_wp2
    refine bodyPost_ret (v := .tuple #[.agg #[.slice a9 s.caches.length c9], .agg #[.string x.name, .int .i64 x.version, .slice sa x.files.length sc, .bool x.shared], .int .i64 (wrap64 (wrap64 (x.version + d) - 1)), .string pt, .bool on]) (by simp [results, Try.results14, go_sem, c_HT2, c_HU2]) rfl ⟨s, x, _, pt, on, a9, c9, sa, sc, rfl, ?_, ?_, HLs.out, hx1, hps, ?_⟩
    · change Reads (Rep.slice 85 DCache.rep) _ [.slice a9 s.caches.length c9] s.caches
      refine Owns.reads (B := w1.heap.size) (K := [ks]) ?_
      repeat (first | with_reducible exact HG.out | with_reducible refine Owns.set ?_ (.inr (by omega)))
    · refine Owns.reads (B := w1.heap.size) (K := [kx, ks]) ?_
      repeat (first | with_reducible exact HF.out | with_reducible refine Owns.set ?_ (.inr (by omega)))
    · have y2 := HB.out.trans (HM.out.toBelow (B := w.heap.size) (by omega) (by omega))
      exact (by repeat (first | with_reducible exact belR | (with_reducible refine belAB ?_ ?_; focus (first | omega | (simp; done) | (simp; omega))) | (with_reducible refine belS ?_ ?_; focus (first | omega | (simp; done) | (simp; omega))) | with_reducible apply belN | with_reducible apply belD | with_reducible assumption))

end Go.Proofs.Yteajhmpppciicaa
