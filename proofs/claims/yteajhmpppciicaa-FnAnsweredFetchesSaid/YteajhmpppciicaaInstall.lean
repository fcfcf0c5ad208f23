/-
  spec.InstallFiles.
-/
import Derived.Test.YteajhmpppciicaaDrawCaches
import Derived.Test.YteajhmpppciicaaServe
namespace Go.Proofs.Yteajhmpppciicaa
open Go.RowKit

attribute [local irreducible] servesF serveF isSiteF

set_option maxRecDepth 100000 in
set_option maxHeartbeats 6400000 in
theorem specInstallFiles (cs ct : List Value) (x : DCacheSet) (t : DSite) (v : Int) (w : World) (h : Reads DCacheSet.rep w cs x) (h' : Reads DSite.rep w ct t) (m n : Nat) (hs : SetLe m n x) (hm : m ≤ 100) (hn : n ≤ 100) (h1 : t.name.size ≤ 20) (h2 : t.files.length ≤ 5) (h3 : ∀ f ∈ t.files, f.size ≤ 20) :
    Calls Try.prog 36 #[.agg cs.toArray, .agg ct.toArray, .int .i64 v, .bool true] w fun e w' => ∃ (y : DCacheSet) (b : Bool) (a : Option Addr) (c : Nat), e = .returned (.tuple #[.agg #[.slice a y.caches.length c], .bool b]) ∧ Fresh (Rep.slice 85 DCache.rep) w.heap.size w' [.slice a y.caches.length c] y.caches ∧ SetLe (m + 1) (n + 5) y ∧ Below w.heap.size w w' := by
  have HR := Lib.hid h
  have HRt := Lib.hid h'
  have HLe := Lib.hid hs
  have HFs := Lib.hid h3
  clear hs h3
  obtain ⟨fp_q, h⟩ := h
  obtain ⟨q_v1, q_f1, rfl, _, q_r1⟩ := DCacheSet.rd.1 h
  obtain ⟨q_a1, q_c1, rfl, q_hm1, q_lc1, q_hu1⟩ := slice_open q_r1; clear q_hu1
  have q_K1 : Hid (Reads (Rep.slice 85 DCache.rep) w [.slice q_a1 x.caches.length q_c1] x.caches) := ⟨_, q_r1⟩
  clear q_r1 h
  obtain ⟨fp_p, h'⟩ := h'
  obtain ⟨p_v1, p_f1, rfl, _, p_s0, p_r1⟩ := DSite.rd.1 h'
  obtain ⟨p_a1, p_c1, rfl, p_hm1, p_lc1, p_hu1⟩ := slice_open p_r1; clear p_hu1
  have p_K1 : Hid (Reads (Rep.slice 9 Rep.str) w [.slice p_a1 t.files.length p_c1] t.files) := ⟨_, p_r1⟩
  clear p_r1 h'
  go_enter Try.func36, Try.ntmps36
  go_wp2_with fail
  refine (specOpenCache _ x v _ (HR.out.below (by repeat (first | with_reducible exact belR | with_reducible apply belA | (with_reducible refine belS ?_ ?_; focus (first | omega | (simp; done) | (simp; omega))) | with_reducible apply belN | with_reducible apply belD | with_reducible assumption))) m n HLe.out (by omega) (by omega)).mono ?_
  rintro e w1 ⟨y, b, a, c, rfl, hf, hle, hb⟩
  have HX : Hid (WB w1 w.heap.size #[.slice q_a1 x.caches.length q_c1]) := Lib.hid (((WB.at rfl).growA).growA.keep hb)
  have HY : Hid (WB w1 (w.heap.size + 1) #[.string t.name, .int .i64 t.version, .slice p_a1 t.files.length p_c1, .bool t.shared]) := Lib.hid (((WB.at (by simp)).growA).keep hb)
  have HT : Hid (WB w1 (w.heap.size + 2) #[.slice none 0 0]) := Lib.hid ((WB.at (by simp)).keep hb)
  have HB : Hid (Below w.heap.size w w1) := Lib.hid (below_call (by repeat (first | with_reducible exact belR | with_reducible apply belA | (with_reducible refine belS ?_ ?_; focus (first | omega | (simp; done) | (simp; omega))) | with_reducible apply belN | with_reducible apply belD | with_reducible assumption)) (by first | omega | (simp; done) | (simp; omega)) hb)
  have HF : Hid (Fresh (Rep.slice 85 DCache.rep) (w.heap.size + 3) w1 [.slice a y.caches.length c] y.caches) := Lib.hid (hf.mono (by simp))
  have hz1 : w.heap.size + 3 ≤ w1.heap.size := by have y := hb.size; simp at y; omega
  have HL := Lib.hid hle
  clear hf hb hle
  go_upto_region 2 with fail
  refine settle (fun W => ∃ ko, ko = w1.heap.size ∧ WB W ko #[.slice a y.caches.length c] ∧ Owns (Rep.slice 85 DCache.rep) (w.heap.size + 3) [ko] W [.slice a y.caches.length c] y.caches ∧ Below w1.heap.size w1 W) ⟨_, rfl, WB.at rfl, (Owns.of (K := [w1.heap.size]) HF.out (Nat.le_refl _) (by intro b hb; simp at hb; omega)).below (belA belR), (by repeat (first | with_reducible exact belR | with_reducible apply belA | (with_reducible refine belS ?_ ?_; focus (first | omega | (simp; done) | (simp; omega))) | with_reducible apply belN | with_reducible apply belD | with_reducible assumption))⟩ ?_
  clear HF
  rintro w2 ⟨ko, hko, ho, hf, hb⟩
  rw [← hko]
  have hkk : w.heap.size + 3 ≤ ko := by omega
  have HO := Lib.hid ho
  have HF := Lib.hid hf
  replace HX := Lib.hid (HX.out.keep hb)
  replace HY := Lib.hid (HY.out.keep hb)
  replace HT := Lib.hid (HT.out.keep hb)
  replace HB := Lib.hid (HB.out.trans (hb.mono HB.out.size))
  clear ho hf hb hko hz1
  cases b
  case' true => cases n1 : servesF t v
  case true.true =>
    have ⟨c_HY, z_HY, f_HY⟩ := HY.out
    go_wp2_with fail
    refine (specServesVersion _ t v _ (HRt.out.below HB.out)).mono ?_
    rintro e w3 ⟨rfl, hb⟩
    rw [n1]
    clear c_HY z_HY f_HY
    replace HX := Lib.hid (HX.out.keep hb)
    replace HY := Lib.hid (HY.out.keep hb)
    replace HT := Lib.hid (HT.out.keep hb)
    replace HO := Lib.hid (HO.out.keep hb)
    replace HF := Lib.hid (HF.out.below hb)
    replace HB := Lib.hid (HB.out.trans (hb.mono HB.out.size))
    clear hb
    go_wp2
    go_loopw [12] (fun i wr => ∃ (k : Nat) (y : DCacheSet) (a : Option Addr) (c : Nat), i = .int .i64 k ∧ (k ≤ t.files.length ∧ SetLe (m + 1) (n + k) y) ∧ WB wr w.heap.size #[.slice q_a1 x.caches.length q_c1] ∧ WB wr (w.heap.size + 1) #[.string t.name, .int .i64 t.version, .slice p_a1 t.files.length p_c1, .bool t.shared] ∧ WB wr (w.heap.size + 2) #[.slice none 0 0] ∧ WB wr ko #[.slice a y.caches.length c] ∧ Owns (Rep.slice 85 DCache.rep) (w.heap.size + 3) [ko] wr [.slice a y.caches.length c] y.caches ∧ Below w.heap.size w wr) (fun i _ => t.files.length - (intOf i).toNat)
    case atStart => exact ⟨0, y, a, c, rfl, ⟨by omega, HL.out.mono (by omega) (by omega)⟩, HX.out, HY.out, HT.out, HO.out, HF.out, HB.out⟩
    case round =>
      clear HX HY HT HO HF HB HL
      obtain ⟨k, y, a, c, rfl, ⟨hk, hle⟩, hx, hy, ht, ho, hf, hb⟩ := hrel
      have HX := Lib.hid hx
      have HY := Lib.hid hy
      have HT := Lib.hid ht
      have HO := Lib.hid ho
      have HF := Lib.hid hf
      have HB := Lib.hid hb
      have HL := Lib.hid hle
      have hzr := HO.out.lt
      clear hx hy ht ho hf hb hle
      by_cases hlt : k < t.files.length
      · obtain ⟨b, off, cs_b, rfl, hw_b, hr_b, hcell_b⟩ := slice_at (p_K1.out.below HB.out) k hlt
        obtain ⟨fe_b, hrd_b⟩ := hr_b
        obtain ⟨rfl, _, b_s0⟩ := hrd_b
        have b_c0 : wr.cell? ⟨b, off + k, none⟩ = some (.string t.files[k]) := by have h := hcell_b 0 (by decide); rwa [show off + k * Rep.str.n + 0 = off + k from by show off + k * 1 + 0 = off + k; omega] at h
        clear hcell_b
        have j1 : (0 : Int) ≤ (k : Int) := by omega
        have j2 : (k : Int) < (t.files.length : Int) := by omega
        have hfl := HFs.out _ (List.getElem_mem hlt)
        have ⟨c_HY, z_HY, f_HY⟩ := HY.out
        go_upto_region 7 with fail
        clear c_HY z_HY f_HY
        refine wp_region_chf [] [20, 22, 23] (by kernel_rfl) ?_
        intro wd hbd
        have hwz := hbd.size
        replace HX := Lib.hid (HX.out.keep hbd)
        replace HY := Lib.hid (HY.out.keep hbd)
        replace HT := Lib.hid (HT.out.keep hbd)
        replace HO := Lib.hid (HO.out.keep hbd)
        replace HF := Lib.hid (HF.out.below hbd)
        replace HB := Lib.hid (HB.out.trans (hbd.mono HB.out.size))
        have c0 := (hbd.cell (block_lt_of_cell b_c0)).trans b_c0
        clear b_c0 hbd
        have hne : Nonempty (ChgdF [] wd) := ⟨⟨wd, Chg.refl⟩⟩
        have K_HO := chf_var (fp := []) HO.out (by simp)
        have K_HY := chf_var (fp := []) HY.out (by simp)
        have K_c := chf_cell (fp := []) c0 (by simp)
        refine wpU_group (fun _ _ _ _ _ h => h) (by kernel_rfl) (chf_of (Chg.refl)) [0,1,2,3,4,5,6,7,8,9,10,11,12,13,14,15] _ _ _ rfl (by kernel_rfl) ?_
        repeat (go_big_quiet_step (fail))
        refine wpQuiet_nil ?_
        clear K_HO K_HY K_c c0
        have hrt := HRt.out.below HB.out
        have hoz := HO.out.lt
        refine wpU_two 16 21 rfl rfl (by kernel_rfl) ?ta ?tb
        case' ta =>
          go_wp2_with fail
          refine (specServeFile _ t t.files[k] v _ (hrt.below belR) (by omega) (by omega)).mono ?_
          rintro e w3 ⟨ds, rfl, hfr, hb3⟩
          obtain ⟨ra, rc, rfl⟩ := DResponse.fshape hfr
          have hrl := serve_len t t.files[k] v
          have hq3 : Below wd.heap.size wd w3 := below_call belR (by first | omega | (simp; done) | (simp; omega)) hb3
          have hz3 := hq3.size
          go_wp2_with fail
          refine HardPost.mk (chf_of (Chg.of_below hq3 (Nat.le_refl _))) ?_
          refine wpU_two 17 21 rfl rfl (by kernel_rfl) ?taa ?tab
        case' taa =>
          go_wp2_with fail
          refine (specStoreResponse _ _ y v t.name t.files[k] (serveF t t.files[k] v) _ (HF.out.below hq3).reads (hfr.reads) _ _ HL.out (by omega) (by omega) h1 hfl (by omega)).mono ?_
          rintro e w4 ⟨z, b2, a4, c4, rfl, hg, hlz, hb4⟩
          have hq4 : Below wd.heap.size wd w4 := below_call hq3 (by first | omega | (simp; done) | (simp; omega)) hb4
          have hz4 := hq4.size
          go_wp2_with fail
          refine HardPost.mk (chf_of (Chg.of_below hq4 (Nat.le_refl _))) ?_
          refine wpU_group (fun _ _ _ _ _ h => h) (by kernel_rfl) (chf_of (Chg.of_below hq4 (Nat.le_refl _))) [18,19,20] _ _ _ rfl (by kernel_rfl) ?_
          repeat (go_big_quiet_step (fail))
          refine wpQuiet_nil ?_
          refine wpU_one 21 rfl (by kernel_rfl) ?_
          go_wp2_with fail
          refine HardPost.mk (chf_of (chgA (Chg.of_below hq4 (Nat.le_refl _)))) ?_
          have HK : Hid (WB (w4.alloc (.cells #[.slice none 0 0] 44)) w4.heap.size #[.slice none 0 0]) := Lib.hid (WB.at rfl)
          have HQ := Lib.hid hq4
          have HG := Lib.hid hg
          clear hq4 hg hb4
          have ⟨c_HK, z_HK, f_HK⟩ := HK.out
          refine wpU_tail [22,23] _ _ _ _ rfl (by kernel_rfl) ?_
          go_wp2_with fail
          refine NoPanic.normal ?_
          clear c_HK z_HK f_HK
          go_upto_region 8 with fail
          have hkx : ko < w4.heap.size := by omega
          refine settle (fun W => WB W w4.heap.size #[.slice a4 z.caches.length c4] ∧ Owns (Rep.slice 85 DCache.rep) (w.heap.size + 3) [ko, w4.heap.size] W [.slice a4 z.caches.length c4] z.caches ∧ Below wd.heap.size wd W) ⟨WB.at rfl, (Owns.of (B := w.heap.size + 3) (K := [ko, w4.heap.size]) HG.out (by first | omega | (simp; omega)) (by intro b hb; simp at hb; have y := HQ.out.size; rcases hb with rfl | rfl <;> first | omega | (simp; done) | (simp; omega))).below (belA belR), by have z := HQ.out; exact (by repeat (first | with_reducible exact belR | (with_reducible refine belAB ?_ ?_; focus (first | omega | (simp; done) | (simp; omega))) | (with_reducible refine belS ?_ ?_; focus (first | omega | (simp; done) | (simp; omega))) | with_reducible apply belN | with_reducible apply belD | with_reducible assumption))⟩ ?_
        case' tab =>
          go_wp2_with fail
          refine HardPost.mk (chf_of (chgA (Chg.of_below hq3 (Nat.le_refl _)))) ?_
          refine wpU_one 17 rfl (by kernel_rfl) ?_
          go_wp2_with fail
          refine (specStoreResponse _ _ y v t.name t.files[k] (serveF t t.files[k] v) _ (HF.out.below (by repeat (first | with_reducible exact belR | (with_reducible refine belAB ?_ ?_; focus (first | omega | (simp; done) | (simp; omega))) | (with_reducible refine belS ?_ ?_; focus (first | omega | (simp; done) | (simp; omega))) | with_reducible apply belN | with_reducible apply belD | with_reducible assumption))).reads (hfr.reads.below (belA belR)) _ _ HL.out (by omega) (by omega) h1 hfl (by omega)).mono ?_
          rintro e w4 ⟨z, b2, a4, c4, rfl, hg, hlz, hb4⟩
          have hq4 : Below wd.heap.size wd w4 := below_call (by repeat (first | with_reducible exact belR | (with_reducible refine belAB ?_ ?_; focus (first | omega | (simp; done) | (simp; omega))) | (with_reducible refine belS ?_ ?_; focus (first | omega | (simp; done) | (simp; omega))) | with_reducible apply belN | with_reducible apply belD | with_reducible assumption)) (by first | omega | (simp; done) | (simp; omega)) hb4
          have hz4 := hq4.size
          go_wp2_with fail
          refine HardPost.mk (chf_of (Chg.of_below hq4 (Nat.le_refl _))) ?_
          refine wpU_group (fun _ _ _ _ _ h => h) (by kernel_rfl) (chf_of (Chg.of_below hq4 (Nat.le_refl _))) [18,19,20] _ _ _ rfl (by kernel_rfl) ?_
          repeat (go_big_quiet_step (fail))
          refine wpQuiet_nil ?_
          have HK : Hid (WB w4 w3.heap.size #[.slice none 0 0]) := Lib.hid ((WB.at rfl).keep hb4)
          have HQ := Lib.hid hq4
          have HG := Lib.hid hg
          clear hq4 hg hb4
          have ⟨c_HK, z_HK, f_HK⟩ := HK.out
          refine wpU_tail [22,23] _ _ _ _ rfl (by kernel_rfl) ?_
          go_wp2_with fail
          refine NoPanic.normal ?_
          clear c_HK z_HK f_HK
          go_upto_region 8 with fail
          have hkx : ko < w3.heap.size := by omega
          refine settle (fun W => WB W w3.heap.size #[.slice a4 z.caches.length c4] ∧ Owns (Rep.slice 85 DCache.rep) (w.heap.size + 3) [ko, w3.heap.size] W [.slice a4 z.caches.length c4] z.caches ∧ Below wd.heap.size wd W) ⟨HK.out.setAt (i := 0) (by simp) rfl, (Owns.of (B := w.heap.size + 3) (K := [ko, w3.heap.size]) HG.out (by first | omega | (simp; omega)) (by intro b hb; simp at hb; have y := HQ.out.size; rcases hb with rfl | rfl <;> first | omega | (simp; done) | (simp; omega))).set (.inl (by simp)), by have z := HQ.out; exact (by repeat (first | with_reducible exact belR | (with_reducible refine belAB ?_ ?_; focus (first | omega | (simp; done) | (simp; omega))) | (with_reducible refine belS ?_ ?_; focus (first | omega | (simp; done) | (simp; omega))) | with_reducible apply belN | with_reducible apply belD | with_reducible assumption))⟩ ?_
        case' tb =>
          go_wp2_with fail
          refine HardPost.mk (chf_of (chgA Chg.refl)) ?_
          refine wpU_one 16 rfl (by kernel_rfl) ?_
          go_wp2_with fail
          refine (specServeFile _ t t.files[k] v _ (hrt.below (belA belR)) (by omega) (by omega)).mono ?_
          rintro e w3 ⟨ds, rfl, hfr, hb3⟩
          obtain ⟨ra, rc, rfl⟩ := DResponse.fshape hfr
          have hrl := serve_len t t.files[k] v
          have hq3 : Below wd.heap.size wd w3 := below_call (belA belR) (by first | omega | (simp; done) | (simp; omega)) hb3
          have hz3 := hq3.size
          go_wp2_with fail
          refine HardPost.mk (chf_of (Chg.of_below hq3 (Nat.le_refl _))) ?_
          have HK3 : Hid (WB w3 wd.heap.size #[.slice none 0 0]) := Lib.hid ((WB.at rfl).keep hb3)
          have hzk := HK3.out.lt
          refine wpU_one 17 rfl (by kernel_rfl) ?_
          go_wp2_with fail
          refine (specStoreResponse _ _ y v t.name t.files[k] (serveF t t.files[k] v) _ (HF.out.below hq3).reads (hfr.reads) _ _ HL.out (by omega) (by omega) h1 hfl (by omega)).mono ?_
          rintro e w4 ⟨z, b2, a4, c4, rfl, hg, hlz, hb4⟩
          have hq4 : Below wd.heap.size wd w4 := below_call hq3 (by first | omega | (simp; done) | (simp; omega)) hb4
          have hz4 := hq4.size
          go_wp2_with fail
          refine HardPost.mk (chf_of (Chg.of_below hq4 (Nat.le_refl _))) ?_
          refine wpU_group (fun _ _ _ _ _ h => h) (by kernel_rfl) (chf_of (Chg.of_below hq4 (Nat.le_refl _))) [18,19,20] _ _ _ rfl (by kernel_rfl) ?_
          repeat (go_big_quiet_step (fail))
          refine wpQuiet_nil ?_
          have HK := Lib.hid (HK3.out.keep hb4)
          have HQ := Lib.hid hq4
          have HG := Lib.hid hg
          clear hq4 hg hb4
          have ⟨c_HK, z_HK, f_HK⟩ := HK.out
          refine wpU_tail [22,23] _ _ _ _ rfl (by kernel_rfl) ?_
          go_wp2_with fail
          refine NoPanic.normal ?_
          clear c_HK z_HK f_HK
          go_upto_region 8 with fail
          have hkx : ko < wd.heap.size := by omega
          refine settle (fun W => WB W wd.heap.size #[.slice a4 z.caches.length c4] ∧ Owns (Rep.slice 85 DCache.rep) (w.heap.size + 3) [ko, wd.heap.size] W [.slice a4 z.caches.length c4] z.caches ∧ Below wd.heap.size wd W) ⟨HK.out.setAt (i := 0) (by simp) rfl, (Owns.of (B := w.heap.size + 3) (K := [ko, wd.heap.size]) HG.out (by first | omega | (simp; omega)) (by intro b hb; simp at hb; have y := HQ.out.size; rcases hb with rfl | rfl <;> first | omega | (simp; done) | (simp; omega))).set (.inl (by simp)), by have z := HQ.out; exact (by repeat (first | with_reducible exact belR | (with_reducible refine belAB ?_ ?_; focus (first | omega | (simp; done) | (simp; omega))) | (with_reducible refine belS ?_ ?_; focus (first | omega | (simp; done) | (simp; omega))) | with_reducible apply belN | with_reducible apply belD | with_reducible assumption))⟩ ?_
        all_goals
          rintro w5 ⟨hk5, hf5, hb5⟩
          replace HX := Lib.hid (HX.out.keep hb5)
          replace HY := Lib.hid (HY.out.keep hb5)
          replace HT := Lib.hid (HT.out.keep hb5)
          replace HO := Lib.hid (HO.out.keep hb5)
          replace HB := Lib.hid (HB.out.trans (hb5.mono HB.out.size))
          clear HF hb5 HQ HG HK
          have HK := Lib.hid hk5
          have HF := Lib.hid hf5
          have HLz := Lib.hid hlz
          clear hk5 hf5 hlz hb3 hq3 hfr
          cases b2
          · have ⟨c_HX, z_HX, f_HX⟩ := HX.out
            go_wp2_with fail
            refine (specCopyCaches _ x _ (HR.out.below HB.out) m n HLe.out (by omega) (by omega)).mono ?_
            rintro e w10 ⟨ao7, cap7, rfl, hf7, hb7⟩
            have HF7 : Hid (Fresh (Rep.slice 85 DCache.rep) (w.heap.size + 3) w10 [.slice ao7 x.caches.length cap7] x.caches) := Lib.hid (hf7.mono (by have z2 := HT.out.lt; omega))
            have HB7 := Lib.hid (HB.out.trans (hb7.mono HB.out.size))
            have ⟨cr7, zr7, fr7⟩ := HT.out.keep hb7
            clear c_HX z_HX f_HX
            clear hf7 hb7
            go_wp2
            refine bodyPost_ret (v := .tuple #[.agg #[.slice ao7 x.caches.length cap7], .bool false]) (by simp [results, Try.results36, go_sem, cr7]) rfl ⟨x, false, _, _, rfl, (Fresh.mono (B := (w.heap.size + 3)) (by repeat (first | with_reducible exact HF7.out | with_reducible refine Fresh.setLow ?_ (by omega) | with_reducible refine Fresh.drew ?_)) (by omega)), HLe.out.mono (by omega) (by omega), by have z := HB7.out; exact (by repeat (first | with_reducible exact belR | (with_reducible refine belAB ?_ ?_; focus (first | omega | (simp; done) | (simp; omega))) | (with_reducible refine belS ?_ ?_; focus (first | omega | (simp; done) | (simp; omega))) | with_reducible apply belN | with_reducible apply belD | with_reducible assumption))⟩
          · have ⟨c_HK, z_HK, f_HK⟩ := HK.out
            have ⟨c_HO, z_HO, f_HO⟩ := HO.out
            go_wp2
            go_light
            exact ⟨⟨k + 1, z, a4, c4, by go_num, ⟨by omega, HLz.out.mono (by omega) (by omega)⟩, HX.out.setOther (by omega), HY.out.setOther (by omega), HT.out.setOther (by omega), HO.out.setAt (i := 0) (by simp) rfl, (HF.out.more (K' := [ko]) (by simp)).set (.inl (by simp)), by have z := HB.out; exact (by repeat (first | with_reducible exact belR | (with_reducible refine belAB ?_ ?_; focus (first | omega | (simp; done) | (simp; omega))) | (with_reducible refine belS ?_ ?_; focus (first | omega | (simp; done) | (simp; omega))) | with_reducible apply belN | with_reducible apply belD | with_reducible assumption))⟩, by simp [intOf]; omega⟩
      · have ⟨c_HO, z_HO, f_HO⟩ := HO.out
        have ⟨c_HT, z_HT, f_HT⟩ := HT.out
        have ⟨c_HY, z_HY, f_HY⟩ := HY.out
        go_wp2
        refine bodyPost_ret (v := .tuple #[.agg #[.slice a y.caches.length c], .bool true]) (by simp [results, Try.results36, go_sem, c_HT]) rfl ⟨y, true, _, _, rfl, (Fresh.mono (B := (w.heap.size + 3)) (by repeat (first | with_reducible exact HF.out.fresh | with_reducible refine Fresh.setLow ?_ (by omega) | with_reducible refine Fresh.drew ?_)) (by omega)), HL.out.mono (by omega) (by omega), by have z := HB.out; exact (by repeat (first | with_reducible exact belR | (with_reducible refine belAB ?_ ?_; focus (first | omega | (simp; done) | (simp; omega))) | (with_reducible refine belS ?_ ?_; focus (first | omega | (simp; done) | (simp; omega))) | with_reducible apply belN | with_reducible apply belD | with_reducible assumption))⟩
  case' true.false =>
    have ⟨c_HY, z_HY, f_HY⟩ := HY.out
    go_wp2_with fail
    refine (specServesVersion _ t v _ (HRt.out.below HB.out)).mono ?_
    rintro e w3 ⟨rfl, hb⟩
    rw [n1]
    clear c_HY z_HY f_HY
    replace HX := Lib.hid (HX.out.keep hb)
    replace HT := Lib.hid (HT.out.keep hb)
    replace HB := Lib.hid (HB.out.trans (hb.mono HB.out.size))
    clear hb
  all_goals
    have ⟨c_HX, z_HX, f_HX⟩ := HX.out
    go_wp2_with fail
    refine (specCopyCaches _ x _ (HR.out.below HB.out) m n HLe.out (by omega) (by omega)).mono ?_
    rintro e w10 ⟨ao7, cap7, rfl, hf7, hb7⟩
    have HF7 : Hid (Fresh (Rep.slice 85 DCache.rep) (w.heap.size + 3) w10 [.slice ao7 x.caches.length cap7] x.caches) := Lib.hid (hf7.mono (by have z2 := HT.out.lt; omega))
    have HB7 := Lib.hid (HB.out.trans (hb7.mono HB.out.size))
    have ⟨cr7, zr7, fr7⟩ := HT.out.keep hb7
    clear c_HX z_HX f_HX
    clear hf7 hb7
    go_wp2
    refine bodyPost_ret (v := .tuple #[.agg #[.slice ao7 x.caches.length cap7], .bool false]) (by simp [results, Try.results36, go_sem, cr7]) rfl ⟨x, false, _, _, rfl, (Fresh.mono (B := (w.heap.size + 3)) (by repeat (first | with_reducible exact HF7.out | with_reducible refine Fresh.setLow ?_ (by omega) | with_reducible refine Fresh.drew ?_)) (by omega)), HLe.out.mono (by omega) (by omega), by have z := HB7.out; exact (by repeat (first | with_reducible exact belR | (with_reducible refine belAB ?_ ?_; focus (first | omega | (simp; done) | (simp; omega))) | (with_reducible refine belS ?_ ?_; focus (first | omega | (simp; done) | (simp; omega))) | with_reducible apply belN | with_reducible apply belD | with_reducible assumption))⟩

end Go.Proofs.Yteajhmpppciicaa
