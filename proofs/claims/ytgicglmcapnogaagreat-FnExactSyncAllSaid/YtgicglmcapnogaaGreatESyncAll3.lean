/-
  FnExactSyncAll: part 3 of the law's walk.
-/
import Derived.Test.YtgicglmcapnogaaGreatESyncAll2
namespace Go.Proofs.YtgicglmcapnogaaGreat
open Go.RowKit Go.ChangeShapes

set_option maxRecDepth 100000 in
set_option maxHeartbeats 16000000 in
def lawSyncAll3 :=
  fun (H : Rest _) => PLift.up ((lawSyncAll2 ⟨by
    intro f0 f1 hS hI hm_g0 hm_g1 hm_x0 hm_x1 hm_x3 a0 a1 a2 a3 w ht0 i1_0 ao0_0 cap0_0 i1_1 ao1_0 cap1_0 ao1_1 cap1_1 ao1_2 cap1_2 fp ao3 cap3 hl3 i1_2 i1_3 hg_aFates hv_aFates i1_4 i1_5 w1 hsw1 hv_aY i1_6 w2 hsw2 hv_aS i1_7 w3 hsw3 w7 u22 u23 u24 u25 u26 u27 u28 u29 u30 u31 u32 u33 u34 u35 u36 u37 u38 u39 u40 u41 u42 u43 u44 u45 u46 u47 u48 u49 u50 u51 u52 u53 u54 u55 u56 u57 u58 u59 u60 u61 u62 u63 u64 u65 u66 u67 u68 u69 u70 u71 u72 u73 u74 u75 u76 u77 u78 u79 u80 u81 u82 u83 u84 u85 u86 u87 u88 u89 u90 u91 u92 u93 u94 u95 u96 u97 u98 u99 u100 u101 u102 u103 u104 u105 u106 u107 u108 u109 u110 u111 u112 u113 u114 u115 u116 u117 u118 u119 u120 u121 u122 u123 u124 u125 u126 u127 u128 u129 u130 u131 u132 u133 u134 u135 u136 u137 u138 u139 u140 u141 u142 u143 u144 u145 u146 u147 u148 u149 u150 u151 u152 u153 u154 u155 u156 u157 u158 u159 u160 kb_w0 kb_w1 ao_w0_0 cap_w0_0 ao_w1_0 cap_w1_0 ao_w1_1 cap_w1_1 ao_w1_2 cap_w1_2 lo_w0 hi_w0 fp_w0 fp_w1 hk1_w0 hk2_w0 hk1_w1 hk2_w1 hl1_w0 hl2_w0 hd_w0 hsw7 hkz_w0 hkz_w1 HD_w0_w1 w8 ao_x0_0 cap_x0_0 fp_x0 hsw8 w9 ao_x1_0 cap_x1_0 ao_x1_1 cap_x1_1 ao_x1_2 cap_x1_2 fp_x1 hsw9 w10 ao_x3 cap_x3 fp_x3 hsw10 w11 ao_g0_0 cap_g0_0 hp0 ao_g1_0 cap_g1_0 ao_g1_1 cap_g1_1 ao_g1_2 cap_g1_2 hp1 hf0 fp_g0 fp_g1 HD_g0_g1 hsw11 w12 hsw12 w13 hsw13 i2_0 i2_1 i2_2 i2_3 w14 hsw14 w15 hb_x0_e14 hq_x0_e14 ao_x0_e14_0 cap_x0_e14_0 hf_x0_e14 hr_x0_e14 w16 hb_E16 hq_E16 i2_4 hsw16 HX_aY HX_aS HX_w0 HX_w1 HX_x0 HX_x1 HX_g0 HX_g1 cx_aY zx_aY cx_aS zx_aS cx_w0 zx_w0 cx_w1 zx_w1 cx_x0 zx_x0 cx_x1 zx_x1 cx_g0 zx_g0 cx_g1 zx_g1 HA0 HA1 HA3 H_w0 H_w1 H_x0 H_x1 H_x3 H_g0 H_g1 HB
    go_wp2_with fail
    refine settle (fun W' => Below w16.heap.size w16 W' ∧ w16.heap.size ≤ W'.heap.size) ⟨(by repeat (first | with_reducible exact belR | with_reducible apply belA | (with_reducible refine belS ?_ ?_; focus (first | omega | (simp; done) | (simp; omega))) | with_reducible apply belN | with_reducible apply belD | with_reducible assumption)), (by first | omega | (simp; done) | (simp; omega))⟩ ?_
    rintro w17 ⟨hw, hsw17⟩
    clear cx_aY zx_aY
    replace HX_aY := Lib.hid (HX_aY.out.below hw)
    clear cx_aS zx_aS
    replace HX_aS := Lib.hid (HX_aS.out.below hw)
    clear cx_w0 zx_w0
    replace HX_w0 := Lib.hid (HX_w0.out.below hw)
    clear cx_w1 zx_w1
    replace HX_w1 := Lib.hid (HX_w1.out.below hw)
    clear cx_x0 zx_x0
    replace HX_x0 := Lib.hid (HX_x0.out.below hw)
    clear cx_x1 zx_x1
    replace HX_x1 := Lib.hid (HX_x1.out.below hw)
    clear cx_g0 zx_g0
    replace HX_g0 := Lib.hid (HX_g0.out.below hw)
    clear cx_g1 zx_g1
    replace HX_g1 := Lib.hid (HX_g1.out.below hw)
    have ⟨cx_aY, zx_aY⟩ := HX_aY.out
    have ⟨cx_aS, zx_aS⟩ := HX_aS.out
    have ⟨cx_w0, zx_w0⟩ := HX_w0.out
    have ⟨cx_w1, zx_w1⟩ := HX_w1.out
    have ⟨cx_x0, zx_x0⟩ := HX_x0.out
    have ⟨cx_x1, zx_x1⟩ := HX_x1.out
    have ⟨cx_g0, zx_g0⟩ := HX_g0.out
    have ⟨cx_g1, zx_g1⟩ := HX_g1.out
    replace HA0 := Lib.hid (HA0.out.below hw)
    replace HA1 := Lib.hid (HA1.out.below hw)
    replace HA3 := Lib.hid (HA3.out.below hw)
    replace H_w0 := Lib.hid (H_w0.out.below hw)
    replace H_w1 := Lib.hid (H_w1.out.below hw)
    replace H_x0 := Lib.hid (H_x0.out.below hw)
    replace H_x1 := Lib.hid (H_x1.out.below hw)
    replace H_x3 := Lib.hid (H_x3.out.below hw)
    replace H_g0 := Lib.hid (H_g0.out.below hw)
    replace H_g1 := Lib.hid (H_g1.out.below hw)
    replace HB := Lib.hid (below_call HB.out HB.out.size hw)
    clear hw
    go_region_held3 (fun w' => (∀ o, w'.cell? ⟨w9.heap.size, o, none⟩ = #[.string (a1).store.name, .slice ao_x1_0 (a1).store.items.length cap_x1_0, .int .i64 (a1).store.auto, .slice ao_x1_1 (a1).applied.length cap_x1_1, .slice ao_x1_2 (a1).changes.length cap_x1_2][o]?) ∧ (∀ o, w'.cell? ⟨w.heap.size + 1, o, none⟩ = #[.string a1.store.name, .slice ao1_0 a1.store.items.length cap1_0, .int .i64 a1.store.auto, .slice ao1_1 a1.applied.length cap1_1, .slice ao1_2 a1.changes.length cap1_2][o]?) ∧ Below w17.heap.size w17 w')
      (first | exact ⟨fun o => (World.cell?_drew _ _ |>.trans <| hq_E19.cell (p := ⟨w9.heap.size, o, none⟩) zx_x1).trans (cx_x1 o), fun o => (World.cell?_drew _ _ |>.trans <| hq_E19.cell (p := ⟨w.heap.size + 1, o, none⟩) zx_aS).trans (cx_aS o), belD hq_E19⟩ | exact ⟨fun o => (hq_E19.cell (p := ⟨w9.heap.size, o, none⟩) zx_x1).trans (cx_x1 o), fun o => (hq_E19.cell (p := ⟨w.heap.size + 1, o, none⟩) zx_aS).trans (cx_aS o), hq_E19⟩ | exact ⟨fun o => (World.cell?_drew _ _ |>.trans <| hq_x1_e17.cell (p := ⟨w9.heap.size, o, none⟩) zx_x1).trans (cx_x1 o), fun o => (World.cell?_drew _ _ |>.trans <| hq_x1_e17.cell (p := ⟨w.heap.size + 1, o, none⟩) zx_aS).trans (cx_aS o), belD hq_x1_e17⟩ | exact ⟨fun o => (hq_x1_e17.cell (p := ⟨w9.heap.size, o, none⟩) zx_x1).trans (cx_x1 o), fun o => (hq_x1_e17.cell (p := ⟨w.heap.size + 1, o, none⟩) zx_aS).trans (cx_aS o), hq_x1_e17⟩ | exact ⟨cx_x1, cx_aS, belR⟩ | exact ⟨cx_x1, cx_aS, belD belR⟩)
      (first | (go_at_call 13; have hx := hq_x1_e17; clear hx; have hS_E19 := ‹_ ∧ _ ∧ Below w17.heap.size w17 _›; refine (eqServer _ _ a1 _ (H_x1.out.reads.below hS_E19.2.2) (hr_x1_e17.below (by first | exact belR | exact belD belR | exact belN (belD belR)))).mono ?_; rintro e w19 ⟨rfl, hb_E19⟩; have hq_E19 : Below w17.heap.size w17 w19 := below_call hS_E19.2.2 hS_E19.2.2.size hb_E19; clear hS_E19) | (go_at_call 10; have hS_x1_e17 := ‹_ ∧ _ ∧ Below w17.heap.size w17 _›; refine (toServer _ a1 _ (HA1.out.reads.below hS_x1_e17.2.2) (by first | omega | (simp [DServer.wt]))).mono ?_; rintro e w18 ⟨d_x1_e17, rfl, hf_x1_e17, hb_x1_e17⟩; have hq_x1_e17 : Below w17.heap.size w17 w18 := below_call hS_x1_e17.2.2 hS_x1_e17.2.2.size hb_x1_e17; clear hS_x1_e17; obtain ⟨ao_x1_e17_0, cap_x1_e17_0, ao_x1_e17_1, cap_x1_e17_1, ao_x1_e17_2, cap_x1_e17_2, rfl⟩ := DServer.fshape hf_x1_e17; have hr_x1_e17 := hf_x1_e17.reads))
    have hw := hq_E19
    have hsw19 : w17.heap.size ≤ w19.heap.size := hq_E19.size
    clear cx_aY zx_aY
    replace HX_aY := Lib.hid (HX_aY.out.below hw)
    clear cx_aS zx_aS
    replace HX_aS := Lib.hid (HX_aS.out.below hw)
    clear cx_w0 zx_w0
    replace HX_w0 := Lib.hid (HX_w0.out.below hw)
    clear cx_w1 zx_w1
    replace HX_w1 := Lib.hid (HX_w1.out.below hw)
    clear cx_x0 zx_x0
    replace HX_x0 := Lib.hid (HX_x0.out.below hw)
    clear cx_x1 zx_x1
    replace HX_x1 := Lib.hid (HX_x1.out.below hw)
    clear cx_g0 zx_g0
    replace HX_g0 := Lib.hid (HX_g0.out.below hw)
    clear cx_g1 zx_g1
    replace HX_g1 := Lib.hid (HX_g1.out.below hw)
    have ⟨cx_aY, zx_aY⟩ := HX_aY.out
    have ⟨cx_aS, zx_aS⟩ := HX_aS.out
    have ⟨cx_w0, zx_w0⟩ := HX_w0.out
    have ⟨cx_w1, zx_w1⟩ := HX_w1.out
    have ⟨cx_x0, zx_x0⟩ := HX_x0.out
    have ⟨cx_x1, zx_x1⟩ := HX_x1.out
    have ⟨cx_g0, zx_g0⟩ := HX_g0.out
    have ⟨cx_g1, zx_g1⟩ := HX_g1.out
    replace HA0 := Lib.hid (HA0.out.below hw)
    replace HA1 := Lib.hid (HA1.out.below hw)
    replace HA3 := Lib.hid (HA3.out.below hw)
    replace H_w0 := Lib.hid (H_w0.out.below hw)
    replace H_w1 := Lib.hid (H_w1.out.below hw)
    replace H_x0 := Lib.hid (H_x0.out.below hw)
    replace H_x1 := Lib.hid (H_x1.out.below hw)
    replace H_x3 := Lib.hid (H_x3.out.below hw)
    replace H_g0 := Lib.hid (H_g0.out.below hw)
    replace H_g1 := Lib.hid (H_g1.out.below hw)
    replace HB := Lib.hid (below_call HB.out HB.out.size hw)
    clear hw
    go_wp2_with fail
    refine (toIntS _ a3 _ (HA3.out.reads.below (by repeat (first | with_reducible exact belR | with_reducible apply belA | (with_reducible refine belS ?_ ?_; focus (first | omega | (simp; done) | (simp; omega))) | with_reducible apply belN | with_reducible apply belD | with_reducible assumption))) (by first | omega | exact hv_aFates)).mono ?_
    rintro e w20 ⟨d_x3_26, rfl, hf, hb⟩
    obtain ⟨ao_x3_26, cap_x3_26, rfl⟩ := Fresh.slice hf
    obtain ⟨fp__x3_26, o__x3_26⟩ := Fresh.own hf (lo := w19.heap.size) (by first | omega | (simp; done) | (simp; omega))
    have H__x3_26 := Lib.hid o__x3_26; clear o__x3_26
    have hw : Below w19.heap.size w19 w20 := below_call (by repeat (first | with_reducible exact belR | with_reducible apply belA | (with_reducible refine belS ?_ ?_; focus (first | omega | (simp; done) | (simp; omega))) | with_reducible apply belN | with_reducible apply belD | with_reducible assumption)) (by first | omega | (simp; done) | (simp; omega)) hb
    have hsw20 : w19.heap.size ≤ w20.heap.size := by have y := hb.size; (try simp at y); omega
    clear cx_aY zx_aY
    replace HX_aY := Lib.hid (HX_aY.out.below hw)
    clear cx_aS zx_aS
    replace HX_aS := Lib.hid (HX_aS.out.below hw)
    clear cx_w0 zx_w0
    replace HX_w0 := Lib.hid (HX_w0.out.below hw)
    clear cx_w1 zx_w1
    replace HX_w1 := Lib.hid (HX_w1.out.below hw)
    clear cx_x0 zx_x0
    replace HX_x0 := Lib.hid (HX_x0.out.below hw)
    clear cx_x1 zx_x1
    replace HX_x1 := Lib.hid (HX_x1.out.below hw)
    clear cx_g0 zx_g0
    replace HX_g0 := Lib.hid (HX_g0.out.below hw)
    clear cx_g1 zx_g1
    replace HX_g1 := Lib.hid (HX_g1.out.below hw)
    have ⟨cx_aY, zx_aY⟩ := HX_aY.out
    have ⟨cx_aS, zx_aS⟩ := HX_aS.out
    have ⟨cx_w0, zx_w0⟩ := HX_w0.out
    have ⟨cx_w1, zx_w1⟩ := HX_w1.out
    have ⟨cx_x0, zx_x0⟩ := HX_x0.out
    have ⟨cx_x1, zx_x1⟩ := HX_x1.out
    have ⟨cx_g0, zx_g0⟩ := HX_g0.out
    have ⟨cx_g1, zx_g1⟩ := HX_g1.out
    replace HA0 := Lib.hid (HA0.out.below hw)
    replace HA1 := Lib.hid (HA1.out.below hw)
    replace HA3 := Lib.hid (HA3.out.below hw)
    replace H_w0 := Lib.hid (H_w0.out.below hw)
    replace H_w1 := Lib.hid (H_w1.out.below hw)
    replace H_x0 := Lib.hid (H_x0.out.below hw)
    replace H_x1 := Lib.hid (H_x1.out.below hw)
    replace H_x3 := Lib.hid (H_x3.out.below hw)
    replace H_g0 := Lib.hid (H_g0.out.below hw)
    replace H_g1 := Lib.hid (H_g1.out.below hw)
    replace HB := Lib.hid (below_call HB.out HB.out.size hw)
    clear hw
    clear hb hf
    go_wp2_with fail
    refine (eqIntS _ _ a3 _ (H_x3.out.reads.below (by repeat (first | with_reducible exact belR | with_reducible apply belA | (with_reducible refine belS ?_ ?_; focus (first | omega | (simp; done) | (simp; omega))) | with_reducible apply belN | with_reducible apply belD | with_reducible assumption))) (H__x3_26.out.reads.below (by repeat (first | with_reducible exact belR | with_reducible apply belA | (with_reducible refine belS ?_ ?_; focus (first | omega | (simp; done) | (simp; omega))) | with_reducible apply belN | with_reducible apply belD | with_reducible assumption)))).mono ?_
    rintro e w21 ⟨rfl, hb⟩
    have hw : Below w20.heap.size w20 w21 := below_call (by repeat (first | with_reducible exact belR | with_reducible apply belA | (with_reducible refine belS ?_ ?_; focus (first | omega | (simp; done) | (simp; omega))) | with_reducible apply belN | with_reducible apply belD | with_reducible assumption)) (by first | omega | (simp; done) | (simp; omega)) hb
    have hsw21 : w20.heap.size ≤ w21.heap.size := by have y := hb.size; (try simp at y); omega
    clear cx_aY zx_aY
    replace HX_aY := Lib.hid (HX_aY.out.below hw)
    clear cx_aS zx_aS
    replace HX_aS := Lib.hid (HX_aS.out.below hw)
    clear cx_w0 zx_w0
    replace HX_w0 := Lib.hid (HX_w0.out.below hw)
    clear cx_w1 zx_w1
    replace HX_w1 := Lib.hid (HX_w1.out.below hw)
    clear cx_x0 zx_x0
    replace HX_x0 := Lib.hid (HX_x0.out.below hw)
    clear cx_x1 zx_x1
    replace HX_x1 := Lib.hid (HX_x1.out.below hw)
    clear cx_g0 zx_g0
    replace HX_g0 := Lib.hid (HX_g0.out.below hw)
    clear cx_g1 zx_g1
    replace HX_g1 := Lib.hid (HX_g1.out.below hw)
    have ⟨cx_aY, zx_aY⟩ := HX_aY.out
    have ⟨cx_aS, zx_aS⟩ := HX_aS.out
    have ⟨cx_w0, zx_w0⟩ := HX_w0.out
    have ⟨cx_w1, zx_w1⟩ := HX_w1.out
    have ⟨cx_x0, zx_x0⟩ := HX_x0.out
    have ⟨cx_x1, zx_x1⟩ := HX_x1.out
    have ⟨cx_g0, zx_g0⟩ := HX_g0.out
    have ⟨cx_g1, zx_g1⟩ := HX_g1.out
    replace HA0 := Lib.hid (HA0.out.below hw)
    replace HA1 := Lib.hid (HA1.out.below hw)
    replace HA3 := Lib.hid (HA3.out.below hw)
    replace H_w0 := Lib.hid (H_w0.out.below hw)
    replace H_w1 := Lib.hid (H_w1.out.below hw)
    replace H_x0 := Lib.hid (H_x0.out.below hw)
    replace H_x1 := Lib.hid (H_x1.out.below hw)
    replace H_x3 := Lib.hid (H_x3.out.below hw)
    replace H_g0 := Lib.hid (H_g0.out.below hw)
    replace H_g1 := Lib.hid (H_g1.out.below hw)
    replace H__x3_26 := Lib.hid (H__x3_26.out.below hw)
    replace HB := Lib.hid (below_call HB.out HB.out.size hw)
    clear hw
    clear hb
    clear H__x3_26
    go_wp2_with fail
    have hk_x0 := (hm_x0 a0 (by first | omega | exact hv_aY))
    refine (markSync _ a0 fp_x0 (1) _ H_x0.out.rd H_x0.out.nodup (by omega)).mono ?_
    rintro e w22 ⟨rfl, hrd, hc⟩
    have hnew := Own.mk hrd H_x0.out.nodup (H_x0.out.ivl)
    have hq := H_x0.out.ivl
    have hsw22 : w21.heap.size ≤ w22.heap.size := hc.size
    clear cx_aY zx_aY
    replace HX_aY := Lib.hid (HX_aY.out.chg hc hq (by omega))
    clear cx_aS zx_aS
    replace HX_aS := Lib.hid (HX_aS.out.chg hc hq (by omega))
    clear cx_w0 zx_w0
    replace HX_w0 := Lib.hid (HX_w0.out.chg hc hq (by omega))
    clear cx_w1 zx_w1
    replace HX_w1 := Lib.hid (HX_w1.out.chg hc hq (by omega))
    clear cx_x0 zx_x0
    replace HX_x0 := Lib.hid (HX_x0.out.chg hc hq (by omega))
    clear cx_x1 zx_x1
    replace HX_x1 := Lib.hid (HX_x1.out.chg hc hq (by omega))
    clear cx_g0 zx_g0
    replace HX_g0 := Lib.hid (HX_g0.out.chg hc hq (by omega))
    clear cx_g1 zx_g1
    replace HX_g1 := Lib.hid (HX_g1.out.chg hc hq (by omega))
    have ⟨cx_aY, zx_aY⟩ := HX_aY.out
    have ⟨cx_aS, zx_aS⟩ := HX_aS.out
    have ⟨cx_w0, zx_w0⟩ := HX_w0.out
    have ⟨cx_w1, zx_w1⟩ := HX_w1.out
    have ⟨cx_x0, zx_x0⟩ := HX_x0.out
    have ⟨cx_x1, zx_x1⟩ := HX_x1.out
    have ⟨cx_g0, zx_g0⟩ := HX_g0.out
    have ⟨cx_g1, zx_g1⟩ := HX_g1.out
    replace HA0 := Lib.hid (HA0.out.chg hc hq (by omega))
    replace HA1 := Lib.hid (HA1.out.chg hc hq (by omega))
    replace HA3 := Lib.hid (HA3.out.chg hc hq (by omega))
    replace H_w0 := Lib.hid (H_w0.out.chg hc (Own.apart H_w0.out H_x0.out (by omega)))
    replace H_w1 := Lib.hid (H_w1.out.chg hc (Own.apart H_w1.out H_x0.out (by omega)))
    replace H_x1 := Lib.hid (H_x1.out.chg hc (Own.apart H_x1.out H_x0.out (by omega)))
    replace H_x3 := Lib.hid (H_x3.out.chg hc (Own.apart H_x3.out H_x0.out (by omega)))
    replace H_g0 := Lib.hid (H_g0.out.chg hc (Own.apart H_g0.out H_x0.out (by omega)))
    replace H_g1 := Lib.hid (H_g1.out.chg hc (Own.apart H_g1.out H_x0.out (by omega)))
    replace HB := Lib.hid (Below.chg HB.out hc hq (by omega) HB.out.size)
    clear hq
    replace H_x0 := Lib.hid hnew; clear hnew hrd hc
    go_wp2_with fail
    have hk_x1 := (hm_x1 a1 (by first | omega | exact hv_aS))
    refine (markServer _ a1 fp_x1 (1 + (a0).mcnt) _ H_x1.out.rd H_x1.out.nodup (by omega)).mono ?_
    rintro e w23 ⟨rfl, hrd, hc⟩
    have hnew := Own.mk hrd H_x1.out.nodup (H_x1.out.ivl)
    have hq := H_x1.out.ivl
    have hsw23 : w22.heap.size ≤ w23.heap.size := hc.size
    clear cx_aY zx_aY
    replace HX_aY := Lib.hid (HX_aY.out.chg hc hq (by omega))
    clear cx_aS zx_aS
    replace HX_aS := Lib.hid (HX_aS.out.chg hc hq (by omega))
    clear cx_w0 zx_w0
    replace HX_w0 := Lib.hid (HX_w0.out.chg hc hq (by omega))
    clear cx_w1 zx_w1
    replace HX_w1 := Lib.hid (HX_w1.out.chg hc hq (by omega))
    clear cx_x0 zx_x0
    replace HX_x0 := Lib.hid (HX_x0.out.chg hc hq (by omega))
    clear cx_x1 zx_x1
    replace HX_x1 := Lib.hid (HX_x1.out.chg hc hq (by omega))
    clear cx_g0 zx_g0
    replace HX_g0 := Lib.hid (HX_g0.out.chg hc hq (by omega))
    clear cx_g1 zx_g1
    replace HX_g1 := Lib.hid (HX_g1.out.chg hc hq (by omega))
    have ⟨cx_aY, zx_aY⟩ := HX_aY.out
    have ⟨cx_aS, zx_aS⟩ := HX_aS.out
    have ⟨cx_w0, zx_w0⟩ := HX_w0.out
    have ⟨cx_w1, zx_w1⟩ := HX_w1.out
    have ⟨cx_x0, zx_x0⟩ := HX_x0.out
    have ⟨cx_x1, zx_x1⟩ := HX_x1.out
    have ⟨cx_g0, zx_g0⟩ := HX_g0.out
    have ⟨cx_g1, zx_g1⟩ := HX_g1.out
    replace HA0 := Lib.hid (HA0.out.chg hc hq (by omega))
    replace HA1 := Lib.hid (HA1.out.chg hc hq (by omega))
    replace HA3 := Lib.hid (HA3.out.chg hc hq (by omega))
    replace H_w0 := Lib.hid (H_w0.out.chg hc (Own.apart H_w0.out H_x1.out (by omega)))
    replace H_w1 := Lib.hid (H_w1.out.chg hc (Own.apart H_w1.out H_x1.out (by omega)))
    replace H_x0 := Lib.hid (H_x0.out.chg hc (Own.apart H_x0.out H_x1.out (by omega)))
    replace H_x3 := Lib.hid (H_x3.out.chg hc (Own.apart H_x3.out H_x1.out (by omega)))
    replace H_g0 := Lib.hid (H_g0.out.chg hc (Own.apart H_g0.out H_x1.out (by omega)))
    replace H_g1 := Lib.hid (H_g1.out.chg hc (Own.apart H_g1.out H_x1.out (by omega)))
    replace HB := Lib.hid (Below.chg HB.out hc hq (by omega) HB.out.size)
    clear hq
    replace H_x1 := Lib.hid hnew; clear hnew hrd hc
    go_wp2_with fail
    have hk_x3 := (hm_x3 a3 (by first | omega | exact hv_aFates))
    refine (markIntS _ a3 fp_x3 (1 + (a0).mcnt + (a1).mcnt) _ H_x3.out.rd H_x3.out.nodup (by omega)).mono ?_
    rintro e w24 ⟨rfl, hrd, hc⟩
    have hnew := Own.mk hrd H_x3.out.nodup (H_x3.out.ivl)
    have hq := H_x3.out.ivl
    have hsw24 : w23.heap.size ≤ w24.heap.size := hc.size
    clear cx_aY zx_aY
    replace HX_aY := Lib.hid (HX_aY.out.chg hc hq (by omega))
    clear cx_aS zx_aS
    replace HX_aS := Lib.hid (HX_aS.out.chg hc hq (by omega))
    clear cx_w0 zx_w0
    replace HX_w0 := Lib.hid (HX_w0.out.chg hc hq (by omega))
    clear cx_w1 zx_w1
    replace HX_w1 := Lib.hid (HX_w1.out.chg hc hq (by omega))
    clear cx_x0 zx_x0
    replace HX_x0 := Lib.hid (HX_x0.out.chg hc hq (by omega))
    clear cx_x1 zx_x1
    replace HX_x1 := Lib.hid (HX_x1.out.chg hc hq (by omega))
    clear cx_g0 zx_g0
    replace HX_g0 := Lib.hid (HX_g0.out.chg hc hq (by omega))
    clear cx_g1 zx_g1
    replace HX_g1 := Lib.hid (HX_g1.out.chg hc hq (by omega))
    have ⟨cx_aY, zx_aY⟩ := HX_aY.out
    have ⟨cx_aS, zx_aS⟩ := HX_aS.out
    have ⟨cx_w0, zx_w0⟩ := HX_w0.out
    have ⟨cx_w1, zx_w1⟩ := HX_w1.out
    have ⟨cx_x0, zx_x0⟩ := HX_x0.out
    have ⟨cx_x1, zx_x1⟩ := HX_x1.out
    have ⟨cx_g0, zx_g0⟩ := HX_g0.out
    have ⟨cx_g1, zx_g1⟩ := HX_g1.out
    replace HA0 := Lib.hid (HA0.out.chg hc hq (by omega))
    replace HA1 := Lib.hid (HA1.out.chg hc hq (by omega))
    replace HA3 := Lib.hid (HA3.out.chg hc hq (by omega))
    replace H_w0 := Lib.hid (H_w0.out.chg hc (Own.apart H_w0.out H_x3.out (by omega)))
    replace H_w1 := Lib.hid (H_w1.out.chg hc (Own.apart H_w1.out H_x3.out (by omega)))
    replace H_x0 := Lib.hid (H_x0.out.chg hc (Own.apart H_x0.out H_x3.out (by omega)))
    replace H_x1 := Lib.hid (H_x1.out.chg hc (Own.apart H_x1.out H_x3.out (by omega)))
    replace H_g0 := Lib.hid (H_g0.out.chg hc (Own.apart H_g0.out H_x3.out (by omega)))
    replace H_g1 := Lib.hid (H_g1.out.chg hc (Own.apart H_g1.out H_x3.out (by omega)))
    replace HB := Lib.hid (Below.chg HB.out hc hq (by omega) HB.out.size)
    clear hq
    replace H_x3 := Lib.hid hnew; clear hnew hrd hc
    go_wp2_with fail
    refine (eqSync _ _ (f0 a0 a1 a2 a3) _ (H_g0.out.reads.below (by repeat (first | with_reducible exact belR | with_reducible apply belA | (with_reducible refine belS ?_ ?_; focus (first | omega | (simp; done) | (simp; omega))) | with_reducible apply belN | with_reducible apply belD | with_reducible assumption))) (H_w0.out.reads.below (by repeat (first | with_reducible exact belR | with_reducible apply belA | (with_reducible refine belS ?_ ?_; focus (first | omega | (simp; done) | (simp; omega))) | with_reducible apply belN | with_reducible apply belD | with_reducible assumption)))).mono ?_
    rintro e w25 ⟨rfl, hb⟩
    have hw : Below w24.heap.size w24 w25 := below_call (by repeat (first | with_reducible exact belR | with_reducible apply belA | (with_reducible refine belS ?_ ?_; focus (first | omega | (simp; done) | (simp; omega))) | with_reducible apply belN | with_reducible apply belD | with_reducible assumption)) (by first | omega | (simp; done) | (simp; omega)) hb
    have hsw25 : w24.heap.size ≤ w25.heap.size := by have y := hb.size; (try simp at y); omega
    clear cx_aY zx_aY
    replace HX_aY := Lib.hid (HX_aY.out.below hw)
    clear cx_aS zx_aS
    replace HX_aS := Lib.hid (HX_aS.out.below hw)
    clear cx_w0 zx_w0
    replace HX_w0 := Lib.hid (HX_w0.out.below hw)
    clear cx_w1 zx_w1
    replace HX_w1 := Lib.hid (HX_w1.out.below hw)
    clear cx_x0 zx_x0
    replace HX_x0 := Lib.hid (HX_x0.out.below hw)
    clear cx_x1 zx_x1
    replace HX_x1 := Lib.hid (HX_x1.out.below hw)
    clear cx_g0 zx_g0
    replace HX_g0 := Lib.hid (HX_g0.out.below hw)
    clear cx_g1 zx_g1
    replace HX_g1 := Lib.hid (HX_g1.out.below hw)
    have ⟨cx_aY, zx_aY⟩ := HX_aY.out
    have ⟨cx_aS, zx_aS⟩ := HX_aS.out
    have ⟨cx_w0, zx_w0⟩ := HX_w0.out
    have ⟨cx_w1, zx_w1⟩ := HX_w1.out
    have ⟨cx_x0, zx_x0⟩ := HX_x0.out
    have ⟨cx_x1, zx_x1⟩ := HX_x1.out
    have ⟨cx_g0, zx_g0⟩ := HX_g0.out
    have ⟨cx_g1, zx_g1⟩ := HX_g1.out
    replace HA0 := Lib.hid (HA0.out.below hw)
    replace HA1 := Lib.hid (HA1.out.below hw)
    replace HA3 := Lib.hid (HA3.out.below hw)
    replace H_w0 := Lib.hid (H_w0.out.below hw)
    replace H_w1 := Lib.hid (H_w1.out.below hw)
    replace H_x0 := Lib.hid (H_x0.out.below hw)
    replace H_x1 := Lib.hid (H_x1.out.below hw)
    replace H_x3 := Lib.hid (H_x3.out.below hw)
    replace H_g0 := Lib.hid (H_g0.out.below hw)
    replace H_g1 := Lib.hid (H_g1.out.below hw)
    replace HB := Lib.hid (below_call HB.out HB.out.size hw)
    clear hw
    clear hb
    rename_i i3_0 i3_1 i3_2 i3_3 i3_4 i3_5 i3_6 i3_7
    revert f0 f1 hS hI hm_g0 hm_g1 hm_x0 hm_x1 hm_x3 a0 a1 a2 a3 w ht0 i1_0 ao0_0 cap0_0 i1_1 ao1_0 cap1_0 ao1_1 cap1_1 ao1_2 cap1_2 fp ao3 cap3 hl3 i1_2 i1_3 hg_aFates hv_aFates i1_4 i1_5 w1 hsw1 hv_aY i1_6 w2 hsw2 hv_aS i1_7 w3 hsw3 w7 u22 u23 u24 u25 u26 u27 u28 u29 u30 u31 u32 u33 u34 u35 u36 u37 u38 u39 u40 u41 u42 u43 u44 u45 u46 u47 u48 u49 u50 u51 u52 u53 u54 u55 u56 u57 u58 u59 u60 u61 u62 u63 u64 u65 u66 u67 u68 u69 u70 u71 u72 u73 u74 u75 u76 u77 u78 u79 u80 u81 u82 u83 u84 u85 u86 u87 u88 u89 u90 u91 u92 u93 u94 u95 u96 u97 u98 u99 u100 u101 u102 u103 u104 u105 u106 u107 u108 u109 u110 u111 u112 u113 u114 u115 u116 u117 u118 u119 u120 u121 u122 u123 u124 u125 u126 u127 u128 u129 u130 u131 u132 u133 u134 u135 u136 u137 u138 u139 u140 u141 u142 u143 u144 u145 u146 u147 u148 u149 u150 u151 u152 u153 u154 u155 u156 u157 u158 u159 u160 kb_w0 kb_w1 ao_w0_0 cap_w0_0 ao_w1_0 cap_w1_0 ao_w1_1 cap_w1_1 ao_w1_2 cap_w1_2 lo_w0 hi_w0 fp_w0 fp_w1 hk1_w0 hk2_w0 hk1_w1 hk2_w1 hl1_w0 hl2_w0 hd_w0 hsw7 hkz_w0 hkz_w1 HD_w0_w1 w8 ao_x0_0 cap_x0_0 fp_x0 hsw8 w9 ao_x1_0 cap_x1_0 ao_x1_1 cap_x1_1 ao_x1_2 cap_x1_2 fp_x1 hsw9 w10 ao_x3 cap_x3 fp_x3 hsw10 w11 ao_g0_0 cap_g0_0 hp0 ao_g1_0 cap_g1_0 ao_g1_1 cap_g1_1 ao_g1_2 cap_g1_2 hp1 hf0 fp_g0 fp_g1 HD_g0_g1 hsw11 w12 hsw12 w13 hsw13 w14 hsw14 w15 hb_x0_e14 hq_x0_e14 ao_x0_e14_0 cap_x0_e14_0 hf_x0_e14 hr_x0_e14 w16 hb_E16 hq_E16 i2_4 hsw16 w17 hsw17 w18 hb_x1_e17 hq_x1_e17 ao_x1_e17_0 cap_x1_e17_0 ao_x1_e17_1 cap_x1_e17_1 ao_x1_e17_2 cap_x1_e17_2 hf_x1_e17 hr_x1_e17 w19 hb_E19 hq_E19 i3_0 hsw19 w20 ao_x3_26 cap_x3_26 fp__x3_26 hsw20 w21 hsw21 hk_x0 w22 hsw22 hk_x1 w23 hsw23 hk_x3 w24 hsw24 i3_1 i3_2 i3_3 i3_4 i3_5 i3_6 i3_7 w25 hsw25 HX_aY HX_aS HX_w0 HX_w1 HX_x0 HX_x1 HX_g0 HX_g1 cx_aY zx_aY cx_aS zx_aS cx_w0 zx_w0 cx_w1 zx_w1 cx_x0 zx_x0 cx_x1 zx_x1 cx_g0 zx_g0 cx_g1 zx_g1 HA0 HA1 HA3 H_w0 H_w1 H_x0 H_x1 H_x3 H_g0 H_g1 HB
    exact H.out⟩).down)

end Go.Proofs.YtgicglmcapnogaaGreat
