/-
  FnExactSyncAll: part 4 of the law's walk.
-/
import Derived.Test.YtgicglmcapnogaaGreatESyncAll3
namespace Go.Proofs.YtgicglmcapnogaaGreat
open Go.RowKit Go.ChangeShapes

set_option maxRecDepth 100000 in
set_option maxHeartbeats 16000000 in
def lawSyncAll4 :=
  fun (H : Rest _) => PLift.up ((lawSyncAll3 ⟨by
    intro f0 f1 hS hI hm_g0 hm_g1 hm_x0 hm_x1 hm_x3 a0 a1 a2 a3 w ht0 i1_0 ao0_0 cap0_0 i1_1 ao1_0 cap1_0 ao1_1 cap1_1 ao1_2 cap1_2 fp ao3 cap3 hl3 i1_2 i1_3 hg_aFates hv_aFates i1_4 i1_5 w1 hsw1 hv_aY i1_6 w2 hsw2 hv_aS i1_7 w3 hsw3 w7 u22 u23 u24 u25 u26 u27 u28 u29 u30 u31 u32 u33 u34 u35 u36 u37 u38 u39 u40 u41 u42 u43 u44 u45 u46 u47 u48 u49 u50 u51 u52 u53 u54 u55 u56 u57 u58 u59 u60 u61 u62 u63 u64 u65 u66 u67 u68 u69 u70 u71 u72 u73 u74 u75 u76 u77 u78 u79 u80 u81 u82 u83 u84 u85 u86 u87 u88 u89 u90 u91 u92 u93 u94 u95 u96 u97 u98 u99 u100 u101 u102 u103 u104 u105 u106 u107 u108 u109 u110 u111 u112 u113 u114 u115 u116 u117 u118 u119 u120 u121 u122 u123 u124 u125 u126 u127 u128 u129 u130 u131 u132 u133 u134 u135 u136 u137 u138 u139 u140 u141 u142 u143 u144 u145 u146 u147 u148 u149 u150 u151 u152 u153 u154 u155 u156 u157 u158 u159 u160 kb_w0 kb_w1 ao_w0_0 cap_w0_0 ao_w1_0 cap_w1_0 ao_w1_1 cap_w1_1 ao_w1_2 cap_w1_2 lo_w0 hi_w0 fp_w0 fp_w1 hk1_w0 hk2_w0 hk1_w1 hk2_w1 hl1_w0 hl2_w0 hd_w0 hsw7 hkz_w0 hkz_w1 HD_w0_w1 w8 ao_x0_0 cap_x0_0 fp_x0 hsw8 w9 ao_x1_0 cap_x1_0 ao_x1_1 cap_x1_1 ao_x1_2 cap_x1_2 fp_x1 hsw9 w10 ao_x3 cap_x3 fp_x3 hsw10 w11 ao_g0_0 cap_g0_0 hp0 ao_g1_0 cap_g1_0 ao_g1_1 cap_g1_1 ao_g1_2 cap_g1_2 hp1 hf0 fp_g0 fp_g1 HD_g0_g1 hsw11 w12 hsw12 w13 hsw13 w14 hsw14 w15 hb_x0_e14 hq_x0_e14 ao_x0_e14_0 cap_x0_e14_0 hf_x0_e14 hr_x0_e14 w16 hb_E16 hq_E16 i2_4 hsw16 w17 hsw17 w18 hb_x1_e17 hq_x1_e17 ao_x1_e17_0 cap_x1_e17_0 ao_x1_e17_1 cap_x1_e17_1 ao_x1_e17_2 cap_x1_e17_2 hf_x1_e17 hr_x1_e17 w19 hb_E19 hq_E19 i3_0 hsw19 w20 ao_x3_26 cap_x3_26 fp__x3_26 hsw20 w21 hsw21 hk_x0 w22 hsw22 hk_x1 w23 hsw23 hk_x3 w24 hsw24 i3_1 i3_2 i3_3 i3_4 i3_5 i3_6 i3_7 w25 hsw25 HX_aY HX_aS HX_w0 HX_w1 HX_x0 HX_x1 HX_g0 HX_g1 cx_aY zx_aY cx_aS zx_aS cx_w0 zx_w0 cx_w1 zx_w1 cx_x0 zx_x0 cx_x1 zx_x1 cx_g0 zx_g0 cx_g1 zx_g1 HA0 HA1 HA3 H_w0 H_w1 H_x0 H_x1 H_x3 H_g0 H_g1 HB
    go_wp2_with fail
    refine (eqServer _ _ (f1 a0 a1 a2 a3) _ (H_g1.out.reads.below (by repeat (first | with_reducible exact belR | with_reducible apply belA | (with_reducible refine belS ?_ ?_; focus (first | omega | (simp; done) | (simp; omega))) | with_reducible apply belN | with_reducible apply belD | with_reducible assumption))) (H_w1.out.reads.below (by repeat (first | with_reducible exact belR | with_reducible apply belA | (with_reducible refine belS ?_ ?_; focus (first | omega | (simp; done) | (simp; omega))) | with_reducible apply belN | with_reducible apply belD | with_reducible assumption)))).mono ?_
    rintro e w26 ⟨rfl, hb⟩
    have hw : Below w25.heap.size w25 w26 := below_call (by repeat (first | with_reducible exact belR | with_reducible apply belA | (with_reducible refine belS ?_ ?_; focus (first | omega | (simp; done) | (simp; omega))) | with_reducible apply belN | with_reducible apply belD | with_reducible assumption)) (by first | omega | (simp; done) | (simp; omega)) hb
    have hsw26 : w25.heap.size ≤ w26.heap.size := by have y := hb.size; (try simp at y); omega
    clear cx_aY zx_aY
    replace HX_aY := Lib.hid (HX_aY.out.below hw)
    clear cx_aS zx_aS
    replace HX_aS := Lib.hid (HX_aS.out.below hw)
    clear cx_w0 zx_w0
    replace HX_w0 := Lib.hid (HX_w0.out.below hw)
    clear cx_w1 zx_w1
    replace HX_w1 := Lib.hid (HX_w1.out.below hw)
    clear cx_x0 zx_x0
    replace HX_x0 := Lib.hid (HX_x0.out.below hw)
    clear cx_x1 zx_x1
    replace HX_x1 := Lib.hid (HX_x1.out.below hw)
    clear cx_g0 zx_g0
    replace HX_g0 := Lib.hid (HX_g0.out.below hw)
    clear cx_g1 zx_g1
    replace HX_g1 := Lib.hid (HX_g1.out.below hw)
    have ⟨cx_aY, zx_aY⟩ := HX_aY.out
    have ⟨cx_aS, zx_aS⟩ := HX_aS.out
    have ⟨cx_w0, zx_w0⟩ := HX_w0.out
    have ⟨cx_w1, zx_w1⟩ := HX_w1.out
    have ⟨cx_x0, zx_x0⟩ := HX_x0.out
    have ⟨cx_x1, zx_x1⟩ := HX_x1.out
    have ⟨cx_g0, zx_g0⟩ := HX_g0.out
    have ⟨cx_g1, zx_g1⟩ := HX_g1.out
    replace HA0 := Lib.hid (HA0.out.below hw)
    replace HA1 := Lib.hid (HA1.out.below hw)
    replace HA3 := Lib.hid (HA3.out.below hw)
    replace H_w0 := Lib.hid (H_w0.out.below hw)
    replace H_w1 := Lib.hid (H_w1.out.below hw)
    replace H_x0 := Lib.hid (H_x0.out.below hw)
    replace H_x1 := Lib.hid (H_x1.out.below hw)
    replace H_x3 := Lib.hid (H_x3.out.below hw)
    replace H_g0 := Lib.hid (H_g0.out.below hw)
    replace H_g1 := Lib.hid (H_g1.out.below hw)
    replace HB := Lib.hid (below_call HB.out HB.out.size hw)
    clear hw
    clear hb
    go_wp2_with fail
    have hk_g0 := (hm_g0 a0 a1 a2 a3 (by first | omega | exact hv_aY) (by first | omega | exact hv_aS) (by first | omega | exact hv_aFates) ht0)
    refine (markSync _ (f0 a0 a1 a2 a3) fp_g0 (1) _ H_g0.out.rd H_g0.out.nodup (by omega)).mono ?_
    rintro e w27 ⟨rfl, hrd, hc⟩
    have hnew := Own.mk hrd H_g0.out.nodup (H_g0.out.ivl)
    have hq := H_g0.out.ivl
    have hsw27 : w26.heap.size ≤ w27.heap.size := hc.size
    clear cx_aY zx_aY
    replace HX_aY := Lib.hid (HX_aY.out.chg hc hq (by omega))
    clear cx_aS zx_aS
    replace HX_aS := Lib.hid (HX_aS.out.chg hc hq (by omega))
    clear cx_w0 zx_w0
    replace HX_w0 := Lib.hid (HX_w0.out.chg hc hq (by omega))
    clear cx_w1 zx_w1
    replace HX_w1 := Lib.hid (HX_w1.out.chg hc hq (by omega))
    clear cx_x0 zx_x0
    replace HX_x0 := Lib.hid (HX_x0.out.chg hc hq (by omega))
    clear cx_x1 zx_x1
    replace HX_x1 := Lib.hid (HX_x1.out.chg hc hq (by omega))
    clear cx_g0 zx_g0
    replace HX_g0 := Lib.hid (HX_g0.out.chg hc hq (by omega))
    clear cx_g1 zx_g1
    replace HX_g1 := Lib.hid (HX_g1.out.chg hc hq (by omega))
    have ⟨cx_aY, zx_aY⟩ := HX_aY.out
    have ⟨cx_aS, zx_aS⟩ := HX_aS.out
    have ⟨cx_w0, zx_w0⟩ := HX_w0.out
    have ⟨cx_w1, zx_w1⟩ := HX_w1.out
    have ⟨cx_x0, zx_x0⟩ := HX_x0.out
    have ⟨cx_x1, zx_x1⟩ := HX_x1.out
    have ⟨cx_g0, zx_g0⟩ := HX_g0.out
    have ⟨cx_g1, zx_g1⟩ := HX_g1.out
    replace HA0 := Lib.hid (HA0.out.chg hc hq (by omega))
    replace HA1 := Lib.hid (HA1.out.chg hc hq (by omega))
    replace HA3 := Lib.hid (HA3.out.chg hc hq (by omega))
    replace H_w0 := Lib.hid (H_w0.out.chg hc (Own.apart H_w0.out H_g0.out (by omega)))
    replace H_w1 := Lib.hid (H_w1.out.chg hc (Own.apart H_w1.out H_g0.out (by omega)))
    replace H_x0 := Lib.hid (H_x0.out.chg hc (Own.apart H_x0.out H_g0.out (by omega)))
    replace H_x1 := Lib.hid (H_x1.out.chg hc (Own.apart H_x1.out H_g0.out (by omega)))
    replace H_x3 := Lib.hid (H_x3.out.chg hc (Own.apart H_x3.out H_g0.out (by omega)))
    replace H_g1 := Lib.hid (H_g1.out.chg hc (fun b hb hb' => HD_g0_g1 b hb' hb))
    replace HB := Lib.hid (Below.chg HB.out hc hq (by omega) HB.out.size)
    clear hq
    replace H_g0 := Lib.hid hnew; clear hnew hrd hc
    go_wp2_with fail
    have hk_g1 := (hm_g1 a0 a1 a2 a3 (by first | omega | exact hv_aY) (by first | omega | exact hv_aS) (by first | omega | exact hv_aFates) ht0)
    refine (markServer _ (f1 a0 a1 a2 a3) fp_g1 (1 + ((f0 a0 a1 a2 a3)).mcnt) _ H_g1.out.rd H_g1.out.nodup (by omega)).mono ?_
    rintro e w28 ⟨rfl, hrd, hc⟩
    have hnew := Own.mk hrd H_g1.out.nodup (H_g1.out.ivl)
    have hq := H_g1.out.ivl
    have hsw28 : w27.heap.size ≤ w28.heap.size := hc.size
    clear cx_aY zx_aY
    replace HX_aY := Lib.hid (HX_aY.out.chg hc hq (by omega))
    clear cx_aS zx_aS
    replace HX_aS := Lib.hid (HX_aS.out.chg hc hq (by omega))
    clear cx_w0 zx_w0
    replace HX_w0 := Lib.hid (HX_w0.out.chg hc hq (by omega))
    clear cx_w1 zx_w1
    replace HX_w1 := Lib.hid (HX_w1.out.chg hc hq (by omega))
    clear cx_x0 zx_x0
    replace HX_x0 := Lib.hid (HX_x0.out.chg hc hq (by omega))
    clear cx_x1 zx_x1
    replace HX_x1 := Lib.hid (HX_x1.out.chg hc hq (by omega))
    clear cx_g0 zx_g0
    replace HX_g0 := Lib.hid (HX_g0.out.chg hc hq (by omega))
    clear cx_g1 zx_g1
    replace HX_g1 := Lib.hid (HX_g1.out.chg hc hq (by omega))
    have ⟨cx_aY, zx_aY⟩ := HX_aY.out
    have ⟨cx_aS, zx_aS⟩ := HX_aS.out
    have ⟨cx_w0, zx_w0⟩ := HX_w0.out
    have ⟨cx_w1, zx_w1⟩ := HX_w1.out
    have ⟨cx_x0, zx_x0⟩ := HX_x0.out
    have ⟨cx_x1, zx_x1⟩ := HX_x1.out
    have ⟨cx_g0, zx_g0⟩ := HX_g0.out
    have ⟨cx_g1, zx_g1⟩ := HX_g1.out
    replace HA0 := Lib.hid (HA0.out.chg hc hq (by omega))
    replace HA1 := Lib.hid (HA1.out.chg hc hq (by omega))
    replace HA3 := Lib.hid (HA3.out.chg hc hq (by omega))
    replace H_w0 := Lib.hid (H_w0.out.chg hc (Own.apart H_w0.out H_g1.out (by omega)))
    replace H_w1 := Lib.hid (H_w1.out.chg hc (Own.apart H_w1.out H_g1.out (by omega)))
    replace H_x0 := Lib.hid (H_x0.out.chg hc (Own.apart H_x0.out H_g1.out (by omega)))
    replace H_x1 := Lib.hid (H_x1.out.chg hc (Own.apart H_x1.out H_g1.out (by omega)))
    replace H_x3 := Lib.hid (H_x3.out.chg hc (Own.apart H_x3.out H_g1.out (by omega)))
    replace H_g0 := Lib.hid (H_g0.out.chg hc HD_g0_g1)
    replace HB := Lib.hid (Below.chg HB.out hc hq (by omega) HB.out.size)
    clear hq
    replace H_g1 := Lib.hid hnew; clear hnew hrd hc
    go_wp2_with fail
    refine (heldSync _ (f0 a0 a1 a2 a3) (1) _ (H_g0.out.reads.below (by repeat (first | with_reducible exact belR | with_reducible apply belA | (with_reducible refine belS ?_ ?_; focus (first | omega | (simp; done) | (simp; omega))) | with_reducible apply belN | with_reducible apply belD | with_reducible assumption))) (by omega)).mono ?_
    rintro e w29 ⟨rfl, hb⟩
    have hw : Below w28.heap.size w28 w29 := below_call (by repeat (first | with_reducible exact belR | with_reducible apply belA | (with_reducible refine belS ?_ ?_; focus (first | omega | (simp; done) | (simp; omega))) | with_reducible apply belN | with_reducible apply belD | with_reducible assumption)) (by first | omega | (simp; done) | (simp; omega)) hb
    have hsw29 : w28.heap.size ≤ w29.heap.size := by have y := hb.size; (try simp at y); omega
    clear cx_aY zx_aY
    replace HX_aY := Lib.hid (HX_aY.out.below hw)
    clear cx_aS zx_aS
    replace HX_aS := Lib.hid (HX_aS.out.below hw)
    clear cx_w0 zx_w0
    replace HX_w0 := Lib.hid (HX_w0.out.below hw)
    clear cx_w1 zx_w1
    replace HX_w1 := Lib.hid (HX_w1.out.below hw)
    clear cx_x0 zx_x0
    replace HX_x0 := Lib.hid (HX_x0.out.below hw)
    clear cx_x1 zx_x1
    replace HX_x1 := Lib.hid (HX_x1.out.below hw)
    clear cx_g0 zx_g0
    replace HX_g0 := Lib.hid (HX_g0.out.below hw)
    clear cx_g1 zx_g1
    replace HX_g1 := Lib.hid (HX_g1.out.below hw)
    have ⟨cx_aY, zx_aY⟩ := HX_aY.out
    have ⟨cx_aS, zx_aS⟩ := HX_aS.out
    have ⟨cx_w0, zx_w0⟩ := HX_w0.out
    have ⟨cx_w1, zx_w1⟩ := HX_w1.out
    have ⟨cx_x0, zx_x0⟩ := HX_x0.out
    have ⟨cx_x1, zx_x1⟩ := HX_x1.out
    have ⟨cx_g0, zx_g0⟩ := HX_g0.out
    have ⟨cx_g1, zx_g1⟩ := HX_g1.out
    replace HA0 := Lib.hid (HA0.out.below hw)
    replace HA1 := Lib.hid (HA1.out.below hw)
    replace HA3 := Lib.hid (HA3.out.below hw)
    replace H_w0 := Lib.hid (H_w0.out.below hw)
    replace H_w1 := Lib.hid (H_w1.out.below hw)
    replace H_x0 := Lib.hid (H_x0.out.below hw)
    replace H_x1 := Lib.hid (H_x1.out.below hw)
    replace H_x3 := Lib.hid (H_x3.out.below hw)
    replace H_g0 := Lib.hid (H_g0.out.below hw)
    replace H_g1 := Lib.hid (H_g1.out.below hw)
    replace HB := Lib.hid (below_call HB.out HB.out.size hw)
    clear hw
    clear hb
    go_wp2_with fail
    refine (heldServer _ (f1 a0 a1 a2 a3) (1 + ((f0 a0 a1 a2 a3)).mcnt) _ (H_g1.out.reads.below (by repeat (first | with_reducible exact belR | with_reducible apply belA | (with_reducible refine belS ?_ ?_; focus (first | omega | (simp; done) | (simp; omega))) | with_reducible apply belN | with_reducible apply belD | with_reducible assumption))) (by omega)).mono ?_
    rintro e w30 ⟨rfl, hb⟩
    have hw : Below w29.heap.size w29 w30 := below_call (by repeat (first | with_reducible exact belR | with_reducible apply belA | (with_reducible refine belS ?_ ?_; focus (first | omega | (simp; done) | (simp; omega))) | with_reducible apply belN | with_reducible apply belD | with_reducible assumption)) (by first | omega | (simp; done) | (simp; omega)) hb
    have hsw30 : w29.heap.size ≤ w30.heap.size := by have y := hb.size; (try simp at y); omega
    clear cx_aY zx_aY
    replace HX_aY := Lib.hid (HX_aY.out.below hw)
    clear cx_aS zx_aS
    replace HX_aS := Lib.hid (HX_aS.out.below hw)
    clear cx_w0 zx_w0
    replace HX_w0 := Lib.hid (HX_w0.out.below hw)
    clear cx_w1 zx_w1
    replace HX_w1 := Lib.hid (HX_w1.out.below hw)
    clear cx_x0 zx_x0
    replace HX_x0 := Lib.hid (HX_x0.out.below hw)
    clear cx_x1 zx_x1
    replace HX_x1 := Lib.hid (HX_x1.out.below hw)
    clear cx_g0 zx_g0
    replace HX_g0 := Lib.hid (HX_g0.out.below hw)
    clear cx_g1 zx_g1
    replace HX_g1 := Lib.hid (HX_g1.out.below hw)
    have ⟨cx_aY, zx_aY⟩ := HX_aY.out
    have ⟨cx_aS, zx_aS⟩ := HX_aS.out
    have ⟨cx_w0, zx_w0⟩ := HX_w0.out
    have ⟨cx_w1, zx_w1⟩ := HX_w1.out
    have ⟨cx_x0, zx_x0⟩ := HX_x0.out
    have ⟨cx_x1, zx_x1⟩ := HX_x1.out
    have ⟨cx_g0, zx_g0⟩ := HX_g0.out
    have ⟨cx_g1, zx_g1⟩ := HX_g1.out
    replace HA0 := Lib.hid (HA0.out.below hw)
    replace HA1 := Lib.hid (HA1.out.below hw)
    replace HA3 := Lib.hid (HA3.out.below hw)
    replace H_w0 := Lib.hid (H_w0.out.below hw)
    replace H_w1 := Lib.hid (H_w1.out.below hw)
    replace H_x0 := Lib.hid (H_x0.out.below hw)
    replace H_x1 := Lib.hid (H_x1.out.below hw)
    replace H_x3 := Lib.hid (H_x3.out.below hw)
    replace H_g0 := Lib.hid (H_g0.out.below hw)
    replace H_g1 := Lib.hid (H_g1.out.below hw)
    replace HB := Lib.hid (below_call HB.out HB.out.size hw)
    clear hw
    clear hb
    go_upto_region 41 with fail
    refine settle (fun W' => Below w30.heap.size w30 W' ∧ w30.heap.size ≤ W'.heap.size) ⟨(by repeat (first | with_reducible exact belR | with_reducible apply belA | (with_reducible refine belS ?_ ?_; focus (first | omega | (simp; done) | (simp; omega))) | with_reducible apply belN | with_reducible apply belD | with_reducible assumption)), (by first | omega | (simp; done) | (simp; omega))⟩ ?_
    rintro w31 ⟨hw, hsw31⟩
    clear cx_aY zx_aY
    replace HX_aY := Lib.hid (HX_aY.out.below hw)
    clear cx_aS zx_aS
    replace HX_aS := Lib.hid (HX_aS.out.below hw)
    clear cx_w0 zx_w0
    replace HX_w0 := Lib.hid (HX_w0.out.below hw)
    clear cx_w1 zx_w1
    replace HX_w1 := Lib.hid (HX_w1.out.below hw)
    clear cx_x0 zx_x0
    replace HX_x0 := Lib.hid (HX_x0.out.below hw)
    clear cx_x1 zx_x1
    replace HX_x1 := Lib.hid (HX_x1.out.below hw)
    clear cx_g0 zx_g0
    replace HX_g0 := Lib.hid (HX_g0.out.below hw)
    clear cx_g1 zx_g1
    replace HX_g1 := Lib.hid (HX_g1.out.below hw)
    have ⟨cx_aY, zx_aY⟩ := HX_aY.out
    have ⟨cx_aS, zx_aS⟩ := HX_aS.out
    have ⟨cx_w0, zx_w0⟩ := HX_w0.out
    have ⟨cx_w1, zx_w1⟩ := HX_w1.out
    have ⟨cx_x0, zx_x0⟩ := HX_x0.out
    have ⟨cx_x1, zx_x1⟩ := HX_x1.out
    have ⟨cx_g0, zx_g0⟩ := HX_g0.out
    have ⟨cx_g1, zx_g1⟩ := HX_g1.out
    replace HA0 := Lib.hid (HA0.out.below hw)
    replace HA1 := Lib.hid (HA1.out.below hw)
    replace HA3 := Lib.hid (HA3.out.below hw)
    replace H_w0 := Lib.hid (H_w0.out.below hw)
    replace H_w1 := Lib.hid (H_w1.out.below hw)
    replace H_x0 := Lib.hid (H_x0.out.below hw)
    replace H_x1 := Lib.hid (H_x1.out.below hw)
    replace H_x3 := Lib.hid (H_x3.out.below hw)
    replace H_g0 := Lib.hid (H_g0.out.below hw)
    replace H_g1 := Lib.hid (H_g1.out.below hw)
    replace HB := Lib.hid (below_call HB.out HB.out.size hw)
    clear hw
    go_cut [20, 21] (fun p_h0 p_h1 wx => ∃ (kb_h0 : Nat) (kb_h1 : Nat) (ao_h0_0 : Option Addr) (cap_h0_0 : Nat) (ao_h1_0 : Option Addr) (cap_h1_0 : Nat) (ao_h1_1 : Option Addr) (cap_h1_1 : Nat) (ao_h1_2 : Option Addr) (cap_h1_2 : Nat), p_h0 = .pointer (some ⟨kb_h0, 0, none⟩) ∧ p_h1 = .pointer (some ⟨kb_h1, 0, none⟩) ∧ Two DSync.rep DServer.rep w31 wx kb_h0 kb_h1 [.int .i64 ((f0 a0 a1 a2 a3)).outbox.device, .int .i64 ((f0 a0 a1 a2 a3)).outbox.next, .slice ao_h0_0 ((f0 a0 a1 a2 a3)).outbox.writes.length cap_h0_0, .int .i64 ((f0 a0 a1 a2 a3)).tries, .int .i64 ((f0 a0 a1 a2 a3)).waitUntil] [.string ((f1 a0 a1 a2 a3)).store.name, .slice ao_h1_0 ((f1 a0 a1 a2 a3)).store.items.length cap_h1_0, .int .i64 ((f1 a0 a1 a2 a3)).store.auto, .slice ao_h1_1 ((f1 a0 a1 a2 a3)).applied.length cap_h1_1, .slice ao_h1_2 ((f1 a0 a1 a2 a3)).changes.length cap_h1_2] (f0 a0 a1 a2 a3) (f1 a0 a1 a2 a3))
    case first =>
      have HSr : Hid (∀ w', Below w31.heap.size w31 w' → (∀ o, w'.cell? ⟨w.heap.size, o, none⟩ = #[.int .i64 a0.outbox.device, .int .i64 a0.outbox.next, .slice ao0_0 a0.outbox.writes.length cap0_0, .int .i64 a0.tries, .int .i64 a0.waitUntil][o]?) ∧ (∀ o, w'.cell? ⟨w.heap.size + 1, o, none⟩ = #[.string a1.store.name, .slice ao1_0 a1.store.items.length cap1_0, .int .i64 a1.store.auto, .slice ao1_1 a1.applied.length cap1_1, .slice ao1_2 a1.changes.length cap1_2][o]?) ∧ Below w31.heap.size w31 w') := Lib.hid fun w' hw' => ⟨fun o => (hw'.cell (p := ⟨w.heap.size, o, none⟩) zx_aY).trans (cx_aY o), fun o => (hw'.cell (p := ⟨w.heap.size + 1, o, none⟩) zx_aS).trans (cx_aS o), hw'⟩
      go_region_held3 (fun w' => (∀ o, w'.cell? ⟨w.heap.size, o, none⟩ = #[.int .i64 a0.outbox.device, .int .i64 a0.outbox.next, .slice ao0_0 a0.outbox.writes.length cap0_0, .int .i64 a0.tries, .int .i64 a0.waitUntil][o]?) ∧ (∀ o, w'.cell? ⟨w.heap.size + 1, o, none⟩ = #[.string a1.store.name, .slice ao1_0 a1.store.items.length cap1_0, .int .i64 a1.store.auto, .slice ao1_1 a1.applied.length cap1_1, .slice ao1_2 a1.changes.length cap1_2][o]?) ∧ Below w31.heap.size w31 w')
        (first | exact HSr.out _ (by repeat (first | with_reducible exact belR | (with_reducible refine belAB ?_ ?_; focus (first | omega | (simp; done) | (simp; omega))) | (with_reducible refine belS ?_ ?_; focus (first | omega | (simp; done) | (simp; omega))) | with_reducible apply belN | with_reducible apply belD | with_reducible assumption)))
        (first | (go_at_call 22; have hx := hq_h0_aFates; clear hx; have hS_F35 := ‹_ ∧ _ ∧ Below w31.heap.size w31 _›; refine (hI _ a0 _ a1 a2 _ a3 _ (hr_h0_aY.below (by repeat (first | with_reducible exact belR | with_reducible apply belA | (with_reducible refine belS ?_ ?_; focus (first | omega | (simp; done) | (simp; omega))) | with_reducible apply belN | with_reducible apply belD | with_reducible assumption))) (hr_h0_aS.below (by repeat (first | with_reducible exact belR | with_reducible apply belA | (with_reducible refine belS ?_ ?_; focus (first | omega | (simp; done) | (simp; omega))) | with_reducible apply belN | with_reducible apply belD | with_reducible assumption))) (hr_h0_aFates.below (by repeat (first | with_reducible exact belR | with_reducible apply belA | (with_reducible refine belS ?_ ?_; focus (first | omega | (simp; done) | (simp; omega))) | with_reducible apply belN | with_reducible apply belD | with_reducible assumption))) (by first | omega | exact hv_aY) (by first | omega | exact hv_aS) (by first | omega | exact hv_aFates) (by first | omega | exact ht0)).mono ?_; rintro e w35 ⟨d_h_0, d_h_1, rfl, hf0, hb_F35⟩; have hq_F35 : Below w31.heap.size w31 w35 := below_call hS_F35.2.2 hS_F35.2.2.size hb_F35; clear hS_F35; have hz_F35 := hq_F35.size; (first | (have hq := hwb_h0_h0_aFates; clear hq; have hwb_h0_F35 : WB w35 _ #[.int .i64 0, .int .i64 0, .slice none 0 0, .int .i64 0, .int .i64 0] := (by with_reducible exact WB.keep hwb_h0_h0_aFates hb_F35); have ⟨we_h0_F35, wl_h0_F35, wf_h0_F35⟩ := hwb_h0_F35) | (have hq := hwb_h0_h0_aFates; clear hq; have hwb_h0_F35 : WB w35 _ #[.int .i64 0, .int .i64 0, .slice none 0 0, .int .i64 0, .int .i64 0] := (by with_reducible exact WB.keep (WB.growA hwb_h0_h0_aFates) hb_F35); have ⟨we_h0_F35, wl_h0_F35, wf_h0_F35⟩ := hwb_h0_F35) | (have hwb_h0_F35 : WB w35 w34.heap.size #[.int .i64 0, .int .i64 0, .slice none 0 0, .int .i64 0, .int .i64 0] := (by with_reducible exact WB.keep (WB.at (Eq.refl _)) hb_F35); have ⟨we_h0_F35, wl_h0_F35, wf_h0_F35⟩ := hwb_h0_F35) | (have hwb_h0_F35 : WB w35 w34.heap.size #[.int .i64 0, .int .i64 0, .slice none 0 0, .int .i64 0, .int .i64 0] := (by with_reducible exact WB.keep (WB.growA (WB.at (Eq.refl _))) hb_F35); have ⟨we_h0_F35, wl_h0_F35, wf_h0_F35⟩ := hwb_h0_F35) | (have hwb_h0_F35 : WB w35 (w34.heap.size + 1) #[.int .i64 0, .int .i64 0, .slice none 0 0, .int .i64 0, .int .i64 0] := (by with_reducible exact WB.keep (WB.at (World.size_alloc _ _).symm) hb_F35); have ⟨we_h0_F35, wl_h0_F35, wf_h0_F35⟩ := hwb_h0_F35) | skip); (first | (have hq := hwb_h1_h0_aFates; clear hq; have hwb_h1_F35 : WB w35 _ #[.string ⟨#[]⟩, .slice none 0 0, .int .i64 0, .slice none 0 0, .slice none 0 0] := (by with_reducible exact WB.keep hwb_h1_h0_aFates hb_F35); have ⟨we_h1_F35, wl_h1_F35, wf_h1_F35⟩ := hwb_h1_F35) | (have hq := hwb_h1_h0_aFates; clear hq; have hwb_h1_F35 : WB w35 _ #[.string ⟨#[]⟩, .slice none 0 0, .int .i64 0, .slice none 0 0, .slice none 0 0] := (by with_reducible exact WB.keep (WB.growA hwb_h1_h0_aFates) hb_F35); have ⟨we_h1_F35, wl_h1_F35, wf_h1_F35⟩ := hwb_h1_F35) | (have hwb_h1_F35 : WB w35 w34.heap.size #[.string ⟨#[]⟩, .slice none 0 0, .int .i64 0, .slice none 0 0, .slice none 0 0] := (by with_reducible exact WB.keep (WB.at (Eq.refl _)) hb_F35); have ⟨we_h1_F35, wl_h1_F35, wf_h1_F35⟩ := hwb_h1_F35) | (have hwb_h1_F35 : WB w35 w34.heap.size #[.string ⟨#[]⟩, .slice none 0 0, .int .i64 0, .slice none 0 0, .slice none 0 0] := (by with_reducible exact WB.keep (WB.growA (WB.at (Eq.refl _))) hb_F35); have ⟨we_h1_F35, wl_h1_F35, wf_h1_F35⟩ := hwb_h1_F35) | (have hwb_h1_F35 : WB w35 (w34.heap.size + 1) #[.string ⟨#[]⟩, .slice none 0 0, .int .i64 0, .slice none 0 0, .slice none 0 0] := (by with_reducible exact WB.keep (WB.at (World.size_alloc _ _).symm) hb_F35); have ⟨we_h1_F35, wl_h1_F35, wf_h1_F35⟩ := hwb_h1_F35) | skip); have hp0 := hf0.left; have hp1 := hf0.right; obtain ⟨ao_h0_0, cap_h0_0, rfl⟩ := DSync.fshape hp0; obtain ⟨ao_h1_0, cap_h1_0, ao_h1_1, cap_h1_1, ao_h1_2, cap_h1_2, rfl⟩ := DServer.fshape hp1) | (go_at_call 21; have hx := hq_h0_aS; clear hx; have hS_h0_aFates := ‹_ ∧ _ ∧ Below w31.heap.size w31 _›; refine (toIntS _ a3 _ (HA3.out.reads.below hS_h0_aFates.2.2) (by first | omega | exact hv_aFates)).mono ?_; rintro e w34 ⟨d_h0_aFates, rfl, hf_h0_aFates, hb_h0_aFates⟩; have hq_h0_aFates : Below w31.heap.size w31 w34 := below_call hS_h0_aFates.2.2 hS_h0_aFates.2.2.size hb_h0_aFates; clear hS_h0_aFates; have hz_h0_aFates := hq_h0_aFates.size; (first | (have hq := hwb_h0_h0_aS; clear hq; have hwb_h0_h0_aFates : WB w34 _ #[.int .i64 0, .int .i64 0, .slice none 0 0, .int .i64 0, .int .i64 0] := (by with_reducible exact WB.keep hwb_h0_h0_aS hb_h0_aFates); have ⟨we_h0_h0_aFates, wl_h0_h0_aFates, wf_h0_h0_aFates⟩ := hwb_h0_h0_aFates) | (have hq := hwb_h0_h0_aS; clear hq; have hwb_h0_h0_aFates : WB w34 _ #[.int .i64 0, .int .i64 0, .slice none 0 0, .int .i64 0, .int .i64 0] := (by with_reducible exact WB.keep (WB.growA hwb_h0_h0_aS) hb_h0_aFates); have ⟨we_h0_h0_aFates, wl_h0_h0_aFates, wf_h0_h0_aFates⟩ := hwb_h0_h0_aFates) | (have hwb_h0_h0_aFates : WB w34 w33.heap.size #[.int .i64 0, .int .i64 0, .slice none 0 0, .int .i64 0, .int .i64 0] := (by with_reducible exact WB.keep (WB.at (Eq.refl _)) hb_h0_aFates); have ⟨we_h0_h0_aFates, wl_h0_h0_aFates, wf_h0_h0_aFates⟩ := hwb_h0_h0_aFates) | (have hwb_h0_h0_aFates : WB w34 w33.heap.size #[.int .i64 0, .int .i64 0, .slice none 0 0, .int .i64 0, .int .i64 0] := (by with_reducible exact WB.keep (WB.growA (WB.at (Eq.refl _))) hb_h0_aFates); have ⟨we_h0_h0_aFates, wl_h0_h0_aFates, wf_h0_h0_aFates⟩ := hwb_h0_h0_aFates) | (have hwb_h0_h0_aFates : WB w34 (w33.heap.size + 1) #[.int .i64 0, .int .i64 0, .slice none 0 0, .int .i64 0, .int .i64 0] := (by with_reducible exact WB.keep (WB.at (World.size_alloc _ _).symm) hb_h0_aFates); have ⟨we_h0_h0_aFates, wl_h0_h0_aFates, wf_h0_h0_aFates⟩ := hwb_h0_h0_aFates) | skip); (first | (have hq := hwb_h1_h0_aS; clear hq; have hwb_h1_h0_aFates : WB w34 _ #[.string ⟨#[]⟩, .slice none 0 0, .int .i64 0, .slice none 0 0, .slice none 0 0] := (by with_reducible exact WB.keep hwb_h1_h0_aS hb_h0_aFates); have ⟨we_h1_h0_aFates, wl_h1_h0_aFates, wf_h1_h0_aFates⟩ := hwb_h1_h0_aFates) | (have hq := hwb_h1_h0_aS; clear hq; have hwb_h1_h0_aFates : WB w34 _ #[.string ⟨#[]⟩, .slice none 0 0, .int .i64 0, .slice none 0 0, .slice none 0 0] := (by with_reducible exact WB.keep (WB.growA hwb_h1_h0_aS) hb_h0_aFates); have ⟨we_h1_h0_aFates, wl_h1_h0_aFates, wf_h1_h0_aFates⟩ := hwb_h1_h0_aFates) | (have hwb_h1_h0_aFates : WB w34 w33.heap.size #[.string ⟨#[]⟩, .slice none 0 0, .int .i64 0, .slice none 0 0, .slice none 0 0] := (by with_reducible exact WB.keep (WB.at (Eq.refl _)) hb_h0_aFates); have ⟨we_h1_h0_aFates, wl_h1_h0_aFates, wf_h1_h0_aFates⟩ := hwb_h1_h0_aFates) | (have hwb_h1_h0_aFates : WB w34 w33.heap.size #[.string ⟨#[]⟩, .slice none 0 0, .int .i64 0, .slice none 0 0, .slice none 0 0] := (by with_reducible exact WB.keep (WB.growA (WB.at (Eq.refl _))) hb_h0_aFates); have ⟨we_h1_h0_aFates, wl_h1_h0_aFates, wf_h1_h0_aFates⟩ := hwb_h1_h0_aFates) | (have hwb_h1_h0_aFates : WB w34 (w33.heap.size + 1) #[.string ⟨#[]⟩, .slice none 0 0, .int .i64 0, .slice none 0 0, .slice none 0 0] := (by with_reducible exact WB.keep (WB.at (World.size_alloc _ _).symm) hb_h0_aFates); have ⟨we_h1_h0_aFates, wl_h1_h0_aFates, wf_h1_h0_aFates⟩ := hwb_h1_h0_aFates) | skip); obtain ⟨ao_h0_aFates, cap_h0_aFates, rfl⟩ := Fresh.slice hf_h0_aFates; have hr_h0_aFates := hf_h0_aFates.reads; replace hr_h0_aY := hr_h0_aY.below (by first | exact hb_h0_aFates | exact (belD belR).trans hb_h0_aFates | exact below_call (by repeat (first | with_reducible exact belR | with_reducible apply belA | (with_reducible refine belS ?_ ?_; focus (first | omega | (simp; done) | (simp; omega))) | with_reducible apply belN | with_reducible apply belD | with_reducible assumption)) (by first | omega | (simp; done) | (simp; omega)) hb_h0_aFates); replace hr_h0_aS := hr_h0_aS.below (by first | exact hb_h0_aFates | exact (belD belR).trans hb_h0_aFates | exact below_call (by repeat (first | with_reducible exact belR | with_reducible apply belA | (with_reducible refine belS ?_ ?_; focus (first | omega | (simp; done) | (simp; omega))) | with_reducible apply belN | with_reducible apply belD | with_reducible assumption)) (by first | omega | (simp; done) | (simp; omega)) hb_h0_aFates)) | (go_at_call 10; have hx := hq_h0_aY; clear hx; have hS_h0_aS := ‹_ ∧ _ ∧ Below w31.heap.size w31 _›; refine (toServer _ a1 _ (HA1.out.reads.below hS_h0_aS.2.2) (by first | omega | (simp [DServer.wt]))).mono ?_; rintro e w33 ⟨d_h0_aS, rfl, hf_h0_aS, hb_h0_aS⟩; have hq_h0_aS : Below w31.heap.size w31 w33 := below_call hS_h0_aS.2.2 hS_h0_aS.2.2.size hb_h0_aS; clear hS_h0_aS; have hz_h0_aS := hq_h0_aS.size; (first | (have hq := hwb_h0_h0_aY; clear hq; have hwb_h0_h0_aS : WB w33 _ #[.int .i64 0, .int .i64 0, .slice none 0 0, .int .i64 0, .int .i64 0] := (by with_reducible exact WB.keep hwb_h0_h0_aY hb_h0_aS); have ⟨we_h0_h0_aS, wl_h0_h0_aS, wf_h0_h0_aS⟩ := hwb_h0_h0_aS) | (have hq := hwb_h0_h0_aY; clear hq; have hwb_h0_h0_aS : WB w33 _ #[.int .i64 0, .int .i64 0, .slice none 0 0, .int .i64 0, .int .i64 0] := (by with_reducible exact WB.keep (WB.growA hwb_h0_h0_aY) hb_h0_aS); have ⟨we_h0_h0_aS, wl_h0_h0_aS, wf_h0_h0_aS⟩ := hwb_h0_h0_aS) | (have hwb_h0_h0_aS : WB w33 w32.heap.size #[.int .i64 0, .int .i64 0, .slice none 0 0, .int .i64 0, .int .i64 0] := (by with_reducible exact WB.keep (WB.at (Eq.refl _)) hb_h0_aS); have ⟨we_h0_h0_aS, wl_h0_h0_aS, wf_h0_h0_aS⟩ := hwb_h0_h0_aS) | (have hwb_h0_h0_aS : WB w33 w32.heap.size #[.int .i64 0, .int .i64 0, .slice none 0 0, .int .i64 0, .int .i64 0] := (by with_reducible exact WB.keep (WB.growA (WB.at (Eq.refl _))) hb_h0_aS); have ⟨we_h0_h0_aS, wl_h0_h0_aS, wf_h0_h0_aS⟩ := hwb_h0_h0_aS) | (have hwb_h0_h0_aS : WB w33 (w32.heap.size + 1) #[.int .i64 0, .int .i64 0, .slice none 0 0, .int .i64 0, .int .i64 0] := (by with_reducible exact WB.keep (WB.at (World.size_alloc _ _).symm) hb_h0_aS); have ⟨we_h0_h0_aS, wl_h0_h0_aS, wf_h0_h0_aS⟩ := hwb_h0_h0_aS) | skip); (first | (have hq := hwb_h1_h0_aY; clear hq; have hwb_h1_h0_aS : WB w33 _ #[.string ⟨#[]⟩, .slice none 0 0, .int .i64 0, .slice none 0 0, .slice none 0 0] := (by with_reducible exact WB.keep hwb_h1_h0_aY hb_h0_aS); have ⟨we_h1_h0_aS, wl_h1_h0_aS, wf_h1_h0_aS⟩ := hwb_h1_h0_aS) | (have hq := hwb_h1_h0_aY; clear hq; have hwb_h1_h0_aS : WB w33 _ #[.string ⟨#[]⟩, .slice none 0 0, .int .i64 0, .slice none 0 0, .slice none 0 0] := (by with_reducible exact WB.keep (WB.growA hwb_h1_h0_aY) hb_h0_aS); have ⟨we_h1_h0_aS, wl_h1_h0_aS, wf_h1_h0_aS⟩ := hwb_h1_h0_aS) | (have hwb_h1_h0_aS : WB w33 w32.heap.size #[.string ⟨#[]⟩, .slice none 0 0, .int .i64 0, .slice none 0 0, .slice none 0 0] := (by with_reducible exact WB.keep (WB.at (Eq.refl _)) hb_h0_aS); have ⟨we_h1_h0_aS, wl_h1_h0_aS, wf_h1_h0_aS⟩ := hwb_h1_h0_aS) | (have hwb_h1_h0_aS : WB w33 w32.heap.size #[.string ⟨#[]⟩, .slice none 0 0, .int .i64 0, .slice none 0 0, .slice none 0 0] := (by with_reducible exact WB.keep (WB.growA (WB.at (Eq.refl _))) hb_h0_aS); have ⟨we_h1_h0_aS, wl_h1_h0_aS, wf_h1_h0_aS⟩ := hwb_h1_h0_aS) | (have hwb_h1_h0_aS : WB w33 (w32.heap.size + 1) #[.string ⟨#[]⟩, .slice none 0 0, .int .i64 0, .slice none 0 0, .slice none 0 0] := (by with_reducible exact WB.keep (WB.at (World.size_alloc _ _).symm) hb_h0_aS); have ⟨we_h1_h0_aS, wl_h1_h0_aS, wf_h1_h0_aS⟩ := hwb_h1_h0_aS) | skip); obtain ⟨ao_h0_aS_0, cap_h0_aS_0, ao_h0_aS_1, cap_h0_aS_1, ao_h0_aS_2, cap_h0_aS_2, rfl⟩ := DServer.fshape hf_h0_aS; have hr_h0_aS := hf_h0_aS.reads; replace hr_h0_aY := hr_h0_aY.below (by first | exact hb_h0_aS | exact (belD belR).trans hb_h0_aS | exact below_call (by repeat (first | with_reducible exact belR | with_reducible apply belA | (with_reducible refine belS ?_ ?_; focus (first | omega | (simp; done) | (simp; omega))) | with_reducible apply belN | with_reducible apply belD | with_reducible assumption)) (by first | omega | (simp; done) | (simp; omega)) hb_h0_aS)) | (go_at_call 9; have hS_h0_aY := ‹_ ∧ _ ∧ Below w31.heap.size w31 _›; refine (toSync _ a0 _ (HA0.out.reads.below hS_h0_aY.2.2) (by first | omega | (simp [DSync.wt]))).mono ?_; rintro e w32 ⟨d_h0_aY, rfl, hf_h0_aY, hb_h0_aY⟩; have hq_h0_aY : Below w31.heap.size w31 w32 := below_call hS_h0_aY.2.2 hS_h0_aY.2.2.size hb_h0_aY; clear hS_h0_aY; have hz_h0_aY := hq_h0_aY.size; (first | (have hwb_h0_h0_aY : WB w32 w31.heap.size #[.int .i64 0, .int .i64 0, .slice none 0 0, .int .i64 0, .int .i64 0] := (by with_reducible exact WB.keep (WB.growD (WB.at (Eq.refl _))) hb_h0_aY); have ⟨we_h0_h0_aY, wl_h0_h0_aY, wf_h0_h0_aY⟩ := hwb_h0_h0_aY) | (have hwb_h0_h0_aY : WB w32 w31.heap.size #[.int .i64 0, .int .i64 0, .slice none 0 0, .int .i64 0, .int .i64 0] := (by with_reducible exact WB.keep (WB.growD (WB.growA (WB.at (Eq.refl _)))) hb_h0_aY); have ⟨we_h0_h0_aY, wl_h0_h0_aY, wf_h0_h0_aY⟩ := hwb_h0_h0_aY) | (have hwb_h0_h0_aY : WB w32 (w31.heap.size + 1) #[.int .i64 0, .int .i64 0, .slice none 0 0, .int .i64 0, .int .i64 0] := (by with_reducible exact WB.keep (WB.growD (WB.at (World.size_alloc _ _).symm)) hb_h0_aY); have ⟨we_h0_h0_aY, wl_h0_h0_aY, wf_h0_h0_aY⟩ := hwb_h0_h0_aY) | skip); (first | (have hwb_h1_h0_aY : WB w32 w31.heap.size #[.string ⟨#[]⟩, .slice none 0 0, .int .i64 0, .slice none 0 0, .slice none 0 0] := (by with_reducible exact WB.keep (WB.growD (WB.at (Eq.refl _))) hb_h0_aY); have ⟨we_h1_h0_aY, wl_h1_h0_aY, wf_h1_h0_aY⟩ := hwb_h1_h0_aY) | (have hwb_h1_h0_aY : WB w32 w31.heap.size #[.string ⟨#[]⟩, .slice none 0 0, .int .i64 0, .slice none 0 0, .slice none 0 0] := (by with_reducible exact WB.keep (WB.growD (WB.growA (WB.at (Eq.refl _)))) hb_h0_aY); have ⟨we_h1_h0_aY, wl_h1_h0_aY, wf_h1_h0_aY⟩ := hwb_h1_h0_aY) | (have hwb_h1_h0_aY : WB w32 (w31.heap.size + 1) #[.string ⟨#[]⟩, .slice none 0 0, .int .i64 0, .slice none 0 0, .slice none 0 0] := (by with_reducible exact WB.keep (WB.growD (WB.at (World.size_alloc _ _).symm)) hb_h0_aY); have ⟨we_h1_h0_aY, wl_h1_h0_aY, wf_h1_h0_aY⟩ := hwb_h1_h0_aY) | skip); obtain ⟨ao_h0_aY_0, cap_h0_aY_0, rfl⟩ := DSync.fshape hf_h0_aY; have hr_h0_aY := hf_h0_aY.reads))
      all_goals
        go_wp2_with fail
        go_meet
        obtain ⟨lo0, hlo0, hf9⟩ := Fresh2.base hf0
        (try simp at hlo0)
        first
          | (have hx0 := hwb_h0_F35; clear hx0; have hx1 := hwb_h1_F35; clear hx1; with_reducible exact ⟨_, _, ao_h0_0, cap_h0_0, ao_h1_0, cap_h1_0, ao_h1_1, cap_h1_1, ao_h1_2, cap_h1_2, rfl, rfl, two_w1 hf9 hwb_h0_F35 hwb_h1_F35 (by omega) (by omega) (by omega) (by omega) (by omega) hq_F35⟩)
          | (have hx0 := hwb_h0_F35; clear hx0; have hx1 := hwb_h1_F35; clear hx1; with_reducible exact ⟨_, _, ao_h0_0, cap_h0_0, ao_h1_0, cap_h1_0, ao_h1_1, cap_h1_1, ao_h1_2, cap_h1_2, rfl, rfl, two_w6 hf9 hwb_h0_F35 hwb_h1_F35 (by omega) (by omega) (by omega) (by omega) (by omega) hq_F35⟩)
          | (have hx0 := hwb_h0_F35; clear hx0; with_reducible exact ⟨_, _, ao_h0_0, cap_h0_0, ao_h1_0, cap_h1_0, ao_h1_1, cap_h1_1, ao_h1_2, cap_h1_2, rfl, rfl, two_w2 hf9 hwb_h0_F35 (by with_reducible rfl) (by omega) (by omega) (by omega) hq_F35⟩)
          | (have hx0 := hwb_h1_F35; clear hx0; with_reducible exact ⟨_, _, ao_h0_0, cap_h0_0, ao_h1_0, cap_h1_0, ao_h1_1, cap_h1_1, ao_h1_2, cap_h1_2, rfl, rfl, two_w3 hf9 hwb_h1_F35 (by with_reducible rfl) (by omega) (by omega) (by omega) hq_F35⟩)
          | (with_reducible exact ⟨_, _, ao_h0_0, cap_h0_0, ao_h1_0, cap_h1_0, ao_h1_1, cap_h1_1, ao_h1_2, cap_h1_2, rfl, rfl, two_w4 hf9 (by with_reducible rfl) (by with_reducible rfl) (by omega) hq_F35⟩)
          | (with_reducible exact ⟨_, _, ao_h0_0, cap_h0_0, ao_h1_0, cap_h1_0, ao_h1_1, cap_h1_1, ao_h1_2, cap_h1_2, rfl, rfl, two_w5 hf9 (by with_reducible rfl) (by with_reducible rfl) (by omega) hq_F35⟩)
    obtain ⟨kb_h0, kb_h1, ao_h0_0, cap_h0_0, ao_h1_0, cap_h1_0, ao_h1_1, cap_h1_1, ao_h1_2, cap_h1_2, rfl, rfl, htw⟩ := hcut
    obtain ⟨lo_h0, hi_h0, fp_h0, fp_h1, hbx_h0, hk1_h0, hk2_h0, hbx_h1, hk1_h1, hk2_h1, hl1_h0, hl2_h0, ho_h0, ho_h1, hd_h0, hw⟩ := htw
    rename_i i4_0 i4_1 i4_2 i4_3 i4_4 i4_5 i4_6 i4_7 i4_8 i4_9 i4_10 i4_11 i4_12 i4_13 i4_14 i4_15 i4_16 i4_17 i4_18 i4_19 i4_20 i4_21 i4_22 i4_23 i4_24 i4_25 i4_26 i4_27 i4_28 i4_29 i4_30 i4_31 i4_32 i4_33 i4_34 i4_35 i4_36 i4_37 i4_38 i4_39 i4_40 i4_41 i4_42 i4_43 i4_44 i4_45 i4_46 i4_47 i4_48 i4_49 i4_50 i4_51 i4_52 i4_53 i4_54 i4_55 i4_56 i4_57 i4_58 i4_59 i4_60 i4_61 i4_62 i4_63 i4_64 i4_65 i4_66 i4_67 i4_68 i4_69 i4_70 i4_71 i4_72 i4_73 i4_74 i4_75 i4_76 i4_77 i4_78 i4_79 i4_80 i4_81 i4_82 i4_83 i4_84 i4_85 i4_86 i4_87 i4_88 i4_89 i4_90 i4_91 i4_92 i4_93 i4_94 i4_95 i4_96 i4_97 i4_98 i4_99 i4_100 i4_101 i4_102 i4_103 i4_104 i4_105 i4_106 i4_107 i4_108 i4_109 i4_110 i4_111 i4_112 i4_113 i4_114 i4_115 i4_116 i4_117 i4_118 i4_119 i4_120 i4_121 i4_122 i4_123 i4_124 i4_125 i4_126 i4_127 i4_128 i4_129 i4_130 i4_131 i4_132 i4_133 i4_134 i4_135 i4_136 i4_137 i4_138 i4_139 i4_140 i4_141 i4_142 i4_143
    revert f0 f1 hS hI hm_g0 hm_g1 hm_x0 hm_x1 hm_x3 a0 a1 a2 a3 w ht0 i1_0 ao0_0 cap0_0 i1_1 ao1_0 cap1_0 ao1_1 cap1_1 ao1_2 cap1_2 fp ao3 cap3 hl3 i1_2 i1_3 hg_aFates hv_aFates i1_4 i1_5 w1 hsw1 hv_aY i1_6 w2 hsw2 hv_aS i1_7 w3 hsw3 w7 i4_0 i4_1 i4_2 i4_3 i4_4 i4_5 i4_6 i4_7 i4_8 i4_9 i4_10 i4_11 i4_12 i4_13 i4_14 i4_15 i4_16 i4_17 i4_18 i4_19 i4_20 i4_21 i4_22 i4_23 i4_24 i4_25 i4_26 i4_27 i4_28 i4_29 i4_30 i4_31 i4_32 i4_33 i4_34 i4_35 i4_36 i4_37 i4_38 i4_39 i4_40 i4_41 i4_42 i4_43 i4_44 i4_45 i4_46 i4_47 i4_48 i4_49 i4_50 i4_51 i4_52 i4_53 i4_54 i4_55 i4_56 i4_57 i4_58 i4_59 i4_60 i4_61 i4_62 i4_63 i4_64 i4_65 i4_66 i4_67 i4_68 i4_69 i4_70 i4_71 i4_72 i4_73 i4_74 i4_75 i4_76 i4_77 i4_78 i4_79 i4_80 i4_81 i4_82 i4_83 i4_84 i4_85 i4_86 i4_87 i4_88 i4_89 i4_90 i4_91 i4_92 i4_93 i4_94 i4_95 i4_96 i4_97 i4_98 i4_99 i4_100 i4_101 i4_102 i4_103 i4_104 i4_105 i4_106 i4_107 i4_108 i4_109 i4_110 i4_111 i4_112 i4_113 i4_114 i4_115 i4_116 i4_117 i4_118 i4_119 i4_120 i4_121 i4_122 i4_123 i4_124 i4_125 i4_126 i4_127 i4_128 i4_129 i4_130 i4_131 i4_132 i4_133 i4_134 i4_135 i4_136 i4_137 i4_138 kb_w0 kb_w1 ao_w0_0 cap_w0_0 ao_w1_0 cap_w1_0 ao_w1_1 cap_w1_1 ao_w1_2 cap_w1_2 lo_w0 hi_w0 fp_w0 fp_w1 hk1_w0 hk2_w0 hk1_w1 hk2_w1 hl1_w0 hl2_w0 hd_w0 hsw7 hkz_w0 hkz_w1 HD_w0_w1 w8 ao_x0_0 cap_x0_0 fp_x0 hsw8 w9 ao_x1_0 cap_x1_0 ao_x1_1 cap_x1_1 ao_x1_2 cap_x1_2 fp_x1 hsw9 w10 ao_x3 cap_x3 fp_x3 hsw10 w11 ao_g0_0 cap_g0_0 hp0 ao_g1_0 cap_g1_0 ao_g1_1 cap_g1_1 ao_g1_2 cap_g1_2 hp1 hf0 fp_g0 fp_g1 HD_g0_g1 hsw11 w12 hsw12 w13 hsw13 w14 hsw14 w15 hb_x0_e14 hq_x0_e14 ao_x0_e14_0 cap_x0_e14_0 hf_x0_e14 hr_x0_e14 w16 hb_E16 hq_E16 i2_4 hsw16 w17 hsw17 w18 hb_x1_e17 hq_x1_e17 ao_x1_e17_0 cap_x1_e17_0 ao_x1_e17_1 cap_x1_e17_1 ao_x1_e17_2 cap_x1_e17_2 hf_x1_e17 hr_x1_e17 w19 hb_E19 hq_E19 i3_0 hsw19 w20 ao_x3_26 cap_x3_26 fp__x3_26 hsw20 w21 hsw21 hk_x0 w22 hsw22 hk_x1 w23 hsw23 hk_x3 w24 hsw24 i3_5 w25 hsw25 w26 hsw26 i4_139 hk_g0 w27 hsw27 hk_g1 w28 hsw28 w29 hsw29 i4_140 w30 hsw30 i4_141 i4_142 i4_143 w31 hsw31 HX_aY HX_aS HX_w0 HX_w1 HX_x0 HX_x1 HX_g0 HX_g1 cx_aY zx_aY cx_aS zx_aS cx_w0 zx_w0 cx_w1 zx_w1 cx_x0 zx_x0 cx_x1 zx_x1 cx_g0 zx_g0 cx_g1 zx_g1 HA0 HA1 HA3 H_w0 H_w1 H_x0 H_x1 H_x3 H_g0 H_g1 HB wc u22 u23 u24 u25 u26 u27 u28 u29 u30 u31 u32 u33 u34 u35 u36 u37 u38 u39 u40 u41 u42 u43 u44 u45 u46 u47 u48 u49 u50 u51 u52 u53 u54 u55 u56 u57 u58 u59 u60 u61 u62 u63 u64 u65 u66 u67 u68 u69 u70 u71 u72 u73 u74 u75 u76 u77 u78 u79 u80 u81 u82 u83 u84 u85 u86 u87 u88 u89 u90 u91 u92 u93 u94 u95 u96 u97 u98 u99 u100 u101 u102 u103 u104 u105 u106 u107 u108 u109 u110 u111 u112 u113 u114 u115 u116 u117 u118 u119 u120 u121 u122 u123 u124 u125 u126 u127 u128 u129 u130 u131 u132 u133 u134 u135 u136 u137 u138 u139 u140 u141 u142 u143 u144 u145 u146 u147 u148 u149 u150 u151 u152 u153 u154 u155 u156 u157 u158 u159 u160 kb_h0 kb_h1 ao_h0_0 cap_h0_0 ao_h1_0 cap_h1_0 ao_h1_1 cap_h1_1 ao_h1_2 cap_h1_2 lo_h0 hi_h0 fp_h0 fp_h1 hbx_h0 hk1_h0 hk2_h0 hbx_h1 hk1_h1 hk2_h1 hl1_h0 hl2_h0 ho_h0 ho_h1 hd_h0 hw
    exact H.out⟩).down)

end Go.Proofs.YtgicglmcapnogaaGreat
