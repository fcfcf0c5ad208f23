/-
  FnExactDrainSync: the law's walk, and its row, off the contracts of impl.DrainSync and spec.DrainSync.
-/
import Derived.Test.YtgicglmcapnogaaGreatEDrainSync2
namespace Go.Proofs.YtgicglmcapnogaaGreat
open Go.RowKit Go.ChangeShapes

set_option maxRecDepth 100000 in
set_option maxHeartbeats 16000000 in
theorem lawDrainSync (f0 : DSync → DServer → Int → DSync) (f1 : DSync → DServer → Int → DServer) (hS : SaidDrainSync f0 f1 18) (hI : SaidDrainSync f0 f1 19) (hm_g0 : ∀ (a0 : DSync) (a1 : DServer) (a2 : Int), (a0).wt ≤ 1048576 → (a1).wt ≤ 1048576 → -9223372036854775808 ≤ a0.tries → ((f0 a0 a1 a2)).mcnt ≤ 400000000) (hm_g1 : ∀ (a0 : DSync) (a1 : DServer) (a2 : Int), (a0).wt ≤ 1048576 → (a1).wt ≤ 1048576 → -9223372036854775808 ≤ a0.tries → ((f1 a0 a1 a2)).mcnt ≤ 400000000) (hm_x0 : ∀ (a0 : DSync), (a0).wt ≤ 1048576 → (a0).mcnt ≤ 400000000) (hm_x1 : ∀ (a1 : DServer), (a1).wt ≤ 1048576 → (a1).mcnt ≤ 400000000) (c0 : List Value) (a0 : DSync) (c1 : List Value) (a1 : DServer) (a2 : Int) (w : World) (h0 : Reads DSync.rep w c0 a0) (h1 : Reads DServer.rep w c1 a1) (ht0 : -9223372036854775808 ≤ a0.tries) :
    Calls Tryz.prog 4 #[.agg c0.toArray, .agg c1.toArray, .int .i64 a2] w fun e w' => e = .returned (.bool true) ∧ Below w.heap.size w w' :=
  (lawDrainSync2 ⟨by
    intro f0 f1 hS hI hm_g0 hm_g1 hm_x0 hm_x1 a0 a1 a2 w ht0 i1_0 ao0_0 cap0_0 fp ao1_0 cap1_0 ao1_1 cap1_1 ao1_2 cap1_2 i1_1 w1 hsw1 hv_aY i1_2 w2 hsw2 hv_aS i1_3 w3 hsw3 w6 i2_0 i2_1 i2_2 i2_3 i2_4 i2_5 i2_6 i2_7 i2_8 i2_9 i2_10 i2_11 i2_12 i2_13 i2_14 i2_15 i2_16 i2_17 i2_18 i2_19 i2_20 i2_21 i2_22 i2_23 i2_24 i2_25 i2_26 i2_27 i2_28 i2_29 i2_30 i2_31 i2_32 i2_33 i2_34 i2_35 i2_36 i2_37 i2_38 i2_39 i2_40 i2_41 i2_42 i2_43 i2_44 i2_45 i2_46 i2_47 i2_48 i2_49 i2_50 i2_51 i2_52 i2_53 i2_54 i2_55 i2_56 i2_57 i2_58 i2_59 i2_60 i2_61 i2_62 i2_63 i2_64 i2_65 i2_66 i2_67 i2_68 i2_69 i2_70 i2_71 i2_72 i2_73 i2_74 i2_75 i2_76 i2_77 i2_78 i2_79 i2_80 i2_81 i2_82 i2_83 i2_84 i2_85 i2_86 i2_87 i2_88 i2_89 i2_90 i2_91 i2_92 i2_93 i2_94 i2_95 i2_96 i2_97 i2_98 i2_99 i2_100 i2_101 i2_102 i2_103 i2_104 i2_105 i2_106 i2_107 i2_108 i2_109 i2_110 i2_111 i2_112 i2_113 i2_114 i2_115 i2_116 i2_117 i2_118 i2_119 i2_120 kb_w0 kb_w1 ao_w0_0 cap_w0_0 ao_w1_0 cap_w1_0 ao_w1_1 cap_w1_1 ao_w1_2 cap_w1_2 lo_w0 hi_w0 fp_w0 fp_w1 hk1_w0 hk2_w0 hk1_w1 hk2_w1 hl1_w0 hl2_w0 hd_w0 hsw6 hkz_w0 hkz_w1 HD_w0_w1 w7 ao_x0_0 cap_x0_0 fp_x0 hsw7 w8 ao_x1_0 cap_x1_0 ao_x1_1 cap_x1_1 ao_x1_2 cap_x1_2 fp_x1 hsw8 w9 ao_g0_0 cap_g0_0 hp0 ao_g1_0 cap_g1_0 ao_g1_1 cap_g1_1 ao_g1_2 cap_g1_2 hp1 hf0 fp_g0 fp_g1 HD_g0_g1 hsw9 w10 hsw10 w11 hsw11 w12 hsw12 w13 hb_x0_e12 hq_x0_e12 ao_x0_e12_0 cap_x0_e12_0 hf_x0_e12 hr_x0_e12 w14 hb_E14 hq_E14 hsw14 w15 hsw15 w16 hb_x1_e15 hq_x1_e15 ao_x1_e15_0 cap_x1_e15_0 ao_x1_e15_1 cap_x1_e15_1 ao_x1_e15_2 cap_x1_e15_2 hf_x1_e15 hr_x1_e15 w17 hb_E17 hq_E17 i2_121 hsw17 hk_x0 w18 hsw18 hk_x1 w19 hsw19 i2_122 w20 hsw20 w21 hsw21 i2_123 hk_g0 w22 hsw22 hk_g1 w23 hsw23 w24 hsw24 i2_124 w25 hsw25 i2_125 i2_126 i2_127 w26 hsw26 HX_aY HX_aS HX_w0 HX_w1 HX_x0 HX_x1 HX_g0 HX_g1 cx_aY zx_aY cx_aS zx_aS cx_w0 zx_w0 cx_w1 zx_w1 cx_x0 zx_x0 cx_x1 zx_x1 cx_g0 zx_g0 cx_g1 zx_g1 HA0 HA1 H_w0 H_w1 H_x0 H_x1 H_g0 H_g1 HB wc u19 u20 u21 u22 u23 u24 u25 u26 u27 u28 u29 u30 u31 u32 u33 u34 u35 u36 u37 u38 u39 u40 u41 u42 u43 u44 u45 u46 u47 u48 u49 u50 u51 u52 u53 u54 u55 u56 u57 u58 u59 u60 u61 u62 u63 u64 u65 u66 u67 u68 u69 u70 u71 u72 u73 u74 u75 u76 u77 u78 u79 u80 u81 u82 u83 u84 u85 u86 u87 u88 u89 u90 u91 u92 u93 u94 u95 u96 u97 u98 u99 u100 u101 u102 u103 u104 u105 u106 u107 u108 u109 u110 u111 u112 u113 u114 u115 u116 u117 u118 u119 u120 u121 u122 u123 u124 u125 u126 u127 u128 u129 u130 u131 u132 u133 u134 u135 u136 u137 u138 u139 kb_h0 kb_h1 ao_h0_0 cap_h0_0 ao_h1_0 cap_h1_0 ao_h1_1 cap_h1_1 ao_h1_2 cap_h1_2 lo_h0 hi_h0 fp_h0 fp_h1 hbx_h0 hk1_h0 hk2_h0 hbx_h1 hk1_h1 hk2_h1 hl1_h0 hl2_h0 ho_h0 ho_h1 hd_h0 hw
    rename World => w29
    have hsw29 : w26.heap.size ≤ w29.heap.size := hw.size
    clear cx_aY zx_aY
    replace HX_aY := Lib.hid (HX_aY.out.below hw)
    clear cx_aS zx_aS
    replace HX_aS := Lib.hid (HX_aS.out.below hw)
    clear cx_w0 zx_w0
    replace HX_w0 := Lib.hid (HX_w0.out.below hw)
    clear cx_w1 zx_w1
    replace HX_w1 := Lib.hid (HX_w1.out.below hw)
    clear cx_x0 zx_x0
    replace HX_x0 := Lib.hid (HX_x0.out.below hw)
    clear cx_x1 zx_x1
    replace HX_x1 := Lib.hid (HX_x1.out.below hw)
    clear cx_g0 zx_g0
    replace HX_g0 := Lib.hid (HX_g0.out.below hw)
    clear cx_g1 zx_g1
    replace HX_g1 := Lib.hid (HX_g1.out.below hw)
    have HX_h0 := Lib.hid hbx_h0; clear hbx_h0
    have hkz_h0 := HX_h0.out.2
    have HX_h1 := Lib.hid hbx_h1; clear hbx_h1
    have hkz_h1 := HX_h1.out.2
    have H_h0 := Lib.hid ho_h0; clear ho_h0
    have H_h1 := Lib.hid ho_h1; clear ho_h1
    have HD_h0_h1 := hd_h0
    have ⟨cx_aY, zx_aY⟩ := HX_aY.out
    have ⟨cx_aS, zx_aS⟩ := HX_aS.out
    have ⟨cx_w0, zx_w0⟩ := HX_w0.out
    have ⟨cx_w1, zx_w1⟩ := HX_w1.out
    have ⟨cx_x0, zx_x0⟩ := HX_x0.out
    have ⟨cx_x1, zx_x1⟩ := HX_x1.out
    have ⟨cx_g0, zx_g0⟩ := HX_g0.out
    have ⟨cx_g1, zx_g1⟩ := HX_g1.out
    have ⟨cx_h0, zx_h0⟩ := HX_h0.out
    have ⟨cx_h1, zx_h1⟩ := HX_h1.out
    replace HA0 := Lib.hid (HA0.out.below hw)
    replace HA1 := Lib.hid (HA1.out.below hw)
    replace H_w0 := Lib.hid (H_w0.out.below hw)
    replace H_w1 := Lib.hid (H_w1.out.below hw)
    replace H_x0 := Lib.hid (H_x0.out.below hw)
    replace H_x1 := Lib.hid (H_x1.out.below hw)
    replace H_g0 := Lib.hid (H_g0.out.below hw)
    replace H_g1 := Lib.hid (H_g1.out.below hw)
    replace HB := Lib.hid (below_call HB.out HB.out.size hw)
    clear hw
    go_wp2_with fail
    refine (eqSync _ _ (f0 a0 a1 a2) _ (H_h0.out.reads.below (by repeat (first | with_reducible exact belR | with_reducible apply belA | (with_reducible refine belS ?_ ?_; focus (first | omega | (simp; done) | (simp; omega))) | with_reducible apply belN | with_reducible apply belD | with_reducible assumption))) (H_w0.out.reads.below (by repeat (first | with_reducible exact belR | with_reducible apply belA | (with_reducible refine belS ?_ ?_; focus (first | omega | (simp; done) | (simp; omega))) | with_reducible apply belN | with_reducible apply belD | with_reducible assumption)))).mono ?_
    rintro e w30 ⟨rfl, hb⟩
    have hw : Below w29.heap.size w29 w30 := below_call (by repeat (first | with_reducible exact belR | with_reducible apply belA | (with_reducible refine belS ?_ ?_; focus (first | omega | (simp; done) | (simp; omega))) | with_reducible apply belN | with_reducible apply belD | with_reducible assumption)) (by first | omega | (simp; done) | (simp; omega)) hb
    have hsw30 : w29.heap.size ≤ w30.heap.size := by have y := hb.size; (try simp at y); omega
    clear cx_aY zx_aY
    replace HX_aY := Lib.hid (HX_aY.out.below hw)
    clear cx_aS zx_aS
    replace HX_aS := Lib.hid (HX_aS.out.below hw)
    clear cx_w0 zx_w0
    replace HX_w0 := Lib.hid (HX_w0.out.below hw)
    clear cx_w1 zx_w1
    replace HX_w1 := Lib.hid (HX_w1.out.below hw)
    clear cx_x0 zx_x0
    replace HX_x0 := Lib.hid (HX_x0.out.below hw)
    clear cx_x1 zx_x1
    replace HX_x1 := Lib.hid (HX_x1.out.below hw)
    clear cx_g0 zx_g0
    replace HX_g0 := Lib.hid (HX_g0.out.below hw)
    clear cx_g1 zx_g1
    replace HX_g1 := Lib.hid (HX_g1.out.below hw)
    clear cx_h0 zx_h0
    replace HX_h0 := Lib.hid (HX_h0.out.below hw)
    clear cx_h1 zx_h1
    replace HX_h1 := Lib.hid (HX_h1.out.below hw)
    have ⟨cx_aY, zx_aY⟩ := HX_aY.out
    have ⟨cx_aS, zx_aS⟩ := HX_aS.out
    have ⟨cx_w0, zx_w0⟩ := HX_w0.out
    have ⟨cx_w1, zx_w1⟩ := HX_w1.out
    have ⟨cx_x0, zx_x0⟩ := HX_x0.out
    have ⟨cx_x1, zx_x1⟩ := HX_x1.out
    have ⟨cx_g0, zx_g0⟩ := HX_g0.out
    have ⟨cx_g1, zx_g1⟩ := HX_g1.out
    have ⟨cx_h0, zx_h0⟩ := HX_h0.out
    have ⟨cx_h1, zx_h1⟩ := HX_h1.out
    replace HA0 := Lib.hid (HA0.out.below hw)
    replace HA1 := Lib.hid (HA1.out.below hw)
    replace H_w0 := Lib.hid (H_w0.out.below hw)
    replace H_w1 := Lib.hid (H_w1.out.below hw)
    replace H_x0 := Lib.hid (H_x0.out.below hw)
    replace H_x1 := Lib.hid (H_x1.out.below hw)
    replace H_g0 := Lib.hid (H_g0.out.below hw)
    replace H_g1 := Lib.hid (H_g1.out.below hw)
    replace H_h0 := Lib.hid (H_h0.out.below hw)
    replace H_h1 := Lib.hid (H_h1.out.below hw)
    replace HB := Lib.hid (below_call HB.out HB.out.size hw)
    clear hw
    clear hb
    go_wp2_with fail
    refine (eqServer _ _ (f1 a0 a1 a2) _ (H_h1.out.reads.below (by repeat (first | with_reducible exact belR | with_reducible apply belA | (with_reducible refine belS ?_ ?_; focus (first | omega | (simp; done) | (simp; omega))) | with_reducible apply belN | with_reducible apply belD | with_reducible assumption))) (H_w1.out.reads.below (by repeat (first | with_reducible exact belR | with_reducible apply belA | (with_reducible refine belS ?_ ?_; focus (first | omega | (simp; done) | (simp; omega))) | with_reducible apply belN | with_reducible apply belD | with_reducible assumption)))).mono ?_
    rintro e w31 ⟨rfl, hb⟩
    have hw : Below w30.heap.size w30 w31 := below_call (by repeat (first | with_reducible exact belR | with_reducible apply belA | (with_reducible refine belS ?_ ?_; focus (first | omega | (simp; done) | (simp; omega))) | with_reducible apply belN | with_reducible apply belD | with_reducible assumption)) (by first | omega | (simp; done) | (simp; omega)) hb
    have hsw31 : w30.heap.size ≤ w31.heap.size := by have y := hb.size; (try simp at y); omega
    clear cx_aY zx_aY
    replace HX_aY := Lib.hid (HX_aY.out.below hw)
    clear cx_aS zx_aS
    replace HX_aS := Lib.hid (HX_aS.out.below hw)
    clear cx_w0 zx_w0
    replace HX_w0 := Lib.hid (HX_w0.out.below hw)
    clear cx_w1 zx_w1
    replace HX_w1 := Lib.hid (HX_w1.out.below hw)
    clear cx_x0 zx_x0
    replace HX_x0 := Lib.hid (HX_x0.out.below hw)
    clear cx_x1 zx_x1
    replace HX_x1 := Lib.hid (HX_x1.out.below hw)
    clear cx_g0 zx_g0
    replace HX_g0 := Lib.hid (HX_g0.out.below hw)
    clear cx_g1 zx_g1
    replace HX_g1 := Lib.hid (HX_g1.out.below hw)
    clear cx_h0 zx_h0
    replace HX_h0 := Lib.hid (HX_h0.out.below hw)
    clear cx_h1 zx_h1
    replace HX_h1 := Lib.hid (HX_h1.out.below hw)
    have ⟨cx_aY, zx_aY⟩ := HX_aY.out
    have ⟨cx_aS, zx_aS⟩ := HX_aS.out
    have ⟨cx_w0, zx_w0⟩ := HX_w0.out
    have ⟨cx_w1, zx_w1⟩ := HX_w1.out
    have ⟨cx_x0, zx_x0⟩ := HX_x0.out
    have ⟨cx_x1, zx_x1⟩ := HX_x1.out
    have ⟨cx_g0, zx_g0⟩ := HX_g0.out
    have ⟨cx_g1, zx_g1⟩ := HX_g1.out
    have ⟨cx_h0, zx_h0⟩ := HX_h0.out
    have ⟨cx_h1, zx_h1⟩ := HX_h1.out
    replace HA0 := Lib.hid (HA0.out.below hw)
    replace HA1 := Lib.hid (HA1.out.below hw)
    replace H_w0 := Lib.hid (H_w0.out.below hw)
    replace H_w1 := Lib.hid (H_w1.out.below hw)
    replace H_x0 := Lib.hid (H_x0.out.below hw)
    replace H_x1 := Lib.hid (H_x1.out.below hw)
    replace H_g0 := Lib.hid (H_g0.out.below hw)
    replace H_g1 := Lib.hid (H_g1.out.below hw)
    replace H_h0 := Lib.hid (H_h0.out.below hw)
    replace H_h1 := Lib.hid (H_h1.out.below hw)
    replace HB := Lib.hid (below_call HB.out HB.out.size hw)
    clear hw
    clear hb
    go_wp2_with fail
    refine (heldSync _ (f0 a0 a1 a2) (1) _ (H_g0.out.reads.below (by repeat (first | with_reducible exact belR | with_reducible apply belA | (with_reducible refine belS ?_ ?_; focus (first | omega | (simp; done) | (simp; omega))) | with_reducible apply belN | with_reducible apply belD | with_reducible assumption))) (by omega)).mono ?_
    rintro e w32 ⟨rfl, hb⟩
    have hw : Below w31.heap.size w31 w32 := below_call (by repeat (first | with_reducible exact belR | with_reducible apply belA | (with_reducible refine belS ?_ ?_; focus (first | omega | (simp; done) | (simp; omega))) | with_reducible apply belN | with_reducible apply belD | with_reducible assumption)) (by first | omega | (simp; done) | (simp; omega)) hb
    have hsw32 : w31.heap.size ≤ w32.heap.size := by have y := hb.size; (try simp at y); omega
    clear cx_aY zx_aY
    replace HX_aY := Lib.hid (HX_aY.out.below hw)
    clear cx_aS zx_aS
    replace HX_aS := Lib.hid (HX_aS.out.below hw)
    clear cx_w0 zx_w0
    replace HX_w0 := Lib.hid (HX_w0.out.below hw)
    clear cx_w1 zx_w1
    replace HX_w1 := Lib.hid (HX_w1.out.below hw)
    clear cx_x0 zx_x0
    replace HX_x0 := Lib.hid (HX_x0.out.below hw)
    clear cx_x1 zx_x1
    replace HX_x1 := Lib.hid (HX_x1.out.below hw)
    clear cx_g0 zx_g0
    replace HX_g0 := Lib.hid (HX_g0.out.below hw)
    clear cx_g1 zx_g1
    replace HX_g1 := Lib.hid (HX_g1.out.below hw)
    clear cx_h0 zx_h0
    replace HX_h0 := Lib.hid (HX_h0.out.below hw)
    clear cx_h1 zx_h1
    replace HX_h1 := Lib.hid (HX_h1.out.below hw)
    have ⟨cx_aY, zx_aY⟩ := HX_aY.out
    have ⟨cx_aS, zx_aS⟩ := HX_aS.out
    have ⟨cx_w0, zx_w0⟩ := HX_w0.out
    have ⟨cx_w1, zx_w1⟩ := HX_w1.out
    have ⟨cx_x0, zx_x0⟩ := HX_x0.out
    have ⟨cx_x1, zx_x1⟩ := HX_x1.out
    have ⟨cx_g0, zx_g0⟩ := HX_g0.out
    have ⟨cx_g1, zx_g1⟩ := HX_g1.out
    have ⟨cx_h0, zx_h0⟩ := HX_h0.out
    have ⟨cx_h1, zx_h1⟩ := HX_h1.out
    replace HA0 := Lib.hid (HA0.out.below hw)
    replace HA1 := Lib.hid (HA1.out.below hw)
    replace H_w0 := Lib.hid (H_w0.out.below hw)
    replace H_w1 := Lib.hid (H_w1.out.below hw)
    replace H_x0 := Lib.hid (H_x0.out.below hw)
    replace H_x1 := Lib.hid (H_x1.out.below hw)
    replace H_g0 := Lib.hid (H_g0.out.below hw)
    replace H_g1 := Lib.hid (H_g1.out.below hw)
    replace H_h0 := Lib.hid (H_h0.out.below hw)
    replace H_h1 := Lib.hid (H_h1.out.below hw)
    replace HB := Lib.hid (below_call HB.out HB.out.size hw)
    clear hw
    clear hb
    go_wp2_with fail
    refine (heldServer _ (f1 a0 a1 a2) (1 + ((f0 a0 a1 a2)).mcnt) _ (H_g1.out.reads.below (by repeat (first | with_reducible exact belR | with_reducible apply belA | (with_reducible refine belS ?_ ?_; focus (first | omega | (simp; done) | (simp; omega))) | with_reducible apply belN | with_reducible apply belD | with_reducible assumption))) (by omega)).mono ?_
    rintro e w33 ⟨rfl, hb⟩
    have hw : Below w32.heap.size w32 w33 := below_call (by repeat (first | with_reducible exact belR | with_reducible apply belA | (with_reducible refine belS ?_ ?_; focus (first | omega | (simp; done) | (simp; omega))) | with_reducible apply belN | with_reducible apply belD | with_reducible assumption)) (by first | omega | (simp; done) | (simp; omega)) hb
    have hsw33 : w32.heap.size ≤ w33.heap.size := by have y := hb.size; (try simp at y); omega
    clear cx_aY zx_aY
    replace HX_aY := Lib.hid (HX_aY.out.below hw)
    clear cx_aS zx_aS
    replace HX_aS := Lib.hid (HX_aS.out.below hw)
    clear cx_w0 zx_w0
    replace HX_w0 := Lib.hid (HX_w0.out.below hw)
    clear cx_w1 zx_w1
    replace HX_w1 := Lib.hid (HX_w1.out.below hw)
    clear cx_x0 zx_x0
    replace HX_x0 := Lib.hid (HX_x0.out.below hw)
    clear cx_x1 zx_x1
    replace HX_x1 := Lib.hid (HX_x1.out.below hw)
    clear cx_g0 zx_g0
    replace HX_g0 := Lib.hid (HX_g0.out.below hw)
    clear cx_g1 zx_g1
    replace HX_g1 := Lib.hid (HX_g1.out.below hw)
    clear cx_h0 zx_h0
    replace HX_h0 := Lib.hid (HX_h0.out.below hw)
    clear cx_h1 zx_h1
    replace HX_h1 := Lib.hid (HX_h1.out.below hw)
    have ⟨cx_aY, zx_aY⟩ := HX_aY.out
    have ⟨cx_aS, zx_aS⟩ := HX_aS.out
    have ⟨cx_w0, zx_w0⟩ := HX_w0.out
    have ⟨cx_w1, zx_w1⟩ := HX_w1.out
    have ⟨cx_x0, zx_x0⟩ := HX_x0.out
    have ⟨cx_x1, zx_x1⟩ := HX_x1.out
    have ⟨cx_g0, zx_g0⟩ := HX_g0.out
    have ⟨cx_g1, zx_g1⟩ := HX_g1.out
    have ⟨cx_h0, zx_h0⟩ := HX_h0.out
    have ⟨cx_h1, zx_h1⟩ := HX_h1.out
    replace HA0 := Lib.hid (HA0.out.below hw)
    replace HA1 := Lib.hid (HA1.out.below hw)
    replace H_w0 := Lib.hid (H_w0.out.below hw)
    replace H_w1 := Lib.hid (H_w1.out.below hw)
    replace H_x0 := Lib.hid (H_x0.out.below hw)
    replace H_x1 := Lib.hid (H_x1.out.below hw)
    replace H_g0 := Lib.hid (H_g0.out.below hw)
    replace H_g1 := Lib.hid (H_g1.out.below hw)
    replace H_h0 := Lib.hid (H_h0.out.below hw)
    replace H_h1 := Lib.hid (H_h1.out.below hw)
    replace HB := Lib.hid (below_call HB.out HB.out.size hw)
    clear hw
    clear hb
    go_wp2_with fail
    go_ret
    have y := HB.out
    exact ⟨rfl, (by repeat (first | with_reducible exact belR | with_reducible apply belA | (with_reducible refine belS ?_ ?_; focus (first | omega | (simp; done) | (simp; omega))) | with_reducible apply belN | with_reducible apply belD | with_reducible assumption))⟩
    ⟩).down f0 f1 hS hI hm_g0 hm_g1 hm_x0 hm_x1 c0 a0 c1 a1 a2 w h0 h1 ht0

set_option maxRecDepth 100000 in
set_option maxHeartbeats 1000000 in
theorem drainSync_lifted (f0 : DSync → DServer → Int → DSync) (f1 : DSync → DServer → Int → DServer) (hS : SaidDrainSync f0 f1 18) (hI : SaidDrainSync f0 f1 19) (hm_g0 : ∀ (a0 : DSync) (a1 : DServer) (a2 : Int), (a0).wt ≤ 1048576 → (a1).wt ≤ 1048576 → -9223372036854775808 ≤ a0.tries → ((f0 a0 a1 a2)).mcnt ≤ 400000000) (hm_g1 : ∀ (a0 : DSync) (a1 : DServer) (a2 : Int), (a0).wt ≤ 1048576 → (a1).wt ≤ 1048576 → -9223372036854775808 ≤ a0.tries → ((f1 a0 a1 a2)).mcnt ≤ 400000000) (hm_x0 : ∀ (a0 : DSync), (a0).wt ≤ 1048576 → (a0).mcnt ≤ 400000000) (hm_x1 : ∀ (a1 : DServer), (a1).wt ≤ 1048576 → (a1).mcnt ≤ 400000000) (os : Os) (started : os.Started) (H : Type) (enc : TypeId × Value → H) :
    ReturnsInHanded {} Tryz.checked os 4 .any (Rows.fnExactDrainSyncSpec.pre6 enc Tryz.prog Tryz.f4 Rows.fnExactDrainSyncRow.domain false) (Rows.fnExactDrainSyncSpec.post enc Tryz.prog Tryz.f4 false true false false) := by
  refine law_lift (C := Tryz.checked) Tryz.own started (by kernel_rfl) Tryz.func4 Tryz.laidOut (by kernel_rfl) rfl Tryz.underlying4 rfl ?_
    (ChangeSpec.witness6 (enc := enc) (C := Tryz.checked) false ⟨#[], #[.agg #[.int .i64 0, .int .i64 0, .slice none 0 0, .int .i64 0, .int .i64 0], .agg #[.string ByteArray.empty, .slice none 0 0, .int .i64 0, .slice none 0 0, .slice none 0 0], .int .i64 0], []⟩ 8 (by kernel_rfl) (by kernel_rfl) (by kernel_rfl) (by kernel_rfl)) ?_
  · intro ds h
    match ds, h with
    | [_, _, _], _ => rfl
  · intro W base args ds ps hval hA0
    have hA : DataW.TrodAll enc Tryz.prog W 0 (fun _ => true) true Tryz.f4.params.toList args.toList ds ps := hA0
    rw [Tryz.params4] at hA hval
    obtain ⟨v0, v1, v2, _, _, _, _, _, _, rfl, t0, t1, t2⟩ := trodAll_open3 hA
    obtain ⟨c0, a0, rfl, r0⟩ := arg_struct Tryz.underlying26 DSync.opens_laws (hval 0 26 v0 rfl rfl) t0
    obtain ⟨c1, a1, rfl, r1⟩ := arg_struct Tryz.underlying32 DServer.opens_laws (hval 1 32 v1 rfl rfl) t1
    obtain ⟨a2, rfl⟩ := arg_int Tryz.underlying3 (hval 2 3 v2 rfl rfl) t2
    exact lawDrainSync f0 f1 hS hI hm_g0 hm_g1 hm_x0 hm_x1 c0.toList a0 c1.toList a1 a2 W r0 r1 (sync_tries_lo (hval 0 26 (.agg c0) rfl rfl) r0)

theorem drainSync_of (f0 : DSync → DServer → Int → DSync) (f1 : DSync → DServer → Int → DServer) (hS : SaidDrainSync f0 f1 18) (hI : SaidDrainSync f0 f1 19) (hm_g0 : ∀ (a0 : DSync) (a1 : DServer) (a2 : Int), (a0).wt ≤ 1048576 → (a1).wt ≤ 1048576 → -9223372036854775808 ≤ a0.tries → ((f0 a0 a1 a2)).mcnt ≤ 400000000) (hm_g1 : ∀ (a0 : DSync) (a1 : DServer) (a2 : Int), (a0).wt ≤ 1048576 → (a1).wt ≤ 1048576 → -9223372036854775808 ≤ a0.tries → ((f1 a0 a1 a2)).mcnt ≤ 400000000) (hm_x0 : ∀ (a0 : DSync), (a0).wt ≤ 1048576 → (a0).mcnt ≤ 400000000) (hm_x1 : ∀ (a1 : DServer), (a1).wt ≤ 1048576 → (a1).mcnt ≤ 400000000) : Rows.FnExactDrainSyncSaid :=
  OpenClaim.holds_of_wide 4 Tryz.f4 rfl rfl rfl rfl rfl rfl rfl ⟨rfl, rfl, rfl, rfl, rfl⟩ rfl rfl rfl rfl rfl (by kernel_rfl) Tryz.func4 (by kernel_rfl)
    (of_decide_eq_true (by kernel_rfl)) (by unfold Func.isWrapper; rw [if_neg (by decide +kernel)]; exact ⟨rfl, rfl⟩)
    (fun os started H enc _ => drainSync_lifted f0 f1 hS hI hm_g0 hm_g1 hm_x0 hm_x1 os started H enc)

end Go.Proofs.YtgicglmcapnogaaGreat
