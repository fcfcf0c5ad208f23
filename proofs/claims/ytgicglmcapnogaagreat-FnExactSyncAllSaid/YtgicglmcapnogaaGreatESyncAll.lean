/-
  FnExactSyncAll: the law's walk, and its row, off the contracts of impl.SyncAll and spec.SyncAll.
-/
import Derived.Test.YtgicglmcapnogaaGreatESyncAll4
namespace Go.Proofs.YtgicglmcapnogaaGreat
open Go.RowKit Go.ChangeShapes

set_option maxRecDepth 100000 in
set_option maxHeartbeats 16000000 in
theorem lawSyncAll (f0 : DSync → DServer → Int → (List Int) → DSync) (f1 : DSync → DServer → Int → (List Int) → DServer) (hS : SaidSyncAll f0 f1 20) (hI : SaidSyncAll f0 f1 22) (hm_g0 : ∀ (a0 : DSync) (a1 : DServer) (a2 : Int) (a3 : List Int), (a0).wt ≤ 1048576 → (a1).wt ≤ 1048576 → wtS wt0 a3 ≤ 1048576 → -9223372036854775808 ≤ a0.tries → ((f0 a0 a1 a2 a3)).mcnt ≤ 300000000) (hm_g1 : ∀ (a0 : DSync) (a1 : DServer) (a2 : Int) (a3 : List Int), (a0).wt ≤ 1048576 → (a1).wt ≤ 1048576 → wtS wt0 a3 ≤ 1048576 → -9223372036854775808 ≤ a0.tries → ((f1 a0 a1 a2 a3)).mcnt ≤ 300000000) (hm_x0 : ∀ (a0 : DSync), (a0).wt ≤ 1048576 → (a0).mcnt ≤ 300000000) (hm_x1 : ∀ (a1 : DServer), (a1).wt ≤ 1048576 → (a1).mcnt ≤ 300000000) (hm_x3 : ∀ (a3 : List Int), wtS wt0 a3 ≤ 1048576 → wtT cnt1 a3 (a3).length ≤ 300000000) (c0 : List Value) (a0 : DSync) (c1 : List Value) (a1 : DServer) (a2 : Int) (c3 : Value) (a3 : List Int) (w : World) (h0 : Reads DSync.rep w c0 a0) (h1 : Reads DServer.rep w c1 a1) (h3 : Reads (Rep.slice 3 Rep.int) w [c3] a3) (ht0 : -9223372036854775808 ≤ a0.tries) :
    Calls Tryz.prog 5 #[.agg c0.toArray, .agg c1.toArray, .int .i64 a2, c3] w fun e w' => e = .returned (.bool true) ∧ Below w.heap.size w w' :=
  (lawSyncAll4 ⟨by
    intro f0 f1 hS hI hm_g0 hm_g1 hm_x0 hm_x1 hm_x3 a0 a1 a2 a3 w ht0 i1_0 ao0_0 cap0_0 i1_1 ao1_0 cap1_0 ao1_1 cap1_1 ao1_2 cap1_2 fp ao3 cap3 hl3 i1_2 i1_3 hg_aFates hv_aFates i1_4 i1_5 w1 hsw1 hv_aY i1_6 w2 hsw2 hv_aS i1_7 w3 hsw3 w7 i4_0 i4_1 i4_2 i4_3 i4_4 i4_5 i4_6 i4_7 i4_8 i4_9 i4_10 i4_11 i4_12 i4_13 i4_14 i4_15 i4_16 i4_17 i4_18 i4_19 i4_20 i4_21 i4_22 i4_23 i4_24 i4_25 i4_26 i4_27 i4_28 i4_29 i4_30 i4_31 i4_32 i4_33 i4_34 i4_35 i4_36 i4_37 i4_38 i4_39 i4_40 i4_41 i4_42 i4_43 i4_44 i4_45 i4_46 i4_47 i4_48 i4_49 i4_50 i4_51 i4_52 i4_53 i4_54 i4_55 i4_56 i4_57 i4_58 i4_59 i4_60 i4_61 i4_62 i4_63 i4_64 i4_65 i4_66 i4_67 i4_68 i4_69 i4_70 i4_71 i4_72 i4_73 i4_74 i4_75 i4_76 i4_77 i4_78 i4_79 i4_80 i4_81 i4_82 i4_83 i4_84 i4_85 i4_86 i4_87 i4_88 i4_89 i4_90 i4_91 i4_92 i4_93 i4_94 i4_95 i4_96 i4_97 i4_98 i4_99 i4_100 i4_101 i4_102 i4_103 i4_104 i4_105 i4_106 i4_107 i4_108 i4_109 i4_110 i4_111 i4_112 i4_113 i4_114 i4_115 i4_116 i4_117 i4_118 i4_119 i4_120 i4_121 i4_122 i4_123 i4_124 i4_125 i4_126 i4_127 i4_128 i4_129 i4_130 i4_131 i4_132 i4_133 i4_134 i4_135 i4_136 i4_137 i4_138 kb_w0 kb_w1 ao_w0_0 cap_w0_0 ao_w1_0 cap_w1_0 ao_w1_1 cap_w1_1 ao_w1_2 cap_w1_2 lo_w0 hi_w0 fp_w0 fp_w1 hk1_w0 hk2_w0 hk1_w1 hk2_w1 hl1_w0 hl2_w0 hd_w0 hsw7 hkz_w0 hkz_w1 HD_w0_w1 w8 ao_x0_0 cap_x0_0 fp_x0 hsw8 w9 ao_x1_0 cap_x1_0 ao_x1_1 cap_x1_1 ao_x1_2 cap_x1_2 fp_x1 hsw9 w10 ao_x3 cap_x3 fp_x3 hsw10 w11 ao_g0_0 cap_g0_0 hp0 ao_g1_0 cap_g1_0 ao_g1_1 cap_g1_1 ao_g1_2 cap_g1_2 hp1 hf0 fp_g0 fp_g1 HD_g0_g1 hsw11 w12 hsw12 w13 hsw13 w14 hsw14 w15 hb_x0_e14 hq_x0_e14 ao_x0_e14_0 cap_x0_e14_0 hf_x0_e14 hr_x0_e14 w16 hb_E16 hq_E16 i2_4 hsw16 w17 hsw17 w18 hb_x1_e17 hq_x1_e17 ao_x1_e17_0 cap_x1_e17_0 ao_x1_e17_1 cap_x1_e17_1 ao_x1_e17_2 cap_x1_e17_2 hf_x1_e17 hr_x1_e17 w19 hb_E19 hq_E19 i3_0 hsw19 w20 ao_x3_26 cap_x3_26 fp__x3_26 hsw20 w21 hsw21 hk_x0 w22 hsw22 hk_x1 w23 hsw23 hk_x3 w24 hsw24 i3_5 w25 hsw25 w26 hsw26 i4_139 hk_g0 w27 hsw27 hk_g1 w28 hsw28 w29 hsw29 i4_140 w30 hsw30 i4_141 i4_142 i4_143 w31 hsw31 HX_aY HX_aS HX_w0 HX_w1 HX_x0 HX_x1 HX_g0 HX_g1 cx_aY zx_aY cx_aS zx_aS cx_w0 zx_w0 cx_w1 zx_w1 cx_x0 zx_x0 cx_x1 zx_x1 cx_g0 zx_g0 cx_g1 zx_g1 HA0 HA1 HA3 H_w0 H_w1 H_x0 H_x1 H_x3 H_g0 H_g1 HB wc u22 u23 u24 u25 u26 u27 u28 u29 u30 u31 u32 u33 u34 u35 u36 u37 u38 u39 u40 u41 u42 u43 u44 u45 u46 u47 u48 u49 u50 u51 u52 u53 u54 u55 u56 u57 u58 u59 u60 u61 u62 u63 u64 u65 u66 u67 u68 u69 u70 u71 u72 u73 u74 u75 u76 u77 u78 u79 u80 u81 u82 u83 u84 u85 u86 u87 u88 u89 u90 u91 u92 u93 u94 u95 u96 u97 u98 u99 u100 u101 u102 u103 u104 u105 u106 u107 u108 u109 u110 u111 u112 u113 u114 u115 u116 u117 u118 u119 u120 u121 u122 u123 u124 u125 u126 u127 u128 u129 u130 u131 u132 u133 u134 u135 u136 u137 u138 u139 u140 u141 u142 u143 u144 u145 u146 u147 u148 u149 u150 u151 u152 u153 u154 u155 u156 u157 u158 u159 u160 kb_h0 kb_h1 ao_h0_0 cap_h0_0 ao_h1_0 cap_h1_0 ao_h1_1 cap_h1_1 ao_h1_2 cap_h1_2 lo_h0 hi_h0 fp_h0 fp_h1 hbx_h0 hk1_h0 hk2_h0 hbx_h1 hk1_h1 hk2_h1 hl1_h0 hl2_h0 ho_h0 ho_h1 hd_h0 hw
    rename World => w35
    have hsw35 : w31.heap.size ≤ w35.heap.size := hw.size
    clear cx_aY zx_aY
    replace HX_aY := Lib.hid (HX_aY.out.below hw)
    clear cx_aS zx_aS
    replace HX_aS := Lib.hid (HX_aS.out.below hw)
    clear cx_w0 zx_w0
    replace HX_w0 := Lib.hid (HX_w0.out.below hw)
    clear cx_w1 zx_w1
    replace HX_w1 := Lib.hid (HX_w1.out.below hw)
    clear cx_x0 zx_x0
    replace HX_x0 := Lib.hid (HX_x0.out.below hw)
    clear cx_x1 zx_x1
    replace HX_x1 := Lib.hid (HX_x1.out.below hw)
    clear cx_g0 zx_g0
    replace HX_g0 := Lib.hid (HX_g0.out.below hw)
    clear cx_g1 zx_g1
    replace HX_g1 := Lib.hid (HX_g1.out.below hw)
    have HX_h0 := Lib.hid hbx_h0; clear hbx_h0
    have hkz_h0 := HX_h0.out.2
    have HX_h1 := Lib.hid hbx_h1; clear hbx_h1
    have hkz_h1 := HX_h1.out.2
    have H_h0 := Lib.hid ho_h0; clear ho_h0
    have H_h1 := Lib.hid ho_h1; clear ho_h1
    have HD_h0_h1 := hd_h0
    have ⟨cx_aY, zx_aY⟩ := HX_aY.out
    have ⟨cx_aS, zx_aS⟩ := HX_aS.out
    have ⟨cx_w0, zx_w0⟩ := HX_w0.out
    have ⟨cx_w1, zx_w1⟩ := HX_w1.out
    have ⟨cx_x0, zx_x0⟩ := HX_x0.out
    have ⟨cx_x1, zx_x1⟩ := HX_x1.out
    have ⟨cx_g0, zx_g0⟩ := HX_g0.out
    have ⟨cx_g1, zx_g1⟩ := HX_g1.out
    have ⟨cx_h0, zx_h0⟩ := HX_h0.out
    have ⟨cx_h1, zx_h1⟩ := HX_h1.out
    replace HA0 := Lib.hid (HA0.out.below hw)
    replace HA1 := Lib.hid (HA1.out.below hw)
    replace HA3 := Lib.hid (HA3.out.below hw)
    replace H_w0 := Lib.hid (H_w0.out.below hw)
    replace H_w1 := Lib.hid (H_w1.out.below hw)
    replace H_x0 := Lib.hid (H_x0.out.below hw)
    replace H_x1 := Lib.hid (H_x1.out.below hw)
    replace H_x3 := Lib.hid (H_x3.out.below hw)
    replace H_g0 := Lib.hid (H_g0.out.below hw)
    replace H_g1 := Lib.hid (H_g1.out.below hw)
    replace HB := Lib.hid (below_call HB.out HB.out.size hw)
    clear hw
    go_wp2_with fail
    refine (eqSync _ _ (f0 a0 a1 a2 a3) _ (H_h0.out.reads.below (by repeat (first | with_reducible exact belR | with_reducible apply belA | (with_reducible refine belS ?_ ?_; focus (first | omega | (simp; done) | (simp; omega))) | with_reducible apply belN | with_reducible apply belD | with_reducible assumption))) (H_w0.out.reads.below (by repeat (first | with_reducible exact belR | with_reducible apply belA | (with_reducible refine belS ?_ ?_; focus (first | omega | (simp; done) | (simp; omega))) | with_reducible apply belN | with_reducible apply belD | with_reducible assumption)))).mono ?_
    rintro e w36 ⟨rfl, hb⟩
    have hw : Below w35.heap.size w35 w36 := below_call (by repeat (first | with_reducible exact belR | with_reducible apply belA | (with_reducible refine belS ?_ ?_; focus (first | omega | (simp; done) | (simp; omega))) | with_reducible apply belN | with_reducible apply belD | with_reducible assumption)) (by first | omega | (simp; done) | (simp; omega)) hb
    have hsw36 : w35.heap.size ≤ w36.heap.size := by have y := hb.size; (try simp at y); omega
    clear cx_aY zx_aY
    replace HX_aY := Lib.hid (HX_aY.out.below hw)
    clear cx_aS zx_aS
    replace HX_aS := Lib.hid (HX_aS.out.below hw)
    clear cx_w0 zx_w0
    replace HX_w0 := Lib.hid (HX_w0.out.below hw)
    clear cx_w1 zx_w1
    replace HX_w1 := Lib.hid (HX_w1.out.below hw)
    clear cx_x0 zx_x0
    replace HX_x0 := Lib.hid (HX_x0.out.below hw)
    clear cx_x1 zx_x1
    replace HX_x1 := Lib.hid (HX_x1.out.below hw)
    clear cx_g0 zx_g0
    replace HX_g0 := Lib.hid (HX_g0.out.below hw)
    clear cx_g1 zx_g1
    replace HX_g1 := Lib.hid (HX_g1.out.below hw)
    clear cx_h0 zx_h0
    replace HX_h0 := Lib.hid (HX_h0.out.below hw)
    clear cx_h1 zx_h1
    replace HX_h1 := Lib.hid (HX_h1.out.below hw)
    have ⟨cx_aY, zx_aY⟩ := HX_aY.out
    have ⟨cx_aS, zx_aS⟩ := HX_aS.out
    have ⟨cx_w0, zx_w0⟩ := HX_w0.out
    have ⟨cx_w1, zx_w1⟩ := HX_w1.out
    have ⟨cx_x0, zx_x0⟩ := HX_x0.out
    have ⟨cx_x1, zx_x1⟩ := HX_x1.out
    have ⟨cx_g0, zx_g0⟩ := HX_g0.out
    have ⟨cx_g1, zx_g1⟩ := HX_g1.out
    have ⟨cx_h0, zx_h0⟩ := HX_h0.out
    have ⟨cx_h1, zx_h1⟩ := HX_h1.out
    replace HA0 := Lib.hid (HA0.out.below hw)
    replace HA1 := Lib.hid (HA1.out.below hw)
    replace HA3 := Lib.hid (HA3.out.below hw)
    replace H_w0 := Lib.hid (H_w0.out.below hw)
    replace H_w1 := Lib.hid (H_w1.out.below hw)
    replace H_x0 := Lib.hid (H_x0.out.below hw)
    replace H_x1 := Lib.hid (H_x1.out.below hw)
    replace H_x3 := Lib.hid (H_x3.out.below hw)
    replace H_g0 := Lib.hid (H_g0.out.below hw)
    replace H_g1 := Lib.hid (H_g1.out.below hw)
    replace H_h0 := Lib.hid (H_h0.out.below hw)
    replace H_h1 := Lib.hid (H_h1.out.below hw)
    replace HB := Lib.hid (below_call HB.out HB.out.size hw)
    clear hw
    clear hb
    go_wp2_with fail
    refine (eqServer _ _ (f1 a0 a1 a2 a3) _ (H_h1.out.reads.below (by repeat (first | with_reducible exact belR | with_reducible apply belA | (with_reducible refine belS ?_ ?_; focus (first | omega | (simp; done) | (simp; omega))) | with_reducible apply belN | with_reducible apply belD | with_reducible assumption))) (H_w1.out.reads.below (by repeat (first | with_reducible exact belR | with_reducible apply belA | (with_reducible refine belS ?_ ?_; focus (first | omega | (simp; done) | (simp; omega))) | with_reducible apply belN | with_reducible apply belD | with_reducible assumption)))).mono ?_
    rintro e w37 ⟨rfl, hb⟩
    have hw : Below w36.heap.size w36 w37 := below_call (by repeat (first | with_reducible exact belR | with_reducible apply belA | (with_reducible refine belS ?_ ?_; focus (first | omega | (simp; done) | (simp; omega))) | with_reducible apply belN | with_reducible apply belD | with_reducible assumption)) (by first | omega | (simp; done) | (simp; omega)) hb
    have hsw37 : w36.heap.size ≤ w37.heap.size := by have y := hb.size; (try simp at y); omega
    clear cx_aY zx_aY
    replace HX_aY := Lib.hid (HX_aY.out.below hw)
    clear cx_aS zx_aS
    replace HX_aS := Lib.hid (HX_aS.out.below hw)
    clear cx_w0 zx_w0
    replace HX_w0 := Lib.hid (HX_w0.out.below hw)
    clear cx_w1 zx_w1
    replace HX_w1 := Lib.hid (HX_w1.out.below hw)
    clear cx_x0 zx_x0
    replace HX_x0 := Lib.hid (HX_x0.out.below hw)
    clear cx_x1 zx_x1
    replace HX_x1 := Lib.hid (HX_x1.out.below hw)
    clear cx_g0 zx_g0
    replace HX_g0 := Lib.hid (HX_g0.out.below hw)
    clear cx_g1 zx_g1
    replace HX_g1 := Lib.hid (HX_g1.out.below hw)
    clear cx_h0 zx_h0
    replace HX_h0 := Lib.hid (HX_h0.out.below hw)
    clear cx_h1 zx_h1
    replace HX_h1 := Lib.hid (HX_h1.out.below hw)
    have ⟨cx_aY, zx_aY⟩ := HX_aY.out
    have ⟨cx_aS, zx_aS⟩ := HX_aS.out
    have ⟨cx_w0, zx_w0⟩ := HX_w0.out
    have ⟨cx_w1, zx_w1⟩ := HX_w1.out
    have ⟨cx_x0, zx_x0⟩ := HX_x0.out
    have ⟨cx_x1, zx_x1⟩ := HX_x1.out
    have ⟨cx_g0, zx_g0⟩ := HX_g0.out
    have ⟨cx_g1, zx_g1⟩ := HX_g1.out
    have ⟨cx_h0, zx_h0⟩ := HX_h0.out
    have ⟨cx_h1, zx_h1⟩ := HX_h1.out
    replace HA0 := Lib.hid (HA0.out.below hw)
    replace HA1 := Lib.hid (HA1.out.below hw)
    replace HA3 := Lib.hid (HA3.out.below hw)
    replace H_w0 := Lib.hid (H_w0.out.below hw)
    replace H_w1 := Lib.hid (H_w1.out.below hw)
    replace H_x0 := Lib.hid (H_x0.out.below hw)
    replace H_x1 := Lib.hid (H_x1.out.below hw)
    replace H_x3 := Lib.hid (H_x3.out.below hw)
    replace H_g0 := Lib.hid (H_g0.out.below hw)
    replace H_g1 := Lib.hid (H_g1.out.below hw)
    replace H_h0 := Lib.hid (H_h0.out.below hw)
    replace H_h1 := Lib.hid (H_h1.out.below hw)
    replace HB := Lib.hid (below_call HB.out HB.out.size hw)
    clear hw
    clear hb
    go_wp2_with fail
    refine (heldSync _ (f0 a0 a1 a2 a3) (1) _ (H_g0.out.reads.below (by repeat (first | with_reducible exact belR | with_reducible apply belA | (with_reducible refine belS ?_ ?_; focus (first | omega | (simp; done) | (simp; omega))) | with_reducible apply belN | with_reducible apply belD | with_reducible assumption))) (by omega)).mono ?_
    rintro e w38 ⟨rfl, hb⟩
    have hw : Below w37.heap.size w37 w38 := below_call (by repeat (first | with_reducible exact belR | with_reducible apply belA | (with_reducible refine belS ?_ ?_; focus (first | omega | (simp; done) | (simp; omega))) | with_reducible apply belN | with_reducible apply belD | with_reducible assumption)) (by first | omega | (simp; done) | (simp; omega)) hb
    have hsw38 : w37.heap.size ≤ w38.heap.size := by have y := hb.size; (try simp at y); omega
    clear cx_aY zx_aY
    replace HX_aY := Lib.hid (HX_aY.out.below hw)
    clear cx_aS zx_aS
    replace HX_aS := Lib.hid (HX_aS.out.below hw)
    clear cx_w0 zx_w0
    replace HX_w0 := Lib.hid (HX_w0.out.below hw)
    clear cx_w1 zx_w1
    replace HX_w1 := Lib.hid (HX_w1.out.below hw)
    clear cx_x0 zx_x0
    replace HX_x0 := Lib.hid (HX_x0.out.below hw)
    clear cx_x1 zx_x1
    replace HX_x1 := Lib.hid (HX_x1.out.below hw)
    clear cx_g0 zx_g0
    replace HX_g0 := Lib.hid (HX_g0.out.below hw)
    clear cx_g1 zx_g1
    replace HX_g1 := Lib.hid (HX_g1.out.below hw)
    clear cx_h0 zx_h0
    replace HX_h0 := Lib.hid (HX_h0.out.below hw)
    clear cx_h1 zx_h1
    replace HX_h1 := Lib.hid (HX_h1.out.below hw)
    have ⟨cx_aY, zx_aY⟩ := HX_aY.out
    have ⟨cx_aS, zx_aS⟩ := HX_aS.out
    have ⟨cx_w0, zx_w0⟩ := HX_w0.out
    have ⟨cx_w1, zx_w1⟩ := HX_w1.out
    have ⟨cx_x0, zx_x0⟩ := HX_x0.out
    have ⟨cx_x1, zx_x1⟩ := HX_x1.out
    have ⟨cx_g0, zx_g0⟩ := HX_g0.out
    have ⟨cx_g1, zx_g1⟩ := HX_g1.out
    have ⟨cx_h0, zx_h0⟩ := HX_h0.out
    have ⟨cx_h1, zx_h1⟩ := HX_h1.out
    replace HA0 := Lib.hid (HA0.out.below hw)
    replace HA1 := Lib.hid (HA1.out.below hw)
    replace HA3 := Lib.hid (HA3.out.below hw)
    replace H_w0 := Lib.hid (H_w0.out.below hw)
    replace H_w1 := Lib.hid (H_w1.out.below hw)
    replace H_x0 := Lib.hid (H_x0.out.below hw)
    replace H_x1 := Lib.hid (H_x1.out.below hw)
    replace H_x3 := Lib.hid (H_x3.out.below hw)
    replace H_g0 := Lib.hid (H_g0.out.below hw)
    replace H_g1 := Lib.hid (H_g1.out.below hw)
    replace H_h0 := Lib.hid (H_h0.out.below hw)
    replace H_h1 := Lib.hid (H_h1.out.below hw)
    replace HB := Lib.hid (below_call HB.out HB.out.size hw)
    clear hw
    clear hb
    go_wp2_with fail
    refine (heldServer _ (f1 a0 a1 a2 a3) (1 + ((f0 a0 a1 a2 a3)).mcnt) _ (H_g1.out.reads.below (by repeat (first | with_reducible exact belR | with_reducible apply belA | (with_reducible refine belS ?_ ?_; focus (first | omega | (simp; done) | (simp; omega))) | with_reducible apply belN | with_reducible apply belD | with_reducible assumption))) (by omega)).mono ?_
    rintro e w39 ⟨rfl, hb⟩
    have hw : Below w38.heap.size w38 w39 := below_call (by repeat (first | with_reducible exact belR | with_reducible apply belA | (with_reducible refine belS ?_ ?_; focus (first | omega | (simp; done) | (simp; omega))) | with_reducible apply belN | with_reducible apply belD | with_reducible assumption)) (by first | omega | (simp; done) | (simp; omega)) hb
    have hsw39 : w38.heap.size ≤ w39.heap.size := by have y := hb.size; (try simp at y); omega
    clear cx_aY zx_aY
    replace HX_aY := Lib.hid (HX_aY.out.below hw)
    clear cx_aS zx_aS
    replace HX_aS := Lib.hid (HX_aS.out.below hw)
    clear cx_w0 zx_w0
    replace HX_w0 := Lib.hid (HX_w0.out.below hw)
    clear cx_w1 zx_w1
    replace HX_w1 := Lib.hid (HX_w1.out.below hw)
    clear cx_x0 zx_x0
    replace HX_x0 := Lib.hid (HX_x0.out.below hw)
    clear cx_x1 zx_x1
    replace HX_x1 := Lib.hid (HX_x1.out.below hw)
    clear cx_g0 zx_g0
    replace HX_g0 := Lib.hid (HX_g0.out.below hw)
    clear cx_g1 zx_g1
    replace HX_g1 := Lib.hid (HX_g1.out.below hw)
    clear cx_h0 zx_h0
    replace HX_h0 := Lib.hid (HX_h0.out.below hw)
    clear cx_h1 zx_h1
    replace HX_h1 := Lib.hid (HX_h1.out.below hw)
    have ⟨cx_aY, zx_aY⟩ := HX_aY.out
    have ⟨cx_aS, zx_aS⟩ := HX_aS.out
    have ⟨cx_w0, zx_w0⟩ := HX_w0.out
    have ⟨cx_w1, zx_w1⟩ := HX_w1.out
    have ⟨cx_x0, zx_x0⟩ := HX_x0.out
    have ⟨cx_x1, zx_x1⟩ := HX_x1.out
    have ⟨cx_g0, zx_g0⟩ := HX_g0.out
    have ⟨cx_g1, zx_g1⟩ := HX_g1.out
    have ⟨cx_h0, zx_h0⟩ := HX_h0.out
    have ⟨cx_h1, zx_h1⟩ := HX_h1.out
    replace HA0 := Lib.hid (HA0.out.below hw)
    replace HA1 := Lib.hid (HA1.out.below hw)
    replace HA3 := Lib.hid (HA3.out.below hw)
    replace H_w0 := Lib.hid (H_w0.out.below hw)
    replace H_w1 := Lib.hid (H_w1.out.below hw)
    replace H_x0 := Lib.hid (H_x0.out.below hw)
    replace H_x1 := Lib.hid (H_x1.out.below hw)
    replace H_x3 := Lib.hid (H_x3.out.below hw)
    replace H_g0 := Lib.hid (H_g0.out.below hw)
    replace H_g1 := Lib.hid (H_g1.out.below hw)
    replace H_h0 := Lib.hid (H_h0.out.below hw)
    replace H_h1 := Lib.hid (H_h1.out.below hw)
    replace HB := Lib.hid (below_call HB.out HB.out.size hw)
    clear hw
    clear hb
    go_wp2_with fail
    go_ret
    have y := HB.out
    exact ⟨rfl, (by repeat (first | with_reducible exact belR | with_reducible apply belA | (with_reducible refine belS ?_ ?_; focus (first | omega | (simp; done) | (simp; omega))) | with_reducible apply belN | with_reducible apply belD | with_reducible assumption))⟩
    ⟩).down f0 f1 hS hI hm_g0 hm_g1 hm_x0 hm_x1 hm_x3 c0 a0 c1 a1 a2 c3 a3 w h0 h1 h3 ht0

set_option maxRecDepth 100000 in
set_option maxHeartbeats 1000000 in
theorem syncAll_lifted (f0 : DSync → DServer → Int → (List Int) → DSync) (f1 : DSync → DServer → Int → (List Int) → DServer) (hS : SaidSyncAll f0 f1 20) (hI : SaidSyncAll f0 f1 22) (hm_g0 : ∀ (a0 : DSync) (a1 : DServer) (a2 : Int) (a3 : List Int), (a0).wt ≤ 1048576 → (a1).wt ≤ 1048576 → wtS wt0 a3 ≤ 1048576 → -9223372036854775808 ≤ a0.tries → ((f0 a0 a1 a2 a3)).mcnt ≤ 300000000) (hm_g1 : ∀ (a0 : DSync) (a1 : DServer) (a2 : Int) (a3 : List Int), (a0).wt ≤ 1048576 → (a1).wt ≤ 1048576 → wtS wt0 a3 ≤ 1048576 → -9223372036854775808 ≤ a0.tries → ((f1 a0 a1 a2 a3)).mcnt ≤ 300000000) (hm_x0 : ∀ (a0 : DSync), (a0).wt ≤ 1048576 → (a0).mcnt ≤ 300000000) (hm_x1 : ∀ (a1 : DServer), (a1).wt ≤ 1048576 → (a1).mcnt ≤ 300000000) (hm_x3 : ∀ (a3 : List Int), wtS wt0 a3 ≤ 1048576 → wtT cnt1 a3 (a3).length ≤ 300000000) (os : Os) (started : os.Started) (H : Type) (enc : TypeId × Value → H) :
    ReturnsInHanded {} Tryz.checked os 5 .any (Rows.fnExactSyncAllSpec.pre6 enc Tryz.prog Tryz.f5 Rows.fnExactSyncAllRow.domain false) (Rows.fnExactSyncAllSpec.post enc Tryz.prog Tryz.f5 false true false false) := by
  refine law_lift (C := Tryz.checked) Tryz.own started (by kernel_rfl) Tryz.func5 Tryz.laidOut (by kernel_rfl) rfl Tryz.underlying4 rfl ?_
    (ChangeSpec.witness6 (enc := enc) (C := Tryz.checked) false ⟨#[], #[.agg #[.int .i64 0, .int .i64 0, .slice none 0 0, .int .i64 0, .int .i64 0], .agg #[.string ByteArray.empty, .slice none 0 0, .int .i64 0, .slice none 0 0, .slice none 0 0], .int .i64 0, .slice none 0 0], []⟩ 8 (by kernel_rfl) (by kernel_rfl) (by kernel_rfl) (by kernel_rfl)) ?_
  · intro ds h
    match ds, h with
    | [_, _, _, _], _ => rfl
  · intro W base args ds ps hval hA0
    have hA : DataW.TrodAll enc Tryz.prog W 0 (fun _ => true) true Tryz.f5.params.toList args.toList ds ps := hA0
    rw [Tryz.params5] at hA hval
    obtain ⟨v0, v1, v2, v3, _, _, _, _, _, _, _, _, rfl, t0, t1, t2, t3⟩ := trodAll_open4 hA
    obtain ⟨c0, a0, rfl, r0⟩ := arg_struct Tryz.underlying26 DSync.opens_laws (hval 0 26 v0 rfl rfl) t0
    obtain ⟨c1, a1, rfl, r1⟩ := arg_struct Tryz.underlying32 DServer.opens_laws (hval 1 32 v1 rfl rfl) t1
    obtain ⟨a2, rfl⟩ := arg_int Tryz.underlying3 (hval 2 3 v2 rfl rfl) t2
    obtain ⟨a3, r3⟩ := arg_slice (R := Rep.int) (E := 3) Tryz.underlying58 (opens_slice Tryz.underlying58 (by kernel_rfl) (by decide) (opens_int Tryz.underlying3)) (hval 3 58 v3 rfl rfl) t3
    exact lawSyncAll f0 f1 hS hI hm_g0 hm_g1 hm_x0 hm_x1 hm_x3 c0.toList a0 c1.toList a1 a2 v3 a3 W r0 r1 r3 (sync_tries_lo (hval 0 26 (.agg c0) rfl rfl) r0)

theorem syncAll_of (f0 : DSync → DServer → Int → (List Int) → DSync) (f1 : DSync → DServer → Int → (List Int) → DServer) (hS : SaidSyncAll f0 f1 20) (hI : SaidSyncAll f0 f1 22) (hm_g0 : ∀ (a0 : DSync) (a1 : DServer) (a2 : Int) (a3 : List Int), (a0).wt ≤ 1048576 → (a1).wt ≤ 1048576 → wtS wt0 a3 ≤ 1048576 → -9223372036854775808 ≤ a0.tries → ((f0 a0 a1 a2 a3)).mcnt ≤ 300000000) (hm_g1 : ∀ (a0 : DSync) (a1 : DServer) (a2 : Int) (a3 : List Int), (a0).wt ≤ 1048576 → (a1).wt ≤ 1048576 → wtS wt0 a3 ≤ 1048576 → -9223372036854775808 ≤ a0.tries → ((f1 a0 a1 a2 a3)).mcnt ≤ 300000000) (hm_x0 : ∀ (a0 : DSync), (a0).wt ≤ 1048576 → (a0).mcnt ≤ 300000000) (hm_x1 : ∀ (a1 : DServer), (a1).wt ≤ 1048576 → (a1).mcnt ≤ 300000000) (hm_x3 : ∀ (a3 : List Int), wtS wt0 a3 ≤ 1048576 → wtT cnt1 a3 (a3).length ≤ 300000000) : Rows.FnExactSyncAllSaid :=
  OpenClaim.holds_of_wide 5 Tryz.f5 rfl rfl rfl rfl rfl rfl rfl ⟨rfl, rfl, rfl, rfl, rfl⟩ rfl rfl rfl rfl rfl (by kernel_rfl) Tryz.func5 (by kernel_rfl)
    (of_decide_eq_true (by kernel_rfl)) (by unfold Func.isWrapper; rw [if_neg (by decide +kernel)]; exact ⟨rfl, rfl⟩)
    (fun os started H enc _ => syncAll_lifted f0 f1 hS hI hm_g0 hm_g1 hm_x0 hm_x1 hm_x3 os started H enc)

end Go.Proofs.YtgicglmcapnogaaGreat
