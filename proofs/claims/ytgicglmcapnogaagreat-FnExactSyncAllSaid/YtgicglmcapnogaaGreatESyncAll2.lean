/-
  FnExactSyncAll: part 2 of the law's walk.
-/
import Derived.Test.YtgicglmcapnogaaGreatESyncAll1
namespace Go.Proofs.YtgicglmcapnogaaGreat
open Go.RowKit Go.ChangeShapes

set_option maxRecDepth 100000 in
set_option maxHeartbeats 16000000 in
def lawSyncAll2 :=
  fun (H : Rest _) => PLift.up ((lawSyncAll1 ⟨by
    intro f0 f1 hS hI hm_g0 hm_g1 hm_x0 hm_x1 hm_x3 a0 a1 a2 a3 w ht0 i1_0 ao0_0 cap0_0 i1_1 ao1_0 cap1_0 ao1_1 cap1_1 ao1_2 cap1_2 fp ao3 cap3 hl3 i1_2 i1_3 hg_aFates hv_aFates i1_4 i1_5 w1 hsw1 hv_aY i1_6 w2 hsw2 hv_aS i1_7 i1_8 i1_9 w3 hsw3 HX_aY HX_aS cx_aY zx_aY cx_aS zx_aS HA0 HA1 HA3 HB wc u22 u23 u24 u25 u26 u27 u28 u29 u30 u31 u32 u33 u34 u35 u36 u37 u38 u39 u40 u41 u42 u43 u44 u45 u46 u47 u48 u49 u50 u51 u52 u53 u54 u55 u56 u57 u58 u59 u60 u61 u62 u63 u64 u65 u66 u67 u68 u69 u70 u71 u72 u73 u74 u75 u76 u77 u78 u79 u80 u81 u82 u83 u84 u85 u86 u87 u88 u89 u90 u91 u92 u93 u94 u95 u96 u97 u98 u99 u100 u101 u102 u103 u104 u105 u106 u107 u108 u109 u110 u111 u112 u113 u114 u115 u116 u117 u118 u119 u120 u121 u122 u123 u124 u125 u126 u127 u128 u129 u130 u131 u132 u133 u134 u135 u136 u137 u138 u139 u140 u141 u142 u143 u144 u145 u146 u147 u148 u149 u150 u151 u152 u153 u154 u155 u156 u157 u158 u159 u160 kb_w0 kb_w1 ao_w0_0 cap_w0_0 ao_w1_0 cap_w1_0 ao_w1_1 cap_w1_1 ao_w1_2 cap_w1_2 lo_w0 hi_w0 fp_w0 fp_w1 hbx_w0 hk1_w0 hk2_w0 hbx_w1 hk1_w1 hk2_w1 hl1_w0 hl2_w0 ho_w0 ho_w1 hd_w0 hw
    rename World => w7
    have hsw7 : w3.heap.size ≤ w7.heap.size := hw.size
    clear cx_aY zx_aY
    replace HX_aY := Lib.hid (HX_aY.out.below hw)
    clear cx_aS zx_aS
    replace HX_aS := Lib.hid (HX_aS.out.below hw)
    have HX_w0 := Lib.hid hbx_w0; clear hbx_w0
    have hkz_w0 := HX_w0.out.2
    have HX_w1 := Lib.hid hbx_w1; clear hbx_w1
    have hkz_w1 := HX_w1.out.2
    have H_w0 := Lib.hid ho_w0; clear ho_w0
    have H_w1 := Lib.hid ho_w1; clear ho_w1
    have HD_w0_w1 := hd_w0
    have ⟨cx_aY, zx_aY⟩ := HX_aY.out
    have ⟨cx_aS, zx_aS⟩ := HX_aS.out
    have ⟨cx_w0, zx_w0⟩ := HX_w0.out
    have ⟨cx_w1, zx_w1⟩ := HX_w1.out
    replace HA0 := Lib.hid (HA0.out.below hw)
    replace HA1 := Lib.hid (HA1.out.below hw)
    replace HA3 := Lib.hid (HA3.out.below hw)
    replace HB := Lib.hid (below_call HB.out HB.out.size hw)
    clear hw
    go_wp2_with fail
    refine (toSync _ a0 _ (HA0.out.reads.below (by repeat (first | with_reducible exact belR | with_reducible apply belA | (with_reducible refine belS ?_ ?_; focus (first | omega | (simp; done) | (simp; omega))) | with_reducible apply belN | with_reducible apply belD | with_reducible assumption))) (by first | omega | (simp [DSync.wt]))).mono ?_
    rintro e w8 ⟨d_x0, rfl, hf, hb⟩
    obtain ⟨ao_x0_0, cap_x0_0, rfl⟩ := DSync.fshape hf
    obtain ⟨fp_x0, o_x0⟩ := Fresh.own hf (lo := w7.heap.size) (by first | omega | (simp; done) | (simp; omega))
    have H_x0 := Lib.hid o_x0; clear o_x0
    have hw : Below w7.heap.size w7 w8 := below_call (by repeat (first | with_reducible exact belR | with_reducible apply belA | (with_reducible refine belS ?_ ?_; focus (first | omega | (simp; done) | (simp; omega))) | with_reducible apply belN | with_reducible apply belD | with_reducible assumption)) (by first | omega | (simp; done) | (simp; omega)) hb
    have hsw8 : w7.heap.size ≤ w8.heap.size := by have y := hb.size; (try simp at y); omega
    clear cx_aY zx_aY
    replace HX_aY := Lib.hid (HX_aY.out.below hw)
    clear cx_aS zx_aS
    replace HX_aS := Lib.hid (HX_aS.out.below hw)
    clear cx_w0 zx_w0
    replace HX_w0 := Lib.hid (HX_w0.out.below hw)
    clear cx_w1 zx_w1
    replace HX_w1 := Lib.hid (HX_w1.out.below hw)
    have ⟨cx_aY, zx_aY⟩ := HX_aY.out
    have ⟨cx_aS, zx_aS⟩ := HX_aS.out
    have ⟨cx_w0, zx_w0⟩ := HX_w0.out
    have ⟨cx_w1, zx_w1⟩ := HX_w1.out
    replace HA0 := Lib.hid (HA0.out.below hw)
    replace HA1 := Lib.hid (HA1.out.below hw)
    replace HA3 := Lib.hid (HA3.out.below hw)
    replace H_w0 := Lib.hid (H_w0.out.below hw)
    replace H_w1 := Lib.hid (H_w1.out.below hw)
    replace HB := Lib.hid (below_call HB.out HB.out.size hw)
    clear hw
    clear hb hf
    go_wp2_with fail
    refine (toServer _ a1 _ (HA1.out.reads.below (by repeat (first | with_reducible exact belR | with_reducible apply belA | (with_reducible refine belS ?_ ?_; focus (first | omega | (simp; done) | (simp; omega))) | with_reducible apply belN | with_reducible apply belD | with_reducible assumption))) (by first | omega | (simp [DServer.wt]))).mono ?_
    rintro e w9 ⟨d_x1, rfl, hf, hb⟩
    obtain ⟨ao_x1_0, cap_x1_0, ao_x1_1, cap_x1_1, ao_x1_2, cap_x1_2, rfl⟩ := DServer.fshape hf
    obtain ⟨fp_x1, o_x1⟩ := Fresh.own hf (lo := w8.heap.size + 1) (by first | omega | (simp; done) | (simp; omega))
    have H_x1 := Lib.hid o_x1; clear o_x1
    have hw : Below w8.heap.size w8 w9 := below_call (by repeat (first | with_reducible exact belR | with_reducible apply belA | (with_reducible refine belS ?_ ?_; focus (first | omega | (simp; done) | (simp; omega))) | with_reducible apply belN | with_reducible apply belD | with_reducible assumption)) (by first | omega | (simp; done) | (simp; omega)) hb
    have hsw9 : w8.heap.size + 1 ≤ w9.heap.size := by have y := hb.size; (try simp at y); omega
    clear cx_aY zx_aY
    replace HX_aY := Lib.hid (HX_aY.out.below hw)
    clear cx_aS zx_aS
    replace HX_aS := Lib.hid (HX_aS.out.below hw)
    clear cx_w0 zx_w0
    replace HX_w0 := Lib.hid (HX_w0.out.below hw)
    clear cx_w1 zx_w1
    replace HX_w1 := Lib.hid (HX_w1.out.below hw)
    have HX_x0 : Hid (Box w9 (w8.heap.size) #[.int .i64 (a0).outbox.device, .int .i64 (a0).outbox.next, .slice ao_x0_0 (a0).outbox.writes.length cap_x0_0, .int .i64 (a0).tries, .int .i64 (a0).waitUntil]) := Lib.hid (Box.below (Box.at (by first | rfl | simp)) hb)
    have ⟨cx_aY, zx_aY⟩ := HX_aY.out
    have ⟨cx_aS, zx_aS⟩ := HX_aS.out
    have ⟨cx_w0, zx_w0⟩ := HX_w0.out
    have ⟨cx_w1, zx_w1⟩ := HX_w1.out
    have ⟨cx_x0, zx_x0⟩ := HX_x0.out
    replace HA0 := Lib.hid (HA0.out.below hw)
    replace HA1 := Lib.hid (HA1.out.below hw)
    replace HA3 := Lib.hid (HA3.out.below hw)
    replace H_w0 := Lib.hid (H_w0.out.below hw)
    replace H_w1 := Lib.hid (H_w1.out.below hw)
    replace H_x0 := Lib.hid (H_x0.out.below hw)
    replace HB := Lib.hid (below_call HB.out HB.out.size hw)
    clear hw
    clear hb hf
    go_wp2_with fail
    refine (toIntS _ a3 _ (HA3.out.reads.below (by repeat (first | with_reducible exact belR | with_reducible apply belA | (with_reducible refine belS ?_ ?_; focus (first | omega | (simp; done) | (simp; omega))) | with_reducible apply belN | with_reducible apply belD | with_reducible assumption))) (by first | omega | exact hv_aFates)).mono ?_
    rintro e w10 ⟨d_x3, rfl, hf, hb⟩
    obtain ⟨ao_x3, cap_x3, rfl⟩ := Fresh.slice hf
    obtain ⟨fp_x3, o_x3⟩ := Fresh.own hf (lo := w9.heap.size + 1) (by first | omega | (simp; done) | (simp; omega))
    have H_x3 := Lib.hid o_x3; clear o_x3
    have hw : Below w9.heap.size w9 w10 := below_call (by repeat (first | with_reducible exact belR | with_reducible apply belA | (with_reducible refine belS ?_ ?_; focus (first | omega | (simp; done) | (simp; omega))) | with_reducible apply belN | with_reducible apply belD | with_reducible assumption)) (by first | omega | (simp; done) | (simp; omega)) hb
    have hsw10 : w9.heap.size + 1 ≤ w10.heap.size := by have y := hb.size; (try simp at y); omega
    clear cx_aY zx_aY
    replace HX_aY := Lib.hid (HX_aY.out.below hw)
    clear cx_aS zx_aS
    replace HX_aS := Lib.hid (HX_aS.out.below hw)
    clear cx_w0 zx_w0
    replace HX_w0 := Lib.hid (HX_w0.out.below hw)
    clear cx_w1 zx_w1
    replace HX_w1 := Lib.hid (HX_w1.out.below hw)
    clear cx_x0 zx_x0
    replace HX_x0 := Lib.hid (HX_x0.out.below hw)
    have HX_x1 : Hid (Box w10 (w9.heap.size) #[.string (a1).store.name, .slice ao_x1_0 (a1).store.items.length cap_x1_0, .int .i64 (a1).store.auto, .slice ao_x1_1 (a1).applied.length cap_x1_1, .slice ao_x1_2 (a1).changes.length cap_x1_2]) := Lib.hid (Box.below (Box.at (by first | rfl | simp)) hb)
    have ⟨cx_aY, zx_aY⟩ := HX_aY.out
    have ⟨cx_aS, zx_aS⟩ := HX_aS.out
    have ⟨cx_w0, zx_w0⟩ := HX_w0.out
    have ⟨cx_w1, zx_w1⟩ := HX_w1.out
    have ⟨cx_x0, zx_x0⟩ := HX_x0.out
    have ⟨cx_x1, zx_x1⟩ := HX_x1.out
    replace HA0 := Lib.hid (HA0.out.below hw)
    replace HA1 := Lib.hid (HA1.out.below hw)
    replace HA3 := Lib.hid (HA3.out.below hw)
    replace H_w0 := Lib.hid (H_w0.out.below hw)
    replace H_w1 := Lib.hid (H_w1.out.below hw)
    replace H_x0 := Lib.hid (H_x0.out.below hw)
    replace H_x1 := Lib.hid (H_x1.out.below hw)
    replace HB := Lib.hid (below_call HB.out HB.out.size hw)
    clear hw
    clear hb hf
    go_wp2_with fail
    refine (hI _ a0 _ a1 a2 _ a3 _ (H_x0.out.reads.below (by repeat (first | with_reducible exact belR | with_reducible apply belA | (with_reducible refine belS ?_ ?_; focus (first | omega | (simp; done) | (simp; omega))) | with_reducible apply belN | with_reducible apply belD | with_reducible assumption))) (H_x1.out.reads.below (by repeat (first | with_reducible exact belR | with_reducible apply belA | (with_reducible refine belS ?_ ?_; focus (first | omega | (simp; done) | (simp; omega))) | with_reducible apply belN | with_reducible apply belD | with_reducible assumption))) (H_x3.out.reads.below (by repeat (first | with_reducible exact belR | with_reducible apply belA | (with_reducible refine belS ?_ ?_; focus (first | omega | (simp; done) | (simp; omega))) | with_reducible apply belN | with_reducible apply belD | with_reducible assumption))) (by first | omega | exact hv_aY) (by first | omega | exact hv_aS) (by first | omega | exact hv_aFates) (by first | omega | exact ht0)).mono ?_
    rintro e w11 ⟨d_g_0, d_g_1, rfl, hf0, hb⟩
    have hp0 := hf0.left
    have hp1 := hf0.right
    obtain ⟨ao_g0_0, cap_g0_0, rfl⟩ := DSync.fshape hp0
    obtain ⟨ao_g1_0, cap_g1_0, ao_g1_1, cap_g1_1, ao_g1_2, cap_g1_2, rfl⟩ := DServer.fshape hp1
    obtain ⟨fp_g0, fp_g1, o_g0, o_g1, HD_g0_g1⟩ := Fresh2.own hf0 (lo := w10.heap.size) (by first | omega | (simp; done) | (simp; omega))
    have H_g0 := Lib.hid o_g0; clear o_g0
    have H_g1 := Lib.hid o_g1; clear o_g1
    have hw : Below w10.heap.size w10 w11 := below_call (by repeat (first | with_reducible exact belR | with_reducible apply belA | (with_reducible refine belS ?_ ?_; focus (first | omega | (simp; done) | (simp; omega))) | with_reducible apply belN | with_reducible apply belD | with_reducible assumption)) (by first | omega | (simp; done) | (simp; omega)) hb
    have hsw11 : w10.heap.size ≤ w11.heap.size := by have y := hb.size; (try simp at y); omega
    clear cx_aY zx_aY
    replace HX_aY := Lib.hid (HX_aY.out.below hw)
    clear cx_aS zx_aS
    replace HX_aS := Lib.hid (HX_aS.out.below hw)
    clear cx_w0 zx_w0
    replace HX_w0 := Lib.hid (HX_w0.out.below hw)
    clear cx_w1 zx_w1
    replace HX_w1 := Lib.hid (HX_w1.out.below hw)
    clear cx_x0 zx_x0
    replace HX_x0 := Lib.hid (HX_x0.out.below hw)
    clear cx_x1 zx_x1
    replace HX_x1 := Lib.hid (HX_x1.out.below hw)
    have ⟨cx_aY, zx_aY⟩ := HX_aY.out
    have ⟨cx_aS, zx_aS⟩ := HX_aS.out
    have ⟨cx_w0, zx_w0⟩ := HX_w0.out
    have ⟨cx_w1, zx_w1⟩ := HX_w1.out
    have ⟨cx_x0, zx_x0⟩ := HX_x0.out
    have ⟨cx_x1, zx_x1⟩ := HX_x1.out
    replace HA0 := Lib.hid (HA0.out.below hw)
    replace HA1 := Lib.hid (HA1.out.below hw)
    replace HA3 := Lib.hid (HA3.out.below hw)
    replace H_w0 := Lib.hid (H_w0.out.below hw)
    replace H_w1 := Lib.hid (H_w1.out.below hw)
    replace H_x0 := Lib.hid (H_x0.out.below hw)
    replace H_x1 := Lib.hid (H_x1.out.below hw)
    replace H_x3 := Lib.hid (H_x3.out.below hw)
    replace HB := Lib.hid (below_call HB.out HB.out.size hw)
    clear hw
    clear hb
    go_wp2_with fail
    refine (eqSync _ _ (f0 a0 a1 a2 a3) _ (H_g0.out.reads.below (by repeat (first | with_reducible exact belR | with_reducible apply belA | (with_reducible refine belS ?_ ?_; focus (first | omega | (simp; done) | (simp; omega))) | with_reducible apply belN | with_reducible apply belD | with_reducible assumption))) (H_w0.out.reads.below (by repeat (first | with_reducible exact belR | with_reducible apply belA | (with_reducible refine belS ?_ ?_; focus (first | omega | (simp; done) | (simp; omega))) | with_reducible apply belN | with_reducible apply belD | with_reducible assumption)))).mono ?_
    rintro e w12 ⟨rfl, hb⟩
    have hw : Below w11.heap.size w11 w12 := below_call (by repeat (first | with_reducible exact belR | with_reducible apply belA | (with_reducible refine belS ?_ ?_; focus (first | omega | (simp; done) | (simp; omega))) | with_reducible apply belN | with_reducible apply belD | with_reducible assumption)) (by first | omega | (simp; done) | (simp; omega)) hb
    have hsw12 : w11.heap.size + 1 + 1 ≤ w12.heap.size := by have y := hb.size; (try simp at y); omega
    clear cx_aY zx_aY
    replace HX_aY := Lib.hid (HX_aY.out.below hw)
    clear cx_aS zx_aS
    replace HX_aS := Lib.hid (HX_aS.out.below hw)
    clear cx_w0 zx_w0
    replace HX_w0 := Lib.hid (HX_w0.out.below hw)
    clear cx_w1 zx_w1
    replace HX_w1 := Lib.hid (HX_w1.out.below hw)
    clear cx_x0 zx_x0
    replace HX_x0 := Lib.hid (HX_x0.out.below hw)
    clear cx_x1 zx_x1
    replace HX_x1 := Lib.hid (HX_x1.out.below hw)
    have HX_g0 : Hid (Box w12 (w11.heap.size) #[.int .i64 ((f0 a0 a1 a2 a3)).outbox.device, .int .i64 ((f0 a0 a1 a2 a3)).outbox.next, .slice ao_g0_0 ((f0 a0 a1 a2 a3)).outbox.writes.length cap_g0_0, .int .i64 ((f0 a0 a1 a2 a3)).tries, .int .i64 ((f0 a0 a1 a2 a3)).waitUntil]) := Lib.hid (Box.below (Box.growA (Box.at (by first | rfl | simp))) hb)
    have HX_g1 : Hid (Box w12 (w11.heap.size + 1) #[.string ((f1 a0 a1 a2 a3)).store.name, .slice ao_g1_0 ((f1 a0 a1 a2 a3)).store.items.length cap_g1_0, .int .i64 ((f1 a0 a1 a2 a3)).store.auto, .slice ao_g1_1 ((f1 a0 a1 a2 a3)).applied.length cap_g1_1, .slice ao_g1_2 ((f1 a0 a1 a2 a3)).changes.length cap_g1_2]) := Lib.hid (Box.below (Box.at (by first | rfl | simp)) hb)
    have ⟨cx_aY, zx_aY⟩ := HX_aY.out
    have ⟨cx_aS, zx_aS⟩ := HX_aS.out
    have ⟨cx_w0, zx_w0⟩ := HX_w0.out
    have ⟨cx_w1, zx_w1⟩ := HX_w1.out
    have ⟨cx_x0, zx_x0⟩ := HX_x0.out
    have ⟨cx_x1, zx_x1⟩ := HX_x1.out
    have ⟨cx_g0, zx_g0⟩ := HX_g0.out
    have ⟨cx_g1, zx_g1⟩ := HX_g1.out
    replace HA0 := Lib.hid (HA0.out.below hw)
    replace HA1 := Lib.hid (HA1.out.below hw)
    replace HA3 := Lib.hid (HA3.out.below hw)
    replace H_w0 := Lib.hid (H_w0.out.below hw)
    replace H_w1 := Lib.hid (H_w1.out.below hw)
    replace H_x0 := Lib.hid (H_x0.out.below hw)
    replace H_x1 := Lib.hid (H_x1.out.below hw)
    replace H_x3 := Lib.hid (H_x3.out.below hw)
    replace H_g0 := Lib.hid (H_g0.out.below hw)
    replace H_g1 := Lib.hid (H_g1.out.below hw)
    replace HB := Lib.hid (below_call HB.out HB.out.size hw)
    clear hw
    clear hb
    go_wp2_with fail
    refine (eqServer _ _ (f1 a0 a1 a2 a3) _ (H_g1.out.reads.below (by repeat (first | with_reducible exact belR | with_reducible apply belA | (with_reducible refine belS ?_ ?_; focus (first | omega | (simp; done) | (simp; omega))) | with_reducible apply belN | with_reducible apply belD | with_reducible assumption))) (H_w1.out.reads.below (by repeat (first | with_reducible exact belR | with_reducible apply belA | (with_reducible refine belS ?_ ?_; focus (first | omega | (simp; done) | (simp; omega))) | with_reducible apply belN | with_reducible apply belD | with_reducible assumption)))).mono ?_
    rintro e w13 ⟨rfl, hb⟩
    have hw : Below w12.heap.size w12 w13 := below_call (by repeat (first | with_reducible exact belR | with_reducible apply belA | (with_reducible refine belS ?_ ?_; focus (first | omega | (simp; done) | (simp; omega))) | with_reducible apply belN | with_reducible apply belD | with_reducible assumption)) (by first | omega | (simp; done) | (simp; omega)) hb
    have hsw13 : w12.heap.size ≤ w13.heap.size := by have y := hb.size; (try simp at y); omega
    clear cx_aY zx_aY
    replace HX_aY := Lib.hid (HX_aY.out.below hw)
    clear cx_aS zx_aS
    replace HX_aS := Lib.hid (HX_aS.out.below hw)
    clear cx_w0 zx_w0
    replace HX_w0 := Lib.hid (HX_w0.out.below hw)
    clear cx_w1 zx_w1
    replace HX_w1 := Lib.hid (HX_w1.out.below hw)
    clear cx_x0 zx_x0
    replace HX_x0 := Lib.hid (HX_x0.out.below hw)
    clear cx_x1 zx_x1
    replace HX_x1 := Lib.hid (HX_x1.out.below hw)
    clear cx_g0 zx_g0
    replace HX_g0 := Lib.hid (HX_g0.out.below hw)
    clear cx_g1 zx_g1
    replace HX_g1 := Lib.hid (HX_g1.out.below hw)
    have ⟨cx_aY, zx_aY⟩ := HX_aY.out
    have ⟨cx_aS, zx_aS⟩ := HX_aS.out
    have ⟨cx_w0, zx_w0⟩ := HX_w0.out
    have ⟨cx_w1, zx_w1⟩ := HX_w1.out
    have ⟨cx_x0, zx_x0⟩ := HX_x0.out
    have ⟨cx_x1, zx_x1⟩ := HX_x1.out
    have ⟨cx_g0, zx_g0⟩ := HX_g0.out
    have ⟨cx_g1, zx_g1⟩ := HX_g1.out
    replace HA0 := Lib.hid (HA0.out.below hw)
    replace HA1 := Lib.hid (HA1.out.below hw)
    replace HA3 := Lib.hid (HA3.out.below hw)
    replace H_w0 := Lib.hid (H_w0.out.below hw)
    replace H_w1 := Lib.hid (H_w1.out.below hw)
    replace H_x0 := Lib.hid (H_x0.out.below hw)
    replace H_x1 := Lib.hid (H_x1.out.below hw)
    replace H_x3 := Lib.hid (H_x3.out.below hw)
    replace H_g0 := Lib.hid (H_g0.out.below hw)
    replace H_g1 := Lib.hid (H_g1.out.below hw)
    replace HB := Lib.hid (below_call HB.out HB.out.size hw)
    clear hw
    clear hb
    go_wp2_with fail
    refine settle (fun W' => Below w13.heap.size w13 W' ∧ w13.heap.size ≤ W'.heap.size) ⟨(by repeat (first | with_reducible exact belR | with_reducible apply belA | (with_reducible refine belS ?_ ?_; focus (first | omega | (simp; done) | (simp; omega))) | with_reducible apply belN | with_reducible apply belD | with_reducible assumption)), (by first | omega | (simp; done) | (simp; omega))⟩ ?_
    rintro w14 ⟨hw, hsw14⟩
    clear cx_aY zx_aY
    replace HX_aY := Lib.hid (HX_aY.out.below hw)
    clear cx_aS zx_aS
    replace HX_aS := Lib.hid (HX_aS.out.below hw)
    clear cx_w0 zx_w0
    replace HX_w0 := Lib.hid (HX_w0.out.below hw)
    clear cx_w1 zx_w1
    replace HX_w1 := Lib.hid (HX_w1.out.below hw)
    clear cx_x0 zx_x0
    replace HX_x0 := Lib.hid (HX_x0.out.below hw)
    clear cx_x1 zx_x1
    replace HX_x1 := Lib.hid (HX_x1.out.below hw)
    clear cx_g0 zx_g0
    replace HX_g0 := Lib.hid (HX_g0.out.below hw)
    clear cx_g1 zx_g1
    replace HX_g1 := Lib.hid (HX_g1.out.below hw)
    have ⟨cx_aY, zx_aY⟩ := HX_aY.out
    have ⟨cx_aS, zx_aS⟩ := HX_aS.out
    have ⟨cx_w0, zx_w0⟩ := HX_w0.out
    have ⟨cx_w1, zx_w1⟩ := HX_w1.out
    have ⟨cx_x0, zx_x0⟩ := HX_x0.out
    have ⟨cx_x1, zx_x1⟩ := HX_x1.out
    have ⟨cx_g0, zx_g0⟩ := HX_g0.out
    have ⟨cx_g1, zx_g1⟩ := HX_g1.out
    replace HA0 := Lib.hid (HA0.out.below hw)
    replace HA1 := Lib.hid (HA1.out.below hw)
    replace HA3 := Lib.hid (HA3.out.below hw)
    replace H_w0 := Lib.hid (H_w0.out.below hw)
    replace H_w1 := Lib.hid (H_w1.out.below hw)
    replace H_x0 := Lib.hid (H_x0.out.below hw)
    replace H_x1 := Lib.hid (H_x1.out.below hw)
    replace H_x3 := Lib.hid (H_x3.out.below hw)
    replace H_g0 := Lib.hid (H_g0.out.below hw)
    replace H_g1 := Lib.hid (H_g1.out.below hw)
    replace HB := Lib.hid (below_call HB.out HB.out.size hw)
    clear hw
    go_region_held3 (fun w' => (∀ o, w'.cell? ⟨w8.heap.size, o, none⟩ = #[.int .i64 (a0).outbox.device, .int .i64 (a0).outbox.next, .slice ao_x0_0 (a0).outbox.writes.length cap_x0_0, .int .i64 (a0).tries, .int .i64 (a0).waitUntil][o]?) ∧ (∀ o, w'.cell? ⟨w.heap.size, o, none⟩ = #[.int .i64 a0.outbox.device, .int .i64 a0.outbox.next, .slice ao0_0 a0.outbox.writes.length cap0_0, .int .i64 a0.tries, .int .i64 a0.waitUntil][o]?) ∧ Below w14.heap.size w14 w')
      (first | exact ⟨fun o => (World.cell?_drew _ _ |>.trans <| hq_E16.cell (p := ⟨w8.heap.size, o, none⟩) zx_x0).trans (cx_x0 o), fun o => (World.cell?_drew _ _ |>.trans <| hq_E16.cell (p := ⟨w.heap.size, o, none⟩) zx_aY).trans (cx_aY o), belD hq_E16⟩ | exact ⟨fun o => (hq_E16.cell (p := ⟨w8.heap.size, o, none⟩) zx_x0).trans (cx_x0 o), fun o => (hq_E16.cell (p := ⟨w.heap.size, o, none⟩) zx_aY).trans (cx_aY o), hq_E16⟩ | exact ⟨fun o => (World.cell?_drew _ _ |>.trans <| hq_x0_e14.cell (p := ⟨w8.heap.size, o, none⟩) zx_x0).trans (cx_x0 o), fun o => (World.cell?_drew _ _ |>.trans <| hq_x0_e14.cell (p := ⟨w.heap.size, o, none⟩) zx_aY).trans (cx_aY o), belD hq_x0_e14⟩ | exact ⟨fun o => (hq_x0_e14.cell (p := ⟨w8.heap.size, o, none⟩) zx_x0).trans (cx_x0 o), fun o => (hq_x0_e14.cell (p := ⟨w.heap.size, o, none⟩) zx_aY).trans (cx_aY o), hq_x0_e14⟩ | exact ⟨cx_x0, cx_aY, belR⟩ | exact ⟨cx_x0, cx_aY, belD belR⟩)
      (first | (go_at_call 12; have hx := hq_x0_e14; clear hx; have hS_E16 := ‹_ ∧ _ ∧ Below w14.heap.size w14 _›; refine (eqSync _ _ a0 _ (H_x0.out.reads.below hS_E16.2.2) (hr_x0_e14.below (by first | exact belR | exact belD belR | exact belN (belD belR)))).mono ?_; rintro e w16 ⟨rfl, hb_E16⟩; have hq_E16 : Below w14.heap.size w14 w16 := below_call hS_E16.2.2 hS_E16.2.2.size hb_E16; clear hS_E16) | (go_at_call 9; have hS_x0_e14 := ‹_ ∧ _ ∧ Below w14.heap.size w14 _›; refine (toSync _ a0 _ (HA0.out.reads.below hS_x0_e14.2.2) (by first | omega | (simp [DSync.wt]))).mono ?_; rintro e w15 ⟨d_x0_e14, rfl, hf_x0_e14, hb_x0_e14⟩; have hq_x0_e14 : Below w14.heap.size w14 w15 := below_call hS_x0_e14.2.2 hS_x0_e14.2.2.size hb_x0_e14; clear hS_x0_e14; obtain ⟨ao_x0_e14_0, cap_x0_e14_0, rfl⟩ := DSync.fshape hf_x0_e14; have hr_x0_e14 := hf_x0_e14.reads))
    have hw := hq_E16
    have hsw16 : w14.heap.size ≤ w16.heap.size := hq_E16.size
    clear cx_aY zx_aY
    replace HX_aY := Lib.hid (HX_aY.out.below hw)
    clear cx_aS zx_aS
    replace HX_aS := Lib.hid (HX_aS.out.below hw)
    clear cx_w0 zx_w0
    replace HX_w0 := Lib.hid (HX_w0.out.below hw)
    clear cx_w1 zx_w1
    replace HX_w1 := Lib.hid (HX_w1.out.below hw)
    clear cx_x0 zx_x0
    replace HX_x0 := Lib.hid (HX_x0.out.below hw)
    clear cx_x1 zx_x1
    replace HX_x1 := Lib.hid (HX_x1.out.below hw)
    clear cx_g0 zx_g0
    replace HX_g0 := Lib.hid (HX_g0.out.below hw)
    clear cx_g1 zx_g1
    replace HX_g1 := Lib.hid (HX_g1.out.below hw)
    have ⟨cx_aY, zx_aY⟩ := HX_aY.out
    have ⟨cx_aS, zx_aS⟩ := HX_aS.out
    have ⟨cx_w0, zx_w0⟩ := HX_w0.out
    have ⟨cx_w1, zx_w1⟩ := HX_w1.out
    have ⟨cx_x0, zx_x0⟩ := HX_x0.out
    have ⟨cx_x1, zx_x1⟩ := HX_x1.out
    have ⟨cx_g0, zx_g0⟩ := HX_g0.out
    have ⟨cx_g1, zx_g1⟩ := HX_g1.out
    replace HA0 := Lib.hid (HA0.out.below hw)
    replace HA1 := Lib.hid (HA1.out.below hw)
    replace HA3 := Lib.hid (HA3.out.below hw)
    replace H_w0 := Lib.hid (H_w0.out.below hw)
    replace H_w1 := Lib.hid (H_w1.out.below hw)
    replace H_x0 := Lib.hid (H_x0.out.below hw)
    replace H_x1 := Lib.hid (H_x1.out.below hw)
    replace H_x3 := Lib.hid (H_x3.out.below hw)
    replace H_g0 := Lib.hid (H_g0.out.below hw)
    replace H_g1 := Lib.hid (H_g1.out.below hw)
    replace HB := Lib.hid (below_call HB.out HB.out.size hw)
    clear hw
    rename_i i2_0 i2_1 i2_2 i2_3 i2_4
    revert f0 f1 hS hI hm_g0 hm_g1 hm_x0 hm_x1 hm_x3 a0 a1 a2 a3 w ht0 i1_0 ao0_0 cap0_0 i1_1 ao1_0 cap1_0 ao1_1 cap1_1 ao1_2 cap1_2 fp ao3 cap3 hl3 i1_2 i1_3 hg_aFates hv_aFates i1_4 i1_5 w1 hsw1 hv_aY i1_6 w2 hsw2 hv_aS i1_7 w3 hsw3 w7 u22 u23 u24 u25 u26 u27 u28 u29 u30 u31 u32 u33 u34 u35 u36 u37 u38 u39 u40 u41 u42 u43 u44 u45 u46 u47 u48 u49 u50 u51 u52 u53 u54 u55 u56 u57 u58 u59 u60 u61 u62 u63 u64 u65 u66 u67 u68 u69 u70 u71 u72 u73 u74 u75 u76 u77 u78 u79 u80 u81 u82 u83 u84 u85 u86 u87 u88 u89 u90 u91 u92 u93 u94 u95 u96 u97 u98 u99 u100 u101 u102 u103 u104 u105 u106 u107 u108 u109 u110 u111 u112 u113 u114 u115 u116 u117 u118 u119 u120 u121 u122 u123 u124 u125 u126 u127 u128 u129 u130 u131 u132 u133 u134 u135 u136 u137 u138 u139 u140 u141 u142 u143 u144 u145 u146 u147 u148 u149 u150 u151 u152 u153 u154 u155 u156 u157 u158 u159 u160 kb_w0 kb_w1 ao_w0_0 cap_w0_0 ao_w1_0 cap_w1_0 ao_w1_1 cap_w1_1 ao_w1_2 cap_w1_2 lo_w0 hi_w0 fp_w0 fp_w1 hk1_w0 hk2_w0 hk1_w1 hk2_w1 hl1_w0 hl2_w0 hd_w0 hsw7 hkz_w0 hkz_w1 HD_w0_w1 w8 ao_x0_0 cap_x0_0 fp_x0 hsw8 w9 ao_x1_0 cap_x1_0 ao_x1_1 cap_x1_1 ao_x1_2 cap_x1_2 fp_x1 hsw9 w10 ao_x3 cap_x3 fp_x3 hsw10 w11 ao_g0_0 cap_g0_0 hp0 ao_g1_0 cap_g1_0 ao_g1_1 cap_g1_1 ao_g1_2 cap_g1_2 hp1 hf0 fp_g0 fp_g1 HD_g0_g1 hsw11 w12 hsw12 w13 hsw13 i2_0 i2_1 i2_2 i2_3 w14 hsw14 w15 hb_x0_e14 hq_x0_e14 ao_x0_e14_0 cap_x0_e14_0 hf_x0_e14 hr_x0_e14 w16 hb_E16 hq_E16 i2_4 hsw16 HX_aY HX_aS HX_w0 HX_w1 HX_x0 HX_x1 HX_g0 HX_g1 cx_aY zx_aY cx_aS zx_aS cx_w0 zx_w0 cx_w1 zx_w1 cx_x0 zx_x0 cx_x1 zx_x1 cx_g0 zx_g0 cx_g1 zx_g1 HA0 HA1 HA3 H_w0 H_w1 H_x0 H_x1 H_x3 H_g0 H_g1 HB
    exact H.out⟩).down)

end Go.Proofs.YtgicglmcapnogaaGreat
