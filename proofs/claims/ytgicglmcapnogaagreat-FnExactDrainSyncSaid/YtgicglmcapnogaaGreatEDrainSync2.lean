/-
  FnExactDrainSync: part 2 of the law's walk.
-/
import Derived.Test.YtgicglmcapnogaaGreatEDrainSync1
namespace Go.Proofs.YtgicglmcapnogaaGreat
open Go.RowKit Go.ChangeShapes

set_option maxRecDepth 100000 in
set_option maxHeartbeats 16000000 in
def lawDrainSync2 :=
  fun (H : Rest _) => PLift.up ((lawDrainSync1 ⟨by
    intro f0 f1 hS hI hm_g0 hm_g1 hm_x0 hm_x1 a0 a1 a2 w ht0 i1_0 ao0_0 cap0_0 fp ao1_0 cap1_0 ao1_1 cap1_1 ao1_2 cap1_2 i1_1 w1 hsw1 hv_aY i1_2 w2 hsw2 hv_aS i1_3 i1_4 i1_5 w3 hsw3 HX_aY HX_aS cx_aY zx_aY cx_aS zx_aS HA0 HA1 HB wc u19 u20 u21 u22 u23 u24 u25 u26 u27 u28 u29 u30 u31 u32 u33 u34 u35 u36 u37 u38 u39 u40 u41 u42 u43 u44 u45 u46 u47 u48 u49 u50 u51 u52 u53 u54 u55 u56 u57 u58 u59 u60 u61 u62 u63 u64 u65 u66 u67 u68 u69 u70 u71 u72 u73 u74 u75 u76 u77 u78 u79 u80 u81 u82 u83 u84 u85 u86 u87 u88 u89 u90 u91 u92 u93 u94 u95 u96 u97 u98 u99 u100 u101 u102 u103 u104 u105 u106 u107 u108 u109 u110 u111 u112 u113 u114 u115 u116 u117 u118 u119 u120 u121 u122 u123 u124 u125 u126 u127 u128 u129 u130 u131 u132 u133 u134 u135 u136 u137 u138 u139 kb_w0 kb_w1 ao_w0_0 cap_w0_0 ao_w1_0 cap_w1_0 ao_w1_1 cap_w1_1 ao_w1_2 cap_w1_2 lo_w0 hi_w0 fp_w0 fp_w1 hbx_w0 hk1_w0 hk2_w0 hbx_w1 hk1_w1 hk2_w1 hl1_w0 hl2_w0 ho_w0 ho_w1 hd_w0 hw
    rename World => w6
    have hsw6 : w3.heap.size ≤ w6.heap.size := hw.size
    clear cx_aY zx_aY
    replace HX_aY := Lib.hid (HX_aY.out.below hw)
    clear cx_aS zx_aS
    replace HX_aS := Lib.hid (HX_aS.out.below hw)
    have HX_w0 := Lib.hid hbx_w0; clear hbx_w0
    have hkz_w0 := HX_w0.out.2
    have HX_w1 := Lib.hid hbx_w1; clear hbx_w1
    have hkz_w1 := HX_w1.out.2
    have H_w0 := Lib.hid ho_w0; clear ho_w0
    have H_w1 := Lib.hid ho_w1; clear ho_w1
    have HD_w0_w1 := hd_w0
    have ⟨cx_aY, zx_aY⟩ := HX_aY.out
    have ⟨cx_aS, zx_aS⟩ := HX_aS.out
    have ⟨cx_w0, zx_w0⟩ := HX_w0.out
    have ⟨cx_w1, zx_w1⟩ := HX_w1.out
    replace HA0 := Lib.hid (HA0.out.below hw)
    replace HA1 := Lib.hid (HA1.out.below hw)
    replace HB := Lib.hid (below_call HB.out HB.out.size hw)
    clear hw
    go_wp2_with fail
    refine (toSync _ a0 _ (HA0.out.reads.below (by repeat (first | with_reducible exact belR | with_reducible apply belA | (with_reducible refine belS ?_ ?_; focus (first | omega | (simp; done) | (simp; omega))) | with_reducible apply belN | with_reducible apply belD | with_reducible assumption))) (by first | omega | (simp [DSync.wt]))).mono ?_
    rintro e w7 ⟨d_x0, rfl, hf, hb⟩
    obtain ⟨ao_x0_0, cap_x0_0, rfl⟩ := DSync.fshape hf
    obtain ⟨fp_x0, o_x0⟩ := Fresh.own hf (lo := w6.heap.size) (by first | omega | (simp; done) | (simp; omega))
    have H_x0 := Lib.hid o_x0; clear o_x0
    have hw : Below w6.heap.size w6 w7 := below_call (by repeat (first | with_reducible exact belR | with_reducible apply belA | (with_reducible refine belS ?_ ?_; focus (first | omega | (simp; done) | (simp; omega))) | with_reducible apply belN | with_reducible apply belD | with_reducible assumption)) (by first | omega | (simp; done) | (simp; omega)) hb
    have hsw7 : w6.heap.size ≤ w7.heap.size := by have y := hb.size; (try simp at y); omega
    clear cx_aY zx_aY
    replace HX_aY := Lib.hid (HX_aY.out.below hw)
    clear cx_aS zx_aS
    replace HX_aS := Lib.hid (HX_aS.out.below hw)
    clear cx_w0 zx_w0
    replace HX_w0 := Lib.hid (HX_w0.out.below hw)
    clear cx_w1 zx_w1
    replace HX_w1 := Lib.hid (HX_w1.out.below hw)
    have ⟨cx_aY, zx_aY⟩ := HX_aY.out
    have ⟨cx_aS, zx_aS⟩ := HX_aS.out
    have ⟨cx_w0, zx_w0⟩ := HX_w0.out
    have ⟨cx_w1, zx_w1⟩ := HX_w1.out
    replace HA0 := Lib.hid (HA0.out.below hw)
    replace HA1 := Lib.hid (HA1.out.below hw)
    replace H_w0 := Lib.hid (H_w0.out.below hw)
    replace H_w1 := Lib.hid (H_w1.out.below hw)
    replace HB := Lib.hid (below_call HB.out HB.out.size hw)
    clear hw
    clear hb hf
    go_wp2_with fail
    refine (toServer _ a1 _ (HA1.out.reads.below (by repeat (first | with_reducible exact belR | with_reducible apply belA | (with_reducible refine belS ?_ ?_; focus (first | omega | (simp; done) | (simp; omega))) | with_reducible apply belN | with_reducible apply belD | with_reducible assumption))) (by first | omega | (simp [DServer.wt]))).mono ?_
    rintro e w8 ⟨d_x1, rfl, hf, hb⟩
    obtain ⟨ao_x1_0, cap_x1_0, ao_x1_1, cap_x1_1, ao_x1_2, cap_x1_2, rfl⟩ := DServer.fshape hf
    obtain ⟨fp_x1, o_x1⟩ := Fresh.own hf (lo := w7.heap.size + 1) (by first | omega | (simp; done) | (simp; omega))
    have H_x1 := Lib.hid o_x1; clear o_x1
    have hw : Below w7.heap.size w7 w8 := below_call (by repeat (first | with_reducible exact belR | with_reducible apply belA | (with_reducible refine belS ?_ ?_; focus (first | omega | (simp; done) | (simp; omega))) | with_reducible apply belN | with_reducible apply belD | with_reducible assumption)) (by first | omega | (simp; done) | (simp; omega)) hb
    have hsw8 : w7.heap.size + 1 ≤ w8.heap.size := by have y := hb.size; (try simp at y); omega
    clear cx_aY zx_aY
    replace HX_aY := Lib.hid (HX_aY.out.below hw)
    clear cx_aS zx_aS
    replace HX_aS := Lib.hid (HX_aS.out.below hw)
    clear cx_w0 zx_w0
    replace HX_w0 := Lib.hid (HX_w0.out.below hw)
    clear cx_w1 zx_w1
    replace HX_w1 := Lib.hid (HX_w1.out.below hw)
    have HX_x0 : Hid (Box w8 (w7.heap.size) #[.int .i64 (a0).outbox.device, .int .i64 (a0).outbox.next, .slice ao_x0_0 (a0).outbox.writes.length cap_x0_0, .int .i64 (a0).tries, .int .i64 (a0).waitUntil]) := Lib.hid (Box.below (Box.at (by first | rfl | simp)) hb)
    have ⟨cx_aY, zx_aY⟩ := HX_aY.out
    have ⟨cx_aS, zx_aS⟩ := HX_aS.out
    have ⟨cx_w0, zx_w0⟩ := HX_w0.out
    have ⟨cx_w1, zx_w1⟩ := HX_w1.out
    have ⟨cx_x0, zx_x0⟩ := HX_x0.out
    replace HA0 := Lib.hid (HA0.out.below hw)
    replace HA1 := Lib.hid (HA1.out.below hw)
    replace H_w0 := Lib.hid (H_w0.out.below hw)
    replace H_w1 := Lib.hid (H_w1.out.below hw)
    replace H_x0 := Lib.hid (H_x0.out.below hw)
    replace HB := Lib.hid (below_call HB.out HB.out.size hw)
    clear hw
    clear hb hf
    go_wp2_with fail
    refine (hI _ a0 _ a1 a2 _ (H_x0.out.reads.below (by repeat (first | with_reducible exact belR | with_reducible apply belA | (with_reducible refine belS ?_ ?_; focus (first | omega | (simp; done) | (simp; omega))) | with_reducible apply belN | with_reducible apply belD | with_reducible assumption))) (H_x1.out.reads.below (by repeat (first | with_reducible exact belR | with_reducible apply belA | (with_reducible refine belS ?_ ?_; focus (first | omega | (simp; done) | (simp; omega))) | with_reducible apply belN | with_reducible apply belD | with_reducible assumption))) (by first | omega | exact hv_aY) (by first | omega | exact hv_aS) (by first | omega | exact ht0)).mono ?_
    rintro e w9 ⟨d_g_0, d_g_1, rfl, hf0, hb⟩
    have hp0 := hf0.left
    have hp1 := hf0.right
    obtain ⟨ao_g0_0, cap_g0_0, rfl⟩ := DSync.fshape hp0
    obtain ⟨ao_g1_0, cap_g1_0, ao_g1_1, cap_g1_1, ao_g1_2, cap_g1_2, rfl⟩ := DServer.fshape hp1
    obtain ⟨fp_g0, fp_g1, o_g0, o_g1, HD_g0_g1⟩ := Fresh2.own hf0 (lo := w8.heap.size + 1) (by first | omega | (simp; done) | (simp; omega))
    have H_g0 := Lib.hid o_g0; clear o_g0
    have H_g1 := Lib.hid o_g1; clear o_g1
    have hw : Below w8.heap.size w8 w9 := below_call (by repeat (first | with_reducible exact belR | with_reducible apply belA | (with_reducible refine belS ?_ ?_; focus (first | omega | (simp; done) | (simp; omega))) | with_reducible apply belN | with_reducible apply belD | with_reducible assumption)) (by first | omega | (simp; done) | (simp; omega)) hb
    have hsw9 : w8.heap.size + 1 ≤ w9.heap.size := by have y := hb.size; (try simp at y); omega
    clear cx_aY zx_aY
    replace HX_aY := Lib.hid (HX_aY.out.below hw)
    clear cx_aS zx_aS
    replace HX_aS := Lib.hid (HX_aS.out.below hw)
    clear cx_w0 zx_w0
    replace HX_w0 := Lib.hid (HX_w0.out.below hw)
    clear cx_w1 zx_w1
    replace HX_w1 := Lib.hid (HX_w1.out.below hw)
    clear cx_x0 zx_x0
    replace HX_x0 := Lib.hid (HX_x0.out.below hw)
    have HX_x1 : Hid (Box w9 (w8.heap.size) #[.string (a1).store.name, .slice ao_x1_0 (a1).store.items.length cap_x1_0, .int .i64 (a1).store.auto, .slice ao_x1_1 (a1).applied.length cap_x1_1, .slice ao_x1_2 (a1).changes.length cap_x1_2]) := Lib.hid (Box.below (Box.at (by first | rfl | simp)) hb)
    have ⟨cx_aY, zx_aY⟩ := HX_aY.out
    have ⟨cx_aS, zx_aS⟩ := HX_aS.out
    have ⟨cx_w0, zx_w0⟩ := HX_w0.out
    have ⟨cx_w1, zx_w1⟩ := HX_w1.out
    have ⟨cx_x0, zx_x0⟩ := HX_x0.out
    have ⟨cx_x1, zx_x1⟩ := HX_x1.out
    replace HA0 := Lib.hid (HA0.out.below hw)
    replace HA1 := Lib.hid (HA1.out.below hw)
    replace H_w0 := Lib.hid (H_w0.out.below hw)
    replace H_w1 := Lib.hid (H_w1.out.below hw)
    replace H_x0 := Lib.hid (H_x0.out.below hw)
    replace H_x1 := Lib.hid (H_x1.out.below hw)
    replace HB := Lib.hid (below_call HB.out HB.out.size hw)
    clear hw
    clear hb
    go_wp2_with fail
    refine (eqSync _ _ (f0 a0 a1 a2) _ (H_g0.out.reads.below (by repeat (first | with_reducible exact belR | with_reducible apply belA | (with_reducible refine belS ?_ ?_; focus (first | omega | (simp; done) | (simp; omega))) | with_reducible apply belN | with_reducible apply belD | with_reducible assumption))) (H_w0.out.reads.below (by repeat (first | with_reducible exact belR | with_reducible apply belA | (with_reducible refine belS ?_ ?_; focus (first | omega | (simp; done) | (simp; omega))) | with_reducible apply belN | with_reducible apply belD | with_reducible assumption)))).mono ?_
    rintro e w10 ⟨rfl, hb⟩
    have hw : Below w9.heap.size w9 w10 := below_call (by repeat (first | with_reducible exact belR | with_reducible apply belA | (with_reducible refine belS ?_ ?_; focus (first | omega | (simp; done) | (simp; omega))) | with_reducible apply belN | with_reducible apply belD | with_reducible assumption)) (by first | omega | (simp; done) | (simp; omega)) hb
    have hsw10 : w9.heap.size + 1 + 1 ≤ w10.heap.size := by have y := hb.size; (try simp at y); omega
    clear cx_aY zx_aY
    replace HX_aY := Lib.hid (HX_aY.out.below hw)
    clear cx_aS zx_aS
    replace HX_aS := Lib.hid (HX_aS.out.below hw)
    clear cx_w0 zx_w0
    replace HX_w0 := Lib.hid (HX_w0.out.below hw)
    clear cx_w1 zx_w1
    replace HX_w1 := Lib.hid (HX_w1.out.below hw)
    clear cx_x0 zx_x0
    replace HX_x0 := Lib.hid (HX_x0.out.below hw)
    clear cx_x1 zx_x1
    replace HX_x1 := Lib.hid (HX_x1.out.below hw)
    have HX_g0 : Hid (Box w10 (w9.heap.size) #[.int .i64 ((f0 a0 a1 a2)).outbox.device, .int .i64 ((f0 a0 a1 a2)).outbox.next, .slice ao_g0_0 ((f0 a0 a1 a2)).outbox.writes.length cap_g0_0, .int .i64 ((f0 a0 a1 a2)).tries, .int .i64 ((f0 a0 a1 a2)).waitUntil]) := Lib.hid (Box.below (Box.growA (Box.at (by first | rfl | simp))) hb)
    have HX_g1 : Hid (Box w10 (w9.heap.size + 1) #[.string ((f1 a0 a1 a2)).store.name, .slice ao_g1_0 ((f1 a0 a1 a2)).store.items.length cap_g1_0, .int .i64 ((f1 a0 a1 a2)).store.auto, .slice ao_g1_1 ((f1 a0 a1 a2)).applied.length cap_g1_1, .slice ao_g1_2 ((f1 a0 a1 a2)).changes.length cap_g1_2]) := Lib.hid (Box.below (Box.at (by first | rfl | simp)) hb)
    have ⟨cx_aY, zx_aY⟩ := HX_aY.out
    have ⟨cx_aS, zx_aS⟩ := HX_aS.out
    have ⟨cx_w0, zx_w0⟩ := HX_w0.out
    have ⟨cx_w1, zx_w1⟩ := HX_w1.out
    have ⟨cx_x0, zx_x0⟩ := HX_x0.out
    have ⟨cx_x1, zx_x1⟩ := HX_x1.out
    have ⟨cx_g0, zx_g0⟩ := HX_g0.out
    have ⟨cx_g1, zx_g1⟩ := HX_g1.out
    replace HA0 := Lib.hid (HA0.out.below hw)
    replace HA1 := Lib.hid (HA1.out.below hw)
    replace H_w0 := Lib.hid (H_w0.out.below hw)
    replace H_w1 := Lib.hid (H_w1.out.below hw)
    replace H_x0 := Lib.hid (H_x0.out.below hw)
    replace H_x1 := Lib.hid (H_x1.out.below hw)
    replace H_g0 := Lib.hid (H_g0.out.below hw)
    replace H_g1 := Lib.hid (H_g1.out.below hw)
    replace HB := Lib.hid (below_call HB.out HB.out.size hw)
    clear hw
    clear hb
    go_wp2_with fail
    refine (eqServer _ _ (f1 a0 a1 a2) _ (H_g1.out.reads.below (by repeat (first | with_reducible exact belR | with_reducible apply belA | (with_reducible refine belS ?_ ?_; focus (first | omega | (simp; done) | (simp; omega))) | with_reducible apply belN | with_reducible apply belD | with_reducible assumption))) (H_w1.out.reads.below (by repeat (first | with_reducible exact belR | with_reducible apply belA | (with_reducible refine belS ?_ ?_; focus (first | omega | (simp; done) | (simp; omega))) | with_reducible apply belN | with_reducible apply belD | with_reducible assumption)))).mono ?_
    rintro e w11 ⟨rfl, hb⟩
    have hw : Below w10.heap.size w10 w11 := below_call (by repeat (first | with_reducible exact belR | with_reducible apply belA | (with_reducible refine belS ?_ ?_; focus (first | omega | (simp; done) | (simp; omega))) | with_reducible apply belN | with_reducible apply belD | with_reducible assumption)) (by first | omega | (simp; done) | (simp; omega)) hb
    have hsw11 : w10.heap.size ≤ w11.heap.size := by have y := hb.size; (try simp at y); omega
    clear cx_aY zx_aY
    replace HX_aY := Lib.hid (HX_aY.out.below hw)
    clear cx_aS zx_aS
    replace HX_aS := Lib.hid (HX_aS.out.below hw)
    clear cx_w0 zx_w0
    replace HX_w0 := Lib.hid (HX_w0.out.below hw)
    clear cx_w1 zx_w1
    replace HX_w1 := Lib.hid (HX_w1.out.below hw)
    clear cx_x0 zx_x0
    replace HX_x0 := Lib.hid (HX_x0.out.below hw)
    clear cx_x1 zx_x1
    replace HX_x1 := Lib.hid (HX_x1.out.below hw)
    clear cx_g0 zx_g0
    replace HX_g0 := Lib.hid (HX_g0.out.below hw)
    clear cx_g1 zx_g1
    replace HX_g1 := Lib.hid (HX_g1.out.below hw)
    have ⟨cx_aY, zx_aY⟩ := HX_aY.out
    have ⟨cx_aS, zx_aS⟩ := HX_aS.out
    have ⟨cx_w0, zx_w0⟩ := HX_w0.out
    have ⟨cx_w1, zx_w1⟩ := HX_w1.out
    have ⟨cx_x0, zx_x0⟩ := HX_x0.out
    have ⟨cx_x1, zx_x1⟩ := HX_x1.out
    have ⟨cx_g0, zx_g0⟩ := HX_g0.out
    have ⟨cx_g1, zx_g1⟩ := HX_g1.out
    replace HA0 := Lib.hid (HA0.out.below hw)
    replace HA1 := Lib.hid (HA1.out.below hw)
    replace H_w0 := Lib.hid (H_w0.out.below hw)
    replace H_w1 := Lib.hid (H_w1.out.below hw)
    replace H_x0 := Lib.hid (H_x0.out.below hw)
    replace H_x1 := Lib.hid (H_x1.out.below hw)
    replace H_g0 := Lib.hid (H_g0.out.below hw)
    replace H_g1 := Lib.hid (H_g1.out.below hw)
    replace HB := Lib.hid (below_call HB.out HB.out.size hw)
    clear hw
    clear hb
    go_wp2_with fail
    refine settle (fun W' => Below w11.heap.size w11 W' ∧ w11.heap.size ≤ W'.heap.size) ⟨(by repeat (first | with_reducible exact belR | with_reducible apply belA | (with_reducible refine belS ?_ ?_; focus (first | omega | (simp; done) | (simp; omega))) | with_reducible apply belN | with_reducible apply belD | with_reducible assumption)), (by first | omega | (simp; done) | (simp; omega))⟩ ?_
    rintro w12 ⟨hw, hsw12⟩
    clear cx_aY zx_aY
    replace HX_aY := Lib.hid (HX_aY.out.below hw)
    clear cx_aS zx_aS
    replace HX_aS := Lib.hid (HX_aS.out.below hw)
    clear cx_w0 zx_w0
    replace HX_w0 := Lib.hid (HX_w0.out.below hw)
    clear cx_w1 zx_w1
    replace HX_w1 := Lib.hid (HX_w1.out.below hw)
    clear cx_x0 zx_x0
    replace HX_x0 := Lib.hid (HX_x0.out.below hw)
    clear cx_x1 zx_x1
    replace HX_x1 := Lib.hid (HX_x1.out.below hw)
    clear cx_g0 zx_g0
    replace HX_g0 := Lib.hid (HX_g0.out.below hw)
    clear cx_g1 zx_g1
    replace HX_g1 := Lib.hid (HX_g1.out.below hw)
    have ⟨cx_aY, zx_aY⟩ := HX_aY.out
    have ⟨cx_aS, zx_aS⟩ := HX_aS.out
    have ⟨cx_w0, zx_w0⟩ := HX_w0.out
    have ⟨cx_w1, zx_w1⟩ := HX_w1.out
    have ⟨cx_x0, zx_x0⟩ := HX_x0.out
    have ⟨cx_x1, zx_x1⟩ := HX_x1.out
    have ⟨cx_g0, zx_g0⟩ := HX_g0.out
    have ⟨cx_g1, zx_g1⟩ := HX_g1.out
    replace HA0 := Lib.hid (HA0.out.below hw)
    replace HA1 := Lib.hid (HA1.out.below hw)
    replace H_w0 := Lib.hid (H_w0.out.below hw)
    replace H_w1 := Lib.hid (H_w1.out.below hw)
    replace H_x0 := Lib.hid (H_x0.out.below hw)
    replace H_x1 := Lib.hid (H_x1.out.below hw)
    replace H_g0 := Lib.hid (H_g0.out.below hw)
    replace H_g1 := Lib.hid (H_g1.out.below hw)
    replace HB := Lib.hid (below_call HB.out HB.out.size hw)
    clear hw
    go_region_held3 (fun w' => (∀ o, w'.cell? ⟨w7.heap.size, o, none⟩ = #[.int .i64 (a0).outbox.device, .int .i64 (a0).outbox.next, .slice ao_x0_0 (a0).outbox.writes.length cap_x0_0, .int .i64 (a0).tries, .int .i64 (a0).waitUntil][o]?) ∧ (∀ o, w'.cell? ⟨w.heap.size, o, none⟩ = #[.int .i64 a0.outbox.device, .int .i64 a0.outbox.next, .slice ao0_0 a0.outbox.writes.length cap0_0, .int .i64 a0.tries, .int .i64 a0.waitUntil][o]?) ∧ Below w12.heap.size w12 w')
      (first | exact ⟨fun o => (World.cell?_drew _ _ |>.trans <| hq_E14.cell (p := ⟨w7.heap.size, o, none⟩) zx_x0).trans (cx_x0 o), fun o => (World.cell?_drew _ _ |>.trans <| hq_E14.cell (p := ⟨w.heap.size, o, none⟩) zx_aY).trans (cx_aY o), belD hq_E14⟩ | exact ⟨fun o => (hq_E14.cell (p := ⟨w7.heap.size, o, none⟩) zx_x0).trans (cx_x0 o), fun o => (hq_E14.cell (p := ⟨w.heap.size, o, none⟩) zx_aY).trans (cx_aY o), hq_E14⟩ | exact ⟨fun o => (World.cell?_drew _ _ |>.trans <| hq_x0_e12.cell (p := ⟨w7.heap.size, o, none⟩) zx_x0).trans (cx_x0 o), fun o => (World.cell?_drew _ _ |>.trans <| hq_x0_e12.cell (p := ⟨w.heap.size, o, none⟩) zx_aY).trans (cx_aY o), belD hq_x0_e12⟩ | exact ⟨fun o => (hq_x0_e12.cell (p := ⟨w7.heap.size, o, none⟩) zx_x0).trans (cx_x0 o), fun o => (hq_x0_e12.cell (p := ⟨w.heap.size, o, none⟩) zx_aY).trans (cx_aY o), hq_x0_e12⟩ | exact ⟨cx_x0, cx_aY, belR⟩ | exact ⟨cx_x0, cx_aY, belD belR⟩)
      (first | (go_at_call 12; have hx := hq_x0_e12; clear hx; have hS_E14 := ‹_ ∧ _ ∧ Below w12.heap.size w12 _›; refine (eqSync _ _ a0 _ (H_x0.out.reads.below hS_E14.2.2) (hr_x0_e12.below (by first | exact belR | exact belD belR | exact belN (belD belR)))).mono ?_; rintro e w14 ⟨rfl, hb_E14⟩; have hq_E14 : Below w12.heap.size w12 w14 := below_call hS_E14.2.2 hS_E14.2.2.size hb_E14; clear hS_E14) | (go_at_call 9; have hS_x0_e12 := ‹_ ∧ _ ∧ Below w12.heap.size w12 _›; refine (toSync _ a0 _ (HA0.out.reads.below hS_x0_e12.2.2) (by first | omega | (simp [DSync.wt]))).mono ?_; rintro e w13 ⟨d_x0_e12, rfl, hf_x0_e12, hb_x0_e12⟩; have hq_x0_e12 : Below w12.heap.size w12 w13 := below_call hS_x0_e12.2.2 hS_x0_e12.2.2.size hb_x0_e12; clear hS_x0_e12; obtain ⟨ao_x0_e12_0, cap_x0_e12_0, rfl⟩ := DSync.fshape hf_x0_e12; have hr_x0_e12 := hf_x0_e12.reads))
    have hw := hq_E14
    have hsw14 : w12.heap.size ≤ w14.heap.size := hq_E14.size
    clear cx_aY zx_aY
    replace HX_aY := Lib.hid (HX_aY.out.below hw)
    clear cx_aS zx_aS
    replace HX_aS := Lib.hid (HX_aS.out.below hw)
    clear cx_w0 zx_w0
    replace HX_w0 := Lib.hid (HX_w0.out.below hw)
    clear cx_w1 zx_w1
    replace HX_w1 := Lib.hid (HX_w1.out.below hw)
    clear cx_x0 zx_x0
    replace HX_x0 := Lib.hid (HX_x0.out.below hw)
    clear cx_x1 zx_x1
    replace HX_x1 := Lib.hid (HX_x1.out.below hw)
    clear cx_g0 zx_g0
    replace HX_g0 := Lib.hid (HX_g0.out.below hw)
    clear cx_g1 zx_g1
    replace HX_g1 := Lib.hid (HX_g1.out.below hw)
    have ⟨cx_aY, zx_aY⟩ := HX_aY.out
    have ⟨cx_aS, zx_aS⟩ := HX_aS.out
    have ⟨cx_w0, zx_w0⟩ := HX_w0.out
    have ⟨cx_w1, zx_w1⟩ := HX_w1.out
    have ⟨cx_x0, zx_x0⟩ := HX_x0.out
    have ⟨cx_x1, zx_x1⟩ := HX_x1.out
    have ⟨cx_g0, zx_g0⟩ := HX_g0.out
    have ⟨cx_g1, zx_g1⟩ := HX_g1.out
    replace HA0 := Lib.hid (HA0.out.below hw)
    replace HA1 := Lib.hid (HA1.out.below hw)
    replace H_w0 := Lib.hid (H_w0.out.below hw)
    replace H_w1 := Lib.hid (H_w1.out.below hw)
    replace H_x0 := Lib.hid (H_x0.out.below hw)
    replace H_x1 := Lib.hid (H_x1.out.below hw)
    replace H_g0 := Lib.hid (H_g0.out.below hw)
    replace H_g1 := Lib.hid (H_g1.out.below hw)
    replace HB := Lib.hid (below_call HB.out HB.out.size hw)
    clear hw
    go_wp2_with fail
    refine settle (fun W' => Below w14.heap.size w14 W' ∧ w14.heap.size ≤ W'.heap.size) ⟨(by repeat (first | with_reducible exact belR | with_reducible apply belA | (with_reducible refine belS ?_ ?_; focus (first | omega | (simp; done) | (simp; omega))) | with_reducible apply belN | with_reducible apply belD | with_reducible assumption)), (by first | omega | (simp; done) | (simp; omega))⟩ ?_
    rintro w15 ⟨hw, hsw15⟩
    clear cx_aY zx_aY
    replace HX_aY := Lib.hid (HX_aY.out.below hw)
    clear cx_aS zx_aS
    replace HX_aS := Lib.hid (HX_aS.out.below hw)
    clear cx_w0 zx_w0
    replace HX_w0 := Lib.hid (HX_w0.out.below hw)
    clear cx_w1 zx_w1
    replace HX_w1 := Lib.hid (HX_w1.out.below hw)
    clear cx_x0 zx_x0
    replace HX_x0 := Lib.hid (HX_x0.out.below hw)
    clear cx_x1 zx_x1
    replace HX_x1 := Lib.hid (HX_x1.out.below hw)
    clear cx_g0 zx_g0
    replace HX_g0 := Lib.hid (HX_g0.out.below hw)
    clear cx_g1 zx_g1
    replace HX_g1 := Lib.hid (HX_g1.out.below hw)
    have ⟨cx_aY, zx_aY⟩ := HX_aY.out
    have ⟨cx_aS, zx_aS⟩ := HX_aS.out
    have ⟨cx_w0, zx_w0⟩ := HX_w0.out
    have ⟨cx_w1, zx_w1⟩ := HX_w1.out
    have ⟨cx_x0, zx_x0⟩ := HX_x0.out
    have ⟨cx_x1, zx_x1⟩ := HX_x1.out
    have ⟨cx_g0, zx_g0⟩ := HX_g0.out
    have ⟨cx_g1, zx_g1⟩ := HX_g1.out
    replace HA0 := Lib.hid (HA0.out.below hw)
    replace HA1 := Lib.hid (HA1.out.below hw)
    replace H_w0 := Lib.hid (H_w0.out.below hw)
    replace H_w1 := Lib.hid (H_w1.out.below hw)
    replace H_x0 := Lib.hid (H_x0.out.below hw)
    replace H_x1 := Lib.hid (H_x1.out.below hw)
    replace H_g0 := Lib.hid (H_g0.out.below hw)
    replace H_g1 := Lib.hid (H_g1.out.below hw)
    replace HB := Lib.hid (below_call HB.out HB.out.size hw)
    clear hw
    go_region_held3 (fun w' => (∀ o, w'.cell? ⟨w8.heap.size, o, none⟩ = #[.string (a1).store.name, .slice ao_x1_0 (a1).store.items.length cap_x1_0, .int .i64 (a1).store.auto, .slice ao_x1_1 (a1).applied.length cap_x1_1, .slice ao_x1_2 (a1).changes.length cap_x1_2][o]?) ∧ (∀ o, w'.cell? ⟨w.heap.size + 1, o, none⟩ = #[.string a1.store.name, .slice ao1_0 a1.store.items.length cap1_0, .int .i64 a1.store.auto, .slice ao1_1 a1.applied.length cap1_1, .slice ao1_2 a1.changes.length cap1_2][o]?) ∧ Below w15.heap.size w15 w')
      (first | exact ⟨fun o => (World.cell?_drew _ _ |>.trans <| hq_E17.cell (p := ⟨w8.heap.size, o, none⟩) zx_x1).trans (cx_x1 o), fun o => (World.cell?_drew _ _ |>.trans <| hq_E17.cell (p := ⟨w.heap.size + 1, o, none⟩) zx_aS).trans (cx_aS o), belD hq_E17⟩ | exact ⟨fun o => (hq_E17.cell (p := ⟨w8.heap.size, o, none⟩) zx_x1).trans (cx_x1 o), fun o => (hq_E17.cell (p := ⟨w.heap.size + 1, o, none⟩) zx_aS).trans (cx_aS o), hq_E17⟩ | exact ⟨fun o => (World.cell?_drew _ _ |>.trans <| hq_x1_e15.cell (p := ⟨w8.heap.size, o, none⟩) zx_x1).trans (cx_x1 o), fun o => (World.cell?_drew _ _ |>.trans <| hq_x1_e15.cell (p := ⟨w.heap.size + 1, o, none⟩) zx_aS).trans (cx_aS o), belD hq_x1_e15⟩ | exact ⟨fun o => (hq_x1_e15.cell (p := ⟨w8.heap.size, o, none⟩) zx_x1).trans (cx_x1 o), fun o => (hq_x1_e15.cell (p := ⟨w.heap.size + 1, o, none⟩) zx_aS).trans (cx_aS o), hq_x1_e15⟩ | exact ⟨cx_x1, cx_aS, belR⟩ | exact ⟨cx_x1, cx_aS, belD belR⟩)
      (first | (go_at_call 13; have hx := hq_x1_e15; clear hx; have hS_E17 := ‹_ ∧ _ ∧ Below w15.heap.size w15 _›; refine (eqServer _ _ a1 _ (H_x1.out.reads.below hS_E17.2.2) (hr_x1_e15.below (by first | exact belR | exact belD belR | exact belN (belD belR)))).mono ?_; rintro e w17 ⟨rfl, hb_E17⟩; have hq_E17 : Below w15.heap.size w15 w17 := below_call hS_E17.2.2 hS_E17.2.2.size hb_E17; clear hS_E17) | (go_at_call 10; have hS_x1_e15 := ‹_ ∧ _ ∧ Below w15.heap.size w15 _›; refine (toServer _ a1 _ (HA1.out.reads.below hS_x1_e15.2.2) (by first | omega | (simp [DServer.wt]))).mono ?_; rintro e w16 ⟨d_x1_e15, rfl, hf_x1_e15, hb_x1_e15⟩; have hq_x1_e15 : Below w15.heap.size w15 w16 := below_call hS_x1_e15.2.2 hS_x1_e15.2.2.size hb_x1_e15; clear hS_x1_e15; obtain ⟨ao_x1_e15_0, cap_x1_e15_0, ao_x1_e15_1, cap_x1_e15_1, ao_x1_e15_2, cap_x1_e15_2, rfl⟩ := DServer.fshape hf_x1_e15; have hr_x1_e15 := hf_x1_e15.reads))
    have hw := hq_E17
    have hsw17 : w15.heap.size ≤ w17.heap.size := hq_E17.size
    clear cx_aY zx_aY
    replace HX_aY := Lib.hid (HX_aY.out.below hw)
    clear cx_aS zx_aS
    replace HX_aS := Lib.hid (HX_aS.out.below hw)
    clear cx_w0 zx_w0
    replace HX_w0 := Lib.hid (HX_w0.out.below hw)
    clear cx_w1 zx_w1
    replace HX_w1 := Lib.hid (HX_w1.out.below hw)
    clear cx_x0 zx_x0
    replace HX_x0 := Lib.hid (HX_x0.out.below hw)
    clear cx_x1 zx_x1
    replace HX_x1 := Lib.hid (HX_x1.out.below hw)
    clear cx_g0 zx_g0
    replace HX_g0 := Lib.hid (HX_g0.out.below hw)
    clear cx_g1 zx_g1
    replace HX_g1 := Lib.hid (HX_g1.out.below hw)
    have ⟨cx_aY, zx_aY⟩ := HX_aY.out
    have ⟨cx_aS, zx_aS⟩ := HX_aS.out
    have ⟨cx_w0, zx_w0⟩ := HX_w0.out
    have ⟨cx_w1, zx_w1⟩ := HX_w1.out
    have ⟨cx_x0, zx_x0⟩ := HX_x0.out
    have ⟨cx_x1, zx_x1⟩ := HX_x1.out
    have ⟨cx_g0, zx_g0⟩ := HX_g0.out
    have ⟨cx_g1, zx_g1⟩ := HX_g1.out
    replace HA0 := Lib.hid (HA0.out.below hw)
    replace HA1 := Lib.hid (HA1.out.below hw)
    replace H_w0 := Lib.hid (H_w0.out.below hw)
    replace H_w1 := Lib.hid (H_w1.out.below hw)
    replace H_x0 := Lib.hid (H_x0.out.below hw)
    replace H_x1 := Lib.hid (H_x1.out.below hw)
    replace H_g0 := Lib.hid (H_g0.out.below hw)
    replace H_g1 := Lib.hid (H_g1.out.below hw)
    replace HB := Lib.hid (below_call HB.out HB.out.size hw)
    clear hw
    go_wp2_with fail
    have hk_x0 := (hm_x0 a0 (by first | omega | exact hv_aY))
    refine (markSync _ a0 fp_x0 (1) _ H_x0.out.rd H_x0.out.nodup (by omega)).mono ?_
    rintro e w18 ⟨rfl, hrd, hc⟩
    have hnew := Own.mk hrd H_x0.out.nodup (H_x0.out.ivl)
    have hq := H_x0.out.ivl
    have hsw18 : w17.heap.size ≤ w18.heap.size := hc.size
    clear cx_aY zx_aY
    replace HX_aY := Lib.hid (HX_aY.out.chg hc hq (by omega))
    clear cx_aS zx_aS
    replace HX_aS := Lib.hid (HX_aS.out.chg hc hq (by omega))
    clear cx_w0 zx_w0
    replace HX_w0 := Lib.hid (HX_w0.out.chg hc hq (by omega))
    clear cx_w1 zx_w1
    replace HX_w1 := Lib.hid (HX_w1.out.chg hc hq (by omega))
    clear cx_x0 zx_x0
    replace HX_x0 := Lib.hid (HX_x0.out.chg hc hq (by omega))
    clear cx_x1 zx_x1
    replace HX_x1 := Lib.hid (HX_x1.out.chg hc hq (by omega))
    clear cx_g0 zx_g0
    replace HX_g0 := Lib.hid (HX_g0.out.chg hc hq (by omega))
    clear cx_g1 zx_g1
    replace HX_g1 := Lib.hid (HX_g1.out.chg hc hq (by omega))
    have ⟨cx_aY, zx_aY⟩ := HX_aY.out
    have ⟨cx_aS, zx_aS⟩ := HX_aS.out
    have ⟨cx_w0, zx_w0⟩ := HX_w0.out
    have ⟨cx_w1, zx_w1⟩ := HX_w1.out
    have ⟨cx_x0, zx_x0⟩ := HX_x0.out
    have ⟨cx_x1, zx_x1⟩ := HX_x1.out
    have ⟨cx_g0, zx_g0⟩ := HX_g0.out
    have ⟨cx_g1, zx_g1⟩ := HX_g1.out
    replace HA0 := Lib.hid (HA0.out.chg hc hq (by omega))
    replace HA1 := Lib.hid (HA1.out.chg hc hq (by omega))
    replace H_w0 := Lib.hid (H_w0.out.chg hc (Own.apart H_w0.out H_x0.out (by omega)))
    replace H_w1 := Lib.hid (H_w1.out.chg hc (Own.apart H_w1.out H_x0.out (by omega)))
    replace H_x1 := Lib.hid (H_x1.out.chg hc (Own.apart H_x1.out H_x0.out (by omega)))
    replace H_g0 := Lib.hid (H_g0.out.chg hc (Own.apart H_g0.out H_x0.out (by omega)))
    replace H_g1 := Lib.hid (H_g1.out.chg hc (Own.apart H_g1.out H_x0.out (by omega)))
    replace HB := Lib.hid (Below.chg HB.out hc hq (by omega) HB.out.size)
    clear hq
    replace H_x0 := Lib.hid hnew; clear hnew hrd hc
    go_wp2_with fail
    have hk_x1 := (hm_x1 a1 (by first | omega | exact hv_aS))
    refine (markServer _ a1 fp_x1 (1 + (a0).mcnt) _ H_x1.out.rd H_x1.out.nodup (by omega)).mono ?_
    rintro e w19 ⟨rfl, hrd, hc⟩
    have hnew := Own.mk hrd H_x1.out.nodup (H_x1.out.ivl)
    have hq := H_x1.out.ivl
    have hsw19 : w18.heap.size ≤ w19.heap.size := hc.size
    clear cx_aY zx_aY
    replace HX_aY := Lib.hid (HX_aY.out.chg hc hq (by omega))
    clear cx_aS zx_aS
    replace HX_aS := Lib.hid (HX_aS.out.chg hc hq (by omega))
    clear cx_w0 zx_w0
    replace HX_w0 := Lib.hid (HX_w0.out.chg hc hq (by omega))
    clear cx_w1 zx_w1
    replace HX_w1 := Lib.hid (HX_w1.out.chg hc hq (by omega))
    clear cx_x0 zx_x0
    replace HX_x0 := Lib.hid (HX_x0.out.chg hc hq (by omega))
    clear cx_x1 zx_x1
    replace HX_x1 := Lib.hid (HX_x1.out.chg hc hq (by omega))
    clear cx_g0 zx_g0
    replace HX_g0 := Lib.hid (HX_g0.out.chg hc hq (by omega))
    clear cx_g1 zx_g1
    replace HX_g1 := Lib.hid (HX_g1.out.chg hc hq (by omega))
    have ⟨cx_aY, zx_aY⟩ := HX_aY.out
    have ⟨cx_aS, zx_aS⟩ := HX_aS.out
    have ⟨cx_w0, zx_w0⟩ := HX_w0.out
    have ⟨cx_w1, zx_w1⟩ := HX_w1.out
    have ⟨cx_x0, zx_x0⟩ := HX_x0.out
    have ⟨cx_x1, zx_x1⟩ := HX_x1.out
    have ⟨cx_g0, zx_g0⟩ := HX_g0.out
    have ⟨cx_g1, zx_g1⟩ := HX_g1.out
    replace HA0 := Lib.hid (HA0.out.chg hc hq (by omega))
    replace HA1 := Lib.hid (HA1.out.chg hc hq (by omega))
    replace H_w0 := Lib.hid (H_w0.out.chg hc (Own.apart H_w0.out H_x1.out (by omega)))
    replace H_w1 := Lib.hid (H_w1.out.chg hc (Own.apart H_w1.out H_x1.out (by omega)))
    replace H_x0 := Lib.hid (H_x0.out.chg hc (Own.apart H_x0.out H_x1.out (by omega)))
    replace H_g0 := Lib.hid (H_g0.out.chg hc (Own.apart H_g0.out H_x1.out (by omega)))
    replace H_g1 := Lib.hid (H_g1.out.chg hc (Own.apart H_g1.out H_x1.out (by omega)))
    replace HB := Lib.hid (Below.chg HB.out hc hq (by omega) HB.out.size)
    clear hq
    replace H_x1 := Lib.hid hnew; clear hnew hrd hc
    go_wp2_with fail
    refine (eqSync _ _ (f0 a0 a1 a2) _ (H_g0.out.reads.below (by repeat (first | with_reducible exact belR | with_reducible apply belA | (with_reducible refine belS ?_ ?_; focus (first | omega | (simp; done) | (simp; omega))) | with_reducible apply belN | with_reducible apply belD | with_reducible assumption))) (H_w0.out.reads.below (by repeat (first | with_reducible exact belR | with_reducible apply belA | (with_reducible refine belS ?_ ?_; focus (first | omega | (simp; done) | (simp; omega))) | with_reducible apply belN | with_reducible apply belD | with_reducible assumption)))).mono ?_
    rintro e w20 ⟨rfl, hb⟩
    have hw : Below w19.heap.size w19 w20 := below_call (by repeat (first | with_reducible exact belR | with_reducible apply belA | (with_reducible refine belS ?_ ?_; focus (first | omega | (simp; done) | (simp; omega))) | with_reducible apply belN | with_reducible apply belD | with_reducible assumption)) (by first | omega | (simp; done) | (simp; omega)) hb
    have hsw20 : w19.heap.size ≤ w20.heap.size := by have y := hb.size; (try simp at y); omega
    clear cx_aY zx_aY
    replace HX_aY := Lib.hid (HX_aY.out.below hw)
    clear cx_aS zx_aS
    replace HX_aS := Lib.hid (HX_aS.out.below hw)
    clear cx_w0 zx_w0
    replace HX_w0 := Lib.hid (HX_w0.out.below hw)
    clear cx_w1 zx_w1
    replace HX_w1 := Lib.hid (HX_w1.out.below hw)
    clear cx_x0 zx_x0
    replace HX_x0 := Lib.hid (HX_x0.out.below hw)
    clear cx_x1 zx_x1
    replace HX_x1 := Lib.hid (HX_x1.out.below hw)
    clear cx_g0 zx_g0
    replace HX_g0 := Lib.hid (HX_g0.out.below hw)
    clear cx_g1 zx_g1
    replace HX_g1 := Lib.hid (HX_g1.out.below hw)
    have ⟨cx_aY, zx_aY⟩ := HX_aY.out
    have ⟨cx_aS, zx_aS⟩ := HX_aS.out
    have ⟨cx_w0, zx_w0⟩ := HX_w0.out
    have ⟨cx_w1, zx_w1⟩ := HX_w1.out
    have ⟨cx_x0, zx_x0⟩ := HX_x0.out
    have ⟨cx_x1, zx_x1⟩ := HX_x1.out
    have ⟨cx_g0, zx_g0⟩ := HX_g0.out
    have ⟨cx_g1, zx_g1⟩ := HX_g1.out
    replace HA0 := Lib.hid (HA0.out.below hw)
    replace HA1 := Lib.hid (HA1.out.below hw)
    replace H_w0 := Lib.hid (H_w0.out.below hw)
    replace H_w1 := Lib.hid (H_w1.out.below hw)
    replace H_x0 := Lib.hid (H_x0.out.below hw)
    replace H_x1 := Lib.hid (H_x1.out.below hw)
    replace H_g0 := Lib.hid (H_g0.out.below hw)
    replace H_g1 := Lib.hid (H_g1.out.below hw)
    replace HB := Lib.hid (below_call HB.out HB.out.size hw)
    clear hw
    clear hb
    go_wp2_with fail
    refine (eqServer _ _ (f1 a0 a1 a2) _ (H_g1.out.reads.below (by repeat (first | with_reducible exact belR | with_reducible apply belA | (with_reducible refine belS ?_ ?_; focus (first | omega | (simp; done) | (simp; omega))) | with_reducible apply belN | with_reducible apply belD | with_reducible assumption))) (H_w1.out.reads.below (by repeat (first | with_reducible exact belR | with_reducible apply belA | (with_reducible refine belS ?_ ?_; focus (first | omega | (simp; done) | (simp; omega))) | with_reducible apply belN | with_reducible apply belD | with_reducible assumption)))).mono ?_
    rintro e w21 ⟨rfl, hb⟩
    have hw : Below w20.heap.size w20 w21 := below_call (by repeat (first | with_reducible exact belR | with_reducible apply belA | (with_reducible refine belS ?_ ?_; focus (first | omega | (simp; done) | (simp; omega))) | with_reducible apply belN | with_reducible apply belD | with_reducible assumption)) (by first | omega | (simp; done) | (simp; omega)) hb
    have hsw21 : w20.heap.size ≤ w21.heap.size := by have y := hb.size; (try simp at y); omega
    clear cx_aY zx_aY
    replace HX_aY := Lib.hid (HX_aY.out.below hw)
    clear cx_aS zx_aS
    replace HX_aS := Lib.hid (HX_aS.out.below hw)
    clear cx_w0 zx_w0
    replace HX_w0 := Lib.hid (HX_w0.out.below hw)
    clear cx_w1 zx_w1
    replace HX_w1 := Lib.hid (HX_w1.out.below hw)
    clear cx_x0 zx_x0
    replace HX_x0 := Lib.hid (HX_x0.out.below hw)
    clear cx_x1 zx_x1
    replace HX_x1 := Lib.hid (HX_x1.out.below hw)
    clear cx_g0 zx_g0
    replace HX_g0 := Lib.hid (HX_g0.out.below hw)
    clear cx_g1 zx_g1
    replace HX_g1 := Lib.hid (HX_g1.out.below hw)
    have ⟨cx_aY, zx_aY⟩ := HX_aY.out
    have ⟨cx_aS, zx_aS⟩ := HX_aS.out
    have ⟨cx_w0, zx_w0⟩ := HX_w0.out
    have ⟨cx_w1, zx_w1⟩ := HX_w1.out
    have ⟨cx_x0, zx_x0⟩ := HX_x0.out
    have ⟨cx_x1, zx_x1⟩ := HX_x1.out
    have ⟨cx_g0, zx_g0⟩ := HX_g0.out
    have ⟨cx_g1, zx_g1⟩ := HX_g1.out
    replace HA0 := Lib.hid (HA0.out.below hw)
    replace HA1 := Lib.hid (HA1.out.below hw)
    replace H_w0 := Lib.hid (H_w0.out.below hw)
    replace H_w1 := Lib.hid (H_w1.out.below hw)
    replace H_x0 := Lib.hid (H_x0.out.below hw)
    replace H_x1 := Lib.hid (H_x1.out.below hw)
    replace H_g0 := Lib.hid (H_g0.out.below hw)
    replace H_g1 := Lib.hid (H_g1.out.below hw)
    replace HB := Lib.hid (below_call HB.out HB.out.size hw)
    clear hw
    clear hb
    go_wp2_with fail
    have hk_g0 := (hm_g0 a0 a1 a2 (by first | omega | exact hv_aY) (by first | omega | exact hv_aS) ht0)
    refine (markSync _ (f0 a0 a1 a2) fp_g0 (1) _ H_g0.out.rd H_g0.out.nodup (by omega)).mono ?_
    rintro e w22 ⟨rfl, hrd, hc⟩
    have hnew := Own.mk hrd H_g0.out.nodup (H_g0.out.ivl)
    have hq := H_g0.out.ivl
    have hsw22 : w21.heap.size ≤ w22.heap.size := hc.size
    clear cx_aY zx_aY
    replace HX_aY := Lib.hid (HX_aY.out.chg hc hq (by omega))
    clear cx_aS zx_aS
    replace HX_aS := Lib.hid (HX_aS.out.chg hc hq (by omega))
    clear cx_w0 zx_w0
    replace HX_w0 := Lib.hid (HX_w0.out.chg hc hq (by omega))
    clear cx_w1 zx_w1
    replace HX_w1 := Lib.hid (HX_w1.out.chg hc hq (by omega))
    clear cx_x0 zx_x0
    replace HX_x0 := Lib.hid (HX_x0.out.chg hc hq (by omega))
    clear cx_x1 zx_x1
    replace HX_x1 := Lib.hid (HX_x1.out.chg hc hq (by omega))
    clear cx_g0 zx_g0
    replace HX_g0 := Lib.hid (HX_g0.out.chg hc hq (by omega))
    clear cx_g1 zx_g1
    replace HX_g1 := Lib.hid (HX_g1.out.chg hc hq (by omega))
    have ⟨cx_aY, zx_aY⟩ := HX_aY.out
    have ⟨cx_aS, zx_aS⟩ := HX_aS.out
    have ⟨cx_w0, zx_w0⟩ := HX_w0.out
    have ⟨cx_w1, zx_w1⟩ := HX_w1.out
    have ⟨cx_x0, zx_x0⟩ := HX_x0.out
    have ⟨cx_x1, zx_x1⟩ := HX_x1.out
    have ⟨cx_g0, zx_g0⟩ := HX_g0.out
    have ⟨cx_g1, zx_g1⟩ := HX_g1.out
    replace HA0 := Lib.hid (HA0.out.chg hc hq (by omega))
    replace HA1 := Lib.hid (HA1.out.chg hc hq (by omega))
    replace H_w0 := Lib.hid (H_w0.out.chg hc (Own.apart H_w0.out H_g0.out (by omega)))
    replace H_w1 := Lib.hid (H_w1.out.chg hc (Own.apart H_w1.out H_g0.out (by omega)))
    replace H_x0 := Lib.hid (H_x0.out.chg hc (Own.apart H_x0.out H_g0.out (by omega)))
    replace H_x1 := Lib.hid (H_x1.out.chg hc (Own.apart H_x1.out H_g0.out (by omega)))
    replace H_g1 := Lib.hid (H_g1.out.chg hc (fun b hb hb' => HD_g0_g1 b hb' hb))
    replace HB := Lib.hid (Below.chg HB.out hc hq (by omega) HB.out.size)
    clear hq
    replace H_g0 := Lib.hid hnew; clear hnew hrd hc
    go_wp2_with fail
    have hk_g1 := (hm_g1 a0 a1 a2 (by first | omega | exact hv_aY) (by first | omega | exact hv_aS) ht0)
    refine (markServer _ (f1 a0 a1 a2) fp_g1 (1 + ((f0 a0 a1 a2)).mcnt) _ H_g1.out.rd H_g1.out.nodup (by omega)).mono ?_
    rintro e w23 ⟨rfl, hrd, hc⟩
    have hnew := Own.mk hrd H_g1.out.nodup (H_g1.out.ivl)
    have hq := H_g1.out.ivl
    have hsw23 : w22.heap.size ≤ w23.heap.size := hc.size
    clear cx_aY zx_aY
    replace HX_aY := Lib.hid (HX_aY.out.chg hc hq (by omega))
    clear cx_aS zx_aS
    replace HX_aS := Lib.hid (HX_aS.out.chg hc hq (by omega))
    clear cx_w0 zx_w0
    replace HX_w0 := Lib.hid (HX_w0.out.chg hc hq (by omega))
    clear cx_w1 zx_w1
    replace HX_w1 := Lib.hid (HX_w1.out.chg hc hq (by omega))
    clear cx_x0 zx_x0
    replace HX_x0 := Lib.hid (HX_x0.out.chg hc hq (by omega))
    clear cx_x1 zx_x1
    replace HX_x1 := Lib.hid (HX_x1.out.chg hc hq (by omega))
    clear cx_g0 zx_g0
    replace HX_g0 := Lib.hid (HX_g0.out.chg hc hq (by omega))
    clear cx_g1 zx_g1
    replace HX_g1 := Lib.hid (HX_g1.out.chg hc hq (by omega))
    have ⟨cx_aY, zx_aY⟩ := HX_aY.out
    have ⟨cx_aS, zx_aS⟩ := HX_aS.out
    have ⟨cx_w0, zx_w0⟩ := HX_w0.out
    have ⟨cx_w1, zx_w1⟩ := HX_w1.out
    have ⟨cx_x0, zx_x0⟩ := HX_x0.out
    have ⟨cx_x1, zx_x1⟩ := HX_x1.out
    have ⟨cx_g0, zx_g0⟩ := HX_g0.out
    have ⟨cx_g1, zx_g1⟩ := HX_g1.out
    replace HA0 := Lib.hid (HA0.out.chg hc hq (by omega))
    replace HA1 := Lib.hid (HA1.out.chg hc hq (by omega))
    replace H_w0 := Lib.hid (H_w0.out.chg hc (Own.apart H_w0.out H_g1.out (by omega)))
    replace H_w1 := Lib.hid (H_w1.out.chg hc (Own.apart H_w1.out H_g1.out (by omega)))
    replace H_x0 := Lib.hid (H_x0.out.chg hc (Own.apart H_x0.out H_g1.out (by omega)))
    replace H_x1 := Lib.hid (H_x1.out.chg hc (Own.apart H_x1.out H_g1.out (by omega)))
    replace H_g0 := Lib.hid (H_g0.out.chg hc HD_g0_g1)
    replace HB := Lib.hid (Below.chg HB.out hc hq (by omega) HB.out.size)
    clear hq
    replace H_g1 := Lib.hid hnew; clear hnew hrd hc
    go_wp2_with fail
    refine (heldSync _ (f0 a0 a1 a2) (1) _ (H_g0.out.reads.below (by repeat (first | with_reducible exact belR | with_reducible apply belA | (with_reducible refine belS ?_ ?_; focus (first | omega | (simp; done) | (simp; omega))) | with_reducible apply belN | with_reducible apply belD | with_reducible assumption))) (by omega)).mono ?_
    rintro e w24 ⟨rfl, hb⟩
    have hw : Below w23.heap.size w23 w24 := below_call (by repeat (first | with_reducible exact belR | with_reducible apply belA | (with_reducible refine belS ?_ ?_; focus (first | omega | (simp; done) | (simp; omega))) | with_reducible apply belN | with_reducible apply belD | with_reducible assumption)) (by first | omega | (simp; done) | (simp; omega)) hb
    have hsw24 : w23.heap.size ≤ w24.heap.size := by have y := hb.size; (try simp at y); omega
    clear cx_aY zx_aY
    replace HX_aY := Lib.hid (HX_aY.out.below hw)
    clear cx_aS zx_aS
    replace HX_aS := Lib.hid (HX_aS.out.below hw)
    clear cx_w0 zx_w0
    replace HX_w0 := Lib.hid (HX_w0.out.below hw)
    clear cx_w1 zx_w1
    replace HX_w1 := Lib.hid (HX_w1.out.below hw)
    clear cx_x0 zx_x0
    replace HX_x0 := Lib.hid (HX_x0.out.below hw)
    clear cx_x1 zx_x1
    replace HX_x1 := Lib.hid (HX_x1.out.below hw)
    clear cx_g0 zx_g0
    replace HX_g0 := Lib.hid (HX_g0.out.below hw)
    clear cx_g1 zx_g1
    replace HX_g1 := Lib.hid (HX_g1.out.below hw)
    have ⟨cx_aY, zx_aY⟩ := HX_aY.out
    have ⟨cx_aS, zx_aS⟩ := HX_aS.out
    have ⟨cx_w0, zx_w0⟩ := HX_w0.out
    have ⟨cx_w1, zx_w1⟩ := HX_w1.out
    have ⟨cx_x0, zx_x0⟩ := HX_x0.out
    have ⟨cx_x1, zx_x1⟩ := HX_x1.out
    have ⟨cx_g0, zx_g0⟩ := HX_g0.out
    have ⟨cx_g1, zx_g1⟩ := HX_g1.out
    replace HA0 := Lib.hid (HA0.out.below hw)
    replace HA1 := Lib.hid (HA1.out.below hw)
    replace H_w0 := Lib.hid (H_w0.out.below hw)
    replace H_w1 := Lib.hid (H_w1.out.below hw)
    replace H_x0 := Lib.hid (H_x0.out.below hw)
    replace H_x1 := Lib.hid (H_x1.out.below hw)
    replace H_g0 := Lib.hid (H_g0.out.below hw)
    replace H_g1 := Lib.hid (H_g1.out.below hw)
    replace HB := Lib.hid (below_call HB.out HB.out.size hw)
    clear hw
    clear hb
    go_wp2_with fail
    refine (heldServer _ (f1 a0 a1 a2) (1 + ((f0 a0 a1 a2)).mcnt) _ (H_g1.out.reads.below (by repeat (first | with_reducible exact belR | with_reducible apply belA | (with_reducible refine belS ?_ ?_; focus (first | omega | (simp; done) | (simp; omega))) | with_reducible apply belN | with_reducible apply belD | with_reducible assumption))) (by omega)).mono ?_
    rintro e w25 ⟨rfl, hb⟩
    have hw : Below w24.heap.size w24 w25 := below_call (by repeat (first | with_reducible exact belR | with_reducible apply belA | (with_reducible refine belS ?_ ?_; focus (first | omega | (simp; done) | (simp; omega))) | with_reducible apply belN | with_reducible apply belD | with_reducible assumption)) (by first | omega | (simp; done) | (simp; omega)) hb
    have hsw25 : w24.heap.size ≤ w25.heap.size := by have y := hb.size; (try simp at y); omega
    clear cx_aY zx_aY
    replace HX_aY := Lib.hid (HX_aY.out.below hw)
    clear cx_aS zx_aS
    replace HX_aS := Lib.hid (HX_aS.out.below hw)
    clear cx_w0 zx_w0
    replace HX_w0 := Lib.hid (HX_w0.out.below hw)
    clear cx_w1 zx_w1
    replace HX_w1 := Lib.hid (HX_w1.out.below hw)
    clear cx_x0 zx_x0
    replace HX_x0 := Lib.hid (HX_x0.out.below hw)
    clear cx_x1 zx_x1
    replace HX_x1 := Lib.hid (HX_x1.out.below hw)
    clear cx_g0 zx_g0
    replace HX_g0 := Lib.hid (HX_g0.out.below hw)
    clear cx_g1 zx_g1
    replace HX_g1 := Lib.hid (HX_g1.out.below hw)
    have ⟨cx_aY, zx_aY⟩ := HX_aY.out
    have ⟨cx_aS, zx_aS⟩ := HX_aS.out
    have ⟨cx_w0, zx_w0⟩ := HX_w0.out
    have ⟨cx_w1, zx_w1⟩ := HX_w1.out
    have ⟨cx_x0, zx_x0⟩ := HX_x0.out
    have ⟨cx_x1, zx_x1⟩ := HX_x1.out
    have ⟨cx_g0, zx_g0⟩ := HX_g0.out
    have ⟨cx_g1, zx_g1⟩ := HX_g1.out
    replace HA0 := Lib.hid (HA0.out.below hw)
    replace HA1 := Lib.hid (HA1.out.below hw)
    replace H_w0 := Lib.hid (H_w0.out.below hw)
    replace H_w1 := Lib.hid (H_w1.out.below hw)
    replace H_x0 := Lib.hid (H_x0.out.below hw)
    replace H_x1 := Lib.hid (H_x1.out.below hw)
    replace H_g0 := Lib.hid (H_g0.out.below hw)
    replace H_g1 := Lib.hid (H_g1.out.below hw)
    replace HB := Lib.hid (below_call HB.out HB.out.size hw)
    clear hw
    clear hb
    go_upto_region 35 with fail
    refine settle (fun W' => Below w25.heap.size w25 W' ∧ w25.heap.size ≤ W'.heap.size) ⟨(by repeat (first | with_reducible exact belR | with_reducible apply belA | (with_reducible refine belS ?_ ?_; focus (first | omega | (simp; done) | (simp; omega))) | with_reducible apply belN | with_reducible apply belD | with_reducible assumption)), (by first | omega | (simp; done) | (simp; omega))⟩ ?_
    rintro w26 ⟨hw, hsw26⟩
    clear cx_aY zx_aY
    replace HX_aY := Lib.hid (HX_aY.out.below hw)
    clear cx_aS zx_aS
    replace HX_aS := Lib.hid (HX_aS.out.below hw)
    clear cx_w0 zx_w0
    replace HX_w0 := Lib.hid (HX_w0.out.below hw)
    clear cx_w1 zx_w1
    replace HX_w1 := Lib.hid (HX_w1.out.below hw)
    clear cx_x0 zx_x0
    replace HX_x0 := Lib.hid (HX_x0.out.below hw)
    clear cx_x1 zx_x1
    replace HX_x1 := Lib.hid (HX_x1.out.below hw)
    clear cx_g0 zx_g0
    replace HX_g0 := Lib.hid (HX_g0.out.below hw)
    clear cx_g1 zx_g1
    replace HX_g1 := Lib.hid (HX_g1.out.below hw)
    have ⟨cx_aY, zx_aY⟩ := HX_aY.out
    have ⟨cx_aS, zx_aS⟩ := HX_aS.out
    have ⟨cx_w0, zx_w0⟩ := HX_w0.out
    have ⟨cx_w1, zx_w1⟩ := HX_w1.out
    have ⟨cx_x0, zx_x0⟩ := HX_x0.out
    have ⟨cx_x1, zx_x1⟩ := HX_x1.out
    have ⟨cx_g0, zx_g0⟩ := HX_g0.out
    have ⟨cx_g1, zx_g1⟩ := HX_g1.out
    replace HA0 := Lib.hid (HA0.out.below hw)
    replace HA1 := Lib.hid (HA1.out.below hw)
    replace H_w0 := Lib.hid (H_w0.out.below hw)
    replace H_w1 := Lib.hid (H_w1.out.below hw)
    replace H_x0 := Lib.hid (H_x0.out.below hw)
    replace H_x1 := Lib.hid (H_x1.out.below hw)
    replace H_g0 := Lib.hid (H_g0.out.below hw)
    replace H_g1 := Lib.hid (H_g1.out.below hw)
    replace HB := Lib.hid (below_call HB.out HB.out.size hw)
    clear hw
    go_cut [17, 18] (fun p_h0 p_h1 wx => ∃ (kb_h0 : Nat) (kb_h1 : Nat) (ao_h0_0 : Option Addr) (cap_h0_0 : Nat) (ao_h1_0 : Option Addr) (cap_h1_0 : Nat) (ao_h1_1 : Option Addr) (cap_h1_1 : Nat) (ao_h1_2 : Option Addr) (cap_h1_2 : Nat), p_h0 = .pointer (some ⟨kb_h0, 0, none⟩) ∧ p_h1 = .pointer (some ⟨kb_h1, 0, none⟩) ∧ Two DSync.rep DServer.rep w26 wx kb_h0 kb_h1 [.int .i64 ((f0 a0 a1 a2)).outbox.device, .int .i64 ((f0 a0 a1 a2)).outbox.next, .slice ao_h0_0 ((f0 a0 a1 a2)).outbox.writes.length cap_h0_0, .int .i64 ((f0 a0 a1 a2)).tries, .int .i64 ((f0 a0 a1 a2)).waitUntil] [.string ((f1 a0 a1 a2)).store.name, .slice ao_h1_0 ((f1 a0 a1 a2)).store.items.length cap_h1_0, .int .i64 ((f1 a0 a1 a2)).store.auto, .slice ao_h1_1 ((f1 a0 a1 a2)).applied.length cap_h1_1, .slice ao_h1_2 ((f1 a0 a1 a2)).changes.length cap_h1_2] (f0 a0 a1 a2) (f1 a0 a1 a2))
    case first =>
      have HSr : Hid (∀ w', Below w26.heap.size w26 w' → (∀ o, w'.cell? ⟨w.heap.size, o, none⟩ = #[.int .i64 a0.outbox.device, .int .i64 a0.outbox.next, .slice ao0_0 a0.outbox.writes.length cap0_0, .int .i64 a0.tries, .int .i64 a0.waitUntil][o]?) ∧ (∀ o, w'.cell? ⟨w.heap.size + 1, o, none⟩ = #[.string a1.store.name, .slice ao1_0 a1.store.items.length cap1_0, .int .i64 a1.store.auto, .slice ao1_1 a1.applied.length cap1_1, .slice ao1_2 a1.changes.length cap1_2][o]?) ∧ Below w26.heap.size w26 w') := Lib.hid fun w' hw' => ⟨fun o => (hw'.cell (p := ⟨w.heap.size, o, none⟩) zx_aY).trans (cx_aY o), fun o => (hw'.cell (p := ⟨w.heap.size + 1, o, none⟩) zx_aS).trans (cx_aS o), hw'⟩
      go_region_held3 (fun w' => (∀ o, w'.cell? ⟨w.heap.size, o, none⟩ = #[.int .i64 a0.outbox.device, .int .i64 a0.outbox.next, .slice ao0_0 a0.outbox.writes.length cap0_0, .int .i64 a0.tries, .int .i64 a0.waitUntil][o]?) ∧ (∀ o, w'.cell? ⟨w.heap.size + 1, o, none⟩ = #[.string a1.store.name, .slice ao1_0 a1.store.items.length cap1_0, .int .i64 a1.store.auto, .slice ao1_1 a1.applied.length cap1_1, .slice ao1_2 a1.changes.length cap1_2][o]?) ∧ Below w26.heap.size w26 w')
        (first | exact HSr.out _ (by repeat (first | with_reducible exact belR | (with_reducible refine belAB ?_ ?_; focus (first | omega | (simp; done) | (simp; omega))) | (with_reducible refine belS ?_ ?_; focus (first | omega | (simp; done) | (simp; omega))) | with_reducible apply belN | with_reducible apply belD | with_reducible assumption)))
        (first | (go_at_call 19; have hx := hq_h0_aS; clear hx; have hS_F29 := ‹_ ∧ _ ∧ Below w26.heap.size w26 _›; refine (hI _ a0 _ a1 a2 _ (hr_h0_aY.below (by repeat (first | with_reducible exact belR | with_reducible apply belA | (with_reducible refine belS ?_ ?_; focus (first | omega | (simp; done) | (simp; omega))) | with_reducible apply belN | with_reducible apply belD | with_reducible assumption))) (hr_h0_aS.below (by repeat (first | with_reducible exact belR | with_reducible apply belA | (with_reducible refine belS ?_ ?_; focus (first | omega | (simp; done) | (simp; omega))) | with_reducible apply belN | with_reducible apply belD | with_reducible assumption))) (by first | omega | exact hv_aY) (by first | omega | exact hv_aS) (by first | omega | exact ht0)).mono ?_; rintro e w29 ⟨d_h_0, d_h_1, rfl, hf0, hb_F29⟩; have hq_F29 : Below w26.heap.size w26 w29 := below_call hS_F29.2.2 hS_F29.2.2.size hb_F29; clear hS_F29; have hz_F29 := hq_F29.size; (first | (have hq := hwb_h0_h0_aS; clear hq; have hwb_h0_F29 : WB w29 _ #[.int .i64 0, .int .i64 0, .slice none 0 0, .int .i64 0, .int .i64 0] := (by with_reducible exact WB.keep hwb_h0_h0_aS hb_F29); have ⟨we_h0_F29, wl_h0_F29, wf_h0_F29⟩ := hwb_h0_F29) | (have hq := hwb_h0_h0_aS; clear hq; have hwb_h0_F29 : WB w29 _ #[.int .i64 0, .int .i64 0, .slice none 0 0, .int .i64 0, .int .i64 0] := (by with_reducible exact WB.keep (WB.growA hwb_h0_h0_aS) hb_F29); have ⟨we_h0_F29, wl_h0_F29, wf_h0_F29⟩ := hwb_h0_F29) | (have hwb_h0_F29 : WB w29 w28.heap.size #[.int .i64 0, .int .i64 0, .slice none 0 0, .int .i64 0, .int .i64 0] := (by with_reducible exact WB.keep (WB.at (Eq.refl _)) hb_F29); have ⟨we_h0_F29, wl_h0_F29, wf_h0_F29⟩ := hwb_h0_F29) | (have hwb_h0_F29 : WB w29 w28.heap.size #[.int .i64 0, .int .i64 0, .slice none 0 0, .int .i64 0, .int .i64 0] := (by with_reducible exact WB.keep (WB.growA (WB.at (Eq.refl _))) hb_F29); have ⟨we_h0_F29, wl_h0_F29, wf_h0_F29⟩ := hwb_h0_F29) | (have hwb_h0_F29 : WB w29 (w28.heap.size + 1) #[.int .i64 0, .int .i64 0, .slice none 0 0, .int .i64 0, .int .i64 0] := (by with_reducible exact WB.keep (WB.at (World.size_alloc _ _).symm) hb_F29); have ⟨we_h0_F29, wl_h0_F29, wf_h0_F29⟩ := hwb_h0_F29) | skip); (first | (have hq := hwb_h1_h0_aS; clear hq; have hwb_h1_F29 : WB w29 _ #[.string ⟨#[]⟩, .slice none 0 0, .int .i64 0, .slice none 0 0, .slice none 0 0] := (by with_reducible exact WB.keep hwb_h1_h0_aS hb_F29); have ⟨we_h1_F29, wl_h1_F29, wf_h1_F29⟩ := hwb_h1_F29) | (have hq := hwb_h1_h0_aS; clear hq; have hwb_h1_F29 : WB w29 _ #[.string ⟨#[]⟩, .slice none 0 0, .int .i64 0, .slice none 0 0, .slice none 0 0] := (by with_reducible exact WB.keep (WB.growA hwb_h1_h0_aS) hb_F29); have ⟨we_h1_F29, wl_h1_F29, wf_h1_F29⟩ := hwb_h1_F29) | (have hwb_h1_F29 : WB w29 w28.heap.size #[.string ⟨#[]⟩, .slice none 0 0, .int .i64 0, .slice none 0 0, .slice none 0 0] := (by with_reducible exact WB.keep (WB.at (Eq.refl _)) hb_F29); have ⟨we_h1_F29, wl_h1_F29, wf_h1_F29⟩ := hwb_h1_F29) | (have hwb_h1_F29 : WB w29 w28.heap.size #[.string ⟨#[]⟩, .slice none 0 0, .int .i64 0, .slice none 0 0, .slice none 0 0] := (by with_reducible exact WB.keep (WB.growA (WB.at (Eq.refl _))) hb_F29); have ⟨we_h1_F29, wl_h1_F29, wf_h1_F29⟩ := hwb_h1_F29) | (have hwb_h1_F29 : WB w29 (w28.heap.size + 1) #[.string ⟨#[]⟩, .slice none 0 0, .int .i64 0, .slice none 0 0, .slice none 0 0] := (by with_reducible exact WB.keep (WB.at (World.size_alloc _ _).symm) hb_F29); have ⟨we_h1_F29, wl_h1_F29, wf_h1_F29⟩ := hwb_h1_F29) | skip); have hp0 := hf0.left; have hp1 := hf0.right; obtain ⟨ao_h0_0, cap_h0_0, rfl⟩ := DSync.fshape hp0; obtain ⟨ao_h1_0, cap_h1_0, ao_h1_1, cap_h1_1, ao_h1_2, cap_h1_2, rfl⟩ := DServer.fshape hp1) | (go_at_call 10; have hx := hq_h0_aY; clear hx; have hS_h0_aS := ‹_ ∧ _ ∧ Below w26.heap.size w26 _›; refine (toServer _ a1 _ (HA1.out.reads.below hS_h0_aS.2.2) (by first | omega | (simp [DServer.wt]))).mono ?_; rintro e w28 ⟨d_h0_aS, rfl, hf_h0_aS, hb_h0_aS⟩; have hq_h0_aS : Below w26.heap.size w26 w28 := below_call hS_h0_aS.2.2 hS_h0_aS.2.2.size hb_h0_aS; clear hS_h0_aS; have hz_h0_aS := hq_h0_aS.size; (first | (have hq := hwb_h0_h0_aY; clear hq; have hwb_h0_h0_aS : WB w28 _ #[.int .i64 0, .int .i64 0, .slice none 0 0, .int .i64 0, .int .i64 0] := (by with_reducible exact WB.keep hwb_h0_h0_aY hb_h0_aS); have ⟨we_h0_h0_aS, wl_h0_h0_aS, wf_h0_h0_aS⟩ := hwb_h0_h0_aS) | (have hq := hwb_h0_h0_aY; clear hq; have hwb_h0_h0_aS : WB w28 _ #[.int .i64 0, .int .i64 0, .slice none 0 0, .int .i64 0, .int .i64 0] := (by with_reducible exact WB.keep (WB.growA hwb_h0_h0_aY) hb_h0_aS); have ⟨we_h0_h0_aS, wl_h0_h0_aS, wf_h0_h0_aS⟩ := hwb_h0_h0_aS) | (have hwb_h0_h0_aS : WB w28 w27.heap.size #[.int .i64 0, .int .i64 0, .slice none 0 0, .int .i64 0, .int .i64 0] := (by with_reducible exact WB.keep (WB.at (Eq.refl _)) hb_h0_aS); have ⟨we_h0_h0_aS, wl_h0_h0_aS, wf_h0_h0_aS⟩ := hwb_h0_h0_aS) | (have hwb_h0_h0_aS : WB w28 w27.heap.size #[.int .i64 0, .int .i64 0, .slice none 0 0, .int .i64 0, .int .i64 0] := (by with_reducible exact WB.keep (WB.growA (WB.at (Eq.refl _))) hb_h0_aS); have ⟨we_h0_h0_aS, wl_h0_h0_aS, wf_h0_h0_aS⟩ := hwb_h0_h0_aS) | (have hwb_h0_h0_aS : WB w28 (w27.heap.size + 1) #[.int .i64 0, .int .i64 0, .slice none 0 0, .int .i64 0, .int .i64 0] := (by with_reducible exact WB.keep (WB.at (World.size_alloc _ _).symm) hb_h0_aS); have ⟨we_h0_h0_aS, wl_h0_h0_aS, wf_h0_h0_aS⟩ := hwb_h0_h0_aS) | skip); (first | (have hq := hwb_h1_h0_aY; clear hq; have hwb_h1_h0_aS : WB w28 _ #[.string ⟨#[]⟩, .slice none 0 0, .int .i64 0, .slice none 0 0, .slice none 0 0] := (by with_reducible exact WB.keep hwb_h1_h0_aY hb_h0_aS); have ⟨we_h1_h0_aS, wl_h1_h0_aS, wf_h1_h0_aS⟩ := hwb_h1_h0_aS) | (have hq := hwb_h1_h0_aY; clear hq; have hwb_h1_h0_aS : WB w28 _ #[.string ⟨#[]⟩, .slice none 0 0, .int .i64 0, .slice none 0 0, .slice none 0 0] := (by with_reducible exact WB.keep (WB.growA hwb_h1_h0_aY) hb_h0_aS); have ⟨we_h1_h0_aS, wl_h1_h0_aS, wf_h1_h0_aS⟩ := hwb_h1_h0_aS) | (have hwb_h1_h0_aS : WB w28 w27.heap.size #[.string ⟨#[]⟩, .slice none 0 0, .int .i64 0, .slice none 0 0, .slice none 0 0] := (by with_reducible exact WB.keep (WB.at (Eq.refl _)) hb_h0_aS); have ⟨we_h1_h0_aS, wl_h1_h0_aS, wf_h1_h0_aS⟩ := hwb_h1_h0_aS) | (have hwb_h1_h0_aS : WB w28 w27.heap.size #[.string ⟨#[]⟩, .slice none 0 0, .int .i64 0, .slice none 0 0, .slice none 0 0] := (by with_reducible exact WB.keep (WB.growA (WB.at (Eq.refl _))) hb_h0_aS); have ⟨we_h1_h0_aS, wl_h1_h0_aS, wf_h1_h0_aS⟩ := hwb_h1_h0_aS) | (have hwb_h1_h0_aS : WB w28 (w27.heap.size + 1) #[.string ⟨#[]⟩, .slice none 0 0, .int .i64 0, .slice none 0 0, .slice none 0 0] := (by with_reducible exact WB.keep (WB.at (World.size_alloc _ _).symm) hb_h0_aS); have ⟨we_h1_h0_aS, wl_h1_h0_aS, wf_h1_h0_aS⟩ := hwb_h1_h0_aS) | skip); obtain ⟨ao_h0_aS_0, cap_h0_aS_0, ao_h0_aS_1, cap_h0_aS_1, ao_h0_aS_2, cap_h0_aS_2, rfl⟩ := DServer.fshape hf_h0_aS; have hr_h0_aS := hf_h0_aS.reads; replace hr_h0_aY := hr_h0_aY.below (by first | exact hb_h0_aS | exact (belD belR).trans hb_h0_aS | exact below_call (by repeat (first | with_reducible exact belR | with_reducible apply belA | (with_reducible refine belS ?_ ?_; focus (first | omega | (simp; done) | (simp; omega))) | with_reducible apply belN | with_reducible apply belD | with_reducible assumption)) (by first | omega | (simp; done) | (simp; omega)) hb_h0_aS)) | (go_at_call 9; have hS_h0_aY := ‹_ ∧ _ ∧ Below w26.heap.size w26 _›; refine (toSync _ a0 _ (HA0.out.reads.below hS_h0_aY.2.2) (by first | omega | (simp [DSync.wt]))).mono ?_; rintro e w27 ⟨d_h0_aY, rfl, hf_h0_aY, hb_h0_aY⟩; have hq_h0_aY : Below w26.heap.size w26 w27 := below_call hS_h0_aY.2.2 hS_h0_aY.2.2.size hb_h0_aY; clear hS_h0_aY; have hz_h0_aY := hq_h0_aY.size; (first | (have hwb_h0_h0_aY : WB w27 w26.heap.size #[.int .i64 0, .int .i64 0, .slice none 0 0, .int .i64 0, .int .i64 0] := (by with_reducible exact WB.keep (WB.growD (WB.at (Eq.refl _))) hb_h0_aY); have ⟨we_h0_h0_aY, wl_h0_h0_aY, wf_h0_h0_aY⟩ := hwb_h0_h0_aY) | (have hwb_h0_h0_aY : WB w27 w26.heap.size #[.int .i64 0, .int .i64 0, .slice none 0 0, .int .i64 0, .int .i64 0] := (by with_reducible exact WB.keep (WB.growD (WB.growA (WB.at (Eq.refl _)))) hb_h0_aY); have ⟨we_h0_h0_aY, wl_h0_h0_aY, wf_h0_h0_aY⟩ := hwb_h0_h0_aY) | (have hwb_h0_h0_aY : WB w27 (w26.heap.size + 1) #[.int .i64 0, .int .i64 0, .slice none 0 0, .int .i64 0, .int .i64 0] := (by with_reducible exact WB.keep (WB.growD (WB.at (World.size_alloc _ _).symm)) hb_h0_aY); have ⟨we_h0_h0_aY, wl_h0_h0_aY, wf_h0_h0_aY⟩ := hwb_h0_h0_aY) | skip); (first | (have hwb_h1_h0_aY : WB w27 w26.heap.size #[.string ⟨#[]⟩, .slice none 0 0, .int .i64 0, .slice none 0 0, .slice none 0 0] := (by with_reducible exact WB.keep (WB.growD (WB.at (Eq.refl _))) hb_h0_aY); have ⟨we_h1_h0_aY, wl_h1_h0_aY, wf_h1_h0_aY⟩ := hwb_h1_h0_aY) | (have hwb_h1_h0_aY : WB w27 w26.heap.size #[.string ⟨#[]⟩, .slice none 0 0, .int .i64 0, .slice none 0 0, .slice none 0 0] := (by with_reducible exact WB.keep (WB.growD (WB.growA (WB.at (Eq.refl _)))) hb_h0_aY); have ⟨we_h1_h0_aY, wl_h1_h0_aY, wf_h1_h0_aY⟩ := hwb_h1_h0_aY) | (have hwb_h1_h0_aY : WB w27 (w26.heap.size + 1) #[.string ⟨#[]⟩, .slice none 0 0, .int .i64 0, .slice none 0 0, .slice none 0 0] := (by with_reducible exact WB.keep (WB.growD (WB.at (World.size_alloc _ _).symm)) hb_h0_aY); have ⟨we_h1_h0_aY, wl_h1_h0_aY, wf_h1_h0_aY⟩ := hwb_h1_h0_aY) | skip); obtain ⟨ao_h0_aY_0, cap_h0_aY_0, rfl⟩ := DSync.fshape hf_h0_aY; have hr_h0_aY := hf_h0_aY.reads))
      all_goals
        go_wp2_with fail
        go_meet
        obtain ⟨lo0, hlo0, hf9⟩ := Fresh2.base hf0
        (try simp at hlo0)
        first
          | (have hx0 := hwb_h0_F29; clear hx0; have hx1 := hwb_h1_F29; clear hx1; with_reducible exact ⟨_, _, ao_h0_0, cap_h0_0, ao_h1_0, cap_h1_0, ao_h1_1, cap_h1_1, ao_h1_2, cap_h1_2, rfl, rfl, two_w1 hf9 hwb_h0_F29 hwb_h1_F29 (by omega) (by omega) (by omega) (by omega) (by omega) hq_F29⟩)
          | (have hx0 := hwb_h0_F29; clear hx0; have hx1 := hwb_h1_F29; clear hx1; with_reducible exact ⟨_, _, ao_h0_0, cap_h0_0, ao_h1_0, cap_h1_0, ao_h1_1, cap_h1_1, ao_h1_2, cap_h1_2, rfl, rfl, two_w6 hf9 hwb_h0_F29 hwb_h1_F29 (by omega) (by omega) (by omega) (by omega) (by omega) hq_F29⟩)
          | (have hx0 := hwb_h0_F29; clear hx0; with_reducible exact ⟨_, _, ao_h0_0, cap_h0_0, ao_h1_0, cap_h1_0, ao_h1_1, cap_h1_1, ao_h1_2, cap_h1_2, rfl, rfl, two_w2 hf9 hwb_h0_F29 (by with_reducible rfl) (by omega) (by omega) (by omega) hq_F29⟩)
          | (have hx0 := hwb_h1_F29; clear hx0; with_reducible exact ⟨_, _, ao_h0_0, cap_h0_0, ao_h1_0, cap_h1_0, ao_h1_1, cap_h1_1, ao_h1_2, cap_h1_2, rfl, rfl, two_w3 hf9 hwb_h1_F29 (by with_reducible rfl) (by omega) (by omega) (by omega) hq_F29⟩)
          | (with_reducible exact ⟨_, _, ao_h0_0, cap_h0_0, ao_h1_0, cap_h1_0, ao_h1_1, cap_h1_1, ao_h1_2, cap_h1_2, rfl, rfl, two_w4 hf9 (by with_reducible rfl) (by with_reducible rfl) (by omega) hq_F29⟩)
          | (with_reducible exact ⟨_, _, ao_h0_0, cap_h0_0, ao_h1_0, cap_h1_0, ao_h1_1, cap_h1_1, ao_h1_2, cap_h1_2, rfl, rfl, two_w5 hf9 (by with_reducible rfl) (by with_reducible rfl) (by omega) hq_F29⟩)
    obtain ⟨kb_h0, kb_h1, ao_h0_0, cap_h0_0, ao_h1_0, cap_h1_0, ao_h1_1, cap_h1_1, ao_h1_2, cap_h1_2, rfl, rfl, htw⟩ := hcut
    obtain ⟨lo_h0, hi_h0, fp_h0, fp_h1, hbx_h0, hk1_h0, hk2_h0, hbx_h1, hk1_h1, hk2_h1, hl1_h0, hl2_h0, ho_h0, ho_h1, hd_h0, hw⟩ := htw
    rename_i i2_0 i2_1 i2_2 i2_3 i2_4 i2_5 i2_6 i2_7 i2_8 i2_9 i2_10 i2_11 i2_12 i2_13 i2_14 i2_15 i2_16 i2_17 i2_18 i2_19 i2_20 i2_21 i2_22 i2_23 i2_24 i2_25 i2_26 i2_27 i2_28 i2_29 i2_30 i2_31 i2_32 i2_33 i2_34 i2_35 i2_36 i2_37 i2_38 i2_39 i2_40 i2_41 i2_42 i2_43 i2_44 i2_45 i2_46 i2_47 i2_48 i2_49 i2_50 i2_51 i2_52 i2_53 i2_54 i2_55 i2_56 i2_57 i2_58 i2_59 i2_60 i2_61 i2_62 i2_63 i2_64 i2_65 i2_66 i2_67 i2_68 i2_69 i2_70 i2_71 i2_72 i2_73 i2_74 i2_75 i2_76 i2_77 i2_78 i2_79 i2_80 i2_81 i2_82 i2_83 i2_84 i2_85 i2_86 i2_87 i2_88 i2_89 i2_90 i2_91 i2_92 i2_93 i2_94 i2_95 i2_96 i2_97 i2_98 i2_99 i2_100 i2_101 i2_102 i2_103 i2_104 i2_105 i2_106 i2_107 i2_108 i2_109 i2_110 i2_111 i2_112 i2_113 i2_114 i2_115 i2_116 i2_117 i2_118 i2_119 i2_120 i2_121 i2_122 i2_123 i2_124 i2_125 i2_126 i2_127
    revert f0 f1 hS hI hm_g0 hm_g1 hm_x0 hm_x1 a0 a1 a2 w ht0 i1_0 ao0_0 cap0_0 fp ao1_0 cap1_0 ao1_1 cap1_1 ao1_2 cap1_2 i1_1 w1 hsw1 hv_aY i1_2 w2 hsw2 hv_aS i1_3 w3 hsw3 w6 i2_0 i2_1 i2_2 i2_3 i2_4 i2_5 i2_6 i2_7 i2_8 i2_9 i2_10 i2_11 i2_12 i2_13 i2_14 i2_15 i2_16 i2_17 i2_18 i2_19 i2_20 i2_21 i2_22 i2_23 i2_24 i2_25 i2_26 i2_27 i2_28 i2_29 i2_30 i2_31 i2_32 i2_33 i2_34 i2_35 i2_36 i2_37 i2_38 i2_39 i2_40 i2_41 i2_42 i2_43 i2_44 i2_45 i2_46 i2_47 i2_48 i2_49 i2_50 i2_51 i2_52 i2_53 i2_54 i2_55 i2_56 i2_57 i2_58 i2_59 i2_60 i2_61 i2_62 i2_63 i2_64 i2_65 i2_66 i2_67 i2_68 i2_69 i2_70 i2_71 i2_72 i2_73 i2_74 i2_75 i2_76 i2_77 i2_78 i2_79 i2_80 i2_81 i2_82 i2_83 i2_84 i2_85 i2_86 i2_87 i2_88 i2_89 i2_90 i2_91 i2_92 i2_93 i2_94 i2_95 i2_96 i2_97 i2_98 i2_99 i2_100 i2_101 i2_102 i2_103 i2_104 i2_105 i2_106 i2_107 i2_108 i2_109 i2_110 i2_111 i2_112 i2_113 i2_114 i2_115 i2_116 i2_117 i2_118 i2_119 i2_120 kb_w0 kb_w1 ao_w0_0 cap_w0_0 ao_w1_0 cap_w1_0 ao_w1_1 cap_w1_1 ao_w1_2 cap_w1_2 lo_w0 hi_w0 fp_w0 fp_w1 hk1_w0 hk2_w0 hk1_w1 hk2_w1 hl1_w0 hl2_w0 hd_w0 hsw6 hkz_w0 hkz_w1 HD_w0_w1 w7 ao_x0_0 cap_x0_0 fp_x0 hsw7 w8 ao_x1_0 cap_x1_0 ao_x1_1 cap_x1_1 ao_x1_2 cap_x1_2 fp_x1 hsw8 w9 ao_g0_0 cap_g0_0 hp0 ao_g1_0 cap_g1_0 ao_g1_1 cap_g1_1 ao_g1_2 cap_g1_2 hp1 hf0 fp_g0 fp_g1 HD_g0_g1 hsw9 w10 hsw10 w11 hsw11 w12 hsw12 w13 hb_x0_e12 hq_x0_e12 ao_x0_e12_0 cap_x0_e12_0 hf_x0_e12 hr_x0_e12 w14 hb_E14 hq_E14 hsw14 w15 hsw15 w16 hb_x1_e15 hq_x1_e15 ao_x1_e15_0 cap_x1_e15_0 ao_x1_e15_1 cap_x1_e15_1 ao_x1_e15_2 cap_x1_e15_2 hf_x1_e15 hr_x1_e15 w17 hb_E17 hq_E17 i2_121 hsw17 hk_x0 w18 hsw18 hk_x1 w19 hsw19 i2_122 w20 hsw20 w21 hsw21 i2_123 hk_g0 w22 hsw22 hk_g1 w23 hsw23 w24 hsw24 i2_124 w25 hsw25 i2_125 i2_126 i2_127 w26 hsw26 HX_aY HX_aS HX_w0 HX_w1 HX_x0 HX_x1 HX_g0 HX_g1 cx_aY zx_aY cx_aS zx_aS cx_w0 zx_w0 cx_w1 zx_w1 cx_x0 zx_x0 cx_x1 zx_x1 cx_g0 zx_g0 cx_g1 zx_g1 HA0 HA1 H_w0 H_w1 H_x0 H_x1 H_g0 H_g1 HB wc u19 u20 u21 u22 u23 u24 u25 u26 u27 u28 u29 u30 u31 u32 u33 u34 u35 u36 u37 u38 u39 u40 u41 u42 u43 u44 u45 u46 u47 u48 u49 u50 u51 u52 u53 u54 u55 u56 u57 u58 u59 u60 u61 u62 u63 u64 u65 u66 u67 u68 u69 u70 u71 u72 u73 u74 u75 u76 u77 u78 u79 u80 u81 u82 u83 u84 u85 u86 u87 u88 u89 u90 u91 u92 u93 u94 u95 u96 u97 u98 u99 u100 u101 u102 u103 u104 u105 u106 u107 u108 u109 u110 u111 u112 u113 u114 u115 u116 u117 u118 u119 u120 u121 u122 u123 u124 u125 u126 u127 u128 u129 u130 u131 u132 u133 u134 u135 u136 u137 u138 u139 kb_h0 kb_h1 ao_h0_0 cap_h0_0 ao_h1_0 cap_h1_0 ao_h1_1 cap_h1_1 ao_h1_2 cap_h1_2 lo_h0 hi_h0 fp_h0 fp_h1 hbx_h0 hk1_h0 hk2_h0 hbx_h1 hk1_h1 hk2_h1 hl1_h0 hl2_h0 ho_h0 ho_h1 hd_h0 hw
    exact H.out⟩).down)

end Go.Proofs.YtgicglmcapnogaaGreat
