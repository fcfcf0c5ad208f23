/-
  The draw of EnqueueWrite's arguments.
-/
import Derived.Test.YteajhmpppciicaaOutDraw3
import Derived.Test.YteajhmpppciicaaOutWalk
namespace Go.Proofs.Yteajhmpppciicaa
open Go.RowKit

set_option maxRecDepth 100000 in
set_option maxHeartbeats 1600000 in
theorem specDrawEnqueue : SaidDrawEnqueue := by
  intro v l w h hl
  have HK := Lib.hid h
  clear h
  go_enter Try.func6, Try.ntmps6
  go_wp2_with fail
  refine (specNew v l _ w.heap.size (HK.out.lo (by repeat (first | with_reducible exact belR | with_reducible apply belA | (with_reducible refine belS ?_ ?_; focus (first | omega | (simp; done) | (simp; omega))) | with_reducible apply belN | with_reducible apply belD | with_reducible assumption))) (by simp; omega) hl).mono ?_
  rintro e w1 ⟨k, rfl, hk, hkb, hc, hb⟩
  simp at hk
  have HT : Hid (WB w1 w.heap.size #[.int .i64 0, .int .i64 0, .slice none 0 0]) := Lib.hid (((WB.at rfl).growA).keep hb)
  have HU : Hid (WB w1 (w.heap.size + 1) #[.int .i64 0, .int .i64 0, .string ⟨#[]⟩]) := Lib.hid ((WB.at (by simp)).keep hb)
  have HB : Hid (Below w.heap.size w w1) := Lib.hid (below_call (by repeat (first | with_reducible exact belR | with_reducible apply belA | (with_reducible refine belS ?_ ?_; focus (first | omega | (simp; done) | (simp; omega))) | with_reducible apply belN | with_reducible apply belD | with_reducible assumption)) (by first | omega | (simp; done) | (simp; omega)) hb)
  clear hb
  go_wp2_with fail
  refine (specAnyOutbox k _ hc).mono ?_
  rintro e w2 ⟨ds, x, rfl, hf, hlx, hm⟩
  obtain ⟨a1, c1, rfl, hg⟩ := DOutbox.fopen hf
  clear hf
  have hc1 := hc.lt
  replace HT := Lib.hid (HT.out.mov hm (by omega))
  replace HU := Lib.hid (HU.out.mov hm (by omega))
  have HF : Hid (Fresh (Rep.slice 35 DWrite.rep) w1.heap.size w2 [.slice a1 x.writes.length c1] x.writes) := Lib.hid hg
  have HM : Hid (Mov k w1 w2) := Lib.hid hm
  have hz2 := hm.size
  clear hg hm
  go_upto_region 3 with fail
  refine settle (fun W => ∃ kb, kb = w2.heap.size ∧ WB W kb #[.int .i64 x.device, .int .i64 x.next, .slice a1 x.writes.length c1] ∧ WB W w.heap.size #[.int .i64 0, .int .i64 0, .slice none 0 0] ∧ WB W (w.heap.size + 1) #[.int .i64 0, .int .i64 0, .string ⟨#[]⟩] ∧ Fresh (Rep.slice 35 DWrite.rep) w1.heap.size W [.slice a1 x.writes.length c1] x.writes ∧ Mov k w1 W) ⟨_, rfl, WB.at rfl, HT.out.growA, HU.out.growA, HF.out.below (belA belR), HM.out.below (by repeat (first | with_reducible exact belR | with_reducible apply belA | (with_reducible refine belS ?_ ?_; focus (first | omega | (simp; done) | (simp; omega))) | with_reducible apply belN | with_reducible apply belD | with_reducible assumption))⟩ ?_
  clear HT HU HF HM
  rintro w3 ⟨kb, hkb, hx, ht, hu, hf, hm⟩
  have hkk : w.heap.size + 1 < kb ∧ k.k < kb ∧ w.heap.size + 2 ≤ k.k ∧ w.heap.size + 2 ≤ w1.heap.size := by have := HB.out.size; omega
  rw [← hkb]
  have HX := Lib.hid hx
  have HT := Lib.hid ht
  have HU := Lib.hid hu
  have HF := Lib.hid hf
  have HM := Lib.hid hm
  clear hx ht hu hf hm hkb hz2
  go_wp2_with fail
  refine (specWrite k _ HM.out.cur).mono ?_
  rintro e w4 ⟨y, rfl, hy, hm⟩
  have hz3 := HX.out.lt
  have hz4 := hm.size
  replace HX := Lib.hid (HX.out.mov hm (by omega))
  replace HT := Lib.hid (HT.out.mov hm (by omega))
  replace HU := Lib.hid (HU.out.mov hm (by omega))
  replace HF := Lib.hid (HF.out.mov hm (by omega))
  replace HM := Lib.hid (HM.out.trans hm)
  clear hm
  go_upto_region 4 with fail
  refine settle (fun W => ∃ kc, kc = w4.heap.size ∧ WB W kc #[.int .i64 y.device, .int .i64 y.seq, .int .i64 y.key.kind, .int .i64 y.key.n, .string y.key.text, .string y.field, .int .i64 y.n] ∧ WB W kb #[.int .i64 x.device, .int .i64 x.next, .slice a1 x.writes.length c1] ∧ WB W w.heap.size #[.int .i64 0, .int .i64 0, .slice none 0 0] ∧ WB W (w.heap.size + 1) #[.int .i64 0, .int .i64 0, .string ⟨#[]⟩] ∧ Fresh (Rep.slice 35 DWrite.rep) w1.heap.size W [.slice a1 x.writes.length c1] x.writes ∧ Mov k w1 W) ⟨_, rfl, WB.at rfl, HX.out.growA, HT.out.growA, HU.out.growA, HF.out.below (belA belR), HM.out.below (by repeat (first | with_reducible exact belR | with_reducible apply belA | (with_reducible refine belS ?_ ?_; focus (first | omega | (simp; done) | (simp; omega))) | with_reducible apply belN | with_reducible apply belD | with_reducible assumption))⟩ ?_
  clear HT HU HF HM HX
  rintro w5 ⟨kc, hkc, hy2, hx, ht, hu, hf, hm⟩
  have hkl : kb < kc := by omega
  rw [← hkc]
  have HY := Lib.hid hy2
  have HX := Lib.hid hx
  have HT := Lib.hid ht
  have HU := Lib.hid hu
  have HF := Lib.hid hf
  have HM := Lib.hid hm
  clear hy2 hx ht hu hf hm hkc hz3 hz4
  go_upto_region 4 with fail
  refine wp_region_mvf k ([w.heap.size, w.heap.size + 1]) [] (by kernel_rfl) ?_
  intro wd hbd
  have hwz := hbd.size
  replace HX := Lib.hid (HX.out.keep hbd)
  replace HY := Lib.hid (HY.out.keep hbd)
  replace HT := Lib.hid (HT.out.keep hbd)
  replace HU := Lib.hid (HU.out.keep hbd)
  replace HF := Lib.hid (HF.out.below hbd)
  replace HM := Lib.hid (HM.out.below hbd)
  clear hbd
  have hne : Nonempty (MovedF k ([w.heap.size, w.heap.size + 1]) wd) := ⟨⟨wd, MovF.of (Mov.refl HM.out.cur)⟩⟩
  have K_HX := mvf_var (k := k) (fp := ([w.heap.size, w.heap.size + 1])) HX.out (by omega) (by first | (simp; omega) | assumption)
  have K_HY := mvf_var (k := k) (fp := ([w.heap.size, w.heap.size + 1])) HY.out (by omega) (by first | (simp; omega) | assumption)
  refine wpU_group (fun _ _ _ _ _ h => h) (by kernel_rfl) (mvf_of (MovF.of (Mov.refl HM.out.cur))) [0,1,2,3,4,5,6] _ _ _ rfl (by kernel_rfl) ?_
  repeat (go_big_quiet_step (fail))
  refine wpQuiet_nil ?_
  clear K_HX K_HY
  have ⟨c_HT, z_HT, f_HT⟩ := HT.out
  have ⟨c_HU, z_HU, f_HU⟩ := HU.out
  have hkb := HM.out.cur
  have hq0 : MovF k [w.heap.size, w.heap.size + 1] wd wd := MovF.of (Mov.refl HM.out.cur)
  refine wpU_one 7 rfl (by kernel_rfl) ?_
  go_wp2_with fail
  have hq1 := ((hq0.set (b := w.heap.size) (o := 0) (u := .int .i64 x.device) (by simp) (by omega) (by omega)).set (o := 1) (u := .int .i64 x.next) (b := w.heap.size) (by simp) (by omega) (by omega)).set (o := 2) (u := .slice a1 x.writes.length c1) (b := w.heap.size) (by simp) (by omega) (by omega)
  refine HardPost.mk (mvf_of hq1) ?_
  have HT1 := Lib.hid (HT.out.set3 (a' := .int .i64 x.device) (b' := .int .i64 x.next) (c' := .slice a1 x.writes.length c1))
  have HU1 := Lib.hid (((HU.out.setOther (g := w.heap.size) (o := 0) (u := .int .i64 x.device) (by omega)).setOther (g := w.heap.size) (o := 1) (u := .int .i64 x.next) (by omega)).setOther (g := w.heap.size) (o := 2) (u := .slice a1 x.writes.length c1) (by omega))
  clear c_HT z_HT f_HT c_HU z_HU f_HU
  have ⟨c_HU1, z_HU1, f_HU1⟩ := HU1.out
  refine wpU_one 8 rfl (by kernel_rfl) ?_
  go_wp2_with fail
  have hq2 := ((hq1.set (o := 0) (u := .int .i64 y.key.kind) (b := w.heap.size + 1) (by simp) (by omega) (by omega)).set (o := 1) (u := .int .i64 y.key.n) (b := w.heap.size + 1) (by simp) (by omega) (by omega)).set (o := 2) (u := .string y.key.text) (b := w.heap.size + 1) (by simp) (by omega) (by omega)
  refine HardPost.mk (mvf_of hq2) ?_
  have HT2 := Lib.hid (((HT1.out.setOther (g := w.heap.size + 1) (o := 0) (u := .int .i64 y.key.kind) (by omega)).setOther (g := w.heap.size + 1) (o := 1) (u := .int .i64 y.key.n) (by omega)).setOther (g := w.heap.size + 1) (o := 2) (u := .string y.key.text) (by omega))
  have HU2 := Lib.hid (HU1.out.set3 (a' := .int .i64 y.key.kind) (b' := .int .i64 y.key.n) (c' := .string y.key.text))
  clear c_HU1 z_HU1 f_HU1
  refine wpU_group (fun _ _ _ _ _ h => h) (by kernel_rfl) (mvf_of (hq2)) [9,10] _ _ _ rfl (by kernel_rfl) ?_
  repeat (go_big_quiet_step (fail))
  refine wpQuiet_nil ?_
  refine wpU_tail [] _ _ _ _ rfl (by kernel_rfl) ?_
  go_wp2_with fail
  refine NoPanic.normal ?_
  have ⟨c_HT2, z_HT2, f_HT2⟩ := HT2.out
  have ⟨c_HU2, z_HU2, f_HU2⟩ := HU2.out
  go_wp2
  refine bodyPost_ret (v := .tuple #[.agg #[.int .i64 x.device, .int .i64 x.next, .slice a1 x.writes.length c1], .agg #[.int .i64 y.key.kind, .int .i64 y.key.n, .string y.key.text], .string y.field, .int .i64 y.n]) (by simp [results, Try.results6, go_sem, c_HT2, c_HU2]) rfl ⟨_, x, y.key, y.field, y.n, rfl, DOutbox.fmk (Fresh.mono (B := w1.heap.size) (by repeat (first | with_reducible exact HF.out | with_reducible refine Fresh.setLow ?_ (by omega))) (by omega)), hlx, hy.1, hy.2, ?_⟩
  have y2 := HB.out.trans (HM.out.toBelow (B := w.heap.size) (by omega) (by omega))
  exact (by repeat (first | with_reducible exact belR | (with_reducible refine belAB ?_ ?_; focus (first | omega | (simp; done) | (simp; omega))) | (with_reducible refine belS ?_ ?_; focus (first | omega | (simp; done) | (simp; omega))) | with_reducible apply belN | with_reducible apply belD | with_reducible assumption))

end Go.Proofs.Yteajhmpppciicaa
