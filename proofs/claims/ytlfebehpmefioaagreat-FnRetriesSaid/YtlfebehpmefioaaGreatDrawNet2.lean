/-
  The draws of fates and of a network.
-/
import Derived.Test.YtlfebehpmefioaaGreatDrawNet
namespace Go.Proofs.YtlfebehpmefioaaGreat
open Go.RowKit

set_option maxRecDepth 100000 in
set_option maxHeartbeats 1600000 in
theorem specFates (k : Kur) (w : World) (h : Cur w k) : Calls Tryz.prog 63 #[.pointer (some ⟨k.k, 0, none⟩)] w fun e w' => ∃ v : Value, e = .returned v ∧ ∃ l : List Int, Fresh (Rep.slice 3 Rep.int) w.heap.size w' [v] l ∧ l.length ≤ 12 ∧ Mov k w w' := by
  obtain ⟨i0, hi, hz0, hz1, hz2⟩ := info_parts Tryz.infoInt
  have hkw := h.lt
  go_enter Tryz.func63, Tryz.ntmps63
  go_upto_region 2 with fail
  refine settle (fun W => ∃ v, v = .slice (some ⟨w.heap.size, 0, none⟩) 0 0 ∧ Fresh (Rep.slice 3 Rep.int) w.heap.size W [v] [] ∧ Mov k w W) ⟨_, rfl, lit_fresh FlatR.int (w := w) (xs := #[]) (us := []) rfl rfl (by decide) (by simp) rfl, Mov.below (Mov.refl h) (by repeat (first | with_reducible exact belR | with_reducible apply belA | (with_reducible refine belS ?_ ?_; focus (first | omega | (simp; done) | (simp; omega))) | with_reducible apply belN | with_reducible apply belD | with_reducible assumption))⟩ ?_
  rintro w1 ⟨v, hv, hf, hm⟩
  rw [← hv]
  have HF := Lib.hid hf
  have HM := Lib.hid hm
  clear hf hm hv
  go_wp2_with fail
  refine (specBelow k _ _ HM.out.cur).mono ?_
  rintro e w2 ⟨n, rfl, hn0, hn12, hm⟩
  have hn := hn12 (by decide)
  replace HF := Lib.hid (HF.out.mov hm hkw)
  replace HM := Lib.hid (HM.out.trans hm)
  clear hm hn12
  go_wp2
  go_loopw [3, 4] (fun r i wr => ∃ (n : Int) (l : List Int), i = .int .i64 n ∧ (n ≤ 100 ∧ 0 ≤ n ∧ l.length + n.toNat ≤ 12) ∧ Fresh (Rep.slice 3 Rep.int) w.heap.size wr [r] l ∧ Mov k w wr) (fun _ i _ => (intOf i).toNat)
  case atStart => exact ⟨n, [], rfl, ⟨by omega, by omega, by simp; omega⟩, HF.out, HM.out⟩
  case round =>
    clear HF HM hn hn0
    obtain ⟨n, l, rfl, ⟨hn, hn0, hl⟩, hf, hm⟩ := hrel
    obtain ⟨bo, cap, rfl⟩ := hf.slice
    have HM := Lib.hid hm; clear hm
    have HF := Lib.hid hf; clear hf
    by_cases hlt : 0 < n
    · go_wp2_with fail
      refine (specBelow k _ _ HM.out.cur).mono ?_
      rintro e w1 ⟨x, rfl, hx0, hx1, hm1⟩
      have HF1 := Lib.hid (HF.out.mov hm1 hkw)
      have HB := Lib.hid (HM.out.trans hm1)
      clear HF hx0 hx1
      go_wp2_with (at_builtin; refine wpList_push _ rfl _ _ 47 47 rfl FlatR.int w.heap.size 3 i0 _ _ Tryz.underlying47 Tryz.underlying47 hi hz0 hz1 hz2 rfl _ _ rfl (HF1.out.below (by repeat (first | with_reducible exact belR | with_reducible apply belA | (with_reducible refine belS ?_ ?_; focus (first | omega | (simp; done) | (simp; omega))) | with_reducible apply belN | with_reducible apply belD | with_reducible assumption))) x _ _ _ rfl ?p0a rfl trivial ?p1a ?p2a ?p3a ?_)
      case p0a => first | rfl | simp
      case p1a => omega
      case p2a => decide
      case p3a => have y := HB.out.size; simp; omega
      intro bo' cap' w2 hf2 hb2
      have HF2 := Lib.hid hf2
      have HM2 : Hid (Mov k w w2) := Lib.hid ((HB.out.below (by repeat (first | with_reducible exact belR | with_reducible apply belA | (with_reducible refine belS ?_ ?_; focus (first | omega | (simp; done) | (simp; omega))) | with_reducible apply belN | with_reducible apply belD | with_reducible assumption))).low hb2 (Nat.le_refl _) hkw)
      clear hf2 hb2 HF1 HM HB
      go_wp2
      go_light
      exact ⟨⟨n - 1, l ++ [x], by go_num, ⟨by omega, by omega, by simp; omega⟩, HF2.out, HM2.out⟩, by simp [intOf]; omega⟩
    · go_wp2
      go_ret
      exact ⟨_, rfl, l, HF.out, by omega, HM.out⟩

set_option maxRecDepth 100000 in
set_option maxHeartbeats 3200000 in
theorem specDrawNetwork (v : Value) (l : List UInt8) (w : World) (h : Reads Rep.bytes w [v] l) (hl : l.length ≤ 1048576) : Calls Tryz.prog 16 #[v] w fun e w' => ∃ (y : DSync) (s : DServer) (lf : List Int) (a : Option Addr) (c : Nat) (a1 : Option Addr) (c1 : Nat) (a2 : Option Addr) (c2 : Nat) (a3 : Option Addr) (c3 : Nat) (af : Option Addr) (cf : Nat), e = .returned (.tuple #[.agg #[.int .i64 y.outbox.device, .int .i64 y.outbox.next, .slice a y.outbox.writes.length c, .int .i64 y.tries, .int .i64 y.waitUntil], .agg #[.string s.store.name, .slice a1 s.store.items.length c1, .int .i64 s.store.auto, .slice a2 s.applied.length c2, .slice a3 s.changes.length c3], .slice af lf.length cf]) ∧ Reads DSync.rep w' [.int .i64 y.outbox.device, .int .i64 y.outbox.next, .slice a y.outbox.writes.length c, .int .i64 y.tries, .int .i64 y.waitUntil] y ∧ Reads DServer.rep w' [.string s.store.name, .slice a1 s.store.items.length c1, .int .i64 s.store.auto, .slice a2 s.applied.length c2, .slice a3 s.changes.length c3] s ∧ Reads (Rep.slice 3 Rep.int) w' [.slice af lf.length cf] lf ∧ PairOk 1000 y s ∧ lf.length ≤ 12 ∧ Below w.heap.size w w' := by
  have HK := Lib.hid h
  clear h
  go_enter Tryz.func16, Tryz.ntmps16
  go_wp2_with fail
  refine (specNew v l _ w.heap.size (HK.out.lo (by repeat (first | with_reducible exact belR | with_reducible apply belA | (with_reducible refine belS ?_ ?_; focus (first | omega | (simp; done) | (simp; omega))) | with_reducible apply belN | with_reducible apply belD | with_reducible assumption))) (by simp; omega) hl).mono ?_
  rintro e w1 ⟨k, rfl, hk, hkb, hc, hb⟩
  simp at hk
  have HT : Hid (WB w1 w.heap.size #[.int .i64 0, .int .i64 0, .slice none 0 0, .int .i64 0, .int .i64 0]) := Lib.hid (((WB.at rfl).growA).keep hb)
  have HU : Hid (WB w1 (w.heap.size + 1) #[.string ⟨#[]⟩, .slice none 0 0, .int .i64 0, .slice none 0 0, .slice none 0 0]) := Lib.hid ((WB.at (by simp)).keep hb)
  have HB : Hid (Below w.heap.size w w1) := Lib.hid (below_call (by repeat (first | with_reducible exact belR | with_reducible apply belA | (with_reducible refine belS ?_ ?_; focus (first | omega | (simp; done) | (simp; omega))) | with_reducible apply belN | with_reducible apply belD | with_reducible assumption)) (by first | omega | (simp; done) | (simp; omega)) hb)
  clear hb
  go_wp2_with fail
  refine (specPair k _ hc).mono ?_
  rintro e w2 ⟨ds, dv, rfl, y, s, hfy, hfs, hp, hm⟩
  obtain ⟨a, c, rfl⟩ := DSync.fsh hfy
  obtain ⟨a1, c1, a2, c2, a3, c3, rfl⟩ := DServer.fsh hfs
  have hc1' := hc.lt
  have HP := Lib.hid hp
  replace HT := Lib.hid (HT.out.mov hm (by omega))
  replace HU := Lib.hid (HU.out.mov hm (by omega))
  have HG := Lib.hid hfy
  have HF := Lib.hid hfs
  have HM : Hid (Mov k w1 w2) := Lib.hid hm
  have hz2 := hm.size
  clear hfy hfs hm hp
  go_upto_region 3 with fail
  refine settle (fun W => ∃ ky ks, ky = w2.heap.size ∧ ks = w2.heap.size + 1 ∧ WB W ky #[.int .i64 y.outbox.device, .int .i64 y.outbox.next, .slice a y.outbox.writes.length c, .int .i64 y.tries, .int .i64 y.waitUntil] ∧ WB W ks #[.string s.store.name, .slice a1 s.store.items.length c1, .int .i64 s.store.auto, .slice a2 s.applied.length c2, .slice a3 s.changes.length c3] ∧ WB W w.heap.size #[.int .i64 0, .int .i64 0, .slice none 0 0, .int .i64 0, .int .i64 0] ∧ WB W (w.heap.size + 1) #[.string ⟨#[]⟩, .slice none 0 0, .int .i64 0, .slice none 0 0, .slice none 0 0] ∧ Fresh DSync.rep w1.heap.size W [.int .i64 y.outbox.device, .int .i64 y.outbox.next, .slice a y.outbox.writes.length c, .int .i64 y.tries, .int .i64 y.waitUntil] y ∧ Fresh DServer.rep w1.heap.size W [.string s.store.name, .slice a1 s.store.items.length c1, .int .i64 s.store.auto, .slice a2 s.applied.length c2, .slice a3 s.changes.length c3] s ∧ Mov k w1 W) ⟨_, _, rfl, rfl, (WB.at rfl).growA, WB.at (by simp), HT.out.growA.growA, HU.out.growA.growA, (HG.out.below (belA belR)).below (belA belR), (HF.out.below (belA belR)).below (belA belR), HM.out.below (by repeat (first | with_reducible exact belR | with_reducible apply belA | (with_reducible refine belS ?_ ?_; focus (first | omega | (simp; done) | (simp; omega))) | with_reducible apply belN | with_reducible apply belD | with_reducible assumption))⟩ ?_
  clear HT HU HF HG HM
  rintro w3 ⟨ky, ks, hky, hks, hy, hx, ht, hu, hg, hf, hm⟩
  have hkk : w.heap.size + 1 < ky ∧ k.k < ky ∧ ky < ks ∧ w.heap.size + 2 ≤ k.k ∧ w.heap.size + 2 ≤ w1.heap.size := by have := HB.out.size; omega
  rw [← hks, ← hky]
  have HY := Lib.hid hy
  have HX := Lib.hid hx
  have HT := Lib.hid ht
  have HU := Lib.hid hu
  have HG := Lib.hid hg
  have HF := Lib.hid hf
  have HM := Lib.hid hm
  clear hy hx ht hu hf hg hm hky hks hz2
  go_upto_region 3 with fail
  refine wp_region_mvf k ([w.heap.size, w.heap.size + 1]) [] (by kernel_rfl) ?_
  intro wd hbd
  have hwz := hbd.size
  replace HY := Lib.hid (HY.out.keep hbd)
  replace HX := Lib.hid (HX.out.keep hbd)
  replace HT := Lib.hid (HT.out.keep hbd)
  replace HU := Lib.hid (HU.out.keep hbd)
  replace HF := Lib.hid (HF.out.below hbd)
  replace HG := Lib.hid (HG.out.below hbd)
  replace HM := Lib.hid (HM.out.below hbd)
  clear hbd
  have hne : Nonempty (MovedF k ([w.heap.size, w.heap.size + 1]) wd) := ⟨⟨wd, MovF.of (Mov.refl HM.out.cur)⟩⟩
  have hzx := HX.out.lt
  have K_HY := mvf_var (k := k) (fp := ([w.heap.size, w.heap.size + 1])) HY.out (by omega) (by first | (simp; omega) | assumption)
  have K_HX := mvf_var (k := k) (fp := ([w.heap.size, w.heap.size + 1])) HX.out (by omega) (by first | (simp; omega) | assumption)
  refine wpU_group (fun _ _ _ _ _ h => h) (by kernel_rfl) (mvf_of (MovF.of (Mov.refl HM.out.cur))) [0,1,2] _ _ _ rfl (by kernel_rfl) ?_
  repeat (go_big_quiet_step (fail))
  refine wpQuiet_nil ?_
  clear K_HY K_HX
  refine wpU_one 3 rfl (by kernel_rfl) ?_
  go_wp2_with fail
  refine (specFates k _ HM.out.cur).mono ?_
  rintro e w4 ⟨vf, rfl, lf, hff, hlf, hm⟩
  obtain ⟨af, cf, rfl⟩ := hff.slice
  have hq0 : MovF k [w.heap.size, w.heap.size + 1] wd w4 := MovF.of hm
  go_wp2_with fail
  refine HardPost.mk (mvf_of hq0) ?_
  have hz4 := hm.size
  replace HT := Lib.hid (HT.out.mov hm (by omega))
  replace HU := Lib.hid (HU.out.mov hm (by omega))
  replace HG := Lib.hid (HG.out.mov hm (by omega))
  replace HF := Lib.hid (HF.out.mov hm (by omega))
  replace HM := Lib.hid (HM.out.trans hm)
  have HFF := Lib.hid hff
  clear hm hff
  have ⟨c_HT, z_HT, f_HT⟩ := HT.out
  have ⟨c_HU, z_HU, f_HU⟩ := HU.out
  refine wpU_one 4 rfl (by kernel_rfl) ?_
  go_wp2_with fail
  have hq1 := hq0.set5 (b := w.heap.size) (u0 := .int .i64 y.outbox.device) (u1 := .int .i64 y.outbox.next) (u2 := .slice a y.outbox.writes.length c) (u3 := .int .i64 y.tries) (u4 := .int .i64 y.waitUntil) (by simp) (by omega) (by omega)
  refine HardPost.mk (mvf_of hq1) ?_
  have HT1 := Lib.hid (set5 HT.out (b0 := .int .i64 y.outbox.device) (b1 := .int .i64 y.outbox.next) (b2 := .slice a y.outbox.writes.length c) (b3 := .int .i64 y.tries) (b4 := .int .i64 y.waitUntil))
  have HU1 := Lib.hid (off5 HU.out (g := w.heap.size) (b0 := .int .i64 y.outbox.device) (b1 := .int .i64 y.outbox.next) (b2 := .slice a y.outbox.writes.length c) (b3 := .int .i64 y.tries) (b4 := .int .i64 y.waitUntil) (by omega))
  clear c_HT z_HT f_HT c_HU z_HU f_HU
  have ⟨c_HU1, z_HU1, f_HU1⟩ := HU1.out
  refine wpU_one 5 rfl (by kernel_rfl) ?_
  go_wp2_with fail
  have hq2 := hq1.set5 (b := w.heap.size + 1) (u0 := .string s.store.name) (u1 := .slice a1 s.store.items.length c1) (u2 := .int .i64 s.store.auto) (u3 := .slice a2 s.applied.length c2) (u4 := .slice a3 s.changes.length c3) (by simp) (by omega) (by omega)
  refine HardPost.mk (mvf_of hq2) ?_
  have HT2 := Lib.hid (off5 HT1.out (g := w.heap.size + 1) (b0 := .string s.store.name) (b1 := .slice a1 s.store.items.length c1) (b2 := .int .i64 s.store.auto) (b3 := .slice a2 s.applied.length c2) (b4 := .slice a3 s.changes.length c3) (by omega))
  have HU2 := Lib.hid (set5 HU1.out (b0 := .string s.store.name) (b1 := .slice a1 s.store.items.length c1) (b2 := .int .i64 s.store.auto) (b3 := .slice a2 s.applied.length c2) (b4 := .slice a3 s.changes.length c3))
  clear c_HU1 z_HU1 f_HU1
  refine wpU_group (fun _ _ _ _ _ h => h) (by kernel_rfl) (mvf_of (hq2)) [6] _ _ _ rfl (by kernel_rfl) ?_
  repeat (go_big_quiet_step (fail))
  refine wpQuiet_nil ?_
  refine wpU_tail [] _ _ _ _ rfl (by kernel_rfl) ?_
  go_wp2_with fail
  refine NoPanic.normal ?_
  have ⟨c_HT2, z_HT2, f_HT2⟩ := HT2.out
  have ⟨c_HU2, z_HU2, f_HU2⟩ := HU2.out
  go_wp2
  refine bodyPost_ret (v := .tuple #[.agg #[.int .i64 y.outbox.device, .int .i64 y.outbox.next, .slice a y.outbox.writes.length c, .int .i64 y.tries, .int .i64 y.waitUntil], .agg #[.string s.store.name, .slice a1 s.store.items.length c1, .int .i64 s.store.auto, .slice a2 s.applied.length c2, .slice a3 s.changes.length c3], .slice af lf.length cf]) (by simp [results, Tryz.results16, go_sem, c_HT2, c_HU2]) rfl ⟨y, s, lf, a, c, a1, c1, a2, c2, a3, c3, af, cf, rfl, (Fresh.reads (B := w1.heap.size) (by repeat (first | with_reducible exact HG.out | with_reducible refine Fresh.setLow ?_ (by omega)))), (Fresh.reads (B := w1.heap.size) (by repeat (first | with_reducible exact HF.out | with_reducible refine Fresh.setLow ?_ (by omega)))), (Fresh.reads (B := wd.heap.size) (by repeat (first | with_reducible exact HFF.out | with_reducible refine Fresh.setLow ?_ (by omega)))), HP.out, hlf, ?_⟩
  have y2 := HB.out.trans (HM.out.toBelow (B := w.heap.size) (by omega) (by omega))
  exact (by repeat (first | with_reducible exact belR | (with_reducible refine belAB ?_ ?_; focus (first | omega | (simp; done) | (simp; omega))) | (with_reducible refine belS ?_ ?_; focus (first | omega | (simp; done) | (simp; omega))) | with_reducible apply belN | with_reducible apply belD | with_reducible assumption))

end Go.Proofs.YtlfebehpmefioaaGreat
