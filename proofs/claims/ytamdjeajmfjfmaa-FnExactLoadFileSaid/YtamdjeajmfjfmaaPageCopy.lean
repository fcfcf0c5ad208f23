/-
  copyMachine, copyPage.
-/
import Derived.Test.YtamdjeajmfjfmaaPageF
import Derived.Test.YtamdjeajmfjfmaaLLoaded
namespace Go.Proofs.Ytamdjeajmfjfmaa
open Go.RowKit

theorem partB {α : Type} {R : Rep α} {lo hi B : Nat} {w w' : World} {cs : List Value} {x : α} (h : Part R lo hi w cs x) (hb : Below B w w') (hB : hi ≤ B) : Part R lo hi w' cs x := by
  obtain ⟨fp, r, n, m⟩ := h
  exact ⟨fp, Rep.frame _ r fun b hb' => hb.block b (by have h1 := m b hb'; omega), n, m⟩
theorem sets6at5 {w : World} {k : Nat} {a0 a1 a2 a3 a4 a5 a6 a7 a8 a9 a10 b5 b6 b7 b8 b9 b10 : Value} (h : WB w k #[a0, a1, a2, a3, a4, a5, a6, a7, a8, a9, a10]) : WB ((((((w.setCell ⟨k, 5, none⟩ b5).setCell ⟨k, 6, none⟩ b6).setCell ⟨k, 7, none⟩ b7).setCell ⟨k, 8, none⟩ b8).setCell ⟨k, 9, none⟩ b9).setCell ⟨k, 10, none⟩ b10) k #[a0, a1, a2, a3, a4, b5, b6, b7, b8, b9, b10] :=
  ((((((h.setAt (i := 5) (cs' := #[a0, a1, a2, a3, a4, b5, a6, a7, a8, a9, a10]) (by simp) rfl).setAt (i := 6) (cs' := #[a0, a1, a2, a3, a4, b5, b6, a7, a8, a9, a10]) (by simp) rfl).setAt (i := 7) (cs' := #[a0, a1, a2, a3, a4, b5, b6, b7, a8, a9, a10]) (by simp) rfl).setAt (i := 8) (cs' := #[a0, a1, a2, a3, a4, b5, b6, b7, b8, a9, a10]) (by simp) rfl).setAt (i := 9) (cs' := #[a0, a1, a2, a3, a4, b5, b6, b7, b8, b9, a10]) (by simp) rfl).setAt (i := 10) (cs' := #[a0, a1, a2, a3, a4, b5, b6, b7, b8, b9, b10]) (by simp) rfl)
theorem offs6at5 {w : World} {k g : Nat} {cs : Array Value} {b5 b6 b7 b8 b9 b10 : Value} (h : WB w k cs) (hk : k ≠ g) : WB ((((((w.setCell ⟨g, 5, none⟩ b5).setCell ⟨g, 6, none⟩ b6).setCell ⟨g, 7, none⟩ b7).setCell ⟨g, 8, none⟩ b8).setCell ⟨g, 9, none⟩ b9).setCell ⟨g, 10, none⟩ b10) k cs :=
  ((((((h.setOther hk).setOther hk).setOther hk).setOther hk).setOther hk).setOther hk)

set_option maxRecDepth 100000 in
set_option maxHeartbeats 1600000 in
theorem implCopyMachine (cs : List Value) (x : DMachine) (w : World) (h : Reads DMachine.rep w cs x) (hs1 : x.script.length ≤ 1048600) (hs2 : x.regs.length ≤ 1048600) :
    Calls Try.prog 115 #[.agg cs.toArray] w fun e w' => ∃ ds, e = .returned (.agg ds.toArray) ∧ Fresh DMachine.rep w.heap.size w' ds x ∧ Below w.heap.size w w' := by
  obtain ⟨fp_q, h⟩ := h
  obtain ⟨q_v1, q_v2, q_f1, q_f2, rfl, _, q_r1, q_r2⟩ := DMachine.rd.1 h
  obtain ⟨q_a1, q_c1, rfl, q_hm1, q_lc1, q_hu1⟩ := slice_open q_r1; clear q_hu1
  have q_K1 : Hid (Reads (Rep.slice 113 DInstr.rep) w [.slice q_a1 x.script.length q_c1] x.script) := ⟨_, q_r1⟩
  obtain ⟨q_a2, q_c2, rfl, q_hm2, q_lc2, q_hu2⟩ := slice_open q_r2; clear q_hu2
  have q_K2 : Hid (Reads (Rep.slice 3 Rep.int) w [.slice q_a2 x.regs.length q_c2] x.regs) := ⟨_, q_r2⟩
  clear q_r1 q_r2 h
  obtain ⟨i0, hi, hz0, hz1, hz2⟩ := info_parts infoInstr
  go_enter Try.func115, Try.ntmps115
  go_wp2_with (at_builtin; refine wpList_grow _ rfl _ _ 51 51 rfl DInstr.flat (w.heap.size + 3) 113 i0 _ _ Try.underlying51 hi hz0 hz1 hz2 rfl _ [] rfl (lit_fresh DInstr.flat (w := _) (xs := #[]) (us := []) rfl rfl (by decide) (by simp) (by simp)) _ x.script rfl (DInstr.flat.src Try.underlying51 (q_K1.out.below (by repeat (first | with_reducible exact belR | with_reducible apply belA | (with_reducible refine belS ?_ ?_; focus (first | omega | (simp; done) | (simp; omega))) | with_reducible apply belN | with_reducible apply belD | with_reducible assumption)))) ?c1a ?c2a ?c3a ?c4a ?_)
  case c1a => exact (DInstr.flat.row q_K1.out).2
  case c2a => (try simp only [List.length_nil, Nat.zero_add]); omega
  case c3a => (try simp only [List.length_nil, Nat.zero_add]); unfold maxLen; omega
  try (case c4a => simp; try omega)
  intro ao1 cap1 w1 hf1 hb1
  have HB1 : Hid (Below w.heap.size w w1) := Lib.hid (Below.trans (by repeat (first | with_reducible exact belR | (with_reducible refine belAB ?_ ?_; focus (first | omega | (simp; done) | (simp; omega))) | (with_reducible refine belS ?_ ?_; focus (first | omega | (simp; done) | (simp; omega))) | with_reducible apply belN | with_reducible apply belD | with_reducible assumption)) (hb1.mono (by omega)))
  have HT : Hid (WB w1 (w.heap.size + 1) #[.slice none 0 0, .int .i64 0, .slice none 0 0, .int .i64 0, .bool false, .bool false]) := Lib.hid ((((WB.at (by simp)).growA).growA).grow hb1 (by omega))
  have HO : Hid (WB w1 (w.heap.size + 2) #[.slice q_a1 x.script.length q_c1, .int .i64 x.pc, .slice q_a2 x.regs.length q_c2, .int .i64 x.steps, .bool x.done, .bool x.wait]) := Lib.hid (((WB.at (by simp)).growA).grow hb1 (by omega))
  have HX : Hid (WB w1 w.heap.size #[.slice q_a1 x.script.length q_c1, .int .i64 x.pc, .slice q_a2 x.regs.length q_c2, .int .i64 x.steps, .bool x.done, .bool x.wait]) := Lib.hid (((((WB.at rfl).growA).growA).growA).grow hb1 (by omega))
  have hsz : w.heap.size + 4 ≤ w1.heap.size := by have y := hb1.size; simp at y; omega
  have HF1 := Lib.hid (hf1.partAt (Nat.le_refl _))
  clear hi hz0 hz1 hz2
  clear hf1 hb1
  generalize ao1 = aS at *
  generalize cap1 = cS at *
  have ⟨c_HX, z_HX, f_HX⟩ := HX.out
  have ⟨c_HO, z_HO, f_HO⟩ := HO.out
  obtain ⟨i0, hi, hz0, hz1, hz2⟩ := info_parts Try.infoInt
  have y := HB1.out
  go_wp2_with (at_builtin; refine wpList_grow _ rfl _ _ 34 34 rfl FlatR.int w1.heap.size 3 i0 _ _ Try.underlying34 hi hz0 hz1 hz2 rfl _ [] rfl (lit_fresh FlatR.int (w := _) (xs := #[]) (us := []) rfl rfl (by decide) (by simp) (by simp)) _ x.regs rfl (FlatR.int.src Try.underlying34 (q_K2.out.below (by repeat (first | with_reducible exact belR | with_reducible apply belA | (with_reducible refine belS ?_ ?_; focus (first | omega | (simp; done) | (simp; omega))) | with_reducible apply belN | with_reducible apply belD | with_reducible assumption)))) ?c1b ?c2b ?c3b ?c4b ?_)
  case c1b => exact (FlatR.int.row q_K2.out).2
  case c2b => (try simp only [List.length_nil, Nat.zero_add]); omega
  case c3b => (try simp only [List.length_nil, Nat.zero_add]); unfold maxLen; omega
  try (case c4b => simp; try omega)
  intro ao1 cap1 w2 hf1 hb1
  clear c_HX z_HX f_HX c_HO z_HO f_HO
  have hB : Below w1.heap.size (w1.setCell ⟨w.heap.size + 2, 0, none⟩ (.slice aS x.script.length cS)) w2 := Below.trans (belAB (by simp) belR) hb1
  replace HO : Hid (WB w2 (w.heap.size + 2) #[.slice aS x.script.length cS, .int .i64 x.pc, .slice q_a2 x.regs.length q_c2, .int .i64 x.steps, .bool x.done, .bool x.wait]) := Lib.hid ((HO.out.setAt (i := 0) (cs' := #[.slice aS x.script.length cS, .int .i64 x.pc, .slice q_a2 x.regs.length q_c2, .int .i64 x.steps, .bool x.done, .bool x.wait]) (by simp) rfl).grow hB (by omega))
  replace HT := Lib.hid ((HT.out.setOther (g := w.heap.size + 2) (o := 0) (u := .slice aS x.script.length cS) (by omega)).grow hB (by omega))
  have HP1 := Lib.hid (partB (partN (o := 0) (u := .slice aS x.script.length cS) HF1.out (g := w.heap.size + 2) (by omega)) hB (Nat.le_refl _))
  have HP2 := Lib.hid (hf1.partAt (Nat.le_refl _))
  have HB2 : Hid (Below w.heap.size w w2) := Lib.hid (Below.trans (by have y := HB1.out; exact (by repeat (first | with_reducible exact belR | with_reducible apply belA | (with_reducible refine belS ?_ ?_; focus (first | omega | (simp; done) | (simp; omega))) | with_reducible apply belN | with_reducible apply belD | with_reducible assumption))) (hB.mono (by omega)))
  have hs12 : w1.heap.size ≤ w2.heap.size := by have y := hB.size; simpa using y
  clear hf1 hb1 hB y HX HF1
  have ⟨c_HO, z_HO, f_HO⟩ := HO.out
  have ⟨c_HT, z_HT, f_HT⟩ := HT.out
  go_wp2
  have cr := (sets6 (b0 := .slice aS x.script.length cS) (b1 := .int .i64 x.pc) (b2 := .slice ao1 x.regs.length cap1) (b3 := .int .i64 x.steps) (b4 := .bool x.done) (b5 := .bool x.wait) (HT.out.setOther (g := w.heap.size + 2) (o := 2) (u := .slice ao1 x.regs.length cap1) (by omega))).cell
  refine bodyPost_ret (v := .agg #[.slice aS x.script.length cS, .int .i64 x.pc, .slice ao1 x.regs.length cap1, .int .i64 x.steps, .bool x.done, .bool x.wait]) (by simp [results, Try.results115, go_sem, cr]) rfl ⟨_, rfl, ?_, ?_⟩
  · refine DMachine.fresh (B := w.heap.size) (l0 := w.heap.size + 3) (u0 := w1.heap.size) (l2 := w1.heap.size) (u2 := w2.heap.size) ?_ ?_ (by omega) (by omega) (by omega)
    · repeat (first | with_reducible exact HP1.out | with_reducible refine partN ?_ (by omega))
    · repeat (first | with_reducible exact HP2.out | with_reducible refine partN ?_ (by omega))
  · have y := HB2.out
    exact (by repeat (first | with_reducible exact belR | with_reducible apply belA | (with_reducible refine belS ?_ ?_; focus (first | omega | (simp; done) | (simp; omega))) | with_reducible apply belN | with_reducible apply belD | with_reducible assumption))

set_option maxRecDepth 100000 in
set_option maxHeartbeats 1600000 in
theorem specCopyMachine (cs : List Value) (x : DMachine) (w : World) (h : Reads DMachine.rep w cs x) (hs1 : x.script.length ≤ 1048600) (hs2 : x.regs.length ≤ 1048600) :
    Calls Try.prog 112 #[.agg cs.toArray] w fun e w' => ∃ ds, e = .returned (.agg ds.toArray) ∧ Fresh DMachine.rep w.heap.size w' ds x ∧ Below w.heap.size w w' := by
  obtain ⟨fp_q, h⟩ := h
  obtain ⟨q_v1, q_v2, q_f1, q_f2, rfl, _, q_r1, q_r2⟩ := DMachine.rd.1 h
  obtain ⟨q_a1, q_c1, rfl, q_hm1, q_lc1, q_hu1⟩ := slice_open q_r1; clear q_hu1
  have q_K1 : Hid (Reads (Rep.slice 113 DInstr.rep) w [.slice q_a1 x.script.length q_c1] x.script) := ⟨_, q_r1⟩
  obtain ⟨q_a2, q_c2, rfl, q_hm2, q_lc2, q_hu2⟩ := slice_open q_r2; clear q_hu2
  have q_K2 : Hid (Reads (Rep.slice 3 Rep.int) w [.slice q_a2 x.regs.length q_c2] x.regs) := ⟨_, q_r2⟩
  clear q_r1 q_r2 h
  go_enter Try.func112, Try.ntmps112
  go_wp2_with fail
  refine (specScriptCopy _ x.script _ (q_K1.out.below (by repeat (first | with_reducible exact belR | with_reducible apply belA | (with_reducible refine belS ?_ ?_; focus (first | omega | (simp; done) | (simp; omega))) | with_reducible apply belN | with_reducible apply belD | with_reducible assumption))) hs1).mono ?_
  rintro e w1 ⟨ao1, cap1, rfl, hf1, hb1⟩
  have HB1 : Hid (Below w.heap.size w w1) := Lib.hid (below_call (by repeat (first | with_reducible exact belR | with_reducible apply belA | (with_reducible refine belS ?_ ?_; focus (first | omega | (simp; done) | (simp; omega))) | with_reducible apply belN | with_reducible apply belD | with_reducible assumption)) (by first | omega | (simp; done) | (simp; omega)) hb1)
  have HT : Hid (WB w1 (w.heap.size + 1) #[.slice none 0 0, .int .i64 0, .slice none 0 0, .int .i64 0, .bool false, .bool false]) := Lib.hid (((WB.at (by simp)).growA).keep hb1)
  have HO : Hid (WB w1 (w.heap.size + 2) #[.slice q_a1 x.script.length q_c1, .int .i64 x.pc, .slice q_a2 x.regs.length q_c2, .int .i64 x.steps, .bool x.done, .bool x.wait]) := Lib.hid ((WB.at (by simp)).keep hb1)
  have HX : Hid (WB w1 w.heap.size #[.slice q_a1 x.script.length q_c1, .int .i64 x.pc, .slice q_a2 x.regs.length q_c2, .int .i64 x.steps, .bool x.done, .bool x.wait]) := Lib.hid ((((WB.at rfl).growA).growA).keep hb1)
  have hsz : w.heap.size + 3 ≤ w1.heap.size := by have y := hb1.size; simp at y; omega
  have HF1 := Lib.hid (hf1.partAt (lo := w.heap.size + 3) (by simp))
  clear hf1 hb1
  generalize ao1 = aS at *
  generalize cap1 = cS at *
  have ⟨c_HX, z_HX, f_HX⟩ := HX.out
  have ⟨c_HO, z_HO, f_HO⟩ := HO.out
  obtain ⟨i0, hi, hz0, hz1, hz2⟩ := info_parts Try.infoInt
  have y := HB1.out
  go_wp2_with (at_builtin; refine wpList_grow _ rfl _ _ 34 34 rfl FlatR.int w1.heap.size 3 i0 _ _ Try.underlying34 hi hz0 hz1 hz2 rfl _ [] rfl (lit_fresh FlatR.int (w := _) (xs := #[]) (us := []) rfl rfl (by decide) (by simp) (by simp)) _ x.regs rfl (FlatR.int.src Try.underlying34 (q_K2.out.below (by repeat (first | with_reducible exact belR | with_reducible apply belA | (with_reducible refine belS ?_ ?_; focus (first | omega | (simp; done) | (simp; omega))) | with_reducible apply belN | with_reducible apply belD | with_reducible assumption)))) ?c1b ?c2b ?c3b ?c4b ?_)
  case c1b => exact (FlatR.int.row q_K2.out).2
  case c2b => (try simp only [List.length_nil, Nat.zero_add]); omega
  case c3b => (try simp only [List.length_nil, Nat.zero_add]); unfold maxLen; omega
  try (case c4b => simp; try omega)
  intro ao1 cap1 w2 hf1 hb1
  clear c_HX z_HX f_HX c_HO z_HO f_HO
  have hB : Below w1.heap.size (w1.setCell ⟨w.heap.size + 2, 0, none⟩ (.slice aS x.script.length cS)) w2 := Below.trans (belAB (by simp) belR) hb1
  replace HO : Hid (WB w2 (w.heap.size + 2) #[.slice aS x.script.length cS, .int .i64 x.pc, .slice q_a2 x.regs.length q_c2, .int .i64 x.steps, .bool x.done, .bool x.wait]) := Lib.hid ((HO.out.setAt (i := 0) (cs' := #[.slice aS x.script.length cS, .int .i64 x.pc, .slice q_a2 x.regs.length q_c2, .int .i64 x.steps, .bool x.done, .bool x.wait]) (by simp) rfl).grow hB (by omega))
  replace HT := Lib.hid ((HT.out.setOther (g := w.heap.size + 2) (o := 0) (u := .slice aS x.script.length cS) (by omega)).grow hB (by omega))
  have HP1 := Lib.hid (partB (partN (o := 0) (u := .slice aS x.script.length cS) HF1.out (g := w.heap.size + 2) (by omega)) hB (Nat.le_refl _))
  have HP2 := Lib.hid (hf1.partAt (Nat.le_refl _))
  have HB2 : Hid (Below w.heap.size w w2) := Lib.hid (Below.trans (by have y := HB1.out; exact (by repeat (first | with_reducible exact belR | with_reducible apply belA | (with_reducible refine belS ?_ ?_; focus (first | omega | (simp; done) | (simp; omega))) | with_reducible apply belN | with_reducible apply belD | with_reducible assumption))) (hB.mono (by omega)))
  have hs12 : w1.heap.size ≤ w2.heap.size := by have y := hB.size; simpa using y
  clear hf1 hb1 hB y HX HF1
  have ⟨c_HO, z_HO, f_HO⟩ := HO.out
  have ⟨c_HT, z_HT, f_HT⟩ := HT.out
  go_wp2
  have cr := (sets6 (b0 := .slice aS x.script.length cS) (b1 := .int .i64 x.pc) (b2 := .slice ao1 x.regs.length cap1) (b3 := .int .i64 x.steps) (b4 := .bool x.done) (b5 := .bool x.wait) (HT.out.setOther (g := w.heap.size + 2) (o := 2) (u := .slice ao1 x.regs.length cap1) (by omega))).cell
  refine bodyPost_ret (v := .agg #[.slice aS x.script.length cS, .int .i64 x.pc, .slice ao1 x.regs.length cap1, .int .i64 x.steps, .bool x.done, .bool x.wait]) (by simp [results, Try.results112, go_sem, cr]) rfl ⟨_, rfl, ?_, ?_⟩
  · refine DMachine.fresh (B := w.heap.size) (l0 := w.heap.size + 3) (u0 := w1.heap.size) (l2 := w1.heap.size) (u2 := w2.heap.size) ?_ ?_ (by omega) (by omega) (by omega)
    · repeat (first | with_reducible exact HP1.out | with_reducible refine partN ?_ (by omega))
    · repeat (first | with_reducible exact HP2.out | with_reducible refine partN ?_ (by omega))
  · have y := HB2.out
    exact (by repeat (first | with_reducible exact belR | with_reducible apply belA | (with_reducible refine belS ?_ ?_; focus (first | omega | (simp; done) | (simp; omega))) | with_reducible apply belN | with_reducible apply belD | with_reducible assumption))

set_option maxRecDepth 100000 in
set_option maxHeartbeats 1600000 in
theorem implCopyPage (cs : List Value) (x : DPage) (w : World) (h : Reads DPage.rep w cs x) (hs0 : x.loaded.length ≤ 1048600) (hs1 : x.machine.script.length ≤ 1048600) (hs2 : x.machine.regs.length ≤ 1048600) :
    Calls Try.prog 82 #[.agg cs.toArray] w fun e w' => ∃ ds, e = .returned (.agg ds.toArray) ∧ Fresh DPage.rep w.heap.size w' ds x ∧ Below w.heap.size w w' := by
  obtain ⟨fp_q, h⟩ := h
  obtain ⟨q_v1, q_v2, q_v3, q_f1, q_f2, q_f3, rfl, _, q_s0, q_s1, q_r1, q_r2, q_r3⟩ := DPage.rd.1 h
  obtain ⟨q_a1, q_c1, rfl, q_hm1, q_lc1, q_hu1⟩ := slice_open q_r1; clear q_hu1
  have q_K1 : Hid (Reads (Rep.slice 123 DLoaded.rep) w [.slice q_a1 x.loaded.length q_c1] x.loaded) := ⟨_, q_r1⟩
  obtain ⟨q_a2, q_c2, rfl, q_hm2, q_lc2, q_hu2⟩ := slice_open q_r2; clear q_hu2
  have q_K2 : Hid (Reads (Rep.slice 113 DInstr.rep) w [.slice q_a2 x.machine.script.length q_c2] x.machine.script) := ⟨_, q_r2⟩
  obtain ⟨q_a3, q_c3, rfl, q_hm3, q_lc3, q_hu3⟩ := slice_open q_r3; clear q_hu3
  have q_K3 : Hid (Reads (Rep.slice 3 Rep.int) w [.slice q_a3 x.machine.regs.length q_c3] x.machine.regs) := ⟨_, q_r3⟩
  clear q_r1 q_r2 q_r3 h
  obtain ⟨i0, hi, hz0, hz1, hz2⟩ := info_parts infoLoaded
  have HM : Hid (Reads DMachine.rep w [.slice q_a2 x.machine.script.length q_c2, .int .i64 x.machine.pc, .slice q_a3 x.machine.regs.length q_c3, .int .i64 x.machine.steps, .bool x.machine.done, .bool x.machine.wait] x.machine) := by
    obtain ⟨f1, r1⟩ := q_K2.out
    obtain ⟨f2, r2⟩ := q_K3.out
    exact ⟨_, DMachine.rd.2 ⟨_, _, _, _, rfl, rfl, r1, r2⟩⟩
  go_enter Try.func82, Try.ntmps82
  go_wp2_with (at_builtin; refine wpList_grow _ rfl _ _ 50 50 rfl DLoaded.flat (w.heap.size + 2) 123 i0 _ _ Try.underlying50 hi hz0 hz1 hz2 rfl _ [] rfl (lit_fresh DLoaded.flat (w := _) (xs := #[]) (us := []) rfl rfl (by decide) (by simp) (by simp)) _ x.loaded rfl (DLoaded.flat.src Try.underlying50 (q_K1.out.below (by repeat (first | with_reducible exact belR | with_reducible apply belA | (with_reducible refine belS ?_ ?_; focus (first | omega | (simp; done) | (simp; omega))) | with_reducible apply belN | with_reducible apply belD | with_reducible assumption)))) ?c1a ?c2a ?c3a ?c4a ?_)
  case c1a => exact (DLoaded.flat.row q_K1.out).2
  case c2a => (try simp only [List.length_nil, Nat.zero_add]); omega
  case c3a => (try simp only [List.length_nil, Nat.zero_add]); unfold maxLen; omega
  try (case c4a => simp; try omega)
  intro ao1 cap1 w1 hf1 hb1
  have HB1 : Hid (Below w.heap.size w w1) := Lib.hid (Below.trans (by repeat (first | with_reducible exact belR | (with_reducible refine belAB ?_ ?_; focus (first | omega | (simp; done) | (simp; omega))) | (with_reducible refine belS ?_ ?_; focus (first | omega | (simp; done) | (simp; omega))) | with_reducible apply belN | with_reducible apply belD | with_reducible assumption)) (hb1.mono (by omega)))
  have HT : Hid (WB w1 (w.heap.size + 1) #[.int .i64 0, .string ⟨#[]⟩, .string ⟨#[]⟩, .int .i64 0, .slice none 0 0, .slice none 0 0, .int .i64 0, .slice none 0 0, .int .i64 0, .bool false, .bool false]) := Lib.hid ((((WB.at (by simp)).growA)).grow hb1 (by omega))
  have HX : Hid (WB w1 w.heap.size #[.int .i64 x.id, .string x.site, .string x.top, .int .i64 x.version, .slice q_a1 x.loaded.length q_c1, .slice q_a2 x.machine.script.length q_c2, .int .i64 x.machine.pc, .slice q_a3 x.machine.regs.length q_c3, .int .i64 x.machine.steps, .bool x.machine.done, .bool x.machine.wait]) := Lib.hid (((((WB.at rfl).growA).growA)).grow hb1 (by omega))
  have hsz : w.heap.size + 2 + 1 ≤ w1.heap.size := by have y := hb1.size; simp at y; omega
  have HF1 := Lib.hid (hf1.partAt (Nat.le_refl _))
  clear hi hz0 hz1 hz2 hf1 hb1
  generalize ao1 = aS at *
  generalize cap1 = cS at *
  have ⟨c_HX, z_HX, f_HX⟩ := HX.out
  go_wp2_with fail
  refine (implCopyMachine _ x.machine _ (HM.out.below (by have y := HB1.out; exact (by repeat (first | with_reducible exact belR | with_reducible apply belA | (with_reducible refine belS ?_ ?_; focus (first | omega | (simp; done) | (simp; omega))) | with_reducible apply belN | with_reducible apply belD | with_reducible assumption)))) hs1 hs2).mono ?_
  rintro e w2 ⟨ds, rfl, hf2, hb2⟩
  obtain ⟨m1, n1, m2, n2, rfl⟩ := DMachine.fshape hf2
  clear c_HX z_HX f_HX
  have HO2 : Hid (WB w2 (w.heap.size) #[.int .i64 x.id, .string x.site, .string x.top, .int .i64 x.version, .slice aS x.loaded.length cS, .slice q_a2 x.machine.script.length q_c2, .int .i64 x.machine.pc, .slice q_a3 x.machine.regs.length q_c3, .int .i64 x.machine.steps, .bool x.machine.done, .bool x.machine.wait]) := Lib.hid ((HX.out.setAt (i := 4) (cs' := #[.int .i64 x.id, .string x.site, .string x.top, .int .i64 x.version, .slice aS x.loaded.length cS, .slice q_a2 x.machine.script.length q_c2, .int .i64 x.machine.pc, .slice q_a3 x.machine.regs.length q_c3, .int .i64 x.machine.steps, .bool x.machine.done, .bool x.machine.wait]) (by simp) rfl).keep hb2)
  replace HT := Lib.hid ((HT.out.setOther (g := w.heap.size) (o := 4) (u := .slice aS x.loaded.length cS) (by omega)).keep hb2)
  have HP1 := Lib.hid (Part.below (partN (g := w.heap.size) (o := 4) (u := .slice aS x.loaded.length cS) HF1.out (by omega)) hb2)
  have HP2 := Lib.hid (hf2.partAt (lo := w1.heap.size) (by simp))
  have HB2 : Hid (Below w.heap.size w w2) := Lib.hid (below_call (by have y := HB1.out; exact (by repeat (first | with_reducible exact belR | with_reducible apply belA | (with_reducible refine belS ?_ ?_; focus (first | omega | (simp; done) | (simp; omega))) | with_reducible apply belN | with_reducible apply belD | with_reducible assumption))) (by first | omega | (simp; done) | (simp; omega)) hb2)
  have hs12 : w1.heap.size ≤ w2.heap.size := by have y := hb2.size; simpa using y
  clear hf2 hb2 HX HF1
  have ⟨c_HO2, z_HO2, f_HO2⟩ := HO2.out
  have ⟨c_HT, z_HT, f_HT⟩ := HT.out
  go_wp2
  have cr := (sets11 (b0 := .int .i64 x.id) (b1 := .string x.site) (b2 := .string x.top) (b3 := .int .i64 x.version) (b4 := .slice aS x.loaded.length cS) (b5 := .slice m1 x.machine.script.length n1) (b6 := .int .i64 x.machine.pc) (b7 := .slice m2 x.machine.regs.length n2) (b8 := .int .i64 x.machine.steps) (b9 := .bool x.machine.done) (b10 := .bool x.machine.wait) (offs6at5 (b5 := .slice m1 x.machine.script.length n1) (b6 := .int .i64 x.machine.pc) (b7 := .slice m2 x.machine.regs.length n2) (b8 := .int .i64 x.machine.steps) (b9 := .bool x.machine.done) (b10 := .bool x.machine.wait) HT.out (g := w.heap.size) (by omega))).cell
  refine bodyPost_ret (v := .agg #[.int .i64 x.id, .string x.site, .string x.top, .int .i64 x.version, .slice aS x.loaded.length cS, .slice m1 x.machine.script.length n1, .int .i64 x.machine.pc, .slice m2 x.machine.regs.length n2, .int .i64 x.machine.steps, .bool x.machine.done, .bool x.machine.wait]) (by simp [results, Try.results82, go_sem, cr]) rfl ⟨_, rfl, ?_, ?_⟩
  · refine DPage.fresh (B := w.heap.size) (l4 := w.heap.size + 2) (u4 := w1.heap.size) (l5 := w1.heap.size) (u5 := w2.heap.size) ?_ ?_ (by omega) (by omega) (by omega) q_s0 q_s1
    · repeat (first | with_reducible exact HP1.out | with_reducible refine partN ?_ (by omega))
    · repeat (first | with_reducible exact HP2.out | with_reducible refine partN ?_ (by omega))
  · have y := HB2.out
    exact (by repeat (first | with_reducible exact belR | with_reducible apply belA | (with_reducible refine belS ?_ ?_; focus (first | omega | (simp; done) | (simp; omega))) | with_reducible apply belN | with_reducible apply belD | with_reducible assumption))

set_option maxRecDepth 100000 in
set_option maxHeartbeats 1600000 in
theorem specCopyPage (cs : List Value) (x : DPage) (w : World) (h : Reads DPage.rep w cs x) (hs0 : x.loaded.length ≤ 1048600) (hs1 : x.machine.script.length ≤ 1048600) (hs2 : x.machine.regs.length ≤ 1048600) :
    Calls Try.prog 78 #[.agg cs.toArray] w fun e w' => ∃ ds, e = .returned (.agg ds.toArray) ∧ Fresh DPage.rep w.heap.size w' ds x ∧ Below w.heap.size w w' := by
  obtain ⟨fp_q, h⟩ := h
  obtain ⟨q_v1, q_v2, q_v3, q_f1, q_f2, q_f3, rfl, _, q_s0, q_s1, q_r1, q_r2, q_r3⟩ := DPage.rd.1 h
  obtain ⟨q_a1, q_c1, rfl, q_hm1, q_lc1, q_hu1⟩ := slice_open q_r1; clear q_hu1
  have q_K1 : Hid (Reads (Rep.slice 123 DLoaded.rep) w [.slice q_a1 x.loaded.length q_c1] x.loaded) := ⟨_, q_r1⟩
  obtain ⟨q_a2, q_c2, rfl, q_hm2, q_lc2, q_hu2⟩ := slice_open q_r2; clear q_hu2
  have q_K2 : Hid (Reads (Rep.slice 113 DInstr.rep) w [.slice q_a2 x.machine.script.length q_c2] x.machine.script) := ⟨_, q_r2⟩
  obtain ⟨q_a3, q_c3, rfl, q_hm3, q_lc3, q_hu3⟩ := slice_open q_r3; clear q_hu3
  have q_K3 : Hid (Reads (Rep.slice 3 Rep.int) w [.slice q_a3 x.machine.regs.length q_c3] x.machine.regs) := ⟨_, q_r3⟩
  clear q_r1 q_r2 q_r3 h
  obtain ⟨i0, hi, hz0, hz1, hz2⟩ := info_parts infoLoaded
  have HM : Hid (Reads DMachine.rep w [.slice q_a2 x.machine.script.length q_c2, .int .i64 x.machine.pc, .slice q_a3 x.machine.regs.length q_c3, .int .i64 x.machine.steps, .bool x.machine.done, .bool x.machine.wait] x.machine) := by
    obtain ⟨f1, r1⟩ := q_K2.out
    obtain ⟨f2, r2⟩ := q_K3.out
    exact ⟨_, DMachine.rd.2 ⟨_, _, _, _, rfl, rfl, r1, r2⟩⟩
  go_enter Try.func78, Try.ntmps78
  go_wp2_with (at_builtin; refine wpList_grow _ rfl _ _ 50 50 rfl DLoaded.flat (w.heap.size + 3) 123 i0 _ _ Try.underlying50 hi hz0 hz1 hz2 rfl _ [] rfl (lit_fresh DLoaded.flat (w := _) (xs := #[]) (us := []) rfl rfl (by decide) (by simp) (by simp)) _ x.loaded rfl (DLoaded.flat.src Try.underlying50 (q_K1.out.below (by repeat (first | with_reducible exact belR | with_reducible apply belA | (with_reducible refine belS ?_ ?_; focus (first | omega | (simp; done) | (simp; omega))) | with_reducible apply belN | with_reducible apply belD | with_reducible assumption)))) ?c1a ?c2a ?c3a ?c4a ?_)
  case c1a => exact (DLoaded.flat.row q_K1.out).2
  case c2a => (try simp only [List.length_nil, Nat.zero_add]); omega
  case c3a => (try simp only [List.length_nil, Nat.zero_add]); unfold maxLen; omega
  try (case c4a => simp; try omega)
  intro ao1 cap1 w1 hf1 hb1
  have HB1 : Hid (Below w.heap.size w w1) := Lib.hid (Below.trans (by repeat (first | with_reducible exact belR | (with_reducible refine belAB ?_ ?_; focus (first | omega | (simp; done) | (simp; omega))) | (with_reducible refine belS ?_ ?_; focus (first | omega | (simp; done) | (simp; omega))) | with_reducible apply belN | with_reducible apply belD | with_reducible assumption)) (hb1.mono (by omega)))
  have HT : Hid (WB w1 (w.heap.size + 1) #[.int .i64 0, .string ⟨#[]⟩, .string ⟨#[]⟩, .int .i64 0, .slice none 0 0, .slice none 0 0, .int .i64 0, .slice none 0 0, .int .i64 0, .bool false, .bool false]) := Lib.hid (((((WB.at (by simp)).growA).growA)).grow hb1 (by omega))
  have HX : Hid (WB w1 w.heap.size #[.int .i64 x.id, .string x.site, .string x.top, .int .i64 x.version, .slice q_a1 x.loaded.length q_c1, .slice q_a2 x.machine.script.length q_c2, .int .i64 x.machine.pc, .slice q_a3 x.machine.regs.length q_c3, .int .i64 x.machine.steps, .bool x.machine.done, .bool x.machine.wait]) := Lib.hid ((((((WB.at rfl).growA).growA).growA)).grow hb1 (by omega))
  have HO : Hid (WB w1 (w.heap.size + 2) #[.int .i64 x.id, .string x.site, .string x.top, .int .i64 x.version, .slice q_a1 x.loaded.length q_c1, .slice q_a2 x.machine.script.length q_c2, .int .i64 x.machine.pc, .slice q_a3 x.machine.regs.length q_c3, .int .i64 x.machine.steps, .bool x.machine.done, .bool x.machine.wait]) := Lib.hid (((WB.at (by simp)).growA).grow hb1 (by omega))
  have hsz : w.heap.size + 3 + 1 ≤ w1.heap.size := by have y := hb1.size; simp at y; omega
  have HF1 := Lib.hid (hf1.partAt (Nat.le_refl _))
  clear hi hz0 hz1 hz2 hf1 hb1
  generalize ao1 = aS at *
  generalize cap1 = cS at *
  have ⟨c_HX, z_HX, f_HX⟩ := HX.out
  have ⟨c_HO, z_HO, f_HO⟩ := HO.out
  go_wp2_with fail
  refine (specCopyMachine _ x.machine _ (HM.out.below (by have y := HB1.out; exact (by repeat (first | with_reducible exact belR | with_reducible apply belA | (with_reducible refine belS ?_ ?_; focus (first | omega | (simp; done) | (simp; omega))) | with_reducible apply belN | with_reducible apply belD | with_reducible assumption)))) hs1 hs2).mono ?_
  rintro e w2 ⟨ds, rfl, hf2, hb2⟩
  obtain ⟨m1, n1, m2, n2, rfl⟩ := DMachine.fshape hf2
  clear c_HX z_HX f_HX c_HO z_HO f_HO
  have HO2 : Hid (WB w2 (w.heap.size + 2) #[.int .i64 x.id, .string x.site, .string x.top, .int .i64 x.version, .slice aS x.loaded.length cS, .slice q_a2 x.machine.script.length q_c2, .int .i64 x.machine.pc, .slice q_a3 x.machine.regs.length q_c3, .int .i64 x.machine.steps, .bool x.machine.done, .bool x.machine.wait]) := Lib.hid ((HO.out.setAt (i := 4) (cs' := #[.int .i64 x.id, .string x.site, .string x.top, .int .i64 x.version, .slice aS x.loaded.length cS, .slice q_a2 x.machine.script.length q_c2, .int .i64 x.machine.pc, .slice q_a3 x.machine.regs.length q_c3, .int .i64 x.machine.steps, .bool x.machine.done, .bool x.machine.wait]) (by simp) rfl).keep hb2)
  replace HT := Lib.hid ((HT.out.setOther (g := w.heap.size + 2) (o := 4) (u := .slice aS x.loaded.length cS) (by omega)).keep hb2)
  have HP1 := Lib.hid (Part.below (partN (g := w.heap.size + 2) (o := 4) (u := .slice aS x.loaded.length cS) HF1.out (by omega)) hb2)
  have HP2 := Lib.hid (hf2.partAt (lo := w1.heap.size) (by simp))
  have HB2 : Hid (Below w.heap.size w w2) := Lib.hid (below_call (by have y := HB1.out; exact (by repeat (first | with_reducible exact belR | with_reducible apply belA | (with_reducible refine belS ?_ ?_; focus (first | omega | (simp; done) | (simp; omega))) | with_reducible apply belN | with_reducible apply belD | with_reducible assumption))) (by first | omega | (simp; done) | (simp; omega)) hb2)
  have hs12 : w1.heap.size ≤ w2.heap.size := by have y := hb2.size; simpa using y
  clear hf2 hb2 HX HF1 HO
  have ⟨c_HO2, z_HO2, f_HO2⟩ := HO2.out
  have ⟨c_HT, z_HT, f_HT⟩ := HT.out
  go_wp2
  have cr := (sets11 (b0 := .int .i64 x.id) (b1 := .string x.site) (b2 := .string x.top) (b3 := .int .i64 x.version) (b4 := .slice aS x.loaded.length cS) (b5 := .slice m1 x.machine.script.length n1) (b6 := .int .i64 x.machine.pc) (b7 := .slice m2 x.machine.regs.length n2) (b8 := .int .i64 x.machine.steps) (b9 := .bool x.machine.done) (b10 := .bool x.machine.wait) (offs6at5 (b5 := .slice m1 x.machine.script.length n1) (b6 := .int .i64 x.machine.pc) (b7 := .slice m2 x.machine.regs.length n2) (b8 := .int .i64 x.machine.steps) (b9 := .bool x.machine.done) (b10 := .bool x.machine.wait) HT.out (g := w.heap.size + 2) (by omega))).cell
  refine bodyPost_ret (v := .agg #[.int .i64 x.id, .string x.site, .string x.top, .int .i64 x.version, .slice aS x.loaded.length cS, .slice m1 x.machine.script.length n1, .int .i64 x.machine.pc, .slice m2 x.machine.regs.length n2, .int .i64 x.machine.steps, .bool x.machine.done, .bool x.machine.wait]) (by simp [results, Try.results78, go_sem, cr]) rfl ⟨_, rfl, ?_, ?_⟩
  · refine DPage.fresh (B := w.heap.size) (l4 := w.heap.size + 3) (u4 := w1.heap.size) (l5 := w1.heap.size) (u5 := w2.heap.size) ?_ ?_ (by omega) (by omega) (by omega) q_s0 q_s1
    · repeat (first | with_reducible exact HP1.out | with_reducible refine partN ?_ (by omega))
    · repeat (first | with_reducible exact HP2.out | with_reducible refine partN ?_ (by omega))
  · have y := HB2.out
    exact (by repeat (first | with_reducible exact belR | with_reducible apply belA | (with_reducible refine belS ?_ ?_; focus (first | omega | (simp; done) | (simp; omega))) | with_reducible apply belN | with_reducible apply belD | with_reducible assumption))

end Go.Proofs.Ytamdjeajmfjfmaa
