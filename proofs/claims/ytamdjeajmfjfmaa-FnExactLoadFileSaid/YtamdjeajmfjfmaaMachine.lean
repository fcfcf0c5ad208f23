/-
  copyMachine, NewMachine.
-/
import Derived.Test.YtamdjeajmfjfmaaScript
import Derived.Test.YtamdjeajmfjfmaaTMachine
import Derived.Test.YtamdjeajmfjfmaaLInstr
import Derived.Test.YtamdjeajmfjfmaaBase
namespace Go.Proofs.Ytamdjeajmfjfmaa
open Go.RowKit

theorem Part.nil {α : Type} {R : Rep α} {E : TypeId} {lo hi : Nat} {w : World} : Part (Rep.slice E R) lo hi w [.slice none 0 0] [] :=
  ⟨[], ⟨.slice none 0 0, [], rfl, rfl, rfl, by simp, ⟨none, 0, rfl, Nat.le_refl _, Nat.zero_le _, .inl rfl⟩, fun _ => World.ownsRow_nil w 0 E R.n⟩, List.nodup_nil, by simp⟩
theorem DMachine.freshR {B l0 u0 l2 u2 : Nat} {v1 v2 : Value} {w : World} {x : DMachine} (p0 : Part (Rep.slice 113 DInstr.rep) l0 u0 w [v1] x.script) (p2 : Part (Rep.slice 3 Rep.int) l2 u2 w [v2] x.regs) (b2 : B ≤ l2) (b0 : u2 ≤ l0) (e2 : l2 ≤ u2) : Fresh DMachine.rep B w [v1, .int .i64 x.pc, v2, .int .i64 x.steps, .bool x.done, .bool x.wait] x := by
  obtain ⟨f0, r0, n0, m0⟩ := p0
  obtain ⟨f2, r2, n2, m2⟩ := p2
  refine ⟨f0 ++ f2, DMachine.rd.2 ⟨_, _, _, _, rfl, rfl, r0, r2⟩, ?_, ?_⟩
  · rw [List.nodup_append]
    refine ⟨n0, n2, fun a ha b hb e => ?_⟩
    have h1 := m0 a ha
    have h2 := m2 b hb
    omega
  · intro b hb
    rcases List.mem_append.1 hb with hb | hb
    · have h1 := m0 b hb; omega
    · have h1 := m2 b hb; omega
theorem sets6 {w : World} {k : Nat} {a0 a1 a2 a3 a4 a5 b0 b1 b2 b3 b4 b5 : Value} (h : WB w k #[a0, a1, a2, a3, a4, a5]) : WB ((((((w.setCell ⟨k, 0, none⟩ b0).setCell ⟨k, 1, none⟩ b1).setCell ⟨k, 2, none⟩ b2).setCell ⟨k, 3, none⟩ b3).setCell ⟨k, 4, none⟩ b4).setCell ⟨k, 5, none⟩ b5) k #[b0, b1, b2, b3, b4, b5] :=
  ((((((h.setAt (i := 0) (cs' := #[b0, a1, a2, a3, a4, a5]) (by simp) rfl).setAt (i := 1) (cs' := #[b0, b1, a2, a3, a4, a5]) (by simp) rfl).setAt (i := 2) (cs' := #[b0, b1, b2, a3, a4, a5]) (by simp) rfl).setAt (i := 3) (cs' := #[b0, b1, b2, b3, a4, a5]) (by simp) rfl).setAt (i := 4) (cs' := #[b0, b1, b2, b3, b4, a5]) (by simp) rfl).setAt (i := 5) (cs' := #[b0, b1, b2, b3, b4, b5]) (by simp) rfl)

theorem four_part {w : World} {o1 o2 : Obj} : Part (Rep.slice 3 Rep.int) (w.heap.size + 1) (w.heap.size + 2) (((w.alloc o1).alloc (.cells #[.int .i64 0, .int .i64 0, .int .i64 0, .int .i64 0] 3)).alloc o2) [.slice (some ⟨w.heap.size + 1, 0, none⟩) 4 4] [0, 0, 0, 0] := by
  have h0 := (lit_fresh FlatR.int (E := 3) (w := w.alloc o1) (n := 4) (k := w.heap.size + 1) (xs := #[.int .i64 0, .int .i64 0, .int .i64 0, .int .i64 0]) (us := [0, 0, 0, 0]) rfl rfl (by unfold maxLen; simp) (by simp) (by simp))
  obtain ⟨fp, r, n, m⟩ := h0
  refine ⟨fp, Rep.frame _ r (fun b hb => Below.heap_alloc _ _ _ (Rep.lt _ r b hb)), n, fun b hb => ⟨m b hb, ?_⟩⟩
  have h1 := Rep.lt _ r b hb
  simpa using h1

theorem partN {α : Type} {R : Rep α} {lo hi g o : Nat} {w : World} {cs : List Value} {x : α} {u : Value} (h : Part R lo hi w cs x) (hg : g < lo ∨ hi ≤ g) : Part R lo hi (w.setCell ⟨g, o, none⟩ u) cs x := by
  obtain ⟨fp, r, n, m⟩ := h
  exact ⟨fp, Rep.frame _ r fun b hb => Below.heap_setCell _ _ _ _ (by have h1 := m b hb; simp only []; omega), n, m⟩

theorem make4 (wx : World) : (Instr.makeSlice 34 (.int .i64 4) (.int .i64 4)).run Try.prog wx = .ok (.slice (some ⟨wx.heap.size, 0, none⟩) 4 4) (wx.alloc (.cells #[.int .i64 0, .int .i64 0, .int .i64 0, .int .i64 0] 3)) := by
  obtain ⟨i1, hi1, hy0, hy1, hy2⟩ := info_parts Try.infoInt
  have h := run_makeSlice (P := Try.prog) (w := wx) 34 3 i1 _ Try.underlying34 hi1 hy0 .i64 .i64 4 4 (by decide) (by decide) (by rw [hy1]; decide) (by rw [hy2]; decide) (by decide)
  have e : madeCells (Value.int .i64 0).cells (Int.toNat 4 * 1) = #[.int .i64 0, .int .i64 0, .int .i64 0, .int .i64 0] := by
    kernel_rfl
  rw [hy1, e] at h
  exact h

def newMachineF (l : List DInstr) : DMachine := if isScriptF l then ⟨l, 0, [0, 0, 0, 0], 0, false, false⟩ else ⟨[], 0, [0, 0, 0, 0], 0, true, false⟩

set_option maxRecDepth 100000 in
set_option maxHeartbeats 800000 in
theorem specScriptCopy (v : Value) (l : List DInstr) (w : World) (h : Reads (Rep.slice 113 DInstr.rep) w [v] l) (hs : l.length ≤ 1048600) :
    Calls Try.prog 103 #[v] w fun e w' => ∃ ao cap, e = .returned (.slice ao l.length cap) ∧ Fresh (Rep.slice 113 DInstr.rep) w.heap.size w' [.slice ao l.length cap] l ∧ Below w.heap.size w w' := by
  have HK := Lib.hid h
  obtain ⟨fp, h⟩ := h
  obtain ⟨ao, c1, rfl, hm, _, hu⟩ := slice_open h
  clear hu h
  obtain ⟨i0, hi, hz0, hz1, hz2⟩ := info_parts infoInstr
  go_enter Try.func103, Try.ntmps103
  go_wp2_with (at_builtin; refine wpList_grow _ rfl _ _ 51 51 rfl DInstr.flat w.heap.size 113 i0 _ _ Try.underlying51 hi hz0 hz1 hz2 rfl _ [] rfl (lit_fresh DInstr.flat (w := _) (xs := #[]) (us := []) rfl rfl (by decide) (by simp) (by simp)) _ l rfl (DInstr.flat.src Try.underlying51 (HK.out.below (by repeat (first | with_reducible exact belR | with_reducible apply belA | (with_reducible refine belS ?_ ?_; focus (first | omega | (simp; done) | (simp; omega))) | with_reducible apply belN | with_reducible apply belD | with_reducible assumption)))) ?c1a ?c2a ?c3a ?c4a ?_)
  case c1a => exact (DInstr.flat.row HK.out).2
  case c2a => (try simp only [List.length_nil, Nat.zero_add]); omega
  case c3a => (try simp only [List.length_nil, Nat.zero_add]); unfold maxLen; omega
  try (case c4a => simp; try omega)
  intro ao1 cap1 w1 hf1 hb1
  have HF1 := Lib.hid hf1
  have HB1 := Lib.hid (Below.trans (by repeat (first | with_reducible exact belR | (with_reducible refine belAB ?_ ?_; focus (first | omega | (simp; done) | (simp; omega))) | (with_reducible refine belS ?_ ?_; focus (first | omega | (simp; done) | (simp; omega))) | with_reducible apply belN | with_reducible apply belD | with_reducible assumption)) hb1 : Below w.heap.size w w1)
  clear hf1 hb1
  go_wp2
  go_ret
  exact ⟨_, _, rfl, HF1.out, HB1.out⟩

set_option maxRecDepth 100000 in
set_option maxHeartbeats 1600000 in
theorem implNewMachine (v : Value) (l : List DInstr) (w : World) (h : Reads (Rep.slice 113 DInstr.rep) w [v] l) (hs : l.length ≤ 1048600) :
    Calls Try.prog 67 #[v] w fun e w' => ∃ ds, e = .returned (.agg ds.toArray) ∧ Fresh DMachine.rep w.heap.size w' ds (newMachineF l) ∧ Below w.heap.size w w' := by
  have HK := Lib.hid h
  obtain ⟨fp, h⟩ := h
  obtain ⟨ao, c1, rfl, hm, _, hu⟩ := slice_open h
  clear hu h
  obtain ⟨i0, hi, hz0, hz1, hz2⟩ := info_parts infoInstr
  have hmk := make4
  go_enter Try.func67, Try.ntmps67
  go_wp2_with fail
  refine (implIsScript _ l _ (HK.out.below (by repeat (first | with_reducible exact belR | with_reducible apply belA | (with_reducible refine belS ?_ ?_; focus (first | omega | (simp; done) | (simp; omega))) | with_reducible apply belN | with_reducible apply belD | with_reducible assumption)))).mono ?_
  rintro e w2 ⟨rfl, hb⟩
  have HX : Hid (WB w2 w.heap.size #[.slice none 0 0, .int .i64 0, .slice none 0 0, .int .i64 0, .bool false, .bool false]) := Lib.hid ((((WB.at rfl).growA).growA).keep hb)
  have HY : Hid (WB w2 (w.heap.size + 2) #[.slice none 0 0, .int .i64 0, .slice (some ⟨w.heap.size + 1, 0, none⟩) 4 4, .int .i64 0, .bool false, .bool false]) := Lib.hid ((WB.at (by simp)).keep hb)
  have HP : Hid (Part (Rep.slice 3 Rep.int) (w.heap.size + 1) (w.heap.size + 2) w2 [.slice (some ⟨w.heap.size + 1, 0, none⟩) 4 4] [0, 0, 0, 0]) := Lib.hid (four_part.below hb)
  have HB : Hid (Below w.heap.size w w2) := Lib.hid (below_call (by repeat (first | with_reducible exact belR | with_reducible apply belA | (with_reducible refine belS ?_ ?_; focus (first | omega | (simp; done) | (simp; omega))) | with_reducible apply belN | with_reducible apply belD | with_reducible assumption)) (by first | omega | (simp; done) | (simp; omega)) hb)
  have hs2 : w.heap.size + 3 ≤ w2.heap.size := by have y := hb.size; simp at y; omega
  replace HK := Lib.hid (HK.out.below HB.out)
  clear hb
  cases n1 : isScriptF l
  · have HE : Hid (newMachineF l = ⟨[], 0, [0, 0, 0, 0], 0, true, false⟩) := Lib.hid (by unfold newMachineF; rw [n1]; rfl)
    have ⟨c_HX, z_HX, f_HX⟩ := HX.out
    have ⟨c_HY, z_HY, f_HY⟩ := HY.out
    go_wp2
    have cr := (sets6 (b0 := .slice none 0 0) (b1 := .int .i64 0) (b2 := .slice (some ⟨w.heap.size + 1, 0, none⟩) 4 4) (b3 := .int .i64 0) (b4 := .bool true) (b5 := .bool false) (HX.out.setOther (g := w.heap.size + 2) (o := 4) (u := .bool true) (by omega))).cell
    refine bodyPost_ret (v := .agg #[.slice none 0 0, .int .i64 0, .slice (some ⟨w.heap.size + 1, 0, none⟩) 4 4, .int .i64 0, .bool true, .bool false]) (by simp [results, Try.results67, go_sem, cr]) rfl ⟨_, rfl, ?_, ?_⟩
    · rw [HE.out]
      refine DMachine.freshR (B := w.heap.size) (x := ⟨[], 0, [0, 0, 0, 0], 0, true, false⟩) (l0 := w.heap.size + 2) (u0 := w.heap.size + 2) Part.nil (l2 := w.heap.size + 1) (u2 := w.heap.size + 2) ?_ (by omega) (by omega) (by omega)
      exact partN (partN (partN (partN (partN (partN (partN HP.out (by omega)) (by omega)) (by omega)) (by omega)) (by omega)) (by omega)) (by omega)
    · have y := HB.out
      exact (by repeat (first | with_reducible exact belR | with_reducible apply belA | (with_reducible refine belS ?_ ?_; focus (first | omega | (simp; done) | (simp; omega))) | with_reducible apply belN | with_reducible apply belD | with_reducible assumption))
  · have HE : Hid (newMachineF l = ⟨l, 0, [0, 0, 0, 0], 0, false, false⟩) := Lib.hid (by unfold newMachineF; rw [n1]; rfl)
    have ⟨c_HX, z_HX, f_HX⟩ := HX.out
    have ⟨c_HY, z_HY, f_HY⟩ := HY.out
    go_wp2_with (at_builtin; refine wpList_grow _ rfl _ _ 51 51 rfl DInstr.flat w2.heap.size 113 i0 _ _ Try.underlying51 hi hz0 hz1 hz2 rfl _ [] rfl (lit_fresh DInstr.flat (w := _) (xs := #[]) (us := []) rfl rfl (by decide) (by simp) (by simp)) _ l rfl (DInstr.flat.src Try.underlying51 (HK.out.below (by repeat (first | with_reducible exact belR | with_reducible apply belA | (with_reducible refine belS ?_ ?_; focus (first | omega | (simp; done) | (simp; omega))) | with_reducible apply belN | with_reducible apply belD | with_reducible assumption)))) ?c1a ?c2a ?c3a ?c4a ?_)
    case c1a => exact (DInstr.flat.row HK.out).2
    case c2a => (try simp only [List.length_nil, Nat.zero_add]); omega
    case c3a => (try simp only [List.length_nil, Nat.zero_add]); unfold maxLen; omega
    try (case c4a => simp; try omega)
    intro ao1 cap1 w3 hf1 hb1
    have hB : Below w2.heap.size w2 w3 := (belA belR).trans hb1
    replace HX := Lib.hid (HX.out.keep hB)
    replace HY := Lib.hid (HY.out.keep hB)
    replace HP := Lib.hid (HP.out.below hB)
    replace HB := Lib.hid (HB.out.trans (hB.mono HB.out.size))
    have HF := Lib.hid (hf1.partAt (Nat.le_refl _))
    have hs3 := hB.size
    clear hB hf1 hb1
    clear c_HX z_HX f_HX c_HY z_HY f_HY
    have ⟨c_HX, z_HX, f_HX⟩ := HX.out
    have ⟨c_HY, z_HY, f_HY⟩ := HY.out
    go_wp2
    have cr := (sets6 (b0 := .slice ao1 l.length cap1) (b1 := .int .i64 0) (b2 := .slice (some ⟨w.heap.size + 1, 0, none⟩) 4 4) (b3 := .int .i64 0) (b4 := .bool false) (b5 := .bool false) (HX.out.setOther (g := w.heap.size + 2) (o := 0) (u := .slice ao1 l.length cap1) (by omega))).cell
    refine bodyPost_ret (v := .agg #[.slice ao1 l.length cap1, .int .i64 0, .slice (some ⟨w.heap.size + 1, 0, none⟩) 4 4, .int .i64 0, .bool false, .bool false]) (by simp [results, Try.results67, go_sem, cr]) rfl ⟨_, rfl, ?_, ?_⟩
    · rw [HE.out]
      refine DMachine.freshR (B := w.heap.size) (x := ⟨l, 0, [0, 0, 0, 0], 0, false, false⟩) (l0 := w2.heap.size) (u0 := w3.heap.size) (l2 := w.heap.size + 1) (u2 := w.heap.size + 2) ?_ ?_ (by omega) (by omega) (by omega)
      · exact partN (partN (partN (partN (partN (partN (partN HF.out (by omega)) (by omega)) (by omega)) (by omega)) (by omega)) (by omega)) (by omega)
      · exact partN (partN (partN (partN (partN (partN (partN HP.out (by omega)) (by omega)) (by omega)) (by omega)) (by omega)) (by omega)) (by omega)
    · have y := HB.out
      exact (by repeat (first | with_reducible exact belR | with_reducible apply belA | (with_reducible refine belS ?_ ?_; focus (first | omega | (simp; done) | (simp; omega))) | with_reducible apply belN | with_reducible apply belD | with_reducible assumption))

set_option maxRecDepth 100000 in
set_option maxHeartbeats 1600000 in
theorem specNewMachine (v : Value) (l : List DInstr) (w : World) (h : Reads (Rep.slice 113 DInstr.rep) w [v] l) (hs : l.length ≤ 1048600) :
    Calls Try.prog 64 #[v] w fun e w' => ∃ ds, e = .returned (.agg ds.toArray) ∧ Fresh DMachine.rep w.heap.size w' ds (newMachineF l) ∧ Below w.heap.size w w' := by
  have HK := Lib.hid h
  obtain ⟨fp, h⟩ := h
  obtain ⟨ao, c1, rfl, hm, _, hu⟩ := slice_open h
  clear hu h
  obtain ⟨i0, hi, hz0, hz1, hz2⟩ := info_parts infoInstr
  skip
  go_enter Try.func64, Try.ntmps64
  go_wp2_with fail
  refine (specIsScript _ l _ (HK.out.below (by repeat (first | with_reducible exact belR | with_reducible apply belA | (with_reducible refine belS ?_ ?_; focus (first | omega | (simp; done) | (simp; omega))) | with_reducible apply belN | with_reducible apply belD | with_reducible assumption)))).mono ?_
  rintro e w2 ⟨rfl, hb⟩
  have HX : Hid (WB w2 w.heap.size #[.slice none 0 0, .int .i64 0, .slice none 0 0, .int .i64 0, .bool false, .bool false]) := Lib.hid ((((WB.at rfl).growA).growA).keep hb)
  have HY : Hid (WB w2 (w.heap.size + 2) #[.slice none 0 0, .int .i64 0, .slice (some ⟨w.heap.size + 1, 0, none⟩) 4 4, .int .i64 0, .bool false, .bool false]) := Lib.hid ((WB.at (by simp)).keep hb)
  have HP : Hid (Part (Rep.slice 3 Rep.int) (w.heap.size + 1) (w.heap.size + 2) w2 [.slice (some ⟨w.heap.size + 1, 0, none⟩) 4 4] [0, 0, 0, 0]) := Lib.hid (four_part.below hb)
  have HB : Hid (Below w.heap.size w w2) := Lib.hid (below_call (by repeat (first | with_reducible exact belR | with_reducible apply belA | (with_reducible refine belS ?_ ?_; focus (first | omega | (simp; done) | (simp; omega))) | with_reducible apply belN | with_reducible apply belD | with_reducible assumption)) (by first | omega | (simp; done) | (simp; omega)) hb)
  have hs2 : w.heap.size + 3 ≤ w2.heap.size := by have y := hb.size; simp at y; omega
  replace HK := Lib.hid (HK.out.below HB.out)
  clear hb
  cases n1 : isScriptF l
  · have HE : Hid (newMachineF l = ⟨[], 0, [0, 0, 0, 0], 0, true, false⟩) := Lib.hid (by unfold newMachineF; rw [n1]; rfl)
    have ⟨c_HX, z_HX, f_HX⟩ := HX.out
    have ⟨c_HY, z_HY, f_HY⟩ := HY.out
    go_wp2
    have cr := (sets6 (b0 := .slice none 0 0) (b1 := .int .i64 0) (b2 := .slice (some ⟨w.heap.size + 1, 0, none⟩) 4 4) (b3 := .int .i64 0) (b4 := .bool true) (b5 := .bool false) (HX.out.setOther (g := w.heap.size + 2) (o := 4) (u := .bool true) (by omega))).cell
    refine bodyPost_ret (v := .agg #[.slice none 0 0, .int .i64 0, .slice (some ⟨w.heap.size + 1, 0, none⟩) 4 4, .int .i64 0, .bool true, .bool false]) (by simp [results, Try.results64, go_sem, cr]) rfl ⟨_, rfl, ?_, ?_⟩
    · rw [HE.out]
      refine DMachine.freshR (B := w.heap.size) (x := ⟨[], 0, [0, 0, 0, 0], 0, true, false⟩) (l0 := w.heap.size + 2) (u0 := w.heap.size + 2) Part.nil (l2 := w.heap.size + 1) (u2 := w.heap.size + 2) ?_ (by omega) (by omega) (by omega)
      exact partN (partN (partN (partN (partN (partN (partN HP.out (by omega)) (by omega)) (by omega)) (by omega)) (by omega)) (by omega)) (by omega)
    · have y := HB.out
      exact (by repeat (first | with_reducible exact belR | with_reducible apply belA | (with_reducible refine belS ?_ ?_; focus (first | omega | (simp; done) | (simp; omega))) | with_reducible apply belN | with_reducible apply belD | with_reducible assumption))
  · have HE : Hid (newMachineF l = ⟨l, 0, [0, 0, 0, 0], 0, false, false⟩) := Lib.hid (by unfold newMachineF; rw [n1]; rfl)
    have ⟨c_HX, z_HX, f_HX⟩ := HX.out
    have ⟨c_HY, z_HY, f_HY⟩ := HY.out
    go_wp2_with fail
    refine (specScriptCopy _ l _ HK.out hs).mono ?_
    rintro e w3 ⟨ao1, cap1, rfl, hf1, hb1⟩
    have hB : Below w2.heap.size w2 w3 := hb1
    replace HX := Lib.hid (HX.out.keep hB)
    replace HY := Lib.hid (HY.out.keep hB)
    replace HP := Lib.hid (HP.out.below hB)
    replace HB := Lib.hid (HB.out.trans (hB.mono HB.out.size))
    have HF := Lib.hid (hf1.partAt (Nat.le_refl _))
    have hs3 := hB.size
    clear hB hf1 hb1
    clear c_HX z_HX f_HX c_HY z_HY f_HY
    have ⟨c_HX, z_HX, f_HX⟩ := HX.out
    have ⟨c_HY, z_HY, f_HY⟩ := HY.out
    go_wp2
    have cr := (sets6 (b0 := .slice ao1 l.length cap1) (b1 := .int .i64 0) (b2 := .slice (some ⟨w.heap.size + 1, 0, none⟩) 4 4) (b3 := .int .i64 0) (b4 := .bool false) (b5 := .bool false) (HX.out.setOther (g := w.heap.size + 2) (o := 0) (u := .slice ao1 l.length cap1) (by omega))).cell
    refine bodyPost_ret (v := .agg #[.slice ao1 l.length cap1, .int .i64 0, .slice (some ⟨w.heap.size + 1, 0, none⟩) 4 4, .int .i64 0, .bool false, .bool false]) (by simp [results, Try.results64, go_sem, cr]) rfl ⟨_, rfl, ?_, ?_⟩
    · rw [HE.out]
      refine DMachine.freshR (B := w.heap.size) (x := ⟨l, 0, [0, 0, 0, 0], 0, false, false⟩) (l0 := w2.heap.size) (u0 := w3.heap.size) (l2 := w.heap.size + 1) (u2 := w.heap.size + 2) ?_ ?_ (by omega) (by omega) (by omega)
      · exact partN (partN (partN (partN (partN (partN (partN HF.out (by omega)) (by omega)) (by omega)) (by omega)) (by omega)) (by omega)) (by omega)
      · exact partN (partN (partN (partN (partN (partN (partN HP.out (by omega)) (by omega)) (by omega)) (by omega)) (by omega)) (by omega)) (by omega)
    · have y := HB.out
      exact (by repeat (first | with_reducible exact belR | with_reducible apply belA | (with_reducible refine belS ?_ ?_; focus (first | omega | (simp; done) | (simp; omega))) | with_reducible apply belN | with_reducible apply belD | with_reducible assumption))

end Go.Proofs.Ytamdjeajmfjfmaa
