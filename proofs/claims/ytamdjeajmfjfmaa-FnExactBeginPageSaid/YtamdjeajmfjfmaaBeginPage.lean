/-
  BeginPage.
-/
import Derived.Test.YtamdjeajmfjfmaaPageF
namespace Go.Proofs.Ytamdjeajmfjfmaa
open Go.RowKit

def pageOf (id : Int) (site top : ByteArray) (version : Int) (m : DMachine) : DPage := ⟨id, site, top, version, [], m⟩
def zeroMachine : DMachine := ⟨[], 0, [], 0, false, false⟩
def zeroPage : DPage := ⟨0, ⟨#[]⟩, ⟨#[]⟩, 0, [], zeroMachine⟩
def beginPageB (id : Int) (site top : ByteArray) (version : Int) (l : List DInstr) : Bool := isPageF (pageOf id site top version (newMachineF l))
def beginPageF (id : Int) (site top : ByteArray) (version : Int) (l : List DInstr) : DPage := if beginPageB id site top version l then pageOf id site top version (newMachineF l) else zeroPage
theorem zeroPage_fresh {B : Nat} {w : World} : Fresh DPage.rep B w [.int .i64 0, .string ⟨#[]⟩, .string ⟨#[]⟩, .int .i64 0, .slice none 0 0, .slice none 0 0, .int .i64 0, .slice none 0 0, .int .i64 0, .bool false, .bool false] zeroPage := by
  have hm : Part DMachine.rep B B w [.slice none 0 0, .int .i64 0, .slice none 0 0, .int .i64 0, .bool false, .bool false] zeroMachine :=
    ⟨[], DMachine.rd.2 ⟨_, _, [], [], rfl, rfl, (show (Rep.slice 113 DInstr.rep).rd true w [.slice none 0 0] [] [] from ⟨.slice none 0 0, [], rfl, rfl, rfl, by simp, ⟨none, 0, rfl, Nat.le_refl _, Nat.zero_le _, .inl rfl⟩, fun _ => World.ownsRow_nil w 0 _ _⟩), (show (Rep.slice 3 Rep.int).rd true w [.slice none 0 0] [] [] from ⟨.slice none 0 0, [], rfl, rfl, rfl, by simp, ⟨none, 0, rfl, Nat.le_refl _, Nat.zero_le _, .inl rfl⟩, fun _ => World.ownsRow_nil w 0 _ _⟩)⟩, List.nodup_nil, by simp⟩
  exact DPage.fresh (x := zeroPage) (l4 := B) (u4 := B) Part.nil hm (Nat.le_refl _) (Nat.le_refl _) (Nat.le_refl _) (by decide) (by decide)

set_option maxRecDepth 100000 in
set_option maxHeartbeats 3200000 in
theorem implBeginPage (id : Int) (site top : ByteArray) (version : Int) (v : Value) (l : List DInstr) (w : World) (h : Reads (Rep.slice 113 DInstr.rep) w [v] l) (hs : l.length ≤ 1048600) (s0 : site.size ≤ maxLen) (s1 : top.size ≤ maxLen) :
    Calls Try.prog 28 #[.int .i64 id, .string site, .string top, .int .i64 version, v] w fun e w' => ∃ ds, e = .returned (.tuple #[.agg ds.toArray, .bool (beginPageB id site top version l)]) ∧ Fresh DPage.rep w.heap.size w' ds (beginPageF id site top version l) ∧ Below w.heap.size w w' := by
  have HK := Lib.hid h
  obtain ⟨fp, h⟩ := h
  obtain ⟨ao, c1, rfl, hm, _, hu⟩ := slice_open h
  clear hu h
  go_enter Try.func28, Try.ntmps28
  go_wp2_with fail
  refine (implNewMachine _ l _ (HK.out.below (by repeat (first | with_reducible exact belR | with_reducible apply belA | (with_reducible refine belS ?_ ?_; focus (first | omega | (simp; done) | (simp; omega))) | with_reducible apply belN | with_reducible apply belD | with_reducible assumption))) hs).mono ?_
  rintro e w1 ⟨ds, rfl, hf, hb⟩
  have HN : Hid (beginPageB id site top version l = isPageF (pageOf id site top version (newMachineF l)) ∧ beginPageF id site top version l = if isPageF (pageOf id site top version (newMachineF l)) then pageOf id site top version (newMachineF l) else zeroPage) := Lib.hid ⟨rfl, rfl⟩
  generalize newMachineF l = m at *
  obtain ⟨a1, k1, a2, k2, rfl⟩ := DMachine.fshape hf
  have HX : Hid (WB w1 w.heap.size #[.int .i64 0, .string ⟨#[]⟩, .string ⟨#[]⟩, .int .i64 0, .slice none 0 0, .slice none 0 0, .int .i64 0, .slice none 0 0, .int .i64 0, .bool false, .bool false]) := Lib.hid ((WB.at rfl).keep hb)
  have HB : Hid (Below w.heap.size w w1) := Lib.hid (below_call (by repeat (first | with_reducible exact belR | with_reducible apply belA | (with_reducible refine belS ?_ ?_; focus (first | omega | (simp; done) | (simp; omega))) | with_reducible apply belN | with_reducible apply belD | with_reducible assumption)) (by first | omega | (simp; done) | (simp; omega)) hb)
  have hsz : w.heap.size + 1 ≤ w1.heap.size := by have y := hb.size; simp at y; omega
  have HP : Hid (Fresh DPage.rep (w.heap.size + 1) w1 [.int .i64 id, .string site, .string top, .int .i64 version, .slice none 0 0, .slice a1 m.script.length k1, .int .i64 m.pc, .slice a2 m.regs.length k2, .int .i64 m.steps, .bool m.done, .bool m.wait] (pageOf id site top version m)) := Lib.hid (DPage.fresh (x := pageOf id site top version m) (l4 := w.heap.size + 1) (u4 := w.heap.size + 1) Part.nil (hf.partAt (lo := w.heap.size + 1) (by simp)) (Nat.le_refl _) (Nat.le_refl _) (Nat.le_refl _) s0 s1)
  clear hb hf
  have ⟨c_HX, z_HX, f_HX⟩ := HX.out
  go_wp2_with fail
  refine (implIsPage _ (pageOf id site top version m) _ (HP.out.reads.below (by repeat (first | with_reducible exact belR | with_reducible apply belA | (with_reducible refine belS ?_ ?_; focus (first | omega | (simp; done) | (simp; omega))) | with_reducible apply belN | with_reducible apply belD | with_reducible assumption)))).mono ?_
  rintro e w2 ⟨rfl, hb⟩
  clear c_HX z_HX f_HX
  replace HX := Lib.hid (HX.out.growA.keep hb)
  have HY : Hid (WB w2 w1.heap.size #[.int .i64 id, .string site, .string top, .int .i64 version, .slice none 0 0, .slice a1 m.script.length k1, .int .i64 m.pc, .slice a2 m.regs.length k2, .int .i64 m.steps, .bool m.done, .bool m.wait]) := Lib.hid ((WB.at rfl).keep hb)
  replace HP := Lib.hid (HP.out.below ((belA belR).trans (hb.mono (by first | omega | (simp; done) | (simp; omega)))))
  replace HB : Hid (Below w.heap.size w w2) := Lib.hid (by have y := HB.out; have y2 := y.size; exact below_call (by repeat (first | with_reducible exact belR | with_reducible apply belA | (with_reducible refine belS ?_ ?_; focus (first | omega | (simp; done) | (simp; omega))) | with_reducible apply belN | with_reducible apply belD | with_reducible assumption)) (by first | omega | (simp; done) | (simp; omega)) hb)
  have hsz2 : w1.heap.size + 1 ≤ w2.heap.size := by have y := hb.size; simp at y; omega
  clear hb
  have ⟨c_HX, z_HX, f_HX⟩ := HX.out
  have ⟨c_HY, z_HY, f_HY⟩ := HY.out
  cases n1 : isPageF (pageOf id site top version m)
  · have HE1 : Hid (beginPageB id site top version l = false) := Lib.hid (HN.out.1.trans n1)
    have HE2 : Hid (beginPageF id site top version l = zeroPage) := Lib.hid (by rw [HN.out.2, n1]; rfl)
    go_wp2
    have cr := (sets11 (b0 := .int .i64 0) (b1 := .string ⟨#[]⟩) (b2 := .string ⟨#[]⟩) (b3 := .int .i64 0) (b4 := .slice none 0 0) (b5 := .slice none 0 0) (b6 := .int .i64 0) (b7 := .slice none 0 0) (b8 := .int .i64 0) (b9 := .bool false) (b10 := .bool false) HX.out).cell
    refine bodyPost_ret (v := .tuple #[.agg #[.int .i64 0, .string ⟨#[]⟩, .string ⟨#[]⟩, .int .i64 0, .slice none 0 0, .slice none 0 0, .int .i64 0, .slice none 0 0, .int .i64 0, .bool false, .bool false], .bool false]) (by simp [results, Try.results28, go_sem, cr]) rfl ⟨_, by rw [HE1.out], ?_, ?_⟩
    · rw [HE2.out]
      exact zeroPage_fresh
    · have y := HB.out
      exact (by repeat (first | with_reducible exact belR | with_reducible apply belA | (with_reducible refine belS ?_ ?_; focus (first | omega | (simp; done) | (simp; omega))) | with_reducible apply belN | with_reducible apply belD | with_reducible assumption))
  · have HE1 : Hid (beginPageB id site top version l = true) := Lib.hid (HN.out.1.trans n1)
    have HE2 : Hid (beginPageF id site top version l = pageOf id site top version m) := Lib.hid (by rw [HN.out.2, n1]; rfl)
    go_wp2
    have cr := (sets11 (b0 := .int .i64 id) (b1 := .string site) (b2 := .string top) (b3 := .int .i64 version) (b4 := .slice none 0 0) (b5 := .slice a1 m.script.length k1) (b6 := .int .i64 m.pc) (b7 := .slice a2 m.regs.length k2) (b8 := .int .i64 m.steps) (b9 := .bool m.done) (b10 := .bool m.wait) HX.out).cell
    refine bodyPost_ret (v := .tuple #[.agg #[.int .i64 id, .string site, .string top, .int .i64 version, .slice none 0 0, .slice a1 m.script.length k1, .int .i64 m.pc, .slice a2 m.regs.length k2, .int .i64 m.steps, .bool m.done, .bool m.wait], .bool true]) (by simp [results, Try.results28, go_sem, cr]) rfl ⟨_, by rw [HE1.out], ?_, ?_⟩
    · rw [HE2.out]
      exact (Fresh.mono (B := (w.heap.size + 1)) (by repeat (first | with_reducible exact HP.out | with_reducible refine Fresh.setLow ?_ (by omega) | with_reducible refine Fresh.drew ?_)) (by omega))
    · have y := HB.out
      exact (by repeat (first | with_reducible exact belR | with_reducible apply belA | (with_reducible refine belS ?_ ?_; focus (first | omega | (simp; done) | (simp; omega))) | with_reducible apply belN | with_reducible apply belD | with_reducible assumption))


set_option maxRecDepth 100000 in
set_option maxHeartbeats 3200000 in
theorem specBeginPage (id : Int) (site top : ByteArray) (version : Int) (v : Value) (l : List DInstr) (w : World) (h : Reads (Rep.slice 113 DInstr.rep) w [v] l) (hs : l.length ≤ 1048600) (s0 : site.size ≤ maxLen) (s1 : top.size ≤ maxLen) :
    Calls Try.prog 26 #[.int .i64 id, .string site, .string top, .int .i64 version, v] w fun e w' => ∃ ds, e = .returned (.tuple #[.agg ds.toArray, .bool (beginPageB id site top version l)]) ∧ Fresh DPage.rep w.heap.size w' ds (beginPageF id site top version l) ∧ Below w.heap.size w w' := by
  have HK := Lib.hid h
  obtain ⟨fp, h⟩ := h
  obtain ⟨ao, c1, rfl, hm, _, hu⟩ := slice_open h
  clear hu h
  go_enter Try.func26, Try.ntmps26
  go_wp2_with fail
  refine (specNewMachine _ l _ (HK.out.below (by repeat (first | with_reducible exact belR | with_reducible apply belA | (with_reducible refine belS ?_ ?_; focus (first | omega | (simp; done) | (simp; omega))) | with_reducible apply belN | with_reducible apply belD | with_reducible assumption))) hs).mono ?_
  rintro e w1 ⟨ds, rfl, hf, hb⟩
  have HN : Hid (beginPageB id site top version l = isPageF (pageOf id site top version (newMachineF l)) ∧ beginPageF id site top version l = if isPageF (pageOf id site top version (newMachineF l)) then pageOf id site top version (newMachineF l) else zeroPage) := Lib.hid ⟨rfl, rfl⟩
  generalize newMachineF l = m at *
  obtain ⟨a1, k1, a2, k2, rfl⟩ := DMachine.fshape hf
  have HX : Hid (WB w1 w.heap.size #[.int .i64 0, .string ⟨#[]⟩, .string ⟨#[]⟩, .int .i64 0, .slice none 0 0, .slice none 0 0, .int .i64 0, .slice none 0 0, .int .i64 0, .bool false, .bool false]) := Lib.hid ((WB.at rfl).keep hb)
  have HB : Hid (Below w.heap.size w w1) := Lib.hid (below_call (by repeat (first | with_reducible exact belR | with_reducible apply belA | (with_reducible refine belS ?_ ?_; focus (first | omega | (simp; done) | (simp; omega))) | with_reducible apply belN | with_reducible apply belD | with_reducible assumption)) (by first | omega | (simp; done) | (simp; omega)) hb)
  have hsz : w.heap.size + 1 ≤ w1.heap.size := by have y := hb.size; simp at y; omega
  have HP : Hid (Fresh DPage.rep (w.heap.size + 1) w1 [.int .i64 id, .string site, .string top, .int .i64 version, .slice none 0 0, .slice a1 m.script.length k1, .int .i64 m.pc, .slice a2 m.regs.length k2, .int .i64 m.steps, .bool m.done, .bool m.wait] (pageOf id site top version m)) := Lib.hid (DPage.fresh (x := pageOf id site top version m) (l4 := w.heap.size + 1) (u4 := w.heap.size + 1) Part.nil (hf.partAt (lo := w.heap.size + 1) (by simp)) (Nat.le_refl _) (Nat.le_refl _) (Nat.le_refl _) s0 s1)
  clear hb hf
  have ⟨c_HX, z_HX, f_HX⟩ := HX.out
  go_wp2_with fail
  refine (specIsPage _ (pageOf id site top version m) _ (HP.out.reads.below (by repeat (first | with_reducible exact belR | with_reducible apply belA | (with_reducible refine belS ?_ ?_; focus (first | omega | (simp; done) | (simp; omega))) | with_reducible apply belN | with_reducible apply belD | with_reducible assumption)))).mono ?_
  rintro e w2 ⟨rfl, hb⟩
  clear c_HX z_HX f_HX
  replace HX := Lib.hid (HX.out.growA.keep hb)
  have HY : Hid (WB w2 w1.heap.size #[.int .i64 id, .string site, .string top, .int .i64 version, .slice none 0 0, .slice a1 m.script.length k1, .int .i64 m.pc, .slice a2 m.regs.length k2, .int .i64 m.steps, .bool m.done, .bool m.wait]) := Lib.hid ((WB.at rfl).keep hb)
  replace HP := Lib.hid (HP.out.below ((belA belR).trans (hb.mono (by first | omega | (simp; done) | (simp; omega)))))
  replace HB : Hid (Below w.heap.size w w2) := Lib.hid (by have y := HB.out; have y2 := y.size; exact below_call (by repeat (first | with_reducible exact belR | with_reducible apply belA | (with_reducible refine belS ?_ ?_; focus (first | omega | (simp; done) | (simp; omega))) | with_reducible apply belN | with_reducible apply belD | with_reducible assumption)) (by first | omega | (simp; done) | (simp; omega)) hb)
  have hsz2 : w1.heap.size + 1 ≤ w2.heap.size := by have y := hb.size; simp at y; omega
  clear hb
  have ⟨c_HX, z_HX, f_HX⟩ := HX.out
  have ⟨c_HY, z_HY, f_HY⟩ := HY.out
  cases n1 : isPageF (pageOf id site top version m)
  · have HE1 : Hid (beginPageB id site top version l = false) := Lib.hid (HN.out.1.trans n1)
    have HE2 : Hid (beginPageF id site top version l = zeroPage) := Lib.hid (by rw [HN.out.2, n1]; rfl)
    go_wp2
    have cr := (sets11 (b0 := .int .i64 0) (b1 := .string ⟨#[]⟩) (b2 := .string ⟨#[]⟩) (b3 := .int .i64 0) (b4 := .slice none 0 0) (b5 := .slice none 0 0) (b6 := .int .i64 0) (b7 := .slice none 0 0) (b8 := .int .i64 0) (b9 := .bool false) (b10 := .bool false) HX.out).cell
    refine bodyPost_ret (v := .tuple #[.agg #[.int .i64 0, .string ⟨#[]⟩, .string ⟨#[]⟩, .int .i64 0, .slice none 0 0, .slice none 0 0, .int .i64 0, .slice none 0 0, .int .i64 0, .bool false, .bool false], .bool false]) (by simp [results, Try.results26, go_sem, cr]) rfl ⟨_, by rw [HE1.out], ?_, ?_⟩
    · rw [HE2.out]
      exact zeroPage_fresh
    · have y := HB.out
      exact (by repeat (first | with_reducible exact belR | with_reducible apply belA | (with_reducible refine belS ?_ ?_; focus (first | omega | (simp; done) | (simp; omega))) | with_reducible apply belN | with_reducible apply belD | with_reducible assumption))
  · have HE1 : Hid (beginPageB id site top version l = true) := Lib.hid (HN.out.1.trans n1)
    have HE2 : Hid (beginPageF id site top version l = pageOf id site top version m) := Lib.hid (by rw [HN.out.2, n1]; rfl)
    go_wp2
    have cr := (sets11 (b0 := .int .i64 id) (b1 := .string site) (b2 := .string top) (b3 := .int .i64 version) (b4 := .slice none 0 0) (b5 := .slice a1 m.script.length k1) (b6 := .int .i64 m.pc) (b7 := .slice a2 m.regs.length k2) (b8 := .int .i64 m.steps) (b9 := .bool m.done) (b10 := .bool m.wait) HX.out).cell
    refine bodyPost_ret (v := .tuple #[.agg #[.int .i64 id, .string site, .string top, .int .i64 version, .slice none 0 0, .slice a1 m.script.length k1, .int .i64 m.pc, .slice a2 m.regs.length k2, .int .i64 m.steps, .bool m.done, .bool m.wait], .bool true]) (by simp [results, Try.results26, go_sem, cr]) rfl ⟨_, by rw [HE1.out], ?_, ?_⟩
    · rw [HE2.out]
      exact (Fresh.mono (B := (w.heap.size + 1)) (by repeat (first | with_reducible exact HP.out | with_reducible refine Fresh.setLow ?_ (by omega) | with_reducible refine Fresh.drew ?_)) (by omega))
    · have y := HB.out
      exact (by repeat (first | with_reducible exact belR | with_reducible apply belA | (with_reducible refine belS ?_ ?_; focus (first | omega | (simp; done) | (simp; omega))) | with_reducible apply belN | with_reducible apply belD | with_reducible assumption))

end Go.Proofs.Ytamdjeajmfjfmaa
