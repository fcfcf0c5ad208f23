/-
  The laws' helpers for Machine.
-/
import Derived.Test.YtamdjeajmfjfmaaLInstr
import Derived.Test.YtamdjeajmfjfmaaTMachine
namespace Go.Proofs.Ytamdjeajmfjfmaa
open Go.RowKit

def DMachine.wt (x : DMachine) : Nat := wtS DInstr.wt x.script + wtS wt0 x.regs

set_option maxHeartbeats 400000 in
theorem szMachine (cs : List Value) (x : DMachine) (left : Int) (w : World) (h : Reads DMachine.rep w cs x) (h0 : 0 ≤ left) (h1 : left ≤ 1048576) :
    Calls Try.prog 76 #[.agg cs.toArray, .int .i64 left] w fun e w' => e = .returned (.int .i64 (szOf x.wt left)) ∧ Below w.heap.size w w' := by
  obtain ⟨fp, h⟩ := h
  obtain ⟨v1, v2, f1, f2, rfl, _, r1, r2⟩ := DMachine.rd.1 h
  have HV1 : Hid (Reads (Rep.slice 113 DInstr.rep) w [v1] x.script) := ⟨_, r1⟩
  have HV2 : Hid (Reads (Rep.slice 3 Rep.int) w [v2] x.regs) := ⟨_, r2⟩
  clear h r1 r2
  go_enter Try.func76, Try.ntmps76
  go_wp2_with fail
  have q1 : 0 ≤ left ∧ left ≤ 1048576 := by
    omega
  refine (szInstrS _ _ _ _ (HV1.out.below (by repeat (first | with_reducible exact belR | with_reducible apply belA | (with_reducible refine belS ?_ ?_; focus (first | omega | (simp; done) | (simp; omega))) | with_reducible apply belN | with_reducible apply belD | with_reducible assumption))) q1.1 q1.2).mono ?_
  rintro e w1 ⟨rfl, hb1⟩
  obtain ⟨hc1, hfz1⟩ := bcell hb1
  have hz1 : w.heap.size < w1.heap.size := by have y := hb1.size; (try simp at y); omega
  have HB1 := Lib.hid (below_call (B := w.heap.size) (w := w) (by repeat (first | with_reducible exact belR | with_reducible apply belA | (with_reducible refine belS ?_ ?_; focus (first | omega | (simp; done) | (simp; omega))) | with_reducible apply belN | with_reducible apply belD | with_reducible assumption)) (by first | omega | (simp; done) | (simp; omega)) hb1); clear hb1
  have bl1 : -1 ≤ szOf (wtS DInstr.wt x.script) (left) ∧ szOf (wtS DInstr.wt x.script) (left) ≤ 1048576 := by
    have a0 := szOf_spec (wtS DInstr.wt x.script) (left)
    omega
  obtain ⟨bl1, bu1⟩ := bl1
  go_wp2_with fail
  · go_ret
    have y0 := HB1.out
    refine ⟨ret_int ?_, (by repeat (first | with_reducible exact belR | with_reducible apply belA | (with_reducible refine belS ?_ ?_; focus (first | omega | (simp; done) | (simp; omega))) | with_reducible apply belN | with_reducible apply belD | with_reducible assumption))⟩
    go_light
    have a0 := szOf_spec x.wt left
    have a1 := szOf_spec (wtS DInstr.wt x.script) (left)
    unfold DMachine.wt at *
    omega
  have q2 : 0 ≤ szOf (wtS DInstr.wt x.script) (left) ∧ szOf (wtS DInstr.wt x.script) (left) ≤ 1048576 := by
    have a0 := szOf_spec (wtS DInstr.wt x.script) (left)
    omega
  refine (szIntS _ _ _ _ (HV2.out.below (by have y := HB1.out; exact (by repeat (first | with_reducible exact belR | with_reducible apply belA | (with_reducible refine belS ?_ ?_; focus (first | omega | (simp; done) | (simp; omega))) | with_reducible apply belN | with_reducible apply belD | with_reducible assumption)))) q2.1 q2.2).mono ?_
  rintro e w2 ⟨rfl, hb2⟩
  obtain ⟨hc2, hfz2⟩ := bcell hb2
  have hz2 : w.heap.size < w2.heap.size := by have y := hb2.size; (try simp at y); omega
  have HB2 := Lib.hid (below_call (B := w.heap.size) (w := w) (by have y := HB1.out; exact (by repeat (first | with_reducible exact belR | with_reducible apply belA | (with_reducible refine belS ?_ ?_; focus (first | omega | (simp; done) | (simp; omega))) | with_reducible apply belN | with_reducible apply belD | with_reducible assumption))) (by first | omega | (simp; done) | (simp; omega)) hb2); clear hb2
  have bl2 : -1 ≤ szOf (wtS wt0 x.regs) (szOf (wtS DInstr.wt x.script) (left)) ∧ szOf (wtS wt0 x.regs) (szOf (wtS DInstr.wt x.script) (left)) ≤ 1048576 := by
    have a0 := szOf_spec (wtS wt0 x.regs) (szOf (wtS DInstr.wt x.script) (left))
    omega
  obtain ⟨bl2, bu2⟩ := bl2
  go_wp2_with fail
  · go_ret
    have y0 := HB1.out
    have y1 := HB2.out
    refine ⟨ret_int ?_, (by repeat (first | with_reducible exact belR | with_reducible apply belA | (with_reducible refine belS ?_ ?_; focus (first | omega | (simp; done) | (simp; omega))) | with_reducible apply belN | with_reducible apply belD | with_reducible assumption))⟩
    go_light
    have a0 := szOf_spec x.wt left
    have a1 := szOf_spec (wtS DInstr.wt x.script) (left)
    have a2 := szOf_spec (wtS wt0 x.regs) (szOf (wtS DInstr.wt x.script) (left))
    unfold DMachine.wt at *
    omega
  · go_ret
    have y0 := HB1.out
    have y1 := HB2.out
    refine ⟨ret_int ?_, (by repeat (first | with_reducible exact belR | with_reducible apply belA | (with_reducible refine belS ?_ ?_; focus (first | omega | (simp; done) | (simp; omega))) | with_reducible apply belN | with_reducible apply belD | with_reducible assumption))⟩
    go_light
    have a0 := szOf_spec x.wt left
    have a1 := szOf_spec (wtS DInstr.wt x.script) (left)
    have a2 := szOf_spec (wtS wt0 x.regs) (szOf (wtS DInstr.wt x.script) (left))
    unfold DMachine.wt at *
    omega

set_option maxHeartbeats 800000 in
theorem toMachine (cs : List Value) (x : DMachine) (w : World) (h : Reads DMachine.rep w cs x) (_hsmall : x.wt ≤ 1048576) :
    Calls Try.prog 80 #[.agg cs.toArray] w fun e w' => ∃ ds, e = .returned (.agg ds.toArray) ∧ Fresh DMachine.rep w.heap.size w' ds x ∧ Below w.heap.size w w' := by
  obtain ⟨fp, h⟩ := h
  obtain ⟨v1, v2, f1, f2, rfl, _, r1, r2⟩ := DMachine.rd.1 h
  have HV1 : Hid (Reads (Rep.slice 113 DInstr.rep) w [v1] x.script) := ⟨_, r1⟩
  have d1 : wtS DInstr.wt x.script ≤ 1048576 := by unfold DMachine.wt at _hsmall; omega
  have HV2 : Hid (Reads (Rep.slice 3 Rep.int) w [v2] x.regs) := ⟨_, r2⟩
  have d2 : wtS wt0 x.regs ≤ 1048576 := by unfold DMachine.wt at _hsmall; omega
  clear h r1 r2
  go_enter Try.func80, Try.ntmps80
  go_wp2_with fail
  refine (toInstrS _ _ _ (HV1.out.below (by repeat (first | with_reducible exact belR | with_reducible apply belA | (with_reducible refine belS ?_ ?_; focus (first | omega | (simp; done) | (simp; omega))) | with_reducible apply belN | with_reducible apply belD | with_reducible assumption))) d1).mono ?_
  rintro e w1 ⟨t1, rfl, hf1, hb1⟩
  obtain ⟨ao1, cap1, rfl⟩ := hf1.slice
  obtain ⟨hc1, hfz1⟩ := bcell hb1
  have hs1 : w.heap.size + 1 + 1 + 1 ≤ w1.heap.size := by have y := hb1.size; (try simp at y); omega
  have hz10 : w.heap.size < w1.heap.size := by omega
  have hz11 : w.heap.size + 1 < w1.heap.size := by omega
  have hz12 : w.heap.size + 1 + 1 < w1.heap.size := by omega
  have HF1 := Lib.hid (hf1.mono (B' := w.heap.size + 1 + 1 + 1) (by first | omega | (simp; done) | (simp; omega)))
  have HB1 := Lib.hid (below_call (B := w.heap.size) (w := w) (by repeat (first | with_reducible exact belR | with_reducible apply belA | (with_reducible refine belS ?_ ?_; focus (first | omega | (simp; done) | (simp; omega))) | with_reducible apply belN | with_reducible apply belD | with_reducible assumption)) (by first | omega | (simp; done) | (simp; omega)) hb1)
  clear hb1 hf1
  go_wp2_with fail
  refine (toIntS _ _ _ (HV2.out.below (by have y := HB1.out; exact (by repeat (first | with_reducible exact belR | with_reducible apply belA | (with_reducible refine belS ?_ ?_; focus (first | omega | (simp; done) | (simp; omega))) | with_reducible apply belN | with_reducible apply belD | with_reducible assumption)))) d2).mono ?_
  rintro e w2 ⟨t2, rfl, hf2, hb2⟩
  obtain ⟨ao2, cap2, rfl⟩ := hf2.slice
  obtain ⟨hc2, hfz2⟩ := bcell hb2
  have hs2 : w1.heap.size ≤ w2.heap.size := by have y := hb2.size; (try simp at y); omega
  have hz20 : w.heap.size < w2.heap.size := by omega
  have hz21 : w.heap.size + 1 < w2.heap.size := by omega
  have hz22 : w.heap.size + 1 + 1 < w2.heap.size := by omega
  have HA1_2 : Hid (Abv (w.heap.size + 1 + 1 + 1) w1 w2) := abB (by repeat (first | with_reducible exact abR | with_reducible apply abA | (with_reducible refine abS ?_ ?_; focus (first | omega | (simp; done) | (simp; omega))) | with_reducible apply abN | with_reducible apply abD | with_reducible assumption)) hb2 (by first | omega | (simp; done) | (simp; omega))
  have HF2 := Lib.hid (hf2.mono (B' := w1.heap.size) (by first | omega | (simp; done) | (simp; omega)))
  have HB2 := Lib.hid (below_call (B := w.heap.size) (w := w) (by have y := HB1.out; exact (by repeat (first | with_reducible exact belR | with_reducible apply belA | (with_reducible refine belS ?_ ?_; focus (first | omega | (simp; done) | (simp; omega))) | with_reducible apply belN | with_reducible apply belD | with_reducible assumption))) (by first | omega | (simp; done) | (simp; omega)) hb2)
  clear hb2 hf2
  go_wp2
  refine bodyPost_ret (v := .agg #[.slice ao1 x.script.length cap1, .int .i64 x.pc, .slice ao2 x.regs.length cap2, .int .i64 x.steps, .bool x.done, .bool x.wait]) (by first | (simp [results, Try.results80, go_sem, hc1, hc2, hz11]; done)) rfl ⟨_, rfl, ?_, ?_⟩
  · exact DMachine.fresh (HF1.out.part (by have y := HA1_2.out; exact (by repeat (first | with_reducible exact abR | with_reducible apply abA | (with_reducible refine abS ?_ ?_; focus (first | omega | (simp; done) | (simp; omega))) | with_reducible apply abN | with_reducible apply abD | with_reducible assumption)))) (HF2.out.part (by repeat (first | with_reducible exact abR | with_reducible apply abA | (with_reducible refine abS ?_ ?_; focus (first | omega | (simp; done) | (simp; omega))) | with_reducible apply abN | with_reducible apply abD | with_reducible assumption))) (by first | omega | (simp; done) | (simp; omega)) (by first | omega | (simp; done) | (simp; omega)) (by first | omega | (simp; done) | (simp; omega)) 
  · have y := HB2.out
    exact (by repeat (first | with_reducible exact belR | with_reducible apply belA | (with_reducible refine belS ?_ ?_; focus (first | omega | (simp; done) | (simp; omega))) | with_reducible apply belN | with_reducible apply belD | with_reducible assumption))

set_option maxHeartbeats 800000 in
theorem eqMachine (cs ds : List Value) (x : DMachine) (w : World) (h : Reads DMachine.rep w cs x) (h' : Reads DMachine.rep w ds x) :
    Calls Try.prog 70 #[.agg cs.toArray, .agg ds.toArray] w fun e w' => e = .returned (.bool true) ∧ Below w.heap.size w w' := by
  obtain ⟨fp, h0⟩ := h
  obtain ⟨vv1, vv2, vf1, vf2, rfl, _, vr1, vr2⟩ := DMachine.rd.1 h0
  have HV1 : Hid (Reads (Rep.slice 113 DInstr.rep) w [vv1] x.script) := ⟨_, vr1⟩
  have HV2 : Hid (Reads (Rep.slice 3 Rep.int) w [vv2] x.regs) := ⟨_, vr2⟩
  clear h0 vr1 vr2
  obtain ⟨fp, h0⟩ := h'
  obtain ⟨uv1, uv2, uf1, uf2, rfl, _, ur1, ur2⟩ := DMachine.rd.1 h0
  have HU1 : Hid (Reads (Rep.slice 113 DInstr.rep) w [uv1] x.script) := ⟨_, ur1⟩
  have HU2 : Hid (Reads (Rep.slice 3 Rep.int) w [uv2] x.regs) := ⟨_, ur2⟩
  clear h0 ur1 ur2
  go_enter Try.func70, Try.ntmps70
  go_wp2_with fail
  refine (eqInstrS _ _ _ _ (HV1.out.below (by repeat (first | with_reducible exact belR | with_reducible apply belA | (with_reducible refine belS ?_ ?_; focus (first | omega | (simp; done) | (simp; omega))) | with_reducible apply belN | with_reducible apply belD | with_reducible assumption))) (HU1.out.below (by repeat (first | with_reducible exact belR | with_reducible apply belA | (with_reducible refine belS ?_ ?_; focus (first | omega | (simp; done) | (simp; omega))) | with_reducible apply belN | with_reducible apply belD | with_reducible assumption)))).mono ?_
  rintro e w1 ⟨rfl, hb1⟩
  obtain ⟨hc1, hfz1⟩ := bcell hb1
  have hs1 : w.heap.size + 1 + 1 ≤ w1.heap.size := by have y := hb1.size; (try simp at y); omega
  have hz10 : w.heap.size < w1.heap.size := by omega
  have hz11 : w.heap.size + 1 < w1.heap.size := by omega
  have HB1 := Lib.hid (below_call (B := w.heap.size) (w := w) (by repeat (first | with_reducible exact belR | with_reducible apply belA | (with_reducible refine belS ?_ ?_; focus (first | omega | (simp; done) | (simp; omega))) | with_reducible apply belN | with_reducible apply belD | with_reducible assumption)) (by first | omega | (simp; done) | (simp; omega)) hb1)
  clear hb1
  go_wp2_with fail
  refine (eqIntS _ _ _ _ (HV2.out.below (by have y := HB1.out; exact (by repeat (first | with_reducible exact belR | with_reducible apply belA | (with_reducible refine belS ?_ ?_; focus (first | omega | (simp; done) | (simp; omega))) | with_reducible apply belN | with_reducible apply belD | with_reducible assumption)))) (HU2.out.below (by have y := HB1.out; exact (by repeat (first | with_reducible exact belR | with_reducible apply belA | (with_reducible refine belS ?_ ?_; focus (first | omega | (simp; done) | (simp; omega))) | with_reducible apply belN | with_reducible apply belD | with_reducible assumption))))).mono ?_
  rintro e w2 ⟨rfl, hb2⟩
  obtain ⟨hc2, hfz2⟩ := bcell hb2
  have hs2 : w1.heap.size ≤ w2.heap.size := by have y := hb2.size; (try simp at y); omega
  have hz20 : w.heap.size < w2.heap.size := by omega
  have hz21 : w.heap.size + 1 < w2.heap.size := by omega
  have HB2 := Lib.hid (below_call (B := w.heap.size) (w := w) (by have y := HB1.out; exact (by repeat (first | with_reducible exact belR | with_reducible apply belA | (with_reducible refine belS ?_ ?_; focus (first | omega | (simp; done) | (simp; omega))) | with_reducible apply belN | with_reducible apply belD | with_reducible assumption))) (by first | omega | (simp; done) | (simp; omega)) hb2)
  clear hb2
  go_wp2
  go_ret
  have y := HB2.out
  exact ⟨rfl, (by repeat (first | with_reducible exact belR | with_reducible apply belA | (with_reducible refine belS ?_ ?_; focus (first | omega | (simp; done) | (simp; omega))) | with_reducible apply belN | with_reducible apply belD | with_reducible assumption))⟩

theorem infoMachine : (Try.prog.info? 53).map (fun i => (i.zero, i.size, i.bytes)) = some (some (.agg #[.slice none 0 0, .int .i64 0, .slice none 0 0, .int .i64 0, .bool false, .bool false]), 6, 72) := by kernel_rfl

def DMachine.cnt (x : DMachine) : Nat := 4 + wtT DInstr.cnt x.script x.script.length + wtT cnt1 x.regs x.regs.length
def DMachine.mk3 (k : Nat) (x : DMachine) : DMachine := ⟨marks DInstr.mk3 DInstr.cnt (k) x.script, (((k + wtT DInstr.cnt x.script x.script.length : Nat) : Int)), marks mkInt cnt1 (k + wtT DInstr.cnt x.script x.script.length + 1) x.regs, (((k + wtT DInstr.cnt x.script x.script.length + 1 + wtT cnt1 x.regs x.regs.length : Nat) : Int)), ((((k + wtT DInstr.cnt x.script x.script.length + 1 + wtT cnt1 x.regs x.regs.length : Nat) : Int) + 1) % 3 == 0), ((((k + wtT DInstr.cnt x.script x.script.length + 1 + wtT cnt1 x.regs x.regs.length : Nat) : Int) + 1 + 1) % 3 == 0)⟩

def DMachine.mcnt (x : DMachine) : Nat := wtT DInstr.cnt x.script x.script.length + wtT cnt1 x.regs x.regs.length
def DMachine.mks (x : DMachine) (k : Nat) : DMachine := { x with script := marks DInstr.mk3 DInstr.cnt (k) x.script, regs := marks mkInt cnt1 (k + wtT DInstr.cnt x.script x.script.length) x.regs }

set_option maxRecDepth 100000 in
set_option maxHeartbeats 800000 in
theorem markMachine (cs : List Value) (x : DMachine) (fp : List Nat) (k : Nat) (w : World) (h : DMachine.rep.rd true w cs x fp) (hnd : fp.Nodup) (hk : k + x.mcnt ≤ 1000000000) :
    Calls Try.prog 72 #[.agg cs.toArray, .int .i64 k] w fun e w' => e = .returned (.int .i64 ((k + x.mcnt : Nat) : Int)) ∧ DMachine.rep.rd true w' cs (x.mks k) fp ∧ Chg fp w w' := by
  have HL := Lib.hid (DMachine.rep.lt h)
  obtain ⟨v1, v2, f0, f2, rfl, rfl, r0, r1⟩ := DMachine.parts h
  have n0 : (f0).Nodup := (List.nodup_append.1 hnd).1
  have J0 := Lib.hid (fun b (h1 : b ∈ f0) (h2 : b ∈ f2) => (List.nodup_append.1 hnd).2.2 b h1 b h2 rfl)
  replace hnd := (List.nodup_append.1 hnd).2.1
  have n1 := hnd
  have R0 := Lib.hid r0
  have R1 := Lib.hid r1
  clear h r0 r1
  unfold DMachine.mcnt at hk
  go_enter Try.func72, Try.ntmps72
  go_wp2_with fail
  refine (markInstrS _ x.script f0 (k) _ (Rep.frame (Rep.slice 113 DInstr.rep) (w' := w.alloc _) R0.out fun b hb => Below.heap_alloc _ _ _ (HL.out b (List.mem_append.2 (.inl hb)))) n0 (by omega)).mono ?_
  rintro e w1 ⟨rfl, rd0, ch0⟩
  replace R1 := Lib.hid (ch0.keeps (Rep.frame (Rep.slice 3 Rep.int) (w' := w.alloc _) R1.out fun b hb => Below.heap_alloc _ _ _ (HL.out b (List.mem_append.2 (.inr hb)))) (fun b h1 h2 => J0.out b h2 h1))
  replace R0 := Lib.hid rd0
  have hx0 : w.heap.size ∉ f0 := fun hx => Nat.lt_irrefl _ (HL.out _ (List.mem_append.2 (.inl hx)))
  have hz1 : w.heap.size < w1.heap.size := by have y := ch0.size; (try simp at y); omega
  have hc1 : ∀ o, w1.cell? ⟨w.heap.size, o, none⟩ = _ := fun o => World.cell?_of_block (a := ⟨w.heap.size, o, none⟩) (ch0.block w.heap.size (by first | omega | (simp; done) | (simp; omega)) hx0)
  have C0 := Lib.hid ch0
  clear rd0 ch0 hx0
  go_wp2_with fail
  refine (markIntS _ x.regs f2 (k + wtT DInstr.cnt x.script x.script.length) _ R1.out n1 (by omega)).mono ?_
  rintro e w2 ⟨rfl, rd1, ch1⟩
  replace R0 := Lib.hid (ch1.keeps R0.out (fun b h1 h2 => J0.out b h1 h2))
  replace R1 := Lib.hid rd1
  have hx1 : w.heap.size ∉ f2 := fun hx => Nat.lt_irrefl _ (HL.out _ (List.mem_append.2 (.inr hx)))
  have hz2 : w.heap.size < w2.heap.size := by have y := ch1.size; (try simp at y); omega
  have hc2 : ∀ o, w2.cell? ⟨w.heap.size, o, none⟩ = _ := fun o => World.cell?_of_block (a := ⟨w.heap.size, o, none⟩) (ch1.block w.heap.size (by first | omega | (simp; done) | (simp; omega)) hx1)
  have C1 := Lib.hid ch1
  clear rd1 ch1 hx1
  go_wp2
  go_ret
  refine ⟨ret_int (by unfold DMachine.mcnt; omega), ?_, ?_⟩
  · exact DMachine.join (x := x.mks k) _ _ R0.out _ _ R1.out 
  · have z := Chg.trans (a := w) (Chg.of_below (fp := f0 ++ (f2)) (B := w.heap.size) (belA belR) (Nat.le_refl _)) (C0.out.mono (fq := f0 ++ (f2)) fun b hb => (List.mem_append.2 (.inl hb)))
    replace z := z.trans (C1.out.mono (fq := f0 ++ (f2)) fun b hb => (List.mem_append.2 (.inr hb)))
    exact z

set_option maxRecDepth 100000 in
set_option maxHeartbeats 800000 in
theorem heldMachine (cs : List Value) (x : DMachine) (k : Nat) (w : World) (h : Reads DMachine.rep w cs (x.mks k)) (hk : k + x.mcnt ≤ 1000000000) :
    Calls Try.prog 74 #[.agg cs.toArray, .int .i64 k] w fun e w' => e = .returned (.int .i64 ((k + x.mcnt : Nat) : Int)) ∧ Below w.heap.size w w' := by
  obtain ⟨fp, h⟩ := h
  obtain ⟨v1, v2, f0, f2, rfl, _, r0, r1⟩ := DMachine.parts h
  have HV0 : Hid (Reads (Rep.slice 113 DInstr.rep) w [v1] (x.mks k).script) := ⟨_, r0⟩
  have HV1 : Hid (Reads (Rep.slice 3 Rep.int) w [v2] (x.mks k).regs) := ⟨_, r1⟩
  clear h r0 r1
  unfold DMachine.mcnt at hk
  go_enter Try.func74, Try.ntmps74
  go_wp2_with fail
  refine (heldInstrS _ x.script (k) _ (HV0.out.below (by repeat (first | with_reducible exact belR | with_reducible apply belA | (with_reducible refine belS ?_ ?_; focus (first | omega | (simp; done) | (simp; omega))) | with_reducible apply belN | with_reducible apply belD | with_reducible assumption))) (by omega)).mono ?_
  rintro e w1 ⟨rfl, hb1⟩
  obtain ⟨hc1, hfz1⟩ := bcell hb1
  have hz1 : w.heap.size < w1.heap.size := by have y := hb1.size; (try simp at y); omega
  have HB1 := Lib.hid (below_call (w := w) (by repeat (first | with_reducible exact belR | with_reducible apply belA | (with_reducible refine belS ?_ ?_; focus (first | omega | (simp; done) | (simp; omega))) | with_reducible apply belN | with_reducible apply belD | with_reducible assumption)) (by first | omega | (simp; done) | (simp; omega)) hb1); clear hb1
  go_wp2_with fail
  refine (heldIntS _ x.regs (k + wtT DInstr.cnt x.script x.script.length) _ (HV1.out.below (by have y := HB1.out; exact (by repeat (first | with_reducible exact belR | with_reducible apply belA | (with_reducible refine belS ?_ ?_; focus (first | omega | (simp; done) | (simp; omega))) | with_reducible apply belN | with_reducible apply belD | with_reducible assumption)))) (by omega)).mono ?_
  rintro e w2 ⟨rfl, hb2⟩
  obtain ⟨hc2, hfz2⟩ := bcell hb2
  have hz2 : w.heap.size < w2.heap.size := by have y := hb2.size; (try simp at y); omega
  have HB2 := Lib.hid (below_call (w := w) (by have y := HB1.out; exact (by repeat (first | with_reducible exact belR | with_reducible apply belA | (with_reducible refine belS ?_ ?_; focus (first | omega | (simp; done) | (simp; omega))) | with_reducible apply belN | with_reducible apply belD | with_reducible assumption))) (by first | omega | (simp; done) | (simp; omega)) hb2); clear hb2
  go_wp2
  go_ret
  have y := HB2.out
  exact ⟨ret_int (by unfold DMachine.mcnt; omega), (by repeat (first | with_reducible exact belR | with_reducible apply belA | (with_reducible refine belS ?_ ?_; focus (first | omega | (simp; done) | (simp; omega))) | with_reducible apply belN | with_reducible apply belD | with_reducible assumption))⟩

end Go.Proofs.Ytamdjeajmfjfmaa
