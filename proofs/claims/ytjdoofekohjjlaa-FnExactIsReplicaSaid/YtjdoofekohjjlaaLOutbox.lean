/-
  The laws' helpers for Outbox.
-/
import Derived.Test.YtjdoofekohjjlaaLWrite
import Derived.Test.YtjdoofekohjjlaaTOutbox
namespace Go.Proofs.Ytjdoofekohjjlaa
open Go.RowKit

def DOutbox.wt (x : DOutbox) : Nat := wtS DWrite.wt x.writes

set_option maxHeartbeats 400000 in
theorem szOutbox (cs : List Value) (x : DOutbox) (left : Int) (w : World) (h : Reads DOutbox.rep w cs x) (h0 : 0 ≤ left) (h1 : left ≤ 1048576) :
    Calls Try.prog 103 #[.agg cs.toArray, .int .i64 left] w fun e w' => e = .returned (.int .i64 (szOf x.wt left)) ∧ Below w.heap.size w w' := by
  obtain ⟨fp, h⟩ := h
  obtain ⟨v1, f1, rfl, _, r1⟩ := DOutbox.rd.1 h
  have HV1 : Hid (Reads (Rep.slice 72 DWrite.rep) w [v1] x.writes) := ⟨_, r1⟩
  clear h r1
  go_enter Try.func103, Try.ntmps103
  go_wp2_with fail
  have q1 : 0 ≤ left ∧ left ≤ 1048576 := by
    omega
  refine (szWriteS _ _ _ _ (HV1.out.below (by repeat (first | with_reducible exact belR | with_reducible apply belA | (with_reducible refine belS ?_ ?_; focus (first | omega | (simp; done) | (simp; omega))) | with_reducible apply belN | with_reducible apply belD | with_reducible assumption))) q1.1 q1.2).mono ?_
  rintro e w1 ⟨rfl, hb1⟩
  obtain ⟨hc1, hfz1⟩ := bcell hb1
  have hz1 : w.heap.size < w1.heap.size := by have y := hb1.size; simp at y; omega
  have HB1 := Lib.hid (below_call (w := w) (by repeat (first | with_reducible exact belR | with_reducible apply belA | (with_reducible refine belS ?_ ?_; focus (first | omega | (simp; done) | (simp; omega))) | with_reducible apply belN | with_reducible apply belD | with_reducible assumption)) (by first | omega | (simp; done) | (simp; omega)) hb1); clear hb1
  have bl1 : -1 ≤ szOf (wtS DWrite.wt x.writes) (left) ∧ szOf (wtS DWrite.wt x.writes) (left) ≤ 1048576 := by
    have a0 := szOf_spec (wtS DWrite.wt x.writes) (left)
    omega
  obtain ⟨bl1, bu1⟩ := bl1
  go_wp2_with fail
  · go_ret
    have y0 := HB1.out
    refine ⟨ret_int ?_, (by repeat (first | with_reducible exact belR | with_reducible apply belA | (with_reducible refine belS ?_ ?_; focus (first | omega | (simp; done) | (simp; omega))) | with_reducible apply belN | with_reducible apply belD | with_reducible assumption))⟩
    go_light
    have a0 := szOf_spec x.wt left
    have a1 := szOf_spec (wtS DWrite.wt x.writes) (left)
    unfold DOutbox.wt at *
    omega
  · go_ret
    have y0 := HB1.out
    refine ⟨ret_int ?_, (by repeat (first | with_reducible exact belR | with_reducible apply belA | (with_reducible refine belS ?_ ?_; focus (first | omega | (simp; done) | (simp; omega))) | with_reducible apply belN | with_reducible apply belD | with_reducible assumption))⟩
    go_light
    have a0 := szOf_spec x.wt left
    have a1 := szOf_spec (wtS DWrite.wt x.writes) (left)
    unfold DOutbox.wt at *
    omega

set_option maxHeartbeats 800000 in
theorem toOutbox (cs : List Value) (x : DOutbox) (w : World) (h : Reads DOutbox.rep w cs x) (_hsmall : x.wt ≤ 1048576) :
    Calls Try.prog 105 #[.agg cs.toArray] w fun e w' => ∃ ds, e = .returned (.agg ds.toArray) ∧ Fresh DOutbox.rep w.heap.size w' ds x ∧ Below w.heap.size w w' := by
  obtain ⟨fp, h⟩ := h
  obtain ⟨v1, f1, rfl, _, r1⟩ := DOutbox.rd.1 h
  have HV1 : Hid (Reads (Rep.slice 72 DWrite.rep) w [v1] x.writes) := ⟨_, r1⟩
  have d1 : wtS DWrite.wt x.writes ≤ 1048576 := by unfold DOutbox.wt at _hsmall; omega
  clear h r1
  go_enter Try.func105, Try.ntmps105
  go_wp2_with fail
  refine (toWriteS _ _ _ (HV1.out.below (by repeat (first | with_reducible exact belR | with_reducible apply belA | (with_reducible refine belS ?_ ?_; focus (first | omega | (simp; done) | (simp; omega))) | with_reducible apply belN | with_reducible apply belD | with_reducible assumption))) d1).mono ?_
  rintro e w1 ⟨t1, rfl, hf1, hb1⟩
  obtain ⟨ao1, cap1, rfl⟩ := hf1.slice
  obtain ⟨hc1, hfz1⟩ := bcell hb1
  have hs1 : w.heap.size + 1 + 1 + 1 ≤ w1.heap.size := by have y := hb1.size; simp at y; omega
  have hz10 : w.heap.size < w1.heap.size := by omega
  have hz11 : w.heap.size + 1 < w1.heap.size := by omega
  have hz12 : w.heap.size + 1 + 1 < w1.heap.size := by omega
  have HF1 := Lib.hid (hf1.mono (B' := w.heap.size + 1 + 1 + 1) (by first | omega | (simp; done) | (simp; omega)))
  have HB1 := Lib.hid (below_call (w := w) (by repeat (first | with_reducible exact belR | with_reducible apply belA | (with_reducible refine belS ?_ ?_; focus (first | omega | (simp; done) | (simp; omega))) | with_reducible apply belN | with_reducible apply belD | with_reducible assumption)) (by first | omega | (simp; done) | (simp; omega)) hb1)
  clear hb1 hf1
  go_wp2
  refine bodyPost_ret (v := .agg #[.int .i64 x.device, .int .i64 x.next, .slice ao1 x.writes.length cap1]) (by first | (simp [results, Try.results105, go_sem]; done) | (simp [results, Try.results105, go_sem, hc1]; done)) rfl ⟨_, rfl, ?_, ?_⟩
  · exact DOutbox.fresh (HF1.out.part (by repeat (first | with_reducible exact abR | with_reducible apply abA | (with_reducible refine abS ?_ ?_; focus (first | omega | (simp; done) | (simp; omega))) | with_reducible apply abN | with_reducible apply abD | with_reducible assumption))) (by first | omega | (simp; done) | (simp; omega))  
  · have y := HB1.out
    exact (by repeat (first | with_reducible exact belR | with_reducible apply belA | (with_reducible refine belS ?_ ?_; focus (first | omega | (simp; done) | (simp; omega))) | with_reducible apply belN | with_reducible apply belD | with_reducible assumption))

set_option maxHeartbeats 800000 in
theorem eqOutbox (cs ds : List Value) (x : DOutbox) (w : World) (h : Reads DOutbox.rep w cs x) (h' : Reads DOutbox.rep w ds x) :
    Calls Try.prog 107 #[.agg cs.toArray, .agg ds.toArray] w fun e w' => e = .returned (.bool true) ∧ Below w.heap.size w w' := by
  obtain ⟨fp, h0⟩ := h
  obtain ⟨vv1, vf1, rfl, _, vr1⟩ := DOutbox.rd.1 h0
  have HV1 : Hid (Reads (Rep.slice 72 DWrite.rep) w [vv1] x.writes) := ⟨_, vr1⟩
  clear h0 vr1
  obtain ⟨fp, h0⟩ := h'
  obtain ⟨uv1, uf1, rfl, _, ur1⟩ := DOutbox.rd.1 h0
  have HU1 : Hid (Reads (Rep.slice 72 DWrite.rep) w [uv1] x.writes) := ⟨_, ur1⟩
  clear h0 ur1
  go_enter Try.func107, Try.ntmps107
  go_wp2_with fail
  refine (eqWriteS _ _ _ _ (HV1.out.below (by repeat (first | with_reducible exact belR | with_reducible apply belA | (with_reducible refine belS ?_ ?_; focus (first | omega | (simp; done) | (simp; omega))) | with_reducible apply belN | with_reducible apply belD | with_reducible assumption))) (HU1.out.below (by repeat (first | with_reducible exact belR | with_reducible apply belA | (with_reducible refine belS ?_ ?_; focus (first | omega | (simp; done) | (simp; omega))) | with_reducible apply belN | with_reducible apply belD | with_reducible assumption)))).mono ?_
  rintro e w1 ⟨rfl, hb1⟩
  obtain ⟨hc1, hfz1⟩ := bcell hb1
  have hs1 : w.heap.size + 1 + 1 ≤ w1.heap.size := by have y := hb1.size; simp at y; omega
  have hz10 : w.heap.size < w1.heap.size := by omega
  have hz11 : w.heap.size + 1 < w1.heap.size := by omega
  have HB1 := Lib.hid (below_call (w := w) (by repeat (first | with_reducible exact belR | with_reducible apply belA | (with_reducible refine belS ?_ ?_; focus (first | omega | (simp; done) | (simp; omega))) | with_reducible apply belN | with_reducible apply belD | with_reducible assumption)) (by first | omega | (simp; done) | (simp; omega)) hb1)
  clear hb1
  go_wp2
  go_ret
  have y := HB1.out
  exact ⟨rfl, (by repeat (first | with_reducible exact belR | with_reducible apply belA | (with_reducible refine belS ?_ ?_; focus (first | omega | (simp; done) | (simp; omega))) | with_reducible apply belN | with_reducible apply belD | with_reducible assumption))⟩

theorem infoOutbox : (Try.prog.info? 49).map (fun i => (i.zero, i.size, i.bytes)) = some (some (.agg #[.int .i64 0, .int .i64 0, .slice none 0 0]), 3, 40) := by kernel_rfl

def DOutbox.cnt (x : DOutbox) : Nat := 2 + wtT DWrite.cnt x.writes x.writes.length
def DOutbox.mk3 (k : Nat) (x : DOutbox) : DOutbox := ⟨((k : Int)), ((k : Int) + 1), marks DWrite.mk3 DWrite.cnt (k + 2) x.writes⟩

def DOutbox.mcnt (x : DOutbox) : Nat := wtT DWrite.cnt x.writes x.writes.length
def DOutbox.mks (x : DOutbox) (k : Nat) : DOutbox := { x with writes := marks DWrite.mk3 DWrite.cnt (k) x.writes }

set_option maxRecDepth 100000 in
set_option maxHeartbeats 800000 in
theorem markOutbox (cs : List Value) (x : DOutbox) (fp : List Nat) (k : Nat) (w : World) (h : DOutbox.rep.rd true w cs x fp) (hnd : fp.Nodup) (hk : k + x.mcnt ≤ 1000000000) :
    Calls Try.prog 137 #[.agg cs.toArray, .int .i64 k] w fun e w' => e = .returned (.int .i64 ((k + x.mcnt : Nat) : Int)) ∧ DOutbox.rep.rd true w' cs (x.mks k) fp ∧ Chg fp w w' := by
  have HL := Lib.hid (DOutbox.rep.lt h)
  obtain ⟨v1, f2, rfl, rfl, r0⟩ := DOutbox.parts h
  have n0 := hnd
  have R0 := Lib.hid r0
  clear h r0
  unfold DOutbox.mcnt at hk
  go_enter Try.func137, Try.ntmps137
  go_wp2_with fail
  refine (markWriteS _ x.writes fp (k) _ (Rep.frame (Rep.slice 72 DWrite.rep) (w' := w.alloc _) R0.out fun b hb => Below.heap_alloc _ _ _ (HL.out b hb)) n0 (by omega)).mono ?_
  rintro e w1 ⟨rfl, rd0, ch0⟩
  replace R0 := Lib.hid rd0
  have hx0 : w.heap.size ∉ fp := fun hx => Nat.lt_irrefl _ (HL.out _ hx)
  have hz1 : w.heap.size < w1.heap.size := by have y := ch0.size; simp at y; omega
  have hc1 : ∀ o, w1.cell? ⟨w.heap.size, o, none⟩ = _ := fun o => World.cell?_of_block (a := ⟨w.heap.size, o, none⟩) (ch0.block w.heap.size (by first | omega | (simp; done) | (simp; omega)) hx0)
  have C0 := Lib.hid ch0
  clear rd0 ch0 hx0
  go_wp2
  go_ret
  refine ⟨ret_int (by unfold DOutbox.mcnt; omega), ?_, ?_⟩
  · exact DOutbox.join (x := x.mks k) _ _ R0.out 
  · have z := Chg.trans (a := w) (Chg.of_below (fp := fp) (B := w.heap.size) (belA belR) (Nat.le_refl _)) (C0.out.mono (fq := fp) fun b hb => hb)
    exact z

set_option maxRecDepth 100000 in
set_option maxHeartbeats 800000 in
theorem heldOutbox (cs : List Value) (x : DOutbox) (k : Nat) (w : World) (h : Reads DOutbox.rep w cs (x.mks k)) (hk : k + x.mcnt ≤ 1000000000) :
    Calls Try.prog 138 #[.agg cs.toArray, .int .i64 k] w fun e w' => e = .returned (.int .i64 ((k + x.mcnt : Nat) : Int)) ∧ Below w.heap.size w w' := by
  obtain ⟨fp, h⟩ := h
  obtain ⟨v1, f2, rfl, _, r0⟩ := DOutbox.parts h
  have HV0 : Hid (Reads (Rep.slice 72 DWrite.rep) w [v1] (x.mks k).writes) := ⟨_, r0⟩
  clear h r0
  unfold DOutbox.mcnt at hk
  go_enter Try.func138, Try.ntmps138
  go_wp2_with fail
  refine (heldWriteS _ x.writes (k) _ (HV0.out.below (by repeat (first | with_reducible exact belR | with_reducible apply belA | (with_reducible refine belS ?_ ?_; focus (first | omega | (simp; done) | (simp; omega))) | with_reducible apply belN | with_reducible apply belD | with_reducible assumption))) (by omega)).mono ?_
  rintro e w1 ⟨rfl, hb1⟩
  obtain ⟨hc1, hfz1⟩ := bcell hb1
  have hz1 : w.heap.size < w1.heap.size := by have y := hb1.size; simp at y; omega
  have HB1 := Lib.hid (below_call (w := w) (by repeat (first | with_reducible exact belR | with_reducible apply belA | (with_reducible refine belS ?_ ?_; focus (first | omega | (simp; done) | (simp; omega))) | with_reducible apply belN | with_reducible apply belD | with_reducible assumption)) (by first | omega | (simp; done) | (simp; omega)) hb1); clear hb1
  go_wp2
  go_ret
  have y := HB1.out
  exact ⟨ret_int (by unfold DOutbox.mcnt; omega), (by repeat (first | with_reducible exact belR | with_reducible apply belA | (with_reducible refine belS ?_ ?_; focus (first | omega | (simp; done) | (simp; omega))) | with_reducible apply belN | with_reducible apply belD | with_reducible assumption))⟩

end Go.Proofs.Ytjdoofekohjjlaa
