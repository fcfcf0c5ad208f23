/-
  The laws' helpers for Push.
-/
import Derived.Test.YtjjaghnblljleaaMarkSl
import Derived.Test.YtjjaghnblljleaaTPush
namespace Go.Proofs.Ytjjaghnblljleaa
open Go.RowKit

def DPush.wt (x : DPush) : Nat := x.site.size + wtS wt0 x.data

set_option maxHeartbeats 400000 in
theorem szPush (cs : List Value) (x : DPush) (left : Int) (w : World) (h : Reads DPush.rep w cs x) (h0 : 0 ≤ left) (h1 : left ≤ 1048576) :
    Calls Try.prog 47 #[.agg cs.toArray, .int .i64 left] w fun e w' => e = .returned (.int .i64 (szOf x.wt left)) ∧ Below w.heap.size w w' := by
  obtain ⟨fp, h⟩ := h
  obtain ⟨v1, f1, rfl, _, s0, r1⟩ := DPush.rd.1 h
  have HV1 : Hid (Reads (Rep.slice 5 Rep.byte) w [v1] x.data) := ⟨_, r1⟩
  clear h r1
  unfold maxLen at s0
  go_enter Try.func47, Try.ntmps47
  go_wp2_with fail
  · go_ret
    refine ⟨ret_int ?_, (by repeat (first | with_reducible exact belR | with_reducible apply belA | (with_reducible refine belS ?_ ?_; focus (first | omega | (simp; done) | (simp; omega))) | with_reducible apply belN | with_reducible apply belD | with_reducible assumption))⟩
    go_light
    have a0 := szOf_spec x.wt left
    unfold DPush.wt at *
    omega
  have q1 : 0 ≤ (left - (x.site.size : Int)) ∧ (left - (x.site.size : Int)) ≤ 1048576 := by
    omega
  refine (szByteS _ _ _ _ (HV1.out.below (by repeat (first | with_reducible exact belR | with_reducible apply belA | (with_reducible refine belS ?_ ?_; focus (first | omega | (simp; done) | (simp; omega))) | with_reducible apply belN | with_reducible apply belD | with_reducible assumption))) q1.1 q1.2).mono ?_
  rintro e w1 ⟨rfl, hb1⟩
  obtain ⟨hc1, hfz1⟩ := bcell hb1
  have hz1 : w.heap.size < w1.heap.size := by have y := hb1.size; simp at y; omega
  have HB1 := Lib.hid (below_call (w := w) (by repeat (first | with_reducible exact belR | with_reducible apply belA | (with_reducible refine belS ?_ ?_; focus (first | omega | (simp; done) | (simp; omega))) | with_reducible apply belN | with_reducible apply belD | with_reducible assumption)) (by first | omega | (simp; done) | (simp; omega)) hb1); clear hb1
  have bl1 : -1 ≤ szOf (wtS wt0 x.data) ((left - (x.site.size : Int))) ∧ szOf (wtS wt0 x.data) ((left - (x.site.size : Int))) ≤ 1048576 := by
    have a0 := szOf_spec (wtS wt0 x.data) ((left - (x.site.size : Int)))
    omega
  obtain ⟨bl1, bu1⟩ := bl1
  go_wp2_with fail
  · go_ret
    have y0 := HB1.out
    refine ⟨ret_int ?_, (by repeat (first | with_reducible exact belR | with_reducible apply belA | (with_reducible refine belS ?_ ?_; focus (first | omega | (simp; done) | (simp; omega))) | with_reducible apply belN | with_reducible apply belD | with_reducible assumption))⟩
    go_light
    have a0 := szOf_spec x.wt left
    have a1 := szOf_spec (wtS wt0 x.data) ((left - (x.site.size : Int)))
    unfold DPush.wt at *
    omega
  · go_ret
    have y0 := HB1.out
    refine ⟨ret_int ?_, (by repeat (first | with_reducible exact belR | with_reducible apply belA | (with_reducible refine belS ?_ ?_; focus (first | omega | (simp; done) | (simp; omega))) | with_reducible apply belN | with_reducible apply belD | with_reducible assumption))⟩
    go_light
    have a0 := szOf_spec x.wt left
    have a1 := szOf_spec (wtS wt0 x.data) ((left - (x.site.size : Int)))
    unfold DPush.wt at *
    omega

set_option maxHeartbeats 800000 in
theorem toPush (cs : List Value) (x : DPush) (w : World) (h : Reads DPush.rep w cs x) (_hsmall : x.wt ≤ 1048576) :
    Calls Try.prog 50 #[.agg cs.toArray] w fun e w' => ∃ ds, e = .returned (.agg ds.toArray) ∧ Fresh DPush.rep w.heap.size w' ds x ∧ Below w.heap.size w w' := by
  obtain ⟨fp, h⟩ := h
  obtain ⟨v1, f1, rfl, _, s0, r1⟩ := DPush.rd.1 h
  have HV1 : Hid (Reads (Rep.slice 5 Rep.byte) w [v1] x.data) := ⟨_, r1⟩
  have d1 : wtS wt0 x.data ≤ 1048576 := by unfold DPush.wt at _hsmall; omega
  clear h r1
  go_enter Try.func50, Try.ntmps50
  go_wp2_with fail
  refine (toByteS _ _ _ (HV1.out.below (by repeat (first | with_reducible exact belR | with_reducible apply belA | (with_reducible refine belS ?_ ?_; focus (first | omega | (simp; done) | (simp; omega))) | with_reducible apply belN | with_reducible apply belD | with_reducible assumption))) d1).mono ?_
  rintro e w1 ⟨t1, rfl, hf1, hb1⟩
  obtain ⟨ao1, cap1, rfl⟩ := hf1.slice
  obtain ⟨hc1, hfz1⟩ := bcell hb1
  have hs1 : w.heap.size + 1 + 1 + 1 ≤ w1.heap.size := by have y := hb1.size; simp at y; omega
  have hz10 : w.heap.size < w1.heap.size := by omega
  have hz11 : w.heap.size + 1 < w1.heap.size := by omega
  have hz12 : w.heap.size + 1 + 1 < w1.heap.size := by omega
  have HF1 := Lib.hid (hf1.mono (B' := w.heap.size + 1 + 1 + 1) (by first | omega | (simp; done) | (simp; omega)))
  have HB1 := Lib.hid (below_call (w := w) (by repeat (first | with_reducible exact belR | with_reducible apply belA | (with_reducible refine belS ?_ ?_; focus (first | omega | (simp; done) | (simp; omega))) | with_reducible apply belN | with_reducible apply belD | with_reducible assumption)) (by first | omega | (simp; done) | (simp; omega)) hb1)
  clear hb1 hf1
  go_wp2
  refine bodyPost_ret (v := .agg #[.string x.site, .int .i64 x.number, .slice ao1 x.data.length cap1, .int .i64 x.mac]) (by first | (simp [results, Try.results50, go_sem]; done) | (simp [results, Try.results50, go_sem, hc1]; done)) rfl ⟨_, rfl, ?_, ?_⟩
  · exact DPush.fresh (HF1.out.part (by repeat (first | with_reducible exact abR | with_reducible apply abA | (with_reducible refine abS ?_ ?_; focus (first | omega | (simp; done) | (simp; omega))) | with_reducible apply abN | with_reducible apply abD | with_reducible assumption))) (by first | omega | (simp; done) | (simp; omega))  s0
  · have y := HB1.out
    exact (by repeat (first | with_reducible exact belR | with_reducible apply belA | (with_reducible refine belS ?_ ?_; focus (first | omega | (simp; done) | (simp; omega))) | with_reducible apply belN | with_reducible apply belD | with_reducible assumption))

set_option maxHeartbeats 800000 in
theorem eqPush (cs ds : List Value) (x : DPush) (w : World) (h : Reads DPush.rep w cs x) (h' : Reads DPush.rep w ds x) :
    Calls Try.prog 52 #[.agg cs.toArray, .agg ds.toArray] w fun e w' => e = .returned (.bool true) ∧ Below w.heap.size w w' := by
  obtain ⟨fp, h0⟩ := h
  obtain ⟨vv1, vf1, rfl, _, vs0, vr1⟩ := DPush.rd.1 h0
  have HV1 : Hid (Reads (Rep.slice 5 Rep.byte) w [vv1] x.data) := ⟨_, vr1⟩
  clear h0 vr1
  obtain ⟨fp, h0⟩ := h'
  obtain ⟨uv1, uf1, rfl, _, us0, ur1⟩ := DPush.rd.1 h0
  have HU1 : Hid (Reads (Rep.slice 5 Rep.byte) w [uv1] x.data) := ⟨_, ur1⟩
  clear h0 ur1
  go_enter Try.func52, Try.ntmps52
  go_wp2_with fail
  refine (eqByteS _ _ _ _ (HV1.out.below (by repeat (first | with_reducible exact belR | with_reducible apply belA | (with_reducible refine belS ?_ ?_; focus (first | omega | (simp; done) | (simp; omega))) | with_reducible apply belN | with_reducible apply belD | with_reducible assumption))) (HU1.out.below (by repeat (first | with_reducible exact belR | with_reducible apply belA | (with_reducible refine belS ?_ ?_; focus (first | omega | (simp; done) | (simp; omega))) | with_reducible apply belN | with_reducible apply belD | with_reducible assumption)))).mono ?_
  rintro e w1 ⟨rfl, hb1⟩
  obtain ⟨hc1, hfz1⟩ := bcell hb1
  have hs1 : w.heap.size + 1 + 1 ≤ w1.heap.size := by have y := hb1.size; simp at y; omega
  have hz10 : w.heap.size < w1.heap.size := by omega
  have hz11 : w.heap.size + 1 < w1.heap.size := by omega
  have HB1 := Lib.hid (below_call (w := w) (by repeat (first | with_reducible exact belR | with_reducible apply belA | (with_reducible refine belS ?_ ?_; focus (first | omega | (simp; done) | (simp; omega))) | with_reducible apply belN | with_reducible apply belD | with_reducible assumption)) (by first | omega | (simp; done) | (simp; omega)) hb1)
  clear hb1
  go_wp2
  go_ret
  have y := HB1.out
  exact ⟨rfl, (by repeat (first | with_reducible exact belR | with_reducible apply belA | (with_reducible refine belS ?_ ?_; focus (first | omega | (simp; done) | (simp; omega))) | with_reducible apply belN | with_reducible apply belD | with_reducible assumption))⟩

theorem infoPush : (Try.prog.info? 87).map (fun i => (i.zero, i.size, i.bytes)) = some (some (.agg #[.string ⟨#[]⟩, .int .i64 0, .slice none 0 0, .int .i64 0]), 4, 56) := by kernel_rfl

def DPush.cnt (x : DPush) : Nat := 3 + wtT cnt1 x.data x.data.length
def DPush.mk3 (k : Nat) (x : DPush) : DPush := ⟨markT (k), ((k : Int) + 1), marks mkByte cnt1 (k + 2) x.data, (((k + 2 + wtT cnt1 x.data x.data.length : Nat) : Int))⟩

def DPush.mcnt (x : DPush) : Nat := wtT cnt1 x.data x.data.length
def DPush.mks (x : DPush) (k : Nat) : DPush := { x with data := marks mkByte cnt1 (k) x.data }

end Go.Proofs.Ytjjaghnblljleaa
