/-
  The laws' helpers for Server.
-/
import Derived.Test.YtjdoofekohjjlaaLStore
import Derived.Test.YtjdoofekohjjlaaLApplied
import Derived.Test.YtjdoofekohjjlaaLWrite
import Derived.Test.YtjdoofekohjjlaaTServer
namespace Go.Proofs.Ytjdoofekohjjlaa
open Go.RowKit

def DServer.wt (x : DServer) : Nat := x.store.wt + wtS DApplied.wt x.applied + wtS DWrite.wt x.changes

set_option maxHeartbeats 400000 in
theorem szServer (cs : List Value) (x : DServer) (left : Int) (w : World) (h : Reads DServer.rep w cs x) (h0 : 0 ≤ left) (h1 : left ≤ 1048576) :
    Calls Try.prog 11 #[.agg cs.toArray, .int .i64 left] w fun e w' => e = .returned (.int .i64 (szOf x.wt left)) ∧ Below w.heap.size w w' := by
  obtain ⟨fp, h⟩ := h
  obtain ⟨v1, v2, v3, f1, f2, f3, rfl, _, s0, r1, r2, r3⟩ := DServer.rd.1 h
  have HV1 : Hid (Reads DStore.rep w [.string x.store.name, v1, .int .i64 x.store.auto] x.store) := ⟨_, DStore.rd.2 ⟨_, _, rfl, rfl, s0, r1⟩⟩
  have HV2 : Hid (Reads (Rep.slice 86 DApplied.rep) w [v2] x.applied) := ⟨_, r2⟩
  have HV3 : Hid (Reads (Rep.slice 72 DWrite.rep) w [v3] x.changes) := ⟨_, r3⟩
  clear h r1 r2 r3
  unfold maxLen at s0
  go_enter Try.func11, Try.ntmps11
  go_wp2_with fail
  have q1 : 0 ≤ left ∧ left ≤ 1048576 := by
    omega
  refine (szStore _ _ _ _ (HV1.out.below (by repeat (first | with_reducible exact belR | with_reducible apply belA | (with_reducible refine belS ?_ ?_; focus (first | omega | (simp; done) | (simp; omega))) | with_reducible apply belN | with_reducible apply belD | with_reducible assumption))) q1.1 q1.2).mono ?_
  rintro e w1 ⟨rfl, hb1⟩
  obtain ⟨hc1, hfz1⟩ := bcell hb1
  have hz1 : w.heap.size < w1.heap.size := by have y := hb1.size; (try simp at y); omega
  have HB1 := Lib.hid (below_call (B := w.heap.size) (w := w) (by repeat (first | with_reducible exact belR | with_reducible apply belA | (with_reducible refine belS ?_ ?_; focus (first | omega | (simp; done) | (simp; omega))) | with_reducible apply belN | with_reducible apply belD | with_reducible assumption)) (by first | omega | (simp; done) | (simp; omega)) hb1); clear hb1
  have bl1 : -1 ≤ szOf (x.store.wt) (left) ∧ szOf (x.store.wt) (left) ≤ 1048576 := by
    have a0 := szOf_spec (x.store.wt) (left)
    omega
  obtain ⟨bl1, bu1⟩ := bl1
  go_wp2_with fail
  · go_ret
    have y0 := HB1.out
    refine ⟨ret_int ?_, (by repeat (first | with_reducible exact belR | with_reducible apply belA | (with_reducible refine belS ?_ ?_; focus (first | omega | (simp; done) | (simp; omega))) | with_reducible apply belN | with_reducible apply belD | with_reducible assumption))⟩
    go_light
    have a0 := szOf_spec x.wt left
    have a1 := szOf_spec (x.store.wt) (left)
    unfold DServer.wt at *
    omega
  have q2 : 0 ≤ szOf (x.store.wt) (left) ∧ szOf (x.store.wt) (left) ≤ 1048576 := by
    have a0 := szOf_spec (x.store.wt) (left)
    omega
  refine (szAppliedS _ _ _ _ (HV2.out.below (by have y := HB1.out; exact (by repeat (first | with_reducible exact belR | with_reducible apply belA | (with_reducible refine belS ?_ ?_; focus (first | omega | (simp; done) | (simp; omega))) | with_reducible apply belN | with_reducible apply belD | with_reducible assumption)))) q2.1 q2.2).mono ?_
  rintro e w2 ⟨rfl, hb2⟩
  obtain ⟨hc2, hfz2⟩ := bcell hb2
  have hz2 : w.heap.size < w2.heap.size := by have y := hb2.size; (try simp at y); omega
  have HB2 := Lib.hid (below_call (B := w.heap.size) (w := w) (by have y := HB1.out; exact (by repeat (first | with_reducible exact belR | with_reducible apply belA | (with_reducible refine belS ?_ ?_; focus (first | omega | (simp; done) | (simp; omega))) | with_reducible apply belN | with_reducible apply belD | with_reducible assumption))) (by first | omega | (simp; done) | (simp; omega)) hb2); clear hb2
  have bl2 : -1 ≤ szOf (wtS DApplied.wt x.applied) (szOf (x.store.wt) (left)) ∧ szOf (wtS DApplied.wt x.applied) (szOf (x.store.wt) (left)) ≤ 1048576 := by
    have a0 := szOf_spec (wtS DApplied.wt x.applied) (szOf (x.store.wt) (left))
    omega
  obtain ⟨bl2, bu2⟩ := bl2
  go_wp2_with fail
  · go_ret
    have y0 := HB1.out
    have y1 := HB2.out
    refine ⟨ret_int ?_, (by repeat (first | with_reducible exact belR | with_reducible apply belA | (with_reducible refine belS ?_ ?_; focus (first | omega | (simp; done) | (simp; omega))) | with_reducible apply belN | with_reducible apply belD | with_reducible assumption))⟩
    go_light
    have a0 := szOf_spec x.wt left
    have a1 := szOf_spec (x.store.wt) (left)
    have a2 := szOf_spec (wtS DApplied.wt x.applied) (szOf (x.store.wt) (left))
    unfold DServer.wt at *
    omega
  have q3 : 0 ≤ szOf (wtS DApplied.wt x.applied) (szOf (x.store.wt) (left)) ∧ szOf (wtS DApplied.wt x.applied) (szOf (x.store.wt) (left)) ≤ 1048576 := by
    have a0 := szOf_spec (x.store.wt) (left)
    have a1 := szOf_spec (wtS DApplied.wt x.applied) (szOf (x.store.wt) (left))
    omega
  refine (szWriteS _ _ _ _ (HV3.out.below (by have y := HB2.out; exact (by repeat (first | with_reducible exact belR | with_reducible apply belA | (with_reducible refine belS ?_ ?_; focus (first | omega | (simp; done) | (simp; omega))) | with_reducible apply belN | with_reducible apply belD | with_reducible assumption)))) q3.1 q3.2).mono ?_
  rintro e w3 ⟨rfl, hb3⟩
  obtain ⟨hc3, hfz3⟩ := bcell hb3
  have hz3 : w.heap.size < w3.heap.size := by have y := hb3.size; (try simp at y); omega
  have HB3 := Lib.hid (below_call (B := w.heap.size) (w := w) (by have y := HB2.out; exact (by repeat (first | with_reducible exact belR | with_reducible apply belA | (with_reducible refine belS ?_ ?_; focus (first | omega | (simp; done) | (simp; omega))) | with_reducible apply belN | with_reducible apply belD | with_reducible assumption))) (by first | omega | (simp; done) | (simp; omega)) hb3); clear hb3
  have bl3 : -1 ≤ szOf (wtS DWrite.wt x.changes) (szOf (wtS DApplied.wt x.applied) (szOf (x.store.wt) (left))) ∧ szOf (wtS DWrite.wt x.changes) (szOf (wtS DApplied.wt x.applied) (szOf (x.store.wt) (left))) ≤ 1048576 := by
    have a0 := szOf_spec (wtS DWrite.wt x.changes) (szOf (wtS DApplied.wt x.applied) (szOf (x.store.wt) (left)))
    omega
  obtain ⟨bl3, bu3⟩ := bl3
  go_wp2_with fail
  · go_ret
    have y0 := HB1.out
    have y1 := HB2.out
    have y2 := HB3.out
    refine ⟨ret_int ?_, (by repeat (first | with_reducible exact belR | with_reducible apply belA | (with_reducible refine belS ?_ ?_; focus (first | omega | (simp; done) | (simp; omega))) | with_reducible apply belN | with_reducible apply belD | with_reducible assumption))⟩
    go_light
    have a0 := szOf_spec x.wt left
    have a1 := szOf_spec (x.store.wt) (left)
    have a2 := szOf_spec (wtS DApplied.wt x.applied) (szOf (x.store.wt) (left))
    have a3 := szOf_spec (wtS DWrite.wt x.changes) (szOf (wtS DApplied.wt x.applied) (szOf (x.store.wt) (left)))
    unfold DServer.wt at *
    omega
  · go_ret
    have y0 := HB1.out
    have y1 := HB2.out
    have y2 := HB3.out
    refine ⟨ret_int ?_, (by repeat (first | with_reducible exact belR | with_reducible apply belA | (with_reducible refine belS ?_ ?_; focus (first | omega | (simp; done) | (simp; omega))) | with_reducible apply belN | with_reducible apply belD | with_reducible assumption))⟩
    go_light
    have a0 := szOf_spec x.wt left
    have a1 := szOf_spec (x.store.wt) (left)
    have a2 := szOf_spec (wtS DApplied.wt x.applied) (szOf (x.store.wt) (left))
    have a3 := szOf_spec (wtS DWrite.wt x.changes) (szOf (wtS DApplied.wt x.applied) (szOf (x.store.wt) (left)))
    unfold DServer.wt at *
    omega

set_option maxHeartbeats 800000 in
theorem toServer (cs : List Value) (x : DServer) (w : World) (h : Reads DServer.rep w cs x) (_hsmall : x.wt ≤ 1048576) :
    Calls Try.prog 13 #[.agg cs.toArray] w fun e w' => ∃ ds, e = .returned (.agg ds.toArray) ∧ Fresh DServer.rep w.heap.size w' ds x ∧ Below w.heap.size w w' := by
  obtain ⟨fp, h⟩ := h
  obtain ⟨v1, v2, v3, f1, f2, f3, rfl, _, s0, r1, r2, r3⟩ := DServer.rd.1 h
  have HV1 : Hid (Reads DStore.rep w [.string x.store.name, v1, .int .i64 x.store.auto] x.store) := ⟨_, DStore.rd.2 ⟨_, _, rfl, rfl, s0, r1⟩⟩
  have d1 : x.store.wt ≤ 1048576 := by unfold DServer.wt at _hsmall; omega
  have HV2 : Hid (Reads (Rep.slice 86 DApplied.rep) w [v2] x.applied) := ⟨_, r2⟩
  have d2 : wtS DApplied.wt x.applied ≤ 1048576 := by unfold DServer.wt at _hsmall; omega
  have HV3 : Hid (Reads (Rep.slice 72 DWrite.rep) w [v3] x.changes) := ⟨_, r3⟩
  have d3 : wtS DWrite.wt x.changes ≤ 1048576 := by unfold DServer.wt at _hsmall; omega
  clear h r1 r2 r3
  go_enter Try.func13, Try.ntmps13
  go_wp2_with fail
  refine (toStore _ _ _ (HV1.out.below (by repeat (first | with_reducible exact belR | with_reducible apply belA | (with_reducible refine belS ?_ ?_; focus (first | omega | (simp; done) | (simp; omega))) | with_reducible apply belN | with_reducible apply belD | with_reducible assumption))) d1).mono ?_
  rintro e w1 ⟨t1, rfl, hf1, hb1⟩
  obtain ⟨ao1, cap1, rfl⟩ := DStore.fshape hf1
  obtain ⟨hc1, hfz1⟩ := bcell hb1
  have hs1 : w.heap.size + 1 + 1 + 1 ≤ w1.heap.size := by have y := hb1.size; (try simp at y); omega
  have hz10 : w.heap.size < w1.heap.size := by omega
  have hz11 : w.heap.size + 1 < w1.heap.size := by omega
  have hz12 : w.heap.size + 1 + 1 < w1.heap.size := by omega
  have HF1 := Lib.hid (hf1.mono (B' := w.heap.size + 1 + 1 + 1) (by first | omega | (simp; done) | (simp; omega)))
  have HB1 := Lib.hid (below_call (B := w.heap.size) (w := w) (by repeat (first | with_reducible exact belR | with_reducible apply belA | (with_reducible refine belS ?_ ?_; focus (first | omega | (simp; done) | (simp; omega))) | with_reducible apply belN | with_reducible apply belD | with_reducible assumption)) (by first | omega | (simp; done) | (simp; omega)) hb1)
  clear hb1 hf1
  go_wp2_with fail
  refine (toAppliedS _ _ _ (HV2.out.below (by have y := HB1.out; exact (by repeat (first | with_reducible exact belR | with_reducible apply belA | (with_reducible refine belS ?_ ?_; focus (first | omega | (simp; done) | (simp; omega))) | with_reducible apply belN | with_reducible apply belD | with_reducible assumption)))) d2).mono ?_
  rintro e w2 ⟨t2, rfl, hf2, hb2⟩
  obtain ⟨ao2, cap2, rfl⟩ := hf2.slice
  obtain ⟨hc2, hfz2⟩ := bcell hb2
  have hs2 : w1.heap.size ≤ w2.heap.size := by have y := hb2.size; (try simp at y); omega
  have hz20 : w.heap.size < w2.heap.size := by omega
  have hz21 : w.heap.size + 1 < w2.heap.size := by omega
  have hz22 : w.heap.size + 1 + 1 < w2.heap.size := by omega
  have HA1_2 : Hid (Abv (w.heap.size + 1 + 1 + 1) w1 w2) := abB (by repeat (first | with_reducible exact abR | with_reducible apply abA | (with_reducible refine abS ?_ ?_; focus (first | omega | (simp; done) | (simp; omega))) | with_reducible apply abN | with_reducible apply abD | with_reducible assumption)) hb2 (by first | omega | (simp; done) | (simp; omega))
  have HF2 := Lib.hid (hf2.mono (B' := w1.heap.size) (by first | omega | (simp; done) | (simp; omega)))
  have HB2 := Lib.hid (below_call (B := w.heap.size) (w := w) (by have y := HB1.out; exact (by repeat (first | with_reducible exact belR | with_reducible apply belA | (with_reducible refine belS ?_ ?_; focus (first | omega | (simp; done) | (simp; omega))) | with_reducible apply belN | with_reducible apply belD | with_reducible assumption))) (by first | omega | (simp; done) | (simp; omega)) hb2)
  clear hb2 hf2
  go_wp2_with fail
  refine (toWriteS _ _ _ (HV3.out.below (by have y := HB2.out; exact (by repeat (first | with_reducible exact belR | with_reducible apply belA | (with_reducible refine belS ?_ ?_; focus (first | omega | (simp; done) | (simp; omega))) | with_reducible apply belN | with_reducible apply belD | with_reducible assumption)))) d3).mono ?_
  rintro e w3 ⟨t3, rfl, hf3, hb3⟩
  obtain ⟨ao3, cap3, rfl⟩ := hf3.slice
  obtain ⟨hc3, hfz3⟩ := bcell hb3
  have hs3 : w2.heap.size ≤ w3.heap.size := by have y := hb3.size; (try simp at y); omega
  have hz30 : w.heap.size < w3.heap.size := by omega
  have hz31 : w.heap.size + 1 < w3.heap.size := by omega
  have hz32 : w.heap.size + 1 + 1 < w3.heap.size := by omega
  have HA1_3 : Hid (Abv (w.heap.size + 1 + 1 + 1) w1 w3) := abB (by have y := HA1_2.out; exact (by repeat (first | with_reducible exact abR | with_reducible apply abA | (with_reducible refine abS ?_ ?_; focus (first | omega | (simp; done) | (simp; omega))) | with_reducible apply abN | with_reducible apply abD | with_reducible assumption))) hb3 (by first | omega | (simp; done) | (simp; omega))
  have HA2_3 : Hid (Abv (w1.heap.size) w2 w3) := abB (by repeat (first | with_reducible exact abR | with_reducible apply abA | (with_reducible refine abS ?_ ?_; focus (first | omega | (simp; done) | (simp; omega))) | with_reducible apply abN | with_reducible apply abD | with_reducible assumption)) hb3 (by first | omega | (simp; done) | (simp; omega))
  have HF3 := Lib.hid (hf3.mono (B' := w2.heap.size) (by first | omega | (simp; done) | (simp; omega)))
  have HB3 := Lib.hid (below_call (B := w.heap.size) (w := w) (by have y := HB2.out; exact (by repeat (first | with_reducible exact belR | with_reducible apply belA | (with_reducible refine belS ?_ ?_; focus (first | omega | (simp; done) | (simp; omega))) | with_reducible apply belN | with_reducible apply belD | with_reducible assumption))) (by first | omega | (simp; done) | (simp; omega)) hb3)
  clear hb3 hf3
  go_wp2
  refine bodyPost_ret (v := .agg #[.string x.store.name, .slice ao1 x.store.items.length cap1, .int .i64 x.store.auto, .slice ao2 x.applied.length cap2, .slice ao3 x.changes.length cap3]) (by first | (simp [results, Try.results13, go_sem, hc1, hc2, hc3, hz11, hz21]; done)) rfl ⟨_, rfl, ?_, ?_⟩
  · exact DServer.fresh (HF1.out.part (by have y := HA1_3.out; exact (by repeat (first | with_reducible exact abR | with_reducible apply abA | (with_reducible refine abS ?_ ?_; focus (first | omega | (simp; done) | (simp; omega))) | with_reducible apply abN | with_reducible apply abD | with_reducible assumption)))) (HF2.out.part (by have y := HA2_3.out; exact (by repeat (first | with_reducible exact abR | with_reducible apply abA | (with_reducible refine abS ?_ ?_; focus (first | omega | (simp; done) | (simp; omega))) | with_reducible apply abN | with_reducible apply abD | with_reducible assumption)))) (HF3.out.part (by repeat (first | with_reducible exact abR | with_reducible apply abA | (with_reducible refine abS ?_ ?_; focus (first | omega | (simp; done) | (simp; omega))) | with_reducible apply abN | with_reducible apply abD | with_reducible assumption))) (by first | omega | (simp; done) | (simp; omega)) (by first | omega | (simp; done) | (simp; omega)) (by first | omega | (simp; done) | (simp; omega)) (by first | omega | (simp; done) | (simp; omega)) (by first | omega | (simp; done) | (simp; omega)) 
  · have y := HB3.out
    exact (by repeat (first | with_reducible exact belR | with_reducible apply belA | (with_reducible refine belS ?_ ?_; focus (first | omega | (simp; done) | (simp; omega))) | with_reducible apply belN | with_reducible apply belD | with_reducible assumption))

set_option maxHeartbeats 800000 in
theorem eqServer (cs ds : List Value) (x : DServer) (w : World) (h : Reads DServer.rep w cs x) (h' : Reads DServer.rep w ds x) :
    Calls Try.prog 15 #[.agg cs.toArray, .agg ds.toArray] w fun e w' => e = .returned (.bool true) ∧ Below w.heap.size w w' := by
  obtain ⟨fp, h0⟩ := h
  obtain ⟨vv1, vv2, vv3, vf1, vf2, vf3, rfl, _, vs0, vr1, vr2, vr3⟩ := DServer.rd.1 h0
  have HV1 : Hid (Reads DStore.rep w [.string x.store.name, vv1, .int .i64 x.store.auto] x.store) := ⟨_, DStore.rd.2 ⟨_, _, rfl, rfl, vs0, vr1⟩⟩
  have HV2 : Hid (Reads (Rep.slice 86 DApplied.rep) w [vv2] x.applied) := ⟨_, vr2⟩
  have HV3 : Hid (Reads (Rep.slice 72 DWrite.rep) w [vv3] x.changes) := ⟨_, vr3⟩
  clear h0 vr1 vr2 vr3
  obtain ⟨fp, h0⟩ := h'
  obtain ⟨uv1, uv2, uv3, uf1, uf2, uf3, rfl, _, us0, ur1, ur2, ur3⟩ := DServer.rd.1 h0
  have HU1 : Hid (Reads DStore.rep w [.string x.store.name, uv1, .int .i64 x.store.auto] x.store) := ⟨_, DStore.rd.2 ⟨_, _, rfl, rfl, us0, ur1⟩⟩
  have HU2 : Hid (Reads (Rep.slice 86 DApplied.rep) w [uv2] x.applied) := ⟨_, ur2⟩
  have HU3 : Hid (Reads (Rep.slice 72 DWrite.rep) w [uv3] x.changes) := ⟨_, ur3⟩
  clear h0 ur1 ur2 ur3
  go_enter Try.func15, Try.ntmps15
  go_wp2_with fail
  refine (eqStore _ _ _ _ (HV1.out.below (by repeat (first | with_reducible exact belR | with_reducible apply belA | (with_reducible refine belS ?_ ?_; focus (first | omega | (simp; done) | (simp; omega))) | with_reducible apply belN | with_reducible apply belD | with_reducible assumption))) (HU1.out.below (by repeat (first | with_reducible exact belR | with_reducible apply belA | (with_reducible refine belS ?_ ?_; focus (first | omega | (simp; done) | (simp; omega))) | with_reducible apply belN | with_reducible apply belD | with_reducible assumption)))).mono ?_
  rintro e w1 ⟨rfl, hb1⟩
  obtain ⟨hc1, hfz1⟩ := bcell hb1
  have hs1 : w.heap.size + 1 + 1 ≤ w1.heap.size := by have y := hb1.size; (try simp at y); omega
  have hz10 : w.heap.size < w1.heap.size := by omega
  have hz11 : w.heap.size + 1 < w1.heap.size := by omega
  have HB1 := Lib.hid (below_call (B := w.heap.size) (w := w) (by repeat (first | with_reducible exact belR | with_reducible apply belA | (with_reducible refine belS ?_ ?_; focus (first | omega | (simp; done) | (simp; omega))) | with_reducible apply belN | with_reducible apply belD | with_reducible assumption)) (by first | omega | (simp; done) | (simp; omega)) hb1)
  clear hb1
  go_wp2_with fail
  refine (eqAppliedS _ _ _ _ (HV2.out.below (by have y := HB1.out; exact (by repeat (first | with_reducible exact belR | with_reducible apply belA | (with_reducible refine belS ?_ ?_; focus (first | omega | (simp; done) | (simp; omega))) | with_reducible apply belN | with_reducible apply belD | with_reducible assumption)))) (HU2.out.below (by have y := HB1.out; exact (by repeat (first | with_reducible exact belR | with_reducible apply belA | (with_reducible refine belS ?_ ?_; focus (first | omega | (simp; done) | (simp; omega))) | with_reducible apply belN | with_reducible apply belD | with_reducible assumption))))).mono ?_
  rintro e w2 ⟨rfl, hb2⟩
  obtain ⟨hc2, hfz2⟩ := bcell hb2
  have hs2 : w1.heap.size ≤ w2.heap.size := by have y := hb2.size; (try simp at y); omega
  have hz20 : w.heap.size < w2.heap.size := by omega
  have hz21 : w.heap.size + 1 < w2.heap.size := by omega
  have HB2 := Lib.hid (below_call (B := w.heap.size) (w := w) (by have y := HB1.out; exact (by repeat (first | with_reducible exact belR | with_reducible apply belA | (with_reducible refine belS ?_ ?_; focus (first | omega | (simp; done) | (simp; omega))) | with_reducible apply belN | with_reducible apply belD | with_reducible assumption))) (by first | omega | (simp; done) | (simp; omega)) hb2)
  clear hb2
  go_wp2_with fail
  refine (eqWriteS _ _ _ _ (HV3.out.below (by have y := HB2.out; exact (by repeat (first | with_reducible exact belR | with_reducible apply belA | (with_reducible refine belS ?_ ?_; focus (first | omega | (simp; done) | (simp; omega))) | with_reducible apply belN | with_reducible apply belD | with_reducible assumption)))) (HU3.out.below (by have y := HB2.out; exact (by repeat (first | with_reducible exact belR | with_reducible apply belA | (with_reducible refine belS ?_ ?_; focus (first | omega | (simp; done) | (simp; omega))) | with_reducible apply belN | with_reducible apply belD | with_reducible assumption))))).mono ?_
  rintro e w3 ⟨rfl, hb3⟩
  obtain ⟨hc3, hfz3⟩ := bcell hb3
  have hs3 : w2.heap.size ≤ w3.heap.size := by have y := hb3.size; (try simp at y); omega
  have hz30 : w.heap.size < w3.heap.size := by omega
  have hz31 : w.heap.size + 1 < w3.heap.size := by omega
  have HB3 := Lib.hid (below_call (B := w.heap.size) (w := w) (by have y := HB2.out; exact (by repeat (first | with_reducible exact belR | with_reducible apply belA | (with_reducible refine belS ?_ ?_; focus (first | omega | (simp; done) | (simp; omega))) | with_reducible apply belN | with_reducible apply belD | with_reducible assumption))) (by first | omega | (simp; done) | (simp; omega)) hb3)
  clear hb3
  go_wp2
  go_ret
  have y := HB3.out
  exact ⟨rfl, (by repeat (first | with_reducible exact belR | with_reducible apply belA | (with_reducible refine belS ?_ ?_; focus (first | omega | (simp; done) | (simp; omega))) | with_reducible apply belN | with_reducible apply belD | with_reducible assumption))⟩

theorem infoServer : (Try.prog.info? 37).map (fun i => (i.zero, i.size, i.bytes)) = some (some (.agg #[.string ⟨#[]⟩, .slice none 0 0, .int .i64 0, .slice none 0 0, .slice none 0 0]), 5, 96) := by kernel_rfl

def DServer.cnt (x : DServer) : Nat := 2 + wtT DItem.cnt x.store.items x.store.items.length + wtT DApplied.cnt x.applied x.applied.length + wtT DWrite.cnt x.changes x.changes.length
def DServer.mk3 (k : Nat) (x : DServer) : DServer := ⟨⟨markT (k), marks DItem.mk3 DItem.cnt (k + 1) x.store.items, (((k + 1 + wtT DItem.cnt x.store.items x.store.items.length : Nat) : Int))⟩, marks DApplied.mk3 DApplied.cnt (k + 1 + wtT DItem.cnt x.store.items x.store.items.length + 1) x.applied, marks DWrite.mk3 DWrite.cnt (k + 1 + wtT DItem.cnt x.store.items x.store.items.length + 1 + wtT DApplied.cnt x.applied x.applied.length) x.changes⟩

def DServer.mcnt (x : DServer) : Nat := x.store.mcnt + wtT DApplied.cnt x.applied x.applied.length + wtT DWrite.cnt x.changes x.changes.length
def DServer.mks (x : DServer) (k : Nat) : DServer := { store := x.store.mks (k), applied := marks DApplied.mk3 DApplied.cnt (k + x.store.mcnt) x.applied, changes := marks DWrite.mk3 DWrite.cnt (k + x.store.mcnt + wtT DApplied.cnt x.applied x.applied.length) x.changes }

set_option maxRecDepth 100000 in
set_option maxHeartbeats 800000 in
theorem markServer (cs : List Value) (x : DServer) (fp : List Nat) (k : Nat) (w : World) (h : DServer.rep.rd true w cs x fp) (hnd : fp.Nodup) (hk : k + x.mcnt ≤ 1000000000) :
    Calls Try.prog 38 #[.agg cs.toArray, .int .i64 k] w fun e w' => e = .returned (.int .i64 ((k + x.mcnt : Nat) : Int)) ∧ DServer.rep.rd true w' cs (x.mks k) fp ∧ Chg fp w w' := by
  have HL := Lib.hid (DServer.rep.lt h)
  obtain ⟨v1, v2, v3, f0, f1, f2, rfl, rfl, r0, r1, r2⟩ := DServer.parts h
  have n0 : (f0).Nodup := (List.nodup_append.1 hnd).1
  have J0 := Lib.hid (fun b (h1 : b ∈ f0) (h2 : b ∈ f1 ++ (f2)) => (List.nodup_append.1 hnd).2.2 b h1 b h2 rfl)
  replace hnd := (List.nodup_append.1 hnd).2.1
  have n1 : (f1).Nodup := (List.nodup_append.1 hnd).1
  have J1 := Lib.hid (fun b (h1 : b ∈ f1) (h2 : b ∈ f2) => (List.nodup_append.1 hnd).2.2 b h1 b h2 rfl)
  replace hnd := (List.nodup_append.1 hnd).2.1
  have n2 := hnd
  have R0 := Lib.hid r0
  have R1 := Lib.hid r1
  have R2 := Lib.hid r2
  clear h r0 r1 r2
  unfold DServer.mcnt at hk
  go_enter Try.func38, Try.ntmps38
  go_wp2_with fail
  refine (markStore _ x.store f0 (k) _ (Rep.frame DStore.rep (w' := w.alloc _) R0.out fun b hb => Below.heap_alloc _ _ _ (HL.out b (List.mem_append.2 (.inl hb)))) n0 (by omega)).mono ?_
  rintro e w1 ⟨rfl, rd0, ch0⟩
  replace R1 := Lib.hid (ch0.keeps (Rep.frame (Rep.slice 86 DApplied.rep) (w' := w.alloc _) R1.out fun b hb => Below.heap_alloc _ _ _ (HL.out b (List.mem_append.2 (.inr (List.mem_append.2 (.inl hb)))))) (fun b h1 h2 => J0.out b h2 (List.mem_append.2 (.inl h1))))
  replace R2 := Lib.hid (ch0.keeps (Rep.frame (Rep.slice 72 DWrite.rep) (w' := w.alloc _) R2.out fun b hb => Below.heap_alloc _ _ _ (HL.out b (List.mem_append.2 (.inr (List.mem_append.2 (.inr hb)))))) (fun b h1 h2 => J0.out b h2 (List.mem_append.2 (.inr h1))))
  replace R0 := Lib.hid rd0
  have hx0 : w.heap.size ∉ f0 := fun hx => Nat.lt_irrefl _ (HL.out _ (List.mem_append.2 (.inl hx)))
  have hz1 : w.heap.size < w1.heap.size := by have y := ch0.size; (try simp at y); omega
  have hc1 : ∀ o, w1.cell? ⟨w.heap.size, o, none⟩ = _ := fun o => World.cell?_of_block (a := ⟨w.heap.size, o, none⟩) (ch0.block w.heap.size (by first | omega | (simp; done) | (simp; omega)) hx0)
  have C0 := Lib.hid ch0
  clear rd0 ch0 hx0
  go_wp2_with fail
  refine (markAppliedS _ x.applied f1 (k + x.store.mcnt) _ R1.out n1 (by omega)).mono ?_
  rintro e w2 ⟨rfl, rd1, ch1⟩
  replace R0 := Lib.hid (ch1.keeps R0.out (fun b h1 h2 => J0.out b h1 (List.mem_append.2 (.inl h2))))
  replace R2 := Lib.hid (ch1.keeps R2.out (fun b h1 h2 => J1.out b h2 h1))
  replace R1 := Lib.hid rd1
  have hx1 : w.heap.size ∉ f1 := fun hx => Nat.lt_irrefl _ (HL.out _ (List.mem_append.2 (.inr (List.mem_append.2 (.inl hx)))))
  have hz2 : w.heap.size < w2.heap.size := by have y := ch1.size; (try simp at y); omega
  have hc2 : ∀ o, w2.cell? ⟨w.heap.size, o, none⟩ = _ := fun o => World.cell?_of_block (a := ⟨w.heap.size, o, none⟩) (ch1.block w.heap.size (by first | omega | (simp; done) | (simp; omega)) hx1)
  have C1 := Lib.hid ch1
  clear rd1 ch1 hx1
  go_wp2_with fail
  refine (markWriteS _ x.changes f2 (k + x.store.mcnt + wtT DApplied.cnt x.applied x.applied.length) _ R2.out n2 (by omega)).mono ?_
  rintro e w3 ⟨rfl, rd2, ch2⟩
  replace R0 := Lib.hid (ch2.keeps R0.out (fun b h1 h2 => J0.out b h1 (List.mem_append.2 (.inr h2))))
  replace R1 := Lib.hid (ch2.keeps R1.out (fun b h1 h2 => J1.out b h1 h2))
  replace R2 := Lib.hid rd2
  have hx2 : w.heap.size ∉ f2 := fun hx => Nat.lt_irrefl _ (HL.out _ (List.mem_append.2 (.inr (List.mem_append.2 (.inr hx)))))
  have hz3 : w.heap.size < w3.heap.size := by have y := ch2.size; (try simp at y); omega
  have hc3 : ∀ o, w3.cell? ⟨w.heap.size, o, none⟩ = _ := fun o => World.cell?_of_block (a := ⟨w.heap.size, o, none⟩) (ch2.block w.heap.size (by first | omega | (simp; done) | (simp; omega)) hx2)
  have C2 := Lib.hid ch2
  clear rd2 ch2 hx2
  go_wp2
  go_ret
  refine ⟨ret_int (by unfold DServer.mcnt; omega), ?_, ?_⟩
  · exact DServer.join (x := x.mks k) _ _ R0.out _ _ R1.out _ _ R2.out 
  · have z := Chg.trans (a := w) (Chg.of_below (fp := f0 ++ (f1 ++ (f2))) (B := w.heap.size) (belA belR) (Nat.le_refl _)) (C0.out.mono (fq := f0 ++ (f1 ++ (f2))) fun b hb => (List.mem_append.2 (.inl hb)))
    replace z := z.trans (C1.out.mono (fq := f0 ++ (f1 ++ (f2))) fun b hb => (List.mem_append.2 (.inr (List.mem_append.2 (.inl hb)))))
    replace z := z.trans (C2.out.mono (fq := f0 ++ (f1 ++ (f2))) fun b hb => (List.mem_append.2 (.inr (List.mem_append.2 (.inr hb)))))
    exact z

end Go.Proofs.Ytjdoofekohjjlaa
