/-
  The laws' helpers for Write.
-/
import Derived.Test.YtkhfadklfdkdeaaLKey
import Derived.Test.YtkhfadklfdkdeaaTWrite
namespace Go.Proofs.Ytkhfadklfdkdeaa
open Go.RowKit

def DWrite.wt (x : DWrite) : Nat := x.key.wt + x.field.size

set_option maxHeartbeats 400000 in
theorem szWrite (cs : List Value) (x : DWrite) (left : Int) (w : World) (h : Reads DWrite.rep w cs x) (h0 : 0 ≤ left) (h1 : left ≤ 1048576) :
    Calls Try.prog 24 #[.agg cs.toArray, .int .i64 left] w fun e w' => e = .returned (.int .i64 (szOf x.wt left)) ∧ Below w.heap.size w w' := by
  obtain ⟨fp, h⟩ := h
  obtain ⟨rfl, _, s0, s1⟩ := DWrite.rd.1 h
  have HV1 : Hid (Reads DKey.rep w [.int .i64 x.key.kind, .int .i64 x.key.n, .string x.key.text] x.key) := ⟨_, DKey.rd.2 ⟨rfl, rfl, s0⟩⟩
  clear h
  unfold maxLen at s0 s1
  go_enter Try.func24, Try.ntmps24
  go_wp2_with fail
  have q1 : 0 ≤ left ∧ left ≤ 1048576 := by
    omega
  refine (szKey _ _ _ _ (HV1.out.below (by repeat (first | with_reducible exact belR | with_reducible apply belA | (with_reducible refine belS ?_ ?_; focus (first | omega | (simp; done) | (simp; omega))) | with_reducible apply belN | with_reducible apply belD | with_reducible assumption))) q1.1 q1.2).mono ?_
  rintro e w1 ⟨rfl, hb1⟩
  obtain ⟨hc1, hfz1⟩ := bcell hb1
  have hz1 : w.heap.size < w1.heap.size := by have y := hb1.size; simp at y; omega
  have HB1 := Lib.hid (below_call (w := w) (by repeat (first | with_reducible exact belR | with_reducible apply belA | (with_reducible refine belS ?_ ?_; focus (first | omega | (simp; done) | (simp; omega))) | with_reducible apply belN | with_reducible apply belD | with_reducible assumption)) (by first | omega | (simp; done) | (simp; omega)) hb1); clear hb1
  have bl1 : -1 ≤ szOf (x.key.wt) (left) ∧ szOf (x.key.wt) (left) ≤ 1048576 := by
    have a0 := szOf_spec (x.key.wt) (left)
    omega
  obtain ⟨bl1, bu1⟩ := bl1
  go_wp2_with fail
  · go_ret
    have y0 := HB1.out
    refine ⟨ret_int ?_, (by repeat (first | with_reducible exact belR | with_reducible apply belA | (with_reducible refine belS ?_ ?_; focus (first | omega | (simp; done) | (simp; omega))) | with_reducible apply belN | with_reducible apply belD | with_reducible assumption))⟩
    go_light
    have a0 := szOf_spec x.wt left
    have a1 := szOf_spec (x.key.wt) (left)
    unfold DWrite.wt at *
    omega
  · go_ret
    have y0 := HB1.out
    refine ⟨ret_int ?_, (by repeat (first | with_reducible exact belR | with_reducible apply belA | (with_reducible refine belS ?_ ?_; focus (first | omega | (simp; done) | (simp; omega))) | with_reducible apply belN | with_reducible apply belD | with_reducible assumption))⟩
    go_light
    have a0 := szOf_spec x.wt left
    have a1 := szOf_spec (x.key.wt) (left)
    unfold DWrite.wt at *
    omega
  · go_ret
    have y0 := HB1.out
    refine ⟨ret_int ?_, (by repeat (first | with_reducible exact belR | with_reducible apply belA | (with_reducible refine belS ?_ ?_; focus (first | omega | (simp; done) | (simp; omega))) | with_reducible apply belN | with_reducible apply belD | with_reducible assumption))⟩
    go_light
    have a0 := szOf_spec x.wt left
    have a1 := szOf_spec (x.key.wt) (left)
    unfold DWrite.wt at *
    omega

set_option maxHeartbeats 800000 in
theorem toWrite (cs : List Value) (x : DWrite) (w : World) (h : Reads DWrite.rep w cs x) (_hsmall : x.wt ≤ 1048576) :
    Calls Try.prog 26 #[.agg cs.toArray] w fun e w' => ∃ ds, e = .returned (.agg ds.toArray) ∧ Fresh DWrite.rep w.heap.size w' ds x ∧ Below w.heap.size w w' := by
  obtain ⟨fp, h⟩ := h
  obtain ⟨rfl, _, s0, s1⟩ := DWrite.rd.1 h
  have HV1 : Hid (Reads DKey.rep w [.int .i64 x.key.kind, .int .i64 x.key.n, .string x.key.text] x.key) := ⟨_, DKey.rd.2 ⟨rfl, rfl, s0⟩⟩
  have d1 : x.key.wt ≤ 1048576 := by unfold DWrite.wt at _hsmall; omega
  clear h 
  go_enter Try.func26, Try.ntmps26
  go_wp2_with fail
  refine (toKey _ _ _ (HV1.out.below (by repeat (first | with_reducible exact belR | with_reducible apply belA | (with_reducible refine belS ?_ ?_; focus (first | omega | (simp; done) | (simp; omega))) | with_reducible apply belN | with_reducible apply belD | with_reducible assumption))) d1).mono ?_
  rintro e w1 ⟨t1, rfl, hf1, hb1⟩
  obtain ⟨_, hf1, _⟩ := hf1
  obtain ⟨rfl, _, _⟩ := DKey.rd.1 hf1
  obtain ⟨hc1, hfz1⟩ := bcell hb1
  have hs1 : w.heap.size + 1 + 1 + 1 ≤ w1.heap.size := by have y := hb1.size; simp at y; omega
  have hz10 : w.heap.size < w1.heap.size := by omega
  have hz11 : w.heap.size + 1 < w1.heap.size := by omega
  have hz12 : w.heap.size + 1 + 1 < w1.heap.size := by omega
  have HB1 := Lib.hid (below_call (w := w) (by repeat (first | with_reducible exact belR | with_reducible apply belA | (with_reducible refine belS ?_ ?_; focus (first | omega | (simp; done) | (simp; omega))) | with_reducible apply belN | with_reducible apply belD | with_reducible assumption)) (by first | omega | (simp; done) | (simp; omega)) hb1)
  clear hb1
  go_wp2
  refine bodyPost_ret (v := .agg #[.int .i64 x.device, .int .i64 x.seq, .int .i64 x.key.kind, .int .i64 x.key.n, .string x.key.text, .string x.field, .int .i64 x.n]) (by first | (simp [results, Try.results26, go_sem]; done) | (simp [results, Try.results26, go_sem, hc1]; done)) rfl ⟨_, rfl, ?_, ?_⟩
  · exact ⟨[], DWrite.rd.2 ⟨rfl, rfl, s0, s1⟩, by simp, by simp⟩
  · have y := HB1.out
    exact (by repeat (first | with_reducible exact belR | with_reducible apply belA | (with_reducible refine belS ?_ ?_; focus (first | omega | (simp; done) | (simp; omega))) | with_reducible apply belN | with_reducible apply belD | with_reducible assumption))

theorem infoWrite : (Try.prog.info? 50).map (fun i => (i.zero, i.size, i.bytes)) = some (some (.agg #[.int .i64 0, .int .i64 0, .int .i64 0, .int .i64 0, .string ⟨#[]⟩, .string ⟨#[]⟩, .int .i64 0]), 7, 72) := by kernel_rfl

def DWrite.cnt (_ : DWrite) : Nat := 7
def DWrite.mk3 (k : Nat) (_ : DWrite) : DWrite := ⟨((k : Int)), ((k : Int) + 1), ⟨((k : Int) + 1 + 1), ((k : Int) + 1 + 1 + 1), markT (k + 4)⟩, markT (k + 5), ((k : Int) + 1 + 1 + 1 + 1 + 1 + 1)⟩

end Go.Proofs.Ytkhfadklfdkdeaa
