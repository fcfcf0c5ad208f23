/-
  The laws' helpers for Key.
-/
import Derived.Test.YtjdoofekohjjlaaMarkSl
import Derived.Test.YtjdoofekohjjlaaTKey
namespace Go.Proofs.Ytjdoofekohjjlaa
open Go.RowKit

def DKey.wt (x : DKey) : Nat := x.text.size

set_option maxHeartbeats 400000 in
theorem szKey (cs : List Value) (x : DKey) (left : Int) (w : World) (h : Reads DKey.rep w cs x) (h0 : 0 ≤ left) (h1 : left ≤ 1048576) :
    Calls Try.prog 75 #[.agg cs.toArray, .int .i64 left] w fun e w' => e = .returned (.int .i64 (szOf x.wt left)) ∧ Below w.heap.size w w' := by
  obtain ⟨fp, h⟩ := h
  obtain ⟨rfl, _, s0⟩ := DKey.rd.1 h
  clear h
  unfold maxLen at s0
  go_enter Try.func75, Try.ntmps75
  go_wp2_with fail
  · go_ret
    refine ⟨ret_int ?_, (by repeat (first | with_reducible exact belR | with_reducible apply belA | (with_reducible refine belS ?_ ?_; focus (first | omega | (simp; done) | (simp; omega))) | with_reducible apply belN | with_reducible apply belD | with_reducible assumption))⟩
    go_light
    have a0 := szOf_spec x.wt left
    unfold DKey.wt at *
    omega
  · go_ret
    refine ⟨ret_int ?_, (by repeat (first | with_reducible exact belR | with_reducible apply belA | (with_reducible refine belS ?_ ?_; focus (first | omega | (simp; done) | (simp; omega))) | with_reducible apply belN | with_reducible apply belD | with_reducible assumption))⟩
    go_light
    have a0 := szOf_spec x.wt left
    unfold DKey.wt at *
    omega

set_option maxHeartbeats 800000 in
theorem toKey (cs : List Value) (x : DKey) (w : World) (h : Reads DKey.rep w cs x) (_hsmall : x.wt ≤ 1048576) :
    Calls Try.prog 81 #[.agg cs.toArray] w fun e w' => ∃ ds, e = .returned (.agg ds.toArray) ∧ Fresh DKey.rep w.heap.size w' ds x ∧ Below w.heap.size w w' := by
  obtain ⟨fp, h⟩ := h
  obtain ⟨rfl, _, s0⟩ := DKey.rd.1 h
  clear h 
  go_enter Try.func81, Try.ntmps81
  go_wp2
  refine bodyPost_ret (v := .agg #[.int .i64 x.kind, .int .i64 x.n, .string x.text]) (by first | (simp [results, Try.results81, go_sem]; done)) rfl ⟨_, rfl, ?_, ?_⟩
  · exact ⟨[], DKey.rd.2 ⟨rfl, rfl, s0⟩, by simp, by simp⟩
  · exact (by repeat (first | with_reducible exact belR | with_reducible apply belA | (with_reducible refine belS ?_ ?_; focus (first | omega | (simp; done) | (simp; omega))) | with_reducible apply belN | with_reducible apply belD | with_reducible assumption))

set_option maxHeartbeats 800000 in
theorem eqKey (cs ds : List Value) (x : DKey) (w : World) (h : Reads DKey.rep w cs x) (h' : Reads DKey.rep w ds x) :
    Calls Try.prog 140 #[.agg cs.toArray, .agg ds.toArray] w fun e w' => e = .returned (.bool true) ∧ Below w.heap.size w w' := by
  obtain ⟨fp, h0⟩ := h
  obtain ⟨rfl, _, vs0⟩ := DKey.rd.1 h0
  clear h0 
  obtain ⟨fp, h0⟩ := h'
  obtain ⟨rfl, _, us0⟩ := DKey.rd.1 h0
  clear h0 
  go_enter Try.func140, Try.ntmps140
  go_wp2
  go_ret
  exact ⟨rfl, (by repeat (first | with_reducible exact belR | with_reducible apply belA | (with_reducible refine belS ?_ ?_; focus (first | omega | (simp; done) | (simp; omega))) | with_reducible apply belN | with_reducible apply belD | with_reducible assumption))⟩

theorem infoKey : (Try.prog.info? 70).map (fun i => (i.zero, i.size, i.bytes)) = some (some (.agg #[.int .i64 0, .int .i64 0, .string ⟨#[]⟩]), 3, 32) := by kernel_rfl

def DKey.cnt (_ : DKey) : Nat := 3
def DKey.mk3 (k : Nat) (_ : DKey) : DKey := ⟨((k : Int)), ((k : Int) + 1), markT (k + 2)⟩

end Go.Proofs.Ytjdoofekohjjlaa
