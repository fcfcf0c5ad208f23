/-
  The laws' helpers for Subscription.
-/
import Derived.Test.YtglgjcdnfmlijaaMarkSl
import Derived.Test.YtglgjcdnfmlijaaTSubscription
namespace Go.Proofs.Ytglgjcdnfmlijaa
open Go.RowKit

def DSubscription.wt (x : DSubscription) : Nat := x.site.size

set_option maxHeartbeats 400000 in
theorem szSubscription (cs : List Value) (x : DSubscription) (left : Int) (w : World) (h : Reads DSubscription.rep w cs x) (h0 : 0 ≤ left) (h1 : left ≤ 1048576) :
    Calls Try.prog 20 #[.agg cs.toArray, .int .i64 left] w fun e w' => e = .returned (.int .i64 (szOf x.wt left)) ∧ Below w.heap.size w w' := by
  obtain ⟨fp, h⟩ := h
  obtain ⟨rfl, _, s0⟩ := DSubscription.rd.1 h
  clear h
  unfold maxLen at s0
  go_enter Try.func20, Try.ntmps20
  go_wp2_with fail
  · go_ret
    refine ⟨ret_int ?_, (by repeat (first | with_reducible exact belR | with_reducible apply belA | (with_reducible refine belS ?_ ?_; focus (first | omega | (simp; done) | (simp; omega))) | with_reducible apply belN | with_reducible apply belD | with_reducible assumption))⟩
    go_light
    have a0 := szOf_spec x.wt left
    unfold DSubscription.wt at *
    omega
  · go_ret
    refine ⟨ret_int ?_, (by repeat (first | with_reducible exact belR | with_reducible apply belA | (with_reducible refine belS ?_ ?_; focus (first | omega | (simp; done) | (simp; omega))) | with_reducible apply belN | with_reducible apply belD | with_reducible assumption))⟩
    go_light
    have a0 := szOf_spec x.wt left
    unfold DSubscription.wt at *
    omega

set_option maxHeartbeats 800000 in
theorem toSubscription (cs : List Value) (x : DSubscription) (w : World) (h : Reads DSubscription.rep w cs x) (_hsmall : x.wt ≤ 1048576) :
    Calls Try.prog 22 #[.agg cs.toArray] w fun e w' => ∃ ds, e = .returned (.agg ds.toArray) ∧ Fresh DSubscription.rep w.heap.size w' ds x ∧ Below w.heap.size w w' := by
  obtain ⟨fp, h⟩ := h
  obtain ⟨rfl, _, s0⟩ := DSubscription.rd.1 h
  clear h 
  go_enter Try.func22, Try.ntmps22
  go_wp2
  refine bodyPost_ret (v := .agg #[.string x.site, .int .i64 x.secret, .int .i64 x.last]) (by first | (simp [results, Try.results22, go_sem]; done)) rfl ⟨_, rfl, ?_, ?_⟩
  · exact ⟨[], DSubscription.rd.2 ⟨rfl, rfl, s0⟩, by simp, by simp⟩
  · exact (by repeat (first | with_reducible exact belR | with_reducible apply belA | (with_reducible refine belS ?_ ?_; focus (first | omega | (simp; done) | (simp; omega))) | with_reducible apply belN | with_reducible apply belD | with_reducible assumption))

set_option maxHeartbeats 800000 in
theorem eqSubscription (cs ds : List Value) (x : DSubscription) (w : World) (h : Reads DSubscription.rep w cs x) (h' : Reads DSubscription.rep w ds x) :
    Calls Try.prog 47 #[.agg cs.toArray, .agg ds.toArray] w fun e w' => e = .returned (.bool true) ∧ Below w.heap.size w w' := by
  obtain ⟨fp, h0⟩ := h
  obtain ⟨rfl, _, vs0⟩ := DSubscription.rd.1 h0
  clear h0 
  obtain ⟨fp, h0⟩ := h'
  obtain ⟨rfl, _, us0⟩ := DSubscription.rd.1 h0
  clear h0 
  go_enter Try.func47, Try.ntmps47
  go_wp2
  go_ret
  exact ⟨rfl, (by repeat (first | with_reducible exact belR | with_reducible apply belA | (with_reducible refine belS ?_ ?_; focus (first | omega | (simp; done) | (simp; omega))) | with_reducible apply belN | with_reducible apply belD | with_reducible assumption))⟩

theorem infoSubscription : (Try.prog.info? 41).map (fun i => (i.zero, i.size, i.bytes)) = some (some (.agg #[.string ⟨#[]⟩, .int .i64 0, .int .i64 0]), 3, 32) := by kernel_rfl

def DSubscription.cnt (_ : DSubscription) : Nat := 3
def DSubscription.mk3 (k : Nat) (_ : DSubscription) : DSubscription := ⟨markT (k), ((k : Int) + 1), ((k : Int) + 1 + 1)⟩

end Go.Proofs.Ytglgjcdnfmlijaa
