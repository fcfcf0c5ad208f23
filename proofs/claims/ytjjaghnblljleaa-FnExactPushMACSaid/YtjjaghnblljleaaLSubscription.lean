/-
  The laws' helpers for Subscription.
-/
import Derived.Test.YtjjaghnblljleaaMarkSl
import Derived.Test.YtjjaghnblljleaaTSubscription
namespace Go.Proofs.Ytjjaghnblljleaa
open Go.RowKit

def DSubscription.wt (x : DSubscription) : Nat := x.site.size

set_option maxHeartbeats 400000 in
theorem szSubscription (cs : List Value) (x : DSubscription) (left : Int) (w : World) (h : Reads DSubscription.rep w cs x) (h0 : 0 ≤ left) (h1 : left ≤ 1048576) :
    Calls Try.prog 46 #[.agg cs.toArray, .int .i64 left] w fun e w' => e = .returned (.int .i64 (szOf x.wt left)) ∧ Below w.heap.size w w' := by
  obtain ⟨fp, h⟩ := h
  obtain ⟨rfl, _, s0⟩ := DSubscription.rd.1 h
  clear h
  unfold maxLen at s0
  go_enter Try.func46, Try.ntmps46
  go_wp2_with fail
  · go_ret
    refine ⟨ret_int ?_, (by repeat (first | with_reducible exact belR | with_reducible apply belA | (with_reducible refine belS ?_ ?_; focus (first | omega | (simp; done) | (simp; omega))) | with_reducible apply belN | with_reducible apply belD | with_reducible assumption))⟩
    go_light
    have a0 := szOf_spec x.wt left
    unfold DSubscription.wt at *
    omega
  · go_ret
    refine ⟨ret_int ?_, (by repeat (first | with_reducible exact belR | with_reducible apply belA | (with_reducible refine belS ?_ ?_; focus (first | omega | (simp; done) | (simp; omega))) | with_reducible apply belN | with_reducible apply belD | with_reducible assumption))⟩
    go_light
    have a0 := szOf_spec x.wt left
    unfold DSubscription.wt at *
    omega

set_option maxHeartbeats 800000 in
theorem toSubscription (cs : List Value) (x : DSubscription) (w : World) (h : Reads DSubscription.rep w cs x) (_hsmall : x.wt ≤ 1048576) :
    Calls Try.prog 49 #[.agg cs.toArray] w fun e w' => ∃ ds, e = .returned (.agg ds.toArray) ∧ Fresh DSubscription.rep w.heap.size w' ds x ∧ Below w.heap.size w w' := by
  obtain ⟨fp, h⟩ := h
  obtain ⟨rfl, _, s0⟩ := DSubscription.rd.1 h
  clear h 
  go_enter Try.func49, Try.ntmps49
  go_wp2
  refine bodyPost_ret (v := .agg #[.string x.site, .int .i64 x.secret, .int .i64 x.last]) (by first | (simp [results, Try.results49, go_sem]; done)) rfl ⟨_, rfl, ?_, ?_⟩
  · exact ⟨[], DSubscription.rd.2 ⟨rfl, rfl, s0⟩, by simp, by simp⟩
  · exact (by repeat (first | with_reducible exact belR | with_reducible apply belA | (with_reducible refine belS ?_ ?_; focus (first | omega | (simp; done) | (simp; omega))) | with_reducible apply belN | with_reducible apply belD | with_reducible assumption))

theorem infoSubscription : (Try.prog.info? 85).map (fun i => (i.zero, i.size, i.bytes)) = some (some (.agg #[.string ⟨#[]⟩, .int .i64 0, .int .i64 0]), 3, 32) := by kernel_rfl

def DSubscription.cnt (_ : DSubscription) : Nat := 3
def DSubscription.mk3 (k : Nat) (_ : DSubscription) : DSubscription := ⟨markT (k), ((k : Int) + 1), ((k : Int) + 1 + 1)⟩

end Go.Proofs.Ytjjaghnblljleaa
