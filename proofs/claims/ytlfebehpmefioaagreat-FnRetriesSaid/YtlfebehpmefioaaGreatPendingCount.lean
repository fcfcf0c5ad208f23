/-
  PendingCount.
-/
import Derived.Test.YtlfebehpmefioaaGreatBase
import Derived.Test.YtlfebehpmefioaaGreatTFam
namespace Go.Proofs.YtlfebehpmefioaaGreat
open Go.RowKit

def pendingCountF (x : DSync) : Int := x.outbox.writes.length

set_option maxHeartbeats 400000 in
theorem implPendingCount (cs : List Value) (x : DSync) (w : World) (h : Reads DSync.rep w cs x) :
    Calls Tryz.prog 18 #[.agg cs.toArray] w fun e w' => e = .returned (.int .i64 (pendingCountF x)) ∧ Below w.heap.size w w' := by
  obtain ⟨fp, h⟩ := h
  obtain ⟨a1, c1, rfl⟩ := DSync.shape h
  clear h
  go_enter Tryz.func18, Tryz.ntmps18
  go_wp2
  go_ret
  exact ⟨rfl, (by repeat (first | with_reducible exact belR | with_reducible apply belA | (with_reducible refine belS ?_ ?_; focus (first | omega | (simp; done) | (simp; omega))) | with_reducible apply belN | with_reducible apply belD | with_reducible assumption))⟩

end Go.Proofs.YtlfebehpmefioaaGreat
