/-
  HoldsLock.
-/
import Derived.Test.YtamdjeajmfjfmaaFuncsLock
import Derived.Test.YtamdjeajmfjfmaaLLockTable
namespace Go.Proofs.Ytamdjeajmfjfmaa
open Go.RowKit

def isHeldBy (name : ByteArray) (page : Int) (x : DLock) : Bool := x.held && (x.name.toList == name.toList) && x.page == page
def holdsLockF (x : DLockTable) (name : ByteArray) (page : Int) : Bool := x.locks.any (isHeldBy name page)

theorem holdsPred (name : ByteArray) (page : Int) (B k k' : Nat) (w : World) (hk : k < B) (hk' : k' < B) (hc : w.cell? ⟨k, 0, none⟩ = some (.string name)) (hd : w.cell? ⟨k', 0, none⟩ = some (.int .i64 page)) :
    PredOn Try.prog DLock.rep 60 #[.pointer (some ⟨k, 0, none⟩), .pointer (some ⟨k', 0, none⟩)] (isHeldBy name page) B w := by
  intro W cs x hb hr
  obtain ⟨fp, hr⟩ := hr
  obtain ⟨rfl, _, s0⟩ := DLock.rd.1 hr
  have hc' := (hb.cell (p := ⟨k, 0, none⟩) hk).trans hc
  have hd' := (hb.cell (p := ⟨k', 0, none⟩) hk').trans hd
  have hkW := block_lt_of_cell hc'
  have hkW' := block_lt_of_cell hd'
  clear hr hb hc hd
  change Calls Try.prog 60 #[.agg #[.string x.name, .int .i64 x.page, .bool x.shared, .bool x.held], .pointer (some ⟨k, 0, none⟩), .pointer (some ⟨k', 0, none⟩)] W _
  cases h1 : x.held
  · go_enter Try.func60, Try.ntmps60
    go_wp2
    go_ret
    exact ⟨ret_bool (by simp [isHeldBy, h1]), (by repeat (first | with_reducible exact belR | with_reducible apply belA | (with_reducible refine belS ?_ ?_; focus (first | omega | (simp; done) | (simp; omega))) | with_reducible apply belN | with_reducible apply belD | with_reducible assumption))⟩
  · cases h2 : (x.name.toList == name.toList)
    · go_enter Try.func60, Try.ntmps60
      go_wp2
      go_ret
      exact ⟨ret_bool (by simp only [isHeldBy, h1, h2, Bool.and_false, Bool.false_and]), (by repeat (first | with_reducible exact belR | with_reducible apply belA | (with_reducible refine belS ?_ ?_; focus (first | omega | (simp; done) | (simp; omega))) | with_reducible apply belN | with_reducible apply belD | with_reducible assumption))⟩
    · go_enter Try.func60, Try.ntmps60
      go_wp2
      go_ret
      exact ⟨ret_bool (by simp only [isHeldBy, h1, h2, Bool.true_and]), (by repeat (first | with_reducible exact belR | with_reducible apply belA | (with_reducible refine belS ?_ ?_; focus (first | omega | (simp; done) | (simp; omega))) | with_reducible apply belN | with_reducible apply belD | with_reducible assumption))⟩

set_option maxHeartbeats 800000 in
theorem implHoldsLock (cs : List Value) (x : DLockTable) (name : ByteArray) (page : Int) (w : World) (h : Reads DLockTable.rep w cs x) :
    Calls Try.prog 14 #[.agg cs.toArray, .string name, .int .i64 page] w fun e w' => e = .returned (.bool (holdsLockF x name page)) ∧ Below w.heap.size w w' := by
  obtain ⟨fp_q, h⟩ := h
  obtain ⟨q_v1, q_f1, rfl, _, q_r1⟩ := DLockTable.rd.1 h
  obtain ⟨q_a1, q_c1, rfl, q_hm1, q_lc1, q_hu1⟩ := slice_open q_r1; clear q_hu1
  have q_K1 : Hid (Reads (Rep.slice 33 DLock.rep) w [.slice q_a1 x.locks.length q_c1] x.locks) := ⟨_, q_r1⟩
  clear q_r1 h
  go_enter Try.func14, Try.ntmps14
  go_wp2_with fail
  refine (containsFuncLock _ _ (isHeldBy name page) (w.heap.size + 3) _ _ _ (enters_at Try.func60 (by kernel_rfl) rfl) (q_K1.out.below (by repeat (first | with_reducible exact belR | with_reducible apply belA | (with_reducible refine belS ?_ ?_; focus (first | omega | (simp; done) | (simp; omega))) | with_reducible apply belN | with_reducible apply belD | with_reducible assumption))) (holdsPred name page _ _ _ _ (by omega) (by omega) ((WB.at (by simp)).growA.cell 0) ((WB.at (by simp)).cell 0)) (by simp)).mono ?_
  rintro e w1 ⟨rfl, hb⟩
  have HB := Lib.hid (Below.trans (by repeat (first | with_reducible exact belR | with_reducible apply belA | (with_reducible refine belS ?_ ?_; focus (first | omega | (simp; done) | (simp; omega))) | with_reducible apply belN | with_reducible apply belD | with_reducible assumption)) (hb.mono (by first | omega | (simp; done) | (simp; omega))) : Below w.heap.size w w1)
  go_wp2
  go_ret
  exact ⟨rfl, HB.out⟩

end Go.Proofs.Ytamdjeajmfjfmaa
