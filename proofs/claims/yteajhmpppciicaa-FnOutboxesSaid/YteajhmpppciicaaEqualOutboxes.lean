/-
  EqualOutboxes, EqualSyncs.
-/
import Derived.Test.YteajhmpppciicaaEqFam
import Derived.Test.YteajhmpppciicaaTFam
namespace Go.Proofs.Yteajhmpppciicaa
open Go.RowKit

def equalOutboxesF (x y : DOutbox) : Bool := (x.device == y.device) && ((x.next == y.next) && decide (x.writes = y.writes))
def equalSyncsF (x y : DSync) : Bool := equalOutboxesF x.outbox y.outbox && ((x.tries == y.tries) && (x.waitUntil == y.waitUntil))

set_option maxHeartbeats 800000 in
theorem implEqualOutboxes (cs ds : List Value) (x y : DOutbox) (w : World) (h : Reads DOutbox.rep w cs x) (h' : Reads DOutbox.rep w ds y) :
    Calls Try.prog 9 #[.agg cs.toArray, .agg ds.toArray] w fun e w' => e = .returned (.bool (equalOutboxesF x y)) ∧ Below w.heap.size w w' := by
  obtain ⟨fp_q, h⟩ := h
  obtain ⟨q_v1, q_f1, rfl, _, q_r1⟩ := DOutbox.rd.1 h
  obtain ⟨q_a1, q_c1, rfl, q_hm1, q_lc1, q_hu1⟩ := slice_open q_r1; clear q_hu1
  have q_K1 : Hid (Reads (Rep.slice 35 DWrite.rep) w [.slice q_a1 x.writes.length q_c1] x.writes) := ⟨_, q_r1⟩
  clear q_r1 h
  obtain ⟨fp_r, h'⟩ := h'
  obtain ⟨r_v1, r_f1, rfl, _, r_r1⟩ := DOutbox.rd.1 h'
  obtain ⟨r_a1, r_c1, rfl, r_hm1, r_lc1, r_hu1⟩ := slice_open r_r1; clear r_hu1
  have r_K1 : Hid (Reads (Rep.slice 35 DWrite.rep) w [.slice r_a1 y.writes.length r_c1] y.writes) := ⟨_, r_r1⟩
  clear r_r1 h'
  cases h1 : (x.device == y.device)
  · go_enter Try.func9, Try.ntmps9
    go_wp2
    go_ret
    exact ⟨ret_bool (by simp only [equalOutboxesF, h1, Bool.false_and]), (by repeat (first | with_reducible exact belR | with_reducible apply belA | (with_reducible refine belS ?_ ?_; focus (first | omega | (simp; done) | (simp; omega))) | with_reducible apply belN | with_reducible apply belD | with_reducible assumption))⟩
  · cases h2 : (x.next == y.next)
    · go_enter Try.func9, Try.ntmps9
      go_wp2
      go_ret
      exact ⟨ret_bool (by simp only [equalOutboxesF, h2, Bool.and_false, Bool.false_and]), (by repeat (first | with_reducible exact belR | with_reducible apply belA | (with_reducible refine belS ?_ ?_; focus (first | omega | (simp; done) | (simp; omega))) | with_reducible apply belN | with_reducible apply belD | with_reducible assumption))⟩
    · go_enter Try.func9, Try.ntmps9
      go_wp2_with fail
      refine (slicesEqualWrite _ _ x.writes y.writes _ (q_K1.out.below (by repeat (first | with_reducible exact belR | with_reducible apply belA | (with_reducible refine belS ?_ ?_; focus (first | omega | (simp; done) | (simp; omega))) | with_reducible apply belN | with_reducible apply belD | with_reducible assumption))) (r_K1.out.below (by repeat (first | with_reducible exact belR | with_reducible apply belA | (with_reducible refine belS ?_ ?_; focus (first | omega | (simp; done) | (simp; omega))) | with_reducible apply belN | with_reducible apply belD | with_reducible assumption)))).mono ?_
      rintro e w1 ⟨rfl, hb⟩
      have HB := Lib.hid (Below.trans (by repeat (first | with_reducible exact belR | with_reducible apply belA | (with_reducible refine belS ?_ ?_; focus (first | omega | (simp; done) | (simp; omega))) | with_reducible apply belN | with_reducible apply belD | with_reducible assumption)) (hb.mono (by first | omega | (simp; done) | (simp; omega))) : Below w.heap.size w w1)
      go_wp2
      go_ret
      exact ⟨ret_bool (by simp only [equalOutboxesF, h1, h2, Bool.true_and]), HB.out⟩

end Go.Proofs.Yteajhmpppciicaa
