/-
  copyOutbox, NewOutbox, EnqueueWrite.
-/
import Derived.Test.YtjdoofekohjjlaaIsOutbox
import Derived.Test.YtjdoofekohjjlaaLFamB
import Derived.Deep.RegionLaw
import Derived.BigRegion
namespace Go.Proofs.Ytjdoofekohjjlaa
open Go.RowKit

theorem DOutbox.fopen {B : Nat} {w : World} {cs : List Value} {x : DOutbox} (h : Fresh DOutbox.rep B w cs x) :
    ∃ a1 c1, cs = [.int .i64 x.device, .int .i64 x.next, .slice a1 x.writes.length c1] ∧ Fresh (Rep.slice 72 DWrite.rep) B w [.slice a1 x.writes.length c1] x.writes := by
  obtain ⟨fp, h, hn, hg⟩ := h
  obtain ⟨v1, f1, rfl, rfl, r1⟩ := DOutbox.parts h
  obtain ⟨a1, c1, rfl, _⟩ := slice_open r1
  exact ⟨a1, c1, rfl, fp, r1, hn, hg⟩
theorem DOutbox.fmk {B : Nat} {w : World} {v : Value} {x : DOutbox} (h : Fresh (Rep.slice 72 DWrite.rep) B w [v] x.writes) : Fresh DOutbox.rep B w [.int .i64 x.device, .int .i64 x.next, v] x :=
  DOutbox.fresh (h.partAt (Nat.le_refl _)) (Nat.le_refl _)


def newBox (d : Int) : DOutbox := ⟨d, 1, []⟩
def newOutboxB (d : Int) : Bool := isOutboxF (newBox d)
def newOutboxF (d : Int) : DOutbox := if newOutboxB d then newBox d else ⟨0, 0, []⟩

set_option maxRecDepth 100000 in
set_option maxHeartbeats 800000 in
theorem implNewOutbox (d : Int) (w : World) :
    Calls Try.prog 90 #[.int .i64 d] w fun e w' => ∃ ds, e = .returned (.tuple #[.agg ds.toArray, .bool (newOutboxB d)]) ∧ Fresh DOutbox.rep w.heap.size w' ds (newOutboxF d) ∧ Below w.heap.size w w' := by
  have hRd : ∀ W, Reads DOutbox.rep W [.int .i64 d, .int .i64 1, .slice none 0 0] (newBox d) := fun W => (DOutbox.fmk (x := newBox d) (B := 0) (w := W) Fresh.nil).reads
  go_enter Try.func90, Try.ntmps90
  go_wp2_with fail
  refine (implIsOutbox _ (newBox d) _ (hRd _)).mono ?_
  rintro e w1 ⟨rfl, hb⟩
  have HR : Hid (WB w1 w.heap.size #[.int .i64 0, .int .i64 0, .slice none 0 0]) := Lib.hid ((WB.at rfl).growA.keep hb)
  have HO : Hid (WB w1 (w.heap.size + 1) #[.int .i64 d, .int .i64 1, .slice none 0 0]) := Lib.hid ((WB.at (by simp)).keep hb)
  have HB : Hid (Below w.heap.size w w1) := Lib.hid (below_call (by repeat (first | with_reducible exact belR | with_reducible apply belA | (with_reducible refine belS ?_ ?_; focus (first | omega | (simp; done) | (simp; omega))) | with_reducible apply belN | with_reducible apply belD | with_reducible assumption)) (by first | omega | (simp; done) | (simp; omega)) hb)
  have hz : w.heap.size + 2 ≤ w1.heap.size := by have y := hb.size; simp at y; omega
  clear hb hRd
  have ⟨c_HR, z_HR, f_HR⟩ := HR.out
  have ⟨c_HO, z_HO, f_HO⟩ := HO.out
  cases hB : isOutboxF (newBox d)
  · have H1 : Hid (newOutboxB d = false) := Lib.hid hB
    go_wp2
    refine bodyPost_ret (v := .tuple #[.agg #[.int .i64 0, .int .i64 0, .slice none 0 0], .bool false]) (by simp [results, Try.results90, go_sem, c_HR]) rfl ⟨_, by rw [H1.out], ?_, ?_⟩
    · rw [newOutboxF, H1.out]
      exact DOutbox.fmk (x := ⟨0, 0, []⟩) Fresh.nil
    · have y := HB.out
      exact (by repeat (first | with_reducible exact belR | (with_reducible refine belAB ?_ ?_; focus (first | omega | (simp; done) | (simp; omega))) | (with_reducible refine belS ?_ ?_; focus (first | omega | (simp; done) | (simp; omega))) | with_reducible apply belN | with_reducible apply belD | with_reducible assumption))
  · have H1 : Hid (newOutboxB d = true) := Lib.hid hB
    go_wp2
    refine bodyPost_ret (v := .tuple #[.agg #[.int .i64 d, .int .i64 1, .slice none 0 0], .bool true]) (by simp [results, Try.results90, go_sem, c_HR]) rfl ⟨_, by rw [H1.out], ?_, ?_⟩
    · rw [newOutboxF, H1.out]
      exact DOutbox.fmk (x := newBox d) Fresh.nil
    · have y := HB.out
      exact (by repeat (first | with_reducible exact belR | (with_reducible refine belAB ?_ ?_; focus (first | omega | (simp; done) | (simp; omega))) | (with_reducible refine belS ?_ ?_; focus (first | omega | (simp; done) | (simp; omega))) | with_reducible apply belN | with_reducible apply belD | with_reducible assumption))


set_option maxRecDepth 100000 in
set_option maxHeartbeats 800000 in
theorem specNewOutbox (d : Int) (w : World) :
    Calls Try.prog 89 #[.int .i64 d] w fun e w' => ∃ ds, e = .returned (.tuple #[.agg ds.toArray, .bool (newOutboxB d)]) ∧ Fresh DOutbox.rep w.heap.size w' ds (newOutboxF d) ∧ Below w.heap.size w w' := by
  have hRd : ∀ W, Reads DOutbox.rep W [.int .i64 d, .int .i64 1, .slice none 0 0] (newBox d) := fun W => (DOutbox.fmk (x := newBox d) (B := 0) (w := W) Fresh.nil).reads
  go_enter Try.func89, Try.ntmps89
  go_wp2_with fail
  refine (specIsOutbox _ (newBox d) _ (hRd _)).mono ?_
  rintro e w1 ⟨rfl, hb⟩
  have HR : Hid (WB w1 w.heap.size #[.int .i64 0, .int .i64 0, .slice none 0 0]) := Lib.hid ((WB.at rfl).growA.keep hb)
  have HO : Hid (WB w1 (w.heap.size + 1) #[.int .i64 d, .int .i64 1, .slice none 0 0]) := Lib.hid ((WB.at (by simp)).keep hb)
  have HB : Hid (Below w.heap.size w w1) := Lib.hid (below_call (by repeat (first | with_reducible exact belR | with_reducible apply belA | (with_reducible refine belS ?_ ?_; focus (first | omega | (simp; done) | (simp; omega))) | with_reducible apply belN | with_reducible apply belD | with_reducible assumption)) (by first | omega | (simp; done) | (simp; omega)) hb)
  have hz : w.heap.size + 2 ≤ w1.heap.size := by have y := hb.size; simp at y; omega
  clear hb hRd
  have ⟨c_HR, z_HR, f_HR⟩ := HR.out
  have ⟨c_HO, z_HO, f_HO⟩ := HO.out
  cases hB : isOutboxF (newBox d)
  · have H1 : Hid (newOutboxB d = false) := Lib.hid hB
    go_wp2
    refine bodyPost_ret (v := .tuple #[.agg #[.int .i64 0, .int .i64 0, .slice none 0 0], .bool false]) (by simp [results, Try.results89, go_sem, c_HR]) rfl ⟨_, by rw [H1.out], ?_, ?_⟩
    · rw [newOutboxF, H1.out]
      exact DOutbox.fmk (x := ⟨0, 0, []⟩) Fresh.nil
    · have y := HB.out
      exact (by repeat (first | with_reducible exact belR | (with_reducible refine belAB ?_ ?_; focus (first | omega | (simp; done) | (simp; omega))) | (with_reducible refine belS ?_ ?_; focus (first | omega | (simp; done) | (simp; omega))) | with_reducible apply belN | with_reducible apply belD | with_reducible assumption))
  · have H1 : Hid (newOutboxB d = true) := Lib.hid hB
    go_wp2
    refine bodyPost_ret (v := .tuple #[.agg #[.int .i64 d, .int .i64 1, .slice none 0 0], .bool true]) (by simp [results, Try.results89, go_sem, c_HR]) rfl ⟨_, by rw [H1.out], ?_, ?_⟩
    · rw [newOutboxF, H1.out]
      exact DOutbox.fmk (x := newBox d) Fresh.nil
    · have y := HB.out
      exact (by repeat (first | with_reducible exact belR | (with_reducible refine belAB ?_ ?_; focus (first | omega | (simp; done) | (simp; omega))) | (with_reducible refine belS ?_ ?_; focus (first | omega | (simp; done) | (simp; omega))) | with_reducible apply belN | with_reducible apply belD | with_reducible assumption))


end Go.Proofs.Ytjdoofekohjjlaa
