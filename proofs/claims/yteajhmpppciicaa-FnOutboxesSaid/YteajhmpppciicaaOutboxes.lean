/-
  copyOutbox, NewOutbox, EnqueueWrite.
-/
import Derived.Test.YteajhmpppciicaaIsOutbox
import Derived.Test.YteajhmpppciicaaLFamB
import Derived.Deep.RegionLaw
import Derived.BigRegion
namespace Go.Proofs.Yteajhmpppciicaa
open Go.RowKit

theorem DOutbox.fopen {B : Nat} {w : World} {cs : List Value} {x : DOutbox} (h : Fresh DOutbox.rep B w cs x) :
    ∃ a1 c1, cs = [.int .i64 x.device, .int .i64 x.next, .slice a1 x.writes.length c1] ∧ Fresh (Rep.slice 35 DWrite.rep) B w [.slice a1 x.writes.length c1] x.writes := by
  obtain ⟨fp, h, hn, hg⟩ := h
  obtain ⟨v1, f1, rfl, rfl, r1⟩ := DOutbox.parts h
  obtain ⟨a1, c1, rfl, _⟩ := slice_open r1
  exact ⟨a1, c1, rfl, fp, r1, hn, hg⟩
theorem DOutbox.fmk {B : Nat} {w : World} {v : Value} {x : DOutbox} (h : Fresh (Rep.slice 35 DWrite.rep) B w [v] x.writes) : Fresh DOutbox.rep B w [.int .i64 x.device, .int .i64 x.next, v] x :=
  DOutbox.fresh (h.partAt (Nat.le_refl _)) (Nat.le_refl _)

set_option maxRecDepth 100000 in
set_option maxHeartbeats 800000 in
theorem implCopyOutbox (cs : List Value) (x : DOutbox) (w : World) (h : Reads DOutbox.rep w cs x) (hs : x.writes.length ≤ 1048600) :
    Calls Try.prog 25 #[.agg cs.toArray] w fun e w' => ∃ ds, e = .returned (.agg ds.toArray) ∧ Fresh DOutbox.rep w.heap.size w' ds x ∧ Below w.heap.size w w' := by
  obtain ⟨fp_q, h⟩ := h
  obtain ⟨q_v1, q_f1, rfl, _, q_r1⟩ := DOutbox.rd.1 h
  obtain ⟨q_a1, q_c1, rfl, q_hm1, q_lc1, q_hu1⟩ := slice_open q_r1; clear q_hu1
  have q_K1 : Hid (Reads (Rep.slice 35 DWrite.rep) w [.slice q_a1 x.writes.length q_c1] x.writes) := ⟨_, q_r1⟩
  clear q_r1 h
  obtain ⟨i0, hi, hz0, hz1, hz2⟩ := info_parts infoWrite
  go_enter Try.func25, Try.ntmps25
  go_wp2_with (at_builtin; refine wpList_grow _ rfl _ _ 24 24 rfl DWrite.flat (w.heap.size + 2) 35 i0 _ _ Try.underlying24 hi hz0 hz1 hz2 rfl _ [] rfl (lit_fresh DWrite.flat (w := _) (xs := #[]) (us := []) rfl rfl (by decide) (by simp) (by simp)) _ x.writes rfl (DWrite.flat.src Try.underlying24 (q_K1.out.below (by repeat (first | with_reducible exact belR | with_reducible apply belA | (with_reducible refine belS ?_ ?_; focus (first | omega | (simp; done) | (simp; omega))) | with_reducible apply belN | with_reducible apply belD | with_reducible assumption)))) ?c1a ?c2a ?c3a ?c4a ?_)
  case c1a => exact (DWrite.flat.row q_K1.out).2
  case c2a => (try simp only [List.length_nil, Nat.zero_add]); omega
  case c3a => (try simp only [List.length_nil, Nat.zero_add]); unfold maxLen; omega
  try (case c4a => simp; try omega)
  intro ao1 cap1 w1 hf1 hb1
  have HF1 := Lib.hid hf1
  have HB1 := Lib.hid (Below.trans (by repeat (first | with_reducible exact belR | (with_reducible refine belAB ?_ ?_; focus (first | omega | (simp; done) | (simp; omega))) | (with_reducible refine belS ?_ ?_; focus (first | omega | (simp; done) | (simp; omega))) | with_reducible apply belN | with_reducible apply belD | with_reducible assumption)) (hb1.mono (by omega)) : Below w.heap.size w w1)
  have ⟨cr, zr, fr⟩ : WB w1 (w.heap.size + 1) #[.int .i64 0, .int .i64 0, .slice none 0 0] := ((WB.at (by simp)).growA).grow hb1 (by omega)
  have ⟨cx, zx, fx⟩ : WB w1 w.heap.size #[.int .i64 x.device, .int .i64 x.next, .slice q_a1 x.writes.length q_c1] := ((WB.at (by simp)).growA.growA).grow hb1 (by omega)
  clear hf1 hb1
  go_wp2
  refine bodyPost_ret (v := .agg #[.int .i64 x.device, .int .i64 x.next, .slice ao1 x.writes.length cap1]) (by simp [results, Try.results25, go_sem, cr]) rfl ⟨_, rfl, ?_, ?_⟩
  · exact DOutbox.fmk (Fresh.mono (B := (w.heap.size + 2)) (by repeat (first | exact HF1.out | refine Fresh.setLow ?_ (by omega) | refine Fresh.drew ?_)) (by omega))
  · have y := HB1.out
    exact (by repeat (first | with_reducible exact belR | (with_reducible refine belAB ?_ ?_; focus (first | omega | (simp; done) | (simp; omega))) | (with_reducible refine belS ?_ ?_; focus (first | omega | (simp; done) | (simp; omega))) | with_reducible apply belN | with_reducible apply belD | with_reducible assumption))


set_option maxRecDepth 100000 in
set_option maxHeartbeats 800000 in
theorem specCopyOutbox (cs : List Value) (x : DOutbox) (w : World) (h : Reads DOutbox.rep w cs x) (hs : x.writes.length ≤ 1048600) :
    Calls Try.prog 26 #[.agg cs.toArray] w fun e w' => ∃ ds, e = .returned (.agg ds.toArray) ∧ Fresh DOutbox.rep w.heap.size w' ds x ∧ Below w.heap.size w w' := by
  obtain ⟨fp_q, h⟩ := h
  obtain ⟨q_v1, q_f1, rfl, _, q_r1⟩ := DOutbox.rd.1 h
  obtain ⟨q_a1, q_c1, rfl, q_hm1, q_lc1, q_hu1⟩ := slice_open q_r1; clear q_hu1
  have q_K1 : Hid (Reads (Rep.slice 35 DWrite.rep) w [.slice q_a1 x.writes.length q_c1] x.writes) := ⟨_, q_r1⟩
  clear q_r1 h
  obtain ⟨i0, hi, hz0, hz1, hz2⟩ := info_parts infoWrite
  go_enter Try.func26, Try.ntmps26
  go_wp2_with (at_builtin; refine wpList_grow _ rfl _ _ 24 24 rfl DWrite.flat (w.heap.size + 3) 35 i0 _ _ Try.underlying24 hi hz0 hz1 hz2 rfl _ [] rfl (lit_fresh DWrite.flat (w := _) (xs := #[]) (us := []) rfl rfl (by decide) (by simp) (by simp)) _ x.writes rfl (DWrite.flat.src Try.underlying24 (q_K1.out.below (by repeat (first | with_reducible exact belR | with_reducible apply belA | (with_reducible refine belS ?_ ?_; focus (first | omega | (simp; done) | (simp; omega))) | with_reducible apply belN | with_reducible apply belD | with_reducible assumption)))) ?c1a ?c2a ?c3a ?c4a ?_)
  case c1a => exact (DWrite.flat.row q_K1.out).2
  case c2a => (try simp only [List.length_nil, Nat.zero_add]); omega
  case c3a => (try simp only [List.length_nil, Nat.zero_add]); unfold maxLen; omega
  try (case c4a => simp; try omega)
  intro ao1 cap1 w1 hf1 hb1
  have HF1 := Lib.hid hf1
  have HB1 := Lib.hid (Below.trans (by repeat (first | with_reducible exact belR | (with_reducible refine belAB ?_ ?_; focus (first | omega | (simp; done) | (simp; omega))) | (with_reducible refine belS ?_ ?_; focus (first | omega | (simp; done) | (simp; omega))) | with_reducible apply belN | with_reducible apply belD | with_reducible assumption)) (hb1.mono (by omega)) : Below w.heap.size w w1)
  have ⟨cr, zr, fr⟩ : WB w1 (w.heap.size + 1) #[.int .i64 0, .int .i64 0, .slice none 0 0] := ((WB.at (by simp)).growA.growA).grow hb1 (by omega)
  have ⟨cx, zx, fx⟩ : WB w1 (w.heap.size + 2) #[.int .i64 x.device, .int .i64 x.next, .slice q_a1 x.writes.length q_c1] := ((WB.at (by simp)).growA).grow hb1 (by omega)
  clear hf1 hb1
  go_wp2
  refine bodyPost_ret (v := .agg #[.int .i64 x.device, .int .i64 x.next, .slice ao1 x.writes.length cap1]) (by simp [results, Try.results26, go_sem, cr]) rfl ⟨_, rfl, ?_, ?_⟩
  · exact DOutbox.fmk (Fresh.mono (B := (w.heap.size + 3)) (by repeat (first | exact HF1.out | refine Fresh.setLow ?_ (by omega) | refine Fresh.drew ?_)) (by omega))
  · have y := HB1.out
    exact (by repeat (first | with_reducible exact belR | (with_reducible refine belAB ?_ ?_; focus (first | omega | (simp; done) | (simp; omega))) | (with_reducible refine belS ?_ ?_; focus (first | omega | (simp; done) | (simp; omega))) | with_reducible apply belN | with_reducible apply belD | with_reducible assumption))


def newBox (d : Int) : DOutbox := ⟨d, 1, []⟩
def newOutboxB (d : Int) : Bool := isOutboxF (newBox d)
def newOutboxF (d : Int) : DOutbox := if newOutboxB d then newBox d else ⟨0, 0, []⟩


set_option maxRecDepth 100000 in
set_option maxHeartbeats 800000 in
theorem specNewOutbox (d : Int) (w : World) :
    Calls Try.prog 81 #[.int .i64 d] w fun e w' => ∃ ds, e = .returned (.tuple #[.agg ds.toArray, .bool (newOutboxB d)]) ∧ Fresh DOutbox.rep w.heap.size w' ds (newOutboxF d) ∧ Below w.heap.size w w' := by
  have hRd : ∀ W, Reads DOutbox.rep W [.int .i64 d, .int .i64 1, .slice none 0 0] (newBox d) := fun W => (DOutbox.fmk (x := newBox d) (B := 0) (w := W) Fresh.nil).reads
  go_enter Try.func81, Try.ntmps81
  go_wp2_with fail
  refine (specIsOutbox _ (newBox d) _ (hRd _)).mono ?_
  rintro e w1 ⟨rfl, hb⟩
  have HR : Hid (WB w1 w.heap.size #[.int .i64 0, .int .i64 0, .slice none 0 0]) := Lib.hid ((WB.at rfl).growA.keep hb)
  have HO : Hid (WB w1 (w.heap.size + 1) #[.int .i64 d, .int .i64 1, .slice none 0 0]) := Lib.hid ((WB.at (by simp)).keep hb)
  have HB : Hid (Below w.heap.size w w1) := Lib.hid (below_call (by repeat (first | with_reducible exact belR | with_reducible apply belA | (with_reducible refine belS ?_ ?_; focus (first | omega | (simp; done) | (simp; omega))) | with_reducible apply belN | with_reducible apply belD | with_reducible assumption)) (by first | omega | (simp; done) | (simp; omega)) hb)
  have hz : w.heap.size + 2 ≤ w1.heap.size := by have y := hb.size; simp at y; omega
  clear hb hRd
  have ⟨c_HR, z_HR, f_HR⟩ := HR.out
  have ⟨c_HO, z_HO, f_HO⟩ := HO.out
  cases hB : isOutboxF (newBox d)
  · have H1 : Hid (newOutboxB d = false) := Lib.hid hB
    go_wp2
    refine bodyPost_ret (v := .tuple #[.agg #[.int .i64 0, .int .i64 0, .slice none 0 0], .bool false]) (by simp [results, Try.results81, go_sem, c_HR]) rfl ⟨_, by rw [H1.out], ?_, ?_⟩
    · rw [newOutboxF, H1.out]
      exact DOutbox.fmk (x := ⟨0, 0, []⟩) Fresh.nil
    · have y := HB.out
      exact (by repeat (first | with_reducible exact belR | (with_reducible refine belAB ?_ ?_; focus (first | omega | (simp; done) | (simp; omega))) | (with_reducible refine belS ?_ ?_; focus (first | omega | (simp; done) | (simp; omega))) | with_reducible apply belN | with_reducible apply belD | with_reducible assumption))
  · have H1 : Hid (newOutboxB d = true) := Lib.hid hB
    go_wp2
    refine bodyPost_ret (v := .tuple #[.agg #[.int .i64 d, .int .i64 1, .slice none 0 0], .bool true]) (by simp [results, Try.results81, go_sem, c_HR]) rfl ⟨_, by rw [H1.out], ?_, ?_⟩
    · rw [newOutboxF, H1.out]
      exact DOutbox.fmk (x := newBox d) Fresh.nil
    · have y := HB.out
      exact (by repeat (first | with_reducible exact belR | (with_reducible refine belAB ?_ ?_; focus (first | omega | (simp; done) | (simp; omega))) | (with_reducible refine belS ?_ ?_; focus (first | omega | (simp; done) | (simp; omega))) | with_reducible apply belN | with_reducible apply belD | with_reducible assumption))


end Go.Proofs.Yteajhmpppciicaa
