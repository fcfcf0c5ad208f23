/-
  LFamB: LWrite, LOutbox, LApplied, LServer, LSync, LReplica, in one text.
-/
import Derived.Test.YtgfpipallkfeiaaLFamA
import Derived.Test.YtgfpipallkfeiaaTFam
import Derived.Test.YtgfpipallkfeiaaBase

/-
  The laws' helpers for Write.
-/
namespace Go.Proofs.Ytgfpipallkfeiaa
open Go.RowKit

def DWrite.wt (x : DWrite) : Nat := x.key.wt + x.field.size

set_option maxHeartbeats 400000 in
theorem szWrite (cs : List Value) (x : DWrite) (left : Int) (w : World) (h : Reads DWrite.rep w cs x) (h0 : 0 ≤ left) (h1 : left ≤ 1048576) :
    Calls Try.prog 27 #[.agg cs.toArray, .int .i64 left] w fun e w' => e = .returned (.int .i64 (szOf x.wt left)) ∧ Below w.heap.size w w' := by
  obtain ⟨fp, h⟩ := h
  obtain ⟨rfl, _, s0, s1⟩ := DWrite.rd.1 h
  have HV1 : Hid (Reads DKey.rep w [.int .i64 x.key.kind, .int .i64 x.key.n, .string x.key.text] x.key) := ⟨_, DKey.rd.2 ⟨rfl, rfl, s0⟩⟩
  clear h
  unfold maxLen at s0 s1
  go_enter Try.func27, Try.ntmps27
  go_wp2_with fail
  have q1 : 0 ≤ left ∧ left ≤ 1048576 := by
    omega
  refine (szKey _ _ _ _ (HV1.out.below (by repeat (first | with_reducible exact belR | with_reducible apply belA | (with_reducible refine belS ?_ ?_; focus (first | omega | (simp; done) | (simp; omega))) | with_reducible apply belN | with_reducible apply belD | with_reducible assumption))) q1.1 q1.2).mono ?_
  rintro e w1 ⟨rfl, hb1⟩
  obtain ⟨hc1, hfz1⟩ := bcell hb1
  have hz1 : w.heap.size < w1.heap.size := by have y := hb1.size; simp at y; omega
  have HB1 := Lib.hid (below_call (w := w) (by repeat (first | with_reducible exact belR | with_reducible apply belA | (with_reducible refine belS ?_ ?_; focus (first | omega | (simp; done) | (simp; omega))) | with_reducible apply belN | with_reducible apply belD | with_reducible assumption)) (by first | omega | (simp; done) | (simp; omega)) hb1); clear hb1
  have bl1 : -1 ≤ szOf (x.key.wt) (left) ∧ szOf (x.key.wt) (left) ≤ 1048576 := by
    have a0 := szOf_spec (x.key.wt) (left)
    omega
  obtain ⟨bl1, bu1⟩ := bl1
  go_wp2_with fail
  · go_ret
    have y0 := HB1.out
    refine ⟨ret_int ?_, (by repeat (first | with_reducible exact belR | with_reducible apply belA | (with_reducible refine belS ?_ ?_; focus (first | omega | (simp; done) | (simp; omega))) | with_reducible apply belN | with_reducible apply belD | with_reducible assumption))⟩
    go_light
    have a0 := szOf_spec x.wt left
    have a1 := szOf_spec (x.key.wt) (left)
    unfold DWrite.wt at *
    omega
  · go_ret
    have y0 := HB1.out
    refine ⟨ret_int ?_, (by repeat (first | with_reducible exact belR | with_reducible apply belA | (with_reducible refine belS ?_ ?_; focus (first | omega | (simp; done) | (simp; omega))) | with_reducible apply belN | with_reducible apply belD | with_reducible assumption))⟩
    go_light
    have a0 := szOf_spec x.wt left
    have a1 := szOf_spec (x.key.wt) (left)
    unfold DWrite.wt at *
    omega
  · go_ret
    have y0 := HB1.out
    refine ⟨ret_int ?_, (by repeat (first | with_reducible exact belR | with_reducible apply belA | (with_reducible refine belS ?_ ?_; focus (first | omega | (simp; done) | (simp; omega))) | with_reducible apply belN | with_reducible apply belD | with_reducible assumption))⟩
    go_light
    have a0 := szOf_spec x.wt left
    have a1 := szOf_spec (x.key.wt) (left)
    unfold DWrite.wt at *
    omega

set_option maxHeartbeats 800000 in
theorem toWrite (cs : List Value) (x : DWrite) (w : World) (h : Reads DWrite.rep w cs x) (_hsmall : x.wt ≤ 1048576) :
    Calls Try.prog 35 #[.agg cs.toArray] w fun e w' => ∃ ds, e = .returned (.agg ds.toArray) ∧ Fresh DWrite.rep w.heap.size w' ds x ∧ Below w.heap.size w w' := by
  obtain ⟨fp, h⟩ := h
  obtain ⟨rfl, _, s0, s1⟩ := DWrite.rd.1 h
  have HV1 : Hid (Reads DKey.rep w [.int .i64 x.key.kind, .int .i64 x.key.n, .string x.key.text] x.key) := ⟨_, DKey.rd.2 ⟨rfl, rfl, s0⟩⟩
  have d1 : x.key.wt ≤ 1048576 := by unfold DWrite.wt at _hsmall; omega
  clear h 
  go_enter Try.func35, Try.ntmps35
  go_wp2_with fail
  refine (toKey _ _ _ (HV1.out.below (by repeat (first | with_reducible exact belR | with_reducible apply belA | (with_reducible refine belS ?_ ?_; focus (first | omega | (simp; done) | (simp; omega))) | with_reducible apply belN | with_reducible apply belD | with_reducible assumption))) d1).mono ?_
  rintro e w1 ⟨t1, rfl, hf1, hb1⟩
  obtain ⟨_, hf1, _⟩ := hf1
  obtain ⟨rfl, _, _⟩ := DKey.rd.1 hf1
  obtain ⟨hc1, hfz1⟩ := bcell hb1
  have hs1 : w.heap.size + 1 + 1 + 1 ≤ w1.heap.size := by have y := hb1.size; simp at y; omega
  have hz10 : w.heap.size < w1.heap.size := by omega
  have hz11 : w.heap.size + 1 < w1.heap.size := by omega
  have hz12 : w.heap.size + 1 + 1 < w1.heap.size := by omega
  have HB1 := Lib.hid (below_call (w := w) (by repeat (first | with_reducible exact belR | with_reducible apply belA | (with_reducible refine belS ?_ ?_; focus (first | omega | (simp; done) | (simp; omega))) | with_reducible apply belN | with_reducible apply belD | with_reducible assumption)) (by first | omega | (simp; done) | (simp; omega)) hb1)
  clear hb1
  go_wp2
  refine bodyPost_ret (v := .agg #[.int .i64 x.device, .int .i64 x.seq, .int .i64 x.key.kind, .int .i64 x.key.n, .string x.key.text, .string x.field, .int .i64 x.n]) (by first | (simp [results, Try.results35, go_sem]; done) | (simp [results, Try.results35, go_sem, hc1]; done)) rfl ⟨_, rfl, ?_, ?_⟩
  · exact ⟨[], DWrite.rd.2 ⟨rfl, rfl, s0, s1⟩, by simp, by simp⟩
  · have y := HB1.out
    exact (by repeat (first | with_reducible exact belR | with_reducible apply belA | (with_reducible refine belS ?_ ?_; focus (first | omega | (simp; done) | (simp; omega))) | with_reducible apply belN | with_reducible apply belD | with_reducible assumption))

set_option maxHeartbeats 800000 in
theorem eqWrite (cs ds : List Value) (x : DWrite) (w : World) (h : Reads DWrite.rep w cs x) (h' : Reads DWrite.rep w ds x) :
    Calls Try.prog 43 #[.agg cs.toArray, .agg ds.toArray] w fun e w' => e = .returned (.bool true) ∧ Below w.heap.size w w' := by
  obtain ⟨fp, h0⟩ := h
  obtain ⟨rfl, _, vs0, vs1⟩ := DWrite.rd.1 h0
  have HV1 : Hid (Reads DKey.rep w [.int .i64 x.key.kind, .int .i64 x.key.n, .string x.key.text] x.key) := ⟨_, DKey.rd.2 ⟨rfl, rfl, vs0⟩⟩
  clear h0 
  obtain ⟨fp, h0⟩ := h'
  obtain ⟨rfl, _, us0, us1⟩ := DWrite.rd.1 h0
  have HU1 : Hid (Reads DKey.rep w [.int .i64 x.key.kind, .int .i64 x.key.n, .string x.key.text] x.key) := ⟨_, DKey.rd.2 ⟨rfl, rfl, us0⟩⟩
  clear h0 
  go_enter Try.func43, Try.ntmps43
  go_wp2_with fail
  refine (eqKey _ _ _ _ (HV1.out.below (by repeat (first | with_reducible exact belR | with_reducible apply belA | (with_reducible refine belS ?_ ?_; focus (first | omega | (simp; done) | (simp; omega))) | with_reducible apply belN | with_reducible apply belD | with_reducible assumption))) (HU1.out.below (by repeat (first | with_reducible exact belR | with_reducible apply belA | (with_reducible refine belS ?_ ?_; focus (first | omega | (simp; done) | (simp; omega))) | with_reducible apply belN | with_reducible apply belD | with_reducible assumption)))).mono ?_
  rintro e w1 ⟨rfl, hb1⟩
  obtain ⟨hc1, hfz1⟩ := bcell hb1
  have hs1 : w.heap.size + 1 + 1 ≤ w1.heap.size := by have y := hb1.size; simp at y; omega
  have hz10 : w.heap.size < w1.heap.size := by omega
  have hz11 : w.heap.size + 1 < w1.heap.size := by omega
  have HB1 := Lib.hid (below_call (w := w) (by repeat (first | with_reducible exact belR | with_reducible apply belA | (with_reducible refine belS ?_ ?_; focus (first | omega | (simp; done) | (simp; omega))) | with_reducible apply belN | with_reducible apply belD | with_reducible assumption)) (by first | omega | (simp; done) | (simp; omega)) hb1)
  clear hb1
  go_wp2
  go_ret
  have y := HB1.out
  exact ⟨rfl, (by repeat (first | with_reducible exact belR | with_reducible apply belA | (with_reducible refine belS ?_ ?_; focus (first | omega | (simp; done) | (simp; omega))) | with_reducible apply belN | with_reducible apply belD | with_reducible assumption))⟩

set_option maxHeartbeats 400000 in
theorem szWriteS (v : Value) (l : List DWrite) (left : Int) (w : World) (h : Reads (Rep.slice 81 DWrite.rep) w [v] l) (h0 : 0 ≤ left) (h1 : left ≤ 1048576) :
    Calls Try.prog 11 #[v, .int .i64 left] w fun e w' => e = .returned (.int .i64 (szOf (wtS DWrite.wt l) left)) ∧ Below w.heap.size w w' := by
  have HK := Lib.hid h
  obtain ⟨fp, h⟩ := h
  obtain ⟨ao, c1, rfl, hm, _, hu⟩ := slice_open h
  clear hu h
  go_enter Try.func11, Try.ntmps11
  go_wp2
  · go_ret
    refine ⟨ret_int ?_, (by repeat (first | with_reducible exact belR | with_reducible apply belA | (with_reducible refine belS ?_ ?_; focus (first | omega | (simp; done) | (simp; omega))) | with_reducible apply belN | with_reducible apply belD | with_reducible assumption))⟩
    go_light
    have a0 := szOf_spec (wtS DWrite.wt l) left
    have a1 := wtS_ge DWrite.wt l
    omega
  · go_loopw [1, 5] (fun a i wr => ∃ k : Nat, k ≤ l.length ∧ i = .int .i64 k ∧ a = .int .i64 (left - l.length - wtT DWrite.wt l k) ∧ 0 ≤ left - l.length - wtT DWrite.wt l k ∧ Below w.heap.size w wr) (fun _ i _ => l.length - (intOf i).toNat)
    case atStart => exact ⟨0, by omega, rfl, by simp [wtT], by simp [wtT]; omega, (by repeat (first | with_reducible exact belR | with_reducible apply belA | (with_reducible refine belS ?_ ?_; focus (first | omega | (simp; done) | (simp; omega))) | with_reducible apply belN | with_reducible apply belD | with_reducible assumption))⟩
    case round =>
      obtain ⟨k, hk, rfl, rfl, hpos, hb⟩ := hrel
      have HB := Lib.hid hb; clear hb
      by_cases hlt : k < l.length
      · obtain ⟨b, off, cs, rfl, bw, hr, hcell⟩ := slice_at (HK.out.below HB.out) k hlt
        obtain ⟨fe, hrd⟩ := hr
        obtain ⟨rfl, _, _, _⟩ := DWrite.rd.1 hrd
        have HR : Hid (Reads DWrite.rep wr _ l[k]) := ⟨_, hrd⟩
        clear hrd
        have hc0 : wr.cell? ⟨b, off + k * 7, none⟩ = some (.int .i64 l[k].device) := hcell 0 (by decide)
        have hc1 : wr.cell? ⟨b, off + k * 7 + 1, none⟩ = some (.int .i64 l[k].seq) := hcell 1 (by decide)
        have hc2 : wr.cell? ⟨b, off + k * 7 + 2, none⟩ = some (.int .i64 l[k].key.kind) := hcell 2 (by decide)
        have hc3 : wr.cell? ⟨b, off + k * 7 + 3, none⟩ = some (.int .i64 l[k].key.n) := hcell 3 (by decide)
        have hc4 : wr.cell? ⟨b, off + k * 7 + 4, none⟩ = some (.string l[k].key.text) := hcell 4 (by decide)
        have hc5 : wr.cell? ⟨b, off + k * 7 + 5, none⟩ = some (.string l[k].field) := hcell 5 (by decide)
        have hc6 : wr.cell? ⟨b, off + k * 7 + 6, none⟩ = some (.int .i64 l[k].n) := hcell 6 (by decide)
        clear hcell
        go_wp2_with fail
        refine (szWrite _ _ _ _ HR.out (by omega) (by omega)).mono ?_
        rintro e w1 ⟨rfl, hb1⟩
        have HB1 := Lib.hid (below_call HB.out HB.out.size hb1); clear hb1
        go_wp2
        · go_ret
          refine ⟨ret_int ?_, HB1.out⟩
          go_light
          have a0 := szOf_spec (DWrite.wt l[k]) (left - l.length - wtT DWrite.wt l k)
          have a1 := szOf_spec (wtS DWrite.wt l) left
          have a2 := wtT_le DWrite.wt l (k + 1)
          rw [wtT_succ _ _ _ hlt] at a2
          unfold wtS at a1 ⊢
          omega
        · go_light
          have a0 := szOf_spec (DWrite.wt l[k]) (left - l.length - wtT DWrite.wt l k)
          have a2 := wtT_succ DWrite.wt l k hlt
          have e : szOf (DWrite.wt l[k]) (left - l.length - wtT DWrite.wt l k) = left - l.length - wtT DWrite.wt l (k + 1) := by omega
          refine ⟨⟨k + 1, by omega, by go_num, by rw [e], by omega, HB1.out⟩, by simp [intOf]; omega⟩
      · go_wp2
        go_ret
        refine ⟨ret_int ?_, HB.out⟩
        go_light
        obtain rfl : k = l.length := by omega
        have a1 := szOf_spec (wtS DWrite.wt l) left
        have a2 := wtT_all DWrite.wt l
        unfold wtS at a1 ⊢
        omega

theorem infoWrite : (Try.prog.info? 81).map (fun i => (i.zero, i.size, i.bytes)) = some (some (.agg #[.int .i64 0, .int .i64 0, .int .i64 0, .int .i64 0, .string ⟨#[]⟩, .string ⟨#[]⟩, .int .i64 0]), 7, 72) := by kernel_rfl

set_option maxRecDepth 100000 in
set_option maxHeartbeats 800000 in
theorem toWriteS (u : Value) (l : List DWrite) (w : World) (hu : Reads (Rep.slice 81 DWrite.rep) w [u] l) (hsmall : wtS DWrite.wt l ≤ 1048576) :
    Calls Try.prog 18 #[u] w fun e w' => ∃ v, e = .returned v ∧ Fresh (Rep.slice 81 DWrite.rep) w.heap.size w' [v] l ∧ Below w.heap.size w w' := by
  have HK := Lib.hid hu
  obtain ⟨fp, hu⟩ := hu
  obtain ⟨ao, c1, rfl, hm, _, hu⟩ := slice_open hu
  clear hu
  have hlen := wtS_ge DWrite.wt l
  have HW := Lib.hid hsmall
  obtain ⟨i0, hi, hz0, hz1, hz2⟩ := info_parts infoWrite
  go_enter Try.func18, Try.ntmps18
  go_wp2_with (at_make; refine wpList_make_full _ rfl _ _ 35 rfl w.heap.size 81 i0 _ 7 Try.underlying35 hi hz0 hz1 _ _ _ _ l.length rfl rfl rfl rfl ?c1 ?c2 (Nat.le_refl _) ?_)
  case c1 => rw [hz2]; omega
  case c2 => unfold maxLen; omega
  intro w1 hown hgrow
  have hf : Filling DWrite.rep 81 w.heap.size w.heap.size l.length l 0 w1 := Filling.start hown (Nat.le_refl _)
  have hb1 : Below w.heap.size w w1 := (Below.refl _ _).grown hgrow (Nat.le_refl _) (by intro k hk; cases hk)
  have HF := Lib.hid hf; clear hf hown
  have HB := Lib.hid hb1; clear hb1 hgrow
  go_wp2
  go_loopw [4] (fun i wr => ∃ k : Nat, k ≤ l.length ∧ i = .int .i64 k ∧ Filling DWrite.rep 81 w.heap.size w.heap.size l.length l k wr ∧ Below w.heap.size w wr) (fun i _ => l.length - (intOf i).toNat)
  case atStart => exact ⟨0, by omega, rfl, HF.out, HB.out⟩
  case round =>
    obtain ⟨k, hk, rfl, hf, hb⟩ := hrel
    have HB := Lib.hid hb; clear hb
    have HF := Lib.hid hf; clear hf
    by_cases hlt : k < l.length
    · obtain ⟨b, off, cs, rfl, bw, hr, hcell⟩ := slice_at (HK.out.below HB.out) k hlt
      obtain ⟨fe, hrd⟩ := hr
      obtain ⟨rfl, _, _, _⟩ := DWrite.rd.1 hrd
      have HR : Hid (Reads DWrite.rep wr _ l[k]) := ⟨_, hrd⟩
      clear hrd
      have hc0 : wr.cell? ⟨b, off + k * 7, none⟩ = some (.int .i64 l[k].device) := hcell 0 (by decide)
      have hc1 : wr.cell? ⟨b, off + k * 7 + 1, none⟩ = some (.int .i64 l[k].seq) := hcell 1 (by decide)
      have hc2 : wr.cell? ⟨b, off + k * 7 + 2, none⟩ = some (.int .i64 l[k].key.kind) := hcell 2 (by decide)
      have hc3 : wr.cell? ⟨b, off + k * 7 + 3, none⟩ = some (.int .i64 l[k].key.n) := hcell 3 (by decide)
      have hc4 : wr.cell? ⟨b, off + k * 7 + 4, none⟩ = some (.string l[k].key.text) := hcell 4 (by decide)
      have hc5 : wr.cell? ⟨b, off + k * 7 + 5, none⟩ = some (.string l[k].field) := hcell 5 (by decide)
      have hc6 : wr.cell? ⟨b, off + k * 7 + 6, none⟩ = some (.int .i64 l[k].n) := hcell 6 (by decide)
      clear hcell
      go_wp2_with fail
      refine (toWrite _ _ _ HR.out (Nat.le_trans (wtS_elem DWrite.wt l k hlt) HW.out)).mono ?_
      rintro e w1 ⟨ds, rfl, hfr, hb1⟩
      have HF1 := Lib.hid (Filling.step hlt rfl HF.out hb1 hfr)
      have HB1 := Lib.hid (setCells_below (Nat.le_refl _) ds (k * 7) _ (below_call HB.out HB.out.size hb1))
      obtain ⟨hcs, hfz⟩ := (HF.out.below hb1).cells hlt
      obtain ⟨fd, hrd, _⟩ := hfr
      obtain ⟨rfl, _, _, _⟩ := DWrite.rd.1 hrd
      obtain ⟨z0, hy0⟩ : ∃ u, w1.cell? ⟨w.heap.size, k * 7, none⟩ = some u := hcs 0 (by decide)
      obtain ⟨z1, hy1⟩ : ∃ u, w1.cell? ⟨w.heap.size, k * 7 + 1, none⟩ = some u := hcs 1 (by decide)
      obtain ⟨z2, hy2⟩ : ∃ u, w1.cell? ⟨w.heap.size, k * 7 + 2, none⟩ = some u := hcs 2 (by decide)
      obtain ⟨z3, hy3⟩ : ∃ u, w1.cell? ⟨w.heap.size, k * 7 + 3, none⟩ = some u := hcs 3 (by decide)
      obtain ⟨z4, hy4⟩ : ∃ u, w1.cell? ⟨w.heap.size, k * 7 + 4, none⟩ = some u := hcs 4 (by decide)
      obtain ⟨z5, hy5⟩ : ∃ u, w1.cell? ⟨w.heap.size, k * 7 + 5, none⟩ = some u := hcs 5 (by decide)
      obtain ⟨z6, hy6⟩ : ∃ u, w1.cell? ⟨w.heap.size, k * 7 + 6, none⟩ = some u := hcs 6 (by decide)
      clear hcs hb1 hrd hc0 hc1 hc2 hc3 hc4 hc5 hc6
      go_wp2
      go_light
      exact ⟨⟨k + 1, by omega, by go_num, HF1.out, HB1.out⟩, by simp [intOf]; omega⟩
    · have HW : Hid (Fresh (Rep.slice 81 DWrite.rep) w.heap.size wr [.slice (some ⟨w.heap.size, 0, none⟩) l.length l.length] l) := by
        have e : k = l.length := by omega
        have hf := HF.out
        rw [e] at hf
        exact hf.done rfl
      go_wp2
      go_ret
      exact ⟨_, rfl, HW.out, HB.out⟩

set_option maxRecDepth 100000 in
set_option maxHeartbeats 800000 in
theorem eqWriteS (u v : Value) (l : List DWrite) (w : World) (h : Reads (Rep.slice 81 DWrite.rep) w [u] l) (h' : Reads (Rep.slice 81 DWrite.rep) w [v] l) :
    Calls Try.prog 25 #[u, v] w fun e w' => e = .returned (.bool true) ∧ Below w.heap.size w w' := by
  have HK := Lib.hid h
  obtain ⟨fp, h⟩ := h
  obtain ⟨ao, c1, rfl, hm, _, hu⟩ := slice_open h
  clear hu h
  have HK' := Lib.hid h'
  obtain ⟨fp, h⟩ := h'
  obtain ⟨bo, c2, rfl, _, _, hu⟩ := slice_open h
  clear hu h
  go_enter Try.func25, Try.ntmps25
  go_wp2
  go_loopw [5] (fun i wr => ∃ k : Nat, k ≤ l.length ∧ i = .int .i64 k ∧ Below w.heap.size w wr) (fun i _ => l.length - (intOf i).toNat)
  case atStart => exact ⟨0, by omega, rfl, (by repeat (first | with_reducible exact belR | with_reducible apply belA | (with_reducible refine belS ?_ ?_; focus (first | omega | (simp; done) | (simp; omega))) | with_reducible apply belN | with_reducible apply belD | with_reducible assumption))⟩
  case round =>
    obtain ⟨k, hk, rfl, hb⟩ := hrel
    have HB := Lib.hid hb; clear hb
    by_cases hlt : k < l.length
    · obtain ⟨b, off, cs, rfl, bw, hr, hcell⟩ := slice_at (HK.out.below HB.out) k hlt
      obtain ⟨fe, hrd⟩ := hr
      obtain ⟨rfl, _, _, _⟩ := DWrite.rd.1 hrd
      have HR : Hid (Reads DWrite.rep wr _ l[k]) := ⟨_, hrd⟩
      clear hrd
      have hc0 : wr.cell? ⟨b, off + k * 7, none⟩ = some (.int .i64 l[k].device) := hcell 0 (by decide)
      have hc1 : wr.cell? ⟨b, off + k * 7 + 1, none⟩ = some (.int .i64 l[k].seq) := hcell 1 (by decide)
      have hc2 : wr.cell? ⟨b, off + k * 7 + 2, none⟩ = some (.int .i64 l[k].key.kind) := hcell 2 (by decide)
      have hc3 : wr.cell? ⟨b, off + k * 7 + 3, none⟩ = some (.int .i64 l[k].key.n) := hcell 3 (by decide)
      have hc4 : wr.cell? ⟨b, off + k * 7 + 4, none⟩ = some (.string l[k].key.text) := hcell 4 (by decide)
      have hc5 : wr.cell? ⟨b, off + k * 7 + 5, none⟩ = some (.string l[k].field) := hcell 5 (by decide)
      have hc6 : wr.cell? ⟨b, off + k * 7 + 6, none⟩ = some (.int .i64 l[k].n) := hcell 6 (by decide)
      clear hcell
      obtain ⟨b', off', cs, rfl, b'w, hr, hcell⟩ := slice_at (HK'.out.below HB.out) k hlt
      obtain ⟨fe, hrd⟩ := hr
      obtain ⟨rfl, _, _, _⟩ := DWrite.rd.1 hrd
      have HR' : Hid (Reads DWrite.rep wr _ l[k]) := ⟨_, hrd⟩
      clear hrd
      have hd0 : wr.cell? ⟨b', off' + k * 7, none⟩ = some (.int .i64 l[k].device) := hcell 0 (by decide)
      have hd1 : wr.cell? ⟨b', off' + k * 7 + 1, none⟩ = some (.int .i64 l[k].seq) := hcell 1 (by decide)
      have hd2 : wr.cell? ⟨b', off' + k * 7 + 2, none⟩ = some (.int .i64 l[k].key.kind) := hcell 2 (by decide)
      have hd3 : wr.cell? ⟨b', off' + k * 7 + 3, none⟩ = some (.int .i64 l[k].key.n) := hcell 3 (by decide)
      have hd4 : wr.cell? ⟨b', off' + k * 7 + 4, none⟩ = some (.string l[k].key.text) := hcell 4 (by decide)
      have hd5 : wr.cell? ⟨b', off' + k * 7 + 5, none⟩ = some (.string l[k].field) := hcell 5 (by decide)
      have hd6 : wr.cell? ⟨b', off' + k * 7 + 6, none⟩ = some (.int .i64 l[k].n) := hcell 6 (by decide)
      clear hcell
      go_wp2_with fail
      go_still_tail 8, (by kernel_rfl)
      change wpList _ _ _ _ _ wr.drew
      go_wp2_with fail
      refine (eqWrite _ _ _ _ (HR.out.below (by repeat (first | with_reducible exact belR | with_reducible apply belA | (with_reducible refine belS ?_ ?_; focus (first | omega | (simp; done) | (simp; omega))) | with_reducible apply belN | with_reducible apply belD | with_reducible assumption))) (HR'.out.below (by repeat (first | with_reducible exact belR | with_reducible apply belA | (with_reducible refine belS ?_ ?_; focus (first | omega | (simp; done) | (simp; omega))) | with_reducible apply belN | with_reducible apply belD | with_reducible assumption)))).mono ?_
      rintro e w1 ⟨rfl, hb1⟩
      have HB1 := Lib.hid (below_call (belD HB.out) (belD HB.out).size hb1); clear hb1
      go_wp2
      go_light
      exact ⟨⟨k + 1, by omega, by go_num, HB1.out⟩, by simp [intOf]; omega⟩
    · go_wp2
      go_ret
      exact ⟨rfl, HB.out⟩

def DWrite.cnt (_ : DWrite) : Nat := 7
def DWrite.mk3 (k : Nat) (_ : DWrite) : DWrite := ⟨((k : Int)), ((k : Int) + 1), ⟨((k : Int) + 1 + 1), ((k : Int) + 1 + 1 + 1), markT (k + 4)⟩, markT (k + 5), ((k : Int) + 1 + 1 + 1 + 1 + 1 + 1)⟩

end Go.Proofs.Ytgfpipallkfeiaa


/-
  The laws' helpers for Outbox.
-/
namespace Go.Proofs.Ytgfpipallkfeiaa
open Go.RowKit

def DOutbox.wt (x : DOutbox) : Nat := wtS DWrite.wt x.writes

def DOutbox.cnt (x : DOutbox) : Nat := 2 + wtT DWrite.cnt x.writes x.writes.length
def DOutbox.mk3 (k : Nat) (x : DOutbox) : DOutbox := ⟨((k : Int)), ((k : Int) + 1), marks DWrite.mk3 DWrite.cnt (k + 2) x.writes⟩

def DOutbox.mcnt (x : DOutbox) : Nat := wtT DWrite.cnt x.writes x.writes.length
def DOutbox.mks (x : DOutbox) (k : Nat) : DOutbox := { x with writes := marks DWrite.mk3 DWrite.cnt (k) x.writes }

end Go.Proofs.Ytgfpipallkfeiaa


/-
  The laws' helpers for Applied.
-/
namespace Go.Proofs.Ytgfpipallkfeiaa
open Go.RowKit

def DApplied.wt (_ : DApplied) : Nat := 0

set_option maxHeartbeats 800000 in
theorem toApplied (cs : List Value) (x : DApplied) (w : World) (h : Reads DApplied.rep w cs x) (_hsmall : x.wt ≤ 1048576) :
    Calls Try.prog 34 #[.agg cs.toArray] w fun e w' => ∃ ds, e = .returned (.agg ds.toArray) ∧ Fresh DApplied.rep w.heap.size w' ds x ∧ Below w.heap.size w w' := by
  obtain ⟨fp, h⟩ := h
  obtain ⟨rfl, _⟩ := DApplied.rd.1 h
  clear h 
  go_enter Try.func34, Try.ntmps34
  go_wp2
  refine bodyPost_ret (v := .agg #[.int .i64 x.device, .int .i64 x.seq]) (by first | (simp [results, Try.results34, go_sem]; done)) rfl ⟨_, rfl, ?_, ?_⟩
  · exact ⟨[], DApplied.rd.2 ⟨rfl, rfl⟩, by simp, by simp⟩
  · exact (by repeat (first | with_reducible exact belR | with_reducible apply belA | (with_reducible refine belS ?_ ?_; focus (first | omega | (simp; done) | (simp; omega))) | with_reducible apply belN | with_reducible apply belD | with_reducible assumption))

set_option maxHeartbeats 800000 in
theorem eqApplied (cs ds : List Value) (x : DApplied) (w : World) (h : Reads DApplied.rep w cs x) (h' : Reads DApplied.rep w ds x) :
    Calls Try.prog 42 #[.agg cs.toArray, .agg ds.toArray] w fun e w' => e = .returned (.bool true) ∧ Below w.heap.size w w' := by
  obtain ⟨fp, h0⟩ := h
  obtain ⟨rfl, _⟩ := DApplied.rd.1 h0
  clear h0 
  obtain ⟨fp, h0⟩ := h'
  obtain ⟨rfl, _⟩ := DApplied.rd.1 h0
  clear h0 
  go_enter Try.func42, Try.ntmps42
  go_wp2
  go_ret
  exact ⟨rfl, (by repeat (first | with_reducible exact belR | with_reducible apply belA | (with_reducible refine belS ?_ ?_; focus (first | omega | (simp; done) | (simp; omega))) | with_reducible apply belN | with_reducible apply belD | with_reducible assumption))⟩

set_option maxHeartbeats 400000 in
theorem szAppliedS (v : Value) (l : List DApplied) (left : Int) (w : World) (h : Reads (Rep.slice 46 DApplied.rep) w [v] l) (h0 : 0 ≤ left) (h1 : left ≤ 1048576) :
    Calls Try.prog 10 #[v, .int .i64 left] w fun e w' => e = .returned (.int .i64 (szOf (wtS DApplied.wt l) left)) ∧ Below w.heap.size w w' := by
  have HK := Lib.hid h
  obtain ⟨fp, h⟩ := h
  obtain ⟨ao, c1, rfl, hm, _, hu⟩ := slice_open h
  clear hu h
  go_enter Try.func10, Try.ntmps10
  go_wp2
  all_goals
    go_ret
    refine ⟨ret_int ?_, (by repeat (first | with_reducible exact belR | with_reducible apply belA | (with_reducible refine belS ?_ ?_; focus (first | omega | (simp; done) | (simp; omega))) | with_reducible apply belN | with_reducible apply belD | with_reducible assumption))⟩
    go_light
    have a0 := szOf_spec (wtS DApplied.wt l) left
    have a1 : wtS DApplied.wt l = l.length := wtS_zero l
    omega

theorem infoApplied : (Try.prog.info? 46).map (fun i => (i.zero, i.size, i.bytes)) = some (some (.agg #[.int .i64 0, .int .i64 0]), 2, 16) := by kernel_rfl

set_option maxRecDepth 100000 in
set_option maxHeartbeats 800000 in
theorem toAppliedS (u : Value) (l : List DApplied) (w : World) (hu : Reads (Rep.slice 46 DApplied.rep) w [u] l) (hsmall : wtS DApplied.wt l ≤ 1048576) :
    Calls Try.prog 17 #[u] w fun e w' => ∃ v, e = .returned v ∧ Fresh (Rep.slice 46 DApplied.rep) w.heap.size w' [v] l ∧ Below w.heap.size w w' := by
  have HK := Lib.hid hu
  obtain ⟨fp, hu⟩ := hu
  obtain ⟨ao, c1, rfl, hm, _, hu⟩ := slice_open hu
  clear hu
  have hlen := wtS_ge DApplied.wt l
  have HW := Lib.hid hsmall
  obtain ⟨i0, hi, hz0, hz1, hz2⟩ := info_parts infoApplied
  go_enter Try.func17, Try.ntmps17
  go_wp2_with (at_make; refine wpList_make_full _ rfl _ _ 34 rfl w.heap.size 46 i0 _ 2 Try.underlying34 hi hz0 hz1 _ _ _ _ l.length rfl rfl rfl rfl ?c1 ?c2 (Nat.le_refl _) ?_)
  case c1 => rw [hz2]; omega
  case c2 => unfold maxLen; omega
  intro w1 hown hgrow
  have hf : Filling DApplied.rep 46 w.heap.size w.heap.size l.length l 0 w1 := Filling.start hown (Nat.le_refl _)
  have hb1 : Below w.heap.size w w1 := (Below.refl _ _).grown hgrow (Nat.le_refl _) (by intro k hk; cases hk)
  have HF := Lib.hid hf; clear hf hown
  have HB := Lib.hid hb1; clear hb1 hgrow
  go_wp2
  go_loopw [4] (fun i wr => ∃ k : Nat, k ≤ l.length ∧ i = .int .i64 k ∧ Filling DApplied.rep 46 w.heap.size w.heap.size l.length l k wr ∧ Below w.heap.size w wr) (fun i _ => l.length - (intOf i).toNat)
  case atStart => exact ⟨0, by omega, rfl, HF.out, HB.out⟩
  case round =>
    obtain ⟨k, hk, rfl, hf, hb⟩ := hrel
    have HB := Lib.hid hb; clear hb
    have HF := Lib.hid hf; clear hf
    by_cases hlt : k < l.length
    · obtain ⟨b, off, cs, rfl, bw, hr, hcell⟩ := slice_at (HK.out.below HB.out) k hlt
      obtain ⟨fe, hrd⟩ := hr
      obtain ⟨rfl, _⟩ := DApplied.rd.1 hrd
      have HR : Hid (Reads DApplied.rep wr _ l[k]) := ⟨_, hrd⟩
      clear hrd
      have hc0 : wr.cell? ⟨b, off + k * 2, none⟩ = some (.int .i64 l[k].device) := hcell 0 (by decide)
      have hc1 : wr.cell? ⟨b, off + k * 2 + 1, none⟩ = some (.int .i64 l[k].seq) := hcell 1 (by decide)
      clear hcell
      go_wp2_with fail
      refine (toApplied _ _ _ HR.out (Nat.le_trans (wtS_elem DApplied.wt l k hlt) HW.out)).mono ?_
      rintro e w1 ⟨ds, rfl, hfr, hb1⟩
      have HF1 := Lib.hid (Filling.step hlt rfl HF.out hb1 hfr)
      have HB1 := Lib.hid (setCells_below (Nat.le_refl _) ds (k * 2) _ (below_call HB.out HB.out.size hb1))
      obtain ⟨hcs, hfz⟩ := (HF.out.below hb1).cells hlt
      obtain ⟨fd, hrd, _⟩ := hfr
      obtain ⟨rfl, _⟩ := DApplied.rd.1 hrd
      obtain ⟨z0, hy0⟩ : ∃ u, w1.cell? ⟨w.heap.size, k * 2, none⟩ = some u := hcs 0 (by decide)
      obtain ⟨z1, hy1⟩ : ∃ u, w1.cell? ⟨w.heap.size, k * 2 + 1, none⟩ = some u := hcs 1 (by decide)
      clear hcs hb1 hrd hc0 hc1
      go_wp2
      go_light
      exact ⟨⟨k + 1, by omega, by go_num, HF1.out, HB1.out⟩, by simp [intOf]; omega⟩
    · have HW : Hid (Fresh (Rep.slice 46 DApplied.rep) w.heap.size wr [.slice (some ⟨w.heap.size, 0, none⟩) l.length l.length] l) := by
        have e : k = l.length := by omega
        have hf := HF.out
        rw [e] at hf
        exact hf.done rfl
      go_wp2
      go_ret
      exact ⟨_, rfl, HW.out, HB.out⟩

set_option maxRecDepth 100000 in
set_option maxHeartbeats 800000 in
theorem eqAppliedS (u v : Value) (l : List DApplied) (w : World) (h : Reads (Rep.slice 46 DApplied.rep) w [u] l) (h' : Reads (Rep.slice 46 DApplied.rep) w [v] l) :
    Calls Try.prog 24 #[u, v] w fun e w' => e = .returned (.bool true) ∧ Below w.heap.size w w' := by
  have HK := Lib.hid h
  obtain ⟨fp, h⟩ := h
  obtain ⟨ao, c1, rfl, hm, _, hu⟩ := slice_open h
  clear hu h
  have HK' := Lib.hid h'
  obtain ⟨fp, h⟩ := h'
  obtain ⟨bo, c2, rfl, _, _, hu⟩ := slice_open h
  clear hu h
  go_enter Try.func24, Try.ntmps24
  go_wp2
  go_loopw [5] (fun i wr => ∃ k : Nat, k ≤ l.length ∧ i = .int .i64 k ∧ Below w.heap.size w wr) (fun i _ => l.length - (intOf i).toNat)
  case atStart => exact ⟨0, by omega, rfl, (by repeat (first | with_reducible exact belR | with_reducible apply belA | (with_reducible refine belS ?_ ?_; focus (first | omega | (simp; done) | (simp; omega))) | with_reducible apply belN | with_reducible apply belD | with_reducible assumption))⟩
  case round =>
    obtain ⟨k, hk, rfl, hb⟩ := hrel
    have HB := Lib.hid hb; clear hb
    by_cases hlt : k < l.length
    · obtain ⟨b, off, cs, rfl, bw, hr, hcell⟩ := slice_at (HK.out.below HB.out) k hlt
      obtain ⟨fe, hrd⟩ := hr
      obtain ⟨rfl, _⟩ := DApplied.rd.1 hrd
      have HR : Hid (Reads DApplied.rep wr _ l[k]) := ⟨_, hrd⟩
      clear hrd
      have hc0 : wr.cell? ⟨b, off + k * 2, none⟩ = some (.int .i64 l[k].device) := hcell 0 (by decide)
      have hc1 : wr.cell? ⟨b, off + k * 2 + 1, none⟩ = some (.int .i64 l[k].seq) := hcell 1 (by decide)
      clear hcell
      obtain ⟨b', off', cs, rfl, b'w, hr, hcell⟩ := slice_at (HK'.out.below HB.out) k hlt
      obtain ⟨fe, hrd⟩ := hr
      obtain ⟨rfl, _⟩ := DApplied.rd.1 hrd
      have HR' : Hid (Reads DApplied.rep wr _ l[k]) := ⟨_, hrd⟩
      clear hrd
      have hd0 : wr.cell? ⟨b', off' + k * 2, none⟩ = some (.int .i64 l[k].device) := hcell 0 (by decide)
      have hd1 : wr.cell? ⟨b', off' + k * 2 + 1, none⟩ = some (.int .i64 l[k].seq) := hcell 1 (by decide)
      clear hcell
      go_wp2_with fail
      go_still_tail 8, (by kernel_rfl)
      change wpList _ _ _ _ _ wr.drew
      go_wp2_with fail
      refine (eqApplied _ _ _ _ (HR.out.below (by repeat (first | with_reducible exact belR | with_reducible apply belA | (with_reducible refine belS ?_ ?_; focus (first | omega | (simp; done) | (simp; omega))) | with_reducible apply belN | with_reducible apply belD | with_reducible assumption))) (HR'.out.below (by repeat (first | with_reducible exact belR | with_reducible apply belA | (with_reducible refine belS ?_ ?_; focus (first | omega | (simp; done) | (simp; omega))) | with_reducible apply belN | with_reducible apply belD | with_reducible assumption)))).mono ?_
      rintro e w1 ⟨rfl, hb1⟩
      have HB1 := Lib.hid (below_call (belD HB.out) (belD HB.out).size hb1); clear hb1
      go_wp2
      go_light
      exact ⟨⟨k + 1, by omega, by go_num, HB1.out⟩, by simp [intOf]; omega⟩
    · go_wp2
      go_ret
      exact ⟨rfl, HB.out⟩

def DApplied.cnt (_ : DApplied) : Nat := 2
def DApplied.mk3 (k : Nat) (_ : DApplied) : DApplied := ⟨((k : Int)), ((k : Int) + 1)⟩

end Go.Proofs.Ytgfpipallkfeiaa


/-
  The laws' helpers for Server.
-/
namespace Go.Proofs.Ytgfpipallkfeiaa
open Go.RowKit

def DServer.wt (x : DServer) : Nat := x.store.wt + wtS DApplied.wt x.applied + wtS DWrite.wt x.changes

set_option maxHeartbeats 400000 in
theorem szServer (cs : List Value) (x : DServer) (left : Int) (w : World) (h : Reads DServer.rep w cs x) (h0 : 0 ≤ left) (h1 : left ≤ 1048576) :
    Calls Try.prog 4 #[.agg cs.toArray, .int .i64 left] w fun e w' => e = .returned (.int .i64 (szOf x.wt left)) ∧ Below w.heap.size w w' := by
  obtain ⟨fp, h⟩ := h
  obtain ⟨v1, v2, v3, f1, f2, f3, rfl, _, s0, r1, r2, r3⟩ := DServer.rd.1 h
  have HV1 : Hid (Reads DStore.rep w [.string x.store.name, v1, .int .i64 x.store.auto] x.store) := ⟨_, DStore.rd.2 ⟨_, _, rfl, rfl, s0, r1⟩⟩
  have HV2 : Hid (Reads (Rep.slice 46 DApplied.rep) w [v2] x.applied) := ⟨_, r2⟩
  have HV3 : Hid (Reads (Rep.slice 81 DWrite.rep) w [v3] x.changes) := ⟨_, r3⟩
  clear h r1 r2 r3
  unfold maxLen at s0
  go_enter Try.func4, Try.ntmps4
  go_wp2_with fail
  have q1 : 0 ≤ left ∧ left ≤ 1048576 := by
    omega
  refine (szStore _ _ _ _ (HV1.out.below (by repeat (first | with_reducible exact belR | with_reducible apply belA | (with_reducible refine belS ?_ ?_; focus (first | omega | (simp; done) | (simp; omega))) | with_reducible apply belN | with_reducible apply belD | with_reducible assumption))) q1.1 q1.2).mono ?_
  rintro e w1 ⟨rfl, hb1⟩
  obtain ⟨hc1, hfz1⟩ := bcell hb1
  have hz1 : w.heap.size < w1.heap.size := by have y := hb1.size; (try simp at y); omega
  have HB1 := Lib.hid (below_call (B := w.heap.size) (w := w) (by repeat (first | with_reducible exact belR | with_reducible apply belA | (with_reducible refine belS ?_ ?_; focus (first | omega | (simp; done) | (simp; omega))) | with_reducible apply belN | with_reducible apply belD | with_reducible assumption)) (by first | omega | (simp; done) | (simp; omega)) hb1); clear hb1
  have bl1 : -1 ≤ szOf (x.store.wt) (left) ∧ szOf (x.store.wt) (left) ≤ 1048576 := by
    have a0 := szOf_spec (x.store.wt) (left)
    omega
  obtain ⟨bl1, bu1⟩ := bl1
  go_wp2_with fail
  · go_ret
    have y0 := HB1.out
    refine ⟨ret_int ?_, (by repeat (first | with_reducible exact belR | with_reducible apply belA | (with_reducible refine belS ?_ ?_; focus (first | omega | (simp; done) | (simp; omega))) | with_reducible apply belN | with_reducible apply belD | with_reducible assumption))⟩
    go_light
    have a0 := szOf_spec x.wt left
    have a1 := szOf_spec (x.store.wt) (left)
    unfold DServer.wt at *
    omega
  have q2 : 0 ≤ szOf (x.store.wt) (left) ∧ szOf (x.store.wt) (left) ≤ 1048576 := by
    have a0 := szOf_spec (x.store.wt) (left)
    omega
  refine (szAppliedS _ _ _ _ (HV2.out.below (by have y := HB1.out; exact (by repeat (first | with_reducible exact belR | with_reducible apply belA | (with_reducible refine belS ?_ ?_; focus (first | omega | (simp; done) | (simp; omega))) | with_reducible apply belN | with_reducible apply belD | with_reducible assumption)))) q2.1 q2.2).mono ?_
  rintro e w2 ⟨rfl, hb2⟩
  obtain ⟨hc2, hfz2⟩ := bcell hb2
  have hz2 : w.heap.size < w2.heap.size := by have y := hb2.size; (try simp at y); omega
  have HB2 := Lib.hid (below_call (B := w.heap.size) (w := w) (by have y := HB1.out; exact (by repeat (first | with_reducible exact belR | with_reducible apply belA | (with_reducible refine belS ?_ ?_; focus (first | omega | (simp; done) | (simp; omega))) | with_reducible apply belN | with_reducible apply belD | with_reducible assumption))) (by first | omega | (simp; done) | (simp; omega)) hb2); clear hb2
  have bl2 : -1 ≤ szOf (wtS DApplied.wt x.applied) (szOf (x.store.wt) (left)) ∧ szOf (wtS DApplied.wt x.applied) (szOf (x.store.wt) (left)) ≤ 1048576 := by
    have a0 := szOf_spec (wtS DApplied.wt x.applied) (szOf (x.store.wt) (left))
    omega
  obtain ⟨bl2, bu2⟩ := bl2
  go_wp2_with fail
  · go_ret
    have y0 := HB1.out
    have y1 := HB2.out
    refine ⟨ret_int ?_, (by repeat (first | with_reducible exact belR | with_reducible apply belA | (with_reducible refine belS ?_ ?_; focus (first | omega | (simp; done) | (simp; omega))) | with_reducible apply belN | with_reducible apply belD | with_reducible assumption))⟩
    go_light
    have a0 := szOf_spec x.wt left
    have a1 := szOf_spec (x.store.wt) (left)
    have a2 := szOf_spec (wtS DApplied.wt x.applied) (szOf (x.store.wt) (left))
    unfold DServer.wt at *
    omega
  have q3 : 0 ≤ szOf (wtS DApplied.wt x.applied) (szOf (x.store.wt) (left)) ∧ szOf (wtS DApplied.wt x.applied) (szOf (x.store.wt) (left)) ≤ 1048576 := by
    have a0 := szOf_spec (x.store.wt) (left)
    have a1 := szOf_spec (wtS DApplied.wt x.applied) (szOf (x.store.wt) (left))
    omega
  refine (szWriteS _ _ _ _ (HV3.out.below (by have y := HB2.out; exact (by repeat (first | with_reducible exact belR | with_reducible apply belA | (with_reducible refine belS ?_ ?_; focus (first | omega | (simp; done) | (simp; omega))) | with_reducible apply belN | with_reducible apply belD | with_reducible assumption)))) q3.1 q3.2).mono ?_
  rintro e w3 ⟨rfl, hb3⟩
  obtain ⟨hc3, hfz3⟩ := bcell hb3
  have hz3 : w.heap.size < w3.heap.size := by have y := hb3.size; (try simp at y); omega
  have HB3 := Lib.hid (below_call (B := w.heap.size) (w := w) (by have y := HB2.out; exact (by repeat (first | with_reducible exact belR | with_reducible apply belA | (with_reducible refine belS ?_ ?_; focus (first | omega | (simp; done) | (simp; omega))) | with_reducible apply belN | with_reducible apply belD | with_reducible assumption))) (by first | omega | (simp; done) | (simp; omega)) hb3); clear hb3
  have bl3 : -1 ≤ szOf (wtS DWrite.wt x.changes) (szOf (wtS DApplied.wt x.applied) (szOf (x.store.wt) (left))) ∧ szOf (wtS DWrite.wt x.changes) (szOf (wtS DApplied.wt x.applied) (szOf (x.store.wt) (left))) ≤ 1048576 := by
    have a0 := szOf_spec (wtS DWrite.wt x.changes) (szOf (wtS DApplied.wt x.applied) (szOf (x.store.wt) (left)))
    omega
  obtain ⟨bl3, bu3⟩ := bl3
  go_wp2_with fail
  · go_ret
    have y0 := HB1.out
    have y1 := HB2.out
    have y2 := HB3.out
    refine ⟨ret_int ?_, (by repeat (first | with_reducible exact belR | with_reducible apply belA | (with_reducible refine belS ?_ ?_; focus (first | omega | (simp; done) | (simp; omega))) | with_reducible apply belN | with_reducible apply belD | with_reducible assumption))⟩
    go_light
    have a0 := szOf_spec x.wt left
    have a1 := szOf_spec (x.store.wt) (left)
    have a2 := szOf_spec (wtS DApplied.wt x.applied) (szOf (x.store.wt) (left))
    have a3 := szOf_spec (wtS DWrite.wt x.changes) (szOf (wtS DApplied.wt x.applied) (szOf (x.store.wt) (left)))
    unfold DServer.wt at *
    omega
  · go_ret
    have y0 := HB1.out
    have y1 := HB2.out
    have y2 := HB3.out
    refine ⟨ret_int ?_, (by repeat (first | with_reducible exact belR | with_reducible apply belA | (with_reducible refine belS ?_ ?_; focus (first | omega | (simp; done) | (simp; omega))) | with_reducible apply belN | with_reducible apply belD | with_reducible assumption))⟩
    go_light
    have a0 := szOf_spec x.wt left
    have a1 := szOf_spec (x.store.wt) (left)
    have a2 := szOf_spec (wtS DApplied.wt x.applied) (szOf (x.store.wt) (left))
    have a3 := szOf_spec (wtS DWrite.wt x.changes) (szOf (wtS DApplied.wt x.applied) (szOf (x.store.wt) (left)))
    unfold DServer.wt at *
    omega

set_option maxHeartbeats 800000 in
theorem toServer (cs : List Value) (x : DServer) (w : World) (h : Reads DServer.rep w cs x) (_hsmall : x.wt ≤ 1048576) :
    Calls Try.prog 6 #[.agg cs.toArray] w fun e w' => ∃ ds, e = .returned (.agg ds.toArray) ∧ Fresh DServer.rep w.heap.size w' ds x ∧ Below w.heap.size w w' := by
  obtain ⟨fp, h⟩ := h
  obtain ⟨v1, v2, v3, f1, f2, f3, rfl, _, s0, r1, r2, r3⟩ := DServer.rd.1 h
  have HV1 : Hid (Reads DStore.rep w [.string x.store.name, v1, .int .i64 x.store.auto] x.store) := ⟨_, DStore.rd.2 ⟨_, _, rfl, rfl, s0, r1⟩⟩
  have d1 : x.store.wt ≤ 1048576 := by unfold DServer.wt at _hsmall; omega
  have HV2 : Hid (Reads (Rep.slice 46 DApplied.rep) w [v2] x.applied) := ⟨_, r2⟩
  have d2 : wtS DApplied.wt x.applied ≤ 1048576 := by unfold DServer.wt at _hsmall; omega
  have HV3 : Hid (Reads (Rep.slice 81 DWrite.rep) w [v3] x.changes) := ⟨_, r3⟩
  have d3 : wtS DWrite.wt x.changes ≤ 1048576 := by unfold DServer.wt at _hsmall; omega
  clear h r1 r2 r3
  go_enter Try.func6, Try.ntmps6
  go_wp2_with fail
  refine (toStore _ _ _ (HV1.out.below (by repeat (first | with_reducible exact belR | with_reducible apply belA | (with_reducible refine belS ?_ ?_; focus (first | omega | (simp; done) | (simp; omega))) | with_reducible apply belN | with_reducible apply belD | with_reducible assumption))) d1).mono ?_
  rintro e w1 ⟨t1, rfl, hf1, hb1⟩
  obtain ⟨ao1, cap1, rfl⟩ := DStore.fshape hf1
  obtain ⟨hc1, hfz1⟩ := bcell hb1
  have hs1 : w.heap.size + 1 + 1 + 1 ≤ w1.heap.size := by have y := hb1.size; (try simp at y); omega
  have hz10 : w.heap.size < w1.heap.size := by omega
  have hz11 : w.heap.size + 1 < w1.heap.size := by omega
  have hz12 : w.heap.size + 1 + 1 < w1.heap.size := by omega
  have HF1 := Lib.hid (hf1.mono (B' := w.heap.size + 1 + 1 + 1) (by first | omega | (simp; done) | (simp; omega)))
  have HB1 := Lib.hid (below_call (B := w.heap.size) (w := w) (by repeat (first | with_reducible exact belR | with_reducible apply belA | (with_reducible refine belS ?_ ?_; focus (first | omega | (simp; done) | (simp; omega))) | with_reducible apply belN | with_reducible apply belD | with_reducible assumption)) (by first | omega | (simp; done) | (simp; omega)) hb1)
  clear hb1 hf1
  go_wp2_with fail
  refine (toAppliedS _ _ _ (HV2.out.below (by have y := HB1.out; exact (by repeat (first | with_reducible exact belR | with_reducible apply belA | (with_reducible refine belS ?_ ?_; focus (first | omega | (simp; done) | (simp; omega))) | with_reducible apply belN | with_reducible apply belD | with_reducible assumption)))) d2).mono ?_
  rintro e w2 ⟨t2, rfl, hf2, hb2⟩
  obtain ⟨ao2, cap2, rfl⟩ := hf2.slice
  obtain ⟨hc2, hfz2⟩ := bcell hb2
  have hs2 : w1.heap.size ≤ w2.heap.size := by have y := hb2.size; (try simp at y); omega
  have hz20 : w.heap.size < w2.heap.size := by omega
  have hz21 : w.heap.size + 1 < w2.heap.size := by omega
  have hz22 : w.heap.size + 1 + 1 < w2.heap.size := by omega
  have HA1_2 : Hid (Abv (w.heap.size + 1 + 1 + 1) w1 w2) := abB (by repeat (first | with_reducible exact abR | with_reducible apply abA | (with_reducible refine abS ?_ ?_; focus (first | omega | (simp; done) | (simp; omega))) | with_reducible apply abN | with_reducible apply abD | with_reducible assumption)) hb2 (by first | omega | (simp; done) | (simp; omega))
  have HF2 := Lib.hid (hf2.mono (B' := w1.heap.size) (by first | omega | (simp; done) | (simp; omega)))
  have HB2 := Lib.hid (below_call (B := w.heap.size) (w := w) (by have y := HB1.out; exact (by repeat (first | with_reducible exact belR | with_reducible apply belA | (with_reducible refine belS ?_ ?_; focus (first | omega | (simp; done) | (simp; omega))) | with_reducible apply belN | with_reducible apply belD | with_reducible assumption))) (by first | omega | (simp; done) | (simp; omega)) hb2)
  clear hb2 hf2
  go_wp2_with fail
  refine (toWriteS _ _ _ (HV3.out.below (by have y := HB2.out; exact (by repeat (first | with_reducible exact belR | with_reducible apply belA | (with_reducible refine belS ?_ ?_; focus (first | omega | (simp; done) | (simp; omega))) | with_reducible apply belN | with_reducible apply belD | with_reducible assumption)))) d3).mono ?_
  rintro e w3 ⟨t3, rfl, hf3, hb3⟩
  obtain ⟨ao3, cap3, rfl⟩ := hf3.slice
  obtain ⟨hc3, hfz3⟩ := bcell hb3
  have hs3 : w2.heap.size ≤ w3.heap.size := by have y := hb3.size; (try simp at y); omega
  have hz30 : w.heap.size < w3.heap.size := by omega
  have hz31 : w.heap.size + 1 < w3.heap.size := by omega
  have hz32 : w.heap.size + 1 + 1 < w3.heap.size := by omega
  have HA1_3 : Hid (Abv (w.heap.size + 1 + 1 + 1) w1 w3) := abB (by have y := HA1_2.out; exact (by repeat (first | with_reducible exact abR | with_reducible apply abA | (with_reducible refine abS ?_ ?_; focus (first | omega | (simp; done) | (simp; omega))) | with_reducible apply abN | with_reducible apply abD | with_reducible assumption))) hb3 (by first | omega | (simp; done) | (simp; omega))
  have HA2_3 : Hid (Abv (w1.heap.size) w2 w3) := abB (by repeat (first | with_reducible exact abR | with_reducible apply abA | (with_reducible refine abS ?_ ?_; focus (first | omega | (simp; done) | (simp; omega))) | with_reducible apply abN | with_reducible apply abD | with_reducible assumption)) hb3 (by first | omega | (simp; done) | (simp; omega))
  have HF3 := Lib.hid (hf3.mono (B' := w2.heap.size) (by first | omega | (simp; done) | (simp; omega)))
  have HB3 := Lib.hid (below_call (B := w.heap.size) (w := w) (by have y := HB2.out; exact (by repeat (first | with_reducible exact belR | with_reducible apply belA | (with_reducible refine belS ?_ ?_; focus (first | omega | (simp; done) | (simp; omega))) | with_reducible apply belN | with_reducible apply belD | with_reducible assumption))) (by first | omega | (simp; done) | (simp; omega)) hb3)
  clear hb3 hf3
  go_wp2
  refine bodyPost_ret (v := .agg #[.string x.store.name, .slice ao1 x.store.items.length cap1, .int .i64 x.store.auto, .slice ao2 x.applied.length cap2, .slice ao3 x.changes.length cap3]) (by first | (simp [results, Try.results6, go_sem, hc1, hc2, hc3, hz11, hz21]; done)) rfl ⟨_, rfl, ?_, ?_⟩
  · exact DServer.fresh (HF1.out.part (by have y := HA1_3.out; exact (by repeat (first | with_reducible exact abR | with_reducible apply abA | (with_reducible refine abS ?_ ?_; focus (first | omega | (simp; done) | (simp; omega))) | with_reducible apply abN | with_reducible apply abD | with_reducible assumption)))) (HF2.out.part (by have y := HA2_3.out; exact (by repeat (first | with_reducible exact abR | with_reducible apply abA | (with_reducible refine abS ?_ ?_; focus (first | omega | (simp; done) | (simp; omega))) | with_reducible apply abN | with_reducible apply abD | with_reducible assumption)))) (HF3.out.part (by repeat (first | with_reducible exact abR | with_reducible apply abA | (with_reducible refine abS ?_ ?_; focus (first | omega | (simp; done) | (simp; omega))) | with_reducible apply abN | with_reducible apply abD | with_reducible assumption))) (by first | omega | (simp; done) | (simp; omega)) (by first | omega | (simp; done) | (simp; omega)) (by first | omega | (simp; done) | (simp; omega)) (by first | omega | (simp; done) | (simp; omega)) (by first | omega | (simp; done) | (simp; omega)) 
  · have y := HB3.out
    exact (by repeat (first | with_reducible exact belR | with_reducible apply belA | (with_reducible refine belS ?_ ?_; focus (first | omega | (simp; done) | (simp; omega))) | with_reducible apply belN | with_reducible apply belD | with_reducible assumption))

set_option maxHeartbeats 800000 in
theorem eqServer (cs ds : List Value) (x : DServer) (w : World) (h : Reads DServer.rep w cs x) (h' : Reads DServer.rep w ds x) :
    Calls Try.prog 8 #[.agg cs.toArray, .agg ds.toArray] w fun e w' => e = .returned (.bool true) ∧ Below w.heap.size w w' := by
  obtain ⟨fp, h0⟩ := h
  obtain ⟨vv1, vv2, vv3, vf1, vf2, vf3, rfl, _, vs0, vr1, vr2, vr3⟩ := DServer.rd.1 h0
  have HV1 : Hid (Reads DStore.rep w [.string x.store.name, vv1, .int .i64 x.store.auto] x.store) := ⟨_, DStore.rd.2 ⟨_, _, rfl, rfl, vs0, vr1⟩⟩
  have HV2 : Hid (Reads (Rep.slice 46 DApplied.rep) w [vv2] x.applied) := ⟨_, vr2⟩
  have HV3 : Hid (Reads (Rep.slice 81 DWrite.rep) w [vv3] x.changes) := ⟨_, vr3⟩
  clear h0 vr1 vr2 vr3
  obtain ⟨fp, h0⟩ := h'
  obtain ⟨uv1, uv2, uv3, uf1, uf2, uf3, rfl, _, us0, ur1, ur2, ur3⟩ := DServer.rd.1 h0
  have HU1 : Hid (Reads DStore.rep w [.string x.store.name, uv1, .int .i64 x.store.auto] x.store) := ⟨_, DStore.rd.2 ⟨_, _, rfl, rfl, us0, ur1⟩⟩
  have HU2 : Hid (Reads (Rep.slice 46 DApplied.rep) w [uv2] x.applied) := ⟨_, ur2⟩
  have HU3 : Hid (Reads (Rep.slice 81 DWrite.rep) w [uv3] x.changes) := ⟨_, ur3⟩
  clear h0 ur1 ur2 ur3
  go_enter Try.func8, Try.ntmps8
  go_wp2_with fail
  refine (eqStore _ _ _ _ (HV1.out.below (by repeat (first | with_reducible exact belR | with_reducible apply belA | (with_reducible refine belS ?_ ?_; focus (first | omega | (simp; done) | (simp; omega))) | with_reducible apply belN | with_reducible apply belD | with_reducible assumption))) (HU1.out.below (by repeat (first | with_reducible exact belR | with_reducible apply belA | (with_reducible refine belS ?_ ?_; focus (first | omega | (simp; done) | (simp; omega))) | with_reducible apply belN | with_reducible apply belD | with_reducible assumption)))).mono ?_
  rintro e w1 ⟨rfl, hb1⟩
  obtain ⟨hc1, hfz1⟩ := bcell hb1
  have hs1 : w.heap.size + 1 + 1 ≤ w1.heap.size := by have y := hb1.size; (try simp at y); omega
  have hz10 : w.heap.size < w1.heap.size := by omega
  have hz11 : w.heap.size + 1 < w1.heap.size := by omega
  have HB1 := Lib.hid (below_call (B := w.heap.size) (w := w) (by repeat (first | with_reducible exact belR | with_reducible apply belA | (with_reducible refine belS ?_ ?_; focus (first | omega | (simp; done) | (simp; omega))) | with_reducible apply belN | with_reducible apply belD | with_reducible assumption)) (by first | omega | (simp; done) | (simp; omega)) hb1)
  clear hb1
  go_wp2_with fail
  refine (eqAppliedS _ _ _ _ (HV2.out.below (by have y := HB1.out; exact (by repeat (first | with_reducible exact belR | with_reducible apply belA | (with_reducible refine belS ?_ ?_; focus (first | omega | (simp; done) | (simp; omega))) | with_reducible apply belN | with_reducible apply belD | with_reducible assumption)))) (HU2.out.below (by have y := HB1.out; exact (by repeat (first | with_reducible exact belR | with_reducible apply belA | (with_reducible refine belS ?_ ?_; focus (first | omega | (simp; done) | (simp; omega))) | with_reducible apply belN | with_reducible apply belD | with_reducible assumption))))).mono ?_
  rintro e w2 ⟨rfl, hb2⟩
  obtain ⟨hc2, hfz2⟩ := bcell hb2
  have hs2 : w1.heap.size ≤ w2.heap.size := by have y := hb2.size; (try simp at y); omega
  have hz20 : w.heap.size < w2.heap.size := by omega
  have hz21 : w.heap.size + 1 < w2.heap.size := by omega
  have HB2 := Lib.hid (below_call (B := w.heap.size) (w := w) (by have y := HB1.out; exact (by repeat (first | with_reducible exact belR | with_reducible apply belA | (with_reducible refine belS ?_ ?_; focus (first | omega | (simp; done) | (simp; omega))) | with_reducible apply belN | with_reducible apply belD | with_reducible assumption))) (by first | omega | (simp; done) | (simp; omega)) hb2)
  clear hb2
  go_wp2_with fail
  refine (eqWriteS _ _ _ _ (HV3.out.below (by have y := HB2.out; exact (by repeat (first | with_reducible exact belR | with_reducible apply belA | (with_reducible refine belS ?_ ?_; focus (first | omega | (simp; done) | (simp; omega))) | with_reducible apply belN | with_reducible apply belD | with_reducible assumption)))) (HU3.out.below (by have y := HB2.out; exact (by repeat (first | with_reducible exact belR | with_reducible apply belA | (with_reducible refine belS ?_ ?_; focus (first | omega | (simp; done) | (simp; omega))) | with_reducible apply belN | with_reducible apply belD | with_reducible assumption))))).mono ?_
  rintro e w3 ⟨rfl, hb3⟩
  obtain ⟨hc3, hfz3⟩ := bcell hb3
  have hs3 : w2.heap.size ≤ w3.heap.size := by have y := hb3.size; (try simp at y); omega
  have hz30 : w.heap.size < w3.heap.size := by omega
  have hz31 : w.heap.size + 1 < w3.heap.size := by omega
  have HB3 := Lib.hid (below_call (B := w.heap.size) (w := w) (by have y := HB2.out; exact (by repeat (first | with_reducible exact belR | with_reducible apply belA | (with_reducible refine belS ?_ ?_; focus (first | omega | (simp; done) | (simp; omega))) | with_reducible apply belN | with_reducible apply belD | with_reducible assumption))) (by first | omega | (simp; done) | (simp; omega)) hb3)
  clear hb3
  go_wp2
  go_ret
  have y := HB3.out
  exact ⟨rfl, (by repeat (first | with_reducible exact belR | with_reducible apply belA | (with_reducible refine belS ?_ ?_; focus (first | omega | (simp; done) | (simp; omega))) | with_reducible apply belN | with_reducible apply belD | with_reducible assumption))⟩

theorem infoServer : (Try.prog.info? 37).map (fun i => (i.zero, i.size, i.bytes)) = some (some (.agg #[.string ⟨#[]⟩, .slice none 0 0, .int .i64 0, .slice none 0 0, .slice none 0 0]), 5, 96) := by kernel_rfl

def DServer.cnt (x : DServer) : Nat := 2 + wtT DItem.cnt x.store.items x.store.items.length + wtT DApplied.cnt x.applied x.applied.length + wtT DWrite.cnt x.changes x.changes.length
def DServer.mk3 (k : Nat) (x : DServer) : DServer := ⟨⟨markT (k), marks DItem.mk3 DItem.cnt (k + 1) x.store.items, (((k + 1 + wtT DItem.cnt x.store.items x.store.items.length : Nat) : Int))⟩, marks DApplied.mk3 DApplied.cnt (k + 1 + wtT DItem.cnt x.store.items x.store.items.length + 1) x.applied, marks DWrite.mk3 DWrite.cnt (k + 1 + wtT DItem.cnt x.store.items x.store.items.length + 1 + wtT DApplied.cnt x.applied x.applied.length) x.changes⟩

def DServer.mcnt (x : DServer) : Nat := x.store.mcnt + wtT DApplied.cnt x.applied x.applied.length + wtT DWrite.cnt x.changes x.changes.length
def DServer.mks (x : DServer) (k : Nat) : DServer := { store := x.store.mks (k), applied := marks DApplied.mk3 DApplied.cnt (k + x.store.mcnt) x.applied, changes := marks DWrite.mk3 DWrite.cnt (k + x.store.mcnt + wtT DApplied.cnt x.applied x.applied.length) x.changes }

end Go.Proofs.Ytgfpipallkfeiaa


/-
  The laws' helpers for Sync.
-/
namespace Go.Proofs.Ytgfpipallkfeiaa
open Go.RowKit

def DSync.wt (x : DSync) : Nat := x.outbox.wt

def DSync.cnt (x : DSync) : Nat := 4 + wtT DWrite.cnt x.outbox.writes x.outbox.writes.length
def DSync.mk3 (k : Nat) (x : DSync) : DSync := ⟨⟨((k : Int)), ((k : Int) + 1), marks DWrite.mk3 DWrite.cnt (k + 2) x.outbox.writes⟩, (((k + 2 + wtT DWrite.cnt x.outbox.writes x.outbox.writes.length : Nat) : Int)), (((k + 2 + wtT DWrite.cnt x.outbox.writes x.outbox.writes.length : Nat) : Int) + 1)⟩

def DSync.mcnt (x : DSync) : Nat := x.outbox.mcnt
def DSync.mks (x : DSync) (k : Nat) : DSync := { x with outbox := x.outbox.mks (k) }

end Go.Proofs.Ytgfpipallkfeiaa


/-
  The laws' helpers for Replica.
-/
namespace Go.Proofs.Ytgfpipallkfeiaa
open Go.RowKit

def DReplica.wt (x : DReplica) : Nat := x.base.wt + x.sync.wt

def DReplica.cnt (x : DReplica) : Nat := 7 + wtT DItem.cnt x.base.items x.base.items.length + wtT DWrite.cnt x.sync.outbox.writes x.sync.outbox.writes.length
def DReplica.mk3 (k : Nat) (x : DReplica) : DReplica := ⟨⟨markT (k), marks DItem.mk3 DItem.cnt (k + 1) x.base.items, (((k + 1 + wtT DItem.cnt x.base.items x.base.items.length : Nat) : Int))⟩, (((k + 1 + wtT DItem.cnt x.base.items x.base.items.length : Nat) : Int) + 1), ⟨⟨(((k + 1 + wtT DItem.cnt x.base.items x.base.items.length : Nat) : Int) + 1 + 1), (((k + 1 + wtT DItem.cnt x.base.items x.base.items.length : Nat) : Int) + 1 + 1 + 1), marks DWrite.mk3 DWrite.cnt (k + 1 + wtT DItem.cnt x.base.items x.base.items.length + 4) x.sync.outbox.writes⟩, (((k + 1 + wtT DItem.cnt x.base.items x.base.items.length + 4 + wtT DWrite.cnt x.sync.outbox.writes x.sync.outbox.writes.length : Nat) : Int)), (((k + 1 + wtT DItem.cnt x.base.items x.base.items.length + 4 + wtT DWrite.cnt x.sync.outbox.writes x.sync.outbox.writes.length : Nat) : Int) + 1)⟩⟩

def DReplica.mcnt (x : DReplica) : Nat := x.base.mcnt + x.sync.mcnt
def DReplica.mks (x : DReplica) (k : Nat) : DReplica := { x with base := x.base.mks (k), sync := x.sync.mks (k + x.base.mcnt) }

end Go.Proofs.Ytgfpipallkfeiaa
