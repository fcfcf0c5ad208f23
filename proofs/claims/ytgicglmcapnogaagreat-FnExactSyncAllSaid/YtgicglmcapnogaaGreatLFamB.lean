/-
  LFamB: LWrite, LOutbox, LApplied, LServer, LSync, LReplica, in one text.
-/
import Derived.Test.YtgicglmcapnogaaGreatLFamA
import Derived.Test.YtgicglmcapnogaaGreatTFam
import Derived.Test.YtgicglmcapnogaaGreatBase

/-
  The laws' helpers for Write.
-/
namespace Go.Proofs.YtgicglmcapnogaaGreat
open Go.RowKit

def DWrite.wt (x : DWrite) : Nat := x.key.wt + x.field.size

set_option maxHeartbeats 400000 in
theorem szWrite (cs : List Value) (x : DWrite) (left : Int) (w : World) (h : Reads DWrite.rep w cs x) (h0 : 0 ≤ left) (h1 : left ≤ 1048576) :
    Calls Tryz.prog 63 #[.agg cs.toArray, .int .i64 left] w fun e w' => e = .returned (.int .i64 (szOf x.wt left)) ∧ Below w.heap.size w w' := by
  obtain ⟨fp, h⟩ := h
  obtain ⟨rfl, _, s0, s1⟩ := DWrite.rd.1 h
  have HV1 : Hid (Reads DKey.rep w [.int .i64 x.key.kind, .int .i64 x.key.n, .string x.key.text] x.key) := ⟨_, DKey.rd.2 ⟨rfl, rfl, s0⟩⟩
  clear h
  unfold maxLen at s0 s1
  go_enter Tryz.func63, Tryz.ntmps63
  go_wp2_with fail
  have q1 : 0 ≤ left ∧ left ≤ 1048576 := by
    omega
  refine (szKey _ _ _ _ (HV1.out.below (by repeat (first | with_reducible exact belR | with_reducible apply belA | (with_reducible refine belS ?_ ?_; focus (first | omega | (simp; done) | (simp; omega))) | with_reducible apply belN | with_reducible apply belD | with_reducible assumption))) q1.1 q1.2).mono ?_
  rintro e w1 ⟨rfl, hb1⟩
  obtain ⟨hc1, hfz1⟩ := bcell hb1
  have hz1 : w.heap.size < w1.heap.size := by have y := hb1.size; simp at y; omega
  have HB1 := Lib.hid (below_call (w := w) (by repeat (first | with_reducible exact belR | with_reducible apply belA | (with_reducible refine belS ?_ ?_; focus (first | omega | (simp; done) | (simp; omega))) | with_reducible apply belN | with_reducible apply belD | with_reducible assumption)) (by first | omega | (simp; done) | (simp; omega)) hb1); clear hb1
  have bl1 : -1 ≤ szOf (x.key.wt) (left) ∧ szOf (x.key.wt) (left) ≤ 1048576 := by
    have a0 := szOf_spec (x.key.wt) (left)
    omega
  obtain ⟨bl1, bu1⟩ := bl1
  go_wp2_with fail
  · go_ret
    have y0 := HB1.out
    refine ⟨ret_int ?_, (by repeat (first | with_reducible exact belR | with_reducible apply belA | (with_reducible refine belS ?_ ?_; focus (first | omega | (simp; done) | (simp; omega))) | with_reducible apply belN | with_reducible apply belD | with_reducible assumption))⟩
    go_light
    have a0 := szOf_spec x.wt left
    have a1 := szOf_spec (x.key.wt) (left)
    unfold DWrite.wt at *
    omega
  · go_ret
    have y0 := HB1.out
    refine ⟨ret_int ?_, (by repeat (first | with_reducible exact belR | with_reducible apply belA | (with_reducible refine belS ?_ ?_; focus (first | omega | (simp; done) | (simp; omega))) | with_reducible apply belN | with_reducible apply belD | with_reducible assumption))⟩
    go_light
    have a0 := szOf_spec x.wt left
    have a1 := szOf_spec (x.key.wt) (left)
    unfold DWrite.wt at *
    omega
  · go_ret
    have y0 := HB1.out
    refine ⟨ret_int ?_, (by repeat (first | with_reducible exact belR | with_reducible apply belA | (with_reducible refine belS ?_ ?_; focus (first | omega | (simp; done) | (simp; omega))) | with_reducible apply belN | with_reducible apply belD | with_reducible assumption))⟩
    go_light
    have a0 := szOf_spec x.wt left
    have a1 := szOf_spec (x.key.wt) (left)
    unfold DWrite.wt at *
    omega

set_option maxHeartbeats 800000 in
theorem toWrite (cs : List Value) (x : DWrite) (w : World) (h : Reads DWrite.rep w cs x) (_hsmall : x.wt ≤ 1048576) :
    Calls Tryz.prog 73 #[.agg cs.toArray] w fun e w' => ∃ ds, e = .returned (.agg ds.toArray) ∧ Fresh DWrite.rep w.heap.size w' ds x ∧ Below w.heap.size w w' := by
  obtain ⟨fp, h⟩ := h
  obtain ⟨rfl, _, s0, s1⟩ := DWrite.rd.1 h
  have HV1 : Hid (Reads DKey.rep w [.int .i64 x.key.kind, .int .i64 x.key.n, .string x.key.text] x.key) := ⟨_, DKey.rd.2 ⟨rfl, rfl, s0⟩⟩
  have d1 : x.key.wt ≤ 1048576 := by unfold DWrite.wt at _hsmall; omega
  clear h 
  go_enter Tryz.func73, Tryz.ntmps73
  go_wp2_with fail
  refine (toKey _ _ _ (HV1.out.below (by repeat (first | with_reducible exact belR | with_reducible apply belA | (with_reducible refine belS ?_ ?_; focus (first | omega | (simp; done) | (simp; omega))) | with_reducible apply belN | with_reducible apply belD | with_reducible assumption))) d1).mono ?_
  rintro e w1 ⟨t1, rfl, hf1, hb1⟩
  obtain ⟨_, hf1, _⟩ := hf1
  obtain ⟨rfl, _, _⟩ := DKey.rd.1 hf1
  obtain ⟨hc1, hfz1⟩ := bcell hb1
  have hs1 : w.heap.size + 1 + 1 + 1 ≤ w1.heap.size := by have y := hb1.size; simp at y; omega
  have hz10 : w.heap.size < w1.heap.size := by omega
  have hz11 : w.heap.size + 1 < w1.heap.size := by omega
  have hz12 : w.heap.size + 1 + 1 < w1.heap.size := by omega
  have HB1 := Lib.hid (below_call (w := w) (by repeat (first | with_reducible exact belR | with_reducible apply belA | (with_reducible refine belS ?_ ?_; focus (first | omega | (simp; done) | (simp; omega))) | with_reducible apply belN | with_reducible apply belD | with_reducible assumption)) (by first | omega | (simp; done) | (simp; omega)) hb1)
  clear hb1
  go_wp2
  refine bodyPost_ret (v := .agg #[.int .i64 x.device, .int .i64 x.seq, .int .i64 x.key.kind, .int .i64 x.key.n, .string x.key.text, .string x.field, .int .i64 x.n]) (by first | (simp [results, Tryz.results73, go_sem]; done) | (simp [results, Tryz.results73, go_sem, hc1]; done)) rfl ⟨_, rfl, ?_, ?_⟩
  · exact ⟨[], DWrite.rd.2 ⟨rfl, rfl, s0, s1⟩, by simp, by simp⟩
  · have y := HB1.out
    exact (by repeat (first | with_reducible exact belR | with_reducible apply belA | (with_reducible refine belS ?_ ?_; focus (first | omega | (simp; done) | (simp; omega))) | with_reducible apply belN | with_reducible apply belD | with_reducible assumption))

set_option maxHeartbeats 800000 in
theorem eqWrite (cs ds : List Value) (x : DWrite) (w : World) (h : Reads DWrite.rep w cs x) (h' : Reads DWrite.rep w ds x) :
    Calls Tryz.prog 86 #[.agg cs.toArray, .agg ds.toArray] w fun e w' => e = .returned (.bool true) ∧ Below w.heap.size w w' := by
  obtain ⟨fp, h0⟩ := h
  obtain ⟨rfl, _, vs0, vs1⟩ := DWrite.rd.1 h0
  have HV1 : Hid (Reads DKey.rep w [.int .i64 x.key.kind, .int .i64 x.key.n, .string x.key.text] x.key) := ⟨_, DKey.rd.2 ⟨rfl, rfl, vs0⟩⟩
  clear h0 
  obtain ⟨fp, h0⟩ := h'
  obtain ⟨rfl, _, us0, us1⟩ := DWrite.rd.1 h0
  have HU1 : Hid (Reads DKey.rep w [.int .i64 x.key.kind, .int .i64 x.key.n, .string x.key.text] x.key) := ⟨_, DKey.rd.2 ⟨rfl, rfl, us0⟩⟩
  clear h0 
  go_enter Tryz.func86, Tryz.ntmps86
  go_wp2_with fail
  refine (eqKey _ _ _ _ (HV1.out.below (by repeat (first | with_reducible exact belR | with_reducible apply belA | (with_reducible refine belS ?_ ?_; focus (first | omega | (simp; done) | (simp; omega))) | with_reducible apply belN | with_reducible apply belD | with_reducible assumption))) (HU1.out.below (by repeat (first | with_reducible exact belR | with_reducible apply belA | (with_reducible refine belS ?_ ?_; focus (first | omega | (simp; done) | (simp; omega))) | with_reducible apply belN | with_reducible apply belD | with_reducible assumption)))).mono ?_
  rintro e w1 ⟨rfl, hb1⟩
  obtain ⟨hc1, hfz1⟩ := bcell hb1
  have hs1 : w.heap.size + 1 + 1 ≤ w1.heap.size := by have y := hb1.size; simp at y; omega
  have hz10 : w.heap.size < w1.heap.size := by omega
  have hz11 : w.heap.size + 1 < w1.heap.size := by omega
  have HB1 := Lib.hid (below_call (w := w) (by repeat (first | with_reducible exact belR | with_reducible apply belA | (with_reducible refine belS ?_ ?_; focus (first | omega | (simp; done) | (simp; omega))) | with_reducible apply belN | with_reducible apply belD | with_reducible assumption)) (by first | omega | (simp; done) | (simp; omega)) hb1)
  clear hb1
  go_wp2
  go_ret
  have y := HB1.out
  exact ⟨rfl, (by repeat (first | with_reducible exact belR | with_reducible apply belA | (with_reducible refine belS ?_ ?_; focus (first | omega | (simp; done) | (simp; omega))) | with_reducible apply belN | with_reducible apply belD | with_reducible assumption))⟩

set_option maxHeartbeats 400000 in
theorem szWriteS (v : Value) (l : List DWrite) (left : Int) (w : World) (h : Reads (Rep.slice 72 DWrite.rep) w [v] l) (h0 : 0 ≤ left) (h1 : left ≤ 1048576) :
    Calls Tryz.prog 28 #[v, .int .i64 left] w fun e w' => e = .returned (.int .i64 (szOf (wtS DWrite.wt l) left)) ∧ Below w.heap.size w w' := by
  have HK := Lib.hid h
  obtain ⟨fp, h⟩ := h
  obtain ⟨ao, c1, rfl, hm, _, hu⟩ := slice_open h
  clear hu h
  go_enter Tryz.func28, Tryz.ntmps28
  go_wp2
  · go_ret
    refine ⟨ret_int ?_, (by repeat (first | with_reducible exact belR | with_reducible apply belA | (with_reducible refine belS ?_ ?_; focus (first | omega | (simp; done) | (simp; omega))) | with_reducible apply belN | with_reducible apply belD | with_reducible assumption))⟩
    go_light
    have a0 := szOf_spec (wtS DWrite.wt l) left
    have a1 := wtS_ge DWrite.wt l
    omega
  · go_loopw [1, 5] (fun a i wr => ∃ k : Nat, k ≤ l.length ∧ i = .int .i64 k ∧ a = .int .i64 (left - l.length - wtT DWrite.wt l k) ∧ 0 ≤ left - l.length - wtT DWrite.wt l k ∧ Below w.heap.size w wr) (fun _ i _ => l.length - (intOf i).toNat)
    case atStart => exact ⟨0, by omega, rfl, by simp [wtT], by simp [wtT]; omega, (by repeat (first | with_reducible exact belR | with_reducible apply belA | (with_reducible refine belS ?_ ?_; focus (first | omega | (simp; done) | (simp; omega))) | with_reducible apply belN | with_reducible apply belD | with_reducible assumption))⟩
    case round =>
      obtain ⟨k, hk, rfl, rfl, hpos, hb⟩ := hrel
      have HB := Lib.hid hb; clear hb
      by_cases hlt : k < l.length
      · obtain ⟨b, off, cs, rfl, bw, hr, hcell⟩ := slice_at (HK.out.below HB.out) k hlt
        obtain ⟨fe, hrd⟩ := hr
        obtain ⟨rfl, _, _, _⟩ := DWrite.rd.1 hrd
        have HR : Hid (Reads DWrite.rep wr _ l[k]) := ⟨_, hrd⟩
        clear hrd
        have hc0 : wr.cell? ⟨b, off + k * 7, none⟩ = some (.int .i64 l[k].device) := hcell 0 (by decide)
        have hc1 : wr.cell? ⟨b, off + k * 7 + 1, none⟩ = some (.int .i64 l[k].seq) := hcell 1 (by decide)
        have hc2 : wr.cell? ⟨b, off + k * 7 + 2, none⟩ = some (.int .i64 l[k].key.kind) := hcell 2 (by decide)
        have hc3 : wr.cell? ⟨b, off + k * 7 + 3, none⟩ = some (.int .i64 l[k].key.n) := hcell 3 (by decide)
        have hc4 : wr.cell? ⟨b, off + k * 7 + 4, none⟩ = some (.string l[k].key.text) := hcell 4 (by decide)
        have hc5 : wr.cell? ⟨b, off + k * 7 + 5, none⟩ = some (.string l[k].field) := hcell 5 (by decide)
        have hc6 : wr.cell? ⟨b, off + k * 7 + 6, none⟩ = some (.int .i64 l[k].n) := hcell 6 (by decide)
        clear hcell
        go_wp2_with fail
        refine (szWrite _ _ _ _ HR.out (by omega) (by omega)).mono ?_
        rintro e w1 ⟨rfl, hb1⟩
        have HB1 := Lib.hid (below_call HB.out HB.out.size hb1); clear hb1
        go_wp2
        · go_ret
          refine ⟨ret_int ?_, HB1.out⟩
          go_light
          have a0 := szOf_spec (DWrite.wt l[k]) (left - l.length - wtT DWrite.wt l k)
          have a1 := szOf_spec (wtS DWrite.wt l) left
          have a2 := wtT_le DWrite.wt l (k + 1)
          rw [wtT_succ _ _ _ hlt] at a2
          unfold wtS at a1 ⊢
          omega
        · go_light
          have a0 := szOf_spec (DWrite.wt l[k]) (left - l.length - wtT DWrite.wt l k)
          have a2 := wtT_succ DWrite.wt l k hlt
          have e : szOf (DWrite.wt l[k]) (left - l.length - wtT DWrite.wt l k) = left - l.length - wtT DWrite.wt l (k + 1) := by omega
          refine ⟨⟨k + 1, by omega, by go_num, by rw [e], by omega, HB1.out⟩, by simp [intOf]; omega⟩
      · go_wp2
        go_ret
        refine ⟨ret_int ?_, HB.out⟩
        go_light
        obtain rfl : k = l.length := by omega
        have a1 := szOf_spec (wtS DWrite.wt l) left
        have a2 := wtT_all DWrite.wt l
        unfold wtS at a1 ⊢
        omega

theorem infoWrite : (Tryz.prog.info? 72).map (fun i => (i.zero, i.size, i.bytes)) = some (some (.agg #[.int .i64 0, .int .i64 0, .int .i64 0, .int .i64 0, .string ⟨#[]⟩, .string ⟨#[]⟩, .int .i64 0]), 7, 72) := by kernel_rfl

set_option maxRecDepth 100000 in
set_option maxHeartbeats 800000 in
theorem toWriteS (u : Value) (l : List DWrite) (w : World) (hu : Reads (Rep.slice 72 DWrite.rep) w [u] l) (hsmall : wtS DWrite.wt l ≤ 1048576) :
    Calls Tryz.prog 41 #[u] w fun e w' => ∃ v, e = .returned v ∧ Fresh (Rep.slice 72 DWrite.rep) w.heap.size w' [v] l ∧ Below w.heap.size w w' := by
  have HK := Lib.hid hu
  obtain ⟨fp, hu⟩ := hu
  obtain ⟨ao, c1, rfl, hm, _, hu⟩ := slice_open hu
  clear hu
  have hlen := wtS_ge DWrite.wt l
  have HW := Lib.hid hsmall
  obtain ⟨i0, hi, hz0, hz1, hz2⟩ := info_parts infoWrite
  go_enter Tryz.func41, Tryz.ntmps41
  go_wp2_with (at_make; refine wpList_make_full _ rfl _ _ 35 rfl w.heap.size 72 i0 _ 7 Tryz.underlying35 hi hz0 hz1 _ _ _ _ l.length rfl rfl rfl rfl ?c1 ?c2 (Nat.le_refl _) ?_)
  case c1 => rw [hz2]; omega
  case c2 => unfold maxLen; omega
  intro w1 hown hgrow
  have hf : Filling DWrite.rep 72 w.heap.size w.heap.size l.length l 0 w1 := Filling.start hown (Nat.le_refl _)
  have hb1 : Below w.heap.size w w1 := (Below.refl _ _).grown hgrow (Nat.le_refl _) (by intro k hk; cases hk)
  have HF := Lib.hid hf; clear hf hown
  have HB := Lib.hid hb1; clear hb1 hgrow
  go_wp2
  go_loopw [4] (fun i wr => ∃ k : Nat, k ≤ l.length ∧ i = .int .i64 k ∧ Filling DWrite.rep 72 w.heap.size w.heap.size l.length l k wr ∧ Below w.heap.size w wr) (fun i _ => l.length - (intOf i).toNat)
  case atStart => exact ⟨0, by omega, rfl, HF.out, HB.out⟩
  case round =>
    obtain ⟨k, hk, rfl, hf, hb⟩ := hrel
    have HB := Lib.hid hb; clear hb
    have HF := Lib.hid hf; clear hf
    by_cases hlt : k < l.length
    · obtain ⟨b, off, cs, rfl, bw, hr, hcell⟩ := slice_at (HK.out.below HB.out) k hlt
      obtain ⟨fe, hrd⟩ := hr
      obtain ⟨rfl, _, _, _⟩ := DWrite.rd.1 hrd
      have HR : Hid (Reads DWrite.rep wr _ l[k]) := ⟨_, hrd⟩
      clear hrd
      have hc0 : wr.cell? ⟨b, off + k * 7, none⟩ = some (.int .i64 l[k].device) := hcell 0 (by decide)
      have hc1 : wr.cell? ⟨b, off + k * 7 + 1, none⟩ = some (.int .i64 l[k].seq) := hcell 1 (by decide)
      have hc2 : wr.cell? ⟨b, off + k * 7 + 2, none⟩ = some (.int .i64 l[k].key.kind) := hcell 2 (by decide)
      have hc3 : wr.cell? ⟨b, off + k * 7 + 3, none⟩ = some (.int .i64 l[k].key.n) := hcell 3 (by decide)
      have hc4 : wr.cell? ⟨b, off + k * 7 + 4, none⟩ = some (.string l[k].key.text) := hcell 4 (by decide)
      have hc5 : wr.cell? ⟨b, off + k * 7 + 5, none⟩ = some (.string l[k].field) := hcell 5 (by decide)
      have hc6 : wr.cell? ⟨b, off + k * 7 + 6, none⟩ = some (.int .i64 l[k].n) := hcell 6 (by decide)
      clear hcell
      go_wp2_with fail
      refine (toWrite _ _ _ HR.out (Nat.le_trans (wtS_elem DWrite.wt l k hlt) HW.out)).mono ?_
      rintro e w1 ⟨ds, rfl, hfr, hb1⟩
      have HF1 := Lib.hid (Filling.step hlt rfl HF.out hb1 hfr)
      have HB1 := Lib.hid (setCells_below (Nat.le_refl _) ds (k * 7) _ (below_call HB.out HB.out.size hb1))
      obtain ⟨hcs, hfz⟩ := (HF.out.below hb1).cells hlt
      obtain ⟨fd, hrd, _⟩ := hfr
      obtain ⟨rfl, _, _, _⟩ := DWrite.rd.1 hrd
      obtain ⟨z0, hy0⟩ : ∃ u, w1.cell? ⟨w.heap.size, k * 7, none⟩ = some u := hcs 0 (by decide)
      obtain ⟨z1, hy1⟩ : ∃ u, w1.cell? ⟨w.heap.size, k * 7 + 1, none⟩ = some u := hcs 1 (by decide)
      obtain ⟨z2, hy2⟩ : ∃ u, w1.cell? ⟨w.heap.size, k * 7 + 2, none⟩ = some u := hcs 2 (by decide)
      obtain ⟨z3, hy3⟩ : ∃ u, w1.cell? ⟨w.heap.size, k * 7 + 3, none⟩ = some u := hcs 3 (by decide)
      obtain ⟨z4, hy4⟩ : ∃ u, w1.cell? ⟨w.heap.size, k * 7 + 4, none⟩ = some u := hcs 4 (by decide)
      obtain ⟨z5, hy5⟩ : ∃ u, w1.cell? ⟨w.heap.size, k * 7 + 5, none⟩ = some u := hcs 5 (by decide)
      obtain ⟨z6, hy6⟩ : ∃ u, w1.cell? ⟨w.heap.size, k * 7 + 6, none⟩ = some u := hcs 6 (by decide)
      clear hcs hb1 hrd hc0 hc1 hc2 hc3 hc4 hc5 hc6
      go_wp2
      go_light
      exact ⟨⟨k + 1, by omega, by go_num, HF1.out, HB1.out⟩, by simp [intOf]; omega⟩
    · have HW : Hid (Fresh (Rep.slice 72 DWrite.rep) w.heap.size wr [.slice (some ⟨w.heap.size, 0, none⟩) l.length l.length] l) := by
        have e : k = l.length := by omega
        have hf := HF.out
        rw [e] at hf
        exact hf.done rfl
      go_wp2
      go_ret
      exact ⟨_, rfl, HW.out, HB.out⟩

set_option maxRecDepth 100000 in
set_option maxHeartbeats 800000 in
theorem eqWriteS (u v : Value) (l : List DWrite) (w : World) (h : Reads (Rep.slice 72 DWrite.rep) w [u] l) (h' : Reads (Rep.slice 72 DWrite.rep) w [v] l) :
    Calls Tryz.prog 53 #[u, v] w fun e w' => e = .returned (.bool true) ∧ Below w.heap.size w w' := by
  have HK := Lib.hid h
  obtain ⟨fp, h⟩ := h
  obtain ⟨ao, c1, rfl, hm, _, hu⟩ := slice_open h
  clear hu h
  have HK' := Lib.hid h'
  obtain ⟨fp, h⟩ := h'
  obtain ⟨bo, c2, rfl, _, _, hu⟩ := slice_open h
  clear hu h
  go_enter Tryz.func53, Tryz.ntmps53
  go_wp2
  go_loopw [5] (fun i wr => ∃ k : Nat, k ≤ l.length ∧ i = .int .i64 k ∧ Below w.heap.size w wr) (fun i _ => l.length - (intOf i).toNat)
  case atStart => exact ⟨0, by omega, rfl, (by repeat (first | with_reducible exact belR | with_reducible apply belA | (with_reducible refine belS ?_ ?_; focus (first | omega | (simp; done) | (simp; omega))) | with_reducible apply belN | with_reducible apply belD | with_reducible assumption))⟩
  case round =>
    obtain ⟨k, hk, rfl, hb⟩ := hrel
    have HB := Lib.hid hb; clear hb
    by_cases hlt : k < l.length
    · obtain ⟨b, off, cs, rfl, bw, hr, hcell⟩ := slice_at (HK.out.below HB.out) k hlt
      obtain ⟨fe, hrd⟩ := hr
      obtain ⟨rfl, _, _, _⟩ := DWrite.rd.1 hrd
      have HR : Hid (Reads DWrite.rep wr _ l[k]) := ⟨_, hrd⟩
      clear hrd
      have hc0 : wr.cell? ⟨b, off + k * 7, none⟩ = some (.int .i64 l[k].device) := hcell 0 (by decide)
      have hc1 : wr.cell? ⟨b, off + k * 7 + 1, none⟩ = some (.int .i64 l[k].seq) := hcell 1 (by decide)
      have hc2 : wr.cell? ⟨b, off + k * 7 + 2, none⟩ = some (.int .i64 l[k].key.kind) := hcell 2 (by decide)
      have hc3 : wr.cell? ⟨b, off + k * 7 + 3, none⟩ = some (.int .i64 l[k].key.n) := hcell 3 (by decide)
      have hc4 : wr.cell? ⟨b, off + k * 7 + 4, none⟩ = some (.string l[k].key.text) := hcell 4 (by decide)
      have hc5 : wr.cell? ⟨b, off + k * 7 + 5, none⟩ = some (.string l[k].field) := hcell 5 (by decide)
      have hc6 : wr.cell? ⟨b, off + k * 7 + 6, none⟩ = some (.int .i64 l[k].n) := hcell 6 (by decide)
      clear hcell
      obtain ⟨b', off', cs, rfl, b'w, hr, hcell⟩ := slice_at (HK'.out.below HB.out) k hlt
      obtain ⟨fe, hrd⟩ := hr
      obtain ⟨rfl, _, _, _⟩ := DWrite.rd.1 hrd
      have HR' : Hid (Reads DWrite.rep wr _ l[k]) := ⟨_, hrd⟩
      clear hrd
      have hd0 : wr.cell? ⟨b', off' + k * 7, none⟩ = some (.int .i64 l[k].device) := hcell 0 (by decide)
      have hd1 : wr.cell? ⟨b', off' + k * 7 + 1, none⟩ = some (.int .i64 l[k].seq) := hcell 1 (by decide)
      have hd2 : wr.cell? ⟨b', off' + k * 7 + 2, none⟩ = some (.int .i64 l[k].key.kind) := hcell 2 (by decide)
      have hd3 : wr.cell? ⟨b', off' + k * 7 + 3, none⟩ = some (.int .i64 l[k].key.n) := hcell 3 (by decide)
      have hd4 : wr.cell? ⟨b', off' + k * 7 + 4, none⟩ = some (.string l[k].key.text) := hcell 4 (by decide)
      have hd5 : wr.cell? ⟨b', off' + k * 7 + 5, none⟩ = some (.string l[k].field) := hcell 5 (by decide)
      have hd6 : wr.cell? ⟨b', off' + k * 7 + 6, none⟩ = some (.int .i64 l[k].n) := hcell 6 (by decide)
      clear hcell
      go_wp2_with fail
      go_still_tail 8, (by kernel_rfl)
      change wpList _ _ _ _ _ wr.drew
      go_wp2_with fail
      refine (eqWrite _ _ _ _ (HR.out.below (by repeat (first | with_reducible exact belR | with_reducible apply belA | (with_reducible refine belS ?_ ?_; focus (first | omega | (simp; done) | (simp; omega))) | with_reducible apply belN | with_reducible apply belD | with_reducible assumption))) (HR'.out.below (by repeat (first | with_reducible exact belR | with_reducible apply belA | (with_reducible refine belS ?_ ?_; focus (first | omega | (simp; done) | (simp; omega))) | with_reducible apply belN | with_reducible apply belD | with_reducible assumption)))).mono ?_
      rintro e w1 ⟨rfl, hb1⟩
      have HB1 := Lib.hid (below_call (belD HB.out) (belD HB.out).size hb1); clear hb1
      go_wp2
      go_light
      exact ⟨⟨k + 1, by omega, by go_num, HB1.out⟩, by simp [intOf]; omega⟩
    · go_wp2
      go_ret
      exact ⟨rfl, HB.out⟩

def DWrite.cnt (_ : DWrite) : Nat := 7
def DWrite.mk3 (k : Nat) (_ : DWrite) : DWrite := ⟨((k : Int)), ((k : Int) + 1), ⟨((k : Int) + 1 + 1), ((k : Int) + 1 + 1 + 1), markT (k + 4)⟩, markT (k + 5), ((k : Int) + 1 + 1 + 1 + 1 + 1 + 1)⟩

set_option maxRecDepth 100000 in
set_option maxHeartbeats 1600000 in
theorem markWriteS (v : Value) (l : List DWrite) (fp : List Nat) (k : Nat) (w : World) (h : (Rep.slice 72 DWrite.rep).rd true w [v] l fp) (hnd : fp.Nodup) (hk : k + wtT DWrite.cnt l l.length ≤ 1000000000) :
    Calls Tryz.prog 57 #[v, .int .i64 k] w fun e w' => e = .returned (.int .i64 ((k + wtT DWrite.cnt l l.length : Nat) : Int)) ∧ (Rep.slice 72 DWrite.rep).rd true w' [v] (marks DWrite.mk3 DWrite.cnt k l) fp ∧ Chg fp w w' := by
  have HM : Hid (Marking DWrite.rep 72 DWrite.mk3 DWrite.cnt k l v fp w 0 w) := ⟨by rw [marked_zero]; exact h, Chg.refl⟩
  obtain ⟨ao, c1, rfl, hm, _, hu⟩ := slice_open h
  clear hu h
  go_enter Tryz.func57, Tryz.ntmps57
  go_wp2
  go_loopw [1, 5] (fun a i wr => ∃ j : Nat, j ≤ l.length ∧ i = .int .i64 j ∧ a = .int .i64 ((k + wtT DWrite.cnt l j : Nat) : Int) ∧ Marking DWrite.rep 72 DWrite.mk3 DWrite.cnt k l (.slice ao l.length c1) fp w j wr) (fun _ i _ => l.length - (intOf i).toNat)
  case atStart => exact ⟨0, by omega, rfl, by simp [wtT], HM.out⟩
  case round =>
    obtain ⟨j, hj, rfl, rfl, hma⟩ := hrel
    have HM := Lib.hid hma; clear hma
    by_cases hlt : j < l.length
    · have hw1 := wtT_succ DWrite.cnt l j hlt
      have hw2 := wtT_mono DWrite.cnt l (j + 1) l.length hlt
      generalize hq : k + wtT DWrite.cnt l j = q at *
      have hqc : q + DWrite.cnt l[j] ≤ 1000000000 := by omega
      unfold DWrite.cnt at hqc
      have HQ := Lib.hid hq; clear hq hw1 hw2
      have hlt' : j < (marked DWrite.mk3 DWrite.cnt k l j).length := by rw [marked_length]; exact hlt
      obtain ⟨g, cap, xs, cs, fe, hv, hg, hgfe, hfesub, hfend, hown, hrd, hcs, hshut⟩ := own_open HM.out.1 hnd j hlt'
      rw [marked_length] at hv hown
      simp only [Value.slice.injEq] at hv
      obtain ⟨rfl, _, rfl⟩ := hv
      have HG := Lib.hid hg; clear hg
      have HS := Lib.hid hshut; clear hshut
      have HFE := Lib.hid hfesub; clear hfesub
      have hval := marked_get DWrite.mk3 DWrite.cnt k l j hlt
      rw [List.getElem?_eq_getElem hlt'] at hval
      rw [Option.some.inj hval] at hrd
      clear hval
      have HO := Lib.hid hown; clear hown
      obtain ⟨rfl, hfe, _, _⟩ := DWrite.rd.1 hrd
      subst hfe
      have HC : Hid (Chg (g :: (([] : List Nat))) wr wr) := Chg.refl
      clear hrd hcs 
      obtain ⟨hcs, hfzwr⟩ := own_cells HO.out hlt
      obtain ⟨zwr_0, hzwr_0⟩ : ∃ u, wr.cell? ⟨g, j * 7, none⟩ = some u := hcs 0 (by decide)
      obtain ⟨zwr_1, hzwr_1⟩ : ∃ u, wr.cell? ⟨g, j * 7 + 1, none⟩ = some u := hcs 1 (by decide)
      obtain ⟨zwr_2, hzwr_2⟩ : ∃ u, wr.cell? ⟨g, j * 7 + 2, none⟩ = some u := hcs 2 (by decide)
      obtain ⟨zwr_3, hzwr_3⟩ : ∃ u, wr.cell? ⟨g, j * 7 + 3, none⟩ = some u := hcs 3 (by decide)
      obtain ⟨zwr_4, hzwr_4⟩ : ∃ u, wr.cell? ⟨g, j * 7 + 4, none⟩ = some u := hcs 4 (by decide)
      obtain ⟨zwr_5, hzwr_5⟩ : ∃ u, wr.cell? ⟨g, j * 7 + 5, none⟩ = some u := hcs 5 (by decide)
      obtain ⟨zwr_6, hzwr_6⟩ : ∃ u, wr.cell? ⟨g, j * 7 + 6, none⟩ = some u := hcs 6 (by decide)
      clear hcs
      go_wp2_with fail
      replace HO := Lib.hid (setCells_owns [.int .i64 ((q : Int)), .int .i64 ((q : Int) + 1), .int .i64 ((q : Int) + 1 + 1), .int .i64 ((q : Int) + 1 + 1 + 1)] (j * 7) _ _ HO.out)
      replace HC := Lib.hid (Chg.sets (g := g) (by simp) [.int .i64 ((q : Int)), .int .i64 ((q : Int) + 1), .int .i64 ((q : Int) + 1 + 1), .int .i64 ((q : Int) + 1 + 1 + 1)] (j * 7) _ HC.out)
      refine (markTextI (q + 4) _ (by omega) (by omega) _).mono ?_
      rintro e m1 ⟨rfl, hb⟩
      replace HO := Lib.hid (own_below HO.out hb (Nat.le_refl _))
      replace HC := Lib.hid (HC.out.trans (Chg.of_below hb (Nat.le_refl _)))
      clear hb
      clear hfzwr hzwr_0 hzwr_1 hzwr_2 hzwr_3 hzwr_4 hzwr_5 hzwr_6
      obtain ⟨hcs, hfzm1⟩ := own_cells HO.out hlt
      obtain ⟨zm1_4, hzm1_4⟩ : ∃ u, m1.cell? ⟨g, j * 7 + 4, none⟩ = some u := hcs 4 (by decide)
      obtain ⟨zm1_5, hzm1_5⟩ : ∃ u, m1.cell? ⟨g, j * 7 + 5, none⟩ = some u := hcs 5 (by decide)
      obtain ⟨zm1_6, hzm1_6⟩ : ∃ u, m1.cell? ⟨g, j * 7 + 6, none⟩ = some u := hcs 6 (by decide)
      clear hcs
      go_wp2_with fail
      replace HO := Lib.hid (setCells_owns [.string (markT (q + 4))] (j * 7 + 4) _ _ HO.out)
      replace HC := Lib.hid (Chg.sets (g := g) (by simp) [.string (markT (q + 4))] (j * 7 + 4) _ HC.out)
      refine (markTextI (q + 5) _ (by omega) (by omega) _).mono ?_
      rintro e m2 ⟨rfl, hb⟩
      replace HO := Lib.hid (own_below HO.out hb (Nat.le_refl _))
      replace HC := Lib.hid (HC.out.trans (Chg.of_below hb (Nat.le_refl _)))
      clear hb
      clear hfzm1 hzm1_4 hzm1_5 hzm1_6
      obtain ⟨hcs, hfzm2⟩ := own_cells HO.out hlt
      obtain ⟨zm2_5, hzm2_5⟩ : ∃ u, m2.cell? ⟨g, j * 7 + 5, none⟩ = some u := hcs 5 (by decide)
      obtain ⟨zm2_6, hzm2_6⟩ : ∃ u, m2.cell? ⟨g, j * 7 + 6, none⟩ = some u := hcs 6 (by decide)
      clear hcs
      go_wp2
      replace HO := Lib.hid (setCells_owns [.string (markT (q + 5)), .int .i64 ((q : Int) + 1 + 1 + 1 + 1 + 1 + 1)] (j * 7 + 5) _ _ HO.out)
      replace HC := Lib.hid (Chg.sets (g := g) (by simp) [.string (markT (q + 5)), .int .i64 ((q : Int) + 1 + 1 + 1 + 1 + 1 + 1)] (j * 7 + 5) _ HC.out)
      go_light
      have hlt1 := (Rep.slice 72 DWrite.rep).lt HM.out.1
      have hm' := marked_succ DWrite.mk3 DWrite.cnt k l j hlt
      rw [HQ.out] at hm'
      refine ⟨⟨j + 1, by omega, by go_num, ?_, ?_, ?_⟩, by simp [intOf]; omega⟩
      · rw [wtT_succ _ _ _ hlt, ← Nat.add_assoc, HQ.out]
        unfold DWrite.cnt
        exact val_int (by omega)
      · rw [← hm']
        refine HS.out _ [.int .i64 ((q : Int)), .int .i64 ((q : Int) + 1), .int .i64 ((q : Int) + 1 + 1), .int .i64 ((q : Int) + 1 + 1 + 1), .string (markT (q + 4)), .string (markT (q + 5)), .int .i64 ((q : Int) + 1 + 1 + 1 + 1 + 1 + 1)] _ (by rw [marked_length]; exact HO.out) (DWrite.rd.2 ⟨rfl, rfl, (by simp only [DWrite.mk3]; exact markT_le _), (by simp only [DWrite.mk3]; exact markT_le _)⟩) fun b hb hbg hbf => ?_
        exact HC.out.block b (hlt1 b hb) (by rw [List.mem_cons]; exact fun hx => hx.elim hbg hbf)
      · exact HM.out.2.trans (HC.out.mono fun b hb => (List.mem_cons.1 hb).elim (fun hx => by rw [hx]; exact HG.out) (HFE.out b))
    · have e : j = l.length := by omega
      have HE := Lib.hid e; clear e
      go_wp2
      go_ret
      have hm' := HM.out
      rw [HE.out] at hm' ⊢
      rw [Marking, marked_all] at hm'
      exact ⟨rfl, hm'.1, hm'.2⟩
theorem markWriteSI (v : Value) (l : List DWrite) (fp : List Nat) (k : Nat) (a : Int) (ha : a = k) (w : World) (h : (Rep.slice 72 DWrite.rep).rd true w [v] l fp) (hnd : fp.Nodup) (hk : k + wtT DWrite.cnt l l.length ≤ 1000000000) :
    Calls Tryz.prog 57 #[v, .int .i64 a] w fun e w' => e = .returned (.int .i64 ((k + wtT DWrite.cnt l l.length : Nat) : Int)) ∧ (Rep.slice 72 DWrite.rep).rd true w' [v] (marks DWrite.mk3 DWrite.cnt k l) fp ∧ Chg fp w w' := by
  subst ha; exact markWriteS v l fp k w h hnd hk

set_option maxRecDepth 100000 in
set_option maxHeartbeats 1600000 in
theorem heldWriteS (v : Value) (l : List DWrite) (k : Nat) (w : World) (h : Reads (Rep.slice 72 DWrite.rep) w [v] (marks DWrite.mk3 DWrite.cnt k l)) (hk : k + wtT DWrite.cnt l l.length ≤ 1000000000) :
    Calls Tryz.prog 61 #[v, .int .i64 k] w fun e w' => e = .returned (.int .i64 ((k + wtT DWrite.cnt l l.length : Nat) : Int)) ∧ Below w.heap.size w w' := by
  have HK := Lib.hid h
  obtain ⟨fp, hu⟩ := h
  obtain ⟨ao, c1, rfl, hm, _, hu⟩ := slice_open hu
  clear hu
  rw [marks_length] at HK hm ⊢
  go_enter Tryz.func61, Tryz.ntmps61
  go_wp2
  go_loopw [1, 5] (fun a i wr => ∃ j : Nat, j ≤ l.length ∧ i = .int .i64 j ∧ a = .int .i64 ((k + wtT DWrite.cnt l j : Nat) : Int) ∧ Below w.heap.size w wr) (fun _ i _ => l.length - (intOf i).toNat)
  case atStart => exact ⟨0, by omega, rfl, by simp [wtT], (by repeat (first | with_reducible exact belR | with_reducible apply belA | (with_reducible refine belS ?_ ?_; focus (first | omega | (simp; done) | (simp; omega))) | with_reducible apply belN | with_reducible apply belD | with_reducible assumption))⟩
  case round =>
    obtain ⟨j, hj, rfl, rfl, hb⟩ := hrel
    have HB := Lib.hid hb; clear hb
    by_cases hlt : j < l.length
    · have hw1 := wtT_succ DWrite.cnt l j hlt
      have hw2 := wtT_mono DWrite.cnt l (j + 1) l.length hlt
      have hlt' : j < (marks DWrite.mk3 DWrite.cnt k l).length := by rw [marks_length]; exact hlt
      have hval := marks_at DWrite.mk3 DWrite.cnt k l j hlt hlt'
      generalize hq : k + wtT DWrite.cnt l j = q at *
      have hqc : q + DWrite.cnt l[j] ≤ 1000000000 := by omega
      unfold DWrite.cnt at hqc
      have HQ := Lib.hid hq; clear hq hw1 hw2
      obtain ⟨b, off, cs, rfl, hbw, hr, hcell⟩ := slice_at (HK.out.below HB.out) j hlt'
      rw [hval] at hr
      clear hval
      obtain ⟨fe, hrd⟩ := hr
      obtain ⟨rfl, _, _, _⟩ := DWrite.rd.1 hrd
      have hc0 : wr.cell? ⟨b, off + j * 7, none⟩ = some (.int .i64 ((q : Int))) := hcell 0 (by decide)
      have hc1 : wr.cell? ⟨b, off + j * 7 + 1, none⟩ = some (.int .i64 ((q : Int) + 1)) := hcell 1 (by decide)
      have hc2 : wr.cell? ⟨b, off + j * 7 + 2, none⟩ = some (.int .i64 ((q : Int) + 1 + 1)) := hcell 2 (by decide)
      have hc3 : wr.cell? ⟨b, off + j * 7 + 3, none⟩ = some (.int .i64 ((q : Int) + 1 + 1 + 1)) := hcell 3 (by decide)
      have hc4 : wr.cell? ⟨b, off + j * 7 + 4, none⟩ = some (.string (markT (q + 4))) := hcell 4 (by decide)
      have hc5 : wr.cell? ⟨b, off + j * 7 + 5, none⟩ = some (.string (markT (q + 5))) := hcell 5 (by decide)
      have hc6 : wr.cell? ⟨b, off + j * 7 + 6, none⟩ = some (.int .i64 ((q : Int) + 1 + 1 + 1 + 1 + 1 + 1)) := hcell 6 (by decide)
      clear hcell hrd 
      go_wp2_with fail
      go_region_held3 (fun w' => w'.cell? ⟨b, off + j * 7 + 4, none⟩ = some (.string (markT (q + 4))) ∧ Below wr.heap.size wr w') (first | exact ⟨hc4, belD belR⟩ | exact ⟨(hb1.cell (p := ⟨b, off + j * 7 + 4, none⟩) hbw).trans hc4, (belD belR).trans hb1⟩)
        (first | (go_at_call 88; refine (markTextI (q + 4) _ (by omega) (by omega) _).mono ?_; rintro e m1 ⟨rfl, hb1⟩))
      obtain ⟨_, hbn⟩ := ‹_ ∧ Below wr.heap.size wr m1›
      have hm1_5 : m1.cell? ⟨b, off + j * 7 + 5, none⟩ = some (.string (markT (q + 5))) := (hbn.cell (p := ⟨b, off + j * 7 + 5, none⟩) hbw).trans hc5
      have hm1_6 : m1.cell? ⟨b, off + j * 7 + 6, none⟩ = some (.int .i64 ((q : Int) + 1 + 1 + 1 + 1 + 1 + 1)) := (hbn.cell (p := ⟨b, off + j * 7 + 6, none⟩) hbw).trans hc6
      replace hbw : b < m1.heap.size := Nat.lt_of_lt_of_le hbw hbn.size
      replace HB := Lib.hid (below_call HB.out HB.out.size hbn)
      clear hbn hb1 hc0 hc1 hc2 hc3 hc4 hc5 hc6
      go_wp2_with fail
      go_region_held3 (fun w' => w'.cell? ⟨b, off + j * 7 + 5, none⟩ = some (.string (markT (q + 5))) ∧ Below m1.heap.size m1 w') (first | exact ⟨hm1_5, belD belR⟩ | exact ⟨(hb1.cell (p := ⟨b, off + j * 7 + 5, none⟩) hbw).trans hm1_5, (belD belR).trans hb1⟩)
        (first | (go_at_call 88; refine (markTextI (q + 5) _ (by omega) (by omega) _).mono ?_; rintro e m2 ⟨rfl, hb1⟩))
      obtain ⟨_, hbn⟩ := ‹_ ∧ Below m1.heap.size m1 m2›
      have hm2_6 : m2.cell? ⟨b, off + j * 7 + 6, none⟩ = some (.int .i64 ((q : Int) + 1 + 1 + 1 + 1 + 1 + 1)) := (hbn.cell (p := ⟨b, off + j * 7 + 6, none⟩) hbw).trans hm1_6
      replace hbw : b < m2.heap.size := Nat.lt_of_lt_of_le hbw hbn.size
      replace HB := Lib.hid (below_call HB.out HB.out.size hbn)
      clear hbn hb1 hm1_5 hm1_6
      go_wp2
      go_light
      refine ⟨⟨j + 1, by omega, by go_num, ?_, HB.out⟩, by simp [intOf]; omega⟩
      rw [wtT_succ _ _ _ hlt, ← Nat.add_assoc, HQ.out]
      unfold DWrite.cnt
      exact val_int (by omega)
    · have e : j = l.length := by omega
      have HE := Lib.hid e; clear e
      go_wp2
      go_ret
      rw [HE.out]
      exact ⟨rfl, HB.out⟩
theorem heldWriteSI (v : Value) (l : List DWrite) (k : Nat) (a : Int) (ha : a = k) (w : World) (h : Reads (Rep.slice 72 DWrite.rep) w [v] (marks DWrite.mk3 DWrite.cnt k l)) (hk : k + wtT DWrite.cnt l l.length ≤ 1000000000) :
    Calls Tryz.prog 61 #[v, .int .i64 a] w fun e w' => e = .returned (.int .i64 ((k + wtT DWrite.cnt l l.length : Nat) : Int)) ∧ Below w.heap.size w w' := by
  subst ha; exact heldWriteS v l k w h hk

end Go.Proofs.YtgicglmcapnogaaGreat


/-
  The laws' helpers for Outbox.
-/
namespace Go.Proofs.YtgicglmcapnogaaGreat
open Go.RowKit

def DOutbox.wt (x : DOutbox) : Nat := wtS DWrite.wt x.writes

set_option maxHeartbeats 400000 in
theorem szOutbox (cs : List Value) (x : DOutbox) (left : Int) (w : World) (h : Reads DOutbox.rep w cs x) (h0 : 0 ≤ left) (h1 : left ≤ 1048576) :
    Calls Tryz.prog 25 #[.agg cs.toArray, .int .i64 left] w fun e w' => e = .returned (.int .i64 (szOf x.wt left)) ∧ Below w.heap.size w w' := by
  obtain ⟨fp, h⟩ := h
  obtain ⟨v1, f1, rfl, _, r1⟩ := DOutbox.rd.1 h
  have HV1 : Hid (Reads (Rep.slice 72 DWrite.rep) w [v1] x.writes) := ⟨_, r1⟩
  clear h r1
  go_enter Tryz.func25, Tryz.ntmps25
  go_wp2_with fail
  have q1 : 0 ≤ left ∧ left ≤ 1048576 := by
    omega
  refine (szWriteS _ _ _ _ (HV1.out.below (by repeat (first | with_reducible exact belR | with_reducible apply belA | (with_reducible refine belS ?_ ?_; focus (first | omega | (simp; done) | (simp; omega))) | with_reducible apply belN | with_reducible apply belD | with_reducible assumption))) q1.1 q1.2).mono ?_
  rintro e w1 ⟨rfl, hb1⟩
  obtain ⟨hc1, hfz1⟩ := bcell hb1
  have hz1 : w.heap.size < w1.heap.size := by have y := hb1.size; simp at y; omega
  have HB1 := Lib.hid (below_call (w := w) (by repeat (first | with_reducible exact belR | with_reducible apply belA | (with_reducible refine belS ?_ ?_; focus (first | omega | (simp; done) | (simp; omega))) | with_reducible apply belN | with_reducible apply belD | with_reducible assumption)) (by first | omega | (simp; done) | (simp; omega)) hb1); clear hb1
  have bl1 : -1 ≤ szOf (wtS DWrite.wt x.writes) (left) ∧ szOf (wtS DWrite.wt x.writes) (left) ≤ 1048576 := by
    have a0 := szOf_spec (wtS DWrite.wt x.writes) (left)
    omega
  obtain ⟨bl1, bu1⟩ := bl1
  go_wp2_with fail
  · go_ret
    have y0 := HB1.out
    refine ⟨ret_int ?_, (by repeat (first | with_reducible exact belR | with_reducible apply belA | (with_reducible refine belS ?_ ?_; focus (first | omega | (simp; done) | (simp; omega))) | with_reducible apply belN | with_reducible apply belD | with_reducible assumption))⟩
    go_light
    have a0 := szOf_spec x.wt left
    have a1 := szOf_spec (wtS DWrite.wt x.writes) (left)
    unfold DOutbox.wt at *
    omega
  · go_ret
    have y0 := HB1.out
    refine ⟨ret_int ?_, (by repeat (first | with_reducible exact belR | with_reducible apply belA | (with_reducible refine belS ?_ ?_; focus (first | omega | (simp; done) | (simp; omega))) | with_reducible apply belN | with_reducible apply belD | with_reducible assumption))⟩
    go_light
    have a0 := szOf_spec x.wt left
    have a1 := szOf_spec (wtS DWrite.wt x.writes) (left)
    unfold DOutbox.wt at *
    omega

set_option maxHeartbeats 800000 in
theorem toOutbox (cs : List Value) (x : DOutbox) (w : World) (h : Reads DOutbox.rep w cs x) (_hsmall : x.wt ≤ 1048576) :
    Calls Tryz.prog 38 #[.agg cs.toArray] w fun e w' => ∃ ds, e = .returned (.agg ds.toArray) ∧ Fresh DOutbox.rep w.heap.size w' ds x ∧ Below w.heap.size w w' := by
  obtain ⟨fp, h⟩ := h
  obtain ⟨v1, f1, rfl, _, r1⟩ := DOutbox.rd.1 h
  have HV1 : Hid (Reads (Rep.slice 72 DWrite.rep) w [v1] x.writes) := ⟨_, r1⟩
  have d1 : wtS DWrite.wt x.writes ≤ 1048576 := by unfold DOutbox.wt at _hsmall; omega
  clear h r1
  go_enter Tryz.func38, Tryz.ntmps38
  go_wp2_with fail
  refine (toWriteS _ _ _ (HV1.out.below (by repeat (first | with_reducible exact belR | with_reducible apply belA | (with_reducible refine belS ?_ ?_; focus (first | omega | (simp; done) | (simp; omega))) | with_reducible apply belN | with_reducible apply belD | with_reducible assumption))) d1).mono ?_
  rintro e w1 ⟨t1, rfl, hf1, hb1⟩
  obtain ⟨ao1, cap1, rfl⟩ := hf1.slice
  obtain ⟨hc1, hfz1⟩ := bcell hb1
  have hs1 : w.heap.size + 1 + 1 + 1 ≤ w1.heap.size := by have y := hb1.size; simp at y; omega
  have hz10 : w.heap.size < w1.heap.size := by omega
  have hz11 : w.heap.size + 1 < w1.heap.size := by omega
  have hz12 : w.heap.size + 1 + 1 < w1.heap.size := by omega
  have HF1 := Lib.hid (hf1.mono (B' := w.heap.size + 1 + 1 + 1) (by first | omega | (simp; done) | (simp; omega)))
  have HB1 := Lib.hid (below_call (w := w) (by repeat (first | with_reducible exact belR | with_reducible apply belA | (with_reducible refine belS ?_ ?_; focus (first | omega | (simp; done) | (simp; omega))) | with_reducible apply belN | with_reducible apply belD | with_reducible assumption)) (by first | omega | (simp; done) | (simp; omega)) hb1)
  clear hb1 hf1
  go_wp2
  refine bodyPost_ret (v := .agg #[.int .i64 x.device, .int .i64 x.next, .slice ao1 x.writes.length cap1]) (by first | (simp [results, Tryz.results38, go_sem]; done) | (simp [results, Tryz.results38, go_sem, hc1]; done)) rfl ⟨_, rfl, ?_, ?_⟩
  · exact DOutbox.fresh (HF1.out.part (by repeat (first | with_reducible exact abR | with_reducible apply abA | (with_reducible refine abS ?_ ?_; focus (first | omega | (simp; done) | (simp; omega))) | with_reducible apply abN | with_reducible apply abD | with_reducible assumption))) (by first | omega | (simp; done) | (simp; omega))  
  · have y := HB1.out
    exact (by repeat (first | with_reducible exact belR | with_reducible apply belA | (with_reducible refine belS ?_ ?_; focus (first | omega | (simp; done) | (simp; omega))) | with_reducible apply belN | with_reducible apply belD | with_reducible assumption))

set_option maxHeartbeats 800000 in
theorem eqOutbox (cs ds : List Value) (x : DOutbox) (w : World) (h : Reads DOutbox.rep w cs x) (h' : Reads DOutbox.rep w ds x) :
    Calls Tryz.prog 50 #[.agg cs.toArray, .agg ds.toArray] w fun e w' => e = .returned (.bool true) ∧ Below w.heap.size w w' := by
  obtain ⟨fp, h0⟩ := h
  obtain ⟨vv1, vf1, rfl, _, vr1⟩ := DOutbox.rd.1 h0
  have HV1 : Hid (Reads (Rep.slice 72 DWrite.rep) w [vv1] x.writes) := ⟨_, vr1⟩
  clear h0 vr1
  obtain ⟨fp, h0⟩ := h'
  obtain ⟨uv1, uf1, rfl, _, ur1⟩ := DOutbox.rd.1 h0
  have HU1 : Hid (Reads (Rep.slice 72 DWrite.rep) w [uv1] x.writes) := ⟨_, ur1⟩
  clear h0 ur1
  go_enter Tryz.func50, Tryz.ntmps50
  go_wp2_with fail
  refine (eqWriteS _ _ _ _ (HV1.out.below (by repeat (first | with_reducible exact belR | with_reducible apply belA | (with_reducible refine belS ?_ ?_; focus (first | omega | (simp; done) | (simp; omega))) | with_reducible apply belN | with_reducible apply belD | with_reducible assumption))) (HU1.out.below (by repeat (first | with_reducible exact belR | with_reducible apply belA | (with_reducible refine belS ?_ ?_; focus (first | omega | (simp; done) | (simp; omega))) | with_reducible apply belN | with_reducible apply belD | with_reducible assumption)))).mono ?_
  rintro e w1 ⟨rfl, hb1⟩
  obtain ⟨hc1, hfz1⟩ := bcell hb1
  have hs1 : w.heap.size + 1 + 1 ≤ w1.heap.size := by have y := hb1.size; simp at y; omega
  have hz10 : w.heap.size < w1.heap.size := by omega
  have hz11 : w.heap.size + 1 < w1.heap.size := by omega
  have HB1 := Lib.hid (below_call (w := w) (by repeat (first | with_reducible exact belR | with_reducible apply belA | (with_reducible refine belS ?_ ?_; focus (first | omega | (simp; done) | (simp; omega))) | with_reducible apply belN | with_reducible apply belD | with_reducible assumption)) (by first | omega | (simp; done) | (simp; omega)) hb1)
  clear hb1
  go_wp2
  go_ret
  have y := HB1.out
  exact ⟨rfl, (by repeat (first | with_reducible exact belR | with_reducible apply belA | (with_reducible refine belS ?_ ?_; focus (first | omega | (simp; done) | (simp; omega))) | with_reducible apply belN | with_reducible apply belD | with_reducible assumption))⟩

theorem infoOutbox : (Tryz.prog.info? 37).map (fun i => (i.zero, i.size, i.bytes)) = some (some (.agg #[.int .i64 0, .int .i64 0, .slice none 0 0]), 3, 40) := by kernel_rfl

def DOutbox.cnt (x : DOutbox) : Nat := 2 + wtT DWrite.cnt x.writes x.writes.length
def DOutbox.mk3 (k : Nat) (x : DOutbox) : DOutbox := ⟨((k : Int)), ((k : Int) + 1), marks DWrite.mk3 DWrite.cnt (k + 2) x.writes⟩

def DOutbox.mcnt (x : DOutbox) : Nat := wtT DWrite.cnt x.writes x.writes.length
def DOutbox.mks (x : DOutbox) (k : Nat) : DOutbox := { x with writes := marks DWrite.mk3 DWrite.cnt (k) x.writes }

set_option maxRecDepth 100000 in
set_option maxHeartbeats 800000 in
theorem markOutbox (cs : List Value) (x : DOutbox) (fp : List Nat) (k : Nat) (w : World) (h : DOutbox.rep.rd true w cs x fp) (hnd : fp.Nodup) (hk : k + x.mcnt ≤ 1000000000) :
    Calls Tryz.prog 54 #[.agg cs.toArray, .int .i64 k] w fun e w' => e = .returned (.int .i64 ((k + x.mcnt : Nat) : Int)) ∧ DOutbox.rep.rd true w' cs (x.mks k) fp ∧ Chg fp w w' := by
  have HL := Lib.hid (DOutbox.rep.lt h)
  obtain ⟨v1, f2, rfl, rfl, r0⟩ := DOutbox.parts h
  have n0 := hnd
  have R0 := Lib.hid r0
  clear h r0
  unfold DOutbox.mcnt at hk
  go_enter Tryz.func54, Tryz.ntmps54
  go_wp2_with fail
  refine (markWriteS _ x.writes fp (k) _ (Rep.frame (Rep.slice 72 DWrite.rep) (w' := w.alloc _) R0.out fun b hb => Below.heap_alloc _ _ _ (HL.out b hb)) n0 (by omega)).mono ?_
  rintro e w1 ⟨rfl, rd0, ch0⟩
  replace R0 := Lib.hid rd0
  have hx0 : w.heap.size ∉ fp := fun hx => Nat.lt_irrefl _ (HL.out _ hx)
  have hz1 : w.heap.size < w1.heap.size := by have y := ch0.size; simp at y; omega
  have hc1 : ∀ o, w1.cell? ⟨w.heap.size, o, none⟩ = _ := fun o => World.cell?_of_block (a := ⟨w.heap.size, o, none⟩) (ch0.block w.heap.size (by first | omega | (simp; done) | (simp; omega)) hx0)
  have C0 := Lib.hid ch0
  clear rd0 ch0 hx0
  go_wp2
  go_ret
  refine ⟨ret_int (by unfold DOutbox.mcnt; omega), ?_, ?_⟩
  · exact DOutbox.join (x := x.mks k) _ _ R0.out 
  · have z := Chg.trans (a := w) (Chg.of_below (fp := fp) (B := w.heap.size) (belA belR) (Nat.le_refl _)) (C0.out.mono (fq := fp) fun b hb => hb)
    exact z

set_option maxRecDepth 100000 in
set_option maxHeartbeats 800000 in
theorem heldOutbox (cs : List Value) (x : DOutbox) (k : Nat) (w : World) (h : Reads DOutbox.rep w cs (x.mks k)) (hk : k + x.mcnt ≤ 1000000000) :
    Calls Tryz.prog 58 #[.agg cs.toArray, .int .i64 k] w fun e w' => e = .returned (.int .i64 ((k + x.mcnt : Nat) : Int)) ∧ Below w.heap.size w w' := by
  obtain ⟨fp, h⟩ := h
  obtain ⟨v1, f2, rfl, _, r0⟩ := DOutbox.parts h
  have HV0 : Hid (Reads (Rep.slice 72 DWrite.rep) w [v1] (x.mks k).writes) := ⟨_, r0⟩
  clear h r0
  unfold DOutbox.mcnt at hk
  go_enter Tryz.func58, Tryz.ntmps58
  go_wp2_with fail
  refine (heldWriteS _ x.writes (k) _ (HV0.out.below (by repeat (first | with_reducible exact belR | with_reducible apply belA | (with_reducible refine belS ?_ ?_; focus (first | omega | (simp; done) | (simp; omega))) | with_reducible apply belN | with_reducible apply belD | with_reducible assumption))) (by omega)).mono ?_
  rintro e w1 ⟨rfl, hb1⟩
  obtain ⟨hc1, hfz1⟩ := bcell hb1
  have hz1 : w.heap.size < w1.heap.size := by have y := hb1.size; simp at y; omega
  have HB1 := Lib.hid (below_call (w := w) (by repeat (first | with_reducible exact belR | with_reducible apply belA | (with_reducible refine belS ?_ ?_; focus (first | omega | (simp; done) | (simp; omega))) | with_reducible apply belN | with_reducible apply belD | with_reducible assumption)) (by first | omega | (simp; done) | (simp; omega)) hb1); clear hb1
  go_wp2
  go_ret
  have y := HB1.out
  exact ⟨ret_int (by unfold DOutbox.mcnt; omega), (by repeat (first | with_reducible exact belR | with_reducible apply belA | (with_reducible refine belS ?_ ?_; focus (first | omega | (simp; done) | (simp; omega))) | with_reducible apply belN | with_reducible apply belD | with_reducible assumption))⟩

end Go.Proofs.YtgicglmcapnogaaGreat


/-
  The laws' helpers for Applied.
-/
namespace Go.Proofs.YtgicglmcapnogaaGreat
open Go.RowKit

def DApplied.wt (_ : DApplied) : Nat := 0

set_option maxHeartbeats 800000 in
theorem toApplied (cs : List Value) (x : DApplied) (w : World) (h : Reads DApplied.rep w cs x) (_hsmall : x.wt ≤ 1048576) :
    Calls Tryz.prog 72 #[.agg cs.toArray] w fun e w' => ∃ ds, e = .returned (.agg ds.toArray) ∧ Fresh DApplied.rep w.heap.size w' ds x ∧ Below w.heap.size w w' := by
  obtain ⟨fp, h⟩ := h
  obtain ⟨rfl, _⟩ := DApplied.rd.1 h
  clear h 
  go_enter Tryz.func72, Tryz.ntmps72
  go_wp2
  refine bodyPost_ret (v := .agg #[.int .i64 x.device, .int .i64 x.seq]) (by first | (simp [results, Tryz.results72, go_sem]; done)) rfl ⟨_, rfl, ?_, ?_⟩
  · exact ⟨[], DApplied.rd.2 ⟨rfl, rfl⟩, by simp, by simp⟩
  · exact (by repeat (first | with_reducible exact belR | with_reducible apply belA | (with_reducible refine belS ?_ ?_; focus (first | omega | (simp; done) | (simp; omega))) | with_reducible apply belN | with_reducible apply belD | with_reducible assumption))

set_option maxHeartbeats 800000 in
theorem eqApplied (cs ds : List Value) (x : DApplied) (w : World) (h : Reads DApplied.rep w cs x) (h' : Reads DApplied.rep w ds x) :
    Calls Tryz.prog 85 #[.agg cs.toArray, .agg ds.toArray] w fun e w' => e = .returned (.bool true) ∧ Below w.heap.size w w' := by
  obtain ⟨fp, h0⟩ := h
  obtain ⟨rfl, _⟩ := DApplied.rd.1 h0
  clear h0 
  obtain ⟨fp, h0⟩ := h'
  obtain ⟨rfl, _⟩ := DApplied.rd.1 h0
  clear h0 
  go_enter Tryz.func85, Tryz.ntmps85
  go_wp2
  go_ret
  exact ⟨rfl, (by repeat (first | with_reducible exact belR | with_reducible apply belA | (with_reducible refine belS ?_ ?_; focus (first | omega | (simp; done) | (simp; omega))) | with_reducible apply belN | with_reducible apply belD | with_reducible assumption))⟩

set_option maxHeartbeats 400000 in
theorem szAppliedS (v : Value) (l : List DApplied) (left : Int) (w : World) (h : Reads (Rep.slice 110 DApplied.rep) w [v] l) (h0 : 0 ≤ left) (h1 : left ≤ 1048576) :
    Calls Tryz.prog 27 #[v, .int .i64 left] w fun e w' => e = .returned (.int .i64 (szOf (wtS DApplied.wt l) left)) ∧ Below w.heap.size w w' := by
  have HK := Lib.hid h
  obtain ⟨fp, h⟩ := h
  obtain ⟨ao, c1, rfl, hm, _, hu⟩ := slice_open h
  clear hu h
  go_enter Tryz.func27, Tryz.ntmps27
  go_wp2
  all_goals
    go_ret
    refine ⟨ret_int ?_, (by repeat (first | with_reducible exact belR | with_reducible apply belA | (with_reducible refine belS ?_ ?_; focus (first | omega | (simp; done) | (simp; omega))) | with_reducible apply belN | with_reducible apply belD | with_reducible assumption))⟩
    go_light
    have a0 := szOf_spec (wtS DApplied.wt l) left
    have a1 : wtS DApplied.wt l = l.length := wtS_zero l
    omega

theorem infoApplied : (Tryz.prog.info? 110).map (fun i => (i.zero, i.size, i.bytes)) = some (some (.agg #[.int .i64 0, .int .i64 0]), 2, 16) := by kernel_rfl

set_option maxRecDepth 100000 in
set_option maxHeartbeats 800000 in
theorem toAppliedS (u : Value) (l : List DApplied) (w : World) (hu : Reads (Rep.slice 110 DApplied.rep) w [u] l) (hsmall : wtS DApplied.wt l ≤ 1048576) :
    Calls Tryz.prog 40 #[u] w fun e w' => ∃ v, e = .returned v ∧ Fresh (Rep.slice 110 DApplied.rep) w.heap.size w' [v] l ∧ Below w.heap.size w w' := by
  have HK := Lib.hid hu
  obtain ⟨fp, hu⟩ := hu
  obtain ⟨ao, c1, rfl, hm, _, hu⟩ := slice_open hu
  clear hu
  have hlen := wtS_ge DApplied.wt l
  have HW := Lib.hid hsmall
  obtain ⟨i0, hi, hz0, hz1, hz2⟩ := info_parts infoApplied
  go_enter Tryz.func40, Tryz.ntmps40
  go_wp2_with (at_make; refine wpList_make_full _ rfl _ _ 43 rfl w.heap.size 110 i0 _ 2 Tryz.underlying43 hi hz0 hz1 _ _ _ _ l.length rfl rfl rfl rfl ?c1 ?c2 (Nat.le_refl _) ?_)
  case c1 => rw [hz2]; omega
  case c2 => unfold maxLen; omega
  intro w1 hown hgrow
  have hf : Filling DApplied.rep 110 w.heap.size w.heap.size l.length l 0 w1 := Filling.start hown (Nat.le_refl _)
  have hb1 : Below w.heap.size w w1 := (Below.refl _ _).grown hgrow (Nat.le_refl _) (by intro k hk; cases hk)
  have HF := Lib.hid hf; clear hf hown
  have HB := Lib.hid hb1; clear hb1 hgrow
  go_wp2
  go_loopw [4] (fun i wr => ∃ k : Nat, k ≤ l.length ∧ i = .int .i64 k ∧ Filling DApplied.rep 110 w.heap.size w.heap.size l.length l k wr ∧ Below w.heap.size w wr) (fun i _ => l.length - (intOf i).toNat)
  case atStart => exact ⟨0, by omega, rfl, HF.out, HB.out⟩
  case round =>
    obtain ⟨k, hk, rfl, hf, hb⟩ := hrel
    have HB := Lib.hid hb; clear hb
    have HF := Lib.hid hf; clear hf
    by_cases hlt : k < l.length
    · obtain ⟨b, off, cs, rfl, bw, hr, hcell⟩ := slice_at (HK.out.below HB.out) k hlt
      obtain ⟨fe, hrd⟩ := hr
      obtain ⟨rfl, _⟩ := DApplied.rd.1 hrd
      have HR : Hid (Reads DApplied.rep wr _ l[k]) := ⟨_, hrd⟩
      clear hrd
      have hc0 : wr.cell? ⟨b, off + k * 2, none⟩ = some (.int .i64 l[k].device) := hcell 0 (by decide)
      have hc1 : wr.cell? ⟨b, off + k * 2 + 1, none⟩ = some (.int .i64 l[k].seq) := hcell 1 (by decide)
      clear hcell
      go_wp2_with fail
      refine (toApplied _ _ _ HR.out (Nat.le_trans (wtS_elem DApplied.wt l k hlt) HW.out)).mono ?_
      rintro e w1 ⟨ds, rfl, hfr, hb1⟩
      have HF1 := Lib.hid (Filling.step hlt rfl HF.out hb1 hfr)
      have HB1 := Lib.hid (setCells_below (Nat.le_refl _) ds (k * 2) _ (below_call HB.out HB.out.size hb1))
      obtain ⟨hcs, hfz⟩ := (HF.out.below hb1).cells hlt
      obtain ⟨fd, hrd, _⟩ := hfr
      obtain ⟨rfl, _⟩ := DApplied.rd.1 hrd
      obtain ⟨z0, hy0⟩ : ∃ u, w1.cell? ⟨w.heap.size, k * 2, none⟩ = some u := hcs 0 (by decide)
      obtain ⟨z1, hy1⟩ : ∃ u, w1.cell? ⟨w.heap.size, k * 2 + 1, none⟩ = some u := hcs 1 (by decide)
      clear hcs hb1 hrd hc0 hc1
      go_wp2
      go_light
      exact ⟨⟨k + 1, by omega, by go_num, HF1.out, HB1.out⟩, by simp [intOf]; omega⟩
    · have HW : Hid (Fresh (Rep.slice 110 DApplied.rep) w.heap.size wr [.slice (some ⟨w.heap.size, 0, none⟩) l.length l.length] l) := by
        have e : k = l.length := by omega
        have hf := HF.out
        rw [e] at hf
        exact hf.done rfl
      go_wp2
      go_ret
      exact ⟨_, rfl, HW.out, HB.out⟩

set_option maxRecDepth 100000 in
set_option maxHeartbeats 800000 in
theorem eqAppliedS (u v : Value) (l : List DApplied) (w : World) (h : Reads (Rep.slice 110 DApplied.rep) w [u] l) (h' : Reads (Rep.slice 110 DApplied.rep) w [v] l) :
    Calls Tryz.prog 52 #[u, v] w fun e w' => e = .returned (.bool true) ∧ Below w.heap.size w w' := by
  have HK := Lib.hid h
  obtain ⟨fp, h⟩ := h
  obtain ⟨ao, c1, rfl, hm, _, hu⟩ := slice_open h
  clear hu h
  have HK' := Lib.hid h'
  obtain ⟨fp, h⟩ := h'
  obtain ⟨bo, c2, rfl, _, _, hu⟩ := slice_open h
  clear hu h
  go_enter Tryz.func52, Tryz.ntmps52
  go_wp2
  go_loopw [5] (fun i wr => ∃ k : Nat, k ≤ l.length ∧ i = .int .i64 k ∧ Below w.heap.size w wr) (fun i _ => l.length - (intOf i).toNat)
  case atStart => exact ⟨0, by omega, rfl, (by repeat (first | with_reducible exact belR | with_reducible apply belA | (with_reducible refine belS ?_ ?_; focus (first | omega | (simp; done) | (simp; omega))) | with_reducible apply belN | with_reducible apply belD | with_reducible assumption))⟩
  case round =>
    obtain ⟨k, hk, rfl, hb⟩ := hrel
    have HB := Lib.hid hb; clear hb
    by_cases hlt : k < l.length
    · obtain ⟨b, off, cs, rfl, bw, hr, hcell⟩ := slice_at (HK.out.below HB.out) k hlt
      obtain ⟨fe, hrd⟩ := hr
      obtain ⟨rfl, _⟩ := DApplied.rd.1 hrd
      have HR : Hid (Reads DApplied.rep wr _ l[k]) := ⟨_, hrd⟩
      clear hrd
      have hc0 : wr.cell? ⟨b, off + k * 2, none⟩ = some (.int .i64 l[k].device) := hcell 0 (by decide)
      have hc1 : wr.cell? ⟨b, off + k * 2 + 1, none⟩ = some (.int .i64 l[k].seq) := hcell 1 (by decide)
      clear hcell
      obtain ⟨b', off', cs, rfl, b'w, hr, hcell⟩ := slice_at (HK'.out.below HB.out) k hlt
      obtain ⟨fe, hrd⟩ := hr
      obtain ⟨rfl, _⟩ := DApplied.rd.1 hrd
      have HR' : Hid (Reads DApplied.rep wr _ l[k]) := ⟨_, hrd⟩
      clear hrd
      have hd0 : wr.cell? ⟨b', off' + k * 2, none⟩ = some (.int .i64 l[k].device) := hcell 0 (by decide)
      have hd1 : wr.cell? ⟨b', off' + k * 2 + 1, none⟩ = some (.int .i64 l[k].seq) := hcell 1 (by decide)
      clear hcell
      go_wp2_with fail
      go_still_tail 8, (by kernel_rfl)
      change wpList _ _ _ _ _ wr.drew
      go_wp2_with fail
      refine (eqApplied _ _ _ _ (HR.out.below (by repeat (first | with_reducible exact belR | with_reducible apply belA | (with_reducible refine belS ?_ ?_; focus (first | omega | (simp; done) | (simp; omega))) | with_reducible apply belN | with_reducible apply belD | with_reducible assumption))) (HR'.out.below (by repeat (first | with_reducible exact belR | with_reducible apply belA | (with_reducible refine belS ?_ ?_; focus (first | omega | (simp; done) | (simp; omega))) | with_reducible apply belN | with_reducible apply belD | with_reducible assumption)))).mono ?_
      rintro e w1 ⟨rfl, hb1⟩
      have HB1 := Lib.hid (below_call (belD HB.out) (belD HB.out).size hb1); clear hb1
      go_wp2
      go_light
      exact ⟨⟨k + 1, by omega, by go_num, HB1.out⟩, by simp [intOf]; omega⟩
    · go_wp2
      go_ret
      exact ⟨rfl, HB.out⟩

def DApplied.cnt (_ : DApplied) : Nat := 2
def DApplied.mk3 (k : Nat) (_ : DApplied) : DApplied := ⟨((k : Int)), ((k : Int) + 1)⟩

set_option maxRecDepth 100000 in
set_option maxHeartbeats 1600000 in
theorem markAppliedS (v : Value) (l : List DApplied) (fp : List Nat) (k : Nat) (w : World) (h : (Rep.slice 110 DApplied.rep).rd true w [v] l fp) (hnd : fp.Nodup) (hk : k + wtT DApplied.cnt l l.length ≤ 1000000000) :
    Calls Tryz.prog 56 #[v, .int .i64 k] w fun e w' => e = .returned (.int .i64 ((k + wtT DApplied.cnt l l.length : Nat) : Int)) ∧ (Rep.slice 110 DApplied.rep).rd true w' [v] (marks DApplied.mk3 DApplied.cnt k l) fp ∧ Chg fp w w' := by
  have HM : Hid (Marking DApplied.rep 110 DApplied.mk3 DApplied.cnt k l v fp w 0 w) := ⟨by rw [marked_zero]; exact h, Chg.refl⟩
  obtain ⟨ao, c1, rfl, hm, _, hu⟩ := slice_open h
  clear hu h
  go_enter Tryz.func56, Tryz.ntmps56
  go_wp2
  go_loopw [1, 5] (fun a i wr => ∃ j : Nat, j ≤ l.length ∧ i = .int .i64 j ∧ a = .int .i64 ((k + wtT DApplied.cnt l j : Nat) : Int) ∧ Marking DApplied.rep 110 DApplied.mk3 DApplied.cnt k l (.slice ao l.length c1) fp w j wr) (fun _ i _ => l.length - (intOf i).toNat)
  case atStart => exact ⟨0, by omega, rfl, by simp [wtT], HM.out⟩
  case round =>
    obtain ⟨j, hj, rfl, rfl, hma⟩ := hrel
    have HM := Lib.hid hma; clear hma
    by_cases hlt : j < l.length
    · have hw1 := wtT_succ DApplied.cnt l j hlt
      have hw2 := wtT_mono DApplied.cnt l (j + 1) l.length hlt
      generalize hq : k + wtT DApplied.cnt l j = q at *
      have hqc : q + DApplied.cnt l[j] ≤ 1000000000 := by omega
      unfold DApplied.cnt at hqc
      have HQ := Lib.hid hq; clear hq hw1 hw2
      have hlt' : j < (marked DApplied.mk3 DApplied.cnt k l j).length := by rw [marked_length]; exact hlt
      obtain ⟨g, cap, xs, cs, fe, hv, hg, hgfe, hfesub, hfend, hown, hrd, hcs, hshut⟩ := own_open HM.out.1 hnd j hlt'
      rw [marked_length] at hv hown
      simp only [Value.slice.injEq] at hv
      obtain ⟨rfl, _, rfl⟩ := hv
      have HG := Lib.hid hg; clear hg
      have HS := Lib.hid hshut; clear hshut
      have HFE := Lib.hid hfesub; clear hfesub
      have hval := marked_get DApplied.mk3 DApplied.cnt k l j hlt
      rw [List.getElem?_eq_getElem hlt'] at hval
      rw [Option.some.inj hval] at hrd
      clear hval
      have HO := Lib.hid hown; clear hown
      obtain ⟨rfl, hfe⟩ := DApplied.rd.1 hrd
      subst hfe
      have HC : Hid (Chg (g :: (([] : List Nat))) wr wr) := Chg.refl
      clear hrd hcs 
      obtain ⟨hcs, hfzwr⟩ := own_cells HO.out hlt
      obtain ⟨zwr_0, hzwr_0⟩ : ∃ u, wr.cell? ⟨g, j * 2, none⟩ = some u := hcs 0 (by decide)
      obtain ⟨zwr_1, hzwr_1⟩ : ∃ u, wr.cell? ⟨g, j * 2 + 1, none⟩ = some u := hcs 1 (by decide)
      clear hcs
      go_wp2
      replace HO := Lib.hid (setCells_owns [.int .i64 ((q : Int)), .int .i64 ((q : Int) + 1)] (j * 2) _ _ HO.out)
      replace HC := Lib.hid (Chg.sets (g := g) (by simp) [.int .i64 ((q : Int)), .int .i64 ((q : Int) + 1)] (j * 2) _ HC.out)
      go_light
      have hlt1 := (Rep.slice 110 DApplied.rep).lt HM.out.1
      have hm' := marked_succ DApplied.mk3 DApplied.cnt k l j hlt
      rw [HQ.out] at hm'
      refine ⟨⟨j + 1, by omega, by go_num, ?_, ?_, ?_⟩, by simp [intOf]; omega⟩
      · rw [wtT_succ _ _ _ hlt, ← Nat.add_assoc, HQ.out]
        unfold DApplied.cnt
        exact val_int (by omega)
      · rw [← hm']
        refine HS.out _ [.int .i64 ((q : Int)), .int .i64 ((q : Int) + 1)] _ (by rw [marked_length]; exact HO.out) (DApplied.rd.2 ⟨rfl, rfl⟩) fun b hb hbg hbf => ?_
        exact HC.out.block b (hlt1 b hb) (by rw [List.mem_cons]; exact fun hx => hx.elim hbg hbf)
      · exact HM.out.2.trans (HC.out.mono fun b hb => (List.mem_cons.1 hb).elim (fun hx => by rw [hx]; exact HG.out) (HFE.out b))
    · have e : j = l.length := by omega
      have HE := Lib.hid e; clear e
      go_wp2
      go_ret
      have hm' := HM.out
      rw [HE.out] at hm' ⊢
      rw [Marking, marked_all] at hm'
      exact ⟨rfl, hm'.1, hm'.2⟩
theorem markAppliedSI (v : Value) (l : List DApplied) (fp : List Nat) (k : Nat) (a : Int) (ha : a = k) (w : World) (h : (Rep.slice 110 DApplied.rep).rd true w [v] l fp) (hnd : fp.Nodup) (hk : k + wtT DApplied.cnt l l.length ≤ 1000000000) :
    Calls Tryz.prog 56 #[v, .int .i64 a] w fun e w' => e = .returned (.int .i64 ((k + wtT DApplied.cnt l l.length : Nat) : Int)) ∧ (Rep.slice 110 DApplied.rep).rd true w' [v] (marks DApplied.mk3 DApplied.cnt k l) fp ∧ Chg fp w w' := by
  subst ha; exact markAppliedS v l fp k w h hnd hk

set_option maxRecDepth 100000 in
set_option maxHeartbeats 1600000 in
theorem heldAppliedS (v : Value) (l : List DApplied) (k : Nat) (w : World) (h : Reads (Rep.slice 110 DApplied.rep) w [v] (marks DApplied.mk3 DApplied.cnt k l)) (hk : k + wtT DApplied.cnt l l.length ≤ 1000000000) :
    Calls Tryz.prog 60 #[v, .int .i64 k] w fun e w' => e = .returned (.int .i64 ((k + wtT DApplied.cnt l l.length : Nat) : Int)) ∧ Below w.heap.size w w' := by
  have HK := Lib.hid h
  obtain ⟨fp, hu⟩ := h
  obtain ⟨ao, c1, rfl, hm, _, hu⟩ := slice_open hu
  clear hu
  rw [marks_length] at HK hm ⊢
  go_enter Tryz.func60, Tryz.ntmps60
  go_wp2
  go_loopw [1, 5] (fun a i wr => ∃ j : Nat, j ≤ l.length ∧ i = .int .i64 j ∧ a = .int .i64 ((k + wtT DApplied.cnt l j : Nat) : Int) ∧ Below w.heap.size w wr) (fun _ i _ => l.length - (intOf i).toNat)
  case atStart => exact ⟨0, by omega, rfl, by simp [wtT], (by repeat (first | with_reducible exact belR | with_reducible apply belA | (with_reducible refine belS ?_ ?_; focus (first | omega | (simp; done) | (simp; omega))) | with_reducible apply belN | with_reducible apply belD | with_reducible assumption))⟩
  case round =>
    obtain ⟨j, hj, rfl, rfl, hb⟩ := hrel
    have HB := Lib.hid hb; clear hb
    by_cases hlt : j < l.length
    · have hw1 := wtT_succ DApplied.cnt l j hlt
      have hw2 := wtT_mono DApplied.cnt l (j + 1) l.length hlt
      have hlt' : j < (marks DApplied.mk3 DApplied.cnt k l).length := by rw [marks_length]; exact hlt
      have hval := marks_at DApplied.mk3 DApplied.cnt k l j hlt hlt'
      generalize hq : k + wtT DApplied.cnt l j = q at *
      have hqc : q + DApplied.cnt l[j] ≤ 1000000000 := by omega
      unfold DApplied.cnt at hqc
      have HQ := Lib.hid hq; clear hq hw1 hw2
      obtain ⟨b, off, cs, rfl, hbw, hr, hcell⟩ := slice_at (HK.out.below HB.out) j hlt'
      rw [hval] at hr
      clear hval
      obtain ⟨fe, hrd⟩ := hr
      obtain ⟨rfl, _⟩ := DApplied.rd.1 hrd
      have hc0 : wr.cell? ⟨b, off + j * 2, none⟩ = some (.int .i64 ((q : Int))) := hcell 0 (by decide)
      have hc1 : wr.cell? ⟨b, off + j * 2 + 1, none⟩ = some (.int .i64 ((q : Int) + 1)) := hcell 1 (by decide)
      clear hcell hrd 
      go_wp2
      go_light
      refine ⟨⟨j + 1, by omega, by go_num, ?_, HB.out⟩, by simp [intOf]; omega⟩
      rw [wtT_succ _ _ _ hlt, ← Nat.add_assoc, HQ.out]
      unfold DApplied.cnt
      exact val_int (by omega)
    · have e : j = l.length := by omega
      have HE := Lib.hid e; clear e
      go_wp2
      go_ret
      rw [HE.out]
      exact ⟨rfl, HB.out⟩
theorem heldAppliedSI (v : Value) (l : List DApplied) (k : Nat) (a : Int) (ha : a = k) (w : World) (h : Reads (Rep.slice 110 DApplied.rep) w [v] (marks DApplied.mk3 DApplied.cnt k l)) (hk : k + wtT DApplied.cnt l l.length ≤ 1000000000) :
    Calls Tryz.prog 60 #[v, .int .i64 a] w fun e w' => e = .returned (.int .i64 ((k + wtT DApplied.cnt l l.length : Nat) : Int)) ∧ Below w.heap.size w w' := by
  subst ha; exact heldAppliedS v l k w h hk

end Go.Proofs.YtgicglmcapnogaaGreat


/-
  The laws' helpers for Server.
-/
namespace Go.Proofs.YtgicglmcapnogaaGreat
open Go.RowKit

def DServer.wt (x : DServer) : Nat := x.store.wt + wtS DApplied.wt x.applied + wtS DWrite.wt x.changes

set_option maxHeartbeats 400000 in
theorem szServer (cs : List Value) (x : DServer) (left : Int) (w : World) (h : Reads DServer.rep w cs x) (h0 : 0 ≤ left) (h1 : left ≤ 1048576) :
    Calls Tryz.prog 7 #[.agg cs.toArray, .int .i64 left] w fun e w' => e = .returned (.int .i64 (szOf x.wt left)) ∧ Below w.heap.size w w' := by
  obtain ⟨fp, h⟩ := h
  obtain ⟨v1, v2, v3, f1, f2, f3, rfl, _, s0, r1, r2, r3⟩ := DServer.rd.1 h
  have HV1 : Hid (Reads DStore.rep w [.string x.store.name, v1, .int .i64 x.store.auto] x.store) := ⟨_, DStore.rd.2 ⟨_, _, rfl, rfl, s0, r1⟩⟩
  have HV2 : Hid (Reads (Rep.slice 110 DApplied.rep) w [v2] x.applied) := ⟨_, r2⟩
  have HV3 : Hid (Reads (Rep.slice 72 DWrite.rep) w [v3] x.changes) := ⟨_, r3⟩
  clear h r1 r2 r3
  unfold maxLen at s0
  go_enter Tryz.func7, Tryz.ntmps7
  go_wp2_with fail
  have q1 : 0 ≤ left ∧ left ≤ 1048576 := by
    omega
  refine (szStore _ _ _ _ (HV1.out.below (by repeat (first | with_reducible exact belR | with_reducible apply belA | (with_reducible refine belS ?_ ?_; focus (first | omega | (simp; done) | (simp; omega))) | with_reducible apply belN | with_reducible apply belD | with_reducible assumption))) q1.1 q1.2).mono ?_
  rintro e w1 ⟨rfl, hb1⟩
  obtain ⟨hc1, hfz1⟩ := bcell hb1
  have hz1 : w.heap.size < w1.heap.size := by have y := hb1.size; (try simp at y); omega
  have HB1 := Lib.hid (below_call (B := w.heap.size) (w := w) (by repeat (first | with_reducible exact belR | with_reducible apply belA | (with_reducible refine belS ?_ ?_; focus (first | omega | (simp; done) | (simp; omega))) | with_reducible apply belN | with_reducible apply belD | with_reducible assumption)) (by first | omega | (simp; done) | (simp; omega)) hb1); clear hb1
  have bl1 : -1 ≤ szOf (x.store.wt) (left) ∧ szOf (x.store.wt) (left) ≤ 1048576 := by
    have a0 := szOf_spec (x.store.wt) (left)
    omega
  obtain ⟨bl1, bu1⟩ := bl1
  go_wp2_with fail
  · go_ret
    have y0 := HB1.out
    refine ⟨ret_int ?_, (by repeat (first | with_reducible exact belR | with_reducible apply belA | (with_reducible refine belS ?_ ?_; focus (first | omega | (simp; done) | (simp; omega))) | with_reducible apply belN | with_reducible apply belD | with_reducible assumption))⟩
    go_light
    have a0 := szOf_spec x.wt left
    have a1 := szOf_spec (x.store.wt) (left)
    unfold DServer.wt at *
    omega
  have q2 : 0 ≤ szOf (x.store.wt) (left) ∧ szOf (x.store.wt) (left) ≤ 1048576 := by
    have a0 := szOf_spec (x.store.wt) (left)
    omega
  refine (szAppliedS _ _ _ _ (HV2.out.below (by have y := HB1.out; exact (by repeat (first | with_reducible exact belR | with_reducible apply belA | (with_reducible refine belS ?_ ?_; focus (first | omega | (simp; done) | (simp; omega))) | with_reducible apply belN | with_reducible apply belD | with_reducible assumption)))) q2.1 q2.2).mono ?_
  rintro e w2 ⟨rfl, hb2⟩
  obtain ⟨hc2, hfz2⟩ := bcell hb2
  have hz2 : w.heap.size < w2.heap.size := by have y := hb2.size; (try simp at y); omega
  have HB2 := Lib.hid (below_call (B := w.heap.size) (w := w) (by have y := HB1.out; exact (by repeat (first | with_reducible exact belR | with_reducible apply belA | (with_reducible refine belS ?_ ?_; focus (first | omega | (simp; done) | (simp; omega))) | with_reducible apply belN | with_reducible apply belD | with_reducible assumption))) (by first | omega | (simp; done) | (simp; omega)) hb2); clear hb2
  have bl2 : -1 ≤ szOf (wtS DApplied.wt x.applied) (szOf (x.store.wt) (left)) ∧ szOf (wtS DApplied.wt x.applied) (szOf (x.store.wt) (left)) ≤ 1048576 := by
    have a0 := szOf_spec (wtS DApplied.wt x.applied) (szOf (x.store.wt) (left))
    omega
  obtain ⟨bl2, bu2⟩ := bl2
  go_wp2_with fail
  · go_ret
    have y0 := HB1.out
    have y1 := HB2.out
    refine ⟨ret_int ?_, (by repeat (first | with_reducible exact belR | with_reducible apply belA | (with_reducible refine belS ?_ ?_; focus (first | omega | (simp; done) | (simp; omega))) | with_reducible apply belN | with_reducible apply belD | with_reducible assumption))⟩
    go_light
    have a0 := szOf_spec x.wt left
    have a1 := szOf_spec (x.store.wt) (left)
    have a2 := szOf_spec (wtS DApplied.wt x.applied) (szOf (x.store.wt) (left))
    unfold DServer.wt at *
    omega
  have q3 : 0 ≤ szOf (wtS DApplied.wt x.applied) (szOf (x.store.wt) (left)) ∧ szOf (wtS DApplied.wt x.applied) (szOf (x.store.wt) (left)) ≤ 1048576 := by
    have a0 := szOf_spec (x.store.wt) (left)
    have a1 := szOf_spec (wtS DApplied.wt x.applied) (szOf (x.store.wt) (left))
    omega
  refine (szWriteS _ _ _ _ (HV3.out.below (by have y := HB2.out; exact (by repeat (first | with_reducible exact belR | with_reducible apply belA | (with_reducible refine belS ?_ ?_; focus (first | omega | (simp; done) | (simp; omega))) | with_reducible apply belN | with_reducible apply belD | with_reducible assumption)))) q3.1 q3.2).mono ?_
  rintro e w3 ⟨rfl, hb3⟩
  obtain ⟨hc3, hfz3⟩ := bcell hb3
  have hz3 : w.heap.size < w3.heap.size := by have y := hb3.size; (try simp at y); omega
  have HB3 := Lib.hid (below_call (B := w.heap.size) (w := w) (by have y := HB2.out; exact (by repeat (first | with_reducible exact belR | with_reducible apply belA | (with_reducible refine belS ?_ ?_; focus (first | omega | (simp; done) | (simp; omega))) | with_reducible apply belN | with_reducible apply belD | with_reducible assumption))) (by first | omega | (simp; done) | (simp; omega)) hb3); clear hb3
  have bl3 : -1 ≤ szOf (wtS DWrite.wt x.changes) (szOf (wtS DApplied.wt x.applied) (szOf (x.store.wt) (left))) ∧ szOf (wtS DWrite.wt x.changes) (szOf (wtS DApplied.wt x.applied) (szOf (x.store.wt) (left))) ≤ 1048576 := by
    have a0 := szOf_spec (wtS DWrite.wt x.changes) (szOf (wtS DApplied.wt x.applied) (szOf (x.store.wt) (left)))
    omega
  obtain ⟨bl3, bu3⟩ := bl3
  go_wp2_with fail
  · go_ret
    have y0 := HB1.out
    have y1 := HB2.out
    have y2 := HB3.out
    refine ⟨ret_int ?_, (by repeat (first | with_reducible exact belR | with_reducible apply belA | (with_reducible refine belS ?_ ?_; focus (first | omega | (simp; done) | (simp; omega))) | with_reducible apply belN | with_reducible apply belD | with_reducible assumption))⟩
    go_light
    have a0 := szOf_spec x.wt left
    have a1 := szOf_spec (x.store.wt) (left)
    have a2 := szOf_spec (wtS DApplied.wt x.applied) (szOf (x.store.wt) (left))
    have a3 := szOf_spec (wtS DWrite.wt x.changes) (szOf (wtS DApplied.wt x.applied) (szOf (x.store.wt) (left)))
    unfold DServer.wt at *
    omega
  · go_ret
    have y0 := HB1.out
    have y1 := HB2.out
    have y2 := HB3.out
    refine ⟨ret_int ?_, (by repeat (first | with_reducible exact belR | with_reducible apply belA | (with_reducible refine belS ?_ ?_; focus (first | omega | (simp; done) | (simp; omega))) | with_reducible apply belN | with_reducible apply belD | with_reducible assumption))⟩
    go_light
    have a0 := szOf_spec x.wt left
    have a1 := szOf_spec (x.store.wt) (left)
    have a2 := szOf_spec (wtS DApplied.wt x.applied) (szOf (x.store.wt) (left))
    have a3 := szOf_spec (wtS DWrite.wt x.changes) (szOf (wtS DApplied.wt x.applied) (szOf (x.store.wt) (left)))
    unfold DServer.wt at *
    omega

set_option maxHeartbeats 800000 in
theorem toServer (cs : List Value) (x : DServer) (w : World) (h : Reads DServer.rep w cs x) (_hsmall : x.wt ≤ 1048576) :
    Calls Tryz.prog 10 #[.agg cs.toArray] w fun e w' => ∃ ds, e = .returned (.agg ds.toArray) ∧ Fresh DServer.rep w.heap.size w' ds x ∧ Below w.heap.size w w' := by
  obtain ⟨fp, h⟩ := h
  obtain ⟨v1, v2, v3, f1, f2, f3, rfl, _, s0, r1, r2, r3⟩ := DServer.rd.1 h
  have HV1 : Hid (Reads DStore.rep w [.string x.store.name, v1, .int .i64 x.store.auto] x.store) := ⟨_, DStore.rd.2 ⟨_, _, rfl, rfl, s0, r1⟩⟩
  have d1 : x.store.wt ≤ 1048576 := by unfold DServer.wt at _hsmall; omega
  have HV2 : Hid (Reads (Rep.slice 110 DApplied.rep) w [v2] x.applied) := ⟨_, r2⟩
  have d2 : wtS DApplied.wt x.applied ≤ 1048576 := by unfold DServer.wt at _hsmall; omega
  have HV3 : Hid (Reads (Rep.slice 72 DWrite.rep) w [v3] x.changes) := ⟨_, r3⟩
  have d3 : wtS DWrite.wt x.changes ≤ 1048576 := by unfold DServer.wt at _hsmall; omega
  clear h r1 r2 r3
  go_enter Tryz.func10, Tryz.ntmps10
  go_wp2_with fail
  refine (toStore _ _ _ (HV1.out.below (by repeat (first | with_reducible exact belR | with_reducible apply belA | (with_reducible refine belS ?_ ?_; focus (first | omega | (simp; done) | (simp; omega))) | with_reducible apply belN | with_reducible apply belD | with_reducible assumption))) d1).mono ?_
  rintro e w1 ⟨t1, rfl, hf1, hb1⟩
  obtain ⟨ao1, cap1, rfl⟩ := DStore.fshape hf1
  obtain ⟨hc1, hfz1⟩ := bcell hb1
  have hs1 : w.heap.size + 1 + 1 + 1 ≤ w1.heap.size := by have y := hb1.size; (try simp at y); omega
  have hz10 : w.heap.size < w1.heap.size := by omega
  have hz11 : w.heap.size + 1 < w1.heap.size := by omega
  have hz12 : w.heap.size + 1 + 1 < w1.heap.size := by omega
  have HF1 := Lib.hid (hf1.mono (B' := w.heap.size + 1 + 1 + 1) (by first | omega | (simp; done) | (simp; omega)))
  have HB1 := Lib.hid (below_call (B := w.heap.size) (w := w) (by repeat (first | with_reducible exact belR | with_reducible apply belA | (with_reducible refine belS ?_ ?_; focus (first | omega | (simp; done) | (simp; omega))) | with_reducible apply belN | with_reducible apply belD | with_reducible assumption)) (by first | omega | (simp; done) | (simp; omega)) hb1)
  clear hb1 hf1
  go_wp2_with fail
  refine (toAppliedS _ _ _ (HV2.out.below (by have y := HB1.out; exact (by repeat (first | with_reducible exact belR | with_reducible apply belA | (with_reducible refine belS ?_ ?_; focus (first | omega | (simp; done) | (simp; omega))) | with_reducible apply belN | with_reducible apply belD | with_reducible assumption)))) d2).mono ?_
  rintro e w2 ⟨t2, rfl, hf2, hb2⟩
  obtain ⟨ao2, cap2, rfl⟩ := hf2.slice
  obtain ⟨hc2, hfz2⟩ := bcell hb2
  have hs2 : w1.heap.size ≤ w2.heap.size := by have y := hb2.size; (try simp at y); omega
  have hz20 : w.heap.size < w2.heap.size := by omega
  have hz21 : w.heap.size + 1 < w2.heap.size := by omega
  have hz22 : w.heap.size + 1 + 1 < w2.heap.size := by omega
  have HA1_2 : Hid (Abv (w.heap.size + 1 + 1 + 1) w1 w2) := abB (by repeat (first | with_reducible exact abR | with_reducible apply abA | (with_reducible refine abS ?_ ?_; focus (first | omega | (simp; done) | (simp; omega))) | with_reducible apply abN | with_reducible apply abD | with_reducible assumption)) hb2 (by first | omega | (simp; done) | (simp; omega))
  have HF2 := Lib.hid (hf2.mono (B' := w1.heap.size) (by first | omega | (simp; done) | (simp; omega)))
  have HB2 := Lib.hid (below_call (B := w.heap.size) (w := w) (by have y := HB1.out; exact (by repeat (first | with_reducible exact belR | with_reducible apply belA | (with_reducible refine belS ?_ ?_; focus (first | omega | (simp; done) | (simp; omega))) | with_reducible apply belN | with_reducible apply belD | with_reducible assumption))) (by first | omega | (simp; done) | (simp; omega)) hb2)
  clear hb2 hf2
  go_wp2_with fail
  refine (toWriteS _ _ _ (HV3.out.below (by have y := HB2.out; exact (by repeat (first | with_reducible exact belR | with_reducible apply belA | (with_reducible refine belS ?_ ?_; focus (first | omega | (simp; done) | (simp; omega))) | with_reducible apply belN | with_reducible apply belD | with_reducible assumption)))) d3).mono ?_
  rintro e w3 ⟨t3, rfl, hf3, hb3⟩
  obtain ⟨ao3, cap3, rfl⟩ := hf3.slice
  obtain ⟨hc3, hfz3⟩ := bcell hb3
  have hs3 : w2.heap.size ≤ w3.heap.size := by have y := hb3.size; (try simp at y); omega
  have hz30 : w.heap.size < w3.heap.size := by omega
  have hz31 : w.heap.size + 1 < w3.heap.size := by omega
  have hz32 : w.heap.size + 1 + 1 < w3.heap.size := by omega
  have HA1_3 : Hid (Abv (w.heap.size + 1 + 1 + 1) w1 w3) := abB (by have y := HA1_2.out; exact (by repeat (first | with_reducible exact abR | with_reducible apply abA | (with_reducible refine abS ?_ ?_; focus (first | omega | (simp; done) | (simp; omega))) | with_reducible apply abN | with_reducible apply abD | with_reducible assumption))) hb3 (by first | omega | (simp; done) | (simp; omega))
  have HA2_3 : Hid (Abv (w1.heap.size) w2 w3) := abB (by repeat (first | with_reducible exact abR | with_reducible apply abA | (with_reducible refine abS ?_ ?_; focus (first | omega | (simp; done) | (simp; omega))) | with_reducible apply abN | with_reducible apply abD | with_reducible assumption)) hb3 (by first | omega | (simp; done) | (simp; omega))
  have HF3 := Lib.hid (hf3.mono (B' := w2.heap.size) (by first | omega | (simp; done) | (simp; omega)))
  have HB3 := Lib.hid (below_call (B := w.heap.size) (w := w) (by have y := HB2.out; exact (by repeat (first | with_reducible exact belR | with_reducible apply belA | (with_reducible refine belS ?_ ?_; focus (first | omega | (simp; done) | (simp; omega))) | with_reducible apply belN | with_reducible apply belD | with_reducible assumption))) (by first | omega | (simp; done) | (simp; omega)) hb3)
  clear hb3 hf3
  go_wp2
  refine bodyPost_ret (v := .agg #[.string x.store.name, .slice ao1 x.store.items.length cap1, .int .i64 x.store.auto, .slice ao2 x.applied.length cap2, .slice ao3 x.changes.length cap3]) (by first | (simp [results, Tryz.results10, go_sem, hc1, hc2, hc3, hz11, hz21]; done)) rfl ⟨_, rfl, ?_, ?_⟩
  · exact DServer.fresh (HF1.out.part (by have y := HA1_3.out; exact (by repeat (first | with_reducible exact abR | with_reducible apply abA | (with_reducible refine abS ?_ ?_; focus (first | omega | (simp; done) | (simp; omega))) | with_reducible apply abN | with_reducible apply abD | with_reducible assumption)))) (HF2.out.part (by have y := HA2_3.out; exact (by repeat (first | with_reducible exact abR | with_reducible apply abA | (with_reducible refine abS ?_ ?_; focus (first | omega | (simp; done) | (simp; omega))) | with_reducible apply abN | with_reducible apply abD | with_reducible assumption)))) (HF3.out.part (by repeat (first | with_reducible exact abR | with_reducible apply abA | (with_reducible refine abS ?_ ?_; focus (first | omega | (simp; done) | (simp; omega))) | with_reducible apply abN | with_reducible apply abD | with_reducible assumption))) (by first | omega | (simp; done) | (simp; omega)) (by first | omega | (simp; done) | (simp; omega)) (by first | omega | (simp; done) | (simp; omega)) (by first | omega | (simp; done) | (simp; omega)) (by first | omega | (simp; done) | (simp; omega)) 
  · have y := HB3.out
    exact (by repeat (first | with_reducible exact belR | with_reducible apply belA | (with_reducible refine belS ?_ ?_; focus (first | omega | (simp; done) | (simp; omega))) | with_reducible apply belN | with_reducible apply belD | with_reducible assumption))

set_option maxHeartbeats 800000 in
theorem eqServer (cs ds : List Value) (x : DServer) (w : World) (h : Reads DServer.rep w cs x) (h' : Reads DServer.rep w ds x) :
    Calls Tryz.prog 13 #[.agg cs.toArray, .agg ds.toArray] w fun e w' => e = .returned (.bool true) ∧ Below w.heap.size w w' := by
  obtain ⟨fp, h0⟩ := h
  obtain ⟨vv1, vv2, vv3, vf1, vf2, vf3, rfl, _, vs0, vr1, vr2, vr3⟩ := DServer.rd.1 h0
  have HV1 : Hid (Reads DStore.rep w [.string x.store.name, vv1, .int .i64 x.store.auto] x.store) := ⟨_, DStore.rd.2 ⟨_, _, rfl, rfl, vs0, vr1⟩⟩
  have HV2 : Hid (Reads (Rep.slice 110 DApplied.rep) w [vv2] x.applied) := ⟨_, vr2⟩
  have HV3 : Hid (Reads (Rep.slice 72 DWrite.rep) w [vv3] x.changes) := ⟨_, vr3⟩
  clear h0 vr1 vr2 vr3
  obtain ⟨fp, h0⟩ := h'
  obtain ⟨uv1, uv2, uv3, uf1, uf2, uf3, rfl, _, us0, ur1, ur2, ur3⟩ := DServer.rd.1 h0
  have HU1 : Hid (Reads DStore.rep w [.string x.store.name, uv1, .int .i64 x.store.auto] x.store) := ⟨_, DStore.rd.2 ⟨_, _, rfl, rfl, us0, ur1⟩⟩
  have HU2 : Hid (Reads (Rep.slice 110 DApplied.rep) w [uv2] x.applied) := ⟨_, ur2⟩
  have HU3 : Hid (Reads (Rep.slice 72 DWrite.rep) w [uv3] x.changes) := ⟨_, ur3⟩
  clear h0 ur1 ur2 ur3
  go_enter Tryz.func13, Tryz.ntmps13
  go_wp2_with fail
  refine (eqStore _ _ _ _ (HV1.out.below (by repeat (first | with_reducible exact belR | with_reducible apply belA | (with_reducible refine belS ?_ ?_; focus (first | omega | (simp; done) | (simp; omega))) | with_reducible apply belN | with_reducible apply belD | with_reducible assumption))) (HU1.out.below (by repeat (first | with_reducible exact belR | with_reducible apply belA | (with_reducible refine belS ?_ ?_; focus (first | omega | (simp; done) | (simp; omega))) | with_reducible apply belN | with_reducible apply belD | with_reducible assumption)))).mono ?_
  rintro e w1 ⟨rfl, hb1⟩
  obtain ⟨hc1, hfz1⟩ := bcell hb1
  have hs1 : w.heap.size + 1 + 1 ≤ w1.heap.size := by have y := hb1.size; (try simp at y); omega
  have hz10 : w.heap.size < w1.heap.size := by omega
  have hz11 : w.heap.size + 1 < w1.heap.size := by omega
  have HB1 := Lib.hid (below_call (B := w.heap.size) (w := w) (by repeat (first | with_reducible exact belR | with_reducible apply belA | (with_reducible refine belS ?_ ?_; focus (first | omega | (simp; done) | (simp; omega))) | with_reducible apply belN | with_reducible apply belD | with_reducible assumption)) (by first | omega | (simp; done) | (simp; omega)) hb1)
  clear hb1
  go_wp2_with fail
  refine (eqAppliedS _ _ _ _ (HV2.out.below (by have y := HB1.out; exact (by repeat (first | with_reducible exact belR | with_reducible apply belA | (with_reducible refine belS ?_ ?_; focus (first | omega | (simp; done) | (simp; omega))) | with_reducible apply belN | with_reducible apply belD | with_reducible assumption)))) (HU2.out.below (by have y := HB1.out; exact (by repeat (first | with_reducible exact belR | with_reducible apply belA | (with_reducible refine belS ?_ ?_; focus (first | omega | (simp; done) | (simp; omega))) | with_reducible apply belN | with_reducible apply belD | with_reducible assumption))))).mono ?_
  rintro e w2 ⟨rfl, hb2⟩
  obtain ⟨hc2, hfz2⟩ := bcell hb2
  have hs2 : w1.heap.size ≤ w2.heap.size := by have y := hb2.size; (try simp at y); omega
  have hz20 : w.heap.size < w2.heap.size := by omega
  have hz21 : w.heap.size + 1 < w2.heap.size := by omega
  have HB2 := Lib.hid (below_call (B := w.heap.size) (w := w) (by have y := HB1.out; exact (by repeat (first | with_reducible exact belR | with_reducible apply belA | (with_reducible refine belS ?_ ?_; focus (first | omega | (simp; done) | (simp; omega))) | with_reducible apply belN | with_reducible apply belD | with_reducible assumption))) (by first | omega | (simp; done) | (simp; omega)) hb2)
  clear hb2
  go_wp2_with fail
  refine (eqWriteS _ _ _ _ (HV3.out.below (by have y := HB2.out; exact (by repeat (first | with_reducible exact belR | with_reducible apply belA | (with_reducible refine belS ?_ ?_; focus (first | omega | (simp; done) | (simp; omega))) | with_reducible apply belN | with_reducible apply belD | with_reducible assumption)))) (HU3.out.below (by have y := HB2.out; exact (by repeat (first | with_reducible exact belR | with_reducible apply belA | (with_reducible refine belS ?_ ?_; focus (first | omega | (simp; done) | (simp; omega))) | with_reducible apply belN | with_reducible apply belD | with_reducible assumption))))).mono ?_
  rintro e w3 ⟨rfl, hb3⟩
  obtain ⟨hc3, hfz3⟩ := bcell hb3
  have hs3 : w2.heap.size ≤ w3.heap.size := by have y := hb3.size; (try simp at y); omega
  have hz30 : w.heap.size < w3.heap.size := by omega
  have hz31 : w.heap.size + 1 < w3.heap.size := by omega
  have HB3 := Lib.hid (below_call (B := w.heap.size) (w := w) (by have y := HB2.out; exact (by repeat (first | with_reducible exact belR | with_reducible apply belA | (with_reducible refine belS ?_ ?_; focus (first | omega | (simp; done) | (simp; omega))) | with_reducible apply belN | with_reducible apply belD | with_reducible assumption))) (by first | omega | (simp; done) | (simp; omega)) hb3)
  clear hb3
  go_wp2
  go_ret
  have y := HB3.out
  exact ⟨rfl, (by repeat (first | with_reducible exact belR | with_reducible apply belA | (with_reducible refine belS ?_ ?_; focus (first | omega | (simp; done) | (simp; omega))) | with_reducible apply belN | with_reducible apply belD | with_reducible assumption))⟩

theorem infoServer : (Tryz.prog.info? 45).map (fun i => (i.zero, i.size, i.bytes)) = some (some (.agg #[.string ⟨#[]⟩, .slice none 0 0, .int .i64 0, .slice none 0 0, .slice none 0 0]), 5, 96) := by kernel_rfl

def DServer.cnt (x : DServer) : Nat := 2 + wtT DItem.cnt x.store.items x.store.items.length + wtT DApplied.cnt x.applied x.applied.length + wtT DWrite.cnt x.changes x.changes.length
def DServer.mk3 (k : Nat) (x : DServer) : DServer := ⟨⟨markT (k), marks DItem.mk3 DItem.cnt (k + 1) x.store.items, (((k + 1 + wtT DItem.cnt x.store.items x.store.items.length : Nat) : Int))⟩, marks DApplied.mk3 DApplied.cnt (k + 1 + wtT DItem.cnt x.store.items x.store.items.length + 1) x.applied, marks DWrite.mk3 DWrite.cnt (k + 1 + wtT DItem.cnt x.store.items x.store.items.length + 1 + wtT DApplied.cnt x.applied x.applied.length) x.changes⟩

def DServer.mcnt (x : DServer) : Nat := x.store.mcnt + wtT DApplied.cnt x.applied x.applied.length + wtT DWrite.cnt x.changes x.changes.length
def DServer.mks (x : DServer) (k : Nat) : DServer := { store := x.store.mks (k), applied := marks DApplied.mk3 DApplied.cnt (k + x.store.mcnt) x.applied, changes := marks DWrite.mk3 DWrite.cnt (k + x.store.mcnt + wtT DApplied.cnt x.applied x.applied.length) x.changes }

set_option maxRecDepth 100000 in
set_option maxHeartbeats 800000 in
theorem markServer (cs : List Value) (x : DServer) (fp : List Nat) (k : Nat) (w : World) (h : DServer.rep.rd true w cs x fp) (hnd : fp.Nodup) (hk : k + x.mcnt ≤ 1000000000) :
    Calls Tryz.prog 15 #[.agg cs.toArray, .int .i64 k] w fun e w' => e = .returned (.int .i64 ((k + x.mcnt : Nat) : Int)) ∧ DServer.rep.rd true w' cs (x.mks k) fp ∧ Chg fp w w' := by
  have HL := Lib.hid (DServer.rep.lt h)
  obtain ⟨v1, v2, v3, f0, f1, f2, rfl, rfl, r0, r1, r2⟩ := DServer.parts h
  have n0 : (f0).Nodup := (List.nodup_append.1 hnd).1
  have J0 := Lib.hid (fun b (h1 : b ∈ f0) (h2 : b ∈ f1 ++ (f2)) => (List.nodup_append.1 hnd).2.2 b h1 b h2 rfl)
  replace hnd := (List.nodup_append.1 hnd).2.1
  have n1 : (f1).Nodup := (List.nodup_append.1 hnd).1
  have J1 := Lib.hid (fun b (h1 : b ∈ f1) (h2 : b ∈ f2) => (List.nodup_append.1 hnd).2.2 b h1 b h2 rfl)
  replace hnd := (List.nodup_append.1 hnd).2.1
  have n2 := hnd
  have R0 := Lib.hid r0
  have R1 := Lib.hid r1
  have R2 := Lib.hid r2
  clear h r0 r1 r2
  unfold DServer.mcnt at hk
  go_enter Tryz.func15, Tryz.ntmps15
  go_wp2_with fail
  refine (markStore _ x.store f0 (k) _ (Rep.frame DStore.rep (w' := w.alloc _) R0.out fun b hb => Below.heap_alloc _ _ _ (HL.out b (List.mem_append.2 (.inl hb)))) n0 (by omega)).mono ?_
  rintro e w1 ⟨rfl, rd0, ch0⟩
  replace R1 := Lib.hid (ch0.keeps (Rep.frame (Rep.slice 110 DApplied.rep) (w' := w.alloc _) R1.out fun b hb => Below.heap_alloc _ _ _ (HL.out b (List.mem_append.2 (.inr (List.mem_append.2 (.inl hb)))))) (fun b h1 h2 => J0.out b h2 (List.mem_append.2 (.inl h1))))
  replace R2 := Lib.hid (ch0.keeps (Rep.frame (Rep.slice 72 DWrite.rep) (w' := w.alloc _) R2.out fun b hb => Below.heap_alloc _ _ _ (HL.out b (List.mem_append.2 (.inr (List.mem_append.2 (.inr hb)))))) (fun b h1 h2 => J0.out b h2 (List.mem_append.2 (.inr h1))))
  replace R0 := Lib.hid rd0
  have hx0 : w.heap.size ∉ f0 := fun hx => Nat.lt_irrefl _ (HL.out _ (List.mem_append.2 (.inl hx)))
  have hz1 : w.heap.size < w1.heap.size := by have y := ch0.size; (try simp at y); omega
  have hc1 : ∀ o, w1.cell? ⟨w.heap.size, o, none⟩ = _ := fun o => World.cell?_of_block (a := ⟨w.heap.size, o, none⟩) (ch0.block w.heap.size (by first | omega | (simp; done) | (simp; omega)) hx0)
  have C0 := Lib.hid ch0
  clear rd0 ch0 hx0
  go_wp2_with fail
  refine (markAppliedS _ x.applied f1 (k + x.store.mcnt) _ R1.out n1 (by omega)).mono ?_
  rintro e w2 ⟨rfl, rd1, ch1⟩
  replace R0 := Lib.hid (ch1.keeps R0.out (fun b h1 h2 => J0.out b h1 (List.mem_append.2 (.inl h2))))
  replace R2 := Lib.hid (ch1.keeps R2.out (fun b h1 h2 => J1.out b h2 h1))
  replace R1 := Lib.hid rd1
  have hx1 : w.heap.size ∉ f1 := fun hx => Nat.lt_irrefl _ (HL.out _ (List.mem_append.2 (.inr (List.mem_append.2 (.inl hx)))))
  have hz2 : w.heap.size < w2.heap.size := by have y := ch1.size; (try simp at y); omega
  have hc2 : ∀ o, w2.cell? ⟨w.heap.size, o, none⟩ = _ := fun o => World.cell?_of_block (a := ⟨w.heap.size, o, none⟩) (ch1.block w.heap.size (by first | omega | (simp; done) | (simp; omega)) hx1)
  have C1 := Lib.hid ch1
  clear rd1 ch1 hx1
  go_wp2_with fail
  refine (markWriteS _ x.changes f2 (k + x.store.mcnt + wtT DApplied.cnt x.applied x.applied.length) _ R2.out n2 (by omega)).mono ?_
  rintro e w3 ⟨rfl, rd2, ch2⟩
  replace R0 := Lib.hid (ch2.keeps R0.out (fun b h1 h2 => J0.out b h1 (List.mem_append.2 (.inr h2))))
  replace R1 := Lib.hid (ch2.keeps R1.out (fun b h1 h2 => J1.out b h1 h2))
  replace R2 := Lib.hid rd2
  have hx2 : w.heap.size ∉ f2 := fun hx => Nat.lt_irrefl _ (HL.out _ (List.mem_append.2 (.inr (List.mem_append.2 (.inr hx)))))
  have hz3 : w.heap.size < w3.heap.size := by have y := ch2.size; (try simp at y); omega
  have hc3 : ∀ o, w3.cell? ⟨w.heap.size, o, none⟩ = _ := fun o => World.cell?_of_block (a := ⟨w.heap.size, o, none⟩) (ch2.block w.heap.size (by first | omega | (simp; done) | (simp; omega)) hx2)
  have C2 := Lib.hid ch2
  clear rd2 ch2 hx2
  go_wp2
  go_ret
  refine ⟨ret_int (by unfold DServer.mcnt; omega), ?_, ?_⟩
  · exact DServer.join (x := x.mks k) _ _ R0.out _ _ R1.out _ _ R2.out 
  · have z := Chg.trans (a := w) (Chg.of_below (fp := f0 ++ (f1 ++ (f2))) (B := w.heap.size) (belA belR) (Nat.le_refl _)) (C0.out.mono (fq := f0 ++ (f1 ++ (f2))) fun b hb => (List.mem_append.2 (.inl hb)))
    replace z := z.trans (C1.out.mono (fq := f0 ++ (f1 ++ (f2))) fun b hb => (List.mem_append.2 (.inr (List.mem_append.2 (.inl hb)))))
    replace z := z.trans (C2.out.mono (fq := f0 ++ (f1 ++ (f2))) fun b hb => (List.mem_append.2 (.inr (List.mem_append.2 (.inr hb)))))
    exact z

set_option maxRecDepth 100000 in
set_option maxHeartbeats 800000 in
theorem heldServer (cs : List Value) (x : DServer) (k : Nat) (w : World) (h : Reads DServer.rep w cs (x.mks k)) (hk : k + x.mcnt ≤ 1000000000) :
    Calls Tryz.prog 17 #[.agg cs.toArray, .int .i64 k] w fun e w' => e = .returned (.int .i64 ((k + x.mcnt : Nat) : Int)) ∧ Below w.heap.size w w' := by
  obtain ⟨fp, h⟩ := h
  obtain ⟨v1, v2, v3, f0, f1, f2, rfl, _, r0, r1, r2⟩ := DServer.parts h
  have HV0 : Hid (Reads DStore.rep w [.string (x.mks k).store.name, v1, .int .i64 (x.mks k).store.auto] (x.mks k).store) := ⟨_, r0⟩
  have HV1 : Hid (Reads (Rep.slice 110 DApplied.rep) w [v2] (x.mks k).applied) := ⟨_, r1⟩
  have HV2 : Hid (Reads (Rep.slice 72 DWrite.rep) w [v3] (x.mks k).changes) := ⟨_, r2⟩
  clear h r0 r1 r2
  unfold DServer.mcnt at hk
  go_enter Tryz.func17, Tryz.ntmps17
  go_wp2_with fail
  refine (heldStore _ x.store (k) _ (HV0.out.below (by repeat (first | with_reducible exact belR | with_reducible apply belA | (with_reducible refine belS ?_ ?_; focus (first | omega | (simp; done) | (simp; omega))) | with_reducible apply belN | with_reducible apply belD | with_reducible assumption))) (by omega)).mono ?_
  rintro e w1 ⟨rfl, hb1⟩
  obtain ⟨hc1, hfz1⟩ := bcell hb1
  have hz1 : w.heap.size < w1.heap.size := by have y := hb1.size; (try simp at y); omega
  have HB1 := Lib.hid (below_call (w := w) (by repeat (first | with_reducible exact belR | with_reducible apply belA | (with_reducible refine belS ?_ ?_; focus (first | omega | (simp; done) | (simp; omega))) | with_reducible apply belN | with_reducible apply belD | with_reducible assumption)) (by first | omega | (simp; done) | (simp; omega)) hb1); clear hb1
  go_wp2_with fail
  refine (heldAppliedS _ x.applied (k + x.store.mcnt) _ (HV1.out.below (by have y := HB1.out; exact (by repeat (first | with_reducible exact belR | with_reducible apply belA | (with_reducible refine belS ?_ ?_; focus (first | omega | (simp; done) | (simp; omega))) | with_reducible apply belN | with_reducible apply belD | with_reducible assumption)))) (by omega)).mono ?_
  rintro e w2 ⟨rfl, hb2⟩
  obtain ⟨hc2, hfz2⟩ := bcell hb2
  have hz2 : w.heap.size < w2.heap.size := by have y := hb2.size; (try simp at y); omega
  have HB2 := Lib.hid (below_call (w := w) (by have y := HB1.out; exact (by repeat (first | with_reducible exact belR | with_reducible apply belA | (with_reducible refine belS ?_ ?_; focus (first | omega | (simp; done) | (simp; omega))) | with_reducible apply belN | with_reducible apply belD | with_reducible assumption))) (by first | omega | (simp; done) | (simp; omega)) hb2); clear hb2
  go_wp2_with fail
  refine (heldWriteS _ x.changes (k + x.store.mcnt + wtT DApplied.cnt x.applied x.applied.length) _ (HV2.out.below (by have y := HB2.out; exact (by repeat (first | with_reducible exact belR | with_reducible apply belA | (with_reducible refine belS ?_ ?_; focus (first | omega | (simp; done) | (simp; omega))) | with_reducible apply belN | with_reducible apply belD | with_reducible assumption)))) (by omega)).mono ?_
  rintro e w3 ⟨rfl, hb3⟩
  obtain ⟨hc3, hfz3⟩ := bcell hb3
  have hz3 : w.heap.size < w3.heap.size := by have y := hb3.size; (try simp at y); omega
  have HB3 := Lib.hid (below_call (w := w) (by have y := HB2.out; exact (by repeat (first | with_reducible exact belR | with_reducible apply belA | (with_reducible refine belS ?_ ?_; focus (first | omega | (simp; done) | (simp; omega))) | with_reducible apply belN | with_reducible apply belD | with_reducible assumption))) (by first | omega | (simp; done) | (simp; omega)) hb3); clear hb3
  go_wp2
  go_ret
  have y := HB3.out
  exact ⟨ret_int (by unfold DServer.mcnt; omega), (by repeat (first | with_reducible exact belR | with_reducible apply belA | (with_reducible refine belS ?_ ?_; focus (first | omega | (simp; done) | (simp; omega))) | with_reducible apply belN | with_reducible apply belD | with_reducible assumption))⟩

end Go.Proofs.YtgicglmcapnogaaGreat


/-
  The laws' helpers for Sync.
-/
namespace Go.Proofs.YtgicglmcapnogaaGreat
open Go.RowKit

def DSync.wt (x : DSync) : Nat := x.outbox.wt

set_option maxHeartbeats 400000 in
theorem szSync (cs : List Value) (x : DSync) (left : Int) (w : World) (h : Reads DSync.rep w cs x) (h0 : 0 ≤ left) (h1 : left ≤ 1048576) :
    Calls Tryz.prog 6 #[.agg cs.toArray, .int .i64 left] w fun e w' => e = .returned (.int .i64 (szOf x.wt left)) ∧ Below w.heap.size w w' := by
  obtain ⟨fp, h⟩ := h
  obtain ⟨v1, f1, rfl, _, r1⟩ := DSync.rd.1 h
  have HV1 : Hid (Reads DOutbox.rep w [.int .i64 x.outbox.device, .int .i64 x.outbox.next, v1] x.outbox) := ⟨_, DOutbox.rd.2 ⟨_, _, rfl, rfl, r1⟩⟩
  clear h r1
  go_enter Tryz.func6, Tryz.ntmps6
  go_wp2_with fail
  have q1 : 0 ≤ left ∧ left ≤ 1048576 := by
    omega
  refine (szOutbox _ _ _ _ (HV1.out.below (by repeat (first | with_reducible exact belR | with_reducible apply belA | (with_reducible refine belS ?_ ?_; focus (first | omega | (simp; done) | (simp; omega))) | with_reducible apply belN | with_reducible apply belD | with_reducible assumption))) q1.1 q1.2).mono ?_
  rintro e w1 ⟨rfl, hb1⟩
  obtain ⟨hc1, hfz1⟩ := bcell hb1
  have hz1 : w.heap.size < w1.heap.size := by have y := hb1.size; simp at y; omega
  have HB1 := Lib.hid (below_call (w := w) (by repeat (first | with_reducible exact belR | with_reducible apply belA | (with_reducible refine belS ?_ ?_; focus (first | omega | (simp; done) | (simp; omega))) | with_reducible apply belN | with_reducible apply belD | with_reducible assumption)) (by first | omega | (simp; done) | (simp; omega)) hb1); clear hb1
  have bl1 : -1 ≤ szOf (x.outbox.wt) (left) ∧ szOf (x.outbox.wt) (left) ≤ 1048576 := by
    have a0 := szOf_spec (x.outbox.wt) (left)
    omega
  obtain ⟨bl1, bu1⟩ := bl1
  go_wp2_with fail
  · go_ret
    have y0 := HB1.out
    refine ⟨ret_int ?_, (by repeat (first | with_reducible exact belR | with_reducible apply belA | (with_reducible refine belS ?_ ?_; focus (first | omega | (simp; done) | (simp; omega))) | with_reducible apply belN | with_reducible apply belD | with_reducible assumption))⟩
    go_light
    have a0 := szOf_spec x.wt left
    have a1 := szOf_spec (x.outbox.wt) (left)
    unfold DSync.wt at *
    omega
  · go_ret
    have y0 := HB1.out
    refine ⟨ret_int ?_, (by repeat (first | with_reducible exact belR | with_reducible apply belA | (with_reducible refine belS ?_ ?_; focus (first | omega | (simp; done) | (simp; omega))) | with_reducible apply belN | with_reducible apply belD | with_reducible assumption))⟩
    go_light
    have a0 := szOf_spec x.wt left
    have a1 := szOf_spec (x.outbox.wt) (left)
    unfold DSync.wt at *
    omega

set_option maxHeartbeats 800000 in
theorem toSync (cs : List Value) (x : DSync) (w : World) (h : Reads DSync.rep w cs x) (_hsmall : x.wt ≤ 1048576) :
    Calls Tryz.prog 9 #[.agg cs.toArray] w fun e w' => ∃ ds, e = .returned (.agg ds.toArray) ∧ Fresh DSync.rep w.heap.size w' ds x ∧ Below w.heap.size w w' := by
  obtain ⟨fp, h⟩ := h
  obtain ⟨v1, f1, rfl, _, r1⟩ := DSync.rd.1 h
  have HV1 : Hid (Reads DOutbox.rep w [.int .i64 x.outbox.device, .int .i64 x.outbox.next, v1] x.outbox) := ⟨_, DOutbox.rd.2 ⟨_, _, rfl, rfl, r1⟩⟩
  have d1 : x.outbox.wt ≤ 1048576 := by unfold DSync.wt at _hsmall; omega
  clear h r1
  go_enter Tryz.func9, Tryz.ntmps9
  go_wp2_with fail
  refine (toOutbox _ _ _ (HV1.out.below (by repeat (first | with_reducible exact belR | with_reducible apply belA | (with_reducible refine belS ?_ ?_; focus (first | omega | (simp; done) | (simp; omega))) | with_reducible apply belN | with_reducible apply belD | with_reducible assumption))) d1).mono ?_
  rintro e w1 ⟨t1, rfl, hf1, hb1⟩
  obtain ⟨ao1, cap1, rfl⟩ := DOutbox.fshape hf1
  obtain ⟨hc1, hfz1⟩ := bcell hb1
  have hs1 : w.heap.size + 1 + 1 + 1 ≤ w1.heap.size := by have y := hb1.size; simp at y; omega
  have hz10 : w.heap.size < w1.heap.size := by omega
  have hz11 : w.heap.size + 1 < w1.heap.size := by omega
  have hz12 : w.heap.size + 1 + 1 < w1.heap.size := by omega
  have HF1 := Lib.hid (hf1.mono (B' := w.heap.size + 1 + 1 + 1) (by first | omega | (simp; done) | (simp; omega)))
  have HB1 := Lib.hid (below_call (w := w) (by repeat (first | with_reducible exact belR | with_reducible apply belA | (with_reducible refine belS ?_ ?_; focus (first | omega | (simp; done) | (simp; omega))) | with_reducible apply belN | with_reducible apply belD | with_reducible assumption)) (by first | omega | (simp; done) | (simp; omega)) hb1)
  clear hb1 hf1
  go_wp2
  refine bodyPost_ret (v := .agg #[.int .i64 x.outbox.device, .int .i64 x.outbox.next, .slice ao1 x.outbox.writes.length cap1, .int .i64 x.tries, .int .i64 x.waitUntil]) (by first | (simp [results, Tryz.results9, go_sem]; done) | (simp [results, Tryz.results9, go_sem, hc1]; done)) rfl ⟨_, rfl, ?_, ?_⟩
  · exact DSync.fresh (HF1.out.part (by repeat (first | with_reducible exact abR | with_reducible apply abA | (with_reducible refine abS ?_ ?_; focus (first | omega | (simp; done) | (simp; omega))) | with_reducible apply abN | with_reducible apply abD | with_reducible assumption))) (by first | omega | (simp; done) | (simp; omega))  
  · have y := HB1.out
    exact (by repeat (first | with_reducible exact belR | with_reducible apply belA | (with_reducible refine belS ?_ ?_; focus (first | omega | (simp; done) | (simp; omega))) | with_reducible apply belN | with_reducible apply belD | with_reducible assumption))

set_option maxHeartbeats 800000 in
theorem eqSync (cs ds : List Value) (x : DSync) (w : World) (h : Reads DSync.rep w cs x) (h' : Reads DSync.rep w ds x) :
    Calls Tryz.prog 12 #[.agg cs.toArray, .agg ds.toArray] w fun e w' => e = .returned (.bool true) ∧ Below w.heap.size w w' := by
  obtain ⟨fp, h0⟩ := h
  obtain ⟨vv1, vf1, rfl, _, vr1⟩ := DSync.rd.1 h0
  have HV1 : Hid (Reads DOutbox.rep w [.int .i64 x.outbox.device, .int .i64 x.outbox.next, vv1] x.outbox) := ⟨_, DOutbox.rd.2 ⟨_, _, rfl, rfl, vr1⟩⟩
  clear h0 vr1
  obtain ⟨fp, h0⟩ := h'
  obtain ⟨uv1, uf1, rfl, _, ur1⟩ := DSync.rd.1 h0
  have HU1 : Hid (Reads DOutbox.rep w [.int .i64 x.outbox.device, .int .i64 x.outbox.next, uv1] x.outbox) := ⟨_, DOutbox.rd.2 ⟨_, _, rfl, rfl, ur1⟩⟩
  clear h0 ur1
  go_enter Tryz.func12, Tryz.ntmps12
  go_wp2_with fail
  refine (eqOutbox _ _ _ _ (HV1.out.below (by repeat (first | with_reducible exact belR | with_reducible apply belA | (with_reducible refine belS ?_ ?_; focus (first | omega | (simp; done) | (simp; omega))) | with_reducible apply belN | with_reducible apply belD | with_reducible assumption))) (HU1.out.below (by repeat (first | with_reducible exact belR | with_reducible apply belA | (with_reducible refine belS ?_ ?_; focus (first | omega | (simp; done) | (simp; omega))) | with_reducible apply belN | with_reducible apply belD | with_reducible assumption)))).mono ?_
  rintro e w1 ⟨rfl, hb1⟩
  obtain ⟨hc1, hfz1⟩ := bcell hb1
  have hs1 : w.heap.size + 1 + 1 ≤ w1.heap.size := by have y := hb1.size; simp at y; omega
  have hz10 : w.heap.size < w1.heap.size := by omega
  have hz11 : w.heap.size + 1 < w1.heap.size := by omega
  have HB1 := Lib.hid (below_call (w := w) (by repeat (first | with_reducible exact belR | with_reducible apply belA | (with_reducible refine belS ?_ ?_; focus (first | omega | (simp; done) | (simp; omega))) | with_reducible apply belN | with_reducible apply belD | with_reducible assumption)) (by first | omega | (simp; done) | (simp; omega)) hb1)
  clear hb1
  go_wp2
  go_ret
  have y := HB1.out
  exact ⟨rfl, (by repeat (first | with_reducible exact belR | with_reducible apply belA | (with_reducible refine belS ?_ ?_; focus (first | omega | (simp; done) | (simp; omega))) | with_reducible apply belN | with_reducible apply belD | with_reducible assumption))⟩

theorem infoSync : (Tryz.prog.info? 39).map (fun i => (i.zero, i.size, i.bytes)) = some (some (.agg #[.int .i64 0, .int .i64 0, .slice none 0 0, .int .i64 0, .int .i64 0]), 5, 56) := by kernel_rfl

def DSync.cnt (x : DSync) : Nat := 4 + wtT DWrite.cnt x.outbox.writes x.outbox.writes.length
def DSync.mk3 (k : Nat) (x : DSync) : DSync := ⟨⟨((k : Int)), ((k : Int) + 1), marks DWrite.mk3 DWrite.cnt (k + 2) x.outbox.writes⟩, (((k + 2 + wtT DWrite.cnt x.outbox.writes x.outbox.writes.length : Nat) : Int)), (((k + 2 + wtT DWrite.cnt x.outbox.writes x.outbox.writes.length : Nat) : Int) + 1)⟩

def DSync.mcnt (x : DSync) : Nat := x.outbox.mcnt
def DSync.mks (x : DSync) (k : Nat) : DSync := { x with outbox := x.outbox.mks (k) }

set_option maxRecDepth 100000 in
set_option maxHeartbeats 800000 in
theorem markSync (cs : List Value) (x : DSync) (fp : List Nat) (k : Nat) (w : World) (h : DSync.rep.rd true w cs x fp) (hnd : fp.Nodup) (hk : k + x.mcnt ≤ 1000000000) :
    Calls Tryz.prog 14 #[.agg cs.toArray, .int .i64 k] w fun e w' => e = .returned (.int .i64 ((k + x.mcnt : Nat) : Int)) ∧ DSync.rep.rd true w' cs (x.mks k) fp ∧ Chg fp w w' := by
  have HL := Lib.hid (DSync.rep.lt h)
  obtain ⟨v1, f0, rfl, rfl, r0⟩ := DSync.parts h
  have n0 := hnd
  have R0 := Lib.hid r0
  clear h r0
  unfold DSync.mcnt at hk
  go_enter Tryz.func14, Tryz.ntmps14
  go_wp2_with fail
  refine (markOutbox _ x.outbox fp (k) _ (Rep.frame DOutbox.rep (w' := w.alloc _) R0.out fun b hb => Below.heap_alloc _ _ _ (HL.out b hb)) n0 (by omega)).mono ?_
  rintro e w1 ⟨rfl, rd0, ch0⟩
  replace R0 := Lib.hid rd0
  have hx0 : w.heap.size ∉ fp := fun hx => Nat.lt_irrefl _ (HL.out _ hx)
  have hz1 : w.heap.size < w1.heap.size := by have y := ch0.size; simp at y; omega
  have hc1 : ∀ o, w1.cell? ⟨w.heap.size, o, none⟩ = _ := fun o => World.cell?_of_block (a := ⟨w.heap.size, o, none⟩) (ch0.block w.heap.size (by first | omega | (simp; done) | (simp; omega)) hx0)
  have C0 := Lib.hid ch0
  clear rd0 ch0 hx0
  go_wp2
  go_ret
  refine ⟨ret_int (by unfold DSync.mcnt; omega), ?_, ?_⟩
  · exact DSync.join (x := x.mks k) _ _ R0.out 
  · have z := Chg.trans (a := w) (Chg.of_below (fp := fp) (B := w.heap.size) (belA belR) (Nat.le_refl _)) (C0.out.mono (fq := fp) fun b hb => hb)
    exact z

set_option maxRecDepth 100000 in
set_option maxHeartbeats 800000 in
theorem heldSync (cs : List Value) (x : DSync) (k : Nat) (w : World) (h : Reads DSync.rep w cs (x.mks k)) (hk : k + x.mcnt ≤ 1000000000) :
    Calls Tryz.prog 16 #[.agg cs.toArray, .int .i64 k] w fun e w' => e = .returned (.int .i64 ((k + x.mcnt : Nat) : Int)) ∧ Below w.heap.size w w' := by
  obtain ⟨fp, h⟩ := h
  obtain ⟨v1, f0, rfl, _, r0⟩ := DSync.parts h
  have HV0 : Hid (Reads DOutbox.rep w [.int .i64 (x.mks k).outbox.device, .int .i64 (x.mks k).outbox.next, v1] (x.mks k).outbox) := ⟨_, r0⟩
  clear h r0
  unfold DSync.mcnt at hk
  go_enter Tryz.func16, Tryz.ntmps16
  go_wp2_with fail
  refine (heldOutbox _ x.outbox (k) _ (HV0.out.below (by repeat (first | with_reducible exact belR | with_reducible apply belA | (with_reducible refine belS ?_ ?_; focus (first | omega | (simp; done) | (simp; omega))) | with_reducible apply belN | with_reducible apply belD | with_reducible assumption))) (by omega)).mono ?_
  rintro e w1 ⟨rfl, hb1⟩
  obtain ⟨hc1, hfz1⟩ := bcell hb1
  have hz1 : w.heap.size < w1.heap.size := by have y := hb1.size; simp at y; omega
  have HB1 := Lib.hid (below_call (w := w) (by repeat (first | with_reducible exact belR | with_reducible apply belA | (with_reducible refine belS ?_ ?_; focus (first | omega | (simp; done) | (simp; omega))) | with_reducible apply belN | with_reducible apply belD | with_reducible assumption)) (by first | omega | (simp; done) | (simp; omega)) hb1); clear hb1
  go_wp2
  go_ret
  have y := HB1.out
  exact ⟨ret_int (by unfold DSync.mcnt; omega), (by repeat (first | with_reducible exact belR | with_reducible apply belA | (with_reducible refine belS ?_ ?_; focus (first | omega | (simp; done) | (simp; omega))) | with_reducible apply belN | with_reducible apply belD | with_reducible assumption))⟩

end Go.Proofs.YtgicglmcapnogaaGreat


/-
  The laws' helpers for Replica.
-/
namespace Go.Proofs.YtgicglmcapnogaaGreat
open Go.RowKit

def DReplica.wt (x : DReplica) : Nat := x.base.wt + x.sync.wt

def DReplica.cnt (x : DReplica) : Nat := 7 + wtT DItem.cnt x.base.items x.base.items.length + wtT DWrite.cnt x.sync.outbox.writes x.sync.outbox.writes.length
def DReplica.mk3 (k : Nat) (x : DReplica) : DReplica := ⟨⟨markT (k), marks DItem.mk3 DItem.cnt (k + 1) x.base.items, (((k + 1 + wtT DItem.cnt x.base.items x.base.items.length : Nat) : Int))⟩, (((k + 1 + wtT DItem.cnt x.base.items x.base.items.length : Nat) : Int) + 1), ⟨⟨(((k + 1 + wtT DItem.cnt x.base.items x.base.items.length : Nat) : Int) + 1 + 1), (((k + 1 + wtT DItem.cnt x.base.items x.base.items.length : Nat) : Int) + 1 + 1 + 1), marks DWrite.mk3 DWrite.cnt (k + 1 + wtT DItem.cnt x.base.items x.base.items.length + 4) x.sync.outbox.writes⟩, (((k + 1 + wtT DItem.cnt x.base.items x.base.items.length + 4 + wtT DWrite.cnt x.sync.outbox.writes x.sync.outbox.writes.length : Nat) : Int)), (((k + 1 + wtT DItem.cnt x.base.items x.base.items.length + 4 + wtT DWrite.cnt x.sync.outbox.writes x.sync.outbox.writes.length : Nat) : Int) + 1)⟩⟩

def DReplica.mcnt (x : DReplica) : Nat := x.base.mcnt + x.sync.mcnt
def DReplica.mks (x : DReplica) (k : Nat) : DReplica := { x with base := x.base.mks (k), sync := x.sync.mks (k + x.base.mcnt) }

end Go.Proofs.YtgicglmcapnogaaGreat
