/-
  The laws' helpers for Write.
-/
import Derived.Test.YtjdoofekohjjlaaLKey
import Derived.Test.YtjdoofekohjjlaaTWrite
namespace Go.Proofs.Ytjdoofekohjjlaa
open Go.RowKit

def DWrite.wt (x : DWrite) : Nat := x.key.wt + x.field.size

set_option maxHeartbeats 400000 in
theorem szWrite (cs : List Value) (x : DWrite) (left : Int) (w : World) (h : Reads DWrite.rep w cs x) (h0 : 0 ≤ left) (h1 : left ≤ 1048576) :
    Calls Try.prog 28 #[.agg cs.toArray, .int .i64 left] w fun e w' => e = .returned (.int .i64 (szOf x.wt left)) ∧ Below w.heap.size w w' := by
  obtain ⟨fp, h⟩ := h
  obtain ⟨rfl, _, s0, s1⟩ := DWrite.rd.1 h
  have HV1 : Hid (Reads DKey.rep w [.int .i64 x.key.kind, .int .i64 x.key.n, .string x.key.text] x.key) := ⟨_, DKey.rd.2 ⟨rfl, rfl, s0⟩⟩
  clear h
  unfold maxLen at s0 s1
  go_enter Try.func28, Try.ntmps28
  go_wp2_with fail
  have q1 : 0 ≤ left ∧ left ≤ 1048576 := by
    omega
  refine (szKey _ _ _ _ (HV1.out.below (by repeat (first | with_reducible exact belR | with_reducible apply belA | (with_reducible refine belS ?_ ?_; focus (first | omega | (simp; done) | (simp; omega))) | with_reducible apply belN | with_reducible apply belD | with_reducible assumption))) q1.1 q1.2).mono ?_
  rintro e w1 ⟨rfl, hb1⟩
  obtain ⟨hc1, hfz1⟩ := bcell hb1
  have hz1 : w.heap.size < w1.heap.size := by have y := hb1.size; simp at y; omega
  have HB1 := Lib.hid (below_call (w := w) (by repeat (first | with_reducible exact belR | with_reducible apply belA | (with_reducible refine belS ?_ ?_; focus (first | omega | (simp; done) | (simp; omega))) | with_reducible apply belN | with_reducible apply belD | with_reducible assumption)) (by first | omega | (simp; done) | (simp; omega)) hb1); clear hb1
  have bl1 : -1 ≤ szOf (x.key.wt) (left) ∧ szOf (x.key.wt) (left) ≤ 1048576 := by
    have a0 := szOf_spec (x.key.wt) (left)
    omega
  obtain ⟨bl1, bu1⟩ := bl1
  go_wp2_with fail
  · go_ret
    have y0 := HB1.out
    refine ⟨ret_int ?_, (by repeat (first | with_reducible exact belR | with_reducible apply belA | (with_reducible refine belS ?_ ?_; focus (first | omega | (simp; done) | (simp; omega))) | with_reducible apply belN | with_reducible apply belD | with_reducible assumption))⟩
    go_light
    have a0 := szOf_spec x.wt left
    have a1 := szOf_spec (x.key.wt) (left)
    unfold DWrite.wt at *
    omega
  · go_ret
    have y0 := HB1.out
    refine ⟨ret_int ?_, (by repeat (first | with_reducible exact belR | with_reducible apply belA | (with_reducible refine belS ?_ ?_; focus (first | omega | (simp; done) | (simp; omega))) | with_reducible apply belN | with_reducible apply belD | with_reducible assumption))⟩
    go_light
    have a0 := szOf_spec x.wt left
    have a1 := szOf_spec (x.key.wt) (left)
    unfold DWrite.wt at *
    omega
  · go_ret
    have y0 := HB1.out
    refine ⟨ret_int ?_, (by repeat (first | with_reducible exact belR | with_reducible apply belA | (with_reducible refine belS ?_ ?_; focus (first | omega | (simp; done) | (simp; omega))) | with_reducible apply belN | with_reducible apply belD | with_reducible assumption))⟩
    go_light
    have a0 := szOf_spec x.wt left
    have a1 := szOf_spec (x.key.wt) (left)
    unfold DWrite.wt at *
    omega

set_option maxHeartbeats 800000 in
theorem toWrite (cs : List Value) (x : DWrite) (w : World) (h : Reads DWrite.rep w cs x) (_hsmall : x.wt ≤ 1048576) :
    Calls Try.prog 31 #[.agg cs.toArray] w fun e w' => ∃ ds, e = .returned (.agg ds.toArray) ∧ Fresh DWrite.rep w.heap.size w' ds x ∧ Below w.heap.size w w' := by
  obtain ⟨fp, h⟩ := h
  obtain ⟨rfl, _, s0, s1⟩ := DWrite.rd.1 h
  have HV1 : Hid (Reads DKey.rep w [.int .i64 x.key.kind, .int .i64 x.key.n, .string x.key.text] x.key) := ⟨_, DKey.rd.2 ⟨rfl, rfl, s0⟩⟩
  have d1 : x.key.wt ≤ 1048576 := by unfold DWrite.wt at _hsmall; omega
  clear h 
  go_enter Try.func31, Try.ntmps31
  go_wp2_with fail
  refine (toKey _ _ _ (HV1.out.below (by repeat (first | with_reducible exact belR | with_reducible apply belA | (with_reducible refine belS ?_ ?_; focus (first | omega | (simp; done) | (simp; omega))) | with_reducible apply belN | with_reducible apply belD | with_reducible assumption))) d1).mono ?_
  rintro e w1 ⟨t1, rfl, hf1, hb1⟩
  obtain ⟨_, hf1, _⟩ := hf1
  obtain ⟨rfl, _, _⟩ := DKey.rd.1 hf1
  obtain ⟨hc1, hfz1⟩ := bcell hb1
  have hs1 : w.heap.size + 1 + 1 + 1 ≤ w1.heap.size := by have y := hb1.size; simp at y; omega
  have hz10 : w.heap.size < w1.heap.size := by omega
  have hz11 : w.heap.size + 1 < w1.heap.size := by omega
  have hz12 : w.heap.size + 1 + 1 < w1.heap.size := by omega
  have HB1 := Lib.hid (below_call (w := w) (by repeat (first | with_reducible exact belR | with_reducible apply belA | (with_reducible refine belS ?_ ?_; focus (first | omega | (simp; done) | (simp; omega))) | with_reducible apply belN | with_reducible apply belD | with_reducible assumption)) (by first | omega | (simp; done) | (simp; omega)) hb1)
  clear hb1
  go_wp2
  refine bodyPost_ret (v := .agg #[.int .i64 x.device, .int .i64 x.seq, .int .i64 x.key.kind, .int .i64 x.key.n, .string x.key.text, .string x.field, .int .i64 x.n]) (by first | (simp [results, Try.results31, go_sem]; done) | (simp [results, Try.results31, go_sem, hc1]; done)) rfl ⟨_, rfl, ?_, ?_⟩
  · exact ⟨[], DWrite.rd.2 ⟨rfl, rfl, s0, s1⟩, by simp, by simp⟩
  · have y := HB1.out
    exact (by repeat (first | with_reducible exact belR | with_reducible apply belA | (with_reducible refine belS ?_ ?_; focus (first | omega | (simp; done) | (simp; omega))) | with_reducible apply belN | with_reducible apply belD | with_reducible assumption))

set_option maxHeartbeats 800000 in
theorem eqWrite (cs ds : List Value) (x : DWrite) (w : World) (h : Reads DWrite.rep w cs x) (h' : Reads DWrite.rep w ds x) :
    Calls Try.prog 102 #[.agg cs.toArray, .agg ds.toArray] w fun e w' => e = .returned (.bool true) ∧ Below w.heap.size w w' := by
  obtain ⟨fp, h0⟩ := h
  obtain ⟨rfl, _, vs0, vs1⟩ := DWrite.rd.1 h0
  have HV1 : Hid (Reads DKey.rep w [.int .i64 x.key.kind, .int .i64 x.key.n, .string x.key.text] x.key) := ⟨_, DKey.rd.2 ⟨rfl, rfl, vs0⟩⟩
  clear h0 
  obtain ⟨fp, h0⟩ := h'
  obtain ⟨rfl, _, us0, us1⟩ := DWrite.rd.1 h0
  have HU1 : Hid (Reads DKey.rep w [.int .i64 x.key.kind, .int .i64 x.key.n, .string x.key.text] x.key) := ⟨_, DKey.rd.2 ⟨rfl, rfl, us0⟩⟩
  clear h0 
  go_enter Try.func102, Try.ntmps102
  go_wp2_with fail
  refine (eqKey _ _ _ _ (HV1.out.below (by repeat (first | with_reducible exact belR | with_reducible apply belA | (with_reducible refine belS ?_ ?_; focus (first | omega | (simp; done) | (simp; omega))) | with_reducible apply belN | with_reducible apply belD | with_reducible assumption))) (HU1.out.below (by repeat (first | with_reducible exact belR | with_reducible apply belA | (with_reducible refine belS ?_ ?_; focus (first | omega | (simp; done) | (simp; omega))) | with_reducible apply belN | with_reducible apply belD | with_reducible assumption)))).mono ?_
  rintro e w1 ⟨rfl, hb1⟩
  obtain ⟨hc1, hfz1⟩ := bcell hb1
  have hs1 : w.heap.size + 1 + 1 ≤ w1.heap.size := by have y := hb1.size; simp at y; omega
  have hz10 : w.heap.size < w1.heap.size := by omega
  have hz11 : w.heap.size + 1 < w1.heap.size := by omega
  have HB1 := Lib.hid (below_call (w := w) (by repeat (first | with_reducible exact belR | with_reducible apply belA | (with_reducible refine belS ?_ ?_; focus (first | omega | (simp; done) | (simp; omega))) | with_reducible apply belN | with_reducible apply belD | with_reducible assumption)) (by first | omega | (simp; done) | (simp; omega)) hb1)
  clear hb1
  go_wp2
  go_ret
  have y := HB1.out
  exact ⟨rfl, (by repeat (first | with_reducible exact belR | with_reducible apply belA | (with_reducible refine belS ?_ ?_; focus (first | omega | (simp; done) | (simp; omega))) | with_reducible apply belN | with_reducible apply belD | with_reducible assumption))⟩

set_option maxHeartbeats 400000 in
theorem szWriteS (v : Value) (l : List DWrite) (left : Int) (w : World) (h : Reads (Rep.slice 72 DWrite.rep) w [v] l) (h0 : 0 ≤ left) (h1 : left ≤ 1048576) :
    Calls Try.prog 44 #[v, .int .i64 left] w fun e w' => e = .returned (.int .i64 (szOf (wtS DWrite.wt l) left)) ∧ Below w.heap.size w w' := by
  have HK := Lib.hid h
  obtain ⟨fp, h⟩ := h
  obtain ⟨ao, c1, rfl, hm, _, hu⟩ := slice_open h
  clear hu h
  go_enter Try.func44, Try.ntmps44
  go_wp2
  · go_ret
    refine ⟨ret_int ?_, (by repeat (first | with_reducible exact belR | with_reducible apply belA | (with_reducible refine belS ?_ ?_; focus (first | omega | (simp; done) | (simp; omega))) | with_reducible apply belN | with_reducible apply belD | with_reducible assumption))⟩
    go_light
    have a0 := szOf_spec (wtS DWrite.wt l) left
    have a1 := wtS_ge DWrite.wt l
    omega
  · go_loopw [1, 5] (fun a i wr => ∃ k : Nat, k ≤ l.length ∧ i = .int .i64 k ∧ a = .int .i64 (left - l.length - wtT DWrite.wt l k) ∧ 0 ≤ left - l.length - wtT DWrite.wt l k ∧ Below w.heap.size w wr) (fun _ i _ => l.length - (intOf i).toNat)
    case atStart => exact ⟨0, by omega, rfl, by simp [wtT], by simp [wtT]; omega, (by repeat (first | with_reducible exact belR | with_reducible apply belA | (with_reducible refine belS ?_ ?_; focus (first | omega | (simp; done) | (simp; omega))) | with_reducible apply belN | with_reducible apply belD | with_reducible assumption))⟩
    case round =>
      obtain ⟨k, hk, rfl, rfl, hpos, hb⟩ := hrel
      have HB := Lib.hid hb; clear hb
      by_cases hlt : k < l.length
      · obtain ⟨b, off, cs, rfl, bw, hr, hcell⟩ := slice_at (HK.out.below HB.out) k hlt
        obtain ⟨fe, hrd⟩ := hr
        obtain ⟨rfl, _, _, _⟩ := DWrite.rd.1 hrd
        have HR : Hid (Reads DWrite.rep wr _ l[k]) := ⟨_, hrd⟩
        clear hrd
        have hc0 : wr.cell? ⟨b, off + k * 7, none⟩ = some (.int .i64 l[k].device) := hcell 0 (by decide)
        have hc1 : wr.cell? ⟨b, off + k * 7 + 1, none⟩ = some (.int .i64 l[k].seq) := hcell 1 (by decide)
        have hc2 : wr.cell? ⟨b, off + k * 7 + 2, none⟩ = some (.int .i64 l[k].key.kind) := hcell 2 (by decide)
        have hc3 : wr.cell? ⟨b, off + k * 7 + 3, none⟩ = some (.int .i64 l[k].key.n) := hcell 3 (by decide)
        have hc4 : wr.cell? ⟨b, off + k * 7 + 4, none⟩ = some (.string l[k].key.text) := hcell 4 (by decide)
        have hc5 : wr.cell? ⟨b, off + k * 7 + 5, none⟩ = some (.string l[k].field) := hcell 5 (by decide)
        have hc6 : wr.cell? ⟨b, off + k * 7 + 6, none⟩ = some (.int .i64 l[k].n) := hcell 6 (by decide)
        clear hcell
        go_wp2_with fail
        refine (szWrite _ _ _ _ HR.out (by omega) (by omega)).mono ?_
        rintro e w1 ⟨rfl, hb1⟩
        have HB1 := Lib.hid (below_call HB.out HB.out.size hb1); clear hb1
        go_wp2
        · go_ret
          refine ⟨ret_int ?_, HB1.out⟩
          go_light
          have a0 := szOf_spec (DWrite.wt l[k]) (left - l.length - wtT DWrite.wt l k)
          have a1 := szOf_spec (wtS DWrite.wt l) left
          have a2 := wtT_le DWrite.wt l (k + 1)
          rw [wtT_succ _ _ _ hlt] at a2
          unfold wtS at a1 ⊢
          omega
        · go_light
          have a0 := szOf_spec (DWrite.wt l[k]) (left - l.length - wtT DWrite.wt l k)
          have a2 := wtT_succ DWrite.wt l k hlt
          have e : szOf (DWrite.wt l[k]) (left - l.length - wtT DWrite.wt l k) = left - l.length - wtT DWrite.wt l (k + 1) := by omega
          refine ⟨⟨k + 1, by omega, by go_num, by rw [e], by omega, HB1.out⟩, by simp [intOf]; omega⟩
      · go_wp2
        go_ret
        refine ⟨ret_int ?_, HB.out⟩
        go_light
        obtain rfl : k = l.length := by omega
        have a1 := szOf_spec (wtS DWrite.wt l) left
        have a2 := wtT_all DWrite.wt l
        unfold wtS at a1 ⊢
        omega

theorem infoWrite : (Try.prog.info? 72).map (fun i => (i.zero, i.size, i.bytes)) = some (some (.agg #[.int .i64 0, .int .i64 0, .int .i64 0, .int .i64 0, .string ⟨#[]⟩, .string ⟨#[]⟩, .int .i64 0]), 7, 72) := by kernel_rfl

set_option maxRecDepth 100000 in
set_option maxHeartbeats 800000 in
theorem toWriteS (u : Value) (l : List DWrite) (w : World) (hu : Reads (Rep.slice 72 DWrite.rep) w [u] l) (hsmall : wtS DWrite.wt l ≤ 1048576) :
    Calls Try.prog 47 #[u] w fun e w' => ∃ v, e = .returned v ∧ Fresh (Rep.slice 72 DWrite.rep) w.heap.size w' [v] l ∧ Below w.heap.size w w' := by
  have HK := Lib.hid hu
  obtain ⟨fp, hu⟩ := hu
  obtain ⟨ao, c1, rfl, hm, _, hu⟩ := slice_open hu
  clear hu
  have hlen := wtS_ge DWrite.wt l
  have HW := Lib.hid hsmall
  obtain ⟨i0, hi, hz0, hz1, hz2⟩ := info_parts infoWrite
  go_enter Try.func47, Try.ntmps47
  go_wp2_with (at_make; refine wpList_make_full _ rfl _ _ 35 rfl w.heap.size 72 i0 _ 7 Try.underlying35 hi hz0 hz1 _ _ _ _ l.length rfl rfl rfl rfl ?c1 ?c2 (Nat.le_refl _) ?_)
  case c1 => rw [hz2]; omega
  case c2 => unfold maxLen; omega
  intro w1 hown hgrow
  have hf : Filling DWrite.rep 72 w.heap.size w.heap.size l.length l 0 w1 := Filling.start hown (Nat.le_refl _)
  have hb1 : Below w.heap.size w w1 := (Below.refl _ _).grown hgrow (Nat.le_refl _) (by intro k hk; cases hk)
  have HF := Lib.hid hf; clear hf hown
  have HB := Lib.hid hb1; clear hb1 hgrow
  go_wp2
  go_loopw [4] (fun i wr => ∃ k : Nat, k ≤ l.length ∧ i = .int .i64 k ∧ Filling DWrite.rep 72 w.heap.size w.heap.size l.length l k wr ∧ Below w.heap.size w wr) (fun i _ => l.length - (intOf i).toNat)
  case atStart => exact ⟨0, by omega, rfl, HF.out, HB.out⟩
  case round =>
    obtain ⟨k, hk, rfl, hf, hb⟩ := hrel
    have HB := Lib.hid hb; clear hb
    have HF := Lib.hid hf; clear hf
    by_cases hlt : k < l.length
    · obtain ⟨b, off, cs, rfl, bw, hr, hcell⟩ := slice_at (HK.out.below HB.out) k hlt
      obtain ⟨fe, hrd⟩ := hr
      obtain ⟨rfl, _, _, _⟩ := DWrite.rd.1 hrd
      have HR : Hid (Reads DWrite.rep wr _ l[k]) := ⟨_, hrd⟩
      clear hrd
      have hc0 : wr.cell? ⟨b, off + k * 7, none⟩ = some (.int .i64 l[k].device) := hcell 0 (by decide)
      have hc1 : wr.cell? ⟨b, off + k * 7 + 1, none⟩ = some (.int .i64 l[k].seq) := hcell 1 (by decide)
      have hc2 : wr.cell? ⟨b, off + k * 7 + 2, none⟩ = some (.int .i64 l[k].key.kind) := hcell 2 (by decide)
      have hc3 : wr.cell? ⟨b, off + k * 7 + 3, none⟩ = some (.int .i64 l[k].key.n) := hcell 3 (by decide)
      have hc4 : wr.cell? ⟨b, off + k * 7 + 4, none⟩ = some (.string l[k].key.text) := hcell 4 (by decide)
      have hc5 : wr.cell? ⟨b, off + k * 7 + 5, none⟩ = some (.string l[k].field) := hcell 5 (by decide)
      have hc6 : wr.cell? ⟨b, off + k * 7 + 6, none⟩ = some (.int .i64 l[k].n) := hcell 6 (by decide)
      clear hcell
      go_wp2_with fail
      refine (toWrite _ _ _ HR.out (Nat.le_trans (wtS_elem DWrite.wt l k hlt) HW.out)).mono ?_
      rintro e w1 ⟨ds, rfl, hfr, hb1⟩
      have HF1 := Lib.hid (Filling.step hlt rfl HF.out hb1 hfr)
      have HB1 := Lib.hid (setCells_below (Nat.le_refl _) ds (k * 7) _ (below_call HB.out HB.out.size hb1))
      obtain ⟨hcs, hfz⟩ := (HF.out.below hb1).cells hlt
      obtain ⟨fd, hrd, _⟩ := hfr
      obtain ⟨rfl, _, _, _⟩ := DWrite.rd.1 hrd
      obtain ⟨z0, hy0⟩ : ∃ u, w1.cell? ⟨w.heap.size, k * 7, none⟩ = some u := hcs 0 (by decide)
      obtain ⟨z1, hy1⟩ : ∃ u, w1.cell? ⟨w.heap.size, k * 7 + 1, none⟩ = some u := hcs 1 (by decide)
      obtain ⟨z2, hy2⟩ : ∃ u, w1.cell? ⟨w.heap.size, k * 7 + 2, none⟩ = some u := hcs 2 (by decide)
      obtain ⟨z3, hy3⟩ : ∃ u, w1.cell? ⟨w.heap.size, k * 7 + 3, none⟩ = some u := hcs 3 (by decide)
      obtain ⟨z4, hy4⟩ : ∃ u, w1.cell? ⟨w.heap.size, k * 7 + 4, none⟩ = some u := hcs 4 (by decide)
      obtain ⟨z5, hy5⟩ : ∃ u, w1.cell? ⟨w.heap.size, k * 7 + 5, none⟩ = some u := hcs 5 (by decide)
      obtain ⟨z6, hy6⟩ : ∃ u, w1.cell? ⟨w.heap.size, k * 7 + 6, none⟩ = some u := hcs 6 (by decide)
      clear hcs hb1 hrd hc0 hc1 hc2 hc3 hc4 hc5 hc6
      go_wp2
      go_light
      exact ⟨⟨k + 1, by omega, by go_num, HF1.out, HB1.out⟩, by simp [intOf]; omega⟩
    · have HW : Hid (Fresh (Rep.slice 72 DWrite.rep) w.heap.size wr [.slice (some ⟨w.heap.size, 0, none⟩) l.length l.length] l) := by
        have e : k = l.length := by omega
        have hf := HF.out
        rw [e] at hf
        exact hf.done rfl
      go_wp2
      go_ret
      exact ⟨_, rfl, HW.out, HB.out⟩

set_option maxRecDepth 100000 in
set_option maxHeartbeats 800000 in
theorem eqWriteS (u v : Value) (l : List DWrite) (w : World) (h : Reads (Rep.slice 72 DWrite.rep) w [u] l) (h' : Reads (Rep.slice 72 DWrite.rep) w [v] l) :
    Calls Try.prog 52 #[u, v] w fun e w' => e = .returned (.bool true) ∧ Below w.heap.size w w' := by
  have HK := Lib.hid h
  obtain ⟨fp, h⟩ := h
  obtain ⟨ao, c1, rfl, hm, _, hu⟩ := slice_open h
  clear hu h
  have HK' := Lib.hid h'
  obtain ⟨fp, h⟩ := h'
  obtain ⟨bo, c2, rfl, _, _, hu⟩ := slice_open h
  clear hu h
  go_enter Try.func52, Try.ntmps52
  go_wp2
  go_loopw [5] (fun i wr => ∃ k : Nat, k ≤ l.length ∧ i = .int .i64 k ∧ Below w.heap.size w wr) (fun i _ => l.length - (intOf i).toNat)
  case atStart => exact ⟨0, by omega, rfl, (by repeat (first | with_reducible exact belR | with_reducible apply belA | (with_reducible refine belS ?_ ?_; focus (first | omega | (simp; done) | (simp; omega))) | with_reducible apply belN | with_reducible apply belD | with_reducible assumption))⟩
  case round =>
    obtain ⟨k, hk, rfl, hb⟩ := hrel
    have HB := Lib.hid hb; clear hb
    by_cases hlt : k < l.length
    · obtain ⟨b, off, cs, rfl, bw, hr, hcell⟩ := slice_at (HK.out.below HB.out) k hlt
      obtain ⟨fe, hrd⟩ := hr
      obtain ⟨rfl, _, _, _⟩ := DWrite.rd.1 hrd
      have HR : Hid (Reads DWrite.rep wr _ l[k]) := ⟨_, hrd⟩
      clear hrd
      have hc0 : wr.cell? ⟨b, off + k * 7, none⟩ = some (.int .i64 l[k].device) := hcell 0 (by decide)
      have hc1 : wr.cell? ⟨b, off + k * 7 + 1, none⟩ = some (.int .i64 l[k].seq) := hcell 1 (by decide)
      have hc2 : wr.cell? ⟨b, off + k * 7 + 2, none⟩ = some (.int .i64 l[k].key.kind) := hcell 2 (by decide)
      have hc3 : wr.cell? ⟨b, off + k * 7 + 3, none⟩ = some (.int .i64 l[k].key.n) := hcell 3 (by decide)
      have hc4 : wr.cell? ⟨b, off + k * 7 + 4, none⟩ = some (.string l[k].key.text) := hcell 4 (by decide)
      have hc5 : wr.cell? ⟨b, off + k * 7 + 5, none⟩ = some (.string l[k].field) := hcell 5 (by decide)
      have hc6 : wr.cell? ⟨b, off + k * 7 + 6, none⟩ = some (.int .i64 l[k].n) := hcell 6 (by decide)
      clear hcell
      obtain ⟨b', off', cs, rfl, b'w, hr, hcell⟩ := slice_at (HK'.out.below HB.out) k hlt
      obtain ⟨fe, hrd⟩ := hr
      obtain ⟨rfl, _, _, _⟩ := DWrite.rd.1 hrd
      have HR' : Hid (Reads DWrite.rep wr _ l[k]) := ⟨_, hrd⟩
      clear hrd
      have hd0 : wr.cell? ⟨b', off' + k * 7, none⟩ = some (.int .i64 l[k].device) := hcell 0 (by decide)
      have hd1 : wr.cell? ⟨b', off' + k * 7 + 1, none⟩ = some (.int .i64 l[k].seq) := hcell 1 (by decide)
      have hd2 : wr.cell? ⟨b', off' + k * 7 + 2, none⟩ = some (.int .i64 l[k].key.kind) := hcell 2 (by decide)
      have hd3 : wr.cell? ⟨b', off' + k * 7 + 3, none⟩ = some (.int .i64 l[k].key.n) := hcell 3 (by decide)
      have hd4 : wr.cell? ⟨b', off' + k * 7 + 4, none⟩ = some (.string l[k].key.text) := hcell 4 (by decide)
      have hd5 : wr.cell? ⟨b', off' + k * 7 + 5, none⟩ = some (.string l[k].field) := hcell 5 (by decide)
      have hd6 : wr.cell? ⟨b', off' + k * 7 + 6, none⟩ = some (.int .i64 l[k].n) := hcell 6 (by decide)
      clear hcell
      go_wp2_with fail
      go_still_tail 8, (by kernel_rfl)
      change wpList _ _ _ _ _ wr.drew
      go_wp2_with fail
      refine (eqWrite _ _ _ _ (HR.out.below (by repeat (first | with_reducible exact belR | with_reducible apply belA | (with_reducible refine belS ?_ ?_; focus (first | omega | (simp; done) | (simp; omega))) | with_reducible apply belN | with_reducible apply belD | with_reducible assumption))) (HR'.out.below (by repeat (first | with_reducible exact belR | with_reducible apply belA | (with_reducible refine belS ?_ ?_; focus (first | omega | (simp; done) | (simp; omega))) | with_reducible apply belN | with_reducible apply belD | with_reducible assumption)))).mono ?_
      rintro e w1 ⟨rfl, hb1⟩
      have HB1 := Lib.hid (below_call (belD HB.out) (belD HB.out).size hb1); clear hb1
      go_wp2
      go_light
      exact ⟨⟨k + 1, by omega, by go_num, HB1.out⟩, by simp [intOf]; omega⟩
    · go_wp2
      go_ret
      exact ⟨rfl, HB.out⟩

def DWrite.cnt (_ : DWrite) : Nat := 7
def DWrite.mk3 (k : Nat) (_ : DWrite) : DWrite := ⟨((k : Int)), ((k : Int) + 1), ⟨((k : Int) + 1 + 1), ((k : Int) + 1 + 1 + 1), markT (k + 4)⟩, markT (k + 5), ((k : Int) + 1 + 1 + 1 + 1 + 1 + 1)⟩

set_option maxRecDepth 100000 in
set_option maxHeartbeats 1600000 in
theorem markWriteS (v : Value) (l : List DWrite) (fp : List Nat) (k : Nat) (w : World) (h : (Rep.slice 72 DWrite.rep).rd true w [v] l fp) (hnd : fp.Nodup) (hk : k + wtT DWrite.cnt l l.length ≤ 1000000000) :
    Calls Try.prog 92 #[v, .int .i64 k] w fun e w' => e = .returned (.int .i64 ((k + wtT DWrite.cnt l l.length : Nat) : Int)) ∧ (Rep.slice 72 DWrite.rep).rd true w' [v] (marks DWrite.mk3 DWrite.cnt k l) fp ∧ Chg fp w w' := by
  have HM : Hid (Marking DWrite.rep 72 DWrite.mk3 DWrite.cnt k l v fp w 0 w) := ⟨by rw [marked_zero]; exact h, Chg.refl⟩
  obtain ⟨ao, c1, rfl, hm, _, hu⟩ := slice_open h
  clear hu h
  go_enter Try.func92, Try.ntmps92
  go_wp2
  go_loopw [1, 5] (fun a i wr => ∃ j : Nat, j ≤ l.length ∧ i = .int .i64 j ∧ a = .int .i64 ((k + wtT DWrite.cnt l j : Nat) : Int) ∧ Marking DWrite.rep 72 DWrite.mk3 DWrite.cnt k l (.slice ao l.length c1) fp w j wr) (fun _ i _ => l.length - (intOf i).toNat)
  case atStart => exact ⟨0, by omega, rfl, by simp [wtT], HM.out⟩
  case round =>
    obtain ⟨j, hj, rfl, rfl, hma⟩ := hrel
    have HM := Lib.hid hma; clear hma
    by_cases hlt : j < l.length
    · have hw1 := wtT_succ DWrite.cnt l j hlt
      have hw2 := wtT_mono DWrite.cnt l (j + 1) l.length hlt
      generalize hq : k + wtT DWrite.cnt l j = q at *
      have hqc : q + DWrite.cnt l[j] ≤ 1000000000 := by omega
      unfold DWrite.cnt at hqc
      have HQ := Lib.hid hq; clear hq hw1 hw2
      have hlt' : j < (marked DWrite.mk3 DWrite.cnt k l j).length := by rw [marked_length]; exact hlt
      obtain ⟨g, cap, xs, cs, fe, hv, hg, hgfe, hfesub, hfend, hown, hrd, hcs, hshut⟩ := own_open HM.out.1 hnd j hlt'
      rw [marked_length] at hv hown
      simp only [Value.slice.injEq] at hv
      obtain ⟨rfl, _, rfl⟩ := hv
      have HG := Lib.hid hg; clear hg
      have HS := Lib.hid hshut; clear hshut
      have HFE := Lib.hid hfesub; clear hfesub
      have hval := marked_get DWrite.mk3 DWrite.cnt k l j hlt
      rw [List.getElem?_eq_getElem hlt'] at hval
      rw [Option.some.inj hval] at hrd
      clear hval
      have HO := Lib.hid hown; clear hown
      obtain ⟨rfl, hfe, _, _⟩ := DWrite.rd.1 hrd
      subst hfe
      have HC : Hid (Chg (g :: (([] : List Nat))) wr wr) := Chg.refl
      clear hrd hcs 
      obtain ⟨hcs, hfzwr⟩ := own_cells HO.out hlt
      obtain ⟨zwr_0, hzwr_0⟩ : ∃ u, wr.cell? ⟨g, j * 7, none⟩ = some u := hcs 0 (by decide)
      obtain ⟨zwr_1, hzwr_1⟩ : ∃ u, wr.cell? ⟨g, j * 7 + 1, none⟩ = some u := hcs 1 (by decide)
      obtain ⟨zwr_2, hzwr_2⟩ : ∃ u, wr.cell? ⟨g, j * 7 + 2, none⟩ = some u := hcs 2 (by decide)
      obtain ⟨zwr_3, hzwr_3⟩ : ∃ u, wr.cell? ⟨g, j * 7 + 3, none⟩ = some u := hcs 3 (by decide)
      obtain ⟨zwr_4, hzwr_4⟩ : ∃ u, wr.cell? ⟨g, j * 7 + 4, none⟩ = some u := hcs 4 (by decide)
      obtain ⟨zwr_5, hzwr_5⟩ : ∃ u, wr.cell? ⟨g, j * 7 + 5, none⟩ = some u := hcs 5 (by decide)
      obtain ⟨zwr_6, hzwr_6⟩ : ∃ u, wr.cell? ⟨g, j * 7 + 6, none⟩ = some u := hcs 6 (by decide)
      clear hcs
      go_wp2_with fail
      replace HO := Lib.hid (setCells_owns [.int .i64 ((q : Int)), .int .i64 ((q : Int) + 1), .int .i64 ((q : Int) + 1 + 1), .int .i64 ((q : Int) + 1 + 1 + 1)] (j * 7) _ _ HO.out)
      replace HC := Lib.hid (Chg.sets (g := g) (by simp) [.int .i64 ((q : Int)), .int .i64 ((q : Int) + 1), .int .i64 ((q : Int) + 1 + 1), .int .i64 ((q : Int) + 1 + 1 + 1)] (j * 7) _ HC.out)
      refine (markTextI (q + 4) _ (by omega) (by omega) _).mono ?_
      rintro e m1 ⟨rfl, hb⟩
      replace HO := Lib.hid (own_below HO.out hb (Nat.le_refl _))
      replace HC := Lib.hid (HC.out.trans (Chg.of_below hb (Nat.le_refl _)))
      clear hb
      clear hfzwr hzwr_0 hzwr_1 hzwr_2 hzwr_3 hzwr_4 hzwr_5 hzwr_6
      obtain ⟨hcs, hfzm1⟩ := own_cells HO.out hlt
      obtain ⟨zm1_4, hzm1_4⟩ : ∃ u, m1.cell? ⟨g, j * 7 + 4, none⟩ = some u := hcs 4 (by decide)
      obtain ⟨zm1_5, hzm1_5⟩ : ∃ u, m1.cell? ⟨g, j * 7 + 5, none⟩ = some u := hcs 5 (by decide)
      obtain ⟨zm1_6, hzm1_6⟩ : ∃ u, m1.cell? ⟨g, j * 7 + 6, none⟩ = some u := hcs 6 (by decide)
      clear hcs
      go_wp2_with fail
      replace HO := Lib.hid (setCells_owns [.string (markT (q + 4))] (j * 7 + 4) _ _ HO.out)
      replace HC := Lib.hid (Chg.sets (g := g) (by simp) [.string (markT (q + 4))] (j * 7 + 4) _ HC.out)
      refine (markTextI (q + 5) _ (by omega) (by omega) _).mono ?_
      rintro e m2 ⟨rfl, hb⟩
      replace HO := Lib.hid (own_below HO.out hb (Nat.le_refl _))
      replace HC := Lib.hid (HC.out.trans (Chg.of_below hb (Nat.le_refl _)))
      clear hb
      clear hfzm1 hzm1_4 hzm1_5 hzm1_6
      obtain ⟨hcs, hfzm2⟩ := own_cells HO.out hlt
      obtain ⟨zm2_5, hzm2_5⟩ : ∃ u, m2.cell? ⟨g, j * 7 + 5, none⟩ = some u := hcs 5 (by decide)
      obtain ⟨zm2_6, hzm2_6⟩ : ∃ u, m2.cell? ⟨g, j * 7 + 6, none⟩ = some u := hcs 6 (by decide)
      clear hcs
      go_wp2
      replace HO := Lib.hid (setCells_owns [.string (markT (q + 5)), .int .i64 ((q : Int) + 1 + 1 + 1 + 1 + 1 + 1)] (j * 7 + 5) _ _ HO.out)
      replace HC := Lib.hid (Chg.sets (g := g) (by simp) [.string (markT (q + 5)), .int .i64 ((q : Int) + 1 + 1 + 1 + 1 + 1 + 1)] (j * 7 + 5) _ HC.out)
      go_light
      have hlt1 := (Rep.slice 72 DWrite.rep).lt HM.out.1
      have hm' := marked_succ DWrite.mk3 DWrite.cnt k l j hlt
      rw [HQ.out] at hm'
      refine ⟨⟨j + 1, by omega, by go_num, ?_, ?_, ?_⟩, by simp [intOf]; omega⟩
      · rw [wtT_succ _ _ _ hlt, ← Nat.add_assoc, HQ.out]
        unfold DWrite.cnt
        exact val_int (by omega)
      · rw [← hm']
        refine HS.out _ [.int .i64 ((q : Int)), .int .i64 ((q : Int) + 1), .int .i64 ((q : Int) + 1 + 1), .int .i64 ((q : Int) + 1 + 1 + 1), .string (markT (q + 4)), .string (markT (q + 5)), .int .i64 ((q : Int) + 1 + 1 + 1 + 1 + 1 + 1)] _ (by rw [marked_length]; exact HO.out) (DWrite.rd.2 ⟨rfl, rfl, (by simp only [DWrite.mk3]; exact markT_le _), (by simp only [DWrite.mk3]; exact markT_le _)⟩) fun b hb hbg hbf => ?_
        exact HC.out.block b (hlt1 b hb) (by rw [List.mem_cons]; exact fun hx => hx.elim hbg hbf)
      · exact HM.out.2.trans (HC.out.mono fun b hb => (List.mem_cons.1 hb).elim (fun hx => by rw [hx]; exact HG.out) (HFE.out b))
    · have e : j = l.length := by omega
      have HE := Lib.hid e; clear e
      go_wp2
      go_ret
      have hm' := HM.out
      rw [HE.out] at hm' ⊢
      rw [Marking, marked_all] at hm'
      exact ⟨rfl, hm'.1, hm'.2⟩
theorem markWriteSI (v : Value) (l : List DWrite) (fp : List Nat) (k : Nat) (a : Int) (ha : a = k) (w : World) (h : (Rep.slice 72 DWrite.rep).rd true w [v] l fp) (hnd : fp.Nodup) (hk : k + wtT DWrite.cnt l l.length ≤ 1000000000) :
    Calls Try.prog 92 #[v, .int .i64 a] w fun e w' => e = .returned (.int .i64 ((k + wtT DWrite.cnt l l.length : Nat) : Int)) ∧ (Rep.slice 72 DWrite.rep).rd true w' [v] (marks DWrite.mk3 DWrite.cnt k l) fp ∧ Chg fp w w' := by
  subst ha; exact markWriteS v l fp k w h hnd hk

set_option maxRecDepth 100000 in
set_option maxHeartbeats 1600000 in
theorem heldWriteS (v : Value) (l : List DWrite) (k : Nat) (w : World) (h : Reads (Rep.slice 72 DWrite.rep) w [v] (marks DWrite.mk3 DWrite.cnt k l)) (hk : k + wtT DWrite.cnt l l.length ≤ 1000000000) :
    Calls Try.prog 157 #[v, .int .i64 k] w fun e w' => e = .returned (.int .i64 ((k + wtT DWrite.cnt l l.length : Nat) : Int)) ∧ Below w.heap.size w w' := by
  have HK := Lib.hid h
  obtain ⟨fp, hu⟩ := h
  obtain ⟨ao, c1, rfl, hm, _, hu⟩ := slice_open hu
  clear hu
  rw [marks_length] at HK hm ⊢
  go_enter Try.func157, Try.ntmps157
  go_wp2
  go_loopw [1, 5] (fun a i wr => ∃ j : Nat, j ≤ l.length ∧ i = .int .i64 j ∧ a = .int .i64 ((k + wtT DWrite.cnt l j : Nat) : Int) ∧ Below w.heap.size w wr) (fun _ i _ => l.length - (intOf i).toNat)
  case atStart => exact ⟨0, by omega, rfl, by simp [wtT], (by repeat (first | with_reducible exact belR | with_reducible apply belA | (with_reducible refine belS ?_ ?_; focus (first | omega | (simp; done) | (simp; omega))) | with_reducible apply belN | with_reducible apply belD | with_reducible assumption))⟩
  case round =>
    obtain ⟨j, hj, rfl, rfl, hb⟩ := hrel
    have HB := Lib.hid hb; clear hb
    by_cases hlt : j < l.length
    · have hw1 := wtT_succ DWrite.cnt l j hlt
      have hw2 := wtT_mono DWrite.cnt l (j + 1) l.length hlt
      have hlt' : j < (marks DWrite.mk3 DWrite.cnt k l).length := by rw [marks_length]; exact hlt
      have hval := marks_at DWrite.mk3 DWrite.cnt k l j hlt hlt'
      generalize hq : k + wtT DWrite.cnt l j = q at *
      have hqc : q + DWrite.cnt l[j] ≤ 1000000000 := by omega
      unfold DWrite.cnt at hqc
      have HQ := Lib.hid hq; clear hq hw1 hw2
      obtain ⟨b, off, cs, rfl, hbw, hr, hcell⟩ := slice_at (HK.out.below HB.out) j hlt'
      rw [hval] at hr
      clear hval
      obtain ⟨fe, hrd⟩ := hr
      obtain ⟨rfl, _, _, _⟩ := DWrite.rd.1 hrd
      have hc0 : wr.cell? ⟨b, off + j * 7, none⟩ = some (.int .i64 ((q : Int))) := hcell 0 (by decide)
      have hc1 : wr.cell? ⟨b, off + j * 7 + 1, none⟩ = some (.int .i64 ((q : Int) + 1)) := hcell 1 (by decide)
      have hc2 : wr.cell? ⟨b, off + j * 7 + 2, none⟩ = some (.int .i64 ((q : Int) + 1 + 1)) := hcell 2 (by decide)
      have hc3 : wr.cell? ⟨b, off + j * 7 + 3, none⟩ = some (.int .i64 ((q : Int) + 1 + 1 + 1)) := hcell 3 (by decide)
      have hc4 : wr.cell? ⟨b, off + j * 7 + 4, none⟩ = some (.string (markT (q + 4))) := hcell 4 (by decide)
      have hc5 : wr.cell? ⟨b, off + j * 7 + 5, none⟩ = some (.string (markT (q + 5))) := hcell 5 (by decide)
      have hc6 : wr.cell? ⟨b, off + j * 7 + 6, none⟩ = some (.int .i64 ((q : Int) + 1 + 1 + 1 + 1 + 1 + 1)) := hcell 6 (by decide)
      clear hcell hrd 
      go_wp2_with fail
      go_region_held3 (fun w' => w'.cell? ⟨b, off + j * 7 + 4, none⟩ = some (.string (markT (q + 4))) ∧ Below wr.heap.size wr w') (first | exact ⟨hc4, belD belR⟩ | exact ⟨(hb1.cell (p := ⟨b, off + j * 7 + 4, none⟩) hbw).trans hc4, (belD belR).trans hb1⟩)
        (first | (go_at_call 134; refine (markTextI (q + 4) _ (by omega) (by omega) _).mono ?_; rintro e m1 ⟨rfl, hb1⟩))
      obtain ⟨_, hbn⟩ := ‹_ ∧ Below wr.heap.size wr m1›
      have hm1_5 : m1.cell? ⟨b, off + j * 7 + 5, none⟩ = some (.string (markT (q + 5))) := (hbn.cell (p := ⟨b, off + j * 7 + 5, none⟩) hbw).trans hc5
      have hm1_6 : m1.cell? ⟨b, off + j * 7 + 6, none⟩ = some (.int .i64 ((q : Int) + 1 + 1 + 1 + 1 + 1 + 1)) := (hbn.cell (p := ⟨b, off + j * 7 + 6, none⟩) hbw).trans hc6
      replace hbw : b < m1.heap.size := Nat.lt_of_lt_of_le hbw hbn.size
      replace HB := Lib.hid (below_call HB.out HB.out.size hbn)
      clear hbn hb1 hc0 hc1 hc2 hc3 hc4 hc5 hc6
      go_wp2_with fail
      go_region_held3 (fun w' => w'.cell? ⟨b, off + j * 7 + 5, none⟩ = some (.string (markT (q + 5))) ∧ Below m1.heap.size m1 w') (first | exact ⟨hm1_5, belD belR⟩ | exact ⟨(hb1.cell (p := ⟨b, off + j * 7 + 5, none⟩) hbw).trans hm1_5, (belD belR).trans hb1⟩)
        (first | (go_at_call 134; refine (markTextI (q + 5) _ (by omega) (by omega) _).mono ?_; rintro e m2 ⟨rfl, hb1⟩))
      obtain ⟨_, hbn⟩ := ‹_ ∧ Below m1.heap.size m1 m2›
      have hm2_6 : m2.cell? ⟨b, off + j * 7 + 6, none⟩ = some (.int .i64 ((q : Int) + 1 + 1 + 1 + 1 + 1 + 1)) := (hbn.cell (p := ⟨b, off + j * 7 + 6, none⟩) hbw).trans hm1_6
      replace hbw : b < m2.heap.size := Nat.lt_of_lt_of_le hbw hbn.size
      replace HB := Lib.hid (below_call HB.out HB.out.size hbn)
      clear hbn hb1 hm1_5 hm1_6
      go_wp2
      go_light
      refine ⟨⟨j + 1, by omega, by go_num, ?_, HB.out⟩, by simp [intOf]; omega⟩
      rw [wtT_succ _ _ _ hlt, ← Nat.add_assoc, HQ.out]
      unfold DWrite.cnt
      exact val_int (by omega)
    · have e : j = l.length := by omega
      have HE := Lib.hid e; clear e
      go_wp2
      go_ret
      rw [HE.out]
      exact ⟨rfl, HB.out⟩
theorem heldWriteSI (v : Value) (l : List DWrite) (k : Nat) (a : Int) (ha : a = k) (w : World) (h : Reads (Rep.slice 72 DWrite.rep) w [v] (marks DWrite.mk3 DWrite.cnt k l)) (hk : k + wtT DWrite.cnt l l.length ≤ 1000000000) :
    Calls Try.prog 157 #[v, .int .i64 a] w fun e w' => e = .returned (.int .i64 ((k + wtT DWrite.cnt l l.length : Nat) : Int)) ∧ Below w.heap.size w w' := by
  subst ha; exact heldWriteS v l k w h hk

end Go.Proofs.Ytjdoofekohjjlaa
