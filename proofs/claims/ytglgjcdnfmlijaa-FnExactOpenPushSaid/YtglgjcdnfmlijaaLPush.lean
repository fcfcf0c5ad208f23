/-
  The laws' helpers for Push.
-/
import Derived.Test.YtglgjcdnfmlijaaMarkSl
import Derived.Test.YtglgjcdnfmlijaaTPush
namespace Go.Proofs.Ytglgjcdnfmlijaa
open Go.RowKit

theorem setL_append : ∀ (A B xs : List Value) (i : Nat), setL xs i (A ++ B) = setL (setL xs i A) (i + A.length) B
  | [], B, xs, i => by simp [setL]
  | u :: A, B, xs, i => by
    simp only [List.cons_append, setL, List.length_cons]
    rw [setL_append A B _ (i + 1), show i + 1 + A.length = i + (A.length + 1) by omega]
theorem setL_gap {xs A B : List Value} {i : Nat} {v : Value} (hx : xs[i + A.length]? = some v) : setL (setL xs i A) (i + A.length + 1) B = setL xs i (A ++ v :: B) := by
  rw [setL_append]
  have h1 : (setL xs i A)[i + A.length]? = some v := (setL_ge A i xs _ (Nat.le_refl _)).trans hx
  have h2 : (setL xs i A).set (i + A.length) v = setL xs i A := by
    obtain ⟨hl, he⟩ := List.getElem?_eq_some_iff.1 h1
    conv => rhs; rw [← List.set_getElem_self hl]
    rw [he]
  simp only [setL]
  rw [h2]

def DPush.wt (x : DPush) : Nat := x.site.size + wtS wt0 x.data

set_option maxHeartbeats 400000 in
theorem szPush (cs : List Value) (x : DPush) (left : Int) (w : World) (h : Reads DPush.rep w cs x) (h0 : 0 ≤ left) (h1 : left ≤ 1048576) :
    Calls Try.prog 43 #[.agg cs.toArray, .int .i64 left] w fun e w' => e = .returned (.int .i64 (szOf x.wt left)) ∧ Below w.heap.size w w' := by
  obtain ⟨fp, h⟩ := h
  obtain ⟨v1, f1, rfl, _, s0, r1⟩ := DPush.rd.1 h
  have HV1 : Hid (Reads (Rep.slice 5 Rep.byte) w [v1] x.data) := ⟨_, r1⟩
  clear h r1
  unfold maxLen at s0
  go_enter Try.func43, Try.ntmps43
  go_wp2_with fail
  · go_ret
    refine ⟨ret_int ?_, (by repeat (first | with_reducible exact belR | with_reducible apply belA | (with_reducible refine belS ?_ ?_; focus (first | omega | (simp; done) | (simp; omega))) | with_reducible apply belN | with_reducible apply belD | with_reducible assumption))⟩
    go_light
    have a0 := szOf_spec x.wt left
    unfold DPush.wt at *
    omega
  have q1 : 0 ≤ (left - (x.site.size : Int)) ∧ (left - (x.site.size : Int)) ≤ 1048576 := by
    omega
  refine (szByteS _ _ _ _ (HV1.out.below (by repeat (first | with_reducible exact belR | with_reducible apply belA | (with_reducible refine belS ?_ ?_; focus (first | omega | (simp; done) | (simp; omega))) | with_reducible apply belN | with_reducible apply belD | with_reducible assumption))) q1.1 q1.2).mono ?_
  rintro e w1 ⟨rfl, hb1⟩
  obtain ⟨hc1, hfz1⟩ := bcell hb1
  have hz1 : w.heap.size < w1.heap.size := by have y := hb1.size; simp at y; omega
  have HB1 := Lib.hid (below_call (w := w) (by repeat (first | with_reducible exact belR | with_reducible apply belA | (with_reducible refine belS ?_ ?_; focus (first | omega | (simp; done) | (simp; omega))) | with_reducible apply belN | with_reducible apply belD | with_reducible assumption)) (by first | omega | (simp; done) | (simp; omega)) hb1); clear hb1
  have bl1 : -1 ≤ szOf (wtS wt0 x.data) ((left - (x.site.size : Int))) ∧ szOf (wtS wt0 x.data) ((left - (x.site.size : Int))) ≤ 1048576 := by
    have a0 := szOf_spec (wtS wt0 x.data) ((left - (x.site.size : Int)))
    omega
  obtain ⟨bl1, bu1⟩ := bl1
  go_wp2_with fail
  · go_ret
    have y0 := HB1.out
    refine ⟨ret_int ?_, (by repeat (first | with_reducible exact belR | with_reducible apply belA | (with_reducible refine belS ?_ ?_; focus (first | omega | (simp; done) | (simp; omega))) | with_reducible apply belN | with_reducible apply belD | with_reducible assumption))⟩
    go_light
    have a0 := szOf_spec x.wt left
    have a1 := szOf_spec (wtS wt0 x.data) ((left - (x.site.size : Int)))
    unfold DPush.wt at *
    omega
  · go_ret
    have y0 := HB1.out
    refine ⟨ret_int ?_, (by repeat (first | with_reducible exact belR | with_reducible apply belA | (with_reducible refine belS ?_ ?_; focus (first | omega | (simp; done) | (simp; omega))) | with_reducible apply belN | with_reducible apply belD | with_reducible assumption))⟩
    go_light
    have a0 := szOf_spec x.wt left
    have a1 := szOf_spec (wtS wt0 x.data) ((left - (x.site.size : Int)))
    unfold DPush.wt at *
    omega

set_option maxHeartbeats 800000 in
theorem toPush (cs : List Value) (x : DPush) (w : World) (h : Reads DPush.rep w cs x) (_hsmall : x.wt ≤ 1048576) :
    Calls Try.prog 45 #[.agg cs.toArray] w fun e w' => ∃ ds, e = .returned (.agg ds.toArray) ∧ Fresh DPush.rep w.heap.size w' ds x ∧ Below w.heap.size w w' := by
  obtain ⟨fp, h⟩ := h
  obtain ⟨v1, f1, rfl, _, s0, r1⟩ := DPush.rd.1 h
  have HV1 : Hid (Reads (Rep.slice 5 Rep.byte) w [v1] x.data) := ⟨_, r1⟩
  have d1 : wtS wt0 x.data ≤ 1048576 := by unfold DPush.wt at _hsmall; omega
  clear h r1
  go_enter Try.func45, Try.ntmps45
  go_wp2_with fail
  refine (toByteS _ _ _ (HV1.out.below (by repeat (first | with_reducible exact belR | with_reducible apply belA | (with_reducible refine belS ?_ ?_; focus (first | omega | (simp; done) | (simp; omega))) | with_reducible apply belN | with_reducible apply belD | with_reducible assumption))) d1).mono ?_
  rintro e w1 ⟨t1, rfl, hf1, hb1⟩
  obtain ⟨ao1, cap1, rfl⟩ := hf1.slice
  obtain ⟨hc1, hfz1⟩ := bcell hb1
  have hs1 : w.heap.size + 1 + 1 + 1 ≤ w1.heap.size := by have y := hb1.size; simp at y; omega
  have hz10 : w.heap.size < w1.heap.size := by omega
  have hz11 : w.heap.size + 1 < w1.heap.size := by omega
  have hz12 : w.heap.size + 1 + 1 < w1.heap.size := by omega
  have HF1 := Lib.hid (hf1.mono (B' := w.heap.size + 1 + 1 + 1) (by first | omega | (simp; done) | (simp; omega)))
  have HB1 := Lib.hid (below_call (w := w) (by repeat (first | with_reducible exact belR | with_reducible apply belA | (with_reducible refine belS ?_ ?_; focus (first | omega | (simp; done) | (simp; omega))) | with_reducible apply belN | with_reducible apply belD | with_reducible assumption)) (by first | omega | (simp; done) | (simp; omega)) hb1)
  clear hb1 hf1
  go_wp2
  refine bodyPost_ret (v := .agg #[.string x.site, .int .i64 x.number, .slice ao1 x.data.length cap1, .int .i64 x.mac]) (by first | (simp [results, Try.results45, go_sem]; done) | (simp [results, Try.results45, go_sem, hc1]; done)) rfl ⟨_, rfl, ?_, ?_⟩
  · exact DPush.fresh (HF1.out.part (by repeat (first | with_reducible exact abR | with_reducible apply abA | (with_reducible refine abS ?_ ?_; focus (first | omega | (simp; done) | (simp; omega))) | with_reducible apply abN | with_reducible apply abD | with_reducible assumption))) (by first | omega | (simp; done) | (simp; omega))  s0
  · have y := HB1.out
    exact (by repeat (first | with_reducible exact belR | with_reducible apply belA | (with_reducible refine belS ?_ ?_; focus (first | omega | (simp; done) | (simp; omega))) | with_reducible apply belN | with_reducible apply belD | with_reducible assumption))

set_option maxHeartbeats 800000 in
theorem eqPush (cs ds : List Value) (x : DPush) (w : World) (h : Reads DPush.rep w cs x) (h' : Reads DPush.rep w ds x) :
    Calls Try.prog 25 #[.agg cs.toArray, .agg ds.toArray] w fun e w' => e = .returned (.bool true) ∧ Below w.heap.size w w' := by
  obtain ⟨fp, h0⟩ := h
  obtain ⟨vv1, vf1, rfl, _, vs0, vr1⟩ := DPush.rd.1 h0
  have HV1 : Hid (Reads (Rep.slice 5 Rep.byte) w [vv1] x.data) := ⟨_, vr1⟩
  clear h0 vr1
  obtain ⟨fp, h0⟩ := h'
  obtain ⟨uv1, uf1, rfl, _, us0, ur1⟩ := DPush.rd.1 h0
  have HU1 : Hid (Reads (Rep.slice 5 Rep.byte) w [uv1] x.data) := ⟨_, ur1⟩
  clear h0 ur1
  go_enter Try.func25, Try.ntmps25
  go_wp2_with fail
  refine (eqByteS _ _ _ _ (HV1.out.below (by repeat (first | with_reducible exact belR | with_reducible apply belA | (with_reducible refine belS ?_ ?_; focus (first | omega | (simp; done) | (simp; omega))) | with_reducible apply belN | with_reducible apply belD | with_reducible assumption))) (HU1.out.below (by repeat (first | with_reducible exact belR | with_reducible apply belA | (with_reducible refine belS ?_ ?_; focus (first | omega | (simp; done) | (simp; omega))) | with_reducible apply belN | with_reducible apply belD | with_reducible assumption)))).mono ?_
  rintro e w1 ⟨rfl, hb1⟩
  obtain ⟨hc1, hfz1⟩ := bcell hb1
  have hs1 : w.heap.size + 1 + 1 ≤ w1.heap.size := by have y := hb1.size; simp at y; omega
  have hz10 : w.heap.size < w1.heap.size := by omega
  have hz11 : w.heap.size + 1 < w1.heap.size := by omega
  have HB1 := Lib.hid (below_call (w := w) (by repeat (first | with_reducible exact belR | with_reducible apply belA | (with_reducible refine belS ?_ ?_; focus (first | omega | (simp; done) | (simp; omega))) | with_reducible apply belN | with_reducible apply belD | with_reducible assumption)) (by first | omega | (simp; done) | (simp; omega)) hb1)
  clear hb1
  go_wp2
  go_ret
  have y := HB1.out
  exact ⟨rfl, (by repeat (first | with_reducible exact belR | with_reducible apply belA | (with_reducible refine belS ?_ ?_; focus (first | omega | (simp; done) | (simp; omega))) | with_reducible apply belN | with_reducible apply belD | with_reducible assumption))⟩

set_option maxHeartbeats 400000 in
theorem szPushS (v : Value) (l : List DPush) (left : Int) (w : World) (h : Reads (Rep.slice 38 DPush.rep) w [v] l) (h0 : 0 ≤ left) (h1 : left ≤ 1048576) :
    Calls Try.prog 65 #[v, .int .i64 left] w fun e w' => e = .returned (.int .i64 (szOf (wtS DPush.wt l) left)) ∧ Below w.heap.size w w' := by
  have HK := Lib.hid h
  obtain ⟨fp, h⟩ := h
  obtain ⟨ao, c1, rfl, hm, _, hu⟩ := slice_open h
  clear hu h
  go_enter Try.func65, Try.ntmps65
  go_wp2
  · go_ret
    refine ⟨ret_int ?_, (by repeat (first | with_reducible exact belR | with_reducible apply belA | (with_reducible refine belS ?_ ?_; focus (first | omega | (simp; done) | (simp; omega))) | with_reducible apply belN | with_reducible apply belD | with_reducible assumption))⟩
    go_light
    have a0 := szOf_spec (wtS DPush.wt l) left
    have a1 := wtS_ge DPush.wt l
    omega
  · go_loopw [1, 5] (fun a i wr => ∃ k : Nat, k ≤ l.length ∧ i = .int .i64 k ∧ a = .int .i64 (left - l.length - wtT DPush.wt l k) ∧ 0 ≤ left - l.length - wtT DPush.wt l k ∧ Below w.heap.size w wr) (fun _ i _ => l.length - (intOf i).toNat)
    case atStart => exact ⟨0, by omega, rfl, by simp [wtT], by simp [wtT]; omega, (by repeat (first | with_reducible exact belR | with_reducible apply belA | (with_reducible refine belS ?_ ?_; focus (first | omega | (simp; done) | (simp; omega))) | with_reducible apply belN | with_reducible apply belD | with_reducible assumption))⟩
    case round =>
      obtain ⟨k, hk, rfl, rfl, hpos, hb⟩ := hrel
      have HB := Lib.hid hb; clear hb
      by_cases hlt : k < l.length
      · obtain ⟨b, off, cs, rfl, bw, hr, hcell⟩ := slice_at (HK.out.below HB.out) k hlt
        obtain ⟨fe, hrd⟩ := hr
        obtain ⟨v1, _, rfl, _, _, _⟩ := DPush.rd.1 hrd
        have HR : Hid (Reads DPush.rep wr _ l[k]) := ⟨_, hrd⟩
        clear hrd
        have hc0 : wr.cell? ⟨b, off + k * 4, none⟩ = some (.string l[k].site) := hcell 0 (by decide)
        have hc1 : wr.cell? ⟨b, off + k * 4 + 1, none⟩ = some (.int .i64 l[k].number) := hcell 1 (by decide)
        have hc2 : wr.cell? ⟨b, off + k * 4 + 2, none⟩ = some (v1) := hcell 2 (by decide)
        have hc3 : wr.cell? ⟨b, off + k * 4 + 3, none⟩ = some (.int .i64 l[k].mac) := hcell 3 (by decide)
        clear hcell
        go_wp2_with fail
        refine (szPush _ _ _ _ HR.out (by omega) (by omega)).mono ?_
        rintro e w1 ⟨rfl, hb1⟩
        have HB1 := Lib.hid (below_call HB.out HB.out.size hb1); clear hb1
        go_wp2
        · go_ret
          refine ⟨ret_int ?_, HB1.out⟩
          go_light
          have a0 := szOf_spec (DPush.wt l[k]) (left - l.length - wtT DPush.wt l k)
          have a1 := szOf_spec (wtS DPush.wt l) left
          have a2 := wtT_le DPush.wt l (k + 1)
          rw [wtT_succ _ _ _ hlt] at a2
          unfold wtS at a1 ⊢
          omega
        · go_light
          have a0 := szOf_spec (DPush.wt l[k]) (left - l.length - wtT DPush.wt l k)
          have a2 := wtT_succ DPush.wt l k hlt
          have e : szOf (DPush.wt l[k]) (left - l.length - wtT DPush.wt l k) = left - l.length - wtT DPush.wt l (k + 1) := by omega
          refine ⟨⟨k + 1, by omega, by go_num, by rw [e], by omega, HB1.out⟩, by simp [intOf]; omega⟩
      · go_wp2
        go_ret
        refine ⟨ret_int ?_, HB.out⟩
        go_light
        obtain rfl : k = l.length := by omega
        have a1 := szOf_spec (wtS DPush.wt l) left
        have a2 := wtT_all DPush.wt l
        unfold wtS at a1 ⊢
        omega

theorem infoPush : (Try.prog.info? 38).map (fun i => (i.zero, i.size, i.bytes)) = some (some (.agg #[.string ⟨#[]⟩, .int .i64 0, .slice none 0 0, .int .i64 0]), 4, 56) := by kernel_rfl

set_option maxRecDepth 100000 in
set_option maxHeartbeats 800000 in
theorem toPushS (u : Value) (l : List DPush) (w : World) (hu : Reads (Rep.slice 38 DPush.rep) w [u] l) (hsmall : wtS DPush.wt l ≤ 1048576) :
    Calls Try.prog 67 #[u] w fun e w' => ∃ v, e = .returned v ∧ Fresh (Rep.slice 38 DPush.rep) w.heap.size w' [v] l ∧ Below w.heap.size w w' := by
  have HK := Lib.hid hu
  obtain ⟨fp, hu⟩ := hu
  obtain ⟨ao, c1, rfl, hm, _, hu⟩ := slice_open hu
  clear hu
  have hlen := wtS_ge DPush.wt l
  have HW := Lib.hid hsmall
  obtain ⟨i0, hi, hz0, hz1, hz2⟩ := info_parts infoPush
  go_enter Try.func67, Try.ntmps67
  go_wp2_with (at_make; refine wpList_make_full _ rfl _ _ 76 rfl w.heap.size 38 i0 _ 4 Try.underlying76 hi hz0 hz1 _ _ _ _ l.length rfl rfl rfl rfl ?c1 ?c2 (Nat.le_refl _) ?_)
  case c1 => rw [hz2]; omega
  case c2 => unfold maxLen; omega
  intro w1 hown hgrow
  have hf : Filling DPush.rep 38 w.heap.size w.heap.size l.length l 0 w1 := Filling.start hown (Nat.le_refl _)
  have hb1 : Below w.heap.size w w1 := (Below.refl _ _).grown hgrow (Nat.le_refl _) (by intro k hk; cases hk)
  have HF := Lib.hid hf; clear hf hown
  have HB := Lib.hid hb1; clear hb1 hgrow
  go_wp2
  go_loopw [4] (fun i wr => ∃ k : Nat, k ≤ l.length ∧ i = .int .i64 k ∧ Filling DPush.rep 38 w.heap.size w.heap.size l.length l k wr ∧ Below w.heap.size w wr) (fun i _ => l.length - (intOf i).toNat)
  case atStart => exact ⟨0, by omega, rfl, HF.out, HB.out⟩
  case round =>
    obtain ⟨k, hk, rfl, hf, hb⟩ := hrel
    have HB := Lib.hid hb; clear hb
    have HF := Lib.hid hf; clear hf
    by_cases hlt : k < l.length
    · obtain ⟨b, off, cs, rfl, bw, hr, hcell⟩ := slice_at (HK.out.below HB.out) k hlt
      obtain ⟨fe, hrd⟩ := hr
      obtain ⟨v1, _, rfl, _, _, _⟩ := DPush.rd.1 hrd
      have HR : Hid (Reads DPush.rep wr _ l[k]) := ⟨_, hrd⟩
      clear hrd
      have hc0 : wr.cell? ⟨b, off + k * 4, none⟩ = some (.string l[k].site) := hcell 0 (by decide)
      have hc1 : wr.cell? ⟨b, off + k * 4 + 1, none⟩ = some (.int .i64 l[k].number) := hcell 1 (by decide)
      have hc2 : wr.cell? ⟨b, off + k * 4 + 2, none⟩ = some (v1) := hcell 2 (by decide)
      have hc3 : wr.cell? ⟨b, off + k * 4 + 3, none⟩ = some (.int .i64 l[k].mac) := hcell 3 (by decide)
      clear hcell
      go_wp2_with fail
      refine (toPush _ _ _ HR.out (Nat.le_trans (wtS_elem DPush.wt l k hlt) HW.out)).mono ?_
      rintro e w1 ⟨ds, rfl, hfr, hb1⟩
      have HF1 := Lib.hid (Filling.step hlt rfl HF.out hb1 hfr)
      have HB1 := Lib.hid (setCells_below (Nat.le_refl _) ds (k * 4) _ (below_call HB.out HB.out.size hb1))
      obtain ⟨hcs, hfz⟩ := (HF.out.below hb1).cells hlt
      obtain ⟨fd, hrd, _⟩ := hfr
      obtain ⟨p1, q1, rfl⟩ := DPush.shape hrd
      obtain ⟨z0, hy0⟩ : ∃ u, w1.cell? ⟨w.heap.size, k * 4, none⟩ = some u := hcs 0 (by decide)
      obtain ⟨z1, hy1⟩ : ∃ u, w1.cell? ⟨w.heap.size, k * 4 + 1, none⟩ = some u := hcs 1 (by decide)
      obtain ⟨z2, hy2⟩ : ∃ u, w1.cell? ⟨w.heap.size, k * 4 + 2, none⟩ = some u := hcs 2 (by decide)
      obtain ⟨z3, hy3⟩ : ∃ u, w1.cell? ⟨w.heap.size, k * 4 + 3, none⟩ = some u := hcs 3 (by decide)
      clear hcs hb1 hrd hc0 hc1 hc2 hc3
      go_wp2
      go_light
      exact ⟨⟨k + 1, by omega, by go_num, HF1.out, HB1.out⟩, by simp [intOf]; omega⟩
    · have HW : Hid (Fresh (Rep.slice 38 DPush.rep) w.heap.size wr [.slice (some ⟨w.heap.size, 0, none⟩) l.length l.length] l) := by
        have e : k = l.length := by omega
        have hf := HF.out
        rw [e] at hf
        exact hf.done rfl
      go_wp2
      go_ret
      exact ⟨_, rfl, HW.out, HB.out⟩

set_option maxRecDepth 100000 in
set_option maxHeartbeats 800000 in
theorem eqPushS (u v : Value) (l : List DPush) (w : World) (h : Reads (Rep.slice 38 DPush.rep) w [u] l) (h' : Reads (Rep.slice 38 DPush.rep) w [v] l) :
    Calls Try.prog 68 #[u, v] w fun e w' => e = .returned (.bool true) ∧ Below w.heap.size w w' := by
  have HK := Lib.hid h
  obtain ⟨fp, h⟩ := h
  obtain ⟨ao, c1, rfl, hm, _, hu⟩ := slice_open h
  clear hu h
  have HK' := Lib.hid h'
  obtain ⟨fp, h⟩ := h'
  obtain ⟨bo, c2, rfl, _, _, hu⟩ := slice_open h
  clear hu h
  go_enter Try.func68, Try.ntmps68
  go_wp2
  go_loopw [5] (fun i wr => ∃ k : Nat, k ≤ l.length ∧ i = .int .i64 k ∧ Below w.heap.size w wr) (fun i _ => l.length - (intOf i).toNat)
  case atStart => exact ⟨0, by omega, rfl, (by repeat (first | with_reducible exact belR | with_reducible apply belA | (with_reducible refine belS ?_ ?_; focus (first | omega | (simp; done) | (simp; omega))) | with_reducible apply belN | with_reducible apply belD | with_reducible assumption))⟩
  case round =>
    obtain ⟨k, hk, rfl, hb⟩ := hrel
    have HB := Lib.hid hb; clear hb
    by_cases hlt : k < l.length
    · obtain ⟨b, off, cs, rfl, bw, hr, hcell⟩ := slice_at (HK.out.below HB.out) k hlt
      obtain ⟨fe, hrd⟩ := hr
      obtain ⟨v1, _, rfl, _, _, _⟩ := DPush.rd.1 hrd
      have HR : Hid (Reads DPush.rep wr _ l[k]) := ⟨_, hrd⟩
      clear hrd
      have hc0 : wr.cell? ⟨b, off + k * 4, none⟩ = some (.string l[k].site) := hcell 0 (by decide)
      have hc1 : wr.cell? ⟨b, off + k * 4 + 1, none⟩ = some (.int .i64 l[k].number) := hcell 1 (by decide)
      have hc2 : wr.cell? ⟨b, off + k * 4 + 2, none⟩ = some (v1) := hcell 2 (by decide)
      have hc3 : wr.cell? ⟨b, off + k * 4 + 3, none⟩ = some (.int .i64 l[k].mac) := hcell 3 (by decide)
      clear hcell
      obtain ⟨b', off', cs, rfl, b'w, hr, hcell⟩ := slice_at (HK'.out.below HB.out) k hlt
      obtain ⟨fe, hrd⟩ := hr
      obtain ⟨uv1, _, rfl, _, _, _⟩ := DPush.rd.1 hrd
      have HR' : Hid (Reads DPush.rep wr _ l[k]) := ⟨_, hrd⟩
      clear hrd
      have hd0 : wr.cell? ⟨b', off' + k * 4, none⟩ = some (.string l[k].site) := hcell 0 (by decide)
      have hd1 : wr.cell? ⟨b', off' + k * 4 + 1, none⟩ = some (.int .i64 l[k].number) := hcell 1 (by decide)
      have hd2 : wr.cell? ⟨b', off' + k * 4 + 2, none⟩ = some (uv1) := hcell 2 (by decide)
      have hd3 : wr.cell? ⟨b', off' + k * 4 + 3, none⟩ = some (.int .i64 l[k].mac) := hcell 3 (by decide)
      clear hcell
      go_wp2_with fail
      go_still_tail 8, (by kernel_rfl)
      change wpList _ _ _ _ _ wr.drew
      go_wp2_with fail
      refine (eqPush _ _ _ _ (HR.out.below (by repeat (first | with_reducible exact belR | with_reducible apply belA | (with_reducible refine belS ?_ ?_; focus (first | omega | (simp; done) | (simp; omega))) | with_reducible apply belN | with_reducible apply belD | with_reducible assumption))) (HR'.out.below (by repeat (first | with_reducible exact belR | with_reducible apply belA | (with_reducible refine belS ?_ ?_; focus (first | omega | (simp; done) | (simp; omega))) | with_reducible apply belN | with_reducible apply belD | with_reducible assumption)))).mono ?_
      rintro e w1 ⟨rfl, hb1⟩
      have HB1 := Lib.hid (below_call (belD HB.out) (belD HB.out).size hb1); clear hb1
      go_wp2
      go_light
      exact ⟨⟨k + 1, by omega, by go_num, HB1.out⟩, by simp [intOf]; omega⟩
    · go_wp2
      go_ret
      exact ⟨rfl, HB.out⟩

def DPush.cnt (x : DPush) : Nat := 3 + wtT cnt1 x.data x.data.length
def DPush.mk3 (k : Nat) (x : DPush) : DPush := ⟨markT (k), ((k : Int) + 1), marks mkByte cnt1 (k + 2) x.data, (((k + 2 + wtT cnt1 x.data x.data.length : Nat) : Int))⟩

def DPush.mcnt (x : DPush) : Nat := wtT cnt1 x.data x.data.length
def DPush.mks (x : DPush) (k : Nat) : DPush := { x with data := marks mkByte cnt1 (k) x.data }

set_option maxRecDepth 100000 in
set_option maxHeartbeats 800000 in
theorem markPush (cs : List Value) (x : DPush) (fp : List Nat) (k : Nat) (w : World) (h : DPush.rep.rd true w cs x fp) (hnd : fp.Nodup) (hk : k + x.mcnt ≤ 1000000000) :
    Calls Try.prog 28 #[.agg cs.toArray, .int .i64 k] w fun e w' => e = .returned (.int .i64 ((k + x.mcnt : Nat) : Int)) ∧ DPush.rep.rd true w' cs (x.mks k) fp ∧ Chg fp w w' := by
  have HL := Lib.hid (DPush.rep.lt h)
  obtain ⟨v1, f2, rfl, rfl, s0, r0⟩ := DPush.parts h
  have n0 := hnd
  have R0 := Lib.hid r0
  clear h r0
  unfold DPush.mcnt at hk
  go_enter Try.func28, Try.ntmps28
  go_wp2_with fail
  refine (markByteS _ x.data fp (k) _ (Rep.frame (Rep.slice 5 Rep.byte) (w' := w.alloc _) R0.out fun b hb => Below.heap_alloc _ _ _ (HL.out b hb)) n0 (by omega)).mono ?_
  rintro e w1 ⟨rfl, rd0, ch0⟩
  replace R0 := Lib.hid rd0
  have hx0 : w.heap.size ∉ fp := fun hx => Nat.lt_irrefl _ (HL.out _ hx)
  have hz1 : w.heap.size < w1.heap.size := by have y := ch0.size; simp at y; omega
  have hc1 : ∀ o, w1.cell? ⟨w.heap.size, o, none⟩ = _ := fun o => World.cell?_of_block (a := ⟨w.heap.size, o, none⟩) (ch0.block w.heap.size (by first | omega | (simp; done) | (simp; omega)) hx0)
  have C0 := Lib.hid ch0
  clear rd0 ch0 hx0
  go_wp2
  go_ret
  refine ⟨ret_int (by unfold DPush.mcnt; omega), ?_, ?_⟩
  · exact DPush.join (x := x.mks k) _ _ R0.out s0
  · have z := Chg.trans (a := w) (Chg.of_below (fp := fp) (B := w.heap.size) (belA belR) (Nat.le_refl _)) (C0.out.mono (fq := fp) fun b hb => hb)
    exact z

set_option maxRecDepth 100000 in
set_option maxHeartbeats 800000 in
theorem heldPush (cs : List Value) (x : DPush) (k : Nat) (w : World) (h : Reads DPush.rep w cs (x.mks k)) (hk : k + x.mcnt ≤ 1000000000) :
    Calls Try.prog 29 #[.agg cs.toArray, .int .i64 k] w fun e w' => e = .returned (.int .i64 ((k + x.mcnt : Nat) : Int)) ∧ Below w.heap.size w w' := by
  obtain ⟨fp, h⟩ := h
  obtain ⟨v1, f2, rfl, _, s0, r0⟩ := DPush.parts h
  have HV0 : Hid (Reads (Rep.slice 5 Rep.byte) w [v1] (x.mks k).data) := ⟨_, r0⟩
  clear h r0
  unfold DPush.mcnt at hk
  go_enter Try.func29, Try.ntmps29
  go_wp2_with fail
  refine (heldByteS _ x.data (k) _ (HV0.out.below (by repeat (first | with_reducible exact belR | with_reducible apply belA | (with_reducible refine belS ?_ ?_; focus (first | omega | (simp; done) | (simp; omega))) | with_reducible apply belN | with_reducible apply belD | with_reducible assumption))) (by omega)).mono ?_
  rintro e w1 ⟨rfl, hb1⟩
  obtain ⟨hc1, hfz1⟩ := bcell hb1
  have hz1 : w.heap.size < w1.heap.size := by have y := hb1.size; simp at y; omega
  have HB1 := Lib.hid (below_call (w := w) (by repeat (first | with_reducible exact belR | with_reducible apply belA | (with_reducible refine belS ?_ ?_; focus (first | omega | (simp; done) | (simp; omega))) | with_reducible apply belN | with_reducible apply belD | with_reducible assumption)) (by first | omega | (simp; done) | (simp; omega)) hb1); clear hb1
  go_wp2
  go_ret
  have y := HB1.out
  exact ⟨ret_int (by unfold DPush.mcnt; omega), (by repeat (first | with_reducible exact belR | with_reducible apply belA | (with_reducible refine belS ?_ ?_; focus (first | omega | (simp; done) | (simp; omega))) | with_reducible apply belN | with_reducible apply belD | with_reducible assumption))⟩

set_option maxRecDepth 100000 in
set_option maxHeartbeats 1600000 in
theorem markPushS (v : Value) (l : List DPush) (fp : List Nat) (k : Nat) (w : World) (h : (Rep.slice 38 DPush.rep).rd true w [v] l fp) (hnd : fp.Nodup) (hk : k + wtT DPush.cnt l l.length ≤ 1000000000) :
    Calls Try.prog 69 #[v, .int .i64 k] w fun e w' => e = .returned (.int .i64 ((k + wtT DPush.cnt l l.length : Nat) : Int)) ∧ (Rep.slice 38 DPush.rep).rd true w' [v] (marks DPush.mk3 DPush.cnt k l) fp ∧ Chg fp w w' := by
  have HM : Hid (Marking DPush.rep 38 DPush.mk3 DPush.cnt k l v fp w 0 w) := ⟨by rw [marked_zero]; exact h, Chg.refl⟩
  obtain ⟨ao, c1, rfl, hm, _, hu⟩ := slice_open h
  clear hu h
  go_enter Try.func69, Try.ntmps69
  go_wp2
  go_loopw [1, 5] (fun a i wr => ∃ j : Nat, j ≤ l.length ∧ i = .int .i64 j ∧ a = .int .i64 ((k + wtT DPush.cnt l j : Nat) : Int) ∧ Marking DPush.rep 38 DPush.mk3 DPush.cnt k l (.slice ao l.length c1) fp w j wr) (fun _ i _ => l.length - (intOf i).toNat)
  case atStart => exact ⟨0, by omega, rfl, by simp [wtT], HM.out⟩
  case round =>
    obtain ⟨j, hj, rfl, rfl, hma⟩ := hrel
    have HM := Lib.hid hma; clear hma
    by_cases hlt : j < l.length
    · have hw1 := wtT_succ DPush.cnt l j hlt
      have hw2 := wtT_mono DPush.cnt l (j + 1) l.length hlt
      generalize hq : k + wtT DPush.cnt l j = q at *
      have hqc : q + DPush.cnt l[j] ≤ 1000000000 := by omega
      unfold DPush.cnt at hqc
      have HQ := Lib.hid hq; clear hq hw1 hw2
      have hlt' : j < (marked DPush.mk3 DPush.cnt k l j).length := by rw [marked_length]; exact hlt
      obtain ⟨g, cap, xs, cs, fe, hv, hg, hgfe, hfesub, hfend, hown, hrd, hcs, hshut⟩ := own_open HM.out.1 hnd j hlt'
      rw [marked_length] at hv hown
      simp only [Value.slice.injEq] at hv
      obtain ⟨rfl, _, rfl⟩ := hv
      have HG := Lib.hid hg; clear hg
      have HS := Lib.hid hshut; clear hshut
      have HFE := Lib.hid hfesub; clear hfesub
      have hval := marked_get DPush.mk3 DPush.cnt k l j hlt
      rw [List.getElem?_eq_getElem hlt'] at hval
      rw [Option.some.inj hval] at hrd
      clear hval
      have HO := Lib.hid hown; clear hown
      obtain ⟨v1, f1, rfl, hfe, _, r1⟩ := DPush.rd.1 hrd
      subst hfe
      have n0 := hfend
      have R0 := Lib.hid r1
      have HC : Hid (Chg (g :: (fe)) wr wr) := Chg.refl
      have X0 : Hid (xs[j * 4 + 2]? = some v1) := hcs 2 (by decide)
      have X9 : Hid (xs[j * 4 + 2]? = some v1) := Lib.hid X0.out
      clear hrd hcs r1
      obtain ⟨hcs, hfzwr⟩ := own_cells HO.out hlt
      obtain ⟨zwr_0, hzwr_0⟩ : ∃ u, wr.cell? ⟨g, j * 4, none⟩ = some u := hcs 0 (by decide)
      obtain ⟨zwr_1, hzwr_1⟩ : ∃ u, wr.cell? ⟨g, j * 4 + 1, none⟩ = some u := hcs 1 (by decide)
      have hzwr_2 : wr.cell? ⟨g, j * 4 + 2, none⟩ = some v1 := (World.ownsRow.cellAt HO.out _ (own_lt hlt 2 (by decide))).trans X0.out
      obtain ⟨zwr_3, hzwr_3⟩ : ∃ u, wr.cell? ⟨g, j * 4 + 3, none⟩ = some u := hcs 3 (by decide)
      clear hcs
      go_wp2_with fail
      refine (markTextI q _ (by omega) (by omega) _).mono ?_
      rintro e m1 ⟨rfl, hb⟩
      replace HO := Lib.hid (own_below HO.out hb (Nat.le_refl _))
      replace R0 := Lib.hid (rd_below hb R0.out)
      replace HC := Lib.hid (HC.out.trans (Chg.of_below hb (Nat.le_refl _)))
      clear hb
      clear hfzwr hzwr_0 hzwr_1 hzwr_2 hzwr_3
      obtain ⟨hcs, hfzm1⟩ := own_cells HO.out hlt
      obtain ⟨zm1_0, hzm1_0⟩ : ∃ u, m1.cell? ⟨g, j * 4, none⟩ = some u := hcs 0 (by decide)
      obtain ⟨zm1_1, hzm1_1⟩ : ∃ u, m1.cell? ⟨g, j * 4 + 1, none⟩ = some u := hcs 1 (by decide)
      have hzm1_2 : m1.cell? ⟨g, j * 4 + 2, none⟩ = some v1 := (World.ownsRow.cellAt HO.out _ (own_lt hlt 2 (by decide))).trans X0.out
      obtain ⟨zm1_3, hzm1_3⟩ : ∃ u, m1.cell? ⟨g, j * 4 + 3, none⟩ = some u := hcs 3 (by decide)
      clear hcs
      go_wp2_with fail
      replace HO := Lib.hid (setCells_owns [.string (markT q), .int .i64 ((q : Int) + 1)] (j * 4) _ _ HO.out)
      replace R0 := Lib.hid (rd_sets (R := (Rep.slice 5 Rep.byte)) [.string (markT q), .int .i64 ((q : Int) + 1)] (j * 4) R0.out (fun hx => hgfe hx))
      replace HC := Lib.hid (Chg.sets (g := g) (by simp) [.string (markT q), .int .i64 ((q : Int) + 1)] (j * 4) _ HC.out)
      replace X0 := Lib.hid ((setL_ge [.string (markT q), .int .i64 ((q : Int) + 1)] (j * 4) _ _ (by simp only [List.length_cons, List.length_nil]; omega)).trans X0.out)
      refine (markByteSI _ _ fe (q + 2) _ (by omega) _ R0.out n0 (by omega)).mono ?_
      rintro e m2 ⟨rfl, rd, ch⟩
      replace HO := Lib.hid (own_chg HO.out ch (fun hx => hgfe hx))
      replace R0 := Lib.hid rd
      replace HC := Lib.hid (HC.out.trans (ch.mono fun b hb => List.mem_cons_of_mem _ hb))
      clear rd ch
      clear hfzm1 hzm1_0 hzm1_1 hzm1_2 hzm1_3
      generalize hq2 : q + 2 + wtT cnt1 l[j].data l[j].data.length = q2 at *
      have HQq2 := Lib.hid hq2
      have hqq2 : q2 ≤ 1000000000 := by omega
      clear hq2
      obtain ⟨hcs, hfzm2⟩ := own_cells HO.out hlt
      obtain ⟨zm2_3, hzm2_3⟩ : ∃ u, m2.cell? ⟨g, j * 4 + 3, none⟩ = some u := hcs 3 (by decide)
      clear hcs
      go_wp2
      replace HO := Lib.hid (setCells_owns [.int .i64 ((q2 : Int))] (j * 4 + 3) _ _ HO.out)
      replace R0 := Lib.hid (rd_sets (R := (Rep.slice 5 Rep.byte)) [.int .i64 ((q2 : Int))] (j * 4 + 3) R0.out (fun hx => hgfe hx))
      replace HC := Lib.hid (Chg.sets (g := g) (by simp) [.int .i64 ((q2 : Int))] (j * 4 + 3) _ HC.out)
      go_light
      have hlt1 := (Rep.slice 38 DPush.rep).lt HM.out.1
      have hm' := marked_succ DPush.mk3 DPush.cnt k l j hlt
      rw [HQ.out] at hm'
      refine ⟨⟨j + 1, by omega, by go_num, ?_, ?_, ?_⟩, by simp [intOf]; omega⟩
      · rw [wtT_succ _ _ _ hlt, ← Nat.add_assoc, HQ.out]
        unfold DPush.cnt
        have yq2 := HQq2.out
        exact val_int (by omega)
      · rw [← hm']
        have yq2 := HQq2.out
        unfold DPush.mk3
        rw [yq2]
        have hgap := setL_gap (A := [.string (markT q), .int .i64 ((q : Int) + 1)]) (B := [.int .i64 ((q2 : Int))]) (i := j * 4) X9.out
        have HO9 := HO.out
        rw [show j * 4 + 3 = j * 4 + [Value.string (markT q), Value.int IntKind.i64 ((q : Int) + 1)].length + 1 from rfl, hgap] at HO9
        refine HS.out _ [.string (markT q), .int .i64 ((q : Int) + 1), v1, .int .i64 ((q2 : Int))] _ (by rw [marked_length]; exact HO9) (DPush.rd.2 ⟨_, _, rfl, rfl, markT_le _, R0.out⟩) fun b hb hbg hbf => ?_
        exact HC.out.block b (hlt1 b hb) (by rw [List.mem_cons]; exact fun hx => hx.elim hbg hbf)
      · exact HM.out.2.trans (HC.out.mono fun b hb => (List.mem_cons.1 hb).elim (fun hx => by rw [hx]; exact HG.out) (HFE.out b))
    · have e : j = l.length := by omega
      have HE := Lib.hid e; clear e
      go_wp2
      go_ret
      have hm' := HM.out
      rw [HE.out] at hm' ⊢
      rw [Marking, marked_all] at hm'
      exact ⟨rfl, hm'.1, hm'.2⟩
theorem markPushSI (v : Value) (l : List DPush) (fp : List Nat) (k : Nat) (a : Int) (ha : a = k) (w : World) (h : (Rep.slice 38 DPush.rep).rd true w [v] l fp) (hnd : fp.Nodup) (hk : k + wtT DPush.cnt l l.length ≤ 1000000000) :
    Calls Try.prog 69 #[v, .int .i64 a] w fun e w' => e = .returned (.int .i64 ((k + wtT DPush.cnt l l.length : Nat) : Int)) ∧ (Rep.slice 38 DPush.rep).rd true w' [v] (marks DPush.mk3 DPush.cnt k l) fp ∧ Chg fp w w' := by
  subst ha; exact markPushS v l fp k w h hnd hk

set_option maxRecDepth 100000 in
set_option maxHeartbeats 1600000 in
theorem heldPushS (v : Value) (l : List DPush) (k : Nat) (w : World) (h : Reads (Rep.slice 38 DPush.rep) w [v] (marks DPush.mk3 DPush.cnt k l)) (hk : k + wtT DPush.cnt l l.length ≤ 1000000000) :
    Calls Try.prog 70 #[v, .int .i64 k] w fun e w' => e = .returned (.int .i64 ((k + wtT DPush.cnt l l.length : Nat) : Int)) ∧ Below w.heap.size w w' := by
  have HK := Lib.hid h
  obtain ⟨fp, hu⟩ := h
  obtain ⟨ao, c1, rfl, hm, _, hu⟩ := slice_open hu
  clear hu
  rw [marks_length] at HK hm ⊢
  go_enter Try.func70, Try.ntmps70
  go_wp2
  go_loopw [1, 5] (fun a i wr => ∃ j : Nat, j ≤ l.length ∧ i = .int .i64 j ∧ a = .int .i64 ((k + wtT DPush.cnt l j : Nat) : Int) ∧ Below w.heap.size w wr) (fun _ i _ => l.length - (intOf i).toNat)
  case atStart => exact ⟨0, by omega, rfl, by simp [wtT], (by repeat (first | with_reducible exact belR | with_reducible apply belA | (with_reducible refine belS ?_ ?_; focus (first | omega | (simp; done) | (simp; omega))) | with_reducible apply belN | with_reducible apply belD | with_reducible assumption))⟩
  case round =>
    obtain ⟨j, hj, rfl, rfl, hb⟩ := hrel
    have HB := Lib.hid hb; clear hb
    by_cases hlt : j < l.length
    · have hw1 := wtT_succ DPush.cnt l j hlt
      have hw2 := wtT_mono DPush.cnt l (j + 1) l.length hlt
      have hlt' : j < (marks DPush.mk3 DPush.cnt k l).length := by rw [marks_length]; exact hlt
      have hval := marks_at DPush.mk3 DPush.cnt k l j hlt hlt'
      generalize hq : k + wtT DPush.cnt l j = q at *
      have hqc : q + DPush.cnt l[j] ≤ 1000000000 := by omega
      unfold DPush.cnt at hqc
      have HQ := Lib.hid hq; clear hq hw1 hw2
      obtain ⟨b, off, cs, rfl, hbw, hr, hcell⟩ := slice_at (HK.out.below HB.out) j hlt'
      rw [hval] at hr
      clear hval
      obtain ⟨fe, hrd⟩ := hr
      obtain ⟨v1, _, rfl, _, _, r1⟩ := DPush.rd.1 hrd
      have R0 : Hid (Reads (Rep.slice 5 Rep.byte) wr [v1] (marks mkByte cnt1 (q + 2) l[j].data)) := ⟨_, r1⟩
      have hc0 : wr.cell? ⟨b, off + j * 4, none⟩ = some (.string (markT (q))) := hcell 0 (by decide)
      have hc1 : wr.cell? ⟨b, off + j * 4 + 1, none⟩ = some (.int .i64 ((q : Int) + 1)) := hcell 1 (by decide)
      have hc2 : wr.cell? ⟨b, off + j * 4 + 2, none⟩ = some (v1) := hcell 2 (by decide)
      have hc3 : wr.cell? ⟨b, off + j * 4 + 3, none⟩ = some (.int .i64 (((q + 2 + wtT cnt1 l[j].data l[j].data.length : Nat) : Int))) := hcell 3 (by decide)
      clear hcell hrd r1
      generalize hp1 : q + 2 + wtT cnt1 l[j].data l[j].data.length = p1 at *
      have HP1 := Lib.hid hp1
      have hbp1 : p1 ≤ 1000000000 := by omega
      clear hp1
      go_wp2_with fail
      go_region_held3 (fun w' => w'.cell? ⟨b, off + j * 4, none⟩ = some (.string (markT q)) ∧ Below wr.heap.size wr w') (first | exact ⟨hc0, belD belR⟩ | exact ⟨(hb1.cell (p := ⟨b, off + j * 4, none⟩) hbw).trans hc0, (belD belR).trans hb1⟩)
        (first | (go_at_call 124; refine (markTextI q _ (by omega) (by omega) _).mono ?_; rintro e m1 ⟨rfl, hb1⟩))
      obtain ⟨_, hbn⟩ := ‹_ ∧ Below wr.heap.size wr m1›
      have hm1_1 : m1.cell? ⟨b, off + j * 4 + 1, none⟩ = some (.int .i64 ((q : Int) + 1)) := (hbn.cell (p := ⟨b, off + j * 4 + 1, none⟩) hbw).trans hc1
      have hm1_2 : m1.cell? ⟨b, off + j * 4 + 2, none⟩ = some (v1) := (hbn.cell (p := ⟨b, off + j * 4 + 2, none⟩) hbw).trans hc2
      have hm1_3 : m1.cell? ⟨b, off + j * 4 + 3, none⟩ = some (.int .i64 ((p1 : Int))) := (hbn.cell (p := ⟨b, off + j * 4 + 3, none⟩) hbw).trans hc3
      replace R0 := Lib.hid (R0.out.below hbn)
      replace hbw : b < m1.heap.size := Nat.lt_of_lt_of_le hbw hbn.size
      replace HB := Lib.hid (below_call HB.out HB.out.size hbn)
      clear hbn hb1 hc0 hc1 hc2 hc3
      go_wp2_with fail
      refine (heldByteSI _ _ (q + 2) _ (by omega) _ (R0.out) (by omega)).mono ?_
      rintro e m2 ⟨rfl, hbn⟩
      have hpp := HP1.out
      rw [hpp]; clear hpp
      have hm2_3 : m2.cell? ⟨b, off + j * 4 + 3, none⟩ = some (.int .i64 ((p1 : Int))) := (hbn.cell (p := ⟨b, off + j * 4 + 3, none⟩) hbw).trans hm1_3
      replace hbw : b < m2.heap.size := Nat.lt_of_lt_of_le hbw hbn.size
      replace HB := Lib.hid (below_call HB.out HB.out.size hbn)
      clear hbn hm1_1 hm1_2 hm1_3
      go_wp2
      go_light
      refine ⟨⟨j + 1, by omega, by go_num, ?_, HB.out⟩, by simp [intOf]; omega⟩
      rw [wtT_succ _ _ _ hlt, ← Nat.add_assoc, HQ.out]
      unfold DPush.cnt
      have y0 := HP1.out
      exact val_int (by omega)
    · have e : j = l.length := by omega
      have HE := Lib.hid e; clear e
      go_wp2
      go_ret
      rw [HE.out]
      exact ⟨rfl, HB.out⟩
theorem heldPushSI (v : Value) (l : List DPush) (k : Nat) (a : Int) (ha : a = k) (w : World) (h : Reads (Rep.slice 38 DPush.rep) w [v] (marks DPush.mk3 DPush.cnt k l)) (hk : k + wtT DPush.cnt l l.length ≤ 1000000000) :
    Calls Try.prog 70 #[v, .int .i64 a] w fun e w' => e = .returned (.int .i64 ((k + wtT DPush.cnt l l.length : Nat) : Int)) ∧ Below w.heap.size w w' := by
  subst ha; exact heldPushS v l k w h hk

end Go.Proofs.Ytglgjcdnfmlijaa
