/-
  The laws' helpers for Item.
-/
import Derived.Test.YteonnbkmmdiegaaLKey
import Derived.Test.YteonnbkmmdiegaaLRecord
import Derived.Test.YteonnbkmmdiegaaTItem
import Derived.Test.YteonnbkmmdiegaaNoop
namespace Go.Proofs.Yteonnbkmmdiegaa
open Go.RowKit

def DItem.wt (x : DItem) : Nat := x.key.wt + x.record.wt

set_option maxHeartbeats 400000 in
theorem szItem (cs : List Value) (x : DItem) (left : Int) (w : World) (h : Reads DItem.rep w cs x) (h0 : 0 ≤ left) (h1 : left ≤ 1048576) :
    Calls Try.prog 94 #[.agg cs.toArray, .int .i64 left] w fun e w' => e = .returned (.int .i64 (szOf x.wt left)) ∧ Below w.heap.size w w' := by
  obtain ⟨fp, h⟩ := h
  obtain ⟨v1, f1, rfl, _, s0, r1⟩ := DItem.rd.1 h
  have HV1 : Hid (Reads DKey.rep w [.int .i64 x.key.kind, .int .i64 x.key.n, .string x.key.text] x.key) := ⟨_, DKey.rd.2 ⟨rfl, rfl, s0⟩⟩
  have HV2 : Hid (Reads DRecord.rep w [v1] x.record) := ⟨_, DRecord.rd.2 ⟨_, _, rfl, rfl, r1⟩⟩
  clear h r1
  unfold maxLen at s0
  go_enter Try.func94, Try.ntmps94
  go_wp2_with fail
  have q1 : 0 ≤ left ∧ left ≤ 1048576 := by
    omega
  refine (szKey _ _ _ _ (HV1.out.below (by repeat (first | with_reducible exact belR | with_reducible apply belA | (with_reducible refine belS ?_ ?_; focus (first | omega | (simp; done) | (simp; omega))) | with_reducible apply belN | with_reducible apply belD | with_reducible assumption))) q1.1 q1.2).mono ?_
  rintro e w1 ⟨rfl, hb1⟩
  obtain ⟨hc1, hfz1⟩ := bcell hb1
  have hz1 : w.heap.size < w1.heap.size := by have y := hb1.size; (try simp at y); omega
  have HB1 := Lib.hid (below_call (B := w.heap.size) (w := w) (by repeat (first | with_reducible exact belR | with_reducible apply belA | (with_reducible refine belS ?_ ?_; focus (first | omega | (simp; done) | (simp; omega))) | with_reducible apply belN | with_reducible apply belD | with_reducible assumption)) (by first | omega | (simp; done) | (simp; omega)) hb1); clear hb1
  have bl1 : -1 ≤ szOf (x.key.wt) (left) ∧ szOf (x.key.wt) (left) ≤ 1048576 := by
    have a0 := szOf_spec (x.key.wt) (left)
    omega
  obtain ⟨bl1, bu1⟩ := bl1
  go_wp2_with fail
  · go_ret
    have y0 := HB1.out
    refine ⟨ret_int ?_, (by repeat (first | with_reducible exact belR | with_reducible apply belA | (with_reducible refine belS ?_ ?_; focus (first | omega | (simp; done) | (simp; omega))) | with_reducible apply belN | with_reducible apply belD | with_reducible assumption))⟩
    go_light
    have a0 := szOf_spec x.wt left
    have a1 := szOf_spec (x.key.wt) (left)
    unfold DItem.wt at *
    omega
  have q2 : 0 ≤ szOf (x.key.wt) (left) ∧ szOf (x.key.wt) (left) ≤ 1048576 := by
    have a0 := szOf_spec (x.key.wt) (left)
    omega
  refine (szRecord _ _ _ _ (HV2.out.below (by have y := HB1.out; exact (by repeat (first | with_reducible exact belR | with_reducible apply belA | (with_reducible refine belS ?_ ?_; focus (first | omega | (simp; done) | (simp; omega))) | with_reducible apply belN | with_reducible apply belD | with_reducible assumption)))) q2.1 q2.2).mono ?_
  rintro e w2 ⟨rfl, hb2⟩
  obtain ⟨hc2, hfz2⟩ := bcell hb2
  have hz2 : w.heap.size < w2.heap.size := by have y := hb2.size; (try simp at y); omega
  have HB2 := Lib.hid (below_call (B := w.heap.size) (w := w) (by have y := HB1.out; exact (by repeat (first | with_reducible exact belR | with_reducible apply belA | (with_reducible refine belS ?_ ?_; focus (first | omega | (simp; done) | (simp; omega))) | with_reducible apply belN | with_reducible apply belD | with_reducible assumption))) (by first | omega | (simp; done) | (simp; omega)) hb2); clear hb2
  have bl2 : -1 ≤ szOf (x.record.wt) (szOf (x.key.wt) (left)) ∧ szOf (x.record.wt) (szOf (x.key.wt) (left)) ≤ 1048576 := by
    have a0 := szOf_spec (x.record.wt) (szOf (x.key.wt) (left))
    omega
  obtain ⟨bl2, bu2⟩ := bl2
  go_wp2_with fail
  · go_ret
    have y0 := HB1.out
    have y1 := HB2.out
    refine ⟨ret_int ?_, (by repeat (first | with_reducible exact belR | with_reducible apply belA | (with_reducible refine belS ?_ ?_; focus (first | omega | (simp; done) | (simp; omega))) | with_reducible apply belN | with_reducible apply belD | with_reducible assumption))⟩
    go_light
    have a0 := szOf_spec x.wt left
    have a1 := szOf_spec (x.key.wt) (left)
    have a2 := szOf_spec (x.record.wt) (szOf (x.key.wt) (left))
    unfold DItem.wt at *
    omega
  · go_ret
    have y0 := HB1.out
    have y1 := HB2.out
    refine ⟨ret_int ?_, (by repeat (first | with_reducible exact belR | with_reducible apply belA | (with_reducible refine belS ?_ ?_; focus (first | omega | (simp; done) | (simp; omega))) | with_reducible apply belN | with_reducible apply belD | with_reducible assumption))⟩
    go_light
    have a0 := szOf_spec x.wt left
    have a1 := szOf_spec (x.key.wt) (left)
    have a2 := szOf_spec (x.record.wt) (szOf (x.key.wt) (left))
    unfold DItem.wt at *
    omega

set_option maxHeartbeats 800000 in
theorem toItem (cs : List Value) (x : DItem) (w : World) (h : Reads DItem.rep w cs x) (_hsmall : x.wt ≤ 1048576) :
    Calls Try.prog 96 #[.agg cs.toArray] w fun e w' => ∃ ds, e = .returned (.agg ds.toArray) ∧ Fresh DItem.rep w.heap.size w' ds x ∧ Below w.heap.size w w' := by
  obtain ⟨fp, h⟩ := h
  obtain ⟨v1, f1, rfl, _, s0, r1⟩ := DItem.rd.1 h
  have HV1 : Hid (Reads DKey.rep w [.int .i64 x.key.kind, .int .i64 x.key.n, .string x.key.text] x.key) := ⟨_, DKey.rd.2 ⟨rfl, rfl, s0⟩⟩
  have d1 : x.key.wt ≤ 1048576 := by unfold DItem.wt at _hsmall; omega
  have HV2 : Hid (Reads DRecord.rep w [v1] x.record) := ⟨_, DRecord.rd.2 ⟨_, _, rfl, rfl, r1⟩⟩
  have d2 : x.record.wt ≤ 1048576 := by unfold DItem.wt at _hsmall; omega
  clear h r1
  go_enter Try.func96, Try.ntmps96
  go_wp2_with fail
  refine (toKey _ _ _ (HV1.out.below (by repeat (first | with_reducible exact belR | with_reducible apply belA | (with_reducible refine belS ?_ ?_; focus (first | omega | (simp; done) | (simp; omega))) | with_reducible apply belN | with_reducible apply belD | with_reducible assumption))) d1).mono ?_
  rintro e w1 ⟨t1, rfl, hf1, hb1⟩
  obtain ⟨_, hf1, _⟩ := hf1
  obtain ⟨rfl, _, _⟩ := DKey.rd.1 hf1
  obtain ⟨hc1, hfz1⟩ := bcell hb1
  have hs1 : w.heap.size + 1 + 1 + 1 ≤ w1.heap.size := by have y := hb1.size; (try simp at y); omega
  have hz10 : w.heap.size < w1.heap.size := by omega
  have hz11 : w.heap.size + 1 < w1.heap.size := by omega
  have hz12 : w.heap.size + 1 + 1 < w1.heap.size := by omega
  have HB1 := Lib.hid (below_call (B := w.heap.size) (w := w) (by repeat (first | with_reducible exact belR | with_reducible apply belA | (with_reducible refine belS ?_ ?_; focus (first | omega | (simp; done) | (simp; omega))) | with_reducible apply belN | with_reducible apply belD | with_reducible assumption)) (by first | omega | (simp; done) | (simp; omega)) hb1)
  clear hb1
  go_wp2_with fail
  refine (toRecord _ _ _ (HV2.out.below (by have y := HB1.out; exact (by repeat (first | with_reducible exact belR | with_reducible apply belA | (with_reducible refine belS ?_ ?_; focus (first | omega | (simp; done) | (simp; omega))) | with_reducible apply belN | with_reducible apply belD | with_reducible assumption)))) d2).mono ?_
  rintro e w2 ⟨t2, rfl, hf2, hb2⟩
  obtain ⟨ao1, cap1, rfl⟩ := DRecord.fshape hf2
  obtain ⟨hc2, hfz2⟩ := bcell hb2
  have hs2 : w1.heap.size ≤ w2.heap.size := by have y := hb2.size; (try simp at y); omega
  have hz20 : w.heap.size < w2.heap.size := by omega
  have hz21 : w.heap.size + 1 < w2.heap.size := by omega
  have hz22 : w.heap.size + 1 + 1 < w2.heap.size := by omega
  have HF2 := Lib.hid (hf2.mono (B' := w1.heap.size) (by first | omega | (simp; done) | (simp; omega)))
  have HB2 := Lib.hid (below_call (B := w.heap.size) (w := w) (by have y := HB1.out; exact (by repeat (first | with_reducible exact belR | with_reducible apply belA | (with_reducible refine belS ?_ ?_; focus (first | omega | (simp; done) | (simp; omega))) | with_reducible apply belN | with_reducible apply belD | with_reducible assumption))) (by first | omega | (simp; done) | (simp; omega)) hb2)
  clear hb2 hf2
  go_wp2
  refine bodyPost_ret (v := .agg #[.int .i64 x.key.kind, .int .i64 x.key.n, .string x.key.text, .slice ao1 x.record.fields.length cap1]) (by first | (simp [results, Try.results96, go_sem, hc1, hc2, hz11]; done)) rfl ⟨_, rfl, ?_, ?_⟩
  · exact DItem.fresh (HF2.out.part (by repeat (first | with_reducible exact abR | with_reducible apply abA | (with_reducible refine abS ?_ ?_; focus (first | omega | (simp; done) | (simp; omega))) | with_reducible apply abN | with_reducible apply abD | with_reducible assumption))) (by first | omega | (simp; done) | (simp; omega))  s0
  · have y := HB2.out
    exact (by repeat (first | with_reducible exact belR | with_reducible apply belA | (with_reducible refine belS ?_ ?_; focus (first | omega | (simp; done) | (simp; omega))) | with_reducible apply belN | with_reducible apply belD | with_reducible assumption))

set_option maxHeartbeats 800000 in
theorem eqItem (cs ds : List Value) (x : DItem) (w : World) (h : Reads DItem.rep w cs x) (h' : Reads DItem.rep w ds x) :
    Calls Try.prog 98 #[.agg cs.toArray, .agg ds.toArray] w fun e w' => e = .returned (.bool true) ∧ Below w.heap.size w w' := by
  obtain ⟨fp, h0⟩ := h
  obtain ⟨vv1, vf1, rfl, _, vs0, vr1⟩ := DItem.rd.1 h0
  have HV1 : Hid (Reads DKey.rep w [.int .i64 x.key.kind, .int .i64 x.key.n, .string x.key.text] x.key) := ⟨_, DKey.rd.2 ⟨rfl, rfl, vs0⟩⟩
  have HV2 : Hid (Reads DRecord.rep w [vv1] x.record) := ⟨_, DRecord.rd.2 ⟨_, _, rfl, rfl, vr1⟩⟩
  clear h0 vr1
  obtain ⟨fp, h0⟩ := h'
  obtain ⟨uv1, uf1, rfl, _, us0, ur1⟩ := DItem.rd.1 h0
  have HU1 : Hid (Reads DKey.rep w [.int .i64 x.key.kind, .int .i64 x.key.n, .string x.key.text] x.key) := ⟨_, DKey.rd.2 ⟨rfl, rfl, us0⟩⟩
  have HU2 : Hid (Reads DRecord.rep w [uv1] x.record) := ⟨_, DRecord.rd.2 ⟨_, _, rfl, rfl, ur1⟩⟩
  clear h0 ur1
  go_enter Try.func98, Try.ntmps98
  go_wp2_with fail
  refine (eqKey _ _ _ _ (HV1.out.below (by repeat (first | with_reducible exact belR | with_reducible apply belA | (with_reducible refine belS ?_ ?_; focus (first | omega | (simp; done) | (simp; omega))) | with_reducible apply belN | with_reducible apply belD | with_reducible assumption))) (HU1.out.below (by repeat (first | with_reducible exact belR | with_reducible apply belA | (with_reducible refine belS ?_ ?_; focus (first | omega | (simp; done) | (simp; omega))) | with_reducible apply belN | with_reducible apply belD | with_reducible assumption)))).mono ?_
  rintro e w1 ⟨rfl, hb1⟩
  obtain ⟨hc1, hfz1⟩ := bcell hb1
  have hs1 : w.heap.size + 1 + 1 ≤ w1.heap.size := by have y := hb1.size; (try simp at y); omega
  have hz10 : w.heap.size < w1.heap.size := by omega
  have hz11 : w.heap.size + 1 < w1.heap.size := by omega
  have HB1 := Lib.hid (below_call (B := w.heap.size) (w := w) (by repeat (first | with_reducible exact belR | with_reducible apply belA | (with_reducible refine belS ?_ ?_; focus (first | omega | (simp; done) | (simp; omega))) | with_reducible apply belN | with_reducible apply belD | with_reducible assumption)) (by first | omega | (simp; done) | (simp; omega)) hb1)
  clear hb1
  go_wp2_with fail
  refine (eqRecord _ _ _ _ (HV2.out.below (by have y := HB1.out; exact (by repeat (first | with_reducible exact belR | with_reducible apply belA | (with_reducible refine belS ?_ ?_; focus (first | omega | (simp; done) | (simp; omega))) | with_reducible apply belN | with_reducible apply belD | with_reducible assumption)))) (HU2.out.below (by have y := HB1.out; exact (by repeat (first | with_reducible exact belR | with_reducible apply belA | (with_reducible refine belS ?_ ?_; focus (first | omega | (simp; done) | (simp; omega))) | with_reducible apply belN | with_reducible apply belD | with_reducible assumption))))).mono ?_
  rintro e w2 ⟨rfl, hb2⟩
  obtain ⟨hc2, hfz2⟩ := bcell hb2
  have hs2 : w1.heap.size ≤ w2.heap.size := by have y := hb2.size; (try simp at y); omega
  have hz20 : w.heap.size < w2.heap.size := by omega
  have hz21 : w.heap.size + 1 < w2.heap.size := by omega
  have HB2 := Lib.hid (below_call (B := w.heap.size) (w := w) (by have y := HB1.out; exact (by repeat (first | with_reducible exact belR | with_reducible apply belA | (with_reducible refine belS ?_ ?_; focus (first | omega | (simp; done) | (simp; omega))) | with_reducible apply belN | with_reducible apply belD | with_reducible assumption))) (by first | omega | (simp; done) | (simp; omega)) hb2)
  clear hb2
  go_wp2
  go_ret
  have y := HB2.out
  exact ⟨rfl, (by repeat (first | with_reducible exact belR | with_reducible apply belA | (with_reducible refine belS ?_ ?_; focus (first | omega | (simp; done) | (simp; omega))) | with_reducible apply belN | with_reducible apply belD | with_reducible assumption))⟩

set_option maxHeartbeats 400000 in
theorem szItemS (v : Value) (l : List DItem) (left : Int) (w : World) (h : Reads (Rep.slice 93 DItem.rep) w [v] l) (h0 : 0 ≤ left) (h1 : left ≤ 1048576) :
    Calls Try.prog 62 #[v, .int .i64 left] w fun e w' => e = .returned (.int .i64 (szOf (wtS DItem.wt l) left)) ∧ Below w.heap.size w w' := by
  have HK := Lib.hid h
  obtain ⟨fp, h⟩ := h
  obtain ⟨ao, c1, rfl, hm, _, hu⟩ := slice_open h
  clear hu h
  go_enter Try.func62, Try.ntmps62
  go_wp2
  · go_ret
    refine ⟨ret_int ?_, (by repeat (first | with_reducible exact belR | with_reducible apply belA | (with_reducible refine belS ?_ ?_; focus (first | omega | (simp; done) | (simp; omega))) | with_reducible apply belN | with_reducible apply belD | with_reducible assumption))⟩
    go_light
    have a0 := szOf_spec (wtS DItem.wt l) left
    have a1 := wtS_ge DItem.wt l
    omega
  · go_loopw [1, 5] (fun a i wr => ∃ k : Nat, k ≤ l.length ∧ i = .int .i64 k ∧ a = .int .i64 (left - l.length - wtT DItem.wt l k) ∧ 0 ≤ left - l.length - wtT DItem.wt l k ∧ Below w.heap.size w wr) (fun _ i _ => l.length - (intOf i).toNat)
    case atStart => exact ⟨0, by omega, rfl, by simp [wtT], by simp [wtT]; omega, (by repeat (first | with_reducible exact belR | with_reducible apply belA | (with_reducible refine belS ?_ ?_; focus (first | omega | (simp; done) | (simp; omega))) | with_reducible apply belN | with_reducible apply belD | with_reducible assumption))⟩
    case round =>
      obtain ⟨k, hk, rfl, rfl, hpos, hb⟩ := hrel
      have HB := Lib.hid hb; clear hb
      by_cases hlt : k < l.length
      · obtain ⟨b, off, cs, rfl, bw, hr, hcell⟩ := slice_at (HK.out.below HB.out) k hlt
        obtain ⟨fe, hrd⟩ := hr
        obtain ⟨v1, _, rfl, _, _, _⟩ := DItem.rd.1 hrd
        have HR : Hid (Reads DItem.rep wr _ l[k]) := ⟨_, hrd⟩
        clear hrd
        have hc0 : wr.cell? ⟨b, off + k * 4, none⟩ = some (.int .i64 l[k].key.kind) := hcell 0 (by decide)
        have hc1 : wr.cell? ⟨b, off + k * 4 + 1, none⟩ = some (.int .i64 l[k].key.n) := hcell 1 (by decide)
        have hc2 : wr.cell? ⟨b, off + k * 4 + 2, none⟩ = some (.string l[k].key.text) := hcell 2 (by decide)
        have hc3 : wr.cell? ⟨b, off + k * 4 + 3, none⟩ = some (v1) := hcell 3 (by decide)
        clear hcell
        go_wp2_with fail
        refine (szItem _ _ _ _ HR.out (by omega) (by omega)).mono ?_
        rintro e w1 ⟨rfl, hb1⟩
        have HB1 := Lib.hid (below_call HB.out HB.out.size hb1); clear hb1
        go_wp2
        · go_ret
          refine ⟨ret_int ?_, HB1.out⟩
          go_light
          have a0 := szOf_spec (DItem.wt l[k]) (left - l.length - wtT DItem.wt l k)
          have a1 := szOf_spec (wtS DItem.wt l) left
          have a2 := wtT_le DItem.wt l (k + 1)
          rw [wtT_succ _ _ _ hlt] at a2
          unfold wtS at a1 ⊢
          omega
        · go_light
          have a0 := szOf_spec (DItem.wt l[k]) (left - l.length - wtT DItem.wt l k)
          have a2 := wtT_succ DItem.wt l k hlt
          have e : szOf (DItem.wt l[k]) (left - l.length - wtT DItem.wt l k) = left - l.length - wtT DItem.wt l (k + 1) := by omega
          refine ⟨⟨k + 1, by omega, by go_num, by rw [e], by omega, HB1.out⟩, by simp [intOf]; omega⟩
      · go_wp2
        go_ret
        refine ⟨ret_int ?_, HB.out⟩
        go_light
        obtain rfl : k = l.length := by omega
        have a1 := szOf_spec (wtS DItem.wt l) left
        have a2 := wtT_all DItem.wt l
        unfold wtS at a1 ⊢
        omega

theorem infoItem : (Try.prog.info? 93).map (fun i => (i.zero, i.size, i.bytes)) = some (some (.agg #[.int .i64 0, .int .i64 0, .string ⟨#[]⟩, .slice none 0 0]), 4, 56) := by kernel_rfl

set_option maxRecDepth 100000 in
set_option maxHeartbeats 800000 in
theorem toItemS (u : Value) (l : List DItem) (w : World) (hu : Reads (Rep.slice 93 DItem.rep) w [u] l) (hsmall : wtS DItem.wt l ≤ 1048576) :
    Calls Try.prog 64 #[u] w fun e w' => ∃ v, e = .returned v ∧ Fresh (Rep.slice 93 DItem.rep) w.heap.size w' [v] l ∧ Below w.heap.size w w' := by
  have HK := Lib.hid hu
  obtain ⟨fp, hu⟩ := hu
  obtain ⟨ao, c1, rfl, hm, _, hu⟩ := slice_open hu
  clear hu
  have hlen := wtS_ge DItem.wt l
  have HW := Lib.hid hsmall
  obtain ⟨i0, hi, hz0, hz1, hz2⟩ := info_parts infoItem
  go_enter Try.func64, Try.ntmps64
  go_wp2_with (at_make; refine wpList_make_full _ rfl _ _ 31 rfl w.heap.size 93 i0 _ 4 Try.underlying31 hi hz0 hz1 _ _ _ _ l.length rfl rfl rfl rfl ?c1 ?c2 (Nat.le_refl _) ?_)
  case c1 => rw [hz2]; omega
  case c2 => unfold maxLen; omega
  intro w1 hown hgrow
  have hf : Filling DItem.rep 93 w.heap.size w.heap.size l.length l 0 w1 := Filling.start hown (Nat.le_refl _)
  have hb1 : Below w.heap.size w w1 := (Below.refl _ _).grown hgrow (Nat.le_refl _) (by intro k hk; cases hk)
  have HF := Lib.hid hf; clear hf hown
  have HB := Lib.hid hb1; clear hb1 hgrow
  go_wp2
  go_loopw [4] (fun i wr => ∃ k : Nat, k ≤ l.length ∧ i = .int .i64 k ∧ Filling DItem.rep 93 w.heap.size w.heap.size l.length l k wr ∧ Below w.heap.size w wr) (fun i _ => l.length - (intOf i).toNat)
  case atStart => exact ⟨0, by omega, rfl, HF.out, HB.out⟩
  case round =>
    obtain ⟨k, hk, rfl, hf, hb⟩ := hrel
    have HB := Lib.hid hb; clear hb
    have HF := Lib.hid hf; clear hf
    by_cases hlt : k < l.length
    · obtain ⟨b, off, cs, rfl, bw, hr, hcell⟩ := slice_at (HK.out.below HB.out) k hlt
      obtain ⟨fe, hrd⟩ := hr
      obtain ⟨v1, _, rfl, _, _, _⟩ := DItem.rd.1 hrd
      have HR : Hid (Reads DItem.rep wr _ l[k]) := ⟨_, hrd⟩
      clear hrd
      have hc0 : wr.cell? ⟨b, off + k * 4, none⟩ = some (.int .i64 l[k].key.kind) := hcell 0 (by decide)
      have hc1 : wr.cell? ⟨b, off + k * 4 + 1, none⟩ = some (.int .i64 l[k].key.n) := hcell 1 (by decide)
      have hc2 : wr.cell? ⟨b, off + k * 4 + 2, none⟩ = some (.string l[k].key.text) := hcell 2 (by decide)
      have hc3 : wr.cell? ⟨b, off + k * 4 + 3, none⟩ = some (v1) := hcell 3 (by decide)
      clear hcell
      go_wp2_with fail
      refine (toItem _ _ _ HR.out (Nat.le_trans (wtS_elem DItem.wt l k hlt) HW.out)).mono ?_
      rintro e w1 ⟨ds, rfl, hfr, hb1⟩
      have HF1 := Lib.hid (Filling.step hlt rfl HF.out hb1 hfr)
      have HB1 := Lib.hid (setCells_below (Nat.le_refl _) ds (k * 4) _ (below_call HB.out HB.out.size hb1))
      obtain ⟨hcs, hfz⟩ := (HF.out.below hb1).cells hlt
      obtain ⟨fd, hrd, _⟩ := hfr
      obtain ⟨p1, q1, rfl⟩ := DItem.shape hrd
      obtain ⟨z0, hy0⟩ : ∃ u, w1.cell? ⟨w.heap.size, k * 4, none⟩ = some u := hcs 0 (by decide)
      obtain ⟨z1, hy1⟩ : ∃ u, w1.cell? ⟨w.heap.size, k * 4 + 1, none⟩ = some u := hcs 1 (by decide)
      obtain ⟨z2, hy2⟩ : ∃ u, w1.cell? ⟨w.heap.size, k * 4 + 2, none⟩ = some u := hcs 2 (by decide)
      obtain ⟨z3, hy3⟩ : ∃ u, w1.cell? ⟨w.heap.size, k * 4 + 3, none⟩ = some u := hcs 3 (by decide)
      clear hcs hb1 hrd hc0 hc1 hc2 hc3
      go_wp2
      go_light
      exact ⟨⟨k + 1, by omega, by go_num, HF1.out, HB1.out⟩, by simp [intOf]; omega⟩
    · have HW : Hid (Fresh (Rep.slice 93 DItem.rep) w.heap.size wr [.slice (some ⟨w.heap.size, 0, none⟩) l.length l.length] l) := by
        have e : k = l.length := by omega
        have hf := HF.out
        rw [e] at hf
        exact hf.done rfl
      go_wp2
      go_ret
      exact ⟨_, rfl, HW.out, HB.out⟩

set_option maxRecDepth 100000 in
set_option maxHeartbeats 800000 in
theorem eqItemS (u v : Value) (l : List DItem) (w : World) (h : Reads (Rep.slice 93 DItem.rep) w [u] l) (h' : Reads (Rep.slice 93 DItem.rep) w [v] l) :
    Calls Try.prog 69 #[u, v] w fun e w' => e = .returned (.bool true) ∧ Below w.heap.size w w' := by
  have HK := Lib.hid h
  obtain ⟨fp, h⟩ := h
  obtain ⟨ao, c1, rfl, hm, _, hu⟩ := slice_open h
  clear hu h
  have HK' := Lib.hid h'
  obtain ⟨fp, h⟩ := h'
  obtain ⟨bo, c2, rfl, _, _, hu⟩ := slice_open h
  clear hu h
  go_enter Try.func69, Try.ntmps69
  go_wp2
  go_loopw [5] (fun i wr => ∃ k : Nat, k ≤ l.length ∧ i = .int .i64 k ∧ Below w.heap.size w wr) (fun i _ => l.length - (intOf i).toNat)
  case atStart => exact ⟨0, by omega, rfl, (by repeat (first | with_reducible exact belR | with_reducible apply belA | (with_reducible refine belS ?_ ?_; focus (first | omega | (simp; done) | (simp; omega))) | with_reducible apply belN | with_reducible apply belD | with_reducible assumption))⟩
  case round =>
    obtain ⟨k, hk, rfl, hb⟩ := hrel
    have HB := Lib.hid hb; clear hb
    by_cases hlt : k < l.length
    · obtain ⟨b, off, cs, rfl, bw, hr, hcell⟩ := slice_at (HK.out.below HB.out) k hlt
      obtain ⟨fe, hrd⟩ := hr
      obtain ⟨v1, _, rfl, _, _, _⟩ := DItem.rd.1 hrd
      have HR : Hid (Reads DItem.rep wr _ l[k]) := ⟨_, hrd⟩
      clear hrd
      have hc0 : wr.cell? ⟨b, off + k * 4, none⟩ = some (.int .i64 l[k].key.kind) := hcell 0 (by decide)
      have hc1 : wr.cell? ⟨b, off + k * 4 + 1, none⟩ = some (.int .i64 l[k].key.n) := hcell 1 (by decide)
      have hc2 : wr.cell? ⟨b, off + k * 4 + 2, none⟩ = some (.string l[k].key.text) := hcell 2 (by decide)
      have hc3 : wr.cell? ⟨b, off + k * 4 + 3, none⟩ = some (v1) := hcell 3 (by decide)
      clear hcell
      obtain ⟨b', off', cs, rfl, b'w, hr, hcell⟩ := slice_at (HK'.out.below HB.out) k hlt
      obtain ⟨fe, hrd⟩ := hr
      obtain ⟨uv1, _, rfl, _, _, _⟩ := DItem.rd.1 hrd
      have HR' : Hid (Reads DItem.rep wr _ l[k]) := ⟨_, hrd⟩
      clear hrd
      have hd0 : wr.cell? ⟨b', off' + k * 4, none⟩ = some (.int .i64 l[k].key.kind) := hcell 0 (by decide)
      have hd1 : wr.cell? ⟨b', off' + k * 4 + 1, none⟩ = some (.int .i64 l[k].key.n) := hcell 1 (by decide)
      have hd2 : wr.cell? ⟨b', off' + k * 4 + 2, none⟩ = some (.string l[k].key.text) := hcell 2 (by decide)
      have hd3 : wr.cell? ⟨b', off' + k * 4 + 3, none⟩ = some (uv1) := hcell 3 (by decide)
      clear hcell
      go_wp2_with fail
      go_still_tail 8, (by kernel_rfl)
      change wpList _ _ _ _ _ wr.drew
      go_wp2_with fail
      refine (eqItem _ _ _ _ (HR.out.below (by repeat (first | with_reducible exact belR | with_reducible apply belA | (with_reducible refine belS ?_ ?_; focus (first | omega | (simp; done) | (simp; omega))) | with_reducible apply belN | with_reducible apply belD | with_reducible assumption))) (HR'.out.below (by repeat (first | with_reducible exact belR | with_reducible apply belA | (with_reducible refine belS ?_ ?_; focus (first | omega | (simp; done) | (simp; omega))) | with_reducible apply belN | with_reducible apply belD | with_reducible assumption)))).mono ?_
      rintro e w1 ⟨rfl, hb1⟩
      have HB1 := Lib.hid (below_call (belD HB.out) (belD HB.out).size hb1); clear hb1
      go_wp2
      go_light
      exact ⟨⟨k + 1, by omega, by go_num, HB1.out⟩, by simp [intOf]; omega⟩
    · go_wp2
      go_ret
      exact ⟨rfl, HB.out⟩

def DItem.cnt (x : DItem) : Nat := 3 + wtT DField.cnt x.record.fields x.record.fields.length
def DItem.mk3 (k : Nat) (x : DItem) : DItem := ⟨⟨((k : Int)), ((k : Int) + 1), markT (k + 2)⟩, ⟨marks DField.mk3 DField.cnt (k + 3) x.record.fields⟩⟩

def DItem.mcnt (x : DItem) : Nat := x.record.mcnt
def DItem.mks (x : DItem) (k : Nat) : DItem := { x with record := x.record.mks (k) }

end Go.Proofs.Yteonnbkmmdiegaa
