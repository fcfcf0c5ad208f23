/-
  The walk of the law FnOutboxes.
-/
import Derived.Test.YteajhmpppciicaaAt
import Derived.Test.YteajhmpppciicaaOutLaw
namespace Go.Proofs.Yteajhmpppciicaa
open Go.RowKit

/-- What spec.DrawEnqueueWrite is shown to draw. -/
def SaidDrawEnqueue : Prop :=
  ∀ (v : Value) (l : List UInt8) (w : World), Reads Rep.bytes w [v] l → l.length ≤ 1048576 → Calls Try.prog 6 #[v] w fun e w' => ∃ (ds : List Value) (o : DOutbox) (y : DKey) (f : ByteArray) (n : Int), e = .returned (.tuple #[.agg ds.toArray, .agg #[.int .i64 y.kind, .int .i64 y.n, .string y.text], .string f, .int .i64 n]) ∧ Fresh DOutbox.rep w.heap.size w' ds o ∧ o.writes.length ≤ 1000 ∧ y.text.size ≤ 20 ∧ f.size ≤ 20 ∧ Below w.heap.size w w'

theorem DOutbox.fshape' {B : Nat} {w : World} {cs : List Value} {x : DOutbox} (h : Fresh DOutbox.rep B w cs x) : ∃ a c, cs = [.int .i64 x.device, .int .i64 x.next, .slice a x.writes.length c] := by
  obtain ⟨a, c, rfl, _⟩ := DOutbox.fopen h
  exact ⟨a, c, rfl⟩
theorem outAckAs (cs : List Value) (x : DOutbox) (seq N : Int) (R : DOutbox) (hN : ackWritesN x seq = N) (hR : ackWritesF x seq = R) (w : World) (h : Reads DOutbox.rep w cs x) (hs : x.writes.length ≤ 1048600) :
    Calls Try.prog 12 #[.agg cs.toArray, .int .i64 seq] w fun e w' => ∃ a c, e = .returned (.tuple #[.agg #[.int .i64 R.device, .int .i64 R.next, .slice a R.writes.length c], .int .i64 N]) ∧ Reads DOutbox.rep w' [.int .i64 R.device, .int .i64 R.next, .slice a R.writes.length c] R ∧ Below w.heap.size w w' := by
  refine (implAckWrites cs x seq w h hs).mono ?_
  rintro e w1 ⟨ds, rfl, hf, hb⟩
  rw [hR] at hf
  rw [hN]
  obtain ⟨a, c, rfl⟩ := DOutbox.fshape' hf
  exact ⟨a, c, rfl, hf.reads, hb⟩
theorem outEqualSelf (cs ds : List Value) (x : DOutbox) (w : World) (h : Reads DOutbox.rep w cs x) (h' : Reads DOutbox.rep w ds x) : Calls Try.prog 9 #[.agg cs.toArray, .agg ds.toArray] w fun e w' => e = .returned (.bool true) ∧ Below w.heap.size w w' := by
  refine (implEqualOutboxes cs ds x x w h h').mono ?_
  rintro e w1 ⟨rfl, hb⟩
  exact ⟨by rw [equal_outs], hb⟩
theorem outIsYes (cs : List Value) (x : DOutbox) (hx : isOutboxF x = true) (w : World) (h : Reads DOutbox.rep w cs x) : Calls Try.prog 11 #[.agg cs.toArray] w fun e w' => e = .returned (.bool true) ∧ Below w.heap.size w w' := by
  refine (implIsOutbox cs x w h).mono ?_
  rintro e w1 ⟨rfl, hb⟩
  exact ⟨by rw [hx], hb⟩
theorem outQueuedYes (cs : List Value) (x : DWrite) (hx : isWriteF x = true) (w : World) (h : Reads DWrite.rep w cs x) : Calls Try.prog 13 #[.agg cs.toArray] w fun e w' => e = .returned (.bool true) ∧ Below w.heap.size w w' := by
  refine (implIsQueuedWrite cs x w h).mono ?_
  rintro e w1 ⟨rfl, hb⟩
  exact ⟨by rw [hx], hb⟩
theorem outEnqI (cs ck : List Value) (x : DOutbox) (k : DKey) (f : ByteArray) (n : Int) (X : DOutbox) (b : Bool) (hX : enqueueF x k f n = X) (hb : enqueueB x k f n = b) (w : World) (h : Reads DOutbox.rep w cs x) (h' : Reads DKey.rep w ck k) (hs : x.writes.length ≤ 1048576) (hn : f.size ≤ maxLen) :
    Calls Try.prog 7 #[.agg cs.toArray, .agg ck.toArray, .string f, .int .i64 n] w fun e w' => ∃ a c, e = .returned (.tuple #[.agg #[.int .i64 X.device, .int .i64 X.next, .slice a X.writes.length c], .bool b]) ∧ Reads DOutbox.rep w' [.int .i64 X.device, .int .i64 X.next, .slice a X.writes.length c] X ∧ Below w.heap.size w w' := by
  refine (implEnqueueWrite cs ck x k f n w h h' hs hn).mono ?_
  rintro e w1 ⟨ds, rfl, hf, hq⟩
  rw [hX] at hf
  rw [hb]
  obtain ⟨a, c, rfl⟩ := DOutbox.fshape' hf
  exact ⟨a, c, rfl, hf.reads, hq⟩
theorem outEnqS (cs ck : List Value) (x : DOutbox) (k : DKey) (f : ByteArray) (n : Int) (X : DOutbox) (b : Bool) (hX : enqueueF x k f n = X) (hb : enqueueB x k f n = b) (w : World) (h : Reads DOutbox.rep w cs x) (h' : Reads DKey.rep w ck k) (hs : x.writes.length ≤ 1048576) (hn : f.size ≤ maxLen) :
    Calls Try.prog 8 #[.agg cs.toArray, .agg ck.toArray, .string f, .int .i64 n] w fun e w' => ∃ a c, e = .returned (.tuple #[.agg #[.int .i64 X.device, .int .i64 X.next, .slice a X.writes.length c], .bool b]) ∧ Reads DOutbox.rep w' [.int .i64 X.device, .int .i64 X.next, .slice a X.writes.length c] X ∧ Below w.heap.size w w' := by
  refine (specEnqueueWrite cs ck x k f n w h h' hs hn).mono ?_
  rintro e w1 ⟨ds, rfl, hf, hq⟩
  rw [hX] at hf
  rw [hb]
  obtain ⟨a, c, rfl⟩ := DOutbox.fshape' hf
  exact ⟨a, c, rfl, hf.reads, hq⟩
theorem outFirstAs (cs : List Value) (x : DOutbox) (W1 : DWrite) (hx : firstWriteF x = W1) (hl : 0 < x.writes.length) (w : World) (h : Reads DOutbox.rep w cs x) :
    Calls Try.prog 10 #[.agg cs.toArray] w fun e w' => e = .returned (.tuple #[.agg #[.int .i64 W1.device, .int .i64 W1.seq, .int .i64 W1.key.kind, .int .i64 W1.key.n, .string W1.key.text, .string W1.field, .int .i64 W1.n], .bool true]) ∧ Reads DWrite.rep w' [.int .i64 W1.device, .int .i64 W1.seq, .int .i64 W1.key.kind, .int .i64 W1.key.n, .string W1.key.text, .string W1.field, .int .i64 W1.n] W1 ∧ Below w.heap.size w w' := by
  refine (implFirstWrite cs x w h).mono ?_
  rintro e w1 ⟨ds, rfl, hf, hb⟩
  rw [hx] at hf
  have hr := hf.reads
  obtain ⟨fp, hr⟩ := hr
  obtain ⟨rfl, hq⟩ := DWrite.rd.1 hr
  have e1 : firstWriteB x = true := decide_eq_true hl
  rw [e1]
  exact ⟨rfl, ⟨fp, DWrite.rd.2 ⟨rfl, hq⟩⟩, hb⟩
theorem enq_no {x : DOutbox} {k : DKey} {f : ByteArray} {n : Int} (h : enqueueB x k f n = false) : enqueueF x k f n = x := by unfold enqueueF; rw [h]; rfl
theorem last_of (l : List DWrite) (u : DWrite) (h : l.length < (l ++ [u]).length) : (l ++ [u])[l.length] = u := by
  rw [List.getElem_append_right (Nat.le_refl _)]
  simp
theorem last_get (x : DOutbox) (k : DKey) (f : ByteArray) (n : Int) (h : x.writes.length < (enqOut x k f n).writes.length) : (enqOut x k f n).writes[x.writes.length] = newWrite x k f n := last_of x.writes (newWrite x k f n) h
attribute [local irreducible] enqueueF enqueueB ackWritesF ackWritesN firstWriteF isOutboxF isWriteF

set_option maxRecDepth 100000 in
set_option maxHeartbeats 8000000 in
theorem lawOutboxes (hD : SaidDrawEnqueue) (v : Value) (l0 : List UInt8) (w : World) (h : Reads Rep.bytes w [v] l0) :
    Calls Try.prog 3 #[v] w fun e w' => e = .returned (.bool true) ∧ Below w.heap.size w w' := by
  have HK : Hid (Reads Rep.bytes w [v] l0) := Lib.hid h
  have HDR := Lib.hid hD
  obtain ⟨fp, h⟩ := h
  obtain ⟨ao, c1, rfl, hm, _, hu⟩ := slice_open h
  clear hu h hD
  by_cases hbig : 1048576 < l0.length
  · go_enter Try.func3, Try.ntmps3
    go_wp2_with (go_at_call 5; refine (lawBig _ _ _ HK.out).mono ?_; rintro e w' ⟨rfl, rfl⟩)
    go_ret
    exact ⟨rfl, (by repeat (first | with_reducible exact belR | with_reducible apply belA | (with_reducible refine belS ?_ ?_; focus (first | omega | (simp; done) | (simp; omega))) | with_reducible apply belN | with_reducible apply belD | with_reducible assumption))⟩
  have hl0 : l0.length ≤ 1048576 := by omega
  go_enter Try.func3, Try.ntmps3
  go_wp2_with (go_at_call 5; refine (lawBig _ _ _ HK.out).mono ?_; rintro e w' ⟨rfl, rfl⟩)
  refine (HDR.out _ l0 _ HK.out hl0).mono ?_
  rintro e w1 ⟨ds, o, y, f, n, rfl, hf, hlo, hy, hfs, hb⟩
  obtain ⟨a1, k1, rfl⟩ := DOutbox.fshape' hf
  have HB := Lib.hid hb
  have HO := Lib.hid hf.reads
  have HRK : Hid (∀ W, Reads DKey.rep W [.int .i64 y.kind, .int .i64 y.n, .string y.text] y) := Lib.hid fun W => ⟨[], DKey.rd.2 ⟨rfl, rfl, by unfold maxLen; omega⟩⟩
  clear hb hf HK hy
  have hfm : f.size ≤ maxLen := by unfold maxLen; omega
  obtain ⟨X, hX⟩ : ∃ X, enqueueF o y f n = X := ⟨_, rfl⟩
  obtain ⟨gb, hgb⟩ : ∃ gb, enqueueB o y f n = gb := ⟨_, rfl⟩
  have HXE := Lib.hid hX
  have HGB := Lib.hid hgb
  clear hX hgb
  go_wp2_with fail
  refine (outEnqI _ _ o y f n X gb HXE.out HGB.out _ (HO.out.below (by repeat (first | with_reducible exact belR | with_reducible apply belA | (with_reducible refine belS ?_ ?_; focus (first | omega | (simp; done) | (simp; omega))) | with_reducible apply belN | with_reducible apply belD | with_reducible assumption))) (HRK.out _) (by omega) hfm).mono ?_
  rintro e w2 ⟨a2, k2, rfl, hr, hb⟩
  have hq : Below w1.heap.size w1 w2 := below_call (by repeat (first | with_reducible exact belR | with_reducible apply belA | (with_reducible refine belS ?_ ?_; focus (first | omega | (simp; done) | (simp; omega))) | with_reducible apply belN | with_reducible apply belD | with_reducible assumption)) (by first | omega | (simp; done) | (simp; omega)) hb
  have HX : Hid (WB w2 w1.heap.size #[.int .i64 o.device, .int .i64 o.next, .slice a1 o.writes.length k1]) := Lib.hid ((WB.at rfl).growA.keep hb)
  have HY : Hid (WB w2 (w1.heap.size + 1) #[.int .i64 y.kind, .int .i64 y.n, .string y.text]) := Lib.hid ((WB.at (by simp)).keep hb)
  have HR := Lib.hid hr
  replace HO := Lib.hid (HO.out.below hq)
  replace HB := Lib.hid (HB.out.trans (hq.mono HB.out.size))
  clear hb hq hr
  have ⟨c_HX, z_HX, f_HX⟩ := HX.out
  have ⟨c_HY, z_HY, f_HY⟩ := HY.out
  go_wp2_with fail
  refine (outEnqS _ _ o y f n X gb HXE.out HGB.out _ (HO.out.below (by repeat (first | with_reducible exact belR | with_reducible apply belA | (with_reducible refine belS ?_ ?_; focus (first | omega | (simp; done) | (simp; omega))) | with_reducible apply belN | with_reducible apply belD | with_reducible assumption))) (HRK.out _) (by omega) hfm).mono ?_
  rintro e w3 ⟨a3, k3, rfl, _, hb⟩
  have hq : Below w2.heap.size w2 w3 := below_call (by repeat (first | with_reducible exact belR | with_reducible apply belA | (with_reducible refine belS ?_ ?_; focus (first | omega | (simp; done) | (simp; omega))) | with_reducible apply belN | with_reducible apply belD | with_reducible assumption)) (by first | omega | (simp; done) | (simp; omega)) hb
  have HZ : Hid (WB w3 w2.heap.size #[.int .i64 X.device, .int .i64 X.next, .slice a2 X.writes.length k2]) := Lib.hid ((WB.at rfl).keep hb)
  clear c_HX z_HX f_HX c_HY z_HY f_HY
  replace HX := Lib.hid (HX.out.keep hq)
  replace HY := Lib.hid (HY.out.keep hq)
  replace HO := Lib.hid (HO.out.below hq)
  replace HR := Lib.hid (HR.out.below hq)
  replace HB := Lib.hid (HB.out.trans (hq.mono HB.out.size))
  clear hb hq
  cases gb
  · have e1 := (enq_no HGB.out).symm.trans HXE.out
    subst e1
    have ⟨c_HX, z_HX, f_HX⟩ := HX.out
    have ⟨c_HZ, z_HZ, f_HZ⟩ := HZ.out
    go_wp2_with fail
    refine (outEqualSelf _ _ o _ (HR.out.below (by repeat (first | with_reducible exact belR | with_reducible apply belA | (with_reducible refine belS ?_ ?_; focus (first | omega | (simp; done) | (simp; omega))) | with_reducible apply belN | with_reducible apply belD | with_reducible assumption))) (HO.out.below (by repeat (first | with_reducible exact belR | with_reducible apply belA | (with_reducible refine belS ?_ ?_; focus (first | omega | (simp; done) | (simp; omega))) | with_reducible apply belN | with_reducible apply belD | with_reducible assumption)))).mono ?_
    rintro e w4 ⟨rfl, hb⟩
    have HB4 : Hid (Below w.heap.size w w4) := Lib.hid (by have y := HB.out; exact below_call (by repeat (first | with_reducible exact belR | with_reducible apply belA | (with_reducible refine belS ?_ ?_; focus (first | omega | (simp; done) | (simp; omega))) | with_reducible apply belN | with_reducible apply belD | with_reducible assumption)) (by have := HB.out.size; first | omega | (simp; omega)) hb)
    go_wp2
    go_ret
    exact ⟨rfl, HB4.out⟩
  have e1 := (enq_yes HGB.out).2.2.symm.trans HXE.out
  have HIX : Hid (isOutboxF X = true) := Lib.hid (by rw [← e1]; exact (enq_yes HGB.out).2.1)
  have hlx : X.writes.length = o.writes.length + 1 := by rw [← e1]; show (o.writes ++ [newWrite o y f n]).length = _; simp
  have HLX := Lib.hid hlx
  have hx1 : X.writes.length ≤ 1001 := by omega
  have hlt : o.writes.length < X.writes.length := by omega
  have HLG : Hid (X.writes[o.writes.length] = newWrite o y f n) := Lib.hid (by subst e1; exact last_get o y f n hlt)
  clear e1 hlx
  obtain ⟨l1, l2, l3, l4, l5, l6, l7, l8, l9⟩ := outbox_law HIX.out (by omega)
  obtain ⟨W1, hW⟩ : ∃ W1, firstWriteF X = W1 := ⟨_, rfl⟩
  rw [hW] at l1 l2 l5 l6 l7 l8 l9
  obtain ⟨R1, hR1⟩ : ∃ R1 : DOutbox, ⟨X.device, X.next, X.writes.drop 1⟩ = R1 := ⟨_, rfl⟩
  have HI1 : Hid (isOutboxF R1 = true) := Lib.hid (by rw [← hR1]; exact outbox_tail HIX.out (by omega))
  have h1l : R1.writes.length + 1 = X.writes.length := by rw [← hR1]; show (X.writes.drop 1).length + 1 = _; rw [List.length_drop]; omega
  rw [hR1] at l2
  have L1 := Lib.hid l1
  have L2 := Lib.hid l2
  have L3 := Lib.hid l3
  have L4 := Lib.hid l4
  have L5 := Lib.hid l5
  have L6 := Lib.hid l6
  have L7 := Lib.hid l7
  have HW := Lib.hid hW
  clear l1 l2 l3 l4 l5 l6 l7 hW hR1
  have ⟨c_HX, z_HX, f_HX⟩ := HX.out
  have ⟨c_HZ, z_HZ, f_HZ⟩ := HZ.out
  go_wp2_with fail
  refine (outFirstAs _ X W1 HW.out (by omega) _ (HR.out.below (by repeat (first | with_reducible exact belR | with_reducible apply belA | (with_reducible refine belS ?_ ?_; focus (first | omega | (simp; done) | (simp; omega))) | with_reducible apply belN | with_reducible apply belD | with_reducible assumption)))).mono ?_
  rintro e w4 ⟨rfl, hw1, hb⟩
  have hq : Below w3.heap.size w3 w4 := below_call (by repeat (first | with_reducible exact belR | with_reducible apply belA | (with_reducible refine belS ?_ ?_; focus (first | omega | (simp; done) | (simp; omega))) | with_reducible apply belN | with_reducible apply belD | with_reducible assumption)) (by first | omega | (simp; done) | (simp; omega)) hb
  clear c_HX z_HX f_HX c_HZ z_HZ f_HZ
  replace HX := Lib.hid (HX.out.keep hq)
  replace HY := Lib.hid (HY.out.keep hq)
  replace HZ := Lib.hid (HZ.out.keep hq)
  replace HO := Lib.hid (HO.out.below hq)
  replace HR := Lib.hid (HR.out.below hq)
  replace HB := Lib.hid (HB.out.trans (hq.mono HB.out.size))
  have HF := Lib.hid hw1
  clear hb hq hw1
  have ⟨c_HX, z_HX, f_HX⟩ := HX.out
  have ⟨c_HZ, z_HZ, f_HZ⟩ := HZ.out
  go_upto_region 11 with fail
  refine settle (fun W => WB W w4.heap.size #[.int .i64 W1.device, .int .i64 W1.seq, .int .i64 W1.key.kind, .int .i64 W1.key.n, .string W1.key.text, .string W1.field, .int .i64 W1.n] ∧ Below w4.heap.size w4 W ∧ w4.heap.size + 1 ≤ W.heap.size) ⟨WB.at rfl, (by repeat (first | with_reducible exact belR | with_reducible apply belA | (with_reducible refine belS ?_ ?_; focus (first | omega | (simp; done) | (simp; omega))) | with_reducible apply belN | with_reducible apply belD | with_reducible assumption)), by simp⟩ ?_
  clear c_HX z_HX f_HX c_HZ z_HZ f_HZ
  rintro w5 ⟨hv, hq, hz5⟩
  replace HX := Lib.hid (HX.out.keep hq)
  replace HY := Lib.hid (HY.out.keep hq)
  replace HZ := Lib.hid (HZ.out.keep hq)
  replace HO := Lib.hid (HO.out.below hq)
  replace HR := Lib.hid (HR.out.below hq)
  replace HF := Lib.hid (HF.out.below hq)
  replace HB := Lib.hid (HB.out.trans (hq.mono HB.out.size))
  have HV := Lib.hid hv
  clear hv hq
  have hsl : Reads (Rep.slice 35 DWrite.rep) w5 [.slice a2 X.writes.length k2] X.writes := by
    obtain ⟨g, hg⟩ := HR.out
    obtain ⟨v1, f1, hv1, _, r1⟩ := DOutbox.rd.1 hg
    simp only [List.cons.injEq, and_true, true_and] at hv1
    subst hv1
    exact ⟨_, r1⟩
  have HSL := Lib.hid hsl
  clear hsl
  obtain ⟨b, off, cs_b, rfl, hw_b, hr_b, hcell_b⟩ := slice_at HSL.out o.writes.length hlt
  obtain ⟨fe_b, hrd_b⟩ := hr_b
  have HR_b : Hid (Reads DWrite.rep w5 cs_b X.writes[o.writes.length]) := ⟨_, hrd_b⟩
  obtain ⟨rfl, _, b_s0, b_s1⟩ := DWrite.rd.1 hrd_b
  clear hrd_b
  have b_c0 : w5.cell? ⟨b, off + o.writes.length * 7, none⟩ = some (.int .i64 X.writes[o.writes.length].device) := hcell_b 0 (by decide)
  have b_c1 : w5.cell? ⟨b, off + o.writes.length * 7 + 1, none⟩ = some (.int .i64 X.writes[o.writes.length].seq) := hcell_b 1 (by decide)
  have b_c2 : w5.cell? ⟨b, off + o.writes.length * 7 + 2, none⟩ = some (.int .i64 X.writes[o.writes.length].key.kind) := hcell_b 2 (by decide)
  have b_c3 : w5.cell? ⟨b, off + o.writes.length * 7 + 3, none⟩ = some (.int .i64 X.writes[o.writes.length].key.n) := hcell_b 3 (by decide)
  have b_c4 : w5.cell? ⟨b, off + o.writes.length * 7 + 4, none⟩ = some (.string X.writes[o.writes.length].key.text) := hcell_b 4 (by decide)
  have b_c5 : w5.cell? ⟨b, off + o.writes.length * 7 + 5, none⟩ = some (.string X.writes[o.writes.length].field) := hcell_b 5 (by decide)
  have b_c6 : w5.cell? ⟨b, off + o.writes.length * 7 + 6, none⟩ = some (.int .i64 X.writes[o.writes.length].n) := hcell_b 6 (by decide)
  clear hcell_b
  rw [HLG.out] at b_c0 b_c1 b_c2 b_c3 b_c4 b_c5 b_c6
  have C0 := rg_cell (show w5.cell? ⟨b, off + o.writes.length * 7, none⟩ = some (.int .i64 o.device) from b_c0)
  have C1 := rg_cell (show w5.cell? ⟨b, off + o.writes.length * 7 + 1, none⟩ = some (.int .i64 o.next) from b_c1)
  have C2 := rg_cell (show w5.cell? ⟨b, off + o.writes.length * 7 + 2, none⟩ = some (.int .i64 y.kind) from b_c2)
  have C3 := rg_cell (show w5.cell? ⟨b, off + o.writes.length * 7 + 3, none⟩ = some (.int .i64 y.n) from b_c3)
  have C4 := rg_cell (show w5.cell? ⟨b, off + o.writes.length * 7 + 4, none⟩ = some (.string y.text) from b_c4)
  have C5 := rg_cell (show w5.cell? ⟨b, off + o.writes.length * 7 + 5, none⟩ = some (.string f) from b_c5)
  have C6 := rg_cell (show w5.cell? ⟨b, off + o.writes.length * 7 + 6, none⟩ = some (.int .i64 n) from b_c6)
  clear b_c0 b_c1 b_c2 b_c3 b_c4 b_c5 b_c6 HR_b b_s0 b_s1
  have K0 := rg_var HX.out
  have K1 := rg_var HY.out
  have K2 := rg_var HZ.out
  have i1 : (0 : Int) ≤ (o.writes.length : Int) := by omega
  have i2 : (o.writes.length : Int) < (X.writes.length : Int) := by omega
  have hw1 : IntKind.i64.wrap ((o.writes.length : Int) + 1) = (o.writes.length : Int) + 1 := Go.IntWalk.i64_in _ (by omega)
  have n1 : ((X.writes.length : Int) != (o.writes.length : Int) + 1) = false := by have := HLX.out; simp; omega
  have heq : ∀ W : World, (Op.equalIn 10000 35 (.agg #[.int .i64 o.device, .int .i64 o.next, .int .i64 y.kind, .int .i64 y.n, .string y.text, .string f, .int .i64 n]) (.agg #[.int .i64 o.device, .int .i64 o.next, .int .i64 y.kind, .int .i64 y.n, .string y.text, .string f, .int .i64 n])).run Try.prog W = .ok true W := fun W => (equalInWrite ⟨o.device, o.next, y, f, n⟩ ⟨o.device, o.next, y, f, n⟩ W).trans (by rw [decide_eq_true rfl])
  have HQ : Hid (∀ q, Below w5.heap.size w5 (rg w5 q)) := Lib.hid (rg_below w5)
  refine wp_region_rg (by kernel_rfl) (by kernel_rfl) ?_
  repeat (go_big_quiet_step ((go_at_call 11; exact calls_rg (outIsYes _ X HIX.out _ (HR.out.below (HQ.out _))))))
  refine wpQuiet_nil ?_
  rintro _ ⟨pq, rfl⟩
  clear C0 C1 C2 C3 C4 C5 C6 K0 K1 K2 hw1 n1 heq HQ hw_b
  have hq := rg_below w5 pq
  generalize rg w5 pq = w6 at *
  replace HZ := Lib.hid (HZ.out.keep hq)
  replace HV := Lib.hid (HV.out.keep hq)
  replace HR := Lib.hid (HR.out.below hq)
  replace HF := Lib.hid (HF.out.below hq)
  replace HB := Lib.hid (HB.out.trans (hq.mono HB.out.size))
  clear hq HSL HX HY HO HRK
  have hws : wrap64 (W1.seq - 1) = W1.seq - 1 := Go.IntWalk.wrap64_in _ (by omega)
  have ⟨c_HZ, z_HZ, f_HZ⟩ := HZ.out
  have ⟨c_HV, z_HV, f_HV⟩ := HV.out
  go_wp2_with fail
  refine (outAckAs _ X W1.seq 1 R1 L1.out L2.out _ (HR.out.below (by repeat (first | with_reducible exact belR | with_reducible apply belA | (with_reducible refine belS ?_ ?_; focus (first | omega | (simp; done) | (simp; omega))) | with_reducible apply belN | with_reducible apply belD | with_reducible assumption))) (by omega)).mono ?_
  rintro e w7 ⟨a7, k7, rfl, hr7, hb⟩
  have hq : Below w6.heap.size w6 w7 := below_call (by repeat (first | with_reducible exact belR | with_reducible apply belA | (with_reducible refine belS ?_ ?_; focus (first | omega | (simp; done) | (simp; omega))) | with_reducible apply belN | with_reducible apply belD | with_reducible assumption)) (by first | omega | (simp; done) | (simp; omega)) hb
  have HR7 := Lib.hid hr7
  clear c_HZ z_HZ f_HZ c_HV z_HV f_HV
  replace HZ := Lib.hid (HZ.out.keep hq)
  replace HV := Lib.hid (HV.out.keep hq)
  replace HR := Lib.hid (HR.out.below hq)
  replace HF := Lib.hid (HF.out.below hq)
  replace HB := Lib.hid (HB.out.trans (hq.mono HB.out.size))
  clear hb hq hr7
  have ⟨c_HZ, z_HZ, f_HZ⟩ := HZ.out
  have ⟨c_HV, z_HV, f_HV⟩ := HV.out
  go_wp2_with fail
  refine (outAckAs _ X X.next X.writes.length ⟨X.device, X.next, []⟩ L3.out L4.out _ (HR.out.below (by repeat (first | with_reducible exact belR | with_reducible apply belA | (with_reducible refine belS ?_ ?_; focus (first | omega | (simp; done) | (simp; omega))) | with_reducible apply belN | with_reducible apply belD | with_reducible assumption))) (by omega)).mono ?_
  rintro e w8 ⟨a8, k8, rfl, _, hb⟩
  have hq : Below w7.heap.size w7 w8 := below_call (by repeat (first | with_reducible exact belR | with_reducible apply belA | (with_reducible refine belS ?_ ?_; focus (first | omega | (simp; done) | (simp; omega))) | with_reducible apply belN | with_reducible apply belD | with_reducible assumption)) (by first | omega | (simp; done) | (simp; omega)) hb
  have HG : Hid (WB w8 w7.heap.size #[.int .i64 R1.device, .int .i64 R1.next, .slice a7 R1.writes.length k7]) := Lib.hid ((WB.at rfl).keep hb)
  clear c_HZ z_HZ f_HZ c_HV z_HV f_HV
  replace HZ := Lib.hid (HZ.out.keep hq)
  replace HV := Lib.hid (HV.out.keep hq)
  replace HR := Lib.hid (HR.out.below hq)
  replace HF := Lib.hid (HF.out.below hq)
  replace HR7 := Lib.hid (HR7.out.below hq)
  replace HB := Lib.hid (HB.out.trans (hq.mono HB.out.size))
  clear hb hq
  have ⟨c_HZ, z_HZ, f_HZ⟩ := HZ.out
  have ⟨c_HV, z_HV, f_HV⟩ := HV.out
  go_wp2_with fail
  refine (outAckAs _ X (W1.seq - 1) 0 X L5.out L6.out _ (HR.out.below (by repeat (first | with_reducible exact belR | with_reducible apply belA | (with_reducible refine belS ?_ ?_; focus (first | omega | (simp; done) | (simp; omega))) | with_reducible apply belN | with_reducible apply belD | with_reducible assumption))) (by omega)).mono ?_
  rintro e w9 ⟨a9, k9, rfl, hr9, hb⟩
  have hq : Below w8.heap.size w8 w9 := below_call (by repeat (first | with_reducible exact belR | with_reducible apply belA | (with_reducible refine belS ?_ ?_; focus (first | omega | (simp; done) | (simp; omega))) | with_reducible apply belN | with_reducible apply belD | with_reducible assumption)) (by first | omega | (simp; done) | (simp; omega)) hb
  have HJ : Hid (WB w9 w8.heap.size #[.int .i64 X.device, .int .i64 X.next, .slice a8 0 k8]) := Lib.hid ((WB.at rfl).keep hb)
  have HR9 := Lib.hid hr9
  clear c_HZ z_HZ f_HZ c_HV z_HV f_HV
  replace HZ := Lib.hid (HZ.out.keep hq)
  replace HV := Lib.hid (HV.out.keep hq)
  replace HG := Lib.hid (HG.out.keep hq)
  replace HR := Lib.hid (HR.out.below hq)
  replace HF := Lib.hid (HF.out.below hq)
  replace HR7 := Lib.hid (HR7.out.below hq)
  replace HB := Lib.hid (HB.out.trans (hq.mono HB.out.size))
  clear hb hq hr9 hws
  go_upto_region 16 with fail
  refine settle (fun W => WB W w9.heap.size #[.int .i64 X.device, .int .i64 X.next, .slice a9 X.writes.length k9] ∧ Below w9.heap.size w9 W) ⟨WB.at rfl, (by repeat (first | with_reducible exact belR | with_reducible apply belA | (with_reducible refine belS ?_ ?_; focus (first | omega | (simp; done) | (simp; omega))) | with_reducible apply belN | with_reducible apply belD | with_reducible assumption))⟩ ?_
  rintro w10 ⟨hm, hq⟩
  have HM := Lib.hid hm
  replace HZ := Lib.hid (HZ.out.keep hq)
  replace HV := Lib.hid (HV.out.keep hq)
  replace HG := Lib.hid (HG.out.keep hq)
  replace HJ := Lib.hid (HJ.out.keep hq)
  replace HR := Lib.hid (HR.out.below hq)
  replace HF := Lib.hid (HF.out.below hq)
  replace HR7 := Lib.hid (HR7.out.below hq)
  replace HR9 := Lib.hid (HR9.out.below hq)
  replace HB := Lib.hid (HB.out.trans (hq.mono HB.out.size))
  clear hq hm
  have hw2 : wrap64 ((X.writes.length : Int) - 1) = (X.writes.length : Int) - 1 := Go.IntWalk.wrap64_in _ (by omega)
  have n2 : ((R1.writes.length : Int) == (X.writes.length : Int) - 1) = true := by simp; omega
  have ⟨c_HZ, z_HZ, f_HZ⟩ := HZ.out
  have ⟨c_HV, z_HV, f_HV⟩ := HV.out
  have ⟨c_HG, z_HG, f_HG⟩ := HG.out
  have ⟨c_HJ, z_HJ, f_HJ⟩ := HJ.out
  have ⟨c_HM, z_HM, f_HM⟩ := HM.out
  go_wp2_with fail
  refine (outIsYes _ R1 HI1.out _ (HR7.out.below (by repeat (first | with_reducible exact belR | with_reducible apply belA | (with_reducible refine belS ?_ ?_; focus (first | omega | (simp; done) | (simp; omega))) | with_reducible apply belN | with_reducible apply belD | with_reducible assumption)))).mono ?_
  rintro e w11 ⟨rfl, hb⟩
  have hq : Below w10.heap.size w10 w11 := below_call (by repeat (first | with_reducible exact belR | with_reducible apply belA | (with_reducible refine belS ?_ ?_; focus (first | omega | (simp; done) | (simp; omega))) | with_reducible apply belN | with_reducible apply belD | with_reducible assumption)) (by first | omega | (simp; done) | (simp; omega)) hb
  clear c_HZ z_HZ f_HZ c_HV z_HV f_HV c_HG z_HG f_HG c_HJ z_HJ f_HJ c_HM z_HM f_HM
  replace HZ := Lib.hid (HZ.out.keep hq)
  replace HV := Lib.hid (HV.out.keep hq)
  replace HG := Lib.hid (HG.out.keep hq)
  replace HJ := Lib.hid (HJ.out.keep hq)
  replace HM := Lib.hid (HM.out.keep hq)
  replace HR := Lib.hid (HR.out.below hq)
  replace HF := Lib.hid (HF.out.below hq)
  replace HR9 := Lib.hid (HR9.out.below hq)
  replace HB := Lib.hid (HB.out.trans (hq.mono HB.out.size))
  clear hb hq
  have ⟨c_HZ, z_HZ, f_HZ⟩ := HZ.out
  have ⟨c_HV, z_HV, f_HV⟩ := HV.out
  have ⟨c_HG, z_HG, f_HG⟩ := HG.out
  have ⟨c_HJ, z_HJ, f_HJ⟩ := HJ.out
  have ⟨c_HM, z_HM, f_HM⟩ := HM.out
  go_wp2_with fail
  refine (outEqualSelf _ _ X _ (HR9.out.below (by repeat (first | with_reducible exact belR | with_reducible apply belA | (with_reducible refine belS ?_ ?_; focus (first | omega | (simp; done) | (simp; omega))) | with_reducible apply belN | with_reducible apply belD | with_reducible assumption))) (HR.out.below (by repeat (first | with_reducible exact belR | with_reducible apply belA | (with_reducible refine belS ?_ ?_; focus (first | omega | (simp; done) | (simp; omega))) | with_reducible apply belN | with_reducible apply belD | with_reducible assumption)))).mono ?_
  rintro e w12 ⟨rfl, hb⟩
  have hq : Below w11.heap.size w11 w12 := below_call (by repeat (first | with_reducible exact belR | with_reducible apply belA | (with_reducible refine belS ?_ ?_; focus (first | omega | (simp; done) | (simp; omega))) | with_reducible apply belN | with_reducible apply belD | with_reducible assumption)) (by first | omega | (simp; done) | (simp; omega)) hb
  clear c_HZ z_HZ f_HZ c_HV z_HV f_HV c_HG z_HG f_HG c_HJ z_HJ f_HJ c_HM z_HM f_HM
  replace HZ := Lib.hid (HZ.out.keep hq)
  replace HV := Lib.hid (HV.out.keep hq)
  replace HG := Lib.hid (HG.out.keep hq)
  replace HJ := Lib.hid (HJ.out.keep hq)
  replace HM := Lib.hid (HM.out.keep hq)
  replace HR := Lib.hid (HR.out.below hq)
  replace HF := Lib.hid (HF.out.below hq)
  replace HR9 := Lib.hid (HR9.out.below hq)
  replace HB := Lib.hid (HB.out.trans (hq.mono HB.out.size))
  clear hb hq
  have ⟨c_HZ, z_HZ, f_HZ⟩ := HZ.out
  have ⟨c_HV, z_HV, f_HV⟩ := HV.out
  have ⟨c_HG, z_HG, f_HG⟩ := HG.out
  have ⟨c_HJ, z_HJ, f_HJ⟩ := HJ.out
  have ⟨c_HM, z_HM, f_HM⟩ := HM.out
  go_wp2_with fail
  refine (outQueuedYes _ W1 L7.out _ (HF.out.below (by repeat (first | with_reducible exact belR | with_reducible apply belA | (with_reducible refine belS ?_ ?_; focus (first | omega | (simp; done) | (simp; omega))) | with_reducible apply belN | with_reducible apply belD | with_reducible assumption)))).mono ?_
  rintro e w13 ⟨rfl, hb⟩
  have HB13 : Hid (Below w.heap.size w w13) := Lib.hid (HB.out.trans ((below_call (by repeat (first | with_reducible exact belR | with_reducible apply belA | (with_reducible refine belS ?_ ?_; focus (first | omega | (simp; done) | (simp; omega))) | with_reducible apply belN | with_reducible apply belD | with_reducible assumption)) (by first | omega | (simp; done) | (simp; omega)) hb : Below w12.heap.size w12 w13).mono HB.out.size))
  clear hb
  go_wp2
  go_ret
  exact ⟨rfl, HB13.out⟩

end Go.Proofs.Yteajhmpppciicaa
