/-
  AckWrites.
-/
import Derived.Test.YteajhmpppciicaaOutboxes
import Derived.Test.YteajhmpppciicaaFuncsFam
import Derived.Test.YteajhmpppciicaaBase
namespace Go.Proofs.Yteajhmpppciicaa
open Go.RowKit

def ackKept (l : List DWrite) (seq : Int) : List DWrite := l.filter fun m => !decide (m.seq ≤ seq)
def ackOut (x : DOutbox) (seq : Int) : DOutbox := ⟨x.device, x.next, ackKept x.writes seq⟩
def ackWritesF (x : DOutbox) (seq : Int) : DOutbox := if isOutboxF x then ackOut x seq else x
def ackWritesN (x : DOutbox) (seq : Int) : Int := if isOutboxF x then (x.writes.length : Int) - ((ackKept x.writes seq).length : Int) else 0
theorem ackKept_le (l : List DWrite) (seq : Int) : (ackKept l seq).length ≤ l.length := List.length_filter_le _ _

/-- In an outbox the numbers rise one by one. -/
theorem outbox_seq {x : DOutbox} (h : isOutboxF x = true) {i : Nat} (hi : i < x.writes.length) : x.writes[i].seq = x.next - x.writes.length + i := by
  rw [isOutboxF, Bool.and_eq_true, List.all_eq_true] at h
  obtain ⟨h1, h2⟩ := h
  have h3 := h1 i (List.mem_range.2 hi)
  rw [out_at hi] at h3
  simp only [Bool.and_eq_true, within, decide_eq_true_eq, Bool.not_eq_true', bne_eq_false_iff_eq] at h3 h2
  rw [h3.2.2, Go.IntWalk.wrap64_in _ (by rw [Go.IntWalk.wrap64_in _ (by omega)]; omega), Go.IntWalk.wrap64_in _ (by omega)]
theorem ack_drop {x : DOutbox} {seq : Int} (h : isOutboxF x = true) : ∀ (n k : Nat), x.writes.length - k = n → k ≤ x.writes.length → (∀ i, (hi : i < x.writes.length) → i < k → x.writes[i].seq ≤ seq) → (∀ hk : k < x.writes.length, ¬ x.writes[k].seq ≤ seq) → ackKept x.writes seq = x.writes.drop k := by
  intro n k _ hk hlo hhi
  have e : x.writes = x.writes.take k ++ x.writes.drop k := (List.take_append_drop _ _).symm
  have e1 : ackKept (x.writes.take k) seq = [] := by
    unfold ackKept
    rw [List.filter_eq_nil_iff]
    intro m hm
    obtain ⟨j, hj, rfl⟩ := List.mem_take_iff_getElem.1 hm
    have := hlo j (by omega) (by omega)
    simp [this]
  have e2 : ackKept (x.writes.drop k) seq = x.writes.drop k := by
    unfold ackKept
    rw [List.filter_eq_self]
    intro m hm
    obtain ⟨j, hj, rfl⟩ := List.mem_drop_iff_getElem.1 hm
    have h0 := hhi (by omega)
    have h1 := outbox_seq h (i := k) (by omega)
    have h2 := outbox_seq h (i := j + k) (by omega)
    have e3 : x.writes[k + j] = x.writes[j + k] := by congr 1; omega
    simp only [e3, Bool.not_eq_true', decide_eq_false_iff_not]
    omega
  have e4 : ackKept x.writes seq = ackKept (x.writes.take k) seq ++ ackKept (x.writes.drop k) seq := by
    unfold ackKept
    rw [← List.filter_append, List.take_append_drop]
  rw [e4, e1, e2, List.nil_append]

theorem ackPred (seq : Int) (B k : Nat) (w : World) (hk : k < B) (hc : w.cell? ⟨k, 0, none⟩ = some (.int .i64 seq)) : PredOn Try.prog DWrite.rep 31 #[.pointer (some ⟨k, 0, none⟩)] (fun m => decide (m.seq ≤ seq)) B w := by
  intro W cs x hb hr
  obtain ⟨fp, hr⟩ := hr
  obtain ⟨rfl, _, _, _⟩ := DWrite.rd.1 hr
  have hc' := (hb.cell (p := ⟨k, 0, none⟩) hk).trans hc
  have hkW := block_lt_of_cell hc'
  clear hr hb hc
  change Calls Try.prog 31 #[.agg #[.int .i64 x.device, .int .i64 x.seq, .int .i64 x.key.kind, .int .i64 x.key.n, .string x.key.text, .string x.field, .int .i64 x.n], .pointer (some ⟨k, 0, none⟩)] W _
  go_enter Try.func31, Try.ntmps31
  go_wp2
  go_ret
  exact ⟨rfl, (by repeat (first | with_reducible exact belR | with_reducible apply belA | (with_reducible refine belS ?_ ?_; focus (first | omega | (simp; done) | (simp; omega))) | with_reducible apply belN | with_reducible apply belD | with_reducible assumption))⟩

set_option maxRecDepth 100000 in
set_option maxHeartbeats 4000000 in
theorem implAckWrites (cs : List Value) (x : DOutbox) (seq : Int) (w : World) (h : Reads DOutbox.rep w cs x) (hs : x.writes.length ≤ 1048600) :
    Calls Try.prog 12 #[.agg cs.toArray, .int .i64 seq] w fun e w' => ∃ ds, e = .returned (.tuple #[.agg ds.toArray, .int .i64 (ackWritesN x seq)]) ∧ Fresh DOutbox.rep w.heap.size w' ds (ackWritesF x seq) ∧ Below w.heap.size w w' := by
  have HH := Lib.hid h
  obtain ⟨fp_q, h⟩ := h
  obtain ⟨q_v1, q_f1, rfl, _, q_r1⟩ := DOutbox.rd.1 h
  obtain ⟨q_a1, q_c1, rfl, q_hm1, q_lc1, q_hu1⟩ := slice_open q_r1; clear q_hu1
  have q_K1 : Hid (Reads (Rep.slice 35 DWrite.rep) w [.slice q_a1 x.writes.length q_c1] x.writes) := ⟨_, q_r1⟩
  clear q_r1 h
  go_enter Try.func12, Try.ntmps12
  go_wp2_with fail
  refine (implCopyOutbox _ x _ (HH.out.below (by repeat (first | with_reducible exact belR | with_reducible apply belA | (with_reducible refine belS ?_ ?_; focus (first | omega | (simp; done) | (simp; omega))) | with_reducible apply belN | with_reducible apply belD | with_reducible assumption))) (by omega)).mono ?_
  rintro e w1 ⟨ds, rfl, hf, hb⟩
  obtain ⟨ao, cap, rfl, hfw⟩ := DOutbox.fopen hf
  have HF : Hid (Fresh (Rep.slice 35 DWrite.rep) (w.heap.size + 3) w1 [.slice ao x.writes.length cap] x.writes) := Lib.hid (hfw.mono (by simp))
  have hb3 := hb.mono (B' := w.heap.size + 3) (by simp)
  have HX : Hid (WB w1 w.heap.size #[.int .i64 x.device, .int .i64 x.next, .slice q_a1 x.writes.length q_c1]) := Lib.hid (((WB.at rfl).growA.growA).grow hb3 (by omega))
  have HP : Hid (WB w1 (w.heap.size + 1) #[.int .i64 seq]) := Lib.hid (((WB.at (by simp)).growA).grow hb3 (by omega))
  have HR : Hid (WB w1 (w.heap.size + 2) #[.int .i64 0, .int .i64 0, .slice none 0 0]) := Lib.hid ((WB.at (by simp)).grow hb3 (by omega))
  have HB : Hid (Below w.heap.size w w1) := Lib.hid (Below.trans (by repeat (first | with_reducible exact belR | (with_reducible refine belAB ?_ ?_; focus (first | omega | (simp; done) | (simp; omega))) | (with_reducible refine belS ?_ ?_; focus (first | omega | (simp; done) | (simp; omega))) | with_reducible apply belN | with_reducible apply belD | with_reducible assumption)) (hb3.mono (by omega)))
  have hz : w.heap.size + 3 ≤ w1.heap.size := by have y := hb3.size; simp at y; omega
  have hlt : Hid (∀ b, (Value.slice ao x.writes.length cap).ownBlock = some b → w.heap.size + 3 ≤ b ∧ b < w1.heap.size) := Lib.hid fun b hb => HF.out.ownlt b (by rw [hb]; simp)
  clear hf hfw hb hb3
  have ⟨c_HX, z_HX, f_HX⟩ := HX.out
  go_wp2_with fail
  refine (implIsOutbox _ x _ (HH.out.below (by have y := HB.out; exact (by repeat (first | with_reducible exact belR | with_reducible apply belA | (with_reducible refine belS ?_ ?_; focus (first | omega | (simp; done) | (simp; omega))) | with_reducible apply belN | with_reducible apply belD | with_reducible assumption))))).mono ?_
  rintro e w2 ⟨rfl, hb⟩
  have hq : Below w1.heap.size w1 w2 := below_call (by repeat (first | with_reducible exact belR | with_reducible apply belA | (with_reducible refine belS ?_ ?_; focus (first | omega | (simp; done) | (simp; omega))) | with_reducible apply belN | with_reducible apply belD | with_reducible assumption)) (by first | omega | (simp; done) | (simp; omega)) hb
  have HO : Hid (WB w2 w1.heap.size #[.int .i64 x.device, .int .i64 x.next, .slice ao x.writes.length cap]) := Lib.hid ((WB.at rfl).keep hb)
  have hsz2 : w1.heap.size + 1 ≤ w2.heap.size := by have y := hb.size; simp at y; omega
  clear c_HX z_HX f_HX
  replace HX := Lib.hid (HX.out.keep hq)
  replace HP := Lib.hid (HP.out.keep hq)
  replace HR := Lib.hid (HR.out.keep hq)
  replace HF := Lib.hid (HF.out.below hq)
  replace HB := Lib.hid (HB.out.trans (hq.mono HB.out.size))
  clear hb hq
  have ⟨c_HR, z_HR, f_HR⟩ := HR.out
  have ⟨c_HO, z_HO, f_HO⟩ := HO.out
  cases a1 : isOutboxF x
  · have hF : Hid (ackWritesF x seq = x) := Lib.hid (by rw [ackWritesF, a1]; rfl)
    have hN : Hid (ackWritesN x seq = 0) := Lib.hid (by rw [ackWritesN, a1]; rfl)
    go_wp2
    refine bodyPost_ret (v := .tuple #[.agg #[.int .i64 x.device, .int .i64 x.next, .slice ao x.writes.length cap], .int .i64 0]) (by simp [results, Try.results12, go_sem, c_HR]) rfl ⟨_, by rw [hN.out], ?_, ?_⟩
    · rw [hF.out]
      exact DOutbox.fmk (Fresh.mono (B := (w.heap.size + 3)) (by repeat (first | exact HF.out | refine Fresh.setLow ?_ (by omega) | refine Fresh.drew ?_)) (by omega))
    · have y := HB.out
      exact (by repeat (first | with_reducible exact belR | (with_reducible refine belAB ?_ ?_; focus (first | omega | (simp; done) | (simp; omega))) | (with_reducible refine belS ?_ ?_; focus (first | omega | (simp; done) | (simp; omega))) | with_reducible apply belN | with_reducible apply belD | with_reducible assumption))
  · have hF : Hid (ackWritesF x seq = ackOut x seq) := Lib.hid (by rw [ackWritesF, a1]; rfl)
    have hN : Hid (ackWritesN x seq = (x.writes.length : Int) - ((ackKept x.writes seq).length : Int)) := Lib.hid (by rw [ackWritesN, a1]; rfl)
    have hle := ackKept_le x.writes seq
    go_wp2_with fail
    refine (deleteFuncWrite _ _ (fun m => decide (m.seq ≤ seq)) (w.heap.size + 3) _ _ _ (enters_at Try.func31 (by kernel_rfl) rfl) HF.out (ackPred seq _ _ _ (by omega) (HP.out.cell 0)) (by omega)).mono ?_
    rintro e w3 ⟨v', rfl, hf', hc, hv'⟩
    have hf : Fresh (Rep.slice 35 DWrite.rep) (w.heap.size + 3) w3 [v'] (ackKept x.writes seq) := hf'
    clear hf'
    obtain ⟨bo, cap2, rfl⟩ := hf.slice
    clear c_HR z_HR f_HR c_HO z_HO f_HO
    have hno : ∀ b, b < w.heap.size + 3 ∨ b = w1.heap.size → b ∉ (Value.slice ao x.writes.length cap).ownBlock.toList := fun b hb hm => by
      have := hlt.out b (by simpa using hm); omega
    have hap := Lib.hid (show w1.heap.size ∉ (Value.slice bo (ackKept x.writes seq).length cap2).ownBlock.toList from fun hm => hno _ (.inr rfl) (hv' _ hm))
    replace HO := Lib.hid (HO.out.chg hc (hno _ (by omega)))
    replace HX := Lib.hid (HX.out.chg hc (hno _ (by omega)))
    replace HR := Lib.hid (HR.out.chg hc (hno _ (by omega)))
    replace HB : Hid (Below w.heap.size w w3) := Lib.hid (by have y := HB.out; exact Below.trans (by repeat (first | with_reducible exact belR | with_reducible apply belA | (with_reducible refine belS ?_ ?_; focus (first | omega | (simp; done) | (simp; omega))) | with_reducible apply belN | with_reducible apply belD | with_reducible assumption)) (hc.below (fun b hm => by have := hlt.out b (by simpa using hm); omega) (by omega)))
    replace HF := Lib.hid hf
    have hz3 : w2.heap.size ≤ w3.heap.size := hc.size
    clear hf hc hv' hno HP
    have ⟨c_HX, z_HX, f_HX⟩ := HX.out
    have ⟨c_HO, z_HO, f_HO⟩ := HO.out
    have ⟨c_HR, z_HR, f_HR⟩ := HR.out
    go_wp2_with fail
    refine settle (fun W => WB W w.heap.size #[.int .i64 x.device, .int .i64 x.next, .slice q_a1 x.writes.length q_c1] ∧ WB W (w.heap.size + 2) #[.int .i64 0, .int .i64 0, .slice none 0 0] ∧ WB W w1.heap.size #[.int .i64 x.device, .int .i64 x.next, .slice bo (ackKept x.writes seq).length cap2] ∧ Fresh (Rep.slice 35 DWrite.rep) (w.heap.size + 3) W [.slice bo (ackKept x.writes seq).length cap2] (ackKept x.writes seq) ∧ Below w.heap.size w W) ⟨HX.out.setOther (by omega), HR.out.setOther (by omega), HO.out.setAt (by simp) rfl, DWrite.flat.setApart HF.out hap.out, by have y := HB.out; exact (by repeat (first | with_reducible exact belR | (with_reducible refine belAB ?_ ?_; focus (first | omega | (simp; done) | (simp; omega))) | (with_reducible refine belS ?_ ?_; focus (first | omega | (simp; done) | (simp; omega))) | with_reducible apply belN | with_reducible apply belD | with_reducible assumption))⟩ ?_
    clear c_HX z_HX f_HX c_HO z_HO f_HO c_HR z_HR f_HR
    clear HX HR HO HF HB
    rintro w4 ⟨hx, hr, ho, hf, hb⟩
    have HX := Lib.hid hx
    have HR := Lib.hid hr
    have HO := Lib.hid ho
    have HF := Lib.hid hf
    have HB := Lib.hid hb
    clear hx hr ho hf hb
    have ⟨c_HX, z_HX, f_HX⟩ := HX.out
    have ⟨c_HO, z_HO, f_HO⟩ := HO.out
    have ⟨c_HR, z_HR, f_HR⟩ := HR.out
    have hw : IntKind.i64.wrap ((x.writes.length : Int) - ((ackKept x.writes seq).length : Int)) = (x.writes.length : Int) - ((ackKept x.writes seq).length : Int) := Go.IntWalk.i64_in _ (by omega)
    go_region
    all_goals
      clear hw
      go_wp2
      refine bodyPost_ret (v := .tuple #[.agg #[.int .i64 x.device, .int .i64 x.next, .slice bo (ackKept x.writes seq).length cap2], .int .i64 ((x.writes.length : Int) - ((ackKept x.writes seq).length : Int))]) (by simp [results, Try.results12, go_sem, c_HR]) rfl ⟨_, by rw [hN.out], ?_, ?_⟩
      · rw [hF.out]
        exact DOutbox.fmk (x := ackOut x seq) (Fresh.mono (B := (w.heap.size + 3)) (by repeat (first | exact HF.out | refine Fresh.setLow ?_ (by omega) | refine Fresh.drew ?_)) (by omega))
      · have y := HB.out
        exact (by repeat (first | with_reducible exact belR | (with_reducible refine belAB ?_ ?_; focus (first | omega | (simp; done) | (simp; omega))) | (with_reducible refine belS ?_ ?_; focus (first | omega | (simp; done) | (simp; omega))) | with_reducible apply belN | with_reducible apply belD | with_reducible assumption))

set_option maxRecDepth 100000 in
set_option maxHeartbeats 4000000 in
theorem specAckWrites (cs : List Value) (x : DOutbox) (seq : Int) (w : World) (h : Reads DOutbox.rep w cs x) (hs : x.writes.length ≤ 1048600) :
    Calls Try.prog 82 #[.agg cs.toArray, .int .i64 seq] w fun e w' => ∃ ds, e = .returned (.tuple #[.agg ds.toArray, .int .i64 (ackWritesN x seq)]) ∧ Fresh DOutbox.rep w.heap.size w' ds (ackWritesF x seq) ∧ Below w.heap.size w w' := by
  have HH := Lib.hid h
  obtain ⟨fp_q, h⟩ := h
  obtain ⟨q_v1, q_f1, rfl, _, q_r1⟩ := DOutbox.rd.1 h
  obtain ⟨q_a1, q_c1, rfl, q_hm1, q_lc1, q_hu1⟩ := slice_open q_r1; clear q_hu1
  have q_K1 : Hid (Reads (Rep.slice 35 DWrite.rep) w [.slice q_a1 x.writes.length q_c1] x.writes) := ⟨_, q_r1⟩
  clear q_r1 h
  obtain ⟨i0, hi, hz0, hz1, hz2⟩ := info_parts infoWrite
  go_enter Try.func82, Try.ntmps82
  go_wp2_with fail
  refine (specCopyOutbox _ x _ (HH.out.below (by repeat (first | with_reducible exact belR | with_reducible apply belA | (with_reducible refine belS ?_ ?_; focus (first | omega | (simp; done) | (simp; omega))) | with_reducible apply belN | with_reducible apply belD | with_reducible assumption))) (by omega)).mono ?_
  rintro e w1 ⟨ds, rfl, hf, hb⟩
  obtain ⟨ao, cap, rfl, hfw⟩ := DOutbox.fopen hf
  have HF : Hid (Fresh (Rep.slice 35 DWrite.rep) (w.heap.size + 2) w1 [.slice ao x.writes.length cap] x.writes) := Lib.hid (hfw.mono (by simp))
  have hb3 := hb.mono (B' := w.heap.size + 2) (by simp)
  have HX : Hid (WB w1 w.heap.size #[.int .i64 x.device, .int .i64 x.next, .slice q_a1 x.writes.length q_c1]) := Lib.hid (((WB.at rfl).growA).grow hb3 (by omega))
  have HR : Hid (WB w1 (w.heap.size + 1) #[.int .i64 0, .int .i64 0, .slice none 0 0]) := Lib.hid ((WB.at (by simp)).grow hb3 (by omega))
  have HB : Hid (Below w.heap.size w w1) := Lib.hid (Below.trans (by repeat (first | with_reducible exact belR | (with_reducible refine belAB ?_ ?_; focus (first | omega | (simp; done) | (simp; omega))) | (with_reducible refine belS ?_ ?_; focus (first | omega | (simp; done) | (simp; omega))) | with_reducible apply belN | with_reducible apply belD | with_reducible assumption)) (hb3.mono (by omega)))
  have hz : w.heap.size + 2 ≤ w1.heap.size := by have y := hb3.size; simp at y; omega
  clear hf hfw hb hb3
  have ⟨c_HX, z_HX, f_HX⟩ := HX.out
  go_wp2_with fail
  refine (specIsOutbox _ x _ (HH.out.below (by have y := HB.out; exact (by repeat (first | with_reducible exact belR | with_reducible apply belA | (with_reducible refine belS ?_ ?_; focus (first | omega | (simp; done) | (simp; omega))) | with_reducible apply belN | with_reducible apply belD | with_reducible assumption))))).mono ?_
  rintro e w2 ⟨rfl, hb⟩
  have hq : Below w1.heap.size w1 w2 := below_call (by repeat (first | with_reducible exact belR | with_reducible apply belA | (with_reducible refine belS ?_ ?_; focus (first | omega | (simp; done) | (simp; omega))) | with_reducible apply belN | with_reducible apply belD | with_reducible assumption)) (by first | omega | (simp; done) | (simp; omega)) hb
  have HO : Hid (WB w2 w1.heap.size #[.int .i64 x.device, .int .i64 x.next, .slice ao x.writes.length cap]) := Lib.hid ((WB.at rfl).keep hb)
  have hsz2 : w1.heap.size + 1 ≤ w2.heap.size := by have y := hb.size; simp at y; omega
  clear c_HX z_HX f_HX
  replace HX := Lib.hid (HX.out.keep hq)
  replace HR := Lib.hid (HR.out.keep hq)
  replace HF := Lib.hid (HF.out.below hq)
  replace HB := Lib.hid (HB.out.trans (hq.mono HB.out.size))
  clear hb hq
  have ⟨c_HX, z_HX, f_HX⟩ := HX.out
  have ⟨c_HR, z_HR, f_HR⟩ := HR.out
  have ⟨c_HO, z_HO, f_HO⟩ := HO.out
  cases a1 : isOutboxF x
  · have hF : Hid (ackWritesF x seq = x) := Lib.hid (by rw [ackWritesF, a1]; rfl)
    have hN : Hid (ackWritesN x seq = 0) := Lib.hid (by rw [ackWritesN, a1]; rfl)
    go_wp2
    refine bodyPost_ret (v := .tuple #[.agg #[.int .i64 x.device, .int .i64 x.next, .slice ao x.writes.length cap], .int .i64 0]) (by simp [results, Try.results82, go_sem, c_HR]) rfl ⟨_, by rw [hN.out], ?_, ?_⟩
    · rw [hF.out]
      exact DOutbox.fmk (Fresh.mono (B := (w.heap.size + 2)) (by repeat (first | exact HF.out | refine Fresh.setLow ?_ (by omega) | refine Fresh.drew ?_)) (by omega))
    · have y := HB.out
      exact (by repeat (first | with_reducible exact belR | (with_reducible refine belAB ?_ ?_; focus (first | omega | (simp; done) | (simp; omega))) | (with_reducible refine belS ?_ ?_; focus (first | omega | (simp; done) | (simp; omega))) | with_reducible apply belN | with_reducible apply belD | with_reducible assumption))
  · have hF : Hid (ackWritesF x seq = ackOut x seq) := Lib.hid (by rw [ackWritesF, a1]; rfl)
    have hN : Hid (ackWritesN x seq = (x.writes.length : Int) - ((ackKept x.writes seq).length : Int)) := Lib.hid (by rw [ackWritesN, a1]; rfl)
    have HA := Lib.hid a1
    clear HF
    go_wp2
    go_loop [7] (fun i => ∃ k : Nat, k ≤ x.writes.length ∧ i = .int .i64 k ∧ Hid (∀ i, (hi : i < x.writes.length) → i < k → x.writes[i].seq ≤ seq)) (fun i => x.writes.length - (intOf i).toNat)
    case atStart => exact ⟨0, by omega, rfl, Lib.hid (by intro i hi hk; omega)⟩
    case round =>
      obtain ⟨k, hk, rfl, HL⟩ := hrel
      have hstop : (Hid (∀ hk : k < x.writes.length, ¬ x.writes[k].seq ≤ seq)) ∨ ∃ hk : k < x.writes.length, x.writes[k].seq ≤ seq := by
        by_cases h1 : k < x.writes.length
        · by_cases h2 : x.writes[k].seq ≤ seq
          · exact .inr ⟨h1, h2⟩
          · exact .inl (Lib.hid fun _ => h2)
        · exact .inl (Lib.hid fun h => absurd h h1)
      rcases hstop with HS | ⟨hlt, hle⟩
      · have hsl := fun W => run_tail (P := Try.prog) (t := 24) (n := 7) (by kernel_rfl) (fun _ => by kernel_rfl) q_a1 k x.writes.length q_c1 hk W
        have HT := Lib.hid (Reads.tail (q_K1.out.below HB.out) k hk)
        have HE := Lib.hid (ack_drop HA.out _ k rfl hk HL.out HS.out)
        have hlen : (x.writes.drop k).length ≤ 1048600 := by rw [List.length_drop]; omega
        have j1 : (0 : Int) ≤ (k : Int) := by omega
        have j2 : (k : Int) ≤ (x.writes.length : Int) := by omega
        have hR : ((x.writes.length : Int) - ((ackKept x.writes seq).length : Int)) = (k : Int) := by rw [HE.out, List.length_drop]; omega
        have HN : Hid (ackWritesN x seq = (k : Int)) := Lib.hid (hN.out.trans hR)
        clear hR
        by_cases hlt : k < x.writes.length
        case' pos =>
          have hns := HS.out hlt
          obtain ⟨b, off, cs_b, rfl, hw_b, hr_b, hcell_b⟩ := slice_at (q_K1.out.below HB.out) k hlt
          obtain ⟨fe_b, hrd_b⟩ := hr_b
          have HR_b : Hid (Reads DWrite.rep w2 cs_b x.writes[k]) := ⟨_, hrd_b⟩
          obtain ⟨rfl, _, b_s0, b_s1⟩ := DWrite.rd.1 hrd_b
          clear hrd_b
          have b_c0 : w2.cell? ⟨b, off + k * 7, none⟩ = some (.int .i64 x.writes[k].device) := hcell_b 0 (by decide)
          have b_c1 : w2.cell? ⟨b, off + k * 7 + 1, none⟩ = some (.int .i64 x.writes[k].seq) := hcell_b 1 (by decide)
          have b_c2 : w2.cell? ⟨b, off + k * 7 + 2, none⟩ = some (.int .i64 x.writes[k].key.kind) := hcell_b 2 (by decide)
          have b_c3 : w2.cell? ⟨b, off + k * 7 + 3, none⟩ = some (.int .i64 x.writes[k].key.n) := hcell_b 3 (by decide)
          have b_c4 : w2.cell? ⟨b, off + k * 7 + 4, none⟩ = some (.string x.writes[k].key.text) := hcell_b 4 (by decide)
          have b_c5 : w2.cell? ⟨b, off + k * 7 + 5, none⟩ = some (.string x.writes[k].field) := hcell_b 5 (by decide)
          have b_c6 : w2.cell? ⟨b, off + k * 7 + 6, none⟩ = some (.int .i64 x.writes[k].n) := hcell_b 6 (by decide)
          clear hcell_b
          have i2 : (k : Int) < (x.writes.length : Int) := by omega
        all_goals
          go_wp2_with (at_builtin; refine wpList_grow _ rfl _ _ 24 24 rfl DWrite.flat w2.heap.size 35 i0 _ _ Try.underlying24 hi hz0 hz1 hz2 rfl _ [] rfl (lit_fresh DWrite.flat (w := _) (xs := #[]) (us := []) rfl rfl (by decide) (by simp) (by simp)) _ (x.writes.drop k) rfl (DWrite.flat.src Try.underlying24 (HT.out.below (by repeat (first | with_reducible exact belR | with_reducible apply belA | (with_reducible refine belS ?_ ?_; focus (first | omega | (simp; done) | (simp; omega))) | with_reducible apply belN | with_reducible apply belD | with_reducible assumption)))) ?c1a ?c2a ?c3a ?c4a ?_)
          case c1a => exact (DWrite.flat.row HT.out).2
          case c2a => (try simp only [List.length_nil, Nat.zero_add]); omega
          case c3a => (try simp only [List.length_nil, Nat.zero_add]); unfold maxLen; omega
          try (case c4a => simp; try omega)
          intro ao1 cap1 w3 hf1 hb1
          have HF1 := Lib.hid hf1
          have hq : Below w2.heap.size w2 w3 := Below.trans (by repeat (first | with_reducible exact belR | (with_reducible refine belAB ?_ ?_; focus (first | omega | (simp; done) | (simp; omega))) | (with_reducible refine belS ?_ ?_; focus (first | omega | (simp; done) | (simp; omega))) | with_reducible apply belN | with_reducible apply belD | with_reducible assumption)) hb1
          clear hf1 hb1
          clear c_HX z_HX f_HX c_HR z_HR f_HR c_HO z_HO f_HO
          replace HO := Lib.hid (HO.out.keep hq)
          replace HR := Lib.hid (HR.out.keep hq)
          replace HB := Lib.hid (HB.out.trans (hq.mono HB.out.size))
          have hsz3 := hq.size
          clear hq
          have ⟨c_HR, z_HR, f_HR⟩ := HR.out
          have ⟨c_HO, z_HO, f_HO⟩ := HO.out
          have HF2 : Hid (Fresh (Rep.slice 35 DWrite.rep) w2.heap.size w3 [.slice ao1 (x.writes.length - k) cap1] (ackOut x seq).writes) := Lib.hid (by
            have y := HF1.out
            try simp only [List.length_nil, Nat.zero_add, List.nil_append, List.length_drop] at y
            show Fresh _ _ _ _ (ackKept x.writes seq)
            rw [HE.out]
            exact y)
          go_wp2
          refine bodyPost_ret (v := .tuple #[.agg #[.int .i64 x.device, .int .i64 x.next, .slice ao1 (x.writes.length - k) cap1], .int .i64 (k : Int)]) (by simp [results, Try.results82, go_sem, c_HR]) rfl ⟨_, by rw [HN.out], ?_, ?_⟩
          · rw [hF.out]
            exact DOutbox.fmk (x := ackOut x seq) (Fresh.mono (B := w2.heap.size) (by repeat (first | exact HF2.out | refine Fresh.setLow ?_ (by omega) | refine Fresh.drew ?_)) (by omega))
          · have y := HB.out
            exact (by repeat (first | with_reducible exact belR | (with_reducible refine belAB ?_ ?_; focus (first | omega | (simp; done) | (simp; omega))) | (with_reducible refine belS ?_ ?_; focus (first | omega | (simp; done) | (simp; omega))) | with_reducible apply belN | with_reducible apply belD | with_reducible assumption))
      · obtain ⟨b, off, cs_b, rfl, hw_b, hr_b, hcell_b⟩ := slice_at (q_K1.out.below HB.out) k hlt
        obtain ⟨fe_b, hrd_b⟩ := hr_b
        have HR_b : Hid (Reads DWrite.rep w2 cs_b x.writes[k]) := ⟨_, hrd_b⟩
        obtain ⟨rfl, _, b_s0, b_s1⟩ := DWrite.rd.1 hrd_b
        clear hrd_b
        have b_c0 : w2.cell? ⟨b, off + k * 7, none⟩ = some (.int .i64 x.writes[k].device) := hcell_b 0 (by decide)
        have b_c1 : w2.cell? ⟨b, off + k * 7 + 1, none⟩ = some (.int .i64 x.writes[k].seq) := hcell_b 1 (by decide)
        have b_c2 : w2.cell? ⟨b, off + k * 7 + 2, none⟩ = some (.int .i64 x.writes[k].key.kind) := hcell_b 2 (by decide)
        have b_c3 : w2.cell? ⟨b, off + k * 7 + 3, none⟩ = some (.int .i64 x.writes[k].key.n) := hcell_b 3 (by decide)
        have b_c4 : w2.cell? ⟨b, off + k * 7 + 4, none⟩ = some (.string x.writes[k].key.text) := hcell_b 4 (by decide)
        have b_c5 : w2.cell? ⟨b, off + k * 7 + 5, none⟩ = some (.string x.writes[k].field) := hcell_b 5 (by decide)
        have b_c6 : w2.cell? ⟨b, off + k * 7 + 6, none⟩ = some (.int .i64 x.writes[k].n) := hcell_b 6 (by decide)
        clear hcell_b
        have i1 : (0 : Int) ≤ (k : Int) := by omega
        have i2 : (k : Int) < (x.writes.length : Int) := by omega
        go_wp2
        go_light
        exact ⟨⟨k + 1, by omega, by go_num, Lib.hid (by
          intro i hi hk'
          by_cases e : i = k
          · subst e; exact hle
          · exact HL.out i hi (by omega))⟩, by simp [intOf]; omega⟩

end Go.Proofs.Yteajhmpppciicaa
