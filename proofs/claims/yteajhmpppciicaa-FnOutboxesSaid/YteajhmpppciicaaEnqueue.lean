/-
  EnqueueWrite.
-/
import Derived.Test.YteajhmpppciicaaOutboxes
namespace Go.Proofs.Yteajhmpppciicaa
open Go.RowKit

def newWrite (x : DOutbox) (k : DKey) (field : ByteArray) (n : Int) : DWrite := ⟨x.device, x.next, k, field, n⟩
def enqOut (x : DOutbox) (k : DKey) (field : ByteArray) (n : Int) : DOutbox := ⟨x.device, wrap64 (x.next + 1), x.writes ++ [newWrite x k field n]⟩
def enqueueB (x : DOutbox) (k : DKey) (field : ByteArray) (n : Int) : Bool := isOutboxF x && isOutboxF (enqOut x k field n)
def enqueueF (x : DOutbox) (k : DKey) (field : ByteArray) (n : Int) : DOutbox := if enqueueB x k field n then enqOut x k field n else x

set_option maxRecDepth 100000 in
set_option maxHeartbeats 8000000 in
theorem implEnqueueWrite (cs ck : List Value) (x : DOutbox) (k : DKey) (field : ByteArray) (n : Int) (w : World) (h : Reads DOutbox.rep w cs x) (h' : Reads DKey.rep w ck k) (hs : x.writes.length ≤ 1048576) (hn : field.size ≤ maxLen) :
    Calls Try.prog 7 #[.agg cs.toArray, .agg ck.toArray, .string field, .int .i64 n] w fun e w' => ∃ ds, e = .returned (.tuple #[.agg ds.toArray, .bool (enqueueB x k field n)]) ∧ Fresh DOutbox.rep w.heap.size w' ds (enqueueF x k field n) ∧ Below w.heap.size w w' := by
  have HH := Lib.hid h
  obtain ⟨fp_q, h⟩ := h
  obtain ⟨q_v1, q_f1, rfl, _, q_r1⟩ := DOutbox.rd.1 h
  obtain ⟨q_a1, q_c1, rfl, q_hm1, q_lc1, q_hu1⟩ := slice_open q_r1; clear q_hu1
  have q_K1 : Hid (Reads (Rep.slice 35 DWrite.rep) w [.slice q_a1 x.writes.length q_c1] x.writes) := ⟨_, q_r1⟩
  clear q_r1 h
  obtain ⟨fk, hk⟩ := h'
  obtain ⟨rfl, _, hkt⟩ := DKey.rd.1 hk
  clear hk
  obtain ⟨i0, hi, hz0, hz1, hz2⟩ := info_parts infoWrite
  go_enter Try.func7, Try.ntmps7
  go_wp2_with fail
  refine (implCopyOutbox _ x _ (HH.out.below (by repeat (first | with_reducible exact belR | with_reducible apply belA | (with_reducible refine belS ?_ ?_; focus (first | omega | (simp; done) | (simp; omega))) | with_reducible apply belN | with_reducible apply belD | with_reducible assumption))) (by omega)).mono ?_
  rintro e w1 ⟨ds, rfl, hf, hb⟩
  obtain ⟨ao, cap, rfl, hfw⟩ := DOutbox.fopen hf
  have HF : Hid (Fresh (Rep.slice 35 DWrite.rep) (w.heap.size + 3) w1 [.slice ao x.writes.length cap] x.writes) := Lib.hid (hfw.mono (by simp))
  have hb3 := hb.mono (B' := w.heap.size + 3) (by simp)
  have HX : Hid (WB w1 w.heap.size #[.int .i64 x.device, .int .i64 x.next, .slice q_a1 x.writes.length q_c1]) := Lib.hid (((WB.at rfl).growA.growA).grow hb3 (by omega))
  have HK : Hid (WB w1 (w.heap.size + 1) #[.int .i64 k.kind, .int .i64 k.n, .string k.text]) := Lib.hid (((WB.at (by simp)).growA).grow hb3 (by omega))
  have HR : Hid (WB w1 (w.heap.size + 2) #[.int .i64 0, .int .i64 0, .slice none 0 0]) := Lib.hid ((WB.at (by simp)).grow hb3 (by omega))
  have HB : Hid (Below w.heap.size w w1) := Lib.hid (Below.trans (by repeat (first | with_reducible exact belR | (with_reducible refine belAB ?_ ?_; focus (first | omega | (simp; done) | (simp; omega))) | (with_reducible refine belS ?_ ?_; focus (first | omega | (simp; done) | (simp; omega))) | with_reducible apply belN | with_reducible apply belD | with_reducible assumption)) (hb3.mono (by omega)))
  have hz : w.heap.size + 3 ≤ w1.heap.size := by have y := hb3.size; simp at y; omega
  have hlt : Hid (∀ b, (Value.slice ao x.writes.length cap).ownBlock = some b → w.heap.size + 3 ≤ b ∧ b < w1.heap.size) := Lib.hid fun b hb => HF.out.ownlt b (by rw [hb]; simp)
  clear hf hfw hb hb3
  have ⟨cx, zx, fx⟩ := HX.out
  have ⟨ck, zk, fk⟩ := HK.out
  go_wp2_with (at_builtin; refine DWrite.flat.grow2 _ rfl _ _ 24 24 rfl (w.heap.size + 3) 35 i0 _ _ Try.underlying24 Try.underlying24 hi hz0 hz1 hz2 rfl _ x.writes rfl ((HF.out.below (belA belR)).below (belA belR)) _ [newWrite x k field n] rfl (DWrite.flat.one_reads ?c0 rfl ⟨hkt, hn⟩) ?c1 (by decide) ?c2 ?_)
  case c0 => simp
  case c1 => simp; omega
  case c2 => simp; omega
  intro ao3 cap3 w2 hf2 hc2 hv2
  have HF2 := Lib.hid hf2
  have hno : ∀ b, w1.heap.size ≤ b ∨ b < w.heap.size + 3 → b ∉ (Value.slice ao x.writes.length cap).ownBlock.toList := fun b hb hm => by
    have := hlt.out b (by simpa using hm); omega
  have HO2 : Hid (WB w2 w1.heap.size #[.int .i64 x.device, .int .i64 x.next, .slice ao x.writes.length cap]) := Lib.hid ((WB.at rfl).growA.chg hc2 (hno _ (by omega)))
  have HX2 := Lib.hid (HX.out.growA.growA.chg hc2 (hno _ (by omega)))
  have HK2 := Lib.hid (HK.out.growA.growA.chg hc2 (hno _ (by omega)))
  have HR2 := Lib.hid (HR.out.growA.growA.chg hc2 (hno _ (by omega)))
  have HB2 : Hid (Below w.heap.size w w2) := Lib.hid (by have y := HB.out; exact Below.trans (by repeat (first | with_reducible exact belR | with_reducible apply belA | (with_reducible refine belS ?_ ?_; focus (first | omega | (simp; done) | (simp; omega))) | with_reducible apply belN | with_reducible apply belD | with_reducible assumption)) (hc2.below (fun b hm => by have := hlt.out b (by simpa using hm); omega) (by simp; omega)))
  have hap : Hid (w1.heap.size ∉ (Value.slice ao3 (x.writes.length + 1) cap3).ownBlock.toList) := Lib.hid fun hm => by
    rcases hv2 _ (by simpa using hm) with hq | hq
    · have := hlt.out _ hq; omega
    · omega
  have hz2' : w1.heap.size + 2 ≤ w2.heap.size := by have := hc2.size; simp at this; omega
  clear hf2 hc2 hv2 cx zx fx ck zk fk
  have ⟨co2, zo2, fo2⟩ := HO2.out
  have ⟨cx2, zx2, fx2⟩ := HX2.out
  go_wp2_with fail
  refine settleC (fun W => WB W w.heap.size #[.int .i64 x.device, .int .i64 x.next, .slice q_a1 x.writes.length q_c1] ∧ WB W (w.heap.size + 2) #[.int .i64 0, .int .i64 0, .slice none 0 0] ∧ WB W w1.heap.size #[.int .i64 x.device, .int .i64 (wrap64 (x.next + 1)), .slice ao3 (x.writes.length + 1) cap3] ∧ Fresh (Rep.slice 35 DWrite.rep) (w.heap.size + 3) W [.slice ao3 (x.writes.length + 1) cap3] (x.writes ++ [newWrite x k field n]) ∧ Below w.heap.size w W) ?hE ?_
  case hE => exact ⟨(HX2.out.setOther (by omega)).setOther (by omega), (HR2.out.setOther (by omega)).setOther (by omega), (HO2.out.setAt (i := 2) (by simp) rfl).setAt (i := 1) (by simp) rfl, DWrite.flat.setApart (DWrite.flat.setApart HF2.out hap.out) hap.out, by have y := HB2.out; exact (by repeat (first | with_reducible exact belR | (with_reducible refine belAB ?_ ?_; focus (first | omega | (simp; done) | (simp; omega))) | (with_reducible refine belS ?_ ?_; focus (first | omega | (simp; done) | (simp; omega))) | with_reducible apply belN | with_reducible apply belD | with_reducible assumption))⟩
  rintro w3 ⟨hx, hr, ho, hf, hb⟩
  have HX3 := Lib.hid hx
  have HR3 := Lib.hid hr
  have HO3 := Lib.hid ho
  have HF3 := Lib.hid hf
  have HB3 := Lib.hid hb
  have ⟨cx, zx, fx⟩ := hx
  clear hx hr ho hf hb co2 zo2 fo2 cx2 zx2 fx2 HX2 HR2 HO2 HF2 HB2 HK2 hno
  clear HX HR HB HF HK
  refine (implIsOutbox _ x _ (HH.out.below HB3.out)).mono ?_
  rintro e w4 ⟨rfl, hb4⟩
  have hbx : Below w.heap.size w w4 := HB3.out.trans (hb4.mono HB3.out.size)
  have HXy := Lib.hid (HX3.out.keep hb4)
  have HRy := Lib.hid (HR3.out.keep hb4)
  have HOy := Lib.hid (HO3.out.keep hb4)
  have HFy := Lib.hid (HF3.out.below hb4)
  have ⟨cx4, zx4, fx4⟩ := HXy.out
  have ⟨co4, zo4, fo4⟩ := HOy.out
  have ⟨cr4, zr4, fr4⟩ := HRy.out
  clear hb4 cx zx fx
  cases a1 : isOutboxF x
  · have hB : Hid (enqueueB x k field n = false) := Lib.hid (by rw [enqueueB, a1]; rfl)
    go_wp2_with fail
    refine (implCopyOutbox _ x _ (HH.out.below hbx) (by omega)).mono ?_
    rintro e w6 ⟨ds, rfl, hf6, hb6⟩
    obtain ⟨ao6, cap6, rfl, hfw6⟩ := DOutbox.fopen hf6
    have HF6 := Lib.hid hfw6
    have HB6 := Lib.hid (hbx.trans (hb6.mono hbx.size))
    have ⟨cr6, zr6, fr6⟩ := HRy.out.keep hb6
    have hz6 := hbx.size
    clear hf6 hfw6 hb6
    go_wp2
    refine bodyPost_ret (v := .tuple #[.agg #[.int .i64 x.device, .int .i64 x.next, .slice ao6 x.writes.length cap6], .bool false]) (by simp [results, Try.results7, go_sem, cr6]) rfl ⟨_, by rw [hB.out], ?_, ?_⟩
    · have e : enqueueF x k field n = x := by rw [enqueueF, hB.out]; rfl
      rw [e]
      exact DOutbox.fmk (Fresh.mono (B := w4.heap.size) (by repeat (first | exact HF6.out | refine Fresh.setLow ?_ (by omega) | refine Fresh.drew ?_)) (by omega))
    · have y := HB6.out
      exact (by repeat (first | with_reducible exact belR | (with_reducible refine belAB ?_ ?_; focus (first | omega | (simp; done) | (simp; omega))) | (with_reducible refine belS ?_ ?_; focus (first | omega | (simp; done) | (simp; omega))) | with_reducible apply belN | with_reducible apply belD | with_reducible assumption))
  · go_wp2_with fail
    refine (implIsOutbox _ (enqOut x k field n) _ (DOutbox.fmk (x := enqOut x k field n) HFy.out).reads).mono ?_
    rintro e w5 ⟨rfl, hb5⟩
    have hbx : Below w.heap.size w w5 := hbx.trans (hb5.mono hbx.size)
    have HXy := Lib.hid (HXy.out.keep hb5)
    have HRy := Lib.hid (HRy.out.keep hb5)
    have HOy := Lib.hid (HOy.out.keep hb5)
    have HFy := Lib.hid (HFy.out.below hb5)
    clear cx4 zx4 fx4 co4 zo4 fo4 cr4 zr4 fr4 hb5
    have ⟨cx4, zx4, fx4⟩ := HXy.out
    have ⟨co4, zo4, fo4⟩ := HOy.out
    have ⟨cr4, zr4, fr4⟩ := HRy.out
    cases a2 : isOutboxF (enqOut x k field n)
    · have hB : Hid (enqueueB x k field n = false) := Lib.hid (by rw [enqueueB, a2, Bool.and_false])
      go_wp2_with fail
      refine (implCopyOutbox _ x _ (HH.out.below hbx) (by omega)).mono ?_
      rintro e w6 ⟨ds, rfl, hf6, hb6⟩
      obtain ⟨ao6, cap6, rfl, hfw6⟩ := DOutbox.fopen hf6
      have HF6 := Lib.hid hfw6
      have HB6 := Lib.hid (hbx.trans (hb6.mono hbx.size))
      have ⟨cr6, zr6, fr6⟩ := HRy.out.keep hb6
      have hz6 := hbx.size
      clear hf6 hfw6 hb6
      go_wp2
      refine bodyPost_ret (v := .tuple #[.agg #[.int .i64 x.device, .int .i64 x.next, .slice ao6 x.writes.length cap6], .bool false]) (by simp [results, Try.results7, go_sem, cr6]) rfl ⟨_, by rw [hB.out], ?_, ?_⟩
      · have e : enqueueF x k field n = x := by rw [enqueueF, hB.out]; rfl
        rw [e]
        exact DOutbox.fmk (Fresh.mono (B := w5.heap.size) (by repeat (first | exact HF6.out | refine Fresh.setLow ?_ (by omega) | refine Fresh.drew ?_)) (by omega))
      · have y := HB6.out
        exact (by repeat (first | with_reducible exact belR | (with_reducible refine belAB ?_ ?_; focus (first | omega | (simp; done) | (simp; omega))) | (with_reducible refine belS ?_ ?_; focus (first | omega | (simp; done) | (simp; omega))) | with_reducible apply belN | with_reducible apply belD | with_reducible assumption))
    · have hB : Hid (enqueueB x k field n = true) := Lib.hid (by rw [enqueueB, a1, a2]; rfl)
      go_wp2
      refine bodyPost_ret (v := .tuple #[.agg #[.int .i64 x.device, .int .i64 (wrap64 (x.next + 1)), .slice ao3 (x.writes.length + 1) cap3], .bool true]) (by simp [results, Try.results7, go_sem, cr4]) rfl ⟨_, by rw [hB.out], ?_, ?_⟩
      · have e : enqueueF x k field n = enqOut x k field n := by rw [enqueueF, hB.out]; rfl
        rw [e]
        exact DOutbox.fmk (x := enqOut x k field n) (Fresh.mono (B := (w.heap.size + 3)) (by repeat (first | exact HFy.out | refine Fresh.setLow ?_ (by omega) | refine Fresh.drew ?_)) (by omega))
      · exact (by repeat (first | with_reducible exact belR | (with_reducible refine belAB ?_ ?_; focus (first | omega | (simp; done) | (simp; omega))) | (with_reducible refine belS ?_ ?_; focus (first | omega | (simp; done) | (simp; omega))) | with_reducible apply belN | with_reducible apply belD | with_reducible assumption))

set_option maxRecDepth 100000 in
set_option maxHeartbeats 8000000 in
theorem specEnqueueWrite (cs ck : List Value) (x : DOutbox) (k : DKey) (field : ByteArray) (n : Int) (w : World) (h : Reads DOutbox.rep w cs x) (h' : Reads DKey.rep w ck k) (hs : x.writes.length ≤ 1048576) (hn : field.size ≤ maxLen) :
    Calls Try.prog 8 #[.agg cs.toArray, .agg ck.toArray, .string field, .int .i64 n] w fun e w' => ∃ ds, e = .returned (.tuple #[.agg ds.toArray, .bool (enqueueB x k field n)]) ∧ Fresh DOutbox.rep w.heap.size w' ds (enqueueF x k field n) ∧ Below w.heap.size w w' := by
  have HH := Lib.hid h
  obtain ⟨fp_q, h⟩ := h
  obtain ⟨q_v1, q_f1, rfl, _, q_r1⟩ := DOutbox.rd.1 h
  obtain ⟨q_a1, q_c1, rfl, q_hm1, q_lc1, q_hu1⟩ := slice_open q_r1; clear q_hu1
  have q_K1 : Hid (Reads (Rep.slice 35 DWrite.rep) w [.slice q_a1 x.writes.length q_c1] x.writes) := ⟨_, q_r1⟩
  clear q_r1 h
  obtain ⟨fk, hk⟩ := h'
  obtain ⟨rfl, _, hkt⟩ := DKey.rd.1 hk
  clear hk
  obtain ⟨i0, hi, hz0, hz1, hz2⟩ := info_parts infoWrite
  go_enter Try.func8, Try.ntmps8
  go_wp2_with fail
  refine (specCopyOutbox _ x _ (HH.out.below (by repeat (first | with_reducible exact belR | with_reducible apply belA | (with_reducible refine belS ?_ ?_; focus (first | omega | (simp; done) | (simp; omega))) | with_reducible apply belN | with_reducible apply belD | with_reducible assumption))) (by omega)).mono ?_
  rintro e w1 ⟨ds, rfl, hf, hb⟩
  obtain ⟨ao, cap, rfl, hfw⟩ := DOutbox.fopen hf
  have HF : Hid (Fresh (Rep.slice 35 DWrite.rep) (w.heap.size + 3) w1 [.slice ao x.writes.length cap] x.writes) := Lib.hid (hfw.mono (by simp))
  have hb3 := hb.mono (B' := w.heap.size + 3) (by simp)
  have HX : Hid (WB w1 w.heap.size #[.int .i64 x.device, .int .i64 x.next, .slice q_a1 x.writes.length q_c1]) := Lib.hid (((WB.at rfl).growA.growA).grow hb3 (by omega))
  have HK : Hid (WB w1 (w.heap.size + 1) #[.int .i64 k.kind, .int .i64 k.n, .string k.text]) := Lib.hid (((WB.at (by simp)).growA).grow hb3 (by omega))
  have HR : Hid (WB w1 (w.heap.size + 2) #[.int .i64 0, .int .i64 0, .slice none 0 0]) := Lib.hid ((WB.at (by simp)).grow hb3 (by omega))
  have HB : Hid (Below w.heap.size w w1) := Lib.hid (Below.trans (by repeat (first | with_reducible exact belR | (with_reducible refine belAB ?_ ?_; focus (first | omega | (simp; done) | (simp; omega))) | (with_reducible refine belS ?_ ?_; focus (first | omega | (simp; done) | (simp; omega))) | with_reducible apply belN | with_reducible apply belD | with_reducible assumption)) (hb3.mono (by omega)))
  have hz : w.heap.size + 3 ≤ w1.heap.size := by have y := hb3.size; simp at y; omega
  have hlt : Hid (∀ b, (Value.slice ao x.writes.length cap).ownBlock = some b → w.heap.size + 3 ≤ b ∧ b < w1.heap.size) := Lib.hid fun b hb => HF.out.ownlt b (by rw [hb]; simp)
  clear hf hfw hb hb3
  have ⟨c_HX, z_HX, f_HX⟩ := HX.out
  go_wp2_with fail
  refine (specIsOutbox _ x _ (HH.out.below (by have y := HB.out; exact (by repeat (first | with_reducible exact belR | with_reducible apply belA | (with_reducible refine belS ?_ ?_; focus (first | omega | (simp; done) | (simp; omega))) | with_reducible apply belN | with_reducible apply belD | with_reducible assumption))))).mono ?_
  rintro e w2 ⟨rfl, hb⟩
  have hq : Below w1.heap.size w1 w2 := below_call (by repeat (first | with_reducible exact belR | with_reducible apply belA | (with_reducible refine belS ?_ ?_; focus (first | omega | (simp; done) | (simp; omega))) | with_reducible apply belN | with_reducible apply belD | with_reducible assumption)) (by first | omega | (simp; done) | (simp; omega)) hb
  have HO : Hid (WB w2 w1.heap.size #[.int .i64 x.device, .int .i64 x.next, .slice ao x.writes.length cap]) := Lib.hid ((WB.at rfl).keep hb)
  have hsz2 : w1.heap.size + 1 ≤ w2.heap.size := by have y := hb.size; simp at y; omega
  clear c_HX z_HX f_HX
  replace HX := Lib.hid (HX.out.keep hq)
  replace HK := Lib.hid (HK.out.keep hq)
  replace HR := Lib.hid (HR.out.keep hq)
  replace HF := Lib.hid (HF.out.below hq)
  replace HB := Lib.hid (HB.out.trans (hq.mono HB.out.size))
  clear hb hq
  have ⟨c_HX, z_HX, f_HX⟩ := HX.out
  have ⟨c_HK, z_HK, f_HK⟩ := HK.out
  have ⟨c_HR, z_HR, f_HR⟩ := HR.out
  have ⟨c_HO, z_HO, f_HO⟩ := HO.out
  cases a1 : isOutboxF x
  · have hB : Hid (enqueueB x k field n = false) := Lib.hid (by rw [enqueueB, a1]; rfl)
    go_wp2
    refine bodyPost_ret (v := .tuple #[.agg #[.int .i64 x.device, .int .i64 x.next, .slice ao x.writes.length cap], .bool false]) (by simp [results, Try.results8, go_sem, c_HR]) rfl ⟨_, by rw [hB.out], ?_, ?_⟩
    · have e : enqueueF x k field n = x := by rw [enqueueF, hB.out]; rfl
      rw [e]
      exact DOutbox.fmk (Fresh.mono (B := (w.heap.size + 3)) (by repeat (first | exact HF.out | refine Fresh.setLow ?_ (by omega) | refine Fresh.drew ?_)) (by omega))
    · have y := HB.out
      exact (by repeat (first | with_reducible exact belR | (with_reducible refine belAB ?_ ?_; focus (first | omega | (simp; done) | (simp; omega))) | (with_reducible refine belS ?_ ?_; focus (first | omega | (simp; done) | (simp; omega))) | with_reducible apply belN | with_reducible apply belD | with_reducible assumption))
  · go_wp2_with (at_builtin; (refine DWrite.flat.grow2 _ rfl _ _ 24 24 rfl (w.heap.size + 3) 35 i0 _ _ Try.underlying24 Try.underlying24 hi hz0 hz1 hz2 rfl _ x.writes rfl (HF.out.below (belA belR)) _ [newWrite x k field n] rfl (DWrite.flat.one_reads ?c0 rfl ⟨hkt, hn⟩) ?c1 (by decide) ?c2 ?_))
    case c0 => simp
    case c1 => simp; omega
    case c2 => simp; omega
    intro ao3 cap3 w3 hf2 hc2 hv2
    clear c_HX z_HX f_HX c_HK z_HK f_HK c_HR z_HR f_HR c_HO z_HO f_HO
    have hno : ∀ b, b < w.heap.size + 3 ∨ b = w1.heap.size → b ∉ (Value.slice ao x.writes.length cap).ownBlock.toList := fun b hb hm => by
      have := hlt.out b (by simpa using hm); omega
    replace HO := Lib.hid (HO.out.growA.chg hc2 (hno _ (by omega)))
    replace HX := Lib.hid (HX.out.growA.chg hc2 (hno _ (by omega)))
    replace HR := Lib.hid (HR.out.growA.chg hc2 (hno _ (by omega)))
    replace HB : Hid (Below w.heap.size w w3) := Lib.hid (by have y := HB.out; exact Below.trans (by repeat (first | with_reducible exact belR | with_reducible apply belA | (with_reducible refine belS ?_ ?_; focus (first | omega | (simp; done) | (simp; omega))) | with_reducible apply belN | with_reducible apply belD | with_reducible assumption)) (hc2.below (fun b hm => by have := hlt.out b (by simpa using hm); omega) (by simp; omega)))
    have hap : Hid (w1.heap.size ∉ (Value.slice ao3 (x.writes.length + 1) cap3).ownBlock.toList) := Lib.hid fun hm => by
      rcases hv2 _ (by simpa using hm) with hq | hq
      · have := hlt.out _ hq; omega
      · omega
    have hz3 : w1.heap.size + 1 ≤ w3.heap.size := by have := hc2.size; simp at this; omega
    replace HF := Lib.hid hf2
    clear hf2 hc2 hv2 hno
    have ⟨c_HX, z_HX, f_HX⟩ := HX.out
    have ⟨c_HO, z_HO, f_HO⟩ := HO.out
    go_wp2_with fail
    refine settleC (fun W => WB W w.heap.size #[.int .i64 x.device, .int .i64 x.next, .slice q_a1 x.writes.length q_c1] ∧ WB W (w.heap.size + 2) #[.int .i64 0, .int .i64 0, .slice none 0 0] ∧ WB W w1.heap.size #[.int .i64 x.device, .int .i64 (wrap64 (x.next + 1)), .slice ao3 (x.writes.length + 1) cap3] ∧ Fresh (Rep.slice 35 DWrite.rep) (w.heap.size + 3) W [.slice ao3 (x.writes.length + 1) cap3] (x.writes ++ [newWrite x k field n]) ∧ Below w.heap.size w W) ?hE ?_
    case hE => exact ⟨(HX.out.setOther (by omega)).setOther (by omega), (HR.out.setOther (by omega)).setOther (by omega), (HO.out.setAt (i := 2) (by simp) rfl).setAt (i := 1) (by simp) rfl, DWrite.flat.setApart (DWrite.flat.setApart HF.out hap.out) hap.out, by have y := HB.out; exact (by repeat (first | with_reducible exact belR | (with_reducible refine belAB ?_ ?_; focus (first | omega | (simp; done) | (simp; omega))) | (with_reducible refine belS ?_ ?_; focus (first | omega | (simp; done) | (simp; omega))) | with_reducible apply belN | with_reducible apply belD | with_reducible assumption))⟩
    clear c_HX z_HX f_HX c_HO z_HO f_HO
    clear HX HR HO HF HB HK
    rintro w4 ⟨hx, hr, ho, hf, hb⟩
    have HX := Lib.hid hx
    have HR := Lib.hid hr
    have HO := Lib.hid ho
    have HF := Lib.hid hf
    have HB := Lib.hid hb
    clear hx hr ho hf hb
    refine (specIsOutbox _ (enqOut x k field n) _ (DOutbox.fmk (x := enqOut x k field n) HF.out).reads).mono ?_
    rintro e w5 ⟨rfl, hq⟩
    have hz5 := hq.size
    replace HX := Lib.hid (HX.out.keep hq)
    replace HR := Lib.hid (HR.out.keep hq)
    replace HO := Lib.hid (HO.out.keep hq)
    replace HF := Lib.hid (HF.out.below hq)
    replace HB := Lib.hid (HB.out.trans (hq.mono HB.out.size))
    clear hq
    have ⟨c_HX, z_HX, f_HX⟩ := HX.out
    have ⟨c_HR, z_HR, f_HR⟩ := HR.out
    have ⟨c_HO, z_HO, f_HO⟩ := HO.out
    cases a2 : isOutboxF (enqOut x k field n)
    · have hB : Hid (enqueueB x k field n = false) := Lib.hid (by rw [enqueueB, a2, Bool.and_false])
      go_wp2_with fail
      refine (specCopyOutbox _ x _ (HH.out.below HB.out) (by omega)).mono ?_
      rintro e w6 ⟨ds, rfl, hf6, hq⟩
      obtain ⟨ao6, cap6, rfl, hfw6⟩ := DOutbox.fopen hf6
      have HF6 := Lib.hid hfw6
      have hz6 : w.heap.size + 2 < w5.heap.size := z_HR
      clear c_HX z_HX f_HX c_HR z_HR f_HR c_HO z_HO f_HO
      replace HR := Lib.hid (HR.out.keep hq)
      replace HB := Lib.hid (HB.out.trans (hq.mono HB.out.size))
      clear hf6 hfw6 hq
      have ⟨c_HR, z_HR, f_HR⟩ := HR.out
      go_wp2
      refine bodyPost_ret (v := .tuple #[.agg #[.int .i64 x.device, .int .i64 x.next, .slice ao6 x.writes.length cap6], .bool false]) (by simp [results, Try.results8, go_sem, c_HR]) rfl ⟨_, by rw [hB.out], ?_, ?_⟩
      · have e : enqueueF x k field n = x := by rw [enqueueF, hB.out]; rfl
        rw [e]
        exact DOutbox.fmk (Fresh.mono (B := w5.heap.size) (by repeat (first | exact HF6.out | refine Fresh.setLow ?_ (by omega) | refine Fresh.drew ?_)) (by omega))
      · have y := HB.out
        exact (by repeat (first | with_reducible exact belR | (with_reducible refine belAB ?_ ?_; focus (first | omega | (simp; done) | (simp; omega))) | (with_reducible refine belS ?_ ?_; focus (first | omega | (simp; done) | (simp; omega))) | with_reducible apply belN | with_reducible apply belD | with_reducible assumption))
    · have hB : Hid (enqueueB x k field n = true) := Lib.hid (by rw [enqueueB, a1, a2]; rfl)
      go_wp2
      refine bodyPost_ret (v := .tuple #[.agg #[.int .i64 x.device, .int .i64 (wrap64 (x.next + 1)), .slice ao3 (x.writes.length + 1) cap3], .bool true]) (by simp [results, Try.results8, go_sem, c_HR]) rfl ⟨_, by rw [hB.out], ?_, ?_⟩
      · have e : enqueueF x k field n = enqOut x k field n := by rw [enqueueF, hB.out]; rfl
        rw [e]
        exact DOutbox.fmk (x := enqOut x k field n) (Fresh.mono (B := (w.heap.size + 3)) (by repeat (first | exact HF.out | refine Fresh.setLow ?_ (by omega) | refine Fresh.drew ?_)) (by omega))
      · have y := HB.out
        exact (by repeat (first | with_reducible exact belR | (with_reducible refine belAB ?_ ?_; focus (first | omega | (simp; done) | (simp; omega))) | (with_reducible refine belS ?_ ?_; focus (first | omega | (simp; done) | (simp; omega))) | with_reducible apply belN | with_reducible apply belD | with_reducible assumption))

end Go.Proofs.Yteajhmpppciicaa
