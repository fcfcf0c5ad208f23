/-
  RequestLock.
-/
import Derived.Test.YtamdjeajmfjfmaaGrantLocks
import Derived.Test.YtamdjeajmfjfmaaIsLockTable
namespace Go.Proofs.Ytamdjeajmfjfmaa
open Go.RowKit

def newLock (l : List DLock) (name : ByteArray) (page : Int) (shared : Bool) : DLock := ⟨name, page, shared, mayF l ⟨name, page, shared, false⟩⟩
def requestOut (x : DLockTable) (name : ByteArray) (page : Int) (shared : Bool) : DLockTable := ⟨x.locks ++ [newLock x.locks name page shared]⟩
def requestLockB (x : DLockTable) (name : ByteArray) (page : Int) (shared : Bool) : Bool := isLockTableF x && isLockTableF (requestOut x name page shared)
def requestLockF (x : DLockTable) (name : ByteArray) (page : Int) (shared : Bool) : DLockTable := if requestLockB x name page shared then requestOut x name page shared else x

set_option maxRecDepth 100000 in
set_option maxHeartbeats 8000000 in
theorem implRequestLock (cs : List Value) (x : DLockTable) (name : ByteArray) (page : Int) (shared : Bool) (w : World) (h : Reads DLockTable.rep w cs x) (hs : x.locks.length ≤ 1048576) (hn : name.size ≤ maxLen) :
    Calls Try.prog 9 #[.agg cs.toArray, .string name, .int .i64 page, .bool shared] w fun e w' => ∃ ds, e = .returned (.tuple #[.agg ds.toArray, .bool (requestLockB x name page shared)]) ∧ Fresh DLockTable.rep w.heap.size w' ds (requestLockF x name page shared) ∧ Below w.heap.size w w' := by
  have HH := Lib.hid h
  obtain ⟨fp_q, h⟩ := h
  obtain ⟨q_v1, q_f1, rfl, _, q_r1⟩ := DLockTable.rd.1 h
  obtain ⟨q_a1, q_c1, rfl, q_hm1, q_lc1, q_hu1⟩ := slice_open q_r1; clear q_hu1
  have q_K1 : Hid (Reads (Rep.slice 33 DLock.rep) w [.slice q_a1 x.locks.length q_c1] x.locks) := ⟨_, q_r1⟩
  clear q_r1 h
  obtain ⟨i0, hi, hz0, hz1, hz2⟩ := info_parts infoLock
  go_enter Try.func9, Try.ntmps9
  go_wp2_with fail
  refine (implCopyLocks _ x _ (HH.out.below (by repeat (first | with_reducible exact belR | with_reducible apply belA | (with_reducible refine belS ?_ ?_; focus (first | omega | (simp; done) | (simp; omega))) | with_reducible apply belN | with_reducible apply belD | with_reducible assumption))) (by omega)).mono ?_
  rintro e w1 ⟨ds, rfl, hf, hb⟩
  obtain ⟨ao, cap, rfl⟩ := DLockTable.fshape hf
  have HF : Hid (Fresh (Rep.slice 33 DLock.rep) (w.heap.size + 2) w1 [.slice ao x.locks.length cap] x.locks) := Lib.hid (hf.mono (by simp))
  have hb3 := hb.mono (B' := w.heap.size + 2) (by simp)
  have HX : Hid (WB w1 w.heap.size #[.slice q_a1 x.locks.length q_c1]) := Lib.hid (((WB.at rfl).growA).grow hb3 (by omega))
  have HR : Hid (WB w1 (w.heap.size + 1) #[.slice none 0 0]) := Lib.hid ((WB.at (by simp)).grow hb3 (by omega))
  have HB : Hid (Below w.heap.size w w1) := Lib.hid (Below.trans (by repeat (first | with_reducible exact belR | (with_reducible refine belAB ?_ ?_; focus (first | omega | (simp; done) | (simp; omega))) | (with_reducible refine belS ?_ ?_; focus (first | omega | (simp; done) | (simp; omega))) | with_reducible apply belN | with_reducible apply belD | with_reducible assumption)) (hb3.mono (by omega)))
  have hz : w.heap.size + 2 ≤ w1.heap.size := by have y := hb3.size; simp at y; omega
  have hlt : Hid (∀ b, (Value.slice ao x.locks.length cap).ownBlock = some b → w.heap.size + 2 ≤ b ∧ b < w1.heap.size) := Lib.hid fun b hb => HF.out.ownlt b (by rw [hb]; simp)
  clear hf hb hb3
  go_wp2_with (at_builtin; refine DLock.flat.grow2 _ rfl _ _ 24 24 rfl (w.heap.size + 2) 33 i0 _ _ Try.underlying24 Try.underlying24 hi hz0 hz1 hz2 rfl _ x.locks rfl ((HF.out.below (belA belR)).below (belA belR)) _ [(⟨name, page, shared, false⟩ : DLock)] rfl (DLock.flat.one_reads ?c0 rfl hn) ?c1 (by decide) ?c2 ?_)
  case c0 => simp
  case c1 => simp; omega
  case c2 => simp; omega
  intro ao3 cap3 w2 hf2 hc2 hv2
  have HF2 := Lib.hid hf2
  have hno : ∀ b, w1.heap.size ≤ b ∨ b < w.heap.size + 2 → b ∉ (Value.slice ao x.locks.length cap).ownBlock.toList := fun b hb hm => by
    have := hlt.out b (by simpa using hm); omega
  have HO2 : Hid (WB w2 w1.heap.size #[.slice ao x.locks.length cap]) := Lib.hid ((WB.at rfl).growA.chg hc2 (hno _ (by omega)))
  have HX2 := Lib.hid (HX.out.growA.growA.chg hc2 (hno _ (by omega)))
  have HR2 := Lib.hid (HR.out.growA.growA.chg hc2 (hno _ (by omega)))
  have HB2 : Hid (Below w.heap.size w w2) := Lib.hid (by have y := HB.out; exact Below.trans (by repeat (first | with_reducible exact belR | with_reducible apply belA | (with_reducible refine belS ?_ ?_; focus (first | omega | (simp; done) | (simp; omega))) | with_reducible apply belN | with_reducible apply belD | with_reducible assumption)) (hc2.below (fun b hm => by have := hlt.out b (by simpa using hm); omega) (by simp; omega)))
  have hap : Hid (w1.heap.size ∉ (Value.slice ao3 (x.locks.length + 1) cap3).ownBlock.toList) := Lib.hid fun hm => by
    rcases hv2 _ (by simpa using hm) with hq | hq
    · have := hlt.out _ hq; omega
    · omega
  have hz2' : w1.heap.size + 2 ≤ w2.heap.size := by have := hc2.size; simp at this; omega
  have ⟨co2, zo2, fo2⟩ := HO2.out
  clear hf2 hc2 hv2
  go_wp2_with fail
  refine settle (fun W => WB W w.heap.size #[.slice q_a1 x.locks.length q_c1] ∧ WB W (w.heap.size + 1) #[.slice none 0 0] ∧ WB W w1.heap.size #[.slice ao3 (x.locks.length + 1) cap3] ∧ Fresh (Rep.slice 33 DLock.rep) (w.heap.size + 2) W [.slice ao3 (x.locks.length + 1) cap3] (x.locks ++ [⟨name, page, shared, false⟩]) ∧ Below w.heap.size w W) ⟨HX2.out.setOther (by omega), HR2.out.setOther (by omega), HO2.out.setAt (by simp) rfl, DLock.flat.setApart HF2.out hap.out, by have y := HB2.out; exact (by repeat (first | with_reducible exact belR | (with_reducible refine belAB ?_ ?_; focus (first | omega | (simp; done) | (simp; omega))) | (with_reducible refine belS ?_ ?_; focus (first | omega | (simp; done) | (simp; omega))) | with_reducible apply belN | with_reducible apply belD | with_reducible assumption))⟩ ?_
  rintro wr ⟨hx, hr, ho, hf, hb⟩
  clear co2 zo2 fo2 HO2 HX2 HR2 HB2 HF2 hno
  have HX1 := Lib.hid hx
  have HR1 := Lib.hid hr
  have HO1 := Lib.hid ho
  have HF1 := Lib.hid hf
  have HB1 := Lib.hid hb
  have ⟨co, zo, fo⟩ := ho
  clear hx hr ho hf hb
  have hkm : x.locks.length < (x.locks ++ [(⟨name, page, shared, false⟩ : DLock)]).length := by simp
  have HE : Hid ((x.locks ++ [(⟨name, page, shared, false⟩ : DLock)])[x.locks.length] = ⟨name, page, shared, false⟩) := Lib.hid (by simp)
  have HT : Hid ((x.locks ++ [(⟨name, page, shared, false⟩ : DLock)]).take x.locks.length = x.locks) := Lib.hid (by simp)
  obtain ⟨g0, vc, hv, hc1, _, hg1, hg2, hci, hfz⟩ := DLock.flat.at HF1.out x.locks.length hkm
  simp only [Value.slice.injEq] at hv
  obtain ⟨rfl, hq0, rfl⟩ := hv
  clear hq0 hc1
  have hne : w1.heap.size ∉ [g0] := fun hm => hap.out (by simpa [Value.ownBlock] using hm)
  have e3 : wr.cell? ⟨g0, x.locks.length * 4 + 3, none⟩ = some (.bool (x.locks ++ [(⟨name, page, shared, false⟩ : DLock)])[x.locks.length].held) := hci 3 (by decide)
  rw [HE.out] at e3
  clear hci
  have i1 : (0 : Int) ≤ (x.locks.length : Int) := by omega
  have i2 : (x.locks.length : Int) < (x.locks.length : Int) + 1 := by omega
  go_wp2
  have HS : Hid (∀ w', Chg [g0] wr w' → (∀ o, w'.cell? ⟨w1.heap.size, o, none⟩ = #[.slice (some ⟨g0, 0, none⟩) (x.locks.length + 1) cap3][o]?) ∧ Chg [g0] wr w') := Lib.hid fun w' hw' => ⟨(HO1.out.chg hw' hne).cell, hw'⟩
  go_region_held3 (fun w' => (∀ o, w'.cell? ⟨w1.heap.size, o, none⟩ = #[.slice (some ⟨g0, 0, none⟩) (x.locks.length + 1) cap3][o]?) ∧ Chg [g0] wr w')
    (first | exact HS.out _ (Chg.of_below (belD belR) (Nat.le_refl _)) | exact HS.out _ hc2 | exact HS.out _ (Chg.set (by simp) hc2))
    (first | (go_at_call 54; refine (implGranted _ ⟨x.locks ++ [(⟨name, page, shared, false⟩ : DLock)]⟩ x.locks.length _ (HF1.out.reads.below (by repeat (first | with_reducible exact belR | with_reducible apply belA | (with_reducible refine belS ?_ ?_; focus (first | omega | (simp; done) | (simp; omega))) | with_reducible apply belN | with_reducible apply belD | with_reducible assumption))) hkm).mono ?_; rintro e w2 ⟨rfl, hb2⟩; have hq2 : Below wr.heap.size wr w2 := (Below.trans (by repeat (first | with_reducible exact belR | (with_reducible refine belAB ?_ ?_; focus (first | omega | (simp; done) | (simp; omega))) | (with_reducible refine belS ?_ ?_; focus (first | omega | (simp; done) | (simp; omega))) | with_reducible apply belN | with_reducible apply belD | with_reducible assumption)) (hb2.mono (by first | omega | (simp; done) | (simp; omega)))); have hc2 : Chg [g0] wr w2 := Chg.of_below hq2 (Nat.le_refl _); have e3' := (hq2.cell (p := ⟨g0, x.locks.length * 4 + 3, none⟩) hg2).trans e3; have f3' : ∀ j, w2.frozen? ⟨g0, j, none⟩ = false := (fun j => (hq2.frozen (p := ⟨g0, j, none⟩) hg2).trans (hfz j))))
  have hset : (x.locks ++ [(⟨name, page, shared, false⟩ : DLock)]).set x.locks.length (newLock x.locks name page shared) = (requestOut x name page shared).locks := by simp [requestOut]
  have hf3 := DLock.flat.setAt (HF1.out.below hq2) x.locks.length hkm 3 [.bool (mayF x.locks ⟨name, page, shared, false⟩)] (newLock x.locks name page shared) (by rw [HE.out]; simp [DLock.enc, newLock]) (Nat.le_refl 4) hn
  rw [hset] at hf3
  have y1 := HB1.out.trans (hq2.mono HB1.out.size)
  refine settleP (fun W => WB W w.heap.size #[.slice q_a1 x.locks.length q_c1] ∧ WB W (w.heap.size + 1) #[.slice none 0 0] ∧ WB W w1.heap.size #[.slice (some ⟨g0, 0, none⟩) (x.locks.length + 1) cap3] ∧ Fresh (Rep.slice 33 DLock.rep) (w.heap.size + 2) W [.slice (some ⟨g0, 0, none⟩) (x.locks.length + 1) cap3] (requestOut x name page shared).locks ∧ Below w.heap.size w W) ⟨(HX1.out.keep hq2).setOther (by omega), (HR1.out.keep hq2).setOther (by omega), (HO1.out.keep hq2).setOther (fun e => hne (by simp [e])), hf3, (by repeat (first | with_reducible exact belR | (with_reducible refine belAB ?_ ?_; focus (first | omega | (simp; done) | (simp; omega))) | (with_reducible refine belS ?_ ?_; focus (first | omega | (simp; done) | (simp; omega))) | with_reducible apply belN | with_reducible apply belD | with_reducible assumption))⟩ ?_
  rintro w3 ⟨hx, hr, ho, hf, hb⟩
  have HX3 := Lib.hid hx
  have HR3 := Lib.hid hr
  have HO3 := Lib.hid ho
  have HF3 := Lib.hid hf
  have HB3 := Lib.hid hb
  have ⟨cx, zx, fx⟩ := hx
  clear hx hr ho hf hb hb2 hq2 hc2 e3' f3' hf3 hset y1 e3 hfz co fo HX1 HR1 HO1 HF1 HB1 HS
  clear HX HR HB HF
  have hbx := HB3.out
  go_wp2_with fail
  refine (implIsLockTable _ x _ (HH.out.below HB3.out)).mono ?_
  rintro e w4 ⟨rfl, hb4⟩
  have hbx : Below w.heap.size w w4 := HB3.out.trans (hb4.mono HB3.out.size)
  have HXy := Lib.hid (HX3.out.keep hb4)
  have HRy := Lib.hid (HR3.out.keep hb4)
  have HOy := Lib.hid (HO3.out.keep hb4)
  have HFy := Lib.hid (HF3.out.below hb4)
  have ⟨cx4, zx4, fx4⟩ := HXy.out
  have ⟨co4, zo4, fo4⟩ := HOy.out
  have ⟨cr4, zr4, fr4⟩ := HRy.out
  clear hb4
  cases a1 : isLockTableF x
  · have hB : Hid (requestLockB x name page shared = false) := Lib.hid (by rw [requestLockB, a1]; rfl)
    go_wp2_with fail
    refine (implCopyLocks _ x _ (HH.out.below hbx) (by omega)).mono ?_
    rintro e w6 ⟨ds, rfl, hf6, hb6⟩
    obtain ⟨ao6, cap6, rfl⟩ := DLockTable.fshape hf6
    have HF6 := Lib.hid hf6
    have HB6 := Lib.hid (hbx.trans (hb6.mono hbx.size))
    have ⟨cr6, zr6, fr6⟩ := HRy.out.keep hb6
    have hz6 := hbx.size
    clear hf6 hb6
    go_wp2
    refine bodyPost_ret (v := .tuple #[.agg #[.slice ao6 x.locks.length cap6], .bool false]) (by simp [results, Try.results9, go_sem, cr6]) rfl ⟨_, by rw [hB.out], ?_, ?_⟩
    · have e : requestLockF x name page shared = x := by rw [requestLockF, hB.out]; rfl
      rw [e]
      exact (HF6.out.setLow (by omega)).mono (by omega)
    · have y := HB6.out
      exact (by repeat (first | with_reducible exact belR | (with_reducible refine belAB ?_ ?_; focus (first | omega | (simp; done) | (simp; omega))) | (with_reducible refine belS ?_ ?_; focus (first | omega | (simp; done) | (simp; omega))) | with_reducible apply belN | with_reducible apply belD | with_reducible assumption))
  · go_wp2_with fail
    refine (implIsLockTable _ (requestOut x name page shared) _ HFy.out.reads).mono ?_
    rintro e w5 ⟨rfl, hb5⟩
    have hbx : Below w.heap.size w w5 := hbx.trans (hb5.mono hbx.size)
    have HXy := Lib.hid (HXy.out.keep hb5)
    have HRy := Lib.hid (HRy.out.keep hb5)
    have HOy := Lib.hid (HOy.out.keep hb5)
    have HFy := Lib.hid (HFy.out.below hb5)
    clear cx4 zx4 fx4 co4 zo4 fo4 cr4 zr4 fr4 hb5
    have ⟨cx4, zx4, fx4⟩ := HXy.out
    have ⟨co4, zo4, fo4⟩ := HOy.out
    have ⟨cr4, zr4, fr4⟩ := HRy.out
    cases a2 : isLockTableF (requestOut x name page shared)
    · have hB : Hid (requestLockB x name page shared = false) := Lib.hid (by rw [requestLockB, a2, Bool.and_false])
      go_wp2_with fail
      refine (implCopyLocks _ x _ (HH.out.below hbx) (by omega)).mono ?_
      rintro e w6 ⟨ds, rfl, hf6, hb6⟩
      obtain ⟨ao6, cap6, rfl⟩ := DLockTable.fshape hf6
      have HF6 := Lib.hid hf6
      have HB6 := Lib.hid (hbx.trans (hb6.mono hbx.size))
      have ⟨cr6, zr6, fr6⟩ := HRy.out.keep hb6
      have hz6 := hbx.size
      clear hf6 hb6
      go_wp2
      refine bodyPost_ret (v := .tuple #[.agg #[.slice ao6 x.locks.length cap6], .bool false]) (by simp [results, Try.results9, go_sem, cr6]) rfl ⟨_, by rw [hB.out], ?_, ?_⟩
      · have e : requestLockF x name page shared = x := by rw [requestLockF, hB.out]; rfl
        rw [e]
        exact (HF6.out.setLow (by omega)).mono (by omega)
      · have y := HB6.out
        exact (by repeat (first | with_reducible exact belR | (with_reducible refine belAB ?_ ?_; focus (first | omega | (simp; done) | (simp; omega))) | (with_reducible refine belS ?_ ?_; focus (first | omega | (simp; done) | (simp; omega))) | with_reducible apply belN | with_reducible apply belD | with_reducible assumption))
    · have hB : Hid (requestLockB x name page shared = true) := Lib.hid (by rw [requestLockB, a1, a2]; rfl)
      go_wp2
      refine bodyPost_ret (v := .tuple #[.agg #[.slice (some ⟨g0, 0, none⟩) (x.locks.length + 1) cap3], .bool true]) (by simp [results, Try.results9, go_sem, cr4]) rfl ⟨_, by rw [hB.out], ?_, ?_⟩
      · have e : requestLockF x name page shared = requestOut x name page shared := by rw [requestLockF, hB.out]; rfl
        rw [e]
        show Fresh (Rep.slice 33 DLock.rep) _ _ _ (requestOut x name page shared).locks
        exact (HFy.out.setLow (by omega)).mono (by omega)
      · exact (by repeat (first | with_reducible exact belR | (with_reducible refine belAB ?_ ?_; focus (first | omega | (simp; done) | (simp; omega))) | (with_reducible refine belS ?_ ?_; focus (first | omega | (simp; done) | (simp; omega))) | with_reducible apply belN | with_reducible apply belD | with_reducible assumption))

end Go.Proofs.Ytamdjeajmfjfmaa
