/-
  GrantLocks.
-/
import Derived.Test.YtamdjeajmfjfmaaLocks
namespace Go.Proofs.Ytamdjeajmfjfmaa
open Go.RowKit

def stepLock (acc : List DLock) (x : DLock) : DLock := if x.held then x else { x with held := mayF acc x }
def grantL (l : List DLock) : List DLock := l.foldl (fun acc x => acc ++ [stepLock acc x]) []
def grantLocksF (x : DLockTable) : DLockTable := ⟨grantL x.locks⟩
/-- The first k are decided, the others as they were. -/
def grantM (l : List DLock) (k : Nat) : List DLock := grantL (l.take k) ++ l.drop k
theorem grantL_snoc (l : List DLock) (x : DLock) : grantL (l ++ [x]) = grantL l ++ [stepLock (grantL l) x] := by
  unfold grantL; rw [List.foldl_append]; rfl
theorem grantL_len : ∀ (l : List DLock), (grantL l).length = l.length := by
  have h : ∀ (l acc : List DLock), (l.foldl (fun acc x => acc ++ [stepLock acc x]) acc).length = acc.length + l.length := by
    intro l
    induction l with
    | nil => intro acc; simp
    | cons x l ih => intro acc; rw [List.foldl_cons, ih]; simp; omega
  intro l; unfold grantL; rw [h]; simp
theorem grantM_zero (l : List DLock) : grantM l 0 = l := by simp [grantM, grantL]
theorem grantM_pre {l : List DLock} {k : Nat} (h : k ≤ l.length) : (grantL (l.take k)).length = k := by rw [grantL_len, List.length_take]; omega
theorem grantM_len {l : List DLock} {k : Nat} (h : k ≤ l.length) : (grantM l k).length = l.length := by
  unfold grantM; rw [List.length_append, grantM_pre h, List.length_drop]; omega
theorem grantM_take {l : List DLock} {k : Nat} (h : k ≤ l.length) : (grantM l k).take k = grantL (l.take k) := by
  unfold grantM; rw [List.take_append_of_le_length (by rw [grantM_pre h]; exact Nat.le_refl _), List.take_of_length_le (by rw [grantM_pre h]; exact Nat.le_refl _)]
theorem grantM_at {l : List DLock} {k : Nat} (h : k < l.length) (h' : k < (grantM l k).length) : (grantM l k)[k] = l[k] := by
  have hp := grantM_pre (Nat.le_of_lt h)
  have : (grantM l k)[k]? = l[k]? := by
    unfold grantM
    rw [List.getElem?_append_right (by omega), hp, Nat.sub_self, List.getElem?_drop, Nat.add_zero]
  rw [List.getElem?_eq_getElem h, List.getElem?_eq_getElem h'] at this
  exact Option.some.inj this
theorem grantM_succ {l : List DLock} {k : Nat} (h : k < l.length) : grantM l (k + 1) = (grantM l k).set k (stepLock ((grantM l k).take k) l[k]) := by
  have hp := grantM_pre (Nat.le_of_lt h)
  rw [grantM_take (Nat.le_of_lt h)]
  unfold grantM
  rw [List.take_succ_eq_append_getElem h, grantL_snoc, List.set_append_right _ _ (by omega), hp, Nat.sub_self, List.drop_eq_getElem_cons h, List.set_cons_zero, List.append_assoc]
  rfl
theorem grantM_stay {l : List DLock} {k : Nat} (h : k < l.length) (hs : stepLock ((grantM l k).take k) l[k] = l[k]) : grantM l (k + 1) = grantM l k := by
  rw [grantM_succ h, hs]
  have h' : k < (grantM l k).length := by rw [grantM_len (Nat.le_of_lt h)]; exact h
  have := grantM_at h h'
  rw [← this, List.set_getElem_self]
theorem grantM_all {l : List DLock} {k : Nat} (h : ¬ k < l.length) : grantM l k = grantL l := by
  unfold grantM; rw [List.take_of_length_le (by omega), List.drop_of_length_le (by omega), List.append_nil]
attribute [irreducible] grantM grantL

set_option maxRecDepth 100000 in
set_option maxHeartbeats 4000000 in
theorem implGrantLocks (cs : List Value) (x : DLockTable) (w : World) (h : Reads DLockTable.rep w cs x) (hs : x.locks.length ≤ 1048600) :
    Calls Try.prog 15 #[.agg cs.toArray] w fun e w' => ∃ ds, e = .returned (.agg ds.toArray) ∧ Fresh DLockTable.rep w.heap.size w' ds (grantLocksF x) ∧ Below w.heap.size w w' := by
  have HH := Lib.hid h
  obtain ⟨fp_q, h⟩ := h
  obtain ⟨q_v1, q_f1, rfl, _, q_r1⟩ := DLockTable.rd.1 h
  obtain ⟨q_a1, q_c1, rfl, q_hm1, q_lc1, q_hu1⟩ := slice_open q_r1; clear q_hu1
  have q_K1 : Hid (Reads (Rep.slice 33 DLock.rep) w [.slice q_a1 x.locks.length q_c1] x.locks) := ⟨_, q_r1⟩
  clear q_r1 h
  go_enter Try.func15, Try.ntmps15
  go_wp2_with fail
  refine (implCopyLocks _ x _ (HH.out.below (by repeat (first | with_reducible exact belR | with_reducible apply belA | (with_reducible refine belS ?_ ?_; focus (first | omega | (simp; done) | (simp; omega))) | with_reducible apply belN | with_reducible apply belD | with_reducible assumption))) hs).mono ?_
  rintro e w1 ⟨ds, rfl, hf, hb⟩
  obtain ⟨ao, cap, rfl⟩ := DLockTable.fshape hf
  have HF : Hid (Fresh (Rep.slice 33 DLock.rep) (w.heap.size + 2) w1 [.slice ao x.locks.length cap] x.locks) := Lib.hid (hf.mono (by simp))
  have hb3 := hb.mono (B' := w.heap.size + 2) (by simp)
  have HR : Hid (WB w1 (w.heap.size + 1) #[.slice none 0 0]) := Lib.hid ((WB.at (by simp)).grow hb3 (by omega))
  have HB : Hid (Below w.heap.size w w1) := Lib.hid (Below.trans (by repeat (first | with_reducible exact belR | (with_reducible refine belAB ?_ ?_; focus (first | omega | (simp; done) | (simp; omega))) | (with_reducible refine belS ?_ ?_; focus (first | omega | (simp; done) | (simp; omega))) | with_reducible apply belN | with_reducible apply belD | with_reducible assumption)) (hb3.mono (by omega)))
  have hz : w.heap.size + 2 ≤ w1.heap.size := by have y := hb3.size; simp at y; omega
  have hlt := Lib.hid HF.out.ownlt
  clear hf hb hb3 HH
  go_wp2
  go_loopw [10, 4] (fun i _ wr => ∃ k : Nat, k ≤ x.locks.length ∧ i = .int .i64 k ∧ WB wr (w.heap.size + 1) #[.slice none 0 0] ∧ WB wr w1.heap.size #[.slice ao x.locks.length cap] ∧ Fresh (Rep.slice 33 DLock.rep) (w.heap.size + 2) wr [.slice ao x.locks.length cap] (grantM x.locks k) ∧ Below w.heap.size w wr) (fun i _ _ => x.locks.length - (intOf i).toNat)
  case atStart => exact ⟨0, by omega, rfl, HR.out.growA, WB.at rfl, by rw [grantM_zero]; exact HF.out.below (by repeat (first | with_reducible exact belR | with_reducible apply belA | (with_reducible refine belS ?_ ?_; focus (first | omega | (simp; done) | (simp; omega))) | with_reducible apply belN | with_reducible apply belD | with_reducible assumption)), by have y := HB.out; exact (by repeat (first | with_reducible exact belR | with_reducible apply belA | (with_reducible refine belS ?_ ?_; focus (first | omega | (simp; done) | (simp; omega))) | with_reducible apply belN | with_reducible apply belD | with_reducible assumption))⟩
  case round =>
    obtain ⟨k, hk, rfl, hr, ho, hf, hb⟩ := hrel
    have HF := Lib.hid hf
    have HB := Lib.hid hb
    have HR := Lib.hid hr
    have HO := Lib.hid ho
    have ⟨co, zo, fo⟩ := ho
    clear hf hb hr ho
    by_cases hkn : k < x.locks.length
    · have hkm : k < (grantM x.locks k).length := by rw [grantM_len (Nat.le_of_lt hkn)]; exact hkn
      have HE := Lib.hid (grantM_at hkn hkm)
      obtain ⟨g0, vc, hv, hc1, _, hg1, hg2, hci, hfz⟩ := DLock.flat.at HF.out k hkm
      simp only [Value.slice.injEq] at hv
      obtain ⟨rfl, hq0, rfl⟩ := hv
      clear hq0
      have hne : w1.heap.size ∉ [g0] := by
        have := (hlt.out g0 (by simp [Value.ownBlock])).2
        simp; omega
      have e0 : wr.cell? ⟨g0, k * 4, none⟩ = some (.string (grantM x.locks k)[k].name) := hci 0 (by decide)
      have e3 : wr.cell? ⟨g0, k * 4 + 3, none⟩ = some (.bool (grantM x.locks k)[k].held) := hci 3 (by decide)
      rw [HE.out] at e3
      clear hci
      have i1 : (0 : Int) ≤ (k : Int) := by omega
      have i2 : (k : Int) < (x.locks.length : Int) := by omega
      cases g1 : x.locks[k].held
      · go_wp2
        have HS : Hid (∀ w', Chg [g0] wr w' → (∀ o, w'.cell? ⟨w1.heap.size, o, none⟩ = #[.slice (some ⟨g0, 0, none⟩) x.locks.length cap][o]?) ∧ Chg [g0] wr w') := Lib.hid fun w' hw' => ⟨(HO.out.chg hw' hne).cell, hw'⟩
        go_region_held3 (fun w' => (∀ o, w'.cell? ⟨w1.heap.size, o, none⟩ = #[.slice (some ⟨g0, 0, none⟩) x.locks.length cap][o]?) ∧ Chg [g0] wr w')
          (first | exact HS.out _ (Chg.of_below (belD belR) (Nat.le_refl _)) | exact HS.out _ hc2 | exact HS.out _ (Chg.set (by simp) hc2))
          (first | (go_at_call 54; refine (implGranted _ ⟨grantM x.locks k⟩ k _ (HF.out.reads.below (by repeat (first | with_reducible exact belR | with_reducible apply belA | (with_reducible refine belS ?_ ?_; focus (first | omega | (simp; done) | (simp; omega))) | with_reducible apply belN | with_reducible apply belD | with_reducible assumption))) hkm).mono ?_; rintro e w2 ⟨rfl, hb2⟩; have hq2 : Below wr.heap.size wr w2 := (Below.trans (by repeat (first | with_reducible exact belR | (with_reducible refine belAB ?_ ?_; focus (first | omega | (simp; done) | (simp; omega))) | (with_reducible refine belS ?_ ?_; focus (first | omega | (simp; done) | (simp; omega))) | with_reducible apply belN | with_reducible apply belD | with_reducible assumption)) (hb2.mono (by first | omega | (simp; done) | (simp; omega)))); have hc2 : Chg [g0] wr w2 := Chg.of_below hq2 (Nat.le_refl _); have e3' := (hq2.cell (p := ⟨g0, k * 4 + 3, none⟩) hg2).trans e3; have f3' : ∀ j, w2.frozen? ⟨g0, j, none⟩ = false := (fun j => (hq2.frozen (p := ⟨g0, j, none⟩) hg2).trans (hfz j))))
        have HQ2 := Lib.hid hq2
        have hst := Lib.hid (show (grantM x.locks k).set k { x.locks[k] with held := mayF ((grantM x.locks k).take k) (grantM x.locks k)[k] } = grantM x.locks (k + 1) by
          rw [grantM_succ hkn, HE.out, stepLock, if_neg (by simp [g1])])
        have hf3 := DLock.flat.setAt (HF.out.below hq2) k hkm 3 [.bool (mayF ((grantM x.locks k).take k) (grantM x.locks k)[k])] { x.locks[k] with held := mayF ((grantM x.locks k).take k) (grantM x.locks k)[k] } (by rw [HE.out]; simp [DLock.enc]) (Nat.le_refl 4) (show x.locks[k].name.size ≤ maxLen from DLock.flat.ok_of HF.out _ (by rw [← HE.out]; exact List.getElem_mem _))
        rw [hst.out] at hf3
        have HF3 := Lib.hid hf3
        have y := HB.out.trans (hq2.mono HB.out.size)
        clear hf3 hq2 hb2 hc2
        go_wp2
        go_light
        exact ⟨⟨k + 1, by omega, by go_num, (HR.out.keep HQ2.out).setOther (by omega), (HO.out.keep HQ2.out).setOther (fun e => hne (by simp [e])), HF3.out, (by repeat (first | with_reducible exact belR | (with_reducible refine belAB ?_ ?_; focus (first | omega | (simp; done) | (simp; omega))) | (with_reducible refine belS ?_ ?_; focus (first | omega | (simp; done) | (simp; omega))) | with_reducible apply belN | with_reducible apply belD | with_reducible assumption))⟩, by simp [intOf]; omega⟩
      · have hst := Lib.hid (grantM_stay hkn (by rw [stepLock, if_pos g1]))
        go_wp2
        go_light
        exact ⟨⟨k + 1, by omega, by go_num, HR.out, HO.out, by rw [hst.out]; exact HF.out, HB.out⟩, by simp [intOf]; omega⟩
    · have e := Lib.hid (grantM_all hkn)
      have ⟨cr, zr, fr⟩ := HR.out
      go_wp2
      refine bodyPost_ret (v := .agg #[.slice ao x.locks.length cap]) (by simp [results, Try.results15, go_sem, cr]) rfl ⟨_, rfl, ?_, ?_⟩
      · show Fresh (Rep.slice 33 DLock.rep) _ _ _ (grantL x.locks)
        rw [← e.out]
        exact (HF.out.setLow (by omega)).mono (by omega)
      · have y := HB.out
        exact (by repeat (first | with_reducible exact belR | (with_reducible refine belAB ?_ ?_; focus (first | omega | (simp; done) | (simp; omega))) | (with_reducible refine belS ?_ ?_; focus (first | omega | (simp; done) | (simp; omega))) | with_reducible apply belN | with_reducible apply belD | with_reducible assumption))

end Go.Proofs.Ytamdjeajmfjfmaa
