/-
  ReleaseLocks.
-/
import Derived.Test.YtamdjeajmfjfmaaFuncsLock
import Derived.Test.YtamdjeajmfjfmaaGrantLocks
import Derived.Deep.RegionLaw
import Derived.BigRegion
namespace Go.Proofs.Ytamdjeajmfjfmaa
open Go.RowKit

def keptLocks (l : List DLock) (page : Int) : List DLock := l.filter fun m => !(m.page == page)
def releaseLocksF (x : DLockTable) (page : Int) : DLockTable := grantLocksF ⟨keptLocks x.locks page⟩
theorem keptL_yes {l : List DLock} {page : Int} {k : Nat} (h : k < l.length) (e : (l[k].page == page) = true) : keptLocks (l.take k) page = keptLocks (l.take (k + 1)) page := by
  unfold keptLocks; rw [List.take_succ_eq_append_getElem h, List.filter_append]; simp [e]
theorem keptL_no {l : List DLock} {page : Int} {k : Nat} (h : k < l.length) (e : (l[k].page == page) = false) : keptLocks (l.take k) page ++ [l[k]] = keptLocks (l.take (k + 1)) page := by
  unfold keptLocks; rw [List.take_succ_eq_append_getElem h, List.filter_append]; simp [e]
theorem keptL_le (l : List DLock) (page : Int) (k : Nat) : (keptLocks (l.take k) page).length ≤ l.length := by
  unfold keptLocks; exact Nat.le_trans (List.length_filter_le _ _) (List.length_take_le' _ _)

theorem delLockPred (page : Int) (B k : Nat) (w : World) (hk : k < B) (hc : w.cell? ⟨k, 0, none⟩ = some (.int .i64 page)) : PredOn Try.prog DLock.rep 56 #[.pointer (some ⟨k, 0, none⟩)] (fun m => m.page == page) B w := by
  intro W cs x hb hr
  obtain ⟨fp, hr⟩ := hr
  obtain ⟨rfl, _, _⟩ := DLock.rd.1 hr
  have hc' := (hb.cell (p := ⟨k, 0, none⟩) hk).trans hc
  have hkW := block_lt_of_cell hc'
  clear hr hb hc
  change Calls Try.prog 56 #[.agg #[.string x.name, .int .i64 x.page, .bool x.shared, .bool x.held], .pointer (some ⟨k, 0, none⟩)] W _
  go_enter Try.func56, Try.ntmps56
  go_wp2
  go_ret
  exact ⟨rfl, (by repeat (first | with_reducible exact belR | with_reducible apply belA | (with_reducible refine belS ?_ ?_; focus (first | omega | (simp; done) | (simp; omega))) | with_reducible apply belN | with_reducible apply belD | with_reducible assumption))⟩

set_option maxRecDepth 100000 in
set_option maxHeartbeats 800000 in
theorem implReleaseLocks (cs : List Value) (x : DLockTable) (page : Int) (w : World) (h : Reads DLockTable.rep w cs x) (hs : x.locks.length ≤ 1048600) :
    Calls Try.prog 11 #[.agg cs.toArray, .int .i64 page] w fun e w' => ∃ ds, e = .returned (.agg ds.toArray) ∧ Fresh DLockTable.rep w.heap.size w' ds (releaseLocksF x page) ∧ Below w.heap.size w w' := by
  have HH := Lib.hid h
  obtain ⟨fp_q, h⟩ := h
  obtain ⟨q_v1, q_f1, rfl, _, q_r1⟩ := DLockTable.rd.1 h
  obtain ⟨q_a1, q_c1, rfl, q_hm1, q_lc1, q_hu1⟩ := slice_open q_r1; clear q_hu1
  have q_K1 : Hid (Reads (Rep.slice 33 DLock.rep) w [.slice q_a1 x.locks.length q_c1] x.locks) := ⟨_, q_r1⟩
  clear q_r1 h
  go_enter Try.func11, Try.ntmps11
  go_wp2_with fail
  refine (implCopyLocks _ x _ (HH.out.below (by repeat (first | with_reducible exact belR | with_reducible apply belA | (with_reducible refine belS ?_ ?_; focus (first | omega | (simp; done) | (simp; omega))) | with_reducible apply belN | with_reducible apply belD | with_reducible assumption))) hs).mono ?_
  rintro e w1 ⟨ds, rfl, hf, hb⟩
  obtain ⟨ao, cap, rfl⟩ := DLockTable.fshape hf
  have HF : Hid (Fresh (Rep.slice 33 DLock.rep) (w.heap.size + 3) w1 [.slice ao x.locks.length cap] x.locks) := Lib.hid (hf.mono (by simp))
  have hb3 := hb.mono (B' := w.heap.size + 3) (by simp)
  have HR : Hid (WB w1 (w.heap.size + 2) #[.slice none 0 0]) := Lib.hid ((WB.at (by simp)).grow hb3 (by omega))
  have HP : Hid (WB w1 (w.heap.size + 1) #[.int .i64 page]) := Lib.hid (((WB.at (by simp)).growA).grow hb3 (by omega))
  have HB : Hid (Below w.heap.size w w1) := Lib.hid (Below.trans (by repeat (first | with_reducible exact belR | (with_reducible refine belAB ?_ ?_; focus (first | omega | (simp; done) | (simp; omega))) | (with_reducible refine belS ?_ ?_; focus (first | omega | (simp; done) | (simp; omega))) | with_reducible apply belN | with_reducible apply belD | with_reducible assumption)) (hb3.mono (by omega)))
  have hz : w.heap.size + 3 ≤ w1.heap.size := by have y := hb3.size; simp at y; omega
  clear hf hb hb3
  go_wp2_with fail
  refine (deleteFuncLock _ _ (fun m => m.page == page) (w.heap.size + 3) _ _ _ (enters_at Try.func56 (by kernel_rfl) rfl) (HF.out.below (by repeat (first | with_reducible exact belR | with_reducible apply belA | (with_reducible refine belS ?_ ?_; focus (first | omega | (simp; done) | (simp; omega))) | with_reducible apply belN | with_reducible apply belD | with_reducible assumption))) (delLockPred page _ _ _ (by omega) (HP.out.growA.cell 0)) (by simp; omega)).mono ?_
  rintro e w2 ⟨v', rfl, hf, hc, hv'⟩
  obtain ⟨bo, cap2, rfl⟩ := hf.slice
  have hlt := HF.out.ownlt
  have hap := Lib.hid (show w1.heap.size ∉ (Value.slice bo (x.locks.filter fun m => !m.page == page).length cap2).ownBlock.toList from fun hm => by have := hlt _ (hv' _ hm); omega)
  have HF2 := Lib.hid hf
  have HO : Hid (WB w2 w1.heap.size #[.slice ao x.locks.length cap]) := Lib.hid ((WB.at rfl).chg hc (fun hm => by have := hlt _ hm; omega))
  have HR2 : Hid (WB w2 (w.heap.size + 2) #[.slice none 0 0]) := Lib.hid (HR.out.growA.chg hc (fun hm => by have := hlt _ hm; omega))
  have hb2 := hc.below (B := w.heap.size) (fun b hm => by have := hlt _ hm; omega) (by simp; omega)
  have HB2 : Hid (Below w.heap.size w w2) := Lib.hid (by have y := HB.out; exact Below.trans (by repeat (first | with_reducible exact belR | with_reducible apply belA | (with_reducible refine belS ?_ ?_; focus (first | omega | (simp; done) | (simp; omega))) | with_reducible apply belN | with_reducible apply belD | with_reducible assumption)) hb2)
  have ⟨co, zo, fo⟩ := HO.out
  have ⟨cr, zr, fr⟩ := HR2.out
  have hk2 : (x.locks.filter fun m => !m.page == page).length ≤ 1048600 := Nat.le_trans (List.length_filter_le _ _) hs
  clear hf hc hb2 hv' hlt
  go_wp2_with fail
  refine (implGrantLocks _ ⟨x.locks.filter fun m => !m.page == page⟩ _ ((DLock.flat.setApart HF2.out hap.out).reads.below (by repeat (first | with_reducible exact belR | with_reducible apply belA | (with_reducible refine belS ?_ ?_; focus (first | omega | (simp; done) | (simp; omega))) | with_reducible apply belN | with_reducible apply belD | with_reducible assumption))) hk2).mono ?_
  rintro e w3 ⟨ds, rfl, hf3, hb3⟩
  obtain ⟨ao3, cap3, rfl⟩ := DLockTable.fshape hf3
  have HF3 := Lib.hid hf3
  have hb4 := hb3.mono (B' := w2.heap.size) (by simp)
  have ⟨cr3, zr3, fr3⟩ : WB w3 (w.heap.size + 2) #[.slice none 0 0] := (HR2.out.setOther (by omega)).keep hb3
  have HB3 : Hid (Below w.heap.size w w3) := Lib.hid (by have y := HB2.out; exact Below.trans (by repeat (first | with_reducible exact belR | (with_reducible refine belAB ?_ ?_; focus (first | omega | (simp; done) | (simp; omega))) | (with_reducible refine belS ?_ ?_; focus (first | omega | (simp; done) | (simp; omega))) | with_reducible apply belN | with_reducible apply belD | with_reducible assumption)) (hb4.mono y.size))
  have hz3 := HB2.out.size
  clear hf3 hb3 hb4
  go_wp2
  refine bodyPost_ret (v := .agg #[.slice ao3 (grantLocksF ⟨x.locks.filter fun m => !m.page == page⟩).locks.length cap3]) (by simp [results, Try.results11, go_sem, cr3]) rfl ⟨_, rfl, ?_, ?_⟩
  · exact (HF3.out.setLow (by simp; omega)).mono (by simp; omega)
  · have y := HB3.out
    exact (by repeat (first | with_reducible exact belR | (with_reducible refine belAB ?_ ?_; focus (first | omega | (simp; done) | (simp; omega))) | (with_reducible refine belS ?_ ?_; focus (first | omega | (simp; done) | (simp; omega))) | with_reducible apply belN | with_reducible apply belD | with_reducible assumption))

end Go.Proofs.Ytamdjeajmfjfmaa
