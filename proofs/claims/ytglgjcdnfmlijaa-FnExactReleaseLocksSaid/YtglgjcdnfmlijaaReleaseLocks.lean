/-
  ReleaseLocks.
-/
import Derived.Test.YtglgjcdnfmlijaaFuncsLock
import Derived.Test.YtglgjcdnfmlijaaGrantLocks
import Derived.Deep.RegionLaw
import Derived.BigRegion
namespace Go.Proofs.Ytglgjcdnfmlijaa
open Go.RowKit

def keptLocks (l : List DLock) (page : Int) : List DLock := l.filter fun m => !(m.page == page)
def releaseLocksF (x : DLockTable) (page : Int) : DLockTable := grantLocksF ⟨keptLocks x.locks page⟩
theorem keptL_yes {l : List DLock} {page : Int} {k : Nat} (h : k < l.length) (e : (l[k].page == page) = true) : keptLocks (l.take k) page = keptLocks (l.take (k + 1)) page := by
  unfold keptLocks; rw [List.take_succ_eq_append_getElem h, List.filter_append]; simp [e]
theorem keptL_no {l : List DLock} {page : Int} {k : Nat} (h : k < l.length) (e : (l[k].page == page) = false) : keptLocks (l.take k) page ++ [l[k]] = keptLocks (l.take (k + 1)) page := by
  unfold keptLocks; rw [List.take_succ_eq_append_getElem h, List.filter_append]; simp [e]
theorem keptL_le (l : List DLock) (page : Int) (k : Nat) : (keptLocks (l.take k) page).length ≤ l.length := by
  unfold keptLocks; exact Nat.le_trans (List.length_filter_le _ _) (List.length_take_le' _ _)

set_option maxRecDepth 100000 in
set_option maxHeartbeats 800000 in
theorem specReleaseLocks (cs : List Value) (x : DLockTable) (page : Int) (w : World) (h : Reads DLockTable.rep w cs x) (hs : x.locks.length ≤ 1048600) :
    Calls Try.prog 31 #[.agg cs.toArray, .int .i64 page] w fun e w' => ∃ ds, e = .returned (.agg ds.toArray) ∧ Fresh DLockTable.rep w.heap.size w' ds (releaseLocksF x page) ∧ Below w.heap.size w w' := by
  obtain ⟨fp_q, h⟩ := h
  obtain ⟨q_v1, q_f1, rfl, _, q_r1⟩ := DLockTable.rd.1 h
  obtain ⟨q_a1, q_c1, rfl, q_hm1, q_lc1, q_hu1⟩ := slice_open q_r1; clear q_hu1
  have q_K1 : Hid (Reads (Rep.slice 132 DLock.rep) w [.slice q_a1 x.locks.length q_c1] x.locks) := ⟨_, q_r1⟩
  clear q_r1 h
  obtain ⟨i0, hi, hz0, hz1, hz2⟩ := info_parts infoLock
  go_enter Try.func31, Try.ntmps31
  go_wp2
  go_loopw [6] (fun i wr => ∃ (k : Nat) (v : Value), k ≤ x.locks.length ∧ i = .int .i64 k ∧ WB wr w.heap.size #[.slice q_a1 x.locks.length q_c1] ∧ WB wr (w.heap.size + 1) #[.slice none 0 0] ∧ WB wr (w.heap.size + 2) #[v] ∧ Fresh (Rep.slice 132 DLock.rep) (w.heap.size + 3) wr [v] (keptLocks (x.locks.take k) page) ∧ Below w.heap.size w wr) (fun i _ => x.locks.length - (intOf i).toNat)
  case atStart => exact ⟨0, .slice none 0 0, by omega, rfl, (WB.at rfl).growA.growA, (WB.at (by simp)).growA, WB.at (by simp), Fresh.nil, (by repeat (first | with_reducible exact belR | with_reducible apply belA | (with_reducible refine belS ?_ ?_; focus (first | omega | (simp; done) | (simp; omega))) | with_reducible apply belN | with_reducible apply belD | with_reducible assumption))⟩
  case round =>
    obtain ⟨k, v, hk, rfl, hx, hr, ho, hf, hb⟩ := hrel
    obtain ⟨bo, cap, rfl⟩ := hf.slice
    have HB := Lib.hid hb
    have HF := Lib.hid hf
    have HX := Lib.hid hx
    have HR := Lib.hid hr
    have HO := Lib.hid ho
    have ⟨cx, zx, _⟩ := hx
    have ⟨co, zo, fo⟩ := ho
    clear hx hr ho hf hb
    have hle := keptL_le x.locks page k
    have hle' : (keptLocks (x.locks.take k) page).length ≤ 1048600 := by omega
    by_cases hlt : k < x.locks.length
    · obtain ⟨b, off, cs_b, rfl, hw_b, hr_b, hcell_b⟩ := slice_at (q_K1.out.below HB.out) k hlt
      obtain ⟨fe_b, hrd_b⟩ := hr_b
      have HR_b : Hid (Reads DLock.rep wr cs_b x.locks[k]) := ⟨_, hrd_b⟩
      obtain ⟨rfl, _, b_s0⟩ := DLock.rd.1 hrd_b
      clear hrd_b
      have b_c0 : wr.cell? ⟨b, off + k * 4, none⟩ = some (.string x.locks[k].name) := hcell_b 0 (by decide)
      have b_c1 : wr.cell? ⟨b, off + k * 4 + 1, none⟩ = some (.int .i64 x.locks[k].page) := hcell_b 1 (by decide)
      have b_c2 : wr.cell? ⟨b, off + k * 4 + 2, none⟩ = some (.bool x.locks[k].shared) := hcell_b 2 (by decide)
      have b_c3 : wr.cell? ⟨b, off + k * 4 + 3, none⟩ = some (.bool x.locks[k].held) := hcell_b 3 (by decide)
      clear hcell_b
      have i1 : (0 : Int) ≤ (k : Int) := by omega
      have i2 : (k : Int) < (x.locks.length : Int) := by omega
      by_cases he : (x.locks[k].page == page) = true
      · have HE := Lib.hid (keptL_yes hlt he)
        go_wp2
        go_light
        exact ⟨⟨k + 1, _, by omega, by go_num, HX.out, HR.out, HO.out, by rw [← HE.out]; exact HF.out, HB.out⟩, by simp [intOf]; omega⟩
      · have he : (x.locks[k].page == page) = false := by simpa using he
        have HE := Lib.hid (keptL_no hlt he)
        go_wp2
        go_region_law
          (first | ((refine step_push _ (by rfl) _ _ 53 53 (by rfl) DLock.flat (w.heap.size + 3) 132 i0 _ _ Try.underlying53 Try.underlying53 hi hz0 hz1 hz2 rfl _ _ (by rfl) (HF.out.below (by repeat (first | with_reducible exact belR | with_reducible apply belA | (with_reducible refine belS ?_ ?_; focus (first | omega | (simp; done) | (simp; omega))) | with_reducible apply belN | with_reducible apply belD | with_reducible assumption))) x.locks[k] _ (by rfl) (news_at rfl) b_s0 (by omega) (by decide) (by simp; omega) ?_; intro ao2 cap2 w2 hf2 hb2 hsz2; have hb3 : Below (w.heap.size + 3) wr w2 := Below.trans (by repeat (first | with_reducible exact belR | (with_reducible refine belAB ?_ ?_; focus (first | omega | (simp; done) | (simp; omega))) | (with_reducible refine belS ?_ ?_; focus (first | omega | (simp; done) | (simp; omega))) | with_reducible apply belN | with_reducible apply belD | with_reducible assumption)) hb2; have ⟨co2, zo2, fo2⟩ := HO.out.grow hb3 (by omega))))
        all_goals
          rw [HE.out] at hf2
          have HF2 := Lib.hid hf2
          have HB3 := Lib.hid hb3
          have y := HB.out.trans (hb3.mono (by omega))
          clear hf2 hb2 hb3
          go_wp2
          go_light
          exact ⟨⟨k + 1, _, by omega, by go_num, (HX.out.grow HB3.out (by omega)).setOther (by omega), (HR.out.grow HB3.out (by omega)).setOther (by omega), (HO.out.grow HB3.out (by omega)).setAt (by simp) rfl, HF2.out.setLow (by omega), (by repeat (first | with_reducible exact belR | (with_reducible refine belAB ?_ ?_; focus (first | omega | (simp; done) | (simp; omega))) | (with_reducible refine belS ?_ ?_; focus (first | omega | (simp; done) | (simp; omega))) | with_reducible apply belN | with_reducible apply belD | with_reducible assumption))⟩, by simp [intOf]; omega⟩
    · have e : keptLocks (x.locks.take k) page = keptLocks x.locks page := by
        rw [List.take_of_length_le (by omega)]
      have HE := Lib.hid e; clear e
      have ⟨cr, zr, fr⟩ := HR.out
      go_wp2_with fail
      refine (specGrantLocks _ ⟨keptLocks (x.locks.take k) page⟩ _ (HF.out.reads.below (by repeat (first | with_reducible exact belR | with_reducible apply belA | (with_reducible refine belS ?_ ?_; focus (first | omega | (simp; done) | (simp; omega))) | with_reducible apply belN | with_reducible apply belD | with_reducible assumption))) hle').mono ?_
      rintro e w2 ⟨ds, rfl, hf2, hb2⟩
      obtain ⟨ao2, cap2, rfl⟩ := DLockTable.fshape hf2
      have HF2 := Lib.hid hf2
      have ⟨cr2, zr2, fr2⟩ := HR.out.keep hb2
      have HB2 := Lib.hid (HB.out.trans (hb2.mono HB.out.size))
      clear hf2 hb2
      go_wp2
      refine bodyPost_ret (v := .agg #[.slice ao2 (grantLocksF ⟨keptLocks (x.locks.take k) page⟩).locks.length cap2]) (by simp [results, Try.results31, go_sem, cr2]) rfl ⟨_, rfl, ?_, ?_⟩
      · rw [releaseLocksF, ← HE.out]
        exact (HF2.out.setLow (by omega)).mono (by omega)
      · have y := HB2.out
        exact (by repeat (first | with_reducible exact belR | (with_reducible refine belAB ?_ ?_; focus (first | omega | (simp; done) | (simp; omega))) | (with_reducible refine belS ?_ ?_; focus (first | omega | (simp; done) | (simp; omega))) | with_reducible apply belN | with_reducible apply belD | with_reducible assumption))

theorem delLockPred (page : Int) (B k : Nat) (w : World) (hk : k < B) (hc : w.cell? ⟨k, 0, none⟩ = some (.int .i64 page)) : PredOn Try.prog DLock.rep 95 #[.pointer (some ⟨k, 0, none⟩)] (fun m => m.page == page) B w := by
  intro W cs x hb hr
  obtain ⟨fp, hr⟩ := hr
  obtain ⟨rfl, _, _⟩ := DLock.rd.1 hr
  have hc' := (hb.cell (p := ⟨k, 0, none⟩) hk).trans hc
  have hkW := block_lt_of_cell hc'
  clear hr hb hc
  change Calls Try.prog 95 #[.agg #[.string x.name, .int .i64 x.page, .bool x.shared, .bool x.held], .pointer (some ⟨k, 0, none⟩)] W _
  go_enter Try.func95, Try.ntmps95
  go_wp2
  go_ret
  exact ⟨rfl, (by repeat (first | with_reducible exact belR | with_reducible apply belA | (with_reducible refine belS ?_ ?_; focus (first | omega | (simp; done) | (simp; omega))) | with_reducible apply belN | with_reducible apply belD | with_reducible assumption))⟩

set_option maxRecDepth 100000 in
set_option maxHeartbeats 800000 in
theorem implReleaseLocks (cs : List Value) (x : DLockTable) (page : Int) (w : World) (h : Reads DLockTable.rep w cs x) (hs : x.locks.length ≤ 1048600) :
    Calls Try.prog 33 #[.agg cs.toArray, .int .i64 page] w fun e w' => ∃ ds, e = .returned (.agg ds.toArray) ∧ Fresh DLockTable.rep w.heap.size w' ds (releaseLocksF x page) ∧ Below w.heap.size w w' := by
  have HH := Lib.hid h
  obtain ⟨fp_q, h⟩ := h
  obtain ⟨q_v1, q_f1, rfl, _, q_r1⟩ := DLockTable.rd.1 h
  obtain ⟨q_a1, q_c1, rfl, q_hm1, q_lc1, q_hu1⟩ := slice_open q_r1; clear q_hu1
  have q_K1 : Hid (Reads (Rep.slice 132 DLock.rep) w [.slice q_a1 x.locks.length q_c1] x.locks) := ⟨_, q_r1⟩
  clear q_r1 h
  go_enter Try.func33, Try.ntmps33
  go_wp2_with fail
  refine (implCopyLocks _ x _ (HH.out.below (by repeat (first | with_reducible exact belR | with_reducible apply belA | (with_reducible refine belS ?_ ?_; focus (first | omega | (simp; done) | (simp; omega))) | with_reducible apply belN | with_reducible apply belD | with_reducible assumption))) hs).mono ?_
  rintro e w1 ⟨ds, rfl, hf, hb⟩
  obtain ⟨ao, cap, rfl⟩ := DLockTable.fshape hf
  have HF : Hid (Fresh (Rep.slice 132 DLock.rep) (w.heap.size + 3) w1 [.slice ao x.locks.length cap] x.locks) := Lib.hid (hf.mono (by simp))
  have hb3 := hb.mono (B' := w.heap.size + 3) (by simp)
  have HR : Hid (WB w1 (w.heap.size + 2) #[.slice none 0 0]) := Lib.hid ((WB.at (by simp)).grow hb3 (by omega))
  have HP : Hid (WB w1 (w.heap.size + 1) #[.int .i64 page]) := Lib.hid (((WB.at (by simp)).growA).grow hb3 (by omega))
  have HB : Hid (Below w.heap.size w w1) := Lib.hid (Below.trans (by repeat (first | with_reducible exact belR | (with_reducible refine belAB ?_ ?_; focus (first | omega | (simp; done) | (simp; omega))) | (with_reducible refine belS ?_ ?_; focus (first | omega | (simp; done) | (simp; omega))) | with_reducible apply belN | with_reducible apply belD | with_reducible assumption)) (hb3.mono (by omega)))
  have hz : w.heap.size + 3 ≤ w1.heap.size := by have y := hb3.size; simp at y; omega
  clear hf hb hb3
  go_wp2_with fail
  refine (deleteFuncLock _ _ (fun m => m.page == page) (w.heap.size + 3) _ _ _ (enters_at Try.func95 (by kernel_rfl) rfl) (HF.out.below (by repeat (first | with_reducible exact belR | with_reducible apply belA | (with_reducible refine belS ?_ ?_; focus (first | omega | (simp; done) | (simp; omega))) | with_reducible apply belN | with_reducible apply belD | with_reducible assumption))) (delLockPred page _ _ _ (by omega) (HP.out.growA.cell 0)) (by simp; omega)).mono ?_
  rintro e w2 ⟨v', rfl, hf, hc, hv'⟩
  obtain ⟨bo, cap2, rfl⟩ := hf.slice
  have hlt := HF.out.ownlt
  have hap := Lib.hid (show w1.heap.size ∉ (Value.slice bo (x.locks.filter fun m => !m.page == page).length cap2).ownBlock.toList from fun hm => by have := hlt _ (hv' _ hm); omega)
  have HF2 := Lib.hid hf
  have HO : Hid (WB w2 w1.heap.size #[.slice ao x.locks.length cap]) := Lib.hid ((WB.at rfl).chg hc (fun hm => by have := hlt _ hm; omega))
  have HR2 : Hid (WB w2 (w.heap.size + 2) #[.slice none 0 0]) := Lib.hid (HR.out.growA.chg hc (fun hm => by have := hlt _ hm; omega))
  have hb2 := hc.below (B := w.heap.size) (fun b hm => by have := hlt _ hm; omega) (by simp; omega)
  have HB2 : Hid (Below w.heap.size w w2) := Lib.hid (by have y := HB.out; exact Below.trans (by repeat (first | with_reducible exact belR | with_reducible apply belA | (with_reducible refine belS ?_ ?_; focus (first | omega | (simp; done) | (simp; omega))) | with_reducible apply belN | with_reducible apply belD | with_reducible assumption)) hb2)
  have ⟨co, zo, fo⟩ := HO.out
  have ⟨cr, zr, fr⟩ := HR2.out
  have hk2 : (x.locks.filter fun m => !m.page == page).length ≤ 1048600 := Nat.le_trans (List.length_filter_le _ _) hs
  clear hf hc hb2 hv' hlt
  go_wp2_with fail
  refine (implGrantLocks _ ⟨x.locks.filter fun m => !m.page == page⟩ _ ((DLock.flat.setApart HF2.out hap.out).reads.below (by repeat (first | with_reducible exact belR | with_reducible apply belA | (with_reducible refine belS ?_ ?_; focus (first | omega | (simp; done) | (simp; omega))) | with_reducible apply belN | with_reducible apply belD | with_reducible assumption))) hk2).mono ?_
  rintro e w3 ⟨ds, rfl, hf3, hb3⟩
  obtain ⟨ao3, cap3, rfl⟩ := DLockTable.fshape hf3
  have HF3 := Lib.hid hf3
  have hb4 := hb3.mono (B' := w2.heap.size) (by simp)
  have ⟨cr3, zr3, fr3⟩ : WB w3 (w.heap.size + 2) #[.slice none 0 0] := (HR2.out.setOther (by omega)).keep hb3
  have HB3 : Hid (Below w.heap.size w w3) := Lib.hid (by have y := HB2.out; exact Below.trans (by repeat (first | with_reducible exact belR | (with_reducible refine belAB ?_ ?_; focus (first | omega | (simp; done) | (simp; omega))) | (with_reducible refine belS ?_ ?_; focus (first | omega | (simp; done) | (simp; omega))) | with_reducible apply belN | with_reducible apply belD | with_reducible assumption)) (hb4.mono y.size))
  have hz3 := HB2.out.size
  clear hf3 hb3 hb4
  go_wp2
  refine bodyPost_ret (v := .agg #[.slice ao3 (grantLocksF ⟨x.locks.filter fun m => !m.page == page⟩).locks.length cap3]) (by simp [results, Try.results33, go_sem, cr3]) rfl ⟨_, rfl, ?_, ?_⟩
  · exact (HF3.out.setLow (by simp; omega)).mono (by simp; omega)
  · have y := HB3.out
    exact (by repeat (first | with_reducible exact belR | (with_reducible refine belAB ?_ ?_; focus (first | omega | (simp; done) | (simp; omega))) | (with_reducible refine belS ?_ ?_; focus (first | omega | (simp; done) | (simp; omega))) | with_reducible apply belN | with_reducible apply belD | with_reducible assumption))

end Go.Proofs.Ytglgjcdnfmlijaa
