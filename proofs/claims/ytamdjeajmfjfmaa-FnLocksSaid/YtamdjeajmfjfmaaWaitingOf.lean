/-
  WaitingOf.
-/
import Derived.Test.YtamdjeajmfjfmaaLLockTable
namespace Go.Proofs.Ytamdjeajmfjfmaa
open Go.RowKit

def isWaiting (name : ByteArray) (x : DLock) : Bool := !x.held && (x.name.toList == name.toList)
def waitN (l : List DLock) (name : ByteArray) (k : Nat) : List Int := ((l.take k).filter (isWaiting name)).map (·.page)
def waitingOfF (x : DLockTable) (name : ByteArray) : List Int := (x.locks.filter (isWaiting name)).map (·.page)
theorem waitN_yes {l : List DLock} {name : ByteArray} {k : Nat} (h : k < l.length) (e : isWaiting name l[k] = true) : waitN l name k ++ [l[k].page] = waitN l name (k + 1) := by
  unfold waitN; rw [List.take_succ_eq_append_getElem h, List.filter_append]; simp [e]
theorem waitN_no {l : List DLock} {name : ByteArray} {k : Nat} (h : k < l.length) (e : isWaiting name l[k] = false) : waitN l name k = waitN l name (k + 1) := by
  unfold waitN; rw [List.take_succ_eq_append_getElem h, List.filter_append]; simp [e]
theorem waitN_le (l : List DLock) (name : ByteArray) (k : Nat) : (waitN l name k).length ≤ l.length := by
  unfold waitN; rw [List.length_map]; exact Nat.le_trans (List.length_filter_le _ _) (List.length_take_le' _ _)

set_option maxRecDepth 100000 in
set_option maxHeartbeats 800000 in
theorem implWaitingOf (cs : List Value) (x : DLockTable) (name : ByteArray) (w : World) (h : Reads DLockTable.rep w cs x) (hs : x.locks.length ≤ 1048576) :
    Calls Try.prog 13 #[.agg cs.toArray, .string name] w fun e w' => ∃ v, e = .returned v ∧ Fresh (Rep.slice 3 Rep.int) w.heap.size w' [v] (waitingOfF x name) ∧ Below w.heap.size w w' := by
  obtain ⟨fp_q, h⟩ := h
  obtain ⟨q_v1, q_f1, rfl, _, q_r1⟩ := DLockTable.rd.1 h
  obtain ⟨q_a1, q_c1, rfl, q_hm1, q_lc1, q_hu1⟩ := slice_open q_r1; clear q_hu1
  have q_K1 : Hid (Reads (Rep.slice 33 DLock.rep) w [.slice q_a1 x.locks.length q_c1] x.locks) := ⟨_, q_r1⟩
  clear q_r1 h
  obtain ⟨i0, hi, hz0, hz1, hz2⟩ := info_parts Try.infoInt
  go_enter Try.func13, Try.ntmps13
  go_wp2
  go_loopw [5, 12] (fun v i wr => ∃ k : Nat, k ≤ x.locks.length ∧ i = .int .i64 k ∧ Box wr w.heap.size #[.slice q_a1 x.locks.length q_c1] ∧ Fresh (Rep.slice 3 Rep.int) (w.heap.size + 1) wr [v] (waitN x.locks name k) ∧ Below w.heap.size w wr) (fun _ i _ => x.locks.length - (intOf i).toNat)
  case atStart => exact ⟨0, by omega, rfl, (Box.at rfl).growA, (lit_fresh FlatR.int (w := w.alloc _) (xs := #[]) (us := []) rfl rfl (by decide) (by simp) (by simp)), (by repeat (first | with_reducible exact belR | with_reducible apply belA | (with_reducible refine belS ?_ ?_; focus (first | omega | (simp; done) | (simp; omega))) | with_reducible apply belN | with_reducible apply belD | with_reducible assumption))⟩
  case round =>
    obtain ⟨k, hk, rfl, hx, hf, hb⟩ := hrel
    obtain ⟨bo, cap, rfl⟩ := hf.slice
    have HB := Lib.hid hb; clear hb
    have HF := Lib.hid hf; clear hf
    have HX := Lib.hid hx
    have ⟨cx, zx⟩ := hx
    clear hx
    have hle := waitN_le x.locks name k
    by_cases hlt : k < x.locks.length
    · obtain ⟨b, off, cs_b, rfl, hw_b, hr_b, hcell_b⟩ := slice_at (q_K1.out.below HB.out) k hlt
      obtain ⟨fe_b, hrd_b⟩ := hr_b
      have HR_b : Hid (Reads DLock.rep wr cs_b x.locks[k]) := ⟨_, hrd_b⟩
      obtain ⟨rfl, _, b_s0⟩ := DLock.rd.1 hrd_b
      clear hrd_b
      have b_c0 : wr.cell? ⟨b, off + k * 4, none⟩ = some (.string x.locks[k].name) := hcell_b 0 (by decide)
      have b_c1 : wr.cell? ⟨b, off + k * 4 + 1, none⟩ = some (.int .i64 x.locks[k].page) := hcell_b 1 (by decide)
      have b_c2 : wr.cell? ⟨b, off + k * 4 + 2, none⟩ = some (.bool x.locks[k].shared) := hcell_b 2 (by decide)
      have b_c3 : wr.cell? ⟨b, off + k * 4 + 3, none⟩ = some (.bool x.locks[k].held) := hcell_b 3 (by decide)
      clear hcell_b
      by_cases h1 : x.locks[k].held = true
      · have he := Lib.hid (show isWaiting name x.locks[k] = false by simp [isWaiting, h1])
        go_wp2
        go_light
        have y := HB.out
        exact ⟨⟨k + 1, by omega, by go_num, HX.out.growA, by rw [← waitN_no hlt he.out]; exact HF.out.below (by repeat (first | with_reducible exact belR | with_reducible apply belA | (with_reducible refine belS ?_ ?_; focus (first | omega | (simp; done) | (simp; omega))) | with_reducible apply belN | with_reducible apply belD | with_reducible assumption)), (by repeat (first | with_reducible exact belR | with_reducible apply belA | (with_reducible refine belS ?_ ?_; focus (first | omega | (simp; done) | (simp; omega))) | with_reducible apply belN | with_reducible apply belD | with_reducible assumption))⟩, by simp [intOf]; omega⟩
      · have h1 : x.locks[k].held = false := by simpa using h1
        by_cases h2 : (x.locks[k].name.toList == name.toList) = true
        · have he := Lib.hid (show isWaiting name x.locks[k] = true by simp only [isWaiting, h1, h2, Bool.not_false, Bool.and_self])
          go_wp2_with (at_builtin; refine wpList_push _ rfl _ _ 34 34 rfl FlatR.int (w.heap.size + 1) 3 i0 _ _ Try.underlying34 Try.underlying34 hi hz0 hz1 hz2 rfl _ _ rfl (HF.out.below (by repeat (first | with_reducible exact belR | with_reducible apply belA | (with_reducible refine belS ?_ ?_; focus (first | omega | (simp; done) | (simp; omega))) | with_reducible apply belN | with_reducible apply belD | with_reducible assumption))) x.locks[k].page _ _ _ rfl ?p0a rfl trivial ?p1a ?p2a ?p3a ?_)
          case p0a => first | rfl | simp
          case p1a => omega
          case p2a => decide
          case p3a => have y := HB.out.size; simp; omega
          intro bo' cap' w1 hf1 hb1
          rw [waitN_yes hlt he.out] at hf1
          have HF1 := Lib.hid hf1; clear hf1
          have HX1 := Lib.hid (HX.out.growA.keep hb1 (Nat.lt_succ_self _))
          have HB1 : Hid (Below w.heap.size w w1) := Lib.hid (by have y := HB.out; exact Below.trans (by repeat (first | with_reducible exact belR | with_reducible apply belA | (with_reducible refine belS ?_ ?_; focus (first | omega | (simp; done) | (simp; omega))) | with_reducible apply belN | with_reducible apply belD | with_reducible assumption)) (hb1.mono (Nat.le_succ _))); clear hb1
          go_wp2
          go_light
          exact ⟨⟨k + 1, by omega, by go_num, HX1.out, HF1.out, HB1.out⟩, by simp [intOf]; omega⟩
        · have h2 : (x.locks[k].name.toList == name.toList) = false := by simpa using h2
          have he := Lib.hid (show isWaiting name x.locks[k] = false by simp only [isWaiting, h2, Bool.and_false])
          go_wp2
          go_light
          have y := HB.out
          exact ⟨⟨k + 1, by omega, by go_num, HX.out.growA, by rw [← waitN_no hlt he.out]; exact HF.out.below (by repeat (first | with_reducible exact belR | with_reducible apply belA | (with_reducible refine belS ?_ ?_; focus (first | omega | (simp; done) | (simp; omega))) | with_reducible apply belN | with_reducible apply belD | with_reducible assumption)), (by repeat (first | with_reducible exact belR | with_reducible apply belA | (with_reducible refine belS ?_ ?_; focus (first | omega | (simp; done) | (simp; omega))) | with_reducible apply belN | with_reducible apply belD | with_reducible assumption))⟩, by simp [intOf]; omega⟩
    · have e : waitN x.locks name k = waitingOfF x name := by
        unfold waitN waitingOfF; rw [List.take_of_length_le (by omega)]
      have HE := Lib.hid e; clear e
      go_wp2
      go_ret
      exact ⟨_, rfl, by rw [← HE.out]; exact HF.out.mono (Nat.le_succ _), HB.out⟩

end Go.Proofs.Ytamdjeajmfjfmaa
