/-
  HoldsLock.
-/
import Derived.Test.YtjjaghnblljleaaFuncsLock
import Derived.Test.YtjjaghnblljleaaLLockTable
namespace Go.Proofs.Ytjjaghnblljleaa
open Go.RowKit

def isHeldBy (name : ByteArray) (page : Int) (x : DLock) : Bool := x.held && (x.name.toList == name.toList) && x.page == page
def holdsLockF (x : DLockTable) (name : ByteArray) (page : Int) : Bool := x.locks.any (isHeldBy name page)

theorem holdsPred (name : ByteArray) (page : Int) (B k k' : Nat) (w : World) (hk : k < B) (hk' : k' < B) (hc : w.cell? ⟨k, 0, none⟩ = some (.string name)) (hd : w.cell? ⟨k', 0, none⟩ = some (.int .i64 page)) :
    PredOn Try.prog DLock.rep 72 #[.pointer (some ⟨k, 0, none⟩), .pointer (some ⟨k', 0, none⟩)] (isHeldBy name page) B w := by
  intro W cs x hb hr
  obtain ⟨fp, hr⟩ := hr
  obtain ⟨rfl, _, s0⟩ := DLock.rd.1 hr
  have hc' := (hb.cell (p := ⟨k, 0, none⟩) hk).trans hc
  have hd' := (hb.cell (p := ⟨k', 0, none⟩) hk').trans hd
  have hkW := block_lt_of_cell hc'
  have hkW' := block_lt_of_cell hd'
  clear hr hb hc hd
  change Calls Try.prog 72 #[.agg #[.string x.name, .int .i64 x.page, .bool x.shared, .bool x.held], .pointer (some ⟨k, 0, none⟩), .pointer (some ⟨k', 0, none⟩)] W _
  cases h1 : x.held
  · go_enter Try.func72, Try.ntmps72
    go_wp2
    go_ret
    exact ⟨ret_bool (by simp [isHeldBy, h1]), (by repeat (first | with_reducible exact belR | with_reducible apply belA | (with_reducible refine belS ?_ ?_; focus (first | omega | (simp; done) | (simp; omega))) | with_reducible apply belN | with_reducible apply belD | with_reducible assumption))⟩
  · cases h2 : (x.name.toList == name.toList)
    · go_enter Try.func72, Try.ntmps72
      go_wp2
      go_ret
      exact ⟨ret_bool (by simp only [isHeldBy, h1, h2, Bool.and_false, Bool.false_and]), (by repeat (first | with_reducible exact belR | with_reducible apply belA | (with_reducible refine belS ?_ ?_; focus (first | omega | (simp; done) | (simp; omega))) | with_reducible apply belN | with_reducible apply belD | with_reducible assumption))⟩
    · go_enter Try.func72, Try.ntmps72
      go_wp2
      go_ret
      exact ⟨ret_bool (by simp only [isHeldBy, h1, h2, Bool.true_and]), (by repeat (first | with_reducible exact belR | with_reducible apply belA | (with_reducible refine belS ?_ ?_; focus (first | omega | (simp; done) | (simp; omega))) | with_reducible apply belN | with_reducible apply belD | with_reducible assumption))⟩

set_option maxHeartbeats 800000 in
theorem implHoldsLock (cs : List Value) (x : DLockTable) (name : ByteArray) (page : Int) (w : World) (h : Reads DLockTable.rep w cs x) :
    Calls Try.prog 18 #[.agg cs.toArray, .string name, .int .i64 page] w fun e w' => e = .returned (.bool (holdsLockF x name page)) ∧ Below w.heap.size w w' := by
  obtain ⟨fp_q, h⟩ := h
  obtain ⟨q_v1, q_f1, rfl, _, q_r1⟩ := DLockTable.rd.1 h
  obtain ⟨q_a1, q_c1, rfl, q_hm1, q_lc1, q_hu1⟩ := slice_open q_r1; clear q_hu1
  have q_K1 : Hid (Reads (Rep.slice 41 DLock.rep) w [.slice q_a1 x.locks.length q_c1] x.locks) := ⟨_, q_r1⟩
  clear q_r1 h
  go_enter Try.func18, Try.ntmps18
  go_wp2_with fail
  refine (containsFuncLock _ _ (isHeldBy name page) (w.heap.size + 3) _ _ _ (enters_at Try.func72 (by kernel_rfl) rfl) (q_K1.out.below (by repeat (first | with_reducible exact belR | with_reducible apply belA | (with_reducible refine belS ?_ ?_; focus (first | omega | (simp; done) | (simp; omega))) | with_reducible apply belN | with_reducible apply belD | with_reducible assumption))) (holdsPred name page _ _ _ _ (by omega) (by omega) ((WB.at (by simp)).growA.cell 0) ((WB.at (by simp)).cell 0)) (by simp)).mono ?_
  rintro e w1 ⟨rfl, hb⟩
  have HB := Lib.hid (Below.trans (by repeat (first | with_reducible exact belR | with_reducible apply belA | (with_reducible refine belS ?_ ?_; focus (first | omega | (simp; done) | (simp; omega))) | with_reducible apply belN | with_reducible apply belD | with_reducible assumption)) (hb.mono (by first | omega | (simp; done) | (simp; omega))) : Below w.heap.size w w1)
  go_wp2
  go_ret
  exact ⟨rfl, HB.out⟩

set_option maxRecDepth 100000 in
set_option maxHeartbeats 800000 in
theorem specHoldsLock (cs : List Value) (x : DLockTable) (name : ByteArray) (page : Int) (w : World) (h : Reads DLockTable.rep w cs x) :
    Calls Try.prog 16 #[.agg cs.toArray, .string name, .int .i64 page] w fun e w' => e = .returned (.bool (holdsLockF x name page)) ∧ Below w.heap.size w w' := by
  obtain ⟨fp_q, h⟩ := h
  obtain ⟨q_v1, q_f1, rfl, _, q_r1⟩ := DLockTable.rd.1 h
  obtain ⟨q_a1, q_c1, rfl, q_hm1, q_lc1, q_hu1⟩ := slice_open q_r1; clear q_hu1
  have q_K1 : Hid (Reads (Rep.slice 41 DLock.rep) w [.slice q_a1 x.locks.length q_c1] x.locks) := ⟨_, q_r1⟩
  clear q_r1 h
  go_enter Try.func16, Try.ntmps16
  go_wp2
  go_loopw [7] (fun i wr => ∃ k : Nat, k ≤ x.locks.length ∧ i = .int .i64 k ∧ Hid (∀ j, (hj : j < x.locks.length) → j < k → isHeldBy name page x.locks[j] = false) ∧ WB wr w.heap.size #[.slice q_a1 x.locks.length q_c1] ∧ Below w.heap.size w wr) (fun i _ => x.locks.length - (intOf i).toNat)
  case atStart => exact ⟨0, by omega, rfl, Lib.hid (by intro j hj h; omega), WB.at rfl, (by repeat (first | with_reducible exact belR | with_reducible apply belA | (with_reducible refine belS ?_ ?_; focus (first | omega | (simp; done) | (simp; omega))) | with_reducible apply belN | with_reducible apply belD | with_reducible assumption))⟩
  case round =>
    obtain ⟨k, hk, rfl, HA, hx, hb⟩ := hrel
    have HB := Lib.hid hb; clear hb
    have HX := Lib.hid hx
    have ⟨cx, zx, fx⟩ := hx
    clear hx
    by_cases hlt : k < x.locks.length
    · obtain ⟨b, off, cs_b, rfl, hw_b, hr_b, hcell_b⟩ := slice_at (q_K1.out.below HB.out) k hlt
      obtain ⟨fe_b, hrd_b⟩ := hr_b
      have HR_b : Hid (Reads DLock.rep wr cs_b x.locks[k]) := ⟨_, hrd_b⟩
      obtain ⟨rfl, _, b_s0⟩ := DLock.rd.1 hrd_b
      clear hrd_b
      have b_c0 : wr.cell? ⟨b, off + k * 4, none⟩ = some (.string x.locks[k].name) := hcell_b 0 (by decide)
      have b_c1 : wr.cell? ⟨b, off + k * 4 + 1, none⟩ = some (.int .i64 x.locks[k].page) := hcell_b 1 (by decide)
      have b_c2 : wr.cell? ⟨b, off + k * 4 + 2, none⟩ = some (.bool x.locks[k].shared) := hcell_b 2 (by decide)
      have b_c3 : wr.cell? ⟨b, off + k * 4 + 3, none⟩ = some (.bool x.locks[k].held) := hcell_b 3 (by decide)
      clear hcell_b
      cases h1 : x.locks[k].held
      · have he := Lib.hid (show isHeldBy name page x.locks[k] = false by simp [isHeldBy, h1])
        go_wp2
        go_light
        exact ⟨⟨k + 1, by omega, by go_num, Lib.hid (none_snoc hlt HA.out he.out), HX.out, HB.out⟩, by simp [intOf]; omega⟩
      · cases h2 : (x.locks[k].name.toList == name.toList)
        · have he := Lib.hid (show isHeldBy name page x.locks[k] = false by simp only [isHeldBy, h1, h2, Bool.and_false, Bool.false_and])
          go_wp2
          go_light
          exact ⟨⟨k + 1, by omega, by go_num, Lib.hid (none_snoc hlt HA.out he.out), HX.out, HB.out⟩, by simp [intOf]; omega⟩
        · cases h3 : (x.locks[k].page == page)
          · have he := Lib.hid (show isHeldBy name page x.locks[k] = false by simp only [isHeldBy, h3, Bool.and_false])
            go_wp2
            go_light
            exact ⟨⟨k + 1, by omega, by go_num, Lib.hid (none_snoc hlt HA.out he.out), HX.out, HB.out⟩, by simp [intOf]; omega⟩
          · have he := Lib.hid (show x.locks.any (isHeldBy name page) = true from List.any_eq_true.2 ⟨_, List.getElem_mem hlt, by simp only [isHeldBy, h1, h2, h3, Bool.and_self]⟩)
            go_wp2
            go_ret
            exact ⟨ret_bool he.out.symm, HB.out⟩
    · have e := Lib.hid (show x.locks.any (isHeldBy name page) = false from List.any_eq_false.2 fun y hy => by
        obtain ⟨j, hj, rfl⟩ := List.getElem_of_mem hy
        rw [HA.out j hj (by omega)]; simp)
      go_wp2
      go_ret
      exact ⟨ret_bool e.out.symm, HB.out⟩

end Go.Proofs.Ytjjaghnblljleaa
