/-
  IsLockTable.
-/
import Derived.Test.YtamdjeajmfjfmaaLockName
import Derived.Test.YtamdjeajmfjfmaaBase
import Derived.Test.YtamdjeajmfjfmaaTLockTable
namespace Go.Proofs.Ytamdjeajmfjfmaa
open Go.RowKit

def lockOk (x : DLock) : Bool := isWordF x.name 30 true && within x.page 1 1000000000000
/-- x, held, stands behind y and may not. -/
def clash (x y : DLock) : Bool := (y.name.toList == x.name.toList) && (x.held && (!y.held || (!x.shared || !y.shared)))
def lockGood (l : List DLock) (i : Nat) : Bool := match l[i]? with | none => true | some x => lockOk x && !(l.take i).any (clash x)
def isLockTableF (x : DLockTable) : Bool := (List.range x.locks.length).all (lockGood x.locks) && decide (x.locks.length ≤ 12)
theorem table_no {x : DLockTable} {i : Nat} (hi : i < x.locks.length) (h : lockGood x.locks i = false) : isLockTableF x = false := by
  have : (List.range x.locks.length).all (lockGood x.locks) = false := List.all_eq_false.2 ⟨i, List.mem_range.2 hi, by rw [h]; simp⟩
  rw [isLockTableF, this, Bool.false_and]
theorem table_yes {x : DLockTable} {k : Nat} (hk : ¬ k < x.locks.length) (h : ∀ i, i < k → lockGood x.locks i = true) : isLockTableF x = decide (x.locks.length ≤ 12) := by
  have : (List.range x.locks.length).all (lockGood x.locks) = true := List.all_eq_true.2 fun i hi => h i (by have := List.mem_range.1 hi; omega)
  rw [isLockTableF, this, Bool.true_and]
theorem good_name {l : List DLock} {i : Nat} (hi : i < l.length) (h : isWordF l[i].name 30 true = false) : lockGood l i = false := by
  unfold lockGood; rw [List.getElem?_eq_getElem hi]; simp only [lockOk, h, Bool.false_and]
theorem good_page {l : List DLock} {i : Nat} (hi : i < l.length) (h : within l[i].page 1 1000000000000 = false) : lockGood l i = false := by
  unfold lockGood; rw [List.getElem?_eq_getElem hi]; simp only [lockOk, h, Bool.and_false, Bool.false_and]
theorem good_clash {l : List DLock} {i j : Nat} (hi : i < l.length) (hj : j < i) (h : clash l[i] (l[j]'(by omega)) = true) : lockGood l i = false := by
  unfold lockGood; rw [List.getElem?_eq_getElem hi]
  have : (l.take i).any (clash l[i]) = true := List.any_eq_true.2 ⟨l[j]'(by omega), by rw [List.mem_take_iff_getElem]; exact ⟨j, by omega, rfl⟩, h⟩
  simp only [this, Bool.not_true, Bool.and_false]
theorem good_yes {l : List DLock} {i k : Nat} (hi : i < l.length) (h1 : isWordF l[i].name 30 true = true) (h2 : within l[i].page 1 1000000000000 = true) (hk : i ≤ k) (h : ∀ j, (hj : j < l.length) → j < k → clash l[i] l[j] = false) : lockGood l i = true := by
  unfold lockGood; rw [List.getElem?_eq_getElem hi]
  have : (l.take i).any (clash l[i]) = false := List.any_eq_false.2 fun y hy => by
    rw [List.mem_take_iff_getElem] at hy
    obtain ⟨j, hj, rfl⟩ := hy
    rw [h j (by omega) (by omega)]; simp
  simp only [lockOk, h1, h2, this, Bool.not_false, Bool.and_self]
theorem good_snoc {l : List DLock} {k : Nat} (h : ∀ i, i < k → lockGood l i = true) (hk : lockGood l k = true) : ∀ i, i < k + 1 → lockGood l i = true := by
  intro i hi
  by_cases e : i = k
  · subst e; exact hk
  · exact h i (by omega)
attribute [irreducible] lockGood

set_option maxRecDepth 100000 in
set_option maxHeartbeats 4000000 in
theorem implIsLockTable (cs : List Value) (x : DLockTable) (w : World) (h : Reads DLockTable.rep w cs x) :
    Calls Try.prog 12 #[.agg cs.toArray] w fun e w' => e = .returned (.bool (isLockTableF x)) ∧ Below w.heap.size w w' := by
  obtain ⟨fp_q, h⟩ := h
  obtain ⟨q_v1, q_f1, rfl, _, q_r1⟩ := DLockTable.rd.1 h
  obtain ⟨q_a1, q_c1, rfl, q_hm1, q_lc1, q_hu1⟩ := slice_open q_r1; clear q_hu1
  have q_K1 : Hid (Reads (Rep.slice 33 DLock.rep) w [.slice q_a1 x.locks.length q_c1] x.locks) := ⟨_, q_r1⟩
  clear q_r1 h
  go_enter Try.func12, Try.ntmps12
  go_wp2
  go_loopw [10] (fun i wr => ∃ k : Nat, k ≤ x.locks.length ∧ i = .int .i64 k ∧ Hid (∀ i, i < k → lockGood x.locks i = true) ∧ WB wr w.heap.size #[.slice q_a1 x.locks.length q_c1] ∧ Below w.heap.size w wr) (fun i _ => x.locks.length - (intOf i).toNat)
  case atStart => exact ⟨0, by omega, rfl, Lib.hid (by intro i hi; omega), WB.at rfl, (by repeat (first | with_reducible exact belR | with_reducible apply belA | (with_reducible refine belS ?_ ?_; focus (first | omega | (simp; done) | (simp; omega))) | with_reducible apply belN | with_reducible apply belD | with_reducible assumption))⟩
  case round =>
    obtain ⟨k, hk, rfl, HA, hx, hb⟩ := hrel
    have HB := Lib.hid hb; clear hb
    have HX := Lib.hid hx
    have ⟨cx, zx, fx⟩ := hx
    clear hx
    by_cases hlt : k < x.locks.length
    · obtain ⟨b, off, cs_b, rfl, hw_b, hr_b, hcell_b⟩ := slice_at (q_K1.out.below HB.out) k hlt
      obtain ⟨fe_b, hrd_b⟩ := hr_b
      have HR_b : Hid (Reads DLock.rep wr cs_b x.locks[k]) := ⟨_, hrd_b⟩
      obtain ⟨rfl, _, b_s0⟩ := DLock.rd.1 hrd_b
      clear hrd_b
      have b_c0 : wr.cell? ⟨b, off + k * 4, none⟩ = some (.string x.locks[k].name) := hcell_b 0 (by decide)
      have b_c1 : wr.cell? ⟨b, off + k * 4 + 1, none⟩ = some (.int .i64 x.locks[k].page) := hcell_b 1 (by decide)
      have b_c2 : wr.cell? ⟨b, off + k * 4 + 2, none⟩ = some (.bool x.locks[k].shared) := hcell_b 2 (by decide)
      have b_c3 : wr.cell? ⟨b, off + k * 4 + 3, none⟩ = some (.bool x.locks[k].held) := hcell_b 3 (by decide)
      clear hcell_b
      have s_len := b_s0
      have j1 : (0 : Int) ≤ (k : Int) := by omega
      have j2 : (k : Int) ≤ (q_c1 : Int) := by omega
      have j3 : (k : Int) < (x.locks.length : Int) := by omega
      cases n1 : isWordF x.locks[k].name 30 true
      · have he := Lib.hid (good_name hlt n1)
        go_wp2_with (first | (go_at_call 57; refine (implIsLockName _ s_len _).mono ?_; rintro e w' ⟨rfl, rfl⟩) | (go_at_call 58; refine (implInRange _ _ _ _).mono ?_; rintro e w' ⟨rfl, rfl⟩))
        go_ret
        have y := HB.out
        exact ⟨ret_bool (table_no hlt he.out).symm, (by repeat (first | with_reducible exact belR | with_reducible apply belA | (with_reducible refine belS ?_ ?_; focus (first | omega | (simp; done) | (simp; omega))) | with_reducible apply belN | with_reducible apply belD | with_reducible assumption))⟩
      cases n2 : within x.locks[k].page 1 1000000000000
      · have he := Lib.hid (good_page hlt n2)
        go_wp2_with (first | (go_at_call 57; refine (implIsLockName _ s_len _).mono ?_; rintro e w' ⟨rfl, rfl⟩) | (go_at_call 58; refine (implInRange _ _ _ _).mono ?_; rintro e w' ⟨rfl, rfl⟩))
        go_ret
        have y := HB.out
        exact ⟨ret_bool (table_no hlt he.out).symm, (by repeat (first | with_reducible exact belR | with_reducible apply belA | (with_reducible refine belS ?_ ?_; focus (first | omega | (simp; done) | (simp; omega))) | with_reducible apply belN | with_reducible apply belD | with_reducible assumption))⟩
      go_wp2_with (first | (go_at_call 57; refine (implIsLockName _ s_len _).mono ?_; rintro e w' ⟨rfl, rfl⟩) | (go_at_call 58; refine (implInRange _ _ _ _).mono ?_; rintro e w' ⟨rfl, rfl⟩))
      have N1 := Lib.hid n1
      have N2 := Lib.hid n2
      clear n1 n2
      obtain ⟨wo, hwo⟩ : ∃ wo : World, wo = wr := ⟨_, rfl⟩
      subst hwo
      have HZ : Hid (WB (wo.alloc (.cells #[.string x.locks[k].name, .int .i64 x.locks[k].page, .bool x.locks[k].shared, .bool x.locks[k].held] 33)) wo.heap.size #[.string x.locks[k].name, .int .i64 x.locks[k].page, .bool x.locks[k].shared, .bool x.locks[k].held]) := Lib.hid (WB.at rfl)
      have HX1 := Lib.hid (HX.out.growA (o := .cells #[.string x.locks[k].name, .int .i64 x.locks[k].page, .bool x.locks[k].shared, .bool x.locks[k].held] 33))
      clear cx fx b_c0 b_c1 b_c2 b_c3
      go_loopw [30] (fun i wr => ∃ j : Nat, j ≤ k ∧ i = .int .i64 j ∧ Hid (∀ i, (hi : i < x.locks.length) → i < j → clash x.locks[k] x.locks[i] = false) ∧ WB wr w.heap.size #[.slice (some ⟨b, off, none⟩) x.locks.length q_c1] ∧ WB wr wo.heap.size #[.string x.locks[k].name, .int .i64 x.locks[k].page, .bool x.locks[k].shared, .bool x.locks[k].held] ∧ Below w.heap.size w wr) (fun i _ => k - (intOf i).toNat)
      case atStart => exact ⟨0, by omega, rfl, Lib.hid (by intro i hi h; omega), HX1.out, HZ.out, by have y := HB.out; exact (by repeat (first | with_reducible exact belR | with_reducible apply belA | (with_reducible refine belS ?_ ?_; focus (first | omega | (simp; done) | (simp; omega))) | with_reducible apply belN | with_reducible apply belD | with_reducible assumption))⟩
      case round =>
        obtain ⟨j, hj, rfl, HC, hx2, hz2, hb2⟩ := hrel
        have HB2 := Lib.hid hb2
        have HX2 := Lib.hid hx2
        have HZ2 := Lib.hid hz2
        have ⟨cx2, zx2, _⟩ := hx2
        have ⟨cz2, zz2, _⟩ := hz2
        clear hb2 hx2 hz2
        by_cases hjk : j < k
        · have hlj : j < x.locks.length := by omega
          have HN := slice_at (q_K1.out.below HB2.out) j hlj
          obtain ⟨b2, off2, cs2, hbb, hw2, hr2, hcell2⟩ := HN
          simp only [Option.some.injEq, Addr.mk.injEq, and_true] at hbb
          obtain ⟨rfl, rfl⟩ := hbb
          obtain ⟨_, hr2⟩ := hr2
          obtain ⟨rfl, _, _⟩ := DLock.rd.1 hr2
          have n_c0 : wr.cell? ⟨b, off + j * 4, none⟩ = some (.string x.locks[j].name) := hcell2 0 (by decide)
          have n_c1 : wr.cell? ⟨b, off + j * 4 + 1, none⟩ = some (.int .i64 x.locks[j].page) := hcell2 1 (by decide)
          have n_c2 : wr.cell? ⟨b, off + j * 4 + 2, none⟩ = some (.bool x.locks[j].shared) := hcell2 2 (by decide)
          have n_c3 : wr.cell? ⟨b, off + j * 4 + 3, none⟩ = some (.bool x.locks[j].held) := hcell2 3 (by decide)
          clear hcell2 hr2
          have i1 : (0 : Int) ≤ (j : Int) := by omega
          have i2 : (j : Int) < (x.locks.length : Int) := by omega
          cases g1 : (x.locks[j].name.toList == x.locks[k].name.toList)
          · have he := Lib.hid (show clash x.locks[k] x.locks[j] = false by simp only [clash, g1, Bool.false_and])
            go_wp2
            go_light
            exact ⟨⟨j + 1, by omega, by go_num, Lib.hid (none_snoc hlj HC.out he.out), HX2.out.growA, (by first | exact HZ2.out.growA | (have z := HZ2.out; rw [g2] at z; exact z.growA) | (have z := HZ2.out; rw [g2, g4] at z; exact z.growA)), by have y := HB2.out; exact (by repeat (first | with_reducible exact belR | with_reducible apply belA | (with_reducible refine belS ?_ ?_; focus (first | omega | (simp; done) | (simp; omega))) | with_reducible apply belN | with_reducible apply belD | with_reducible assumption))⟩, by simp [intOf]; omega⟩
          · cases g2 : x.locks[k].held
            · have he := Lib.hid (show clash x.locks[k] x.locks[j] = false by simp only [clash, g2, Bool.false_and, Bool.and_false])
              go_wp2
              go_light
              exact ⟨⟨j + 1, by omega, by go_num, Lib.hid (none_snoc hlj HC.out he.out), HX2.out.growA, (by first | exact HZ2.out.growA | (have z := HZ2.out; rw [g2] at z; exact z.growA) | (have z := HZ2.out; rw [g2, g4] at z; exact z.growA)), by have y := HB2.out; exact (by repeat (first | with_reducible exact belR | with_reducible apply belA | (with_reducible refine belS ?_ ?_; focus (first | omega | (simp; done) | (simp; omega))) | with_reducible apply belN | with_reducible apply belD | with_reducible assumption))⟩, by simp [intOf]; omega⟩
            · cases g3 : x.locks[j].held
              · have he := Lib.hid (show clash x.locks[k] x.locks[j] = true by simp only [clash, g1, g2, g3, Bool.not_false, Bool.true_or, Bool.and_self])
                go_wp2
                go_ret
                have y := HB2.out
                exact ⟨ret_bool (table_no hlt (good_clash hlt hjk he.out)).symm, (by repeat (first | with_reducible exact belR | with_reducible apply belA | (with_reducible refine belS ?_ ?_; focus (first | omega | (simp; done) | (simp; omega))) | with_reducible apply belN | with_reducible apply belD | with_reducible assumption))⟩
              · cases g4 : x.locks[k].shared
                · have he := Lib.hid (show clash x.locks[k] x.locks[j] = true by simp only [clash, g1, g2, g3, g4, Bool.not_true, Bool.not_false, Bool.true_or, Bool.or_true, Bool.and_self])
                  go_wp2
                  go_ret
                  have y := HB2.out
                  exact ⟨ret_bool (table_no hlt (good_clash hlt hjk he.out)).symm, (by repeat (first | with_reducible exact belR | with_reducible apply belA | (with_reducible refine belS ?_ ?_; focus (first | omega | (simp; done) | (simp; omega))) | with_reducible apply belN | with_reducible apply belD | with_reducible assumption))⟩
                · cases g5 : x.locks[j].shared
                  · have he := Lib.hid (show clash x.locks[k] x.locks[j] = true by simp only [clash, g1, g2, g3, g4, g5, Bool.not_true, Bool.not_false, Bool.or_true, Bool.and_self])
                    go_wp2
                    go_ret
                    have y := HB2.out
                    exact ⟨ret_bool (table_no hlt (good_clash hlt hjk he.out)).symm, (by repeat (first | with_reducible exact belR | with_reducible apply belA | (with_reducible refine belS ?_ ?_; focus (first | omega | (simp; done) | (simp; omega))) | with_reducible apply belN | with_reducible apply belD | with_reducible assumption))⟩
                  · have he := Lib.hid (show clash x.locks[k] x.locks[j] = false by simp only [clash, g1, g2, g3, g4, g5, Bool.not_true, Bool.or_self, Bool.and_false])
                    go_wp2
                    go_light
                    exact ⟨⟨j + 1, by omega, by go_num, Lib.hid (none_snoc hlj HC.out he.out), HX2.out.growA, (by first | exact HZ2.out.growA | (have z := HZ2.out; rw [g2] at z; exact z.growA) | (have z := HZ2.out; rw [g2, g4] at z; exact z.growA)), by have y := HB2.out; exact (by repeat (first | with_reducible exact belR | with_reducible apply belA | (with_reducible refine belS ?_ ?_; focus (first | omega | (simp; done) | (simp; omega))) | with_reducible apply belN | with_reducible apply belD | with_reducible assumption))⟩, by simp [intOf]; omega⟩
        · have he := Lib.hid (good_yes hlt N1.out N2.out (show k ≤ j by omega) HC.out)
          go_wp2
          go_light
          exact ⟨⟨k + 1, by omega, by go_num, Lib.hid (good_snoc HA.out he.out), HX2.out, HB2.out⟩, by simp [intOf]; omega⟩
    · have he := Lib.hid (table_yes hlt HA.out)
      go_wp2
      go_ret
      refine ⟨ret_bool ?_, HB.out⟩
      rw [he.out]
      simp only [decide_eq_decide]
      omega

end Go.Proofs.Ytamdjeajmfjfmaa
