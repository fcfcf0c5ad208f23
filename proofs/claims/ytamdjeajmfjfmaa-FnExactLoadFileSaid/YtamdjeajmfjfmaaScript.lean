/-
  IsInstr, IsScript.
-/
import Derived.Test.YtamdjeajmfjfmaaTInstr
import Derived.Test.YtamdjeajmfjfmaaBase
namespace Go.Proofs.Ytamdjeajmfjfmaa
open Go.RowKit

def textKind (k : Int) : Bool := k == 5 || (k == 6 || (k == 7 || k == 8))
def mostN (k lines : Int) : Int := if k = 1 then 1000 else if k = 2 then 3 else if k = 3 then lines else if k = 4 then lines else if k = 6 then 100 else if k = 7 then 100 else if k = 8 then 100 else 0
def isInstrF (x : DInstr) (lines : Int) : Bool :=
  within x.kind 1 9 && (within x.r 0 3 && (within x.n 0 (mostN x.kind lines) && (!((x.kind == 4 || x.kind == 9) && x.r != 0) && (if textKind x.kind then isWordF x.text 8 false else x.text.toList.isEmpty))))
theorem within00 (n : Int) : within n 0 0 = (n == 0) := by
  unfold within
  by_cases h : n = 0
  · subst h; rfl
  · have h1 : (n == 0) = false := by simpa using h
    rw [h1]
    by_cases h2 : 0 ≤ n
    · rw [decide_eq_true h2, decide_eq_false (by omega)]; rfl
    · rw [decide_eq_false h2]; rfl

set_option maxRecDepth 100000 in
set_option maxHeartbeats 6400000 in
theorem implIsInstr (cs : List Value) (x : DInstr) (lines : Int) (w : World) (h : Reads DInstr.rep w cs x) :
    Calls Try.prog 135 #[.agg cs.toArray, .int .i64 lines] w fun e w' => e = .returned (.bool (isInstrF x lines)) ∧ Below w.heap.size w w' := by
  obtain ⟨fp, h⟩ := h
  obtain ⟨rfl, _, hs⟩ := DInstr.rd.1 h
  clear h
  obtain ⟨kind, r, n, text⟩ := x
  simp only at hs
  by_cases h1 : within kind 1 9 = false
  · go_enter Try.func135, Try.ntmps135
    go_wp2_with (first | (go_at_call 58; refine (implInRange _ _ _ _).mono ?_; rintro e w' ⟨rfl, rfl⟩))
    all_goals
      go_ret
      exact ⟨ret_bool (by simp [isInstrF, h1]), (by repeat (first | with_reducible exact belR | with_reducible apply belA | (with_reducible refine belS ?_ ?_; focus (first | omega | (simp; done) | (simp; omega))) | with_reducible apply belN | with_reducible apply belD | with_reducible assumption))⟩
  replace h1 : within kind 1 9 = true := by simpa using h1
  have hk : kind = 1 ∨ kind = 2 ∨ kind = 3 ∨ kind = 4 ∨ kind = 5 ∨ kind = 6 ∨ kind = 7 ∨ kind = 8 ∨ kind = 9 := by
    have h2 := h1
    unfold within at h2
    simp only [Bool.and_eq_true, decide_eq_true_eq] at h2
    omega
  cases h2 : within r 0 3
  · go_enter Try.func135, Try.ntmps135
    go_wp2_with (first | (go_at_call 58; refine (implInRange _ _ _ _).mono ?_; rintro e w' ⟨rfl, rfl⟩))
    all_goals
      go_ret
      exact ⟨ret_bool (by simp [isInstrF, h2]), (by repeat (first | with_reducible exact belR | with_reducible apply belA | (with_reducible refine belS ?_ ?_; focus (first | omega | (simp; done) | (simp; omega))) | with_reducible apply belN | with_reducible apply belD | with_reducible assumption))⟩
  rcases hk with rfl | rfl | rfl | rfl | rfl | rfl | rfl | rfl | rfl
  all_goals
    go_enter Try.func135, Try.ntmps135
    go_wp2_with (first | (go_at_call 58; refine (implInRange _ _ _ _).mono ?_; rintro e w' ⟨rfl, rfl⟩) | (go_at_call 107; refine (implIsName _ hs _).mono ?_; rintro e w' ⟨rfl, rfl⟩))
    all_goals
      go_ret
      refine ⟨ret_bool ?_, (by repeat (first | with_reducible exact belR | with_reducible apply belA | (with_reducible refine belS ?_ ?_; focus (first | omega | (simp; done) | (simp; omega))) | with_reducible apply belN | with_reducible apply belD | with_reducible assumption))⟩
      go_light
      simp_all [isInstrF, mostN, textKind, within00]

set_option maxRecDepth 100000 in
set_option maxHeartbeats 6400000 in
theorem specIsInstr (cs : List Value) (x : DInstr) (lines : Int) (w : World) (h : Reads DInstr.rep w cs x) :
    Calls Try.prog 134 #[.agg cs.toArray, .int .i64 lines] w fun e w' => e = .returned (.bool (isInstrF x lines)) ∧ Below w.heap.size w w' := by
  obtain ⟨fp, h⟩ := h
  obtain ⟨rfl, _, hs⟩ := DInstr.rd.1 h
  clear h
  obtain ⟨kind, r, n, text⟩ := x
  simp only at hs
  by_cases h1 : within kind 1 9 = false
  · have hne : ∀ c : Int, 1 ≤ c → c ≤ 9 → (kind == c) = false := by
      intro c hc1 hc2
      have : kind ≠ c := by
        rintro rfl
        unfold within at h1
        rw [decide_eq_true hc1, decide_eq_true hc2] at h1
        cases h1
      simpa using this
    have k1 := hne 1 (by decide) (by decide)
    have k2 := hne 2 (by decide) (by decide)
    have k3 := hne 3 (by decide) (by decide)
    have k4 := hne 4 (by decide) (by decide)
    have k5 := hne 5 (by decide) (by decide)
    have k6 := hne 6 (by decide) (by decide)
    have k7 := hne 7 (by decide) (by decide)
    have k8 := hne 8 (by decide) (by decide)
    have k9 := hne 9 (by decide) (by decide)
    clear hne
    go_enter Try.func134, Try.ntmps134
    go_wp2_with (first | (go_at_call 105; refine (specIn _ _ _ _).mono ?_; rintro e w' ⟨rfl, rfl⟩))
    all_goals
      go_ret
      exact ⟨ret_bool (by simp [isInstrF, h1]), (by repeat (first | with_reducible exact belR | with_reducible apply belA | (with_reducible refine belS ?_ ?_; focus (first | omega | (simp; done) | (simp; omega))) | with_reducible apply belN | with_reducible apply belD | with_reducible assumption))⟩
  replace h1 : within kind 1 9 = true := by simpa using h1
  have hk : kind = 1 ∨ kind = 2 ∨ kind = 3 ∨ kind = 4 ∨ kind = 5 ∨ kind = 6 ∨ kind = 7 ∨ kind = 8 ∨ kind = 9 := by
    have h2 := h1
    unfold within at h2
    simp only [Bool.and_eq_true, decide_eq_true_eq] at h2
    omega
  rcases hk with rfl | rfl | rfl | rfl | rfl | rfl | rfl | rfl | rfl
  all_goals
    have w1 : within (1 : Int) 6 8 = false := by decide
    have w2 : within (2 : Int) 6 8 = false := by decide
    have w3 : within (3 : Int) 6 8 = false := by decide
    have w4 : within (4 : Int) 6 8 = false := by decide
    have w6 : within (6 : Int) 6 8 = true := by decide
    have w7 : within (7 : Int) 6 8 = true := by decide
    have w8 : within (8 : Int) 6 8 = true := by decide
    have w9 : within (9 : Int) 6 8 = false := by decide
    go_enter Try.func134, Try.ntmps134
    go_wp2_with (first | (go_at_call 105; refine (specIn _ _ _ _).mono ?_; rintro e w' ⟨rfl, rfl⟩) | (go_at_call 104; refine (specIsName _ hs _).mono ?_; rintro e w' ⟨rfl, rfl⟩))
    all_goals
      go_ret
      refine ⟨ret_bool ?_, (by repeat (first | with_reducible exact belR | with_reducible apply belA | (with_reducible refine belS ?_ ?_; focus (first | omega | (simp; done) | (simp; omega))) | with_reducible apply belN | with_reducible apply belD | with_reducible assumption))⟩
      go_light
      simp_all [isInstrF, mostN, textKind, within00]

def isScriptF (l : List DInstr) : Bool := l.all (fun x => isInstrF x l.length) && decide (l.length ≤ 16)
theorem script_no {l : List DInstr} {k : Nat} (hk : k < l.length) (h : isInstrF l[k] l.length = false) : isScriptF l = false := by
  have : l.all (fun x => isInstrF x l.length) = false := List.all_eq_false.2 ⟨l[k], List.getElem_mem _, by rw [h]; simp⟩
  rw [isScriptF, this, Bool.false_and]
theorem script_yes {l : List DInstr} {k : Nat} (hk : ¬ k < l.length) (h : ∀ i, i < k → (hi : i < l.length) → isInstrF l[i] l.length = true) : isScriptF l = decide (l.length ≤ 16) := by
  have : l.all (fun x => isInstrF x l.length) = true := List.all_eq_true.2 fun x hx => by
    obtain ⟨i, hi, rfl⟩ := List.getElem_of_mem hx
    exact h i (by omega) hi
  rw [isScriptF, this, Bool.true_and]

set_option maxRecDepth 100000 in
set_option maxHeartbeats 1600000 in
theorem implIsScript (v : Value) (l : List DInstr) (w : World) (h : Reads (Rep.slice 113 DInstr.rep) w [v] l) :
    Calls Try.prog 106 #[v] w fun e w' => e = .returned (.bool (isScriptF l)) ∧ Below w.heap.size w w' := by
  have HK := Lib.hid h
  obtain ⟨fp, h⟩ := h
  obtain ⟨ao, c1, rfl, hm, _, hu⟩ := slice_open h
  clear hu h
  go_enter Try.func106, Try.ntmps106
  go_wp2
  go_loopw [7] (fun i wr => ∃ k : Nat, k ≤ l.length ∧ i = .int .i64 k ∧ Hid (∀ i, i < k → (hi : i < l.length) → isInstrF l[i] l.length = true) ∧ Below w.heap.size w wr) (fun i _ => l.length - (intOf i).toNat)
  case atStart => exact ⟨0, by omega, rfl, Lib.hid (by intro i hi; omega), (by repeat (first | with_reducible exact belR | with_reducible apply belA | (with_reducible refine belS ?_ ?_; focus (first | omega | (simp; done) | (simp; omega))) | with_reducible apply belN | with_reducible apply belD | with_reducible assumption))⟩
  case round =>
    obtain ⟨k, hk, rfl, HA, hb⟩ := hrel
    have HB := Lib.hid hb; clear hb
    by_cases hlt : k < l.length
    · obtain ⟨b, off, cs_b, rfl, hw_b, hr_b, hcell_b⟩ := slice_at (HK.out.below HB.out) k hlt
      obtain ⟨fe_b, hrd_b⟩ := hr_b
      have HR_b : Hid (Reads DInstr.rep wr cs_b l[k]) := ⟨_, hrd_b⟩
      obtain ⟨rfl, _, b_s0⟩ := DInstr.rd.1 hrd_b
      clear hrd_b
      have b_c0 : wr.cell? ⟨b, off + k * 4, none⟩ = some (.int .i64 l[k].kind) := hcell_b 0 (by decide)
      have b_c1 : wr.cell? ⟨b, off + k * 4 + 1, none⟩ = some (.int .i64 l[k].r) := hcell_b 1 (by decide)
      have b_c2 : wr.cell? ⟨b, off + k * 4 + 2, none⟩ = some (.int .i64 l[k].n) := hcell_b 2 (by decide)
      have b_c3 : wr.cell? ⟨b, off + k * 4 + 3, none⟩ = some (.string l[k].text) := hcell_b 3 (by decide)
      clear hcell_b
      go_wp2_with fail
      refine (implIsInstr _ l[k] _ _ (HR_b.out.below (by repeat (first | with_reducible exact belR | with_reducible apply belA | (with_reducible refine belS ?_ ?_; focus (first | omega | (simp; done) | (simp; omega))) | with_reducible apply belN | with_reducible apply belD | with_reducible assumption)))).mono ?_
      rintro e w1 ⟨rfl, hb1⟩
      have HB1 : Hid (Below w.heap.size w w1) := Lib.hid (by have y := HB.out; have y2 := y.size; exact below_call (by repeat (first | with_reducible exact belR | with_reducible apply belA | (with_reducible refine belS ?_ ?_; focus (first | omega | (simp; done) | (simp; omega))) | with_reducible apply belN | with_reducible apply belD | with_reducible assumption)) (by first | omega | (simp; done) | (simp; omega)) hb1)
      clear hb1
      cases n1 : isInstrF l[k] (l.length : Int)
      · go_wp2
        go_ret
        exact ⟨ret_bool (script_no hlt n1).symm, HB1.out⟩
      · go_wp2
        go_light
        exact ⟨⟨k + 1, by omega, by go_num, Lib.hid (fun i hi hi2 => by by_cases e : i = k; (subst e; exact n1); (exact HA.out i (by omega) hi2)), HB1.out⟩, by simp [intOf]; omega⟩
    · have he := Lib.hid (script_yes hlt HA.out)
      go_wp2
      go_ret
      refine ⟨ret_bool ?_, HB.out⟩
      rw [he.out]
      simp
      try omega


set_option maxRecDepth 100000 in
set_option maxHeartbeats 1600000 in
theorem specIsScript (v : Value) (l : List DInstr) (w : World) (h : Reads (Rep.slice 113 DInstr.rep) w [v] l) :
    Calls Try.prog 102 #[v] w fun e w' => e = .returned (.bool (isScriptF l)) ∧ Below w.heap.size w w' := by
  have HK := Lib.hid h
  obtain ⟨fp, h⟩ := h
  obtain ⟨ao, c1, rfl, hm, _, hu⟩ := slice_open h
  clear hu h
  go_enter Try.func102, Try.ntmps102
  go_wp2
  go_loopw [3] (fun i wr => ∃ k : Nat, k ≤ l.length ∧ i = .int .i64 k ∧ Hid (∀ i, i < k → (hi : i < l.length) → isInstrF l[i] l.length = true) ∧ Below w.heap.size w wr) (fun i _ => l.length - (intOf i).toNat)
  case atStart => exact ⟨0, by omega, rfl, Lib.hid (by intro i hi; omega), (by repeat (first | with_reducible exact belR | with_reducible apply belA | (with_reducible refine belS ?_ ?_; focus (first | omega | (simp; done) | (simp; omega))) | with_reducible apply belN | with_reducible apply belD | with_reducible assumption))⟩
  case round =>
    obtain ⟨k, hk, rfl, HA, hb⟩ := hrel
    have HB := Lib.hid hb; clear hb
    by_cases hlt : k < l.length
    · obtain ⟨b, off, cs_b, rfl, hw_b, hr_b, hcell_b⟩ := slice_at (HK.out.below HB.out) k hlt
      obtain ⟨fe_b, hrd_b⟩ := hr_b
      have HR_b : Hid (Reads DInstr.rep wr cs_b l[k]) := ⟨_, hrd_b⟩
      obtain ⟨rfl, _, b_s0⟩ := DInstr.rd.1 hrd_b
      clear hrd_b
      have b_c0 : wr.cell? ⟨b, off + k * 4, none⟩ = some (.int .i64 l[k].kind) := hcell_b 0 (by decide)
      have b_c1 : wr.cell? ⟨b, off + k * 4 + 1, none⟩ = some (.int .i64 l[k].r) := hcell_b 1 (by decide)
      have b_c2 : wr.cell? ⟨b, off + k * 4 + 2, none⟩ = some (.int .i64 l[k].n) := hcell_b 2 (by decide)
      have b_c3 : wr.cell? ⟨b, off + k * 4 + 3, none⟩ = some (.string l[k].text) := hcell_b 3 (by decide)
      clear hcell_b
      go_wp2_with fail
      refine (specIsInstr _ l[k] _ _ (HR_b.out.below (by repeat (first | with_reducible exact belR | with_reducible apply belA | (with_reducible refine belS ?_ ?_; focus (first | omega | (simp; done) | (simp; omega))) | with_reducible apply belN | with_reducible apply belD | with_reducible assumption)))).mono ?_
      rintro e w1 ⟨rfl, hb1⟩
      have HB1 : Hid (Below w.heap.size w w1) := Lib.hid (by have y := HB.out; have y2 := y.size; exact below_call (by repeat (first | with_reducible exact belR | with_reducible apply belA | (with_reducible refine belS ?_ ?_; focus (first | omega | (simp; done) | (simp; omega))) | with_reducible apply belN | with_reducible apply belD | with_reducible assumption)) (by first | omega | (simp; done) | (simp; omega)) hb1)
      clear hb1
      cases n1 : isInstrF l[k] (l.length : Int)
      · go_wp2
        go_ret
        exact ⟨ret_bool (script_no hlt n1).symm, HB1.out⟩
      · go_wp2
        go_light
        exact ⟨⟨k + 1, by omega, by go_num, Lib.hid (fun i hi hi2 => by by_cases e : i = k; (subst e; exact n1); (exact HA.out i (by omega) hi2)), HB1.out⟩, by simp [intOf]; omega⟩
    · have he := Lib.hid (script_yes hlt HA.out)
      go_wp2
      go_ret
      refine ⟨ret_bool ?_, HB.out⟩
      rw [he.out]
      simp
      try omega

end Go.Proofs.Ytamdjeajmfjfmaa
