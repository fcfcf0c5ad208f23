/-
  What the lock tables of the law FnLocks keep.
-/
import Derived.Test.YtamdjeajmfjfmaaGrantLocks
import Derived.Test.YtamdjeajmfjfmaaReleaseLocks
import Derived.Test.YtamdjeajmfjfmaaIsLockTable
import Derived.Test.YtamdjeajmfjfmaaWaitingOf
import Derived.Test.YtamdjeajmfjfmaaHoldsLock
namespace Go.Proofs.Ytamdjeajmfjfmaa
open Go.RowKit

/-- What may stand ahead of a held one. -/
def Ahead (y x : DLock) : Prop := x.held = true → y.held = true ∧ y.shared = true ∧ x.shared = true
structure Inv (l : List DLock) (n : Nat) : Prop where
  len : l.length ≤ n
  names : ∀ x ∈ l, x.name = ⟨#[97]⟩
  pages : ∀ x ∈ l, 1 ≤ x.page ∧ x.page ≤ 3
  ahead : l.Pairwise Ahead
  first : ∀ (h : 0 < l.length), l[0].held = true

theorem mayF_spec {l : List DLock} {x : DLock} (hn : ∀ y ∈ l, y.name = x.name) (h : mayF l x = true) : ∀ y ∈ l, y.held = true ∧ y.shared = true ∧ x.shared = true := by
  intro y hy
  have h1 : l.any (bars x) = false := by unfold mayF at h; simpa using h
  have h2 := List.any_eq_false.1 h1 y hy
  have h3 : (y.name.toList == x.name.toList) = true := by rw [hn y hy]; simp
  cases a : y.held <;> cases b : y.shared <;> cases c : x.shared <;> simp [bars, a, b, c, h3] at h2 ⊢

theorem inv_nil (n : Nat) : Inv [] n := ⟨Nat.zero_le _, by simp, by simp, List.Pairwise.nil, fun h => by simp at h⟩

theorem inv_push {l : List DLock} {n : Nat} (h : Inv l n) {page : Int} {shared : Bool} (hp : 1 ≤ page ∧ page ≤ 3) {x : DLock} (hx : x = { name := ⟨#[97]⟩, page := page, shared := shared, held := mayF l { name := ⟨#[97]⟩, page := page, shared := shared, held := false } }) : Inv (l ++ [x]) (n + 1) := by
  refine ⟨by have := h.len; simp; omega, fun y hy => ?_, fun y hy => ?_, ?_, fun h0 => ?_⟩
  · rcases List.mem_append.1 hy with hy | hy
    · exact h.names y hy
    · simp at hy; rw [hy, hx]
  · rcases List.mem_append.1 hy with hy | hy
    · exact h.pages y hy
    · simp at hy; rw [hy, hx]; exact hp
  · rw [List.pairwise_append]
    refine ⟨h.ahead, List.pairwise_singleton _ _, fun y hy z hz => ?_⟩
    simp at hz; subst hz
    intro hz
    rw [hx] at hz ⊢
    exact mayF_spec (fun y hy => h.names y hy) hz y hy
  · cases l with
    | nil => simp only [List.nil_append, List.getElem_cons_zero]; rw [hx]; rfl
    | cons y l => simp only [List.cons_append, List.getElem_cons_zero]; exact h.first (by simp)

theorem grantL_from (l : List DLock) : ∀ y ∈ grantL l, ∃ z ∈ l, y.name = z.name ∧ y.page = z.page ∧ y.shared = z.shared ∧ (z.held = true → y = z) := by
  have h : ∀ (k : Nat), k ≤ l.length → ∀ y ∈ grantL (l.take k), ∃ z ∈ l.take k, y.name = z.name ∧ y.page = z.page ∧ y.shared = z.shared ∧ (z.held = true → y = z) := by
    intro k
    induction k with
    | zero => intro _ y hy; have := List.length_pos_of_mem hy; rw [grantL_len] at this; simp at this
    | succ k ih =>
      intro hk y hy
      rw [List.take_succ_eq_append_getElem hk] at hy ⊢
      rw [grantL_snoc] at hy
      rcases List.mem_append.1 hy with hy | hy
      · obtain ⟨z, hz, h1⟩ := ih (by omega) y hy
        exact ⟨z, List.mem_append.2 (.inl hz), h1⟩
      · simp only [List.mem_singleton] at hy
        refine ⟨l[k], List.mem_append.2 (.inr (List.mem_singleton.2 rfl)), ?_⟩
        rw [hy]; unfold stepLock
        split
        · exact ⟨rfl, rfl, rfl, fun _ => rfl⟩
        · rename_i hh
          exact ⟨rfl, rfl, rfl, fun h => absurd h hh⟩
  intro y hy
  have := h l.length (Nat.le_refl _) y (by rw [List.take_length]; exact hy)
  rwa [List.take_length] at this

theorem grantL_pair {l : List DLock} (hn : ∀ x ∈ l, x.name = ⟨#[97]⟩) (h : l.Pairwise Ahead) : (grantL l).Pairwise Ahead := by
  have key : ∀ (k : Nat), k ≤ l.length → (grantL (l.take k)).Pairwise Ahead := by
    intro k
    induction k with
    | zero =>
      intro _
      have : grantL (l.take 0) = [] := List.eq_nil_of_length_eq_zero (by rw [grantL_len]; simp)
      rw [this]; exact List.Pairwise.nil
    | succ k ih =>
      intro hk
      have hp : (l.take (k + 1)).Pairwise Ahead := h.sublist (List.take_sublist _ _)
      rw [List.take_succ_eq_append_getElem hk] at hp ⊢
      rw [grantL_snoc, List.pairwise_append]
      refine ⟨ih (by omega), List.pairwise_singleton _ _, fun y hy z hz => ?_⟩
      simp only [List.mem_singleton] at hz; subst hz
      obtain ⟨u, hu, h1, _, h3, h4⟩ := grantL_from _ y hy
      have hul : u ∈ l := List.mem_of_mem_take hu
      intro hz
      by_cases hh : l[k].held = true
      · have e : stepLock (grantL (l.take k)) l[k] = l[k] := by rw [stepLock, if_pos hh]
        rw [e]
        have := (List.pairwise_append.1 hp).2.2 u hu l[k] (by simp) hh
        rw [h4 this.1]
        exact this
      · have e : stepLock (grantL (l.take k)) l[k] = { l[k] with held := mayF (grantL (l.take k)) l[k] } := by rw [stepLock, if_neg hh]
        rw [e] at hz ⊢
        refine mayF_spec (x := l[k]) (fun v hv => ?_) hz y hy
        obtain ⟨u', hu', g1, _⟩ := grantL_from _ v hv
        rw [g1, hn u' (List.mem_of_mem_take hu'), hn _ (List.getElem_mem _)]
  have := key l.length (Nat.le_refl _)
  rwa [List.take_length] at this

theorem grantL_first {l : List DLock} (h0 : 0 < (grantL l).length) : (grantL l)[0].held = true := by
  have hl : 0 < l.length := by rw [grantL_len] at h0; exact h0
  have e : grantL l = grantM l l.length := (grantM_all (Nat.lt_irrefl _)).symm
  have key : ∀ k, 0 < k → k ≤ l.length → ∀ h, ((grantM l k)[0]'h).held = true := by
    intro k
    induction k with
    | zero => intro h; omega
    | succ k ih =>
      intro _ hk h
      have hs := grantM_succ (l := l) (k := k) hk
      have hlen := grantM_len (l := l) (k := k) (by omega)
      have : (grantM l (k + 1))[0]? = ((grantM l k).set k (stepLock ((grantM l k).take k) l[k]))[0]? := by rw [hs]
      rw [List.getElem?_eq_getElem h, List.getElem?_eq_getElem (by rw [List.length_set, hlen]; exact hl)] at this
      rw [Option.some.inj this, List.getElem_set]
      split
      · rename_i hk0
        have hk0 : k = 0 := hk0
        subst hk0
        unfold stepLock
        split
        · assumption
        · simp [mayF]
      · rename_i hk0
        exact ih (by omega) (by omega) _
  have := key l.length hl (Nat.le_refl _) (by rw [← e]; exact h0)
  have h2 : (grantL l)[0]? = (grantM l l.length)[0]? := by rw [e]
  rw [List.getElem?_eq_getElem h0, List.getElem?_eq_getElem (by rw [← e]; exact h0)] at h2
  rw [Option.some.inj h2]
  exact this

theorem inv_release {l : List DLock} {n : Nat} (h : Inv l n) (p : Int) : Inv (grantL (keptLocks l p)) n := by
  have hs : (keptLocks l p).Sublist l := List.filter_sublist
  have hn : ∀ x ∈ keptLocks l p, x.name = ⟨#[97]⟩ := fun x hx => h.names x (hs.subset hx)
  refine ⟨?_, fun y hy => ?_, fun y hy => ?_, grantL_pair hn (h.ahead.sublist hs), fun h0 => grantL_first h0⟩
  · rw [grantL_len]; exact Nat.le_trans hs.length_le h.len
  · obtain ⟨z, hz, h1, _⟩ := grantL_from _ y hy
    rw [h1]; exact hn z hz
  · obtain ⟨z, hz, _, h2, _⟩ := grantL_from _ y hy
    rw [h2]; exact h.pages z (hs.subset hz)
theorem release_gone {l : List DLock} (p : Int) : ∀ x ∈ grantL (keptLocks l p), x.page ≠ p ∧ ∃ z ∈ l, x.page = z.page := by
  intro x hx
  obtain ⟨z, hz, _, h2, _⟩ := grantL_from _ x hx
  have := (List.mem_filter.1 hz).2
  exact ⟨by rw [h2]; simpa using this, z, (List.mem_filter.1 hz).1, h2⟩

theorem inv_table {l : List DLock} {n : Nat} (h : Inv l n) (hn : n ≤ 12) : isLockTableF ⟨l⟩ = true := by
  have hl := h.len
  rw [table_yes (x := ⟨l⟩) (k := l.length) (Nat.lt_irrefl _) fun i hi => ?_]
  · exact decide_eq_true (by show l.length ≤ 12; omega)
  · have hname := h.names l[i] (List.getElem_mem _)
    have hpage := h.pages l[i] (List.getElem_mem _)
    refine good_yes hi (by rw [hname]; decide) (by simp [within]; omega) (Nat.le_refl i) fun j hj hji => ?_
    have hp : Ahead l[j] l[i] := List.pairwise_iff_getElem.1 h.ahead j i hj hi hji
    cases a : l[i].held
    · simp [clash, a]
    · obtain ⟨h1, h2, h3⟩ := hp a
      simp [clash, h1, h2, h3]

/-- How many are held; whether all these are shared. -/
def heldN (l : List DLock) : Nat := l.countP (·.held)
def sharedN (l : List DLock) : Bool := l.all fun x => !x.held || x.shared
theorem inv_shared {l : List DLock} {n : Nat} (h : Inv l n) (h1 : 1 < heldN l) : sharedN l = true := by
  unfold sharedN
  rw [List.all_eq_true]
  intro x hx
  obtain ⟨i, hi, rfl⟩ := List.getElem_of_mem hx
  cases a : l[i].held
  · rfl
  · have h0 := h.first (by omega)
    by_cases e : i = 0
    · subst e
      -- another held one stands behind
      have : ∃ j, ∃ hj : j < l.length, 0 < j ∧ l[j].held = true := by
        cases l with
        | nil => simp at hi
        | cons y l =>
          unfold heldN at h1
          rw [List.countP_cons] at h1
          have : 0 < l.countP (·.held) := by split at h1 <;> omega
          obtain ⟨z, hz, hzh⟩ := List.countP_pos_iff.1 this
          obtain ⟨j, hj, rfl⟩ := List.getElem_of_mem hz
          exact ⟨j + 1, by simp; exact hj, by omega, by simpa using hzh⟩
      obtain ⟨j, hj, hj0, hjh⟩ := this
      have := List.pairwise_iff_getElem.1 h.ahead 0 j hi hj hj0 hjh
      simp [this.2.1]
    · have := List.pairwise_iff_getElem.1 h.ahead 0 i (by omega) hi (by omega) a
      simp [this.2.2]
theorem inv_waiting {l : List DLock} {n : Nat} (h : Inv l n) : (waitingOfF ⟨l⟩ ⟨#[97]⟩).length + heldN l = l.length := by
  unfold waitingOfF heldN
  rw [List.length_map]
  have hn := h.names
  clear h
  induction l with
  | nil => rfl
  | cons x l ih =>
    have ih := ih fun y hy => hn y (by simp [hy])
    have hx : x.name = ⟨#[97]⟩ := hn x (by simp)
    have hw : isWaiting ⟨#[97]⟩ x = !x.held := by simp [isWaiting, hx]
    simp only [List.filter_cons, hw, List.countP_cons, List.length_cons] at ih ⊢
    cases x.held <;> simp <;> omega
theorem inv_none {l : List DLock} {p : Int} (h : ∀ x ∈ l, x.page ≠ p) (name : ByteArray) : holdsLockF ⟨l⟩ name p = false := by
  unfold holdsLockF
  rw [List.any_eq_false]
  intro x hx
  have : (x.page == p) = false := by simpa using h x hx
  simp [isHeldBy, this]

end Go.Proofs.Ytamdjeajmfjfmaa
