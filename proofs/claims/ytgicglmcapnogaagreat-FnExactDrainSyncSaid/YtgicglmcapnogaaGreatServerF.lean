/-
  What IsServer, ReceiveWrite compute, and its plain laws. No function of the program is named here.
-/
import Derived.Test.YtgicglmcapnogaaGreatPlain2
import Derived.Test.YtgicglmcapnogaaGreatIsReplica
import Derived.Test.YtgicglmcapnogaaGreatLastSeq
namespace Go.Proofs.YtgicglmcapnogaaGreat
open Go.RowKit

def appBad (l : List DApplied) (i : Nat) : Bool := match l[i]?, l[i - 1]? with | some f, some g => decide (f.device ≤ g.device) | _, _ => false
def appOk (l : List DApplied) (i : Nat) : Bool := match l[i]? with | none => true | some f => within f.device 1 1000000 && (within f.seq 0 1000000 && !(decide (0 < i) && appBad l i))
theorem appBad_at {l : List DApplied} {i : Nat} (hi : i < l.length) : appBad l i = decide (l[i].device ≤ l[i - 1].device) := by
  unfold appBad; rw [List.getElem?_eq_getElem hi, List.getElem?_eq_getElem (show i - 1 < l.length by omega)]
theorem appOk_at {l : List DApplied} {i : Nat} (hi : i < l.length) : appOk l i = (within l[i].device 1 1000000 && (within l[i].seq 0 1000000 && !(decide (0 < i) && appBad l i))) := by
  unfold appOk; rw [List.getElem?_eq_getElem hi]
def serverEnd (x : DServer) : Bool := isStoreF x.store && (isNotes x.store.name && decide (x.applied.length ≤ 60))
def isServerF (x : DServer) : Bool := (List.range x.applied.length).all (appOk x.applied) && (x.changes.all isWriteF && serverEnd x)
theorem server_no {x : DServer} {i : Nat} (hi : i < x.applied.length) (h : appOk x.applied i = false) : isServerF x = false := by
  have : (List.range x.applied.length).all (appOk x.applied) = false := List.all_eq_false.2 ⟨i, List.mem_range.2 hi, by rw [h]; simp⟩
  rw [isServerF, this, Bool.false_and]
theorem server_yes {x : DServer} {k : Nat} (hk : ¬ k < x.applied.length) (h : ∀ i, i < k → appOk x.applied i = true) : isServerF x = (x.changes.all isWriteF && serverEnd x) := by
  have : (List.range x.applied.length).all (appOk x.applied) = true := List.all_eq_true.2 fun i hi => h i (by have := List.mem_range.1 hi; omega)
  rw [isServerF, this, Bool.true_and]
theorem changes_no {l : List DWrite} {i : Nat} (hi : i < l.length) (h : isWriteF l[i] = false) : l.all isWriteF = false :=
  List.all_eq_false.2 ⟨_, List.getElem_mem hi, by rw [h]; simp⟩
theorem changes_yes {l : List DWrite} {k : Nat} (hk : ¬ k < l.length) (h : ∀ i, (hi : i < l.length) → i < k → isWriteF l[i] = true) : l.all isWriteF = true :=
  List.all_eq_true.2 fun y hy => by obtain ⟨j, hj, rfl⟩ := List.getElem_of_mem hy; exact h j hj (by omega)
theorem write_snoc {l : List DWrite} {k : Nat} (hk : k < l.length) (h : ∀ i, (hi : i < l.length) → i < k → isWriteF l[i] = true) (h1 : isWriteF l[k] = true) : ∀ i, (hi : i < l.length) → i < k + 1 → isWriteF l[i] = true := by
  intro i hi hik
  by_cases e : i = k
  · subst e; exact h1
  · exact h i hi (by omega)
attribute [irreducible] appOk appBad

theorem server_sorted {x : DServer} (h : isServerF x = true) : ∀ (i j : Nat) (hj : j < x.applied.length) (hij : i < j), (x.applied[i]'(by omega)).device < x.applied[j].device := by
  rw [isServerF, Bool.and_eq_true, List.all_eq_true] at h
  have hn : ∀ j, (hj : j + 1 < x.applied.length) → (x.applied[j]'(by omega)).device < x.applied[j + 1].device := by
    intro j hj
    have h1 := h.1 (j + 1) (List.mem_range.2 hj)
    rw [appOk_at hj] at h1
    simp only [Bool.and_eq_true, Bool.not_eq_true', Bool.and_eq_false_iff, decide_eq_false_iff_not] at h1
    rcases h1.2.2 with h2 | h2
    · omega
    · rw [appBad_at hj] at h2
      simpa using h2
  intro i j hj hij
  obtain ⟨d, rfl⟩ : ∃ d, j = i + d + 1 := ⟨j - i - 1, by omega⟩
  induction d with
  | zero => exact hn i hj
  | succ d ih => exact Int.lt_trans (ih (by omega) (by omega)) (hn (i + d + 1) hj)
theorem isServer_len {x : DServer} (h : isServerF x = true) : x.applied.length ≤ 60 := by
  rw [isServerF] at h
  simp only [serverEnd, Bool.and_eq_true, decide_eq_true_eq] at h
  exact h.2.2.2.2
theorem isServer_store {x : DServer} (h : isServerF x = true) : isStoreF x.store = true := by
  rw [isServerF] at h
  simp only [serverEnd, Bool.and_eq_true] at h
  exact h.2.2.1

/-! ### ReceiveWrite -/
def deviceLess (d : Int) (a : DApplied) : Bool := decide (a.device < d)
def markAt (l : List DApplied) (q : Int) (i : Nat) : List DApplied := match l[i]? with | some a => l.set i ⟨a.device, q⟩ | none => l
def markNew (l : List DApplied) (d q : Int) : List DApplied := insAt l (lead (deviceLess d) l) ⟨d, q⟩
/-- The program's road. -/
def markI (l : List DApplied) (d q : Int) : List DApplied := match l.findIdx? (atDevice d) with | some i => markAt l q i | none => markNew l d q
/-- The reference's. -/
def markS (l : List DApplied) (d q : Int) : List DApplied := match l[lead (deviceLess d) l]? with | some a => if atDevice d a then markAt l q (lead (deviceLess d) l) else markNew l d q | none => markNew l d q
theorem mark_same {x : DServer} (d q : Int) (h : isServerF x = true) : markS x.applied d q = markI x.applied d q := by
  unfold markS markI
  rcases hf : x.applied.findIdx? (atDevice d) with _ | i
  · rw [List.findIdx?_eq_none_iff] at hf
    rcases hg : x.applied[lead (deviceLess d) x.applied]? with _ | a
    · rfl
    · have hm := List.mem_of_getElem? hg
      simp only [hf a hm, Bool.false_eq_true, if_false]
  · obtain ⟨hi, h1, h2⟩ := List.findIdx?_eq_some_iff_getElem.1 hf
    have h1' : x.applied[i].device = d := by unfold atDevice at h1; simpa using h1
    have e : lead (deviceLess d) x.applied = i := by
      refine lead_eq (by omega) (fun j hj hji => ?_) fun hi' => ?_
      · have h3 := server_sorted h j i hi hji
        unfold deviceLess
        rw [h1'] at h3
        exact decide_eq_true h3
      · unfold deviceLess
        rw [h1']
        exact decide_eq_false (by omega)
    rw [e, List.getElem?_eq_getElem hi]
    simp only [h1, if_true]
theorem markI_len (l : List DApplied) (d q : Int) : (markI l d q).length = if (l.findIdx? (atDevice d)).isSome then l.length else l.length + 1 := by
  unfold markI
  rcases hf : l.findIdx? (atDevice d) with _ | i
  · simp only [Option.isSome_none, Bool.false_eq_true, if_false]
    exact insAt_length (lead_le _ _) _
  · simp only [Option.isSome_some, if_true]
    unfold markAt
    split <;> simp
def fullFor (x : DServer) (d : Int) : Bool := (x.applied.findIdx? (atDevice d)).isNone && decide (60 ≤ x.applied.length)
def refused (x : DServer) (y : DWrite) : Bool := !(isServerF x) || (!(isWriteF y) || fullFor x y.device)
def receiveCode (x : DServer) (y : DWrite) : Int := if refused x y then 4 else if y.seq ≤ lastSeqF x y.device then 2 else if wrap64 (lastSeqF x y.device + 1) < y.seq then 3 else 1
def receiveOut (x : DServer) (y : DWrite) : DServer := ⟨setItemF x.store y, markI x.applied y.device y.seq, x.changes ++ [y]⟩
def receiveF (x : DServer) (y : DWrite) : DServer := if receiveCode x y = 1 then receiveOut x y else x
theorem refused_spec {x : DServer} {y : DWrite} (h : isServerF x = true) (h' : isWriteF y = true) : refused x y = decide (60 < (markS x.applied y.device y.seq).length) := by
  have hl := isServer_len h
  unfold refused fullFor
  rw [h, h', mark_same _ _ h, markI_len]
  rcases x.applied.findIdx? (atDevice y.device) with _ | i
  · simp only [Bool.not_true, Bool.false_or, Option.isNone_none, Bool.true_and, Option.isSome_none, Bool.false_eq_true, if_false]
    by_cases e : 60 ≤ x.applied.length <;> simp [e] <;> omega
  · simp only [Bool.not_true, Bool.false_or, Option.isNone_some, Bool.false_and, Option.isSome_some, if_true]
    symm; exact decide_eq_false (by omega)

structure SmallServer (x : DServer) (n : Nat) : Prop where
  store : SmallStore x.store
  applied : x.applied.length ≤ n
  changes : x.changes.length ≤ n
theorem SmallServer.receive {x : DServer} {y : DWrite} {n : Nat} (h : SmallServer x n) : SmallServer (receiveF x y) (n + 1) := by
  unfold receiveF
  split
  · refine ⟨h.store.setItem, ?_, ?_⟩
    · show (markI x.applied y.device y.seq).length ≤ n + 1
      rw [markI_len]
      have := h.applied
      split <;> omega
    · show (x.changes ++ [y]).length ≤ n + 1
      have := h.changes
      simp; omega
  · exact ⟨h.store, by have := h.applied; omega, by have := h.changes; omega⟩

end Go.Proofs.YtgicglmcapnogaaGreat
