/-
  Plain laws of an item's field, of a list of writes applied to a store. No function of the program is named here.
-/
import Derived.Test.YtgicglmcapnogaaGreatPlain
import Derived.Test.YtgicglmcapnogaaGreatTFam
import Derived.Test.YtgicglmcapnogaaGreatBase
namespace Go.Proofs.YtgicglmcapnogaaGreat
open Go.RowKit

def noRecord : DRecord := ⟨[]⟩
def itemRec (s : DStore) (k : DKey) : DRecord := ((s.items.find? (keyIs k)).map (·.record)).getD noRecord
theorem itemRec_none {s : DStore} {k : DKey} (h : ∀ j, (hj : j < s.items.length) → keyIs k s.items[j] = false) : itemRec s k = noRecord := by
  unfold itemRec
  rw [List.find?_eq_none.2 (fun y hy => by obtain ⟨j, hj, rfl⟩ := List.getElem_of_mem hy; rw [h j hj]; simp)]
  rfl
theorem itemRec_hit {s : DStore} {k : DKey} {i : Nat} (hi : i < s.items.length) (hp : keyIs k s.items[i] = true) (h : ∀ j, (hj : j < s.items.length) → j < i → keyIs k s.items[j] = false) : itemRec s k = s.items[i].record := by
  unfold itemRec
  have : s.items.find? (keyIs k) = some s.items[i] := List.find?_eq_some_iff_getElem.2 ⟨hp, i, hi, rfl, fun j hj => by rw [h j (by omega) hj]; rfl⟩
  rw [this]; rfl
def setItemR (s : DStore) (x : DWrite) : DRecord := setFieldI (itemRec s x.key) x.field x.n
def setItemB (s : DStore) (x : DWrite) : Bool := setFieldB (itemRec s x.key) x.field x.n && putItemB s x.key (setItemR s x)
def setItemF (s : DStore) (x : DWrite) : DStore := if setItemB s x then putOut s x.key (setItemR s x) else s
def appliedF (s : DStore) (l : List DWrite) : DStore := l.foldl setItemF s
theorem appliedF_succ {s : DStore} {l : List DWrite} {k : Nat} (h : k < l.length) : appliedF s (l.take (k + 1)) = setItemF (appliedF s (l.take k)) l[k] := by
  unfold appliedF; rw [List.take_succ_eq_append_getElem h, List.foldl_append]; rfl
theorem appliedF_all {s : DStore} {l : List DWrite} {k : Nat} (h : ¬ k < l.length) : appliedF s (l.take k) = appliedF s l := by
  rw [List.take_of_length_le (by omega)]

/-- What a store holds in its slices. -/
structure SmallStore (s : DStore) : Prop where
  items : s.items.length ≤ 1048600
  fields : ∀ x ∈ s.items, x.record.fields.length ≤ 1048600
  total : (s.items.map fun x => x.record.fields.length).sum ≤ 1048600

theorem isRecord_len {r : DRecord} (h : isRecordF r = true) : r.fields.length ≤ 6 := by
  rw [isRecordF, Bool.and_eq_true, decide_eq_true_eq] at h
  exact h.2
theorem sum_le_mul {α : Type} (f : α → Nat) (c : Nat) : ∀ (l : List α), (∀ x ∈ l, f x ≤ c) → (l.map f).sum ≤ c * l.length
  | [], _ => by simp
  | x :: l, h => by
    have h1 := sum_le_mul f c l fun y hy => h y (by simp [hy])
    have h2 := h x (by simp)
    simp only [List.map_cons, List.sum_cons, List.length_cons, Nat.mul_add, Nat.mul_one]
    omega
theorem SmallStore.of_store {s : DStore} (h : isStoreF s = true) : SmallStore s := by
  obtain ⟨h1, _, _, h4, _⟩ := store_iff.1 h
  have hf : ∀ x ∈ s.items, x.record.fields.length ≤ 6 := fun x hx => by
    obtain ⟨j, hj, rfl⟩ := List.getElem_of_mem hx
    exact isRecord_len (h1 j hj).2
  have := sum_le_mul (fun x : DItem => x.record.fields.length) 6 s.items hf
  exact ⟨by omega, fun x hx => by have := hf x hx; omega, by omega⟩
theorem SmallStore.putItem {s : DStore} {k : DKey} {r : DRecord} (h : SmallStore s) : SmallStore (putItemF s k r) := by
  unfold putItemF
  split
  · rename_i hb
    unfold putItemB at hb
    simp only [Bool.and_eq_true] at hb
    exact SmallStore.of_store hb.2.2
  · exact h
theorem SmallStore.setItem {s : DStore} {x : DWrite} (h : SmallStore s) : SmallStore (setItemF s x) := by
  unfold setItemF
  split
  · rename_i hb
    unfold setItemB putItemB at hb
    simp only [Bool.and_eq_true] at hb
    exact SmallStore.of_store hb.2.2.2
  · exact h
theorem SmallStore.applied {s : DStore} (h : SmallStore s) (l : List DWrite) : SmallStore (appliedF s l) := by
  unfold appliedF
  induction l generalizing s with
  | nil => exact h
  | cons x l ih => exact ih h.setItem
theorem setItemF_eq (s : DStore) (x : DWrite) : setItemF s x = if setFieldB (itemRec s x.key) x.field x.n then putItemF s x.key (setFieldF (itemRec s x.key) x.field x.n) else s := by
  unfold setItemF setItemB setItemR putItemF setFieldF
  cases h1 : setFieldB (itemRec s x.key) x.field x.n
  · simp
  · simp only [Bool.true_and, if_true]
theorem itemRec_small {s : DStore} (h : SmallStore s) (k : DKey) : (itemRec s k).fields.length ≤ 1048600 := by
  unfold itemRec
  rcases hf : s.items.find? (keyIs k) with _ | x
  · simp [noRecord]
  · exact h.fields x (List.mem_of_find?_eq_some hf)

end Go.Proofs.YtgicglmcapnogaaGreat
