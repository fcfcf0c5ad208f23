/-
  How many marks a store bears, and how small it is. No function of the program is named here.
-/
import Derived.Test.YtlfebehpmefioaaGreatRecFam
import Derived.Test.YtlfebehpmefioaaGreatLFamA
namespace Go.Proofs.YtlfebehpmefioaaGreat
open Go.RowKit

theorem store_cnt (x : DStore) : x.mcnt ≤ 3 * x.wt := by
  have h := wtT_small DItem.cnt DItem.wt 3 2 3 x.items (fun y => by
    have h1 := wtT_const DField.cnt 2 y.record.fields (fun _ => Nat.le_refl _)
    have h2 := wtS_ge DField.wt y.record.fields
    unfold DItem.cnt DItem.wt DRecord.wt
    omega) (by decide) (by decide)
  unfold DStore.mcnt DStore.wt
  omega
theorem small_store {x : DStore} (h : x.wt ≤ 1048576) : SmallStore x := by
  have h1 := wtS_ge DItem.wt x.items
  have h2 : ∀ l : List DItem, (l.map fun y => y.record.fields.length).sum ≤ (l.map DItem.wt).sum := by
    intro l
    induction l with
    | nil => simp
    | cons y l ih =>
      have h3 := wtS_ge DField.wt y.record.fields
      have h4 : y.record.fields.length ≤ DItem.wt y := by unfold DItem.wt DRecord.wt; omega
      simp only [List.map_cons, List.sum_cons]; omega
  have h3 := h2 x.items
  unfold DStore.wt at h
  refine ⟨by omega, fun y hy => ?_, by unfold wtS at h; omega⟩
  obtain ⟨j, hj, rfl⟩ := List.getElem_of_mem hy
  have h4 := wtS_elem DItem.wt x.items j hj
  have h5 := wtS_ge DField.wt x.items[j].record.fields
  unfold DItem.wt DRecord.wt at h4
  unfold DItem.wt at h
  unfold DRecord.wt at h
  omega
theorem valid_cnt {s : DStore} (h : isStoreF s = true) : s.mcnt ≤ 240 := by
  obtain ⟨h1, _, _, h4, _⟩ := store_iff.1 h
  have := sum_le_mul DItem.cnt 15 s.items (fun x hx => by
    obtain ⟨j, hj, rfl⟩ := List.getElem_of_mem hx
    have h5 := isRecord_len (h1 j hj).2
    have h6 := wtT_const DField.cnt 2 s.items[j].record.fields (fun _ => Nat.le_refl _)
    unfold DItem.cnt
    omega)
  unfold DStore.mcnt
  rw [wtT_all]
  omega
theorem setItem_or (s : DStore) (y : DWrite) : setItemF s y = s ∨ isStoreF (setItemF s y) = true := by
  cases hb : setItemB s y
  · left; rw [setItemF, hb]; rfl
  · right
    rw [setItemF, hb]
    unfold setItemB putItemB at hb
    simp only [Bool.and_eq_true] at hb
    exact hb.2.2.2
theorem applied_or : ∀ (l : List DWrite) (s : DStore), appliedF s l = s ∨ isStoreF (appliedF s l) = true
  | [], _ => .inl rfl
  | y :: l, s => by
    have e : appliedF s (y :: l) = appliedF (setItemF s y) l := rfl
    rw [e]
    rcases applied_or l (setItemF s y) with h | h
    · rw [h]; exact setItem_or s y
    · exact .inr h
theorem setItem_cnt (s : DStore) (y : DWrite) : (setItemF s y).mcnt ≤ s.mcnt + 240 := by
  rcases setItem_or s y with h | h
  · rw [h]; omega
  · have := valid_cnt h; omega
theorem applied_cnt (s : DStore) (l : List DWrite) : (appliedF s l).mcnt ≤ s.mcnt + 240 := by
  rcases applied_or l s with h | h
  · rw [h]; omega
  · have := valid_cnt h; omega
theorem putOut_name' (s : DStore) (k : DKey) (r : DRecord) : (putOut s k r).name = s.name := by
  unfold putOut putAt putNew
  split
  · split <;> rfl
  · rfl
theorem setItem_name (s : DStore) (y : DWrite) : (setItemF s y).name = s.name := by
  unfold setItemF
  split
  · exact putOut_name' _ _ _
  · rfl
theorem applied_name : ∀ (l : List DWrite) (s : DStore), (appliedF s l).name = s.name
  | [], _ => rfl
  | y :: l, s => by
    have e : appliedF s (y :: l) = appliedF (setItemF s y) l := rfl
    rw [e, applied_name l, setItem_name]

end Go.Proofs.YtlfebehpmefioaaGreat
