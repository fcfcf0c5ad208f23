/-
  FnExactNewReplica: for every argument the program's NewReplica returns what the reference's returns. No condition.
-/
import Derived.Test.YtjdoofekohjjlaaENewReplica
import Derived.Test.YtjdoofekohjjlaaNewReplica
import Derived.Test.YtjdoofekohjjlaaBase
namespace Go.Proofs.Ytjdoofekohjjlaa
open Go.RowKit Go.ChangeShapes

theorem store_cnt (x : DStore) : x.mcnt ≤ 3 * x.wt := by
  have h := wtT_small DItem.cnt DItem.wt 3 2 3 x.items (fun y => by
    have h1 := wtT_const DField.cnt 2 y.record.fields (fun _ => Nat.le_refl _)
    have h2 := wtS_ge DField.wt y.record.fields
    unfold DItem.cnt DItem.wt DRecord.wt
    omega) (by decide) (by decide)
  unfold DStore.mcnt DStore.wt
  omega
theorem small_store {x : DStore} (h : x.wt ≤ 1048576) : SmallStore x := by
  have h1 := wtS_ge DItem.wt x.items
  have h2 : ∀ l : List DItem, (l.map fun y => y.record.fields.length).sum ≤ (l.map DItem.wt).sum := by
    intro l
    induction l with
    | nil => simp
    | cons y l ih =>
      have h3 := wtS_ge DField.wt y.record.fields
      have h4 : y.record.fields.length ≤ DItem.wt y := by unfold DItem.wt DRecord.wt; omega
      simp only [List.map_cons, List.sum_cons]; omega
  have h3 := h2 x.items
  unfold DStore.wt at h
  refine ⟨by omega, fun y hy => ?_, by unfold wtS at h; omega⟩
  obtain ⟨j, hj, rfl⟩ := List.getElem_of_mem hy
  have h4 := wtS_elem DItem.wt x.items j hj
  have h5 := wtS_ge DField.wt x.items[j].record.fields
  unfold DItem.wt DRecord.wt at h4
  unfold DItem.wt at h
  unfold DRecord.wt at h
  omega

theorem newReplica_holds : Rows.FnExactNewReplicaSaid :=
  newReplica_of newReplicaF newReplicaB
    (fun cs x d w h hs => specNewReplica cs x d w h (small_store (by unfold DServer.wt at hs; omega)))
    (fun cs x d w h hs => implNewReplica cs x d w h (small_store (by unfold DServer.wt at hs; omega)))
    (fun x d hs => by
      have h1 := store_cnt x.store
      unfold DServer.wt at hs
      unfold newReplicaF
      split
      · show x.store.mcnt + (newOutboxF d).mcnt ≤ 400000000
        have : (newOutboxF d).mcnt = 0 := by unfold newOutboxF; split <;> rfl
        omega
      · decide)
    (fun x _ hs => by
      have h1 := store_cnt x.store
      have h2 := wtT_const DApplied.cnt 2 x.applied (fun _ => Nat.le_refl _)
      have h3 := wtT_const DWrite.cnt 7 x.changes (fun _ => Nat.le_refl _)
      have h4 := wtS_ge DApplied.wt x.applied
      have h5 := wtS_ge DWrite.wt x.changes
      unfold DServer.wt at hs
      unfold DServer.mcnt
      omega)

end Go.Proofs.Ytjdoofekohjjlaa
