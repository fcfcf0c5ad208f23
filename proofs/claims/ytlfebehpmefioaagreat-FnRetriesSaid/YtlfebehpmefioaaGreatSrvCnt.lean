/-
  How many marks a server, a replica, a synchronization bear, and how small they are. No function of the program is named here.
-/
import Derived.Test.YtlfebehpmefioaaGreatSrvFam
import Derived.Test.YtlfebehpmefioaaGreatStoreCnt
import Derived.Test.YtlfebehpmefioaaGreatLFamB
namespace Go.Proofs.YtlfebehpmefioaaGreat
open Go.RowKit

theorem small_server {x : DServer} (h : x.wt ≤ 1048576) : SmallServer x 1048576 := by
  have h1 := wtS_ge DApplied.wt x.applied
  have h2 := wtS_ge DWrite.wt x.changes
  unfold DServer.wt at h
  exact ⟨small_store (by omega), by omega, by omega⟩
theorem mcnt_parts (x : DServer) : x.mcnt ≤ x.store.mcnt + 2 * x.applied.length + 7 * x.changes.length := by
  have h2 := wtT_const DApplied.cnt 2 x.applied (fun _ => Nat.le_refl _)
  have h3 := wtT_const DWrite.cnt 7 x.changes (fun _ => Nat.le_refl _)
  unfold DServer.mcnt
  omega
theorem server_cnt {x : DServer} (h : x.wt ≤ 1048576) : x.mcnt ≤ 20000000 := by
  have h0 := mcnt_parts x
  have h1 := store_cnt x.store
  have h4 := wtS_ge DApplied.wt x.applied
  have h5 := wtS_ge DWrite.wt x.changes
  unfold DServer.wt at h
  omega
/-- The store stays small, or is a valid one. -/
theorem receive_or (x : DServer) (y : DWrite) : (receiveF x y).store = x.store ∨ isStoreF (receiveF x y).store = true := by
  unfold receiveF
  split
  · exact setItem_or x.store y
  · exact .inl rfl
theorem stepSrv_or (x : DServer) (y : DWrite) (fate : Int) : (stepSrv x y fate).store = x.store ∨ isStoreF (stepSrv x y fate).store = true := by
  unfold stepSrv
  split
  · exact receive_or x y
  · split
    · rcases receive_or (receiveF x y) y with h | h
      · rw [h]; exact receive_or x y
      · exact .inr h
    · exact .inl rfl
theorem step_or (y : DSync) (x : DServer) (now fate : Int) : (syncStepS y x now fate).store = x.store ∨ isStoreF (syncStepS y x now fate).store = true := by
  unfold syncStepS
  split
  · exact .inl rfl
  · exact stepSrv_or _ _ _
theorem syncs_or (y : DSync) (x : DServer) (now : Int) (l : List Int) : ∀ k, (syncsF y x now l k).2.store = x.store ∨ isStoreF (syncsF y x now l k).2.store = true
  | 0 => .inl rfl
  | k + 1 => by
    rcases step_or (syncsF y x now l k).1 (syncsF y x now l k).2 (wrap64 (now + wrap64 ((k : Int) * 64))) (l.getD k 0) with h | h
    · rcases syncs_or y x now l k with h1 | h1
      · left; exact h.trans h1
      · right; show isStoreF (syncStepS _ _ _ _).store = true; rw [h]; exact h1
    · exact .inr h
theorem or_cnt {s t : DStore} (h : t = s ∨ isStoreF t = true) : t.mcnt ≤ s.mcnt + 240 := by
  rcases h with h | h
  · rw [h]; omega
  · have := valid_cnt h; omega
theorem small_cnt {x z : DServer} {n : Nat} (h : x.wt ≤ 1048576) (hs : z.store = x.store ∨ isStoreF z.store = true) (hz : SmallServer z n) (hn : n ≤ 1048900) : z.mcnt ≤ 20000000 := by
  have h0 := mcnt_parts z
  have h1 := store_cnt x.store
  have h2 := or_cnt hs
  have h3 := hz.applied
  have h4 := hz.changes
  unfold DServer.wt at h
  omega
theorem receive_cnt {x : DServer} {y : DWrite} (h : x.wt ≤ 1048576) : (receiveF x y).mcnt ≤ 20000000 := small_cnt h (receive_or x y) (small_server h).receive (by omega)
theorem sync_cnt (y : DSync) : y.mcnt ≤ 7 * y.outbox.writes.length := by
  have h3 := wtT_const DWrite.cnt 7 y.outbox.writes (fun _ => Nat.le_refl _)
  unfold DSync.mcnt DOutbox.mcnt
  omega
theorem sync_len {y : DSync} (h : y.wt ≤ 1048576) : y.outbox.writes.length ≤ 1048576 := by
  have h5 := wtS_ge DWrite.wt y.outbox.writes
  unfold DSync.wt DOutbox.wt at h
  omega
theorem replica_cnt {r : DReplica} (h : r.wt ≤ 1048576) : r.mcnt ≤ 20000000 := by
  have h1 := store_cnt r.base
  have h2 := sync_cnt r.sync
  unfold DReplica.wt at h
  have h3 := sync_len (y := r.sync) (by omega)
  unfold DReplica.mcnt
  omega
theorem replica_small {r : DReplica} (h : r.wt ≤ 1048576) : SmallStore r.base ∧ r.sync.outbox.writes.length ≤ 1048576 := by
  unfold DReplica.wt at h
  exact ⟨small_store (by omega), sync_len (by omega)⟩

end Go.Proofs.YtlfebehpmefioaaGreat
