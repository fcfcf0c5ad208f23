/-
  FnExactSyncAll: for every argument the program's SyncAll returns what the reference's returns. No condition.
-/
import Derived.Test.YtgicglmcapnogaaGreatESyncAll
import Derived.Test.YtgicglmcapnogaaGreatSyncAll
import Derived.Test.YtgicglmcapnogaaGreatSrvCnt
namespace Go.Proofs.YtgicglmcapnogaaGreat
open Go.RowKit Go.ChangeShapes

theorem all_small {y : DSync} {s : DServer} {now : Int} {l : List Int} (h : SmallServer s 1048576) : SmallServer (syncAllF y s now l).2 1048776 := by
  unfold syncAllF rounds
  split
  · exact (syncsF_small h _).mono (by omega)
  · exact h.mono (by omega)
theorem all_or (y : DSync) (s : DServer) (now : Int) (l : List Int) : (syncAllF y s now l).2.store = s.store ∨ isStoreF (syncAllF y s now l).2.store = true := by
  unfold syncAllF
  split
  · exact syncs_or y s now l _
  · exact .inl rfl
theorem all_len (y : DSync) (s : DServer) (now : Int) (l : List Int) : (syncAllF y s now l).1.outbox.writes.length ≤ y.outbox.writes.length := by
  unfold syncAllF
  split
  · exact syncsF_len y s now l _
  · exact Nat.le_refl _
theorem all_cntY {y : DSync} (s : DServer) (now : Int) (l : List Int) (h : y.wt ≤ 1048576) : (syncAllF y s now l).1.mcnt ≤ 20000000 := by
  have e1 := sync_cnt (syncAllF y s now l).1
  have e2 := all_len y s now l
  have e3 := sync_len h
  omega
theorem all_cntS (y : DSync) {s : DServer} (now : Int) (l : List Int) (h : s.wt ≤ 1048576) : (syncAllF y s now l).2.mcnt ≤ 20000000 :=
  small_cnt h (all_or y s now l) (all_small (small_server h)) (by omega)

theorem syncAll_holds : Rows.FnExactSyncAllSaid :=
  syncAll_of (fun y s now l => (syncAllF y s now l).1) (fun y s now l => (syncAllF y s now l).2)
    (fun cs y cv s now v l w h h' hv h1 h2 h4 h3 => specSyncAll cs cv y s now v l w h h' hv (by have := sync_len h1; omega) ((small_server h2).mono (by omega)) (by have := wtS_ge wt0 l; omega) h3)
    (fun cs y cv s now v l w h h' hv h1 h2 h4 _ => implSyncAll cs cv y s now v l w h h' hv (by have := sync_len h1; omega) ((small_server h2).mono (by omega)) (by have := wtS_ge wt0 l; omega))
    (fun y s now l h1 _ _ _ => Nat.le_trans (all_cntY s now l h1) (by decide))
    (fun y s now l _ h2 _ _ => Nat.le_trans (all_cntS y now l h2) (by decide))
    (fun y h1 => by
      have e1 := sync_cnt y
      have e3 := sync_len h1
      omega)
    (fun s h2 => by
      have e1 := server_cnt h2
      omega)
    (fun l h4 => by
      have e1 := wtT_const cnt1 1 l (fun _ => Nat.le_refl _)
      have e2 := wtS_ge wt0 l
      omega)

end Go.Proofs.YtgicglmcapnogaaGreat
