/-
  FnExactSyncStep: for every argument the program's SyncStep returns what the reference's returns. No condition.
-/
import Derived.Test.YtgicglmcapnogaaGreatESyncStep
import Derived.Test.YtgicglmcapnogaaGreatSyncStepS
import Derived.Test.YtgicglmcapnogaaGreatSyncStep
import Derived.Test.YtgicglmcapnogaaGreatSrvCnt
namespace Go.Proofs.YtgicglmcapnogaaGreat
open Go.RowKit Go.ChangeShapes

theorem syncStep_holds : Rows.FnExactSyncStepSaid :=
  syncStep_of syncStepY syncStepS syncStepN
    (fun cs y cv s now fate w h h' h1 h2 h3 => specSyncStep cs cv y s now fate w h h' (by have := sync_len h1; omega) ((small_server h2).mono (by omega)) h3)
    (fun cs y cv s now fate w h h' h1 h2 _ => implSyncStep cs cv y s now fate w h h' (by have := sync_len h1; omega) ((small_server h2).mono (by omega)))
    (fun y s now fate h1 _ _ => by
      have e1 := sync_cnt (syncStepY y s now fate)
      have e2 := syncStepY_len y s now fate
      have e3 := sync_len h1
      omega)
    (fun y s now fate _ h2 _ => by
      have e1 := small_cnt h2 (step_or y s now fate) ((small_server h2).step y now fate) (by omega)
      omega)
    (fun y h1 => by
      have e1 := sync_cnt y
      have e3 := sync_len h1
      omega)
    (fun s h2 => by
      have e1 := server_cnt h2
      omega)

end Go.Proofs.YtgicglmcapnogaaGreat
