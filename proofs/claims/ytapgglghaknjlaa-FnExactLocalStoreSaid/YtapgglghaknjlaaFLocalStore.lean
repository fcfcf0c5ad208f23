/-
  FnExactLocalStore: for every argument the program's LocalStore returns what the reference's returns. No condition.
-/
import Derived.Test.YtapgglghaknjlaaELocalStore
import Derived.Test.YtapgglghaknjlaaApplied
import Derived.Test.YtapgglghaknjlaaStoreCnt
namespace Go.Proofs.Ytapgglghaknjlaa
open Go.RowKit Go.ChangeShapes

theorem localStore_holds : Rows.FnExactLocalStoreSaid :=
  localStore_of localStoreF
    (fun cs x w h hs => specLocalStore cs x w h (small_store (by unfold DReplica.wt at hs; omega)))
    (fun cs x w h hs => implLocalStore cs x w h (small_store (by unfold DReplica.wt at hs; omega)))
    (fun x hs => by
      have h1 := store_cnt x.base
      have h2 := applied_cnt x.base x.sync.outbox.writes
      unfold DReplica.wt at hs
      unfold localStoreF
      omega)
    (fun x hs => by
      have h1 := store_cnt x.base
      have h2 := wtT_const DWrite.cnt 7 x.sync.outbox.writes (fun _ => Nat.le_refl _)
      have h3 := wtS_ge DWrite.wt x.sync.outbox.writes
      unfold DReplica.wt DSync.wt DOutbox.wt at hs
      unfold DReplica.mcnt DSync.mcnt DOutbox.mcnt
      omega)

end Go.Proofs.Ytapgglghaknjlaa
