/-
  FnExactWriteLocal: for every argument the program's WriteLocal returns what the reference's returns. No condition.
-/
import Derived.Test.YtapgglghaknjlaaGreatEWriteLocal
import Derived.Test.YtapgglghaknjlaaGreatWriteLocal
import Derived.Test.YtapgglghaknjlaaGreatSrvCnt
namespace Go.Proofs.YtapgglghaknjlaaGreat
open Go.RowKit Go.ChangeShapes

theorem writeLocal_cnt {x : DReplica} (k : DKey) (field : ByteArray) (n : Int) (hs : x.wt ≤ 1048576) : (writeLocalF x k field n).mcnt ≤ 20000100 := by
  have h1 := replica_cnt hs
  unfold writeLocalF
  split
  · have h2 := store_cnt x.base
    have h3 := (replica_small hs).2
    have h4 := sync_cnt (withBox x (enqOut x.sync.outbox k field n)).sync
    have h5 : (withBox x (enqOut x.sync.outbox k field n)).sync.outbox.writes.length = x.sync.outbox.writes.length + 1 := by simp [withBox, enqOut]
    have h6 : (withBox x (enqOut x.sync.outbox k field n)).mcnt = x.base.mcnt + (withBox x (enqOut x.sync.outbox k field n)).sync.mcnt := rfl
    unfold DReplica.wt at hs
    omega
  · omega

theorem writeLocal_holds : Rows.FnExactWriteLocalSaid :=
  writeLocal_of writeLocalF writeLocalB
    (fun cs x ck k f n w h h' hs _ hf => specWriteLocal cs ck x k f n w h h' (replica_small hs).1 (replica_small hs).2 (by unfold maxLen; omega))
    (fun cs x ck k f n w h h' hs _ hf => implWriteLocal cs ck x k f n w h h' (replica_small hs).1 (replica_small hs).2 (by unfold maxLen; omega))
    (fun x k f n hs _ _ => by
      have h1 := writeLocal_cnt k f n hs
      omega)
    (fun x hs => by
      have h1 := replica_cnt hs
      omega)

end Go.Proofs.YtapgglghaknjlaaGreat
