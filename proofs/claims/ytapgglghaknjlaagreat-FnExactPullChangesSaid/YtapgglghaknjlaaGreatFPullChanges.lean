/-
  FnExactPullChanges: for every argument the program's PullChanges returns what the reference's returns. No condition.
-/
import Derived.Test.YtapgglghaknjlaaGreatEPullChanges
import Derived.Test.YtapgglghaknjlaaGreatPullS
import Derived.Test.YtapgglghaknjlaaGreatSrvCnt
namespace Go.Proofs.YtapgglghaknjlaaGreat
open Go.RowKit Go.ChangeShapes

theorem pull_cnt {x : DReplica} (s : DServer) (hs : x.wt ≤ 1048576) : (pullChangesF x s).mcnt ≤ 30000000 := by
  have h1 := replica_cnt hs
  unfold pullChangesF
  split
  · omega
  · have h2 := store_cnt x.base
    have h3 := (replica_small hs).2
    have h4 := sync_cnt (pulled x s).sync
    have h5 : (pulled x s).sync.outbox.writes.length ≤ x.sync.outbox.writes.length := ackWritesF_len _ _
    have h6 : (pulled x s).mcnt = (pulled x s).base.mcnt + (pulled x s).sync.mcnt := rfl
    have h7 : (pulled x s).base.mcnt ≤ x.base.mcnt + 240 := applied_cnt _ _
    unfold DReplica.wt at hs
    omega

theorem pullChanges_holds : Rows.FnExactPullChangesSaid :=
  pullChanges_of pullChangesF pullChangesN
    (fun cs x cv s w h h' hs _ => specPullChanges cs cv x s w h h' (replica_small hs).1 (replica_small hs).2)
    (fun cs x cv s w h h' hs _ => implPullChanges cs cv x s w h h' (replica_small hs).1 (replica_small hs).2)
    (fun x s hs _ => by
      have h1 := pull_cnt s hs
      omega)
    (fun x hs => by
      have h1 := replica_cnt hs
      omega)
    (fun x hs => by
      have h1 := server_cnt hs
      omega)

end Go.Proofs.YtapgglghaknjlaaGreat
