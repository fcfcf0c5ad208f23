/-
  IsReplica.
-/
import Derived.Test.YtgicglmcapnogaaGreatIsStore
import Derived.Test.YtgicglmcapnogaaGreatIsOutbox
import Derived.Test.YtgicglmcapnogaaGreatTFam
namespace Go.Proofs.YtgicglmcapnogaaGreat
open Go.RowKit

def isNotes (s : ByteArray) : Bool := s.toList == [110, 111, 116, 101, 115]
def isReplicaF (x : DReplica) : Bool := isStoreF x.base && (isNotes x.base.name && (within x.seen 0 1000000000000 && isOutboxF x.sync.outbox))


end Go.Proofs.YtgicglmcapnogaaGreat
