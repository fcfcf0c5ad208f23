/-
  How many marks a server, a replica, a synchronization bear, and how small they are. No function of the program is named here.
-/
import Derived.Test.YtlfebehpmefioaaGreatSrvFam
import Derived.Test.YtlfebehpmefioaaGreatStoreCnt
import Derived.Test.YtlfebehpmefioaaGreatLFamB
namespace Go.Proofs.YtlfebehpmefioaaGreat
open Go.RowKit

end Go.Proofs.YtlfebehpmefioaaGreat
