/-
  EnqueueWrite.
-/
import Derived.Test.YtgicglmcapnogaaGreatOutboxes
namespace Go.Proofs.YtgicglmcapnogaaGreat
open Go.RowKit

def newWrite (x : DOutbox) (k : DKey) (field : ByteArray) (n : Int) : DWrite := ⟨x.device, x.next, k, field, n⟩
def enqOut (x : DOutbox) (k : DKey) (field : ByteArray) (n : Int) : DOutbox := ⟨x.device, wrap64 (x.next + 1), x.writes ++ [newWrite x k field n]⟩
def enqueueB (x : DOutbox) (k : DKey) (field : ByteArray) (n : Int) : Bool := isOutboxF x && isOutboxF (enqOut x k field n)
def enqueueF (x : DOutbox) (k : DKey) (field : ByteArray) (n : Int) : DOutbox := if enqueueB x k field n then enqOut x k field n else x

end Go.Proofs.YtgicglmcapnogaaGreat
