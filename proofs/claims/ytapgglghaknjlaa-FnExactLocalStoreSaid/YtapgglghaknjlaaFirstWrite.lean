/-
  FirstWrite.
-/
import Derived.Test.YtapgglghaknjlaaBase
import Derived.Test.YtapgglghaknjlaaTFam
namespace Go.Proofs.Ytapgglghaknjlaa
open Go.RowKit

def zeroWrite : DWrite := ⟨0, 0, ⟨0, 0, ⟨#[]⟩⟩, ⟨#[]⟩, 0⟩
def firstWriteF (x : DOutbox) : DWrite := x.writes.headD zeroWrite
def firstWriteB (x : DOutbox) : Bool := decide (0 < x.writes.length)

end Go.Proofs.Ytapgglghaknjlaa
