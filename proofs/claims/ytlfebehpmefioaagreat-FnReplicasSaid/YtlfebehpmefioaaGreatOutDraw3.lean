/-
  The draw of any outbox, and of a write to be queued.
-/
import Derived.Test.YtlfebehpmefioaaGreatDrawFam
import Derived.Deep.RegionHeldLaw
namespace Go.Proofs.YtlfebehpmefioaaGreat
open Go.RowKit

def lenAt (w : World) (b o : Nat) : Nat := match w.cell? ⟨b, o, none⟩ with | some (.slice _ n _) => n | _ => 0
end Go.Proofs.YtlfebehpmefioaaGreat
