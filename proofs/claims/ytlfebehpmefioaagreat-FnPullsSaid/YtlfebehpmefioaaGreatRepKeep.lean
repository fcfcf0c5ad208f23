/-
 RepOk is kept by the steps of the draw.
-/
import Derived.Test.YtlfebehpmefioaaGreatPair23
import Derived.Test.YtlfebehpmefioaaGreatRepLaw
namespace Go.Proofs.YtlfebehpmefioaaGreat
open Go.RowKit

theorem repInv : RepInv RepOk where
 new := fun s h => (RepOk.new h).2
 write := fun b r s k f n _ h => h.write k f n
 sync := fun b r s m hb h => h.sync (by omega) m
 recv := fun b r s y hb h hd => h.recv (by omega) y (by omega)
 pull := fun b r s hb h => h.pull (by omega)
 small := fun b r s hb h => h.small (by omega)

end Go.Proofs.YtlfebehpmefioaaGreat
