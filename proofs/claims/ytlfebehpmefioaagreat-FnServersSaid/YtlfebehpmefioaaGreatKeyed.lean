/-
  KeyedHash.
-/
import Derived.Test.YtlfebehpmefioaaGreatCrypto
import Derived.Test.YtlfebehpmefioaaGreatBase
namespace Go.Proofs.YtlfebehpmefioaaGreat
open Go.RowKit

theorem hashF_ge (l : List Int) : 0 ≤ hashF l ∧ hashF l < 2147483647 := by
  have := hashN_ge l l.length
  rwa [hashN_all l (Nat.le_refl _)] at this

end Go.Proofs.YtlfebehpmefioaaGreat
