/-
  How many marks a store bears, and how small it is. No function of the program is named here.
-/
import Derived.Test.YtlfebehpmefioaaGreatRecFam
import Derived.Test.YtlfebehpmefioaaGreatLFamA
namespace Go.Proofs.YtlfebehpmefioaaGreat
open Go.RowKit

theorem putOut_name' (s : DStore) (k : DKey) (r : DRecord) : (putOut s k r).name = s.name := by
  unfold putOut putAt putNew
  split
  · split <;> rfl
  · rfl
theorem setItem_name (s : DStore) (y : DWrite) : (setItemF s y).name = s.name := by
  unfold setItemF
  split
  · exact putOut_name' _ _ _
  · rfl
theorem applied_name : ∀ (l : List DWrite) (s : DStore), (appliedF s l).name = s.name
  | [], _ => rfl
  | y :: l, s => by
    have e : appliedF s (y :: l) = appliedF (setItemF s y) l := rfl
    rw [e, applied_name l, setItem_name]

end Go.Proofs.YtlfebehpmefioaaGreat
