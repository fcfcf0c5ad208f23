/-
  FnExactNewOutbox: for every argument the program's NewOutbox returns what the reference's returns. No condition.
-/
import Derived.Test.YtglgjcdnfmlijaaENewOutbox
import Derived.Test.YtglgjcdnfmlijaaOutboxes
import Derived.Test.YtglgjcdnfmlijaaBounds
namespace Go.Proofs.Ytglgjcdnfmlijaa
open Go.RowKit Go.ChangeShapes

theorem newOutbox_holds : Rows.FnExactNewOutboxSaid :=
  newOutbox_of newOutboxF newOutboxB (fun a w => specNewOutbox a w) (fun a w => implNewOutbox a w)
    (fun a => by
      have h1 : (newOutboxF a).mcnt ≤ 7 * (newOutboxF a).writes.length := wtT_const DWrite.cnt 7 _ (fun _ => Nat.le_refl _)
      have h2 : (newOutboxF a).writes.length = 0 := by unfold newOutboxF; split <;> rfl
      omega)

end Go.Proofs.Ytglgjcdnfmlijaa
