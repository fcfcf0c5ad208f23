/-
  FnExactIsOutbox: for every argument the program's IsOutbox returns what the reference's returns. No condition.
-/
import Derived.Test.YtglgjcdnfmlijaaEIsOutbox
import Derived.Test.YtglgjcdnfmlijaaIsOutbox
namespace Go.Proofs.Ytglgjcdnfmlijaa
open Go.RowKit Go.ChangeShapes

theorem isOutbox_holds : Rows.FnExactIsOutboxSaid :=
  isOutbox_of isOutboxF (fun cs x w h _ => specIsOutbox cs x w h) (fun cs x w h _ => implIsOutbox cs x w h)

end Go.Proofs.Ytglgjcdnfmlijaa
