/-
  FnExactIsConfirmed: for every argument the program's IsConfirmed returns what the reference's returns. No condition.
-/
import Derived.Test.YtglgjcdnfmlijaaEIsConfirmed
import Derived.Test.YtglgjcdnfmlijaaIsConfirmed
namespace Go.Proofs.Ytglgjcdnfmlijaa
open Go.RowKit Go.ChangeShapes

theorem isConfirmed_holds : Rows.FnExactIsConfirmedSaid :=
  isConfirmed_of isConfirmedF (fun cs x w h _ => specIsConfirmed cs x w h) (fun cs x w h _ => implIsConfirmed cs x w h)

end Go.Proofs.Ytglgjcdnfmlijaa
