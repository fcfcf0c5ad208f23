/-
  FnExactFirstWrite: for every argument the program's FirstWrite returns what the reference's returns. No condition.
-/
import Derived.Test.YtjjaghnblljleaaEFirstWrite
import Derived.Test.YtjjaghnblljleaaFirstWrite
namespace Go.Proofs.Ytjjaghnblljleaa
open Go.RowKit Go.ChangeShapes

theorem firstWrite_holds : Rows.FnExactFirstWriteSaid :=
  firstWrite_of firstWriteF firstWriteB (fun cs x w h _ => specFirstWrite cs x w h) (fun cs x w h _ => implFirstWrite cs x w h)

end Go.Proofs.Ytjjaghnblljleaa
