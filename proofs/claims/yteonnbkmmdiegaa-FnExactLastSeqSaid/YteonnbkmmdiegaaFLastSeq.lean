/-
  FnExactLastSeq: for every argument the program's LastSeq returns what the reference's returns. No condition.
-/
import Derived.Test.YteonnbkmmdiegaaELastSeq
import Derived.Test.YteonnbkmmdiegaaLastSeq
namespace Go.Proofs.Yteonnbkmmdiegaa
open Go.RowKit Go.ChangeShapes

theorem lastSeq_holds : Rows.FnExactLastSeqSaid :=
  lastSeq_of lastSeqF (fun cs x d w h _ => specLastSeq cs x d w h) (fun cs x d w h _ => implLastSeq cs x d w h)

end Go.Proofs.Yteonnbkmmdiegaa
