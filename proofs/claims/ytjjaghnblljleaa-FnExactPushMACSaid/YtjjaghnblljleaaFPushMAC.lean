/-
  FnExactPushMAC: for every argument the program's PushMAC returns what the reference's returns. No condition.
-/
import Derived.Test.YtjjaghnblljleaaEPushMAC
import Derived.Test.YtjjaghnblljleaaDerive
namespace Go.Proofs.Ytjjaghnblljleaa
open Go.RowKit Go.ChangeShapes

theorem push_sizes {y : DPush} (hs : y.wt ≤ 1048576) : y.site.size ≤ 4000000 ∧ y.data.length ≤ 4000000 := by
  have h1 : y.wt = y.site.size + wtS wt0 y.data := rfl
  have h2 : y.data.length ≤ wtS wt0 y.data := wtS_ge _ _
  omega
theorem pushMAC_holds : Rows.FnExactPushMACSaid :=
  pushMAC_of pushMACF (fun cs x ds y w h h' _ hs => specPushMAC cs ds x y w h h' (push_sizes hs).1 (push_sizes hs).2) (fun cs x ds y w h h' _ hs => implPushMAC cs ds x y w h h' (push_sizes hs).1 (push_sizes hs).2)

end Go.Proofs.Ytjjaghnblljleaa
