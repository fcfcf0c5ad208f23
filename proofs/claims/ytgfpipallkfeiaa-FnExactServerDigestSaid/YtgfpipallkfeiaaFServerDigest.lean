/-
  FnExactServerDigest: for every argument the program's ServerDigest returns what the reference's returns. No condition.
-/
import Derived.Test.YtgfpipallkfeiaaEServerDigest
import Derived.Test.YtgfpipallkfeiaaDigest
import Derived.Test.YtgfpipallkfeiaaBase
namespace Go.Proofs.Ytgfpipallkfeiaa
open Go.RowKit Go.ChangeShapes

theorem server_lens {x : DServer} (h : x.wt ≤ 1048576) : x.applied.length ≤ 1048576 ∧ x.store.items.length ≤ 1048576 := by
  have h1 := wtS_ge DItem.wt x.store.items
  have h2 : x.applied.length ≤ wtS DApplied.wt x.applied := wtS_ge _ _
  unfold DServer.wt DStore.wt at h
  omega
theorem serverDigest_holds : Rows.FnExactServerDigestSaid :=
  serverDigest_of serverDigestF
    (fun cs x w h hs => specServerDigest cs x w h (server_lens hs).1 (server_lens hs).2)
    (fun cs x w h hs => implServerDigest cs x w h (server_lens hs).1 (server_lens hs).2)

end Go.Proofs.Ytgfpipallkfeiaa
