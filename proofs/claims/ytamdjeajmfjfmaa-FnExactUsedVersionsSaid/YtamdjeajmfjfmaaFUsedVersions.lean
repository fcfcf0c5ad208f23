/-
  FnExactUsedVersions: for every argument the program's UsedVersions returns what the reference's returns. No condition.
-/
import Derived.Test.YtamdjeajmfjfmaaEUsedVersions
import Derived.Test.YtamdjeajmfjfmaaUsedVersions
import Derived.Test.YtamdjeajmfjfmaaPageCnt
import Derived.Test.YtamdjeajmfjfmaaBase
namespace Go.Proofs.Ytamdjeajmfjfmaa
open Go.RowKit Go.ChangeShapes

theorem usedVersions_holds : Rows.FnExactUsedVersionsSaid :=
  usedVersions_of usedVersionsF (fun v x n w h hs _ => specUsedVersions v x n w h (Nat.le_trans (wtS_ge _ _) hs)) (fun v x n w h hs _ => implUsedVersions v x n w h (Nat.le_trans (wtS_ge _ _) hs))
    (fun x n hs _ => by
      have h1 := wtT_const cnt1 1 (usedVersionsF x n) (fun _ => Nat.le_refl _)
      have h2 : (usedVersionsF x n).length ≤ x.length := by unfold usedVersionsF; rw [List.length_map]; exact List.length_filter_le _ _
      have h3 : x.length ≤ wtS DPage.wt x := wtS_ge _ _
      omega)
    (fun x hs => page_cntS hs)

end Go.Proofs.Ytamdjeajmfjfmaa
