/-
  FnExactDropOld: for every argument the program's DropOld returns what the reference's returns. No condition.
-/
import Derived.Test.YtglgjcdnfmlijaaEDropOld
import Derived.Test.YtglgjcdnfmlijaaDropOld
import Derived.Test.YtglgjcdnfmlijaaBounds
namespace Go.Proofs.Ytglgjcdnfmlijaa
open Go.RowKit Go.ChangeShapes

theorem push_cnt (l : List DPush) : wtT DPush.cnt l l.length ≤ 3 * wtS DPush.wt l :=
  wtT_small DPush.cnt DPush.wt 3 1 3 l (fun x => by
    have h1 := wtT_const cnt1 1 x.data (fun _ => Nat.le_refl _)
    have h2 := wtS_ge wt0 x.data
    unfold DPush.cnt DPush.wt
    omega) (by decide) (by decide)
theorem dropOld_holds : Rows.FnExactDropOldSaid :=
  dropOld_of dropOldF (fun cs l ct s w h h' hs _ => specDropOld ct cs l s w h h' hs) (fun cs l ct s w h h' hs _ => implDropOld ct cs l s w h h' hs)
    (fun l s hs _ => by
      have h1 := push_cnt (dropOldF l s)
      have h2 := wtS_filter DPush.wt (fun p => openPushB s p) l
      unfold dropOldF at h1 ⊢
      omega)
    (fun l hs => by have h1 := push_cnt l; omega)

end Go.Proofs.Ytglgjcdnfmlijaa
