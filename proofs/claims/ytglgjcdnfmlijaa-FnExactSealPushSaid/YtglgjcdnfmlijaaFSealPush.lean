/-
  FnExactSealPush: for every argument the program's SealPush returns what the reference's returns. No condition.
-/
import Derived.Test.YtglgjcdnfmlijaaESealPush
import Derived.Test.YtglgjcdnfmlijaaSealPush
import Derived.Test.YtglgjcdnfmlijaaBounds
namespace Go.Proofs.Ytglgjcdnfmlijaa
open Go.RowKit Go.ChangeShapes

theorem sealPush_holds : Rows.FnExactSealPushSaid :=
  sealPush_of sealPushF sealPushB
    (fun cs s n v d w h h' hs hd => specSealPush cs s n v d w h h' (by unfold DSubscription.wt at hs; omega) (by have := wtS_ge wt0 d; omega)) (fun cs s n v d w h h' hs hd => implSealPush cs s n v d w h h' (by unfold DSubscription.wt at hs; omega) (by have := wtS_ge wt0 d; omega))
    (fun s n d hs hd => by
      have h1 : (sealPushF s n d).mcnt ≤ 3 + (sealPushF s n d).data.length := by
        have := wtT_const cnt1 1 (sealPushF s n d).data (fun _ => Nat.le_refl _)
        unfold DPush.mcnt; omega
      have h2 : (sealPushF s n d).data.length ≤ d.length := by
        unfold sealPushF; split
        · exact Nat.le_of_eq (encryptF_len _ _)
        · exact Nat.zero_le _
      have h3 := wtS_ge wt0 d
      omega)
    (fun d hd => by
      have h1 := wtT_const cnt1 1 d (fun _ => Nat.le_refl _)
      have h3 := wtS_ge wt0 d
      omega)

end Go.Proofs.Ytglgjcdnfmlijaa
