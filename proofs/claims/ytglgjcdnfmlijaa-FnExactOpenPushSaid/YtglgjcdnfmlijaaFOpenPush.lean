/-
  FnExactOpenPush: for every argument the program's OpenPush returns what the reference's returns. No condition.
-/
import Derived.Test.YtglgjcdnfmlijaaEOpenPush
import Derived.Test.YtglgjcdnfmlijaaOpenPush
import Derived.Test.YtglgjcdnfmlijaaBounds
namespace Go.Proofs.Ytglgjcdnfmlijaa
open Go.RowKit Go.ChangeShapes

theorem openPush_holds : Rows.FnExactOpenPushSaid :=
  openPush_of openPushF openPushD openPushB
    (fun cs s ds p w h h' _ hp => specOpenPush cs ds s p w h h' (by unfold DPush.wt at hp; omega) (by have := wtS_ge wt0 p.data; unfold DPush.wt at hp; omega))
    (fun cs s ds p w h h' _ hp => implOpenPush cs ds s p w h h' (by unfold DPush.wt at hp; omega) (by have := wtS_ge wt0 p.data; unfold DPush.wt at hp; omega))
    (fun s p _ hp => by
      have h1 := wtT_const cnt1 1 (openPushD s p) (fun _ => Nat.le_refl _)
      have h2 : (openPushD s p).length ≤ p.data.length := by
        unfold openPushD; split
        · exact Nat.le_of_eq (decryptF_len _ _)
        · exact Nat.zero_le _
      have h3 := wtS_ge wt0 p.data
      unfold DPush.wt at hp
      omega)
    (fun p hp => by
      have h1 := wtT_const cnt1 1 p.data (fun _ => Nat.le_refl _)
      have h3 := wtS_ge wt0 p.data
      unfold DPush.mcnt
      unfold DPush.wt at hp
      omega)

end Go.Proofs.Ytglgjcdnfmlijaa
