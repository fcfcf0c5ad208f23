/-
  FnExactBeginPage: for every argument the program's BeginPage returns what the reference's returns. No condition.
-/
import Derived.Test.YtamdjeajmfjfmaaEBeginPage
import Derived.Test.YtamdjeajmfjfmaaBeginPage
import Derived.Test.YtamdjeajmfjfmaaPageCnt
namespace Go.Proofs.Ytamdjeajmfjfmaa
open Go.RowKit Go.ChangeShapes

theorem beginPage_holds : Rows.FnExactBeginPageSaid :=
  beginPage_of beginPageF beginPageB
    (fun a0 a1 a2 a3 v l w h h1 h2 hs => specBeginPage a0 a1 a2 a3 v l w h (by have := wtS_ge DInstr.wt l; omega) (by unfold maxLen; omega) (by unfold maxLen; omega))
    (fun a0 a1 a2 a3 v l w h h1 h2 hs => implBeginPage a0 a1 a2 a3 v l w h (by have := wtS_ge DInstr.wt l; omega) (by unfold maxLen; omega) (by unfold maxLen; omega))
    (fun a0 a1 a2 a3 l h1 h2 hs => by
      have h0 := wtS_ge DInstr.wt l
      have h3 := wtT_const DInstr.cnt 4 l (fun _ => Nat.le_refl _)
      have h4 : (newMachineF l).mcnt ≤ 4 * l.length + 4 := by
        unfold newMachineF
        split
        · unfold DMachine.mcnt; have h5 := wtT_const cnt1 1 [(0 : Int), 0, 0, 0] (fun _ => Nat.le_refl _); simp only [List.length_cons, List.length_nil] at *; omega
        · unfold DMachine.mcnt; have h5 := wtT_const cnt1 1 [(0 : Int), 0, 0, 0] (fun _ => Nat.le_refl _); have h6 : wtT DInstr.cnt ([] : List DInstr) ([] : List DInstr).length = 0 := rfl; simp only [List.length_cons, List.length_nil] at *; omega
      unfold beginPageF
      split
      · show wtT DLoaded.cnt [] 0 + (newMachineF l).mcnt ≤ _
        have h6 : wtT DLoaded.cnt ([] : List DLoaded) 0 = 0 := rfl
        omega
      · exact Nat.le_trans (Nat.le_of_eq (show zeroPage.mcnt = 0 from rfl)) (by decide))
    (fun l hs => by
      have h0 := wtS_ge DInstr.wt l
      have h3 := wtT_const DInstr.cnt 4 l (fun _ => Nat.le_refl _)
      omega)

end Go.Proofs.Ytamdjeajmfjfmaa
