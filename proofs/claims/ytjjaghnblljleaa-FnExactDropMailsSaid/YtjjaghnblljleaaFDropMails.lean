/-
  FnExactDropMails: for every argument the program's DropMails returns what the reference's returns. No condition.
-/
import Derived.Test.YtjjaghnblljleaaEDropMails
import Derived.Test.YtjjaghnblljleaaDropMails
import Derived.Test.YtjjaghnblljleaaBounds
namespace Go.Proofs.Ytjjaghnblljleaa
open Go.RowKit Go.ChangeShapes

theorem dropMails_holds : Rows.FnExactDropMailsSaid :=
  dropMails_of dropMailsF (fun cs x n w h hs => specDropMails cs x n w h (Nat.le_trans (wtS_ge _ _) hs)) (fun cs x n w h hs => implDropMails cs x n w h (Nat.le_trans (wtS_ge _ _) hs))
    (fun x n hs => by
      have h1 : (dropMailsF x n).mcnt ≤ 3 * (dropMailsF x n).mails.length := wtT_const DMail.cnt 3 _ (fun _ => Nat.le_refl _)
      have h2 : (dropMailsF x n).mails.length ≤ x.mails.length := List.length_filter_le _ _
      have h3 : x.mails.length ≤ x.wt := wtS_ge _ _
      omega)
    (fun x hs => by
      have h1 : x.mcnt ≤ 3 * x.mails.length := wtT_const DMail.cnt 3 x.mails (fun _ => Nat.le_refl _)
      have h3 : x.mails.length ≤ x.wt := wtS_ge _ _
      omega)

end Go.Proofs.Ytjjaghnblljleaa
