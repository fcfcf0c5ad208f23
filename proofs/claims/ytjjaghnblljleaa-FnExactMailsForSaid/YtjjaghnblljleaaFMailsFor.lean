/-
  FnExactMailsFor: for every argument the program's MailsFor returns what the reference's returns. No condition.
-/
import Derived.Test.YtjjaghnblljleaaEMailsFor
import Derived.Test.YtjjaghnblljleaaMailsFor
import Derived.Test.YtjjaghnblljleaaBounds
namespace Go.Proofs.Ytjjaghnblljleaa
open Go.RowKit Go.ChangeShapes

theorem mailsFor_holds : Rows.FnExactMailsForSaid :=
  mailsFor_of mailsForF (fun cs x n w h hs => specMailsFor cs x n w h (Nat.le_trans (wtS_ge _ _) hs)) (fun cs x n w h hs => implMailsFor cs x n w h (Nat.le_trans (wtS_ge _ _) hs))
    (fun x n hs => by
      have h1 := wtT_const DMail.cnt 3 (mailsForF x n) (fun _ => Nat.le_refl _)
      have h2 : (mailsForF x n).length ≤ x.mails.length := List.length_filter_le _ _
      have h3 : x.mails.length ≤ x.wt := wtS_ge _ _
      omega)
    (fun x hs => by
      have h1 : x.mcnt ≤ 3 * x.mails.length := wtT_const DMail.cnt 3 x.mails (fun _ => Nat.le_refl _)
      have h3 : x.mails.length ≤ x.wt := wtS_ge _ _
      omega)

end Go.Proofs.Ytjjaghnblljleaa
