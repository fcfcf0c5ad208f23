/-
  FnExactGrantLocks: for every argument the program's GrantLocks returns what the reference's returns. No condition.
-/
import Derived.Test.YtjjaghnblljleaaEGrantLocks
import Derived.Test.YtjjaghnblljleaaGrantLocks
import Derived.Test.YtjjaghnblljleaaBounds
namespace Go.Proofs.Ytjjaghnblljleaa
open Go.RowKit Go.ChangeShapes

theorem grantLocks_holds : Rows.FnExactGrantLocksSaid :=
  grantLocks_of grantLocksF (fun cs x w h hs => specGrantLocks cs x w h (by have h3 : x.locks.length ≤ x.wt := wtS_ge _ _; omega)) (fun cs x w h hs => implGrantLocks cs x w h (by have h3 : x.locks.length ≤ x.wt := wtS_ge _ _; omega))
    (fun x hs => by
      have h1 : (grantLocksF x).mcnt ≤ 4 * (grantLocksF x).locks.length := wtT_const DLock.cnt 4 _ (fun _ => Nat.le_refl _)
      have h2 : (grantLocksF x).locks.length = x.locks.length := grantL_len _
      have h3 : x.locks.length ≤ x.wt := wtS_ge _ _
      omega)
    (fun x hs => by
      have h1 : x.mcnt ≤ 4 * x.locks.length := wtT_const DLock.cnt 4 x.locks (fun _ => Nat.le_refl _)
      have h3 : x.locks.length ≤ x.wt := wtS_ge _ _
      omega)

end Go.Proofs.Ytjjaghnblljleaa
