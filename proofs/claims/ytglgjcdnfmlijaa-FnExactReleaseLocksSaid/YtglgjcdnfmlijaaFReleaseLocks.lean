/-
  FnExactReleaseLocks: for every argument the program's ReleaseLocks returns what the reference's returns. No condition.
-/
import Derived.Test.YtglgjcdnfmlijaaEReleaseLocks
import Derived.Test.YtglgjcdnfmlijaaReleaseLocks
import Derived.Test.YtglgjcdnfmlijaaBounds
namespace Go.Proofs.Ytglgjcdnfmlijaa
open Go.RowKit Go.ChangeShapes

theorem releaseLocks_holds : Rows.FnExactReleaseLocksSaid :=
  releaseLocks_of releaseLocksF (fun cs x n w h hs => specReleaseLocks cs x n w h (by have h3 : x.locks.length ≤ x.wt := wtS_ge _ _; omega)) (fun cs x n w h hs => implReleaseLocks cs x n w h (by have h3 : x.locks.length ≤ x.wt := wtS_ge _ _; omega))
    (fun x n hs => by
      have h1 : (releaseLocksF x n).mcnt ≤ 4 * (releaseLocksF x n).locks.length := wtT_const DLock.cnt 4 _ (fun _ => Nat.le_refl _)
      have h2 : (releaseLocksF x n).locks.length = (keptLocks x.locks n).length := grantL_len _
      have h4 : (keptLocks x.locks n).length ≤ x.locks.length := List.length_filter_le _ _
      have h3 : x.locks.length ≤ x.wt := wtS_ge _ _
      omega)
    (fun x hs => by
      have h1 : x.mcnt ≤ 4 * x.locks.length := wtT_const DLock.cnt 4 x.locks (fun _ => Nat.le_refl _)
      have h3 : x.locks.length ≤ x.wt := wtS_ge _ _
      omega)

end Go.Proofs.Ytglgjcdnfmlijaa
