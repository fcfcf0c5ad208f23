/-
  FnExactEnqueueWrite: for every argument the program's EnqueueWrite returns what the reference's returns. No condition.
-/
import Derived.Test.YtglgjcdnfmlijaaEEnqueueWrite
import Derived.Test.YtglgjcdnfmlijaaEnqueue
import Derived.Test.YtglgjcdnfmlijaaBounds
namespace Go.Proofs.Ytglgjcdnfmlijaa
open Go.RowKit Go.ChangeShapes

theorem enqueueWrite_holds : Rows.FnExactEnqueueWriteSaid :=
  enqueueWrite_of enqueueF enqueueB
    (fun cs x ck k f n w h h' hs _ hf => specEnqueueWrite cs ck x k f n w h h' (by have h3 : x.writes.length ≤ x.wt := wtS_ge _ _; omega) (by unfold maxLen; omega))
    (fun cs x ck k f n w h h' hs _ hf => implEnqueueWrite cs ck x k f n w h h' (by have h3 : x.writes.length ≤ x.wt := wtS_ge _ _; omega) (by unfold maxLen; omega))
    (fun x k f n hs _ _ => by
      have h1 : (enqueueF x k f n).mcnt ≤ 7 * (enqueueF x k f n).writes.length := wtT_const DWrite.cnt 7 _ (fun _ => Nat.le_refl _)
      have h2 : (enqueueF x k f n).writes.length ≤ x.writes.length + 1 := by
        unfold enqueueF; split
        · simp [enqOut]
        · omega
      have h3 : x.writes.length ≤ x.wt := wtS_ge _ _
      omega)
    (fun x hs => by
      have h1 : x.mcnt ≤ 7 * x.writes.length := wtT_const DWrite.cnt 7 x.writes (fun _ => Nat.le_refl _)
      have h3 : x.writes.length ≤ x.wt := wtS_ge _ _
      omega)

end Go.Proofs.Ytglgjcdnfmlijaa
