/-
  FnExactEqualSyncs: for every argument the program's EqualSyncs returns what the reference's returns. No condition.
-/
import Derived.Test.YtjjaghnblljleaaEEqualSyncs
import Derived.Test.YtjjaghnblljleaaEqualOutboxes
namespace Go.Proofs.Ytjjaghnblljleaa
open Go.RowKit Go.ChangeShapes

theorem equalSyncs_holds : Rows.FnExactEqualSyncsSaid :=
  equalSyncs_of equalSyncsF (fun cs x ds y w h h' _ _ => specEqualSyncs cs ds x y w h h') (fun cs x ds y w h h' _ _ => implEqualSyncs cs ds x y w h h')

end Go.Proofs.Ytjjaghnblljleaa
