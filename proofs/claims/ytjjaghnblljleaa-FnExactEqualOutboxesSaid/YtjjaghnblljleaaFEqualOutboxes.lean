/-
  FnExactEqualOutboxes: for every argument the program's EqualOutboxes returns what the reference's returns. No condition.
-/
import Derived.Test.YtjjaghnblljleaaEEqualOutboxes
import Derived.Test.YtjjaghnblljleaaEqualOutboxes
namespace Go.Proofs.Ytjjaghnblljleaa
open Go.RowKit Go.ChangeShapes

theorem equalOutboxes_holds : Rows.FnExactEqualOutboxesSaid :=
  equalOutboxes_of equalOutboxesF (fun cs x ds y w h h' _ _ => specEqualOutboxes cs ds x y w h h') (fun cs x ds y w h h' _ _ => implEqualOutboxes cs ds x y w h h')

end Go.Proofs.Ytjjaghnblljleaa
