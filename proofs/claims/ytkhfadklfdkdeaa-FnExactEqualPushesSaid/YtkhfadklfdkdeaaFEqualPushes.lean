/-
  FnExactEqualPushes: for every argument the program's EqualPushes returns what the reference's returns. No condition.
-/
import Derived.Test.YtkhfadklfdkdeaaEEqualPushes
import Derived.Test.YtkhfadklfdkdeaaEqualPushes
namespace Go.Proofs.Ytkhfadklfdkdeaa
open Go.RowKit Go.ChangeShapes

theorem equalPushes_holds : Rows.FnExactEqualPushesSaid :=
  equalPushes_of equalPushesF (fun cs x ds y w h k _ _ => specEqualPushes cs ds x y w h k) (fun cs x ds y w h k _ _ => implEqualPushes cs ds x y w h k)

end Go.Proofs.Ytkhfadklfdkdeaa
