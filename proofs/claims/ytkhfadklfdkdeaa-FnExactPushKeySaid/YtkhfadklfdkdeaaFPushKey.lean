/-
  FnExactPushKey: for every argument the program's PushKey returns what the reference's returns. No condition.
-/
import Derived.Test.YtkhfadklfdkdeaaEPushKey
import Derived.Test.YtkhfadklfdkdeaaPushKey
namespace Go.Proofs.Ytkhfadklfdkdeaa
open Go.RowKit Go.ChangeShapes

theorem pushKey_holds : Rows.FnExactPushKeySaid :=
  pushKey_of pushKeyF (fun cs x n w h _ => specPushKey cs x n w h) (fun cs x n w h _ => implPushKey cs x n w h)

end Go.Proofs.Ytkhfadklfdkdeaa
