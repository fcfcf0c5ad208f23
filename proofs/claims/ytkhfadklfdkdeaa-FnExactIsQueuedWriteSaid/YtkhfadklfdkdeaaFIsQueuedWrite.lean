/-
  FnExactIsQueuedWrite: for every argument the program's IsQueuedWrite returns what the reference's returns. No condition.
-/
import Derived.Test.YtkhfadklfdkdeaaEIsQueuedWrite
import Derived.Test.YtkhfadklfdkdeaaKeys
namespace Go.Proofs.Ytkhfadklfdkdeaa
open Go.RowKit Go.ChangeShapes

theorem isQueuedWrite_holds : Rows.FnExactIsQueuedWriteSaid :=
  isQueuedWrite_of isWriteF (fun cs x w h _ => specIsQueuedWrite cs x w h) (fun cs x w h _ => implIsQueuedWrite cs x w h)

end Go.Proofs.Ytkhfadklfdkdeaa
