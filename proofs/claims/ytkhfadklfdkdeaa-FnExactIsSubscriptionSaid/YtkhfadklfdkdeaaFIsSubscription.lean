/-
  FnExactIsSubscription: for every argument the program's IsSubscription returns what the reference's returns. No condition.
-/
import Derived.Test.YtkhfadklfdkdeaaEIsSubscription
import Derived.Test.YtkhfadklfdkdeaaPushes
namespace Go.Proofs.Ytkhfadklfdkdeaa
open Go.RowKit Go.ChangeShapes

theorem isSubscription_holds : Rows.FnExactIsSubscriptionSaid :=
  isSubscription_of isSubscriptionF (fun cs x w h _ => specIsSubscription cs x w h) (fun cs x w h _ => implIsSubscription cs x w h)

end Go.Proofs.Ytkhfadklfdkdeaa
