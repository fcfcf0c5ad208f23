/-
  Closed facts of this seat's program.
-/
import Derived.Test.YtjdoofekohjjlaaRows
import Derived.Test.YtjdoofekohjjlaaLaw
namespace Go.Proofs.Ytjdoofekohjjlaa
open Go.RowKit Go.ChangeShapes
theorem Try.own : ownKnob Try.prog.godebug = none := by kernel_rfl
theorem Try.laidOut : laidOutB Try.prog = true := by kernel_rfl
end Go.Proofs.Ytjdoofekohjjlaa
