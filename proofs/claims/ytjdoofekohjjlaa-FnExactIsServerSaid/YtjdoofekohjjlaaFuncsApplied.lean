/-
  slices.IndexFunc, ContainsFunc, DeleteFunc at []Applied.
-/
import Derived.Test.YtjdoofekohjjlaaIdx
import Derived.Test.YtjdoofekohjjlaaTApplied
namespace Go.Proofs.Ytjdoofekohjjlaa
open Go.RowKit

end Go.Proofs.Ytjdoofekohjjlaa
