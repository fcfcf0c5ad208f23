/-
  The laws' helpers for slices of ints, of bytes, of strings.
-/
import Derived.Test.YtjdoofekohjjlaaBytes
import Derived.Test.YtjdoofekohjjlaaFill
namespace Go.Proofs.Ytjdoofekohjjlaa
open Go.RowKit

theorem Try.infoByte : (Try.prog.info? 5).map (fun i => (i.zero, i.size, i.bytes)) = some (some (.int .u8 0), 1, 1) := by kernel_rfl

theorem Try.infoInt : (Try.prog.info? 3).map (fun i => (i.zero, i.size, i.bytes)) = some (some (.int .i64 0), 1, 8) := by kernel_rfl

theorem Try.infoString : (Try.prog.info? 9).map (fun i => (i.zero, i.size, i.bytes)) = some (some (.string ⟨#[]⟩), 1, 16) := by kernel_rfl

end Go.Proofs.Ytjdoofekohjjlaa
