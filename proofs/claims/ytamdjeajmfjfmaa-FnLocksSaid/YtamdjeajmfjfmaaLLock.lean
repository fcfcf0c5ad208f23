/-
  The laws' helpers for Lock.
-/
import Derived.Test.YtamdjeajmfjfmaaBase
import Derived.Test.YtamdjeajmfjfmaaTLock
namespace Go.Proofs.Ytamdjeajmfjfmaa
open Go.RowKit

def DLock.wt (x : DLock) : Nat := x.name.size

theorem infoLock : (Try.prog.info? 33).map (fun i => (i.zero, i.size, i.bytes)) = some (some (.agg #[.string ⟨#[]⟩, .int .i64 0, .bool false, .bool false]), 4, 32) := by kernel_rfl

def DLock.cnt (_ : DLock) : Nat := 4
def DLock.mk3 (k : Nat) (_ : DLock) : DLock := ⟨markT (k), ((k : Int) + 1), (((k : Int) + 1 + 1) % 3 == 0), (((k : Int) + 1 + 1 + 1) % 3 == 0)⟩

end Go.Proofs.Ytamdjeajmfjfmaa
