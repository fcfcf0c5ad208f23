/-
  The laws' helpers for LockTable.
-/
import Derived.Test.YtamdjeajmfjfmaaLLock
import Derived.Test.YtamdjeajmfjfmaaTLockTable
namespace Go.Proofs.Ytamdjeajmfjfmaa
open Go.RowKit

def DLockTable.wt (x : DLockTable) : Nat := wtS DLock.wt x.locks

theorem infoLockTable : (Try.prog.info? 26).map (fun i => (i.zero, i.size, i.bytes)) = some (some (.agg #[.slice none 0 0]), 1, 24) := by kernel_rfl

def DLockTable.cnt (x : DLockTable) : Nat := 0 + wtT DLock.cnt x.locks x.locks.length
def DLockTable.mk3 (k : Nat) (x : DLockTable) : DLockTable := ⟨marks DLock.mk3 DLock.cnt (k) x.locks⟩

def DLockTable.mcnt (x : DLockTable) : Nat := wtT DLock.cnt x.locks x.locks.length
def DLockTable.mks (x : DLockTable) (k : Nat) : DLockTable := { locks := marks DLock.mk3 DLock.cnt (k) x.locks }

end Go.Proofs.Ytamdjeajmfjfmaa
