/-
  The laws' helpers for CacheSet.
-/
import Derived.Test.YteajhmpppciicaaLCache
import Derived.Test.YteajhmpppciicaaTCacheSet
namespace Go.Proofs.Yteajhmpppciicaa
open Go.RowKit

def DCacheSet.wt (x : DCacheSet) : Nat := wtS DCache.wt x.caches

theorem infoCacheSet : (Try.prog.info? 44).map (fun i => (i.zero, i.size, i.bytes)) = some (some (.agg #[.slice none 0 0]), 1, 24) := by kernel_rfl

def DCacheSet.cnt (x : DCacheSet) : Nat := 0 + wtT DCache.cnt x.caches x.caches.length
def DCacheSet.mk3 (k : Nat) (x : DCacheSet) : DCacheSet := ⟨marks DCache.mk3 DCache.cnt (k) x.caches⟩

def DCacheSet.mcnt (x : DCacheSet) : Nat := wtT DCache.cnt x.caches x.caches.length
def DCacheSet.mks (x : DCacheSet) (k : Nat) : DCacheSet := { caches := marks DCache.mk3 DCache.cnt (k) x.caches }

end Go.Proofs.Yteajhmpppciicaa
