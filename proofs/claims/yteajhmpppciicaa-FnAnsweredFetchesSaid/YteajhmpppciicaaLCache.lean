/-
  The laws' helpers for Cache.
-/
import Derived.Test.YteajhmpppciicaaLCached
import Derived.Test.YteajhmpppciicaaTCache
namespace Go.Proofs.Yteajhmpppciicaa
open Go.RowKit

def DCache.wt (x : DCache) : Nat := wtS DCached.wt x.entries

theorem infoCache : (Try.prog.info? 85).map (fun i => (i.zero, i.size, i.bytes)) = some (some (.agg #[.int .i64 0, .slice none 0 0]), 2, 32) := by kernel_rfl

def DCache.cnt (x : DCache) : Nat := 1 + wtT DCached.cnt x.entries x.entries.length
def DCache.mk3 (k : Nat) (x : DCache) : DCache := ⟨((k : Int)), marks DCached.mk3 DCached.cnt (k + 1) x.entries⟩

def DCache.mcnt (x : DCache) : Nat := wtT DCached.cnt x.entries x.entries.length
def DCache.mks (x : DCache) (k : Nat) : DCache := { x with entries := marks DCached.mk3 DCached.cnt (k) x.entries }

end Go.Proofs.Yteajhmpppciicaa
