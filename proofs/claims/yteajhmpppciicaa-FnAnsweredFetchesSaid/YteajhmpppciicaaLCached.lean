/-
  The laws' helpers for Cached.
-/
import Derived.Test.YteajhmpppciicaaLResponse
import Derived.Test.YteajhmpppciicaaTCached
namespace Go.Proofs.Yteajhmpppciicaa
open Go.RowKit

def DCached.wt (x : DCached) : Nat := x.site.size + x.path.size + x.response.wt

theorem infoCached : (Try.prog.info? 88).map (fun i => (i.zero, i.size, i.bytes)) = some (some (.agg #[.string ⟨#[]⟩, .string ⟨#[]⟩, .int .i64 0, .int .i64 0, .int .i64 0, .slice none 0 0, .bool false]), 7, 88) := by kernel_rfl

def DCached.cnt (x : DCached) : Nat := 6 + wtT cnt1 x.response.body x.response.body.length
def DCached.mk3 (k : Nat) (x : DCached) : DCached := ⟨markT (k), markT (k + 1), ⟨((k : Int) + 1 + 1), ((k : Int) + 1 + 1 + 1), ((k : Int) + 1 + 1 + 1 + 1), marks mkByte cnt1 (k + 5) x.response.body, ((((k + 5 + wtT cnt1 x.response.body x.response.body.length : Nat) : Int)) % 3 == 0)⟩⟩

def DCached.mcnt (x : DCached) : Nat := x.response.mcnt
def DCached.mks (x : DCached) (k : Nat) : DCached := { x with response := x.response.mks (k) }

end Go.Proofs.Yteajhmpppciicaa
