/-
  The laws' helpers for Response.
-/
import Derived.Test.YteajhmpppciicaaBase
import Derived.Test.YteajhmpppciicaaTResponse
namespace Go.Proofs.Yteajhmpppciicaa
open Go.RowKit

def DResponse.wt (x : DResponse) : Nat := wtS wt0 x.body

theorem infoResponse : (Try.prog.info? 51).map (fun i => (i.zero, i.size, i.bytes)) = some (some (.agg #[.int .i64 0, .int .i64 0, .int .i64 0, .slice none 0 0, .bool false]), 5, 56) := by kernel_rfl

def DResponse.cnt (x : DResponse) : Nat := 4 + wtT cnt1 x.body x.body.length
def DResponse.mk3 (k : Nat) (x : DResponse) : DResponse := ⟨((k : Int)), ((k : Int) + 1), ((k : Int) + 1 + 1), marks mkByte cnt1 (k + 3) x.body, ((((k + 3 + wtT cnt1 x.body x.body.length : Nat) : Int)) % 3 == 0)⟩

def DResponse.mcnt (x : DResponse) : Nat := wtT cnt1 x.body x.body.length
def DResponse.mks (x : DResponse) (k : Nat) : DResponse := { x with body := marks mkByte cnt1 (k) x.body }

end Go.Proofs.Yteajhmpppciicaa
