/-
  LastSeq.
-/
import Derived.Test.YtapgglghaknjlaaFuncsFam
import Derived.Test.YtapgglghaknjlaaTFam
namespace Go.Proofs.Ytapgglghaknjlaa
open Go.RowKit

def atDevice (d : Int) (a : DApplied) : Bool := a.device == d
def lastSeqF (x : DServer) (d : Int) : Int := ((x.applied.find? (atDevice d)).map (·.seq)).getD 0
theorem lastSeq_none {x : DServer} {d : Int} (h : ∀ j, (hj : j < x.applied.length) → atDevice d x.applied[j] = false) : lastSeqF x d = 0 := by
  unfold lastSeqF
  rw [List.find?_eq_none.2 (fun y hy => by obtain ⟨j, hj, rfl⟩ := List.getElem_of_mem hy; rw [h j hj]; simp)]
  rfl
theorem lastSeq_hit {x : DServer} {d : Int} {k : Nat} (hk : k < x.applied.length) (hp : atDevice d x.applied[k] = true) (h : ∀ j, (hj : j < x.applied.length) → j < k → atDevice d x.applied[j] = false) : lastSeqF x d = x.applied[k].seq := by
  unfold lastSeqF
  have : x.applied.find? (atDevice d) = some x.applied[k] := List.find?_eq_some_iff_getElem.2 ⟨hp, k, hk, rfl, fun j hj => by rw [h j (by omega) hj]; rfl⟩
  rw [this]; rfl

end Go.Proofs.Ytapgglghaknjlaa
