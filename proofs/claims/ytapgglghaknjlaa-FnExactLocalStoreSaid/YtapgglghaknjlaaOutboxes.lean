/-
  copyOutbox, NewOutbox, EnqueueWrite.
-/
import Derived.Test.YtapgglghaknjlaaIsOutbox
import Derived.Test.YtapgglghaknjlaaLFamB
import Derived.Deep.RegionLaw
import Derived.BigRegion
namespace Go.Proofs.Ytapgglghaknjlaa
open Go.RowKit

theorem DOutbox.fopen {B : Nat} {w : World} {cs : List Value} {x : DOutbox} (h : Fresh DOutbox.rep B w cs x) :
    ∃ a1 c1, cs = [.int .i64 x.device, .int .i64 x.next, .slice a1 x.writes.length c1] ∧ Fresh (Rep.slice 52 DWrite.rep) B w [.slice a1 x.writes.length c1] x.writes := by
  obtain ⟨fp, h, hn, hg⟩ := h
  obtain ⟨v1, f1, rfl, rfl, r1⟩ := DOutbox.parts h
  obtain ⟨a1, c1, rfl, _⟩ := slice_open r1
  exact ⟨a1, c1, rfl, fp, r1, hn, hg⟩
theorem DOutbox.fmk {B : Nat} {w : World} {v : Value} {x : DOutbox} (h : Fresh (Rep.slice 52 DWrite.rep) B w [v] x.writes) : Fresh DOutbox.rep B w [.int .i64 x.device, .int .i64 x.next, v] x :=
  DOutbox.fresh (h.partAt (Nat.le_refl _)) (Nat.le_refl _)


def newBox (d : Int) : DOutbox := ⟨d, 1, []⟩
def newOutboxB (d : Int) : Bool := isOutboxF (newBox d)
def newOutboxF (d : Int) : DOutbox := if newOutboxB d then newBox d else ⟨0, 0, []⟩


end Go.Proofs.Ytapgglghaknjlaa
