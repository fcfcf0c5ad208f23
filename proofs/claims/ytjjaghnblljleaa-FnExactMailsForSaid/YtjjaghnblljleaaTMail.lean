/-
  The type Mail: its datum, how its cells read, how a law's argument is opened.
-/
import Derived.Test.YtjjaghnblljleaaGrow
namespace Go.Proofs.Ytjjaghnblljleaa
open Go.RowKit

structure DMail where
  to : Int
  from_ : Int
  n : Int
  deriving DecidableEq

def DMail.rep : Rep DMail := Rep.iso (Rep.prod Rep.int (Rep.prod Rep.int Rep.int)) (fun x => (x.to, x.from_, x.n))
theorem DMail.rd {o : Bool} {w : World} {cs : List Value} {x : DMail} {fp : List Nat} : DMail.rep.rd o w cs x fp ↔ cs = [.int .i64 x.to, .int .i64 x.from_, .int .i64 x.n] ∧ fp = [] := by
  constructor
  · intro h0
    obtain ⟨c0, e0, p0, q0, rfl, rfl, h0, ⟨c1, e1, p1, q1, rfl, rfl, h1, h2⟩⟩ := h0
    obtain ⟨rfl, rfl, s0⟩ := h0
    obtain ⟨rfl, rfl, s1⟩ := h1
    obtain ⟨rfl, rfl, s2⟩ := h2
    exact ⟨rfl, by simp⟩
  · rintro ⟨rfl, hfp⟩
    exact ⟨[.int .i64 x.to], [.int .i64 x.from_, .int .i64 x.n], [], [], rfl, by simp [hfp], ⟨rfl, rfl, trivial⟩, ⟨[.int .i64 x.from_], [.int .i64 x.n], [], [], rfl, by simp, ⟨rfl, rfl, trivial⟩, ⟨rfl, rfl, trivial⟩⟩⟩
def DMail.enc (x : DMail) : List Value := [.int .i64 x.to, .int .i64 x.from_, .int .i64 x.n]
theorem DMail.flat : FlatR DMail.rep DMail.enc (fun _ => True) := ⟨fun {_ _ _ _ _} => by rw [DMail.rd]; simp [DMail.enc]⟩
theorem DMail.opens_laws : Opens Try.prog 141 DMail.rep := opens_struct Try.underlying141 (by kernel_rfl) (fields_cons rfl (by kernel_rfl) (opens_int Try.underlying3) (fields_cons rfl (by kernel_rfl) (opens_int Try.underlying3) (fields_one rfl (by kernel_rfl) (opens_int Try.underlying3)))) (fun b => ⟨b.1, b.2.1, b.2.2⟩) (fun _ => rfl)

end Go.Proofs.Ytjjaghnblljleaa
