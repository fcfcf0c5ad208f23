/-
  The type Applied: its datum, how its cells read, how a law's argument is opened.
-/
import Derived.Test.YtjdoofekohjjlaaGrow
namespace Go.Proofs.Ytjdoofekohjjlaa
open Go.RowKit

structure DApplied where
  device : Int
  seq : Int
  deriving DecidableEq

def DApplied.rep : Rep DApplied := Rep.iso (Rep.prod Rep.int Rep.int) (fun x => (x.device, x.seq))
theorem DApplied.rd {o : Bool} {w : World} {cs : List Value} {x : DApplied} {fp : List Nat} : DApplied.rep.rd o w cs x fp ↔ cs = [.int .i64 x.device, .int .i64 x.seq] ∧ fp = [] := by
  constructor
  · intro h0
    obtain ⟨c0, e0, p0, q0, rfl, rfl, h0, h1⟩ := h0
    obtain ⟨rfl, rfl, s0⟩ := h0
    obtain ⟨rfl, rfl, s1⟩ := h1
    exact ⟨rfl, by simp⟩
  · rintro ⟨rfl, hfp⟩
    exact ⟨[.int .i64 x.device], [.int .i64 x.seq], [], [], rfl, by simp [hfp], ⟨rfl, rfl, trivial⟩, ⟨rfl, rfl, trivial⟩⟩
def DApplied.enc (x : DApplied) : List Value := [.int .i64 x.device, .int .i64 x.seq]
theorem DApplied.flat : FlatR DApplied.rep DApplied.enc (fun _ => True) := ⟨fun {_ _ _ _ _} => by rw [DApplied.rd]; simp [DApplied.enc]⟩
theorem DApplied.opens_laws : Opens Try.prog 128 DApplied.rep := opens_struct Try.underlying128 (by kernel_rfl) (fields_cons rfl (by kernel_rfl) (opens_int Try.underlying3) (fields_one rfl (by kernel_rfl) (opens_int Try.underlying3))) (fun b => ⟨b.1, b.2⟩) (fun _ => rfl)

end Go.Proofs.Ytjdoofekohjjlaa
