/-
  The type Field: its datum, how its cells read, how a law's argument is opened.
-/
import Derived.Test.YtjdoofekohjjlaaGrow
namespace Go.Proofs.Ytjdoofekohjjlaa
open Go.RowKit

structure DField where
  name : ByteArray
  n : Int
  deriving DecidableEq

def DField.rep : Rep DField := Rep.iso (Rep.prod Rep.str Rep.int) (fun x => (x.name, x.n))
theorem DField.rd {o : Bool} {w : World} {cs : List Value} {x : DField} {fp : List Nat} : DField.rep.rd o w cs x fp ↔ cs = [.string x.name, .int .i64 x.n] ∧ fp = [] ∧ x.name.size ≤ maxLen := by
  constructor
  · intro h0
    obtain ⟨c0, e0, p0, q0, rfl, rfl, h0, h1⟩ := h0
    obtain ⟨rfl, rfl, s0⟩ := h0
    obtain ⟨rfl, rfl, s1⟩ := h1
    exact ⟨rfl, by simp, s0⟩
  · rintro ⟨rfl, hfp, s0⟩
    exact ⟨[.string x.name], [.int .i64 x.n], [], [], rfl, by simp [hfp], ⟨rfl, rfl, s0⟩, ⟨rfl, rfl, trivial⟩⟩
def DField.enc (x : DField) : List Value := [.string x.name, .int .i64 x.n]
theorem DField.flat : FlatR DField.rep DField.enc (fun x => x.name.size ≤ maxLen) := ⟨fun {_ _ _ _ _} => DField.rd⟩
theorem DField.opens_laws : Opens Try.prog 178 DField.rep := opens_struct Try.underlying178 (by kernel_rfl) (fields_cons rfl (by kernel_rfl) (opens_str Try.underlying9) (fields_one rfl (by kernel_rfl) (opens_int Try.underlying3))) (fun b => ⟨b.1, b.2⟩) (fun _ => rfl)

end Go.Proofs.Ytjdoofekohjjlaa
