/-
  The type Loaded: its datum, how its cells read, how a law's argument is opened.
-/
import Derived.Test.YtamdjeajmfjfmaaBase
namespace Go.Proofs.Ytamdjeajmfjfmaa
open Go.RowKit

structure DLoaded where
  path : ByteArray
  version : Int
  deriving DecidableEq

def DLoaded.rep : Rep DLoaded := Rep.iso (Rep.prod Rep.str Rep.int) (fun x => (x.path, x.version))
theorem DLoaded.rd {o : Bool} {w : World} {cs : List Value} {x : DLoaded} {fp : List Nat} : DLoaded.rep.rd o w cs x fp ↔ cs = [.string x.path, .int .i64 x.version] ∧ fp = [] ∧ x.path.size ≤ maxLen := by
  constructor
  · intro h0
    obtain ⟨c0, e0, p0, q0, rfl, rfl, h0, h1⟩ := h0
    obtain ⟨rfl, rfl, s0⟩ := h0
    obtain ⟨rfl, rfl, s1⟩ := h1
    exact ⟨rfl, by simp, s0⟩
  · rintro ⟨rfl, hfp, s0⟩
    exact ⟨[.string x.path], [.int .i64 x.version], [], [], rfl, by simp [hfp], ⟨rfl, rfl, s0⟩, ⟨rfl, rfl, trivial⟩⟩
def DLoaded.enc (x : DLoaded) : List Value := [.string x.path, .int .i64 x.version]
theorem DLoaded.flat : FlatR DLoaded.rep DLoaded.enc (fun x => x.path.size ≤ maxLen) := ⟨fun {_ _ _ _ _} => DLoaded.rd⟩
theorem DLoaded.opens_laws : Opens Try.prog 145 DLoaded.rep := opens_struct Try.underlying145 (by kernel_rfl) (fields_cons rfl (by kernel_rfl) (opens_str Try.underlying9) (fields_one rfl (by kernel_rfl) (opens_int Try.underlying3))) (fun b => ⟨b.1, b.2⟩) (fun _ => rfl)

end Go.Proofs.Ytamdjeajmfjfmaa
