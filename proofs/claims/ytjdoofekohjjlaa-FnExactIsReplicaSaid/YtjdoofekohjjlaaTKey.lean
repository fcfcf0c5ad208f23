/-
  The type Key: its datum, how its cells read, how a law's argument is opened.
-/
import Derived.Test.YtjdoofekohjjlaaGrow
namespace Go.Proofs.Ytjdoofekohjjlaa
open Go.RowKit

structure DKey where
  kind : Int
  n : Int
  text : ByteArray
  deriving DecidableEq

def DKey.rep : Rep DKey := Rep.iso (Rep.prod Rep.int (Rep.prod Rep.int Rep.str)) (fun x => (x.kind, x.n, x.text))
theorem DKey.rd {o : Bool} {w : World} {cs : List Value} {x : DKey} {fp : List Nat} : DKey.rep.rd o w cs x fp ↔ cs = [.int .i64 x.kind, .int .i64 x.n, .string x.text] ∧ fp = [] ∧ x.text.size ≤ maxLen := by
  constructor
  · intro h0
    obtain ⟨c0, e0, p0, q0, rfl, rfl, h0, ⟨c1, e1, p1, q1, rfl, rfl, h1, h2⟩⟩ := h0
    obtain ⟨rfl, rfl, s0⟩ := h0
    obtain ⟨rfl, rfl, s1⟩ := h1
    obtain ⟨rfl, rfl, s2⟩ := h2
    exact ⟨rfl, by simp, s2⟩
  · rintro ⟨rfl, hfp, s0⟩
    exact ⟨[.int .i64 x.kind], [.int .i64 x.n, .string x.text], [], [], rfl, by simp [hfp], ⟨rfl, rfl, trivial⟩, ⟨[.int .i64 x.n], [.string x.text], [], [], rfl, by simp, ⟨rfl, rfl, trivial⟩, ⟨rfl, rfl, s0⟩⟩⟩
def DKey.enc (x : DKey) : List Value := [.int .i64 x.kind, .int .i64 x.n, .string x.text]
theorem DKey.flat : FlatR DKey.rep DKey.enc (fun x => x.text.size ≤ maxLen) := ⟨fun {_ _ _ _ _} => DKey.rd⟩
theorem DKey.opens_laws : Opens Try.prog 62 DKey.rep := opens_struct Try.underlying62 (by kernel_rfl) (fields_cons rfl (by kernel_rfl) (opens_int Try.underlying3) (fields_cons rfl (by kernel_rfl) (opens_int Try.underlying3) (fields_one rfl (by kernel_rfl) (opens_str Try.underlying9)))) (fun b => ⟨b.1, b.2.1, b.2.2⟩) (fun _ => rfl)

end Go.Proofs.Ytjdoofekohjjlaa
