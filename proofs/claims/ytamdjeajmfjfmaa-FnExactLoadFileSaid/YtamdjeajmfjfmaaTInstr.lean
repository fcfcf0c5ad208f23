/-
  The type Instr: its datum, how its cells read, how a law's argument is opened.
-/
import Derived.Test.YtamdjeajmfjfmaaBase
namespace Go.Proofs.Ytamdjeajmfjfmaa
open Go.RowKit

structure DInstr where
  kind : Int
  r : Int
  n : Int
  text : ByteArray
  deriving DecidableEq

def DInstr.rep : Rep DInstr := Rep.iso (Rep.prod Rep.int (Rep.prod Rep.int (Rep.prod Rep.int Rep.str))) (fun x => (x.kind, x.r, x.n, x.text))
theorem DInstr.rd {o : Bool} {w : World} {cs : List Value} {x : DInstr} {fp : List Nat} : DInstr.rep.rd o w cs x fp ↔ cs = [.int .i64 x.kind, .int .i64 x.r, .int .i64 x.n, .string x.text] ∧ fp = [] ∧ x.text.size ≤ maxLen := by
  constructor
  · intro h0
    obtain ⟨c0, e0, p0, q0, rfl, rfl, h0, ⟨c1, e1, p1, q1, rfl, rfl, h1, ⟨c2, e2, p2, q2, rfl, rfl, h2, h3⟩⟩⟩ := h0
    obtain ⟨rfl, rfl, s0⟩ := h0
    obtain ⟨rfl, rfl, s1⟩ := h1
    obtain ⟨rfl, rfl, s2⟩ := h2
    obtain ⟨rfl, rfl, s3⟩ := h3
    exact ⟨rfl, by simp, s3⟩
  · rintro ⟨rfl, hfp, s0⟩
    exact ⟨[.int .i64 x.kind], [.int .i64 x.r, .int .i64 x.n, .string x.text], [], [], rfl, by simp [hfp], ⟨rfl, rfl, trivial⟩, ⟨[.int .i64 x.r], [.int .i64 x.n, .string x.text], [], [], rfl, by simp, ⟨rfl, rfl, trivial⟩, ⟨[.int .i64 x.n], [.string x.text], [], [], rfl, by simp, ⟨rfl, rfl, trivial⟩, ⟨rfl, rfl, s0⟩⟩⟩⟩
def DInstr.enc (x : DInstr) : List Value := [.int .i64 x.kind, .int .i64 x.r, .int .i64 x.n, .string x.text]
theorem DInstr.flat : FlatR DInstr.rep DInstr.enc (fun x => x.text.size ≤ maxLen) := ⟨fun {_ _ _ _ _} => DInstr.rd⟩
theorem DInstr.opens_laws : Opens Try.prog 110 DInstr.rep := opens_struct Try.underlying110 (by kernel_rfl) (fields_cons rfl (by kernel_rfl) (opens_int Try.underlying3) (fields_cons rfl (by kernel_rfl) (opens_int Try.underlying3) (fields_cons rfl (by kernel_rfl) (opens_int Try.underlying3) (fields_one rfl (by kernel_rfl) (opens_str Try.underlying9))))) (fun b => ⟨b.1, b.2.1, b.2.2.1, b.2.2.2⟩) (fun _ => rfl)

end Go.Proofs.Ytamdjeajmfjfmaa
