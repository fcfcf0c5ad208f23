/-
  The type Write: its datum, how its cells read, how a law's argument is opened.
-/
import Derived.Test.YtjdoofekohjjlaaTKey
namespace Go.Proofs.Ytjdoofekohjjlaa
open Go.RowKit

structure DWrite where
  device : Int
  seq : Int
  key : DKey
  field : ByteArray
  n : Int
  deriving DecidableEq

def DWrite.rep : Rep DWrite := Rep.iso (Rep.prod Rep.int (Rep.prod Rep.int (Rep.prod DKey.rep (Rep.prod Rep.str Rep.int)))) (fun x => (x.device, x.seq, x.key, x.field, x.n))
theorem DWrite.rd {o : Bool} {w : World} {cs : List Value} {x : DWrite} {fp : List Nat} : DWrite.rep.rd o w cs x fp ↔ cs = [.int .i64 x.device, .int .i64 x.seq, .int .i64 x.key.kind, .int .i64 x.key.n, .string x.key.text, .string x.field, .int .i64 x.n] ∧ fp = [] ∧ x.key.text.size ≤ maxLen ∧ x.field.size ≤ maxLen := by
  constructor
  · intro h0
    obtain ⟨c0, e0, p0, q0, rfl, rfl, h0, ⟨c1, e1, p1, q1, rfl, rfl, h1, ⟨c2, e2, p2, q2, rfl, rfl, h2, ⟨c3, e3, p3, q3, rfl, rfl, h3, h4⟩⟩⟩⟩ := h0
    obtain ⟨rfl, rfl, s0⟩ := h0
    obtain ⟨rfl, rfl, s1⟩ := h1
    obtain ⟨rfl, rfl, t2_0⟩ := DKey.rd.1 h2
    obtain ⟨rfl, rfl, s3⟩ := h3
    obtain ⟨rfl, rfl, s4⟩ := h4
    exact ⟨rfl, by simp, t2_0, s3⟩
  · rintro ⟨rfl, hfp, s0, s1⟩
    exact ⟨[.int .i64 x.device], [.int .i64 x.seq, .int .i64 x.key.kind, .int .i64 x.key.n, .string x.key.text, .string x.field, .int .i64 x.n], [], [], rfl, by simp [hfp], ⟨rfl, rfl, trivial⟩, ⟨[.int .i64 x.seq], [.int .i64 x.key.kind, .int .i64 x.key.n, .string x.key.text, .string x.field, .int .i64 x.n], [], [], rfl, by simp, ⟨rfl, rfl, trivial⟩, ⟨[.int .i64 x.key.kind, .int .i64 x.key.n, .string x.key.text], [.string x.field, .int .i64 x.n], [], [], rfl, by simp, DKey.rd.2 ⟨rfl, rfl, s0⟩, ⟨[.string x.field], [.int .i64 x.n], [], [], rfl, by simp, ⟨rfl, rfl, s1⟩, ⟨rfl, rfl, trivial⟩⟩⟩⟩⟩
def DWrite.enc (x : DWrite) : List Value := [.int .i64 x.device, .int .i64 x.seq, .int .i64 x.key.kind, .int .i64 x.key.n, .string x.key.text, .string x.field, .int .i64 x.n]
theorem DWrite.flat : FlatR DWrite.rep DWrite.enc (fun x => x.key.text.size ≤ maxLen ∧ x.field.size ≤ maxLen) := ⟨fun {_ _ _ _ _} => DWrite.rd⟩
theorem DWrite.opens_laws : Opens Try.prog 64 DWrite.rep := opens_struct Try.underlying64 (by kernel_rfl) (fields_cons rfl (by kernel_rfl) (opens_int Try.underlying3) (fields_cons rfl (by kernel_rfl) (opens_int Try.underlying3) (fields_cons rfl (by kernel_rfl) DKey.opens_laws (fields_cons rfl (by kernel_rfl) (opens_str Try.underlying9) (fields_one rfl (by kernel_rfl) (opens_int Try.underlying3)))))) (fun b => ⟨b.1, b.2.1, b.2.2.1, b.2.2.2.1, b.2.2.2.2⟩) (fun _ => rfl)

end Go.Proofs.Ytjdoofekohjjlaa
