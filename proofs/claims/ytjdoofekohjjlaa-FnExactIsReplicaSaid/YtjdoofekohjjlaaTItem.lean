/-
  The type Item: its datum, how its cells read, how a law's argument is opened.
-/
import Derived.Test.YtjdoofekohjjlaaTKey
import Derived.Test.YtjdoofekohjjlaaTRecord
namespace Go.Proofs.Ytjdoofekohjjlaa
open Go.RowKit

structure DItem where
  key : DKey
  record : DRecord
  deriving DecidableEq

def DItem.rep : Rep DItem := Rep.iso (Rep.prod DKey.rep DRecord.rep) (fun x => (x.key, x.record))
theorem DItem.rd {o : Bool} {w : World} {cs : List Value} {x : DItem} {fp : List Nat} : DItem.rep.rd o w cs x fp ↔ ∃ v1 f1, cs = [.int .i64 x.key.kind, .int .i64 x.key.n, .string x.key.text, v1] ∧ fp = f1 ∧ x.key.text.size ≤ maxLen ∧ (Rep.slice 143 DField.rep).rd o w [v1] x.record.fields f1 := by
  constructor
  · intro h0
    obtain ⟨c0, e0, p0, q0, rfl, rfl, h0, h1⟩ := h0
    obtain ⟨rfl, rfl, t0_0⟩ := DKey.rd.1 h0
    obtain ⟨v1, g1, rfl, rfl, r1⟩ := DRecord.rd.1 h1
    exact ⟨_, _, rfl, by simp, t0_0, r1⟩
  · rintro ⟨v1, f1, rfl, hfp, s0, r1⟩
    exact ⟨[.int .i64 x.key.kind, .int .i64 x.key.n, .string x.key.text], [v1], [], f1, rfl, by simp [hfp], DKey.rd.2 ⟨rfl, rfl, s0⟩, DRecord.rd.2 ⟨_, _, rfl, rfl, r1⟩⟩
theorem DItem.fresh {B l1 u1 : Nat} {v1 : Value} {w : World} {x : DItem} (p1 : Part DRecord.rep l1 u1 w [v1] x.record) (b1 : B ≤ l1)  (s0 : x.key.text.size ≤ maxLen) : Fresh DItem.rep B w [.int .i64 x.key.kind, .int .i64 x.key.n, .string x.key.text, v1] x := by
  obtain ⟨f1, r1, n1, m1⟩ := p1
  refine ⟨f1, ⟨[.int .i64 x.key.kind, .int .i64 x.key.n, .string x.key.text], [v1], [], f1, rfl, by simp, DKey.rd.2 ⟨rfl, rfl, s0⟩, r1⟩, ?_, ?_⟩
  · exact n1
  · intro b hb
    rcases hb with hb
    · have := m1 b hb; omega
theorem DItem.parts {o : Bool} {w : World} {cs : List Value} {x : DItem} {fp : List Nat} (h : DItem.rep.rd o w cs x fp) : ∃ v1 f1, cs = [.int .i64 x.key.kind, .int .i64 x.key.n, .string x.key.text, v1] ∧ fp = f1 ∧ x.key.text.size ≤ maxLen ∧ DRecord.rep.rd o w [v1] x.record f1 := by
  obtain ⟨c0, e0, p0, q0, rfl, rfl, h0, h1⟩ := h
  obtain ⟨rfl, rfl, t0_0⟩ := DKey.rd.1 h0
  have h1b := h1
  obtain ⟨v1, _, rfl, _, _⟩ := DRecord.rd.1 h1
  exact ⟨_, _, rfl, by simp, t0_0, h1b⟩
theorem DItem.join {o : Bool} {w : World} {x : DItem} (c1 : List Value) (f1 : List Nat) (r1 : DRecord.rep.rd o w c1 x.record f1) (s0 : x.key.text.size ≤ maxLen) : DItem.rep.rd o w ([.int .i64 x.key.kind, .int .i64 x.key.n, .string x.key.text] ++ (c1)) x (f1) := by
  exact ⟨[.int .i64 x.key.kind, .int .i64 x.key.n, .string x.key.text], c1, [], f1, rfl, by simp, DKey.rd.2 ⟨rfl, rfl, s0⟩, r1⟩
theorem DItem.shape {o : Bool} {w : World} {cs : List Value} {x : DItem} {fp : List Nat} (h : DItem.rep.rd o w cs x fp) : ∃ a1 c1, cs = [.int .i64 x.key.kind, .int .i64 x.key.n, .string x.key.text, .slice a1 x.record.fields.length c1] := by
  obtain ⟨v1, f1, rfl, _, _, r1⟩ := DItem.rd.1 h
  obtain ⟨a1, c1, rfl, _⟩ := slice_open r1
  exact ⟨_, _, rfl⟩
theorem DItem.fshape {B : Nat} {w : World} {cs : List Value} {x : DItem} (h : Fresh DItem.rep B w cs x) : ∃ a1 c1, cs = [.int .i64 x.key.kind, .int .i64 x.key.n, .string x.key.text, .slice a1 x.record.fields.length c1] := by
  obtain ⟨fp, h, _⟩ := h
  exact DItem.shape h
theorem DItem.opens_laws : Opens Try.prog 150 DItem.rep := opens_struct Try.underlying150 (by kernel_rfl) (fields_cons rfl (by kernel_rfl) DKey.opens_laws (fields_one rfl (by kernel_rfl) DRecord.opens_laws)) (fun b => ⟨b.1, b.2⟩) (fun _ => rfl)

end Go.Proofs.Ytjdoofekohjjlaa
