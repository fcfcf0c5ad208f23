/-
  The type Record: its datum, how its cells read, how a law's argument is opened.
-/
import Derived.Test.YtjdoofekohjjlaaTField
namespace Go.Proofs.Ytjdoofekohjjlaa
open Go.RowKit

structure DRecord where
  fields : List DField
  deriving DecidableEq

def DRecord.rep : Rep DRecord := Rep.iso ((Rep.slice 143 DField.rep)) (fun x => x.fields)
theorem DRecord.rd {o : Bool} {w : World} {cs : List Value} {x : DRecord} {fp : List Nat} : DRecord.rep.rd o w cs x fp ↔ ∃ v1 f1, cs = [v1] ∧ fp = f1 ∧ (Rep.slice 143 DField.rep).rd o w [v1] x.fields f1 := by
  constructor
  · intro h0
    obtain ⟨v1, rfl, r1⟩ := slice_shape h0
    exact ⟨_, _, rfl, by simp, r1⟩
  · rintro ⟨v1, f1, rfl, hfp, r1⟩
    rw [hfp]
    exact r1
theorem DRecord.fresh {B l0 u0 : Nat} {v1 : Value} {w : World} {x : DRecord} (p0 : Part (Rep.slice 143 DField.rep) l0 u0 w [v1] x.fields) (b0 : B ≤ l0)   : Fresh DRecord.rep B w [v1] x := by
  obtain ⟨f0, r0, n0, m0⟩ := p0
  refine ⟨f0, r0, ?_, ?_⟩
  · exact n0
  · intro b hb
    rcases hb with hb
    · have := m0 b hb; omega
theorem DRecord.parts {o : Bool} {w : World} {cs : List Value} {x : DRecord} {fp : List Nat} (h : DRecord.rep.rd o w cs x fp) : ∃ v1 f0, cs = [v1] ∧ fp = f0 ∧ (Rep.slice 143 DField.rep).rd o w [v1] x.fields f0 := by
  have h0 := h
  obtain ⟨v1, rfl, h0⟩ := slice_shape h0
  exact ⟨_, _, rfl, by simp, h0⟩
theorem DRecord.join {o : Bool} {w : World} {x : DRecord} (c0 : List Value) (f0 : List Nat) (r0 : (Rep.slice 143 DField.rep).rd o w c0 x.fields f0)  : DRecord.rep.rd o w (c0) x (f0) := by
  exact r0
theorem DRecord.shape {o : Bool} {w : World} {cs : List Value} {x : DRecord} {fp : List Nat} (h : DRecord.rep.rd o w cs x fp) : ∃ a1 c1, cs = [.slice a1 x.fields.length c1] := by
  obtain ⟨v1, f1, rfl, _, r1⟩ := DRecord.rd.1 h
  obtain ⟨a1, c1, rfl, _⟩ := slice_open r1
  exact ⟨_, _, rfl⟩
theorem DRecord.fshape {B : Nat} {w : World} {cs : List Value} {x : DRecord} (h : Fresh DRecord.rep B w cs x) : ∃ a1 c1, cs = [.slice a1 x.fields.length c1] := by
  obtain ⟨fp, h, _⟩ := h
  exact DRecord.shape h
theorem DRecord.opens_laws : Opens Try.prog 148 DRecord.rep := opens_struct Try.underlying148 (by kernel_rfl) (fields_one rfl (by kernel_rfl) (opens_slice Try.underlying146 (by kernel_rfl) (by decide) DField.opens_laws)) (fun b => ⟨b⟩) (fun _ => rfl)

end Go.Proofs.Ytjdoofekohjjlaa
