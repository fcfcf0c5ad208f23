/-
  The type Channel: its datum, how its cells read, how a law's argument is opened.
-/
import Derived.Test.YtjjaghnblljleaaTMail
namespace Go.Proofs.Ytjjaghnblljleaa
open Go.RowKit

structure DChannel where
  mails : List DMail
  deriving DecidableEq

def DChannel.rep : Rep DChannel := Rep.iso ((Rep.slice 117 DMail.rep)) (fun x => x.mails)
theorem DChannel.rd {o : Bool} {w : World} {cs : List Value} {x : DChannel} {fp : List Nat} : DChannel.rep.rd o w cs x fp ↔ ∃ v1 f1, cs = [v1] ∧ fp = f1 ∧ (Rep.slice 117 DMail.rep).rd o w [v1] x.mails f1 := by
  constructor
  · intro h0
    obtain ⟨v1, rfl, r1⟩ := slice_shape h0
    exact ⟨_, _, rfl, by simp, r1⟩
  · rintro ⟨v1, f1, rfl, hfp, r1⟩
    rw [hfp]
    exact r1
theorem DChannel.fresh {B l0 u0 : Nat} {v1 : Value} {w : World} {x : DChannel} (p0 : Part (Rep.slice 117 DMail.rep) l0 u0 w [v1] x.mails) (b0 : B ≤ l0)   : Fresh DChannel.rep B w [v1] x := by
  obtain ⟨f0, r0, n0, m0⟩ := p0
  refine ⟨f0, r0, ?_, ?_⟩
  · exact n0
  · intro b hb
    rcases hb with hb
    · have := m0 b hb; omega
theorem DChannel.parts {o : Bool} {w : World} {cs : List Value} {x : DChannel} {fp : List Nat} (h : DChannel.rep.rd o w cs x fp) : ∃ v1 f0, cs = [v1] ∧ fp = f0 ∧ (Rep.slice 117 DMail.rep).rd o w [v1] x.mails f0 := by
  have h0 := h
  obtain ⟨v1, rfl, h0⟩ := slice_shape h0
  exact ⟨_, _, rfl, by simp, h0⟩
theorem DChannel.join {o : Bool} {w : World} {x : DChannel} (c0 : List Value) (f0 : List Nat) (r0 : (Rep.slice 117 DMail.rep).rd o w c0 x.mails f0)  : DChannel.rep.rd o w (c0) x (f0) := by
  exact r0
theorem DChannel.shape {o : Bool} {w : World} {cs : List Value} {x : DChannel} {fp : List Nat} (h : DChannel.rep.rd o w cs x fp) : ∃ a1 c1, cs = [.slice a1 x.mails.length c1] := by
  obtain ⟨v1, f1, rfl, _, r1⟩ := DChannel.rd.1 h
  obtain ⟨a1, c1, rfl, _⟩ := slice_open r1
  exact ⟨_, _, rfl⟩
theorem DChannel.fshape {B : Nat} {w : World} {cs : List Value} {x : DChannel} (h : Fresh DChannel.rep B w cs x) : ∃ a1 c1, cs = [.slice a1 x.mails.length c1] := by
  obtain ⟨fp, h, _⟩ := h
  exact DChannel.shape h
theorem DChannel.opens_laws : Opens Try.prog 47 DChannel.rep := opens_struct Try.underlying47 (by kernel_rfl) (fields_one rfl (by kernel_rfl) (opens_slice Try.underlying45 (by kernel_rfl) (by decide) DMail.opens_laws)) (fun b => ⟨b⟩) (fun _ => rfl)

end Go.Proofs.Ytjjaghnblljleaa
