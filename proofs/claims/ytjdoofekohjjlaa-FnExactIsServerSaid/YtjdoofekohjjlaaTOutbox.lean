/-
  The type Outbox: its datum, how its cells read, how a law's argument is opened.
-/
import Derived.Test.YtjdoofekohjjlaaTWrite
namespace Go.Proofs.Ytjdoofekohjjlaa
open Go.RowKit

structure DOutbox where
  device : Int
  next : Int
  writes : List DWrite
  deriving DecidableEq

def DOutbox.rep : Rep DOutbox := Rep.iso (Rep.prod Rep.int (Rep.prod Rep.int (Rep.slice 72 DWrite.rep))) (fun x => (x.device, x.next, x.writes))
theorem DOutbox.rd {o : Bool} {w : World} {cs : List Value} {x : DOutbox} {fp : List Nat} : DOutbox.rep.rd o w cs x fp ↔ ∃ v1 f1, cs = [.int .i64 x.device, .int .i64 x.next, v1] ∧ fp = f1 ∧ (Rep.slice 72 DWrite.rep).rd o w [v1] x.writes f1 := by
  constructor
  · intro h0
    obtain ⟨c0, e0, p0, q0, rfl, rfl, h0, ⟨c1, e1, p1, q1, rfl, rfl, h1, h2⟩⟩ := h0
    obtain ⟨rfl, rfl, s0⟩ := h0
    obtain ⟨rfl, rfl, s1⟩ := h1
    obtain ⟨v1, rfl, r1⟩ := slice_shape h2
    exact ⟨_, _, rfl, by simp, r1⟩
  · rintro ⟨v1, f1, rfl, hfp, r1⟩
    exact ⟨[.int .i64 x.device], [.int .i64 x.next, v1], [], f1, rfl, by simp [hfp], ⟨rfl, rfl, trivial⟩, ⟨[.int .i64 x.next], [v1], [], f1, rfl, by simp, ⟨rfl, rfl, trivial⟩, r1⟩⟩
theorem DOutbox.fresh {B l2 u2 : Nat} {v1 : Value} {w : World} {x : DOutbox} (p2 : Part (Rep.slice 72 DWrite.rep) l2 u2 w [v1] x.writes) (b2 : B ≤ l2)   : Fresh DOutbox.rep B w [.int .i64 x.device, .int .i64 x.next, v1] x := by
  obtain ⟨f2, r2, n2, m2⟩ := p2
  refine ⟨f2, ⟨[.int .i64 x.device], [.int .i64 x.next, v1], [], f2, rfl, by simp, ⟨rfl, rfl, trivial⟩, ⟨[.int .i64 x.next], [v1], [], f2, rfl, by simp, ⟨rfl, rfl, trivial⟩, r2⟩⟩, ?_, ?_⟩
  · exact n2
  · intro b hb
    rcases hb with hb
    · have := m2 b hb; omega
theorem DOutbox.parts {o : Bool} {w : World} {cs : List Value} {x : DOutbox} {fp : List Nat} (h : DOutbox.rep.rd o w cs x fp) : ∃ v1 f2, cs = [.int .i64 x.device, .int .i64 x.next, v1] ∧ fp = f2 ∧ (Rep.slice 72 DWrite.rep).rd o w [v1] x.writes f2 := by
  obtain ⟨c0, e0, p0, q0, rfl, rfl, h0, ⟨c1, e1, p1, q1, rfl, rfl, h1, h2⟩⟩ := h
  obtain ⟨rfl, rfl, s0⟩ := h0
  obtain ⟨rfl, rfl, s1⟩ := h1
  obtain ⟨v1, rfl, h2⟩ := slice_shape h2
  exact ⟨_, _, rfl, by simp, h2⟩
theorem DOutbox.join {o : Bool} {w : World} {x : DOutbox} (c2 : List Value) (f2 : List Nat) (r2 : (Rep.slice 72 DWrite.rep).rd o w c2 x.writes f2)  : DOutbox.rep.rd o w ([.int .i64 x.device] ++ ([.int .i64 x.next] ++ (c2))) x (f2) := by
  exact ⟨[.int .i64 x.device], [.int .i64 x.next] ++ (c2), [], f2, rfl, by simp, ⟨rfl, rfl, trivial⟩, ⟨[.int .i64 x.next], c2, [], f2, rfl, by simp, ⟨rfl, rfl, trivial⟩, r2⟩⟩
theorem DOutbox.shape {o : Bool} {w : World} {cs : List Value} {x : DOutbox} {fp : List Nat} (h : DOutbox.rep.rd o w cs x fp) : ∃ a1 c1, cs = [.int .i64 x.device, .int .i64 x.next, .slice a1 x.writes.length c1] := by
  obtain ⟨v1, f1, rfl, _, r1⟩ := DOutbox.rd.1 h
  obtain ⟨a1, c1, rfl, _⟩ := slice_open r1
  exact ⟨_, _, rfl⟩
theorem DOutbox.fshape {B : Nat} {w : World} {cs : List Value} {x : DOutbox} (h : Fresh DOutbox.rep B w cs x) : ∃ a1 c1, cs = [.int .i64 x.device, .int .i64 x.next, .slice a1 x.writes.length c1] := by
  obtain ⟨fp, h, _⟩ := h
  exact DOutbox.shape h
theorem DOutbox.opens_laws : Opens Try.prog 41 DOutbox.rep := opens_struct Try.underlying41 (by kernel_rfl) (fields_cons rfl (by kernel_rfl) (opens_int Try.underlying3) (fields_cons rfl (by kernel_rfl) (opens_int Try.underlying3) (fields_one rfl (by kernel_rfl) (opens_slice Try.underlying26 (by kernel_rfl) (by decide) DWrite.opens_laws)))) (fun b => ⟨b.1, b.2.1, b.2.2⟩) (fun _ => rfl)

end Go.Proofs.Ytjdoofekohjjlaa
