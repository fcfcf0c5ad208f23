/-
  The type Machine: its datum, how its cells read, how a law's argument is opened.
-/
import Derived.Test.YtamdjeajmfjfmaaTInstr
namespace Go.Proofs.Ytamdjeajmfjfmaa
open Go.RowKit

structure DMachine where
  script : List DInstr
  pc : Int
  regs : List Int
  steps : Int
  done : Bool
  wait : Bool
  deriving DecidableEq

def DMachine.rep : Rep DMachine := Rep.iso (Rep.prod (Rep.slice 113 DInstr.rep) (Rep.prod Rep.int (Rep.prod (Rep.slice 3 Rep.int) (Rep.prod Rep.int (Rep.prod Rep.bool Rep.bool))))) (fun x => (x.script, x.pc, x.regs, x.steps, x.done, x.wait))
theorem DMachine.rd {o : Bool} {w : World} {cs : List Value} {x : DMachine} {fp : List Nat} : DMachine.rep.rd o w cs x fp ↔ ∃ v1 v2 f1 f2, cs = [v1, .int .i64 x.pc, v2, .int .i64 x.steps, .bool x.done, .bool x.wait] ∧ fp = f1 ++ (f2) ∧ (Rep.slice 113 DInstr.rep).rd o w [v1] x.script f1 ∧ (Rep.slice 3 Rep.int).rd o w [v2] x.regs f2 := by
  constructor
  · intro h0
    obtain ⟨c0, e0, p0, q0, rfl, rfl, h0, ⟨c1, e1, p1, q1, rfl, rfl, h1, ⟨c2, e2, p2, q2, rfl, rfl, h2, ⟨c3, e3, p3, q3, rfl, rfl, h3, ⟨c4, e4, p4, q4, rfl, rfl, h4, h5⟩⟩⟩⟩⟩ := h0
    obtain ⟨v1, rfl, r1⟩ := slice_shape h0
    obtain ⟨rfl, rfl, s1⟩ := h1
    obtain ⟨v2, rfl, r2⟩ := slice_shape h2
    obtain ⟨rfl, rfl, s3⟩ := h3
    obtain ⟨rfl, rfl, s4⟩ := h4
    obtain ⟨rfl, rfl, s5⟩ := h5
    exact ⟨_, _, _, _, rfl, by simp, r1, r2⟩
  · rintro ⟨v1, v2, f1, f2, rfl, hfp, r1, r2⟩
    exact ⟨[v1], [.int .i64 x.pc, v2, .int .i64 x.steps, .bool x.done, .bool x.wait], f1, f2, rfl, by simp [hfp], r1, ⟨[.int .i64 x.pc], [v2, .int .i64 x.steps, .bool x.done, .bool x.wait], [], f2, rfl, by simp, ⟨rfl, rfl, trivial⟩, ⟨[v2], [.int .i64 x.steps, .bool x.done, .bool x.wait], f2, [], rfl, by simp, r2, ⟨[.int .i64 x.steps], [.bool x.done, .bool x.wait], [], [], rfl, by simp, ⟨rfl, rfl, trivial⟩, ⟨[.bool x.done], [.bool x.wait], [], [], rfl, by simp, ⟨rfl, rfl, trivial⟩, ⟨rfl, rfl, trivial⟩⟩⟩⟩⟩⟩
theorem DMachine.fresh {B l0 u0 l2 u2 : Nat} {v1 v2 : Value} {w : World} {x : DMachine} (p0 : Part (Rep.slice 113 DInstr.rep) l0 u0 w [v1] x.script) (p2 : Part (Rep.slice 3 Rep.int) l2 u2 w [v2] x.regs) (b0 : B ≤ l0) (b2 : u0 ≤ l2) (e0 : l0 ≤ u0)  : Fresh DMachine.rep B w [v1, .int .i64 x.pc, v2, .int .i64 x.steps, .bool x.done, .bool x.wait] x := by
  obtain ⟨f0, r0, n0, m0⟩ := p0
  obtain ⟨f2, r2, n2, m2⟩ := p2
  refine ⟨f0 ++ (f2), ⟨[v1], [.int .i64 x.pc, v2, .int .i64 x.steps, .bool x.done, .bool x.wait], f0, f2, rfl, by simp, r0, ⟨[.int .i64 x.pc], [v2, .int .i64 x.steps, .bool x.done, .bool x.wait], [], f2, rfl, by simp, ⟨rfl, rfl, trivial⟩, ⟨[v2], [.int .i64 x.steps, .bool x.done, .bool x.wait], f2, [], rfl, by simp, r2, ⟨[.int .i64 x.steps], [.bool x.done, .bool x.wait], [], [], rfl, by simp, ⟨rfl, rfl, trivial⟩, ⟨[.bool x.done], [.bool x.wait], [], [], rfl, by simp, ⟨rfl, rfl, trivial⟩, ⟨rfl, rfl, trivial⟩⟩⟩⟩⟩⟩, ?_, ?_⟩
  · have w2 := n2
    have z0 : ∀ b ∈ f2, u0 ≤ b := by
      intro b hb
      rcases hb with hb
      · have := m2 b hb; omega
    have w0 := nodup_parts (m := u0) n0 w2 (fun b hb => (m0 b hb).2) z0
    exact w0
  · intro b hb
    simp only [List.mem_append] at hb
    rcases hb with hb | hb
    · have := m0 b hb; omega
    · have := m2 b hb; omega
theorem DMachine.parts {o : Bool} {w : World} {cs : List Value} {x : DMachine} {fp : List Nat} (h : DMachine.rep.rd o w cs x fp) : ∃ v1 v2 f0 f2, cs = [v1, .int .i64 x.pc, v2, .int .i64 x.steps, .bool x.done, .bool x.wait] ∧ fp = f0 ++ (f2) ∧ (Rep.slice 113 DInstr.rep).rd o w [v1] x.script f0 ∧ (Rep.slice 3 Rep.int).rd o w [v2] x.regs f2 := by
  obtain ⟨c0, e0, p0, q0, rfl, rfl, h0, ⟨c1, e1, p1, q1, rfl, rfl, h1, ⟨c2, e2, p2, q2, rfl, rfl, h2, ⟨c3, e3, p3, q3, rfl, rfl, h3, ⟨c4, e4, p4, q4, rfl, rfl, h4, h5⟩⟩⟩⟩⟩ := h
  obtain ⟨v1, rfl, h0⟩ := slice_shape h0
  obtain ⟨rfl, rfl, s1⟩ := h1
  obtain ⟨v2, rfl, h2⟩ := slice_shape h2
  obtain ⟨rfl, rfl, s3⟩ := h3
  obtain ⟨rfl, rfl, s4⟩ := h4
  obtain ⟨rfl, rfl, s5⟩ := h5
  exact ⟨_, _, _, _, rfl, by simp, h0, h2⟩
theorem DMachine.join {o : Bool} {w : World} {x : DMachine} (c0 : List Value) (f0 : List Nat) (r0 : (Rep.slice 113 DInstr.rep).rd o w c0 x.script f0) (c2 : List Value) (f2 : List Nat) (r2 : (Rep.slice 3 Rep.int).rd o w c2 x.regs f2)  : DMachine.rep.rd o w (c0 ++ ([.int .i64 x.pc] ++ (c2 ++ ([.int .i64 x.steps] ++ ([.bool x.done] ++ ([.bool x.wait])))))) x (f0 ++ (f2)) := by
  exact ⟨c0, [.int .i64 x.pc] ++ (c2 ++ ([.int .i64 x.steps] ++ ([.bool x.done] ++ ([.bool x.wait])))), f0, f2, rfl, by simp, r0, ⟨[.int .i64 x.pc], c2 ++ ([.int .i64 x.steps] ++ ([.bool x.done] ++ ([.bool x.wait]))), [], f2, rfl, by simp, ⟨rfl, rfl, trivial⟩, ⟨c2, [.int .i64 x.steps] ++ ([.bool x.done] ++ ([.bool x.wait])), f2, [], rfl, by simp, r2, ⟨[.int .i64 x.steps], [.bool x.done] ++ ([.bool x.wait]), [], [], rfl, by simp, ⟨rfl, rfl, trivial⟩, ⟨[.bool x.done], [.bool x.wait], [], [], rfl, by simp, ⟨rfl, rfl, trivial⟩, ⟨rfl, rfl, trivial⟩⟩⟩⟩⟩⟩
theorem DMachine.shape {o : Bool} {w : World} {cs : List Value} {x : DMachine} {fp : List Nat} (h : DMachine.rep.rd o w cs x fp) : ∃ a1 c1 a2 c2, cs = [.slice a1 x.script.length c1, .int .i64 x.pc, .slice a2 x.regs.length c2, .int .i64 x.steps, .bool x.done, .bool x.wait] := by
  obtain ⟨v1, v2, f1, f2, rfl, _, r1, r2⟩ := DMachine.rd.1 h
  obtain ⟨a1, c1, rfl, _⟩ := slice_open r1
  obtain ⟨a2, c2, rfl, _⟩ := slice_open r2
  exact ⟨_, _, _, _, rfl⟩
theorem DMachine.fshape {B : Nat} {w : World} {cs : List Value} {x : DMachine} (h : Fresh DMachine.rep B w cs x) : ∃ a1 c1 a2 c2, cs = [.slice a1 x.script.length c1, .int .i64 x.pc, .slice a2 x.regs.length c2, .int .i64 x.steps, .bool x.done, .bool x.wait] := by
  obtain ⟨fp, h, _⟩ := h
  exact DMachine.shape h
theorem DMachine.opens_laws : Opens Try.prog 66 DMachine.rep := opens_struct Try.underlying66 (by kernel_rfl) (fields_cons rfl (by kernel_rfl) (opens_slice Try.underlying48 (by kernel_rfl) (by decide) DInstr.opens_laws) (fields_cons rfl (by kernel_rfl) (opens_int Try.underlying3) (fields_cons rfl (by kernel_rfl) (opens_slice Try.underlying34 (by kernel_rfl) (by decide) (opens_int Try.underlying3)) (fields_cons rfl (by kernel_rfl) (opens_int Try.underlying3) (fields_cons rfl (by kernel_rfl) (opens_bool Try.underlying4) (fields_one rfl (by kernel_rfl) (opens_bool Try.underlying4))))))) (fun b => ⟨b.1, b.2.1, b.2.2.1, b.2.2.2.1, b.2.2.2.2.1, b.2.2.2.2.2⟩) (fun _ => rfl)

end Go.Proofs.Ytamdjeajmfjfmaa
