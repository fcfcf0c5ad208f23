/-
  The type Page: its datum, how its cells read, how a law's argument is opened.
-/
import Derived.Test.YtamdjeajmfjfmaaTLoaded
import Derived.Test.YtamdjeajmfjfmaaTMachine
namespace Go.Proofs.Ytamdjeajmfjfmaa
open Go.RowKit

structure DPage where
  id : Int
  site : ByteArray
  top : ByteArray
  version : Int
  loaded : List DLoaded
  machine : DMachine
  deriving DecidableEq

def DPage.rep : Rep DPage := Rep.iso (Rep.prod Rep.int (Rep.prod Rep.str (Rep.prod Rep.str (Rep.prod Rep.int (Rep.prod (Rep.slice 123 DLoaded.rep) DMachine.rep))))) (fun x => (x.id, x.site, x.top, x.version, x.loaded, x.machine))
theorem DPage.rd {o : Bool} {w : World} {cs : List Value} {x : DPage} {fp : List Nat} : DPage.rep.rd o w cs x fp ↔ ∃ v1 v2 v3 f1 f2 f3, cs = [.int .i64 x.id, .string x.site, .string x.top, .int .i64 x.version, v1, v2, .int .i64 x.machine.pc, v3, .int .i64 x.machine.steps, .bool x.machine.done, .bool x.machine.wait] ∧ fp = f1 ++ (f2 ++ (f3)) ∧ x.site.size ≤ maxLen ∧ x.top.size ≤ maxLen ∧ (Rep.slice 123 DLoaded.rep).rd o w [v1] x.loaded f1 ∧ (Rep.slice 113 DInstr.rep).rd o w [v2] x.machine.script f2 ∧ (Rep.slice 3 Rep.int).rd o w [v3] x.machine.regs f3 := by
  constructor
  · intro h0
    obtain ⟨c0, e0, p0, q0, rfl, rfl, h0, ⟨c1, e1, p1, q1, rfl, rfl, h1, ⟨c2, e2, p2, q2, rfl, rfl, h2, ⟨c3, e3, p3, q3, rfl, rfl, h3, ⟨c4, e4, p4, q4, rfl, rfl, h4, h5⟩⟩⟩⟩⟩ := h0
    obtain ⟨rfl, rfl, s0⟩ := h0
    obtain ⟨rfl, rfl, s1⟩ := h1
    obtain ⟨rfl, rfl, s2⟩ := h2
    obtain ⟨rfl, rfl, s3⟩ := h3
    obtain ⟨v1, rfl, r1⟩ := slice_shape h4
    obtain ⟨v2, v3, g2, g3, rfl, rfl, r2, r3⟩ := DMachine.rd.1 h5
    exact ⟨_, _, _, _, _, _, rfl, by simp, s1, s2, r1, r2, r3⟩
  · rintro ⟨v1, v2, v3, f1, f2, f3, rfl, hfp, s0, s1, r1, r2, r3⟩
    exact ⟨[.int .i64 x.id], [.string x.site, .string x.top, .int .i64 x.version, v1, v2, .int .i64 x.machine.pc, v3, .int .i64 x.machine.steps, .bool x.machine.done, .bool x.machine.wait], [], f1 ++ (f2 ++ (f3)), rfl, by simp [hfp], ⟨rfl, rfl, trivial⟩, ⟨[.string x.site], [.string x.top, .int .i64 x.version, v1, v2, .int .i64 x.machine.pc, v3, .int .i64 x.machine.steps, .bool x.machine.done, .bool x.machine.wait], [], f1 ++ (f2 ++ (f3)), rfl, by simp, ⟨rfl, rfl, s0⟩, ⟨[.string x.top], [.int .i64 x.version, v1, v2, .int .i64 x.machine.pc, v3, .int .i64 x.machine.steps, .bool x.machine.done, .bool x.machine.wait], [], f1 ++ (f2 ++ (f3)), rfl, by simp, ⟨rfl, rfl, s1⟩, ⟨[.int .i64 x.version], [v1, v2, .int .i64 x.machine.pc, v3, .int .i64 x.machine.steps, .bool x.machine.done, .bool x.machine.wait], [], f1 ++ (f2 ++ (f3)), rfl, by simp, ⟨rfl, rfl, trivial⟩, ⟨[v1], [v2, .int .i64 x.machine.pc, v3, .int .i64 x.machine.steps, .bool x.machine.done, .bool x.machine.wait], f1, f2 ++ (f3), rfl, by simp, r1, DMachine.rd.2 ⟨_, _, _, _, rfl, rfl, r2, r3⟩⟩⟩⟩⟩⟩
theorem DPage.fresh {B l4 u4 l5 u5 : Nat} {v1 v2 v3 : Value} {w : World} {x : DPage} (p4 : Part (Rep.slice 123 DLoaded.rep) l4 u4 w [v1] x.loaded) (p5 : Part DMachine.rep l5 u5 w [v2, .int .i64 x.machine.pc, v3, .int .i64 x.machine.steps, .bool x.machine.done, .bool x.machine.wait] x.machine) (b4 : B ≤ l4) (b5 : u4 ≤ l5) (e4 : l4 ≤ u4) (s0 : x.site.size ≤ maxLen) (s1 : x.top.size ≤ maxLen) : Fresh DPage.rep B w [.int .i64 x.id, .string x.site, .string x.top, .int .i64 x.version, v1, v2, .int .i64 x.machine.pc, v3, .int .i64 x.machine.steps, .bool x.machine.done, .bool x.machine.wait] x := by
  obtain ⟨f4, r4, n4, m4⟩ := p4
  obtain ⟨f5, r5, n5, m5⟩ := p5
  refine ⟨f4 ++ (f5), ⟨[.int .i64 x.id], [.string x.site, .string x.top, .int .i64 x.version, v1, v2, .int .i64 x.machine.pc, v3, .int .i64 x.machine.steps, .bool x.machine.done, .bool x.machine.wait], [], f4 ++ (f5), rfl, by simp, ⟨rfl, rfl, trivial⟩, ⟨[.string x.site], [.string x.top, .int .i64 x.version, v1, v2, .int .i64 x.machine.pc, v3, .int .i64 x.machine.steps, .bool x.machine.done, .bool x.machine.wait], [], f4 ++ (f5), rfl, by simp, ⟨rfl, rfl, s0⟩, ⟨[.string x.top], [.int .i64 x.version, v1, v2, .int .i64 x.machine.pc, v3, .int .i64 x.machine.steps, .bool x.machine.done, .bool x.machine.wait], [], f4 ++ (f5), rfl, by simp, ⟨rfl, rfl, s1⟩, ⟨[.int .i64 x.version], [v1, v2, .int .i64 x.machine.pc, v3, .int .i64 x.machine.steps, .bool x.machine.done, .bool x.machine.wait], [], f4 ++ (f5), rfl, by simp, ⟨rfl, rfl, trivial⟩, ⟨[v1], [v2, .int .i64 x.machine.pc, v3, .int .i64 x.machine.steps, .bool x.machine.done, .bool x.machine.wait], f4, f5, rfl, by simp, r4, r5⟩⟩⟩⟩⟩, ?_, ?_⟩
  · have w5 := n5
    have z4 : ∀ b ∈ f5, u4 ≤ b := by
      intro b hb
      rcases hb with hb
      · have := m5 b hb; omega
    have w4 := nodup_parts (m := u4) n4 w5 (fun b hb => (m4 b hb).2) z4
    exact w4
  · intro b hb
    simp only [List.mem_append] at hb
    rcases hb with hb | hb
    · have := m4 b hb; omega
    · have := m5 b hb; omega
theorem DPage.parts {o : Bool} {w : World} {cs : List Value} {x : DPage} {fp : List Nat} (h : DPage.rep.rd o w cs x fp) : ∃ v1 v2 v3 f4 f5, cs = [.int .i64 x.id, .string x.site, .string x.top, .int .i64 x.version, v1, v2, .int .i64 x.machine.pc, v3, .int .i64 x.machine.steps, .bool x.machine.done, .bool x.machine.wait] ∧ fp = f4 ++ (f5) ∧ x.site.size ≤ maxLen ∧ x.top.size ≤ maxLen ∧ (Rep.slice 123 DLoaded.rep).rd o w [v1] x.loaded f4 ∧ DMachine.rep.rd o w [v2, .int .i64 x.machine.pc, v3, .int .i64 x.machine.steps, .bool x.machine.done, .bool x.machine.wait] x.machine f5 := by
  obtain ⟨c0, e0, p0, q0, rfl, rfl, h0, ⟨c1, e1, p1, q1, rfl, rfl, h1, ⟨c2, e2, p2, q2, rfl, rfl, h2, ⟨c3, e3, p3, q3, rfl, rfl, h3, ⟨c4, e4, p4, q4, rfl, rfl, h4, h5⟩⟩⟩⟩⟩ := h
  obtain ⟨rfl, rfl, s0⟩ := h0
  obtain ⟨rfl, rfl, s1⟩ := h1
  obtain ⟨rfl, rfl, s2⟩ := h2
  obtain ⟨rfl, rfl, s3⟩ := h3
  obtain ⟨v1, rfl, h4⟩ := slice_shape h4
  have h5b := h5
  obtain ⟨v2, v3, _, _, rfl, _, _, _⟩ := DMachine.rd.1 h5
  exact ⟨_, _, _, _, _, rfl, by simp, s1, s2, h4, h5b⟩
theorem DPage.join {o : Bool} {w : World} {x : DPage} (c4 : List Value) (f4 : List Nat) (r4 : (Rep.slice 123 DLoaded.rep).rd o w c4 x.loaded f4) (c5 : List Value) (f5 : List Nat) (r5 : DMachine.rep.rd o w c5 x.machine f5) (s0 : x.site.size ≤ maxLen) (s1 : x.top.size ≤ maxLen) : DPage.rep.rd o w ([.int .i64 x.id] ++ ([.string x.site] ++ ([.string x.top] ++ ([.int .i64 x.version] ++ (c4 ++ (c5)))))) x (f4 ++ (f5)) := by
  exact ⟨[.int .i64 x.id], [.string x.site] ++ ([.string x.top] ++ ([.int .i64 x.version] ++ (c4 ++ (c5)))), [], f4 ++ (f5), rfl, by simp, ⟨rfl, rfl, trivial⟩, ⟨[.string x.site], [.string x.top] ++ ([.int .i64 x.version] ++ (c4 ++ (c5))), [], f4 ++ (f5), rfl, by simp, ⟨rfl, rfl, s0⟩, ⟨[.string x.top], [.int .i64 x.version] ++ (c4 ++ (c5)), [], f4 ++ (f5), rfl, by simp, ⟨rfl, rfl, s1⟩, ⟨[.int .i64 x.version], c4 ++ (c5), [], f4 ++ (f5), rfl, by simp, ⟨rfl, rfl, trivial⟩, ⟨c4, c5, f4, f5, rfl, by simp, r4, r5⟩⟩⟩⟩⟩
theorem DPage.shape {o : Bool} {w : World} {cs : List Value} {x : DPage} {fp : List Nat} (h : DPage.rep.rd o w cs x fp) : ∃ a1 c1 a2 c2 a3 c3, cs = [.int .i64 x.id, .string x.site, .string x.top, .int .i64 x.version, .slice a1 x.loaded.length c1, .slice a2 x.machine.script.length c2, .int .i64 x.machine.pc, .slice a3 x.machine.regs.length c3, .int .i64 x.machine.steps, .bool x.machine.done, .bool x.machine.wait] := by
  obtain ⟨v1, v2, v3, f1, f2, f3, rfl, _, _, _, r1, r2, r3⟩ := DPage.rd.1 h
  obtain ⟨a1, c1, rfl, _⟩ := slice_open r1
  obtain ⟨a2, c2, rfl, _⟩ := slice_open r2
  obtain ⟨a3, c3, rfl, _⟩ := slice_open r3
  exact ⟨_, _, _, _, _, _, rfl⟩
theorem DPage.fshape {B : Nat} {w : World} {cs : List Value} {x : DPage} (h : Fresh DPage.rep B w cs x) : ∃ a1 c1 a2 c2 a3 c3, cs = [.int .i64 x.id, .string x.site, .string x.top, .int .i64 x.version, .slice a1 x.loaded.length c1, .slice a2 x.machine.script.length c2, .int .i64 x.machine.pc, .slice a3 x.machine.regs.length c3, .int .i64 x.machine.steps, .bool x.machine.done, .bool x.machine.wait] := by
  obtain ⟨fp, h, _⟩ := h
  exact DPage.shape h
theorem DPage.opens_laws : Opens Try.prog 68 DPage.rep := opens_struct Try.underlying68 (by kernel_rfl) (fields_cons rfl (by kernel_rfl) (opens_int Try.underlying3) (fields_cons rfl (by kernel_rfl) (opens_str Try.underlying9) (fields_cons rfl (by kernel_rfl) (opens_str Try.underlying9) (fields_cons rfl (by kernel_rfl) (opens_int Try.underlying3) (fields_cons rfl (by kernel_rfl) (opens_slice Try.underlying64 (by kernel_rfl) (by decide) DLoaded.opens_laws) (fields_one rfl (by kernel_rfl) DMachine.opens_laws)))))) (fun b => ⟨b.1, b.2.1, b.2.2.1, b.2.2.2.1, b.2.2.2.2.1, b.2.2.2.2.2⟩) (fun _ => rfl)

end Go.Proofs.Ytamdjeajmfjfmaa
