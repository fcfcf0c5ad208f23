/-
  The type Sync: its datum, how its cells read, how a law's argument is opened.
-/
import Derived.Test.YtjdoofekohjjlaaTOutbox
namespace Go.Proofs.Ytjdoofekohjjlaa
open Go.RowKit

structure DSync where
  outbox : DOutbox
  tries : Int
  waitUntil : Int
  deriving DecidableEq

def DSync.rep : Rep DSync := Rep.iso (Rep.prod DOutbox.rep (Rep.prod Rep.int Rep.int)) (fun x => (x.outbox, x.tries, x.waitUntil))
theorem DSync.rd {o : Bool} {w : World} {cs : List Value} {x : DSync} {fp : List Nat} : DSync.rep.rd o w cs x fp ↔ ∃ v1 f1, cs = [.int .i64 x.outbox.device, .int .i64 x.outbox.next, v1, .int .i64 x.tries, .int .i64 x.waitUntil] ∧ fp = f1 ∧ (Rep.slice 72 DWrite.rep).rd o w [v1] x.outbox.writes f1 := by
  constructor
  · intro h0
    obtain ⟨c0, e0, p0, q0, rfl, rfl, h0, ⟨c1, e1, p1, q1, rfl, rfl, h1, h2⟩⟩ := h0
    obtain ⟨v1, g1, rfl, rfl, r1⟩ := DOutbox.rd.1 h0
    obtain ⟨rfl, rfl, s1⟩ := h1
    obtain ⟨rfl, rfl, s2⟩ := h2
    exact ⟨_, _, rfl, by simp, r1⟩
  · rintro ⟨v1, f1, rfl, hfp, r1⟩
    exact ⟨[.int .i64 x.outbox.device, .int .i64 x.outbox.next, v1], [.int .i64 x.tries, .int .i64 x.waitUntil], f1, [], rfl, by simp [hfp], DOutbox.rd.2 ⟨_, _, rfl, rfl, r1⟩, ⟨[.int .i64 x.tries], [.int .i64 x.waitUntil], [], [], rfl, by simp, ⟨rfl, rfl, trivial⟩, ⟨rfl, rfl, trivial⟩⟩⟩
theorem DSync.fresh {B l0 u0 : Nat} {v1 : Value} {w : World} {x : DSync} (p0 : Part DOutbox.rep l0 u0 w [.int .i64 x.outbox.device, .int .i64 x.outbox.next, v1] x.outbox) (b0 : B ≤ l0)   : Fresh DSync.rep B w [.int .i64 x.outbox.device, .int .i64 x.outbox.next, v1, .int .i64 x.tries, .int .i64 x.waitUntil] x := by
  obtain ⟨f0, r0, n0, m0⟩ := p0
  refine ⟨f0, ⟨[.int .i64 x.outbox.device, .int .i64 x.outbox.next, v1], [.int .i64 x.tries, .int .i64 x.waitUntil], f0, [], rfl, by simp, r0, ⟨[.int .i64 x.tries], [.int .i64 x.waitUntil], [], [], rfl, by simp, ⟨rfl, rfl, trivial⟩, ⟨rfl, rfl, trivial⟩⟩⟩, ?_, ?_⟩
  · exact n0
  · intro b hb
    rcases hb with hb
    · have := m0 b hb; omega
theorem DSync.parts {o : Bool} {w : World} {cs : List Value} {x : DSync} {fp : List Nat} (h : DSync.rep.rd o w cs x fp) : ∃ v1 f0, cs = [.int .i64 x.outbox.device, .int .i64 x.outbox.next, v1, .int .i64 x.tries, .int .i64 x.waitUntil] ∧ fp = f0 ∧ DOutbox.rep.rd o w [.int .i64 x.outbox.device, .int .i64 x.outbox.next, v1] x.outbox f0 := by
  obtain ⟨c0, e0, p0, q0, rfl, rfl, h0, ⟨c1, e1, p1, q1, rfl, rfl, h1, h2⟩⟩ := h
  have h0b := h0
  obtain ⟨v1, _, rfl, _, _⟩ := DOutbox.rd.1 h0
  obtain ⟨rfl, rfl, s1⟩ := h1
  obtain ⟨rfl, rfl, s2⟩ := h2
  exact ⟨_, _, rfl, by simp, h0b⟩
theorem DSync.join {o : Bool} {w : World} {x : DSync} (c0 : List Value) (f0 : List Nat) (r0 : DOutbox.rep.rd o w c0 x.outbox f0)  : DSync.rep.rd o w (c0 ++ ([.int .i64 x.tries] ++ ([.int .i64 x.waitUntil]))) x (f0) := by
  exact ⟨c0, [.int .i64 x.tries] ++ ([.int .i64 x.waitUntil]), f0, [], rfl, by simp, r0, ⟨[.int .i64 x.tries], [.int .i64 x.waitUntil], [], [], rfl, by simp, ⟨rfl, rfl, trivial⟩, ⟨rfl, rfl, trivial⟩⟩⟩
theorem DSync.shape {o : Bool} {w : World} {cs : List Value} {x : DSync} {fp : List Nat} (h : DSync.rep.rd o w cs x fp) : ∃ a1 c1, cs = [.int .i64 x.outbox.device, .int .i64 x.outbox.next, .slice a1 x.outbox.writes.length c1, .int .i64 x.tries, .int .i64 x.waitUntil] := by
  obtain ⟨v1, f1, rfl, _, r1⟩ := DSync.rd.1 h
  obtain ⟨a1, c1, rfl, _⟩ := slice_open r1
  exact ⟨_, _, rfl⟩
theorem DSync.fshape {B : Nat} {w : World} {cs : List Value} {x : DSync} (h : Fresh DSync.rep B w cs x) : ∃ a1 c1, cs = [.int .i64 x.outbox.device, .int .i64 x.outbox.next, .slice a1 x.outbox.writes.length c1, .int .i64 x.tries, .int .i64 x.waitUntil] := by
  obtain ⟨fp, h, _⟩ := h
  exact DSync.shape h
theorem DSync.opens_laws : Opens Try.prog 43 DSync.rep := opens_struct Try.underlying43 (by kernel_rfl) (fields_cons rfl (by kernel_rfl) DOutbox.opens_laws (fields_cons rfl (by kernel_rfl) (opens_int Try.underlying3) (fields_one rfl (by kernel_rfl) (opens_int Try.underlying3)))) (fun b => ⟨b.1, b.2.1, b.2.2⟩) (fun _ => rfl)

end Go.Proofs.Ytjdoofekohjjlaa
