/-
  The type Replica: its datum, how its cells read, how a law's argument is opened.
-/
import Derived.Test.YtjdoofekohjjlaaTStore
import Derived.Test.YtjdoofekohjjlaaTSync
namespace Go.Proofs.Ytjdoofekohjjlaa
open Go.RowKit

structure DReplica where
  base : DStore
  seen : Int
  sync : DSync
  deriving DecidableEq

def DReplica.rep : Rep DReplica := Rep.iso (Rep.prod DStore.rep (Rep.prod Rep.int DSync.rep)) (fun x => (x.base, x.seen, x.sync))
theorem DReplica.rd {o : Bool} {w : World} {cs : List Value} {x : DReplica} {fp : List Nat} : DReplica.rep.rd o w cs x fp ↔ ∃ v1 v2 f1 f2, cs = [.string x.base.name, v1, .int .i64 x.base.auto, .int .i64 x.seen, .int .i64 x.sync.outbox.device, .int .i64 x.sync.outbox.next, v2, .int .i64 x.sync.tries, .int .i64 x.sync.waitUntil] ∧ fp = f1 ++ (f2) ∧ x.base.name.size ≤ maxLen ∧ (Rep.slice 106 DItem.rep).rd o w [v1] x.base.items f1 ∧ (Rep.slice 72 DWrite.rep).rd o w [v2] x.sync.outbox.writes f2 := by
  constructor
  · intro h0
    obtain ⟨c0, e0, p0, q0, rfl, rfl, h0, ⟨c1, e1, p1, q1, rfl, rfl, h1, h2⟩⟩ := h0
    obtain ⟨v1, g1, rfl, rfl, t0_0, r1⟩ := DStore.rd.1 h0
    obtain ⟨rfl, rfl, s1⟩ := h1
    obtain ⟨v2, g2, rfl, rfl, r2⟩ := DSync.rd.1 h2
    exact ⟨_, _, _, _, rfl, by simp, t0_0, r1, r2⟩
  · rintro ⟨v1, v2, f1, f2, rfl, hfp, s0, r1, r2⟩
    exact ⟨[.string x.base.name, v1, .int .i64 x.base.auto], [.int .i64 x.seen, .int .i64 x.sync.outbox.device, .int .i64 x.sync.outbox.next, v2, .int .i64 x.sync.tries, .int .i64 x.sync.waitUntil], f1, f2, rfl, by simp [hfp], DStore.rd.2 ⟨_, _, rfl, rfl, s0, r1⟩, ⟨[.int .i64 x.seen], [.int .i64 x.sync.outbox.device, .int .i64 x.sync.outbox.next, v2, .int .i64 x.sync.tries, .int .i64 x.sync.waitUntil], [], f2, rfl, by simp, ⟨rfl, rfl, trivial⟩, DSync.rd.2 ⟨_, _, rfl, rfl, r2⟩⟩⟩
theorem DReplica.fresh {B l0 u0 l2 u2 : Nat} {v1 v2 : Value} {w : World} {x : DReplica} (p0 : Part DStore.rep l0 u0 w [.string x.base.name, v1, .int .i64 x.base.auto] x.base) (p2 : Part DSync.rep l2 u2 w [.int .i64 x.sync.outbox.device, .int .i64 x.sync.outbox.next, v2, .int .i64 x.sync.tries, .int .i64 x.sync.waitUntil] x.sync) (b0 : B ≤ l0) (b2 : u0 ≤ l2) (e0 : l0 ≤ u0)  : Fresh DReplica.rep B w [.string x.base.name, v1, .int .i64 x.base.auto, .int .i64 x.seen, .int .i64 x.sync.outbox.device, .int .i64 x.sync.outbox.next, v2, .int .i64 x.sync.tries, .int .i64 x.sync.waitUntil] x := by
  obtain ⟨f0, r0, n0, m0⟩ := p0
  obtain ⟨f2, r2, n2, m2⟩ := p2
  refine ⟨f0 ++ (f2), ⟨[.string x.base.name, v1, .int .i64 x.base.auto], [.int .i64 x.seen, .int .i64 x.sync.outbox.device, .int .i64 x.sync.outbox.next, v2, .int .i64 x.sync.tries, .int .i64 x.sync.waitUntil], f0, f2, rfl, by simp, r0, ⟨[.int .i64 x.seen], [.int .i64 x.sync.outbox.device, .int .i64 x.sync.outbox.next, v2, .int .i64 x.sync.tries, .int .i64 x.sync.waitUntil], [], f2, rfl, by simp, ⟨rfl, rfl, trivial⟩, r2⟩⟩, ?_, ?_⟩
  · have w2 := n2
    have z0 : ∀ b ∈ f2, u0 ≤ b := by
      intro b hb
      rcases hb with hb
      · have := m2 b hb; omega
    have w0 := nodup_parts (m := u0) n0 w2 (fun b hb => (m0 b hb).2) z0
    exact w0
  · intro b hb
    simp only [List.mem_append] at hb
    rcases hb with hb | hb
    · have := m0 b hb; omega
    · have := m2 b hb; omega
theorem DReplica.parts {o : Bool} {w : World} {cs : List Value} {x : DReplica} {fp : List Nat} (h : DReplica.rep.rd o w cs x fp) : ∃ v1 v2 f0 f2, cs = [.string x.base.name, v1, .int .i64 x.base.auto, .int .i64 x.seen, .int .i64 x.sync.outbox.device, .int .i64 x.sync.outbox.next, v2, .int .i64 x.sync.tries, .int .i64 x.sync.waitUntil] ∧ fp = f0 ++ (f2) ∧ DStore.rep.rd o w [.string x.base.name, v1, .int .i64 x.base.auto] x.base f0 ∧ DSync.rep.rd o w [.int .i64 x.sync.outbox.device, .int .i64 x.sync.outbox.next, v2, .int .i64 x.sync.tries, .int .i64 x.sync.waitUntil] x.sync f2 := by
  obtain ⟨c0, e0, p0, q0, rfl, rfl, h0, ⟨c1, e1, p1, q1, rfl, rfl, h1, h2⟩⟩ := h
  have h0b := h0
  obtain ⟨v1, _, rfl, _, _, _⟩ := DStore.rd.1 h0
  obtain ⟨rfl, rfl, s1⟩ := h1
  have h2b := h2
  obtain ⟨v2, _, rfl, _, _⟩ := DSync.rd.1 h2
  exact ⟨_, _, _, _, rfl, by simp, h0b, h2b⟩
theorem DReplica.join {o : Bool} {w : World} {x : DReplica} (c0 : List Value) (f0 : List Nat) (r0 : DStore.rep.rd o w c0 x.base f0) (c2 : List Value) (f2 : List Nat) (r2 : DSync.rep.rd o w c2 x.sync f2)  : DReplica.rep.rd o w (c0 ++ ([.int .i64 x.seen] ++ (c2))) x (f0 ++ (f2)) := by
  exact ⟨c0, [.int .i64 x.seen] ++ (c2), f0, f2, rfl, by simp, r0, ⟨[.int .i64 x.seen], c2, [], f2, rfl, by simp, ⟨rfl, rfl, trivial⟩, r2⟩⟩
theorem DReplica.shape {o : Bool} {w : World} {cs : List Value} {x : DReplica} {fp : List Nat} (h : DReplica.rep.rd o w cs x fp) : ∃ a1 c1 a2 c2, cs = [.string x.base.name, .slice a1 x.base.items.length c1, .int .i64 x.base.auto, .int .i64 x.seen, .int .i64 x.sync.outbox.device, .int .i64 x.sync.outbox.next, .slice a2 x.sync.outbox.writes.length c2, .int .i64 x.sync.tries, .int .i64 x.sync.waitUntil] := by
  obtain ⟨v1, v2, f1, f2, rfl, _, _, r1, r2⟩ := DReplica.rd.1 h
  obtain ⟨a1, c1, rfl, _⟩ := slice_open r1
  obtain ⟨a2, c2, rfl, _⟩ := slice_open r2
  exact ⟨_, _, _, _, rfl⟩
theorem DReplica.fshape {B : Nat} {w : World} {cs : List Value} {x : DReplica} (h : Fresh DReplica.rep B w cs x) : ∃ a1 c1 a2 c2, cs = [.string x.base.name, .slice a1 x.base.items.length c1, .int .i64 x.base.auto, .int .i64 x.seen, .int .i64 x.sync.outbox.device, .int .i64 x.sync.outbox.next, .slice a2 x.sync.outbox.writes.length c2, .int .i64 x.sync.tries, .int .i64 x.sync.waitUntil] := by
  obtain ⟨fp, h, _⟩ := h
  exact DReplica.shape h
theorem DReplica.opens_laws : Opens Try.prog 45 DReplica.rep := opens_struct Try.underlying45 (by kernel_rfl) (fields_cons rfl (by kernel_rfl) DStore.opens_laws (fields_cons rfl (by kernel_rfl) (opens_int Try.underlying3) (fields_one rfl (by kernel_rfl) DSync.opens_laws))) (fun b => ⟨b.1, b.2.1, b.2.2⟩) (fun _ => rfl)

end Go.Proofs.Ytjdoofekohjjlaa
