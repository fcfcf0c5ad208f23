/-
  The type Server: its datum, how its cells read, how a law's argument is opened.
-/
import Derived.Test.YtjdoofekohjjlaaTStore
import Derived.Test.YtjdoofekohjjlaaTApplied
import Derived.Test.YtjdoofekohjjlaaTWrite
namespace Go.Proofs.Ytjdoofekohjjlaa
open Go.RowKit

structure DServer where
  store : DStore
  applied : List DApplied
  changes : List DWrite
  deriving DecidableEq

def DServer.rep : Rep DServer := Rep.iso (Rep.prod DStore.rep (Rep.prod (Rep.slice 86 DApplied.rep) (Rep.slice 72 DWrite.rep))) (fun x => (x.store, x.applied, x.changes))
theorem DServer.rd {o : Bool} {w : World} {cs : List Value} {x : DServer} {fp : List Nat} : DServer.rep.rd o w cs x fp ↔ ∃ v1 v2 v3 f1 f2 f3, cs = [.string x.store.name, v1, .int .i64 x.store.auto, v2, v3] ∧ fp = f1 ++ (f2 ++ (f3)) ∧ x.store.name.size ≤ maxLen ∧ (Rep.slice 106 DItem.rep).rd o w [v1] x.store.items f1 ∧ (Rep.slice 86 DApplied.rep).rd o w [v2] x.applied f2 ∧ (Rep.slice 72 DWrite.rep).rd o w [v3] x.changes f3 := by
  constructor
  · intro h0
    obtain ⟨c0, e0, p0, q0, rfl, rfl, h0, ⟨c1, e1, p1, q1, rfl, rfl, h1, h2⟩⟩ := h0
    obtain ⟨v1, g1, rfl, rfl, t0_0, r1⟩ := DStore.rd.1 h0
    obtain ⟨v2, rfl, r2⟩ := slice_shape h1
    obtain ⟨v3, rfl, r3⟩ := slice_shape h2
    exact ⟨_, _, _, _, _, _, rfl, by simp, t0_0, r1, r2, r3⟩
  · rintro ⟨v1, v2, v3, f1, f2, f3, rfl, hfp, s0, r1, r2, r3⟩
    exact ⟨[.string x.store.name, v1, .int .i64 x.store.auto], [v2, v3], f1, f2 ++ (f3), rfl, by simp [hfp], DStore.rd.2 ⟨_, _, rfl, rfl, s0, r1⟩, ⟨[v2], [v3], f2, f3, rfl, by simp, r2, r3⟩⟩
theorem DServer.fresh {B l0 u0 l1 u1 l2 u2 : Nat} {v1 v2 v3 : Value} {w : World} {x : DServer} (p0 : Part DStore.rep l0 u0 w [.string x.store.name, v1, .int .i64 x.store.auto] x.store) (p1 : Part (Rep.slice 86 DApplied.rep) l1 u1 w [v2] x.applied) (p2 : Part (Rep.slice 72 DWrite.rep) l2 u2 w [v3] x.changes) (b0 : B ≤ l0) (b1 : u0 ≤ l1) (e0 : l0 ≤ u0) (b2 : u1 ≤ l2) (e1 : l1 ≤ u1)  : Fresh DServer.rep B w [.string x.store.name, v1, .int .i64 x.store.auto, v2, v3] x := by
  obtain ⟨f0, r0, n0, m0⟩ := p0
  obtain ⟨f1, r1, n1, m1⟩ := p1
  obtain ⟨f2, r2, n2, m2⟩ := p2
  refine ⟨f0 ++ (f1 ++ (f2)), ⟨[.string x.store.name, v1, .int .i64 x.store.auto], [v2, v3], f0, f1 ++ (f2), rfl, by simp, r0, ⟨[v2], [v3], f1, f2, rfl, by simp, r1, r2⟩⟩, ?_, ?_⟩
  · have w2 := n2
    have z1 : ∀ b ∈ f2, u1 ≤ b := by
      intro b hb
      rcases hb with hb
      · have := m2 b hb; omega
    have w1 := nodup_parts (m := u1) n1 w2 (fun b hb => (m1 b hb).2) z1
    have z0 : ∀ b ∈ f1 ++ (f2), u0 ≤ b := by
      intro b hb
      simp only [List.mem_append] at hb
      rcases hb with hb | hb
      · have := m1 b hb; omega
      · have := m2 b hb; omega
    have w0 := nodup_parts (m := u0) n0 w1 (fun b hb => (m0 b hb).2) z0
    exact w0
  · intro b hb
    simp only [List.mem_append] at hb
    rcases hb with hb | hb | hb
    · have := m0 b hb; omega
    · have := m1 b hb; omega
    · have := m2 b hb; omega
theorem DServer.parts {o : Bool} {w : World} {cs : List Value} {x : DServer} {fp : List Nat} (h : DServer.rep.rd o w cs x fp) : ∃ v1 v2 v3 f0 f1 f2, cs = [.string x.store.name, v1, .int .i64 x.store.auto, v2, v3] ∧ fp = f0 ++ (f1 ++ (f2)) ∧ DStore.rep.rd o w [.string x.store.name, v1, .int .i64 x.store.auto] x.store f0 ∧ (Rep.slice 86 DApplied.rep).rd o w [v2] x.applied f1 ∧ (Rep.slice 72 DWrite.rep).rd o w [v3] x.changes f2 := by
  obtain ⟨c0, e0, p0, q0, rfl, rfl, h0, ⟨c1, e1, p1, q1, rfl, rfl, h1, h2⟩⟩ := h
  have h0b := h0
  obtain ⟨v1, _, rfl, _, _, _⟩ := DStore.rd.1 h0
  obtain ⟨v2, rfl, h1⟩ := slice_shape h1
  obtain ⟨v3, rfl, h2⟩ := slice_shape h2
  exact ⟨_, _, _, _, _, _, rfl, by simp, h0b, h1, h2⟩
theorem DServer.join {o : Bool} {w : World} {x : DServer} (c0 : List Value) (f0 : List Nat) (r0 : DStore.rep.rd o w c0 x.store f0) (c1 : List Value) (f1 : List Nat) (r1 : (Rep.slice 86 DApplied.rep).rd o w c1 x.applied f1) (c2 : List Value) (f2 : List Nat) (r2 : (Rep.slice 72 DWrite.rep).rd o w c2 x.changes f2)  : DServer.rep.rd o w (c0 ++ (c1 ++ (c2))) x (f0 ++ (f1 ++ (f2))) := by
  exact ⟨c0, c1 ++ (c2), f0, f1 ++ (f2), rfl, by simp, r0, ⟨c1, c2, f1, f2, rfl, by simp, r1, r2⟩⟩
theorem DServer.shape {o : Bool} {w : World} {cs : List Value} {x : DServer} {fp : List Nat} (h : DServer.rep.rd o w cs x fp) : ∃ a1 c1 a2 c2 a3 c3, cs = [.string x.store.name, .slice a1 x.store.items.length c1, .int .i64 x.store.auto, .slice a2 x.applied.length c2, .slice a3 x.changes.length c3] := by
  obtain ⟨v1, v2, v3, f1, f2, f3, rfl, _, _, r1, r2, r3⟩ := DServer.rd.1 h
  obtain ⟨a1, c1, rfl, _⟩ := slice_open r1
  obtain ⟨a2, c2, rfl, _⟩ := slice_open r2
  obtain ⟨a3, c3, rfl, _⟩ := slice_open r3
  exact ⟨_, _, _, _, _, _, rfl⟩
theorem DServer.fshape {B : Nat} {w : World} {cs : List Value} {x : DServer} (h : Fresh DServer.rep B w cs x) : ∃ a1 c1 a2 c2 a3 c3, cs = [.string x.store.name, .slice a1 x.store.items.length c1, .int .i64 x.store.auto, .slice a2 x.applied.length c2, .slice a3 x.changes.length c3] := by
  obtain ⟨fp, h, _⟩ := h
  exact DServer.shape h
theorem DServer.opens_laws : Opens Try.prog 28 DServer.rep := opens_struct Try.underlying28 (by kernel_rfl) (fields_cons rfl (by kernel_rfl) DStore.opens_laws (fields_cons rfl (by kernel_rfl) (opens_slice Try.underlying25 (by kernel_rfl) (by decide) DApplied.opens_laws) (fields_one rfl (by kernel_rfl) (opens_slice Try.underlying26 (by kernel_rfl) (by decide) DWrite.opens_laws)))) (fun b => ⟨b.1, b.2.1, b.2.2⟩) (fun _ => rfl)

end Go.Proofs.Ytjdoofekohjjlaa
