/-
  The type Cache: its datum, how its cells read, how a law's argument is opened.
-/
import Derived.Test.YteajhmpppciicaaTCached
namespace Go.Proofs.Yteajhmpppciicaa
open Go.RowKit

structure DCache where
  version : Int
  entries : List DCached
  deriving DecidableEq

def DCache.rep : Rep DCache := Rep.iso (Rep.prod Rep.int (Rep.slice 88 DCached.rep)) (fun x => (x.version, x.entries))
theorem DCache.rd {o : Bool} {w : World} {cs : List Value} {x : DCache} {fp : List Nat} : DCache.rep.rd o w cs x fp ↔ ∃ v1 f1, cs = [.int .i64 x.version, v1] ∧ fp = f1 ∧ (Rep.slice 88 DCached.rep).rd o w [v1] x.entries f1 := by
  constructor
  · intro h0
    obtain ⟨c0, e0, p0, q0, rfl, rfl, h0, h1⟩ := h0
    obtain ⟨rfl, rfl, s0⟩ := h0
    obtain ⟨v1, rfl, r1⟩ := slice_shape h1
    exact ⟨_, _, rfl, by simp, r1⟩
  · rintro ⟨v1, f1, rfl, hfp, r1⟩
    exact ⟨[.int .i64 x.version], [v1], [], f1, rfl, by simp [hfp], ⟨rfl, rfl, trivial⟩, r1⟩
theorem DCache.fresh {B l1 u1 : Nat} {v1 : Value} {w : World} {x : DCache} (p1 : Part (Rep.slice 88 DCached.rep) l1 u1 w [v1] x.entries) (b1 : B ≤ l1)   : Fresh DCache.rep B w [.int .i64 x.version, v1] x := by
  obtain ⟨f1, r1, n1, m1⟩ := p1
  refine ⟨f1, ⟨[.int .i64 x.version], [v1], [], f1, rfl, by simp, ⟨rfl, rfl, trivial⟩, r1⟩, ?_, ?_⟩
  · exact n1
  · intro b hb
    rcases hb with hb
    · have := m1 b hb; omega
theorem DCache.parts {o : Bool} {w : World} {cs : List Value} {x : DCache} {fp : List Nat} (h : DCache.rep.rd o w cs x fp) : ∃ v1 f1, cs = [.int .i64 x.version, v1] ∧ fp = f1 ∧ (Rep.slice 88 DCached.rep).rd o w [v1] x.entries f1 := by
  obtain ⟨c0, e0, p0, q0, rfl, rfl, h0, h1⟩ := h
  obtain ⟨rfl, rfl, s0⟩ := h0
  obtain ⟨v1, rfl, h1⟩ := slice_shape h1
  exact ⟨_, _, rfl, by simp, h1⟩
theorem DCache.join {o : Bool} {w : World} {x : DCache} (c1 : List Value) (f1 : List Nat) (r1 : (Rep.slice 88 DCached.rep).rd o w c1 x.entries f1)  : DCache.rep.rd o w ([.int .i64 x.version] ++ (c1)) x (f1) := by
  exact ⟨[.int .i64 x.version], c1, [], f1, rfl, by simp, ⟨rfl, rfl, trivial⟩, r1⟩
theorem DCache.shape {o : Bool} {w : World} {cs : List Value} {x : DCache} {fp : List Nat} (h : DCache.rep.rd o w cs x fp) : ∃ a1 c1, cs = [.int .i64 x.version, .slice a1 x.entries.length c1] := by
  obtain ⟨v1, f1, rfl, _, r1⟩ := DCache.rd.1 h
  obtain ⟨a1, c1, rfl, _⟩ := slice_open r1
  exact ⟨_, _, rfl⟩
theorem DCache.fshape {B : Nat} {w : World} {cs : List Value} {x : DCache} (h : Fresh DCache.rep B w cs x) : ∃ a1 c1, cs = [.int .i64 x.version, .slice a1 x.entries.length c1] := by
  obtain ⟨fp, h, _⟩ := h
  exact DCache.shape h

end Go.Proofs.Yteajhmpppciicaa
