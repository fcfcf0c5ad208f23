/-
  The type CacheSet: its datum, how its cells read, how a law's argument is opened.
-/
import Derived.Test.YteajhmpppciicaaTCache
namespace Go.Proofs.Yteajhmpppciicaa
open Go.RowKit

structure DCacheSet where
  caches : List DCache
  deriving DecidableEq

def DCacheSet.rep : Rep DCacheSet := Rep.iso ((Rep.slice 85 DCache.rep)) (fun x => x.caches)
theorem DCacheSet.rd {o : Bool} {w : World} {cs : List Value} {x : DCacheSet} {fp : List Nat} : DCacheSet.rep.rd o w cs x fp ↔ ∃ v1 f1, cs = [v1] ∧ fp = f1 ∧ (Rep.slice 85 DCache.rep).rd o w [v1] x.caches f1 := by
  constructor
  · intro h0
    obtain ⟨v1, rfl, r1⟩ := slice_shape h0
    exact ⟨_, _, rfl, by simp, r1⟩
  · rintro ⟨v1, f1, rfl, hfp, r1⟩
    rw [hfp]
    exact r1
theorem DCacheSet.fresh {B l0 u0 : Nat} {v1 : Value} {w : World} {x : DCacheSet} (p0 : Part (Rep.slice 85 DCache.rep) l0 u0 w [v1] x.caches) (b0 : B ≤ l0)   : Fresh DCacheSet.rep B w [v1] x := by
  obtain ⟨f0, r0, n0, m0⟩ := p0
  refine ⟨f0, r0, ?_, ?_⟩
  · exact n0
  · intro b hb
    rcases hb with hb
    · have := m0 b hb; omega
theorem DCacheSet.parts {o : Bool} {w : World} {cs : List Value} {x : DCacheSet} {fp : List Nat} (h : DCacheSet.rep.rd o w cs x fp) : ∃ v1 f0, cs = [v1] ∧ fp = f0 ∧ (Rep.slice 85 DCache.rep).rd o w [v1] x.caches f0 := by
  have h0 := h
  obtain ⟨v1, rfl, h0⟩ := slice_shape h0
  exact ⟨_, _, rfl, by simp, h0⟩
theorem DCacheSet.join {o : Bool} {w : World} {x : DCacheSet} (c0 : List Value) (f0 : List Nat) (r0 : (Rep.slice 85 DCache.rep).rd o w c0 x.caches f0)  : DCacheSet.rep.rd o w (c0) x (f0) := by
  exact r0
theorem DCacheSet.shape {o : Bool} {w : World} {cs : List Value} {x : DCacheSet} {fp : List Nat} (h : DCacheSet.rep.rd o w cs x fp) : ∃ a1 c1, cs = [.slice a1 x.caches.length c1] := by
  obtain ⟨v1, f1, rfl, _, r1⟩ := DCacheSet.rd.1 h
  obtain ⟨a1, c1, rfl, _⟩ := slice_open r1
  exact ⟨_, _, rfl⟩
theorem DCacheSet.fshape {B : Nat} {w : World} {cs : List Value} {x : DCacheSet} (h : Fresh DCacheSet.rep B w cs x) : ∃ a1 c1, cs = [.slice a1 x.caches.length c1] := by
  obtain ⟨fp, h, _⟩ := h
  exact DCacheSet.shape h

end Go.Proofs.Yteajhmpppciicaa
