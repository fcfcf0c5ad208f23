/-
  The type Site: its datum, how its cells read, how a law's argument is opened.
-/
import Derived.Test.YteajhmpppciicaaBase
namespace Go.Proofs.Yteajhmpppciicaa
open Go.RowKit

structure DSite where
  name : ByteArray
  version : Int
  files : List ByteArray
  shared : Bool
  deriving DecidableEq

def DSite.rep : Rep DSite := Rep.iso (Rep.prod Rep.str (Rep.prod Rep.int (Rep.prod (Rep.slice 9 Rep.str) Rep.bool))) (fun x => (x.name, x.version, x.files, x.shared))
theorem DSite.rd {o : Bool} {w : World} {cs : List Value} {x : DSite} {fp : List Nat} : DSite.rep.rd o w cs x fp ↔ ∃ v1 f1, cs = [.string x.name, .int .i64 x.version, v1, .bool x.shared] ∧ fp = f1 ∧ x.name.size ≤ maxLen ∧ (Rep.slice 9 Rep.str).rd o w [v1] x.files f1 := by
  constructor
  · intro h0
    obtain ⟨c0, e0, p0, q0, rfl, rfl, h0, ⟨c1, e1, p1, q1, rfl, rfl, h1, ⟨c2, e2, p2, q2, rfl, rfl, h2, h3⟩⟩⟩ := h0
    obtain ⟨rfl, rfl, s0⟩ := h0
    obtain ⟨rfl, rfl, s1⟩ := h1
    obtain ⟨v1, rfl, r1⟩ := slice_shape h2
    obtain ⟨rfl, rfl, s3⟩ := h3
    exact ⟨_, _, rfl, by simp, s0, r1⟩
  · rintro ⟨v1, f1, rfl, hfp, s0, r1⟩
    exact ⟨[.string x.name], [.int .i64 x.version, v1, .bool x.shared], [], f1, rfl, by simp [hfp], ⟨rfl, rfl, s0⟩, ⟨[.int .i64 x.version], [v1, .bool x.shared], [], f1, rfl, by simp, ⟨rfl, rfl, trivial⟩, ⟨[v1], [.bool x.shared], f1, [], rfl, by simp, r1, ⟨rfl, rfl, trivial⟩⟩⟩⟩
theorem DSite.fresh {B l2 u2 : Nat} {v1 : Value} {w : World} {x : DSite} (p2 : Part (Rep.slice 9 Rep.str) l2 u2 w [v1] x.files) (b2 : B ≤ l2)  (s0 : x.name.size ≤ maxLen) : Fresh DSite.rep B w [.string x.name, .int .i64 x.version, v1, .bool x.shared] x := by
  obtain ⟨f2, r2, n2, m2⟩ := p2
  refine ⟨f2, ⟨[.string x.name], [.int .i64 x.version, v1, .bool x.shared], [], f2, rfl, by simp, ⟨rfl, rfl, s0⟩, ⟨[.int .i64 x.version], [v1, .bool x.shared], [], f2, rfl, by simp, ⟨rfl, rfl, trivial⟩, ⟨[v1], [.bool x.shared], f2, [], rfl, by simp, r2, ⟨rfl, rfl, trivial⟩⟩⟩⟩, ?_, ?_⟩
  · exact n2
  · intro b hb
    rcases hb with hb
    · have := m2 b hb; omega
theorem DSite.parts {o : Bool} {w : World} {cs : List Value} {x : DSite} {fp : List Nat} (h : DSite.rep.rd o w cs x fp) : ∃ v1 f2, cs = [.string x.name, .int .i64 x.version, v1, .bool x.shared] ∧ fp = f2 ∧ x.name.size ≤ maxLen ∧ (Rep.slice 9 Rep.str).rd o w [v1] x.files f2 := by
  obtain ⟨c0, e0, p0, q0, rfl, rfl, h0, ⟨c1, e1, p1, q1, rfl, rfl, h1, ⟨c2, e2, p2, q2, rfl, rfl, h2, h3⟩⟩⟩ := h
  obtain ⟨rfl, rfl, s0⟩ := h0
  obtain ⟨rfl, rfl, s1⟩ := h1
  obtain ⟨v1, rfl, h2⟩ := slice_shape h2
  obtain ⟨rfl, rfl, s3⟩ := h3
  exact ⟨_, _, rfl, by simp, s0, h2⟩
theorem DSite.join {o : Bool} {w : World} {x : DSite} (c2 : List Value) (f2 : List Nat) (r2 : (Rep.slice 9 Rep.str).rd o w c2 x.files f2) (s0 : x.name.size ≤ maxLen) : DSite.rep.rd o w ([.string x.name] ++ ([.int .i64 x.version] ++ (c2 ++ ([.bool x.shared])))) x (f2) := by
  exact ⟨[.string x.name], [.int .i64 x.version] ++ (c2 ++ ([.bool x.shared])), [], f2, rfl, by simp, ⟨rfl, rfl, s0⟩, ⟨[.int .i64 x.version], c2 ++ ([.bool x.shared]), [], f2, rfl, by simp, ⟨rfl, rfl, trivial⟩, ⟨c2, [.bool x.shared], f2, [], rfl, by simp, r2, ⟨rfl, rfl, trivial⟩⟩⟩⟩
theorem DSite.shape {o : Bool} {w : World} {cs : List Value} {x : DSite} {fp : List Nat} (h : DSite.rep.rd o w cs x fp) : ∃ a1 c1, cs = [.string x.name, .int .i64 x.version, .slice a1 x.files.length c1, .bool x.shared] := by
  obtain ⟨v1, f1, rfl, _, _, r1⟩ := DSite.rd.1 h
  obtain ⟨a1, c1, rfl, _⟩ := slice_open r1
  exact ⟨_, _, rfl⟩
theorem DSite.fshape {B : Nat} {w : World} {cs : List Value} {x : DSite} (h : Fresh DSite.rep B w cs x) : ∃ a1 c1, cs = [.string x.name, .int .i64 x.version, .slice a1 x.files.length c1, .bool x.shared] := by
  obtain ⟨fp, h, _⟩ := h
  exact DSite.shape h

end Go.Proofs.Yteajhmpppciicaa
