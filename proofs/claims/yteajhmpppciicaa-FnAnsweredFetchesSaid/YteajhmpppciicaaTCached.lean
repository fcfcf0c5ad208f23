/-
  The type Cached: its datum, how its cells read, how a law's argument is opened.
-/
import Derived.Test.YteajhmpppciicaaTResponse
namespace Go.Proofs.Yteajhmpppciicaa
open Go.RowKit

structure DCached where
  site : ByteArray
  path : ByteArray
  response : DResponse
  deriving DecidableEq

def DCached.rep : Rep DCached := Rep.iso (Rep.prod Rep.str (Rep.prod Rep.str DResponse.rep)) (fun x => (x.site, x.path, x.response))
theorem DCached.rd {o : Bool} {w : World} {cs : List Value} {x : DCached} {fp : List Nat} : DCached.rep.rd o w cs x fp ↔ ∃ v1 f1, cs = [.string x.site, .string x.path, .int .i64 x.response.type_, .int .i64 x.response.status, .int .i64 x.response.version, v1, .bool x.response.shares] ∧ fp = f1 ∧ x.site.size ≤ maxLen ∧ x.path.size ≤ maxLen ∧ (Rep.slice 5 Rep.byte).rd o w [v1] x.response.body f1 := by
  constructor
  · intro h0
    obtain ⟨c0, e0, p0, q0, rfl, rfl, h0, ⟨c1, e1, p1, q1, rfl, rfl, h1, h2⟩⟩ := h0
    obtain ⟨rfl, rfl, s0⟩ := h0
    obtain ⟨rfl, rfl, s1⟩ := h1
    obtain ⟨v1, g1, rfl, rfl, r1⟩ := DResponse.rd.1 h2
    exact ⟨_, _, rfl, by simp, s0, s1, r1⟩
  · rintro ⟨v1, f1, rfl, hfp, s0, s1, r1⟩
    exact ⟨[.string x.site], [.string x.path, .int .i64 x.response.type_, .int .i64 x.response.status, .int .i64 x.response.version, v1, .bool x.response.shares], [], f1, rfl, by simp [hfp], ⟨rfl, rfl, s0⟩, ⟨[.string x.path], [.int .i64 x.response.type_, .int .i64 x.response.status, .int .i64 x.response.version, v1, .bool x.response.shares], [], f1, rfl, by simp, ⟨rfl, rfl, s1⟩, DResponse.rd.2 ⟨_, _, rfl, rfl, r1⟩⟩⟩
theorem DCached.fresh {B l2 u2 : Nat} {v1 : Value} {w : World} {x : DCached} (p2 : Part DResponse.rep l2 u2 w [.int .i64 x.response.type_, .int .i64 x.response.status, .int .i64 x.response.version, v1, .bool x.response.shares] x.response) (b2 : B ≤ l2)  (s0 : x.site.size ≤ maxLen) (s1 : x.path.size ≤ maxLen) : Fresh DCached.rep B w [.string x.site, .string x.path, .int .i64 x.response.type_, .int .i64 x.response.status, .int .i64 x.response.version, v1, .bool x.response.shares] x := by
  obtain ⟨f2, r2, n2, m2⟩ := p2
  refine ⟨f2, ⟨[.string x.site], [.string x.path, .int .i64 x.response.type_, .int .i64 x.response.status, .int .i64 x.response.version, v1, .bool x.response.shares], [], f2, rfl, by simp, ⟨rfl, rfl, s0⟩, ⟨[.string x.path], [.int .i64 x.response.type_, .int .i64 x.response.status, .int .i64 x.response.version, v1, .bool x.response.shares], [], f2, rfl, by simp, ⟨rfl, rfl, s1⟩, r2⟩⟩, ?_, ?_⟩
  · exact n2
  · intro b hb
    rcases hb with hb
    · have := m2 b hb; omega
theorem DCached.parts {o : Bool} {w : World} {cs : List Value} {x : DCached} {fp : List Nat} (h : DCached.rep.rd o w cs x fp) : ∃ v1 f2, cs = [.string x.site, .string x.path, .int .i64 x.response.type_, .int .i64 x.response.status, .int .i64 x.response.version, v1, .bool x.response.shares] ∧ fp = f2 ∧ x.site.size ≤ maxLen ∧ x.path.size ≤ maxLen ∧ DResponse.rep.rd o w [.int .i64 x.response.type_, .int .i64 x.response.status, .int .i64 x.response.version, v1, .bool x.response.shares] x.response f2 := by
  obtain ⟨c0, e0, p0, q0, rfl, rfl, h0, ⟨c1, e1, p1, q1, rfl, rfl, h1, h2⟩⟩ := h
  obtain ⟨rfl, rfl, s0⟩ := h0
  obtain ⟨rfl, rfl, s1⟩ := h1
  have h2b := h2
  obtain ⟨v1, _, rfl, _, _⟩ := DResponse.rd.1 h2
  exact ⟨_, _, rfl, by simp, s0, s1, h2b⟩
theorem DCached.join {o : Bool} {w : World} {x : DCached} (c2 : List Value) (f2 : List Nat) (r2 : DResponse.rep.rd o w c2 x.response f2) (s0 : x.site.size ≤ maxLen) (s1 : x.path.size ≤ maxLen) : DCached.rep.rd o w ([.string x.site] ++ ([.string x.path] ++ (c2))) x (f2) := by
  exact ⟨[.string x.site], [.string x.path] ++ (c2), [], f2, rfl, by simp, ⟨rfl, rfl, s0⟩, ⟨[.string x.path], c2, [], f2, rfl, by simp, ⟨rfl, rfl, s1⟩, r2⟩⟩
theorem DCached.shape {o : Bool} {w : World} {cs : List Value} {x : DCached} {fp : List Nat} (h : DCached.rep.rd o w cs x fp) : ∃ a1 c1, cs = [.string x.site, .string x.path, .int .i64 x.response.type_, .int .i64 x.response.status, .int .i64 x.response.version, .slice a1 x.response.body.length c1, .bool x.response.shares] := by
  obtain ⟨v1, f1, rfl, _, _, _, r1⟩ := DCached.rd.1 h
  obtain ⟨a1, c1, rfl, _⟩ := slice_open r1
  exact ⟨_, _, rfl⟩
theorem DCached.fshape {B : Nat} {w : World} {cs : List Value} {x : DCached} (h : Fresh DCached.rep B w cs x) : ∃ a1 c1, cs = [.string x.site, .string x.path, .int .i64 x.response.type_, .int .i64 x.response.status, .int .i64 x.response.version, .slice a1 x.response.body.length c1, .bool x.response.shares] := by
  obtain ⟨fp, h, _⟩ := h
  exact DCached.shape h

end Go.Proofs.Yteajhmpppciicaa
