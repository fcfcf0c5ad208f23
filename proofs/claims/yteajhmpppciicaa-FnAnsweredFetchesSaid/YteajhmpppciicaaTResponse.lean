/-
  The type Response: its datum, how its cells read, how a law's argument is opened.
-/
import Derived.Test.YteajhmpppciicaaBase
namespace Go.Proofs.Yteajhmpppciicaa
open Go.RowKit

structure DResponse where
  type_ : Int
  status : Int
  version : Int
  body : List UInt8
  shares : Bool
  deriving DecidableEq

def DResponse.rep : Rep DResponse := Rep.iso (Rep.prod Rep.int (Rep.prod Rep.int (Rep.prod Rep.int (Rep.prod (Rep.slice 5 Rep.byte) Rep.bool)))) (fun x => (x.type_, x.status, x.version, x.body, x.shares))
theorem DResponse.rd {o : Bool} {w : World} {cs : List Value} {x : DResponse} {fp : List Nat} : DResponse.rep.rd o w cs x fp ↔ ∃ v1 f1, cs = [.int .i64 x.type_, .int .i64 x.status, .int .i64 x.version, v1, .bool x.shares] ∧ fp = f1 ∧ (Rep.slice 5 Rep.byte).rd o w [v1] x.body f1 := by
  constructor
  · intro h0
    obtain ⟨c0, e0, p0, q0, rfl, rfl, h0, ⟨c1, e1, p1, q1, rfl, rfl, h1, ⟨c2, e2, p2, q2, rfl, rfl, h2, ⟨c3, e3, p3, q3, rfl, rfl, h3, h4⟩⟩⟩⟩ := h0
    obtain ⟨rfl, rfl, s0⟩ := h0
    obtain ⟨rfl, rfl, s1⟩ := h1
    obtain ⟨rfl, rfl, s2⟩ := h2
    obtain ⟨v1, rfl, r1⟩ := slice_shape h3
    obtain ⟨rfl, rfl, s4⟩ := h4
    exact ⟨_, _, rfl, by simp, r1⟩
  · rintro ⟨v1, f1, rfl, hfp, r1⟩
    exact ⟨[.int .i64 x.type_], [.int .i64 x.status, .int .i64 x.version, v1, .bool x.shares], [], f1, rfl, by simp [hfp], ⟨rfl, rfl, trivial⟩, ⟨[.int .i64 x.status], [.int .i64 x.version, v1, .bool x.shares], [], f1, rfl, by simp, ⟨rfl, rfl, trivial⟩, ⟨[.int .i64 x.version], [v1, .bool x.shares], [], f1, rfl, by simp, ⟨rfl, rfl, trivial⟩, ⟨[v1], [.bool x.shares], f1, [], rfl, by simp, r1, ⟨rfl, rfl, trivial⟩⟩⟩⟩⟩
theorem DResponse.fresh {B l3 u3 : Nat} {v1 : Value} {w : World} {x : DResponse} (p3 : Part (Rep.slice 5 Rep.byte) l3 u3 w [v1] x.body) (b3 : B ≤ l3)   : Fresh DResponse.rep B w [.int .i64 x.type_, .int .i64 x.status, .int .i64 x.version, v1, .bool x.shares] x := by
  obtain ⟨f3, r3, n3, m3⟩ := p3
  refine ⟨f3, ⟨[.int .i64 x.type_], [.int .i64 x.status, .int .i64 x.version, v1, .bool x.shares], [], f3, rfl, by simp, ⟨rfl, rfl, trivial⟩, ⟨[.int .i64 x.status], [.int .i64 x.version, v1, .bool x.shares], [], f3, rfl, by simp, ⟨rfl, rfl, trivial⟩, ⟨[.int .i64 x.version], [v1, .bool x.shares], [], f3, rfl, by simp, ⟨rfl, rfl, trivial⟩, ⟨[v1], [.bool x.shares], f3, [], rfl, by simp, r3, ⟨rfl, rfl, trivial⟩⟩⟩⟩⟩, ?_, ?_⟩
  · exact n3
  · intro b hb
    rcases hb with hb
    · have := m3 b hb; omega
theorem DResponse.parts {o : Bool} {w : World} {cs : List Value} {x : DResponse} {fp : List Nat} (h : DResponse.rep.rd o w cs x fp) : ∃ v1 f3, cs = [.int .i64 x.type_, .int .i64 x.status, .int .i64 x.version, v1, .bool x.shares] ∧ fp = f3 ∧ (Rep.slice 5 Rep.byte).rd o w [v1] x.body f3 := by
  obtain ⟨c0, e0, p0, q0, rfl, rfl, h0, ⟨c1, e1, p1, q1, rfl, rfl, h1, ⟨c2, e2, p2, q2, rfl, rfl, h2, ⟨c3, e3, p3, q3, rfl, rfl, h3, h4⟩⟩⟩⟩ := h
  obtain ⟨rfl, rfl, s0⟩ := h0
  obtain ⟨rfl, rfl, s1⟩ := h1
  obtain ⟨rfl, rfl, s2⟩ := h2
  obtain ⟨v1, rfl, h3⟩ := slice_shape h3
  obtain ⟨rfl, rfl, s4⟩ := h4
  exact ⟨_, _, rfl, by simp, h3⟩
theorem DResponse.join {o : Bool} {w : World} {x : DResponse} (c3 : List Value) (f3 : List Nat) (r3 : (Rep.slice 5 Rep.byte).rd o w c3 x.body f3)  : DResponse.rep.rd o w ([.int .i64 x.type_] ++ ([.int .i64 x.status] ++ ([.int .i64 x.version] ++ (c3 ++ ([.bool x.shares]))))) x (f3) := by
  exact ⟨[.int .i64 x.type_], [.int .i64 x.status] ++ ([.int .i64 x.version] ++ (c3 ++ ([.bool x.shares]))), [], f3, rfl, by simp, ⟨rfl, rfl, trivial⟩, ⟨[.int .i64 x.status], [.int .i64 x.version] ++ (c3 ++ ([.bool x.shares])), [], f3, rfl, by simp, ⟨rfl, rfl, trivial⟩, ⟨[.int .i64 x.version], c3 ++ ([.bool x.shares]), [], f3, rfl, by simp, ⟨rfl, rfl, trivial⟩, ⟨c3, [.bool x.shares], f3, [], rfl, by simp, r3, ⟨rfl, rfl, trivial⟩⟩⟩⟩⟩
theorem DResponse.shape {o : Bool} {w : World} {cs : List Value} {x : DResponse} {fp : List Nat} (h : DResponse.rep.rd o w cs x fp) : ∃ a1 c1, cs = [.int .i64 x.type_, .int .i64 x.status, .int .i64 x.version, .slice a1 x.body.length c1, .bool x.shares] := by
  obtain ⟨v1, f1, rfl, _, r1⟩ := DResponse.rd.1 h
  obtain ⟨a1, c1, rfl, _⟩ := slice_open r1
  exact ⟨_, _, rfl⟩
theorem DResponse.fshape {B : Nat} {w : World} {cs : List Value} {x : DResponse} (h : Fresh DResponse.rep B w cs x) : ∃ a1 c1, cs = [.int .i64 x.type_, .int .i64 x.status, .int .i64 x.version, .slice a1 x.body.length c1, .bool x.shares] := by
  obtain ⟨fp, h, _⟩ := h
  exact DResponse.shape h

end Go.Proofs.Yteajhmpppciicaa
