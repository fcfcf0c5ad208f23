/-
  The type Push: its datum, how its cells read, how a law's argument is opened.
-/
import Derived.Test.YteajhmpppciicaaBase
namespace Go.Proofs.Yteajhmpppciicaa
open Go.RowKit

structure DPush where
  site : ByteArray
  number : Int
  data : List UInt8
  mac : Int
  deriving DecidableEq

def DPush.rep : Rep DPush := Rep.iso (Rep.prod Rep.str (Rep.prod Rep.int (Rep.prod (Rep.slice 5 Rep.byte) Rep.int))) (fun x => (x.site, x.number, x.data, x.mac))
theorem DPush.rd {o : Bool} {w : World} {cs : List Value} {x : DPush} {fp : List Nat} : DPush.rep.rd o w cs x fp ↔ ∃ v1 f1, cs = [.string x.site, .int .i64 x.number, v1, .int .i64 x.mac] ∧ fp = f1 ∧ x.site.size ≤ maxLen ∧ (Rep.slice 5 Rep.byte).rd o w [v1] x.data f1 := by
  constructor
  · intro h0
    obtain ⟨c0, e0, p0, q0, rfl, rfl, h0, ⟨c1, e1, p1, q1, rfl, rfl, h1, ⟨c2, e2, p2, q2, rfl, rfl, h2, h3⟩⟩⟩ := h0
    obtain ⟨rfl, rfl, s0⟩ := h0
    obtain ⟨rfl, rfl, s1⟩ := h1
    obtain ⟨v1, rfl, r1⟩ := slice_shape h2
    obtain ⟨rfl, rfl, s3⟩ := h3
    exact ⟨_, _, rfl, by simp, s0, r1⟩
  · rintro ⟨v1, f1, rfl, hfp, s0, r1⟩
    exact ⟨[.string x.site], [.int .i64 x.number, v1, .int .i64 x.mac], [], f1, rfl, by simp [hfp], ⟨rfl, rfl, s0⟩, ⟨[.int .i64 x.number], [v1, .int .i64 x.mac], [], f1, rfl, by simp, ⟨rfl, rfl, trivial⟩, ⟨[v1], [.int .i64 x.mac], f1, [], rfl, by simp, r1, ⟨rfl, rfl, trivial⟩⟩⟩⟩
theorem DPush.fresh {B l2 u2 : Nat} {v1 : Value} {w : World} {x : DPush} (p2 : Part (Rep.slice 5 Rep.byte) l2 u2 w [v1] x.data) (b2 : B ≤ l2)  (s0 : x.site.size ≤ maxLen) : Fresh DPush.rep B w [.string x.site, .int .i64 x.number, v1, .int .i64 x.mac] x := by
  obtain ⟨f2, r2, n2, m2⟩ := p2
  refine ⟨f2, ⟨[.string x.site], [.int .i64 x.number, v1, .int .i64 x.mac], [], f2, rfl, by simp, ⟨rfl, rfl, s0⟩, ⟨[.int .i64 x.number], [v1, .int .i64 x.mac], [], f2, rfl, by simp, ⟨rfl, rfl, trivial⟩, ⟨[v1], [.int .i64 x.mac], f2, [], rfl, by simp, r2, ⟨rfl, rfl, trivial⟩⟩⟩⟩, ?_, ?_⟩
  · exact n2
  · intro b hb
    rcases hb with hb
    · have := m2 b hb; omega
theorem DPush.parts {o : Bool} {w : World} {cs : List Value} {x : DPush} {fp : List Nat} (h : DPush.rep.rd o w cs x fp) : ∃ v1 f2, cs = [.string x.site, .int .i64 x.number, v1, .int .i64 x.mac] ∧ fp = f2 ∧ x.site.size ≤ maxLen ∧ (Rep.slice 5 Rep.byte).rd o w [v1] x.data f2 := by
  obtain ⟨c0, e0, p0, q0, rfl, rfl, h0, ⟨c1, e1, p1, q1, rfl, rfl, h1, ⟨c2, e2, p2, q2, rfl, rfl, h2, h3⟩⟩⟩ := h
  obtain ⟨rfl, rfl, s0⟩ := h0
  obtain ⟨rfl, rfl, s1⟩ := h1
  obtain ⟨v1, rfl, h2⟩ := slice_shape h2
  obtain ⟨rfl, rfl, s3⟩ := h3
  exact ⟨_, _, rfl, by simp, s0, h2⟩
theorem DPush.join {o : Bool} {w : World} {x : DPush} (c2 : List Value) (f2 : List Nat) (r2 : (Rep.slice 5 Rep.byte).rd o w c2 x.data f2) (s0 : x.site.size ≤ maxLen) : DPush.rep.rd o w ([.string x.site] ++ ([.int .i64 x.number] ++ (c2 ++ ([.int .i64 x.mac])))) x (f2) := by
  exact ⟨[.string x.site], [.int .i64 x.number] ++ (c2 ++ ([.int .i64 x.mac])), [], f2, rfl, by simp, ⟨rfl, rfl, s0⟩, ⟨[.int .i64 x.number], c2 ++ ([.int .i64 x.mac]), [], f2, rfl, by simp, ⟨rfl, rfl, trivial⟩, ⟨c2, [.int .i64 x.mac], f2, [], rfl, by simp, r2, ⟨rfl, rfl, trivial⟩⟩⟩⟩
theorem DPush.shape {o : Bool} {w : World} {cs : List Value} {x : DPush} {fp : List Nat} (h : DPush.rep.rd o w cs x fp) : ∃ a1 c1, cs = [.string x.site, .int .i64 x.number, .slice a1 x.data.length c1, .int .i64 x.mac] := by
  obtain ⟨v1, f1, rfl, _, _, r1⟩ := DPush.rd.1 h
  obtain ⟨a1, c1, rfl, _⟩ := slice_open r1
  exact ⟨_, _, rfl⟩
theorem DPush.fshape {B : Nat} {w : World} {cs : List Value} {x : DPush} (h : Fresh DPush.rep B w cs x) : ∃ a1 c1, cs = [.string x.site, .int .i64 x.number, .slice a1 x.data.length c1, .int .i64 x.mac] := by
  obtain ⟨fp, h, _⟩ := h
  exact DPush.shape h

end Go.Proofs.Yteajhmpppciicaa
