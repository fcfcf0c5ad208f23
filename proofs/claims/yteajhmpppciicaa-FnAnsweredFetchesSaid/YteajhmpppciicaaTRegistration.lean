/-
  The type Registration: its datum, how its cells read, how a law's argument is opened.
-/
import Derived.Test.YteajhmpppciicaaBase
namespace Go.Proofs.Yteajhmpppciicaa
open Go.RowKit

structure DRegistration where
  site : ByteArray
  installing : Int
  waiting : Int
  active : Int
  deriving DecidableEq

def DRegistration.rep : Rep DRegistration := Rep.iso (Rep.prod Rep.str (Rep.prod Rep.int (Rep.prod Rep.int Rep.int))) (fun x => (x.site, x.installing, x.waiting, x.active))
theorem DRegistration.rd {o : Bool} {w : World} {cs : List Value} {x : DRegistration} {fp : List Nat} : DRegistration.rep.rd o w cs x fp ↔ cs = [.string x.site, .int .i64 x.installing, .int .i64 x.waiting, .int .i64 x.active] ∧ fp = [] ∧ x.site.size ≤ maxLen := by
  constructor
  · intro h0
    obtain ⟨c0, e0, p0, q0, rfl, rfl, h0, ⟨c1, e1, p1, q1, rfl, rfl, h1, ⟨c2, e2, p2, q2, rfl, rfl, h2, h3⟩⟩⟩ := h0
    obtain ⟨rfl, rfl, s0⟩ := h0
    obtain ⟨rfl, rfl, s1⟩ := h1
    obtain ⟨rfl, rfl, s2⟩ := h2
    obtain ⟨rfl, rfl, s3⟩ := h3
    exact ⟨rfl, by simp, s0⟩
  · rintro ⟨rfl, hfp, s0⟩
    exact ⟨[.string x.site], [.int .i64 x.installing, .int .i64 x.waiting, .int .i64 x.active], [], [], rfl, by simp [hfp], ⟨rfl, rfl, s0⟩, ⟨[.int .i64 x.installing], [.int .i64 x.waiting, .int .i64 x.active], [], [], rfl, by simp, ⟨rfl, rfl, trivial⟩, ⟨[.int .i64 x.waiting], [.int .i64 x.active], [], [], rfl, by simp, ⟨rfl, rfl, trivial⟩, ⟨rfl, rfl, trivial⟩⟩⟩⟩
def DRegistration.enc (x : DRegistration) : List Value := [.string x.site, .int .i64 x.installing, .int .i64 x.waiting, .int .i64 x.active]
theorem DRegistration.flat : FlatR DRegistration.rep DRegistration.enc (fun x => x.site.size ≤ maxLen) := ⟨fun {_ _ _ _ _} => DRegistration.rd⟩

end Go.Proofs.Yteajhmpppciicaa
