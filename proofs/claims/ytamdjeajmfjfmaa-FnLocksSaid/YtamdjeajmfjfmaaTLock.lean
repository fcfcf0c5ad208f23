/-
  The type Lock: its datum, how its cells read, how a law's argument is opened.
-/
import Derived.Test.YtamdjeajmfjfmaaBase
namespace Go.Proofs.Ytamdjeajmfjfmaa
open Go.RowKit

structure DLock where
  name : ByteArray
  page : Int
  shared : Bool
  held : Bool
  deriving DecidableEq

def DLock.rep : Rep DLock := Rep.iso (Rep.prod Rep.str (Rep.prod Rep.int (Rep.prod Rep.bool Rep.bool))) (fun x => (x.name, x.page, x.shared, x.held))
theorem DLock.rd {o : Bool} {w : World} {cs : List Value} {x : DLock} {fp : List Nat} : DLock.rep.rd o w cs x fp ↔ cs = [.string x.name, .int .i64 x.page, .bool x.shared, .bool x.held] ∧ fp = [] ∧ x.name.size ≤ maxLen := by
  constructor
  · intro h0
    obtain ⟨c0, e0, p0, q0, rfl, rfl, h0, ⟨c1, e1, p1, q1, rfl, rfl, h1, ⟨c2, e2, p2, q2, rfl, rfl, h2, h3⟩⟩⟩ := h0
    obtain ⟨rfl, rfl, s0⟩ := h0
    obtain ⟨rfl, rfl, s1⟩ := h1
    obtain ⟨rfl, rfl, s2⟩ := h2
    obtain ⟨rfl, rfl, s3⟩ := h3
    exact ⟨rfl, by simp, s0⟩
  · rintro ⟨rfl, hfp, s0⟩
    exact ⟨[.string x.name], [.int .i64 x.page, .bool x.shared, .bool x.held], [], [], rfl, by simp [hfp], ⟨rfl, rfl, s0⟩, ⟨[.int .i64 x.page], [.bool x.shared, .bool x.held], [], [], rfl, by simp, ⟨rfl, rfl, trivial⟩, ⟨[.bool x.shared], [.bool x.held], [], [], rfl, by simp, ⟨rfl, rfl, trivial⟩, ⟨rfl, rfl, trivial⟩⟩⟩⟩
def DLock.enc (x : DLock) : List Value := [.string x.name, .int .i64 x.page, .bool x.shared, .bool x.held]
theorem DLock.flat : FlatR DLock.rep DLock.enc (fun x => x.name.size ≤ maxLen) := ⟨fun {_ _ _ _ _} => DLock.rd⟩

end Go.Proofs.Ytamdjeajmfjfmaa
