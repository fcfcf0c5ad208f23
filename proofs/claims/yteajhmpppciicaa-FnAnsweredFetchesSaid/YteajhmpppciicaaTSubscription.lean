/-
  The type Subscription: its datum, how its cells read, how a law's argument is opened.
-/
import Derived.Test.YteajhmpppciicaaBase
namespace Go.Proofs.Yteajhmpppciicaa
open Go.RowKit

structure DSubscription where
  site : ByteArray
  secret : Int
  last : Int
  deriving DecidableEq

def DSubscription.rep : Rep DSubscription := Rep.iso (Rep.prod Rep.str (Rep.prod Rep.int Rep.int)) (fun x => (x.site, x.secret, x.last))
theorem DSubscription.rd {o : Bool} {w : World} {cs : List Value} {x : DSubscription} {fp : List Nat} : DSubscription.rep.rd o w cs x fp ↔ cs = [.string x.site, .int .i64 x.secret, .int .i64 x.last] ∧ fp = [] ∧ x.site.size ≤ maxLen := by
  constructor
  · intro h0
    obtain ⟨c0, e0, p0, q0, rfl, rfl, h0, ⟨c1, e1, p1, q1, rfl, rfl, h1, h2⟩⟩ := h0
    obtain ⟨rfl, rfl, s0⟩ := h0
    obtain ⟨rfl, rfl, s1⟩ := h1
    obtain ⟨rfl, rfl, s2⟩ := h2
    exact ⟨rfl, by simp, s0⟩
  · rintro ⟨rfl, hfp, s0⟩
    exact ⟨[.string x.site], [.int .i64 x.secret, .int .i64 x.last], [], [], rfl, by simp [hfp], ⟨rfl, rfl, s0⟩, ⟨[.int .i64 x.secret], [.int .i64 x.last], [], [], rfl, by simp, ⟨rfl, rfl, trivial⟩, ⟨rfl, rfl, trivial⟩⟩⟩
def DSubscription.enc (x : DSubscription) : List Value := [.string x.site, .int .i64 x.secret, .int .i64 x.last]
theorem DSubscription.flat : FlatR DSubscription.rep DSubscription.enc (fun x => x.site.size ≤ maxLen) := ⟨fun {_ _ _ _ _} => DSubscription.rd⟩

end Go.Proofs.Yteajhmpppciicaa
