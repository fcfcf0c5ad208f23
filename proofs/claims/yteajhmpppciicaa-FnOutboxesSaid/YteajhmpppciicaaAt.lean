/-
  laws.big, laws.at, laws.sameBytes.
-/
import Derived.Test.YteajhmpppciicaaBase
import Derived.Deep.RegionLaw
namespace Go.Proofs.Yteajhmpppciicaa
open Go.RowKit

/-- The byte at a place, or what stands for it. -/
def atN (l : List UInt8) (k : Nat) : Int := if h : k < l.length then (l[k].toNat : Int) else (((k * 31 + l.length * 7) % 256 : Nat) : Int)
theorem atN_ge (l : List UInt8) (k : Nat) : 0 ≤ atN l k ∧ atN l k ≤ 255 := by
  unfold atN
  split
  · rename_i h; have := l[k].toNat_lt; omega
  · omega

set_option maxHeartbeats 800000 in
theorem lawBig (v : Value) (l : List UInt8) (w : World) (h : Reads Rep.bytes w [v] l) :
    Calls Try.prog 5 #[v] w fun e w' => e = .returned (.bool (decide (1048576 < l.length))) ∧ w = w' := by
  obtain ⟨fp, h⟩ := h
  obtain ⟨ao, c1, rfl, hm, _, hu⟩ := slice_open h
  clear hu h
  go_enter Try.func5, Try.ntmps5
  go_wp2
  go_ret
  exact ⟨ret_bool (by rw [decide_eq_decide]; omega), rfl⟩

end Go.Proofs.Yteajhmpppciicaa
