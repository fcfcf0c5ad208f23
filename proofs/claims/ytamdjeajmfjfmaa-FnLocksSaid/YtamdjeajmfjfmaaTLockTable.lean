/-
  The type LockTable: its datum, how its cells read, how a law's argument is opened.
-/
import Derived.Test.YtamdjeajmfjfmaaTLock
namespace Go.Proofs.Ytamdjeajmfjfmaa
open Go.RowKit

structure DLockTable where
  locks : List DLock
  deriving DecidableEq

def DLockTable.rep : Rep DLockTable := Rep.iso ((Rep.slice 33 DLock.rep)) (fun x => x.locks)
theorem DLockTable.rd {o : Bool} {w : World} {cs : List Value} {x : DLockTable} {fp : List Nat} : DLockTable.rep.rd o w cs x fp ↔ ∃ v1 f1, cs = [v1] ∧ fp = f1 ∧ (Rep.slice 33 DLock.rep).rd o w [v1] x.locks f1 := by
  constructor
  · intro h0
    obtain ⟨v1, rfl, r1⟩ := slice_shape h0
    exact ⟨_, _, rfl, by simp, r1⟩
  · rintro ⟨v1, f1, rfl, hfp, r1⟩
    rw [hfp]
    exact r1
theorem DLockTable.fresh {B l0 u0 : Nat} {v1 : Value} {w : World} {x : DLockTable} (p0 : Part (Rep.slice 33 DLock.rep) l0 u0 w [v1] x.locks) (b0 : B ≤ l0)   : Fresh DLockTable.rep B w [v1] x := by
  obtain ⟨f0, r0, n0, m0⟩ := p0
  refine ⟨f0, r0, ?_, ?_⟩
  · exact n0
  · intro b hb
    rcases hb with hb
    · have := m0 b hb; omega
theorem DLockTable.parts {o : Bool} {w : World} {cs : List Value} {x : DLockTable} {fp : List Nat} (h : DLockTable.rep.rd o w cs x fp) : ∃ v1 f0, cs = [v1] ∧ fp = f0 ∧ (Rep.slice 33 DLock.rep).rd o w [v1] x.locks f0 := by
  have h0 := h
  obtain ⟨v1, rfl, h0⟩ := slice_shape h0
  exact ⟨_, _, rfl, by simp, h0⟩
theorem DLockTable.join {o : Bool} {w : World} {x : DLockTable} (c0 : List Value) (f0 : List Nat) (r0 : (Rep.slice 33 DLock.rep).rd o w c0 x.locks f0)  : DLockTable.rep.rd o w (c0) x (f0) := by
  exact r0
theorem DLockTable.shape {o : Bool} {w : World} {cs : List Value} {x : DLockTable} {fp : List Nat} (h : DLockTable.rep.rd o w cs x fp) : ∃ a1 c1, cs = [.slice a1 x.locks.length c1] := by
  obtain ⟨v1, f1, rfl, _, r1⟩ := DLockTable.rd.1 h
  obtain ⟨a1, c1, rfl, _⟩ := slice_open r1
  exact ⟨_, _, rfl⟩
theorem DLockTable.fshape {B : Nat} {w : World} {cs : List Value} {x : DLockTable} (h : Fresh DLockTable.rep B w cs x) : ∃ a1 c1, cs = [.slice a1 x.locks.length c1] := by
  obtain ⟨fp, h, _⟩ := h
  exact DLockTable.shape h

end Go.Proofs.Ytamdjeajmfjfmaa
