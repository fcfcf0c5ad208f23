/-
  TFam: TKey, TField, TRecord, TItem, TStore, TWrite, TOutbox, TApplied, TServer, TSync, TReplica, in one text.
-/
import Derived.Test.YteajhmpppciicaaBase

/-
  The type Key: its datum, how its cells read, how a law's argument is opened.
-/
namespace Go.Proofs.Yteajhmpppciicaa
open Go.RowKit

structure DKey where
  kind : Int
  n : Int
  text : ByteArray
  deriving DecidableEq

def DKey.rep : Rep DKey := Rep.iso (Rep.prod Rep.int (Rep.prod Rep.int Rep.str)) (fun x => (x.kind, x.n, x.text))
theorem DKey.rd {o : Bool} {w : World} {cs : List Value} {x : DKey} {fp : List Nat} : DKey.rep.rd o w cs x fp ↔ cs = [.int .i64 x.kind, .int .i64 x.n, .string x.text] ∧ fp = [] ∧ x.text.size ≤ maxLen := by
  constructor
  · intro h0
    obtain ⟨c0, e0, p0, q0, rfl, rfl, h0, ⟨c1, e1, p1, q1, rfl, rfl, h1, h2⟩⟩ := h0
    obtain ⟨rfl, rfl, s0⟩ := h0
    obtain ⟨rfl, rfl, s1⟩ := h1
    obtain ⟨rfl, rfl, s2⟩ := h2
    exact ⟨rfl, by simp, s2⟩
  · rintro ⟨rfl, hfp, s0⟩
    exact ⟨[.int .i64 x.kind], [.int .i64 x.n, .string x.text], [], [], rfl, by simp [hfp], ⟨rfl, rfl, trivial⟩, ⟨[.int .i64 x.n], [.string x.text], [], [], rfl, by simp, ⟨rfl, rfl, trivial⟩, ⟨rfl, rfl, s0⟩⟩⟩
def DKey.enc (x : DKey) : List Value := [.int .i64 x.kind, .int .i64 x.n, .string x.text]
theorem DKey.flat : FlatR DKey.rep DKey.enc (fun x => x.text.size ≤ maxLen) := ⟨fun {_ _ _ _ _} => DKey.rd⟩

end Go.Proofs.Yteajhmpppciicaa


/-
  The type Field: its datum, how its cells read, how a law's argument is opened.
-/
namespace Go.Proofs.Yteajhmpppciicaa
open Go.RowKit

structure DField where
  name : ByteArray
  n : Int
  deriving DecidableEq

def DField.rep : Rep DField := Rep.iso (Rep.prod Rep.str Rep.int) (fun x => (x.name, x.n))
theorem DField.rd {o : Bool} {w : World} {cs : List Value} {x : DField} {fp : List Nat} : DField.rep.rd o w cs x fp ↔ cs = [.string x.name, .int .i64 x.n] ∧ fp = [] ∧ x.name.size ≤ maxLen := by
  constructor
  · intro h0
    obtain ⟨c0, e0, p0, q0, rfl, rfl, h0, h1⟩ := h0
    obtain ⟨rfl, rfl, s0⟩ := h0
    obtain ⟨rfl, rfl, s1⟩ := h1
    exact ⟨rfl, by simp, s0⟩
  · rintro ⟨rfl, hfp, s0⟩
    exact ⟨[.string x.name], [.int .i64 x.n], [], [], rfl, by simp [hfp], ⟨rfl, rfl, s0⟩, ⟨rfl, rfl, trivial⟩⟩
def DField.enc (x : DField) : List Value := [.string x.name, .int .i64 x.n]
theorem DField.flat : FlatR DField.rep DField.enc (fun x => x.name.size ≤ maxLen) := ⟨fun {_ _ _ _ _} => DField.rd⟩

end Go.Proofs.Yteajhmpppciicaa


/-
  The type Record: its datum, how its cells read, how a law's argument is opened.
-/
namespace Go.Proofs.Yteajhmpppciicaa
open Go.RowKit

structure DRecord where
  fields : List DField
  deriving DecidableEq

end Go.Proofs.Yteajhmpppciicaa


/-
  The type Item: its datum, how its cells read, how a law's argument is opened.
-/
namespace Go.Proofs.Yteajhmpppciicaa
open Go.RowKit

structure DItem where
  key : DKey
  record : DRecord
  deriving DecidableEq

end Go.Proofs.Yteajhmpppciicaa


/-
  The type Store: its datum, how its cells read, how a law's argument is opened.
-/
namespace Go.Proofs.Yteajhmpppciicaa
open Go.RowKit

structure DStore where
  name : ByteArray
  items : List DItem
  auto : Int
  deriving DecidableEq

end Go.Proofs.Yteajhmpppciicaa


/-
  The type Write: its datum, how its cells read, how a law's argument is opened.
-/
namespace Go.Proofs.Yteajhmpppciicaa
open Go.RowKit

structure DWrite where
  device : Int
  seq : Int
  key : DKey
  field : ByteArray
  n : Int
  deriving DecidableEq

def DWrite.rep : Rep DWrite := Rep.iso (Rep.prod Rep.int (Rep.prod Rep.int (Rep.prod DKey.rep (Rep.prod Rep.str Rep.int)))) (fun x => (x.device, x.seq, x.key, x.field, x.n))
theorem DWrite.rd {o : Bool} {w : World} {cs : List Value} {x : DWrite} {fp : List Nat} : DWrite.rep.rd o w cs x fp ↔ cs = [.int .i64 x.device, .int .i64 x.seq, .int .i64 x.key.kind, .int .i64 x.key.n, .string x.key.text, .string x.field, .int .i64 x.n] ∧ fp = [] ∧ x.key.text.size ≤ maxLen ∧ x.field.size ≤ maxLen := by
  constructor
  · intro h0
    obtain ⟨c0, e0, p0, q0, rfl, rfl, h0, ⟨c1, e1, p1, q1, rfl, rfl, h1, ⟨c2, e2, p2, q2, rfl, rfl, h2, ⟨c3, e3, p3, q3, rfl, rfl, h3, h4⟩⟩⟩⟩ := h0
    obtain ⟨rfl, rfl, s0⟩ := h0
    obtain ⟨rfl, rfl, s1⟩ := h1
    obtain ⟨rfl, rfl, t2_0⟩ := DKey.rd.1 h2
    obtain ⟨rfl, rfl, s3⟩ := h3
    obtain ⟨rfl, rfl, s4⟩ := h4
    exact ⟨rfl, by simp, t2_0, s3⟩
  · rintro ⟨rfl, hfp, s0, s1⟩
    exact ⟨[.int .i64 x.device], [.int .i64 x.seq, .int .i64 x.key.kind, .int .i64 x.key.n, .string x.key.text, .string x.field, .int .i64 x.n], [], [], rfl, by simp [hfp], ⟨rfl, rfl, trivial⟩, ⟨[.int .i64 x.seq], [.int .i64 x.key.kind, .int .i64 x.key.n, .string x.key.text, .string x.field, .int .i64 x.n], [], [], rfl, by simp, ⟨rfl, rfl, trivial⟩, ⟨[.int .i64 x.key.kind, .int .i64 x.key.n, .string x.key.text], [.string x.field, .int .i64 x.n], [], [], rfl, by simp, DKey.rd.2 ⟨rfl, rfl, s0⟩, ⟨[.string x.field], [.int .i64 x.n], [], [], rfl, by simp, ⟨rfl, rfl, s1⟩, ⟨rfl, rfl, trivial⟩⟩⟩⟩⟩
def DWrite.enc (x : DWrite) : List Value := [.int .i64 x.device, .int .i64 x.seq, .int .i64 x.key.kind, .int .i64 x.key.n, .string x.key.text, .string x.field, .int .i64 x.n]
theorem DWrite.flat : FlatR DWrite.rep DWrite.enc (fun x => x.key.text.size ≤ maxLen ∧ x.field.size ≤ maxLen) := ⟨fun {_ _ _ _ _} => DWrite.rd⟩

end Go.Proofs.Yteajhmpppciicaa


/-
  The type Outbox: its datum, how its cells read, how a law's argument is opened.
-/
namespace Go.Proofs.Yteajhmpppciicaa
open Go.RowKit

structure DOutbox where
  device : Int
  next : Int
  writes : List DWrite
  deriving DecidableEq

def DOutbox.rep : Rep DOutbox := Rep.iso (Rep.prod Rep.int (Rep.prod Rep.int (Rep.slice 35 DWrite.rep))) (fun x => (x.device, x.next, x.writes))
theorem DOutbox.rd {o : Bool} {w : World} {cs : List Value} {x : DOutbox} {fp : List Nat} : DOutbox.rep.rd o w cs x fp ↔ ∃ v1 f1, cs = [.int .i64 x.device, .int .i64 x.next, v1] ∧ fp = f1 ∧ (Rep.slice 35 DWrite.rep).rd o w [v1] x.writes f1 := by
  constructor
  · intro h0
    obtain ⟨c0, e0, p0, q0, rfl, rfl, h0, ⟨c1, e1, p1, q1, rfl, rfl, h1, h2⟩⟩ := h0
    obtain ⟨rfl, rfl, s0⟩ := h0
    obtain ⟨rfl, rfl, s1⟩ := h1
    obtain ⟨v1, rfl, r1⟩ := slice_shape h2
    exact ⟨_, _, rfl, by simp, r1⟩
  · rintro ⟨v1, f1, rfl, hfp, r1⟩
    exact ⟨[.int .i64 x.device], [.int .i64 x.next, v1], [], f1, rfl, by simp [hfp], ⟨rfl, rfl, trivial⟩, ⟨[.int .i64 x.next], [v1], [], f1, rfl, by simp, ⟨rfl, rfl, trivial⟩, r1⟩⟩
theorem DOutbox.fresh {B l2 u2 : Nat} {v1 : Value} {w : World} {x : DOutbox} (p2 : Part (Rep.slice 35 DWrite.rep) l2 u2 w [v1] x.writes) (b2 : B ≤ l2)   : Fresh DOutbox.rep B w [.int .i64 x.device, .int .i64 x.next, v1] x := by
  obtain ⟨f2, r2, n2, m2⟩ := p2
  refine ⟨f2, ⟨[.int .i64 x.device], [.int .i64 x.next, v1], [], f2, rfl, by simp, ⟨rfl, rfl, trivial⟩, ⟨[.int .i64 x.next], [v1], [], f2, rfl, by simp, ⟨rfl, rfl, trivial⟩, r2⟩⟩, ?_, ?_⟩
  · exact n2
  · intro b hb
    rcases hb with hb
    · have := m2 b hb; omega
theorem DOutbox.parts {o : Bool} {w : World} {cs : List Value} {x : DOutbox} {fp : List Nat} (h : DOutbox.rep.rd o w cs x fp) : ∃ v1 f2, cs = [.int .i64 x.device, .int .i64 x.next, v1] ∧ fp = f2 ∧ (Rep.slice 35 DWrite.rep).rd o w [v1] x.writes f2 := by
  obtain ⟨c0, e0, p0, q0, rfl, rfl, h0, ⟨c1, e1, p1, q1, rfl, rfl, h1, h2⟩⟩ := h
  obtain ⟨rfl, rfl, s0⟩ := h0
  obtain ⟨rfl, rfl, s1⟩ := h1
  obtain ⟨v1, rfl, h2⟩ := slice_shape h2
  exact ⟨_, _, rfl, by simp, h2⟩
theorem DOutbox.join {o : Bool} {w : World} {x : DOutbox} (c2 : List Value) (f2 : List Nat) (r2 : (Rep.slice 35 DWrite.rep).rd o w c2 x.writes f2)  : DOutbox.rep.rd o w ([.int .i64 x.device] ++ ([.int .i64 x.next] ++ (c2))) x (f2) := by
  exact ⟨[.int .i64 x.device], [.int .i64 x.next] ++ (c2), [], f2, rfl, by simp, ⟨rfl, rfl, trivial⟩, ⟨[.int .i64 x.next], c2, [], f2, rfl, by simp, ⟨rfl, rfl, trivial⟩, r2⟩⟩
theorem DOutbox.shape {o : Bool} {w : World} {cs : List Value} {x : DOutbox} {fp : List Nat} (h : DOutbox.rep.rd o w cs x fp) : ∃ a1 c1, cs = [.int .i64 x.device, .int .i64 x.next, .slice a1 x.writes.length c1] := by
  obtain ⟨v1, f1, rfl, _, r1⟩ := DOutbox.rd.1 h
  obtain ⟨a1, c1, rfl, _⟩ := slice_open r1
  exact ⟨_, _, rfl⟩
theorem DOutbox.fshape {B : Nat} {w : World} {cs : List Value} {x : DOutbox} (h : Fresh DOutbox.rep B w cs x) : ∃ a1 c1, cs = [.int .i64 x.device, .int .i64 x.next, .slice a1 x.writes.length c1] := by
  obtain ⟨fp, h, _⟩ := h
  exact DOutbox.shape h

end Go.Proofs.Yteajhmpppciicaa


/-
  The type Applied: its datum, how its cells read, how a law's argument is opened.
-/
namespace Go.Proofs.Yteajhmpppciicaa
open Go.RowKit

structure DApplied where
  device : Int
  seq : Int
  deriving DecidableEq

def DApplied.rep : Rep DApplied := Rep.iso (Rep.prod Rep.int Rep.int) (fun x => (x.device, x.seq))
theorem DApplied.rd {o : Bool} {w : World} {cs : List Value} {x : DApplied} {fp : List Nat} : DApplied.rep.rd o w cs x fp ↔ cs = [.int .i64 x.device, .int .i64 x.seq] ∧ fp = [] := by
  constructor
  · intro h0
    obtain ⟨c0, e0, p0, q0, rfl, rfl, h0, h1⟩ := h0
    obtain ⟨rfl, rfl, s0⟩ := h0
    obtain ⟨rfl, rfl, s1⟩ := h1
    exact ⟨rfl, by simp⟩
  · rintro ⟨rfl, hfp⟩
    exact ⟨[.int .i64 x.device], [.int .i64 x.seq], [], [], rfl, by simp [hfp], ⟨rfl, rfl, trivial⟩, ⟨rfl, rfl, trivial⟩⟩
def DApplied.enc (x : DApplied) : List Value := [.int .i64 x.device, .int .i64 x.seq]
theorem DApplied.flat : FlatR DApplied.rep DApplied.enc (fun _ => True) := ⟨fun {_ _ _ _ _} => by rw [DApplied.rd]; simp [DApplied.enc]⟩

end Go.Proofs.Yteajhmpppciicaa


/-
  The type Server: its datum, how its cells read, how a law's argument is opened.
-/
namespace Go.Proofs.Yteajhmpppciicaa
open Go.RowKit

structure DServer where
  store : DStore
  applied : List DApplied
  changes : List DWrite
  deriving DecidableEq

end Go.Proofs.Yteajhmpppciicaa


/-
  The type Sync: its datum, how its cells read, how a law's argument is opened.
-/
namespace Go.Proofs.Yteajhmpppciicaa
open Go.RowKit

structure DSync where
  outbox : DOutbox
  tries : Int
  waitUntil : Int
  deriving DecidableEq

def DSync.rep : Rep DSync := Rep.iso (Rep.prod DOutbox.rep (Rep.prod Rep.int Rep.int)) (fun x => (x.outbox, x.tries, x.waitUntil))
theorem DSync.rd {o : Bool} {w : World} {cs : List Value} {x : DSync} {fp : List Nat} : DSync.rep.rd o w cs x fp ↔ ∃ v1 f1, cs = [.int .i64 x.outbox.device, .int .i64 x.outbox.next, v1, .int .i64 x.tries, .int .i64 x.waitUntil] ∧ fp = f1 ∧ (Rep.slice 35 DWrite.rep).rd o w [v1] x.outbox.writes f1 := by
  constructor
  · intro h0
    obtain ⟨c0, e0, p0, q0, rfl, rfl, h0, ⟨c1, e1, p1, q1, rfl, rfl, h1, h2⟩⟩ := h0
    obtain ⟨v1, g1, rfl, rfl, r1⟩ := DOutbox.rd.1 h0
    obtain ⟨rfl, rfl, s1⟩ := h1
    obtain ⟨rfl, rfl, s2⟩ := h2
    exact ⟨_, _, rfl, by simp, r1⟩
  · rintro ⟨v1, f1, rfl, hfp, r1⟩
    exact ⟨[.int .i64 x.outbox.device, .int .i64 x.outbox.next, v1], [.int .i64 x.tries, .int .i64 x.waitUntil], f1, [], rfl, by simp [hfp], DOutbox.rd.2 ⟨_, _, rfl, rfl, r1⟩, ⟨[.int .i64 x.tries], [.int .i64 x.waitUntil], [], [], rfl, by simp, ⟨rfl, rfl, trivial⟩, ⟨rfl, rfl, trivial⟩⟩⟩
theorem DSync.fresh {B l0 u0 : Nat} {v1 : Value} {w : World} {x : DSync} (p0 : Part DOutbox.rep l0 u0 w [.int .i64 x.outbox.device, .int .i64 x.outbox.next, v1] x.outbox) (b0 : B ≤ l0)   : Fresh DSync.rep B w [.int .i64 x.outbox.device, .int .i64 x.outbox.next, v1, .int .i64 x.tries, .int .i64 x.waitUntil] x := by
  obtain ⟨f0, r0, n0, m0⟩ := p0
  refine ⟨f0, ⟨[.int .i64 x.outbox.device, .int .i64 x.outbox.next, v1], [.int .i64 x.tries, .int .i64 x.waitUntil], f0, [], rfl, by simp, r0, ⟨[.int .i64 x.tries], [.int .i64 x.waitUntil], [], [], rfl, by simp, ⟨rfl, rfl, trivial⟩, ⟨rfl, rfl, trivial⟩⟩⟩, ?_, ?_⟩
  · exact n0
  · intro b hb
    rcases hb with hb
    · have := m0 b hb; omega
theorem DSync.parts {o : Bool} {w : World} {cs : List Value} {x : DSync} {fp : List Nat} (h : DSync.rep.rd o w cs x fp) : ∃ v1 f0, cs = [.int .i64 x.outbox.device, .int .i64 x.outbox.next, v1, .int .i64 x.tries, .int .i64 x.waitUntil] ∧ fp = f0 ∧ DOutbox.rep.rd o w [.int .i64 x.outbox.device, .int .i64 x.outbox.next, v1] x.outbox f0 := by
  obtain ⟨c0, e0, p0, q0, rfl, rfl, h0, ⟨c1, e1, p1, q1, rfl, rfl, h1, h2⟩⟩ := h
  have h0b := h0
  obtain ⟨v1, _, rfl, _, _⟩ := DOutbox.rd.1 h0
  obtain ⟨rfl, rfl, s1⟩ := h1
  obtain ⟨rfl, rfl, s2⟩ := h2
  exact ⟨_, _, rfl, by simp, h0b⟩
theorem DSync.join {o : Bool} {w : World} {x : DSync} (c0 : List Value) (f0 : List Nat) (r0 : DOutbox.rep.rd o w c0 x.outbox f0)  : DSync.rep.rd o w (c0 ++ ([.int .i64 x.tries] ++ ([.int .i64 x.waitUntil]))) x (f0) := by
  exact ⟨c0, [.int .i64 x.tries] ++ ([.int .i64 x.waitUntil]), f0, [], rfl, by simp, r0, ⟨[.int .i64 x.tries], [.int .i64 x.waitUntil], [], [], rfl, by simp, ⟨rfl, rfl, trivial⟩, ⟨rfl, rfl, trivial⟩⟩⟩
theorem DSync.shape {o : Bool} {w : World} {cs : List Value} {x : DSync} {fp : List Nat} (h : DSync.rep.rd o w cs x fp) : ∃ a1 c1, cs = [.int .i64 x.outbox.device, .int .i64 x.outbox.next, .slice a1 x.outbox.writes.length c1, .int .i64 x.tries, .int .i64 x.waitUntil] := by
  obtain ⟨v1, f1, rfl, _, r1⟩ := DSync.rd.1 h
  obtain ⟨a1, c1, rfl, _⟩ := slice_open r1
  exact ⟨_, _, rfl⟩
theorem DSync.fshape {B : Nat} {w : World} {cs : List Value} {x : DSync} (h : Fresh DSync.rep B w cs x) : ∃ a1 c1, cs = [.int .i64 x.outbox.device, .int .i64 x.outbox.next, .slice a1 x.outbox.writes.length c1, .int .i64 x.tries, .int .i64 x.waitUntil] := by
  obtain ⟨fp, h, _⟩ := h
  exact DSync.shape h

end Go.Proofs.Yteajhmpppciicaa


/-
  The type Replica: its datum, how its cells read, how a law's argument is opened.
-/
namespace Go.Proofs.Yteajhmpppciicaa
open Go.RowKit

structure DReplica where
  base : DStore
  seen : Int
  sync : DSync
  deriving DecidableEq

end Go.Proofs.Yteajhmpppciicaa
