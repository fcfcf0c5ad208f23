/-
  TFam: TKey, TField, TRecord, TItem, TStore, TWrite, TOutbox, TApplied, TServer, TSync, TReplica, in one text.
-/
import Derived.Test.YtlfebehpmefioaaGreatBase

/-
  The type Key: its datum, how its cells read, how a law's argument is opened.
-/
namespace Go.Proofs.YtlfebehpmefioaaGreat
open Go.RowKit

structure DKey where
  kind : Int
  n : Int
  text : ByteArray
  deriving DecidableEq

def DKey.rep : Rep DKey := Rep.iso (Rep.prod Rep.int (Rep.prod Rep.int Rep.str)) (fun x => (x.kind, x.n, x.text))
theorem DKey.rd {o : Bool} {w : World} {cs : List Value} {x : DKey} {fp : List Nat} : DKey.rep.rd o w cs x fp ↔ cs = [.int .i64 x.kind, .int .i64 x.n, .string x.text] ∧ fp = [] ∧ x.text.size ≤ maxLen := by
  constructor
  · intro h0
    obtain ⟨c0, e0, p0, q0, rfl, rfl, h0, ⟨c1, e1, p1, q1, rfl, rfl, h1, h2⟩⟩ := h0
    obtain ⟨rfl, rfl, s0⟩ := h0
    obtain ⟨rfl, rfl, s1⟩ := h1
    obtain ⟨rfl, rfl, s2⟩ := h2
    exact ⟨rfl, by simp, s2⟩
  · rintro ⟨rfl, hfp, s0⟩
    exact ⟨[.int .i64 x.kind], [.int .i64 x.n, .string x.text], [], [], rfl, by simp [hfp], ⟨rfl, rfl, trivial⟩, ⟨[.int .i64 x.n], [.string x.text], [], [], rfl, by simp, ⟨rfl, rfl, trivial⟩, ⟨rfl, rfl, s0⟩⟩⟩
def DKey.enc (x : DKey) : List Value := [.int .i64 x.kind, .int .i64 x.n, .string x.text]
theorem DKey.flat : FlatR DKey.rep DKey.enc (fun x => x.text.size ≤ maxLen) := ⟨fun {_ _ _ _ _} => DKey.rd⟩

end Go.Proofs.YtlfebehpmefioaaGreat

/-
  The type Field: its datum, how its cells read, how a law's argument is opened.
-/
namespace Go.Proofs.YtlfebehpmefioaaGreat
open Go.RowKit

structure DField where
  name : ByteArray
  n : Int
  deriving DecidableEq

def DField.rep : Rep DField := Rep.iso (Rep.prod Rep.str Rep.int) (fun x => (x.name, x.n))
theorem DField.rd {o : Bool} {w : World} {cs : List Value} {x : DField} {fp : List Nat} : DField.rep.rd o w cs x fp ↔ cs = [.string x.name, .int .i64 x.n] ∧ fp = [] ∧ x.name.size ≤ maxLen := by
  constructor
  · intro h0
    obtain ⟨c0, e0, p0, q0, rfl, rfl, h0, h1⟩ := h0
    obtain ⟨rfl, rfl, s0⟩ := h0
    obtain ⟨rfl, rfl, s1⟩ := h1
    exact ⟨rfl, by simp, s0⟩
  · rintro ⟨rfl, hfp, s0⟩
    exact ⟨[.string x.name], [.int .i64 x.n], [], [], rfl, by simp [hfp], ⟨rfl, rfl, s0⟩, ⟨rfl, rfl, trivial⟩⟩
def DField.enc (x : DField) : List Value := [.string x.name, .int .i64 x.n]
theorem DField.flat : FlatR DField.rep DField.enc (fun x => x.name.size ≤ maxLen) := ⟨fun {_ _ _ _ _} => DField.rd⟩

end Go.Proofs.YtlfebehpmefioaaGreat

/-
  The type Record: its datum, how its cells read, how a law's argument is opened.
-/
namespace Go.Proofs.YtlfebehpmefioaaGreat
open Go.RowKit

structure DRecord where
  fields : List DField
  deriving DecidableEq

def DRecord.rep : Rep DRecord := Rep.iso ((Rep.slice 112 DField.rep)) (fun x => x.fields)
theorem DRecord.rd {o : Bool} {w : World} {cs : List Value} {x : DRecord} {fp : List Nat} : DRecord.rep.rd o w cs x fp ↔ ∃ v1 f1, cs = [v1] ∧ fp = f1 ∧ (Rep.slice 112 DField.rep).rd o w [v1] x.fields f1 := by
  constructor
  · intro h0
    obtain ⟨v1, rfl, r1⟩ := slice_shape h0
    exact ⟨_, _, rfl, by simp, r1⟩
  · rintro ⟨v1, f1, rfl, hfp, r1⟩
    rw [hfp]
    exact r1
theorem DRecord.fresh {B l0 u0 : Nat} {v1 : Value} {w : World} {x : DRecord} (p0 : Part (Rep.slice 112 DField.rep) l0 u0 w [v1] x.fields) (b0 : B ≤ l0)   : Fresh DRecord.rep B w [v1] x := by
  obtain ⟨f0, r0, n0, m0⟩ := p0
  refine ⟨f0, r0, ?_, ?_⟩
  · exact n0
  · intro b hb
    rcases hb with hb
    · have := m0 b hb; omega
theorem DRecord.parts {o : Bool} {w : World} {cs : List Value} {x : DRecord} {fp : List Nat} (h : DRecord.rep.rd o w cs x fp) : ∃ v1 f0, cs = [v1] ∧ fp = f0 ∧ (Rep.slice 112 DField.rep).rd o w [v1] x.fields f0 := by
  have h0 := h
  obtain ⟨v1, rfl, h0⟩ := slice_shape h0
  exact ⟨_, _, rfl, by simp, h0⟩
theorem DRecord.join {o : Bool} {w : World} {x : DRecord} (c0 : List Value) (f0 : List Nat) (r0 : (Rep.slice 112 DField.rep).rd o w c0 x.fields f0)  : DRecord.rep.rd o w (c0) x (f0) := by
  exact r0
theorem DRecord.shape {o : Bool} {w : World} {cs : List Value} {x : DRecord} {fp : List Nat} (h : DRecord.rep.rd o w cs x fp) : ∃ a1 c1, cs = [.slice a1 x.fields.length c1] := by
  obtain ⟨v1, f1, rfl, _, r1⟩ := DRecord.rd.1 h
  obtain ⟨a1, c1, rfl, _⟩ := slice_open r1
  exact ⟨_, _, rfl⟩
theorem DRecord.fshape {B : Nat} {w : World} {cs : List Value} {x : DRecord} (h : Fresh DRecord.rep B w cs x) : ∃ a1 c1, cs = [.slice a1 x.fields.length c1] := by
  obtain ⟨fp, h, _⟩ := h
  exact DRecord.shape h

end Go.Proofs.YtlfebehpmefioaaGreat

/-
  The type Item: its datum, how its cells read, how a law's argument is opened.
-/
namespace Go.Proofs.YtlfebehpmefioaaGreat
open Go.RowKit

structure DItem where
  key : DKey
  record : DRecord
  deriving DecidableEq

def DItem.rep : Rep DItem := Rep.iso (Rep.prod DKey.rep DRecord.rep) (fun x => (x.key, x.record))
theorem DItem.rd {o : Bool} {w : World} {cs : List Value} {x : DItem} {fp : List Nat} : DItem.rep.rd o w cs x fp ↔ ∃ v1 f1, cs = [.int .i64 x.key.kind, .int .i64 x.key.n, .string x.key.text, v1] ∧ fp = f1 ∧ x.key.text.size ≤ maxLen ∧ (Rep.slice 112 DField.rep).rd o w [v1] x.record.fields f1 := by
  constructor
  · intro h0
    obtain ⟨c0, e0, p0, q0, rfl, rfl, h0, h1⟩ := h0
    obtain ⟨rfl, rfl, t0_0⟩ := DKey.rd.1 h0
    obtain ⟨v1, g1, rfl, rfl, r1⟩ := DRecord.rd.1 h1
    exact ⟨_, _, rfl, by simp, t0_0, r1⟩
  · rintro ⟨v1, f1, rfl, hfp, s0, r1⟩
    exact ⟨[.int .i64 x.key.kind, .int .i64 x.key.n, .string x.key.text], [v1], [], f1, rfl, by simp [hfp], DKey.rd.2 ⟨rfl, rfl, s0⟩, DRecord.rd.2 ⟨_, _, rfl, rfl, r1⟩⟩
theorem DItem.fresh {B l1 u1 : Nat} {v1 : Value} {w : World} {x : DItem} (p1 : Part DRecord.rep l1 u1 w [v1] x.record) (b1 : B ≤ l1)  (s0 : x.key.text.size ≤ maxLen) : Fresh DItem.rep B w [.int .i64 x.key.kind, .int .i64 x.key.n, .string x.key.text, v1] x := by
  obtain ⟨f1, r1, n1, m1⟩ := p1
  refine ⟨f1, ⟨[.int .i64 x.key.kind, .int .i64 x.key.n, .string x.key.text], [v1], [], f1, rfl, by simp, DKey.rd.2 ⟨rfl, rfl, s0⟩, r1⟩, ?_, ?_⟩
  · exact n1
  · intro b hb
    rcases hb with hb
    · have := m1 b hb; omega
theorem DItem.parts {o : Bool} {w : World} {cs : List Value} {x : DItem} {fp : List Nat} (h : DItem.rep.rd o w cs x fp) : ∃ v1 f1, cs = [.int .i64 x.key.kind, .int .i64 x.key.n, .string x.key.text, v1] ∧ fp = f1 ∧ x.key.text.size ≤ maxLen ∧ DRecord.rep.rd o w [v1] x.record f1 := by
  obtain ⟨c0, e0, p0, q0, rfl, rfl, h0, h1⟩ := h
  obtain ⟨rfl, rfl, t0_0⟩ := DKey.rd.1 h0
  have h1b := h1
  obtain ⟨v1, _, rfl, _, _⟩ := DRecord.rd.1 h1
  exact ⟨_, _, rfl, by simp, t0_0, h1b⟩
theorem DItem.join {o : Bool} {w : World} {x : DItem} (c1 : List Value) (f1 : List Nat) (r1 : DRecord.rep.rd o w c1 x.record f1) (s0 : x.key.text.size ≤ maxLen) : DItem.rep.rd o w ([.int .i64 x.key.kind, .int .i64 x.key.n, .string x.key.text] ++ (c1)) x (f1) := by
  exact ⟨[.int .i64 x.key.kind, .int .i64 x.key.n, .string x.key.text], c1, [], f1, rfl, by simp, DKey.rd.2 ⟨rfl, rfl, s0⟩, r1⟩
theorem DItem.shape {o : Bool} {w : World} {cs : List Value} {x : DItem} {fp : List Nat} (h : DItem.rep.rd o w cs x fp) : ∃ a1 c1, cs = [.int .i64 x.key.kind, .int .i64 x.key.n, .string x.key.text, .slice a1 x.record.fields.length c1] := by
  obtain ⟨v1, f1, rfl, _, _, r1⟩ := DItem.rd.1 h
  obtain ⟨a1, c1, rfl, _⟩ := slice_open r1
  exact ⟨_, _, rfl⟩
theorem DItem.fshape {B : Nat} {w : World} {cs : List Value} {x : DItem} (h : Fresh DItem.rep B w cs x) : ∃ a1 c1, cs = [.int .i64 x.key.kind, .int .i64 x.key.n, .string x.key.text, .slice a1 x.record.fields.length c1] := by
  obtain ⟨fp, h, _⟩ := h
  exact DItem.shape h

end Go.Proofs.YtlfebehpmefioaaGreat

/-
  The type Store: its datum, how its cells read, how a law's argument is opened.
-/
namespace Go.Proofs.YtlfebehpmefioaaGreat
open Go.RowKit

structure DStore where
  name : ByteArray
  items : List DItem
  auto : Int
  deriving DecidableEq

def DStore.rep : Rep DStore := Rep.iso (Rep.prod Rep.str (Rep.prod (Rep.slice 71 DItem.rep) Rep.int)) (fun x => (x.name, x.items, x.auto))
theorem DStore.rd {o : Bool} {w : World} {cs : List Value} {x : DStore} {fp : List Nat} : DStore.rep.rd o w cs x fp ↔ ∃ v1 f1, cs = [.string x.name, v1, .int .i64 x.auto] ∧ fp = f1 ∧ x.name.size ≤ maxLen ∧ (Rep.slice 71 DItem.rep).rd o w [v1] x.items f1 := by
  constructor
  · intro h0
    obtain ⟨c0, e0, p0, q0, rfl, rfl, h0, ⟨c1, e1, p1, q1, rfl, rfl, h1, h2⟩⟩ := h0
    obtain ⟨rfl, rfl, s0⟩ := h0
    obtain ⟨v1, rfl, r1⟩ := slice_shape h1
    obtain ⟨rfl, rfl, s2⟩ := h2
    exact ⟨_, _, rfl, by simp, s0, r1⟩
  · rintro ⟨v1, f1, rfl, hfp, s0, r1⟩
    exact ⟨[.string x.name], [v1, .int .i64 x.auto], [], f1, rfl, by simp [hfp], ⟨rfl, rfl, s0⟩, ⟨[v1], [.int .i64 x.auto], f1, [], rfl, by simp, r1, ⟨rfl, rfl, trivial⟩⟩⟩
theorem DStore.fresh {B l1 u1 : Nat} {v1 : Value} {w : World} {x : DStore} (p1 : Part (Rep.slice 71 DItem.rep) l1 u1 w [v1] x.items) (b1 : B ≤ l1)  (s0 : x.name.size ≤ maxLen) : Fresh DStore.rep B w [.string x.name, v1, .int .i64 x.auto] x := by
  obtain ⟨f1, r1, n1, m1⟩ := p1
  refine ⟨f1, ⟨[.string x.name], [v1, .int .i64 x.auto], [], f1, rfl, by simp, ⟨rfl, rfl, s0⟩, ⟨[v1], [.int .i64 x.auto], f1, [], rfl, by simp, r1, ⟨rfl, rfl, trivial⟩⟩⟩, ?_, ?_⟩
  · exact n1
  · intro b hb
    rcases hb with hb
    · have := m1 b hb; omega
theorem DStore.parts {o : Bool} {w : World} {cs : List Value} {x : DStore} {fp : List Nat} (h : DStore.rep.rd o w cs x fp) : ∃ v1 f1, cs = [.string x.name, v1, .int .i64 x.auto] ∧ fp = f1 ∧ x.name.size ≤ maxLen ∧ (Rep.slice 71 DItem.rep).rd o w [v1] x.items f1 := by
  obtain ⟨c0, e0, p0, q0, rfl, rfl, h0, ⟨c1, e1, p1, q1, rfl, rfl, h1, h2⟩⟩ := h
  obtain ⟨rfl, rfl, s0⟩ := h0
  obtain ⟨v1, rfl, h1⟩ := slice_shape h1
  obtain ⟨rfl, rfl, s2⟩ := h2
  exact ⟨_, _, rfl, by simp, s0, h1⟩
theorem DStore.join {o : Bool} {w : World} {x : DStore} (c1 : List Value) (f1 : List Nat) (r1 : (Rep.slice 71 DItem.rep).rd o w c1 x.items f1) (s0 : x.name.size ≤ maxLen) : DStore.rep.rd o w ([.string x.name] ++ (c1 ++ ([.int .i64 x.auto]))) x (f1) := by
  exact ⟨[.string x.name], c1 ++ ([.int .i64 x.auto]), [], f1, rfl, by simp, ⟨rfl, rfl, s0⟩, ⟨c1, [.int .i64 x.auto], f1, [], rfl, by simp, r1, ⟨rfl, rfl, trivial⟩⟩⟩
theorem DStore.shape {o : Bool} {w : World} {cs : List Value} {x : DStore} {fp : List Nat} (h : DStore.rep.rd o w cs x fp) : ∃ a1 c1, cs = [.string x.name, .slice a1 x.items.length c1, .int .i64 x.auto] := by
  obtain ⟨v1, f1, rfl, _, _, r1⟩ := DStore.rd.1 h
  obtain ⟨a1, c1, rfl, _⟩ := slice_open r1
  exact ⟨_, _, rfl⟩
theorem DStore.fshape {B : Nat} {w : World} {cs : List Value} {x : DStore} (h : Fresh DStore.rep B w cs x) : ∃ a1 c1, cs = [.string x.name, .slice a1 x.items.length c1, .int .i64 x.auto] := by
  obtain ⟨fp, h, _⟩ := h
  exact DStore.shape h

end Go.Proofs.YtlfebehpmefioaaGreat

/-
  The type Write: its datum, how its cells read, how a law's argument is opened.
-/
namespace Go.Proofs.YtlfebehpmefioaaGreat
open Go.RowKit

structure DWrite where
  device : Int
  seq : Int
  key : DKey
  field : ByteArray
  n : Int
  deriving DecidableEq

def DWrite.rep : Rep DWrite := Rep.iso (Rep.prod Rep.int (Rep.prod Rep.int (Rep.prod DKey.rep (Rep.prod Rep.str Rep.int)))) (fun x => (x.device, x.seq, x.key, x.field, x.n))
theorem DWrite.rd {o : Bool} {w : World} {cs : List Value} {x : DWrite} {fp : List Nat} : DWrite.rep.rd o w cs x fp ↔ cs = [.int .i64 x.device, .int .i64 x.seq, .int .i64 x.key.kind, .int .i64 x.key.n, .string x.key.text, .string x.field, .int .i64 x.n] ∧ fp = [] ∧ x.key.text.size ≤ maxLen ∧ x.field.size ≤ maxLen := by
  constructor
  · intro h0
    obtain ⟨c0, e0, p0, q0, rfl, rfl, h0, ⟨c1, e1, p1, q1, rfl, rfl, h1, ⟨c2, e2, p2, q2, rfl, rfl, h2, ⟨c3, e3, p3, q3, rfl, rfl, h3, h4⟩⟩⟩⟩ := h0
    obtain ⟨rfl, rfl, s0⟩ := h0
    obtain ⟨rfl, rfl, s1⟩ := h1
    obtain ⟨rfl, rfl, t2_0⟩ := DKey.rd.1 h2
    obtain ⟨rfl, rfl, s3⟩ := h3
    obtain ⟨rfl, rfl, s4⟩ := h4
    exact ⟨rfl, by simp, t2_0, s3⟩
  · rintro ⟨rfl, hfp, s0, s1⟩
    exact ⟨[.int .i64 x.device], [.int .i64 x.seq, .int .i64 x.key.kind, .int .i64 x.key.n, .string x.key.text, .string x.field, .int .i64 x.n], [], [], rfl, by simp [hfp], ⟨rfl, rfl, trivial⟩, ⟨[.int .i64 x.seq], [.int .i64 x.key.kind, .int .i64 x.key.n, .string x.key.text, .string x.field, .int .i64 x.n], [], [], rfl, by simp, ⟨rfl, rfl, trivial⟩, ⟨[.int .i64 x.key.kind, .int .i64 x.key.n, .string x.key.text], [.string x.field, .int .i64 x.n], [], [], rfl, by simp, DKey.rd.2 ⟨rfl, rfl, s0⟩, ⟨[.string x.field], [.int .i64 x.n], [], [], rfl, by simp, ⟨rfl, rfl, s1⟩, ⟨rfl, rfl, trivial⟩⟩⟩⟩⟩
def DWrite.enc (x : DWrite) : List Value := [.int .i64 x.device, .int .i64 x.seq, .int .i64 x.key.kind, .int .i64 x.key.n, .string x.key.text, .string x.field, .int .i64 x.n]
theorem DWrite.flat : FlatR DWrite.rep DWrite.enc (fun x => x.key.text.size ≤ maxLen ∧ x.field.size ≤ maxLen) := ⟨fun {_ _ _ _ _} => DWrite.rd⟩

end Go.Proofs.YtlfebehpmefioaaGreat

/-
  The type Outbox: its datum, how its cells read, how a law's argument is opened.
-/
namespace Go.Proofs.YtlfebehpmefioaaGreat
open Go.RowKit

structure DOutbox where
  device : Int
  next : Int
  writes : List DWrite
  deriving DecidableEq

def DOutbox.rep : Rep DOutbox := Rep.iso (Rep.prod Rep.int (Rep.prod Rep.int (Rep.slice 34 DWrite.rep))) (fun x => (x.device, x.next, x.writes))
theorem DOutbox.rd {o : Bool} {w : World} {cs : List Value} {x : DOutbox} {fp : List Nat} : DOutbox.rep.rd o w cs x fp ↔ ∃ v1 f1, cs = [.int .i64 x.device, .int .i64 x.next, v1] ∧ fp = f1 ∧ (Rep.slice 34 DWrite.rep).rd o w [v1] x.writes f1 := by
  constructor
  · intro h0
    obtain ⟨c0, e0, p0, q0, rfl, rfl, h0, ⟨c1, e1, p1, q1, rfl, rfl, h1, h2⟩⟩ := h0
    obtain ⟨rfl, rfl, s0⟩ := h0
    obtain ⟨rfl, rfl, s1⟩ := h1
    obtain ⟨v1, rfl, r1⟩ := slice_shape h2
    exact ⟨_, _, rfl, by simp, r1⟩
  · rintro ⟨v1, f1, rfl, hfp, r1⟩
    exact ⟨[.int .i64 x.device], [.int .i64 x.next, v1], [], f1, rfl, by simp [hfp], ⟨rfl, rfl, trivial⟩, ⟨[.int .i64 x.next], [v1], [], f1, rfl, by simp, ⟨rfl, rfl, trivial⟩, r1⟩⟩
theorem DOutbox.fresh {B l2 u2 : Nat} {v1 : Value} {w : World} {x : DOutbox} (p2 : Part (Rep.slice 34 DWrite.rep) l2 u2 w [v1] x.writes) (b2 : B ≤ l2)   : Fresh DOutbox.rep B w [.int .i64 x.device, .int .i64 x.next, v1] x := by
  obtain ⟨f2, r2, n2, m2⟩ := p2
  refine ⟨f2, ⟨[.int .i64 x.device], [.int .i64 x.next, v1], [], f2, rfl, by simp, ⟨rfl, rfl, trivial⟩, ⟨[.int .i64 x.next], [v1], [], f2, rfl, by simp, ⟨rfl, rfl, trivial⟩, r2⟩⟩, ?_, ?_⟩
  · exact n2
  · intro b hb
    rcases hb with hb
    · have := m2 b hb; omega
theorem DOutbox.parts {o : Bool} {w : World} {cs : List Value} {x : DOutbox} {fp : List Nat} (h : DOutbox.rep.rd o w cs x fp) : ∃ v1 f2, cs = [.int .i64 x.device, .int .i64 x.next, v1] ∧ fp = f2 ∧ (Rep.slice 34 DWrite.rep).rd o w [v1] x.writes f2 := by
  obtain ⟨c0, e0, p0, q0, rfl, rfl, h0, ⟨c1, e1, p1, q1, rfl, rfl, h1, h2⟩⟩ := h
  obtain ⟨rfl, rfl, s0⟩ := h0
  obtain ⟨rfl, rfl, s1⟩ := h1
  obtain ⟨v1, rfl, h2⟩ := slice_shape h2
  exact ⟨_, _, rfl, by simp, h2⟩
theorem DOutbox.join {o : Bool} {w : World} {x : DOutbox} (c2 : List Value) (f2 : List Nat) (r2 : (Rep.slice 34 DWrite.rep).rd o w c2 x.writes f2)  : DOutbox.rep.rd o w ([.int .i64 x.device] ++ ([.int .i64 x.next] ++ (c2))) x (f2) := by
  exact ⟨[.int .i64 x.device], [.int .i64 x.next] ++ (c2), [], f2, rfl, by simp, ⟨rfl, rfl, trivial⟩, ⟨[.int .i64 x.next], c2, [], f2, rfl, by simp, ⟨rfl, rfl, trivial⟩, r2⟩⟩
theorem DOutbox.shape {o : Bool} {w : World} {cs : List Value} {x : DOutbox} {fp : List Nat} (h : DOutbox.rep.rd o w cs x fp) : ∃ a1 c1, cs = [.int .i64 x.device, .int .i64 x.next, .slice a1 x.writes.length c1] := by
  obtain ⟨v1, f1, rfl, _, r1⟩ := DOutbox.rd.1 h
  obtain ⟨a1, c1, rfl, _⟩ := slice_open r1
  exact ⟨_, _, rfl⟩
theorem DOutbox.fshape {B : Nat} {w : World} {cs : List Value} {x : DOutbox} (h : Fresh DOutbox.rep B w cs x) : ∃ a1 c1, cs = [.int .i64 x.device, .int .i64 x.next, .slice a1 x.writes.length c1] := by
  obtain ⟨fp, h, _⟩ := h
  exact DOutbox.shape h

end Go.Proofs.YtlfebehpmefioaaGreat

/-
  The type Applied: its datum, how its cells read, how a law's argument is opened.
-/
namespace Go.Proofs.YtlfebehpmefioaaGreat
open Go.RowKit

structure DApplied where
  device : Int
  seq : Int
  deriving DecidableEq

def DApplied.rep : Rep DApplied := Rep.iso (Rep.prod Rep.int Rep.int) (fun x => (x.device, x.seq))
theorem DApplied.rd {o : Bool} {w : World} {cs : List Value} {x : DApplied} {fp : List Nat} : DApplied.rep.rd o w cs x fp ↔ cs = [.int .i64 x.device, .int .i64 x.seq] ∧ fp = [] := by
  constructor
  · intro h0
    obtain ⟨c0, e0, p0, q0, rfl, rfl, h0, h1⟩ := h0
    obtain ⟨rfl, rfl, s0⟩ := h0
    obtain ⟨rfl, rfl, s1⟩ := h1
    exact ⟨rfl, by simp⟩
  · rintro ⟨rfl, hfp⟩
    exact ⟨[.int .i64 x.device], [.int .i64 x.seq], [], [], rfl, by simp [hfp], ⟨rfl, rfl, trivial⟩, ⟨rfl, rfl, trivial⟩⟩
def DApplied.enc (x : DApplied) : List Value := [.int .i64 x.device, .int .i64 x.seq]
theorem DApplied.flat : FlatR DApplied.rep DApplied.enc (fun _ => True) := ⟨fun {_ _ _ _ _} => by rw [DApplied.rd]; simp [DApplied.enc]⟩

end Go.Proofs.YtlfebehpmefioaaGreat

/-
  The type Server: its datum, how its cells read, how a law's argument is opened.
-/
namespace Go.Proofs.YtlfebehpmefioaaGreat
open Go.RowKit

structure DServer where
  store : DStore
  applied : List DApplied
  changes : List DWrite
  deriving DecidableEq

def DServer.rep : Rep DServer := Rep.iso (Rep.prod DStore.rep (Rep.prod (Rep.slice 89 DApplied.rep) (Rep.slice 34 DWrite.rep))) (fun x => (x.store, x.applied, x.changes))
theorem DServer.rd {o : Bool} {w : World} {cs : List Value} {x : DServer} {fp : List Nat} : DServer.rep.rd o w cs x fp ↔ ∃ v1 v2 v3 f1 f2 f3, cs = [.string x.store.name, v1, .int .i64 x.store.auto, v2, v3] ∧ fp = f1 ++ (f2 ++ (f3)) ∧ x.store.name.size ≤ maxLen ∧ (Rep.slice 71 DItem.rep).rd o w [v1] x.store.items f1 ∧ (Rep.slice 89 DApplied.rep).rd o w [v2] x.applied f2 ∧ (Rep.slice 34 DWrite.rep).rd o w [v3] x.changes f3 := by
  constructor
  · intro h0
    obtain ⟨c0, e0, p0, q0, rfl, rfl, h0, ⟨c1, e1, p1, q1, rfl, rfl, h1, h2⟩⟩ := h0
    obtain ⟨v1, g1, rfl, rfl, t0_0, r1⟩ := DStore.rd.1 h0
    obtain ⟨v2, rfl, r2⟩ := slice_shape h1
    obtain ⟨v3, rfl, r3⟩ := slice_shape h2
    exact ⟨_, _, _, _, _, _, rfl, by simp, t0_0, r1, r2, r3⟩
  · rintro ⟨v1, v2, v3, f1, f2, f3, rfl, hfp, s0, r1, r2, r3⟩
    exact ⟨[.string x.store.name, v1, .int .i64 x.store.auto], [v2, v3], f1, f2 ++ (f3), rfl, by simp [hfp], DStore.rd.2 ⟨_, _, rfl, rfl, s0, r1⟩, ⟨[v2], [v3], f2, f3, rfl, by simp, r2, r3⟩⟩
theorem DServer.fresh {B l0 u0 l1 u1 l2 u2 : Nat} {v1 v2 v3 : Value} {w : World} {x : DServer} (p0 : Part DStore.rep l0 u0 w [.string x.store.name, v1, .int .i64 x.store.auto] x.store) (p1 : Part (Rep.slice 89 DApplied.rep) l1 u1 w [v2] x.applied) (p2 : Part (Rep.slice 34 DWrite.rep) l2 u2 w [v3] x.changes) (b0 : B ≤ l0) (b1 : u0 ≤ l1) (e0 : l0 ≤ u0) (b2 : u1 ≤ l2) (e1 : l1 ≤ u1)  : Fresh DServer.rep B w [.string x.store.name, v1, .int .i64 x.store.auto, v2, v3] x := by
  obtain ⟨f0, r0, n0, m0⟩ := p0
  obtain ⟨f1, r1, n1, m1⟩ := p1
  obtain ⟨f2, r2, n2, m2⟩ := p2
  refine ⟨f0 ++ (f1 ++ (f2)), ⟨[.string x.store.name, v1, .int .i64 x.store.auto], [v2, v3], f0, f1 ++ (f2), rfl, by simp, r0, ⟨[v2], [v3], f1, f2, rfl, by simp, r1, r2⟩⟩, ?_, ?_⟩
  · have w2 := n2
    have z1 : ∀ b ∈ f2, u1 ≤ b := by
      intro b hb
      rcases hb with hb
      · have := m2 b hb; omega
    have w1 := nodup_parts (m := u1) n1 w2 (fun b hb => (m1 b hb).2) z1
    have z0 : ∀ b ∈ f1 ++ (f2), u0 ≤ b := by
      intro b hb
      simp only [List.mem_append] at hb
      rcases hb with hb | hb
      · have := m1 b hb; omega
      · have := m2 b hb; omega
    have w0 := nodup_parts (m := u0) n0 w1 (fun b hb => (m0 b hb).2) z0
    exact w0
  · intro b hb
    simp only [List.mem_append] at hb
    rcases hb with hb | hb | hb
    · have := m0 b hb; omega
    · have := m1 b hb; omega
    · have := m2 b hb; omega
theorem DServer.parts {o : Bool} {w : World} {cs : List Value} {x : DServer} {fp : List Nat} (h : DServer.rep.rd o w cs x fp) : ∃ v1 v2 v3 f0 f1 f2, cs = [.string x.store.name, v1, .int .i64 x.store.auto, v2, v3] ∧ fp = f0 ++ (f1 ++ (f2)) ∧ DStore.rep.rd o w [.string x.store.name, v1, .int .i64 x.store.auto] x.store f0 ∧ (Rep.slice 89 DApplied.rep).rd o w [v2] x.applied f1 ∧ (Rep.slice 34 DWrite.rep).rd o w [v3] x.changes f2 := by
  obtain ⟨c0, e0, p0, q0, rfl, rfl, h0, ⟨c1, e1, p1, q1, rfl, rfl, h1, h2⟩⟩ := h
  have h0b := h0
  obtain ⟨v1, _, rfl, _, _, _⟩ := DStore.rd.1 h0
  obtain ⟨v2, rfl, h1⟩ := slice_shape h1
  obtain ⟨v3, rfl, h2⟩ := slice_shape h2
  exact ⟨_, _, _, _, _, _, rfl, by simp, h0b, h1, h2⟩
theorem DServer.join {o : Bool} {w : World} {x : DServer} (c0 : List Value) (f0 : List Nat) (r0 : DStore.rep.rd o w c0 x.store f0) (c1 : List Value) (f1 : List Nat) (r1 : (Rep.slice 89 DApplied.rep).rd o w c1 x.applied f1) (c2 : List Value) (f2 : List Nat) (r2 : (Rep.slice 34 DWrite.rep).rd o w c2 x.changes f2)  : DServer.rep.rd o w (c0 ++ (c1 ++ (c2))) x (f0 ++ (f1 ++ (f2))) := by
  exact ⟨c0, c1 ++ (c2), f0, f1 ++ (f2), rfl, by simp, r0, ⟨c1, c2, f1, f2, rfl, by simp, r1, r2⟩⟩
theorem DServer.shape {o : Bool} {w : World} {cs : List Value} {x : DServer} {fp : List Nat} (h : DServer.rep.rd o w cs x fp) : ∃ a1 c1 a2 c2 a3 c3, cs = [.string x.store.name, .slice a1 x.store.items.length c1, .int .i64 x.store.auto, .slice a2 x.applied.length c2, .slice a3 x.changes.length c3] := by
  obtain ⟨v1, v2, v3, f1, f2, f3, rfl, _, _, r1, r2, r3⟩ := DServer.rd.1 h
  obtain ⟨a1, c1, rfl, _⟩ := slice_open r1
  obtain ⟨a2, c2, rfl, _⟩ := slice_open r2
  obtain ⟨a3, c3, rfl, _⟩ := slice_open r3
  exact ⟨_, _, _, _, _, _, rfl⟩
theorem DServer.fshape {B : Nat} {w : World} {cs : List Value} {x : DServer} (h : Fresh DServer.rep B w cs x) : ∃ a1 c1 a2 c2 a3 c3, cs = [.string x.store.name, .slice a1 x.store.items.length c1, .int .i64 x.store.auto, .slice a2 x.applied.length c2, .slice a3 x.changes.length c3] := by
  obtain ⟨fp, h, _⟩ := h
  exact DServer.shape h

end Go.Proofs.YtlfebehpmefioaaGreat

/-
  The type Sync: its datum, how its cells read, how a law's argument is opened.
-/
namespace Go.Proofs.YtlfebehpmefioaaGreat
open Go.RowKit

structure DSync where
  outbox : DOutbox
  tries : Int
  waitUntil : Int
  deriving DecidableEq

def DSync.rep : Rep DSync := Rep.iso (Rep.prod DOutbox.rep (Rep.prod Rep.int Rep.int)) (fun x => (x.outbox, x.tries, x.waitUntil))
theorem DSync.rd {o : Bool} {w : World} {cs : List Value} {x : DSync} {fp : List Nat} : DSync.rep.rd o w cs x fp ↔ ∃ v1 f1, cs = [.int .i64 x.outbox.device, .int .i64 x.outbox.next, v1, .int .i64 x.tries, .int .i64 x.waitUntil] ∧ fp = f1 ∧ (Rep.slice 34 DWrite.rep).rd o w [v1] x.outbox.writes f1 := by
  constructor
  · intro h0
    obtain ⟨c0, e0, p0, q0, rfl, rfl, h0, ⟨c1, e1, p1, q1, rfl, rfl, h1, h2⟩⟩ := h0
    obtain ⟨v1, g1, rfl, rfl, r1⟩ := DOutbox.rd.1 h0
    obtain ⟨rfl, rfl, s1⟩ := h1
    obtain ⟨rfl, rfl, s2⟩ := h2
    exact ⟨_, _, rfl, by simp, r1⟩
  · rintro ⟨v1, f1, rfl, hfp, r1⟩
    exact ⟨[.int .i64 x.outbox.device, .int .i64 x.outbox.next, v1], [.int .i64 x.tries, .int .i64 x.waitUntil], f1, [], rfl, by simp [hfp], DOutbox.rd.2 ⟨_, _, rfl, rfl, r1⟩, ⟨[.int .i64 x.tries], [.int .i64 x.waitUntil], [], [], rfl, by simp, ⟨rfl, rfl, trivial⟩, ⟨rfl, rfl, trivial⟩⟩⟩
theorem DSync.fresh {B l0 u0 : Nat} {v1 : Value} {w : World} {x : DSync} (p0 : Part DOutbox.rep l0 u0 w [.int .i64 x.outbox.device, .int .i64 x.outbox.next, v1] x.outbox) (b0 : B ≤ l0)   : Fresh DSync.rep B w [.int .i64 x.outbox.device, .int .i64 x.outbox.next, v1, .int .i64 x.tries, .int .i64 x.waitUntil] x := by
  obtain ⟨f0, r0, n0, m0⟩ := p0
  refine ⟨f0, ⟨[.int .i64 x.outbox.device, .int .i64 x.outbox.next, v1], [.int .i64 x.tries, .int .i64 x.waitUntil], f0, [], rfl, by simp, r0, ⟨[.int .i64 x.tries], [.int .i64 x.waitUntil], [], [], rfl, by simp, ⟨rfl, rfl, trivial⟩, ⟨rfl, rfl, trivial⟩⟩⟩, ?_, ?_⟩
  · exact n0
  · intro b hb
    rcases hb with hb
    · have := m0 b hb; omega
theorem DSync.parts {o : Bool} {w : World} {cs : List Value} {x : DSync} {fp : List Nat} (h : DSync.rep.rd o w cs x fp) : ∃ v1 f0, cs = [.int .i64 x.outbox.device, .int .i64 x.outbox.next, v1, .int .i64 x.tries, .int .i64 x.waitUntil] ∧ fp = f0 ∧ DOutbox.rep.rd o w [.int .i64 x.outbox.device, .int .i64 x.outbox.next, v1] x.outbox f0 := by
  obtain ⟨c0, e0, p0, q0, rfl, rfl, h0, ⟨c1, e1, p1, q1, rfl, rfl, h1, h2⟩⟩ := h
  have h0b := h0
  obtain ⟨v1, _, rfl, _, _⟩ := DOutbox.rd.1 h0
  obtain ⟨rfl, rfl, s1⟩ := h1
  obtain ⟨rfl, rfl, s2⟩ := h2
  exact ⟨_, _, rfl, by simp, h0b⟩
theorem DSync.join {o : Bool} {w : World} {x : DSync} (c0 : List Value) (f0 : List Nat) (r0 : DOutbox.rep.rd o w c0 x.outbox f0)  : DSync.rep.rd o w (c0 ++ ([.int .i64 x.tries] ++ ([.int .i64 x.waitUntil]))) x (f0) := by
  exact ⟨c0, [.int .i64 x.tries] ++ ([.int .i64 x.waitUntil]), f0, [], rfl, by simp, r0, ⟨[.int .i64 x.tries], [.int .i64 x.waitUntil], [], [], rfl, by simp, ⟨rfl, rfl, trivial⟩, ⟨rfl, rfl, trivial⟩⟩⟩
theorem DSync.shape {o : Bool} {w : World} {cs : List Value} {x : DSync} {fp : List Nat} (h : DSync.rep.rd o w cs x fp) : ∃ a1 c1, cs = [.int .i64 x.outbox.device, .int .i64 x.outbox.next, .slice a1 x.outbox.writes.length c1, .int .i64 x.tries, .int .i64 x.waitUntil] := by
  obtain ⟨v1, f1, rfl, _, r1⟩ := DSync.rd.1 h
  obtain ⟨a1, c1, rfl, _⟩ := slice_open r1
  exact ⟨_, _, rfl⟩
theorem DSync.fshape {B : Nat} {w : World} {cs : List Value} {x : DSync} (h : Fresh DSync.rep B w cs x) : ∃ a1 c1, cs = [.int .i64 x.outbox.device, .int .i64 x.outbox.next, .slice a1 x.outbox.writes.length c1, .int .i64 x.tries, .int .i64 x.waitUntil] := by
  obtain ⟨fp, h, _⟩ := h
  exact DSync.shape h

end Go.Proofs.YtlfebehpmefioaaGreat

/-
  The type Replica: its datum, how its cells read, how a law's argument is opened.
-/
namespace Go.Proofs.YtlfebehpmefioaaGreat
open Go.RowKit

structure DReplica where
  base : DStore
  seen : Int
  sync : DSync
  deriving DecidableEq

def DReplica.rep : Rep DReplica := Rep.iso (Rep.prod DStore.rep (Rep.prod Rep.int DSync.rep)) (fun x => (x.base, x.seen, x.sync))
theorem DReplica.rd {o : Bool} {w : World} {cs : List Value} {x : DReplica} {fp : List Nat} : DReplica.rep.rd o w cs x fp ↔ ∃ v1 v2 f1 f2, cs = [.string x.base.name, v1, .int .i64 x.base.auto, .int .i64 x.seen, .int .i64 x.sync.outbox.device, .int .i64 x.sync.outbox.next, v2, .int .i64 x.sync.tries, .int .i64 x.sync.waitUntil] ∧ fp = f1 ++ (f2) ∧ x.base.name.size ≤ maxLen ∧ (Rep.slice 71 DItem.rep).rd o w [v1] x.base.items f1 ∧ (Rep.slice 34 DWrite.rep).rd o w [v2] x.sync.outbox.writes f2 := by
  constructor
  · intro h0
    obtain ⟨c0, e0, p0, q0, rfl, rfl, h0, ⟨c1, e1, p1, q1, rfl, rfl, h1, h2⟩⟩ := h0
    obtain ⟨v1, g1, rfl, rfl, t0_0, r1⟩ := DStore.rd.1 h0
    obtain ⟨rfl, rfl, s1⟩ := h1
    obtain ⟨v2, g2, rfl, rfl, r2⟩ := DSync.rd.1 h2
    exact ⟨_, _, _, _, rfl, by simp, t0_0, r1, r2⟩
  · rintro ⟨v1, v2, f1, f2, rfl, hfp, s0, r1, r2⟩
    exact ⟨[.string x.base.name, v1, .int .i64 x.base.auto], [.int .i64 x.seen, .int .i64 x.sync.outbox.device, .int .i64 x.sync.outbox.next, v2, .int .i64 x.sync.tries, .int .i64 x.sync.waitUntil], f1, f2, rfl, by simp [hfp], DStore.rd.2 ⟨_, _, rfl, rfl, s0, r1⟩, ⟨[.int .i64 x.seen], [.int .i64 x.sync.outbox.device, .int .i64 x.sync.outbox.next, v2, .int .i64 x.sync.tries, .int .i64 x.sync.waitUntil], [], f2, rfl, by simp, ⟨rfl, rfl, trivial⟩, DSync.rd.2 ⟨_, _, rfl, rfl, r2⟩⟩⟩
theorem DReplica.fresh {B l0 u0 l2 u2 : Nat} {v1 v2 : Value} {w : World} {x : DReplica} (p0 : Part DStore.rep l0 u0 w [.string x.base.name, v1, .int .i64 x.base.auto] x.base) (p2 : Part DSync.rep l2 u2 w [.int .i64 x.sync.outbox.device, .int .i64 x.sync.outbox.next, v2, .int .i64 x.sync.tries, .int .i64 x.sync.waitUntil] x.sync) (b0 : B ≤ l0) (b2 : u0 ≤ l2) (e0 : l0 ≤ u0)  : Fresh DReplica.rep B w [.string x.base.name, v1, .int .i64 x.base.auto, .int .i64 x.seen, .int .i64 x.sync.outbox.device, .int .i64 x.sync.outbox.next, v2, .int .i64 x.sync.tries, .int .i64 x.sync.waitUntil] x := by
  obtain ⟨f0, r0, n0, m0⟩ := p0
  obtain ⟨f2, r2, n2, m2⟩ := p2
  refine ⟨f0 ++ (f2), ⟨[.string x.base.name, v1, .int .i64 x.base.auto], [.int .i64 x.seen, .int .i64 x.sync.outbox.device, .int .i64 x.sync.outbox.next, v2, .int .i64 x.sync.tries, .int .i64 x.sync.waitUntil], f0, f2, rfl, by simp, r0, ⟨[.int .i64 x.seen], [.int .i64 x.sync.outbox.device, .int .i64 x.sync.outbox.next, v2, .int .i64 x.sync.tries, .int .i64 x.sync.waitUntil], [], f2, rfl, by simp, ⟨rfl, rfl, trivial⟩, r2⟩⟩, ?_, ?_⟩
  · have w2 := n2
    have z0 : ∀ b ∈ f2, u0 ≤ b := by
      intro b hb
      rcases hb with hb
      · have := m2 b hb; omega
    have w0 := nodup_parts (m := u0) n0 w2 (fun b hb => (m0 b hb).2) z0
    exact w0
  · intro b hb
    simp only [List.mem_append] at hb
    rcases hb with hb | hb
    · have := m0 b hb; omega
    · have := m2 b hb; omega
theorem DReplica.parts {o : Bool} {w : World} {cs : List Value} {x : DReplica} {fp : List Nat} (h : DReplica.rep.rd o w cs x fp) : ∃ v1 v2 f0 f2, cs = [.string x.base.name, v1, .int .i64 x.base.auto, .int .i64 x.seen, .int .i64 x.sync.outbox.device, .int .i64 x.sync.outbox.next, v2, .int .i64 x.sync.tries, .int .i64 x.sync.waitUntil] ∧ fp = f0 ++ (f2) ∧ DStore.rep.rd o w [.string x.base.name, v1, .int .i64 x.base.auto] x.base f0 ∧ DSync.rep.rd o w [.int .i64 x.sync.outbox.device, .int .i64 x.sync.outbox.next, v2, .int .i64 x.sync.tries, .int .i64 x.sync.waitUntil] x.sync f2 := by
  obtain ⟨c0, e0, p0, q0, rfl, rfl, h0, ⟨c1, e1, p1, q1, rfl, rfl, h1, h2⟩⟩ := h
  have h0b := h0
  obtain ⟨v1, _, rfl, _, _, _⟩ := DStore.rd.1 h0
  obtain ⟨rfl, rfl, s1⟩ := h1
  have h2b := h2
  obtain ⟨v2, _, rfl, _, _⟩ := DSync.rd.1 h2
  exact ⟨_, _, _, _, rfl, by simp, h0b, h2b⟩
theorem DReplica.join {o : Bool} {w : World} {x : DReplica} (c0 : List Value) (f0 : List Nat) (r0 : DStore.rep.rd o w c0 x.base f0) (c2 : List Value) (f2 : List Nat) (r2 : DSync.rep.rd o w c2 x.sync f2)  : DReplica.rep.rd o w (c0 ++ ([.int .i64 x.seen] ++ (c2))) x (f0 ++ (f2)) := by
  exact ⟨c0, [.int .i64 x.seen] ++ (c2), f0, f2, rfl, by simp, r0, ⟨[.int .i64 x.seen], c2, [], f2, rfl, by simp, ⟨rfl, rfl, trivial⟩, r2⟩⟩
theorem DReplica.shape {o : Bool} {w : World} {cs : List Value} {x : DReplica} {fp : List Nat} (h : DReplica.rep.rd o w cs x fp) : ∃ a1 c1 a2 c2, cs = [.string x.base.name, .slice a1 x.base.items.length c1, .int .i64 x.base.auto, .int .i64 x.seen, .int .i64 x.sync.outbox.device, .int .i64 x.sync.outbox.next, .slice a2 x.sync.outbox.writes.length c2, .int .i64 x.sync.tries, .int .i64 x.sync.waitUntil] := by
  obtain ⟨v1, v2, f1, f2, rfl, _, _, r1, r2⟩ := DReplica.rd.1 h
  obtain ⟨a1, c1, rfl, _⟩ := slice_open r1
  obtain ⟨a2, c2, rfl, _⟩ := slice_open r2
  exact ⟨_, _, _, _, rfl⟩
theorem DReplica.fshape {B : Nat} {w : World} {cs : List Value} {x : DReplica} (h : Fresh DReplica.rep B w cs x) : ∃ a1 c1 a2 c2, cs = [.string x.base.name, .slice a1 x.base.items.length c1, .int .i64 x.base.auto, .int .i64 x.seen, .int .i64 x.sync.outbox.device, .int .i64 x.sync.outbox.next, .slice a2 x.sync.outbox.writes.length c2, .int .i64 x.sync.tries, .int .i64 x.sync.waitUntil] := by
  obtain ⟨fp, h, _⟩ := h
  exact DReplica.shape h

end Go.Proofs.YtlfebehpmefioaaGreat
