/-
  LFamB: LWrite, LOutbox, LApplied, LServer, LSync, LReplica, in one text.
-/
import Derived.Test.YtlfebehpmefioaaGreatLFamA
import Derived.Test.YtlfebehpmefioaaGreatTFam
import Derived.Test.YtlfebehpmefioaaGreatBase

/-
  The laws' helpers for Write.
-/
namespace Go.Proofs.YtlfebehpmefioaaGreat
open Go.RowKit

def DWrite.wt (x : DWrite) : Nat := x.key.wt + x.field.size

theorem infoWrite : (Tryz.prog.info? 34).map (fun i => (i.zero, i.size, i.bytes)) = some (some (.agg #[.int .i64 0, .int .i64 0, .int .i64 0, .int .i64 0, .string ⟨#[]⟩, .string ⟨#[]⟩, .int .i64 0]), 7, 72) := by kernel_rfl

def DWrite.cnt (_ : DWrite) : Nat := 7
def DWrite.mk3 (k : Nat) (_ : DWrite) : DWrite := ⟨((k : Int)), ((k : Int) + 1), ⟨((k : Int) + 1 + 1), ((k : Int) + 1 + 1 + 1), markT (k + 4)⟩, markT (k + 5), ((k : Int) + 1 + 1 + 1 + 1 + 1 + 1)⟩

end Go.Proofs.YtlfebehpmefioaaGreat

/-
  The laws' helpers for Outbox.
-/
namespace Go.Proofs.YtlfebehpmefioaaGreat
open Go.RowKit

def DOutbox.wt (x : DOutbox) : Nat := wtS DWrite.wt x.writes

def DOutbox.cnt (x : DOutbox) : Nat := 2 + wtT DWrite.cnt x.writes x.writes.length
def DOutbox.mk3 (k : Nat) (x : DOutbox) : DOutbox := ⟨((k : Int)), ((k : Int) + 1), marks DWrite.mk3 DWrite.cnt (k + 2) x.writes⟩

def DOutbox.mcnt (x : DOutbox) : Nat := wtT DWrite.cnt x.writes x.writes.length
def DOutbox.mks (x : DOutbox) (k : Nat) : DOutbox := { x with writes := marks DWrite.mk3 DWrite.cnt (k) x.writes }

end Go.Proofs.YtlfebehpmefioaaGreat

/-
  The laws' helpers for Applied.
-/
namespace Go.Proofs.YtlfebehpmefioaaGreat
open Go.RowKit

def DApplied.wt (_ : DApplied) : Nat := 0

theorem infoApplied : (Tryz.prog.info? 89).map (fun i => (i.zero, i.size, i.bytes)) = some (some (.agg #[.int .i64 0, .int .i64 0]), 2, 16) := by kernel_rfl

def DApplied.cnt (_ : DApplied) : Nat := 2
def DApplied.mk3 (k : Nat) (_ : DApplied) : DApplied := ⟨((k : Int)), ((k : Int) + 1)⟩

end Go.Proofs.YtlfebehpmefioaaGreat

/-
  The laws' helpers for Server.
-/
namespace Go.Proofs.YtlfebehpmefioaaGreat
open Go.RowKit

def DServer.wt (x : DServer) : Nat := x.store.wt + wtS DApplied.wt x.applied + wtS DWrite.wt x.changes

def DServer.cnt (x : DServer) : Nat := 2 + wtT DItem.cnt x.store.items x.store.items.length + wtT DApplied.cnt x.applied x.applied.length + wtT DWrite.cnt x.changes x.changes.length
def DServer.mk3 (k : Nat) (x : DServer) : DServer := ⟨⟨markT (k), marks DItem.mk3 DItem.cnt (k + 1) x.store.items, (((k + 1 + wtT DItem.cnt x.store.items x.store.items.length : Nat) : Int))⟩, marks DApplied.mk3 DApplied.cnt (k + 1 + wtT DItem.cnt x.store.items x.store.items.length + 1) x.applied, marks DWrite.mk3 DWrite.cnt (k + 1 + wtT DItem.cnt x.store.items x.store.items.length + 1 + wtT DApplied.cnt x.applied x.applied.length) x.changes⟩

def DServer.mcnt (x : DServer) : Nat := x.store.mcnt + wtT DApplied.cnt x.applied x.applied.length + wtT DWrite.cnt x.changes x.changes.length
def DServer.mks (x : DServer) (k : Nat) : DServer := { store := x.store.mks (k), applied := marks DApplied.mk3 DApplied.cnt (k + x.store.mcnt) x.applied, changes := marks DWrite.mk3 DWrite.cnt (k + x.store.mcnt + wtT DApplied.cnt x.applied x.applied.length) x.changes }

end Go.Proofs.YtlfebehpmefioaaGreat

/-
  The laws' helpers for Sync.
-/
namespace Go.Proofs.YtlfebehpmefioaaGreat
open Go.RowKit

def DSync.wt (x : DSync) : Nat := x.outbox.wt

def DSync.cnt (x : DSync) : Nat := 4 + wtT DWrite.cnt x.outbox.writes x.outbox.writes.length
def DSync.mk3 (k : Nat) (x : DSync) : DSync := ⟨⟨((k : Int)), ((k : Int) + 1), marks DWrite.mk3 DWrite.cnt (k + 2) x.outbox.writes⟩, (((k + 2 + wtT DWrite.cnt x.outbox.writes x.outbox.writes.length : Nat) : Int)), (((k + 2 + wtT DWrite.cnt x.outbox.writes x.outbox.writes.length : Nat) : Int) + 1)⟩

def DSync.mcnt (x : DSync) : Nat := x.outbox.mcnt
def DSync.mks (x : DSync) (k : Nat) : DSync := { x with outbox := x.outbox.mks (k) }

end Go.Proofs.YtlfebehpmefioaaGreat

/-
  The laws' helpers for Replica.
-/
namespace Go.Proofs.YtlfebehpmefioaaGreat
open Go.RowKit

def DReplica.wt (x : DReplica) : Nat := x.base.wt + x.sync.wt

def DReplica.cnt (x : DReplica) : Nat := 7 + wtT DItem.cnt x.base.items x.base.items.length + wtT DWrite.cnt x.sync.outbox.writes x.sync.outbox.writes.length
def DReplica.mk3 (k : Nat) (x : DReplica) : DReplica := ⟨⟨markT (k), marks DItem.mk3 DItem.cnt (k + 1) x.base.items, (((k + 1 + wtT DItem.cnt x.base.items x.base.items.length : Nat) : Int))⟩, (((k + 1 + wtT DItem.cnt x.base.items x.base.items.length : Nat) : Int) + 1), ⟨⟨(((k + 1 + wtT DItem.cnt x.base.items x.base.items.length : Nat) : Int) + 1 + 1), (((k + 1 + wtT DItem.cnt x.base.items x.base.items.length : Nat) : Int) + 1 + 1 + 1), marks DWrite.mk3 DWrite.cnt (k + 1 + wtT DItem.cnt x.base.items x.base.items.length + 4) x.sync.outbox.writes⟩, (((k + 1 + wtT DItem.cnt x.base.items x.base.items.length + 4 + wtT DWrite.cnt x.sync.outbox.writes x.sync.outbox.writes.length : Nat) : Int)), (((k + 1 + wtT DItem.cnt x.base.items x.base.items.length + 4 + wtT DWrite.cnt x.sync.outbox.writes x.sync.outbox.writes.length : Nat) : Int) + 1)⟩⟩

def DReplica.mcnt (x : DReplica) : Nat := x.base.mcnt + x.sync.mcnt
def DReplica.mks (x : DReplica) (k : Nat) : DReplica := { x with base := x.base.mks (k), sync := x.sync.mks (k + x.base.mcnt) }

end Go.Proofs.YtlfebehpmefioaaGreat
