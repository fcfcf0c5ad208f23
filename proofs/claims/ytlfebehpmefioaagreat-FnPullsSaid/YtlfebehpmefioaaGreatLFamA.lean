/-
  LFamA: LKey, LField, LRecord, LItem, LStore, in one text.
-/
import Derived.Test.YtlfebehpmefioaaGreatBase
import Derived.Test.YtlfebehpmefioaaGreatTFam

/-
  The laws' helpers for Key.
-/
namespace Go.Proofs.YtlfebehpmefioaaGreat
open Go.RowKit

def DKey.wt (x : DKey) : Nat := x.text.size

def DKey.cnt (_ : DKey) : Nat := 3
def DKey.mk3 (k : Nat) (_ : DKey) : DKey := ⟨((k : Int)), ((k : Int) + 1), markT (k + 2)⟩

end Go.Proofs.YtlfebehpmefioaaGreat

/-
  The laws' helpers for Field.
-/
namespace Go.Proofs.YtlfebehpmefioaaGreat
open Go.RowKit

def DField.wt (x : DField) : Nat := x.name.size

theorem infoField : (Tryz.prog.info? 112).map (fun i => (i.zero, i.size, i.bytes)) = some (some (.agg #[.string ⟨#[]⟩, .int .i64 0]), 2, 24) := by kernel_rfl

def DField.cnt (_ : DField) : Nat := 2
def DField.mk3 (k : Nat) (_ : DField) : DField := ⟨markT (k), ((k : Int) + 1)⟩

end Go.Proofs.YtlfebehpmefioaaGreat

/-
  The laws' helpers for Record.
-/
namespace Go.Proofs.YtlfebehpmefioaaGreat
open Go.RowKit

def DRecord.wt (x : DRecord) : Nat := wtS DField.wt x.fields

def DRecord.cnt (x : DRecord) : Nat := 0 + wtT DField.cnt x.fields x.fields.length
def DRecord.mk3 (k : Nat) (x : DRecord) : DRecord := ⟨marks DField.mk3 DField.cnt (k) x.fields⟩

def DRecord.mcnt (x : DRecord) : Nat := wtT DField.cnt x.fields x.fields.length
def DRecord.mks (x : DRecord) (k : Nat) : DRecord := { fields := marks DField.mk3 DField.cnt (k) x.fields }

end Go.Proofs.YtlfebehpmefioaaGreat

/-
  The laws' helpers for Item.
-/
namespace Go.Proofs.YtlfebehpmefioaaGreat
open Go.RowKit

def DItem.wt (x : DItem) : Nat := x.key.wt + x.record.wt

theorem infoItem : (Tryz.prog.info? 71).map (fun i => (i.zero, i.size, i.bytes)) = some (some (.agg #[.int .i64 0, .int .i64 0, .string ⟨#[]⟩, .slice none 0 0]), 4, 56) := by kernel_rfl

def DItem.cnt (x : DItem) : Nat := 3 + wtT DField.cnt x.record.fields x.record.fields.length
def DItem.mk3 (k : Nat) (x : DItem) : DItem := ⟨⟨((k : Int)), ((k : Int) + 1), markT (k + 2)⟩, ⟨marks DField.mk3 DField.cnt (k + 3) x.record.fields⟩⟩

def DItem.mcnt (x : DItem) : Nat := x.record.mcnt
def DItem.mks (x : DItem) (k : Nat) : DItem := { x with record := x.record.mks (k) }

end Go.Proofs.YtlfebehpmefioaaGreat

/-
  The laws' helpers for Store.
-/
namespace Go.Proofs.YtlfebehpmefioaaGreat
open Go.RowKit

def DStore.wt (x : DStore) : Nat := x.name.size + wtS DItem.wt x.items

def DStore.cnt (x : DStore) : Nat := 2 + wtT DItem.cnt x.items x.items.length
def DStore.mk3 (k : Nat) (x : DStore) : DStore := ⟨markT (k), marks DItem.mk3 DItem.cnt (k + 1) x.items, (((k + 1 + wtT DItem.cnt x.items x.items.length : Nat) : Int))⟩

def DStore.mcnt (x : DStore) : Nat := wtT DItem.cnt x.items x.items.length
def DStore.mks (x : DStore) (k : Nat) : DStore := { x with items := marks DItem.mk3 DItem.cnt (k) x.items }

end Go.Proofs.YtlfebehpmefioaaGreat
