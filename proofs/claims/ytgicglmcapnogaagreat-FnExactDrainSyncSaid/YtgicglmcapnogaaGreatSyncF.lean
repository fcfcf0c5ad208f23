/-
  What SyncStep, SyncAll, WriteLocal, PullChanges compute, and their plain laws. No function of the program is named here.
-/
import Derived.Test.YtgicglmcapnogaaGreatServerF
import Derived.Test.YtgicglmcapnogaaGreatAck
import Derived.Test.YtgicglmcapnogaaGreatEnqueue
import Derived.Test.YtgicglmcapnogaaGreatFirstWrite
import Derived.Test.YtgicglmcapnogaaGreatBackoff
namespace Go.Proofs.YtgicglmcapnogaaGreat
open Go.RowKit

/-! ### SyncStep -/
def stepOff (y : DSync) (now : Int) : Bool := !(isOutboxF y.outbox) || (!(firstWriteB y.outbox) || (decide (now < y.waitUntil) || !(within now 0 1000000000000)))
/-- The server behind a step in which the write y goes out. -/
def stepSrv (s : DServer) (y : DWrite) (fate : Int) : DServer := if fate = 0 ∨ fate = 2 then receiveF s y else if fate = 3 then receiveF (receiveF s y) y else s
/-- What the last answer said. -/
def stepCode (s : DServer) (y : DWrite) (fate : Int) : Int := if fate = 0 ∨ fate = 2 then receiveCode s y else if fate = 3 then receiveCode (receiveF s y) y else 4
def stepAcked (s : DServer) (y : DWrite) (fate : Int) : Bool := (fate == 0 || fate == 3) && (stepCode s y fate == 1 || stepCode s y fate == 2)
def tried (t : Int) : Int := if t < 60 then wrap64 (t + 1) else 60
def stepSync (y : DSync) (now : Int) : DSync := ⟨y.outbox, tried y.tries, wrap64 (now + boff (tried y.tries))⟩
def ackedSync (y : DSync) : DSync := ⟨ackWritesF y.outbox (firstWriteF y.outbox).seq, 0, 0⟩
def syncStepY (y : DSync) (s : DServer) (now fate : Int) : DSync := if stepOff y now then y else if stepAcked s (firstWriteF y.outbox) fate then ackedSync y else stepSync y now
def syncStepS (y : DSync) (s : DServer) (now fate : Int) : DServer := if stepOff y now then s else stepSrv s (firstWriteF y.outbox) fate
def syncStepN (y : DSync) (s : DServer) (now fate : Int) : Int := if stepOff y now then 0 else if stepAcked s (firstWriteF y.outbox) fate then 1 else 2
/-- The reference's way to count the tries. -/
theorem tried_min {t : Int} (h : -9223372036854775808 ≤ t) : (if (if (59 : Int) ≤ t then 59 else t) + 1 ≤ 60 then wrap64 ((if (59 : Int) ≤ t then 59 else t) + 1) else 60) = tried t := by
  unfold tried
  by_cases h1 : (59 : Int) ≤ t
  · rw [if_pos h1, if_pos (by decide)]
    split
    · rw [show t = 59 by omega]
    · rw [Go.IntWalk.wrap64_in _ (by omega)]; decide
  · rw [if_neg h1, if_pos (by omega), if_pos (by omega)]
theorem tried_lo {t : Int} (h : -9223372036854775808 ≤ t) : -9223372036854775808 ≤ tried t ∧ tried t ≤ 60 := by
  unfold tried
  split
  · have : wrap64 (t + 1) = t + 1 := Go.IntWalk.wrap64_in _ (by omega)
    omega
  · omega
theorem syncStepY_tries {y : DSync} {s : DServer} {now fate : Int} (h : -9223372036854775808 ≤ y.tries) : -9223372036854775808 ≤ (syncStepY y s now fate).tries := by
  unfold syncStepY
  split
  · exact h
  · split
    · show (-9223372036854775808 : Int) ≤ 0; omega
    · exact (tried_lo h).1
theorem ackWritesF_len (x : DOutbox) (seq : Int) : (ackWritesF x seq).writes.length ≤ x.writes.length := by
  unfold ackWritesF
  split
  · exact ackKept_le _ _
  · exact Nat.le_refl _
theorem syncStepY_len (y : DSync) (s : DServer) (now fate : Int) : (syncStepY y s now fate).outbox.writes.length ≤ y.outbox.writes.length := by
  unfold syncStepY
  split
  · exact Nat.le_refl _
  · split
    · exact ackWritesF_len _ _
    · exact Nat.le_refl _
theorem SmallServer.mono {x : DServer} {n m : Nat} (h : SmallServer x n) (hm : n ≤ m) : SmallServer x m := ⟨h.store, Nat.le_trans h.applied hm, Nat.le_trans h.changes hm⟩
theorem SmallServer.stepSrv {x : DServer} {n : Nat} (h : SmallServer x n) (y : DWrite) (fate : Int) : SmallServer (stepSrv x y fate) (n + 2) := by
  unfold Go.Proofs.YtgicglmcapnogaaGreat.stepSrv
  split
  · exact h.receive.mono (by omega)
  · split
    · exact h.receive.receive
    · exact h.mono (by omega)
theorem SmallServer.step {x : DServer} {n : Nat} (h : SmallServer x n) (y : DSync) (now fate : Int) : SmallServer (syncStepS y x now fate) (n + 2) := by
  unfold syncStepS
  split
  · exact h.mono (by omega)
  · exact h.stepSrv _ _

/-! ### SyncAll -/
/-- Behind the first k rounds. -/
def syncsF (y : DSync) (s : DServer) (now : Int) (l : List Int) : Nat → DSync × DServer
  | 0 => (y, s)
  | k + 1 => (syncStepY (syncsF y s now l k).1 (syncsF y s now l k).2 (wrap64 (now + wrap64 ((k : Int) * 64))) (l.getD k 0), syncStepS (syncsF y s now l k).1 (syncsF y s now l k).2 (wrap64 (now + wrap64 ((k : Int) * 64))) (l.getD k 0))
def rounds (l : List Int) : Nat := min 100 l.length
def syncAllF (y : DSync) (s : DServer) (now : Int) (l : List Int) : DSync × DServer := if within now 0 1000000000000 then syncsF y s now l (rounds l) else (y, s)
theorem syncsF_tries {y : DSync} {s : DServer} {now : Int} {l : List Int} (h : -9223372036854775808 ≤ y.tries) : ∀ k, -9223372036854775808 ≤ (syncsF y s now l k).1.tries
  | 0 => h
  | k + 1 => syncStepY_tries (syncsF_tries h k)
theorem syncsF_len (y : DSync) (s : DServer) (now : Int) (l : List Int) : ∀ k, (syncsF y s now l k).1.outbox.writes.length ≤ y.outbox.writes.length
  | 0 => Nat.le_refl _
  | k + 1 => Nat.le_trans (syncStepY_len _ _ _ _) (syncsF_len y s now l k)
theorem syncsF_small {y : DSync} {s : DServer} {now : Int} {l : List Int} {n : Nat} (h : SmallServer s n) : ∀ k, SmallServer (syncsF y s now l k).2 (n + 2 * k)
  | 0 => h
  | k + 1 => ((syncsF_small h k).step _ _ _).mono (by omega)

/-! ### Replicas -/
def writeLocalW (r : DReplica) (k : DKey) (field : ByteArray) (n : Int) : DWrite := ⟨r.sync.outbox.device, r.sync.outbox.next, k, field, n⟩
def localStoreF (r : DReplica) : DStore := appliedF r.base r.sync.outbox.writes
/-- The write's number and device play no part in the item's field. -/
theorem setItemB_key {s : DStore} {x y : DWrite} (h1 : x.key = y.key) (h2 : x.field = y.field) (h3 : x.n = y.n) : setItemB s x = setItemB s y := by
  unfold setItemB setItemR; rw [h1, h2, h3]
def writeLocalB (r : DReplica) (k : DKey) (field : ByteArray) (n : Int) : Bool := isReplicaF r && (enqueueB r.sync.outbox k field n && setItemB (localStoreF r) (writeLocalW r k field n))
def withBox (r : DReplica) (o : DOutbox) : DReplica := ⟨r.base, r.seen, ⟨o, r.sync.tries, r.sync.waitUntil⟩⟩
def writeLocalF (r : DReplica) (k : DKey) (field : ByteArray) (n : Int) : DReplica := if writeLocalB r k field n then withBox r (enqOut r.sync.outbox k field n) else r
def pullOff (r : DReplica) (s : DServer) : Bool := !(isReplicaF r) || (!(isServerF s) || decide ((s.changes.length : Int) < r.seen))
def pulled (r : DReplica) (s : DServer) : DReplica := ⟨appliedF r.base (s.changes.drop r.seen.toNat), (s.changes.length : Int), ⟨ackWritesF r.sync.outbox (lastSeqF s r.sync.outbox.device), r.sync.tries, r.sync.waitUntil⟩⟩
def pullChangesF (r : DReplica) (s : DServer) : DReplica := if pullOff r s then r else pulled r s
def pullChangesN (r : DReplica) (s : DServer) : Int := if pullOff r s then 0 else (s.changes.length : Int) - r.seen

end Go.Proofs.YtgicglmcapnogaaGreat
