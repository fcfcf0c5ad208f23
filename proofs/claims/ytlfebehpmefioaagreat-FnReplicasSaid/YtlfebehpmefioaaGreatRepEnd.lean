/-
  A replica behind a drained queue and a pull: it shows what the server has. No function of the program is named here.
-/
import Derived.Test.YtlfebehpmefioaaGreatRepLaw
import Derived.Test.YtlfebehpmefioaaGreatDrainLaw
import Derived.Test.YtlfebehpmefioaaGreatIsConfirmed
import Derived.Test.YtlfebehpmefioaaGreatEqualReplicas
namespace Go.Proofs.YtlfebehpmefioaaGreat
open Go.RowKit

theorem rep_drained {b : Nat} {r : DReplica} {s : DServer} (h : RepOk b r s) (hb : b ≤ 20) : Net (drainF r.sync s r.sync.waitUntil).1.outbox (drainF r.sync s r.sync.waitUntil).2 ∧ (drainF r.sync s r.sync.waitUntil).1.outbox.writes = [] ∧ r.seen ≤ (drainF r.sync s r.sync.waitUntil).2.changes.length ∧ (drainF r.sync s r.sync.waitUntil).2.changes.length ≤ 2000000 ∧ (drainF r.sync s r.sync.waitUntil).2.store = appliedF r.base ((drainF r.sync s r.sync.waitUntil).2.changes.drop r.seen.toNat) := by
  have hw := h.wait
  obtain ⟨h1, _, _, n1, x1, _⟩ := drained h.net ⟨hw.1, by omega⟩
  obtain ⟨e1, e2⟩ := ext_store x1 h.seen h.store
  refine ⟨n1, h1, e1, ?_, e2⟩
  obtain ⟨l, c1, c2, _⟩ := x1.news
  have l1 := lastSeq_in n1.srv r.sync.outbox.device
  have l2 := lastSeq_in h.net.srv r.sync.outbox.device
  have hc := h.changes
  rw [c1, List.length_append]
  omega

theorem rep_pulled {r : DReplica} {s : DServer} (hn : Net r.sync.outbox s) (hw : r.sync.outbox.writes = []) (hb : isStoreF r.base = true ∧ isNotes r.base.name = true) (h0 : 0 ≤ r.seen) (h1 : r.seen ≤ s.changes.length) (hc : s.changes.length ≤ 2000000) (hst : s.store = appliedF r.base (s.changes.drop r.seen.toNat)) :
    pullChangesN r s = (s.changes.length : Int) - r.seen ∧ pullChangesF r s = ⟨s.store, (s.changes.length : Int), r.sync⟩ := by
  have hoff : pullOff r s = false := by
    unfold pullOff isReplicaF
    rw [hb.1, hb.2, hn.box, hn.srv, within_iff.2 ⟨h0, by omega⟩, decide_eq_false (by omega)]
    rfl
  have e2 : ackWritesF r.sync.outbox (lastSeqF s r.sync.outbox.device) = r.sync.outbox := by
    unfold ackWritesF ackOut
    rw [hn.box, if_pos rfl, hw]
    show (⟨r.sync.outbox.device, r.sync.outbox.next, []⟩ : DOutbox) = r.sync.outbox
    rw [← hw]
  refine ⟨by unfold pullChangesN; rw [hoff]; rfl, ?_⟩
  unfold pullChangesF
  rw [hoff]
  show pulled r s = _
  unfold pulled
  rw [← hst, e2]

theorem rep_end {b : Nat} {r : DReplica} {s : DServer} (h : RepOk b r s) (hb : b ≤ 20) {y : DSync} {t : DServer} (hy : (drainF r.sync s r.sync.waitUntil).1 = y) (ht : (drainF r.sync s r.sync.waitUntil).2 = t) :
    (pullChangesN ⟨r.base, r.seen, y⟩ t = (t.changes.length : Int) - r.seen ∧ pullChangesF ⟨r.base, r.seen, y⟩ t = ⟨t.store, (t.changes.length : Int), y⟩) ∧ (pullChangesN ⟨t.store, (t.changes.length : Int), y⟩ t = 0 ∧ pullChangesF ⟨t.store, (t.changes.length : Int), y⟩ t = ⟨t.store, (t.changes.length : Int), y⟩) ∧ isConfirmedF ⟨t.store, (t.changes.length : Int), y⟩ = true ∧ localStoreF ⟨t.store, (t.changes.length : Int), y⟩ = t.store ∧ SmallStore t.store ∧ y.outbox.writes.length = 0 ∧ t.changes.length ≤ 2000000 := by
  obtain ⟨n1, w1, s1, c1, st1⟩ := rep_drained h hb
  rw [hy] at n1 w1
  rw [ht] at n1 s1 c1 st1
  have hts := isServer_store n1.srv
  have h2 := rep_pulled (r := ⟨t.store, (t.changes.length : Int), y⟩) n1 w1 ⟨hts, server_notes n1.srv⟩ (by show (0 : Int) ≤ (t.changes.length : Int); omega) (Int.le_refl _) c1 (by
    show t.store = appliedF t.store (t.changes.drop ((t.changes.length : Int)).toNat)
    rw [Int.toNat_natCast, List.drop_of_length_le (Nat.le_refl _)]
    rfl)
  refine ⟨rep_pulled (r := ⟨r.base, r.seen, y⟩) n1 w1 h.base h.seen.1 s1 c1 st1, ⟨?_, h2.2⟩, ?_, ?_, SmallStore.of_store hts, by rw [w1]; rfl, c1⟩
  · rw [h2.1]; show (t.changes.length : Int) - (t.changes.length : Int) = 0; omega
  · unfold isConfirmedF; rw [decide_eq_true (by show y.outbox.writes.length = 0; rw [w1]; rfl)]
  · unfold localStoreF; show appliedF t.store y.outbox.writes = t.store; rw [w1]; rfl
theorem equal_reps (x : DReplica) : equalReplicasF x x = true := by
  unfold equalReplicasF equalStoresF
  rw [equal_syncs]
  simp

end Go.Proofs.YtlfebehpmefioaaGreat
