/-
 Plain laws of a replica and a server that fit together. No function of the program is named here.
-/
import Derived.Test.YtlfebehpmefioaaGreatDrawSrv
import Derived.Test.YtlfebehpmefioaaGreatNewReplica
namespace Go.Proofs.YtlfebehpmefioaaGreat
open Go.RowKit

theorem room_small {s : DServer} {d : Int} (h : s.applied.length < 60) : fullFor s d = false := by unfold fullFor; rw [decide_eq_false (by omega), Bool.and_false]
theorem server_notes {s : DServer} (h : isServerF s = true) : isNotes s.store.name = true := (server_iff.1 h).2.2.2.2.1

structure RepOk (b : Nat) (r : DReplica) (s : DServer) : Prop where
 net : Net r.sync.outbox s
 dev : r.sync.outbox.device = 4
 wait : 0 ≤ r.sync.waitUntil ∧ r.sync.waitUntil ≤ 64 * (b : Int)
 tries : 0 ≤ r.sync.tries
 base : isStoreF r.base = true ∧ isNotes r.base.name = true
 seen : 0 ≤ r.seen ∧ r.seen ≤ s.changes.length
 changes : s.changes.length ≤ 5 + 2 * b
 applied : s.applied.length ≤ 5 + 2 * b
 store : s.store = appliedF r.base (s.changes.drop r.seen.toNat)

theorem RepOk.new {s : DServer} (h : SrvOk 5 s) : newReplicaB s 4 = true ∧ RepOk 0 (newReplicaF s 4) s := by
 have hn := server_notes h.srv
 have hst := isServer_store h.srv
 have hb : isOutboxF (newBox 4) = true := newOutbox_box (by decide)
 have ho : newOutboxF 4 = newBox 4 := newOutbox_is (by decide)
 have hB : newReplicaB s 4 = true := by
  unfold newReplicaB
  rw [h.srv, show newOutboxB 4 = true from hb]
  unfold isReplicaF newRep
  rw [ho, hst, hn, hb, within_iff.2 ⟨by show (0 : Int) ≤ (s.changes.length : Int); omega, by have := h.changes; show (s.changes.length : Int) ≤ 1000000000000; omega⟩]
  rfl
 have e : newReplicaF s 4 = ⟨s.store, (s.changes.length : Int), ⟨newBox 4, 0, 0⟩⟩ := by unfold newReplicaF; rw [hB, if_pos rfl, newRep, ho]
 refine ⟨hB, ?_⟩
 rw [e]
 have h4 := h.four
 refine ⟨⟨hb, h.srv, room_small (by have := h.applied; omega), ?_, ?_, ?_⟩, rfl, ⟨by show (0 : Int) ≤ 0; decide, by show (0 : Int) ≤ 64 * ((0 : Nat) : Int); decide⟩, by show (0 : Int) ≤ 0; decide, ⟨hst, hn⟩, ⟨by show (0 : Int) ≤ (s.changes.length : Int); omega, Int.le_refl _⟩, by have := h.changes; omega, by have := h.applied; omega, ?_⟩
 ·show (1 : Int) - ((0 : Nat) : Int) - 1 ≤ lastSeqF s 4; rw [h4]; decide
 ·show lastSeqF s 4 ≤ (1 : Int) - ((0 : Nat) : Int); rw [h4]; decide
 ·show lastSeqF s 4 ≤ (1 : Int) - 1; rw [h4]; decide
 ·show s.store = appliedF s.store (s.changes.drop ((s.changes.length : Int)).toNat)
  rw [Int.toNat_natCast, List.drop_of_length_le (Nat.le_refl _)]
  rfl

theorem RepOk.write {b : Nat} {r : DReplica} {s : DServer} (h : RepOk b r s) (k : DKey) (f : ByteArray) (n : Int) : RepOk (b + 1) (writeLocalF r k f n) s := by
 have hc := h.changes
 have ha := h.applied
 unfold writeLocalF
 cases hb : writeLocalB r k f n
 ·simp only [Bool.false_eq_true, if_false]
  exact ⟨h.net, h.dev, ⟨h.wait.1, by have := h.wait.2; omega⟩, h.tries, h.base, h.seen, by omega, by omega, h.store⟩
 ·simp only [if_true]
  have hq : enqueueB r.sync.outbox k f n = true := by
   unfold writeLocalB at hb
   simp only [Bool.and_eq_true] at hb
   exact hb.2.1
  have e : enqueueF r.sync.outbox k f n = enqOut r.sync.outbox k f n := by unfold enqueueF; rw [hq, if_pos rfl]
  obtain ⟨h1, h2⟩ := h.net.enqueue k f n
  rw [e] at h1 h2
  exact ⟨h1, h2.trans h.dev, ⟨h.wait.1, by have := h.wait.2; show r.sync.waitUntil ≤ _; omega⟩, h.tries, h.base, h.seen, by omega, by omega, h.store⟩

theorem ext_store {d : Int} {s t : DServer} {base : DStore} {n : Int} (hx : Ext d s t) (h0 : 0 ≤ n ∧ n ≤ s.changes.length) (hs : s.store = appliedF base (s.changes.drop n.toNat)) : n ≤ t.changes.length ∧ t.store = appliedF base (t.changes.drop n.toNat) := by
 obtain ⟨l, e1, _, _, e2⟩ := hx.news
 refine ⟨by rw [e1, List.length_append]; omega, ?_⟩
 rw [e1, e2, hs, List.drop_append_of_le_length (by omega), appliedF_append]

theorem step_applied (y : DSync) (s : DServer) (now fate : Int) : (syncStepS y s now fate).applied.length ≤ s.applied.length + 2 := by
 unfold syncStepS stepSrv
 split
 ·omega
 ·split
  ·have := receive_applied s (firstWriteF y.outbox); omega
  ·split
   ·have h1 := receive_applied s (firstWriteF y.outbox)
    have h2 := receive_applied (receiveF s (firstWriteF y.outbox)) (firstWriteF y.outbox)
    omega
   ·omega

theorem RepOk.sync {b : Nat} {r : DReplica} {s : DServer} (h : RepOk b r s) (hb : b ≤ 100) (m : Int) : RepOk (b + 1) ⟨r.base, r.seen, syncStepY r.sync s r.sync.waitUntil m⟩ (syncStepS r.sync s r.sync.waitUntil m) := by
 obtain ⟨n1, x1, d1, _⟩ := h.net.step r.sync.waitUntil m
 obtain ⟨w1, w2⟩ := syncStepY_in (s := s) (fate := m) (b := 64 * (b : Int)) h.wait (by omega) h.tries
 obtain ⟨e1, e2⟩ := ext_store x1 h.seen h.store
 exact ⟨n1, d1.trans h.dev, ⟨w1.1, by have := w1.2; show (syncStepY r.sync s r.sync.waitUntil m).waitUntil ≤ _; omega⟩, w2, h.base, ⟨h.seen.1, e1⟩, by have := step_changes r.sync s r.sync.waitUntil m; have := h.changes; omega, by have := step_applied r.sync s r.sync.waitUntil m; have := h.applied; omega, e2⟩

theorem RepOk.recv {b : Nat} {r : DReplica} {s : DServer} (h : RepOk b r s) (hb : b ≤ 20) (y : DWrite) (hd : y.device ≠ 4) : RepOk (b + 1) r (receiveF s y) := by
 have hc := receive_changes s y
 have ha := receive_applied s y
 have h1 := h.changes
 have h2 := h.applied
 have hsrv := receive_server (y := y) h.net.srv
 have hlast : lastSeqF (receiveF s y) 4 = lastSeqF s 4 := by
  unfold receiveF
  split
  ·rw [lastSeq_out h.net.srv, if_neg (Ne.symm hd)]
  ·rfl
 have hst : r.seen ≤ (receiveF s y).changes.length ∧ (receiveF s y).store = appliedF r.base ((receiveF s y).changes.drop r.seen.toNat) := by
  unfold receiveF
  split
  ·show r.seen ≤ (s.changes ++ [y]).length ∧ setItemF s.store y = appliedF r.base ((s.changes ++ [y]).drop r.seen.toNat)
   have := h.seen
   refine ⟨by rw [List.length_append]; omega, ?_⟩
   rw [List.drop_append_of_le_length (by omega), appliedF_append, ← h.store]
   rfl
  ·exact ⟨h.seen.2, h.store⟩
 have hdv := h.dev
 refine ⟨⟨h.net.box, hsrv, room_small (by omega), ?_, ?_, ?_⟩, hdv, ⟨h.wait.1, by have := h.wait.2; omega⟩, h.tries, h.base, ⟨h.seen.1, hst.1⟩, by omega, by omega, hst.2⟩
 ·have := h.net.lo; rw [hdv] at this ⊢; rw [hlast]; exact this
 ·have := h.net.hi; rw [hdv] at this ⊢; rw [hlast]; exact this
 ·have := h.net.top; rw [hdv] at this ⊢; rw [hlast]; exact this

theorem Net.ackLast {o : DOutbox} {s : DServer} (h : Net o s) : Net (ackWritesF o (lastSeqF s o.device)) s ∧ (ackWritesF o (lastSeqF s o.device)).device = o.device := by
 by_cases hl : 0 < o.writes.length
 ·obtain ⟨_, _, w3⟩ := h.first hl
  have h1 := h.lo
  have h2 := h.hi
  by_cases hs : lastSeqF s o.device = o.next - o.writes.length
  ·obtain ⟨n1, d1, _⟩ := h.acked hl hs
   rw [w3, ← hs] at n1 d1
   exact ⟨n1, d1⟩
  ·have e := (outbox_law h.box hl).2.2.2.2.2.1
   rw [w3, show o.next - (o.writes.length : Int) - 1 = lastSeqF s o.device by omega] at e
   rw [e]
   exact ⟨h, rfl⟩
 ·have e : o.writes = [] := List.eq_nil_of_length_eq_zero (by omega)
  have e2 : ackWritesF o (lastSeqF s o.device) = o := by
   unfold ackWritesF ackOut
   rw [h.box, if_pos rfl, e]
   show (⟨o.device, o.next, []⟩ : DOutbox) = o
   rw [← e]
  rw [e2]
  exact ⟨h, rfl⟩

theorem RepOk.on {b : Nat} {r : DReplica} {s : DServer} (h : RepOk b r s) (hb : b ≤ 20) : pullOff r s = false := by
 unfold pullOff isReplicaF
 have h1 := h.seen
 have h2 := h.changes
 rw [h.base.1, h.base.2, h.net.box, h.net.srv, within_iff.2 ⟨h1.1, by omega⟩, decide_eq_false (by omega)]
 rfl
theorem RepOk.pull {b : Nat} {r : DReplica} {s : DServer} (h : RepOk b r s) (hb : b ≤ 20) : RepOk (b + 1) (pullChangesF r s) s := by
 obtain ⟨n1, d1⟩ := h.net.ackLast
 have e : pullChangesF r s = pulled r s := by unfold pullChangesF; rw [h.on hb]; rfl
 have h1 := h.changes
 have h2 := h.applied
 rw [e]
 unfold pulled
 rw [← h.store]
 refine ⟨n1, d1.trans h.dev, ⟨h.wait.1, by have := h.wait.2; show r.sync.waitUntil ≤ _; omega⟩, h.tries, ⟨isServer_store h.net.srv, server_notes h.net.srv⟩, ⟨by show (0 : Int) ≤ (s.changes.length : Int); omega, Int.le_refl _⟩, by omega, by omega, ?_⟩
 show s.store = appliedF s.store (s.changes.drop ((s.changes.length : Int)).toNat)
 rw [Int.toNat_natCast, List.drop_of_length_le (Nat.le_refl _)]
 rfl
theorem RepOk.small {b : Nat} {r : DReplica} {s : DServer} (h : RepOk b r s) (hb : b ≤ 20) : SmallStore r.base ∧ r.sync.outbox.writes.length ≤ 10000 ∧ SmallServer s 10000 ∧ 0 ≤ r.sync.tries ∧ isServerF s = true := by
 have h1 := h.changes
 have h2 := h.applied
 obtain ⟨_, _, _, h4⟩ := outbox_iff.1 h.net.box
 exact ⟨SmallStore.of_store h.base.1, by omega, ⟨SmallStore.of_store (isServer_store h.net.srv), by omega, by omega⟩, h.tries, h.net.srv⟩

end Go.Proofs.YtlfebehpmefioaaGreat
