/-
 Plain laws of FnPulls. No function of the program is named here.
-/
import Derived.Test.YtlfebehpmefioaaGreatRepLaw
import Derived.Test.YtlfebehpmefioaaGreatApplied
import Derived.Test.YtlfebehpmefioaaGreatIsConfirmed
import Derived.Test.YtlfebehpmefioaaGreatEqualReplicas
namespace Go.Proofs.YtlfebehpmefioaaGreat
open Go.RowKit

theorem kept_drop (q : Int) : ∀ (l : List DWrite) (base : Int), (∀ i, (hi : i < l.length) → l[i].seq = base + i) → ∃ k, ackKept l q = l.drop k
 | [], _, _ => ⟨0, rfl⟩
 | w :: t, base, h => by
  have h0 : w.seq = base := by have := h 0 (by simp); simpa using this
  have ht : ∀ i, (hi : i < t.length) → t[i].seq = (base + 1) + i := fun i hi => by
   have := h (i + 1) (by simp; omega)
   simp only [List.getElem_cons_succ] at this
   rw [this]; omega
  by_cases hq : base ≤ q
  ·obtain ⟨k, hk⟩ := kept_drop q t (base + 1) ht
   refine ⟨k + 1, ?_⟩
   rw [List.drop_succ_cons, ← hk]
   unfold ackKept
   rw [List.filter_cons, if_neg]
   rw [decide_eq_true (show w.seq ≤ q by omega)]
   decide
  ·refine ⟨0, ?_⟩
   rw [List.drop_zero]
   unfold ackKept
   rw [List.filter_eq_self]
   intro y hy
   obtain ⟨i, hi, rfl⟩ := List.getElem_of_mem hy
   rw [h i hi, decide_eq_false (by omega)]
   rfl
theorem outbox_drop {x : DOutbox} (h : isOutboxF x = true) : ∀ k, isOutboxF ⟨x.device, x.next, x.writes.drop k⟩ = true
 | 0 => by simpa using h
 | k + 1 => by
  have h1 := outbox_drop h k
  by_cases hl : 0 < (x.writes.drop k).length
  ·have h2 := outbox_tail h1 hl
   have e : (x.writes.drop k).drop 1 = x.writes.drop (k + 1) := by rw [List.drop_drop]
   rw [← e]
   exact h2
  ·have e : x.writes.drop (k + 1) = x.writes.drop k := by
    rw [List.length_drop] at hl
    rw [List.drop_of_length_le (by omega), List.drop_of_length_le (by omega)]
   rw [e]
   exact h1
theorem ack_outbox {o : DOutbox} (h : isOutboxF o = true) (q : Int) : isOutboxF (ackWritesF o q) = true := by
 unfold ackWritesF ackOut
 rw [h, if_pos rfl]
 obtain ⟨h1, _⟩ := outbox_iff.1 h
 obtain ⟨k, hk⟩ := kept_drop q o.writes (o.next - o.writes.length) (fun i hi => (h1 i hi).2.2)
 rw [hk]
 exact outbox_drop h k
theorem applied_store {s : DStore} (h : isStoreF s = true) : ∀ l : List DWrite, isStoreF (appliedF s l) = true := by
 intro l
 unfold appliedF
 induction l generalizing s with
 | nil => exact h
 | cons y t ih => exact ih (setItem_store h)
theorem applied_name9 (s : DStore) (l : List DWrite) : (appliedF s l).name = s.name := by
 unfold appliedF
 induction l generalizing s with
 | nil => rfl
 | cons y t ih => exact (ih (setItemF s y)).trans (setItem_name9 s y)

theorem pull_off {r : DReplica} {s : DServer} (h : pullOff r s = true) : pullChangesF r s = r := by unfold pullChangesF; rw [h]; rfl
theorem replica_parts {r : DReplica} (h : isReplicaF r = true) : isStoreF r.base = true ∧ isNotes r.base.name = true ∧ isOutboxF r.sync.outbox = true := by
 unfold isReplicaF at h
 simp only [Bool.and_eq_true] at h
 exact ⟨h.1, h.2.1, h.2.2.2⟩
theorem pull_on {r : DReplica} {s : DServer} (hr : isReplicaF r = true) (hs : isServerF s = true) (hn : ¬ (s.changes.length : Int) < r.seen) (hc : s.changes.length ≤ 10000) :
  isReplicaF (pullChangesF r s) = true ∧ (∀ i, (hi : i < (pullChangesF r s).sync.outbox.writes.length) → ¬ (pullChangesF r s).sync.outbox.writes[i].seq ≤ lastSeqF s r.sync.outbox.device) := by
 obtain ⟨h1, h2, h3⟩ := replica_parts hr
 have e : pullChangesF r s = pulled r s := by
  unfold pullChangesF pullOff
  rw [hr, hs, decide_eq_false hn]
  rfl
 rw [e]
 constructor
 ·unfold isReplicaF pulled
  rw [applied_store h1, applied_name9, h2, ack_outbox h3, within_iff.2 ⟨by show (0 : Int) ≤ (s.changes.length : Int); omega, by show (s.changes.length : Int) ≤ 1000000000000; omega⟩]
  rfl
 ·have e2 : (pulled r s).sync.outbox.writes = ackKept r.sync.outbox.writes (lastSeqF s r.sync.outbox.device) := by
   unfold pulled ackWritesF ackOut
   rw [h3, if_pos rfl]
  intro i hi
  obtain ⟨y, hy⟩ : ∃ y, (pulled r s).sync.outbox.writes[i] = y := ⟨_, rfl⟩
  rw [hy]
  have hm : y ∈ (pulled r s).sync.outbox.writes := hy ▸ List.getElem_mem hi
  rw [e2] at hm
  unfold ackKept at hm
  rw [List.mem_filter] at hm
  have := hm.2
  simpa using this
theorem new_rep {s : DServer} (hs : isServerF s = true) (hc : s.changes.length ≤ 10000) : newReplicaB s 9 = true ∧ localStoreF (newReplicaF s 9) = s.store ∧ isConfirmedF (newReplicaF s 9) = true ∧ SmallStore (newReplicaF s 9).base := by
 have hn := server_notes hs
 have hst := isServer_store hs
 have hb : isOutboxF (newBox 9) = true := newOutbox_box (by decide)
 have ho : newOutboxF 9 = newBox 9 := newOutbox_is (by decide)
 have hB : newReplicaB s 9 = true := by
  unfold newReplicaB
  rw [hs, show newOutboxB 9 = true from hb]
  unfold isReplicaF newRep
  rw [ho, hst, hn, hb, within_iff.2 ⟨by show (0 : Int) ≤ (s.changes.length : Int); omega, by show (s.changes.length : Int) ≤ 1000000000000; omega⟩]
  rfl
 have e : newReplicaF s 9 = ⟨s.store, (s.changes.length : Int), ⟨newBox 9, 0, 0⟩⟩ := by unfold newReplicaF; rw [hB, if_pos rfl, newRep, ho]
 rw [e]
 exact ⟨hB, rfl, rfl, SmallStore.of_store hst⟩
theorem same_reps (x : DReplica) : equalReplicasF x x = true := by
 unfold equalReplicasF equalStoresF equalSyncsF equalOutboxesF
 simp
theorem same_stores (x : DStore) : equalStoresF x x = true := by unfold equalStoresF; simp

end Go.Proofs.YtlfebehpmefioaaGreat
