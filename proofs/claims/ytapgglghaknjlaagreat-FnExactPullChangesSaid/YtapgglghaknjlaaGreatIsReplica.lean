/-
  IsReplica.
-/
import Derived.Test.YtapgglghaknjlaaGreatIsStore
import Derived.Test.YtapgglghaknjlaaGreatIsOutbox
import Derived.Test.YtapgglghaknjlaaGreatTFam
namespace Go.Proofs.YtapgglghaknjlaaGreat
open Go.RowKit

def isNotes (s : ByteArray) : Bool := s.toList == [110, 111, 116, 101, 115]
def isReplicaF (x : DReplica) : Bool := isStoreF x.base && (isNotes x.base.name && (within x.seen 0 1000000000000 && isOutboxF x.sync.outbox))

set_option maxRecDepth 100000 in
set_option maxHeartbeats 1600000 in
theorem implIsReplica (cs : List Value) (x : DReplica) (w : World) (h : Reads DReplica.rep w cs x) :
    Calls Tryz.prog 78 #[.agg cs.toArray] w fun e w' => e = .returned (.bool (isReplicaF x)) ∧ Below w.heap.size w w' := by
  obtain ⟨fp_q, h⟩ := h
  obtain ⟨q_v1, q_v2, q_f1, q_f2, rfl, _, q_s0, q_r1, q_r2⟩ := DReplica.rd.1 h
  obtain ⟨q_a1, q_c1, rfl, q_hm1, q_lc1, q_hu1⟩ := slice_open q_r1; clear q_hu1
  have q_K1 : Hid (Reads (Rep.slice 142 DItem.rep) w [.slice q_a1 x.base.items.length q_c1] x.base.items) := ⟨_, q_r1⟩
  obtain ⟨q_a2, q_c2, rfl, q_hm2, q_lc2, q_hu2⟩ := slice_open q_r2; clear q_hu2
  have q_K2 : Hid (Reads (Rep.slice 47 DWrite.rep) w [.slice q_a2 x.sync.outbox.writes.length q_c2] x.sync.outbox.writes) := ⟨_, q_r2⟩
  clear q_r1 q_r2 h
  have HSt : Hid (Reads DStore.rep w [.string x.base.name, .slice q_a1 x.base.items.length q_c1, .int .i64 x.base.auto] x.base) := by
    obtain ⟨f, r⟩ := q_K1.out
    exact ⟨f, DStore.rd.2 ⟨_, _, rfl, rfl, q_s0, r⟩⟩
  have HOb : Hid (Reads DOutbox.rep w [.int .i64 x.sync.outbox.device, .int .i64 x.sync.outbox.next, .slice q_a2 x.sync.outbox.writes.length q_c2] x.sync.outbox) := by
    obtain ⟨f, r⟩ := q_K2.out
    exact ⟨f, DOutbox.rd.2 ⟨_, _, rfl, rfl, r⟩⟩
  go_enter Tryz.func78, Tryz.ntmps78
  go_wp2_with fail
  refine (implIsStore _ x.base _ (HSt.out.below (by repeat (first | with_reducible exact belR | with_reducible apply belA | (with_reducible refine belS ?_ ?_; focus (first | omega | (simp; done) | (simp; omega))) | with_reducible apply belN | with_reducible apply belD | with_reducible assumption)))).mono ?_
  rintro e w1 ⟨rfl, hb⟩
  have HX : Hid (WB w1 w.heap.size #[.string x.base.name, .slice q_a1 x.base.items.length q_c1, .int .i64 x.base.auto, .int .i64 x.seen, .int .i64 x.sync.outbox.device, .int .i64 x.sync.outbox.next, .slice q_a2 x.sync.outbox.writes.length q_c2, .int .i64 x.sync.tries, .int .i64 x.sync.waitUntil]) := Lib.hid ((WB.at rfl).keep hb)
  have HB : Hid (Below w.heap.size w w1) := Lib.hid (below_call (by repeat (first | with_reducible exact belR | with_reducible apply belA | (with_reducible refine belS ?_ ?_; focus (first | omega | (simp; done) | (simp; omega))) | with_reducible apply belN | with_reducible apply belD | with_reducible assumption)) (by first | omega | (simp; done) | (simp; omega)) hb)
  clear hb
  have ⟨c_HX, z_HX, f_HX⟩ := HX.out
  cases n1 : isStoreF x.base
  case' true => cases n2 : isNotes x.base.name
  case' true.true => cases n3 : within x.seen 0 1000000000000
  all_goals
    have n4 : Hid True := trivial
    first | (have n5 : (x.base.name.toList == [110, 111, 116, 101, 115]) = true := n2) | (have n5 : (x.base.name.toList == [110, 111, 116, 101, 115]) = false := n2) | skip
    go_wp2_with (first | (go_at_call 94; refine (implInRange _ _ _ _).mono ?_; rintro e w' ⟨rfl, rfl⟩) | (go_at_call 93; refine (implIsOutbox _ x.sync.outbox _ (HOb.out.below HB.out)).mono ?_; rintro e w2 ⟨rfl, hb2⟩; have HB2 := Lib.hid (HB.out.trans (hb2.mono HB.out.size)); clear hb2))
    go_ret
    refine ⟨ret_bool ?_, by first | exact HB2.out | exact HB.out⟩
    first
      | (rw [isReplicaF, n1]; (try rfl); done)
      | (rw [isReplicaF, n1, n2]; (try rfl); done)
      | (rw [isReplicaF, n1, n2, n3]; (try rfl); done)


set_option maxRecDepth 100000 in
set_option maxHeartbeats 1600000 in
theorem specIsReplica (cs : List Value) (x : DReplica) (w : World) (h : Reads DReplica.rep w cs x) :
    Calls Tryz.prog 74 #[.agg cs.toArray] w fun e w' => e = .returned (.bool (isReplicaF x)) ∧ Below w.heap.size w w' := by
  obtain ⟨fp_q, h⟩ := h
  obtain ⟨q_v1, q_v2, q_f1, q_f2, rfl, _, q_s0, q_r1, q_r2⟩ := DReplica.rd.1 h
  obtain ⟨q_a1, q_c1, rfl, q_hm1, q_lc1, q_hu1⟩ := slice_open q_r1; clear q_hu1
  have q_K1 : Hid (Reads (Rep.slice 142 DItem.rep) w [.slice q_a1 x.base.items.length q_c1] x.base.items) := ⟨_, q_r1⟩
  obtain ⟨q_a2, q_c2, rfl, q_hm2, q_lc2, q_hu2⟩ := slice_open q_r2; clear q_hu2
  have q_K2 : Hid (Reads (Rep.slice 47 DWrite.rep) w [.slice q_a2 x.sync.outbox.writes.length q_c2] x.sync.outbox.writes) := ⟨_, q_r2⟩
  clear q_r1 q_r2 h
  have HSt : Hid (Reads DStore.rep w [.string x.base.name, .slice q_a1 x.base.items.length q_c1, .int .i64 x.base.auto] x.base) := by
    obtain ⟨f, r⟩ := q_K1.out
    exact ⟨f, DStore.rd.2 ⟨_, _, rfl, rfl, q_s0, r⟩⟩
  have HOb : Hid (Reads DOutbox.rep w [.int .i64 x.sync.outbox.device, .int .i64 x.sync.outbox.next, .slice q_a2 x.sync.outbox.writes.length q_c2] x.sync.outbox) := by
    obtain ⟨f, r⟩ := q_K2.out
    exact ⟨f, DOutbox.rd.2 ⟨_, _, rfl, rfl, r⟩⟩
  go_enter Tryz.func74, Tryz.ntmps74
  go_wp2_with fail
  refine (specIsStore _ x.base _ (HSt.out.below (by repeat (first | with_reducible exact belR | with_reducible apply belA | (with_reducible refine belS ?_ ?_; focus (first | omega | (simp; done) | (simp; omega))) | with_reducible apply belN | with_reducible apply belD | with_reducible assumption)))).mono ?_
  rintro e w1 ⟨rfl, hb⟩
  have HX : Hid (WB w1 w.heap.size #[.string x.base.name, .slice q_a1 x.base.items.length q_c1, .int .i64 x.base.auto, .int .i64 x.seen, .int .i64 x.sync.outbox.device, .int .i64 x.sync.outbox.next, .slice q_a2 x.sync.outbox.writes.length q_c2, .int .i64 x.sync.tries, .int .i64 x.sync.waitUntil]) := Lib.hid ((WB.at rfl).keep hb)
  have HB : Hid (Below w.heap.size w w1) := Lib.hid (below_call (by repeat (first | with_reducible exact belR | with_reducible apply belA | (with_reducible refine belS ?_ ?_; focus (first | omega | (simp; done) | (simp; omega))) | with_reducible apply belN | with_reducible apply belD | with_reducible assumption)) (by first | omega | (simp; done) | (simp; omega)) hb)
  clear hb
  have ⟨c_HX, z_HX, f_HX⟩ := HX.out
  cases n1 : isStoreF x.base
  case' true => cases n2 : isNotes x.base.name
  case' true.true => cases n3 : within x.seen 0 1000000000000
  all_goals
    have n4 : Hid True := trivial
    first | (have n5 : (x.base.name.toList == [110, 111, 116, 101, 115]) = true := n2) | (have n5 : (x.base.name.toList == [110, 111, 116, 101, 115]) = false := n2) | skip
    go_wp2_with (first | (go_at_call 87; refine (specIn _ _ _ _).mono ?_; rintro e w' ⟨rfl, rfl⟩) | (go_at_call 86; refine (specIsOutbox _ x.sync.outbox _ (HOb.out.below HB.out)).mono ?_; rintro e w2 ⟨rfl, hb2⟩; have HB2 := Lib.hid (HB.out.trans (hb2.mono HB.out.size)); clear hb2))
    go_ret
    refine ⟨ret_bool ?_, by first | exact HB2.out | exact HB.out⟩
    first
      | (rw [isReplicaF, n1]; (try rfl); done)
      | (rw [isReplicaF, n1, n2]; (try rfl); done)
      | (rw [isReplicaF, n1, n2, n3]; (try rfl); done)


end Go.Proofs.YtapgglghaknjlaaGreat
