/-
  EqualReplicas.
-/
import Derived.Test.YtlfebehpmefioaaGreatEqStores
import Derived.Test.YtlfebehpmefioaaGreatBoxFam
namespace Go.Proofs.YtlfebehpmefioaaGreat
open Go.RowKit

def equalReplicasF (x y : DReplica) : Bool := equalStoresF x.base y.base && ((x.seen == y.seen) && equalSyncsF x.sync y.sync)
attribute [local irreducible] equalStoresF equalSyncsF

set_option maxHeartbeats 800000 in
theorem implEqualReplicas (cs ds : List Value) (x y : DReplica) (w : World) (h : Reads DReplica.rep w cs x) (h' : Reads DReplica.rep w ds y) :
    Calls Tryz.prog 31 #[.agg cs.toArray, .agg ds.toArray] w fun e w' => e = .returned (.bool (equalReplicasF x y)) ∧ Below w.heap.size w w' := by
  obtain ⟨fp_q, h⟩ := h
  obtain ⟨q_v1, q_v2, q_f1, q_f2, rfl, _, q_s0, q_r1, q_r2⟩ := DReplica.rd.1 h
  obtain ⟨q_a1, q_c1, rfl, q_hm1, q_lc1, q_hu1⟩ := slice_open q_r1; clear q_hu1
  have q_K1 : Hid (Reads (Rep.slice 71 DItem.rep) w [.slice q_a1 x.base.items.length q_c1] x.base.items) := ⟨_, q_r1⟩
  obtain ⟨q_a2, q_c2, rfl, q_hm2, q_lc2, q_hu2⟩ := slice_open q_r2; clear q_hu2
  have q_K2 : Hid (Reads (Rep.slice 34 DWrite.rep) w [.slice q_a2 x.sync.outbox.writes.length q_c2] x.sync.outbox.writes) := ⟨_, q_r2⟩
  clear q_r1 q_r2 h
  obtain ⟨fp_r, h'⟩ := h'
  obtain ⟨r_v1, r_v2, r_f1, r_f2, rfl, _, r_s0, r_r1, r_r2⟩ := DReplica.rd.1 h'
  obtain ⟨r_a1, r_c1, rfl, r_hm1, r_lc1, r_hu1⟩ := slice_open r_r1; clear r_hu1
  have r_K1 : Hid (Reads (Rep.slice 71 DItem.rep) w [.slice r_a1 y.base.items.length r_c1] y.base.items) := ⟨_, r_r1⟩
  obtain ⟨r_a2, r_c2, rfl, r_hm2, r_lc2, r_hu2⟩ := slice_open r_r2; clear r_hu2
  have r_K2 : Hid (Reads (Rep.slice 34 DWrite.rep) w [.slice r_a2 y.sync.outbox.writes.length r_c2] y.sync.outbox.writes) := ⟨_, r_r2⟩
  clear r_r1 r_r2 h'
  have HR : ∀ W, Below w.heap.size w W → Reads DStore.rep W [.string x.base.name, .slice q_a1 x.base.items.length q_c1, .int .i64 x.base.auto] x.base := fun W hW => by
    obtain ⟨f, hf⟩ := q_K1.out.below hW
    exact ⟨_, DStore.rd.2 ⟨_, _, rfl, rfl, q_s0, hf⟩⟩
  have HS : ∀ W, Below w.heap.size w W → Reads DStore.rep W [.string y.base.name, .slice r_a1 y.base.items.length r_c1, .int .i64 y.base.auto] y.base := fun W hW => by
    obtain ⟨f, hf⟩ := r_K1.out.below hW
    exact ⟨_, DStore.rd.2 ⟨_, _, rfl, rfl, r_s0, hf⟩⟩
  have HR2 : ∀ W, Below w.heap.size w W → Reads DSync.rep W [.int .i64 x.sync.outbox.device, .int .i64 x.sync.outbox.next, .slice q_a2 x.sync.outbox.writes.length q_c2, .int .i64 x.sync.tries, .int .i64 x.sync.waitUntil] x.sync := fun W hW => by
    obtain ⟨f, hf⟩ := q_K2.out.below hW
    exact ⟨_, DSync.rd.2 ⟨_, _, rfl, rfl, hf⟩⟩
  have HS2 : ∀ W, Below w.heap.size w W → Reads DSync.rep W [.int .i64 y.sync.outbox.device, .int .i64 y.sync.outbox.next, .slice r_a2 y.sync.outbox.writes.length r_c2, .int .i64 y.sync.tries, .int .i64 y.sync.waitUntil] y.sync := fun W hW => by
    obtain ⟨f, hf⟩ := r_K2.out.below hW
    exact ⟨_, DSync.rd.2 ⟨_, _, rfl, rfl, hf⟩⟩
  have HR := Lib.hid HR
  have HS := Lib.hid HS
  have HR2 := Lib.hid HR2
  have HS2 := Lib.hid HS2
  cases h3 : equalStoresF x.base y.base
  case' true => cases h1 : (x.seen == y.seen)
  all_goals
    go_enter Tryz.func31, Tryz.ntmps31
    go_wp2_with fail
    refine (implEqualStores _ _ x.base y.base _ (HR.out _ bEl) (HS.out _ bEl)).mono ?_
    rintro e w1 ⟨rfl, hb⟩
    have ⟨cx, zx, _⟩ : WB w1 w.heap.size #[.string x.base.name, .slice q_a1 x.base.items.length q_c1, .int .i64 x.base.auto, .int .i64 x.seen, .int .i64 x.sync.outbox.device, .int .i64 x.sync.outbox.next, .slice q_a2 x.sync.outbox.writes.length q_c2, .int .i64 x.sync.tries, .int .i64 x.sync.waitUntil] := ((WB.at rfl).growA).keep hb
    have ⟨cy, zy, _⟩ : WB w1 (w.heap.size + 1) #[.string y.base.name, .slice r_a1 y.base.items.length r_c1, .int .i64 y.base.auto, .int .i64 y.seen, .int .i64 y.sync.outbox.device, .int .i64 y.sync.outbox.next, .slice r_a2 y.sync.outbox.writes.length r_c2, .int .i64 y.sync.tries, .int .i64 y.sync.waitUntil] := (WB.at (by simp)).keep hb
    have HB := Lib.hid (Below.trans bEl (hb.mono bSz) : Below w.heap.size w w1)
    clear hb
    rw [h3]
  · go_wp2
    go_ret
    exact ⟨ret_bool (by rw [equalReplicasF, h3, h1]; rfl), HB.out⟩
  · go_wp2_with fail
    refine (implEqualSyncs _ _ x.sync y.sync _ (HR2.out _ HB.out) (HS2.out _ HB.out)).mono ?_
    rintro e w2 ⟨rfl, hb⟩
    have HB2 := Lib.hid (below_call HB.out HB.out.size hb)
    clear hb
    go_wp2
    go_ret
    exact ⟨ret_bool (by rw [equalReplicasF, h3, h1]; rfl), HB2.out⟩
  · go_wp2
    go_ret
    exact ⟨ret_bool (by rw [equalReplicasF, h3]; rfl), HB.out⟩

end Go.Proofs.YtlfebehpmefioaaGreat
