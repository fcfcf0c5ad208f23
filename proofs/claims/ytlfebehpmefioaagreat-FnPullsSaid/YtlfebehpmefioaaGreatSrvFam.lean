/-
  SrvFam: IsReplica, LastSeq, ServerF, Backoff, SyncF, ServerOwn, CopyServer, IsServer, in one text.
-/
import Derived.Test.YtlfebehpmefioaaGreatRecFam
import Derived.Test.YtlfebehpmefioaaGreatBoxFam
import Derived.Test.YtlfebehpmefioaaGreatTFam
import Derived.Test.YtlfebehpmefioaaGreatFuncsFam
import Derived.Test.YtlfebehpmefioaaGreatBase
import Derived.Test.YtlfebehpmefioaaGreatItemFam2
import Derived.Test.YtlfebehpmefioaaGreatItemFam

/-
  IsReplica.
-/
namespace Go.Proofs.YtlfebehpmefioaaGreat
open Go.RowKit

def isNotes (s : ByteArray) : Bool := s.toList == [110, 111, 116, 101, 115]
def isReplicaF (x : DReplica) : Bool := isStoreF x.base && (isNotes x.base.name && (within x.seen 0 1000000000000 && isOutboxF x.sync.outbox))

set_option maxRecDepth 100000 in
set_option maxHeartbeats 1600000 in
theorem implIsReplica (cs : List Value) (x : DReplica) (w : World) (h : Reads DReplica.rep w cs x) :
    Calls Tryz.prog 38 #[.agg cs.toArray] w fun e w' => e = .returned (.bool (isReplicaF x)) ∧ Below w.heap.size w w' := by
  obtain ⟨fp_q, h⟩ := h
  obtain ⟨q_v1, q_v2, q_f1, q_f2, rfl, _, q_s0, q_r1, q_r2⟩ := DReplica.rd.1 h
  obtain ⟨q_a1, q_c1, rfl, q_hm1, q_lc1, q_hu1⟩ := slice_open q_r1; clear q_hu1
  have q_K1 : Hid (Reads (Rep.slice 71 DItem.rep) w [.slice q_a1 x.base.items.length q_c1] x.base.items) := ⟨_, q_r1⟩
  obtain ⟨q_a2, q_c2, rfl, q_hm2, q_lc2, q_hu2⟩ := slice_open q_r2; clear q_hu2
  have q_K2 : Hid (Reads (Rep.slice 34 DWrite.rep) w [.slice q_a2 x.sync.outbox.writes.length q_c2] x.sync.outbox.writes) := ⟨_, q_r2⟩
  clear q_r1 q_r2 h
  have HSt : Hid (Reads DStore.rep w [.string x.base.name, .slice q_a1 x.base.items.length q_c1, .int .i64 x.base.auto] x.base) := by
    obtain ⟨f, r⟩ := q_K1.out
    exact ⟨f, DStore.rd.2 ⟨_, _, rfl, rfl, q_s0, r⟩⟩
  have HOb : Hid (Reads DOutbox.rep w [.int .i64 x.sync.outbox.device, .int .i64 x.sync.outbox.next, .slice q_a2 x.sync.outbox.writes.length q_c2] x.sync.outbox) := by
    obtain ⟨f, r⟩ := q_K2.out
    exact ⟨f, DOutbox.rd.2 ⟨_, _, rfl, rfl, r⟩⟩
  go_enter Tryz.func38, Tryz.ntmps38
  go_wp2_with fail
  refine (implIsStore _ x.base _ (HSt.out.below bEl)).mono ?_
  rintro e w1 ⟨rfl, hb⟩
  have HX : Hid (WB w1 w.heap.size #[.string x.base.name, .slice q_a1 x.base.items.length q_c1, .int .i64 x.base.auto, .int .i64 x.seen, .int .i64 x.sync.outbox.device, .int .i64 x.sync.outbox.next, .slice q_a2 x.sync.outbox.writes.length q_c2, .int .i64 x.sync.tries, .int .i64 x.sync.waitUntil]) := Lib.hid ((WB.at rfl).keep hb)
  have HB : Hid (Below w.heap.size w w1) := Lib.hid (below_call bEl bSz hb)
  clear hb
  have ⟨c_HX, z_HX, f_HX⟩ := HX.out
  cases n1 : isStoreF x.base
  case' true => cases n2 : isNotes x.base.name
  case' true.true => cases n3 : within x.seen 0 1000000000000
  all_goals
    have n4 : Hid True := trivial
    first | (have n5 : (x.base.name.toList == [110, 111, 116, 101, 115]) = true := n2) | (have n5 : (x.base.name.toList == [110, 111, 116, 101, 115]) = false := n2) | skip
    go_wp2_with (first | (go_at_call 60; refine (implInRange _ _ _ _).mono ?_; rintro e w' ⟨rfl, rfl⟩) | (go_at_call 82; refine (implIsOutbox _ x.sync.outbox _ (HOb.out.below HB.out)).mono ?_; rintro e w2 ⟨rfl, hb2⟩; have HB2 := Lib.hid (HB.out.trans (hb2.mono HB.out.size)); clear hb2))
    go_ret
    refine ⟨ret_bool ?_, by first | exact HB2.out | exact HB.out⟩
    first
      | (rw [isReplicaF, n1]; (try rfl); done)
      | (rw [isReplicaF, n1, n2]; (try rfl); done)
      | (rw [isReplicaF, n1, n2, n3]; (try rfl); done)

set_option maxRecDepth 100000 in
set_option maxHeartbeats 1600000 in
theorem specIsReplica (cs : List Value) (x : DReplica) (w : World) (h : Reads DReplica.rep w cs x) :
    Calls Tryz.prog 34 #[.agg cs.toArray] w fun e w' => e = .returned (.bool (isReplicaF x)) ∧ Below w.heap.size w w' := by
  obtain ⟨fp_q, h⟩ := h
  obtain ⟨q_v1, q_v2, q_f1, q_f2, rfl, _, q_s0, q_r1, q_r2⟩ := DReplica.rd.1 h
  obtain ⟨q_a1, q_c1, rfl, q_hm1, q_lc1, q_hu1⟩ := slice_open q_r1; clear q_hu1
  have q_K1 : Hid (Reads (Rep.slice 71 DItem.rep) w [.slice q_a1 x.base.items.length q_c1] x.base.items) := ⟨_, q_r1⟩
  obtain ⟨q_a2, q_c2, rfl, q_hm2, q_lc2, q_hu2⟩ := slice_open q_r2; clear q_hu2
  have q_K2 : Hid (Reads (Rep.slice 34 DWrite.rep) w [.slice q_a2 x.sync.outbox.writes.length q_c2] x.sync.outbox.writes) := ⟨_, q_r2⟩
  clear q_r1 q_r2 h
  have HSt : Hid (Reads DStore.rep w [.string x.base.name, .slice q_a1 x.base.items.length q_c1, .int .i64 x.base.auto] x.base) := by
    obtain ⟨f, r⟩ := q_K1.out
    exact ⟨f, DStore.rd.2 ⟨_, _, rfl, rfl, q_s0, r⟩⟩
  have HOb : Hid (Reads DOutbox.rep w [.int .i64 x.sync.outbox.device, .int .i64 x.sync.outbox.next, .slice q_a2 x.sync.outbox.writes.length q_c2] x.sync.outbox) := by
    obtain ⟨f, r⟩ := q_K2.out
    exact ⟨f, DOutbox.rd.2 ⟨_, _, rfl, rfl, r⟩⟩
  go_enter Tryz.func34, Tryz.ntmps34
  go_wp2_with fail
  refine (specIsStore _ x.base _ (HSt.out.below bEl)).mono ?_
  rintro e w1 ⟨rfl, hb⟩
  have HX : Hid (WB w1 w.heap.size #[.string x.base.name, .slice q_a1 x.base.items.length q_c1, .int .i64 x.base.auto, .int .i64 x.seen, .int .i64 x.sync.outbox.device, .int .i64 x.sync.outbox.next, .slice q_a2 x.sync.outbox.writes.length q_c2, .int .i64 x.sync.tries, .int .i64 x.sync.waitUntil]) := Lib.hid ((WB.at rfl).keep hb)
  have HB : Hid (Below w.heap.size w w1) := Lib.hid (below_call bEl bSz hb)
  clear hb
  have ⟨c_HX, z_HX, f_HX⟩ := HX.out
  cases n1 : isStoreF x.base
  case' true => cases n2 : isNotes x.base.name
  case' true.true => cases n3 : within x.seen 0 1000000000000
  all_goals
    have n4 : Hid True := trivial
    first | (have n5 : (x.base.name.toList == [110, 111, 116, 101, 115]) = true := n2) | (have n5 : (x.base.name.toList == [110, 111, 116, 101, 115]) = false := n2) | skip
    go_wp2_with (first | (go_at_call 78; refine (specIn _ _ _ _).mono ?_; rintro e w' ⟨rfl, rfl⟩) | (go_at_call 79; refine (specIsOutbox _ x.sync.outbox _ (HOb.out.below HB.out)).mono ?_; rintro e w2 ⟨rfl, hb2⟩; have HB2 := Lib.hid (HB.out.trans (hb2.mono HB.out.size)); clear hb2))
    go_ret
    refine ⟨ret_bool ?_, by first | exact HB2.out | exact HB.out⟩
    first
      | (rw [isReplicaF, n1]; (try rfl); done)
      | (rw [isReplicaF, n1, n2]; (try rfl); done)
      | (rw [isReplicaF, n1, n2, n3]; (try rfl); done)

end Go.Proofs.YtlfebehpmefioaaGreat

/-
  LastSeq.
-/
namespace Go.Proofs.YtlfebehpmefioaaGreat
open Go.RowKit

def atDevice (d : Int) (a : DApplied) : Bool := a.device == d
def lastSeqF (x : DServer) (d : Int) : Int := ((x.applied.find? (atDevice d)).map (·.seq)).getD 0
theorem lastSeq_none {x : DServer} {d : Int} (h : ∀ j, (hj : j < x.applied.length) → atDevice d x.applied[j] = false) : lastSeqF x d = 0 := by
  unfold lastSeqF
  rw [List.find?_eq_none.2 (fun y hy => by obtain ⟨j, hj, rfl⟩ := List.getElem_of_mem hy; rw [h j hj]; simp)]
  rfl
theorem lastSeq_hit {x : DServer} {d : Int} {k : Nat} (hk : k < x.applied.length) (hp : atDevice d x.applied[k] = true) (h : ∀ j, (hj : j < x.applied.length) → j < k → atDevice d x.applied[j] = false) : lastSeqF x d = x.applied[k].seq := by
  unfold lastSeqF
  have : x.applied.find? (atDevice d) = some x.applied[k] := List.find?_eq_some_iff_getElem.2 ⟨hp, k, hk, rfl, fun j hj => by rw [h j (by omega) hj]; rfl⟩
  rw [this]; rfl

theorem devicePred (d : Int) (B k : Nat) (w : World) (hk : k < B) (hc : w.cell? ⟨k, 0, none⟩ = some (.int .i64 d)) : PredOn Tryz.prog DApplied.rep 91 #[.pointer (some ⟨k, 0, none⟩)] (atDevice d) B w := by
  intro W cs x hb hr
  obtain ⟨fp, hr⟩ := hr
  obtain ⟨rfl, _⟩ := DApplied.rd.1 hr
  have hc' := (hb.cell (p := ⟨k, 0, none⟩) hk).trans hc
  have hkW := block_lt_of_cell hc'
  clear hr hb hc
  change Calls Tryz.prog 91 #[.agg #[.int .i64 x.device, .int .i64 x.seq], .pointer (some ⟨k, 0, none⟩)] W _
  go_enter Tryz.func91, Tryz.ntmps91
  go_wp2
  go_ret
  exact ⟨rfl, bEl⟩

set_option maxHeartbeats 800000 in
theorem implDeviceAt (cs : List Value) (x : DServer) (d : Int) (w : World) (h : Reads DServer.rep w cs x) :
    Calls Tryz.prog 45 #[.agg cs.toArray, .int .i64 d] w fun e w' => e = .returned (.int .i64 (idxF (atDevice d) x.applied)) ∧ Below w.heap.size w w' := by
  obtain ⟨fp_q, h⟩ := h
  obtain ⟨q_v1, q_v2, q_v3, q_f1, q_f2, q_f3, rfl, _, q_s0, q_r1, q_r2, q_r3⟩ := DServer.rd.1 h
  obtain ⟨q_a1, q_c1, rfl, q_hm1, q_lc1, q_hu1⟩ := slice_open q_r1; clear q_hu1
  have q_K1 : Hid (Reads (Rep.slice 71 DItem.rep) w [.slice q_a1 x.store.items.length q_c1] x.store.items) := ⟨_, q_r1⟩
  obtain ⟨q_a2, q_c2, rfl, q_hm2, q_lc2, q_hu2⟩ := slice_open q_r2; clear q_hu2
  have q_K2 : Hid (Reads (Rep.slice 89 DApplied.rep) w [.slice q_a2 x.applied.length q_c2] x.applied) := ⟨_, q_r2⟩
  obtain ⟨q_a3, q_c3, rfl, q_hm3, q_lc3, q_hu3⟩ := slice_open q_r3; clear q_hu3
  have q_K3 : Hid (Reads (Rep.slice 34 DWrite.rep) w [.slice q_a3 x.changes.length q_c3] x.changes) := ⟨_, q_r3⟩
  clear q_r1 q_r2 q_r3 h
  go_enter Tryz.func45, Tryz.ntmps45
  go_wp2_with fail
  refine (indexFuncApplied _ _ (atDevice d) (w.heap.size + 2) _ _ _ (enters_at Tryz.func91 (by kernel_rfl) rfl) (q_K2.out.below bEl) (devicePred d _ _ _ (by omega) ((WB.at (by simp)).cell 0)) (by simp)).mono ?_
  rintro e w1 ⟨rfl, hb⟩
  have HB := Lib.hid (Below.trans bEl (hb.mono bSz) : Below w.heap.size w w1)
  clear hb
  go_wp2
  go_ret
  exact ⟨rfl, HB.out⟩

set_option maxHeartbeats 800000 in
theorem implLastSeq (cs : List Value) (x : DServer) (d : Int) (w : World) (h : Reads DServer.rep w cs x) :
    Calls Tryz.prog 14 #[.agg cs.toArray, .int .i64 d] w fun e w' => e = .returned (.int .i64 (lastSeqF x d)) ∧ Below w.heap.size w w' := by
  have HH := Lib.hid h
  obtain ⟨fp_q, h⟩ := h
  obtain ⟨q_v1, q_v2, q_v3, q_f1, q_f2, q_f3, rfl, _, q_s0, q_r1, q_r2, q_r3⟩ := DServer.rd.1 h
  obtain ⟨q_a1, q_c1, rfl, q_hm1, q_lc1, q_hu1⟩ := slice_open q_r1; clear q_hu1
  have q_K1 : Hid (Reads (Rep.slice 71 DItem.rep) w [.slice q_a1 x.store.items.length q_c1] x.store.items) := ⟨_, q_r1⟩
  obtain ⟨q_a2, q_c2, rfl, q_hm2, q_lc2, q_hu2⟩ := slice_open q_r2; clear q_hu2
  have q_K2 : Hid (Reads (Rep.slice 89 DApplied.rep) w [.slice q_a2 x.applied.length q_c2] x.applied) := ⟨_, q_r2⟩
  obtain ⟨q_a3, q_c3, rfl, q_hm3, q_lc3, q_hu3⟩ := slice_open q_r3; clear q_hu3
  have q_K3 : Hid (Reads (Rep.slice 34 DWrite.rep) w [.slice q_a3 x.changes.length q_c3] x.changes) := ⟨_, q_r3⟩
  clear q_r1 q_r2 q_r3 h
  go_enter Tryz.func14, Tryz.ntmps14
  go_wp2_with fail
  refine (implDeviceAt _ x d _ (HH.out.below bEl)).mono ?_
  rintro e w1 ⟨rfl, hb⟩
  have HX : Hid (WB w1 w.heap.size #[.string x.store.name, .slice q_a1 x.store.items.length q_c1, .int .i64 x.store.auto, .slice q_a2 x.applied.length q_c2, .slice q_a3 x.changes.length q_c3]) := Lib.hid ((WB.at rfl).keep hb)
  have HB := Lib.hid (Below.trans bEl (hb.mono bSz) : Below w.heap.size w w1)
  clear hb
  have ⟨c_HX, z_HX, f_HX⟩ := HX.out
  rcases idxF_cases (atDevice d) x.applied with ⟨he, hall⟩ | ⟨k, hk, he, hp, hall⟩
  · have H1 := Lib.hid (lastSeq_none hall)
    rw [he]
    clear he hall
    go_wp2
    go_ret
    exact ⟨ret_int H1.out.symm, HB.out⟩
  · have H1 := Lib.hid (lastSeq_hit hk hp hall)
    rw [he]
    clear he hall hp
    obtain ⟨b, off, cs_b, rfl, hw_b, hr_b, hcell_b⟩ := slice_at (q_K2.out.below HB.out) k hk
    obtain ⟨fe_b, hrd_b⟩ := hr_b
    have HR_b : Hid (Reads DApplied.rep w1 cs_b x.applied[k]) := ⟨_, hrd_b⟩
    obtain ⟨rfl, _⟩ := DApplied.rd.1 hrd_b
    clear hrd_b
    have b_c0 : w1.cell? ⟨b, off + k * 2, none⟩ = some (.int .i64 x.applied[k].device) := hcell_b 0 (by decide)
    have b_c1 : w1.cell? ⟨b, off + k * 2 + 1, none⟩ = some (.int .i64 x.applied[k].seq) := hcell_b 1 (by decide)
    clear hcell_b
    have i1 : (0 : Int) ≤ (k : Int) := by omega
    have i2 : (k : Int) < (x.applied.length : Int) := by omega
    go_wp2
    go_ret
    exact ⟨ret_int H1.out.symm, HB.out⟩

set_option maxHeartbeats 800000 in
theorem specLastSeq (cs : List Value) (x : DServer) (d : Int) (w : World) (h : Reads DServer.rep w cs x) :
    Calls Tryz.prog 36 #[.agg cs.toArray, .int .i64 d] w fun e w' => e = .returned (.int .i64 (lastSeqF x d)) ∧ Below w.heap.size w w' := by
  obtain ⟨fp_q, h⟩ := h
  obtain ⟨q_v1, q_v2, q_v3, q_f1, q_f2, q_f3, rfl, _, q_s0, q_r1, q_r2, q_r3⟩ := DServer.rd.1 h
  obtain ⟨q_a1, q_c1, rfl, q_hm1, q_lc1, q_hu1⟩ := slice_open q_r1; clear q_hu1
  have q_K1 : Hid (Reads (Rep.slice 71 DItem.rep) w [.slice q_a1 x.store.items.length q_c1] x.store.items) := ⟨_, q_r1⟩
  obtain ⟨q_a2, q_c2, rfl, q_hm2, q_lc2, q_hu2⟩ := slice_open q_r2; clear q_hu2
  have q_K2 : Hid (Reads (Rep.slice 89 DApplied.rep) w [.slice q_a2 x.applied.length q_c2] x.applied) := ⟨_, q_r2⟩
  obtain ⟨q_a3, q_c3, rfl, q_hm3, q_lc3, q_hu3⟩ := slice_open q_r3; clear q_hu3
  have q_K3 : Hid (Reads (Rep.slice 34 DWrite.rep) w [.slice q_a3 x.changes.length q_c3] x.changes) := ⟨_, q_r3⟩
  clear q_r1 q_r2 q_r3 h
  go_enter Tryz.func36, Tryz.ntmps36
  go_wp2_with fail
  refine settle (fun W => WB W w.heap.size #[.string x.store.name, .slice q_a1 x.store.items.length q_c1, .int .i64 x.store.auto, .slice q_a2 x.applied.length q_c2, .slice q_a3 x.changes.length q_c3] ∧ Below w.heap.size w W) ⟨WB.at rfl, bEl⟩ ?_
  rintro w1 ⟨hx, hb⟩
  have HX := Lib.hid hx
  have HB := Lib.hid hb
  clear hx hb
  have ⟨c_HX, z_HX, f_HX⟩ := HX.out
  go_loop [5] (fun i => ∃ k : Nat, k ≤ x.applied.length ∧ i = .int .i64 k ∧ Hid (∀ j, (hj : j < x.applied.length) → j < k → atDevice d x.applied[j] = false)) (fun i => x.applied.length - (intOf i).toNat)
  case atStart => exact ⟨0, by omega, rfl, Lib.hid (by intro j hj hk; omega)⟩
  case round =>
    obtain ⟨k, hk, rfl, HL⟩ := hrel
    by_cases hlt : k < x.applied.length
    · obtain ⟨b, off, cs_b, rfl, hw_b, hr_b, hcell_b⟩ := slice_at (q_K2.out.below HB.out) k hlt
      obtain ⟨fe_b, hrd_b⟩ := hr_b
      have HR_b : Hid (Reads DApplied.rep w1 cs_b x.applied[k]) := ⟨_, hrd_b⟩
      obtain ⟨rfl, _⟩ := DApplied.rd.1 hrd_b
      clear hrd_b
      have b_c0 : w1.cell? ⟨b, off + k * 2, none⟩ = some (.int .i64 x.applied[k].device) := hcell_b 0 (by decide)
      have b_c1 : w1.cell? ⟨b, off + k * 2 + 1, none⟩ = some (.int .i64 x.applied[k].seq) := hcell_b 1 (by decide)
      clear hcell_b
      have i1 : (0 : Int) ≤ (k : Int) := by omega
      have i2 : (k : Int) < (x.applied.length : Int) := by omega
      cases n : (x.applied[k].device == d)
      · have HN := Lib.hid (none_snoc hlt HL.out (show atDevice d x.applied[k] = false from n))
        go_wp2
        go_light
        exact ⟨⟨k + 1, by omega, by go_num, HN⟩, by simp [intOf]; omega⟩
      · have H1 := Lib.hid (lastSeq_hit hlt (show atDevice d x.applied[k] = true from n) HL.out)
        go_wp2
        go_ret
        exact ⟨ret_int H1.out.symm, HB.out⟩
    · have H1 := Lib.hid (lastSeq_none (x := x) (d := d) fun j hj => HL.out j hj (by omega))
      go_wp2
      go_ret
      exact ⟨ret_int H1.out.symm, HB.out⟩

end Go.Proofs.YtlfebehpmefioaaGreat

/-
  What IsServer, ReceiveWrite compute, and its plain laws. No function of the program is named here.
-/
namespace Go.Proofs.YtlfebehpmefioaaGreat
open Go.RowKit

def appBad (l : List DApplied) (i : Nat) : Bool := match l[i]?, l[i - 1]? with | some f, some g => decide (f.device ≤ g.device) | _, _ => false
def appOk (l : List DApplied) (i : Nat) : Bool := match l[i]? with | none => true | some f => within f.device 1 1000000 && (within f.seq 0 1000000 && !(decide (0 < i) && appBad l i))
theorem appBad_at {l : List DApplied} {i : Nat} (hi : i < l.length) : appBad l i = decide (l[i].device ≤ l[i - 1].device) := by
  unfold appBad; rw [List.getElem?_eq_getElem hi, List.getElem?_eq_getElem (show i - 1 < l.length by omega)]
theorem appOk_at {l : List DApplied} {i : Nat} (hi : i < l.length) : appOk l i = (within l[i].device 1 1000000 && (within l[i].seq 0 1000000 && !(decide (0 < i) && appBad l i))) := by
  unfold appOk; rw [List.getElem?_eq_getElem hi]
def serverEnd (x : DServer) : Bool := isStoreF x.store && (isNotes x.store.name && decide (x.applied.length ≤ 60))
def isServerF (x : DServer) : Bool := (List.range x.applied.length).all (appOk x.applied) && (x.changes.all isWriteF && serverEnd x)
theorem server_no {x : DServer} {i : Nat} (hi : i < x.applied.length) (h : appOk x.applied i = false) : isServerF x = false := by
  have : (List.range x.applied.length).all (appOk x.applied) = false := List.all_eq_false.2 ⟨i, List.mem_range.2 hi, by rw [h]; simp⟩
  rw [isServerF, this, Bool.false_and]
theorem server_yes {x : DServer} {k : Nat} (hk : ¬ k < x.applied.length) (h : ∀ i, i < k → appOk x.applied i = true) : isServerF x = (x.changes.all isWriteF && serverEnd x) := by
  have : (List.range x.applied.length).all (appOk x.applied) = true := List.all_eq_true.2 fun i hi => h i (by have := List.mem_range.1 hi; omega)
  rw [isServerF, this, Bool.true_and]
theorem changes_no {l : List DWrite} {i : Nat} (hi : i < l.length) (h : isWriteF l[i] = false) : l.all isWriteF = false :=
  List.all_eq_false.2 ⟨_, List.getElem_mem hi, by rw [h]; simp⟩
theorem changes_yes {l : List DWrite} {k : Nat} (hk : ¬ k < l.length) (h : ∀ i, (hi : i < l.length) → i < k → isWriteF l[i] = true) : l.all isWriteF = true :=
  List.all_eq_true.2 fun y hy => by obtain ⟨j, hj, rfl⟩ := List.getElem_of_mem hy; exact h j hj (by omega)
theorem write_snoc {l : List DWrite} {k : Nat} (hk : k < l.length) (h : ∀ i, (hi : i < l.length) → i < k → isWriteF l[i] = true) (h1 : isWriteF l[k] = true) : ∀ i, (hi : i < l.length) → i < k + 1 → isWriteF l[i] = true := by
  intro i hi hik
  by_cases e : i = k
  · subst e; exact h1
  · exact h i hi (by omega)
attribute [irreducible] appOk appBad

theorem server_sorted {x : DServer} (h : isServerF x = true) : ∀ (i j : Nat) (hj : j < x.applied.length) (hij : i < j), (x.applied[i]'(by omega)).device < x.applied[j].device := by
  rw [isServerF, Bool.and_eq_true, List.all_eq_true] at h
  have hn : ∀ j, (hj : j + 1 < x.applied.length) → (x.applied[j]'(by omega)).device < x.applied[j + 1].device := by
    intro j hj
    have h1 := h.1 (j + 1) (List.mem_range.2 hj)
    rw [appOk_at hj] at h1
    simp only [Bool.and_eq_true, Bool.not_eq_true', Bool.and_eq_false_iff, decide_eq_false_iff_not] at h1
    rcases h1.2.2 with h2 | h2
    · omega
    · rw [appBad_at hj] at h2
      simpa using h2
  intro i j hj hij
  obtain ⟨d, rfl⟩ : ∃ d, j = i + d + 1 := ⟨j - i - 1, by omega⟩
  induction d with
  | zero => exact hn i hj
  | succ d ih => exact Int.lt_trans (ih (by omega) (by omega)) (hn (i + d + 1) hj)
theorem isServer_len {x : DServer} (h : isServerF x = true) : x.applied.length ≤ 60 := by
  rw [isServerF] at h
  simp only [serverEnd, Bool.and_eq_true, decide_eq_true_eq] at h
  exact h.2.2.2.2
theorem isServer_store {x : DServer} (h : isServerF x = true) : isStoreF x.store = true := by
  rw [isServerF] at h
  simp only [serverEnd, Bool.and_eq_true] at h
  exact h.2.2.1

/-! ### ReceiveWrite -/
def deviceLess (d : Int) (a : DApplied) : Bool := decide (a.device < d)
def markAt (l : List DApplied) (q : Int) (i : Nat) : List DApplied := match l[i]? with | some a => l.set i ⟨a.device, q⟩ | none => l
def markNew (l : List DApplied) (d q : Int) : List DApplied := insAt l (lead (deviceLess d) l) ⟨d, q⟩
def markI (l : List DApplied) (d q : Int) : List DApplied := match l.findIdx? (atDevice d) with | some i => markAt l q i | none => markNew l d q
def markS (l : List DApplied) (d q : Int) : List DApplied := match l[lead (deviceLess d) l]? with | some a => if atDevice d a then markAt l q (lead (deviceLess d) l) else markNew l d q | none => markNew l d q
theorem mark_same {x : DServer} (d q : Int) (h : isServerF x = true) : markS x.applied d q = markI x.applied d q := by
  unfold markS markI
  rcases hf : x.applied.findIdx? (atDevice d) with _ | i
  · rw [List.findIdx?_eq_none_iff] at hf
    rcases hg : x.applied[lead (deviceLess d) x.applied]? with _ | a
    · rfl
    · have hm := List.mem_of_getElem? hg
      simp only [hf a hm, Bool.false_eq_true, if_false]
  · obtain ⟨hi, h1, h2⟩ := List.findIdx?_eq_some_iff_getElem.1 hf
    have h1' : x.applied[i].device = d := by unfold atDevice at h1; simpa using h1
    have e : lead (deviceLess d) x.applied = i := by
      refine lead_eq (by omega) (fun j hj hji => ?_) fun hi' => ?_
      · have h3 := server_sorted h j i hi hji
        unfold deviceLess
        rw [h1'] at h3
        exact decide_eq_true h3
      · unfold deviceLess
        rw [h1']
        exact decide_eq_false (by omega)
    rw [e, List.getElem?_eq_getElem hi]
    simp only [h1, if_true]
theorem markI_len (l : List DApplied) (d q : Int) : (markI l d q).length = if (l.findIdx? (atDevice d)).isSome then l.length else l.length + 1 := by
  unfold markI
  rcases hf : l.findIdx? (atDevice d) with _ | i
  · simp only [Option.isSome_none, Bool.false_eq_true, if_false]
    exact insAt_length (lead_le _ _) _
  · simp only [Option.isSome_some, if_true]
    unfold markAt
    split <;> simp
def fullFor (x : DServer) (d : Int) : Bool := (x.applied.findIdx? (atDevice d)).isNone && decide (60 ≤ x.applied.length)
def refused (x : DServer) (y : DWrite) : Bool := !(isServerF x) || (!(isWriteF y) || fullFor x y.device)
def receiveCode (x : DServer) (y : DWrite) : Int := if refused x y then 4 else if y.seq ≤ lastSeqF x y.device then 2 else if wrap64 (lastSeqF x y.device + 1) < y.seq then 3 else 1
def receiveOut (x : DServer) (y : DWrite) : DServer := ⟨setItemF x.store y, markI x.applied y.device y.seq, x.changes ++ [y]⟩
def receiveF (x : DServer) (y : DWrite) : DServer := if receiveCode x y = 1 then receiveOut x y else x
theorem refused_spec {x : DServer} {y : DWrite} (h : isServerF x = true) (h' : isWriteF y = true) : refused x y = decide (60 < (markS x.applied y.device y.seq).length) := by
  have hl := isServer_len h
  unfold refused fullFor
  rw [h, h', mark_same _ _ h, markI_len]
  rcases x.applied.findIdx? (atDevice y.device) with _ | i
  · simp only [Bool.not_true, Bool.false_or, Option.isNone_none, Bool.true_and, Option.isSome_none, Bool.false_eq_true, if_false]
    by_cases e : 60 ≤ x.applied.length <;> simp [e] <;> omega
  · simp only [Bool.not_true, Bool.false_or, Option.isNone_some, Bool.false_and, Option.isSome_some, if_true]
    symm; exact decide_eq_false (by omega)

structure SmallServer (x : DServer) (n : Nat) : Prop where
  store : SmallStore x.store
  applied : x.applied.length ≤ n
  changes : x.changes.length ≤ n
theorem SmallServer.receive {x : DServer} {y : DWrite} {n : Nat} (h : SmallServer x n) : SmallServer (receiveF x y) (n + 1) := by
  unfold receiveF
  split
  · refine ⟨h.store.setItem, ?_, ?_⟩
    · show (markI x.applied y.device y.seq).length ≤ n + 1
      rw [markI_len]
      have := h.applied
      split <;> omega
    · show (x.changes ++ [y]).length ≤ n + 1
      have := h.changes
      simp; omega
  · exact ⟨h.store, by have := h.applied; omega, by have := h.changes; omega⟩

end Go.Proofs.YtlfebehpmefioaaGreat

/-
  What BackoffOf computes, in the program and in the reference: two to the number of tries, at most 64.
-/
namespace Go.Proofs.YtlfebehpmefioaaGreat
open Go.RowKit

def pow2 (k : Nat) : Int := (2 : Int) ^ k
theorem pow2_succ (k : Nat) : pow2 (k+1) = 2 * pow2 k := by unfold pow2; rw [Int.pow_succ]; omega
theorem pow2_pos (k : Nat) : 0 < pow2 k := by unfold pow2; exact Int.pow_pos (by decide)
def boff (t : Int) : Int := pow2 (min t.toNat 6)
theorem pow2_lt (k : Nat) : pow2 k < 64 ↔ k < 6 := by
  constructor
  · intro h
    apply Decidable.byContradiction; intro hk
    have : ∃ j, k = 6 + j := ⟨k - 6, by omega⟩
    obtain ⟨j, rfl⟩ := this
    have : pow2 (6+j) = 64 * pow2 j := by unfold pow2; rw [Int.pow_add]; rfl
    have := pow2_pos j
    omega
  · intro h
    have : k = 0 ∨ k = 1 ∨ k = 2 ∨ k = 3 ∨ k = 4 ∨ k = 5 := by omega
    rcases this with rfl|rfl|rfl|rfl|rfl|rfl <;> decide
theorem pow2_le (k : Nat) (h : k ≤ 6) : pow2 k ≤ 64 := by
  have : k = 0 ∨ k = 1 ∨ k = 2 ∨ k = 3 ∨ k = 4 ∨ k = 5 ∨ k = 6 := by omega
  rcases this with rfl|rfl|rfl|rfl|rfl|rfl|rfl <;> decide
theorem boff_stop (k : Nat) (t : Int) (hk : k ≤ 6) (ht : k = 0 ∨ (k : Int) ≤ t) (h : 64 ≤ pow2 k ∨ t ≤ k) : Ending.returned (.int .i64 (pow2 k)) = .returned (.int .i64 (boff t)) := by
  have : min t.toNat 6 = k := by
    rcases h with h | h
    · have := pow2_lt k; omega
    · omega
  rw [boff, this]

set_option maxHeartbeats 400000 in
theorem specBackoff (t : Int) (w : World) :
    Calls Tryz.prog 150 #[.int .i64 t] w fun e w' => e = .returned (.int .i64 (boff t)) ∧ w = w' := by
  go_enter Tryz.func150, Tryz.ntmps150
  go_wp2
  go_loop [3, 4] (fun n i => ∃ k : Nat, k ≤ 6 ∧ (k = 0 ∨ (k : Int) ≤ t) ∧ i = .int .i64 k ∧ n = .int .i64 (pow2 k)) (fun _ i => (7 - (intOf i)).toNat)
  case atStart => exact ⟨0, by omega, by omega, rfl, rfl⟩
  case round =>
    obtain ⟨k, hk, ht, rfl, rfl⟩ := hrel
    have h1 := pow2_pos k
    have h2 := pow2_le k hk
    go_wp2
    · have := pow2_lt k
      refine ⟨⟨k + 1, by omega, by omega, by go_num, by rw [pow2_succ]⟩, ?_⟩
      simp [intOf]; omega
    · go_ret; exact ⟨boff_stop k t hk ht (.inl (by assumption)), rfl⟩
    · go_ret; exact ⟨boff_stop k t hk ht (.inr (by assumption)), rfl⟩

set_option maxHeartbeats 400000 in
theorem implBackoff (t : Int) (w : World) :
    Calls Tryz.prog 20 #[.int .i64 t] w fun e w' => e = .returned (.int .i64 (boff t)) ∧ w = w' := by
  go_enter Tryz.func20, Tryz.ntmps20
  go_wp2
  go_loop [3, 4] (fun n i => ∃ k : Nat, k ≤ 6 ∧ (k = 0 ∨ (k : Int) ≤ t) ∧ i = .int .i64 k ∧ n = .int .i64 (pow2 k)) (fun _ i => (7 - (intOf i)).toNat)
  case atStart => exact ⟨0, by omega, by omega, rfl, rfl⟩
  case round =>
    obtain ⟨k, hk, ht, rfl, rfl⟩ := hrel
    have h1 := pow2_pos k
    have h2 := pow2_le k hk
    go_wp2
    · have := pow2_lt k
      refine ⟨⟨k + 1, by omega, by omega, by go_num, ?_⟩, ?_⟩
      · rw [pow2_succ, Int.mul_comm]
      simp [intOf]; omega
    · go_ret; exact ⟨boff_stop k t hk ht (.inl (by assumption)), rfl⟩
    · go_ret; exact ⟨boff_stop k t hk ht (.inr (by assumption)), rfl⟩

end Go.Proofs.YtlfebehpmefioaaGreat

/-
  What SyncStep, SyncAll, WriteLocal, PullChanges compute, and their plain laws. No function of the program is named here.
-/
namespace Go.Proofs.YtlfebehpmefioaaGreat
open Go.RowKit

/-! ### SyncStep -/
def stepOff (y : DSync) (now : Int) : Bool := !(isOutboxF y.outbox) || (!(firstWriteB y.outbox) || (decide (now < y.waitUntil) || !(within now 0 1000000000000)))
def stepSrv (s : DServer) (y : DWrite) (fate : Int) : DServer := if fate = 0 ∨ fate = 2 then receiveF s y else if fate = 3 then receiveF (receiveF s y) y else s
def stepCode (s : DServer) (y : DWrite) (fate : Int) : Int := if fate = 0 ∨ fate = 2 then receiveCode s y else if fate = 3 then receiveCode (receiveF s y) y else 4
def stepAcked (s : DServer) (y : DWrite) (fate : Int) : Bool := (fate == 0 || fate == 3) && (stepCode s y fate == 1 || stepCode s y fate == 2)
def tried (t : Int) : Int := if t < 60 then wrap64 (t + 1) else 60
def stepSync (y : DSync) (now : Int) : DSync := ⟨y.outbox, tried y.tries, wrap64 (now + boff (tried y.tries))⟩
def ackedSync (y : DSync) : DSync := ⟨ackWritesF y.outbox (firstWriteF y.outbox).seq, 0, 0⟩
def syncStepY (y : DSync) (s : DServer) (now fate : Int) : DSync := if stepOff y now then y else if stepAcked s (firstWriteF y.outbox) fate then ackedSync y else stepSync y now
def syncStepS (y : DSync) (s : DServer) (now fate : Int) : DServer := if stepOff y now then s else stepSrv s (firstWriteF y.outbox) fate
def syncStepN (y : DSync) (s : DServer) (now fate : Int) : Int := if stepOff y now then 0 else if stepAcked s (firstWriteF y.outbox) fate then 1 else 2
theorem ackWritesF_len (x : DOutbox) (seq : Int) : (ackWritesF x seq).writes.length ≤ x.writes.length := by
  unfold ackWritesF
  split
  · exact ackKept_le _ _
  · exact Nat.le_refl _
theorem syncStepY_len (y : DSync) (s : DServer) (now fate : Int) : (syncStepY y s now fate).outbox.writes.length ≤ y.outbox.writes.length := by
  unfold syncStepY
  split
  · exact Nat.le_refl _
  · split
    · exact ackWritesF_len _ _
    · exact Nat.le_refl _
theorem SmallServer.mono {x : DServer} {n m : Nat} (h : SmallServer x n) (hm : n ≤ m) : SmallServer x m := ⟨h.store, Nat.le_trans h.applied hm, Nat.le_trans h.changes hm⟩
theorem SmallServer.stepSrv {x : DServer} {n : Nat} (h : SmallServer x n) (y : DWrite) (fate : Int) : SmallServer (stepSrv x y fate) (n + 2) := by
  unfold Go.Proofs.YtlfebehpmefioaaGreat.stepSrv
  split
  · exact h.receive.mono (by omega)
  · split
    · exact h.receive.receive
    · exact h.mono (by omega)
theorem SmallServer.step {x : DServer} {n : Nat} (h : SmallServer x n) (y : DSync) (now fate : Int) : SmallServer (syncStepS y x now fate) (n + 2) := by
  unfold syncStepS
  split
  · exact h.mono (by omega)
  · exact h.stepSrv _ _

/-! ### SyncAll -/
def syncsF (y : DSync) (s : DServer) (now : Int) (l : List Int) : Nat → DSync × DServer
  | 0 => (y, s)
  | k + 1 => (syncStepY (syncsF y s now l k).1 (syncsF y s now l k).2 (wrap64 (now + wrap64 ((k : Int) * 64))) (l.getD k 0), syncStepS (syncsF y s now l k).1 (syncsF y s now l k).2 (wrap64 (now + wrap64 ((k : Int) * 64))) (l.getD k 0))
def rounds (l : List Int) : Nat := min 100 l.length
def syncAllF (y : DSync) (s : DServer) (now : Int) (l : List Int) : DSync × DServer := if within now 0 1000000000000 then syncsF y s now l (rounds l) else (y, s)
theorem syncsF_len (y : DSync) (s : DServer) (now : Int) (l : List Int) : ∀ k, (syncsF y s now l k).1.outbox.writes.length ≤ y.outbox.writes.length
  | 0 => Nat.le_refl _
  | k + 1 => Nat.le_trans (syncStepY_len _ _ _ _) (syncsF_len y s now l k)
theorem syncsF_small {y : DSync} {s : DServer} {now : Int} {l : List Int} {n : Nat} (h : SmallServer s n) : ∀ k, SmallServer (syncsF y s now l k).2 (n + 2 * k)
  | 0 => h
  | k + 1 => ((syncsF_small h k).step _ _ _).mono (by omega)

/-! ### Replicas -/
def writeLocalW (r : DReplica) (k : DKey) (field : ByteArray) (n : Int) : DWrite := ⟨r.sync.outbox.device, r.sync.outbox.next, k, field, n⟩
def localStoreF (r : DReplica) : DStore := appliedF r.base r.sync.outbox.writes
theorem setItemB_key {s : DStore} {x y : DWrite} (h1 : x.key = y.key) (h2 : x.field = y.field) (h3 : x.n = y.n) : setItemB s x = setItemB s y := by
  unfold setItemB setItemR; rw [h1, h2, h3]
def writeLocalB (r : DReplica) (k : DKey) (field : ByteArray) (n : Int) : Bool := isReplicaF r && (enqueueB r.sync.outbox k field n && setItemB (localStoreF r) (writeLocalW r k field n))
def withBox (r : DReplica) (o : DOutbox) : DReplica := ⟨r.base, r.seen, ⟨o, r.sync.tries, r.sync.waitUntil⟩⟩
def writeLocalF (r : DReplica) (k : DKey) (field : ByteArray) (n : Int) : DReplica := if writeLocalB r k field n then withBox r (enqOut r.sync.outbox k field n) else r
def pullOff (r : DReplica) (s : DServer) : Bool := !(isReplicaF r) || (!(isServerF s) || decide ((s.changes.length : Int) < r.seen))
def pulled (r : DReplica) (s : DServer) : DReplica := ⟨appliedF r.base (s.changes.drop r.seen.toNat), (s.changes.length : Int), ⟨ackWritesF r.sync.outbox (lastSeqF s r.sync.outbox.device), r.sync.tries, r.sync.waitUntil⟩⟩
def pullChangesF (r : DReplica) (s : DServer) : DReplica := if pullOff r s then r else pulled r s
def pullChangesN (r : DReplica) (s : DServer) : Int := if pullOff r s then 0 else (s.changes.length : Int) - r.seen

end Go.Proofs.YtlfebehpmefioaaGreat

/-
  A server that a call owns, told part by part. No function of the program is named here.
-/
namespace Go.Proofs.YtlfebehpmefioaaGreat
open Go.RowKit

theorem FlatR.ownfp {α : Type} {R : Rep α} {enc : α → List Value} {ok : α → Prop} (h : FlatR R enc ok) {E : TypeId} {B : Nat} {w : World} {v : Value} {l : List α} (hf : Fresh (Rep.slice E R) B w [v] l) : (Rep.slice E R).rd true w [v] l v.ownBlock.toList := by
  obtain ⟨fp, hr, _, _⟩ := hf
  have hr' := hr
  obtain ⟨v', ts, hv, _, hfp, h1, _, _⟩ := hr
  simp only [List.cons.injEq, and_true] at hv
  subst hv
  obtain ⟨_, hft, _⟩ := cells_flat h ts h1
  have e : fp = v.ownBlock.toList := by rw [hfp, hft]; simp [head]
  rw [e] at hr'
  exact hr'
theorem own_nodup (v : Value) : v.ownBlock.toList.Nodup := by cases v.ownBlock <;> simp
theorem FlatR.of_ownfp {α : Type} {R : Rep α} {enc : α → List Value} {ok : α → Prop} (h : FlatR R enc ok) {E : TypeId} {B : Nat} {w : World} {v : Value} {l : List α} {fp : List Nat} (hr : (Rep.slice E R).rd true w [v] l fp) (hge : ∀ b ∈ fp, B ≤ b) : fp = v.ownBlock.toList ∧ Fresh (Rep.slice E R) B w [v] l := by
  have hr' := hr
  obtain ⟨v', ts, hv, _, hfp, h1, _, _⟩ := hr
  simp only [List.cons.injEq, and_true] at hv
  subst hv
  obtain ⟨_, hft, _⟩ := cells_flat h ts h1
  have e : fp = v.ownBlock.toList := by rw [hfp, hft]; simp [head]
  exact ⟨e, fp, hr', by rw [e]; exact own_nodup _, hge⟩
theorem FlatR.offBlocks {α : Type} {R : Rep α} {enc : α → List Value} {ok : α → Prop} (h : FlatR R enc ok) {E : TypeId} {B : Nat} {w w' : World} {v : Value} {l : List α} {fq : List Nat} (hf : Fresh (Rep.slice E R) B w [v] l) (hc : Chg fq w w') (hd : ∀ b ∈ v.ownBlock.toList, b ∉ fq) : Fresh (Rep.slice E R) B w' [v] l := by
  have hr := h.ownfp hf
  have hl := hf.ownlt
  exact ⟨_, hc.keeps hr hd, own_nodup _, fun b hb => (hl b hb).1⟩

structure SrvOwn (B : Nat) (K : List Nat) (w : World) (c0 : List Value) (v2 v3 : Value) (x : DServer) (f0 : List Nat) : Prop where
  st : DStore.rep.rd true w c0 x.store f0
  nd : f0.Nodup
  ge : ∀ b ∈ f0, B ≤ b ∧ b ∉ K
  ap : Fresh (Rep.slice 89 DApplied.rep) B w [v2] x.applied
  ch : Fresh (Rep.slice 34 DWrite.rep) B w [v3] x.changes
  apk : ∀ b ∈ v2.ownBlock.toList, b ∉ K ∧ b ∉ f0
  chk : ∀ b ∈ v3.ownBlock.toList, b ∉ K ∧ b ∉ f0 ∧ b ∉ v2.ownBlock.toList

theorem SrvOwn.fresh {B : Nat} {K : List Nat} {w : World} {v1 v2 v3 : Value} {x : DServer} {f0 : List Nat} (h : SrvOwn B K w [.string x.store.name, v1, .int .i64 x.store.auto] v2 v3 x f0) : Fresh DServer.rep B w [.string x.store.name, v1, .int .i64 x.store.auto, v2, v3] x := by
  have h1 := DApplied.flat.ownfp h.ap
  have h2 := DWrite.flat.ownfp h.ch
  refine ⟨f0 ++ (v2.ownBlock.toList ++ v3.ownBlock.toList), DServer.join _ f0 h.st _ _ h1 _ _ h2, ?_, fun b hb => ?_⟩
  · rw [List.nodup_append, List.nodup_append]
    refine ⟨h.nd, ⟨own_nodup _, own_nodup _, fun a ha b hb e => ?_⟩, fun a ha b hb e => ?_⟩
    · exact (h.chk b hb).2.2 (e ▸ ha)
    · subst e
      rcases List.mem_append.1 hb with hb | hb
      · exact (h.apk a hb).2 ha
      · exact (h.chk a hb).2.1 ha
  · rcases List.mem_append.1 hb with hb | hb
    · exact (h.ge b hb).1
    · rcases List.mem_append.1 hb with hb | hb
      · exact (h.ap.ownlt b hb).1
      · exact (h.ch.ownlt b hb).1
theorem SrvOwn.of_fresh {B : Nat} {w : World} {cs : List Value} {x : DServer} (h : Fresh DServer.rep B w cs x) (K : List Nat) (hk : ∀ k ∈ K, w.heap.size ≤ k ∨ k < B) :
    ∃ a1 c1 a2 c2 a3 c3 f0, cs = [.string x.store.name, .slice a1 x.store.items.length c1, .int .i64 x.store.auto, .slice a2 x.applied.length c2, .slice a3 x.changes.length c3] ∧
      SrvOwn B K w [.string x.store.name, .slice a1 x.store.items.length c1, .int .i64 x.store.auto] (.slice a2 x.applied.length c2) (.slice a3 x.changes.length c3) x f0 := by
  obtain ⟨fp, h, hn, hg⟩ := h
  have hlt := DServer.rep.lt h
  obtain ⟨v1, v2, v3, f0, f1, f2, rfl, rfl, r0, r1, r2⟩ := DServer.parts h
  have hg1 : ∀ b ∈ f1, B ≤ b := fun b hb => hg b (by simp [hb])
  have hg2 : ∀ b ∈ f2, B ≤ b := fun b hb => hg b (by simp [hb])
  obtain ⟨rfl, k1⟩ := DApplied.flat.of_ownfp r1 hg1
  obtain ⟨rfl, k2⟩ := DWrite.flat.of_ownfp r2 hg2
  have hne : ∀ b ∈ f0 ++ (v2.ownBlock.toList ++ v3.ownBlock.toList), b ∉ K := fun b hb e => by
    have := hlt b hb; have := hg b hb; have := hk b e; omega
  rw [List.nodup_append, List.nodup_append] at hn
  obtain ⟨n0, ⟨_, _, n12⟩, n012⟩ := hn
  have key : SrvOwn B K w [.string x.store.name, v1, .int .i64 x.store.auto] v2 v3 x f0 :=
    ⟨r0, n0, fun b hb => ⟨hg b (by simp [hb]), hne b (by simp [hb])⟩, k1, k2,
      fun b hb => ⟨hne b (List.mem_append.2 (.inr (List.mem_append.2 (.inl hb)))), fun h0 => n012 b h0 b (List.mem_append.2 (.inl hb)) rfl⟩,
      fun b hb => ⟨hne b (List.mem_append.2 (.inr (List.mem_append.2 (.inr hb)))), fun h0 => n012 b h0 b (List.mem_append.2 (.inr hb)) rfl, fun h1 => n12 b h1 b hb rfl⟩⟩
  obtain ⟨a2, c2, rfl⟩ := k1.slice
  obtain ⟨a3, c3, rfl⟩ := k2.slice
  obtain ⟨v1', f', e1, _, _, rs⟩ := DStore.rd.1 r0
  obtain ⟨a1, c1, rfl, _⟩ := slice_open rs
  simp only [List.cons.injEq, and_true, true_and] at e1
  subst e1
  exact ⟨a1, c1, a2, c2, a3, c3, f0, rfl, key⟩
theorem SrvOwn.reads {B : Nat} {K : List Nat} {w : World} {c0 : List Value} {v2 v3 : Value} {x : DServer} {f0 : List Nat} (h : SrvOwn B K w c0 v2 v3 x f0) : Reads DStore.rep w c0 x.store := by
  obtain ⟨fq, h, _⟩ := DStore.rep.weak h.st
  exact ⟨fq, h⟩
theorem SrvOwn.below {B : Nat} {K : List Nat} {w w' : World} {c0 : List Value} {v2 v3 : Value} {x : DServer} {f0 : List Nat} (h : SrvOwn B K w c0 v2 v3 x f0) (hb : Below w.heap.size w w') : SrvOwn B K w' c0 v2 v3 x f0 :=
  ⟨DStore.rep.frame h.st fun b hb' => hb.block b (DStore.rep.lt h.st b hb'), h.nd, h.ge, h.ap.below hb, h.ch.below hb, h.apk, h.chk⟩
theorem SrvOwn.setK {B k o : Nat} {K : List Nat} {w : World} {c0 : List Value} {v2 v3 : Value} {x : DServer} {f0 : List Nat} {u : Value} (h : SrvOwn B K w c0 v2 v3 x f0) (hk : k ∈ K) : SrvOwn B K (w.setCell ⟨k, o, none⟩ u) c0 v2 v3 x f0 :=
  ⟨DStore.rep.frame h.st fun b hb' => Below.heap_setCell _ _ _ _ (fun e => (h.ge b hb').2 (by rw [show b = k from e]; exact hk)), h.nd, h.ge, DApplied.flat.setApart h.ap (fun hm => (h.apk _ hm).1 hk), DWrite.flat.setApart h.ch (fun hm => (h.chk _ hm).1 hk), h.apk, h.chk⟩
theorem SrvOwn.setLow {B k o : Nat} {K : List Nat} {w : World} {c0 : List Value} {v2 v3 : Value} {x : DServer} {f0 : List Nat} {u : Value} (h : SrvOwn B K w c0 v2 v3 x f0) (hk : k < B) : SrvOwn B K (w.setCell ⟨k, o, none⟩ u) c0 v2 v3 x f0 :=
  ⟨DStore.rep.frame h.st fun b hb' => Below.heap_setCell _ _ _ _ (fun e => by have := (h.ge b hb').1; have : b = k := e; omega), h.nd, h.ge, h.ap.setLow hk, h.ch.setLow hk, h.apk, h.chk⟩
theorem SrvOwn.reK {B : Nat} {K K' : List Nat} {w : World} {c0 : List Value} {v2 v3 : Value} {x : DServer} {f0 : List Nat} (h : SrvOwn B K w c0 v2 v3 x f0) (hk : ∀ b ∈ K', b ∈ K ∨ w.heap.size ≤ b) : SrvOwn B K' w c0 v2 v3 x f0 := by
  have l0 := DStore.rep.lt h.st
  have l1 := h.ap.ownlt
  have l2 := h.ch.ownlt
  refine ⟨h.st, h.nd, fun b hb => ⟨(h.ge b hb).1, fun hm => ?_⟩, h.ap, h.ch, fun b hb => ⟨fun hm => ?_, (h.apk b hb).2⟩, fun b hb => ⟨fun hm => ?_, (h.chk b hb).2⟩⟩
  · rcases hk b hm with h1 | h1
    · exact (h.ge b hb).2 h1
    · have := l0 b hb; omega
  · rcases hk b hm with h1 | h1
    · exact (h.apk b hb).1 h1
    · have := l1 b hb; omega
  · rcases hk b hm with h1 | h1
    · exact (h.chk b hb).1 h1
    · have := l2 b hb; omega
theorem SrvOwn.store {B m : Nat} {K : List Nat} {w w' : World} {c0 c1 : List Value} {v2 v3 : Value} {x : DServer} {f0 : List Nat} {s : DStore} (h : SrvOwn B K w c0 v2 v3 x f0) (hs : Fresh DStore.rep m w' c1 s) (hb : Below w.heap.size w w') (hm : w.heap.size ≤ m) (hk : ∀ k ∈ K, k < m) (hB : B ≤ m) : ∃ f1, SrvOwn B K w' c1 v2 v3 ⟨s, x.applied, x.changes⟩ f1 := by
  obtain ⟨f1, r1, r2, r3⟩ := hs
  have ha := h.ap.ownlt
  have hc := h.ch.ownlt
  exact ⟨f1, r1, r2, fun b hb => ⟨by have := r3 b hb; omega, fun hm => by have := r3 b hb; have := hk b hm; omega⟩, h.ap.below hb, h.ch.below hb,
    fun b hb => ⟨(h.apk b hb).1, fun h1 => by have := r3 b h1; have := ha b hb; omega⟩, fun b hb => ⟨(h.chk b hb).1, fun h1 => by have := r3 b h1; have := hc b hb; omega, (h.chk b hb).2.2⟩⟩
theorem SrvOwn.changes {B : Nat} {K : List Nat} {w w' : World} {c0 : List Value} {v2 v3 v3' : Value} {x : DServer} {f0 : List Nat} {l : List DWrite} (h : SrvOwn B K w c0 v2 v3 x f0) (hc : Chg v3.ownBlock.toList w w') (hf : Fresh (Rep.slice 34 DWrite.rep) B w' [v3'] l) (hv : ∀ b ∈ v3'.ownBlock.toList, b ∈ v3.ownBlock.toList ∨ w.heap.size ≤ b) (hk : ∀ k ∈ K, k < w.heap.size) : SrvOwn B K w' c0 v2 v3' ⟨x.store, x.applied, l⟩ f0 := by
  have ha := h.ap.ownlt
  have h0 := DStore.rep.lt h.st
  refine ⟨hc.keeps h.st fun b hb hb' => (h.chk b hb').2.1 hb, h.nd, h.ge, DApplied.flat.offBlocks h.ap hc fun b hb hb' => (h.chk b hb').2.2 hb, hf, h.apk, fun b hb => ?_⟩
  rcases hv b hb with h1 | h1
  · exact h.chk b h1
  · exact ⟨fun hm => by have := hk b hm; omega, fun h2 => by have := h0 b h2; omega, fun h2 => by have := (ha b h2).2; omega⟩
theorem SrvOwn.applied {B : Nat} {K : List Nat} {w w' : World} {c0 : List Value} {v2 v3 v2' : Value} {x : DServer} {f0 : List Nat} {l : List DApplied} (h : SrvOwn B K w c0 v2 v3 x f0) (hc : Chg v2.ownBlock.toList w w') (hf : Fresh (Rep.slice 89 DApplied.rep) B w' [v2'] l) (hv : ∀ b ∈ v2'.ownBlock.toList, b ∈ v2.ownBlock.toList ∨ w.heap.size ≤ b) (hk : ∀ k ∈ K, k < w.heap.size) : SrvOwn B K w' c0 v2' v3 ⟨x.store, l, x.changes⟩ f0 := by
  have ha := h.ch.ownlt
  have h0 := DStore.rep.lt h.st
  refine ⟨hc.keeps h.st fun b hb hb' => (h.apk b hb').2 hb, h.nd, h.ge, hf, DWrite.flat.offBlocks h.ch hc fun b hb hb' => (h.chk b hb).2.2 hb', fun b hb => ?_, fun b hb => ⟨(h.chk b hb).1, (h.chk b hb).2.1, fun h2 => ?_⟩⟩
  · rcases hv b hb with h1 | h1
    · exact h.apk b h1
    · exact ⟨fun hm => by have := hk b hm; omega, fun h2 => by have := h0 b h2; omega⟩
  · rcases hv b h2 with h1 | h1
    · exact (h.chk b hb).2.2 h1
    · have := (ha b hb).2; omega
theorem SrvOwn.setApplied {B : Nat} {K K' : List Nat} {w : World} {c0 : List Value} {v2 v3 v2' : Value} {x : DServer} {f0 : List Nat} {l : List DApplied} (h : SrvOwn B K w c0 v2 v3 x f0) (hf : Fresh (Rep.slice 89 DApplied.rep) B w [v2'] l) (hv : ∀ b ∈ v2'.ownBlock.toList, b ∈ K ∧ b ∉ K') (hk : ∀ k ∈ K', k ∈ K) : SrvOwn B K' w c0 v2' v3 ⟨x.store, l, x.changes⟩ f0 :=
  ⟨h.st, h.nd, fun b hb => ⟨(h.ge b hb).1, fun hm => (h.ge b hb).2 (hk b hm)⟩, hf, h.ch, fun b hb => ⟨(hv b hb).2, fun h0 => (h.ge b h0).2 (hv b hb).1⟩, fun b hb => ⟨fun hm => (h.chk b hb).1 (hk b hm), (h.chk b hb).2.1, fun h2 => (h.chk b hb).1 (hv b h2).1⟩⟩
theorem SrvOwn.growA {B : Nat} {K : List Nat} {w : World} {c0 : List Value} {v2 v3 : Value} {x : DServer} {f0 : List Nat} {o : Obj} (h : SrvOwn B K w c0 v2 v3 x f0) : SrvOwn B K (w.alloc o) c0 v2 v3 x f0 := h.below (belA belR)

theorem server_glue {B A C : Nat} {w : World} {v1 v2 v3 : Value} {x : DServer} (p0 : Part DStore.rep A C w [.string x.store.name, v1, .int .i64 x.store.auto] x.store) (h1 : Fresh (Rep.slice 89 DApplied.rep) B w [v2] x.applied) (h2 : Fresh (Rep.slice 34 DWrite.rep) B w [v3] x.changes) (hA : B ≤ A)
    (d1 : ∀ b ∈ v2.ownBlock.toList, b < A ∨ C ≤ b) (d2 : ∀ b ∈ v3.ownBlock.toList, (b < A ∨ C ≤ b) ∧ b ∉ v2.ownBlock.toList) : Fresh DServer.rep B w [.string x.store.name, v1, .int .i64 x.store.auto, v2, v3] x := by
  obtain ⟨f0, r0, n0, g0⟩ := p0
  exact SrvOwn.fresh (K := []) (f0 := f0) ⟨r0, n0, fun b hb => by have := g0 b hb; exact ⟨by omega, by simp⟩, h1, h2, fun b hb => ⟨by simp, fun h0 => by have := g0 b h0; have := d1 b hb; omega⟩, fun b hb => ⟨by simp, fun h0 => by have := g0 b h0; have := (d2 b hb).1; omega, (d2 b hb).2⟩⟩
theorem own_lit0 {α : Type} {R : Rep α} {E : TypeId} {w : World} {k : Nat} (h : w.heap[k]? = some (.cells #[] E (0, 0))) : Fresh (Rep.slice E R) k w [.slice (some ⟨k, 0, none⟩) 0 0] [] := by
  have hx : w.ownsRow k E R.n (.slice (some ⟨k, 0, none⟩) 0 0) 0 [] := ⟨by simp, .inr ⟨k, 0, #[], rfl, Nat.le_refl _, h, Nat.le_refl _, Nat.zero_le _, by simp, by simp⟩⟩
  exact Fresh.of_owned (R := R) (E := E) (v := .slice (some ⟨k, 0, none⟩) 0 0) [] (by simp) (B' := k) hx (by simp [feet, Value.ownBlock]) (by simp [feet, Value.ownBlock])

end Go.Proofs.YtlfebehpmefioaaGreat

/-
  copyServer, copySync, copyReplica.
-/
namespace Go.Proofs.YtlfebehpmefioaaGreat
open Go.RowKit

theorem litN {w : World} {k : Nat} {o : Obj} (hk : k = w.heap.size) : (w.alloc o).heap[k]? = some o := by subst hk; exact heap_alloc_new w o
theorem litA {w : World} {k : Nat} {o ob : Obj} (h : w.heap[k]? = some o) : (w.alloc ob).heap[k]? = some o :=
  (Below.heap_alloc w ob k (Array.getElem?_eq_some_iff.1 h).1).trans h
theorem litD {w : World} {k : Nat} {o : Obj} (h : w.heap[k]? = some o) : w.drew.heap[k]? = some o := h
theorem litB {w w' : World} {k : Nat} {o : Obj} (hb : Below w.heap.size w w') (h : w.heap[k]? = some o) : w'.heap[k]? = some o := (hb.block k (Array.getElem?_eq_some_iff.1 h).1).trans h
theorem litC {w w' : World} {k : Nat} {o : Obj} {fq : List Nat} (hc : Chg fq w w') (h : w.heap[k]? = some o) (hn : k ∉ fq) : w'.heap[k]? = some o := (hc.block k (Array.getElem?_eq_some_iff.1 h).1 hn).trans h
theorem partA {α : Type} {R : Rep α} {lo hi : Nat} {w : World} {cs : List Value} {x : α} {o : Obj} (h : Part R lo hi w cs x) : Part R lo hi (w.alloc o) cs x := h.below (belA belR)
theorem partD {α : Type} {R : Rep α} {lo hi : Nat} {w : World} {cs : List Value} {x : α} (h : Part R lo hi w cs x) : Part R lo hi w.drew cs x := h.below (belD belR)
theorem Part.named {α : Type} {R : Rep α} {lo hi : Nat} {w : World} {cs : List Value} {x : α} (h : Part R lo hi w cs x) : ∃ A C, A = lo ∧ C = hi ∧ Part R A C w cs x := ⟨lo, hi, rfl, rfl, h⟩
theorem own_lit_list {k n c : Nat} : (Value.slice (some ⟨k, 0, none⟩) n c).ownBlock.toList = [k] := rfl
theorem freshD {α : Type} {R : Rep α} {B : Nat} {w : World} {cs : List Value} {x : α} (h : Fresh R B w cs x) : Fresh R B w.drew cs x := h.below (belD belR)
theorem freshA {α : Type} {R : Rep α} {B : Nat} {w : World} {cs : List Value} {x : α} {o : Obj} (h : Fresh R B w cs x) : Fresh R B (w.alloc o) cs x := h.below (belA belR)

set_option maxRecDepth 100000 in
set_option maxHeartbeats 8000000 in
theorem implCopyServer (cs : List Value) (x : DServer) (w : World) (h : Reads DServer.rep w cs x) (hs : SmallServer x 1049000) :
    Calls Tryz.prog 44 #[.agg cs.toArray] w fun e w' => ∃ ds, e = .returned (.agg ds.toArray) ∧ Fresh DServer.rep w.heap.size w' ds x ∧ Below w.heap.size w w' := by
  obtain ⟨fp_q, h⟩ := h
  obtain ⟨q_v1, q_v2, q_v3, q_f1, q_f2, q_f3, rfl, _, q_s0, q_r1, q_r2, q_r3⟩ := DServer.rd.1 h
  obtain ⟨q_a1, q_c1, rfl, q_hm1, q_lc1, q_hu1⟩ := slice_open q_r1; clear q_hu1
  have q_K1 : Hid (Reads (Rep.slice 71 DItem.rep) w [.slice q_a1 x.store.items.length q_c1] x.store.items) := ⟨_, q_r1⟩
  obtain ⟨q_a2, q_c2, rfl, q_hm2, q_lc2, q_hu2⟩ := slice_open q_r2; clear q_hu2
  have q_K2 : Hid (Reads (Rep.slice 89 DApplied.rep) w [.slice q_a2 x.applied.length q_c2] x.applied) := ⟨_, q_r2⟩
  obtain ⟨q_a3, q_c3, rfl, q_hm3, q_lc3, q_hu3⟩ := slice_open q_r3; clear q_hu3
  have q_K3 : Hid (Reads (Rep.slice 34 DWrite.rep) w [.slice q_a3 x.changes.length q_c3] x.changes) := ⟨_, q_r3⟩
  clear q_r1 q_r2 q_r3 h
  have HSt : Hid (Reads DStore.rep w [.string x.store.name, .slice q_a1 x.store.items.length q_c1, .int .i64 x.store.auto] x.store) := by
    obtain ⟨f, r⟩ := q_K1.out
    exact ⟨f, DStore.rd.2 ⟨_, _, rfl, rfl, q_s0, r⟩⟩
  have hs1 := hs.applied
  have hs2 := hs.changes
  obtain ⟨i0, hi, hz0, hz1, hz2⟩ := info_parts infoApplied
  obtain ⟨j0, hj, hy0, hy1, hy2⟩ := info_parts infoWrite
  go_enter Tryz.func44, Tryz.ntmps44
  go_wp2_with fail
  refine settle (fun W => WB W w.heap.size #[.string x.store.name, .slice q_a1 x.store.items.length q_c1, .int .i64 x.store.auto, .slice q_a2 x.applied.length q_c2, .slice q_a3 x.changes.length q_c3] ∧ WB W (w.heap.size + 1) #[.string ⟨#[]⟩, .slice none 0 0, .int .i64 0, .slice none 0 0, .slice none 0 0] ∧ Below w.heap.size w W ∧ w.heap.size + 2 ≤ W.heap.size) ⟨(WB.at rfl).growA, WB.at (by simp), bEl, by simp⟩ ?_
  rintro wr ⟨hx, ht, hb, hz⟩
  have HX := Lib.hid hx
  have HT := Lib.hid ht
  have HB := Lib.hid hb
  clear hx ht hb
  have HS : Hid (∀ w', Chg [w.heap.size + 1] wr w' → (∀ o, w'.cell? ⟨w.heap.size, o, none⟩ = #[.string x.store.name, .slice q_a1 x.store.items.length q_c1, .int .i64 x.store.auto, .slice q_a2 x.applied.length q_c2, .slice q_a3 x.changes.length q_c3][o]?) ∧ Chg [w.heap.size + 1] wr w') := Lib.hid fun w' hw' => ⟨(HX.out.chg hw' (by simp)).cell, hw'⟩
  have ⟨c_HX, z_HX, f_HX⟩ := HX.out
  have ⟨c_HT, z_HT, f_HT⟩ := HT.out
  go_region_held3 (fun w' => (∀ o, w'.cell? ⟨w.heap.size, o, none⟩ = #[.string x.store.name, .slice q_a1 x.store.items.length q_c1, .int .i64 x.store.auto, .slice q_a2 x.applied.length q_c2, .slice q_a3 x.changes.length q_c3][o]?) ∧ Chg [w.heap.size + 1] wr w')
    (first | (refine HS.out _ ?_; (first | (with_reducible refine Chg.set (by simp) ?_; with_reducible refine Chg.set (by simp) ?_; with_reducible refine Chg.set (by simp) ?_; with_reducible refine Chg.set (by simp) ?_; with_reducible refine Chg.set (by simp) ?_; refine Chg.of_below (B := wr.heap.size) (by (repeat (first | with_reducible exact belR | (with_reducible refine belAB ?_ ?_; focus (first | omega | (simp; done) | (simp; omega))) | with_reducible apply belN | with_reducible apply belD | with_reducible assumption)); done) (Nat.le_refl _)) | (refine Chg.of_below (B := wr.heap.size) (by (repeat (first | with_reducible exact belR | (with_reducible refine belAB ?_ ?_; focus (first | omega | (simp; done) | (simp; omega))) | with_reducible apply belN | with_reducible apply belD | with_reducible assumption)); done) (Nat.le_refl _)) | fail)) | fail)
    (first
      | (go_at_call 81; refine (implCopyStore _ x.store _ (HSt.out.below (HB.out.trans (Below.mono (B := wr.heap.size) bEb (by omega)))) hs.store).mono ?_; rintro e w2 ⟨ds, rfl, hf2, hb2⟩; obtain ⟨a1, c1, rfl, hfw2, _⟩ := DStore.fopen hf2; obtain ⟨A, C, hAe, hCe, hp2⟩ := (hf2.partAt (Nat.le_refl _)).named; have hst2 := hb2; have hq2 : Below wr.heap.size wr w2 := (Below.trans bEb (hb2.mono bSz)); have hzz2 := hb2.size; have hwt2 := HT.out.grow hq2 (by omega); have ⟨ct2, zt2, ft2⟩ := hwt2; (try simp at hzz2 hAe hCe); clear hb2 hf2 hfw2)
      | ((refine DApplied.flat.step_growD _ (by rfl) (.tmp 6) (.tmp 8) 27 27 (by rfl) wr.heap.size 89 i0 _ _ Tryz.underlying27 Tryz.underlying27 hi hz0 hz1 hz2 rfl _ [] (by rfl) ?ownA _ x.applied (by rfl) ?rdA x.applied.length ?lmA ?lnA (by decide) ?bsA ?_); (case ownA => (refine (own_lit0 ?_).mono ?_; (focus (repeat (first | exact litN (by first | rfl | (simp; done)) | with_reducible apply litA | with_reducible apply litD | with_reducible apply litB hst2 | (refine litC hc4 ?_ (by first | (simp; done) | (simp; omega) | omega))))); (first | exact Nat.le_refl _ | omega | (simp; done) | (simp; omega)))); (case rdA => exact q_K2.out.below (HB.out.trans (Below.mono (B := wr.heap.size) bEb (by omega)))); (case lmA => simp); (case lnA => omega); (case bsA => first | exact Nat.le_refl _ | omega | (simp; done) | (simp; omega)); (intro ao3 cap3 w3 hf3 hc3 hg3 hv3); have hq3 : Below wr.heap.size wr w3 := Below.trans bEb hg3; have hzz3 := hg3.size; have hwt3 := HT.out.grow hq3 (by omega); have ⟨ct3, zt3, ft3⟩ := hwt3; (try simp at hzz3); (change ∀ b ∈ (Value.slice ao3 x.applied.length cap3).ownBlock.toList, b ∈ (Value.slice (some ⟨_, 0, none⟩) 0 0).ownBlock.toList ∨ b = _ at hv3); (change Chg (Value.slice (some ⟨_, 0, none⟩) 0 0).ownBlock.toList _ _ at hc3); (rw [own_lit_list] at hc3); (simp only [own_lit_list, List.mem_singleton] at hv3); (try simp at hv3); clear hg3)
      | ((refine DWrite.flat.step_growD _ (by rfl) (.tmp 10) (.tmp 12) 28 28 (by rfl) wr.heap.size 34 j0 _ _ Tryz.underlying28 Tryz.underlying28 hj hy0 hy1 hy2 rfl _ [] (by rfl) ?ownB _ x.changes (by rfl) ?rdB x.changes.length ?lmB ?lnB (by decide) ?bsB ?_); (case ownB => (refine (own_lit0 ?_).mono ?_; (focus (repeat (first | exact litN (by first | rfl | (simp; done)) | with_reducible apply litA | with_reducible apply litD | with_reducible apply litB hst2 | (refine litC hc3 ?_ (by first | (simp; done) | (simp; omega) | omega))))); (first | exact Nat.le_refl _ | omega | (simp; done) | (simp; omega)))); (case rdB => exact q_K3.out.below (HB.out.trans (Below.mono (B := wr.heap.size) bEb (by omega)))); (case lmB => simp); (case lnB => omega); (case bsB => first | exact Nat.le_refl _ | omega | (simp; done) | (simp; omega)); (intro ao4 cap4 w4 hf4 hc4 hg4 hv4); have hq4 : Below wr.heap.size wr w4 := Below.trans bEb hg4; have hzz4 := hg4.size; have hwt4 := HT.out.grow hq4 (by omega); have ⟨ct4, zt4, ft4⟩ := hwt4; (try simp at hzz4); (change ∀ b ∈ (Value.slice ao4 x.changes.length cap4).ownBlock.toList, b ∈ (Value.slice (some ⟨_, 0, none⟩) 0 0).ownBlock.toList ∨ b = _ at hv4); (change Chg (Value.slice (some ⟨_, 0, none⟩) 0 0).ownBlock.toList _ _ at hc4); (rw [own_lit_list] at hc4); (simp only [own_lit_list, List.mem_singleton] at hv4); (try simp at hv4); clear hg4)
      | fail)
  all_goals
    have hf3' : Fresh (Rep.slice 89 DApplied.rep) wr.heap.size w3 [.slice ao3 x.applied.length cap3] x.applied := hf3
    have hl3 := hf3.ownlt
    have hl4 := hf4.ownlt
    have e1 : ∀ b ∈ (Value.slice ao3 x.applied.length cap3).ownBlock.toList, (b < A ∨ C ≤ b) := fun b hb => by have h1 := hl3 b hb; have h2 := hv3 b (by first | exact hb | simpa using hb); omega
    have e2 : ∀ b ∈ (Value.slice ao4 x.changes.length cap4).ownBlock.toList, (b < A ∨ C ≤ b) ∧ b ∉ (Value.slice ao3 x.applied.length cap3).ownBlock.toList := fun b hb => ⟨by have h1 := hl4 b hb; have h2 := hv4 b (by first | exact hb | simpa using hb); omega, fun hb' => by have h1 := hl4 b hb; have h2 := hv4 b (by first | exact hb | simpa using hb); have h3 := hl3 b hb'; have h4 := hv3 b (by first | exact hb' | simpa using hb'); omega⟩
    have HP : Part DStore.rep A C w4 [.string x.store.name, .slice a1 x.store.items.length c1, .int .i64 x.store.auto] x.store := by
      repeat (first | with_reducible exact hp2 | with_reducible apply partA | with_reducible apply partD | (refine Part.off ?_ hc4 (by intro b hb; simp at hb; subst hb; omega)) | (refine Part.off ?_ hc3 (by intro b hb; simp at hb; subst hb; omega)))
    have HF3 : Fresh (Rep.slice 89 DApplied.rep) wr.heap.size w4 [.slice ao3 x.applied.length cap3] x.applied := by
      repeat (first | with_reducible exact hf3' | with_reducible apply freshA | with_reducible apply freshD | (refine DApplied.flat.offBlocks ?_ hc4 (fun b hb hm => by simp at hm; subst hm; have h3 := hl3 _ hb; have h4 := hv3 _ (by first | exact hb | simpa using hb); omega)))
    have HF4 : Fresh (Rep.slice 34 DWrite.rep) wr.heap.size w4 [.slice ao4 x.changes.length cap4] x.changes := hf4
    have HG := Lib.hid ((server_glue HP HF3 HF4 (by omega) e1 e2).mono (B' := w.heap.size + 2) (by omega))
    have HB4 := Lib.hid (HB.out.trans (hq4.mono (by omega)))
    clear HP HF3 HF4 e1 e2 hl3 hl4 hf3 hf3' hf4 hc3 hc4 hv3 hv4 hp2 hq4 hq3 hq2 hst2
    go_wp2
    refine bodyPost_ret (v := .agg #[.string x.store.name, .slice a1 x.store.items.length c1, .int .i64 x.store.auto, .slice ao3 x.applied.length cap3, .slice ao4 x.changes.length cap4]) (by simp [results, Tryz.results44, go_sem, ct4]) rfl ⟨_, rfl, ?_, ?_⟩
    · exact (Fresh.mono (B := (w.heap.size + 2)) (by repeat (first | with_reducible exact HG.out | with_reducible refine Fresh.setLow ?_ (by omega) | with_reducible refine Fresh.drew ?_)) (by omega))
    · have y := HB4.out
      exact bEb

set_option maxRecDepth 100000 in
set_option maxHeartbeats 8000000 in
theorem specCopyServer (cs : List Value) (x : DServer) (w : World) (h : Reads DServer.rep w cs x) (hs : SmallServer x 1049000) :
    Calls Tryz.prog 49 #[.agg cs.toArray] w fun e w' => ∃ ds, e = .returned (.agg ds.toArray) ∧ Fresh DServer.rep w.heap.size w' ds x ∧ Below w.heap.size w w' := by
  obtain ⟨fp_q, h⟩ := h
  obtain ⟨q_v1, q_v2, q_v3, q_f1, q_f2, q_f3, rfl, _, q_s0, q_r1, q_r2, q_r3⟩ := DServer.rd.1 h
  obtain ⟨q_a1, q_c1, rfl, q_hm1, q_lc1, q_hu1⟩ := slice_open q_r1; clear q_hu1
  have q_K1 : Hid (Reads (Rep.slice 71 DItem.rep) w [.slice q_a1 x.store.items.length q_c1] x.store.items) := ⟨_, q_r1⟩
  obtain ⟨q_a2, q_c2, rfl, q_hm2, q_lc2, q_hu2⟩ := slice_open q_r2; clear q_hu2
  have q_K2 : Hid (Reads (Rep.slice 89 DApplied.rep) w [.slice q_a2 x.applied.length q_c2] x.applied) := ⟨_, q_r2⟩
  obtain ⟨q_a3, q_c3, rfl, q_hm3, q_lc3, q_hu3⟩ := slice_open q_r3; clear q_hu3
  have q_K3 : Hid (Reads (Rep.slice 34 DWrite.rep) w [.slice q_a3 x.changes.length q_c3] x.changes) := ⟨_, q_r3⟩
  clear q_r1 q_r2 q_r3 h
  have HSt : Hid (Reads DStore.rep w [.string x.store.name, .slice q_a1 x.store.items.length q_c1, .int .i64 x.store.auto] x.store) := by
    obtain ⟨f, r⟩ := q_K1.out
    exact ⟨f, DStore.rd.2 ⟨_, _, rfl, rfl, q_s0, r⟩⟩
  have hs1 := hs.applied
  have hs2 := hs.changes
  obtain ⟨i0, hi, hz0, hz1, hz2⟩ := info_parts infoApplied
  obtain ⟨j0, hj, hy0, hy1, hy2⟩ := info_parts infoWrite
  go_enter Tryz.func49, Tryz.ntmps49
  go_wp2_with fail
  refine settle (fun W => WB W w.heap.size #[.string x.store.name, .slice q_a1 x.store.items.length q_c1, .int .i64 x.store.auto, .slice q_a2 x.applied.length q_c2, .slice q_a3 x.changes.length q_c3] ∧ WB W (w.heap.size + 1) #[.string ⟨#[]⟩, .slice none 0 0, .int .i64 0, .slice none 0 0, .slice none 0 0] ∧ Below w.heap.size w W ∧ w.heap.size + 2 ≤ W.heap.size) ⟨(WB.at rfl).growA, WB.at (by simp), bEl, by simp⟩ ?_
  rintro wr ⟨hx, ht, hb, hz⟩
  have HX := Lib.hid hx
  have HT := Lib.hid ht
  have HB := Lib.hid hb
  clear hx ht hb
  have HS : Hid (∀ w', Chg [w.heap.size + 1] wr w' → (∀ o, w'.cell? ⟨w.heap.size, o, none⟩ = #[.string x.store.name, .slice q_a1 x.store.items.length q_c1, .int .i64 x.store.auto, .slice q_a2 x.applied.length q_c2, .slice q_a3 x.changes.length q_c3][o]?) ∧ Chg [w.heap.size + 1] wr w') := Lib.hid fun w' hw' => ⟨(HX.out.chg hw' (by simp)).cell, hw'⟩
  have ⟨c_HX, z_HX, f_HX⟩ := HX.out
  have ⟨c_HT, z_HT, f_HT⟩ := HT.out
  go_region_held3 (fun w' => (∀ o, w'.cell? ⟨w.heap.size, o, none⟩ = #[.string x.store.name, .slice q_a1 x.store.items.length q_c1, .int .i64 x.store.auto, .slice q_a2 x.applied.length q_c2, .slice q_a3 x.changes.length q_c3][o]?) ∧ Chg [w.heap.size + 1] wr w')
    (first | (refine HS.out _ ?_; (first | (with_reducible refine Chg.set (by simp) ?_; with_reducible refine Chg.set (by simp) ?_; with_reducible refine Chg.set (by simp) ?_; with_reducible refine Chg.set (by simp) ?_; with_reducible refine Chg.set (by simp) ?_; refine Chg.of_below (B := wr.heap.size) (by (repeat (first | with_reducible exact belR | (with_reducible refine belAB ?_ ?_; focus (first | omega | (simp; done) | (simp; omega))) | with_reducible apply belN | with_reducible apply belD | with_reducible assumption)); done) (Nat.le_refl _)) | (refine Chg.of_below (B := wr.heap.size) (by (repeat (first | with_reducible exact belR | (with_reducible refine belAB ?_ ?_; focus (first | omega | (simp; done) | (simp; omega))) | with_reducible apply belN | with_reducible apply belD | with_reducible assumption)); done) (Nat.le_refl _)) | fail)) | fail)
    (first
      | (go_at_call 99; refine (specCopyStore _ x.store _ (HSt.out.below (HB.out.trans (Below.mono (B := wr.heap.size) bEb (by omega)))) hs.store).mono ?_; rintro e w2 ⟨ds, rfl, hf2, hb2⟩; obtain ⟨a1, c1, rfl, hfw2, _⟩ := DStore.fopen hf2; obtain ⟨A, C, hAe, hCe, hp2⟩ := (hf2.partAt (Nat.le_refl _)).named; have hst2 := hb2; have hq2 : Below wr.heap.size wr w2 := (Below.trans bEb (hb2.mono bSz)); have hzz2 := hb2.size; have hwt2 := HT.out.grow hq2 (by omega); have ⟨ct2, zt2, ft2⟩ := hwt2; (try simp at hzz2 hAe hCe); clear hb2 hf2 hfw2)
      | ((refine DApplied.flat.step_growD _ (by rfl) (.tmp 6) (.tmp 8) 27 27 (by rfl) wr.heap.size 89 i0 _ _ Tryz.underlying27 Tryz.underlying27 hi hz0 hz1 hz2 rfl _ [] (by rfl) ?ownA _ x.applied (by rfl) ?rdA x.applied.length ?lmA ?lnA (by decide) ?bsA ?_); (case ownA => (refine (own_lit0 ?_).mono ?_; (focus (repeat (first | exact litN (by first | rfl | (simp; done)) | with_reducible apply litA | with_reducible apply litD | with_reducible apply litB hst2 | (refine litC hc4 ?_ (by first | (simp; done) | (simp; omega) | omega))))); (first | exact Nat.le_refl _ | omega | (simp; done) | (simp; omega)))); (case rdA => exact q_K2.out.below (HB.out.trans (Below.mono (B := wr.heap.size) bEb (by omega)))); (case lmA => simp); (case lnA => omega); (case bsA => first | exact Nat.le_refl _ | omega | (simp; done) | (simp; omega)); (intro ao3 cap3 w3 hf3 hc3 hg3 hv3); have hq3 : Below wr.heap.size wr w3 := Below.trans bEb hg3; have hzz3 := hg3.size; have hwt3 := HT.out.grow hq3 (by omega); have ⟨ct3, zt3, ft3⟩ := hwt3; (try simp at hzz3); (change ∀ b ∈ (Value.slice ao3 x.applied.length cap3).ownBlock.toList, b ∈ (Value.slice (some ⟨_, 0, none⟩) 0 0).ownBlock.toList ∨ b = _ at hv3); (change Chg (Value.slice (some ⟨_, 0, none⟩) 0 0).ownBlock.toList _ _ at hc3); (rw [own_lit_list] at hc3); (simp only [own_lit_list, List.mem_singleton] at hv3); (try simp at hv3); clear hg3)
      | ((refine DWrite.flat.step_growD _ (by rfl) (.tmp 10) (.tmp 12) 28 28 (by rfl) wr.heap.size 34 j0 _ _ Tryz.underlying28 Tryz.underlying28 hj hy0 hy1 hy2 rfl _ [] (by rfl) ?ownB _ x.changes (by rfl) ?rdB x.changes.length ?lmB ?lnB (by decide) ?bsB ?_); (case ownB => (refine (own_lit0 ?_).mono ?_; (focus (repeat (first | exact litN (by first | rfl | (simp; done)) | with_reducible apply litA | with_reducible apply litD | with_reducible apply litB hst2 | (refine litC hc3 ?_ (by first | (simp; done) | (simp; omega) | omega))))); (first | exact Nat.le_refl _ | omega | (simp; done) | (simp; omega)))); (case rdB => exact q_K3.out.below (HB.out.trans (Below.mono (B := wr.heap.size) bEb (by omega)))); (case lmB => simp); (case lnB => omega); (case bsB => first | exact Nat.le_refl _ | omega | (simp; done) | (simp; omega)); (intro ao4 cap4 w4 hf4 hc4 hg4 hv4); have hq4 : Below wr.heap.size wr w4 := Below.trans bEb hg4; have hzz4 := hg4.size; have hwt4 := HT.out.grow hq4 (by omega); have ⟨ct4, zt4, ft4⟩ := hwt4; (try simp at hzz4); (change ∀ b ∈ (Value.slice ao4 x.changes.length cap4).ownBlock.toList, b ∈ (Value.slice (some ⟨_, 0, none⟩) 0 0).ownBlock.toList ∨ b = _ at hv4); (change Chg (Value.slice (some ⟨_, 0, none⟩) 0 0).ownBlock.toList _ _ at hc4); (rw [own_lit_list] at hc4); (simp only [own_lit_list, List.mem_singleton] at hv4); (try simp at hv4); clear hg4)
      | fail)
  all_goals
    have hf3' : Fresh (Rep.slice 89 DApplied.rep) wr.heap.size w3 [.slice ao3 x.applied.length cap3] x.applied := hf3
    have hl3 := hf3.ownlt
    have hl4 := hf4.ownlt
    have e1 : ∀ b ∈ (Value.slice ao3 x.applied.length cap3).ownBlock.toList, (b < A ∨ C ≤ b) := fun b hb => by have h1 := hl3 b hb; have h2 := hv3 b (by first | exact hb | simpa using hb); omega
    have e2 : ∀ b ∈ (Value.slice ao4 x.changes.length cap4).ownBlock.toList, (b < A ∨ C ≤ b) ∧ b ∉ (Value.slice ao3 x.applied.length cap3).ownBlock.toList := fun b hb => ⟨by have h1 := hl4 b hb; have h2 := hv4 b (by first | exact hb | simpa using hb); omega, fun hb' => by have h1 := hl4 b hb; have h2 := hv4 b (by first | exact hb | simpa using hb); have h3 := hl3 b hb'; have h4 := hv3 b (by first | exact hb' | simpa using hb'); omega⟩
    have HP : Part DStore.rep A C w4 [.string x.store.name, .slice a1 x.store.items.length c1, .int .i64 x.store.auto] x.store := by
      repeat (first | with_reducible exact hp2 | with_reducible apply partA | with_reducible apply partD | (refine Part.off ?_ hc4 (by intro b hb; simp at hb; subst hb; omega)) | (refine Part.off ?_ hc3 (by intro b hb; simp at hb; subst hb; omega)))
    have HF3 : Fresh (Rep.slice 89 DApplied.rep) wr.heap.size w4 [.slice ao3 x.applied.length cap3] x.applied := by
      repeat (first | with_reducible exact hf3' | with_reducible apply freshA | with_reducible apply freshD | (refine DApplied.flat.offBlocks ?_ hc4 (fun b hb hm => by simp at hm; subst hm; have h3 := hl3 _ hb; have h4 := hv3 _ (by first | exact hb | simpa using hb); omega)))
    have HF4 : Fresh (Rep.slice 34 DWrite.rep) wr.heap.size w4 [.slice ao4 x.changes.length cap4] x.changes := hf4
    have HG := Lib.hid ((server_glue HP HF3 HF4 (by omega) e1 e2).mono (B' := w.heap.size + 2) (by omega))
    have HB4 := Lib.hid (HB.out.trans (hq4.mono (by omega)))
    clear HP HF3 HF4 e1 e2 hl3 hl4 hf3 hf3' hf4 hc3 hc4 hv3 hv4 hp2 hq4 hq3 hq2 hst2
    go_wp2
    refine bodyPost_ret (v := .agg #[.string x.store.name, .slice a1 x.store.items.length c1, .int .i64 x.store.auto, .slice ao3 x.applied.length cap3, .slice ao4 x.changes.length cap4]) (by simp [results, Tryz.results49, go_sem, ct4]) rfl ⟨_, rfl, ?_, ?_⟩
    · exact (Fresh.mono (B := (w.heap.size + 2)) (by repeat (first | with_reducible exact HG.out | with_reducible refine Fresh.setLow ?_ (by omega) | with_reducible refine Fresh.drew ?_)) (by omega))
    · have y := HB4.out
      exact bEb

theorem DSync.fmk {B : Nat} {w : World} {v : Value} {x : DSync} (h : Fresh (Rep.slice 34 DWrite.rep) B w [v] x.outbox.writes) : Fresh DSync.rep B w [.int .i64 x.outbox.device, .int .i64 x.outbox.next, v, .int .i64 x.tries, .int .i64 x.waitUntil] x :=
  DSync.fresh ((DOutbox.fmk h).partAt (Nat.le_refl _)) (Nat.le_refl _)
theorem DSync.fopen {B : Nat} {w : World} {cs : List Value} {x : DSync} (h : Fresh DSync.rep B w cs x) :
    ∃ a1 c1, cs = [.int .i64 x.outbox.device, .int .i64 x.outbox.next, .slice a1 x.outbox.writes.length c1, .int .i64 x.tries, .int .i64 x.waitUntil] ∧ Fresh (Rep.slice 34 DWrite.rep) B w [.slice a1 x.outbox.writes.length c1] x.outbox.writes := by
  obtain ⟨fp, h, hn, hg⟩ := h
  obtain ⟨v1, f1, rfl, rfl, r1⟩ := DSync.rd.1 h
  obtain ⟨a1, c1, rfl, _⟩ := slice_open r1
  exact ⟨a1, c1, rfl, _, r1, hn, hg⟩

set_option maxRecDepth 100000 in
set_option maxHeartbeats 1600000 in
theorem implCopySync (cs : List Value) (x : DSync) (w : World) (h : Reads DSync.rep w cs x) (hs : x.outbox.writes.length ≤ 1048600) :
    Calls Tryz.prog 64 #[.agg cs.toArray] w fun e w' => ∃ ds, e = .returned (.agg ds.toArray) ∧ Fresh DSync.rep w.heap.size w' ds x ∧ Below w.heap.size w w' := by
  obtain ⟨fp_q, h⟩ := h
  obtain ⟨q_v1, q_f1, rfl, _, q_r1⟩ := DSync.rd.1 h
  obtain ⟨q_a1, q_c1, rfl, q_hm1, q_lc1, q_hu1⟩ := slice_open q_r1; clear q_hu1
  have q_K1 : Hid (Reads (Rep.slice 34 DWrite.rep) w [.slice q_a1 x.outbox.writes.length q_c1] x.outbox.writes) := ⟨_, q_r1⟩
  clear q_r1 h
  have HOb : Hid (Reads DOutbox.rep w [.int .i64 x.outbox.device, .int .i64 x.outbox.next, .slice q_a1 x.outbox.writes.length q_c1] x.outbox) := by
    obtain ⟨f, r⟩ := q_K1.out
    exact ⟨f, DOutbox.rd.2 ⟨_, _, rfl, rfl, r⟩⟩
  go_enter Tryz.func64, Tryz.ntmps64
  go_wp2_with fail
  refine (implCopyOutbox _ x.outbox _ (HOb.out.below bEl) hs).mono ?_
  rintro e w1 ⟨ds, rfl, hf, hb⟩
  obtain ⟨a1, c1, rfl, hfw⟩ := DOutbox.fopen hf
  have HF := Lib.hid (hfw.mono (B' := w.heap.size + 2) (by simp))
  have HX : Hid (WB w1 w.heap.size #[.int .i64 x.outbox.device, .int .i64 x.outbox.next, .slice q_a1 x.outbox.writes.length q_c1, .int .i64 x.tries, .int .i64 x.waitUntil]) := Lib.hid (((WB.at rfl).growA).keep hb)
  have HT : Hid (WB w1 (w.heap.size + 1) #[.int .i64 0, .int .i64 0, .slice none 0 0, .int .i64 0, .int .i64 0]) := Lib.hid (((WB.at (by simp))).keep hb)
  have HO : Hid (True) := Lib.hid (trivial)
  have HB : Hid (Below w.heap.size w w1) := Lib.hid (below_call bEl bSz hb)
  have hz : w.heap.size + 2 ≤ w1.heap.size := by have y := hb.size; simp at y; omega
  clear hb hf hfw
  have ⟨c_HX, z_HX, f_HX⟩ := HX.out
  have ⟨c_HT, z_HT, f_HT⟩ := HT.out
  go_wp2
  refine bodyPost_ret (v := .agg #[.int .i64 x.outbox.device, .int .i64 x.outbox.next, .slice a1 x.outbox.writes.length c1, .int .i64 x.tries, .int .i64 x.waitUntil]) (by simp [results, Tryz.results64, go_sem, c_HT]) rfl ⟨_, rfl, ?_, ?_⟩
  · exact DSync.fmk (Fresh.mono (B := (w.heap.size + 2)) (by repeat (first | with_reducible exact HF.out | with_reducible refine Fresh.setLow ?_ (by omega) | with_reducible refine Fresh.drew ?_)) (by omega))
  · have y := HB.out
    exact bEb

set_option maxRecDepth 100000 in
set_option maxHeartbeats 1600000 in
theorem specCopySync (cs : List Value) (x : DSync) (w : World) (h : Reads DSync.rep w cs x) (hs : x.outbox.writes.length ≤ 1048600) :
    Calls Tryz.prog 122 #[.agg cs.toArray] w fun e w' => ∃ ds, e = .returned (.agg ds.toArray) ∧ Fresh DSync.rep w.heap.size w' ds x ∧ Below w.heap.size w w' := by
  obtain ⟨fp_q, h⟩ := h
  obtain ⟨q_v1, q_f1, rfl, _, q_r1⟩ := DSync.rd.1 h
  obtain ⟨q_a1, q_c1, rfl, q_hm1, q_lc1, q_hu1⟩ := slice_open q_r1; clear q_hu1
  have q_K1 : Hid (Reads (Rep.slice 34 DWrite.rep) w [.slice q_a1 x.outbox.writes.length q_c1] x.outbox.writes) := ⟨_, q_r1⟩
  clear q_r1 h
  have HOb : Hid (Reads DOutbox.rep w [.int .i64 x.outbox.device, .int .i64 x.outbox.next, .slice q_a1 x.outbox.writes.length q_c1] x.outbox) := by
    obtain ⟨f, r⟩ := q_K1.out
    exact ⟨f, DOutbox.rd.2 ⟨_, _, rfl, rfl, r⟩⟩
  go_enter Tryz.func122, Tryz.ntmps122
  go_wp2_with fail
  refine (specCopyOutbox _ x.outbox _ (HOb.out.below bEl) hs).mono ?_
  rintro e w1 ⟨ds, rfl, hf, hb⟩
  obtain ⟨a1, c1, rfl, hfw⟩ := DOutbox.fopen hf
  have HF := Lib.hid (hfw.mono (B' := w.heap.size + 3) (by simp))
  have HX : Hid (WB w1 w.heap.size #[.int .i64 x.outbox.device, .int .i64 x.outbox.next, .slice q_a1 x.outbox.writes.length q_c1, .int .i64 x.tries, .int .i64 x.waitUntil]) := Lib.hid (((WB.at rfl).growA.growA).keep hb)
  have HT : Hid (WB w1 (w.heap.size + 1) #[.int .i64 0, .int .i64 0, .slice none 0 0, .int .i64 0, .int .i64 0]) := Lib.hid (((WB.at (by simp)).growA).keep hb)
  have HO : Hid (WB w1 (w.heap.size + 2) #[.int .i64 x.outbox.device, .int .i64 x.outbox.next, .slice q_a1 x.outbox.writes.length q_c1, .int .i64 x.tries, .int .i64 x.waitUntil]) := Lib.hid ((WB.at (by simp)).keep hb)
  have HB : Hid (Below w.heap.size w w1) := Lib.hid (below_call bEl bSz hb)
  have hz : w.heap.size + 3 ≤ w1.heap.size := by have y := hb.size; simp at y; omega
  clear hb hf hfw
  have ⟨c_HO, z_HO, f_HO⟩ := HO.out
  have ⟨c_HT, z_HT, f_HT⟩ := HT.out
  go_wp2
  refine bodyPost_ret (v := .agg #[.int .i64 x.outbox.device, .int .i64 x.outbox.next, .slice a1 x.outbox.writes.length c1, .int .i64 x.tries, .int .i64 x.waitUntil]) (by simp [results, Tryz.results122, go_sem, c_HT]) rfl ⟨_, rfl, ?_, ?_⟩
  · exact DSync.fmk (Fresh.mono (B := (w.heap.size + 3)) (by repeat (first | with_reducible exact HF.out | with_reducible refine Fresh.setLow ?_ (by omega) | with_reducible refine Fresh.drew ?_)) (by omega))
  · have y := HB.out
    exact bEb

end Go.Proofs.YtlfebehpmefioaaGreat

/-
  IsServer.
-/
namespace Go.Proofs.YtlfebehpmefioaaGreat
open Go.RowKit
attribute [local irreducible] isStoreF isWriteF

set_option maxRecDepth 100000 in
set_option maxHeartbeats 6400000 in
theorem implIsServer (cs : List Value) (x : DServer) (w : World) (h : Reads DServer.rep w cs x) :
    Calls Tryz.prog 15 #[.agg cs.toArray] w fun e w' => e = .returned (.bool (isServerF x)) ∧ Below w.heap.size w w' := by
  obtain ⟨fp_q, h⟩ := h
  obtain ⟨q_v1, q_v2, q_v3, q_f1, q_f2, q_f3, rfl, _, q_s0, q_r1, q_r2, q_r3⟩ := DServer.rd.1 h
  obtain ⟨q_a1, q_c1, rfl, q_hm1, q_lc1, q_hu1⟩ := slice_open q_r1; clear q_hu1
  have q_K1 : Hid (Reads (Rep.slice 71 DItem.rep) w [.slice q_a1 x.store.items.length q_c1] x.store.items) := ⟨_, q_r1⟩
  obtain ⟨q_a2, q_c2, rfl, q_hm2, q_lc2, q_hu2⟩ := slice_open q_r2; clear q_hu2
  have q_K2 : Hid (Reads (Rep.slice 89 DApplied.rep) w [.slice q_a2 x.applied.length q_c2] x.applied) := ⟨_, q_r2⟩
  obtain ⟨q_a3, q_c3, rfl, q_hm3, q_lc3, q_hu3⟩ := slice_open q_r3; clear q_hu3
  have q_K3 : Hid (Reads (Rep.slice 34 DWrite.rep) w [.slice q_a3 x.changes.length q_c3] x.changes) := ⟨_, q_r3⟩
  clear q_r1 q_r2 q_r3 h
  have HSt : Hid (Reads DStore.rep w [.string x.store.name, .slice q_a1 x.store.items.length q_c1, .int .i64 x.store.auto] x.store) := by
    obtain ⟨f, r⟩ := q_K1.out
    exact ⟨f, DStore.rd.2 ⟨_, _, rfl, rfl, q_s0, r⟩⟩
  go_enter Tryz.func15, Tryz.ntmps15
  go_wp2
  go_loopw [10] (fun i wr => ∃ k : Nat, k ≤ x.applied.length ∧ i = .int .i64 k ∧ Hid (∀ i, i < k → appOk x.applied i = true) ∧ WB wr w.heap.size #[.string x.store.name, .slice q_a1 x.store.items.length q_c1, .int .i64 x.store.auto, .slice q_a2 x.applied.length q_c2, .slice q_a3 x.changes.length q_c3] ∧ Below w.heap.size w wr) (fun i _ => x.applied.length - (intOf i).toNat)
  case atStart => exact ⟨0, by omega, rfl, Lib.hid (by intro i hi; omega), WB.at rfl, bEl⟩
  case round =>
    obtain ⟨k, hk, rfl, HA, hx, hb⟩ := hrel
    have HB := Lib.hid hb; clear hb
    have HX := Lib.hid hx
    clear hx
    have ⟨c_HX, z_HX, f_HX⟩ := HX.out
    by_cases hlt : k < x.applied.length
    · have eo := Lib.hid (appOk_at hlt)
      have hlt' : k - 1 < x.applied.length := by omega
      obtain ⟨b, off, cs_b, rfl, hw_b, hr_b, hcell_b⟩ := slice_at (q_K2.out.below HB.out) k hlt
      obtain ⟨fe_b, hrd_b⟩ := hr_b
      have HR_b : Hid (Reads DApplied.rep wr cs_b x.applied[k]) := ⟨_, hrd_b⟩
      obtain ⟨rfl, _⟩ := DApplied.rd.1 hrd_b
      clear hrd_b
      have b_c0 : wr.cell? ⟨b, off + k * 2, none⟩ = some (.int .i64 x.applied[k].device) := hcell_b 0 (by decide)
      have b_c1 : wr.cell? ⟨b, off + k * 2 + 1, none⟩ = some (.int .i64 x.applied[k].seq) := hcell_b 1 (by decide)
      clear hcell_b
      obtain ⟨cs2, _, ⟨_, hrd2⟩, hcell2⟩ := slice_at' (q_K2.out.below HB.out) (k - 1) hlt'
      obtain ⟨rfl, _⟩ := DApplied.rd.1 hrd2
      have c_c0 : wr.cell? ⟨b, off + (k - 1) * 2, none⟩ = some (.int .i64 x.applied[k - 1].device) := hcell2 0 (by decide)
      clear hcell2 hrd2
      clear HR_b
      have j1 : (0 : Int) ≤ (k : Int) := by omega
      have j3 : (k : Int) < (x.applied.length : Int) := by omega
      cases n1 : within x.applied[k].device 1 1000000
      case' true => cases n2 : within x.applied[k].seq 0 1000000
      case' true.true => cases n3 : decide (0 < k)
      case' true.true.true => cases n4 : appBad x.applied k
      all_goals
        first | (have hk0 := of_decide_eq_true n3; have hw : IntKind.i64.wrap ((k : Int) - 1) = ((k - 1 : Nat) : Int) := by rw [Go.IntWalk.i64_in _ (by omega)]; omega) | (have hw : True := trivial)
        have j4 : (0 : Int) ≤ ((k - 1 : Nat) : Int) := by omega
        have j5 : ((k - 1 : Nat) : Int) < (x.applied.length : Int) := by omega
        first | (have n5 := (appBad_at hlt).symm.trans n4) | (have n5 : True := trivial)
        go_wp2_with fail
        refine settle (fun W => WB W wr.heap.size #[.int .i64 x.applied[k].device, .int .i64 x.applied[k].seq] ∧ WB W w.heap.size #[.string x.store.name, .slice q_a1 x.store.items.length q_c1, .int .i64 x.store.auto, .slice (some ⟨b, off, none⟩) x.applied.length q_c2, .slice q_a3 x.changes.length q_c3] ∧ Below wr.heap.size wr W) ⟨WB.at rfl, HX.out.growA, bEl⟩ ?_
        rintro w0 ⟨hy, hx0, hb0⟩
        have K0 := rg_var hx0
        have K1 := rg_var hy
        have C2 := rg_cell ((hb0.cell (block_lt_of_cell c_c0)).trans c_c0)
        refine wp_region_rg (by kernel_rfl) (by kernel_rfl) ?_
        repeat (go_big_quiet_step ((go_at_call 60; exact calls_rgSame (implInRange _ _ _ _))))
        refine wpQuiet_nil ?_
        rintro _ ⟨pq, rfl⟩
        clear K0 K1 C2 hw n5
        have HB1 := Lib.hid (hb0.trans ((rg_below w0 pq).mono hb0.size))
        clear hb0 hy hx0
      all_goals
        first
          | (go_wp2
             go_ret
             refine ⟨ret_bool (server_no hlt ?_).symm, below_call HB.out HB.out.size HB1.out⟩
             rw [eo.out]
             first
               | (rw [n1]; rfl)
               | (rw [n1, n2]; rfl)
               | (rw [n1, n2, n3, n4]; rfl))
          | (have HK : Hid (appOk x.applied k = true) := Lib.hid (by
               rw [eo.out]
               first
                 | (rw [n1, n2, n3, n4]; rfl)
                 | (rw [n1, n2, n3]; rfl))
             go_wp2
             go_light
             exact ⟨⟨k + 1, by omega, by go_num, Lib.hid (all_snoc HA.out HK.out), HX.out.keep HB1.out, below_call HB.out HB.out.size HB1.out⟩, by simp [intOf]; omega⟩)
    · have he := Lib.hid (server_yes hlt HA.out)
      clear HA
      go_wp2
      have hzr := HB.out.size
      obtain ⟨wp, hwp⟩ : ∃ wp, wp = wr := ⟨_, rfl⟩
      go_loopw [45] (fun i ws => ∃ k : Nat, k ≤ x.changes.length ∧ i = .int .i64 k ∧ Hid (∀ i, (hi : i < x.changes.length) → i < k → isWriteF x.changes[i] = true) ∧ WB ws w.heap.size #[.string x.store.name, .slice q_a1 x.store.items.length q_c1, .int .i64 x.store.auto, .slice q_a2 x.applied.length q_c2, .slice q_a3 x.changes.length q_c3] ∧ Below w.heap.size w ws) (fun i _ => x.changes.length - (intOf i).toNat)
      case atStart => exact ⟨0, by omega, rfl, Lib.hid (by intro i hi hk; omega), HX.out, HB.out⟩
      case round =>
        clear c_HX z_HX f_HX
        clear HB HX hzr hwp
        rename World => wo
        obtain ⟨j, hj, rfl, HC, hx, hb⟩ := hrel
        have HB := Lib.hid hb; clear hb
        have HX := Lib.hid hx
        clear hx
        have ⟨c_HX, z_HX, f_HX⟩ := HX.out
        by_cases hlt2 : j < x.changes.length
        · obtain ⟨b, off, cs_b, rfl, hw_b, hr_b, hcell_b⟩ := slice_at (q_K3.out.below HB.out) j hlt2
          obtain ⟨fe_b, hrd_b⟩ := hr_b
          have HR_b : Hid (Reads DWrite.rep wo cs_b x.changes[j]) := ⟨_, hrd_b⟩
          obtain ⟨rfl, _, b_s0, b_s1⟩ := DWrite.rd.1 hrd_b
          clear hrd_b
          have b_c0 : wo.cell? ⟨b, off + j * 7, none⟩ = some (.int .i64 x.changes[j].device) := hcell_b 0 (by decide)
          have b_c1 : wo.cell? ⟨b, off + j * 7 + 1, none⟩ = some (.int .i64 x.changes[j].seq) := hcell_b 1 (by decide)
          have b_c2 : wo.cell? ⟨b, off + j * 7 + 2, none⟩ = some (.int .i64 x.changes[j].key.kind) := hcell_b 2 (by decide)
          have b_c3 : wo.cell? ⟨b, off + j * 7 + 3, none⟩ = some (.int .i64 x.changes[j].key.n) := hcell_b 3 (by decide)
          have b_c4 : wo.cell? ⟨b, off + j * 7 + 4, none⟩ = some (.string x.changes[j].key.text) := hcell_b 4 (by decide)
          have b_c5 : wo.cell? ⟨b, off + j * 7 + 5, none⟩ = some (.string x.changes[j].field) := hcell_b 5 (by decide)
          have b_c6 : wo.cell? ⟨b, off + j * 7 + 6, none⟩ = some (.int .i64 x.changes[j].n) := hcell_b 6 (by decide)
          clear hcell_b
          have i1 : (0 : Int) ≤ (j : Int) := by omega
          have i2 : (j : Int) < (x.changes.length : Int) := by omega
          go_wp2_with fail
          refine (implIsQueuedWrite _ x.changes[j] _ (HR_b.out.below bEl)).mono ?_
          rintro e w2 ⟨rfl, hb2⟩
          have HB2 := Lib.hid (Below.trans bEl (hb2.mono bSz) : Below wo.heap.size wo w2)
          clear hb2
          cases n : isWriteF x.changes[j]
          · have H1 : Hid (isServerF x = false) := Lib.hid (by rw [he.out, changes_no hlt2 n]; rfl)
            go_wp2
            go_ret
            exact ⟨ret_bool H1.out.symm, below_call HB.out HB.out.size HB2.out⟩
          · have H1 := Lib.hid (write_snoc hlt2 HC.out n)
            go_wp2
            go_light
            exact ⟨⟨j + 1, by omega, by go_num, H1, HX.out.keep HB2.out, below_call HB.out HB.out.size HB2.out⟩, by simp [intOf]; omega⟩
        · have he2 : Hid (isServerF x = serverEnd x) := Lib.hid (by rw [he.out, changes_yes hlt2 HC.out]; rfl)
          clear he HC
          go_wp2_with fail
          refine (implIsStore _ x.store _ (HSt.out.below HB.out)).mono ?_
          rintro e w2 ⟨rfl, hb2⟩
          replace HX := Lib.hid (HX.out.keep hb2)
          replace HB := Lib.hid (HB.out.trans (hb2.mono HB.out.size))
          clear hb2 c_HX z_HX f_HX
          have ⟨c_HX, z_HX, f_HX⟩ := HX.out
          cases m1 : isStoreF x.store
          case' true => cases m2 : isNotes x.store.name
          case' true.true => cases m3 : decide (x.applied.length ≤ 60)
          all_goals
            first | (have n5 : (x.store.name.toList == [110, 111, 116, 101, 115]) = true := m2) | (have n5 : (x.store.name.toList == [110, 111, 116, 101, 115]) = false := m2) | skip
            first | (have m4 := of_decide_eq_true m3) | (have m4 := of_decide_eq_false m3) | skip
            go_wp2
            go_ret
            refine ⟨ret_bool ?_, HB.out⟩
            rw [he2.out, serverEnd]
            first
              | (rw [m1]; (try rfl); done)
              | (rw [m1, m2]; (try rfl); done)
              | (rw [m1, m2, m3, decide_eq_true (show ((x.applied.length : Nat) : Int) ≤ 60 by omega)]; (try rfl); done)
              | (rw [m1, m2, m3, decide_eq_false (show ¬ ((x.applied.length : Nat) : Int) ≤ 60 by omega)]; (try rfl); done)

set_option maxRecDepth 100000 in
set_option maxHeartbeats 6400000 in
theorem specIsServer (cs : List Value) (x : DServer) (w : World) (h : Reads DServer.rep w cs x) :
    Calls Tryz.prog 35 #[.agg cs.toArray] w fun e w' => e = .returned (.bool (isServerF x)) ∧ Below w.heap.size w w' := by
  obtain ⟨fp_q, h⟩ := h
  obtain ⟨q_v1, q_v2, q_v3, q_f1, q_f2, q_f3, rfl, _, q_s0, q_r1, q_r2, q_r3⟩ := DServer.rd.1 h
  obtain ⟨q_a1, q_c1, rfl, q_hm1, q_lc1, q_hu1⟩ := slice_open q_r1; clear q_hu1
  have q_K1 : Hid (Reads (Rep.slice 71 DItem.rep) w [.slice q_a1 x.store.items.length q_c1] x.store.items) := ⟨_, q_r1⟩
  obtain ⟨q_a2, q_c2, rfl, q_hm2, q_lc2, q_hu2⟩ := slice_open q_r2; clear q_hu2
  have q_K2 : Hid (Reads (Rep.slice 89 DApplied.rep) w [.slice q_a2 x.applied.length q_c2] x.applied) := ⟨_, q_r2⟩
  obtain ⟨q_a3, q_c3, rfl, q_hm3, q_lc3, q_hu3⟩ := slice_open q_r3; clear q_hu3
  have q_K3 : Hid (Reads (Rep.slice 34 DWrite.rep) w [.slice q_a3 x.changes.length q_c3] x.changes) := ⟨_, q_r3⟩
  clear q_r1 q_r2 q_r3 h
  have HSt : Hid (Reads DStore.rep w [.string x.store.name, .slice q_a1 x.store.items.length q_c1, .int .i64 x.store.auto] x.store) := by
    obtain ⟨f, r⟩ := q_K1.out
    exact ⟨f, DStore.rd.2 ⟨_, _, rfl, rfl, q_s0, r⟩⟩
  go_enter Tryz.func35, Tryz.ntmps35
  go_wp2
  go_loopw [3] (fun i wr => ∃ k : Nat, k ≤ x.applied.length ∧ i = .int .i64 k ∧ Hid (∀ i, i < k → appOk x.applied i = true) ∧ WB wr w.heap.size #[.string x.store.name, .slice q_a1 x.store.items.length q_c1, .int .i64 x.store.auto, .slice q_a2 x.applied.length q_c2, .slice q_a3 x.changes.length q_c3] ∧ Below w.heap.size w wr) (fun i _ => x.applied.length - (intOf i).toNat)
  case atStart => exact ⟨0, by omega, rfl, Lib.hid (by intro i hi; omega), WB.at rfl, bEl⟩
  case round =>
    obtain ⟨k, hk, rfl, HA, hx, hb⟩ := hrel
    have HB := Lib.hid hb; clear hb
    have HX := Lib.hid hx
    clear hx
    have ⟨c_HX, z_HX, f_HX⟩ := HX.out
    by_cases hlt : k < x.applied.length
    · have eo := Lib.hid (appOk_at hlt)
      have hlt' : k - 1 < x.applied.length := by omega
      obtain ⟨b, off, cs_b, rfl, hw_b, hr_b, hcell_b⟩ := slice_at (q_K2.out.below HB.out) k hlt
      obtain ⟨fe_b, hrd_b⟩ := hr_b
      have HR_b : Hid (Reads DApplied.rep wr cs_b x.applied[k]) := ⟨_, hrd_b⟩
      obtain ⟨rfl, _⟩ := DApplied.rd.1 hrd_b
      clear hrd_b
      have b_c0 : wr.cell? ⟨b, off + k * 2, none⟩ = some (.int .i64 x.applied[k].device) := hcell_b 0 (by decide)
      have b_c1 : wr.cell? ⟨b, off + k * 2 + 1, none⟩ = some (.int .i64 x.applied[k].seq) := hcell_b 1 (by decide)
      clear hcell_b
      obtain ⟨cs2, _, ⟨_, hrd2⟩, hcell2⟩ := slice_at' (q_K2.out.below HB.out) (k - 1) hlt'
      obtain ⟨rfl, _⟩ := DApplied.rd.1 hrd2
      have c_c0 : wr.cell? ⟨b, off + (k - 1) * 2, none⟩ = some (.int .i64 x.applied[k - 1].device) := hcell2 0 (by decide)
      clear hcell2 hrd2
      clear HR_b
      have j1 : (0 : Int) ≤ (k : Int) := by omega
      have j3 : (k : Int) < (x.applied.length : Int) := by omega
      cases n1 : within x.applied[k].device 1 1000000
      case' true => cases n2 : within x.applied[k].seq 0 1000000
      case' true.true => cases n3 : decide (0 < k)
      case' true.true.true => cases n4 : appBad x.applied k
      all_goals
        first | (have hk0 := of_decide_eq_true n3; have hw : IntKind.i64.wrap ((k : Int) - 1) = ((k - 1 : Nat) : Int) := by rw [Go.IntWalk.i64_in _ (by omega)]; omega) | (have hw : True := trivial)
        have j4 : (0 : Int) ≤ ((k - 1 : Nat) : Int) := by omega
        have j5 : ((k - 1 : Nat) : Int) < (x.applied.length : Int) := by omega
        first | (have n5 := (appBad_at hlt).symm.trans n4) | (have n5 : True := trivial)
        go_wp2_with fail
        have K0 := rg_var HX.out
        have C3 := rg_cell b_c0
        have C4 := rg_cell b_c1
        have C2 := rg_cell c_c0
        refine wp_region_rg (by kernel_rfl) (by kernel_rfl) ?_
        repeat (go_big_quiet_step ((go_at_call 78; exact calls_rgSame (specIn _ _ _ _))))
        refine wpQuiet_nil ?_
        rintro _ ⟨pq, rfl⟩
        clear K0 C3 C4 C2 hw n5
        have HB1 := Lib.hid (rg_below wr pq)
      all_goals
        first
          | (go_wp2
             go_ret
             refine ⟨ret_bool (server_no hlt ?_).symm, below_call HB.out HB.out.size HB1.out⟩
             rw [eo.out]
             first
               | (rw [n1]; rfl)
               | (rw [n1, n2]; rfl)
               | (rw [n1, n2, n3, n4]; rfl))
          | (have HK : Hid (appOk x.applied k = true) := Lib.hid (by
               rw [eo.out]
               first
                 | (rw [n1, n2, n3, n4]; rfl)
                 | (rw [n1, n2, n3]; rfl))
             go_wp2
             go_light
             exact ⟨⟨k + 1, by omega, by go_num, Lib.hid (all_snoc HA.out HK.out), HX.out.keep HB1.out, below_call HB.out HB.out.size HB1.out⟩, by simp [intOf]; omega⟩)
    · have he := Lib.hid (server_yes hlt HA.out)
      clear HA
      go_wp2
      have hzr := HB.out.size
      obtain ⟨wp, hwp⟩ : ∃ wp, wp = wr := ⟨_, rfl⟩
      go_loopw [4] (fun i ws => ∃ k : Nat, k ≤ x.changes.length ∧ i = .int .i64 k ∧ Hid (∀ i, (hi : i < x.changes.length) → i < k → isWriteF x.changes[i] = true) ∧ WB ws w.heap.size #[.string x.store.name, .slice q_a1 x.store.items.length q_c1, .int .i64 x.store.auto, .slice q_a2 x.applied.length q_c2, .slice q_a3 x.changes.length q_c3] ∧ Below w.heap.size w ws) (fun i _ => x.changes.length - (intOf i).toNat)
      case atStart => exact ⟨0, by omega, rfl, Lib.hid (by intro i hi hk; omega), HX.out, HB.out⟩
      case round =>
        clear c_HX z_HX f_HX
        clear HB HX hzr hwp
        rename World => wo
        obtain ⟨j, hj, rfl, HC, hx, hb⟩ := hrel
        have HB := Lib.hid hb; clear hb
        have HX := Lib.hid hx
        clear hx
        have ⟨c_HX, z_HX, f_HX⟩ := HX.out
        by_cases hlt2 : j < x.changes.length
        · obtain ⟨b, off, cs_b, rfl, hw_b, hr_b, hcell_b⟩ := slice_at (q_K3.out.below HB.out) j hlt2
          obtain ⟨fe_b, hrd_b⟩ := hr_b
          have HR_b : Hid (Reads DWrite.rep wo cs_b x.changes[j]) := ⟨_, hrd_b⟩
          obtain ⟨rfl, _, b_s0, b_s1⟩ := DWrite.rd.1 hrd_b
          clear hrd_b
          have b_c0 : wo.cell? ⟨b, off + j * 7, none⟩ = some (.int .i64 x.changes[j].device) := hcell_b 0 (by decide)
          have b_c1 : wo.cell? ⟨b, off + j * 7 + 1, none⟩ = some (.int .i64 x.changes[j].seq) := hcell_b 1 (by decide)
          have b_c2 : wo.cell? ⟨b, off + j * 7 + 2, none⟩ = some (.int .i64 x.changes[j].key.kind) := hcell_b 2 (by decide)
          have b_c3 : wo.cell? ⟨b, off + j * 7 + 3, none⟩ = some (.int .i64 x.changes[j].key.n) := hcell_b 3 (by decide)
          have b_c4 : wo.cell? ⟨b, off + j * 7 + 4, none⟩ = some (.string x.changes[j].key.text) := hcell_b 4 (by decide)
          have b_c5 : wo.cell? ⟨b, off + j * 7 + 5, none⟩ = some (.string x.changes[j].field) := hcell_b 5 (by decide)
          have b_c6 : wo.cell? ⟨b, off + j * 7 + 6, none⟩ = some (.int .i64 x.changes[j].n) := hcell_b 6 (by decide)
          clear hcell_b
          have i1 : (0 : Int) ≤ (j : Int) := by omega
          have i2 : (j : Int) < (x.changes.length : Int) := by omega
          go_wp2_with fail
          refine (specIsQueuedWrite _ x.changes[j] _ (HR_b.out.below bEl)).mono ?_
          rintro e w2 ⟨rfl, hb2⟩
          have HB2 := Lib.hid (Below.trans bEl (hb2.mono bSz) : Below wo.heap.size wo w2)
          clear hb2
          cases n : isWriteF x.changes[j]
          · have H1 : Hid (isServerF x = false) := Lib.hid (by rw [he.out, changes_no hlt2 n]; rfl)
            go_wp2
            go_ret
            exact ⟨ret_bool H1.out.symm, below_call HB.out HB.out.size HB2.out⟩
          · have H1 := Lib.hid (write_snoc hlt2 HC.out n)
            go_wp2
            go_light
            exact ⟨⟨j + 1, by omega, by go_num, H1, HX.out.keep HB2.out, below_call HB.out HB.out.size HB2.out⟩, by simp [intOf]; omega⟩
        · have he2 : Hid (isServerF x = serverEnd x) := Lib.hid (by rw [he.out, changes_yes hlt2 HC.out]; rfl)
          clear he HC
          go_wp2_with fail
          refine (specIsStore _ x.store _ (HSt.out.below HB.out)).mono ?_
          rintro e w2 ⟨rfl, hb2⟩
          replace HX := Lib.hid (HX.out.keep hb2)
          replace HB := Lib.hid (HB.out.trans (hb2.mono HB.out.size))
          clear hb2 c_HX z_HX f_HX
          have ⟨c_HX, z_HX, f_HX⟩ := HX.out
          cases m1 : isStoreF x.store
          case' true => cases m2 : isNotes x.store.name
          case' true.true => cases m3 : decide (x.applied.length ≤ 60)
          all_goals
            first | (have n5 : (x.store.name.toList == [110, 111, 116, 101, 115]) = true := m2) | (have n5 : (x.store.name.toList == [110, 111, 116, 101, 115]) = false := m2) | skip
            first | (have m4 := of_decide_eq_true m3) | (have m4 := of_decide_eq_false m3) | skip
            go_wp2
            go_ret
            refine ⟨ret_bool ?_, HB.out⟩
            rw [he2.out, serverEnd]
            first
              | (rw [m1]; (try rfl); done)
              | (rw [m1, m2]; (try rfl); done)
              | (rw [m1, m2, m3, decide_eq_true (show ((x.applied.length : Nat) : Int) ≤ 60 by omega)]; (try rfl); done)
              | (rw [m1, m2, m3, decide_eq_false (show ¬ ((x.applied.length : Nat) : Int) ≤ 60 by omega)]; (try rfl); done)

end Go.Proofs.YtlfebehpmefioaaGreat
