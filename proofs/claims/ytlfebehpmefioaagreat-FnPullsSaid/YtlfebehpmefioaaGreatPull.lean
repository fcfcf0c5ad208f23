/-
  PullChanges.
-/
import Derived.Test.YtlfebehpmefioaaGreatWriteLocal
import Derived.Test.YtlfebehpmefioaaGreatBoxFam
import Derived.Test.YtlfebehpmefioaaGreatSrvFam
namespace Go.Proofs.YtlfebehpmefioaaGreat
open Go.RowKit

theorem rep_seen {r : DReplica} (h : isReplicaF r = true) : 0 ≤ r.seen := by
  unfold isReplicaF within at h
  simp only [Bool.and_eq_true, decide_eq_true_eq] at h
  exact h.2.2.1.1
theorem Fresh.partL {α : Type} {R : Rep α} {B : Nat} {w : World} {cs : List Value} {x : α} (h : Fresh R B w cs x) : ∃ L, B = L ∧ Part R L w.heap.size w cs x := ⟨B, rfl, h.partAt (Nat.le_refl _)⟩
theorem outbox_reads2 {w : World} {v : Value} {x : DOutbox} (h : Reads (Rep.slice 34 DWrite.rep) w [v] x.writes) : Reads DOutbox.rep w [.int .i64 x.device, .int .i64 x.next, v] x := by
  obtain ⟨f, h⟩ := h
  exact ⟨f, DOutbox.rd.2 ⟨_, _, rfl, rfl, h⟩⟩
theorem sets012 {w : World} {k : Nat} {a b c d e f g h i a' b' c' : Value} (H : WB w k #[a, b, c, d, e, f, g, h, i]) : WB (((w.setCell ⟨k, 0, none⟩ a').setCell ⟨k, 1, none⟩ b').setCell ⟨k, 2, none⟩ c') k #[a', b', c', d, e, f, g, h, i] :=
  WB.sets [a', b', c'] 0 w _ H (by simp)
theorem sets456 {w : World} {k : Nat} {a b c d e f g h i a' b' c' : Value} (H : WB w k #[a, b, c, d, e, f, g, h, i]) : WB (((w.setCell ⟨k, 4, none⟩ a').setCell ⟨k, 5, none⟩ b').setCell ⟨k, 6, none⟩ c') k #[a, b, c, d, a', b', c', h, i] :=
  WB.sets [a', b', c'] 4 w _ H (by simp)
theorem offs3 {w : World} {k g : Nat} {cs : Array Value} {a b c : Value} (h : WB w k cs) (hk : k ≠ g) : WB (((w.setCell ⟨g, 4, none⟩ a).setCell ⟨g, 5, none⟩ b).setCell ⟨g, 6, none⟩ c) k cs := ((h.setOther hk).setOther hk).setOther hk
theorem offs3' {w : World} {k g : Nat} {cs : Array Value} {a b c : Value} (h : WB w k cs) (hk : k ≠ g) : WB (((w.setCell ⟨g, 0, none⟩ a).setCell ⟨g, 1, none⟩ b).setCell ⟨g, 2, none⟩ c) k cs := ((h.setOther hk).setOther hk).setOther hk
theorem part3 {α : Type} {R : Rep α} {lo hi : Nat} {w : World} {cs : List Value} {x : α} {g : Nat} {a b c : Value} (h : Part R lo hi w cs x) (hg : g < lo ∨ hi ≤ g) : Part R lo hi (((w.setCell ⟨g, 4, none⟩ a).setCell ⟨g, 5, none⟩ b).setCell ⟨g, 6, none⟩ c) cs x := ((h.offCell hg).offCell hg).offCell hg
theorem part3' {α : Type} {R : Rep α} {lo hi : Nat} {w : World} {cs : List Value} {x : α} {g : Nat} {a b c : Value} (h : Part R lo hi w cs x) (hg : g < lo ∨ hi ≤ g) : Part R lo hi (((w.setCell ⟨g, 0, none⟩ a).setCell ⟨g, 1, none⟩ b).setCell ⟨g, 2, none⟩ c) cs x := ((h.offCell hg).offCell hg).offCell hg
theorem pulled_fresh {B l0 u0 l2 u2 : Nat} {w : World} {v1 v2 : Value} {r : DReplica} {s : DServer} (p0 : Part DStore.rep l0 u0 w [.string r.base.name, v1, .int .i64 (appliedF r.base (s.changes.drop r.seen.toNat)).auto] (appliedF r.base (s.changes.drop r.seen.toNat))) (p2 : Part (Rep.slice 34 DWrite.rep) l2 u2 w [v2] (ackWritesF r.sync.outbox (lastSeqF s r.sync.outbox.device)).writes) (b0 : B ≤ l0) (b2 : u0 ≤ l2) (e0 : l0 ≤ u0) :
    Fresh DReplica.rep B w [.string r.base.name, v1, .int .i64 (appliedF r.base (s.changes.drop r.seen.toNat)).auto, .int .i64 (s.changes.length : Int), .int .i64 (ackWritesF r.sync.outbox (lastSeqF s r.sync.outbox.device)).device, .int .i64 (ackWritesF r.sync.outbox (lastSeqF s r.sync.outbox.device)).next, v2, .int .i64 r.sync.tries, .int .i64 r.sync.waitUntil] (pulled r s) := by
  have en : (pulled r s).base.name = r.base.name := applied_name _ _
  have z := DReplica.fresh (x := pulled r s) (v1 := v1) (v2 := v2) (B := B) (l0 := l0) (u0 := u0) (l2 := l2) (u2 := u2) (w := w) (by rw [en]; exact p0) (sync_part2 (x := (⟨(ackWritesF r.sync.outbox (lastSeqF s r.sync.outbox.device)), r.sync.tries, r.sync.waitUntil⟩ : DSync)) p2) b0 b2 e0
  rw [en] at z
  exact z
attribute [local irreducible] isReplicaF isServerF appliedF ackWritesF lastSeqF pullOff pullChangesF pullChangesN

set_option maxRecDepth 100000 in
set_option maxHeartbeats 16000000 in
theorem implPullChanges (cs cv : List Value) (r : DReplica) (s : DServer) (w : World) (h : Reads DReplica.rep w cs r) (h' : Reads DServer.rep w cv s) (hs : SmallStore r.base) (hs2 : r.sync.outbox.writes.length ≤ 1048576) :
    Calls Tryz.prog 28 #[.agg cs.toArray, .agg cv.toArray] w fun e w' => ∃ ds, e = .returned (.tuple #[.agg ds.toArray, .int .i64 (pullChangesN r s)]) ∧ Fresh DReplica.rep w.heap.size w' ds (pullChangesF r s) ∧ Below w.heap.size w w' := by
  have HH := Lib.hid h
  have HSr := Lib.hid h'
  obtain ⟨fp_q, h⟩ := h
  obtain ⟨q_v1, q_v2, q_f1, q_f2, rfl, _, q_s0, q_r1, q_r2⟩ := DReplica.rd.1 h
  obtain ⟨q_a1, q_c1, rfl, q_hm1, q_lc1, q_hu1⟩ := slice_open q_r1; clear q_hu1
  have q_K1 : Hid (Reads (Rep.slice 71 DItem.rep) w [.slice q_a1 r.base.items.length q_c1] r.base.items) := ⟨_, q_r1⟩
  obtain ⟨q_a2, q_c2, rfl, q_hm2, q_lc2, q_hu2⟩ := slice_open q_r2; clear q_hu2
  have q_K2 : Hid (Reads (Rep.slice 34 DWrite.rep) w [.slice q_a2 r.sync.outbox.writes.length q_c2] r.sync.outbox.writes) := ⟨_, q_r2⟩
  clear q_r1 q_r2 h
  obtain ⟨fp_p, h'⟩ := h'
  obtain ⟨p_v1, p_v2, p_v3, p_f1, p_f2, p_f3, rfl, _, p_s0, p_r1, p_r2, p_r3⟩ := DServer.rd.1 h'
  obtain ⟨p_a1, p_c1, rfl, p_hm1, p_lc1, p_hu1⟩ := slice_open p_r1; clear p_hu1
  have p_K1 : Hid (Reads (Rep.slice 71 DItem.rep) w [.slice p_a1 s.store.items.length p_c1] s.store.items) := ⟨_, p_r1⟩
  obtain ⟨p_a2, p_c2, rfl, p_hm2, p_lc2, p_hu2⟩ := slice_open p_r2; clear p_hu2
  have p_K2 : Hid (Reads (Rep.slice 89 DApplied.rep) w [.slice p_a2 s.applied.length p_c2] s.applied) := ⟨_, p_r2⟩
  obtain ⟨p_a3, p_c3, rfl, p_hm3, p_lc3, p_hu3⟩ := slice_open p_r3; clear p_hu3
  have p_K3 : Hid (Reads (Rep.slice 34 DWrite.rep) w [.slice p_a3 s.changes.length p_c3] s.changes) := ⟨_, p_r3⟩
  clear p_r1 p_r2 p_r3 h'
  have HBa : Hid (Reads DStore.rep w [.string r.base.name, .slice q_a1 r.base.items.length q_c1, .int .i64 r.base.auto] r.base) := by
    obtain ⟨f, z⟩ := q_K1.out
    exact ⟨f, DStore.rd.2 ⟨_, _, rfl, rfl, q_s0, z⟩⟩
  have HOb : Hid (Reads DOutbox.rep w [.int .i64 r.sync.outbox.device, .int .i64 r.sync.outbox.next, .slice q_a2 r.sync.outbox.writes.length q_c2] r.sync.outbox) := by
    obtain ⟨f, z⟩ := q_K2.out
    exact ⟨f, DOutbox.rd.2 ⟨_, _, rfl, rfl, z⟩⟩
  go_enter Tryz.func28, Tryz.ntmps28
  go_wp2_with fail
  refine (implCopyReplica _ r _ (HH.out.below bEl) hs (by omega)).mono ?_
  rintro e w1 ⟨ds, rfl, hf, hb⟩
  obtain ⟨a1, c1, a2, c2, rfl, hp0, hp2⟩ := rep_parts (hf.partAt (lo := w.heap.size + 3) (by simp))
  have HX : Hid (WB w1 w.heap.size #[.string r.base.name, .slice q_a1 r.base.items.length q_c1, .int .i64 r.base.auto, .int .i64 r.seen, .int .i64 r.sync.outbox.device, .int .i64 r.sync.outbox.next, .slice q_a2 r.sync.outbox.writes.length q_c2, .int .i64 r.sync.tries, .int .i64 r.sync.waitUntil]) := Lib.hid ((((WB.at rfl).growA).growA).keep hb)
  have HV : Hid (WB w1 (w.heap.size + 1) #[.string s.store.name, .slice p_a1 s.store.items.length p_c1, .int .i64 s.store.auto, .slice p_a2 s.applied.length p_c2, .slice p_a3 s.changes.length p_c3]) := Lib.hid (((WB.at (by simp)).growA).keep hb)
  have HT : Hid (WB w1 (w.heap.size + 2) #[.string ⟨#[]⟩, .slice none 0 0, .int .i64 0, .int .i64 0, .int .i64 0, .int .i64 0, .slice none 0 0, .int .i64 0, .int .i64 0]) := Lib.hid ((WB.at (by simp)).keep hb)
  have HB : Hid (Below w.heap.size w w1) := Lib.hid (below_call bEl bSz hb)
  have hz : w.heap.size + 3 ≤ w1.heap.size := by have y := hb.size; simp at y; omega
  have HG0 : Hid (Fresh DReplica.rep (w.heap.size + 3) w1 [.string r.base.name, .slice a1 r.base.items.length c1, .int .i64 r.base.auto, .int .i64 r.seen, .int .i64 r.sync.outbox.device, .int .i64 r.sync.outbox.next, .slice a2 r.sync.outbox.writes.length c2, .int .i64 r.sync.tries, .int .i64 r.sync.waitUntil] r) := Lib.hid (hf.mono (by simp))
  have HP := Lib.hid hp2
  clear hb hf hp0 hp2
  have ⟨c_HX, z_HX, f_HX⟩ := HX.out
  have ⟨c_HV, z_HV, f_HV⟩ := HV.out
  go_wp2_with fail
  refine (implIsReplica _ r _ (HH.out.below (HB.out.trans (Below.mono (B := w1.heap.size) bEb (by omega))))).mono ?_
  rintro e w2 ⟨rfl, hb⟩
  have hq : Below w1.heap.size w1 w2 := below_call bEl bSz hb
  have HO : Hid (WB w2 w1.heap.size #[.string r.base.name, .slice a1 r.base.items.length c1, .int .i64 r.base.auto, .int .i64 r.seen, .int .i64 r.sync.outbox.device, .int .i64 r.sync.outbox.next, .slice a2 r.sync.outbox.writes.length c2, .int .i64 r.sync.tries, .int .i64 r.sync.waitUntil]) := Lib.hid ((WB.at rfl).keep hb)
  have hsz2 : w1.heap.size + 1 ≤ w2.heap.size := by have y := hb.size; simp at y; omega
  clear c_HX z_HX f_HX c_HV z_HV f_HV
  replace HX := Lib.hid (HX.out.keep hq)
  replace HV := Lib.hid (HV.out.keep hq)
  replace HT := Lib.hid (HT.out.keep hq)
  replace HG0 := Lib.hid (HG0.out.below hq)
  replace HB := Lib.hid (HB.out.trans (hq.mono HB.out.size))
  replace HP := Lib.hid (Part.below HP.out hq)
  clear hb hq
  have ⟨c_HX, z_HX, f_HX⟩ := HX.out
  have ⟨c_HV, z_HV, f_HV⟩ := HV.out
  have ⟨c_HT, z_HT, f_HT⟩ := HT.out
  have ⟨c_HO, z_HO, f_HO⟩ := HO.out
  cases b0 : isReplicaF r
  · have ho : pullOff r s = true := by unfold pullOff; rw [b0]; rfl
    have hN : Hid (pullChangesN r s = 0) := Lib.hid (by unfold pullChangesN; rw [ho]; rfl)
    have hF : Hid (pullChangesF r s = r) := Lib.hid (by unfold pullChangesF; rw [ho]; rfl)
    go_wp2
    refine bodyPost_ret (v := .tuple #[.agg #[.string r.base.name, .slice a1 r.base.items.length c1, .int .i64 r.base.auto, .int .i64 r.seen, .int .i64 r.sync.outbox.device, .int .i64 r.sync.outbox.next, .slice a2 r.sync.outbox.writes.length c2, .int .i64 r.sync.tries, .int .i64 r.sync.waitUntil], .int .i64 0]) (by simp [results, Tryz.results28, go_sem, c_HT]) rfl ⟨_, by rw [hN.out], ?_, ?_⟩
    · rw [hF.out]
      exact (Fresh.mono (B := (w.heap.size + 3)) (by repeat (first | with_reducible exact HG0.out | with_reducible refine Fresh.setLow ?_ (by omega) | with_reducible refine Fresh.drew ?_)) (by omega))
    · have y := HB.out
      exact bEb
  · have a0 := Lib.hid b0
    clear b0
    go_wp2_with fail
    refine (implIsServer _ s _ (HSr.out.below HB.out)).mono ?_
    rintro e wr ⟨rfl, hb⟩
    clear c_HX z_HX f_HX c_HV z_HV f_HV c_HT z_HT f_HT c_HO z_HO f_HO
    have hzr := hb.size
    replace HX := Lib.hid (HX.out.keep hb)
    replace HV := Lib.hid (HV.out.keep hb)
    replace HT := Lib.hid (HT.out.keep hb)
    replace HO := Lib.hid (HO.out.keep hb)
    replace HG0 := Lib.hid (HG0.out.below hb)
    replace HB := Lib.hid (HB.out.trans (hb.mono HB.out.size))
    replace HP := Lib.hid (Part.below HP.out hb)
    clear hb
    have ⟨c_HX, z_HX, f_HX⟩ := HX.out
    have ⟨c_HV, z_HV, f_HV⟩ := HV.out
    have ⟨c_HT, z_HT, f_HT⟩ := HT.out
    have ⟨c_HO, z_HO, f_HO⟩ := HO.out
    have hseen := rep_seen a0.out
    have hcase : (Hid (pullOff r s = true) ∧ (isServerF s = false ∨ (isServerF s = true ∧ (s.changes.length : Int) < r.seen))) ∨ (Hid (pullOff r s = false) ∧ isServerF s = true ∧ ¬ (s.changes.length : Int) < r.seen) := by
      cases b1 : isServerF s
      · exact .inl ⟨Lib.hid (by unfold pullOff; rw [a0.out, b1]; rfl), .inl rfl⟩
      · by_cases b2 : (s.changes.length : Int) < r.seen
        · exact .inl ⟨Lib.hid (by unfold pullOff; rw [a0.out, b1, decide_eq_true b2]; rfl), .inr ⟨rfl, b2⟩⟩
        · exact .inr ⟨Lib.hid (by unfold pullOff; rw [a0.out, b1, decide_eq_false b2]; rfl), rfl, b2⟩
    rcases hcase with ⟨ho, hh⟩ | ⟨ho, b1, b2⟩
    · have hN : Hid (pullChangesN r s = 0) := Lib.hid (by unfold pullChangesN; rw [ho.out]; rfl)
      have hF : Hid (pullChangesF r s = r) := Lib.hid (by unfold pullChangesF; rw [ho.out]; rfl)
      rcases hh with b1 | ⟨b1, b2⟩
      all_goals
        rw [b1]
        go_wp2
        refine bodyPost_ret (v := .tuple #[.agg #[.string r.base.name, .slice a1 r.base.items.length c1, .int .i64 r.base.auto, .int .i64 r.seen, .int .i64 r.sync.outbox.device, .int .i64 r.sync.outbox.next, .slice a2 r.sync.outbox.writes.length c2, .int .i64 r.sync.tries, .int .i64 r.sync.waitUntil], .int .i64 0]) (by simp [results, Tryz.results28, go_sem, c_HT]) rfl ⟨_, by rw [hN.out], ?_, ?_⟩
        · rw [hF.out]
          exact (Fresh.mono (B := (w.heap.size + 3)) (by repeat (first | with_reducible exact HG0.out | with_reducible refine Fresh.setLow ?_ (by omega) | with_reducible refine Fresh.drew ?_)) (by omega))
        · have y := HB.out
          exact bEb
    · have hN : Hid (pullChangesN r s = (s.changes.length : Int) - r.seen) := Lib.hid (by unfold pullChangesN; rw [ho.out]; rfl)
      have hF : Hid (pullChangesF r s = pulled r s) := Lib.hid (by unfold pullChangesF; rw [ho.out]; rfl)
      have hms : ((r.seen.toNat : Nat) : Int) = r.seen := Int.toNat_of_nonneg hseen
      have hml : r.seen.toNat ≤ s.changes.length := by omega
      obtain ⟨ta, tc, htv⟩ := tailV_eq p_a3 r.seen.toNat s.changes.length p_c3 7
      have hsl : ∀ W, (Instr.slice 28 (.slice p_a3 s.changes.length p_c3) (some (.int .i64 r.seen)) none none).run Tryz.prog W = .ok (.slice ta (s.changes.length - r.seen.toNat) tc) W := fun W => by
        have z := run_tail (P := Tryz.prog) (t := 28) (n := 7) (by kernel_rfl) (fun _ => by kernel_rfl) p_a3 r.seen.toNat s.changes.length p_c3 hml W
        rw [hms, htv] at z
        exact z
      have HTl : Hid (Reads (Rep.slice 34 DWrite.rep) w [.slice ta (s.changes.length - r.seen.toNat) tc] (s.changes.drop r.seen.toNat)) := Lib.hid (by
        have z : Reads (Rep.slice 34 DWrite.rep) w [tailV p_a3 r.seen.toNat s.changes.length p_c3 7] (s.changes.drop r.seen.toNat) := Reads.tail p_K3.out r.seen.toNat hml
        rw [htv] at z
        exact z)
      clear htv
      rw [b1]
      clear b1 HG0 ho
      go_upto_region 4 with fail
      have HSx : Hid (∀ w', Chg [w1.heap.size] wr w' → (∀ o, w'.cell? ⟨w.heap.size, o, none⟩ = #[.string r.base.name, .slice q_a1 r.base.items.length q_c1, .int .i64 r.base.auto, .int .i64 r.seen, .int .i64 r.sync.outbox.device, .int .i64 r.sync.outbox.next, .slice q_a2 r.sync.outbox.writes.length q_c2, .int .i64 r.sync.tries, .int .i64 r.sync.waitUntil][o]?) ∧ (∀ o, w'.cell? ⟨w.heap.size + 1, o, none⟩ = #[.string s.store.name, .slice p_a1 s.store.items.length p_c1, .int .i64 s.store.auto, .slice p_a2 s.applied.length p_c2, .slice p_a3 s.changes.length p_c3][o]?) ∧ Chg [w1.heap.size] wr w') := Lib.hid fun w' hw' => ⟨(HX.out.chg hw' (by simp; omega)).cell, (HV.out.chg hw' (by simp; omega)).cell, hw'⟩
      go_cut [33] (fun _ W => ∃ (a4 : Option Addr) (c4 hi : Nat), WB W w.heap.size #[.string r.base.name, .slice q_a1 r.base.items.length q_c1, .int .i64 r.base.auto, .int .i64 r.seen, .int .i64 r.sync.outbox.device, .int .i64 r.sync.outbox.next, .slice q_a2 r.sync.outbox.writes.length q_c2, .int .i64 r.sync.tries, .int .i64 r.sync.waitUntil] ∧ WB W (w.heap.size + 1) #[.string s.store.name, .slice p_a1 s.store.items.length p_c1, .int .i64 s.store.auto, .slice p_a2 s.applied.length p_c2, .slice p_a3 s.changes.length p_c3] ∧ WB W (w.heap.size + 2) #[.string ⟨#[]⟩, .slice none 0 0, .int .i64 0, .int .i64 0, .int .i64 0, .int .i64 0, .slice none 0 0, .int .i64 0, .int .i64 0] ∧ WB W w1.heap.size #[.string r.base.name, .slice a4 (appliedF r.base (s.changes.drop r.seen.toNat)).items.length c4, .int .i64 (appliedF r.base (s.changes.drop r.seen.toNat)).auto, .int .i64 r.seen, .int .i64 r.sync.outbox.device, .int .i64 r.sync.outbox.next, .slice a2 r.sync.outbox.writes.length c2, .int .i64 r.sync.tries, .int .i64 r.sync.waitUntil] ∧ Part DStore.rep wr.heap.size hi W [.string r.base.name, .slice a4 (appliedF r.base (s.changes.drop r.seen.toNat)).items.length c4, .int .i64 (appliedF r.base (s.changes.drop r.seen.toNat)).auto] (appliedF r.base (s.changes.drop r.seen.toNat)) ∧ Part (Rep.slice 34 DWrite.rep) (w.heap.size + 3) w1.heap.size W [.slice a2 r.sync.outbox.writes.length c2] r.sync.outbox.writes ∧ Below w.heap.size w W ∧ hi ≤ W.heap.size ∧ wr.heap.size ≤ hi)
      case first =>
        have ⟨c_HO, z_HO, f_HO⟩ := HO.out
        go_region_law (first
            | (go_simp; go_at_call 70; refine (implApplied _ r.base _ (s.changes.drop r.seen.toNat) _ (HBa.out.below (HB.out.trans (Below.mono (B := wr.heap.size) bEb (by omega)))) (HTl.out.below (HB.out.trans (Below.mono (B := wr.heap.size) bEb (by omega)))) hs).mono ?_; rintro e w4 ⟨ds4, rfl, hf4, hb4⟩; obtain ⟨a4, c4, rfl, hfw4⟩ := applied_fopen hf4; have hq4 : Below wr.heap.size wr w4 := (Below.trans bEb (hb4.mono bSz)); have hz4 := hq4.size; have ho4 := HO.out.keep hq4; have ⟨co4, zo4, fo4⟩ := ho4; have hp4 := hf4.partAt (lo := wr.heap.size) (by first | exact Nat.le_refl _ | (simp; done)); clear hb4 hfw4))
        all_goals
          go_wp2_with fail
          go_meet
          exact ⟨a4, c4, w4.heap.size, offs3' (HX.out.keep hq4) (by omega), offs3' (HV.out.keep hq4) (by omega), offs3' (HT.out.keep hq4) (by omega), sets012 ho4, part3' hp4 (by omega), part3' (Part.below HP.out hq4) (by omega), by have z := HB.out.trans (hq4.mono HB.out.size); exact bEb, by simp, hz4⟩
      case rest =>
        clear c_HX z_HX f_HX c_HV z_HV f_HV c_HT z_HT f_HT c_HO z_HO f_HO
        clear HX HV HT HO HB HP HSx
        obtain ⟨a4, c4, hi, hx, hv, ht, ho, hd, hp, hb, hhi, hhw⟩ := hcut
        obtain ⟨wx, hwx⟩ : ∃ wx : World, wx = wc := ⟨_, rfl⟩
        subst hwx
        have HX := Lib.hid hx
        have HV := Lib.hid hv
        have HT := Lib.hid ht
        have HO := Lib.hid ho
        have HD := Lib.hid hd
        have HP := Lib.hid hp
        have HB := Lib.hid hb
        clear hx hv ht ho hd hp hb
        have ⟨c_HV, z_HV, f_HV⟩ := HV.out
        have ⟨c_HO, z_HO, f_HO⟩ := HO.out
        go_upto_region 6 with fail
        refine settle (fun W => WB W w.heap.size #[.string r.base.name, .slice q_a1 r.base.items.length q_c1, .int .i64 r.base.auto, .int .i64 r.seen, .int .i64 r.sync.outbox.device, .int .i64 r.sync.outbox.next, .slice q_a2 r.sync.outbox.writes.length q_c2, .int .i64 r.sync.tries, .int .i64 r.sync.waitUntil] ∧ WB W (w.heap.size + 1) #[.string s.store.name, .slice p_a1 s.store.items.length p_c1, .int .i64 s.store.auto, .slice p_a2 s.applied.length p_c2, .slice p_a3 s.changes.length p_c3] ∧ WB W (w.heap.size + 2) #[.string ⟨#[]⟩, .slice none 0 0, .int .i64 0, .int .i64 0, .int .i64 0, .int .i64 0, .slice none 0 0, .int .i64 0, .int .i64 0] ∧ WB W w1.heap.size #[.string r.base.name, .slice a4 (appliedF r.base (s.changes.drop r.seen.toNat)).items.length c4, .int .i64 (appliedF r.base (s.changes.drop r.seen.toNat)).auto, .int .i64 (s.changes.length : Int), .int .i64 r.sync.outbox.device, .int .i64 r.sync.outbox.next, .slice a2 r.sync.outbox.writes.length c2, .int .i64 r.sync.tries, .int .i64 r.sync.waitUntil] ∧ Part DStore.rep wr.heap.size hi W [.string r.base.name, .slice a4 (appliedF r.base (s.changes.drop r.seen.toNat)).items.length c4, .int .i64 (appliedF r.base (s.changes.drop r.seen.toNat)).auto] (appliedF r.base (s.changes.drop r.seen.toNat)) ∧ Part (Rep.slice 34 DWrite.rep) (w.heap.size + 3) w1.heap.size W [.slice a2 r.sync.outbox.writes.length c2] r.sync.outbox.writes ∧ Below w.heap.size w W ∧ hi ≤ W.heap.size) ⟨HX.out.setOther (by omega), HV.out.setOther (by omega), HT.out.setOther (by omega), HO.out.setAt (by simp) rfl, Part.offCell HD.out (by omega), Part.offCell HP.out (by omega), by have z := HB.out; exact bEb, by simp; omega⟩ ?_
        clear c_HV z_HV f_HV c_HO z_HO f_HO
        clear HX HV HT HO HB HP HD
        rintro wy ⟨hx, hv, ht, ho, hd, hp, hb, hhy⟩
        have HX := Lib.hid hx
        have HV := Lib.hid hv
        have HT := Lib.hid ht
        have HO := Lib.hid ho
        have HD := Lib.hid hd
        have HP := Lib.hid hp
        have HB := Lib.hid hb
        clear hx hv ht ho hd hp hb
        have HSx : Hid (∀ w', Chg [w1.heap.size] wy w' → (∀ o, w'.cell? ⟨w.heap.size, o, none⟩ = #[.string r.base.name, .slice q_a1 r.base.items.length q_c1, .int .i64 r.base.auto, .int .i64 r.seen, .int .i64 r.sync.outbox.device, .int .i64 r.sync.outbox.next, .slice q_a2 r.sync.outbox.writes.length q_c2, .int .i64 r.sync.tries, .int .i64 r.sync.waitUntil][o]?) ∧ (∀ o, w'.cell? ⟨w.heap.size + 1, o, none⟩ = #[.string s.store.name, .slice p_a1 s.store.items.length p_c1, .int .i64 s.store.auto, .slice p_a2 s.applied.length p_c2, .slice p_a3 s.changes.length p_c3][o]?) ∧ Chg [w1.heap.size] wy w') := Lib.hid fun w' hw' => ⟨(HX.out.chg hw' (by simp; omega)).cell, (HV.out.chg hw' (by simp; omega)).cell, hw'⟩
        have ⟨c_HX, z_HX, f_HX⟩ := HX.out
        have ⟨c_HV, z_HV, f_HV⟩ := HV.out
        have ⟨c_HO, z_HO, f_HO⟩ := HO.out
        go_cut [51] (fun _ W => ∃ (a6 : Option Addr) (c6 lo2 hi2 : Nat), WB W w.heap.size #[.string r.base.name, .slice q_a1 r.base.items.length q_c1, .int .i64 r.base.auto, .int .i64 r.seen, .int .i64 r.sync.outbox.device, .int .i64 r.sync.outbox.next, .slice q_a2 r.sync.outbox.writes.length q_c2, .int .i64 r.sync.tries, .int .i64 r.sync.waitUntil] ∧ WB W (w.heap.size + 1) #[.string s.store.name, .slice p_a1 s.store.items.length p_c1, .int .i64 s.store.auto, .slice p_a2 s.applied.length p_c2, .slice p_a3 s.changes.length p_c3] ∧ WB W (w.heap.size + 2) #[.string ⟨#[]⟩, .slice none 0 0, .int .i64 0, .int .i64 0, .int .i64 0, .int .i64 0, .slice none 0 0, .int .i64 0, .int .i64 0] ∧ WB W w1.heap.size #[.string r.base.name, .slice a4 (appliedF r.base (s.changes.drop r.seen.toNat)).items.length c4, .int .i64 (appliedF r.base (s.changes.drop r.seen.toNat)).auto, .int .i64 (s.changes.length : Int), .int .i64 (ackWritesF r.sync.outbox (lastSeqF s r.sync.outbox.device)).device, .int .i64 (ackWritesF r.sync.outbox (lastSeqF s r.sync.outbox.device)).next, .slice a6 (ackWritesF r.sync.outbox (lastSeqF s r.sync.outbox.device)).writes.length c6, .int .i64 r.sync.tries, .int .i64 r.sync.waitUntil] ∧ Part DStore.rep wr.heap.size hi W [.string r.base.name, .slice a4 (appliedF r.base (s.changes.drop r.seen.toNat)).items.length c4, .int .i64 (appliedF r.base (s.changes.drop r.seen.toNat)).auto] (appliedF r.base (s.changes.drop r.seen.toNat)) ∧ Part (Rep.slice 34 DWrite.rep) lo2 hi2 W [.slice a6 (ackWritesF r.sync.outbox (lastSeqF s r.sync.outbox.device)).writes.length c6] (ackWritesF r.sync.outbox (lastSeqF s r.sync.outbox.device)).writes ∧ Below w.heap.size w W ∧ hi ≤ lo2 ∧ lo2 ≤ hi2)
        case first =>
          go_region_law (first
              | (go_simp; go_at_call 14; refine (implLastSeq _ s r.sync.outbox.device _ (HSr.out.below (HB.out.trans (Below.mono (B := wy.heap.size) bEb (by omega))))).mono ?_; rintro e w5 ⟨rfl, hb5⟩; have hq5 : Below wy.heap.size wy w5 := (Below.trans bEb (hb5.mono bSz)); have hz5 := hq5.size; have ho5 := HO.out.keep hq5; have ⟨co5, zo5, fo5⟩ := ho5; have hx5 := HX.out.keep hq5; have ⟨cx5, zx5, fx5⟩ := hx5; have hv5 := HV.out.keep hq5; have ⟨cv5, zv5, fv5⟩ := hv5; clear hb5)
              | (go_simp; go_at_call 71; refine (implAckWrites _ r.sync.outbox (lastSeqF s r.sync.outbox.device) _ (outbox_reads2 (x := r.sync.outbox) (HP.out.reads.below bEb)) (by omega)).mono ?_; rintro e w6 ⟨ds6, rfl, hf6, hb6⟩; obtain ⟨a6, c6, rfl, hfw6⟩ := DOutbox.fopen hf6; have hq6 : Below wy.heap.size wy w6 := (Below.trans bEb (hb6.mono bSz)); have hz6 := hq6.size; have ho6 := HO.out.keep hq6; have ⟨co6, zo6, fo6⟩ := ho6; have hp6 := hfw6.partAt (lo := wy.heap.size) (by first | exact hz5 | (simp; omega) | omega); clear hb6 hf6))
          all_goals
            go_wp2_with fail
            go_meet
            exact ⟨a6, c6, wy.heap.size, w6.heap.size, offs3 (HX.out.keep hq6) (by omega), offs3 (HV.out.keep hq6) (by omega), offs3 (HT.out.keep hq6) (by omega), sets456 ho6, part3 (Part.below HD.out hq6) (by omega), part3 hp6 (by omega), by have z := HB.out.trans (hq6.mono HB.out.size); exact bEb, by omega, by omega⟩
        case rest =>
          clear c_HX z_HX f_HX c_HV z_HV f_HV c_HO z_HO f_HO
          clear HSx
          clear HX HV HT HO HD HP HB
          obtain ⟨a6, c6, lo2, hi2, hx, hv, ht, ho, hd, hp, hb, hl2', hlh'⟩ := hcut
          obtain ⟨wz, hwz⟩ : ∃ wz : World, wz = wc := ⟨_, rfl⟩
          subst hwz
          have HX := Lib.hid hx
          have HV := Lib.hid hv
          have HT := Lib.hid ht
          have HO := Lib.hid ho
          have HD := Lib.hid hd
          have HP := Lib.hid hp
          have HB := Lib.hid hb
          clear hx hv ht ho hd hp hb
          have ⟨c_HX, z_HX, f_HX⟩ := HX.out
          have ⟨c_HV, z_HV, f_HV⟩ := HV.out
          have ⟨c_HT, z_HT, f_HT⟩ := HT.out
          have ⟨c_HO, z_HO, f_HO⟩ := HO.out
          have hw : IntKind.i64.wrap ((s.changes.length : Int) - r.seen) = (s.changes.length : Int) - r.seen := Go.IntWalk.i64_in _ (by omega)
          go_upto_region 7 with fail
          go_region
          all_goals
            go_wp2
            refine bodyPost_ret (v := .tuple #[.agg #[.string r.base.name, .slice a4 (appliedF r.base (s.changes.drop r.seen.toNat)).items.length c4, .int .i64 (appliedF r.base (s.changes.drop r.seen.toNat)).auto, .int .i64 (s.changes.length : Int), .int .i64 (ackWritesF r.sync.outbox (lastSeqF s r.sync.outbox.device)).device, .int .i64 (ackWritesF r.sync.outbox (lastSeqF s r.sync.outbox.device)).next, .slice a6 (ackWritesF r.sync.outbox (lastSeqF s r.sync.outbox.device)).writes.length c6, .int .i64 r.sync.tries, .int .i64 r.sync.waitUntil], .int .i64 ((s.changes.length : Int) - r.seen)]) (by simp [results, Tryz.results28, go_sem, c_HT]) rfl ⟨_, by rw [hN.out], ?_, ?_⟩
            · rw [hF.out]
              refine pulled_fresh (B := w.heap.size) (l0 := wr.heap.size) (u0 := hi) (l2 := lo2) (u2 := hi2) ?_ ?_ (by omega) (by omega) (by omega)
              · (repeat (first | with_reducible refine Part.offCell ?_ (by omega) | with_reducible refine partD ?_))
                exact HD.out
              · (repeat (first | with_reducible refine Part.offCell ?_ (by omega) | with_reducible refine partD ?_))
                exact HP.out
            · have y := HB.out
              exact bEb

end Go.Proofs.YtlfebehpmefioaaGreat
