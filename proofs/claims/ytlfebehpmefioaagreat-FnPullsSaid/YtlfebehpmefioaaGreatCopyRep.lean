/-
  copyReplica.
-/
import Derived.Test.YtlfebehpmefioaaGreatSrvFam
namespace Go.Proofs.YtlfebehpmefioaaGreat
open Go.RowKit

set_option maxRecDepth 100000 in
set_option maxHeartbeats 8000000 in
theorem implCopyReplica (cs : List Value) (x : DReplica) (w : World) (h : Reads DReplica.rep w cs x) (hs : SmallStore x.base) (hs2 : x.sync.outbox.writes.length ≤ 1048600) :
    Calls Tryz.prog 68 #[.agg cs.toArray] w fun e w' => ∃ ds, e = .returned (.agg ds.toArray) ∧ Fresh DReplica.rep w.heap.size w' ds x ∧ Below w.heap.size w w' := by
  obtain ⟨fp_q, h⟩ := h
  obtain ⟨q_v1, q_v2, q_f1, q_f2, rfl, _, q_s0, q_r1, q_r2⟩ := DReplica.rd.1 h
  obtain ⟨q_a1, q_c1, rfl, q_hm1, q_lc1, q_hu1⟩ := slice_open q_r1; clear q_hu1
  have q_K1 : Hid (Reads (Rep.slice 71 DItem.rep) w [.slice q_a1 x.base.items.length q_c1] x.base.items) := ⟨_, q_r1⟩
  obtain ⟨q_a2, q_c2, rfl, q_hm2, q_lc2, q_hu2⟩ := slice_open q_r2; clear q_hu2
  have q_K2 : Hid (Reads (Rep.slice 34 DWrite.rep) w [.slice q_a2 x.sync.outbox.writes.length q_c2] x.sync.outbox.writes) := ⟨_, q_r2⟩
  clear q_r1 q_r2 h
  have HSt : Hid (Reads DStore.rep w [.string x.base.name, .slice q_a1 x.base.items.length q_c1, .int .i64 x.base.auto] x.base) := by
    obtain ⟨f, r⟩ := q_K1.out
    exact ⟨f, DStore.rd.2 ⟨_, _, rfl, rfl, q_s0, r⟩⟩
  have HSy : Hid (Reads DSync.rep w [.int .i64 x.sync.outbox.device, .int .i64 x.sync.outbox.next, .slice q_a2 x.sync.outbox.writes.length q_c2, .int .i64 x.sync.tries, .int .i64 x.sync.waitUntil] x.sync) := by
    obtain ⟨f, r⟩ := q_K2.out
    exact ⟨f, DSync.rd.2 ⟨_, _, rfl, rfl, r⟩⟩
  go_enter Tryz.func68, Tryz.ntmps68
  go_wp2_with fail
  refine settle (fun W => WB W w.heap.size #[.string x.base.name, .slice q_a1 x.base.items.length q_c1, .int .i64 x.base.auto, .int .i64 x.seen, .int .i64 x.sync.outbox.device, .int .i64 x.sync.outbox.next, .slice q_a2 x.sync.outbox.writes.length q_c2, .int .i64 x.sync.tries, .int .i64 x.sync.waitUntil] ∧ WB W (w.heap.size + 1) #[.string ⟨#[]⟩, .slice none 0 0, .int .i64 0, .int .i64 0, .int .i64 0, .int .i64 0, .slice none 0 0, .int .i64 0, .int .i64 0] ∧ Below w.heap.size w W ∧ w.heap.size + 2 ≤ W.heap.size) ⟨(WB.at rfl).growA, WB.at (by simp), bEl, by simp⟩ ?_
  rintro wr ⟨hx, ht, hb, hz⟩
  have HX := Lib.hid hx
  have HT := Lib.hid ht
  have HB := Lib.hid hb
  clear hx ht hb
  have HS : Hid (∀ w', Chg [w.heap.size + 1] wr w' → (∀ o, w'.cell? ⟨w.heap.size, o, none⟩ = #[.string x.base.name, .slice q_a1 x.base.items.length q_c1, .int .i64 x.base.auto, .int .i64 x.seen, .int .i64 x.sync.outbox.device, .int .i64 x.sync.outbox.next, .slice q_a2 x.sync.outbox.writes.length q_c2, .int .i64 x.sync.tries, .int .i64 x.sync.waitUntil][o]?) ∧ Chg [w.heap.size + 1] wr w') := Lib.hid fun w' hw' => ⟨(HX.out.chg hw' (by simp)).cell, hw'⟩
  have ⟨c_HX, z_HX, f_HX⟩ := HX.out
  have ⟨c_HT, z_HT, f_HT⟩ := HT.out
  go_region_held3 (fun w' => (∀ o, w'.cell? ⟨w.heap.size, o, none⟩ = #[.string x.base.name, .slice q_a1 x.base.items.length q_c1, .int .i64 x.base.auto, .int .i64 x.seen, .int .i64 x.sync.outbox.device, .int .i64 x.sync.outbox.next, .slice q_a2 x.sync.outbox.writes.length q_c2, .int .i64 x.sync.tries, .int .i64 x.sync.waitUntil][o]?) ∧ Chg [w.heap.size + 1] wr w')
    (first | (refine HS.out _ ?_; (first | (with_reducible refine Chg.set (by simp) ?_; with_reducible refine Chg.set (by simp) ?_; with_reducible refine Chg.set (by simp) ?_; with_reducible refine Chg.set (by simp) ?_; with_reducible refine Chg.set (by simp) ?_; with_reducible refine Chg.set (by simp) ?_; with_reducible refine Chg.set (by simp) ?_; with_reducible refine Chg.set (by simp) ?_; with_reducible refine Chg.set (by simp) ?_; refine Chg.of_below (B := wr.heap.size) (by (repeat (first | with_reducible exact belR | (with_reducible refine belAB ?_ ?_; focus (first | omega | (simp; done) | (simp; omega))) | with_reducible apply belN | with_reducible apply belD | with_reducible assumption)); done) (Nat.le_refl _)) | (refine Chg.of_below (B := wr.heap.size) (by (repeat (first | with_reducible exact belR | (with_reducible refine belAB ?_ ?_; focus (first | omega | (simp; done) | (simp; omega))) | with_reducible apply belN | with_reducible apply belD | with_reducible assumption)); done) (Nat.le_refl _)) | fail)) | fail)
    (first
      | (go_at_call 81; refine (implCopyStore _ x.base _ (HSt.out.below (HB.out.trans (Below.mono (B := wr.heap.size) bEb (by omega)))) hs).mono ?_; rintro e w2 ⟨ds, rfl, hf2, hb2⟩; obtain ⟨a1, c1, rfl, _, _⟩ := DStore.fopen hf2; have hq2 : Below wr.heap.size wr w2 := (Below.trans bEb (hb2.mono bSz)); have hp2 := hf2.partAt (lo := wr.heap.size) (by first | exact Nat.le_refl _ | (simp; done)); have hz2 := hq2.size; clear hb2 hf2)
      | (go_at_call 64; refine (implCopySync _ x.sync _ (HSy.out.below (HB.out.trans (Below.mono (B := wr.heap.size) bEb (by omega)))) hs2).mono ?_; rintro e w3 ⟨ds, rfl, hf3, hb3⟩; obtain ⟨a3, c3, rfl, _⟩ := DSync.fopen hf3; have hst3 : Below w2.heap.size w2 w3 := (Below.trans bEb (hb3.mono bSz)); have hq3 : Below wr.heap.size wr w3 := hq2.trans (hst3.mono hz2); have hp3 := hf3.partAt (lo := w2.heap.size) (by first | exact Nat.le_refl _ | (simp; done)); have hwt3 := HT.out.grow hq3 (by omega); have ⟨ct3, zt3, ft3⟩ := hwt3; clear hb3 hf3)
      | fail)
  all_goals
    have HG := Lib.hid ((DReplica.fresh (x := x) (B := w.heap.size + 2) (Part.below hp2 hst3) hp3 (by omega) (Nat.le_refl _) (by omega)))
    have HB3 := Lib.hid (HB.out.trans (hq3.mono (by omega)))
    clear hp2 hp3 hst3 hq3 hq2 hwt3
    go_wp2
    refine bodyPost_ret (v := .agg #[.string x.base.name, .slice a1 x.base.items.length c1, .int .i64 x.base.auto, .int .i64 x.seen, .int .i64 x.sync.outbox.device, .int .i64 x.sync.outbox.next, .slice a3 x.sync.outbox.writes.length c3, .int .i64 x.sync.tries, .int .i64 x.sync.waitUntil]) (by simp [results, Tryz.results68, go_sem, ct3]) rfl ⟨_, rfl, ?_, ?_⟩
    · exact (Fresh.mono (B := (w.heap.size + 2)) (by repeat (first | with_reducible exact HG.out | with_reducible refine Fresh.setLow ?_ (by omega) | with_reducible refine Fresh.drew ?_)) (by omega))
    · have y := HB3.out
      exact bEb

set_option maxRecDepth 100000 in
set_option maxHeartbeats 8000000 in
theorem specCopyReplica (cs : List Value) (x : DReplica) (w : World) (h : Reads DReplica.rep w cs x) (hs : SmallStore x.base) (hs2 : x.sync.outbox.writes.length ≤ 1048600) :
    Calls Tryz.prog 74 #[.agg cs.toArray] w fun e w' => ∃ ds, e = .returned (.agg ds.toArray) ∧ Fresh DReplica.rep w.heap.size w' ds x ∧ Below w.heap.size w w' := by
  obtain ⟨fp_q, h⟩ := h
  obtain ⟨q_v1, q_v2, q_f1, q_f2, rfl, _, q_s0, q_r1, q_r2⟩ := DReplica.rd.1 h
  obtain ⟨q_a1, q_c1, rfl, q_hm1, q_lc1, q_hu1⟩ := slice_open q_r1; clear q_hu1
  have q_K1 : Hid (Reads (Rep.slice 71 DItem.rep) w [.slice q_a1 x.base.items.length q_c1] x.base.items) := ⟨_, q_r1⟩
  obtain ⟨q_a2, q_c2, rfl, q_hm2, q_lc2, q_hu2⟩ := slice_open q_r2; clear q_hu2
  have q_K2 : Hid (Reads (Rep.slice 34 DWrite.rep) w [.slice q_a2 x.sync.outbox.writes.length q_c2] x.sync.outbox.writes) := ⟨_, q_r2⟩
  clear q_r1 q_r2 h
  have HSt : Hid (Reads DStore.rep w [.string x.base.name, .slice q_a1 x.base.items.length q_c1, .int .i64 x.base.auto] x.base) := by
    obtain ⟨f, r⟩ := q_K1.out
    exact ⟨f, DStore.rd.2 ⟨_, _, rfl, rfl, q_s0, r⟩⟩
  have HSy : Hid (Reads DSync.rep w [.int .i64 x.sync.outbox.device, .int .i64 x.sync.outbox.next, .slice q_a2 x.sync.outbox.writes.length q_c2, .int .i64 x.sync.tries, .int .i64 x.sync.waitUntil] x.sync) := by
    obtain ⟨f, r⟩ := q_K2.out
    exact ⟨f, DSync.rd.2 ⟨_, _, rfl, rfl, r⟩⟩
  go_enter Tryz.func74, Tryz.ntmps74
  go_wp2_with fail
  refine settle (fun W => WB W w.heap.size #[.string x.base.name, .slice q_a1 x.base.items.length q_c1, .int .i64 x.base.auto, .int .i64 x.seen, .int .i64 x.sync.outbox.device, .int .i64 x.sync.outbox.next, .slice q_a2 x.sync.outbox.writes.length q_c2, .int .i64 x.sync.tries, .int .i64 x.sync.waitUntil] ∧ WB W (w.heap.size + 1) #[.string ⟨#[]⟩, .slice none 0 0, .int .i64 0, .int .i64 0, .int .i64 0, .int .i64 0, .slice none 0 0, .int .i64 0, .int .i64 0] ∧ Below w.heap.size w W ∧ w.heap.size + 2 ≤ W.heap.size) ⟨(WB.at rfl).growA, WB.at (by simp), bEl, by simp⟩ ?_
  rintro wr ⟨hx, ht, hb, hz⟩
  have HX := Lib.hid hx
  have HT := Lib.hid ht
  have HB := Lib.hid hb
  clear hx ht hb
  have HS : Hid (∀ w', Chg [w.heap.size + 1] wr w' → (∀ o, w'.cell? ⟨w.heap.size, o, none⟩ = #[.string x.base.name, .slice q_a1 x.base.items.length q_c1, .int .i64 x.base.auto, .int .i64 x.seen, .int .i64 x.sync.outbox.device, .int .i64 x.sync.outbox.next, .slice q_a2 x.sync.outbox.writes.length q_c2, .int .i64 x.sync.tries, .int .i64 x.sync.waitUntil][o]?) ∧ Chg [w.heap.size + 1] wr w') := Lib.hid fun w' hw' => ⟨(HX.out.chg hw' (by simp)).cell, hw'⟩
  have ⟨c_HX, z_HX, f_HX⟩ := HX.out
  have ⟨c_HT, z_HT, f_HT⟩ := HT.out
  go_region_held3 (fun w' => (∀ o, w'.cell? ⟨w.heap.size, o, none⟩ = #[.string x.base.name, .slice q_a1 x.base.items.length q_c1, .int .i64 x.base.auto, .int .i64 x.seen, .int .i64 x.sync.outbox.device, .int .i64 x.sync.outbox.next, .slice q_a2 x.sync.outbox.writes.length q_c2, .int .i64 x.sync.tries, .int .i64 x.sync.waitUntil][o]?) ∧ Chg [w.heap.size + 1] wr w')
    (first | (refine HS.out _ ?_; (first | (with_reducible refine Chg.set (by simp) ?_; with_reducible refine Chg.set (by simp) ?_; with_reducible refine Chg.set (by simp) ?_; with_reducible refine Chg.set (by simp) ?_; with_reducible refine Chg.set (by simp) ?_; with_reducible refine Chg.set (by simp) ?_; with_reducible refine Chg.set (by simp) ?_; with_reducible refine Chg.set (by simp) ?_; with_reducible refine Chg.set (by simp) ?_; refine Chg.of_below (B := wr.heap.size) (by (repeat (first | with_reducible exact belR | (with_reducible refine belAB ?_ ?_; focus (first | omega | (simp; done) | (simp; omega))) | with_reducible apply belN | with_reducible apply belD | with_reducible assumption)); done) (Nat.le_refl _)) | (refine Chg.of_below (B := wr.heap.size) (by (repeat (first | with_reducible exact belR | (with_reducible refine belAB ?_ ?_; focus (first | omega | (simp; done) | (simp; omega))) | with_reducible apply belN | with_reducible apply belD | with_reducible assumption)); done) (Nat.le_refl _)) | fail)) | fail)
    (first
      | (go_at_call 99; refine (specCopyStore _ x.base _ (HSt.out.below (HB.out.trans (Below.mono (B := wr.heap.size) bEb (by omega)))) hs).mono ?_; rintro e w2 ⟨ds, rfl, hf2, hb2⟩; obtain ⟨a1, c1, rfl, _, _⟩ := DStore.fopen hf2; have hq2 : Below wr.heap.size wr w2 := (Below.trans bEb (hb2.mono bSz)); have hp2 := hf2.partAt (lo := wr.heap.size) (by first | exact Nat.le_refl _ | (simp; done)); have hz2 := hq2.size; clear hb2 hf2)
      | (go_at_call 122; refine (specCopySync _ x.sync _ (HSy.out.below (HB.out.trans (Below.mono (B := wr.heap.size) bEb (by omega)))) hs2).mono ?_; rintro e w3 ⟨ds, rfl, hf3, hb3⟩; obtain ⟨a3, c3, rfl, _⟩ := DSync.fopen hf3; have hst3 : Below w2.heap.size w2 w3 := (Below.trans bEb (hb3.mono bSz)); have hq3 : Below wr.heap.size wr w3 := hq2.trans (hst3.mono hz2); have hp3 := hf3.partAt (lo := w2.heap.size) (by first | exact Nat.le_refl _ | (simp; done)); have hwt3 := HT.out.grow hq3 (by omega); have ⟨ct3, zt3, ft3⟩ := hwt3; clear hb3 hf3)
      | fail)
  all_goals
    have HG := Lib.hid ((DReplica.fresh (x := x) (B := w.heap.size + 2) (Part.below hp2 hst3) hp3 (by omega) (Nat.le_refl _) (by omega)))
    have HB3 := Lib.hid (HB.out.trans (hq3.mono (by omega)))
    clear hp2 hp3 hst3 hq3 hq2 hwt3
    go_wp2
    refine bodyPost_ret (v := .agg #[.string x.base.name, .slice a1 x.base.items.length c1, .int .i64 x.base.auto, .int .i64 x.seen, .int .i64 x.sync.outbox.device, .int .i64 x.sync.outbox.next, .slice a3 x.sync.outbox.writes.length c3, .int .i64 x.sync.tries, .int .i64 x.sync.waitUntil]) (by simp [results, Tryz.results74, go_sem, ct3]) rfl ⟨_, rfl, ?_, ?_⟩
    · exact (Fresh.mono (B := (w.heap.size + 2)) (by repeat (first | with_reducible exact HG.out | with_reducible refine Fresh.setLow ?_ (by omega) | with_reducible refine Fresh.drew ?_)) (by omega))
    · have y := HB3.out
      exact bEb

end Go.Proofs.YtlfebehpmefioaaGreat
