/-
  WriteLocal.
-/
import Derived.Test.YtlfebehpmefioaaGreatCopyRep
import Derived.Test.YtlfebehpmefioaaGreatBoxFam
import Derived.Test.YtlfebehpmefioaaGreatApplied
import Derived.Test.YtlfebehpmefioaaGreatSrvFam
import Derived.Test.YtlfebehpmefioaaGreatSrvCnt
namespace Go.Proofs.YtlfebehpmefioaaGreat
open Go.RowKit

theorem rep_parts {lo hi : Nat} {w : World} {cs : List Value} {x : DReplica} (h : Part DReplica.rep lo hi w cs x) : ∃ a1 c1 a2 c2, cs = [.string x.base.name, .slice a1 x.base.items.length c1, .int .i64 x.base.auto, .int .i64 x.seen, .int .i64 x.sync.outbox.device, .int .i64 x.sync.outbox.next, .slice a2 x.sync.outbox.writes.length c2, .int .i64 x.sync.tries, .int .i64 x.sync.waitUntil] ∧
    Part DStore.rep lo hi w [.string x.base.name, .slice a1 x.base.items.length c1, .int .i64 x.base.auto] x.base ∧ Part (Rep.slice 34 DWrite.rep) lo hi w [.slice a2 x.sync.outbox.writes.length c2] x.sync.outbox.writes := by
  obtain ⟨fp, h, hn, hg⟩ := h
  obtain ⟨v1, v2, f0, f2, rfl, rfl, r0, r2⟩ := DReplica.parts h
  obtain ⟨v2', f2', e2, rfl, r2'⟩ := DSync.rd.1 r2
  simp only [List.cons.injEq, and_true, true_and] at e2
  subst e2
  obtain ⟨v1', f1', e1, _, _, rs⟩ := DStore.rd.1 r0
  simp only [List.cons.injEq, and_true, true_and] at e1
  subst e1
  obtain ⟨a1, c1, rfl, _⟩ := slice_open rs
  obtain ⟨a2, c2, rfl, _⟩ := slice_open r2'
  rw [List.nodup_append] at hn
  exact ⟨a1, c1, a2, c2, rfl, ⟨_, r0, hn.1, fun b hb => hg b (List.mem_append.2 (.inl hb))⟩, ⟨_, r2', hn.2.1, fun b hb => hg b (List.mem_append.2 (.inr hb))⟩⟩
theorem write_yes {r : DReplica} {k : DKey} {field : ByteArray} {n : Int} (h : writeLocalB r k field n = true) : writeLocalF r k field n = withBox r (enqueueF r.sync.outbox k field n) := by
  unfold writeLocalF
  rw [h, if_pos rfl]
  unfold writeLocalB at h
  simp only [Bool.and_eq_true] at h
  unfold enqueueF
  rw [h.2.1, if_pos rfl]
theorem sync_part2 {lo hi : Nat} {w : World} {v : Value} {x : DSync} (h : Part (Rep.slice 34 DWrite.rep) lo hi w [v] x.outbox.writes) : Part DSync.rep lo hi w [.int .i64 x.outbox.device, .int .i64 x.outbox.next, v, .int .i64 x.tries, .int .i64 x.waitUntil] x := by
  obtain ⟨f, r1, r2, r3⟩ := h
  exact ⟨f, DSync.rd.2 ⟨_, _, rfl, rfl, r1⟩, r2, r3⟩
theorem SmallStore.local {r : DReplica} (hs : SmallStore r.base) : SmallStore (localStoreF r) := SmallStore.applied hs _
attribute [local irreducible] isReplicaF enqueueB enqueueF setItemB localStoreF writeLocalB writeLocalF

set_option maxRecDepth 100000 in
set_option maxHeartbeats 8000000 in
theorem implWriteLocal (cs ck : List Value) (r : DReplica) (k : DKey) (field : ByteArray) (n : Int) (w : World) (h : Reads DReplica.rep w cs r) (h' : Reads DKey.rep w ck k) (hs : SmallStore r.base) (hs2 : r.sync.outbox.writes.length ≤ 1048576) (hn : field.size ≤ maxLen) :
    Calls Tryz.prog 24 #[.agg cs.toArray, .agg ck.toArray, .string field, .int .i64 n] w fun e w' => ∃ ds, e = .returned (.tuple #[.agg ds.toArray, .bool (writeLocalB r k field n)]) ∧ Fresh DReplica.rep w.heap.size w' ds (writeLocalF r k field n) ∧ Below w.heap.size w w' := by
  have HH := Lib.hid h
  obtain ⟨fp_q, h⟩ := h
  obtain ⟨q_v1, q_v2, q_f1, q_f2, rfl, _, q_s0, q_r1, q_r2⟩ := DReplica.rd.1 h
  obtain ⟨q_a1, q_c1, rfl, q_hm1, q_lc1, q_hu1⟩ := slice_open q_r1; clear q_hu1
  have q_K1 : Hid (Reads (Rep.slice 71 DItem.rep) w [.slice q_a1 r.base.items.length q_c1] r.base.items) := ⟨_, q_r1⟩
  obtain ⟨q_a2, q_c2, rfl, q_hm2, q_lc2, q_hu2⟩ := slice_open q_r2; clear q_hu2
  have q_K2 : Hid (Reads (Rep.slice 34 DWrite.rep) w [.slice q_a2 r.sync.outbox.writes.length q_c2] r.sync.outbox.writes) := ⟨_, q_r2⟩
  clear q_r1 q_r2 h
  have HOb : Hid (Reads DOutbox.rep w [.int .i64 r.sync.outbox.device, .int .i64 r.sync.outbox.next, .slice q_a2 r.sync.outbox.writes.length q_c2] r.sync.outbox) := by
    obtain ⟨f, z⟩ := q_K2.out
    exact ⟨f, DOutbox.rd.2 ⟨_, _, rfl, rfl, z⟩⟩
  obtain ⟨fk, hk⟩ := h'
  obtain ⟨rfl, _, hkt⟩ := DKey.rd.1 hk
  clear hk
  have HKr : Hid (∀ W, Reads DKey.rep W [.int .i64 k.kind, .int .i64 k.n, .string k.text] k) := Lib.hid fun W => ⟨[], DKey.rd.2 ⟨rfl, rfl, hkt⟩⟩
  have HWr : Hid (∀ W, Reads DWrite.rep W [.int .i64 r.sync.outbox.device, .int .i64 r.sync.outbox.next, .int .i64 k.kind, .int .i64 k.n, .string k.text, .string field, .int .i64 n] (writeLocalW r k field n)) := Lib.hid fun W => ⟨[], DWrite.rd.2 ⟨rfl, rfl, hkt, hn⟩⟩
  have hkey : Hid (setItemB (localStoreF r) (writeLocalW r k field n) = setItemB (localStoreF r) (writeLocalW r k field n)) := Lib.hid (rfl)
  go_enter Tryz.func24, Tryz.ntmps24
  go_wp2_with fail
  refine (implCopyReplica _ r _ (HH.out.below bEl) hs (by omega)).mono ?_
  rintro e w1 ⟨ds, rfl, hf, hb⟩
  obtain ⟨a1, c1, a2, c2, rfl, hp0, hp2⟩ := rep_parts (hf.partAt (lo := w.heap.size + 3) (by simp))
  have HX : Hid (WB w1 w.heap.size #[.string r.base.name, .slice q_a1 r.base.items.length q_c1, .int .i64 r.base.auto, .int .i64 r.seen, .int .i64 r.sync.outbox.device, .int .i64 r.sync.outbox.next, .slice q_a2 r.sync.outbox.writes.length q_c2, .int .i64 r.sync.tries, .int .i64 r.sync.waitUntil]) := Lib.hid ((((WB.at rfl).growA).growA).keep hb)
  have HK : Hid (WB w1 (w.heap.size + 1) #[.int .i64 k.kind, .int .i64 k.n, .string k.text]) := Lib.hid (((WB.at (by simp)).growA).keep hb)
  have HT : Hid (WB w1 (w.heap.size + 2) #[.string ⟨#[]⟩, .slice none 0 0, .int .i64 0, .int .i64 0, .int .i64 0, .int .i64 0, .slice none 0 0, .int .i64 0, .int .i64 0]) := Lib.hid ((WB.at (by simp)).keep hb)
  have HB : Hid (Below w.heap.size w w1) := Lib.hid (below_call bEl bSz hb)
  have hz : w.heap.size + 3 ≤ w1.heap.size := by have y := hb.size; simp at y; omega
  have HG0 : Hid (Fresh DReplica.rep (w.heap.size + 3) w1 [.string r.base.name, .slice a1 r.base.items.length c1, .int .i64 r.base.auto, .int .i64 r.seen, .int .i64 r.sync.outbox.device, .int .i64 r.sync.outbox.next, .slice a2 r.sync.outbox.writes.length c2, .int .i64 r.sync.tries, .int .i64 r.sync.waitUntil] r) := Lib.hid (hf.mono (by simp))
  have HP0 := Lib.hid hp0
  clear hb hf hp0 hp2
  have ⟨c_HX, z_HX, f_HX⟩ := HX.out
  have ⟨c_HK, z_HK, f_HK⟩ := HK.out
  go_wp2_with fail
  refine (implEnqueueWrite _ _ r.sync.outbox k field n _ (HOb.out.below (HB.out.trans (Below.mono (B := w1.heap.size) bEb (by omega)))) (HKr.out _) hs2 hn).mono ?_
  rintro e w2 ⟨ds, rfl, hf, hb⟩
  obtain ⟨a3, c3, rfl, hfw⟩ := DOutbox.fopen hf
  have hq : Below w1.heap.size w1 w2 := below_call bEl bSz hb
  have HO : Hid (WB w2 w1.heap.size #[.string r.base.name, .slice a1 r.base.items.length c1, .int .i64 r.base.auto, .int .i64 r.seen, .int .i64 r.sync.outbox.device, .int .i64 r.sync.outbox.next, .slice a2 r.sync.outbox.writes.length c2, .int .i64 r.sync.tries, .int .i64 r.sync.waitUntil]) := Lib.hid ((WB.at rfl).keep hb)
  have HP3 : Hid (Part (Rep.slice 34 DWrite.rep) (w1.heap.size + 1) w2.heap.size w2 [.slice a3 (enqueueF r.sync.outbox k field n).writes.length c3] (enqueueF r.sync.outbox k field n).writes) := Lib.hid (hfw.partAt (by simp))
  have hsz2 : w1.heap.size + 1 ≤ w2.heap.size := by have y := hb.size; simp at y; omega
  clear c_HX z_HX f_HX c_HK z_HK f_HK
  replace HX := Lib.hid (HX.out.keep hq)
  replace HK := Lib.hid (HK.out.keep hq)
  replace HT := Lib.hid (HT.out.keep hq)
  replace HG0 := Lib.hid (HG0.out.below hq)
  replace HB := Lib.hid (HB.out.trans (hq.mono HB.out.size))
  replace HP0 := Lib.hid (Part.below HP0.out hq)
  clear hb hf hfw hq
  have ⟨c_HX, z_HX, f_HX⟩ := HX.out
  have ⟨c_HK, z_HK, f_HK⟩ := HK.out
  go_upto_region 3 with fail
  refine settle (fun W => WB W w.heap.size #[.string r.base.name, .slice q_a1 r.base.items.length q_c1, .int .i64 r.base.auto, .int .i64 r.seen, .int .i64 r.sync.outbox.device, .int .i64 r.sync.outbox.next, .slice q_a2 r.sync.outbox.writes.length q_c2, .int .i64 r.sync.tries, .int .i64 r.sync.waitUntil] ∧ WB W (w.heap.size + 1) #[.int .i64 k.kind, .int .i64 k.n, .string k.text] ∧ WB W (w.heap.size + 2) #[.string ⟨#[]⟩, .slice none 0 0, .int .i64 0, .int .i64 0, .int .i64 0, .int .i64 0, .slice none 0 0, .int .i64 0, .int .i64 0] ∧ WB W w1.heap.size #[.string r.base.name, .slice a1 r.base.items.length c1, .int .i64 r.base.auto, .int .i64 r.seen, .int .i64 r.sync.outbox.device, .int .i64 r.sync.outbox.next, .slice a2 r.sync.outbox.writes.length c2, .int .i64 r.sync.tries, .int .i64 r.sync.waitUntil] ∧ WB W w2.heap.size #[.int .i64 (enqueueF r.sync.outbox k field n).device, .int .i64 (enqueueF r.sync.outbox k field n).next, .slice a3 (enqueueF r.sync.outbox k field n).writes.length c3] ∧ Fresh DReplica.rep (w.heap.size + 3) W [.string r.base.name, .slice a1 r.base.items.length c1, .int .i64 r.base.auto, .int .i64 r.seen, .int .i64 r.sync.outbox.device, .int .i64 r.sync.outbox.next, .slice a2 r.sync.outbox.writes.length c2, .int .i64 r.sync.tries, .int .i64 r.sync.waitUntil] r ∧ Part DStore.rep (w.heap.size + 3) w1.heap.size W [.string r.base.name, .slice a1 r.base.items.length c1, .int .i64 r.base.auto] r.base ∧ Part (Rep.slice 34 DWrite.rep) (w1.heap.size + 1) w2.heap.size W [.slice a3 (enqueueF r.sync.outbox k field n).writes.length c3] (enqueueF r.sync.outbox k field n).writes ∧ Below w.heap.size w W ∧ w2.heap.size + 1 ≤ W.heap.size) ⟨HX.out.growA, HK.out.growA, HT.out.growA, HO.out.growA, WB.at rfl, freshA HG0.out, partA HP0.out, partA HP3.out, by have y := HB.out; exact bEb, by simp⟩ ?_
  clear c_HX z_HX f_HX c_HK z_HK f_HK
  clear HX HK HT HO HG0 HP0 HP3 HB
  rintro wr ⟨hx, hk, ht, ho, he, hg, hp0, hp3, hb, hzr⟩
  have HX := Lib.hid hx
  have HK := Lib.hid hk
  have HT := Lib.hid ht
  have HO := Lib.hid ho
  have HE := Lib.hid he
  have HG0 := Lib.hid hg
  have HP0 := Lib.hid hp0
  have HP3 := Lib.hid hp3
  have HB := Lib.hid hb
  clear hx hk ht ho he hg hp0 hp3 hb
  have HSx : Hid (∀ w', Below wr.heap.size wr w' → (∀ o, w'.cell? ⟨w.heap.size, o, none⟩ = #[.string r.base.name, .slice q_a1 r.base.items.length q_c1, .int .i64 r.base.auto, .int .i64 r.seen, .int .i64 r.sync.outbox.device, .int .i64 r.sync.outbox.next, .slice q_a2 r.sync.outbox.writes.length q_c2, .int .i64 r.sync.tries, .int .i64 r.sync.waitUntil][o]?) ∧ (∀ o, w'.cell? ⟨w.heap.size + 1, o, none⟩ = #[.int .i64 k.kind, .int .i64 k.n, .string k.text][o]?) ∧ Below wr.heap.size wr w') := Lib.hid fun w' hw' => ⟨(HX.out.keep hw').cell, (HK.out.keep hw').cell, hw'⟩
  have ⟨c_HX, z_HX, f_HX⟩ := HX.out
  have ⟨c_HK, z_HK, f_HK⟩ := HK.out
  go_cut [14] (fun v W => v = .bool (setItemB (localStoreF r) (writeLocalW r k field n)) ∧ Below wr.heap.size wr W)
  case first =>
    go_region_held3 (fun w' => (∀ o, w'.cell? ⟨w.heap.size, o, none⟩ = #[.string r.base.name, .slice q_a1 r.base.items.length q_c1, .int .i64 r.base.auto, .int .i64 r.seen, .int .i64 r.sync.outbox.device, .int .i64 r.sync.outbox.next, .slice q_a2 r.sync.outbox.writes.length q_c2, .int .i64 r.sync.tries, .int .i64 r.sync.waitUntil][o]?) ∧ (∀ o, w'.cell? ⟨w.heap.size + 1, o, none⟩ = #[.int .i64 k.kind, .int .i64 k.n, .string k.text][o]?) ∧ Below wr.heap.size wr w')
      (first | exact HSx.out _ (by (repeat (first | with_reducible exact belR | (with_reducible refine belAB ?_ ?_; focus (first | omega | (simp; done) | (simp; omega))) | (with_reducible refine belS ?_ ?_; focus (first | omega | (simp; done) | (simp; omega))) | with_reducible apply belN | with_reducible apply belD | with_reducible assumption)); done) | fail)
      (first
        | (go_at_call 25; refine (implLocalStore _ r _ (HH.out.below (HB.out.trans (Below.mono (B := wr.heap.size) bEb (by omega)))) hs).mono ?_; rintro e w3 ⟨ds, rfl, hf3, hb3⟩; obtain ⟨a4, c4, rfl, _⟩ := DStore.fopen hf3; have hq3 : Below wr.heap.size wr w3 := (Below.trans bEb (hb3.mono bSz)); have hr3 := hf3.reads; have hz3 := hq3.size; (first | (have hwb : WB w3 wr.heap.size #[.string ⟨#[]⟩, .slice none 0 0, .int .i64 0] := (by first | exact (WB.at (by first | rfl | simp)).growD.keep hb3 | exact (WB.at (by first | rfl | simp)).keep hb3); have ⟨cb3, zb3, fb3⟩ := hwb) | skip); clear hb3 hf3)
        | (go_at_call 47; refine (implSetItemField _ _ (localStoreF r) _ _ (hr3.below (by first | exact belR | exact belA belR | exact belD belR | exact belD (belA belR) | exact belA (belD belR))) (HWr.out _) (SmallStore.local hs)).mono ?_; rintro e w4 ⟨ds, rfl, hf4, hb4⟩; obtain ⟨a5, c5, rfl⟩ := DStore.fshape hf4; have hq4 : Below wr.heap.size wr w4 := (Below.trans bEb (hb4.mono bSz)); have hz4 := hq4.size; (first | (have hwb4 : WB w4 wr.heap.size #[.string ⟨#[]⟩, .slice none 0 0, .int .i64 0] := (by first | exact hwb.keep hb4 | exact hwb.growD.keep hb4); have ⟨cb4, zb4, fb4⟩ := hwb4) | (have hwb4 : WB w4 w3.heap.size #[.string ⟨#[]⟩, .slice none 0 0, .int .i64 0] := (by first | exact (WB.at (by first | rfl | simp)).keep hb4 | exact (WB.at (by first | rfl | simp)).growD.keep hb4); have ⟨cb4, zb4, fb4⟩ := hwb4) | skip); clear hb4 hf4)
        | fail)
    all_goals
      go_wp2_with fail
      go_meet
      exact ⟨by first | rfl | rw [hkey.out], (by (repeat (first | with_reducible exact belR | (with_reducible refine belAB ?_ ?_; focus (first | omega | (simp; done) | (simp; omega))) | (with_reducible refine belS ?_ ?_; focus (first | omega | (simp; done) | (simp; omega))) | with_reducible apply belN | with_reducible apply belD | with_reducible assumption)); done)⟩
  case rest =>
    obtain ⟨rfl, hb⟩ := hcut
    obtain ⟨wx, hwx⟩ : ∃ wx : World, wx = wc := ⟨_, rfl⟩
    subst hwx
    clear c_HX z_HX f_HX c_HK z_HK f_HK
    have hsx := hb.size
    replace HX := Lib.hid (HX.out.keep hb)
    replace HT := Lib.hid (HT.out.keep hb)
    replace HO := Lib.hid (HO.out.keep hb)
    replace HE := Lib.hid (HE.out.keep hb)
    replace HG0 := Lib.hid (HG0.out.below hb)
    replace HB := Lib.hid (HB.out.trans (hb.mono HB.out.size))
    replace HP0 := Lib.hid (Part.below HP0.out hb)
    replace HP3 := Lib.hid (Part.below HP3.out hb)
    clear hb HSx HK
    have ⟨c_HX, z_HX, f_HX⟩ := HX.out
    go_wp2_with fail
    refine (implIsReplica _ r _ (HH.out.below HB.out)).mono ?_
    rintro e w5 ⟨rfl, hb⟩
    clear c_HX z_HX f_HX
    have hz5 := hb.size
    replace HT := Lib.hid (HT.out.keep hb)
    replace HO := Lib.hid (HO.out.keep hb)
    replace HE := Lib.hid (HE.out.keep hb)
    replace HG0 := Lib.hid (HG0.out.below hb)
    replace HB := Lib.hid (HB.out.trans (hb.mono HB.out.size))
    replace HP0 := Lib.hid (Part.below HP0.out hb)
    replace HP3 := Lib.hid (Part.below HP3.out hb)
    clear hb HX
    have ⟨c_HT, z_HT, f_HT⟩ := HT.out
    have ⟨c_HO, z_HO, f_HO⟩ := HO.out
    have ⟨c_HE, z_HE, f_HE⟩ := HE.out
    cases b0 : isReplicaF r
    case' true => cases b1 : enqueueB r.sync.outbox k field n
    case' true.true => cases b2 : setItemB (localStoreF r) (writeLocalW r k field n)
    case true.true.true =>
      have hN : Hid (writeLocalB r k field n = true) := Lib.hid (by unfold writeLocalB; rw [b0, b1, b2]; rfl)
      have hF := Lib.hid (write_yes hN.out)
      go_wp2
      refine bodyPost_ret (v := .tuple #[.agg #[.string r.base.name, .slice a1 r.base.items.length c1, .int .i64 r.base.auto, .int .i64 r.seen, .int .i64 (enqueueF r.sync.outbox k field n).device, .int .i64 (enqueueF r.sync.outbox k field n).next, .slice a3 (enqueueF r.sync.outbox k field n).writes.length c3, .int .i64 r.sync.tries, .int .i64 r.sync.waitUntil], .bool true]) (by simp [results, Tryz.results24, go_sem, c_HT]) rfl ⟨_, by rw [hN.out], ?_, ?_⟩
      · rw [hF.out]
        refine Fresh.mono (B := w.heap.size + 3) (DReplica.fresh (x := withBox r (enqueueF r.sync.outbox k field n)) (B := w.heap.size + 3) (l0 := w.heap.size + 3) (u0 := w1.heap.size) (l2 := w1.heap.size + 1) (u2 := w2.heap.size) ?_ (sync_part2 (x := (⟨(enqueueF r.sync.outbox k field n), r.sync.tries, r.sync.waitUntil⟩ : DSync)) ?_) (by omega) (by omega) (by omega)) (by omega)
        · (repeat (with_reducible refine Part.offCell ?_ (by omega)))
          exact HP0.out
        · (repeat (with_reducible refine Part.offCell ?_ (by omega)))
          exact HP3.out
      · have y := HB.out
        exact bEb
    all_goals
      have hN : Hid (writeLocalB r k field n = false) := Lib.hid (by
        unfold writeLocalB
        first
          | (rw [b0]; rfl)
          | (rw [b0, b1]; rfl)
          | (rw [b0, b1, b2]; rfl))
      have hF : Hid (writeLocalF r k field n = r) := Lib.hid (by rw [writeLocalF, hN.out]; rfl)
      go_wp2
      refine bodyPost_ret (v := .tuple #[.agg #[.string r.base.name, .slice a1 r.base.items.length c1, .int .i64 r.base.auto, .int .i64 r.seen, .int .i64 r.sync.outbox.device, .int .i64 r.sync.outbox.next, .slice a2 r.sync.outbox.writes.length c2, .int .i64 r.sync.tries, .int .i64 r.sync.waitUntil], .bool false]) (by simp [results, Tryz.results24, go_sem, c_HT]) rfl ⟨_, by rw [hN.out], ?_, ?_⟩
      · rw [hF.out]
        exact (Fresh.mono (B := (w.heap.size + 3)) (by repeat (first | with_reducible exact HG0.out | with_reducible refine Fresh.setLow ?_ (by omega) | with_reducible refine Fresh.drew ?_)) (by omega))
      · have y := HB.out
        exact bEb

set_option maxRecDepth 100000 in
set_option maxHeartbeats 8000000 in
theorem specWriteLocal (cs ck : List Value) (r : DReplica) (k : DKey) (field : ByteArray) (n : Int) (w : World) (h : Reads DReplica.rep w cs r) (h' : Reads DKey.rep w ck k) (hs : SmallStore r.base) (hs2 : r.sync.outbox.writes.length ≤ 1048576) (hn : field.size ≤ maxLen) :
    Calls Tryz.prog 118 #[.agg cs.toArray, .agg ck.toArray, .string field, .int .i64 n] w fun e w' => ∃ ds, e = .returned (.tuple #[.agg ds.toArray, .bool (writeLocalB r k field n)]) ∧ Fresh DReplica.rep w.heap.size w' ds (writeLocalF r k field n) ∧ Below w.heap.size w w' := by
  have HH := Lib.hid h
  obtain ⟨fp_q, h⟩ := h
  obtain ⟨q_v1, q_v2, q_f1, q_f2, rfl, _, q_s0, q_r1, q_r2⟩ := DReplica.rd.1 h
  obtain ⟨q_a1, q_c1, rfl, q_hm1, q_lc1, q_hu1⟩ := slice_open q_r1; clear q_hu1
  have q_K1 : Hid (Reads (Rep.slice 71 DItem.rep) w [.slice q_a1 r.base.items.length q_c1] r.base.items) := ⟨_, q_r1⟩
  obtain ⟨q_a2, q_c2, rfl, q_hm2, q_lc2, q_hu2⟩ := slice_open q_r2; clear q_hu2
  have q_K2 : Hid (Reads (Rep.slice 34 DWrite.rep) w [.slice q_a2 r.sync.outbox.writes.length q_c2] r.sync.outbox.writes) := ⟨_, q_r2⟩
  clear q_r1 q_r2 h
  have HOb : Hid (Reads DOutbox.rep w [.int .i64 r.sync.outbox.device, .int .i64 r.sync.outbox.next, .slice q_a2 r.sync.outbox.writes.length q_c2] r.sync.outbox) := by
    obtain ⟨f, z⟩ := q_K2.out
    exact ⟨f, DOutbox.rd.2 ⟨_, _, rfl, rfl, z⟩⟩
  obtain ⟨fk, hk⟩ := h'
  obtain ⟨rfl, _, hkt⟩ := DKey.rd.1 hk
  clear hk
  have HKr : Hid (∀ W, Reads DKey.rep W [.int .i64 k.kind, .int .i64 k.n, .string k.text] k) := Lib.hid fun W => ⟨[], DKey.rd.2 ⟨rfl, rfl, hkt⟩⟩
  have HWr : Hid (∀ W, Reads DWrite.rep W [.int .i64 0, .int .i64 0, .int .i64 k.kind, .int .i64 k.n, .string k.text, .string field, .int .i64 n] (⟨0, 0, k, field, n⟩ : DWrite)) := Lib.hid fun W => ⟨[], DWrite.rd.2 ⟨rfl, rfl, hkt, hn⟩⟩
  have hkey : Hid (setItemB (localStoreF r) (⟨0, 0, k, field, n⟩ : DWrite) = setItemB (localStoreF r) (writeLocalW r k field n)) := Lib.hid (setItemB_key rfl rfl rfl)
  go_enter Tryz.func118, Tryz.ntmps118
  go_wp2_with fail
  refine (specCopyReplica _ r _ (HH.out.below bEl) hs (by omega)).mono ?_
  rintro e w1 ⟨ds, rfl, hf, hb⟩
  obtain ⟨a1, c1, a2, c2, rfl, hp0, hp2⟩ := rep_parts (hf.partAt (lo := w.heap.size + 3) (by simp))
  have HX : Hid (WB w1 w.heap.size #[.string r.base.name, .slice q_a1 r.base.items.length q_c1, .int .i64 r.base.auto, .int .i64 r.seen, .int .i64 r.sync.outbox.device, .int .i64 r.sync.outbox.next, .slice q_a2 r.sync.outbox.writes.length q_c2, .int .i64 r.sync.tries, .int .i64 r.sync.waitUntil]) := Lib.hid ((((WB.at rfl).growA).growA).keep hb)
  have HK : Hid (WB w1 (w.heap.size + 1) #[.int .i64 k.kind, .int .i64 k.n, .string k.text]) := Lib.hid (((WB.at (by simp)).growA).keep hb)
  have HT : Hid (WB w1 (w.heap.size + 2) #[.string ⟨#[]⟩, .slice none 0 0, .int .i64 0, .int .i64 0, .int .i64 0, .int .i64 0, .slice none 0 0, .int .i64 0, .int .i64 0]) := Lib.hid ((WB.at (by simp)).keep hb)
  have HB : Hid (Below w.heap.size w w1) := Lib.hid (below_call bEl bSz hb)
  have hz : w.heap.size + 3 ≤ w1.heap.size := by have y := hb.size; simp at y; omega
  have HG0 : Hid (Fresh DReplica.rep (w.heap.size + 3) w1 [.string r.base.name, .slice a1 r.base.items.length c1, .int .i64 r.base.auto, .int .i64 r.seen, .int .i64 r.sync.outbox.device, .int .i64 r.sync.outbox.next, .slice a2 r.sync.outbox.writes.length c2, .int .i64 r.sync.tries, .int .i64 r.sync.waitUntil] r) := Lib.hid (hf.mono (by simp))
  have HP0 := Lib.hid hp0
  clear hb hf hp0 hp2
  have ⟨c_HX, z_HX, f_HX⟩ := HX.out
  have ⟨c_HK, z_HK, f_HK⟩ := HK.out
  go_wp2_with fail
  refine (specEnqueueWrite _ _ r.sync.outbox k field n _ (HOb.out.below (HB.out.trans (Below.mono (B := w1.heap.size) bEb (by omega)))) (HKr.out _) hs2 hn).mono ?_
  rintro e w2 ⟨ds, rfl, hf, hb⟩
  obtain ⟨a3, c3, rfl, hfw⟩ := DOutbox.fopen hf
  have hq : Below w1.heap.size w1 w2 := below_call bEl bSz hb
  have HO : Hid (WB w2 w1.heap.size #[.string r.base.name, .slice a1 r.base.items.length c1, .int .i64 r.base.auto, .int .i64 r.seen, .int .i64 r.sync.outbox.device, .int .i64 r.sync.outbox.next, .slice a2 r.sync.outbox.writes.length c2, .int .i64 r.sync.tries, .int .i64 r.sync.waitUntil]) := Lib.hid ((WB.at rfl).keep hb)
  have HP3 : Hid (Part (Rep.slice 34 DWrite.rep) (w1.heap.size + 1) w2.heap.size w2 [.slice a3 (enqueueF r.sync.outbox k field n).writes.length c3] (enqueueF r.sync.outbox k field n).writes) := Lib.hid (hfw.partAt (by simp))
  have hsz2 : w1.heap.size + 1 ≤ w2.heap.size := by have y := hb.size; simp at y; omega
  clear c_HX z_HX f_HX c_HK z_HK f_HK
  replace HX := Lib.hid (HX.out.keep hq)
  replace HK := Lib.hid (HK.out.keep hq)
  replace HT := Lib.hid (HT.out.keep hq)
  replace HG0 := Lib.hid (HG0.out.below hq)
  replace HB := Lib.hid (HB.out.trans (hq.mono HB.out.size))
  replace HP0 := Lib.hid (Part.below HP0.out hq)
  clear hb hf hfw hq
  have ⟨c_HX, z_HX, f_HX⟩ := HX.out
  have ⟨c_HK, z_HK, f_HK⟩ := HK.out
  go_upto_region 3 with fail
  refine settle (fun W => WB W w.heap.size #[.string r.base.name, .slice q_a1 r.base.items.length q_c1, .int .i64 r.base.auto, .int .i64 r.seen, .int .i64 r.sync.outbox.device, .int .i64 r.sync.outbox.next, .slice q_a2 r.sync.outbox.writes.length q_c2, .int .i64 r.sync.tries, .int .i64 r.sync.waitUntil] ∧ WB W (w.heap.size + 1) #[.int .i64 k.kind, .int .i64 k.n, .string k.text] ∧ WB W (w.heap.size + 2) #[.string ⟨#[]⟩, .slice none 0 0, .int .i64 0, .int .i64 0, .int .i64 0, .int .i64 0, .slice none 0 0, .int .i64 0, .int .i64 0] ∧ WB W w1.heap.size #[.string r.base.name, .slice a1 r.base.items.length c1, .int .i64 r.base.auto, .int .i64 r.seen, .int .i64 r.sync.outbox.device, .int .i64 r.sync.outbox.next, .slice a2 r.sync.outbox.writes.length c2, .int .i64 r.sync.tries, .int .i64 r.sync.waitUntil] ∧ WB W w2.heap.size #[.int .i64 (enqueueF r.sync.outbox k field n).device, .int .i64 (enqueueF r.sync.outbox k field n).next, .slice a3 (enqueueF r.sync.outbox k field n).writes.length c3] ∧ Fresh DReplica.rep (w.heap.size + 3) W [.string r.base.name, .slice a1 r.base.items.length c1, .int .i64 r.base.auto, .int .i64 r.seen, .int .i64 r.sync.outbox.device, .int .i64 r.sync.outbox.next, .slice a2 r.sync.outbox.writes.length c2, .int .i64 r.sync.tries, .int .i64 r.sync.waitUntil] r ∧ Part DStore.rep (w.heap.size + 3) w1.heap.size W [.string r.base.name, .slice a1 r.base.items.length c1, .int .i64 r.base.auto] r.base ∧ Part (Rep.slice 34 DWrite.rep) (w1.heap.size + 1) w2.heap.size W [.slice a3 (enqueueF r.sync.outbox k field n).writes.length c3] (enqueueF r.sync.outbox k field n).writes ∧ Below w.heap.size w W ∧ w2.heap.size + 1 ≤ W.heap.size) ⟨HX.out.growA, HK.out.growA, HT.out.growA, HO.out.growA, WB.at rfl, freshA HG0.out, partA HP0.out, partA HP3.out, by have y := HB.out; exact bEb, by simp⟩ ?_
  clear c_HX z_HX f_HX c_HK z_HK f_HK
  clear HX HK HT HO HG0 HP0 HP3 HB
  rintro wr ⟨hx, hk, ht, ho, he, hg, hp0, hp3, hb, hzr⟩
  have HX := Lib.hid hx
  have HK := Lib.hid hk
  have HT := Lib.hid ht
  have HO := Lib.hid ho
  have HE := Lib.hid he
  have HG0 := Lib.hid hg
  have HP0 := Lib.hid hp0
  have HP3 := Lib.hid hp3
  have HB := Lib.hid hb
  clear hx hk ht ho he hg hp0 hp3 hb
  have HSx : Hid (∀ w', Below wr.heap.size wr w' → (∀ o, w'.cell? ⟨w.heap.size, o, none⟩ = #[.string r.base.name, .slice q_a1 r.base.items.length q_c1, .int .i64 r.base.auto, .int .i64 r.seen, .int .i64 r.sync.outbox.device, .int .i64 r.sync.outbox.next, .slice q_a2 r.sync.outbox.writes.length q_c2, .int .i64 r.sync.tries, .int .i64 r.sync.waitUntil][o]?) ∧ (∀ o, w'.cell? ⟨w.heap.size + 1, o, none⟩ = #[.int .i64 k.kind, .int .i64 k.n, .string k.text][o]?) ∧ Below wr.heap.size wr w') := Lib.hid fun w' hw' => ⟨(HX.out.keep hw').cell, (HK.out.keep hw').cell, hw'⟩
  have ⟨c_HX, z_HX, f_HX⟩ := HX.out
  have ⟨c_HK, z_HK, f_HK⟩ := HK.out
  go_cut [14] (fun v W => v = .bool (setItemB (localStoreF r) (writeLocalW r k field n)) ∧ Below wr.heap.size wr W)
  case first =>
    go_region_held3 (fun w' => (∀ o, w'.cell? ⟨w.heap.size, o, none⟩ = #[.string r.base.name, .slice q_a1 r.base.items.length q_c1, .int .i64 r.base.auto, .int .i64 r.seen, .int .i64 r.sync.outbox.device, .int .i64 r.sync.outbox.next, .slice q_a2 r.sync.outbox.writes.length q_c2, .int .i64 r.sync.tries, .int .i64 r.sync.waitUntil][o]?) ∧ (∀ o, w'.cell? ⟨w.heap.size + 1, o, none⟩ = #[.int .i64 k.kind, .int .i64 k.n, .string k.text][o]?) ∧ Below wr.heap.size wr w')
      (first | exact HSx.out _ (by (repeat (first | with_reducible exact belR | (with_reducible refine belAB ?_ ?_; focus (first | omega | (simp; done) | (simp; omega))) | (with_reducible refine belS ?_ ?_; focus (first | omega | (simp; done) | (simp; omega))) | with_reducible apply belN | with_reducible apply belD | with_reducible assumption)); done) | fail)
      (first
        | (go_at_call 151; refine (specLocalStore _ r _ (HH.out.below (HB.out.trans (Below.mono (B := wr.heap.size) bEb (by omega)))) hs).mono ?_; rintro e w3 ⟨ds, rfl, hf3, hb3⟩; obtain ⟨a4, c4, rfl, _⟩ := DStore.fopen hf3; have hq3 : Below wr.heap.size wr w3 := (Below.trans bEb (hb3.mono bSz)); have hr3 := hf3.reads; have hz3 := hq3.size; (first | (have hwb : WB w3 wr.heap.size #[.string ⟨#[]⟩, .slice none 0 0, .int .i64 0] := (by first | exact (WB.at (by first | rfl | simp)).growD.keep hb3 | exact (WB.at (by first | rfl | simp)).keep hb3); have ⟨cb3, zb3, fb3⟩ := hwb) | skip); clear hb3 hf3)
        | (go_at_call 52; refine (specSetItemField _ _ (localStoreF r) _ _ (hr3.below (by first | exact belR | exact belA belR | exact belD belR | exact belD (belA belR) | exact belA (belD belR))) (HWr.out _) (SmallStore.local hs)).mono ?_; rintro e w4 ⟨ds, rfl, hf4, hb4⟩; obtain ⟨a5, c5, rfl⟩ := DStore.fshape hf4; have hq4 : Below wr.heap.size wr w4 := (Below.trans bEb (hb4.mono bSz)); have hz4 := hq4.size; (first | (have hwb4 : WB w4 wr.heap.size #[.string ⟨#[]⟩, .slice none 0 0, .int .i64 0] := (by first | exact hwb.keep hb4 | exact hwb.growD.keep hb4); have ⟨cb4, zb4, fb4⟩ := hwb4) | (have hwb4 : WB w4 w3.heap.size #[.string ⟨#[]⟩, .slice none 0 0, .int .i64 0] := (by first | exact (WB.at (by first | rfl | simp)).keep hb4 | exact (WB.at (by first | rfl | simp)).growD.keep hb4); have ⟨cb4, zb4, fb4⟩ := hwb4) | skip); clear hb4 hf4)
        | fail)
    all_goals
      go_wp2_with fail
      go_meet
      exact ⟨by first | rfl | rw [hkey.out], (by (repeat (first | with_reducible exact belR | (with_reducible refine belAB ?_ ?_; focus (first | omega | (simp; done) | (simp; omega))) | (with_reducible refine belS ?_ ?_; focus (first | omega | (simp; done) | (simp; omega))) | with_reducible apply belN | with_reducible apply belD | with_reducible assumption)); done)⟩
  case rest =>
    obtain ⟨rfl, hb⟩ := hcut
    obtain ⟨wx, hwx⟩ : ∃ wx : World, wx = wc := ⟨_, rfl⟩
    subst hwx
    clear c_HX z_HX f_HX c_HK z_HK f_HK
    have hsx := hb.size
    replace HX := Lib.hid (HX.out.keep hb)
    replace HT := Lib.hid (HT.out.keep hb)
    replace HO := Lib.hid (HO.out.keep hb)
    replace HE := Lib.hid (HE.out.keep hb)
    replace HG0 := Lib.hid (HG0.out.below hb)
    replace HB := Lib.hid (HB.out.trans (hb.mono HB.out.size))
    replace HP0 := Lib.hid (Part.below HP0.out hb)
    replace HP3 := Lib.hid (Part.below HP3.out hb)
    clear hb HSx HK
    have ⟨c_HX, z_HX, f_HX⟩ := HX.out
    go_wp2_with fail
    refine (specIsReplica _ r _ (HH.out.below HB.out)).mono ?_
    rintro e w5 ⟨rfl, hb⟩
    clear c_HX z_HX f_HX
    have hz5 := hb.size
    replace HT := Lib.hid (HT.out.keep hb)
    replace HO := Lib.hid (HO.out.keep hb)
    replace HE := Lib.hid (HE.out.keep hb)
    replace HG0 := Lib.hid (HG0.out.below hb)
    replace HB := Lib.hid (HB.out.trans (hb.mono HB.out.size))
    replace HP0 := Lib.hid (Part.below HP0.out hb)
    replace HP3 := Lib.hid (Part.below HP3.out hb)
    clear hb HX
    have ⟨c_HT, z_HT, f_HT⟩ := HT.out
    have ⟨c_HO, z_HO, f_HO⟩ := HO.out
    have ⟨c_HE, z_HE, f_HE⟩ := HE.out
    cases b0 : isReplicaF r
    case' true => cases b1 : enqueueB r.sync.outbox k field n
    case' true.true => cases b2 : setItemB (localStoreF r) (writeLocalW r k field n)
    case true.true.true =>
      have hN : Hid (writeLocalB r k field n = true) := Lib.hid (by unfold writeLocalB; rw [b0, b1, b2]; rfl)
      have hF := Lib.hid (write_yes hN.out)
      go_wp2
      refine bodyPost_ret (v := .tuple #[.agg #[.string r.base.name, .slice a1 r.base.items.length c1, .int .i64 r.base.auto, .int .i64 r.seen, .int .i64 (enqueueF r.sync.outbox k field n).device, .int .i64 (enqueueF r.sync.outbox k field n).next, .slice a3 (enqueueF r.sync.outbox k field n).writes.length c3, .int .i64 r.sync.tries, .int .i64 r.sync.waitUntil], .bool true]) (by simp [results, Tryz.results118, go_sem, c_HT]) rfl ⟨_, by rw [hN.out], ?_, ?_⟩
      · rw [hF.out]
        refine Fresh.mono (B := w.heap.size + 3) (DReplica.fresh (x := withBox r (enqueueF r.sync.outbox k field n)) (B := w.heap.size + 3) (l0 := w.heap.size + 3) (u0 := w1.heap.size) (l2 := w1.heap.size + 1) (u2 := w2.heap.size) ?_ (sync_part2 (x := (⟨(enqueueF r.sync.outbox k field n), r.sync.tries, r.sync.waitUntil⟩ : DSync)) ?_) (by omega) (by omega) (by omega)) (by omega)
        · (repeat (with_reducible refine Part.offCell ?_ (by omega)))
          exact HP0.out
        · (repeat (with_reducible refine Part.offCell ?_ (by omega)))
          exact HP3.out
      · have y := HB.out
        exact bEb
    all_goals
      have hN : Hid (writeLocalB r k field n = false) := Lib.hid (by
        unfold writeLocalB
        first
          | (rw [b0]; rfl)
          | (rw [b0, b1]; rfl)
          | (rw [b0, b1, b2]; rfl))
      have hF : Hid (writeLocalF r k field n = r) := Lib.hid (by rw [writeLocalF, hN.out]; rfl)
      go_wp2
      refine bodyPost_ret (v := .tuple #[.agg #[.string r.base.name, .slice a1 r.base.items.length c1, .int .i64 r.base.auto, .int .i64 r.seen, .int .i64 r.sync.outbox.device, .int .i64 r.sync.outbox.next, .slice a2 r.sync.outbox.writes.length c2, .int .i64 r.sync.tries, .int .i64 r.sync.waitUntil], .bool false]) (by simp [results, Tryz.results118, go_sem, c_HT]) rfl ⟨_, by rw [hN.out], ?_, ?_⟩
      · rw [hF.out]
        exact (Fresh.mono (B := (w.heap.size + 3)) (by repeat (first | with_reducible exact HG0.out | with_reducible refine Fresh.setLow ?_ (by omega) | with_reducible refine Fresh.drew ?_)) (by omega))
      · have y := HB.out
        exact bEb

end Go.Proofs.YtlfebehpmefioaaGreat
