/-
 spec.ReceiveWrite.
-/
import Derived.Test.YtlfebehpmefioaaGreatMark21
namespace Go.Proofs.YtlfebehpmefioaaGreat
open Go.RowKit

attribute [local irreducible] isServerF isWriteF setItemF setItemB receiveCode lastSeqF markI markS

set_option maxRecDepth 100000 in
set_option maxHeartbeats 16000000 in
theorem specReceiveWrite (cs cy : List Value) (x : DServer) (y : DWrite) (w : World) (h : Reads DServer.rep w cs x) (h' : Reads DWrite.rep w cy y) (hs : SmallServer x 1048990) :
  Calls Tryz.prog 11 #[.agg cs.toArray, .agg cy.toArray] w fun e w' => ∃ ds, e = .returned (.tuple #[.agg ds.toArray, .int .i64 (receiveCode x y)]) ∧ Fresh DServer.rep w.heap.size w' ds (receiveF x y) ∧ Below w.heap.size w w' := by
 have HS := Lib.hid h
 obtain ⟨fp_q, h⟩ := h
 obtain ⟨q_v1, q_v2, q_v3, q_f1, q_f2, q_f3, rfl, _, q_s0, q_r1, q_r2, q_r3⟩ := DServer.rd.1 h
 obtain ⟨q_a1, q_c1, rfl, q_hm1, q_lc1, q_hu1⟩ := slice_open q_r1; clear q_hu1
 have q_K1 : Hid (Reads (Rep.slice 71 DItem.rep) w [.slice q_a1 x.store.items.length q_c1] x.store.items) := ⟨_, q_r1⟩
 obtain ⟨q_a2, q_c2, rfl, q_hm2, q_lc2, q_hu2⟩ := slice_open q_r2; clear q_hu2
 have q_K2 : Hid (Reads (Rep.slice 89 DApplied.rep) w [.slice q_a2 x.applied.length q_c2] x.applied) := ⟨_, q_r2⟩
 obtain ⟨q_a3, q_c3, rfl, q_hm3, q_lc3, q_hu3⟩ := slice_open q_r3; clear q_hu3
 have q_K3 : Hid (Reads (Rep.slice 34 DWrite.rep) w [.slice q_a3 x.changes.length q_c3] x.changes) := ⟨_, q_r3⟩
 clear q_r1 q_r2 q_r3 h
 obtain ⟨fy, hy⟩ := h'
 obtain ⟨rfl, _, hyt, hyf⟩ := DWrite.rd.1 hy
 clear hy
 have HYr : Hid (∀ W, Reads DWrite.rep W [.int .i64 y.device, .int .i64 y.seq, .int .i64 y.key.kind, .int .i64 y.key.n, .string y.key.text, .string y.field, .int .i64 y.n] y) := Lib.hid fun W => ⟨[], DWrite.rd.2 ⟨rfl, rfl, hyt, hyf⟩⟩
 have HSt : Hid (Reads DStore.rep w [.string x.store.name, .slice q_a1 x.store.items.length q_c1, .int .i64 x.store.auto] x.store) := by
  obtain ⟨f, r⟩ := q_K1.out
  exact ⟨f, DStore.rd.2 ⟨_, _, rfl, rfl, q_s0, r⟩⟩
 have hs1 := hs.applied
 have hs2 := hs.changes
 obtain ⟨j0, hj0, hy0, hy1, hy2⟩ := info_parts infoWrite
 go_enter Tryz.func11, Tryz.ntmps11
 go_wp2_with fail
 refine (specCopyServer _ x _ (HS.out.below bEl) (hs.mono (by omega))).mono ?_
 rintro e w1 ⟨ds, rfl, hf, hb⟩
 obtain ⟨a1, c1, a2, c2, a3, c3, f0, rfl, hown⟩ := SrvOwn.of_fresh (hf.mono (B' := w.heap.size + 3) (by simp)) [w1.heap.size] (by simp)
 have HX : Hid (WB w1 w.heap.size #[.string x.store.name, .slice q_a1 x.store.items.length q_c1, .int .i64 x.store.auto, .slice q_a2 x.applied.length q_c2, .slice q_a3 x.changes.length q_c3]) := Lib.hid ((((WB.at rfl).growA).growA).keep hb)
 have HY : Hid (WB w1 (w.heap.size + 1) #[.int .i64 y.device, .int .i64 y.seq, .int .i64 y.key.kind, .int .i64 y.key.n, .string y.key.text, .string y.field, .int .i64 y.n]) := Lib.hid (((WB.at (by simp)).growA).keep hb)
 have HT : Hid (WB w1 (w.heap.size + 2) #[.string ⟨#[]⟩, .slice none 0 0, .int .i64 0, .slice none 0 0, .slice none 0 0]) := Lib.hid ((WB.at (by simp)).keep hb)
 have HB : Hid (Below w.heap.size w w1) := Lib.hid (below_call bEl bSz hb)
 have hz : w.heap.size + 3 ≤ w1.heap.size := by have y := hb.size; simp at y; omega
 clear hb hf
 have ⟨c_HX, z_HX, f_HX⟩ := HX.out
 have ⟨c_HY, z_HY, f_HY⟩ := HY.out
 go_wp2_with fail
 refine (specIsServer _ x _ (HS.out.below (HB.out.trans (Below.mono (B := w1.heap.size) bEb (by omega))))).mono ?_
 rintro e w2 ⟨rfl, hb⟩
 have hq : Below w1.heap.size w1 w2 := below_call bEl bSz hb
 have HO : Hid (WB w2 w1.heap.size #[.string x.store.name, .slice a1 x.store.items.length c1, .int .i64 x.store.auto, .slice a2 x.applied.length c2, .slice a3 x.changes.length c3]) := Lib.hid ((WB.at rfl).keep hb)
 have HW : Hid (SrvOwn (w.heap.size + 3) [w1.heap.size] w2 [.string x.store.name, .slice a1 x.store.items.length c1, .int .i64 x.store.auto] (.slice a2 x.applied.length c2) (.slice a3 x.changes.length c3) x f0) := Lib.hid (hown.growA.below hb)
 have hsz2 : w1.heap.size + 1 ≤ w2.heap.size := by have y := hb.size; simp at y; omega
 clear c_HX z_HX f_HX c_HY z_HY f_HY
 replace HX := Lib.hid (HX.out.keep hq)
 replace HY := Lib.hid (HY.out.keep hq)
 replace HT := Lib.hid (HT.out.keep hq)
 replace HB := Lib.hid (HB.out.trans (hq.mono HB.out.size))
 clear hb hq hown
 have ⟨c_HX, z_HX, f_HX⟩ := HX.out
 have ⟨c_HY, z_HY, f_HY⟩ := HY.out
 have ⟨c_HT, z_HT, f_HT⟩ := HT.out
 have ⟨c_HO, z_HO, f_HO⟩ := HO.out
 cases b0 : isServerF x
 ·have hN : Hid (receiveCode x y = 4) := Lib.hid (code_refused (refused_srv b0))
  have hF : Hid (receiveF x y = x) := Lib.hid (by rw [receiveF, hN.out]; rfl)
  go_wp2
  refine bodyPost_ret (v := .tuple #[.agg #[.string x.store.name, .slice a1 x.store.items.length c1, .int .i64 x.store.auto, .slice a2 x.applied.length c2, .slice a3 x.changes.length c3], .int .i64 4]) (by simp [results, Tryz.results11, go_sem, c_HT]) rfl ⟨_, by rw [hN.out], ?_, ?_⟩
  ·rw [hF.out]
   exact (Fresh.mono (B := (w.heap.size + 3)) (by repeat (first | exact HW.out.fresh | refine Fresh.setLow ?_ (by omega) | refine Fresh.drew ?_)) (by omega))
  ·have y := HB.out
   exact bEb
 ·have a0 := Lib.hid b0
  clear b0
  go_wp2_with fail
  refine (specIsQueuedWrite _ y _ (HYr.out _)).mono ?_
  rintro e w5 ⟨rfl, hb⟩
  clear c_HX z_HX f_HX c_HY z_HY f_HY c_HT z_HT f_HT c_HO z_HO f_HO
  have hz5 := hb.size
  replace HX := Lib.hid (HX.out.keep hb)
  replace HY := Lib.hid (HY.out.keep hb)
  replace HT := Lib.hid (HT.out.keep hb)
  replace HO := Lib.hid (HO.out.keep hb)
  replace HB := Lib.hid (HB.out.trans (hb.mono HB.out.size))
  replace HW := Lib.hid (HW.out.below hb)
  clear hb
  have ⟨c_HX, z_HX, f_HX⟩ := HX.out
  have ⟨c_HY, z_HY, f_HY⟩ := HY.out
  have ⟨c_HT, z_HT, f_HT⟩ := HT.out
  have ⟨c_HO, z_HO, f_HO⟩ := HO.out
  cases b1 : isWriteF y
  ·have hN : Hid (receiveCode x y = 4) := Lib.hid (code_refused (refused_wr b1))
   have hF : Hid (receiveF x y = x) := Lib.hid (by rw [receiveF, hN.out]; rfl)
   go_wp2
   refine bodyPost_ret (v := .tuple #[.agg #[.string x.store.name, .slice a1 x.store.items.length c1, .int .i64 x.store.auto, .slice a2 x.applied.length c2, .slice a3 x.changes.length c3], .int .i64 4]) (by simp [results, Tryz.results11, go_sem, c_HT]) rfl ⟨_, by rw [hN.out], ?_, ?_⟩
   ·rw [hF.out]
    exact (Fresh.mono (B := (w.heap.size + 3)) (by repeat (first | exact HW.out.fresh | refine Fresh.setLow ?_ (by omega) | refine Fresh.drew ?_)) (by omega))
   ·have y := HB.out
    exact bEb
  ·have a1' := Lib.hid b1
   clear b1
   have hms := mark_same y.device y.seq a0.out
   have hrs := refused_spec a0.out a1'.out
   rw [hms] at hrs
   have hRS := Lib.hid hrs
   clear hrs
   have hrg := lastSeq_range (d := y.device) a0.out
   have hw : IntKind.i64.wrap (lastSeqF x y.device + 1) = lastSeqF x y.device + 1 := Go.IntWalk.i64_in _ (by omega)
   have hwE := Lib.hid (Go.IntWalk.wrap64_in (lastSeqF x y.device + 1) (by omega))
   go_wp2_with fail
   refine (specMark _ x.applied y.device y.seq _ (q_K2.out.below HB.out) (by omega)).mono ?_
   rintro e w6 ⟨lo, lc, rfl, hfm, hb⟩
   rw [hms] at hfm ⊢
   clear hms
   have hlm : Hid (∀ b ∈ (Value.slice lo (markI x.applied y.device y.seq).length lc).ownBlock.toList, w5.heap.size ≤ b ∧ b < w6.heap.size) := Lib.hid hfm.ownlt
   have HFM := Lib.hid (hfm.mono (B' := w.heap.size + 3) (by omega))
   clear c_HX z_HX f_HX c_HY z_HY f_HY c_HT z_HT f_HT c_HO z_HO f_HO
   have hz6 := hb.size
   replace HX := Lib.hid (HX.out.keep hb)
   replace HY := Lib.hid (HY.out.keep hb)
   replace HT := Lib.hid (HT.out.keep hb)
   replace HO := Lib.hid (HO.out.keep hb)
   replace HB := Lib.hid (HB.out.trans (hb.mono HB.out.size))
   replace HW := Lib.hid ((HW.out.reK (K' := (w1.heap.size :: (Value.slice lo (markI x.applied y.device y.seq).length lc).ownBlock.toList)) (fun b hb => by
    rcases List.mem_cons.1 hb with rfl | hb
    ·left; simp
    ·right; exact (hlm.out b hb).1)).below hb)
   clear hb hfm
   have ⟨c_HX, z_HX, f_HX⟩ := HX.out
   have ⟨c_HY, z_HY, f_HY⟩ := HY.out
   have ⟨c_HT, z_HT, f_HT⟩ := HT.out
   have ⟨c_HO, z_HO, f_HO⟩ := HO.out
   go_wp2_with fail
   refine (specLastSeq _ x y.device _ (HS.out.below HB.out)).mono ?_
   rintro e w7 ⟨rfl, hb⟩
   clear c_HX z_HX f_HX c_HY z_HY f_HY c_HT z_HT f_HT c_HO z_HO f_HO
   have hz7 := hb.size
   replace HX := Lib.hid (HX.out.keep hb)
   replace HY := Lib.hid (HY.out.keep hb)
   replace HT := Lib.hid (HT.out.keep hb)
   replace HO := Lib.hid (HO.out.keep hb)
   replace HFM := Lib.hid (HFM.out.below hb)
   replace HB := Lib.hid (HB.out.trans (hb.mono HB.out.size))
   replace HW := Lib.hid (HW.out.below hb)
   clear hb
   have ⟨c_HX, z_HX, f_HX⟩ := HX.out
   have ⟨c_HY, z_HY, f_HY⟩ := HY.out
   have ⟨c_HT, z_HT, f_HT⟩ := HT.out
   have ⟨c_HO, z_HO, f_HO⟩ := HO.out
   by_cases h60 : 60 < (markI x.applied y.device y.seq).length
   ·have hN : Hid (receiveCode x y = 4) := Lib.hid (code_refused (by rw [hRS.out]; exact decide_eq_true h60))
    have hF : Hid (receiveF x y = x) := Lib.hid (by rw [receiveF, hN.out]; rfl)
    go_wp2
    refine bodyPost_ret (v := .tuple #[.agg #[.string x.store.name, .slice a1 x.store.items.length c1, .int .i64 x.store.auto, .slice a2 x.applied.length c2, .slice a3 x.changes.length c3], .int .i64 4]) (by simp [results, Tryz.results11, go_sem, c_HT]) rfl ⟨_, by rw [hN.out], ?_, ?_⟩
    ·rw [hF.out]
     exact (Fresh.mono (B := (w.heap.size + 3)) (by repeat (first | exact HW.out.fresh | refine Fresh.setLow ?_ (by omega) | refine Fresh.drew ?_)) (by omega))
    ·have y := HB.out
     exact bEb
   ·have hR : Hid (refused x y = false) := Lib.hid (by rw [hRS.out]; exact decide_eq_false h60)
    by_cases h2 : y.seq ≤ lastSeqF x y.device
    ·have hN : Hid (receiveCode x y = 2) := Lib.hid (code_old hR.out h2)
     have hF : Hid (receiveF x y = x) := Lib.hid (by rw [receiveF, hN.out]; rfl)
     go_wp2
     refine bodyPost_ret (v := .tuple #[.agg #[.string x.store.name, .slice a1 x.store.items.length c1, .int .i64 x.store.auto, .slice a2 x.applied.length c2, .slice a3 x.changes.length c3], .int .i64 2]) (by simp [results, Tryz.results11, go_sem, c_HT]) rfl ⟨_, by rw [hN.out], ?_, ?_⟩
     ·rw [hF.out]
      exact (Fresh.mono (B := (w.heap.size + 3)) (by repeat (first | exact HW.out.fresh | refine Fresh.setLow ?_ (by omega) | refine Fresh.drew ?_)) (by omega))
     ·have y := HB.out
      exact bEb
    ·by_cases h3 : lastSeqF x y.device + 1 < y.seq
     ·have hN : Hid (receiveCode x y = 3) := Lib.hid (code_gap hR.out h2 (by rw [hwE.out]; exact h3))
      have hF : Hid (receiveF x y = x) := Lib.hid (by rw [receiveF, hN.out]; rfl)
      go_wp2
      refine bodyPost_ret (v := .tuple #[.agg #[.string x.store.name, .slice a1 x.store.items.length c1, .int .i64 x.store.auto, .slice a2 x.applied.length c2, .slice a3 x.changes.length c3], .int .i64 3]) (by simp [results, Tryz.results11, go_sem, c_HT]) rfl ⟨_, by rw [hN.out], ?_, ?_⟩
      ·rw [hF.out]
       exact (Fresh.mono (B := (w.heap.size + 3)) (by repeat (first | exact HW.out.fresh | refine Fresh.setLow ?_ (by omega) | refine Fresh.drew ?_)) (by omega))
      ·have y := HB.out
       exact bEb
     ·have hN : Hid (receiveCode x y = 1) := Lib.hid (code_new hR.out h2 (by rw [hwE.out]; exact h3))
      have hF := Lib.hid (receiveF_new hN.out)
      go_wp2_with fail
      refine (specSetItemField _ _ x.store y _ (HSt.out.below HB.out) (HYr.out _) hs.store).mono ?_
      rintro e w8 ⟨ds, rfl, hf, hb⟩
      have hKlt : ∀ k ∈ (w1.heap.size :: (Value.slice lo (markI x.applied y.device y.seq).length lc).ownBlock.toList), k < w7.heap.size := fun k hk => by
       rcases List.mem_cons.1 hk with rfl | hk
       ·omega
       ·have := hlm.out k hk; omega
      obtain ⟨a6, c6, rfl⟩ := setItem_fopen hf
      obtain ⟨f6, hown6⟩ := SrvOwn.store HW.out hf hb (Nat.le_refl _) hKlt (by omega)
      clear c_HX z_HX f_HX c_HY z_HY f_HY c_HT z_HT f_HT c_HO z_HO f_HO
      have hz8' := hb.size
      replace HX := Lib.hid (HX.out.keep hb)
      replace HY := Lib.hid (HY.out.keep hb)
      replace HT := Lib.hid (HT.out.keep hb)
      replace HO := Lib.hid (HO.out.keep hb)
      replace HFM := Lib.hid (HFM.out.below hb)
      replace HB := Lib.hid (HB.out.trans (hb.mono HB.out.size))
      replace HW := Lib.hid (HW.out.below hb)
      clear hb
      have HW6 := Lib.hid hown6
      clear hf hown6 hKlt HX
      have ⟨c_HY, z_HY, f_HY⟩ := HY.out
      have ⟨c_HO, z_HO, f_HO⟩ := HO.out
      cases n : setItemB x.store y
      ·have en : setItemF x.store y = x.store := by rw [setItemF, n]; rfl
       go_upto_region 15 with fail
       have hnO := hlm
       refine settle (fun W => ∃ a6 c6 f6, WB W (w.heap.size + 1) #[.int .i64 y.device, .int .i64 y.seq, .int .i64 y.key.kind, .int .i64 y.key.n, .string y.key.text, .string y.field, .int .i64 y.n] ∧ WB W (w.heap.size + 2) #[.string ⟨#[]⟩, .slice none 0 0, .int .i64 0, .slice none 0 0, .slice none 0 0] ∧ WB W w1.heap.size #[.string x.store.name, .slice a6 (setItemF x.store y).items.length c6, .int .i64 (setItemF x.store y).auto, .slice a2 x.applied.length c2, .slice a3 x.changes.length c3] ∧ SrvOwn (w.heap.size + 3) (w1.heap.size :: (Value.slice lo (markI x.applied y.device y.seq).length lc).ownBlock.toList) W [.string x.store.name, .slice a6 (setItemF x.store y).items.length c6, .int .i64 (setItemF x.store y).auto] (.slice a2 x.applied.length c2) (.slice a3 x.changes.length c3) ⟨setItemF x.store y, x.applied, x.changes⟩ f6 ∧ Fresh (Rep.slice 89 DApplied.rep) (w.heap.size + 3) W [.slice lo (markI x.applied y.device y.seq).length lc] (markI x.applied y.device y.seq) ∧ Below w.heap.size w W ∧ w8.heap.size ≤ W.heap.size) ⟨a1, c1, f0, HY.out.growA, HT.out.growA, by rw [en]; exact HO.out.growA, by rw [en]; exact HW.out.growA, freshA HFM.out, by have y := HB.out; exact bEb, by simp⟩ ?_
       clear c_HY z_HY f_HY c_HO z_HO f_HO
       clear HY HT HO HB HW HW6 HFM hnO en
       rintro w9 ⟨a6, c6, f6, hy7, ht7, ho7, hw7, hf7, hb7, hz9⟩
       have HY := Lib.hid hy7
       have HT := Lib.hid ht7
       have HO := Lib.hid ho7
       have HW := Lib.hid hw7
       have HFM := Lib.hid hf7
       have HB := Lib.hid hb7
       clear hy7 ht7 ho7 hw7 hb7 hf7
       have ⟨c_HY, z_HY, f_HY⟩ := HY.out
       have ⟨c_HO, z_HO, f_HO⟩ := HO.out
       go_wp2_with (at_builtin; refine DWrite.flat.grow3 _ rfl _ _ 28 28 rfl (w.heap.size + 3) 34 j0 _ _ Tryz.underlying28 Tryz.underlying28 hj0 hy0 hy1 hy2 rfl _ x.changes rfl (freshA HW.out.ch) _ [y] rfl (DWrite.flat.one_reads rfl rfl ⟨hyt, hyf⟩) (x.changes.length + 1) ?c1 ?c2 ?c3 ?c4 ?_)
       case c1 => rfl
       case c2 => omega
       case c3 => decide
       case c4 => simp; omega
       intro ao8 cap8 wa hf8 hc8 hb8 hv8
       have hKlt : ∀ k ∈ (w1.heap.size :: (Value.slice lo (markI x.applied y.device y.seq).length lc).ownBlock.toList), k < w9.heap.size := fun k hk => by
        rcases List.mem_cons.1 hk with rfl | hk
        ·omega
        ·have := hlm.out k hk; omega
       have hown8 := SrvOwn.changes (v3' := .slice ao8 (x.changes.length + 1) cap8) HW.out.growA hc8 hf8 (fun b hb => by
        rcases hv8 b (by first | exact hb | simpa using hb) with h | h
        ·exact .inl (by first | exact h | simpa using h)
        ·right; first | omega | (simp at h ⊢; omega)) (fun k hk => by have := hKlt k hk; simp; omega)
       have hfm8 := DApplied.flat.offBlocks (freshA HFM.out) hc8 (fun b hb hm => (HW.out.chk b (by first | exact hm | simpa using hm)).1 (List.mem_cons.2 (.inr hb)))
       have hq8 : Below (w.heap.size + 3) w9 wa := Below.trans bEb hb8
       have hz8 := hq8.size
       clear c_HY z_HY f_HY c_HO z_HO f_HO
       have HT8 := Lib.hid (HT.out.grow hq8 (by omega))
       have HO8 : Hid (WB wa w1.heap.size #[.string x.store.name, .slice a6 (setItemF x.store y).items.length c6, .int .i64 (setItemF x.store y).auto, .slice a2 x.applied.length c2, .slice a3 x.changes.length c3]) := Lib.hid (HO.out.growA.chg hc8 (fun hm => (HW.out.chk _ (by first | exact hm | simpa using hm)).1 (by simp)))
       have HB8 := Lib.hid (HB.out.trans (hq8.mono (by omega)))
       have HW8 := Lib.hid hown8
       have HFM8 := Lib.hid hfm8
       clear hf8 hc8 hb8 hv8 hq8 hown8 hfm8 HY HT HO HB HW HFM
       have ⟨c_HO8, z_HO8, f_HO8⟩ := HO8.out
       go_upto_region 17 with fail
       have hno := fun hm => (hlm.out w1.heap.size hm).1
       refine settle (fun W => WB W (w.heap.size + 2) #[.string ⟨#[]⟩, .slice none 0 0, .int .i64 0, .slice none 0 0, .slice none 0 0] ∧ WB W w1.heap.size #[.string x.store.name, .slice a6 (setItemF x.store y).items.length c6, .int .i64 (setItemF x.store y).auto, .slice lo (markI x.applied y.device y.seq).length lc, .slice ao8 (x.changes.length + 1) cap8] ∧ SrvOwn (w.heap.size + 3) [w1.heap.size] W [.string x.store.name, .slice a6 (setItemF x.store y).items.length c6, .int .i64 (setItemF x.store y).auto] (.slice lo (markI x.applied y.device y.seq).length lc) (.slice ao8 (x.changes.length + 1) cap8) ⟨setItemF x.store y, markI x.applied y.device y.seq, x.changes ++ [y]⟩ f6 ∧ Below w.heap.size w W) ⟨(HT8.out.setOther (by omega)).setOther (by omega), (HO8.out.setAt (i := 4) (by simp) rfl).setAt (by simp) rfl, SrvOwn.setApplied (K' := [w1.heap.size]) ((HW8.out.setK (by simp)).setK (by simp)) (DApplied.flat.setApart (DApplied.flat.setApart HFM8.out (fun hm => by have := hno hm; omega)) (fun hm => by have := hno hm; omega)) (fun b hb => ⟨List.mem_cons.2 (.inr hb), fun hm => by have := (hlm.out b hb).1; simp at hm; omega⟩) (fun k hk => by simp at hk; rw [hk]; simp), by have y := HB8.out; exact bEb⟩ ?_
       clear c_HO8 z_HO8 f_HO8
       clear HT8 HO8 HB8 HW8 HFM8 hno hKlt
       rintro wf ⟨ht7, ho7, hw7, hb7⟩
       have HT := Lib.hid ht7
       have HO := Lib.hid ho7
       have HW := Lib.hid hw7
       have HB := Lib.hid hb7
       clear ht7 ho7 hw7 hb7
       have ⟨c_HO, z_HO, f_HO⟩ := HO.out
       have ⟨c_HT, z_HT, f_HT⟩ := HT.out
       go_wp2
       refine bodyPost_ret (v := .tuple #[.agg #[.string x.store.name, .slice a6 (setItemF x.store y).items.length c6, .int .i64 (setItemF x.store y).auto, .slice lo (markI x.applied y.device y.seq).length lc, .slice ao8 (x.changes.length + 1) cap8], .int .i64 1]) (by simp [results, Tryz.results11, go_sem, c_HT]) rfl ⟨_, by rw [hN.out], ?_, ?_⟩
       ·rw [hF.out]
        have e : (x.changes.length + 1) = (receiveOut x y).changes.length := by simp [receiveOut]
        rw [e]
        have z : Fresh DServer.rep (w.heap.size + 3) wf [.string (receiveOut x y).store.name, .slice a6 (receiveOut x y).store.items.length c6, .int .i64 (receiveOut x y).store.auto, .slice lo (receiveOut x y).applied.length lc, .slice ao8 (receiveOut x y).changes.length cap8] (receiveOut x y) := by
         have hn : (receiveOut x y).store.name = x.store.name := setItem_name _ _
         have y' := HW.out
         rw [e] at y'
         exact SrvOwn.fresh (x := receiveOut x y) (by rw [hn]; exact y')
        rw [show (receiveOut x y).store.name = x.store.name from setItem_name _ _] at z
        exact (Fresh.mono (B := (w.heap.size + 3)) (by repeat (first | exact z | refine Fresh.setLow ?_ (by omega) | refine Fresh.drew ?_)) (by omega))
       ·have y := HB.out
        exact bEb
      ·go_upto_region 15 with fail
       have hno := fun hm => (hlm.out w1.heap.size hm).1
       refine settle (fun W => ∃ a6 c6 f6, WB W (w.heap.size + 1) #[.int .i64 y.device, .int .i64 y.seq, .int .i64 y.key.kind, .int .i64 y.key.n, .string y.key.text, .string y.field, .int .i64 y.n] ∧ WB W (w.heap.size + 2) #[.string ⟨#[]⟩, .slice none 0 0, .int .i64 0, .slice none 0 0, .slice none 0 0] ∧ WB W w1.heap.size #[.string x.store.name, .slice a6 (setItemF x.store y).items.length c6, .int .i64 (setItemF x.store y).auto, .slice a2 x.applied.length c2, .slice a3 x.changes.length c3] ∧ SrvOwn (w.heap.size + 3) (w1.heap.size :: (Value.slice lo (markI x.applied y.device y.seq).length lc).ownBlock.toList) W [.string x.store.name, .slice a6 (setItemF x.store y).items.length c6, .int .i64 (setItemF x.store y).auto] (.slice a2 x.applied.length c2) (.slice a3 x.changes.length c3) ⟨setItemF x.store y, x.applied, x.changes⟩ f6 ∧ Fresh (Rep.slice 89 DApplied.rep) (w.heap.size + 3) W [.slice lo (markI x.applied y.device y.seq).length lc] (markI x.applied y.device y.seq) ∧ Below w.heap.size w W ∧ w8.heap.size ≤ W.heap.size) ⟨a6, c6, f6, (((HY.out.setOther (by omega)).setOther (by omega)).setOther (by omega)).growA, (((HT.out.setOther (by omega)).setOther (by omega)).setOther (by omega)).growA, HO.out.sets3.growA, (((HW6.out.setK (by simp)).setK (by simp)).setK (by simp)).growA, freshA (DApplied.flat.setApart (DApplied.flat.setApart (DApplied.flat.setApart HFM.out (fun hm => by have := hno hm; omega)) (fun hm => by have := hno hm; omega)) (fun hm => by have := hno hm; omega)), by have y := HB.out; exact bEb, by simp⟩ ?_
       clear c_HY z_HY f_HY c_HO z_HO f_HO
       clear HY HT HO HB HW HW6 HFM hno
       rintro w9 ⟨a6, c6, f6, hy7, ht7, ho7, hw7, hf7, hb7, hz9⟩
       have HY := Lib.hid hy7
       have HT := Lib.hid ht7
       have HO := Lib.hid ho7
       have HW := Lib.hid hw7
       have HFM := Lib.hid hf7
       have HB := Lib.hid hb7
       clear hy7 ht7 ho7 hw7 hb7 hf7
       have ⟨c_HY, z_HY, f_HY⟩ := HY.out
       have ⟨c_HO, z_HO, f_HO⟩ := HO.out
       go_wp2_with (at_builtin; refine DWrite.flat.grow3 _ rfl _ _ 28 28 rfl (w.heap.size + 3) 34 j0 _ _ Tryz.underlying28 Tryz.underlying28 hj0 hy0 hy1 hy2 rfl _ x.changes rfl (freshA HW.out.ch) _ [y] rfl (DWrite.flat.one_reads rfl rfl ⟨hyt, hyf⟩) (x.changes.length + 1) ?c1 ?c2 ?c3 ?c4 ?_)
       case c1 => rfl
       case c2 => omega
       case c3 => decide
       case c4 => simp; omega
       intro ao8 cap8 wa hf8 hc8 hb8 hv8
       have hKlt : ∀ k ∈ (w1.heap.size :: (Value.slice lo (markI x.applied y.device y.seq).length lc).ownBlock.toList), k < w9.heap.size := fun k hk => by
        rcases List.mem_cons.1 hk with rfl | hk
        ·omega
        ·have := hlm.out k hk; omega
       have hown8 := SrvOwn.changes (v3' := .slice ao8 (x.changes.length + 1) cap8) HW.out.growA hc8 hf8 (fun b hb => by
        rcases hv8 b (by first | exact hb | simpa using hb) with h | h
        ·exact .inl (by first | exact h | simpa using h)
        ·right; first | omega | (simp at h ⊢; omega)) (fun k hk => by have := hKlt k hk; simp; omega)
       have hfm8 := DApplied.flat.offBlocks (freshA HFM.out) hc8 (fun b hb hm => (HW.out.chk b (by first | exact hm | simpa using hm)).1 (List.mem_cons.2 (.inr hb)))
       have hq8 : Below (w.heap.size + 3) w9 wa := Below.trans bEb hb8
       have hz8 := hq8.size
       clear c_HY z_HY f_HY c_HO z_HO f_HO
       have HT8 := Lib.hid (HT.out.grow hq8 (by omega))
       have HO8 : Hid (WB wa w1.heap.size #[.string x.store.name, .slice a6 (setItemF x.store y).items.length c6, .int .i64 (setItemF x.store y).auto, .slice a2 x.applied.length c2, .slice a3 x.changes.length c3]) := Lib.hid (HO.out.growA.chg hc8 (fun hm => (HW.out.chk _ (by first | exact hm | simpa using hm)).1 (by simp)))
       have HB8 := Lib.hid (HB.out.trans (hq8.mono (by omega)))
       have HW8 := Lib.hid hown8
       have HFM8 := Lib.hid hfm8
       clear hf8 hc8 hb8 hv8 hq8 hown8 hfm8 HY HT HO HB HW HFM
       have ⟨c_HO8, z_HO8, f_HO8⟩ := HO8.out
       go_upto_region 17 with fail
       have hno := fun hm => (hlm.out w1.heap.size hm).1
       refine settle (fun W => WB W (w.heap.size + 2) #[.string ⟨#[]⟩, .slice none 0 0, .int .i64 0, .slice none 0 0, .slice none 0 0] ∧ WB W w1.heap.size #[.string x.store.name, .slice a6 (setItemF x.store y).items.length c6, .int .i64 (setItemF x.store y).auto, .slice lo (markI x.applied y.device y.seq).length lc, .slice ao8 (x.changes.length + 1) cap8] ∧ SrvOwn (w.heap.size + 3) [w1.heap.size] W [.string x.store.name, .slice a6 (setItemF x.store y).items.length c6, .int .i64 (setItemF x.store y).auto] (.slice lo (markI x.applied y.device y.seq).length lc) (.slice ao8 (x.changes.length + 1) cap8) ⟨setItemF x.store y, markI x.applied y.device y.seq, x.changes ++ [y]⟩ f6 ∧ Below w.heap.size w W) ⟨(HT8.out.setOther (by omega)).setOther (by omega), (HO8.out.setAt (i := 4) (by simp) rfl).setAt (by simp) rfl, SrvOwn.setApplied (K' := [w1.heap.size]) ((HW8.out.setK (by simp)).setK (by simp)) (DApplied.flat.setApart (DApplied.flat.setApart HFM8.out (fun hm => by have := hno hm; omega)) (fun hm => by have := hno hm; omega)) (fun b hb => ⟨List.mem_cons.2 (.inr hb), fun hm => by have := (hlm.out b hb).1; simp at hm; omega⟩) (fun k hk => by simp at hk; rw [hk]; simp), by have y := HB8.out; exact bEb⟩ ?_
       clear c_HO8 z_HO8 f_HO8
       clear HT8 HO8 HB8 HW8 HFM8 hno hKlt
       rintro wf ⟨ht7, ho7, hw7, hb7⟩
       have HT := Lib.hid ht7
       have HO := Lib.hid ho7
       have HW := Lib.hid hw7
       have HB := Lib.hid hb7
       clear ht7 ho7 hw7 hb7
       have ⟨c_HO, z_HO, f_HO⟩ := HO.out
       have ⟨c_HT, z_HT, f_HT⟩ := HT.out
       go_wp2
       refine bodyPost_ret (v := .tuple #[.agg #[.string x.store.name, .slice a6 (setItemF x.store y).items.length c6, .int .i64 (setItemF x.store y).auto, .slice lo (markI x.applied y.device y.seq).length lc, .slice ao8 (x.changes.length + 1) cap8], .int .i64 1]) (by simp [results, Tryz.results11, go_sem, c_HT]) rfl ⟨_, by rw [hN.out], ?_, ?_⟩
       ·rw [hF.out]
        have e : (x.changes.length + 1) = (receiveOut x y).changes.length := by simp [receiveOut]
        rw [e]
        have z : Fresh DServer.rep (w.heap.size + 3) wf [.string (receiveOut x y).store.name, .slice a6 (receiveOut x y).store.items.length c6, .int .i64 (receiveOut x y).store.auto, .slice lo (receiveOut x y).applied.length lc, .slice ao8 (receiveOut x y).changes.length cap8] (receiveOut x y) := by
         have hn : (receiveOut x y).store.name = x.store.name := setItem_name _ _
         have y' := HW.out
         rw [e] at y'
         exact SrvOwn.fresh (x := receiveOut x y) (by rw [hn]; exact y')
        rw [show (receiveOut x y).store.name = x.store.name from setItem_name _ _] at z
        exact (Fresh.mono (B := (w.heap.size + 3)) (by repeat (first | exact z | refine Fresh.setLow ?_ (by omega) | refine Fresh.drew ?_)) (by omega))
       ·have y := HB.out
        exact bEb

end Go.Proofs.YtlfebehpmefioaaGreat
