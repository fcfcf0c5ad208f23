/-
  impl.ReceiveWrite.
-/
import Derived.Test.YtlfebehpmefioaaGreatSrvFam
import Derived.Test.YtlfebehpmefioaaGreatItemFam2
import Derived.Test.YtlfebehpmefioaaGreatStoreCnt
import Derived.Test.YtlfebehpmefioaaGreatInsApplied
namespace Go.Proofs.YtlfebehpmefioaaGreat
open Go.RowKit

theorem setItem_fopen {B : Nat} {w : World} {cs : List Value} {s : DStore} {y : DWrite} (h : Fresh DStore.rep B w cs (setItemF s y)) :
    ∃ a1 c1, cs = [.string s.name, .slice a1 (setItemF s y).items.length c1, .int .i64 (setItemF s y).auto] := by
  obtain ⟨a1, c1, rfl, h1, _⟩ := DStore.fopen h
  exact ⟨a1, c1, by rw [setItem_name]⟩
theorem lastSeq_range {x : DServer} {d : Int} (h : isServerF x = true) : 0 ≤ lastSeqF x d ∧ lastSeqF x d ≤ 1000000 := by
  unfold lastSeqF
  rcases hf : x.applied.find? (atDevice d) with _ | a
  · simp
  · have hm := List.mem_of_find?_eq_some hf
    obtain ⟨j, hj, rfl⟩ := List.getElem_of_mem hm
    rw [isServerF, Bool.and_eq_true, List.all_eq_true] at h
    have h1 := h.1 j (List.mem_range.2 hj)
    rw [appOk_at hj] at h1
    simp only [Bool.and_eq_true, within, decide_eq_true_eq] at h1
    simpa using h1.2.1
theorem code_refused {x : DServer} {y : DWrite} (h : refused x y = true) : receiveCode x y = 4 := by unfold receiveCode; rw [if_pos h]
theorem refused_srv {x : DServer} {y : DWrite} (h : isServerF x = false) : refused x y = true := by unfold refused; rw [h]; rfl
theorem refused_wr {x : DServer} {y : DWrite} (h : isWriteF y = false) : refused x y = true := by unfold refused; rw [h]; simp
theorem code_old {x : DServer} {y : DWrite} (h : refused x y = false) (h2 : y.seq ≤ lastSeqF x y.device) : receiveCode x y = 2 := by unfold receiveCode; rw [if_neg (by rw [h]; simp), if_pos h2]
theorem code_gap {x : DServer} {y : DWrite} (h : refused x y = false) (h2 : ¬ y.seq ≤ lastSeqF x y.device) (h3 : wrap64 (lastSeqF x y.device + 1) < y.seq) : receiveCode x y = 3 := by unfold receiveCode; rw [if_neg (by rw [h]; simp), if_neg h2, if_pos h3]
theorem code_new {x : DServer} {y : DWrite} (h : refused x y = false) (h2 : ¬ y.seq ≤ lastSeqF x y.device) (h3 : ¬ wrap64 (lastSeqF x y.device + 1) < y.seq) : receiveCode x y = 1 := by unfold receiveCode; rw [if_neg (by rw [h]; simp), if_neg h2, if_neg h3]
theorem idx_none {l : List DApplied} {d : Int} (h : idxF (atDevice d) l = -1) : l.findIdx? (atDevice d) = none := by
  unfold idxF at h
  split at h
  · omega
  · assumption
theorem idx_some {l : List DApplied} {d : Int} {i : Nat} (h : idxF (atDevice d) l = (i : Int)) : l.findIdx? (atDevice d) = some i := by
  unfold idxF at h
  split at h
  · rename_i j hj
    rw [hj]; congr 1; omega
  · omega
theorem markI_none {l : List DApplied} {d q : Int} (h : idxF (atDevice d) l = -1) {k : Nat} (hk : lead (deviceLess d) l = k) : markI l d q = insAt l k ⟨d, q⟩ := by unfold markI markNew; rw [idx_none h, hk]
theorem markI_some {l : List DApplied} {d q : Int} {i : Nat} (hi : i < l.length) (h : idxF (atDevice d) l = (i : Int)) : markI l d q = l.set i ⟨l[i].device, q⟩ := by unfold markI; rw [idx_some h]; simp only [markAt, List.getElem?_eq_getElem hi]
theorem full_none {x : DServer} {d : Int} (h : idxF (atDevice d) x.applied = -1) : fullFor x d = decide (60 ≤ x.applied.length) := by unfold fullFor; rw [idx_none h]; rfl
theorem full_some {x : DServer} {d : Int} {i : Nat} (h : idxF (atDevice d) x.applied = (i : Int)) : fullFor x d = false := by unfold fullFor; rw [idx_some h]; rfl
theorem refused_full {x : DServer} {y : DWrite} (h : isServerF x = true) (h1 : isWriteF y = true) : refused x y = fullFor x y.device := by unfold refused; rw [h, h1]; rfl
theorem receiveF_new {x : DServer} {y : DWrite} (h : receiveCode x y = 1) : receiveF x y = receiveOut x y := by unfold receiveF; rw [if_pos h]
attribute [local irreducible] isServerF isWriteF setItemF setItemB receiveCode lastSeqF markI markS

theorem WB.sets3 {w : World} {k : Nat} {a b c d e a' b' c' : Value} (h : WB w k #[a, b, c, d, e]) : WB (((w.setCell ⟨k, 0, none⟩ a').setCell ⟨k, 1, none⟩ b').setCell ⟨k, 2, none⟩ c') k #[a', b', c', d, e] :=
  WB.sets [a', b', c'] 0 w _ h (by simp)

set_option maxRecDepth 100000 in
set_option maxHeartbeats 16000000 in
theorem implReceiveWrite (cs cy : List Value) (x : DServer) (y : DWrite) (w : World) (h : Reads DServer.rep w cs x) (h' : Reads DWrite.rep w cy y) (hs : SmallServer x 1048990) :
    Calls Tryz.prog 10 #[.agg cs.toArray, .agg cy.toArray] w fun e w' => ∃ ds, e = .returned (.tuple #[.agg ds.toArray, .int .i64 (receiveCode x y)]) ∧ Fresh DServer.rep w.heap.size w' ds (receiveF x y) ∧ Below w.heap.size w w' := by
  have HS := Lib.hid h
  obtain ⟨fp_q, h⟩ := h
  obtain ⟨q_v1, q_v2, q_v3, q_f1, q_f2, q_f3, rfl, _, q_s0, q_r1, q_r2, q_r3⟩ := DServer.rd.1 h
  obtain ⟨q_a1, q_c1, rfl, q_hm1, q_lc1, q_hu1⟩ := slice_open q_r1; clear q_hu1
  have q_K1 : Hid (Reads (Rep.slice 71 DItem.rep) w [.slice q_a1 x.store.items.length q_c1] x.store.items) := ⟨_, q_r1⟩
  obtain ⟨q_a2, q_c2, rfl, q_hm2, q_lc2, q_hu2⟩ := slice_open q_r2; clear q_hu2
  have q_K2 : Hid (Reads (Rep.slice 89 DApplied.rep) w [.slice q_a2 x.applied.length q_c2] x.applied) := ⟨_, q_r2⟩
  obtain ⟨q_a3, q_c3, rfl, q_hm3, q_lc3, q_hu3⟩ := slice_open q_r3; clear q_hu3
  have q_K3 : Hid (Reads (Rep.slice 34 DWrite.rep) w [.slice q_a3 x.changes.length q_c3] x.changes) := ⟨_, q_r3⟩
  clear q_r1 q_r2 q_r3 h
  obtain ⟨fy, hy⟩ := h'
  obtain ⟨rfl, _, hyt, hyf⟩ := DWrite.rd.1 hy
  clear hy
  have HYr : Hid (∀ W, Reads DWrite.rep W [.int .i64 y.device, .int .i64 y.seq, .int .i64 y.key.kind, .int .i64 y.key.n, .string y.key.text, .string y.field, .int .i64 y.n] y) := Lib.hid fun W => ⟨[], DWrite.rd.2 ⟨rfl, rfl, hyt, hyf⟩⟩
  have hs1 := hs.applied
  have hs2 := hs.changes
  obtain ⟨i0, hi0, hz0, hz1, hz2⟩ := info_parts infoApplied
  obtain ⟨j0, hj0, hy0, hy1, hy2⟩ := info_parts infoWrite
  go_enter Tryz.func10, Tryz.ntmps10
  go_wp2_with fail
  refine (implCopyServer _ x _ (HS.out.below bEl) (hs.mono (by omega))).mono ?_
  rintro e w1 ⟨ds, rfl, hf, hb⟩
  obtain ⟨a1, c1, a2, c2, a3, c3, f0, rfl, hown⟩ := SrvOwn.of_fresh (hf.mono (B' := w.heap.size + 3) (by simp)) [w1.heap.size] (by simp)
  have HX : Hid (WB w1 w.heap.size #[.string x.store.name, .slice q_a1 x.store.items.length q_c1, .int .i64 x.store.auto, .slice q_a2 x.applied.length q_c2, .slice q_a3 x.changes.length q_c3]) := Lib.hid ((((WB.at rfl).growA).growA).keep hb)
  have HY : Hid (WB w1 (w.heap.size + 1) #[.int .i64 y.device, .int .i64 y.seq, .int .i64 y.key.kind, .int .i64 y.key.n, .string y.key.text, .string y.field, .int .i64 y.n]) := Lib.hid (((WB.at (by simp)).growA).keep hb)
  have HT : Hid (WB w1 (w.heap.size + 2) #[.string ⟨#[]⟩, .slice none 0 0, .int .i64 0, .slice none 0 0, .slice none 0 0]) := Lib.hid ((WB.at (by simp)).keep hb)
  have HB : Hid (Below w.heap.size w w1) := Lib.hid (below_call bEl bSz hb)
  have hz : w.heap.size + 3 ≤ w1.heap.size := by have y := hb.size; simp at y; omega
  clear hb hf
  have ⟨c_HX, z_HX, f_HX⟩ := HX.out
  have ⟨c_HY, z_HY, f_HY⟩ := HY.out
  go_wp2_with fail
  refine (implDeviceAt _ x y.device _ (HS.out.below (HB.out.trans (Below.mono (B := w1.heap.size) bEb (by omega))))).mono ?_
  rintro e w2 ⟨rfl, hb⟩
  have hq : Below w1.heap.size w1 w2 := below_call bEl bSz hb
  have HO : Hid (WB w2 w1.heap.size #[.string x.store.name, .slice a1 x.store.items.length c1, .int .i64 x.store.auto, .slice a2 x.applied.length c2, .slice a3 x.changes.length c3]) := Lib.hid ((WB.at rfl).keep hb)
  have HW : Hid (SrvOwn (w.heap.size + 3) [w1.heap.size] w2 [.string x.store.name, .slice a1 x.store.items.length c1, .int .i64 x.store.auto] (.slice a2 x.applied.length c2) (.slice a3 x.changes.length c3) x f0) := Lib.hid (hown.growA.below hb)
  have hsz2 : w1.heap.size + 1 ≤ w2.heap.size := by have y := hb.size; simp at y; omega
  clear c_HX z_HX f_HX c_HY z_HY f_HY
  replace HX := Lib.hid (HX.out.keep hq)
  replace HY := Lib.hid (HY.out.keep hq)
  replace HT := Lib.hid (HT.out.keep hq)
  replace HB := Lib.hid (HB.out.trans (hq.mono HB.out.size))
  clear hb hq hown
  have ⟨c_HX, z_HX, f_HX⟩ := HX.out
  have ⟨c_HY, z_HY, f_HY⟩ := HY.out
  go_wp2_with fail
  refine (implLastSeq _ x y.device _ (HS.out.below HB.out)).mono ?_
  rintro e w3 ⟨rfl, hb⟩
  clear c_HX z_HX f_HX c_HY z_HY f_HY
  have hz3 := hb.size
  replace HX := Lib.hid (HX.out.keep hb)
  replace HY := Lib.hid (HY.out.keep hb)
  replace HT := Lib.hid (HT.out.keep hb)
  replace HO := Lib.hid (HO.out.keep hb)
  replace HB := Lib.hid (HB.out.trans (hb.mono HB.out.size))
  replace HW := Lib.hid (HW.out.below hb)
  clear hb
  have ⟨c_HX, z_HX, f_HX⟩ := HX.out
  have ⟨c_HY, z_HY, f_HY⟩ := HY.out
  go_wp2_with fail
  refine (implIsServer _ x _ (HS.out.below HB.out)).mono ?_
  rintro e w4 ⟨rfl, hb⟩
  clear c_HX z_HX f_HX c_HY z_HY f_HY
  have hz4 := hb.size
  replace HX := Lib.hid (HX.out.keep hb)
  replace HY := Lib.hid (HY.out.keep hb)
  replace HT := Lib.hid (HT.out.keep hb)
  replace HO := Lib.hid (HO.out.keep hb)
  replace HB := Lib.hid (HB.out.trans (hb.mono HB.out.size))
  replace HW := Lib.hid (HW.out.below hb)
  clear hb
  have ⟨c_HX, z_HX, f_HX⟩ := HX.out
  have ⟨c_HY, z_HY, f_HY⟩ := HY.out
  have ⟨c_HT, z_HT, f_HT⟩ := HT.out
  have ⟨c_HO, z_HO, f_HO⟩ := HO.out
  cases b0 : isServerF x
  · have hN : Hid (receiveCode x y = 4) := Lib.hid (code_refused (refused_srv b0))
    have hF : Hid (receiveF x y = x) := Lib.hid (by rw [receiveF, hN.out]; rfl)
    go_wp2
    refine bodyPost_ret (v := .tuple #[.agg #[.string x.store.name, .slice a1 x.store.items.length c1, .int .i64 x.store.auto, .slice a2 x.applied.length c2, .slice a3 x.changes.length c3], .int .i64 4]) (by simp [results, Tryz.results10, go_sem, c_HT]) rfl ⟨_, by rw [hN.out], ?_, ?_⟩
    · rw [hF.out]
      exact (Fresh.mono (B := (w.heap.size + 3)) (by repeat (first | exact HW.out.fresh | refine Fresh.setLow ?_ (by omega) | refine Fresh.drew ?_)) (by omega))
    · have y := HB.out
      exact bEb
  · have a0 := Lib.hid b0
    clear b0
    go_wp2_with fail
    refine (implIsQueuedWrite _ y _ (HYr.out _)).mono ?_
    rintro e w5 ⟨rfl, hb⟩
    clear c_HX z_HX f_HX c_HY z_HY f_HY c_HT z_HT f_HT c_HO z_HO f_HO
    have hz5 := hb.size
    replace HX := Lib.hid (HX.out.keep hb)
    replace HY := Lib.hid (HY.out.keep hb)
    replace HT := Lib.hid (HT.out.keep hb)
    replace HO := Lib.hid (HO.out.keep hb)
    replace HB := Lib.hid (HB.out.trans (hb.mono HB.out.size))
    replace HW := Lib.hid (HW.out.below hb)
    clear hb
    have ⟨c_HX, z_HX, f_HX⟩ := HX.out
    have ⟨c_HY, z_HY, f_HY⟩ := HY.out
    have ⟨c_HT, z_HT, f_HT⟩ := HT.out
    have ⟨c_HO, z_HO, f_HO⟩ := HO.out
    cases b1 : isWriteF y
    · have hN : Hid (receiveCode x y = 4) := Lib.hid (code_refused (refused_wr b1))
      have hF : Hid (receiveF x y = x) := Lib.hid (by rw [receiveF, hN.out]; rfl)
      go_wp2
      refine bodyPost_ret (v := .tuple #[.agg #[.string x.store.name, .slice a1 x.store.items.length c1, .int .i64 x.store.auto, .slice a2 x.applied.length c2, .slice a3 x.changes.length c3], .int .i64 4]) (by simp [results, Tryz.results10, go_sem, c_HT]) rfl ⟨_, by rw [hN.out], ?_, ?_⟩
      · rw [hF.out]
        exact (Fresh.mono (B := (w.heap.size + 3)) (by repeat (first | exact HW.out.fresh | refine Fresh.setLow ?_ (by omega) | refine Fresh.drew ?_)) (by omega))
      · have y := HB.out
        exact bEb
    · have a1' := Lib.hid b1
      clear b1
      have hrg := lastSeq_range (d := y.device) a0.out
      have hw : IntKind.i64.wrap (lastSeqF x y.device + 1) = lastSeqF x y.device + 1 := Go.IntWalk.i64_in _ (by omega)
      have hwE := Lib.hid (Go.IntWalk.wrap64_in (lastSeqF x y.device + 1) (by omega))
      have hcase : (Hid (receiveCode x y = 4) ∧ idxF (atDevice y.device) x.applied = -1 ∧ 60 ≤ x.applied.length) ∨ (Hid (refused x y = false) ∧ ((idxF (atDevice y.device) x.applied = -1 ∧ ¬ 60 ≤ x.applied.length) ∨ ∃ i : Nat, ∃ _ : i < x.applied.length, idxF (atDevice y.device) x.applied = (i : Int))) := by
        rcases idxF_cases (atDevice y.device) x.applied with ⟨he, _⟩ | ⟨i, hi, he, _, _⟩
        · by_cases h60 : 60 ≤ x.applied.length
          · exact .inl ⟨Lib.hid (code_refused (by rw [refused_full a0.out a1'.out, full_none he]; exact decide_eq_true h60)), he, h60⟩
          · exact .inr ⟨Lib.hid (by rw [refused_full a0.out a1'.out, full_none he]; exact decide_eq_false h60), .inl ⟨he, h60⟩⟩
        · exact .inr ⟨Lib.hid (by rw [refused_full a0.out a1'.out, full_some he]), .inr ⟨i, hi, he⟩⟩
      rcases hcase with ⟨hN, he, h60⟩ | ⟨hR, hidx⟩
      · rw [he]
        clear he
        have hF : Hid (receiveF x y = x) := Lib.hid (by rw [receiveF, hN.out]; rfl)
        go_wp2
        refine bodyPost_ret (v := .tuple #[.agg #[.string x.store.name, .slice a1 x.store.items.length c1, .int .i64 x.store.auto, .slice a2 x.applied.length c2, .slice a3 x.changes.length c3], .int .i64 4]) (by simp [results, Tryz.results10, go_sem, c_HT]) rfl ⟨_, by rw [hN.out], ?_, ?_⟩
        · rw [hF.out]
          exact (Fresh.mono (B := (w.heap.size + 3)) (by repeat (first | exact HW.out.fresh | refine Fresh.setLow ?_ (by omega) | refine Fresh.drew ?_)) (by omega))
        · have y := HB.out
          exact bEb
      · by_cases h2 : y.seq ≤ lastSeqF x y.device
        · have hN : Hid (receiveCode x y = 2) := Lib.hid (code_old hR.out h2)
          rcases hidx with ⟨he, h60⟩ | ⟨i, hi, he⟩
          · rw [he]
            have hF : Hid (receiveF x y = x) := Lib.hid (by rw [receiveF, hN.out]; rfl)
            go_wp2
            refine bodyPost_ret (v := .tuple #[.agg #[.string x.store.name, .slice a1 x.store.items.length c1, .int .i64 x.store.auto, .slice a2 x.applied.length c2, .slice a3 x.changes.length c3], .int .i64 2]) (by simp [results, Tryz.results10, go_sem, c_HT]) rfl ⟨_, by rw [hN.out], ?_, ?_⟩
            · rw [hF.out]
              exact (Fresh.mono (B := (w.heap.size + 3)) (by repeat (first | exact HW.out.fresh | refine Fresh.setLow ?_ (by omega) | refine Fresh.drew ?_)) (by omega))
            · have y := HB.out
              exact bEb
          · rw [he]
            have hF : Hid (receiveF x y = x) := Lib.hid (by rw [receiveF, hN.out]; rfl)
            go_wp2
            refine bodyPost_ret (v := .tuple #[.agg #[.string x.store.name, .slice a1 x.store.items.length c1, .int .i64 x.store.auto, .slice a2 x.applied.length c2, .slice a3 x.changes.length c3], .int .i64 2]) (by simp [results, Tryz.results10, go_sem, c_HT]) rfl ⟨_, by rw [hN.out], ?_, ?_⟩
            · rw [hF.out]
              exact (Fresh.mono (B := (w.heap.size + 3)) (by repeat (first | exact HW.out.fresh | refine Fresh.setLow ?_ (by omega) | refine Fresh.drew ?_)) (by omega))
            · have y := HB.out
              exact bEb
        · by_cases h3 : lastSeqF x y.device + 1 < y.seq
          · have hN : Hid (receiveCode x y = 3) := Lib.hid (code_gap hR.out h2 (by rw [hwE.out]; exact h3))
            rcases hidx with ⟨he, h60⟩ | ⟨i, hi, he⟩
            · rw [he]
              have hF : Hid (receiveF x y = x) := Lib.hid (by rw [receiveF, hN.out]; rfl)
              go_wp2
              refine bodyPost_ret (v := .tuple #[.agg #[.string x.store.name, .slice a1 x.store.items.length c1, .int .i64 x.store.auto, .slice a2 x.applied.length c2, .slice a3 x.changes.length c3], .int .i64 3]) (by simp [results, Tryz.results10, go_sem, c_HT]) rfl ⟨_, by rw [hN.out], ?_, ?_⟩
              · rw [hF.out]
                exact (Fresh.mono (B := (w.heap.size + 3)) (by repeat (first | exact HW.out.fresh | refine Fresh.setLow ?_ (by omega) | refine Fresh.drew ?_)) (by omega))
              · have y := HB.out
                exact bEb
            · rw [he]
              have hF : Hid (receiveF x y = x) := Lib.hid (by rw [receiveF, hN.out]; rfl)
              go_wp2
              refine bodyPost_ret (v := .tuple #[.agg #[.string x.store.name, .slice a1 x.store.items.length c1, .int .i64 x.store.auto, .slice a2 x.applied.length c2, .slice a3 x.changes.length c3], .int .i64 3]) (by simp [results, Tryz.results10, go_sem, c_HT]) rfl ⟨_, by rw [hN.out], ?_, ?_⟩
              · rw [hF.out]
                exact (Fresh.mono (B := (w.heap.size + 3)) (by repeat (first | exact HW.out.fresh | refine Fresh.setLow ?_ (by omega) | refine Fresh.drew ?_)) (by omega))
              · have y := HB.out
                exact bEb
          · have hN : Hid (receiveCode x y = 1) := Lib.hid (code_new hR.out h2 (by rw [hwE.out]; exact h3))
            have hF := Lib.hid (receiveF_new hN.out)
            rcases hidx with ⟨he, h60⟩ | ⟨i, hi, he⟩
            · have HE0 := Lib.hid he
              rw [he]
              clear he
              go_wp2_with fail
              refine (implSetItemField _ _ x.store y _ HW.out.reads (HYr.out _) hs.store).mono ?_
              rintro e w6 ⟨ds, rfl, hf, hb⟩
              obtain ⟨a6, c6, rfl⟩ := setItem_fopen hf
              obtain ⟨f6, hown6⟩ := SrvOwn.store HW.out hf hb (Nat.le_refl _) (by simp; omega) (by omega)
              clear c_HX z_HX f_HX c_HY z_HY f_HY c_HT z_HT f_HT c_HO z_HO f_HO
              have hz6 := hb.size
              replace HX := Lib.hid (HX.out.keep hb)
              replace HY := Lib.hid (HY.out.keep hb)
              replace HT := Lib.hid (HT.out.keep hb)
              replace HO := Lib.hid (HO.out.keep hb)
              replace HB := Lib.hid (HB.out.trans (hb.mono HB.out.size))
              clear hf hb HW
              have ⟨c_HX, z_HX, f_HX⟩ := HX.out
              have ⟨c_HY, z_HY, f_HY⟩ := HY.out
              have ⟨c_HO, z_HO, f_HO⟩ := HO.out
              go_upto_region 11 with fail
              refine settle (fun W => WB W (w.heap.size + 1) #[.int .i64 y.device, .int .i64 y.seq, .int .i64 y.key.kind, .int .i64 y.key.n, .string y.key.text, .string y.field, .int .i64 y.n] ∧ WB W (w.heap.size + 2) #[.string ⟨#[]⟩, .slice none 0 0, .int .i64 0, .slice none 0 0, .slice none 0 0] ∧ WB W w1.heap.size #[.string x.store.name, .slice a6 (setItemF x.store y).items.length c6, .int .i64 (setItemF x.store y).auto, .slice a2 x.applied.length c2, .slice a3 x.changes.length c3] ∧ SrvOwn (w.heap.size + 3) [w1.heap.size] W [.string x.store.name, .slice a6 (setItemF x.store y).items.length c6, .int .i64 (setItemF x.store y).auto] (.slice a2 x.applied.length c2) (.slice a3 x.changes.length c3) ⟨setItemF x.store y, x.applied, x.changes⟩ f6 ∧ Below w.heap.size w W ∧ w6.heap.size ≤ W.heap.size) ⟨((HY.out.setOther (by omega)).setOther (by omega)).setOther (by omega), ((HT.out.setOther (by omega)).setOther (by omega)).setOther (by omega), HO.out.sets3, ((hown6.setK (by simp)).setK (by simp)).setK (by simp), by have y := HB.out; exact bEb, by simp⟩ ?_
              clear c_HX z_HX f_HX c_HY z_HY f_HY c_HO z_HO f_HO
              clear HX HY HT HO HB hown6
              rintro w7 ⟨hy7, ht7, ho7, hw7, hb7, hz7⟩
              have HY := Lib.hid hy7
              have HT := Lib.hid ht7
              have HO := Lib.hid ho7
              have HW := Lib.hid hw7
              have HB := Lib.hid hb7
              clear hy7 ht7 ho7 hw7 hb7
              have ⟨c_HY, z_HY, f_HY⟩ := HY.out
              have ⟨c_HO, z_HO, f_HO⟩ := HO.out
              go_wp2_with (at_builtin; refine DWrite.flat.grow3 _ rfl _ _ 28 28 rfl (w.heap.size + 3) 34 j0 _ _ Tryz.underlying28 Tryz.underlying28 hj0 hy0 hy1 hy2 rfl _ x.changes rfl (freshA HW.out.ch) _ [y] rfl (DWrite.flat.one_reads rfl rfl ⟨hyt, hyf⟩) (x.changes.length + 1) ?c1 ?c2 ?c3 ?c4 ?_)
              case c1 => rfl
              case c2 => omega
              case c3 => decide
              case c4 => simp; omega
              intro ao8 cap8 w8 hf8 hc8 hb8 hv8
              have hown8 := SrvOwn.changes (v3' := .slice ao8 (x.changes.length + 1) cap8) HW.out.growA hc8 hf8 (fun b hb => by
                rcases hv8 b (by first | exact hb | simpa using hb) with h | h
                · exact .inl (by first | exact h | simpa using h)
                · right; first | omega | (simp at h ⊢; omega)) (by simp; omega)
              have hq8 : Below (w.heap.size + 3) w7 w8 := Below.trans bEb hb8
              have hz8 := hq8.size
              clear c_HY z_HY f_HY c_HO z_HO f_HO
              have HY8 := Lib.hid (HY.out.grow hq8 (by omega))
              have HT8 := Lib.hid (HT.out.grow hq8 (by omega))
              have HO8 : Hid (WB w8 w1.heap.size #[.string x.store.name, .slice a6 (setItemF x.store y).items.length c6, .int .i64 (setItemF x.store y).auto, .slice a2 x.applied.length c2, .slice a3 x.changes.length c3]) := Lib.hid (HO.out.growA.chg hc8 (fun hm => (HW.out.chk _ (by first | exact hm | simpa using hm)).1 (by simp)))
              have HB8 := Lib.hid (HB.out.trans (hq8.mono (by omega)))
              have HW8 := Lib.hid hown8
              clear hf8 hc8 hb8 hv8 hq8 hown8 HY HT HO HB HW
              have ⟨c_HY8, z_HY8, f_HY8⟩ := HY8.out
              have ⟨c_HO8, z_HO8, f_HO8⟩ := HO8.out
              go_upto_region 12 with fail
              refine settle (fun W => WB W (w.heap.size + 1) #[.int .i64 y.device, .int .i64 y.seq, .int .i64 y.key.kind, .int .i64 y.key.n, .string y.key.text, .string y.field, .int .i64 y.n] ∧ WB W (w.heap.size + 2) #[.string ⟨#[]⟩, .slice none 0 0, .int .i64 0, .slice none 0 0, .slice none 0 0] ∧ WB W w1.heap.size #[.string x.store.name, .slice a6 (setItemF x.store y).items.length c6, .int .i64 (setItemF x.store y).auto, .slice a2 x.applied.length c2, .slice ao8 (x.changes.length + 1) cap8] ∧ SrvOwn (w.heap.size + 3) [w1.heap.size] W [.string x.store.name, .slice a6 (setItemF x.store y).items.length c6, .int .i64 (setItemF x.store y).auto] (.slice a2 x.applied.length c2) (.slice ao8 (x.changes.length + 1) cap8) ⟨setItemF x.store y, x.applied, x.changes ++ [y]⟩ f6 ∧ Below w.heap.size w W ∧ w8.heap.size ≤ W.heap.size) ⟨HY8.out.setOther (by omega), HT8.out.setOther (by omega), HO8.out.setAt (by simp) rfl, HW8.out.setK (by simp), by have y := HB8.out; exact bEb, by simp⟩ ?_
              clear c_HY8 z_HY8 f_HY8 c_HO8 z_HO8 f_HO8
              clear HY8 HT8 HO8 HB8 HW8
              rintro w9 ⟨hy7, ht7, ho7, hw7, hb7, hz9⟩
              have HY := Lib.hid hy7
              have HT := Lib.hid ht7
              have HO := Lib.hid ho7
              have HW := Lib.hid hw7
              have HB := Lib.hid hb7
              clear hy7 ht7 ho7 hw7 hb7
              have ⟨c_HY, z_HY, f_HY⟩ := HY.out
              have ⟨c_HO, z_HO, f_HO⟩ := HO.out
              go_wp2
              go_loopw [9] (fun i wr => ∃ a : Nat, a ≤ x.applied.length ∧ i = .int .i64 a ∧ Hid (∀ j, (hj : j < x.applied.length) → j < a → deviceLess y.device x.applied[j] = true) ∧ Below w9.heap.size w9 wr) (fun i _ => x.applied.length - (intOf i).toNat)
              case atStart => exact ⟨0, by omega, rfl, Lib.hid (by intro j hj h; omega), belR⟩
              case round =>
                obtain ⟨a, ha, rfl, HA, hb⟩ := hrel
                clear c_HY z_HY f_HY c_HO z_HO f_HO
                have hsr := hb.size
                replace HY := Lib.hid (HY.out.keep hb)
                replace HT := Lib.hid (HT.out.keep hb)
                replace HO := Lib.hid (HO.out.keep hb)
                replace HB := Lib.hid (HB.out.trans (hb.mono HB.out.size))
                replace HW := Lib.hid (HW.out.below hb)
                have HQ := Lib.hid hb
                clear hb
                have ⟨c_HY, z_HY, f_HY⟩ := HY.out
                have ⟨c_HO, z_HO, f_HO⟩ := HO.out
                have hstop : (Hid (∀ h : a < x.applied.length, deviceLess y.device x.applied[a] = false)) ∨ ∃ h : a < x.applied.length, deviceLess y.device x.applied[a] = true := by
                  by_cases h1 : a < x.applied.length
                  · cases h2 : deviceLess y.device x.applied[a]
                    · exact .inl (Lib.hid fun _ => h2)
                    · exact .inr ⟨h1, h2⟩
                  · exact .inl (Lib.hid fun h => absurd h h1)
                have j1 : (0 : Int) ≤ (a : Int) := by omega
                rcases hstop with HN | ⟨hlt', hle⟩
                · have HL := Lib.hid (lead_eq ha HA.out HN.out)
                  have HE2 := Lib.hid (markI_none (q := y.seq) HE0.out HL.out)
                  clear HL HA HQ
                  go_upto_region 15 with fail
                  go_cut [91] from 76 to 93 (fun v wx => v = .bool false ∧ Below wr.heap.size wr wx)
                  case first =>
                    by_cases hkl : a < x.applied.length
                    · obtain ⟨b, off, cs_b, rfl, hw_b, hr_b, hcell_b⟩ := slice_at HW.out.ap.reads a hkl
                      obtain ⟨fe_b, hrd_b⟩ := hr_b
                      have HR_b : Hid (Reads DApplied.rep wr cs_b x.applied[a]) := ⟨_, hrd_b⟩
                      obtain ⟨rfl, _⟩ := DApplied.rd.1 hrd_b
                      clear hrd_b
                      have b_c0 : wr.cell? ⟨b, off + a * 2, none⟩ = some (.int .i64 x.applied[a].device) := hcell_b 0 (by decide)
                      have b_c1 : wr.cell? ⟨b, off + a * 2 + 1, none⟩ = some (.int .i64 x.applied[a].seq) := hcell_b 1 (by decide)
                      clear hcell_b
                      clear HR_b
                      have i2 : (a : Int) < (x.applied.length : Int) := by omega
                      have n5 : decide (x.applied[a].device < y.device) = false := HN.out hkl
                      have n6 : decide (a < x.applied.length) = true := decide_eq_true hkl
                      go_wp2_with fail
                      have K0 := rg_var HO.out
                      have K1 := rg_var HY.out
                      have C3 := rg_cell b_c0
                      refine wp_region_rg (by kernel_rfl) (by kernel_rfl) ?_
                      repeat (go_big_quiet_step (fail))
                      refine wpQuiet_nil ?_
                      rintro _ ⟨pq, rfl⟩
                      have hb := rg_below wr pq
                      go_wp2_with fail
                      go_meet
                      exact ⟨rfl, hb⟩
                    · have n6 : decide (a < x.applied.length) = false := decide_eq_false hkl
                      go_wp2_with fail
                      have K0 := rg_var HO.out
                      have K1 := rg_var HY.out
                      refine wp_region_rg (by kernel_rfl) (by kernel_rfl) ?_
                      repeat (go_big_quiet_step (fail))
                      refine wpQuiet_nil ?_
                      rintro _ ⟨pq, rfl⟩
                      have hb := rg_below wr pq
                      go_wp2_with fail
                      go_meet
                      exact ⟨rfl, hb⟩
                  case rest =>
                    obtain ⟨rfl, hb⟩ := hcut
                    obtain ⟨wx, hwx⟩ : ∃ wx : World, wx = wc := ⟨_, rfl⟩
                    subst hwx
                    clear c_HY z_HY f_HY c_HO z_HO f_HO
                    have hsx := hb.size
                    replace HY := Lib.hid (HY.out.keep hb)
                    replace HT := Lib.hid (HT.out.keep hb)
                    replace HO := Lib.hid (HO.out.keep hb)
                    replace HB := Lib.hid (HB.out.trans (hb.mono HB.out.size))
                    replace HW := Lib.hid (HW.out.below hb)
                    clear hb
                    have ⟨c_HY, z_HY, f_HY⟩ := HY.out
                    have ⟨c_HO, z_HO, f_HO⟩ := HO.out
                    go_wp2_with fail
                    refine (insertApplied _ x.applied ⟨y.device, y.seq⟩ [.int .i64 y.device, .int .i64 y.seq] _ a (w.heap.size + 3) wx.heap.size _ _ (partA (HW.out.ap.partAt (Nat.le_refl _))) ⟨[], DApplied.rd.2 ⟨rfl, rfl⟩, by simp, by simp⟩ (by omega) bSz (by omega) ha (heap_alloc_new wx _) (fun hm => by have := HW.out.ap.ownlt _ hm; omega)).mono ?_
                    rintro e w4' ⟨ao4, cap4, rfl, hf4, hc4, hv4⟩
                    have hown4 := SrvOwn.applied (v2' := .slice ao4 (x.applied.length + 1) cap4) HW.out.growA hc4 hf4 hv4 (by simp; omega)
                    have HT4 := Lib.hid (HT.out.growA.chg hc4 (fun hm => by have := HW.out.ap.ownlt _ hm; omega))
                    have HO4 := Lib.hid (HO.out.growA.chg hc4 (fun hm => (HW.out.apk _ hm).1 (by simp)))
                    have HB4 : Hid (Below w.heap.size w w4') := Lib.hid ((Below.trans (by have y := HB.out; exact bEb) (hc4.below (B := w.heap.size) (fun b hm => by have := HW.out.ap.ownlt b hm; omega) (by simp; omega))))
                    clear c_HY z_HY f_HY c_HO z_HO f_HO
                    clear hf4 hc4 hv4
                    have ⟨c_HO4, z_HO4, f_HO4⟩ := HO4.out
                    go_upto_region 18 with fail
                    have el : (markI x.applied y.device y.seq).length = x.applied.length + 1 := by rw [HE2.out]; exact insAt_length ha _
                    refine settle (fun W => WB W (w.heap.size + 2) #[.string ⟨#[]⟩, .slice none 0 0, .int .i64 0, .slice none 0 0, .slice none 0 0] ∧ WB W w1.heap.size #[.string x.store.name, .slice a6 (setItemF x.store y).items.length c6, .int .i64 (setItemF x.store y).auto, .slice ao4 (markI x.applied y.device y.seq).length cap4, .slice ao8 (x.changes.length + 1) cap8] ∧ SrvOwn (w.heap.size + 3) [w1.heap.size] W [.string x.store.name, .slice a6 (setItemF x.store y).items.length c6, .int .i64 (setItemF x.store y).auto] (.slice ao4 (markI x.applied y.device y.seq).length cap4) (.slice ao8 (x.changes.length + 1) cap8) ⟨setItemF x.store y, markI x.applied y.device y.seq, x.changes ++ [y]⟩ f6 ∧ Below w.heap.size w W) ⟨HT4.out.setOther (by omega), by rw [el]; exact HO4.out.setAt (by simp) rfl, by rw [el, HE2.out]; exact hown4.setK (by simp), by have y := HB4.out; exact bEb⟩ ?_
                    clear c_HO4 z_HO4 f_HO4
                    clear HY HT HO HW HB HT4 HO4 HB4 hown4 HE2 el
                    rintro wf ⟨ht7, ho7, hw7, hb7⟩
                    have HT := Lib.hid ht7
                    have HO := Lib.hid ho7
                    have HW := Lib.hid hw7
                    have HB := Lib.hid hb7
                    clear ht7 ho7 hw7 hb7
                    have ⟨c_HO, z_HO, f_HO⟩ := HO.out
                    have ⟨c_HT, z_HT, f_HT⟩ := HT.out
                    go_wp2
                    refine bodyPost_ret (v := .tuple #[.agg #[.string x.store.name, .slice a6 (setItemF x.store y).items.length c6, .int .i64 (setItemF x.store y).auto, .slice ao4 (markI x.applied y.device y.seq).length cap4, .slice ao8 (x.changes.length + 1) cap8], .int .i64 1]) (by simp [results, Tryz.results10, go_sem, c_HT]) rfl ⟨_, by rw [hN.out], ?_, ?_⟩
                    · rw [hF.out]
                      have e : (x.changes.length + 1) = (receiveOut x y).changes.length := by simp [receiveOut]
                      rw [e]
                      have z : Fresh DServer.rep (w.heap.size + 3) wf [.string (receiveOut x y).store.name, .slice a6 (receiveOut x y).store.items.length c6, .int .i64 (receiveOut x y).store.auto, .slice ao4 (receiveOut x y).applied.length cap4, .slice ao8 (receiveOut x y).changes.length cap8] (receiveOut x y) := by
                        have hn : (receiveOut x y).store.name = x.store.name := setItem_name _ _
                        have y' := HW.out
                        rw [e] at y'
                        exact SrvOwn.fresh (x := receiveOut x y) (by rw [hn]; exact y')
                      rw [show (receiveOut x y).store.name = x.store.name from setItem_name _ _] at z
                      exact (Fresh.mono (B := (w.heap.size + 3)) (by repeat (first | exact z | refine Fresh.setLow ?_ (by omega) | refine Fresh.drew ?_)) (by omega))
                    · have y := HB.out
                      exact bEb
                · obtain ⟨b, off, cs_b, rfl, hw_b, hr_b, hcell_b⟩ := slice_at HW.out.ap.reads a hlt'
                  obtain ⟨fe_b, hrd_b⟩ := hr_b
                  have HR_b : Hid (Reads DApplied.rep wr cs_b x.applied[a]) := ⟨_, hrd_b⟩
                  obtain ⟨rfl, _⟩ := DApplied.rd.1 hrd_b
                  clear hrd_b
                  have b_c0 : wr.cell? ⟨b, off + a * 2, none⟩ = some (.int .i64 x.applied[a].device) := hcell_b 0 (by decide)
                  have b_c1 : wr.cell? ⟨b, off + a * 2 + 1, none⟩ = some (.int .i64 x.applied[a].seq) := hcell_b 1 (by decide)
                  clear hcell_b
                  clear HR_b
                  have i2 : (a : Int) < (x.applied.length : Int) := by omega
                  have n5 : decide (x.applied[a].device < y.device) = true := hle
                  have n6 : decide (a < x.applied.length) = true := decide_eq_true hlt'
                  go_wp2_with fail
                  have K0 := rg_var HO.out
                  have K1 := rg_var HY.out
                  have C3 := rg_cell b_c0
                  refine wp_region_rg (by kernel_rfl) (by kernel_rfl) ?_
                  repeat (go_big_quiet_step (fail))
                  refine wpQuiet_nil ?_
                  rintro _ ⟨pq, rfl⟩
                  clear K0 K1 C3 n5
                  have hb := rg_below wr pq
                  go_wp2
                  go_light
                  exact ⟨⟨a + 1, by omega, by go_num, Lib.hid (by
                    intro j hj hjk
                    by_cases e : j = a
                    · subst e; exact hle
                    · exact HA.out j hj (by omega)), HQ.out.trans (hb.mono hsr)⟩, by simp [intOf]; omega⟩
            · have HE2 := Lib.hid (markI_some (q := y.seq) hi he)
              rw [he]
              clear he
              go_wp2_with fail
              refine (implSetItemField _ _ x.store y _ HW.out.reads (HYr.out _) hs.store).mono ?_
              rintro e w6 ⟨ds, rfl, hf, hb⟩
              obtain ⟨a6, c6, rfl⟩ := setItem_fopen hf
              obtain ⟨f6, hown6⟩ := SrvOwn.store HW.out hf hb (Nat.le_refl _) (by simp; omega) (by omega)
              clear c_HX z_HX f_HX c_HY z_HY f_HY c_HT z_HT f_HT c_HO z_HO f_HO
              have hz6 := hb.size
              replace HX := Lib.hid (HX.out.keep hb)
              replace HY := Lib.hid (HY.out.keep hb)
              replace HT := Lib.hid (HT.out.keep hb)
              replace HO := Lib.hid (HO.out.keep hb)
              replace HB := Lib.hid (HB.out.trans (hb.mono HB.out.size))
              clear hf hb HW
              have ⟨c_HX, z_HX, f_HX⟩ := HX.out
              have ⟨c_HY, z_HY, f_HY⟩ := HY.out
              have ⟨c_HO, z_HO, f_HO⟩ := HO.out
              go_upto_region 11 with fail
              refine settle (fun W => WB W (w.heap.size + 1) #[.int .i64 y.device, .int .i64 y.seq, .int .i64 y.key.kind, .int .i64 y.key.n, .string y.key.text, .string y.field, .int .i64 y.n] ∧ WB W (w.heap.size + 2) #[.string ⟨#[]⟩, .slice none 0 0, .int .i64 0, .slice none 0 0, .slice none 0 0] ∧ WB W w1.heap.size #[.string x.store.name, .slice a6 (setItemF x.store y).items.length c6, .int .i64 (setItemF x.store y).auto, .slice a2 x.applied.length c2, .slice a3 x.changes.length c3] ∧ SrvOwn (w.heap.size + 3) [w1.heap.size] W [.string x.store.name, .slice a6 (setItemF x.store y).items.length c6, .int .i64 (setItemF x.store y).auto] (.slice a2 x.applied.length c2) (.slice a3 x.changes.length c3) ⟨setItemF x.store y, x.applied, x.changes⟩ f6 ∧ Below w.heap.size w W ∧ w6.heap.size ≤ W.heap.size) ⟨((HY.out.setOther (by omega)).setOther (by omega)).setOther (by omega), ((HT.out.setOther (by omega)).setOther (by omega)).setOther (by omega), HO.out.sets3, ((hown6.setK (by simp)).setK (by simp)).setK (by simp), by have y := HB.out; exact bEb, by simp⟩ ?_
              clear c_HX z_HX f_HX c_HY z_HY f_HY c_HO z_HO f_HO
              clear HX HY HT HO HB hown6
              rintro w7 ⟨hy7, ht7, ho7, hw7, hb7, hz7⟩
              have HY := Lib.hid hy7
              have HT := Lib.hid ht7
              have HO := Lib.hid ho7
              have HW := Lib.hid hw7
              have HB := Lib.hid hb7
              clear hy7 ht7 ho7 hw7 hb7
              have ⟨c_HY, z_HY, f_HY⟩ := HY.out
              have ⟨c_HO, z_HO, f_HO⟩ := HO.out
              go_wp2_with (at_builtin; refine DWrite.flat.grow3 _ rfl _ _ 28 28 rfl (w.heap.size + 3) 34 j0 _ _ Tryz.underlying28 Tryz.underlying28 hj0 hy0 hy1 hy2 rfl _ x.changes rfl (freshA HW.out.ch) _ [y] rfl (DWrite.flat.one_reads rfl rfl ⟨hyt, hyf⟩) (x.changes.length + 1) ?c1 ?c2 ?c3 ?c4 ?_)
              case c1 => rfl
              case c2 => omega
              case c3 => decide
              case c4 => simp; omega
              intro ao8 cap8 w8 hf8 hc8 hb8 hv8
              have hown8 := SrvOwn.changes (v3' := .slice ao8 (x.changes.length + 1) cap8) HW.out.growA hc8 hf8 (fun b hb => by
                rcases hv8 b (by first | exact hb | simpa using hb) with h | h
                · exact .inl (by first | exact h | simpa using h)
                · right; first | omega | (simp at h ⊢; omega)) (by simp; omega)
              have hq8 : Below (w.heap.size + 3) w7 w8 := Below.trans bEb hb8
              have hz8 := hq8.size
              clear c_HY z_HY f_HY c_HO z_HO f_HO
              have HY8 := Lib.hid (HY.out.grow hq8 (by omega))
              have HT8 := Lib.hid (HT.out.grow hq8 (by omega))
              have HO8 : Hid (WB w8 w1.heap.size #[.string x.store.name, .slice a6 (setItemF x.store y).items.length c6, .int .i64 (setItemF x.store y).auto, .slice a2 x.applied.length c2, .slice a3 x.changes.length c3]) := Lib.hid (HO.out.growA.chg hc8 (fun hm => (HW.out.chk _ (by first | exact hm | simpa using hm)).1 (by simp)))
              have HB8 := Lib.hid (HB.out.trans (hq8.mono (by omega)))
              have HW8 := Lib.hid hown8
              clear hf8 hc8 hb8 hv8 hq8 hown8 HY HT HO HB HW
              have ⟨c_HY8, z_HY8, f_HY8⟩ := HY8.out
              have ⟨c_HO8, z_HO8, f_HO8⟩ := HO8.out
              go_upto_region 12 with fail
              refine settle (fun W => WB W (w.heap.size + 1) #[.int .i64 y.device, .int .i64 y.seq, .int .i64 y.key.kind, .int .i64 y.key.n, .string y.key.text, .string y.field, .int .i64 y.n] ∧ WB W (w.heap.size + 2) #[.string ⟨#[]⟩, .slice none 0 0, .int .i64 0, .slice none 0 0, .slice none 0 0] ∧ WB W w1.heap.size #[.string x.store.name, .slice a6 (setItemF x.store y).items.length c6, .int .i64 (setItemF x.store y).auto, .slice a2 x.applied.length c2, .slice ao8 (x.changes.length + 1) cap8] ∧ SrvOwn (w.heap.size + 3) [w1.heap.size] W [.string x.store.name, .slice a6 (setItemF x.store y).items.length c6, .int .i64 (setItemF x.store y).auto] (.slice a2 x.applied.length c2) (.slice ao8 (x.changes.length + 1) cap8) ⟨setItemF x.store y, x.applied, x.changes ++ [y]⟩ f6 ∧ Below w.heap.size w W ∧ w8.heap.size ≤ W.heap.size) ⟨HY8.out.setOther (by omega), HT8.out.setOther (by omega), HO8.out.setAt (by simp) rfl, HW8.out.setK (by simp), by have y := HB8.out; exact bEb, by simp⟩ ?_
              clear c_HY8 z_HY8 f_HY8 c_HO8 z_HO8 f_HO8
              clear HY8 HT8 HO8 HB8 HW8
              rintro w9 ⟨hy7, ht7, ho7, hw7, hb7, hz9⟩
              have HY := Lib.hid hy7
              have HT := Lib.hid ht7
              have HO := Lib.hid ho7
              have HW := Lib.hid hw7
              have HB := Lib.hid hb7
              clear hy7 ht7 ho7 hw7 hb7
              have ⟨c_HY, z_HY, f_HY⟩ := HY.out
              have ⟨c_HO, z_HO, f_HO⟩ := HO.out
              obtain ⟨g0, vc, hv, hc1, _, hg1, hg2, hci, hfz⟩ := DApplied.flat.at HW.out.ap i hi
              simp only [Value.slice.injEq] at hv
              obtain ⟨rfl, hq0, rfl⟩ := hv
              clear hq0 hc1
              have e1 : w9.cell? ⟨g0, i * 2 + 1, none⟩ = some (.int .i64 x.applied[i].seq) := hci 1 (by decide)
              clear hci
              have i1 : (0 : Int) ≤ (i : Int) := by omega
              have i2 : (i : Int) < (x.applied.length : Int) := by omega
              have hgk := (HW.out.apk g0 (by simp [Value.ownBlock])).1
              have hset := DApplied.flat.setAt HW.out.ap i hi 1 [.int .i64 y.seq] ⟨x.applied[i].device, y.seq⟩ (by simp [DApplied.enc]) (Nat.le_refl 2) trivial
              have hown4 := SrvOwn.applied (v2' := .slice (some ⟨g0, 0, none⟩) x.applied.length c2) HW.out (Chg.set (by simp [Value.ownBlock]) Chg.refl) hset (fun b hb => .inl hb) (by simp; omega)
              go_upto_region 18 with fail
              have el : (markI x.applied y.device y.seq).length = x.applied.length := by rw [HE2.out]; simp
              refine settle (fun W => WB W (w.heap.size + 2) #[.string ⟨#[]⟩, .slice none 0 0, .int .i64 0, .slice none 0 0, .slice none 0 0] ∧ WB W w1.heap.size #[.string x.store.name, .slice a6 (setItemF x.store y).items.length c6, .int .i64 (setItemF x.store y).auto, .slice (some ⟨g0, 0, none⟩) (markI x.applied y.device y.seq).length c2, .slice ao8 (x.changes.length + 1) cap8] ∧ SrvOwn (w.heap.size + 3) [w1.heap.size] W [.string x.store.name, .slice a6 (setItemF x.store y).items.length c6, .int .i64 (setItemF x.store y).auto] (.slice (some ⟨g0, 0, none⟩) (markI x.applied y.device y.seq).length c2) (.slice ao8 (x.changes.length + 1) cap8) ⟨setItemF x.store y, markI x.applied y.device y.seq, x.changes ++ [y]⟩ f6 ∧ Below w.heap.size w W) ⟨HT.out.setOther (by omega), by rw [el]; exact HO.out.setOther (by simp at hgk; omega), by rw [el, HE2.out]; exact hown4, by have y := HB.out; exact bEb⟩ ?_
              clear c_HY z_HY f_HY c_HO z_HO f_HO
              clear HY HT HO HW HB hown4 hset HE2 el hfz e1
              rintro wf ⟨ht7, ho7, hw7, hb7⟩
              have HT := Lib.hid ht7
              have HO := Lib.hid ho7
              have HW := Lib.hid hw7
              have HB := Lib.hid hb7
              clear ht7 ho7 hw7 hb7
              have ⟨c_HO, z_HO, f_HO⟩ := HO.out
              have ⟨c_HT, z_HT, f_HT⟩ := HT.out
              go_wp2
              refine bodyPost_ret (v := .tuple #[.agg #[.string x.store.name, .slice a6 (setItemF x.store y).items.length c6, .int .i64 (setItemF x.store y).auto, .slice (some ⟨g0, 0, none⟩) (markI x.applied y.device y.seq).length c2, .slice ao8 (x.changes.length + 1) cap8], .int .i64 1]) (by simp [results, Tryz.results10, go_sem, c_HT]) rfl ⟨_, by rw [hN.out], ?_, ?_⟩
              · rw [hF.out]
                have e : (x.changes.length + 1) = (receiveOut x y).changes.length := by simp [receiveOut]
                rw [e]
                have z : Fresh DServer.rep (w.heap.size + 3) wf [.string (receiveOut x y).store.name, .slice a6 (receiveOut x y).store.items.length c6, .int .i64 (receiveOut x y).store.auto, .slice (some ⟨g0, 0, none⟩) (receiveOut x y).applied.length c2, .slice ao8 (receiveOut x y).changes.length cap8] (receiveOut x y) := by
                  have hn : (receiveOut x y).store.name = x.store.name := setItem_name _ _
                  have y' := HW.out
                  rw [e] at y'
                  exact SrvOwn.fresh (x := receiveOut x y) (by rw [hn]; exact y')
                rw [show (receiveOut x y).store.name = x.store.name from setItem_name _ _] at z
                exact (Fresh.mono (B := (w.heap.size + 3)) (by repeat (first | exact z | refine Fresh.setLow ?_ (by omega) | refine Fresh.drew ?_)) (by omega))
              · have y := HB.out
                exact bEb

end Go.Proofs.YtlfebehpmefioaaGreat
