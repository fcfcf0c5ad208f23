/-
  SetItemField.
-/
import Derived.Test.YtgicglmcapnogaaGreatPutItem
import Derived.Test.YtgicglmcapnogaaGreatPutItemS
import Derived.Test.YtgicglmcapnogaaGreatSetField
import Derived.Test.YtgicglmcapnogaaGreatSetFieldS
import Derived.Test.YtgicglmcapnogaaGreatTFam
namespace Go.Proofs.YtgicglmcapnogaaGreat
open Go.RowKit
theorem setField_yes {s : DStore} {y : DWrite} (h : setFieldB (itemRec s y.key) y.field y.n = true) : setFieldF (itemRec s y.key) y.field y.n = setItemR s y := by
  unfold setFieldF setItemR; rw [h]; rfl
theorem setItemR_len {s : DStore} {y : DWrite} (h : setFieldB (itemRec s y.key) y.field y.n = true) : (setItemR s y).fields.length ≤ 1048600 := by
  unfold setFieldB at h
  simp only [Bool.and_eq_true] at h
  have := isRecord_len h.2
  unfold setItemR; omega
/-- What reads in old memory reads behind a store into a new block. -/
theorem reads_old {β : Type} {w W : World} {cs : List Value} {R2 : Rep β} {x : β} {g o : Nat} {u : Value} {B : Nat} (h : ∃ fp, R2.rd false w cs x fp) (hb : Below B w W) (hB : w.heap.size ≤ B) (hg : B ≤ g) : Reads R2 (W.setCell ⟨g, o, none⟩ u) cs x := by
  obtain ⟨fp, h⟩ := h
  exact ⟨fp, R2.frame h fun b hb' => ((hb.setCell (p := ⟨g, o, none⟩) hg u).block b (Nat.lt_of_lt_of_le (R2.lt h b hb') hB))⟩
attribute [local irreducible] setFieldB setFieldF putItemB putItemF itemRec

set_option maxRecDepth 100000 in
set_option maxHeartbeats 8000000 in
theorem implSetItemField (cs cy : List Value) (s : DStore) (y : DWrite) (w : World) (h : Reads DStore.rep w cs s) (h' : Reads DWrite.rep w cy y) (hs : SmallStore s) :
    Calls Tryz.prog 80 #[.agg cs.toArray, .agg cy.toArray] w fun e w' => ∃ ds, e = .returned (.tuple #[.agg ds.toArray, .bool (setItemB s y)]) ∧ Fresh DStore.rep w.heap.size w' ds (setItemF s y) ∧ Below w.heap.size w w' := by
  have HS := Lib.hid h
  obtain ⟨fp_q, h⟩ := h
  obtain ⟨q_v1, q_f1, rfl, _, q_s0, q_r1⟩ := DStore.rd.1 h
  obtain ⟨q_a1, q_c1, rfl, q_hm1, q_lc1, q_hu1⟩ := slice_open q_r1; clear q_hu1
  have q_K1 : Hid (Reads (Rep.slice 134 DItem.rep) w [.slice q_a1 s.items.length q_c1] s.items) := ⟨_, q_r1⟩
  clear q_r1 h
  obtain ⟨fy, hy⟩ := h'
  obtain ⟨rfl, _, hyt, hyf⟩ := DWrite.rd.1 hy
  clear hy
  have HKr : Hid (∀ W, Reads DKey.rep W [.int .i64 y.key.kind, .int .i64 y.key.n, .string y.key.text] y.key) := Lib.hid fun W => ⟨[], DKey.rd.2 ⟨rfl, rfl, hyt⟩⟩
  have hrl := itemRec_small hs y.key
  go_enter Tryz.func80, Tryz.ntmps80
  go_wp2_with fail
  refine (implFindItem _ _ s y.key _ (HS.out.below (by repeat (first | with_reducible exact belR | with_reducible apply belA | (with_reducible refine belS ?_ ?_; focus (first | omega | (simp; done) | (simp; omega))) | with_reducible apply belN | with_reducible apply belD | with_reducible assumption))) (HKr.out _)).mono ?_
  rintro e w1 ⟨rfl, hb⟩
  have HX : Hid (WB w1 w.heap.size #[.string s.name, .slice q_a1 s.items.length q_c1, .int .i64 s.auto]) := Lib.hid ((((WB.at rfl).growA).growA).growA.keep hb)
  have HY : Hid (WB w1 (w.heap.size + 1) #[.int .i64 y.device, .int .i64 y.seq, .int .i64 y.key.kind, .int .i64 y.key.n, .string y.key.text, .string y.field, .int .i64 y.n]) := Lib.hid ((((WB.at (by simp)).growA).growA).keep hb)
  have HT : Hid (WB w1 (w.heap.size + 2) #[.string ⟨#[]⟩, .slice none 0 0, .int .i64 0]) := Lib.hid (((WB.at (by simp)).growA).keep hb)
  have HO : Hid (WB w1 (w.heap.size + 3) #[.slice none 0 0]) := Lib.hid ((WB.at (by simp)).keep hb)
  have HB : Hid (Below w.heap.size w w1) := Lib.hid (below_call (by repeat (first | with_reducible exact belR | with_reducible apply belA | (with_reducible refine belS ?_ ?_; focus (first | omega | (simp; done) | (simp; omega))) | with_reducible apply belN | with_reducible apply belD | with_reducible assumption)) (by first | omega | (simp; done) | (simp; omega)) hb)
  have hz : w.heap.size + 4 ≤ w1.heap.size := by have y := hb.size; simp at y; omega
  clear hb
  have ⟨c_HX, z_HX, f_HX⟩ := HX.out
  have ⟨c_HO, z_HO, f_HO⟩ := HO.out
  rcases idxF_cases (keyIs y.key) s.items with ⟨he, hall⟩ | ⟨i, hi, he, hp, hall⟩
  case' inl =>
    have HE := Lib.hid (itemRec_none hall)
    rw [he]
    clear he hall
    go_upto_region 5 with fail
    refine settle (fun W => ∃ a0 n0 c0, WB W w.heap.size #[.string s.name, .slice q_a1 s.items.length q_c1, .int .i64 s.auto] ∧ WB W (w.heap.size + 1) #[.int .i64 y.device, .int .i64 y.seq, .int .i64 y.key.kind, .int .i64 y.key.n, .string y.key.text, .string y.field, .int .i64 y.n] ∧ WB W (w.heap.size + 2) #[.string ⟨#[]⟩, .slice none 0 0, .int .i64 0] ∧ WB W (w.heap.size + 3) #[.slice a0 n0 c0] ∧ Reads DRecord.rep W [.slice a0 n0 c0] (itemRec s y.key) ∧ Below w.heap.size w W) ⟨_, _, _, HX.out, HY.out, HT.out, HO.out, by rw [HE.out]; exact (DRecord.fmk (x := noRecord) (B := 0) Fresh.nil).reads, HB.out⟩ ?_
  case' inr =>
    have HE := Lib.hid (itemRec_hit hi hp hall)
    rw [he]
    clear he hall hp
    obtain ⟨b, off, cs_b, rfl, hw_b, hr_b, hcell_b⟩ := slice_at q_K1.out i hi
    obtain ⟨fe_b, hrd_b⟩ := hr_b
    have HR_b : Hid (Reads DItem.rep w cs_b s.items[i]) := ⟨_, hrd_b⟩
    obtain ⟨b_v1, b_f1, rfl, _, b_s0, b_r1⟩ := DItem.rd.1 hrd_b
    obtain ⟨b_a1, b_k1, rfl, _⟩ := slice_open b_r1
    have b_R1 : Hid (Reads (Rep.slice 156 DField.rep) w [.slice b_a1 s.items[i].record.fields.length b_k1] s.items[i].record.fields) := ⟨_, b_r1⟩
    clear b_r1
    clear hrd_b
    have b_c0 : w.cell? ⟨b, off + i * 4, none⟩ = some (.int .i64 s.items[i].key.kind) := hcell_b 0 (by decide)
    have b_c1 : w.cell? ⟨b, off + i * 4 + 1, none⟩ = some (.int .i64 s.items[i].key.n) := hcell_b 1 (by decide)
    have b_c2 : w.cell? ⟨b, off + i * 4 + 2, none⟩ = some (.string s.items[i].key.text) := hcell_b 2 (by decide)
    have b_c3 : w.cell? ⟨b, off + i * 4 + 3, none⟩ = some (.slice b_a1 s.items[i].record.fields.length b_k1) := hcell_b 3 (by decide)
    clear hcell_b
    have e0 := (HB.out.cell (block_lt_of_cell b_c0)).trans b_c0
    have e1 := (HB.out.cell (block_lt_of_cell b_c1)).trans b_c1
    have e2 := (HB.out.cell (block_lt_of_cell b_c2)).trans b_c2
    have e3 := (HB.out.cell (block_lt_of_cell b_c3)).trans b_c3
    have HRi : Hid (Reads DRecord.rep w [.slice b_a1 s.items[i].record.fields.length b_k1] s.items[i].record) := by
      obtain ⟨f, r⟩ := b_R1.out
      exact ⟨f, DRecord.rd.2 ⟨_, _, rfl, rfl, r⟩⟩
    have i1 : (0 : Int) ≤ (i : Int) := by omega
    have i2 : (i : Int) < (s.items.length : Int) := by omega
    go_upto_region 5 with fail
    refine settle (fun W => ∃ a0 n0 c0, WB W w.heap.size #[.string s.name, .slice (some ⟨b, off, none⟩) s.items.length q_c1, .int .i64 s.auto] ∧ WB W (w.heap.size + 1) #[.int .i64 y.device, .int .i64 y.seq, .int .i64 y.key.kind, .int .i64 y.key.n, .string y.key.text, .string y.field, .int .i64 y.n] ∧ WB W (w.heap.size + 2) #[.string ⟨#[]⟩, .slice none 0 0, .int .i64 0] ∧ WB W (w.heap.size + 3) #[.slice a0 n0 c0] ∧ Reads DRecord.rep W [.slice a0 n0 c0] (itemRec s y.key) ∧ Below w.heap.size w W) ⟨_, _, _, HX.out.setOther (by omega), HY.out.setOther (by omega), HT.out.setOther (by omega), HO.out.setAt (by simp) rfl, by rw [HE.out]; exact reads_old HRi.out HB.out (Nat.le_refl _) (by omega), by have y := HB.out; exact (by repeat (first | with_reducible exact belR | (with_reducible refine belAB ?_ ?_; focus (first | omega | (simp; done) | (simp; omega))) | (with_reducible refine belS ?_ ?_; focus (first | omega | (simp; done) | (simp; omega))) | with_reducible apply belN | with_reducible apply belD | with_reducible assumption))⟩ ?_
    clear HR_b b_R1 b_c0 b_c1 b_c2 b_c3 HRi e0 e1 e2 e3
  all_goals
    clear c_HX z_HX f_HX c_HO z_HO f_HO
    clear HX HY HT HO HB HE
    rintro w2 ⟨a0, n0, c0, hx, hy, ht, ho, hr, hb⟩
    have HX := Lib.hid hx
    have HY := Lib.hid hy
    have HT := Lib.hid ht
    have HO := Lib.hid ho
    have HR := Lib.hid hr
    have HB := Lib.hid hb
    clear hx hy ht ho hr hb
    have ⟨c_HY, z_HY, f_HY⟩ := HY.out
    have ⟨c_HO, z_HO, f_HO⟩ := HO.out
    go_wp2_with fail
    refine (implSetField _ (itemRec s y.key) y.field y.n _ HR.out hrl hyf).mono ?_
    rintro e w3 ⟨ds, rfl, hf, hb⟩
    obtain ⟨ao, cap, rfl, hfw⟩ := DRecord.fopen hf
    have HF : Hid (Fresh DRecord.rep (w.heap.size + 4) w3 [.slice ao (setFieldF (itemRec s y.key) y.field y.n).fields.length cap] (setFieldF (itemRec s y.key) y.field y.n)) := Lib.hid (hf.mono (by have := HO.out.lt; omega))
    have hz2 := hb.size
    have hz3 := HO.out.lt
    clear c_HY z_HY f_HY c_HO z_HO f_HO
    replace HX := Lib.hid (HX.out.keep hb)
    replace HY := Lib.hid (HY.out.keep hb)
    replace HT := Lib.hid (HT.out.keep hb)
    replace HO := Lib.hid (HO.out.keep hb)
    replace HB := Lib.hid (HB.out.trans (hb.mono HB.out.size))
    clear hf hfw hb HR
    have ⟨c_HX, z_HX, f_HX⟩ := HX.out
    have ⟨c_HY, z_HY, f_HY⟩ := HY.out
    have ⟨c_HO, z_HO, f_HO⟩ := HO.out
    cases a1 : setFieldB (itemRec s y.key) y.field y.n
    · have hB : Hid (setItemB s y = false) := Lib.hid (by rw [setItemB, a1]; rfl)
      have hF : Hid (setItemF s y = s) := Lib.hid (by rw [setItemF, hB.out]; rfl)
      go_wp2_with fail
      refine (implCopyStore _ s _ (HS.out.below (by have y := HB.out; exact (by repeat (first | with_reducible exact belR | (with_reducible refine belAB ?_ ?_; focus (first | omega | (simp; done) | (simp; omega))) | (with_reducible refine belS ?_ ?_; focus (first | omega | (simp; done) | (simp; omega))) | with_reducible apply belN | with_reducible apply belD | with_reducible assumption)))) hs).mono ?_
      rintro e w4 ⟨ds, rfl, hf4, hb4⟩
      obtain ⟨ao4, cap4, rfl, hfw4, _⟩ := DStore.fopen hf4
      have HF4 : Hid (Fresh (Rep.slice 134 DItem.rep) w3.heap.size w4 [.slice ao4 s.items.length cap4] s.items) := Lib.hid (hfw4.mono (by first | exact Nat.le_refl _ | (simp; done) | (simp; omega)))
      have hq4 : Below w.heap.size w w4 := Below.trans (by have y := HB.out; exact (by repeat (first | with_reducible exact belR | (with_reducible refine belAB ?_ ?_; focus (first | omega | (simp; done) | (simp; omega))) | (with_reducible refine belS ?_ ?_; focus (first | omega | (simp; done) | (simp; omega))) | with_reducible apply belN | with_reducible apply belD | with_reducible assumption))) (hb4.mono (by first | (simp; omega) | omega))
      have HT4 : Hid (WB w4 (w.heap.size + 2) #[.string ⟨#[]⟩, .slice none 0 0, .int .i64 0]) := Lib.hid ((by first | exact HT.out.setOther (by omega) | exact (HT.out.growA).setOther (by omega) | exact HT.out.growA : WB _ (w.heap.size + 2) _).keep hb4)
      have HB4 := Lib.hid hq4
      have ⟨cr4, zr4, fr4⟩ := HT4.out
      have hz4 := HO.out.lt
      clear hf4 hfw4 hb4 hq4
      go_wp2
      refine bodyPost_ret (v := .tuple #[.agg #[.string s.name, .slice ao4 s.items.length cap4, .int .i64 s.auto], .bool false]) (by simp [results, Tryz.results80, go_sem, cr4]) rfl ⟨_, by rw [hB.out], ?_, ?_⟩
      · rw [hF.out]
        exact DStore.fmk (Fresh.mono (B := w3.heap.size) (by repeat (first | exact HF4.out | refine Fresh.setLow ?_ (by omega) | refine Fresh.drew ?_)) (by omega)) q_s0
      · have y := HB4.out
        exact (by repeat (first | with_reducible exact belR | (with_reducible refine belAB ?_ ?_; focus (first | omega | (simp; done) | (simp; omega))) | (with_reducible refine belS ?_ ?_; focus (first | omega | (simp; done) | (simp; omega))) | with_reducible apply belN | with_reducible apply belD | with_reducible assumption))
    · have hR := setField_yes a1
      have hrl2 := setItemR_len a1
      have hB : Hid (setItemB s y = putItemB s y.key (setItemR s y)) := Lib.hid (by rw [setItemB, a1]; rfl)
      have hF : Hid (setItemF s y = putItemF s y.key (setItemR s y)) := Lib.hid (by rw [setItemF_eq, a1, if_pos rfl, hR])
      rw [hR] at HF ⊢
      clear hR
      go_wp2_with fail
      refine (implPutItem _ _ _ s y.key (setItemR s y) _ (HS.out.below (by have y := HB.out; exact (by repeat (first | with_reducible exact belR | (with_reducible refine belAB ?_ ?_; focus (first | omega | (simp; done) | (simp; omega))) | (with_reducible refine belS ?_ ?_; focus (first | omega | (simp; done) | (simp; omega))) | with_reducible apply belN | with_reducible apply belD | with_reducible assumption)))) (HKr.out _) (by first | exact (Fresh.setLow HF.out (by omega)).reads | exact (HF.out.below (belA belR)).reads) hs hrl2).mono ?_
      rintro e w4 ⟨ds, rfl, hf4, hb4⟩
      obtain ⟨ao4, cap4, rfl, hfw4, hsn⟩ := DStore.fopen hf4
      have HF4 : Hid (Fresh (Rep.slice 134 DItem.rep) w3.heap.size w4 [.slice ao4 (putItemF s y.key (setItemR s y)).items.length cap4] (putItemF s y.key (setItemR s y)).items) := Lib.hid (hfw4.mono (by first | exact Nat.le_refl _ | (simp; done) | (simp; omega)))
      have hq4 : Below w.heap.size w w4 := Below.trans (by have y := HB.out; exact (by repeat (first | with_reducible exact belR | (with_reducible refine belAB ?_ ?_; focus (first | omega | (simp; done) | (simp; omega))) | (with_reducible refine belS ?_ ?_; focus (first | omega | (simp; done) | (simp; omega))) | with_reducible apply belN | with_reducible apply belD | with_reducible assumption))) (hb4.mono (by first | (simp; omega) | omega))
      have HT4 : Hid (WB w4 (w.heap.size + 2) #[.string ⟨#[]⟩, .slice none 0 0, .int .i64 0]) := Lib.hid ((by first | exact HT.out.setOther (by omega) | exact HT.out.growA : WB _ (w.heap.size + 2) _).keep hb4)
      have HB4 := Lib.hid hq4
      have ⟨cr4, zr4, fr4⟩ := HT4.out
      have hz4 := HO.out.lt
      clear hf4 hfw4 hb4 hq4
      go_wp2
      refine bodyPost_ret (v := .tuple #[.agg #[.string (putItemF s y.key (setItemR s y)).name, .slice ao4 (putItemF s y.key (setItemR s y)).items.length cap4, .int .i64 (putItemF s y.key (setItemR s y)).auto], .bool (putItemB s y.key (setItemR s y))]) (by simp [results, Tryz.results80, go_sem, cr4]) rfl ⟨_, by rw [hB.out], ?_, ?_⟩
      · rw [hF.out]
        exact DStore.fmk (Fresh.mono (B := w3.heap.size) (by repeat (first | exact HF4.out | refine Fresh.setLow ?_ (by omega) | refine Fresh.drew ?_)) (by omega)) hsn
      · have y := HB4.out
        exact (by repeat (first | with_reducible exact belR | (with_reducible refine belAB ?_ ?_; focus (first | omega | (simp; done) | (simp; omega))) | (with_reducible refine belS ?_ ?_; focus (first | omega | (simp; done) | (simp; omega))) | with_reducible apply belN | with_reducible apply belD | with_reducible assumption))


set_option maxRecDepth 100000 in
set_option maxHeartbeats 8000000 in
theorem specSetItemField (cs cy : List Value) (s : DStore) (y : DWrite) (w : World) (h : Reads DStore.rep w cs s) (h' : Reads DWrite.rep w cy y) (hs : SmallStore s) :
    Calls Tryz.prog 70 #[.agg cs.toArray, .agg cy.toArray] w fun e w' => ∃ ds, e = .returned (.tuple #[.agg ds.toArray, .bool (setItemB s y)]) ∧ Fresh DStore.rep w.heap.size w' ds (setItemF s y) ∧ Below w.heap.size w w' := by
  have HS := Lib.hid h
  obtain ⟨fp_q, h⟩ := h
  obtain ⟨q_v1, q_f1, rfl, _, q_s0, q_r1⟩ := DStore.rd.1 h
  obtain ⟨q_a1, q_c1, rfl, q_hm1, q_lc1, q_hu1⟩ := slice_open q_r1; clear q_hu1
  have q_K1 : Hid (Reads (Rep.slice 134 DItem.rep) w [.slice q_a1 s.items.length q_c1] s.items) := ⟨_, q_r1⟩
  clear q_r1 h
  obtain ⟨fy, hy⟩ := h'
  obtain ⟨rfl, _, hyt, hyf⟩ := DWrite.rd.1 hy
  clear hy
  have HKr : Hid (∀ W, Reads DKey.rep W [.int .i64 y.key.kind, .int .i64 y.key.n, .string y.key.text] y.key) := Lib.hid fun W => ⟨[], DKey.rd.2 ⟨rfl, rfl, hyt⟩⟩
  have hrl := itemRec_small hs y.key
  go_enter Tryz.func70, Tryz.ntmps70
  go_wp2_with fail
  refine (specFindItem _ _ s y.key _ (HS.out.below (by repeat (first | with_reducible exact belR | with_reducible apply belA | (with_reducible refine belS ?_ ?_; focus (first | omega | (simp; done) | (simp; omega))) | with_reducible apply belN | with_reducible apply belD | with_reducible assumption))) (HKr.out _)).mono ?_
  rintro e w1 ⟨rfl, hb⟩
  have HX : Hid (WB w1 w.heap.size #[.string s.name, .slice q_a1 s.items.length q_c1, .int .i64 s.auto]) := Lib.hid ((((WB.at rfl).growA).growA).growA.keep hb)
  have HY : Hid (WB w1 (w.heap.size + 1) #[.int .i64 y.device, .int .i64 y.seq, .int .i64 y.key.kind, .int .i64 y.key.n, .string y.key.text, .string y.field, .int .i64 y.n]) := Lib.hid ((((WB.at (by simp)).growA).growA).keep hb)
  have HT : Hid (WB w1 (w.heap.size + 2) #[.string ⟨#[]⟩, .slice none 0 0, .int .i64 0]) := Lib.hid (((WB.at (by simp)).growA).keep hb)
  have HO : Hid (WB w1 (w.heap.size + 3) #[.slice none 0 0]) := Lib.hid ((WB.at (by simp)).keep hb)
  have HB : Hid (Below w.heap.size w w1) := Lib.hid (below_call (by repeat (first | with_reducible exact belR | with_reducible apply belA | (with_reducible refine belS ?_ ?_; focus (first | omega | (simp; done) | (simp; omega))) | with_reducible apply belN | with_reducible apply belD | with_reducible assumption)) (by first | omega | (simp; done) | (simp; omega)) hb)
  have hz : w.heap.size + 4 ≤ w1.heap.size := by have y := hb.size; simp at y; omega
  clear hb
  have ⟨c_HX, z_HX, f_HX⟩ := HX.out
  have ⟨c_HO, z_HO, f_HO⟩ := HO.out
  rcases idxF_cases (keyIs y.key) s.items with ⟨he, hall⟩ | ⟨i, hi, he, hp, hall⟩
  case' inl =>
    have HE := Lib.hid (itemRec_none hall)
    rw [he]
    clear he hall
    go_upto_region 5 with fail
    refine settle (fun W => ∃ a0 n0 c0, WB W w.heap.size #[.string s.name, .slice q_a1 s.items.length q_c1, .int .i64 s.auto] ∧ WB W (w.heap.size + 1) #[.int .i64 y.device, .int .i64 y.seq, .int .i64 y.key.kind, .int .i64 y.key.n, .string y.key.text, .string y.field, .int .i64 y.n] ∧ WB W (w.heap.size + 2) #[.string ⟨#[]⟩, .slice none 0 0, .int .i64 0] ∧ WB W (w.heap.size + 3) #[.slice a0 n0 c0] ∧ Reads DRecord.rep W [.slice a0 n0 c0] (itemRec s y.key) ∧ Below w.heap.size w W) ⟨_, _, _, HX.out, HY.out, HT.out, HO.out, by rw [HE.out]; exact (DRecord.fmk (x := noRecord) (B := 0) Fresh.nil).reads, HB.out⟩ ?_
  case' inr =>
    have HE := Lib.hid (itemRec_hit hi hp hall)
    rw [he]
    clear he hall hp
    obtain ⟨b, off, cs_b, rfl, hw_b, hr_b, hcell_b⟩ := slice_at q_K1.out i hi
    obtain ⟨fe_b, hrd_b⟩ := hr_b
    have HR_b : Hid (Reads DItem.rep w cs_b s.items[i]) := ⟨_, hrd_b⟩
    obtain ⟨b_v1, b_f1, rfl, _, b_s0, b_r1⟩ := DItem.rd.1 hrd_b
    obtain ⟨b_a1, b_k1, rfl, _⟩ := slice_open b_r1
    have b_R1 : Hid (Reads (Rep.slice 156 DField.rep) w [.slice b_a1 s.items[i].record.fields.length b_k1] s.items[i].record.fields) := ⟨_, b_r1⟩
    clear b_r1
    clear hrd_b
    have b_c0 : w.cell? ⟨b, off + i * 4, none⟩ = some (.int .i64 s.items[i].key.kind) := hcell_b 0 (by decide)
    have b_c1 : w.cell? ⟨b, off + i * 4 + 1, none⟩ = some (.int .i64 s.items[i].key.n) := hcell_b 1 (by decide)
    have b_c2 : w.cell? ⟨b, off + i * 4 + 2, none⟩ = some (.string s.items[i].key.text) := hcell_b 2 (by decide)
    have b_c3 : w.cell? ⟨b, off + i * 4 + 3, none⟩ = some (.slice b_a1 s.items[i].record.fields.length b_k1) := hcell_b 3 (by decide)
    clear hcell_b
    have e0 := (HB.out.cell (block_lt_of_cell b_c0)).trans b_c0
    have e1 := (HB.out.cell (block_lt_of_cell b_c1)).trans b_c1
    have e2 := (HB.out.cell (block_lt_of_cell b_c2)).trans b_c2
    have e3 := (HB.out.cell (block_lt_of_cell b_c3)).trans b_c3
    have HRi : Hid (Reads DRecord.rep w [.slice b_a1 s.items[i].record.fields.length b_k1] s.items[i].record) := by
      obtain ⟨f, r⟩ := b_R1.out
      exact ⟨f, DRecord.rd.2 ⟨_, _, rfl, rfl, r⟩⟩
    have i1 : (0 : Int) ≤ (i : Int) := by omega
    have i2 : (i : Int) < (s.items.length : Int) := by omega
    go_upto_region 5 with fail
    refine settle (fun W => ∃ a0 n0 c0, WB W w.heap.size #[.string s.name, .slice (some ⟨b, off, none⟩) s.items.length q_c1, .int .i64 s.auto] ∧ WB W (w.heap.size + 1) #[.int .i64 y.device, .int .i64 y.seq, .int .i64 y.key.kind, .int .i64 y.key.n, .string y.key.text, .string y.field, .int .i64 y.n] ∧ WB W (w.heap.size + 2) #[.string ⟨#[]⟩, .slice none 0 0, .int .i64 0] ∧ WB W (w.heap.size + 3) #[.slice a0 n0 c0] ∧ Reads DRecord.rep W [.slice a0 n0 c0] (itemRec s y.key) ∧ Below w.heap.size w W) ⟨_, _, _, HX.out.setOther (by omega), HY.out.setOther (by omega), HT.out.setOther (by omega), HO.out.setAt (by simp) rfl, by rw [HE.out]; exact reads_old HRi.out HB.out (Nat.le_refl _) (by omega), by have y := HB.out; exact (by repeat (first | with_reducible exact belR | (with_reducible refine belAB ?_ ?_; focus (first | omega | (simp; done) | (simp; omega))) | (with_reducible refine belS ?_ ?_; focus (first | omega | (simp; done) | (simp; omega))) | with_reducible apply belN | with_reducible apply belD | with_reducible assumption))⟩ ?_
    clear HR_b b_R1 b_c0 b_c1 b_c2 b_c3 HRi e0 e1 e2 e3
  all_goals
    clear c_HX z_HX f_HX c_HO z_HO f_HO
    clear HX HY HT HO HB HE
    rintro w2 ⟨a0, n0, c0, hx, hy, ht, ho, hr, hb⟩
    have HX := Lib.hid hx
    have HY := Lib.hid hy
    have HT := Lib.hid ht
    have HO := Lib.hid ho
    have HR := Lib.hid hr
    have HB := Lib.hid hb
    clear hx hy ht ho hr hb
    have ⟨c_HY, z_HY, f_HY⟩ := HY.out
    have ⟨c_HO, z_HO, f_HO⟩ := HO.out
    go_wp2_with fail
    refine (specSetField _ (itemRec s y.key) y.field y.n _ HR.out hrl hyf).mono ?_
    rintro e w3 ⟨ds, rfl, hf, hb⟩
    obtain ⟨ao, cap, rfl, hfw⟩ := DRecord.fopen hf
    have HF : Hid (Fresh DRecord.rep (w.heap.size + 4) w3 [.slice ao (setFieldF (itemRec s y.key) y.field y.n).fields.length cap] (setFieldF (itemRec s y.key) y.field y.n)) := Lib.hid (hf.mono (by have := HO.out.lt; omega))
    have hz2 := hb.size
    have hz3 := HO.out.lt
    clear c_HY z_HY f_HY c_HO z_HO f_HO
    replace HX := Lib.hid (HX.out.keep hb)
    replace HY := Lib.hid (HY.out.keep hb)
    replace HT := Lib.hid (HT.out.keep hb)
    replace HO := Lib.hid (HO.out.keep hb)
    replace HB := Lib.hid (HB.out.trans (hb.mono HB.out.size))
    clear hf hfw hb HR
    have ⟨c_HX, z_HX, f_HX⟩ := HX.out
    have ⟨c_HY, z_HY, f_HY⟩ := HY.out
    have ⟨c_HO, z_HO, f_HO⟩ := HO.out
    cases a1 : setFieldB (itemRec s y.key) y.field y.n
    · have hB : Hid (setItemB s y = false) := Lib.hid (by rw [setItemB, a1]; rfl)
      have hF : Hid (setItemF s y = s) := Lib.hid (by rw [setItemF, hB.out]; rfl)
      go_wp2_with fail
      refine (specCopyStore _ s _ (HS.out.below (by have y := HB.out; exact (by repeat (first | with_reducible exact belR | (with_reducible refine belAB ?_ ?_; focus (first | omega | (simp; done) | (simp; omega))) | (with_reducible refine belS ?_ ?_; focus (first | omega | (simp; done) | (simp; omega))) | with_reducible apply belN | with_reducible apply belD | with_reducible assumption)))) hs).mono ?_
      rintro e w4 ⟨ds, rfl, hf4, hb4⟩
      obtain ⟨ao4, cap4, rfl, hfw4, _⟩ := DStore.fopen hf4
      have HF4 : Hid (Fresh (Rep.slice 134 DItem.rep) w3.heap.size w4 [.slice ao4 s.items.length cap4] s.items) := Lib.hid (hfw4.mono (by first | exact Nat.le_refl _ | (simp; done) | (simp; omega)))
      have hq4 : Below w.heap.size w w4 := Below.trans (by have y := HB.out; exact (by repeat (first | with_reducible exact belR | (with_reducible refine belAB ?_ ?_; focus (first | omega | (simp; done) | (simp; omega))) | (with_reducible refine belS ?_ ?_; focus (first | omega | (simp; done) | (simp; omega))) | with_reducible apply belN | with_reducible apply belD | with_reducible assumption))) (hb4.mono (by first | (simp; omega) | omega))
      have HT4 : Hid (WB w4 (w.heap.size + 2) #[.string ⟨#[]⟩, .slice none 0 0, .int .i64 0]) := Lib.hid ((by first | exact HT.out.setOther (by omega) | exact (HT.out.growA).setOther (by omega) | exact HT.out.growA : WB _ (w.heap.size + 2) _).keep hb4)
      have HB4 := Lib.hid hq4
      have ⟨cr4, zr4, fr4⟩ := HT4.out
      have hz4 := HO.out.lt
      clear hf4 hfw4 hb4 hq4
      go_wp2
      refine bodyPost_ret (v := .tuple #[.agg #[.string s.name, .slice ao4 s.items.length cap4, .int .i64 s.auto], .bool false]) (by simp [results, Tryz.results70, go_sem, cr4]) rfl ⟨_, by rw [hB.out], ?_, ?_⟩
      · rw [hF.out]
        exact DStore.fmk (Fresh.mono (B := w3.heap.size) (by repeat (first | exact HF4.out | refine Fresh.setLow ?_ (by omega) | refine Fresh.drew ?_)) (by omega)) q_s0
      · have y := HB4.out
        exact (by repeat (first | with_reducible exact belR | (with_reducible refine belAB ?_ ?_; focus (first | omega | (simp; done) | (simp; omega))) | (with_reducible refine belS ?_ ?_; focus (first | omega | (simp; done) | (simp; omega))) | with_reducible apply belN | with_reducible apply belD | with_reducible assumption))
    · have hR := setField_yes a1
      have hrl2 := setItemR_len a1
      have hB : Hid (setItemB s y = putItemB s y.key (setItemR s y)) := Lib.hid (by rw [setItemB, a1]; rfl)
      have hF : Hid (setItemF s y = putItemF s y.key (setItemR s y)) := Lib.hid (by rw [setItemF_eq, a1, if_pos rfl, hR])
      rw [hR] at HF ⊢
      clear hR
      go_wp2_with fail
      refine (specPutItem _ _ _ s y.key (setItemR s y) _ (HS.out.below (by have y := HB.out; exact (by repeat (first | with_reducible exact belR | (with_reducible refine belAB ?_ ?_; focus (first | omega | (simp; done) | (simp; omega))) | (with_reducible refine belS ?_ ?_; focus (first | omega | (simp; done) | (simp; omega))) | with_reducible apply belN | with_reducible apply belD | with_reducible assumption)))) (HKr.out _) (by first | exact (Fresh.setLow HF.out (by omega)).reads | exact (HF.out.below (belA belR)).reads) hs hrl2).mono ?_
      rintro e w4 ⟨ds, rfl, hf4, hb4⟩
      obtain ⟨ao4, cap4, rfl, hfw4, hsn⟩ := DStore.fopen hf4
      have HF4 : Hid (Fresh (Rep.slice 134 DItem.rep) w3.heap.size w4 [.slice ao4 (putItemF s y.key (setItemR s y)).items.length cap4] (putItemF s y.key (setItemR s y)).items) := Lib.hid (hfw4.mono (by first | exact Nat.le_refl _ | (simp; done) | (simp; omega)))
      have hq4 : Below w.heap.size w w4 := Below.trans (by have y := HB.out; exact (by repeat (first | with_reducible exact belR | (with_reducible refine belAB ?_ ?_; focus (first | omega | (simp; done) | (simp; omega))) | (with_reducible refine belS ?_ ?_; focus (first | omega | (simp; done) | (simp; omega))) | with_reducible apply belN | with_reducible apply belD | with_reducible assumption))) (hb4.mono (by first | (simp; omega) | omega))
      have HT4 : Hid (WB w4 (w.heap.size + 2) #[.string ⟨#[]⟩, .slice none 0 0, .int .i64 0]) := Lib.hid ((by first | exact HT.out.setOther (by omega) | exact HT.out.growA : WB _ (w.heap.size + 2) _).keep hb4)
      have HB4 := Lib.hid hq4
      have ⟨cr4, zr4, fr4⟩ := HT4.out
      have hz4 := HO.out.lt
      clear hf4 hfw4 hb4 hq4
      go_wp2
      refine bodyPost_ret (v := .tuple #[.agg #[.string (putItemF s y.key (setItemR s y)).name, .slice ao4 (putItemF s y.key (setItemR s y)).items.length cap4, .int .i64 (putItemF s y.key (setItemR s y)).auto], .bool (putItemB s y.key (setItemR s y))]) (by simp [results, Tryz.results70, go_sem, cr4]) rfl ⟨_, by rw [hB.out], ?_, ?_⟩
      · rw [hF.out]
        exact DStore.fmk (Fresh.mono (B := w3.heap.size) (by repeat (first | exact HF4.out | refine Fresh.setLow ?_ (by omega) | refine Fresh.drew ?_)) (by omega)) hsn
      · have y := HB4.out
        exact (by repeat (first | with_reducible exact belR | (with_reducible refine belAB ?_ ?_; focus (first | omega | (simp; done) | (simp; omega))) | (with_reducible refine belS ?_ ?_; focus (first | omega | (simp; done) | (simp; omega))) | with_reducible apply belN | with_reducible apply belD | with_reducible assumption))


end Go.Proofs.YtgicglmcapnogaaGreat
