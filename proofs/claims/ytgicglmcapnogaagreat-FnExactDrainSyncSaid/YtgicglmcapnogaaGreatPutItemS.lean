/-
  spec.PutItem.
-/
import Derived.Test.YtgicglmcapnogaaGreatPutItem
import Derived.Test.YtgicglmcapnogaaGreatRaw
namespace Go.Proofs.YtgicglmcapnogaaGreat
open Go.RowKit

theorem auto_in {a : Int} {k : DKey} (c : (k.kind == 1) = true) (h : within k.n (a + 1) 1000000 = true) : autoOf a k = k.n := by
  rw [auto_yes c]
  simp only [within, Bool.and_eq_true, decide_eq_true_eq] at h
  rw [if_pos ⟨by omega, h.2⟩]
theorem auto_out {a : Int} {k : DKey} (c : (k.kind == 1) = true) (h : within k.n (a + 1) 1000000 = false) : autoOf a k = a := by
  rw [auto_yes c]
  simp only [within, Bool.and_eq_false_iff, decide_eq_false_iff_not] at h
  rw [if_neg (by omega)]
theorem putB_new {s : DStore} {k : DKey} {r : DRecord} (h0 : isStoreF s = true) (h1 : isKeyF k = true) (h2 : isRecordF r = true) (hi : idxF (keyIs k) s.items = -1) : putItemB s k r = decide (s.items.length < 16) := by
  rw [← putItem_same, putItemS, h0, h1, h2, find_none hi]; simp
theorem putB_old {s : DStore} {k : DKey} {r : DRecord} {i : Nat} (h0 : isStoreF s = true) (h1 : isKeyF k = true) (h2 : isRecordF r = true) (hi : idxF (keyIs k) s.items = (i : Int)) : putItemB s k r = true := by
  rw [← putItem_same, putItemS, h0, h1, h2, find_some hi]; simp
theorem putB_norec {s : DStore} {k : DKey} {r : DRecord} (h2 : isRecordF r = false) : putItemB s k r = false := by
  rw [← putItem_same, putItemS, h2]; simp
theorem slice_cap {α : Type} {E : TypeId} {R : Rep α} {w : World} {ao : Option Addr} {n cap : Nat} {l : List α} (h : Reads (Rep.slice E R) w [.slice ao n cap] l) : n ≤ cap := by
  obtain ⟨fp, h⟩ := h
  obtain ⟨ao', cap', hv, h1, h2, _⟩ := slice_open h
  simp only [Value.slice.injEq] at hv
  obtain ⟨_, rfl, rfl⟩ := hv
  exact h2
theorem store_auto {s : DStore} (h : isStoreF s = true) : 0 ≤ s.auto ∧ s.auto ≤ 1000000 := by
  obtain ⟨_, _, _, _, h5⟩ := store_iff.1 h
  simpa [within] using h5
attribute [local irreducible] isStoreF isKeyF isRecordF putOut keyIs cmpKeysF

set_option maxRecDepth 100000 in
set_option maxHeartbeats 16000000 in
theorem specPutItem (cs ck cr : List Value) (s : DStore) (k : DKey) (r : DRecord) (w : World) (h : Reads DStore.rep w cs s) (h' : Reads DKey.rep w ck k) (h'' : Reads DRecord.rep w cr r) (hs : SmallStore s) (hr : r.fields.length ≤ 1048600) :
    Calls Tryz.prog 98 #[.agg cs.toArray, .agg ck.toArray, .agg cr.toArray] w fun e w' => ∃ ds, e = .returned (.tuple #[.agg ds.toArray, .bool (putItemB s k r)]) ∧ Fresh DStore.rep w.heap.size w' ds (putItemF s k r) ∧ Below w.heap.size w w' := by
  have HS := Lib.hid h
  have HRr := Lib.hid h''
  obtain ⟨fp_q, h⟩ := h
  obtain ⟨q_v1, q_f1, rfl, _, q_s0, q_r1⟩ := DStore.rd.1 h
  obtain ⟨q_a1, q_c1, rfl, q_hm1, q_lc1, q_hu1⟩ := slice_open q_r1; clear q_hu1
  have q_K1 : Hid (Reads (Rep.slice 134 DItem.rep) w [.slice q_a1 s.items.length q_c1] s.items) := ⟨_, q_r1⟩
  clear q_r1 h
  obtain ⟨fk, hk⟩ := h'
  obtain ⟨rfl, _, hkt⟩ := DKey.rd.1 hk
  clear hk
  obtain ⟨fp_r, h''⟩ := h''
  obtain ⟨r_v1, r_f1, rfl, _, r_r1⟩ := DRecord.rd.1 h''
  obtain ⟨r_a1, r_c1, rfl, r_hm1, r_lc1, r_hu1⟩ := slice_open r_r1; clear r_hu1
  have r_K1 : Hid (Reads (Rep.slice 156 DField.rep) w [.slice r_a1 r.fields.length r_c1] r.fields) := ⟨_, r_r1⟩
  clear r_r1 h''
  have HKr : Hid (∀ W, Reads DKey.rep W [.int .i64 k.kind, .int .i64 k.n, .string k.text] k) := Lib.hid fun W => ⟨[], DKey.rd.2 ⟨rfl, rfl, hkt⟩⟩
  have hsl := hs.items
  obtain ⟨i0, hi, hz0, hz1, hz2⟩ := info_parts infoItem
  go_enter Tryz.func98, Tryz.ntmps98
  go_wp2_with fail
  refine (specIsStore _ s _ (HS.out.below (by repeat (first | with_reducible exact belR | with_reducible apply belA | (with_reducible refine belS ?_ ?_; focus (first | omega | (simp; done) | (simp; omega))) | with_reducible apply belN | with_reducible apply belD | with_reducible assumption)))).mono ?_
  rintro e w1 ⟨rfl, hb⟩
  have HX : Hid (WB w1 w.heap.size #[.string s.name, .slice q_a1 s.items.length q_c1, .int .i64 s.auto]) := Lib.hid ((((WB.at rfl).growA).growA).growA.keep hb)
  have HK : Hid (WB w1 (w.heap.size + 1) #[.int .i64 k.kind, .int .i64 k.n, .string k.text]) := Lib.hid ((((WB.at (by simp)).growA).growA).keep hb)
  have HR : Hid (WB w1 (w.heap.size + 2) #[.slice r_a1 r.fields.length r_c1]) := Lib.hid (((WB.at (by simp)).growA).keep hb)
  have HT : Hid (WB w1 (w.heap.size + 3) #[.string ⟨#[]⟩, .slice none 0 0, .int .i64 0]) := Lib.hid ((WB.at (by simp)).keep hb)
  have HB : Hid (Below w.heap.size w w1) := Lib.hid (below_call (by repeat (first | with_reducible exact belR | with_reducible apply belA | (with_reducible refine belS ?_ ?_; focus (first | omega | (simp; done) | (simp; omega))) | with_reducible apply belN | with_reducible apply belD | with_reducible assumption)) (by first | omega | (simp; done) | (simp; omega)) hb)
  have hz : w.heap.size + 4 ≤ w1.heap.size := by have y := hb.size; simp at y; omega
  clear hb
  have ⟨c_HX, z_HX, f_HX⟩ := HX.out
  have ⟨c_HK, z_HK, f_HK⟩ := HK.out
  have ⟨c_HR, z_HR, f_HR⟩ := HR.out
  have ⟨c_HT, z_HT, f_HT⟩ := HT.out
  cases b0 : isStoreF s
  case' true => cases b1 : isKeyF k
  case' true.true => cases b2 : isRecordF r
  case false =>
    have hB : Hid (putItemB s k r = false) := Lib.hid (by rw [putItemB, b0]; rfl)
    go_wp2_with fail
    refine (specCopyStore _ s _ (HS.out.below HB.out) hs).mono ?_
    rintro e w7 ⟨ds, rfl, hf7, hb7⟩
    obtain ⟨ao7, cap7, rfl, hfw7, _⟩ := DStore.fopen hf7
    have HF7 := Lib.hid hfw7
    have HB7 := Lib.hid (HB.out.trans (hb7.mono HB.out.size))
    have ⟨cr7, zr7, fr7⟩ := HT.out.keep hb7
    have hz7 := HB.out.size
    clear hf7 hfw7 hb7
    go_wp2
    refine bodyPost_ret (v := .tuple #[.agg #[.string s.name, .slice ao7 s.items.length cap7, .int .i64 s.auto], .bool false]) (by simp [results, Tryz.results98, go_sem, cr7]) rfl ⟨_, by rw [hB.out], ?_, ?_⟩
    · have e : putItemF s k r = s := by rw [putItemF, hB.out]; rfl
      rw [e]
      exact DStore.fmk (Fresh.mono (B := w1.heap.size) (by repeat (first | exact HF7.out | refine Fresh.setLow ?_ (by omega) | refine Fresh.drew ?_)) (by omega)) q_s0
    · have y := HB7.out
      exact (by repeat (first | with_reducible exact belR | (with_reducible refine belAB ?_ ?_; focus (first | omega | (simp; done) | (simp; omega))) | (with_reducible refine belS ?_ ?_; focus (first | omega | (simp; done) | (simp; omega))) | with_reducible apply belN | with_reducible apply belD | with_reducible assumption))
  case true.false =>
    have hB : Hid (putItemB s k r = false) := Lib.hid (by rw [putItemB, b1, Bool.false_and, Bool.and_false])
    go_wp2_with fail
    refine (specIsKey _ k _ (HKr.out _)).mono ?_
    rintro e w1b ⟨rfl, hb⟩
    rw [b1]
    clear c_HX z_HX f_HX c_HK z_HK f_HK c_HR z_HR f_HR c_HT z_HT f_HT
    have hzb := hb.size
    replace HX := Lib.hid (HX.out.keep hb)
    replace HK := Lib.hid (HK.out.keep hb)
    replace HR := Lib.hid (HR.out.keep hb)
    replace HT := Lib.hid (HT.out.keep hb)
    replace HB := Lib.hid (HB.out.trans (hb.mono HB.out.size))
    clear hb
    have ⟨c_HX, z_HX, f_HX⟩ := HX.out
    have ⟨c_HT, z_HT, f_HT⟩ := HT.out
    go_wp2_with fail
    refine (specCopyStore _ s _ (HS.out.below HB.out) hs).mono ?_
    rintro e w7 ⟨ds, rfl, hf7, hb7⟩
    obtain ⟨ao7, cap7, rfl, hfw7, _⟩ := DStore.fopen hf7
    have HF7 := Lib.hid hfw7
    have HB7 := Lib.hid (HB.out.trans (hb7.mono HB.out.size))
    have ⟨cr7, zr7, fr7⟩ := HT.out.keep hb7
    have hz7 := HB.out.size
    clear hf7 hfw7 hb7
    go_wp2
    refine bodyPost_ret (v := .tuple #[.agg #[.string s.name, .slice ao7 s.items.length cap7, .int .i64 s.auto], .bool false]) (by simp [results, Tryz.results98, go_sem, cr7]) rfl ⟨_, by rw [hB.out], ?_, ?_⟩
    · have e : putItemF s k r = s := by rw [putItemF, hB.out]; rfl
      rw [e]
      exact DStore.fmk (Fresh.mono (B := w1b.heap.size) (by repeat (first | exact HF7.out | refine Fresh.setLow ?_ (by omega) | refine Fresh.drew ?_)) (by omega)) q_s0
    · have y := HB7.out
      exact (by repeat (first | with_reducible exact belR | (with_reducible refine belAB ?_ ?_; focus (first | omega | (simp; done) | (simp; omega))) | (with_reducible refine belS ?_ ?_; focus (first | omega | (simp; done) | (simp; omega))) | with_reducible apply belN | with_reducible apply belD | with_reducible assumption))
  case true.true.false =>
    have hB : Hid (putItemB s k r = false) := Lib.hid (putB_norec b2)
    go_wp2_with fail
    refine (specIsKey _ k _ (HKr.out _)).mono ?_
    rintro e w1b ⟨rfl, hb⟩
    rw [b1]
    clear c_HX z_HX f_HX c_HK z_HK f_HK c_HR z_HR f_HR c_HT z_HT f_HT
    have hzb := hb.size
    replace HX := Lib.hid (HX.out.keep hb)
    replace HK := Lib.hid (HK.out.keep hb)
    replace HR := Lib.hid (HR.out.keep hb)
    replace HT := Lib.hid (HT.out.keep hb)
    replace HB := Lib.hid (HB.out.trans (hb.mono HB.out.size))
    clear hb
    have ⟨c_HX, z_HX, f_HX⟩ := HX.out
    have ⟨c_HR, z_HR, f_HR⟩ := HR.out
    have ⟨c_HT, z_HT, f_HT⟩ := HT.out
    go_wp2_with fail
    refine (specIsRecord _ r _ (HRr.out.below HB.out)).mono ?_
    rintro e w1c ⟨rfl, hb⟩
    rw [b2]
    clear c_HX z_HX f_HX c_HR z_HR f_HR c_HT z_HT f_HT
    have hzc := hb.size
    replace HX := Lib.hid (HX.out.keep hb)
    replace HK := Lib.hid (HK.out.keep hb)
    replace HR := Lib.hid (HR.out.keep hb)
    replace HT := Lib.hid (HT.out.keep hb)
    replace HB := Lib.hid (HB.out.trans (hb.mono HB.out.size))
    clear hb
    have ⟨c_HX, z_HX, f_HX⟩ := HX.out
    have ⟨c_HT, z_HT, f_HT⟩ := HT.out
    go_wp2_with fail
    refine (specCopyStore _ s _ (HS.out.below HB.out) hs).mono ?_
    rintro e w7 ⟨ds, rfl, hf7, hb7⟩
    obtain ⟨ao7, cap7, rfl, hfw7, _⟩ := DStore.fopen hf7
    have HF7 := Lib.hid hfw7
    have HB7 := Lib.hid (HB.out.trans (hb7.mono HB.out.size))
    have ⟨cr7, zr7, fr7⟩ := HT.out.keep hb7
    have hz7 := HB.out.size
    clear hf7 hfw7 hb7
    go_wp2
    refine bodyPost_ret (v := .tuple #[.agg #[.string s.name, .slice ao7 s.items.length cap7, .int .i64 s.auto], .bool false]) (by simp [results, Tryz.results98, go_sem, cr7]) rfl ⟨_, by rw [hB.out], ?_, ?_⟩
    · have e : putItemF s k r = s := by rw [putItemF, hB.out]; rfl
      rw [e]
      exact DStore.fmk (Fresh.mono (B := w1c.heap.size) (by repeat (first | exact HF7.out | refine Fresh.setLow ?_ (by omega) | refine Fresh.drew ?_)) (by omega)) q_s0
    · have y := HB7.out
      exact (by repeat (first | with_reducible exact belR | (with_reducible refine belAB ?_ ?_; focus (first | omega | (simp; done) | (simp; omega))) | (with_reducible refine belS ?_ ?_; focus (first | omega | (simp; done) | (simp; omega))) | with_reducible apply belN | with_reducible apply belD | with_reducible assumption))
  case true.true.true =>
    have a0 := Lib.hid b0
    have a1 := Lib.hid b1
    have a2 := Lib.hid b2
    have hauto := Lib.hid (store_auto b0)
    go_wp2_with fail
    refine (specIsKey _ k _ (HKr.out _)).mono ?_
    rintro e w1b ⟨rfl, hb⟩
    rw [b1]
    clear c_HX z_HX f_HX c_HK z_HK f_HK c_HR z_HR f_HR c_HT z_HT f_HT
    have hzb := hb.size
    replace HX := Lib.hid (HX.out.keep hb)
    replace HK := Lib.hid (HK.out.keep hb)
    replace HR := Lib.hid (HR.out.keep hb)
    replace HT := Lib.hid (HT.out.keep hb)
    replace HB := Lib.hid (HB.out.trans (hb.mono HB.out.size))
    clear hb
    have ⟨c_HX, z_HX, f_HX⟩ := HX.out
    have ⟨c_HR, z_HR, f_HR⟩ := HR.out
    go_wp2_with fail
    refine (specIsRecord _ r _ (HRr.out.below HB.out)).mono ?_
    rintro e w1c ⟨rfl, hb⟩
    rw [b2]
    clear c_HX z_HX f_HX c_HR z_HR f_HR
    have hzc := hb.size
    replace HX := Lib.hid (HX.out.keep hb)
    replace HK := Lib.hid (HK.out.keep hb)
    replace HR := Lib.hid (HR.out.keep hb)
    replace HT := Lib.hid (HT.out.keep hb)
    replace HB := Lib.hid (HB.out.trans (hb.mono HB.out.size))
    clear hb
    clear b0 b1 b2
    have ⟨c_HX, z_HX, f_HX⟩ := HX.out
    go_wp2_with fail
    refine (specCopyStore _ s _ (HS.out.below HB.out) hs).mono ?_
    rintro e w2 ⟨ds, rfl, hf, hb⟩
    obtain ⟨ao, cap, rfl, hfw, _⟩ := DStore.fopen hf
    have HF : Hid (Fresh (Rep.slice 134 DItem.rep) (w.heap.size + 4) w2 [.slice ao s.items.length cap] s.items) := Lib.hid (hfw.mono (by omega))
    have hz2' := hb.size
    clear c_HX z_HX f_HX
    replace HX := Lib.hid (HX.out.keep hb)
    replace HK := Lib.hid (HK.out.keep hb)
    replace HR := Lib.hid (HR.out.keep hb)
    replace HT := Lib.hid (HT.out.keep hb)
    replace HB := Lib.hid (HB.out.trans (hb.mono HB.out.size))
    clear hf hfw hb
    have ⟨c_HX, z_HX, f_HX⟩ := HX.out
    have ⟨c_HK, z_HK, f_HK⟩ := HK.out
    go_wp2_with fail
    refine (specFindItem _ _ s k _ (HS.out.below (by have y := HB.out; exact (by repeat (first | with_reducible exact belR | with_reducible apply belA | (with_reducible refine belS ?_ ?_; focus (first | omega | (simp; done) | (simp; omega))) | with_reducible apply belN | with_reducible apply belD | with_reducible assumption)))) (HKr.out _)).mono ?_
    rintro e w3 ⟨rfl, hb⟩
    have hq : Below w2.heap.size w2 w3 := below_call (by repeat (first | with_reducible exact belR | with_reducible apply belA | (with_reducible refine belS ?_ ?_; focus (first | omega | (simp; done) | (simp; omega))) | with_reducible apply belN | with_reducible apply belD | with_reducible assumption)) (by first | omega | (simp; done) | (simp; omega)) hb
    have HO : Hid (WB w3 w2.heap.size #[.string s.name, .slice ao s.items.length cap, .int .i64 s.auto]) := Lib.hid ((WB.at rfl).keep hb)
    have hsz3 : w2.heap.size + 1 ≤ w3.heap.size := by have y := hb.size; simp at y; omega
    have hlt : Hid (∀ b, (Value.slice ao s.items.length cap).ownBlock = some b → w.heap.size + 4 ≤ b ∧ b < w2.heap.size) := Lib.hid fun b hb => HF.out.ownlt b (by rw [hb]; simp)
    have hno : Hid (∀ b, b < w.heap.size + 4 ∨ w2.heap.size ≤ b → b ∉ (Value.slice ao s.items.length cap).ownBlock.toList) := Lib.hid fun b hb hm => by
      have := hlt.out b (by simpa using hm); omega
    have HP := Lib.hid (HF.out.partAt (Nat.le_refl _))
    clear c_HX z_HX f_HX c_HK z_HK f_HK
    replace HX := Lib.hid (HX.out.keep hq)
    replace HK := Lib.hid (HK.out.keep hq)
    replace HR := Lib.hid (HR.out.keep hq)
    replace HT := Lib.hid (HT.out.keep hq)
    replace HF := Lib.hid (HF.out.below hq)
    replace HP := Lib.hid (HP.out.below hq)
    replace HB := Lib.hid (HB.out.trans (hq.mono HB.out.size))
    clear hb hq
    rcases idxF_cases (keyIs k) s.items with ⟨he, hall⟩ | ⟨i, hi', he, hp, hall⟩
    · have HE := Lib.hid (putOut_none r he)
      have HPB := Lib.hid (putB_new (r := r) a0.out a1.out a2.out he)
      rw [he]
      clear he hall
      have ⟨c_HX, z_HX, f_HX⟩ := HX.out
      have ⟨c_HK, z_HK, f_HK⟩ := HK.out
      have ⟨c_HR, z_HR, f_HR⟩ := HR.out
      have ⟨c_HO, z_HO, f_HO⟩ := HO.out
      have ⟨c_HT, z_HT, f_HT⟩ := HT.out
      by_cases h16 : 16 ≤ s.items.length
      · have hB : Hid (putItemB s k r = false) := Lib.hid (by rw [HPB.out]; exact decide_eq_false (by omega))
        go_wp2
        refine bodyPost_ret (v := .tuple #[.agg #[.string s.name, .slice ao s.items.length cap, .int .i64 s.auto], .bool false]) (by simp [results, Tryz.results98, go_sem, c_HT]) rfl ⟨_, by rw [hB.out], ?_, ?_⟩
        · have e : putItemF s k r = s := by rw [putItemF, hB.out]; rfl
          rw [e]
          exact DStore.fmk (Fresh.mono (B := (w.heap.size + 4)) (by repeat (first | exact HF.out | refine Fresh.setLow ?_ (by omega) | refine Fresh.drew ?_)) (by omega)) q_s0
        · have y := HB.out
          exact (by repeat (first | with_reducible exact belR | (with_reducible refine belAB ?_ ?_; focus (first | omega | (simp; done) | (simp; omega))) | (with_reducible refine belS ?_ ?_; focus (first | omega | (simp; done) | (simp; omega))) | with_reducible apply belN | with_reducible apply belD | with_reducible assumption))
      · have hB : Hid (putItemB s k r = true) := Lib.hid (by rw [HPB.out]; exact decide_eq_true (by omega))
        clear HPB
        go_wp2
        go_loopw [10] (fun i wr => ∃ a : Nat, a ≤ s.items.length ∧ i = .int .i64 a ∧ Hid (∀ j, (hj : j < s.items.length) → j < a → itemLess k s.items[j] = true) ∧ Below w3.heap.size w3 wr) (fun i _ => s.items.length - (intOf i).toNat)
        case atStart => exact ⟨0, by omega, rfl, Lib.hid (by intro j hj h; omega), belR⟩
        case round =>
          obtain ⟨a, ha, rfl, HA, hb⟩ := hrel
          clear c_HX z_HX f_HX c_HK z_HK f_HK c_HR z_HR f_HR c_HO z_HO f_HO c_HT z_HT f_HT
          have hsr := hb.size
          replace HX := Lib.hid (HX.out.keep hb)
          replace HK := Lib.hid (HK.out.keep hb)
          replace HR := Lib.hid (HR.out.keep hb)
          replace HT := Lib.hid (HT.out.keep hb)
          replace HO := Lib.hid (HO.out.keep hb)
          replace HF := Lib.hid (HF.out.below hb)
          replace HP := Lib.hid (HP.out.below hb)
          replace HB := Lib.hid (HB.out.trans (hb.mono HB.out.size))
          have HQ := Lib.hid hb
          clear hb
          have ⟨c_HX, z_HX, f_HX⟩ := HX.out
          have ⟨c_HK, z_HK, f_HK⟩ := HK.out
          have ⟨c_HR, z_HR, f_HR⟩ := HR.out
          have ⟨c_HO, z_HO, f_HO⟩ := HO.out
          have hstop : (Hid (∀ h : a < s.items.length, itemLess k s.items[a] = false)) ∨ ∃ h : a < s.items.length, itemLess k s.items[a] = true := by
            by_cases h1 : a < s.items.length
            · cases h2 : itemLess k s.items[a]
              · exact .inl (Lib.hid fun _ => h2)
              · exact .inr ⟨h1, h2⟩
            · exact .inl (Lib.hid fun h => absurd h h1)
          have j1 : (0 : Int) ≤ (a : Int) := by omega
          rcases hstop with HN | ⟨hlt', hle⟩
          · have HL := Lib.hid (lead_eq ha HA.out HN.out)
            have HE2 : Hid (putOut s k r = ⟨s.name, insAt s.items a ⟨k, r⟩, autoOf s.auto k⟩) := Lib.hid (by rw [HE.out, putNew, HL.out])
            clear HE HL HA
            go_upto_region 11 with fail
            go_cut [62] from 47 to 64 (fun v wx => v = .bool false ∧ Below wr.heap.size wr wx)
            case first =>
              by_cases hkl : a < s.items.length
              · obtain ⟨b, off, cs_b, rfl, hw_b, hr_b, hcell_b⟩ := slice_at (q_K1.out.below HB.out) a hkl
                obtain ⟨fe_b, hrd_b⟩ := hr_b
                have HR_b : Hid (Reads DItem.rep wr cs_b s.items[a]) := ⟨_, hrd_b⟩
                obtain ⟨b_v1, b_f1, rfl, _, b_s0, b_r1⟩ := DItem.rd.1 hrd_b
                obtain ⟨b_a1, b_k1, rfl, _⟩ := slice_open b_r1
                have b_R1 : Hid (Reads (Rep.slice 156 DField.rep) wr [.slice b_a1 s.items[a].record.fields.length b_k1] s.items[a].record.fields) := ⟨_, b_r1⟩
                clear b_r1
                clear hrd_b
                have b_c0 : wr.cell? ⟨b, off + a * 4, none⟩ = some (.int .i64 s.items[a].key.kind) := hcell_b 0 (by decide)
                have b_c1 : wr.cell? ⟨b, off + a * 4 + 1, none⟩ = some (.int .i64 s.items[a].key.n) := hcell_b 1 (by decide)
                have b_c2 : wr.cell? ⟨b, off + a * 4 + 2, none⟩ = some (.string s.items[a].key.text) := hcell_b 2 (by decide)
                have b_c3 : wr.cell? ⟨b, off + a * 4 + 3, none⟩ = some (.slice b_a1 s.items[a].record.fields.length b_k1) := hcell_b 3 (by decide)
                clear hcell_b
                clear HR_b b_R1
                have i2 : (a : Int) < (s.items.length : Int) := by omega
                have n5 : decide (cmpKeysF s.items[a].key k < 0) = false := HN.out hkl
                have HKj : Hid (∀ W, Reads DKey.rep W [.int .i64 s.items[a].key.kind, .int .i64 s.items[a].key.n, .string s.items[a].key.text] s.items[a].key) := Lib.hid fun W => ⟨[], DKey.rd.2 ⟨rfl, rfl, b_s0⟩⟩
                have n6 : decide (a < s.items.length) = true := decide_eq_true hkl
                go_wp2_with fail
                have K0 := rg_var HX.out
                have K1 := rg_var HK.out
                have C3 := rg_cell b_c0
                have C4 := rg_cell b_c1
                have C5 := rg_cell b_c2
                refine wp_region_rg (by kernel_rfl) (by kernel_rfl) ?_
                repeat (go_big_quiet_step ((go_at_call 121; exact calls_rg (specCompareKeys _ _ s.items[a].key k _ (HKj.out _) (HKr.out _)))))
                refine wpQuiet_nil ?_
                rintro _ ⟨pq, rfl⟩
                have hb := rg_below wr pq
                go_wp2_with fail
                go_meet
                exact ⟨rfl, hb⟩
              · have n6 : decide (a < s.items.length) = false := decide_eq_false hkl
                go_wp2_with fail
                have K0 := rg_var HX.out
                have K1 := rg_var HK.out
                refine wp_region_rg (by kernel_rfl) (by kernel_rfl) ?_
                repeat (go_big_quiet_step (fail))
                refine wpQuiet_nil ?_
                rintro _ ⟨pq, rfl⟩
                have hb := rg_below wr pq
                go_wp2_with fail
                go_meet
                exact ⟨rfl, hb⟩
            case rest =>
              obtain ⟨rfl, hb⟩ := hcut
              obtain ⟨wx, hwx⟩ : ∃ wx : World, wx = wc := ⟨_, rfl⟩
              subst hwx
              clear c_HX z_HX f_HX c_HK z_HK f_HK c_HR z_HR f_HR c_HO z_HO f_HO
              have hsx := hb.size
              replace HX := Lib.hid (HX.out.keep hb)
              replace HK := Lib.hid (HK.out.keep hb)
              replace HR := Lib.hid (HR.out.keep hb)
              replace HT := Lib.hid (HT.out.keep hb)
              replace HO := Lib.hid (HO.out.keep hb)
              replace HF := Lib.hid (HF.out.below hb)
              replace HP := Lib.hid (HP.out.below hb)
              replace HB := Lib.hid (HB.out.trans (hb.mono HB.out.size))
              clear hb HQ
              have ⟨c_HX, z_HX, f_HX⟩ := HX.out
              have ⟨c_HK, z_HK, f_HK⟩ := HK.out
              have ⟨c_HR, z_HR, f_HR⟩ := HR.out
              have ⟨c_HO, z_HO, f_HO⟩ := HO.out
              obtain ⟨raws, hrl, hrf, hclose⟩ := Part.raws HP.out
              have HRF := Lib.hid hrf
              have HCL := Lib.hid hclose
              have HPre := Lib.hid (hrf.reads.pre a ha)
              have HTl := Lib.hid (Reads.tail hrf.reads a ha)
              have hsl := fun W => run_tail (P := Tryz.prog) (t := 40) (n := 4) (by kernel_rfl) (fun _ => by kernel_rfl) ao a s.items.length cap ha W
              have hle : s.items.length ≤ cap := slice_cap HF.out.reads
              have j2 : (a : Int) ≤ (s.items.length : Int) := by omega
              have j3 : (a : Int) ≤ (cap : Int) := by omega
              have j4 : a ≤ cap := by omega
              have ht1 : (raws.take a).length = a := by rw [List.length_take]; omega
              clear hrf hclose
              go_wp2_with (at_builtin; refine (FlatR.raw DItem.rep.n).grow3 _ rfl _ _ 40 40 rfl wx.heap.size 134 i0 _ _ Tryz.underlying40 Tryz.underlying40 hi hz0 hz1 hz2 rfl _ [] rfl (Fresh.lit0 rfl) _ (raws.take a) rfl (HPre.out.below (by repeat (first | with_reducible exact belR | with_reducible apply belA | (with_reducible refine belS ?_ ?_; focus (first | omega | (simp; done) | (simp; omega))) | with_reducible apply belN | with_reducible apply belD | with_reducible assumption))) a ?c1 ?c2 ?c3 ?c4 ?_)
              case c1 => rw [ht1]; simp
              case c2 => omega
              case c3 => decide
              case c4 => simp
              intro ao1 cap1 wy hf1 hc1 hb1 hv1
              have HF1 : Hid (Fresh (Rep.slice 134 (Rep.raw DItem.rep.n)) wx.heap.size wy [.slice ao1 a cap1] (raws.take a)) := Lib.hid (by simpa using hf1)
              have hqy : Below wx.heap.size wx wy := Below.trans (by repeat (first | with_reducible exact belR | (with_reducible refine belAB ?_ ?_; focus (first | omega | (simp; done) | (simp; omega))) | (with_reducible refine belS ?_ ?_; focus (first | omega | (simp; done) | (simp; omega))) | with_reducible apply belN | with_reducible apply belD | with_reducible assumption)) hb1
              have hzy := hqy.size
              have hvy : Hid (∀ b ∈ (Value.slice ao1 a cap1).ownBlock.toList, wx.heap.size ≤ b ∧ b < wy.heap.size) := Lib.hid HF1.out.ownlt
              clear hf1 hc1 hb1 hv1
              clear c_HX z_HX f_HX c_HK z_HK f_HK c_HR z_HR f_HR c_HO z_HO f_HO
              replace HX := Lib.hid (HX.out.keep hqy)
              replace HK := Lib.hid (HK.out.keep hqy)
              replace HR := Lib.hid (HR.out.keep hqy)
              replace HT := Lib.hid (HT.out.keep hqy)
              replace HO := Lib.hid (HO.out.keep hqy)
              replace HB := Lib.hid (HB.out.trans (hqy.mono HB.out.size))
              have HQY := Lib.hid hqy
              clear hqy
              have ⟨c_HX, z_HX, f_HX⟩ := HX.out
              have ⟨c_HK, z_HK, f_HK⟩ := HK.out
              have ⟨c_HR, z_HR, f_HR⟩ := HR.out
              have ⟨c_HO, z_HO, f_HO⟩ := HO.out
              go_upto_region 14 with fail
              go_cut [11] (fun v W => ∃ ao2 cap2 a4 c4 C, ∃ rk : RawEl DItem.rep.n, v = .slice ao2 (a + 1) cap2 ∧ rk.cs = [.int .i64 k.kind, .int .i64 k.n, .string k.text, .slice a4 r.fields.length c4] ∧ Part DItem.rep wy.heap.size C W [.int .i64 k.kind, .int .i64 k.n, .string k.text, .slice a4 r.fields.length c4] ⟨k, r⟩ ∧ Fresh (Rep.slice 134 (Rep.raw DItem.rep.n)) wx.heap.size W [.slice ao2 (a + 1) cap2] (raws.take a ++ [rk]) ∧ (∀ b ∈ (Value.slice ao2 (a + 1) cap2).ownBlock.toList, b < wy.heap.size ∨ C ≤ b) ∧ Below wx.heap.size wy W ∧ C ≤ W.heap.size)
              case first =>
                go_region_law (first
                  | (go_simp; go_at_call 119; refine (specCopyRecord _ r _ (HRr.out.below (by have y := HB.out; exact (by repeat (first | with_reducible exact belR | (with_reducible refine belAB ?_ ?_; focus (first | omega | (simp; done) | (simp; omega))) | (with_reducible refine belS ?_ ?_; focus (first | omega | (simp; done) | (simp; omega))) | with_reducible apply belN | with_reducible apply belD | with_reducible assumption)))) hr).mono ?_; rintro e w4 ⟨ds, rfl, hf4, hb4⟩; obtain ⟨a4, c4, rfl⟩ := DRecord.fshape hf4; have hq4 : Below wy.heap.size wy w4 := (Below.trans (by repeat (first | with_reducible exact belR | (with_reducible refine belAB ?_ ?_; focus (first | omega | (simp; done) | (simp; omega))) | (with_reducible refine belS ?_ ?_; focus (first | omega | (simp; done) | (simp; omega))) | with_reducible apply belN | with_reducible apply belD | with_reducible assumption)) (hb4.mono (by first | omega | (simp; done) | (simp; omega)))); have hsz4 := hq4.size; have hfi := item_fmk hkt (hf4.mono (B' := wy.heap.size) (by first | exact Nat.le_refl _ | (simp; done) | omega)); obtain ⟨rk, hrk⟩ := mk_raw hfi; have hwk := HK.out.keep hq4; have ⟨ck4, zk4, fk4⟩ := hwk)
                  | ((refine (FlatR.raw DItem.rep.n).step_growD _ (by rfl) (.tmp 71) (.tmp 76) 40 40 (by rfl) wx.heap.size 134 i0 _ _ Tryz.underlying40 Tryz.underlying40 hi hz0 hz1 hz2 rfl (.slice ao1 a cap1) (raws.take a) (by rfl) ?ownA _ [rk] (by rfl) ?rdA (a + 1) ?lmA ?lnA (by decide) ?bsA ?_); (case ownA => exact ((HF1.out.below hq4).below (by repeat (first | with_reducible exact belR | with_reducible apply belA | (with_reducible refine belS ?_ ?_; focus (first | omega | (simp; done) | (simp; omega))) | with_reducible apply belN | with_reducible apply belD | with_reducible assumption)))); (case rdA => exact (FlatR.raw DItem.rep.n).one_reads rfl hrk.symm trivial); (case lmA => rw [ht1]; rfl); (case lnA => omega); (case bsA => (simp; omega)); (intro ao2 cap2 w6 hf6 hc6 hb6 hv6)))
                all_goals
                  have hp4 : Part DItem.rep wy.heap.size w4.heap.size w6 [.int .i64 k.kind, .int .i64 k.n, .string k.text, .slice a4 r.fields.length c4] ⟨k, r⟩ := Part.off ((hfi.partAt (Nat.le_refl _)).below (by repeat (first | with_reducible exact belR | with_reducible apply belA | (with_reducible refine belS ?_ ?_; focus (first | omega | (simp; done) | (simp; omega))) | with_reducible apply belN | with_reducible apply belD | with_reducible assumption))) hc6 (fun b hb => .inl (hvy.out b hb).2)
                  have hg6 : ∀ b ∈ (Value.slice ao2 (a + 1) cap2).ownBlock.toList, b < wy.heap.size ∨ w4.heap.size ≤ b := fun b hb => by
                    rcases hv6 b (by first | exact hb | simpa using hb) with h | h
                    · exact .inl (hvy.out b (by first | exact h | simpa using h)).2
                    · right; simp at h; omega
                  have hb7 : Below wx.heap.size wy w6 := Below.trans (Below.trans (hq4.mono hzy) (Below.trans (Below.refl _ _) (by repeat (first | with_reducible exact belR | (with_reducible refine belAB ?_ ?_; focus (first | omega | (simp; done) | (simp; omega))) | (with_reducible refine belS ?_ ?_; focus (first | omega | (simp; done) | (simp; omega))) | with_reducible apply belN | with_reducible apply belD | with_reducible assumption)))) hb6
                  have hs6 : w4.heap.size ≤ w6.heap.size := by have y := hb6.size; simp at y; omega
                  go_wp2_with fail
                  go_meet
                  exact ⟨ao2, cap2, a4, c4, w4.heap.size, rk, rfl, hrk, hp4, hf6, hg6, hb7, hs6⟩
              case rest =>
                obtain ⟨ao2, cap2, a4, c4, C, rk, rfl, hrk, hp4, hf6, hg6, hb7, hC⟩ := hcut
                obtain ⟨wz, hwz⟩ : ∃ wz : World, wz = wc := ⟨_, rfl⟩
                subst hwz
                clear c_HX z_HX f_HX c_HK z_HK f_HK c_HR z_HR f_HR c_HO z_HO f_HO
                have hsz := hb7.size
                have HX7 := Lib.hid (HX.out.grow hb7 (by omega))
                have HK7 := Lib.hid (HK.out.grow hb7 (by omega))
                have HT7 := Lib.hid (HT.out.grow hb7 (by omega))
                have HO7 := Lib.hid (HO.out.grow hb7 (by omega))
                have HB7 := Lib.hid (HB.out.trans (hb7.mono (by omega)))
                have HQ7 := Lib.hid (HQY.out.trans hb7)
                have HTl7 := Lib.hid (HTl.out.below HQ7.out)
                have HP4 := Lib.hid hp4
                have HF6 := Lib.hid hf6
                have HG6 := Lib.hid hg6
                clear hp4 hf6 hg6 hb7 HX HK HR HT HO HB
                have ⟨c_HX7, z_HX7, f_HX7⟩ := HX7.out
                have ⟨c_HO7, z_HO7, f_HO7⟩ := HO7.out
                go_wp2_with (at_builtin; refine (FlatR.raw DItem.rep.n).grow3 _ rfl _ _ 40 40 rfl wx.heap.size 134 i0 _ _ Tryz.underlying40 Tryz.underlying40 hi hz0 hz1 hz2 rfl _ (raws.take a ++ [rk]) rfl HF6.out _ (raws.drop a) rfl HTl7.out (s.items.length + 1) ?c1 ?c2 ?c3 ?c4 ?_)
                case c1 => rw [List.length_append, ht1, List.length_drop]; simp; omega
                case c2 => omega
                case c3 => decide
                case c4 => omega
                intro ao3 cap3 wt hf8 hc8 hb8 hv8
                have hgap := HCL.out wt (.slice ao3 (s.items.length + 1) cap3) [.int .i64 k.kind, .int .i64 k.n, .string k.text, .slice a4 r.fields.length c4] ⟨k, r⟩ a (w2.heap.size + 1) wy.heap.size C rk ((HQ7.out.mono (by omega)).trans (hb8.mono (by omega))) ha hrk (Part.off HP4.out hc8 HG6.out) (by omega) (by omega) (by omega) (by
                  have y := hf8.mono (B' := w2.heap.size + 1) (by omega)
                  first
                    | exact y
                    | (have e : raws.take a ++ [rk] ++ raws.drop a = insAt raws a rk := by simp [insAt]
                       rw [e] at y
                       exact y)) (fun b hb => by
                    rcases hv8 b (by first | exact hb | simpa using hb) with h | h
                    · exact HG6.out b (by first | exact h | simpa using h)
                    · right; omega)
                have HGap := Lib.hid hgap
                have hb9 : Below (w2.heap.size + 1) wz wt := hb8.mono (by omega)
                have hs9 := hb9.size
                clear c_HX7 z_HX7 f_HX7 c_HO7 z_HO7 f_HO7
                have HX := Lib.hid (HX7.out.grow hb9 (by omega))
                have HK := Lib.hid (HK7.out.grow hb9 (by omega))
                have HT := Lib.hid (HT7.out.grow hb9 (by omega))
                have HO := Lib.hid (HO7.out.grow hb9 (by omega))
                have HB := Lib.hid (HB7.out.trans (hb9.mono (by omega)))
                clear hf8 hc8 hb8 hv8 hgap hb9 HX7 HK7 HT7 HO7 HB7 HQ7 HQY HTl7 HP4 HF6 HG6 HF1 hvy HPre HTl HRF HCL
                have ⟨c_HO, z_HO, f_HO⟩ := HO.out
                go_upto_region 16 with fail
                refine settle (fun W => ∃ v6, WB W w.heap.size #[.string s.name, .slice q_a1 s.items.length q_c1, .int .i64 s.auto] ∧ WB W (w.heap.size + 1) #[.int .i64 k.kind, .int .i64 k.n, .string k.text] ∧ WB W (w.heap.size + 3) #[.string ⟨#[]⟩, .slice none 0 0, .int .i64 0] ∧ WB W w2.heap.size #[.string s.name, v6, .int .i64 s.auto] ∧ Gap (Rep.slice 134 DItem.rep) (w.heap.size + 4) w2.heap.size (w2.heap.size + 1) W [v6] (insAt s.items a ⟨k, r⟩) ∧ Below w.heap.size w W) ⟨_, HX.out.setOther (by omega), HK.out.setOther (by omega), HT.out.setOther (by omega), HO.out.setAt (by simp) rfl, HGap.out.set (by omega), by have y := HB.out; exact (by repeat (first | with_reducible exact belR | (with_reducible refine belAB ?_ ?_; focus (first | omega | (simp; done) | (simp; omega))) | (with_reducible refine belS ?_ ?_; focus (first | omega | (simp; done) | (simp; omega))) | with_reducible apply belN | with_reducible apply belD | with_reducible assumption))⟩ ?_
                clear c_HO z_HO f_HO
                clear HX HK HT HO HB HGap HF HP
                rintro w8 ⟨v6, hx, hk8, ht, ho, hf, hb⟩
                have HX := Lib.hid hx
                have HK := Lib.hid hk8
                have HT := Lib.hid ht
                have HO := Lib.hid ho
                have HF := Lib.hid hf
                have HB := Lib.hid hb
                clear hx hk8 ht ho hf hb
                have ⟨c_HX, z_HX, f_HX⟩ := HX.out
                have ⟨c_HK, z_HK, f_HK⟩ := HK.out
                have ⟨c_HO, z_HO, f_HO⟩ := HO.out
                have hw : IntKind.i64.wrap (s.auto + 1) = s.auto + 1 := Go.IntWalk.i64_in _ (by have := hauto.out; omega)
                cases c1 : (k.kind == 1)
                case' true => cases c2 : within k.n (s.auto + 1) 1000000
                case false =>
                  go_upto_region 18 with fail
                  refine settle (fun W => ∃ v5, WB W w.heap.size #[.string s.name, .slice q_a1 s.items.length q_c1, .int .i64 s.auto] ∧ WB W (w.heap.size + 3) #[.string ⟨#[]⟩, .slice none 0 0, .int .i64 0] ∧ WB W w2.heap.size #[.string s.name, v5, .int .i64 (putOut s k r).auto] ∧ Fresh (Rep.slice 134 DItem.rep) (w.heap.size + 4) W [v5] (putOut s k r).items ∧ Below w.heap.size w W) ⟨v6, HX.out, HT.out, by rw [HE2.out]; show WB _ _ #[_, _, .int .i64 (autoOf s.auto k)]; rw [auto_no c1]; exact HO.out, by rw [HE2.out]; exact HF.out.fresh, HB.out⟩ ?_
                  clear c_HX z_HX f_HX c_HK z_HK f_HK c_HO z_HO f_HO
                  clear HX HK HT HO HF HB HE2 hlt hno
                  rintro w5 ⟨v5, hx, ht, ho, hf, hb⟩
                  obtain ⟨ao5, cap5, rfl⟩ := hf.slice
                  have HT5 := Lib.hid ht
                  have HO5 := Lib.hid ho
                  have HF5 := Lib.hid hf
                  have HB5 := Lib.hid hb
                  clear hx ht ho hf hb
                  have ⟨c_HT5, z_HT5, f_HT5⟩ := HT5.out
                  have ⟨c_HO5, z_HO5, f_HO5⟩ := HO5.out
                  go_wp2
                  refine bodyPost_ret (v := .tuple #[.agg #[.string s.name, .slice ao5 (putOut s k r).items.length cap5, .int .i64 (putOut s k r).auto], .bool true]) (by simp [results, Tryz.results98, go_sem, c_HT5]) rfl ⟨_, by rw [hB.out], ?_, ?_⟩
                  · have e : putItemF s k r = putOut s k r := by rw [putItemF, hB.out]; rfl
                    rw [e]
                    exact putOut_fmk (Fresh.mono (B := (w.heap.size + 4)) (by repeat (first | exact HF5.out | refine Fresh.setLow ?_ (by omega) | refine Fresh.drew ?_)) (by omega)) q_s0
                  · have y := HB5.out
                    exact (by repeat (first | with_reducible exact belR | (with_reducible refine belAB ?_ ?_; focus (first | omega | (simp; done) | (simp; omega))) | (with_reducible refine belS ?_ ?_; focus (first | omega | (simp; done) | (simp; omega))) | with_reducible apply belN | with_reducible apply belD | with_reducible assumption))
                all_goals
                  go_wp2_with fail
                  refine (specIn _ _ _ _).mono ?_
                  rintro e w9 ⟨rfl, rfl⟩
                  rw [c2]
                  go_upto_region 18 with fail
                  refine settle (fun W => ∃ v5, WB W w.heap.size #[.string s.name, .slice q_a1 s.items.length q_c1, .int .i64 s.auto] ∧ WB W (w.heap.size + 3) #[.string ⟨#[]⟩, .slice none 0 0, .int .i64 0] ∧ WB W w2.heap.size #[.string s.name, v5, .int .i64 (putOut s k r).auto] ∧ Fresh (Rep.slice 134 DItem.rep) (w.heap.size + 4) W [v5] (putOut s k r).items ∧ Below w.heap.size w W) ?hE ?_
                  case hE => exact ⟨v6, by first | exact HX.out | exact HX.out.setOther (by omega), by first | exact HT.out | exact HT.out.setOther (by omega), by rw [HE2.out]; show WB _ _ #[_, _, .int .i64 (autoOf s.auto k)]; first | (rw [auto_in c1 c2]; exact HO.out.setAt (by simp) rfl) | (rw [auto_out c1 c2]; exact HO.out), by rw [HE2.out]; first | exact HF.out.fresh | exact (HF.out.set (by omega)).fresh, by have y := HB.out; exact (by repeat (first | with_reducible exact belR | (with_reducible refine belAB ?_ ?_; focus (first | omega | (simp; done) | (simp; omega))) | (with_reducible refine belS ?_ ?_; focus (first | omega | (simp; done) | (simp; omega))) | with_reducible apply belN | with_reducible apply belD | with_reducible assumption))⟩
                  clear c_HX z_HX f_HX c_HK z_HK f_HK c_HO z_HO f_HO
                  clear HX HK HT HO HF HB HE2 hlt hno
                  rintro w5 ⟨v5, hx, ht, ho, hf, hb⟩
                  obtain ⟨ao5, cap5, rfl⟩ := hf.slice
                  have HT5 := Lib.hid ht
                  have HO5 := Lib.hid ho
                  have HF5 := Lib.hid hf
                  have HB5 := Lib.hid hb
                  clear hx ht ho hf hb
                  have ⟨c_HT5, z_HT5, f_HT5⟩ := HT5.out
                  have ⟨c_HO5, z_HO5, f_HO5⟩ := HO5.out
                  go_wp2
                  refine bodyPost_ret (v := .tuple #[.agg #[.string s.name, .slice ao5 (putOut s k r).items.length cap5, .int .i64 (putOut s k r).auto], .bool true]) (by simp [results, Tryz.results98, go_sem, c_HT5]) rfl ⟨_, by rw [hB.out], ?_, ?_⟩
                  · have e : putItemF s k r = putOut s k r := by rw [putItemF, hB.out]; rfl
                    rw [e]
                    exact putOut_fmk (Fresh.mono (B := (w.heap.size + 4)) (by repeat (first | exact HF5.out | refine Fresh.setLow ?_ (by omega) | refine Fresh.drew ?_)) (by omega)) q_s0
                  · have y := HB5.out
                    exact (by repeat (first | with_reducible exact belR | (with_reducible refine belAB ?_ ?_; focus (first | omega | (simp; done) | (simp; omega))) | (with_reducible refine belS ?_ ?_; focus (first | omega | (simp; done) | (simp; omega))) | with_reducible apply belN | with_reducible apply belD | with_reducible assumption))

          · obtain ⟨b, off, cs_b, rfl, hw_b, hr_b, hcell_b⟩ := slice_at (q_K1.out.below HB.out) a hlt'
            obtain ⟨fe_b, hrd_b⟩ := hr_b
            have HR_b : Hid (Reads DItem.rep wr cs_b s.items[a]) := ⟨_, hrd_b⟩
            obtain ⟨b_v1, b_f1, rfl, _, b_s0, b_r1⟩ := DItem.rd.1 hrd_b
            obtain ⟨b_a1, b_k1, rfl, _⟩ := slice_open b_r1
            have b_R1 : Hid (Reads (Rep.slice 156 DField.rep) wr [.slice b_a1 s.items[a].record.fields.length b_k1] s.items[a].record.fields) := ⟨_, b_r1⟩
            clear b_r1
            clear hrd_b
            have b_c0 : wr.cell? ⟨b, off + a * 4, none⟩ = some (.int .i64 s.items[a].key.kind) := hcell_b 0 (by decide)
            have b_c1 : wr.cell? ⟨b, off + a * 4 + 1, none⟩ = some (.int .i64 s.items[a].key.n) := hcell_b 1 (by decide)
            have b_c2 : wr.cell? ⟨b, off + a * 4 + 2, none⟩ = some (.string s.items[a].key.text) := hcell_b 2 (by decide)
            have b_c3 : wr.cell? ⟨b, off + a * 4 + 3, none⟩ = some (.slice b_a1 s.items[a].record.fields.length b_k1) := hcell_b 3 (by decide)
            clear hcell_b
            clear HR_b b_R1
            have i2 : (a : Int) < (s.items.length : Int) := by omega
            have n5 : decide (cmpKeysF s.items[a].key k < 0) = true := hle
            have HKj : Hid (∀ W, Reads DKey.rep W [.int .i64 s.items[a].key.kind, .int .i64 s.items[a].key.n, .string s.items[a].key.text] s.items[a].key) := Lib.hid fun W => ⟨[], DKey.rd.2 ⟨rfl, rfl, b_s0⟩⟩
            have n6 : decide (a < s.items.length) = true := decide_eq_true hlt'
            go_wp2_with fail
            have K0 := rg_var HX.out
            have K1 := rg_var HK.out
            have C3 := rg_cell b_c0
            have C4 := rg_cell b_c1
            have C5 := rg_cell b_c2
            refine wp_region_rg (by kernel_rfl) (by kernel_rfl) ?_
            repeat (go_big_quiet_step ((go_at_call 121; exact calls_rg (specCompareKeys _ _ s.items[a].key k _ (HKj.out _) (HKr.out _)))))
            refine wpQuiet_nil ?_
            rintro _ ⟨pq, rfl⟩
            clear K0 K1 C3 C4 C5 n5 HKj
            have hb := rg_below wr pq
            go_wp2
            go_light
            exact ⟨⟨a + 1, by omega, by go_num, Lib.hid (by
              intro j hj hjk
              by_cases e : j = a
              · subst e; exact hle
              · exact HA.out j hj (by omega)), HQ.out.trans (hb.mono hsr)⟩, by simp [intOf]; omega⟩
    · have HE2 := Lib.hid (putOut_some r hi' he)
      have hB := Lib.hid (putB_old (r := r) a0.out a1.out a2.out he)
      rw [he]
      clear he hall hp
      obtain ⟨g0, vc, hv, hg2, hfz, hex⟩ := owned_at HF.out i hi'
      simp only [Value.slice.injEq] at hv
      obtain ⟨rfl, hq0, rfl⟩ := hv
      clear hq0
      obtain ⟨u3, e3⟩ := hex 3 (by decide)
      have e3 : w3.cell? ⟨g0, i * 4 + 3, none⟩ = some u3 := e3
      clear hex
      have hgl := hlt.out g0 (by simp [Value.ownBlock])
      have i1 : (0 : Int) ≤ (i : Int) := by omega
      have i2 : (i : Int) < (s.items.length : Int) := by omega
      have HSx : Hid (∀ w', Chg [g0] w3 w' → (∀ o, w'.cell? ⟨w2.heap.size, o, none⟩ = #[.string s.name, .slice (some ⟨g0, 0, none⟩) s.items.length cap, .int .i64 s.auto][o]?) ∧ (∀ o, w'.cell? ⟨w.heap.size + 2, o, none⟩ = #[.slice r_a1 r.fields.length r_c1][o]?) ∧ Chg [g0] w3 w') := Lib.hid fun w' hw' => ⟨(HO.out.chg hw' (by simp; omega)).cell, (HR.out.chg hw' (by simp; omega)).cell, hw'⟩
      have ⟨c_HO, z_HO, f_HO⟩ := HO.out
      have ⟨c_HR, z_HR, f_HR⟩ := HR.out
      go_wp2_with fail
      go_region_held3 (fun w' => (∀ o, w'.cell? ⟨w2.heap.size, o, none⟩ = #[.string s.name, .slice (some ⟨g0, 0, none⟩) s.items.length cap, .int .i64 s.auto][o]?) ∧ (∀ o, w'.cell? ⟨w.heap.size + 2, o, none⟩ = #[.slice r_a1 r.fields.length r_c1][o]?) ∧ Chg [g0] w3 w')
        (first | exact HSx.out _ (chgD Chg.refl) | exact HSx.out _ hc4 | exact HSx.out _ (Chg.set (by simp) hc4))
        (first | (go_at_call 119; refine (specCopyRecord _ r _ (HRr.out.below (by have y := HB.out; exact (by repeat (first | with_reducible exact belR | (with_reducible refine belAB ?_ ?_; focus (first | omega | (simp; done) | (simp; omega))) | (with_reducible refine belS ?_ ?_; focus (first | omega | (simp; done) | (simp; omega))) | with_reducible apply belN | with_reducible apply belD | with_reducible assumption)))) hr).mono ?_; rintro e w4 ⟨ds, rfl, hf4, hb4⟩; obtain ⟨a4, c4, rfl⟩ := DRecord.fshape hf4; have hq4 : Below w3.heap.size w3 w4 := (Below.trans (by repeat (first | with_reducible exact belR | (with_reducible refine belAB ?_ ?_; focus (first | omega | (simp; done) | (simp; omega))) | (with_reducible refine belS ?_ ?_; focus (first | omega | (simp; done) | (simp; omega))) | with_reducible apply belN | with_reducible apply belD | with_reducible assumption)) (hb4.mono (by first | omega | (simp; done) | (simp; omega)))); have hc4 : Chg [g0] w3 w4 := Chg.of_below hq4 (Nat.le_refl _); have e4' := (hq4.cell (p := ⟨g0, i * 4 + 3, none⟩) hg2).trans e3; have f4' : ∀ j, w4.frozen? ⟨g0, j, none⟩ = false := (fun j => (hq4.frozen (p := ⟨g0, j, none⟩) hg2).trans (hfz j))))
      all_goals
        have hset := items_set (Part.below HP.out hq4) i hi' (hf4.mono (B' := w2.heap.size) (by first | omega | (simp; omega))) (by omega)
        have HF5 := Lib.hid hset
        have HX5 := Lib.hid ((HX.out.keep hq4).setOther (g := g0) (o := i * 4 + 3) (u := .slice a4 r.fields.length c4) (by omega))
        have HT5 := Lib.hid ((HT.out.keep hq4).setOther (g := g0) (o := i * 4 + 3) (u := .slice a4 r.fields.length c4) (by omega))
        have HO5 := Lib.hid ((HO.out.keep hq4).setOther (g := g0) (o := i * 4 + 3) (u := .slice a4 r.fields.length c4) (by omega))
        have HB5 : Hid (Below w.heap.size w w4) := Lib.hid (HB.out.trans (hq4.mono HB.out.size))
        clear hset hf4 hq4 hc4 hb4 e4' f4' hfz e3 HSx
        clear c_HO z_HO f_HO c_HR z_HR f_HR
        clear HX HK HR HT HO HF HB HP
        refine settleP (fun W => ∃ v5, WB W w.heap.size #[.string s.name, .slice q_a1 s.items.length q_c1, .int .i64 s.auto] ∧ WB W (w.heap.size + 3) #[.string ⟨#[]⟩, .slice none 0 0, .int .i64 0] ∧ WB W w2.heap.size #[.string s.name, v5, .int .i64 (putOut s k r).auto] ∧ Fresh (Rep.slice 134 DItem.rep) (w.heap.size + 4) W [v5] (putOut s k r).items ∧ Below w.heap.size w W) ?hE ?_
        case hE => exact ⟨_, HX5.out, HT5.out, by rw [HE2.out]; exact HO5.out, by rw [HE2.out]; exact HF5.out, by have y := HB5.out; exact (by repeat (first | with_reducible exact belR | (with_reducible refine belAB ?_ ?_; focus (first | omega | (simp; done) | (simp; omega))) | (with_reducible refine belS ?_ ?_; focus (first | omega | (simp; done) | (simp; omega))) | with_reducible apply belN | with_reducible apply belD | with_reducible assumption))⟩
        clear HX5 HT5 HO5 HF5 HB5 HE2 hlt hno
        rintro w5 ⟨v5, hx, ht, ho, hf, hb⟩
        obtain ⟨ao5, cap5, rfl⟩ := hf.slice
        have HT5 := Lib.hid ht
        have HO5 := Lib.hid ho
        have HF5 := Lib.hid hf
        have HB5 := Lib.hid hb
        clear hx ht ho hf hb
        have ⟨c_HT5, z_HT5, f_HT5⟩ := HT5.out
        have ⟨c_HO5, z_HO5, f_HO5⟩ := HO5.out
        go_wp2
        refine bodyPost_ret (v := .tuple #[.agg #[.string s.name, .slice ao5 (putOut s k r).items.length cap5, .int .i64 (putOut s k r).auto], .bool true]) (by simp [results, Tryz.results98, go_sem, c_HT5]) rfl ⟨_, by rw [hB.out], ?_, ?_⟩
        · have e : putItemF s k r = putOut s k r := by rw [putItemF, hB.out]; rfl
          rw [e]
          exact putOut_fmk (Fresh.mono (B := (w.heap.size + 4)) (by repeat (first | exact HF5.out | refine Fresh.setLow ?_ (by omega) | refine Fresh.drew ?_)) (by omega)) q_s0
        · have y := HB5.out
          exact (by repeat (first | with_reducible exact belR | (with_reducible refine belAB ?_ ?_; focus (first | omega | (simp; done) | (simp; omega))) | (with_reducible refine belS ?_ ?_; focus (first | omega | (simp; done) | (simp; omega))) | with_reducible apply belN | with_reducible apply belD | with_reducible assumption))

end Go.Proofs.YtgicglmcapnogaaGreat
