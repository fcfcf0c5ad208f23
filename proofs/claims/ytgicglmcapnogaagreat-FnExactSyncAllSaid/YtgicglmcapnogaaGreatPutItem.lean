/-
  impl.PutItem.
-/
import Derived.Test.YtgicglmcapnogaaGreatFind
import Derived.Test.YtgicglmcapnogaaGreatCopyStore
import Derived.Test.YtgicglmcapnogaaGreatInsItem
namespace Go.Proofs.YtgicglmcapnogaaGreat
open Go.RowKit

theorem putOut_none {s : DStore} {k : DKey} (r : DRecord) (h : idxF (keyIs k) s.items = -1) : putOut s k r = putNew s k r := by
  unfold putOut; rw [find_none h]
theorem putOut_some {s : DStore} {k : DKey} (r : DRecord) {i : Nat} (hi : i < s.items.length) (h : idxF (keyIs k) s.items = (i : Int)) : putOut s k r = ⟨s.name, s.items.set i ⟨s.items[i].key, r⟩, s.auto⟩ := by
  unfold putOut; rw [find_some h]
  simp only [putAt, List.getElem?_eq_getElem hi]
theorem putOut_name (s : DStore) (k : DKey) (r : DRecord) : (putOut s k r).name = s.name := by
  unfold putOut putAt putNew
  split
  · split <;> rfl
  · rfl
theorem putOut_fmk {B : Nat} {w : World} {v : Value} {s : DStore} {k : DKey} {r : DRecord} (h : Fresh (Rep.slice 134 DItem.rep) B w [v] (putOut s k r).items) (s0 : s.name.size ≤ maxLen) : Fresh DStore.rep B w [.string s.name, v, .int .i64 (putOut s k r).auto] (putOut s k r) := by
  have y := DStore.fmk (x := putOut s k r) h (by rw [putOut_name]; exact s0)
  rw [putOut_name] at y
  exact y
/-- One item's record is replaced. -/
theorem items_set {B m g cap n : Nat} {w : World} {l : List DItem} (h : Part (Rep.slice 134 DItem.rep) B m w [.slice (some ⟨g, 0, none⟩) n cap] l) (i : Nat) (hi : i < l.length) {v : Value} {r : DRecord} (hr : Fresh DRecord.rep m w [v] r) (hB : B ≤ m) :
    Fresh (Rep.slice 134 DItem.rep) B (w.setCell ⟨g, i * 4 + 3, none⟩ v) [.slice (some ⟨g, 0, none⟩) n cap] (l.set i ⟨l[i].key, r⟩) := by
  refine Part.setEl h i hi 3 [v] ⟨l[i].key, r⟩ (Nat.le_refl 4) fun cs fe hc _ _ => ?_
  obtain ⟨v1, f1, rfl, rfl, hs0, _⟩ := DItem.parts hc
  obtain ⟨fr, r1, r2, r3⟩ := hr
  exact ⟨fr, DItem.join (x := ⟨l[i].key, r⟩) [v] fr r1 hs0, r2, fun b hb => ⟨Nat.le_trans hB (r3 b hb), .inr (r3 b hb)⟩⟩
theorem item_fmk {B : Nat} {w : World} {v : Value} {k : DKey} {r : DRecord} (hk : k.text.size ≤ maxLen) (h : Fresh DRecord.rep B w [v] r) : Fresh DItem.rep B w [.int .i64 k.kind, .int .i64 k.n, .string k.text, v] ⟨k, r⟩ :=
  DItem.fresh (x := ⟨k, r⟩) (h.partAt (Nat.le_refl _)) (Nat.le_refl _) hk
theorem owned_at {α : Type} {R : Rep α} {E : TypeId} {B : Nat} {w : World} {v : Value} {l : List α} (hf : Fresh (Rep.slice E R) B w [v] l) (i : Nat) (hi : i < l.length) :
    ∃ g cap, v = .slice (some ⟨g, 0, none⟩) l.length cap ∧ g < w.heap.size ∧ (∀ j, w.frozen? ⟨g, j, none⟩ = false) ∧ ∀ j, j < R.n → ∃ u, w.cell? ⟨g, i * R.n + j, none⟩ = some u := by
  obtain ⟨ts, rfl, h1, ho, _, _⟩ := hf.owned
  rw [vals_length] at hi
  have ho' := ho
  rcases ho.2 with ⟨rfl, h0⟩ | ⟨g, cap, cur, rfl, hb, hg, hnc, hcm, hcs, htake⟩
  · omega
  · refine ⟨g, cap, by rw [vals_length], (Array.getElem?_eq_some_iff.1 hg).1, fun j => World.ownsRow.frozenAt ho' j, fun j hj => ?_⟩
    have hlt : i * R.n + j < ts.length * R.n := by
      have : (i + 1) * R.n ≤ ts.length * R.n := Nat.mul_le_mul_right _ hi
      rw [Nat.add_mul] at this; omega
    have hl := ho'.1
    exact ⟨_, (World.ownsRow.cellAt ho' _ hlt).trans (List.getElem?_eq_getElem (by omega))⟩
theorem chgDL {fp : List Nat} {a w : World} (h : Chg fp a.drew w) : Chg fp a w := ⟨h.os, h.tape, h.output, h.size, h.block⟩
theorem auto_yes {a : Int} {k : DKey} (c : (k.kind == 1) = true) : autoOf a k = if a < k.n ∧ k.n ≤ 1000000 then k.n else a := by
  have c : k.kind = 1 := by simpa using c
  unfold autoOf; simp only [c, true_and]
theorem auto_no {a : Int} {k : DKey} (c : (k.kind == 1) = false) : autoOf a k = a := by
  have c : ¬ k.kind = 1 := by simpa using c
  unfold autoOf; rw [if_neg (fun h => c h.1)]
attribute [local irreducible] isStoreF isKeyF putOut keyIs cmpKeysF

set_option maxRecDepth 100000 in
set_option maxHeartbeats 16000000 in
theorem implPutItem (cs ck cr : List Value) (s : DStore) (k : DKey) (r : DRecord) (w : World) (h : Reads DStore.rep w cs s) (h' : Reads DKey.rep w ck k) (h'' : Reads DRecord.rep w cr r) (hs : SmallStore s) (hr : r.fields.length ≤ 1048600) :
    Calls Tryz.prog 109 #[.agg cs.toArray, .agg ck.toArray, .agg cr.toArray] w fun e w' => ∃ ds, e = .returned (.tuple #[.agg ds.toArray, .bool (putItemB s k r)]) ∧ Fresh DStore.rep w.heap.size w' ds (putItemF s k r) ∧ Below w.heap.size w w' := by
  have HS := Lib.hid h
  have HRr := Lib.hid h''
  obtain ⟨fp_q, h⟩ := h
  obtain ⟨q_v1, q_f1, rfl, _, q_s0, q_r1⟩ := DStore.rd.1 h
  obtain ⟨q_a1, q_c1, rfl, q_hm1, q_lc1, q_hu1⟩ := slice_open q_r1; clear q_hu1
  have q_K1 : Hid (Reads (Rep.slice 134 DItem.rep) w [.slice q_a1 s.items.length q_c1] s.items) := ⟨_, q_r1⟩
  clear q_r1 h
  obtain ⟨fk, hk⟩ := h'
  obtain ⟨rfl, _, hkt⟩ := DKey.rd.1 hk
  clear hk
  obtain ⟨fp_r, h''⟩ := h''
  obtain ⟨r_v1, r_f1, rfl, _, r_r1⟩ := DRecord.rd.1 h''
  obtain ⟨r_a1, r_c1, rfl, r_hm1, r_lc1, r_hu1⟩ := slice_open r_r1; clear r_hu1
  have r_K1 : Hid (Reads (Rep.slice 156 DField.rep) w [.slice r_a1 r.fields.length r_c1] r.fields) := ⟨_, r_r1⟩
  clear r_r1 h''
  have HKr : Hid (∀ W, Reads DKey.rep W [.int .i64 k.kind, .int .i64 k.n, .string k.text] k) := Lib.hid fun W => ⟨[], DKey.rd.2 ⟨rfl, rfl, hkt⟩⟩
  have hsl := hs.items
  go_enter Tryz.func109, Tryz.ntmps109
  go_wp2_with fail
  refine (implIsStore _ s _ (HS.out.below (by repeat (first | with_reducible exact belR | with_reducible apply belA | (with_reducible refine belS ?_ ?_; focus (first | omega | (simp; done) | (simp; omega))) | with_reducible apply belN | with_reducible apply belD | with_reducible assumption)))).mono ?_
  rintro e w1 ⟨rfl, hb⟩
  have HX : Hid (WB w1 w.heap.size #[.string s.name, .slice q_a1 s.items.length q_c1, .int .i64 s.auto]) := Lib.hid ((((WB.at rfl).growA).growA).growA.keep hb)
  have HK : Hid (WB w1 (w.heap.size + 1) #[.int .i64 k.kind, .int .i64 k.n, .string k.text]) := Lib.hid ((((WB.at (by simp)).growA).growA).keep hb)
  have HR : Hid (WB w1 (w.heap.size + 2) #[.slice r_a1 r.fields.length r_c1]) := Lib.hid (((WB.at (by simp)).growA).keep hb)
  have HT : Hid (WB w1 (w.heap.size + 3) #[.string ⟨#[]⟩, .slice none 0 0, .int .i64 0]) := Lib.hid ((WB.at (by simp)).keep hb)
  have HB : Hid (Below w.heap.size w w1) := Lib.hid (below_call (by repeat (first | with_reducible exact belR | with_reducible apply belA | (with_reducible refine belS ?_ ?_; focus (first | omega | (simp; done) | (simp; omega))) | with_reducible apply belN | with_reducible apply belD | with_reducible assumption)) (by first | omega | (simp; done) | (simp; omega)) hb)
  have hz : w.heap.size + 4 ≤ w1.heap.size := by have y := hb.size; simp at y; omega
  clear hb
  have ⟨c_HX, z_HX, f_HX⟩ := HX.out
  have ⟨c_HK, z_HK, f_HK⟩ := HK.out
  have ⟨c_HR, z_HR, f_HR⟩ := HR.out
  have ⟨c_HT, z_HT, f_HT⟩ := HT.out
  cases b0 : isStoreF s
  case' true => cases b1 : isKeyF k
  case false =>
    have hB : Hid (putItemB s k r = false) := Lib.hid (by rw [putItemB, b0]; rfl)
    go_wp2_with fail
    refine (implCopyStore _ s _ (HS.out.below HB.out) hs).mono ?_
    rintro e w7 ⟨ds, rfl, hf7, hb7⟩
    obtain ⟨ao7, cap7, rfl, hfw7, _⟩ := DStore.fopen hf7
    have HF7 := Lib.hid hfw7
    have HB7 := Lib.hid (HB.out.trans (hb7.mono HB.out.size))
    have ⟨cr7, zr7, fr7⟩ := HT.out.keep hb7
    have hz7 := HB.out.size
    clear hf7 hfw7 hb7
    go_wp2
    refine bodyPost_ret (v := .tuple #[.agg #[.string s.name, .slice ao7 s.items.length cap7, .int .i64 s.auto], .bool false]) (by simp [results, Tryz.results109, go_sem, cr7]) rfl ⟨_, by rw [hB.out], ?_, ?_⟩
    · have e : putItemF s k r = s := by rw [putItemF, hB.out]; rfl
      rw [e]
      exact DStore.fmk (Fresh.mono (B := w1.heap.size) (by repeat (first | exact HF7.out | refine Fresh.setLow ?_ (by omega) | refine Fresh.drew ?_)) (by omega)) q_s0
    · have y := HB7.out
      exact (by repeat (first | with_reducible exact belR | (with_reducible refine belAB ?_ ?_; focus (first | omega | (simp; done) | (simp; omega))) | (with_reducible refine belS ?_ ?_; focus (first | omega | (simp; done) | (simp; omega))) | with_reducible apply belN | with_reducible apply belD | with_reducible assumption))
  case true.false =>
    have hB : Hid (putItemB s k r = false) := Lib.hid (by rw [putItemB, b1, Bool.false_and, Bool.and_false])
    go_wp2_with fail
    refine (implIsKey _ k _ (HKr.out _)).mono ?_
    rintro e w2 ⟨rfl, hb⟩
    rw [b1]
    clear c_HX z_HX f_HX c_HK z_HK f_HK c_HR z_HR f_HR c_HT z_HT f_HT
    replace HX := Lib.hid (HX.out.keep hb)
    replace HK := Lib.hid (HK.out.keep hb)
    replace HR := Lib.hid (HR.out.keep hb)
    replace HT := Lib.hid (HT.out.keep hb)
    replace HB := Lib.hid (HB.out.trans (hb.mono HB.out.size))
    clear hb
    have ⟨c_HX, z_HX, f_HX⟩ := HX.out
    have ⟨c_HT, z_HT, f_HT⟩ := HT.out
    obtain ⟨w1, rfl⟩ : ∃ w1', w1' = w2 := ⟨_, rfl⟩
    go_wp2_with fail
    refine (implCopyStore _ s _ (HS.out.below HB.out) hs).mono ?_
    rintro e w7 ⟨ds, rfl, hf7, hb7⟩
    obtain ⟨ao7, cap7, rfl, hfw7, _⟩ := DStore.fopen hf7
    have HF7 := Lib.hid hfw7
    have HB7 := Lib.hid (HB.out.trans (hb7.mono HB.out.size))
    have ⟨cr7, zr7, fr7⟩ := HT.out.keep hb7
    have hz7 := HB.out.size
    clear hf7 hfw7 hb7
    go_wp2
    refine bodyPost_ret (v := .tuple #[.agg #[.string s.name, .slice ao7 s.items.length cap7, .int .i64 s.auto], .bool false]) (by simp [results, Tryz.results109, go_sem, cr7]) rfl ⟨_, by rw [hB.out], ?_, ?_⟩
    · have e : putItemF s k r = s := by rw [putItemF, hB.out]; rfl
      rw [e]
      exact DStore.fmk (Fresh.mono (B := w1.heap.size) (by repeat (first | exact HF7.out | refine Fresh.setLow ?_ (by omega) | refine Fresh.drew ?_)) (by omega)) q_s0
    · have y := HB7.out
      exact (by repeat (first | with_reducible exact belR | (with_reducible refine belAB ?_ ?_; focus (first | omega | (simp; done) | (simp; omega))) | (with_reducible refine belS ?_ ?_; focus (first | omega | (simp; done) | (simp; omega))) | with_reducible apply belN | with_reducible apply belD | with_reducible assumption))
  case true.true =>
    have a0 := Lib.hid b0
    have a1 := Lib.hid b1
    go_wp2_with fail
    refine (implIsKey _ k _ (HKr.out _)).mono ?_
    rintro e w1b ⟨rfl, hb⟩
    rw [b1]
    clear c_HX z_HX f_HX c_HK z_HK f_HK c_HR z_HR f_HR c_HT z_HT f_HT
    have hzb := hb.size
    replace HX := Lib.hid (HX.out.keep hb)
    replace HK := Lib.hid (HK.out.keep hb)
    replace HR := Lib.hid (HR.out.keep hb)
    replace HT := Lib.hid (HT.out.keep hb)
    replace HB := Lib.hid (HB.out.trans (hb.mono HB.out.size))
    clear hb b0 b1
    have ⟨c_HX, z_HX, f_HX⟩ := HX.out
    go_wp2_with fail
    refine (implCopyStore _ s _ (HS.out.below HB.out) hs).mono ?_
    rintro e w2 ⟨ds, rfl, hf, hb⟩
    obtain ⟨ao, cap, rfl, hfw, _⟩ := DStore.fopen hf
    have HF : Hid (Fresh (Rep.slice 134 DItem.rep) (w.heap.size + 4) w2 [.slice ao s.items.length cap] s.items) := Lib.hid (hfw.mono (by omega))
    have hz2 := hb.size
    clear c_HX z_HX f_HX
    replace HX := Lib.hid (HX.out.keep hb)
    replace HK := Lib.hid (HK.out.keep hb)
    replace HR := Lib.hid (HR.out.keep hb)
    replace HT := Lib.hid (HT.out.keep hb)
    replace HB := Lib.hid (HB.out.trans (hb.mono HB.out.size))
    clear hf hfw hb
    have ⟨c_HX, z_HX, f_HX⟩ := HX.out
    have ⟨c_HK, z_HK, f_HK⟩ := HK.out
    go_wp2_with fail
    refine (implFindItem _ _ s k _ (HS.out.below (by have y := HB.out; exact (by repeat (first | with_reducible exact belR | with_reducible apply belA | (with_reducible refine belS ?_ ?_; focus (first | omega | (simp; done) | (simp; omega))) | with_reducible apply belN | with_reducible apply belD | with_reducible assumption)))) (HKr.out _)).mono ?_
    rintro e w3 ⟨rfl, hb⟩
    have hq : Below w2.heap.size w2 w3 := below_call (by repeat (first | with_reducible exact belR | with_reducible apply belA | (with_reducible refine belS ?_ ?_; focus (first | omega | (simp; done) | (simp; omega))) | with_reducible apply belN | with_reducible apply belD | with_reducible assumption)) (by first | omega | (simp; done) | (simp; omega)) hb
    have HO : Hid (WB w3 w2.heap.size #[.string s.name, .slice ao s.items.length cap, .int .i64 s.auto]) := Lib.hid ((WB.at rfl).keep hb)
    have hsz3 : w2.heap.size + 1 ≤ w3.heap.size := by have y := hb.size; simp at y; omega
    have hlt : Hid (∀ b, (Value.slice ao s.items.length cap).ownBlock = some b → w.heap.size + 4 ≤ b ∧ b < w2.heap.size) := Lib.hid fun b hb => HF.out.ownlt b (by rw [hb]; simp)
    have hno : Hid (∀ b, b < w.heap.size + 4 ∨ w2.heap.size ≤ b → b ∉ (Value.slice ao s.items.length cap).ownBlock.toList) := Lib.hid fun b hb hm => by
      have := hlt.out b (by simpa using hm); omega
    have HP := Lib.hid (HF.out.partAt (Nat.le_refl _))
    clear c_HX z_HX f_HX c_HK z_HK f_HK
    replace HX := Lib.hid (HX.out.keep hq)
    replace HK := Lib.hid (HK.out.keep hq)
    replace HR := Lib.hid (HR.out.keep hq)
    replace HT := Lib.hid (HT.out.keep hq)
    replace HF := Lib.hid (HF.out.below hq)
    replace HP := Lib.hid (HP.out.below hq)
    replace HB := Lib.hid (HB.out.trans (hq.mono HB.out.size))
    clear hb hq
    rcases idxF_cases (keyIs k) s.items with ⟨he, hall⟩ | ⟨i, hi, he, hp, hall⟩
    · have HE := Lib.hid (putOut_none r he)
      rw [he]
      clear he hall
      have ⟨c_HX, z_HX, f_HX⟩ := HX.out
      have ⟨c_HK, z_HK, f_HK⟩ := HK.out
      have ⟨c_HR, z_HR, f_HR⟩ := HR.out
      have ⟨c_HO, z_HO, f_HO⟩ := HO.out
      go_wp2
      go_loopw [10] (fun i wr => ∃ a : Nat, a ≤ s.items.length ∧ i = .int .i64 a ∧ Hid (∀ j, (hj : j < s.items.length) → j < a → itemLess k s.items[j] = true) ∧ Below w3.heap.size w3 wr) (fun i _ => s.items.length - (intOf i).toNat)
      case atStart => exact ⟨0, by omega, rfl, Lib.hid (by intro j hj h; omega), belR⟩
      case round =>
        obtain ⟨a, ha, rfl, HA, hb⟩ := hrel
        clear c_HX z_HX f_HX c_HK z_HK f_HK c_HR z_HR f_HR c_HO z_HO f_HO
        have hsr := hb.size
        replace HX := Lib.hid (HX.out.keep hb)
        replace HK := Lib.hid (HK.out.keep hb)
        replace HR := Lib.hid (HR.out.keep hb)
        replace HT := Lib.hid (HT.out.keep hb)
        replace HO := Lib.hid (HO.out.keep hb)
        replace HF := Lib.hid (HF.out.below hb)
        replace HP := Lib.hid (HP.out.below hb)
        replace HB := Lib.hid (HB.out.trans (hb.mono HB.out.size))
        have HQ := Lib.hid hb
        clear hb
        have ⟨c_HX, z_HX, f_HX⟩ := HX.out
        have ⟨c_HK, z_HK, f_HK⟩ := HK.out
        have ⟨c_HR, z_HR, f_HR⟩ := HR.out
        have ⟨c_HO, z_HO, f_HO⟩ := HO.out
        have hstop : (Hid (∀ h : a < s.items.length, itemLess k s.items[a] = false)) ∨ ∃ h : a < s.items.length, itemLess k s.items[a] = true := by
          by_cases h1 : a < s.items.length
          · cases h2 : itemLess k s.items[a]
            · exact .inl (Lib.hid fun _ => h2)
            · exact .inr ⟨h1, h2⟩
          · exact .inl (Lib.hid fun h => absurd h h1)
        have j1 : (0 : Int) ≤ (a : Int) := by omega
        rcases hstop with HN | ⟨hlt', hle⟩
        · have HL := Lib.hid (lead_eq ha HA.out HN.out)
          have HE2 : Hid (putOut s k r = ⟨s.name, insAt s.items a ⟨k, r⟩, autoOf s.auto k⟩) := Lib.hid (by rw [HE.out, putNew, HL.out])
          clear HE HL HA HQ
          go_upto_region 8 with fail
          go_cut [50] from 35 to 52 (fun v wx => v = .bool false ∧ Below wr.heap.size wr wx)
          case first =>
            by_cases hkl : a < s.items.length
            · obtain ⟨b, off, cs_b, rfl, hw_b, hr_b, hcell_b⟩ := slice_at HF.out.reads a hkl
              obtain ⟨fe_b, hrd_b⟩ := hr_b
              have HR_b : Hid (Reads DItem.rep wr cs_b s.items[a]) := ⟨_, hrd_b⟩
              obtain ⟨b_v1, b_f1, rfl, _, b_s0, b_r1⟩ := DItem.rd.1 hrd_b
              obtain ⟨b_a1, b_k1, rfl, _⟩ := slice_open b_r1
              have b_R1 : Hid (Reads (Rep.slice 156 DField.rep) wr [.slice b_a1 s.items[a].record.fields.length b_k1] s.items[a].record.fields) := ⟨_, b_r1⟩
              clear b_r1
              clear hrd_b
              have b_c0 : wr.cell? ⟨b, off + a * 4, none⟩ = some (.int .i64 s.items[a].key.kind) := hcell_b 0 (by decide)
              have b_c1 : wr.cell? ⟨b, off + a * 4 + 1, none⟩ = some (.int .i64 s.items[a].key.n) := hcell_b 1 (by decide)
              have b_c2 : wr.cell? ⟨b, off + a * 4 + 2, none⟩ = some (.string s.items[a].key.text) := hcell_b 2 (by decide)
              have b_c3 : wr.cell? ⟨b, off + a * 4 + 3, none⟩ = some (.slice b_a1 s.items[a].record.fields.length b_k1) := hcell_b 3 (by decide)
              clear hcell_b
              clear HR_b b_R1
              have i2 : (a : Int) < (s.items.length : Int) := by omega
              have n5 : decide (cmpKeysF s.items[a].key k < 0) = false := HN.out hkl
              have HKj : Hid (∀ W, Reads DKey.rep W [.int .i64 s.items[a].key.kind, .int .i64 s.items[a].key.n, .string s.items[a].key.text] s.items[a].key) := Lib.hid fun W => ⟨[], DKey.rd.2 ⟨rfl, rfl, b_s0⟩⟩
              have n6 : decide (a < s.items.length) = true := decide_eq_true hkl
              go_wp2_with fail
              have K0 := rg_var HO.out
              have K1 := rg_var HK.out
              have C3 := rg_cell b_c0
              have C4 := rg_cell b_c1
              have C5 := rg_cell b_c2
              refine wp_region_rg (by kernel_rfl) (by kernel_rfl) ?_
              repeat (go_big_quiet_step ((go_at_call 127; exact calls_rg (implCompareKeys _ _ s.items[a].key k _ (HKj.out _) (HKr.out _)))))
              refine wpQuiet_nil ?_
              rintro _ ⟨pq, rfl⟩
              have hb := rg_below wr pq
              go_wp2_with fail
              go_meet
              exact ⟨rfl, hb⟩
            · have n6 : decide (a < s.items.length) = false := decide_eq_false hkl
              go_wp2_with fail
              have K0 := rg_var HO.out
              have K1 := rg_var HK.out
              refine wp_region_rg (by kernel_rfl) (by kernel_rfl) ?_
              repeat (go_big_quiet_step (fail))
              refine wpQuiet_nil ?_
              rintro _ ⟨pq, rfl⟩
              have hb := rg_below wr pq
              go_wp2_with fail
              go_meet
              exact ⟨rfl, hb⟩
          case rest =>
            obtain ⟨rfl, hb⟩ := hcut
            obtain ⟨wx, hwx⟩ : ∃ wx : World, wx = wc := ⟨_, rfl⟩
            subst hwx
            clear c_HX z_HX f_HX c_HK z_HK f_HK c_HR z_HR f_HR c_HO z_HO f_HO
            have hsx := hb.size
            replace HX := Lib.hid (HX.out.keep hb)
            replace HK := Lib.hid (HK.out.keep hb)
            replace HR := Lib.hid (HR.out.keep hb)
            replace HT := Lib.hid (HT.out.keep hb)
            replace HO := Lib.hid (HO.out.keep hb)
            replace HF := Lib.hid (HF.out.below hb)
            replace HP := Lib.hid (HP.out.below hb)
            replace HB := Lib.hid (HB.out.trans (hb.mono HB.out.size))
            clear hb
            have ⟨c_HX, z_HX, f_HX⟩ := HX.out
            have ⟨c_HK, z_HK, f_HK⟩ := HK.out
            have ⟨c_HR, z_HR, f_HR⟩ := HR.out
            have ⟨c_HO, z_HO, f_HO⟩ := HO.out
            go_upto_region 10 with fail
            go_cut [61] (fun _ W => ∃ v6, WB W w.heap.size #[.string s.name, .slice q_a1 s.items.length q_c1, .int .i64 s.auto] ∧ WB W (w.heap.size + 1) #[.int .i64 k.kind, .int .i64 k.n, .string k.text] ∧ WB W (w.heap.size + 3) #[.string ⟨#[]⟩, .slice none 0 0, .int .i64 0] ∧ WB W w2.heap.size #[.string s.name, v6, .int .i64 s.auto] ∧ Gap (Rep.slice 134 DItem.rep) (w.heap.size + 4) w2.heap.size wx.heap.size W [v6] (insAt s.items a ⟨k, r⟩) ∧ Below w.heap.size w W)
            case first =>
              go_region_law (first
                | (go_simp; go_at_call 123; refine (implCopyRecord _ r _ (HRr.out.below (by have y := HB.out; exact (by repeat (first | with_reducible exact belR | (with_reducible refine belAB ?_ ?_; focus (first | omega | (simp; done) | (simp; omega))) | (with_reducible refine belS ?_ ?_; focus (first | omega | (simp; done) | (simp; omega))) | with_reducible apply belN | with_reducible apply belD | with_reducible assumption)))) hr).mono ?_; rintro e w4 ⟨ds, rfl, hf4, hb4⟩; obtain ⟨a4, c4, rfl⟩ := DRecord.fshape hf4; have hq4 : Below wx.heap.size wx w4 := (Below.trans (by repeat (first | with_reducible exact belR | (with_reducible refine belAB ?_ ?_; focus (first | omega | (simp; done) | (simp; omega))) | (with_reducible refine belS ?_ ?_; focus (first | omega | (simp; done) | (simp; omega))) | with_reducible apply belN | with_reducible apply belD | with_reducible assumption)) (hb4.mono (by first | omega | (simp; done) | (simp; omega)))); have hsz4 := hq4.size; have hfi := item_fmk hkt (hf4.mono (B' := wx.heap.size) (by first | exact Nat.le_refl _ | (simp; done) | omega)); have hwo := HO.out.keep hq4; have ⟨co4, zo4, fo4⟩ := hwo; have hwk := HK.out.keep hq4; have ⟨ck4, zk4, fk4⟩ := hwk)
                | (go_simp; go_at_call 132; have hal : Below w4.heap.size w4 (w4.alloc (.cells #[.int .i64 k.kind, .int .i64 k.n, .string k.text, .slice a4 r.fields.length c4] 134)) := belA belR; have hp6 := Part.below (Part.below HP.out hq4) hal; have hu6 := Fresh.below hfi hal; have hk6 := heap_alloc_new w4 (.cells #[.int .i64 k.kind, .int .i64 k.n, .string k.text, .slice a4 r.fields.length c4] 134); have hn6 := hno.out w4.heap.size (.inr (by have := hsz4; omega)); have hs6 : wx.heap.size ≤ (w4.alloc (.cells #[.int .i64 k.kind, .int .i64 k.n, .string k.text, .slice a4 r.fields.length c4] 134)).heap.size := Nat.le_trans hsz4 hal.size; have hB6 : w.heap.size + 4 ≤ w2.heap.size := (by omega); have hm6 : w2.heap.size ≤ wx.heap.size := (by omega); have hl6 : s.items.length ≤ 1100000 := (by omega); refine (insertGItem _ s.items ⟨k, r⟩ [.int .i64 k.kind, .int .i64 k.n, .string k.text, .slice a4 r.fields.length c4] w4.heap.size a (w.heap.size + 4) w2.heap.size wx.heap.size _ _ hp6 hu6 hB6 hm6 hs6 hl6 ha hk6 hn6).mono ?_; rintro e w6 ⟨ao6, cap6, rfl, hf6, hc6, hv6⟩; have hc7 := (Chg.of_below hal (Nat.le_refl _)).trans hc6; have hwo6 := hwo.chg hc7 (hno.out _ (.inr (by omega))); have ⟨co6, zo6, fo6⟩ := hwo6))
              all_goals
                have HF6 := Lib.hid hf6
                have HX6 := Lib.hid ((HX.out.keep hq4).chg hc7 (hno.out _ (.inl (by omega))))
                have HK6 := Lib.hid ((HK.out.keep hq4).chg hc7 (hno.out _ (.inl (by omega))))
                have HT6 := Lib.hid ((HT.out.keep hq4).chg hc7 (hno.out _ (.inl (by omega))))
                have HO6 := Lib.hid hwo6
                have HB6 : Hid (Below w.heap.size w w6) := Lib.hid ((HB.out.trans (hq4.mono HB.out.size)).trans (hc7.below (fun b hm => by have := hlt.out b (by simpa using hm); omega) (by omega)))
                go_wp2_with fail
                go_meet
                exact ⟨_, HX6.out.setOther (by omega), HK6.out.setOther (by omega), HT6.out.setOther (by omega), HO6.out.setAt (by simp) rfl, HF6.out.set (by omega), by have y := HB6.out; exact (by repeat (first | with_reducible exact belR | (with_reducible refine belAB ?_ ?_; focus (first | omega | (simp; done) | (simp; omega))) | (with_reducible refine belS ?_ ?_; focus (first | omega | (simp; done) | (simp; omega))) | with_reducible apply belN | with_reducible apply belD | with_reducible assumption))⟩
            case rest =>
              clear c_HX z_HX f_HX c_HK z_HK f_HK c_HR z_HR f_HR c_HO z_HO f_HO
              clear HX HK HR HT HO HF HB HP
              obtain ⟨v6, hx, hk8, ht, ho, hf, hb⟩ := hcut
              have HX := Lib.hid hx
              have HK := Lib.hid hk8
              have HT := Lib.hid ht
              have HO := Lib.hid ho
              have HF := Lib.hid hf
              have HB := Lib.hid hb
              clear hx hk8 ht ho hf hb
              have ⟨c_HX, z_HX, f_HX⟩ := HX.out
              have ⟨c_HK, z_HK, f_HK⟩ := HK.out
              have ⟨c_HO, z_HO, f_HO⟩ := HO.out
              have hcase : (k.kind == 1) = false ∨ ((k.kind == 1) = true ∧ (¬ s.auto < k.n ∨ (s.auto < k.n ∧ (¬ k.n ≤ 1000000 ∨ k.n ≤ 1000000)))) := by
                cases c1 : (k.kind == 1)
                · exact .inl rfl
                · refine .inr ⟨rfl, ?_⟩
                  by_cases c2 : s.auto < k.n
                  · exact .inr ⟨c2, (Classical.em _).symm⟩
                  · exact .inl c2
              rcases hcase with c1 | ⟨c1, c2 | ⟨c2, c3 | c3⟩⟩
              all_goals
                go_upto_region 13 with fail
                refine settle (fun W => ∃ v5, WB W w.heap.size #[.string s.name, .slice q_a1 s.items.length q_c1, .int .i64 s.auto] ∧ WB W (w.heap.size + 3) #[.string ⟨#[]⟩, .slice none 0 0, .int .i64 0] ∧ WB W w2.heap.size #[.string s.name, v5, .int .i64 (putOut s k r).auto] ∧ Fresh (Rep.slice 134 DItem.rep) (w.heap.size + 4) W [v5] (putOut s k r).items ∧ Below w.heap.size w W) ?hE ?_
                case hE => exact ⟨_, by first | exact HX.out | exact HX.out.setOther (by omega), by first | exact HT.out | exact HT.out.setOther (by omega), by rw [HE2.out]; show WB _ _ #[_, _, .int .i64 (autoOf s.auto k)]; first | (rw [(auto_yes c1).trans (if_pos ⟨c2, c3⟩)]; exact HO.out.setAt (by simp) rfl) | (rw [(auto_yes c1).trans (if_neg (fun h => c3 h.2))]; exact HO.out) | (rw [(auto_yes c1).trans (if_neg (fun h => c2 h.1))]; exact HO.out) | (rw [auto_no c1]; exact HO.out), by rw [HE2.out]; first | exact HF.out.fresh | exact (HF.out.set (by omega)).fresh, by have y := HB.out; exact (by repeat (first | with_reducible exact belR | (with_reducible refine belAB ?_ ?_; focus (first | omega | (simp; done) | (simp; omega))) | (with_reducible refine belS ?_ ?_; focus (first | omega | (simp; done) | (simp; omega))) | with_reducible apply belN | with_reducible apply belD | with_reducible assumption))⟩
                clear c_HX z_HX f_HX c_HK z_HK f_HK c_HO z_HO f_HO
                clear HX HK HT HO HF HB HE2 hlt hno
                rintro w5 ⟨v5, hx, ht, ho, hf, hb⟩
                obtain ⟨ao5, cap5, rfl⟩ := hf.slice
                have HX5 := Lib.hid hx
                have HT5 := Lib.hid ht
                have HO5 := Lib.hid ho
                have HF5 := Lib.hid hf
                have HB5 := Lib.hid hb
                clear hx ht ho hf hb
                have HRd : Hid (Reads DStore.rep w5 [.string s.name, .slice ao5 (putOut s k r).items.length cap5, .int .i64 (putOut s k r).auto] (putOut s k r)) := Lib.hid (putOut_fmk HF5.out q_s0).reads
                have ⟨c_HO5, z_HO5, f_HO5⟩ := HO5.out
                go_wp2_with fail
                refine (implIsStore _ (putOut s k r) _ HRd.out).mono ?_
                rintro e w6 ⟨rfl, hb6⟩
                have hbx : Below w.heap.size w w6 := HB5.out.trans (hb6.mono HB5.out.size)
                have HXy := Lib.hid (HX5.out.keep hb6)
                have HTy := Lib.hid (HT5.out.keep hb6)
                have HOy := Lib.hid (HO5.out.keep hb6)
                have HFy := Lib.hid (HF5.out.below hb6)
                clear c_HO5 z_HO5 f_HO5
                clear hb6 HX5 HT5 HO5 HF5 HB5 HRd
                have ⟨c_HXy, z_HXy, f_HXy⟩ := HXy.out
                have ⟨c_HTy, z_HTy, f_HTy⟩ := HTy.out
                have ⟨c_HOy, z_HOy, f_HOy⟩ := HOy.out
                cases a2 : isStoreF (putOut s k r)
                · have hB : Hid (putItemB s k r = false) := Lib.hid (by rw [putItemB, a2, Bool.and_false, Bool.and_false])
                  go_wp2_with fail
                  refine (implCopyStore _ s _ (HS.out.below hbx) hs).mono ?_
                  rintro e w7 ⟨ds, rfl, hf7, hb7⟩
                  obtain ⟨ao7, cap7, rfl, hfw7, _⟩ := DStore.fopen hf7
                  have HF7 := Lib.hid hfw7
                  have HB7 := Lib.hid (hbx.trans (hb7.mono hbx.size))
                  have ⟨cr7, zr7, fr7⟩ := HTy.out.keep hb7
                  have hz7 := hbx.size
                  clear hf7 hfw7 hb7
                  go_wp2
                  refine bodyPost_ret (v := .tuple #[.agg #[.string s.name, .slice ao7 s.items.length cap7, .int .i64 s.auto], .bool false]) (by simp [results, Tryz.results109, go_sem, cr7]) rfl ⟨_, by rw [hB.out], ?_, ?_⟩
                  · have e : putItemF s k r = s := by rw [putItemF, hB.out]; rfl
                    rw [e]
                    exact DStore.fmk (Fresh.mono (B := w6.heap.size) (by repeat (first | exact HF7.out | refine Fresh.setLow ?_ (by omega) | refine Fresh.drew ?_)) (by omega)) q_s0
                  · have y := HB7.out
                    exact (by repeat (first | with_reducible exact belR | (with_reducible refine belAB ?_ ?_; focus (first | omega | (simp; done) | (simp; omega))) | (with_reducible refine belS ?_ ?_; focus (first | omega | (simp; done) | (simp; omega))) | with_reducible apply belN | with_reducible apply belD | with_reducible assumption))
                · have hB : Hid (putItemB s k r = true) := Lib.hid (by rw [putItemB, a0.out, a1.out, a2]; rfl)
                  go_wp2
                  refine bodyPost_ret (v := .tuple #[.agg #[.string s.name, .slice ao5 (putOut s k r).items.length cap5, .int .i64 (putOut s k r).auto], .bool true]) (by simp [results, Tryz.results109, go_sem, c_HTy]) rfl ⟨_, by rw [hB.out], ?_, ?_⟩
                  · have e : putItemF s k r = putOut s k r := by rw [putItemF, hB.out]; rfl
                    rw [e]
                    exact putOut_fmk (Fresh.mono (B := (w.heap.size + 4)) (by repeat (first | exact HFy.out | refine Fresh.setLow ?_ (by omega) | refine Fresh.drew ?_)) (by omega)) q_s0
                  · exact (by repeat (first | with_reducible exact belR | (with_reducible refine belAB ?_ ?_; focus (first | omega | (simp; done) | (simp; omega))) | (with_reducible refine belS ?_ ?_; focus (first | omega | (simp; done) | (simp; omega))) | with_reducible apply belN | with_reducible apply belD | with_reducible assumption))
        · obtain ⟨b, off, cs_b, rfl, hw_b, hr_b, hcell_b⟩ := slice_at HF.out.reads a hlt'
          obtain ⟨fe_b, hrd_b⟩ := hr_b
          have HR_b : Hid (Reads DItem.rep wr cs_b s.items[a]) := ⟨_, hrd_b⟩
          obtain ⟨b_v1, b_f1, rfl, _, b_s0, b_r1⟩ := DItem.rd.1 hrd_b
          obtain ⟨b_a1, b_k1, rfl, _⟩ := slice_open b_r1
          have b_R1 : Hid (Reads (Rep.slice 156 DField.rep) wr [.slice b_a1 s.items[a].record.fields.length b_k1] s.items[a].record.fields) := ⟨_, b_r1⟩
          clear b_r1
          clear hrd_b
          have b_c0 : wr.cell? ⟨b, off + a * 4, none⟩ = some (.int .i64 s.items[a].key.kind) := hcell_b 0 (by decide)
          have b_c1 : wr.cell? ⟨b, off + a * 4 + 1, none⟩ = some (.int .i64 s.items[a].key.n) := hcell_b 1 (by decide)
          have b_c2 : wr.cell? ⟨b, off + a * 4 + 2, none⟩ = some (.string s.items[a].key.text) := hcell_b 2 (by decide)
          have b_c3 : wr.cell? ⟨b, off + a * 4 + 3, none⟩ = some (.slice b_a1 s.items[a].record.fields.length b_k1) := hcell_b 3 (by decide)
          clear hcell_b
          clear HR_b b_R1
          have i2 : (a : Int) < (s.items.length : Int) := by omega
          have n5 : decide (cmpKeysF s.items[a].key k < 0) = true := hle
          have HKj : Hid (∀ W, Reads DKey.rep W [.int .i64 s.items[a].key.kind, .int .i64 s.items[a].key.n, .string s.items[a].key.text] s.items[a].key) := Lib.hid fun W => ⟨[], DKey.rd.2 ⟨rfl, rfl, b_s0⟩⟩
          have n6 : decide (a < s.items.length) = true := decide_eq_true hlt'
          go_wp2_with fail
          have K0 := rg_var HO.out
          have K1 := rg_var HK.out
          have C3 := rg_cell b_c0
          have C4 := rg_cell b_c1
          have C5 := rg_cell b_c2
          refine wp_region_rg (by kernel_rfl) (by kernel_rfl) ?_
          repeat (go_big_quiet_step ((go_at_call 127; exact calls_rg (implCompareKeys _ _ s.items[a].key k _ (HKj.out _) (HKr.out _)))))
          refine wpQuiet_nil ?_
          rintro _ ⟨pq, rfl⟩
          clear K0 K1 C3 C4 C5 n5 HKj
          have hb := rg_below wr pq
          go_wp2
          go_light
          exact ⟨⟨a + 1, by omega, by go_num, Lib.hid (by
            intro j hj hjk
            by_cases e : j = a
            · subst e; exact hle
            · exact HA.out j hj (by omega)), HQ.out.trans (hb.mono hsr)⟩, by simp [intOf]; omega⟩
    · have HE2 := Lib.hid (putOut_some r hi he)
      rw [he]
      clear he hall hp
      obtain ⟨g0, vc, hv, hg2, hfz, hex⟩ := owned_at HF.out i hi
      simp only [Value.slice.injEq] at hv
      obtain ⟨rfl, hq0, rfl⟩ := hv
      clear hq0
      obtain ⟨u3, e3⟩ := hex 3 (by decide)
      have e3 : w3.cell? ⟨g0, i * 4 + 3, none⟩ = some u3 := e3
      clear hex
      have hgl := hlt.out g0 (by simp [Value.ownBlock])
      have i1 : (0 : Int) ≤ (i : Int) := by omega
      have i2 : (i : Int) < (s.items.length : Int) := by omega
      have HSx : Hid (∀ w', Chg [g0] w3 w' → (∀ o, w'.cell? ⟨w2.heap.size, o, none⟩ = #[.string s.name, .slice (some ⟨g0, 0, none⟩) s.items.length cap, .int .i64 s.auto][o]?) ∧ (∀ o, w'.cell? ⟨w.heap.size + 2, o, none⟩ = #[.slice r_a1 r.fields.length r_c1][o]?) ∧ Chg [g0] w3 w') := Lib.hid fun w' hw' => ⟨(HO.out.chg hw' (by simp; omega)).cell, (HR.out.chg hw' (by simp; omega)).cell, hw'⟩
      have ⟨c_HO, z_HO, f_HO⟩ := HO.out
      have ⟨c_HR, z_HR, f_HR⟩ := HR.out
      go_wp2_with fail
      go_region_held3 (fun w' => (∀ o, w'.cell? ⟨w2.heap.size, o, none⟩ = #[.string s.name, .slice (some ⟨g0, 0, none⟩) s.items.length cap, .int .i64 s.auto][o]?) ∧ (∀ o, w'.cell? ⟨w.heap.size + 2, o, none⟩ = #[.slice r_a1 r.fields.length r_c1][o]?) ∧ Chg [g0] w3 w')
        (first | exact HSx.out _ (chgD Chg.refl) | exact HSx.out _ hc4 | exact HSx.out _ (Chg.set (by simp) hc4))
        (first | (go_at_call 123; refine (implCopyRecord _ r _ (HRr.out.below (by have y := HB.out; exact (by repeat (first | with_reducible exact belR | (with_reducible refine belAB ?_ ?_; focus (first | omega | (simp; done) | (simp; omega))) | (with_reducible refine belS ?_ ?_; focus (first | omega | (simp; done) | (simp; omega))) | with_reducible apply belN | with_reducible apply belD | with_reducible assumption)))) hr).mono ?_; rintro e w4 ⟨ds, rfl, hf4, hb4⟩; obtain ⟨a4, c4, rfl⟩ := DRecord.fshape hf4; have hq4 : Below w3.heap.size w3 w4 := (Below.trans (by repeat (first | with_reducible exact belR | (with_reducible refine belAB ?_ ?_; focus (first | omega | (simp; done) | (simp; omega))) | (with_reducible refine belS ?_ ?_; focus (first | omega | (simp; done) | (simp; omega))) | with_reducible apply belN | with_reducible apply belD | with_reducible assumption)) (hb4.mono (by first | omega | (simp; done) | (simp; omega)))); have hc4 : Chg [g0] w3 w4 := Chg.of_below hq4 (Nat.le_refl _); have e4' := (hq4.cell (p := ⟨g0, i * 4 + 3, none⟩) hg2).trans e3; have f4' : ∀ j, w4.frozen? ⟨g0, j, none⟩ = false := (fun j => (hq4.frozen (p := ⟨g0, j, none⟩) hg2).trans (hfz j))))
      all_goals
        have hset := items_set (Part.below HP.out hq4) i hi (hf4.mono (B' := w2.heap.size) (by first | omega | (simp; omega))) (by omega)
        have HF5 := Lib.hid hset
        have HX5 := Lib.hid ((HX.out.keep hq4).setOther (g := g0) (o := i * 4 + 3) (u := .slice a4 r.fields.length c4) (by omega))
        have HT5 := Lib.hid ((HT.out.keep hq4).setOther (g := g0) (o := i * 4 + 3) (u := .slice a4 r.fields.length c4) (by omega))
        have HO5 := Lib.hid ((HO.out.keep hq4).setOther (g := g0) (o := i * 4 + 3) (u := .slice a4 r.fields.length c4) (by omega))
        have HB5 : Hid (Below w.heap.size w w4) := Lib.hid (HB.out.trans (hq4.mono HB.out.size))
        clear hset hf4 hq4 hc4 hb4 e4' f4' hfz e3 HSx
        clear c_HO z_HO f_HO c_HR z_HR f_HR
        clear HX HK HR HT HO HF HB HP
        refine settleP (fun W => ∃ v5, WB W w.heap.size #[.string s.name, .slice q_a1 s.items.length q_c1, .int .i64 s.auto] ∧ WB W (w.heap.size + 3) #[.string ⟨#[]⟩, .slice none 0 0, .int .i64 0] ∧ WB W w2.heap.size #[.string s.name, v5, .int .i64 (putOut s k r).auto] ∧ Fresh (Rep.slice 134 DItem.rep) (w.heap.size + 4) W [v5] (putOut s k r).items ∧ Below w.heap.size w W) ?hE ?_
        case hE => exact ⟨_, HX5.out, HT5.out, by rw [HE2.out]; exact HO5.out, by rw [HE2.out]; exact HF5.out, by have y := HB5.out; exact (by repeat (first | with_reducible exact belR | (with_reducible refine belAB ?_ ?_; focus (first | omega | (simp; done) | (simp; omega))) | (with_reducible refine belS ?_ ?_; focus (first | omega | (simp; done) | (simp; omega))) | with_reducible apply belN | with_reducible apply belD | with_reducible assumption))⟩
        clear HX5 HT5 HO5 HF5 HB5 HE2 hlt hno
        rintro w5 ⟨v5, hx, ht, ho, hf, hb⟩
        obtain ⟨ao5, cap5, rfl⟩ := hf.slice
        have HX5 := Lib.hid hx
        have HT5 := Lib.hid ht
        have HO5 := Lib.hid ho
        have HF5 := Lib.hid hf
        have HB5 := Lib.hid hb
        clear hx ht ho hf hb
        have HRd : Hid (Reads DStore.rep w5 [.string s.name, .slice ao5 (putOut s k r).items.length cap5, .int .i64 (putOut s k r).auto] (putOut s k r)) := Lib.hid (putOut_fmk HF5.out q_s0).reads
        have ⟨c_HO5, z_HO5, f_HO5⟩ := HO5.out
        go_wp2_with fail
        refine (implIsStore _ (putOut s k r) _ HRd.out).mono ?_
        rintro e w6 ⟨rfl, hb6⟩
        have hbx : Below w.heap.size w w6 := HB5.out.trans (hb6.mono HB5.out.size)
        have HXy := Lib.hid (HX5.out.keep hb6)
        have HTy := Lib.hid (HT5.out.keep hb6)
        have HOy := Lib.hid (HO5.out.keep hb6)
        have HFy := Lib.hid (HF5.out.below hb6)
        clear c_HO5 z_HO5 f_HO5
        clear hb6 HX5 HT5 HO5 HF5 HB5 HRd
        have ⟨c_HXy, z_HXy, f_HXy⟩ := HXy.out
        have ⟨c_HTy, z_HTy, f_HTy⟩ := HTy.out
        have ⟨c_HOy, z_HOy, f_HOy⟩ := HOy.out
        cases a2 : isStoreF (putOut s k r)
        · have hB : Hid (putItemB s k r = false) := Lib.hid (by rw [putItemB, a2, Bool.and_false, Bool.and_false])
          go_wp2_with fail
          refine (implCopyStore _ s _ (HS.out.below hbx) hs).mono ?_
          rintro e w7 ⟨ds, rfl, hf7, hb7⟩
          obtain ⟨ao7, cap7, rfl, hfw7, _⟩ := DStore.fopen hf7
          have HF7 := Lib.hid hfw7
          have HB7 := Lib.hid (hbx.trans (hb7.mono hbx.size))
          have ⟨cr7, zr7, fr7⟩ := HTy.out.keep hb7
          have hz7 := hbx.size
          clear hf7 hfw7 hb7
          go_wp2
          refine bodyPost_ret (v := .tuple #[.agg #[.string s.name, .slice ao7 s.items.length cap7, .int .i64 s.auto], .bool false]) (by simp [results, Tryz.results109, go_sem, cr7]) rfl ⟨_, by rw [hB.out], ?_, ?_⟩
          · have e : putItemF s k r = s := by rw [putItemF, hB.out]; rfl
            rw [e]
            exact DStore.fmk (Fresh.mono (B := w6.heap.size) (by repeat (first | exact HF7.out | refine Fresh.setLow ?_ (by omega) | refine Fresh.drew ?_)) (by omega)) q_s0
          · have y := HB7.out
            exact (by repeat (first | with_reducible exact belR | (with_reducible refine belAB ?_ ?_; focus (first | omega | (simp; done) | (simp; omega))) | (with_reducible refine belS ?_ ?_; focus (first | omega | (simp; done) | (simp; omega))) | with_reducible apply belN | with_reducible apply belD | with_reducible assumption))
        · have hB : Hid (putItemB s k r = true) := Lib.hid (by rw [putItemB, a0.out, a1.out, a2]; rfl)
          go_wp2
          refine bodyPost_ret (v := .tuple #[.agg #[.string s.name, .slice ao5 (putOut s k r).items.length cap5, .int .i64 (putOut s k r).auto], .bool true]) (by simp [results, Tryz.results109, go_sem, c_HTy]) rfl ⟨_, by rw [hB.out], ?_, ?_⟩
          · have e : putItemF s k r = putOut s k r := by rw [putItemF, hB.out]; rfl
            rw [e]
            exact putOut_fmk (Fresh.mono (B := (w.heap.size + 4)) (by repeat (first | exact HFy.out | refine Fresh.setLow ?_ (by omega) | refine Fresh.drew ?_)) (by omega)) q_s0
          · exact (by repeat (first | with_reducible exact belR | (with_reducible refine belAB ?_ ?_; focus (first | omega | (simp; done) | (simp; omega))) | (with_reducible refine belS ?_ ?_; focus (first | omega | (simp; done) | (simp; omega))) | with_reducible apply belN | with_reducible apply belD | with_reducible assumption))

end Go.Proofs.YtgicglmcapnogaaGreat
