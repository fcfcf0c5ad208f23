/-
  spec.SetField.
-/
import Derived.Test.YtgicglmcapnogaaGreatFind
import Derived.Test.YtgicglmcapnogaaGreatCopies
import Derived.Test.YtgicglmcapnogaaGreatBase
namespace Go.Proofs.YtgicglmcapnogaaGreat
open Go.RowKit
theorem setFieldS_new {x : DRecord} {name : ByteArray} (n : Int) {k : Nat} (hk : lead (fieldLess name) x.fields = k) (h : ∀ h : k < x.fields.length, (x.fields[k].name.toList == name.toList) = false) : setFieldS x name n = ⟨insAt x.fields k ⟨name, n⟩⟩ := by
  unfold setFieldS insField
  rw [hk]
  by_cases hlt : k < x.fields.length
  · rw [List.getElem?_eq_getElem hlt]
    have h1 : namedAs name x.fields[k] = false := h hlt
    simp only [h1, Bool.false_eq_true, if_false]
  · rw [List.getElem?_eq_none (by omega)]
theorem setFieldS_old {x : DRecord} {name : ByteArray} (n : Int) {k : Nat} (hlt : k < x.fields.length) (hk : lead (fieldLess name) x.fields = k) (h : (x.fields[k].name.toList == name.toList) = true) : setFieldS x name n = ⟨x.fields.set k ⟨x.fields[k].name, n⟩⟩ := by
  unfold setFieldS putField
  rw [hk, List.getElem?_eq_getElem hlt]
  have h1 : namedAs name x.fields[k] = true := h
  simp only [h1, if_true]
attribute [local irreducible] isRecordF setFieldI setFieldS

set_option maxRecDepth 100000 in
set_option maxHeartbeats 8000000 in
theorem specSetField (cs : List Value) (x : DRecord) (name : ByteArray) (n : Int) (w : World) (h : Reads DRecord.rep w cs x) (hs : x.fields.length ≤ 1048600) (hn : name.size ≤ maxLen) :
    Calls Tryz.prog 97 #[.agg cs.toArray, .string name, .int .i64 n] w fun e w' => ∃ ds, e = .returned (.tuple #[.agg ds.toArray, .bool (setFieldB x name n)]) ∧ Fresh DRecord.rep w.heap.size w' ds (setFieldF x name n) ∧ Below w.heap.size w w' := by
  have HH := Lib.hid h
  obtain ⟨fp_q, h⟩ := h
  obtain ⟨q_v1, q_f1, rfl, _, q_r1⟩ := DRecord.rd.1 h
  obtain ⟨q_a1, q_c1, rfl, q_hm1, q_lc1, q_hu1⟩ := slice_open q_r1; clear q_hu1
  have q_K1 : Hid (Reads (Rep.slice 156 DField.rep) w [.slice q_a1 x.fields.length q_c1] x.fields) := ⟨_, q_r1⟩
  clear q_r1 h
  obtain ⟨i0, hi0, hz0, hz1, hz2⟩ := info_parts infoField
  go_enter Tryz.func97, Tryz.ntmps97
  go_wp2_with fail
  refine (specCopyRecord _ x _ (HH.out.below (by repeat (first | with_reducible exact belR | with_reducible apply belA | (with_reducible refine belS ?_ ?_; focus (first | omega | (simp; done) | (simp; omega))) | with_reducible apply belN | with_reducible apply belD | with_reducible assumption))) hs).mono ?_
  rintro e w1 ⟨ds, rfl, hf, hb⟩
  obtain ⟨ao, cap, rfl, hfw⟩ := DRecord.fopen hf
  have HF : Hid (Fresh (Rep.slice 156 DField.rep) (w.heap.size + 2) w1 [.slice ao x.fields.length cap] x.fields) := Lib.hid (hfw.mono (by simp))
  have hb3 := hb.mono (B' := w.heap.size + 2) (by simp)
  have HX : Hid (WB w1 w.heap.size #[.slice q_a1 x.fields.length q_c1]) := Lib.hid (((WB.at rfl).growA).grow hb3 (by omega))
  have HR : Hid (WB w1 (w.heap.size + 1) #[.slice none 0 0]) := Lib.hid ((WB.at (by simp)).grow hb3 (by omega))
  have HB : Hid (Below w.heap.size w w1) := Lib.hid (Below.trans (by repeat (first | with_reducible exact belR | (with_reducible refine belAB ?_ ?_; focus (first | omega | (simp; done) | (simp; omega))) | (with_reducible refine belS ?_ ?_; focus (first | omega | (simp; done) | (simp; omega))) | with_reducible apply belN | with_reducible apply belD | with_reducible assumption)) (hb3.mono (by omega)))
  have hz : w.heap.size + 2 ≤ w1.heap.size := by have y := hb3.size; simp at y; omega
  clear hf hfw hb hb3
  have ⟨c_HX, z_HX, f_HX⟩ := HX.out
  go_upto_region 2 with fail
  refine settle (fun W => WB W w.heap.size #[.slice q_a1 x.fields.length q_c1] ∧ WB W (w.heap.size + 1) #[.slice none 0 0] ∧ WB W w1.heap.size #[.slice ao x.fields.length cap] ∧ Fresh (Rep.slice 156 DField.rep) (w.heap.size + 2) W [.slice ao x.fields.length cap] x.fields ∧ Below w.heap.size w W ∧ w1.heap.size + 1 ≤ W.heap.size) ⟨HX.out.growA, HR.out.growA, WB.at rfl, HF.out.below (by repeat (first | with_reducible exact belR | with_reducible apply belA | (with_reducible refine belS ?_ ?_; focus (first | omega | (simp; done) | (simp; omega))) | with_reducible apply belN | with_reducible apply belD | with_reducible assumption)), by have y := HB.out; exact (by repeat (first | with_reducible exact belR | with_reducible apply belA | (with_reducible refine belS ?_ ?_; focus (first | omega | (simp; done) | (simp; omega))) | with_reducible apply belN | with_reducible apply belD | with_reducible assumption)), by simp⟩ ?_
  have hlt : Hid (∀ b, (Value.slice ao x.fields.length cap).ownBlock = some b → w.heap.size + 2 ≤ b ∧ b < w1.heap.size) := Lib.hid fun b hb => HF.out.ownlt b (by rw [hb]; simp)
  clear c_HX z_HX f_HX
  clear HX HR HF HB
  rintro w2 ⟨hx, hr, ho, hf, hb, hsz2⟩
  have HX := Lib.hid hx
  have HR := Lib.hid hr
  have HO := Lib.hid ho
  have HF := Lib.hid hf
  have HB := Lib.hid hb
  clear hx hr ho hf hb
  have ⟨c_HX, z_HX, f_HX⟩ := HX.out
  have ⟨c_HR, z_HR, f_HR⟩ := HR.out
  have ⟨c_HO, z_HO, f_HO⟩ := HO.out
  go_wp2
  go_loop [9] (fun i => ∃ k : Nat, k ≤ x.fields.length ∧ i = .int .i64 k ∧ Hid (∀ j, (hj : j < x.fields.length) → j < k → fieldLess name x.fields[j] = true)) (fun i => x.fields.length - (intOf i).toNat)
  case atStart => exact ⟨0, by omega, rfl, Lib.hid (by intro j hj h; omega)⟩
  case round =>
    obtain ⟨k, hk, rfl, HA⟩ := hrel
    have hstop : (Hid (∀ hk : k < x.fields.length, fieldLess name x.fields[k] = false)) ∨ ∃ hk : k < x.fields.length, fieldLess name x.fields[k] = true := by
      by_cases h1 : k < x.fields.length
      · cases h2 : fieldLess name x.fields[k]
        · exact .inl (Lib.hid fun _ => h2)
        · exact .inr ⟨h1, h2⟩
      · exact .inl (Lib.hid fun h => absurd h h1)
    rcases hstop with HS | ⟨hlt', hle⟩
    · have HL := Lib.hid (lead_eq hk HA.out HS.out)
      have j1 : (0 : Int) ≤ (k : Int) := by omega
      by_cases hkl : k < x.fields.length
      · have hns := HS.out hkl
        obtain ⟨b, off, cs_b, rfl, hw_b, hr_b, hcell_b⟩ := slice_at (q_K1.out.below HB.out) k hkl
        obtain ⟨fe_b, hrd_b⟩ := hr_b
        have HR_b : Hid (Reads DField.rep w2 cs_b x.fields[k]) := ⟨_, hrd_b⟩
        obtain ⟨rfl, _, b_s0⟩ := DField.rd.1 hrd_b
        clear hrd_b
        have b_c0 : w2.cell? ⟨b, off + k * 2, none⟩ = some (.string x.fields[k].name) := hcell_b 0 (by decide)
        have b_c1 : w2.cell? ⟨b, off + k * 2 + 1, none⟩ = some (.int .i64 x.fields[k].n) := hcell_b 1 (by decide)
        clear hcell_b
        have i2 : (k : Int) < (x.fields.length : Int) := by omega
        have n5 : Op.bytesLess x.fields[k].name.toList name.toList = false := hns
        cases n7 : (x.fields[k].name.toList == name.toList)
        · have HE2 : Hid (setFieldS x name n = ⟨insAt x.fields k ⟨name, n⟩⟩) := Lib.hid (setFieldS_new n HL.out (fun h => n7))
          have HPre := Lib.hid (q_K1.out.pre k hk)
          have HTl := Lib.hid (Reads.tail q_K1.out k hk)
          have hsl := fun W => run_tail (P := Tryz.prog) (t := 130) (n := 2) (by kernel_rfl) (fun _ => by kernel_rfl) (some ⟨b, off, none⟩) k x.fields.length q_c1 hk W
          have j2 : (k : Int) ≤ (x.fields.length : Int) := by omega
          have j3 : (k : Int) ≤ (q_c1 : Int) := by omega
          have j4 : k ≤ q_c1 := by omega
          go_upto_region 7 with fail
          go_cut [65] (fun _ W => ∃ v5, WB W w.heap.size #[.slice (some ⟨b, off, none⟩) x.fields.length q_c1] ∧ WB W (w.heap.size + 1) #[.slice none 0 0] ∧ WB W w1.heap.size #[v5] ∧ Fresh (Rep.slice 156 DField.rep) (w.heap.size + 2) W [v5] (setFieldS x name n).fields ∧ Below w.heap.size w W)
          case first =>
            have HSx : Hid (∀ w', Chg [w1.heap.size] w2 w' → (∀ o, w'.cell? ⟨w.heap.size, o, none⟩ = #[.slice (some ⟨b, off, none⟩) x.fields.length q_c1][o]?) ∧ Chg [w1.heap.size] w2 w') := Lib.hid fun w' hw' => ⟨(HX.out.chg hw' (by simp; omega)).cell, hw'⟩
            go_region_held3 (fun w' => (∀ o, w'.cell? ⟨w.heap.size, o, none⟩ = #[.slice (some ⟨b, off, none⟩) x.fields.length q_c1][o]?) ∧ Chg [w1.heap.size] w2 w')
              (first | (refine HSx.out _ ?_; (first | (with_reducible refine Chg.set (by simp) ?_; refine Chg.of_below (B := w2.heap.size) (by (repeat (first | with_reducible exact belR | with_reducible apply belA | with_reducible apply belN | with_reducible apply belD | with_reducible assumption)); done) (Nat.le_refl _)) | (refine Chg.of_below (B := w2.heap.size) (by (repeat (first | with_reducible exact belR | with_reducible apply belA | with_reducible apply belN | with_reducible apply belD | with_reducible assumption)); done) (Nat.le_refl _)) | fail)) | fail)
              (first
                | ((refine DField.flat.step_growC _ (by rfl) (.tmp 50) (.tmp 54) 130 130 (by rfl) w2.heap.size 156 i0 _ _ Tryz.underlying130 Tryz.underlying130 hi0 hz0 hz1 hz2 rfl _ [] (by rfl) ?ownA _ (x.fields.take k) (by rfl) ?rdA k ?lmA ?lnA (by decide) ?bsA ?_); (case ownA => (first | exact (Fresh.mono (Fresh.lit0 (w := w2) rfl) (Nat.le_refl _)).below (by (repeat (first | with_reducible exact belR | with_reducible apply belA | with_reducible apply belN | with_reducible apply belD | with_reducible assumption)); done) | exact (Fresh.mono (Fresh.lit0 (k := w2.heap.size + 1) (w := w2.alloc (.cells #[.string name, .int .i64 n] 156)) (by simp)) (by omega)).below (by (repeat (first | with_reducible exact belR | with_reducible apply belA | with_reducible apply belN | with_reducible apply belD | with_reducible assumption)); done) | fail)); (case rdA => (exact HPre.out.below (by have y := HB.out; exact (by repeat (first | with_reducible exact belR | (with_reducible refine belAB ?_ ?_; focus (first | omega | (simp; done) | (simp; omega))) | (with_reducible refine belS ?_ ?_; focus (first | omega | (simp; done) | (simp; omega))) | with_reducible apply belN | with_reducible apply belD | with_reducible assumption))))); (case lmA => (first | (simp; done) | (simp; omega))); (case lnA => omega); (case bsA => (first | exact Nat.le_refl _ | (simp; done) | omega | (simp; omega))); (intro aoA capA wA hfA hcA hgA); have hbA : Below w2.heap.size w2 wA := Below.trans (by repeat (first | with_reducible exact belR | with_reducible apply belA | (with_reducible refine belS ?_ ?_; focus (first | omega | (simp; done) | (simp; omega))) | with_reducible apply belN | with_reducible apply belD | with_reducible assumption)) hgA; have hzA := hbA.size; have HFA := Lib.hid hfA; simp [Act.eval, Value.ownBlock] at hcA; (first | (have hLit := (DField.flat.reads_chg ((DField.flat.one_reads (E := 156) (u := (⟨name, n⟩ : DField)) (xs := #[.string name, .int .i64 n]) (t := 156) rfl rfl hn).below (by (repeat (first | with_reducible exact belR | with_reducible apply belA | with_reducible apply belN | with_reducible apply belD | with_reducible assumption)); done)) hcA (by simp; done)); (try simp at hLit); have HLit := Lib.hid hLit; clear hLit) | skip); clear hfA hcA hgA)
                | ((refine DField.flat.step_growC _ (by rfl) (.tmp 55) (.tmp 59) 130 130 (by rfl) w2.heap.size 156 i0 _ _ Tryz.underlying130 Tryz.underlying130 hi0 hz0 hz1 hz2 rfl (.slice aoA k capA) ([] ++ x.fields.take k) (by rfl) ?ownB _ [(⟨name, n⟩ : DField)] (by rfl) ?rdB (k + 1) ?lmB ?lnB (by decide) ?bsB ?_); (case ownB => (exact HFA.out.below (by repeat (first | with_reducible exact belR | with_reducible apply belA | (with_reducible refine belS ?_ ?_; focus (first | omega | (simp; done) | (simp; omega))) | with_reducible apply belN | with_reducible apply belD | with_reducible assumption)))); (case rdB => (first | exact HLit.out.below (by (repeat (first | with_reducible exact belR | with_reducible apply belA | with_reducible apply belN | with_reducible apply belD | with_reducible assumption)); done) | exact (DField.flat.one_reads (u := (⟨name, n⟩ : DField)) (xs := #[.string name, .int .i64 n]) rfl rfl hn).below (by (repeat (first | with_reducible exact belR | with_reducible apply belA | with_reducible apply belN | with_reducible apply belD | with_reducible assumption)); done) | fail)); (case lmB => (first | (simp; done) | (simp; omega))); (case lnB => omega); (case bsB => (first | exact Nat.le_refl _ | (simp; done) | omega | (simp; omega))); (intro aoB capB wB hfB hcB hgB); have hbB : Below w2.heap.size w2 wB := Below.trans (by have y := hbA; exact (by repeat (first | with_reducible exact belR | with_reducible apply belA | (with_reducible refine belS ?_ ?_; focus (first | omega | (simp; done) | (simp; omega))) | with_reducible apply belN | with_reducible apply belD | with_reducible assumption))) hgB; have hzB := hbB.size; have HFB := Lib.hid hfB; clear hfB hcB hgB)
                | ((refine DField.flat.step_growC _ (by rfl) (.tmp 60) (.tmp 64) 130 130 (by rfl) w2.heap.size 156 i0 _ _ Tryz.underlying130 Tryz.underlying130 hi0 hz0 hz1 hz2 rfl (.slice aoB (k + 1) capB) ([] ++ x.fields.take k ++ [(⟨name, n⟩ : DField)]) (by rfl) ?ownC _ (x.fields.drop k) (by rfl) ?rdC (x.fields.length + 1) ?lmC ?lnC (by decide) ?bsC ?_); (case ownC => (exact HFB.out.below (by repeat (first | with_reducible exact belR | with_reducible apply belA | (with_reducible refine belS ?_ ?_; focus (first | omega | (simp; done) | (simp; omega))) | with_reducible apply belN | with_reducible apply belD | with_reducible assumption)))); (case rdC => (exact HTl.out.below (by have y := HB.out.trans (hbB.mono HB.out.size); exact (by repeat (first | with_reducible exact belR | (with_reducible refine belAB ?_ ?_; focus (first | omega | (simp; done) | (simp; omega))) | (with_reducible refine belS ?_ ?_; focus (first | omega | (simp; done) | (simp; omega))) | with_reducible apply belN | with_reducible apply belD | with_reducible assumption))))); (case lmC => (first | (simp; done) | (simp; omega))); (case lnC => omega); (case bsC => (first | exact Nat.le_refl _ | (simp; done) | omega | (simp; omega))); (intro aoC capC wC hfC hcC hgC); have hbC : Below w2.heap.size w2 wC := Below.trans (by have y := hbB; exact (by repeat (first | with_reducible exact belR | with_reducible apply belA | (with_reducible refine belS ?_ ?_; focus (first | omega | (simp; done) | (simp; omega))) | with_reducible apply belN | with_reducible apply belD | with_reducible assumption))) hgC; have hzC := hbC.size; have HFC := Lib.hid hfC; have ⟨coC, zoC, foC⟩ := HO.out.keep hbC; clear hfC hcC hgC)
                | fail)
            all_goals
              have HI : Hid (([] ++ x.fields.take k ++ [(⟨name, n⟩ : DField)] ++ x.fields.drop k) = insAt x.fields k ⟨name, n⟩) := Lib.hid (by simp [insAt])
              go_wp2_with fail
              go_meet
              exact ⟨_, (HX.out.keep hbC).setOther (by omega), (HR.out.keep hbC).setOther (by omega), (HO.out.keep hbC).setAt (by simp) rfl, by rw [HE2.out]; show Fresh _ _ _ _ (insAt x.fields k ⟨name, n⟩); rw [← HI.out]; exact (HFC.out.setLow (by omega)).mono (by omega), by have y := HB.out.trans (hbC.mono HB.out.size); exact (by repeat (first | with_reducible exact belR | (with_reducible refine belAB ?_ ?_; focus (first | omega | (simp; done) | (simp; omega))) | (with_reducible refine belS ?_ ?_; focus (first | omega | (simp; done) | (simp; omega))) | with_reducible apply belN | with_reducible apply belD | with_reducible assumption))⟩
          case rest =>
            obtain ⟨v5, hx, hr, ho, hf, hb⟩ := hcut
            have HX0 := Lib.hid hx
            clear c_HX z_HX f_HX c_HR z_HR f_HR c_HO z_HO f_HO
            clear HX HR HO HF HB
            have ⟨c_HX0, z_HX0, f_HX0⟩ := HX0.out
            go_wp2_with fail
            refine settleC (fun W => ∃ v5, WB W w.heap.size #[.slice (some ⟨b, off, none⟩) x.fields.length q_c1] ∧ WB W (w.heap.size + 1) #[.slice none 0 0] ∧ WB W w1.heap.size #[v5] ∧ Fresh (Rep.slice 156 DField.rep) (w.heap.size + 2) W [v5] (setFieldS x name n).fields ∧ Below w.heap.size w W) ⟨v5, HX0.out, hr, ho, hf, hb⟩ ?_
            clear c_HX0 z_HX0 f_HX0 HX0 hr ho hf hb hx
            rintro w3 ⟨v5, hx, hr, ho, hf, hb⟩
            obtain ⟨ao5, cap5, rfl⟩ := hf.slice
            have HX3 := Lib.hid hx
            have HR3 := Lib.hid hr
            have HO3 := Lib.hid ho
            have HF3 := Lib.hid hf
            have HB3 := Lib.hid hb
            clear hx hr ho hf hb
            have ⟨c_HX3, z_HX3, f_HX3⟩ := HX3.out
            refine (specIsRecord _ x _ (HH.out.below HB3.out)).mono ?_
            rintro e w4 ⟨rfl, hb4⟩
            have hbx : Below w.heap.size w w4 := HB3.out.trans (hb4.mono HB3.out.size)
            have HXy := Lib.hid (HX3.out.keep hb4)
            have HRy := Lib.hid (HR3.out.keep hb4)
            have HOy := Lib.hid (HO3.out.keep hb4)
            have HFy := Lib.hid (HF3.out.below hb4)
            clear hb4 c_HX3 z_HX3 f_HX3
            have ⟨c_HXy, z_HXy, f_HXy⟩ := HXy.out
            have ⟨c_HRy, z_HRy, f_HRy⟩ := HRy.out
            have ⟨c_HOy, z_HOy, f_HOy⟩ := HOy.out
            cases a1 : isRecordF x
            · have hB : Hid (setFieldB x name n = false) := Lib.hid (by rw [setFieldB, a1]; rfl)
              go_wp2_with fail
              refine (specCopyRecord _ x _ (HH.out.below hbx) (by omega)).mono ?_
              rintro e w6 ⟨ds, rfl, hf6, hb6⟩
              obtain ⟨ao6, cap6, rfl, hfw6⟩ := DRecord.fopen hf6
              have HF6 := Lib.hid hfw6
              have HB6 := Lib.hid (hbx.trans (hb6.mono hbx.size))
              have ⟨cr6, zr6, fr6⟩ := HRy.out.keep hb6
              have hz6 := hbx.size
              clear hf6 hfw6 hb6
              go_wp2
              refine bodyPost_ret (v := .tuple #[.agg #[.slice ao6 x.fields.length cap6], .bool false]) (by simp [results, Tryz.results97, go_sem, cr6]) rfl ⟨_, by rw [hB.out], ?_, ?_⟩
              · have e : setFieldF x name n = x := by rw [setFieldF, hB.out]; rfl
                rw [e]
                exact DRecord.fmk (Fresh.mono (B := w4.heap.size) (by repeat (first | exact HF6.out | refine Fresh.setLow ?_ (by omega) | refine Fresh.drew ?_)) (by omega))
              · have y := HB6.out
                exact (by repeat (first | with_reducible exact belR | (with_reducible refine belAB ?_ ?_; focus (first | omega | (simp; done) | (simp; omega))) | (with_reducible refine belS ?_ ?_; focus (first | omega | (simp; done) | (simp; omega))) | with_reducible apply belN | with_reducible apply belD | with_reducible assumption))
            ·
              have HS := Lib.hid (setField_same name n a1)
              clear c_HOy z_HOy f_HOy
              rw [HS.out] at HFy HOy
              have ⟨c_HOy, z_HOy, f_HOy⟩ := HOy.out
              go_wp2_with fail
              refine (specIsRecord _ (setFieldI x name n) _ (DRecord.fmk (x := setFieldI x name n) HFy.out).reads).mono ?_
              rintro e w5 ⟨rfl, hb5⟩
              have hbx : Below w.heap.size w w5 := hbx.trans (hb5.mono hbx.size)
              clear c_HXy z_HXy f_HXy c_HRy z_HRy f_HRy c_HOy z_HOy f_HOy
              have HXz := Lib.hid (HXy.out.keep hb5)
              have HRz := Lib.hid (HRy.out.keep hb5)
              have HOz := Lib.hid (HOy.out.keep hb5)
              have HFz := Lib.hid (HFy.out.below hb5)
              clear hb5 HXy HRy HOy HFy
              have ⟨c_HXz, z_HXz, f_HXz⟩ := HXz.out
              have ⟨c_HRz, z_HRz, f_HRz⟩ := HRz.out
              have ⟨c_HOz, z_HOz, f_HOz⟩ := HOz.out
              cases a2 : isRecordF (setFieldI x name n)
              · have hB : Hid (setFieldB x name n = false) := Lib.hid (by rw [setFieldB, a2, Bool.and_false])
                go_wp2_with fail
                refine (specCopyRecord _ x _ (HH.out.below hbx) (by omega)).mono ?_
                rintro e w6 ⟨ds, rfl, hf6, hb6⟩
                obtain ⟨ao6, cap6, rfl, hfw6⟩ := DRecord.fopen hf6
                have HF6 := Lib.hid hfw6
                have HB6 := Lib.hid (hbx.trans (hb6.mono hbx.size))
                have ⟨cr6, zr6, fr6⟩ := HRz.out.keep hb6
                have hz6 := hbx.size
                clear hf6 hfw6 hb6
                go_wp2
                refine bodyPost_ret (v := .tuple #[.agg #[.slice ao6 x.fields.length cap6], .bool false]) (by simp [results, Tryz.results97, go_sem, cr6]) rfl ⟨_, by rw [hB.out], ?_, ?_⟩
                · have e : setFieldF x name n = x := by rw [setFieldF, hB.out]; rfl
                  rw [e]
                  exact DRecord.fmk (Fresh.mono (B := w5.heap.size) (by repeat (first | exact HF6.out | refine Fresh.setLow ?_ (by omega) | refine Fresh.drew ?_)) (by omega))
                · have y := HB6.out
                  exact (by repeat (first | with_reducible exact belR | (with_reducible refine belAB ?_ ?_; focus (first | omega | (simp; done) | (simp; omega))) | (with_reducible refine belS ?_ ?_; focus (first | omega | (simp; done) | (simp; omega))) | with_reducible apply belN | with_reducible apply belD | with_reducible assumption))
              · have hB : Hid (setFieldB x name n = true) := Lib.hid (by rw [setFieldB, a1, a2]; rfl)
                go_wp2
                refine bodyPost_ret (v := .tuple #[.agg #[.slice ao5 (setFieldI x name n).fields.length cap5], .bool true]) (by simp [results, Tryz.results97, go_sem, c_HRz]) rfl ⟨_, by rw [hB.out], ?_, ?_⟩
                · have e : setFieldF x name n = setFieldI x name n := by rw [setFieldF, hB.out]; rfl
                  rw [e]
                  exact DRecord.fmk (x := setFieldI x name n) (Fresh.mono (B := (w.heap.size + 2)) (by repeat (first | exact HFz.out | refine Fresh.setLow ?_ (by omega) | refine Fresh.drew ?_)) (by omega))
                · exact (by repeat (first | with_reducible exact belR | (with_reducible refine belAB ?_ ?_; focus (first | omega | (simp; done) | (simp; omega))) | (with_reducible refine belS ?_ ?_; focus (first | omega | (simp; done) | (simp; omega))) | with_reducible apply belN | with_reducible apply belD | with_reducible assumption))
        · have HE2 : Hid (setFieldS x name n = ⟨x.fields.set k ⟨x.fields[k].name, n⟩⟩) := Lib.hid (setFieldS_old n hkl HL.out n7)
          obtain ⟨g0, vc, hv, hc1, _, hg1, hg2, hci, hfz⟩ := DField.flat.at HF.out k hkl
          simp only [Value.slice.injEq] at hv
          obtain ⟨rfl, hq0, rfl⟩ := hv
          clear hq0 hc1
          have e1 : w2.cell? ⟨g0, k * 2 + 1, none⟩ = some (.int .i64 x.fields[k].n) := hci 1 (by decide)
          clear hci
          have hgl := hlt.out g0 (by simp [Value.ownBlock])
          go_wp2_with fail
          refine settleC (fun W => ∃ v5, WB W w.heap.size #[.slice (some ⟨b, off, none⟩) x.fields.length q_c1] ∧ WB W (w.heap.size + 1) #[.slice none 0 0] ∧ WB W w1.heap.size #[v5] ∧ Fresh (Rep.slice 156 DField.rep) (w.heap.size + 2) W [v5] (setFieldS x name n).fields ∧ Below w.heap.size w W) ?hE ?_
          case hE => exact ⟨_, HX.out.setOther (by omega), HR.out.setOther (by omega), HO.out.setOther (by omega), by rw [HE2.out]; exact DField.flat.setAt HF.out k hkl 1 [.int .i64 n] ⟨x.fields[k].name, n⟩ (by simp [DField.enc]) (Nat.le_refl 2) (show x.fields[k].name.size ≤ maxLen from DField.flat.ok_of HF.out x.fields[k] (List.getElem_mem hkl)), by have y := HB.out; exact (by repeat (first | with_reducible exact belR | (with_reducible refine belAB ?_ ?_; focus (first | omega | (simp; done) | (simp; omega))) | (with_reducible refine belS ?_ ?_; focus (first | omega | (simp; done) | (simp; omega))) | with_reducible apply belN | with_reducible apply belD | with_reducible assumption))⟩
          clear c_HX z_HX f_HX c_HR z_HR f_HR c_HO z_HO f_HO
          clear hfz e1 HX HR HO HF HB HE2 hlt b_c0 b_c1 HR_b
          rintro w3 ⟨v5, hx, hr, ho, hf, hb⟩
          obtain ⟨ao5, cap5, rfl⟩ := hf.slice
          have HX3 := Lib.hid hx
          have HR3 := Lib.hid hr
          have HO3 := Lib.hid ho
          have HF3 := Lib.hid hf
          have HB3 := Lib.hid hb
          clear hx hr ho hf hb
          have ⟨c_HX3, z_HX3, f_HX3⟩ := HX3.out
          refine (specIsRecord _ x _ (HH.out.below HB3.out)).mono ?_
          rintro e w4 ⟨rfl, hb4⟩
          have hbx : Below w.heap.size w w4 := HB3.out.trans (hb4.mono HB3.out.size)
          have HXy := Lib.hid (HX3.out.keep hb4)
          have HRy := Lib.hid (HR3.out.keep hb4)
          have HOy := Lib.hid (HO3.out.keep hb4)
          have HFy := Lib.hid (HF3.out.below hb4)
          clear hb4 c_HX3 z_HX3 f_HX3
          have ⟨c_HXy, z_HXy, f_HXy⟩ := HXy.out
          have ⟨c_HRy, z_HRy, f_HRy⟩ := HRy.out
          have ⟨c_HOy, z_HOy, f_HOy⟩ := HOy.out
          cases a1 : isRecordF x
          · have hB : Hid (setFieldB x name n = false) := Lib.hid (by rw [setFieldB, a1]; rfl)
            go_wp2_with fail
            refine (specCopyRecord _ x _ (HH.out.below hbx) (by omega)).mono ?_
            rintro e w6 ⟨ds, rfl, hf6, hb6⟩
            obtain ⟨ao6, cap6, rfl, hfw6⟩ := DRecord.fopen hf6
            have HF6 := Lib.hid hfw6
            have HB6 := Lib.hid (hbx.trans (hb6.mono hbx.size))
            have ⟨cr6, zr6, fr6⟩ := HRy.out.keep hb6
            have hz6 := hbx.size
            clear hf6 hfw6 hb6
            go_wp2
            refine bodyPost_ret (v := .tuple #[.agg #[.slice ao6 x.fields.length cap6], .bool false]) (by simp [results, Tryz.results97, go_sem, cr6]) rfl ⟨_, by rw [hB.out], ?_, ?_⟩
            · have e : setFieldF x name n = x := by rw [setFieldF, hB.out]; rfl
              rw [e]
              exact DRecord.fmk (Fresh.mono (B := w4.heap.size) (by repeat (first | exact HF6.out | refine Fresh.setLow ?_ (by omega) | refine Fresh.drew ?_)) (by omega))
            · have y := HB6.out
              exact (by repeat (first | with_reducible exact belR | (with_reducible refine belAB ?_ ?_; focus (first | omega | (simp; done) | (simp; omega))) | (with_reducible refine belS ?_ ?_; focus (first | omega | (simp; done) | (simp; omega))) | with_reducible apply belN | with_reducible apply belD | with_reducible assumption))
          ·
            have HS := Lib.hid (setField_same name n a1)
            clear c_HOy z_HOy f_HOy
            rw [HS.out] at HFy HOy
            have ⟨c_HOy, z_HOy, f_HOy⟩ := HOy.out
            go_wp2_with fail
            refine (specIsRecord _ (setFieldI x name n) _ (DRecord.fmk (x := setFieldI x name n) HFy.out).reads).mono ?_
            rintro e w5 ⟨rfl, hb5⟩
            have hbx : Below w.heap.size w w5 := hbx.trans (hb5.mono hbx.size)
            clear c_HXy z_HXy f_HXy c_HRy z_HRy f_HRy c_HOy z_HOy f_HOy
            have HXz := Lib.hid (HXy.out.keep hb5)
            have HRz := Lib.hid (HRy.out.keep hb5)
            have HOz := Lib.hid (HOy.out.keep hb5)
            have HFz := Lib.hid (HFy.out.below hb5)
            clear hb5 HXy HRy HOy HFy
            have ⟨c_HXz, z_HXz, f_HXz⟩ := HXz.out
            have ⟨c_HRz, z_HRz, f_HRz⟩ := HRz.out
            have ⟨c_HOz, z_HOz, f_HOz⟩ := HOz.out
            cases a2 : isRecordF (setFieldI x name n)
            · have hB : Hid (setFieldB x name n = false) := Lib.hid (by rw [setFieldB, a2, Bool.and_false])
              go_wp2_with fail
              refine (specCopyRecord _ x _ (HH.out.below hbx) (by omega)).mono ?_
              rintro e w6 ⟨ds, rfl, hf6, hb6⟩
              obtain ⟨ao6, cap6, rfl, hfw6⟩ := DRecord.fopen hf6
              have HF6 := Lib.hid hfw6
              have HB6 := Lib.hid (hbx.trans (hb6.mono hbx.size))
              have ⟨cr6, zr6, fr6⟩ := HRz.out.keep hb6
              have hz6 := hbx.size
              clear hf6 hfw6 hb6
              go_wp2
              refine bodyPost_ret (v := .tuple #[.agg #[.slice ao6 x.fields.length cap6], .bool false]) (by simp [results, Tryz.results97, go_sem, cr6]) rfl ⟨_, by rw [hB.out], ?_, ?_⟩
              · have e : setFieldF x name n = x := by rw [setFieldF, hB.out]; rfl
                rw [e]
                exact DRecord.fmk (Fresh.mono (B := w5.heap.size) (by repeat (first | exact HF6.out | refine Fresh.setLow ?_ (by omega) | refine Fresh.drew ?_)) (by omega))
              · have y := HB6.out
                exact (by repeat (first | with_reducible exact belR | (with_reducible refine belAB ?_ ?_; focus (first | omega | (simp; done) | (simp; omega))) | (with_reducible refine belS ?_ ?_; focus (first | omega | (simp; done) | (simp; omega))) | with_reducible apply belN | with_reducible apply belD | with_reducible assumption))
            · have hB : Hid (setFieldB x name n = true) := Lib.hid (by rw [setFieldB, a1, a2]; rfl)
              go_wp2
              refine bodyPost_ret (v := .tuple #[.agg #[.slice ao5 (setFieldI x name n).fields.length cap5], .bool true]) (by simp [results, Tryz.results97, go_sem, c_HRz]) rfl ⟨_, by rw [hB.out], ?_, ?_⟩
              · have e : setFieldF x name n = setFieldI x name n := by rw [setFieldF, hB.out]; rfl
                rw [e]
                exact DRecord.fmk (x := setFieldI x name n) (Fresh.mono (B := (w.heap.size + 2)) (by repeat (first | exact HFz.out | refine Fresh.setLow ?_ (by omega) | refine Fresh.drew ?_)) (by omega))
              · exact (by repeat (first | with_reducible exact belR | (with_reducible refine belAB ?_ ?_; focus (first | omega | (simp; done) | (simp; omega))) | (with_reducible refine belS ?_ ?_; focus (first | omega | (simp; done) | (simp; omega))) | with_reducible apply belN | with_reducible apply belD | with_reducible assumption))
      · have HE2 : Hid (setFieldS x name n = ⟨insAt x.fields k ⟨name, n⟩⟩) := Lib.hid (setFieldS_new n HL.out (fun h => absurd h hkl))
        have HPre := Lib.hid (q_K1.out.pre k hk)
        have HTl := Lib.hid (Reads.tail q_K1.out k hk)
        have hsl := fun W => run_tail (P := Tryz.prog) (t := 130) (n := 2) (by kernel_rfl) (fun _ => by kernel_rfl) q_a1 k x.fields.length q_c1 hk W
        have j2 : (k : Int) ≤ (x.fields.length : Int) := by omega
        have j3 : (k : Int) ≤ (q_c1 : Int) := by omega
        have j4 : k ≤ q_c1 := by omega
        go_upto_region 7 with fail
        go_cut [65] (fun _ W => ∃ v5, WB W w.heap.size #[.slice q_a1 x.fields.length q_c1] ∧ WB W (w.heap.size + 1) #[.slice none 0 0] ∧ WB W w1.heap.size #[v5] ∧ Fresh (Rep.slice 156 DField.rep) (w.heap.size + 2) W [v5] (setFieldS x name n).fields ∧ Below w.heap.size w W)
        case first =>
          have HSx : Hid (∀ w', Chg [w1.heap.size] w2 w' → (∀ o, w'.cell? ⟨w.heap.size, o, none⟩ = #[.slice q_a1 x.fields.length q_c1][o]?) ∧ Chg [w1.heap.size] w2 w') := Lib.hid fun w' hw' => ⟨(HX.out.chg hw' (by simp; omega)).cell, hw'⟩
          go_region_held3 (fun w' => (∀ o, w'.cell? ⟨w.heap.size, o, none⟩ = #[.slice q_a1 x.fields.length q_c1][o]?) ∧ Chg [w1.heap.size] w2 w')
            (first | (refine HSx.out _ ?_; (first | (with_reducible refine Chg.set (by simp) ?_; refine Chg.of_below (B := w2.heap.size) (by (repeat (first | with_reducible exact belR | with_reducible apply belA | with_reducible apply belN | with_reducible apply belD | with_reducible assumption)); done) (Nat.le_refl _)) | (refine Chg.of_below (B := w2.heap.size) (by (repeat (first | with_reducible exact belR | with_reducible apply belA | with_reducible apply belN | with_reducible apply belD | with_reducible assumption)); done) (Nat.le_refl _)) | fail)) | fail)
            (first
              | ((refine DField.flat.step_growC _ (by rfl) (.tmp 50) (.tmp 54) 130 130 (by rfl) w2.heap.size 156 i0 _ _ Tryz.underlying130 Tryz.underlying130 hi0 hz0 hz1 hz2 rfl _ [] (by rfl) ?ownA _ (x.fields.take k) (by rfl) ?rdA k ?lmA ?lnA (by decide) ?bsA ?_); (case ownA => (first | exact (Fresh.mono (Fresh.lit0 (w := w2) rfl) (Nat.le_refl _)).below (by (repeat (first | with_reducible exact belR | with_reducible apply belA | with_reducible apply belN | with_reducible apply belD | with_reducible assumption)); done) | exact (Fresh.mono (Fresh.lit0 (k := w2.heap.size + 1) (w := w2.alloc (.cells #[.string name, .int .i64 n] 156)) (by simp)) (by omega)).below (by (repeat (first | with_reducible exact belR | with_reducible apply belA | with_reducible apply belN | with_reducible apply belD | with_reducible assumption)); done) | fail)); (case rdA => (exact HPre.out.below (by have y := HB.out; exact (by repeat (first | with_reducible exact belR | (with_reducible refine belAB ?_ ?_; focus (first | omega | (simp; done) | (simp; omega))) | (with_reducible refine belS ?_ ?_; focus (first | omega | (simp; done) | (simp; omega))) | with_reducible apply belN | with_reducible apply belD | with_reducible assumption))))); (case lmA => (first | (simp; done) | (simp; omega))); (case lnA => omega); (case bsA => (first | exact Nat.le_refl _ | (simp; done) | omega | (simp; omega))); (intro aoA capA wA hfA hcA hgA); have hbA : Below w2.heap.size w2 wA := Below.trans (by repeat (first | with_reducible exact belR | with_reducible apply belA | (with_reducible refine belS ?_ ?_; focus (first | omega | (simp; done) | (simp; omega))) | with_reducible apply belN | with_reducible apply belD | with_reducible assumption)) hgA; have hzA := hbA.size; have HFA := Lib.hid hfA; simp [Act.eval, Value.ownBlock] at hcA; (first | (have hLit := (DField.flat.reads_chg ((DField.flat.one_reads (E := 156) (u := (⟨name, n⟩ : DField)) (xs := #[.string name, .int .i64 n]) (t := 156) rfl rfl hn).below (by (repeat (first | with_reducible exact belR | with_reducible apply belA | with_reducible apply belN | with_reducible apply belD | with_reducible assumption)); done)) hcA (by simp; done)); (try simp at hLit); have HLit := Lib.hid hLit; clear hLit) | skip); clear hfA hcA hgA)
              | ((refine DField.flat.step_growC _ (by rfl) (.tmp 55) (.tmp 59) 130 130 (by rfl) w2.heap.size 156 i0 _ _ Tryz.underlying130 Tryz.underlying130 hi0 hz0 hz1 hz2 rfl (.slice aoA k capA) ([] ++ x.fields.take k) (by rfl) ?ownB _ [(⟨name, n⟩ : DField)] (by rfl) ?rdB (k + 1) ?lmB ?lnB (by decide) ?bsB ?_); (case ownB => (exact HFA.out.below (by repeat (first | with_reducible exact belR | with_reducible apply belA | (with_reducible refine belS ?_ ?_; focus (first | omega | (simp; done) | (simp; omega))) | with_reducible apply belN | with_reducible apply belD | with_reducible assumption)))); (case rdB => (first | exact HLit.out.below (by (repeat (first | with_reducible exact belR | with_reducible apply belA | with_reducible apply belN | with_reducible apply belD | with_reducible assumption)); done) | exact (DField.flat.one_reads (u := (⟨name, n⟩ : DField)) (xs := #[.string name, .int .i64 n]) rfl rfl hn).below (by (repeat (first | with_reducible exact belR | with_reducible apply belA | with_reducible apply belN | with_reducible apply belD | with_reducible assumption)); done) | fail)); (case lmB => (first | (simp; done) | (simp; omega))); (case lnB => omega); (case bsB => (first | exact Nat.le_refl _ | (simp; done) | omega | (simp; omega))); (intro aoB capB wB hfB hcB hgB); have hbB : Below w2.heap.size w2 wB := Below.trans (by have y := hbA; exact (by repeat (first | with_reducible exact belR | with_reducible apply belA | (with_reducible refine belS ?_ ?_; focus (first | omega | (simp; done) | (simp; omega))) | with_reducible apply belN | with_reducible apply belD | with_reducible assumption))) hgB; have hzB := hbB.size; have HFB := Lib.hid hfB; clear hfB hcB hgB)
              | ((refine DField.flat.step_growC _ (by rfl) (.tmp 60) (.tmp 64) 130 130 (by rfl) w2.heap.size 156 i0 _ _ Tryz.underlying130 Tryz.underlying130 hi0 hz0 hz1 hz2 rfl (.slice aoB (k + 1) capB) ([] ++ x.fields.take k ++ [(⟨name, n⟩ : DField)]) (by rfl) ?ownC _ (x.fields.drop k) (by rfl) ?rdC (x.fields.length + 1) ?lmC ?lnC (by decide) ?bsC ?_); (case ownC => (exact HFB.out.below (by repeat (first | with_reducible exact belR | with_reducible apply belA | (with_reducible refine belS ?_ ?_; focus (first | omega | (simp; done) | (simp; omega))) | with_reducible apply belN | with_reducible apply belD | with_reducible assumption)))); (case rdC => (exact HTl.out.below (by have y := HB.out.trans (hbB.mono HB.out.size); exact (by repeat (first | with_reducible exact belR | (with_reducible refine belAB ?_ ?_; focus (first | omega | (simp; done) | (simp; omega))) | (with_reducible refine belS ?_ ?_; focus (first | omega | (simp; done) | (simp; omega))) | with_reducible apply belN | with_reducible apply belD | with_reducible assumption))))); (case lmC => (first | (simp; done) | (simp; omega))); (case lnC => omega); (case bsC => (first | exact Nat.le_refl _ | (simp; done) | omega | (simp; omega))); (intro aoC capC wC hfC hcC hgC); have hbC : Below w2.heap.size w2 wC := Below.trans (by have y := hbB; exact (by repeat (first | with_reducible exact belR | with_reducible apply belA | (with_reducible refine belS ?_ ?_; focus (first | omega | (simp; done) | (simp; omega))) | with_reducible apply belN | with_reducible apply belD | with_reducible assumption))) hgC; have hzC := hbC.size; have HFC := Lib.hid hfC; have ⟨coC, zoC, foC⟩ := HO.out.keep hbC; clear hfC hcC hgC)
              | fail)
          all_goals
            have HI : Hid (([] ++ x.fields.take k ++ [(⟨name, n⟩ : DField)] ++ x.fields.drop k) = insAt x.fields k ⟨name, n⟩) := Lib.hid (by simp [insAt])
            go_wp2_with fail
            go_meet
            exact ⟨_, (HX.out.keep hbC).setOther (by omega), (HR.out.keep hbC).setOther (by omega), (HO.out.keep hbC).setAt (by simp) rfl, by rw [HE2.out]; show Fresh _ _ _ _ (insAt x.fields k ⟨name, n⟩); rw [← HI.out]; exact (HFC.out.setLow (by omega)).mono (by omega), by have y := HB.out.trans (hbC.mono HB.out.size); exact (by repeat (first | with_reducible exact belR | (with_reducible refine belAB ?_ ?_; focus (first | omega | (simp; done) | (simp; omega))) | (with_reducible refine belS ?_ ?_; focus (first | omega | (simp; done) | (simp; omega))) | with_reducible apply belN | with_reducible apply belD | with_reducible assumption))⟩
        case rest =>
          obtain ⟨v5, hx, hr, ho, hf, hb⟩ := hcut
          have HX0 := Lib.hid hx
          clear c_HX z_HX f_HX c_HR z_HR f_HR c_HO z_HO f_HO
          clear HX HR HO HF HB
          have ⟨c_HX0, z_HX0, f_HX0⟩ := HX0.out
          go_wp2_with fail
          refine settleC (fun W => ∃ v5, WB W w.heap.size #[.slice q_a1 x.fields.length q_c1] ∧ WB W (w.heap.size + 1) #[.slice none 0 0] ∧ WB W w1.heap.size #[v5] ∧ Fresh (Rep.slice 156 DField.rep) (w.heap.size + 2) W [v5] (setFieldS x name n).fields ∧ Below w.heap.size w W) ⟨v5, HX0.out, hr, ho, hf, hb⟩ ?_
          clear c_HX0 z_HX0 f_HX0 HX0 hr ho hf hb hx
          rintro w3 ⟨v5, hx, hr, ho, hf, hb⟩
          obtain ⟨ao5, cap5, rfl⟩ := hf.slice
          have HX3 := Lib.hid hx
          have HR3 := Lib.hid hr
          have HO3 := Lib.hid ho
          have HF3 := Lib.hid hf
          have HB3 := Lib.hid hb
          clear hx hr ho hf hb
          have ⟨c_HX3, z_HX3, f_HX3⟩ := HX3.out
          refine (specIsRecord _ x _ (HH.out.below HB3.out)).mono ?_
          rintro e w4 ⟨rfl, hb4⟩
          have hbx : Below w.heap.size w w4 := HB3.out.trans (hb4.mono HB3.out.size)
          have HXy := Lib.hid (HX3.out.keep hb4)
          have HRy := Lib.hid (HR3.out.keep hb4)
          have HOy := Lib.hid (HO3.out.keep hb4)
          have HFy := Lib.hid (HF3.out.below hb4)
          clear hb4 c_HX3 z_HX3 f_HX3
          have ⟨c_HXy, z_HXy, f_HXy⟩ := HXy.out
          have ⟨c_HRy, z_HRy, f_HRy⟩ := HRy.out
          have ⟨c_HOy, z_HOy, f_HOy⟩ := HOy.out
          cases a1 : isRecordF x
          · have hB : Hid (setFieldB x name n = false) := Lib.hid (by rw [setFieldB, a1]; rfl)
            go_wp2_with fail
            refine (specCopyRecord _ x _ (HH.out.below hbx) (by omega)).mono ?_
            rintro e w6 ⟨ds, rfl, hf6, hb6⟩
            obtain ⟨ao6, cap6, rfl, hfw6⟩ := DRecord.fopen hf6
            have HF6 := Lib.hid hfw6
            have HB6 := Lib.hid (hbx.trans (hb6.mono hbx.size))
            have ⟨cr6, zr6, fr6⟩ := HRy.out.keep hb6
            have hz6 := hbx.size
            clear hf6 hfw6 hb6
            go_wp2
            refine bodyPost_ret (v := .tuple #[.agg #[.slice ao6 x.fields.length cap6], .bool false]) (by simp [results, Tryz.results97, go_sem, cr6]) rfl ⟨_, by rw [hB.out], ?_, ?_⟩
            · have e : setFieldF x name n = x := by rw [setFieldF, hB.out]; rfl
              rw [e]
              exact DRecord.fmk (Fresh.mono (B := w4.heap.size) (by repeat (first | exact HF6.out | refine Fresh.setLow ?_ (by omega) | refine Fresh.drew ?_)) (by omega))
            · have y := HB6.out
              exact (by repeat (first | with_reducible exact belR | (with_reducible refine belAB ?_ ?_; focus (first | omega | (simp; done) | (simp; omega))) | (with_reducible refine belS ?_ ?_; focus (first | omega | (simp; done) | (simp; omega))) | with_reducible apply belN | with_reducible apply belD | with_reducible assumption))
          ·
            have HS := Lib.hid (setField_same name n a1)
            clear c_HOy z_HOy f_HOy
            rw [HS.out] at HFy HOy
            have ⟨c_HOy, z_HOy, f_HOy⟩ := HOy.out
            go_wp2_with fail
            refine (specIsRecord _ (setFieldI x name n) _ (DRecord.fmk (x := setFieldI x name n) HFy.out).reads).mono ?_
            rintro e w5 ⟨rfl, hb5⟩
            have hbx : Below w.heap.size w w5 := hbx.trans (hb5.mono hbx.size)
            clear c_HXy z_HXy f_HXy c_HRy z_HRy f_HRy c_HOy z_HOy f_HOy
            have HXz := Lib.hid (HXy.out.keep hb5)
            have HRz := Lib.hid (HRy.out.keep hb5)
            have HOz := Lib.hid (HOy.out.keep hb5)
            have HFz := Lib.hid (HFy.out.below hb5)
            clear hb5 HXy HRy HOy HFy
            have ⟨c_HXz, z_HXz, f_HXz⟩ := HXz.out
            have ⟨c_HRz, z_HRz, f_HRz⟩ := HRz.out
            have ⟨c_HOz, z_HOz, f_HOz⟩ := HOz.out
            cases a2 : isRecordF (setFieldI x name n)
            · have hB : Hid (setFieldB x name n = false) := Lib.hid (by rw [setFieldB, a2, Bool.and_false])
              go_wp2_with fail
              refine (specCopyRecord _ x _ (HH.out.below hbx) (by omega)).mono ?_
              rintro e w6 ⟨ds, rfl, hf6, hb6⟩
              obtain ⟨ao6, cap6, rfl, hfw6⟩ := DRecord.fopen hf6
              have HF6 := Lib.hid hfw6
              have HB6 := Lib.hid (hbx.trans (hb6.mono hbx.size))
              have ⟨cr6, zr6, fr6⟩ := HRz.out.keep hb6
              have hz6 := hbx.size
              clear hf6 hfw6 hb6
              go_wp2
              refine bodyPost_ret (v := .tuple #[.agg #[.slice ao6 x.fields.length cap6], .bool false]) (by simp [results, Tryz.results97, go_sem, cr6]) rfl ⟨_, by rw [hB.out], ?_, ?_⟩
              · have e : setFieldF x name n = x := by rw [setFieldF, hB.out]; rfl
                rw [e]
                exact DRecord.fmk (Fresh.mono (B := w5.heap.size) (by repeat (first | exact HF6.out | refine Fresh.setLow ?_ (by omega) | refine Fresh.drew ?_)) (by omega))
              · have y := HB6.out
                exact (by repeat (first | with_reducible exact belR | (with_reducible refine belAB ?_ ?_; focus (first | omega | (simp; done) | (simp; omega))) | (with_reducible refine belS ?_ ?_; focus (first | omega | (simp; done) | (simp; omega))) | with_reducible apply belN | with_reducible apply belD | with_reducible assumption))
            · have hB : Hid (setFieldB x name n = true) := Lib.hid (by rw [setFieldB, a1, a2]; rfl)
              go_wp2
              refine bodyPost_ret (v := .tuple #[.agg #[.slice ao5 (setFieldI x name n).fields.length cap5], .bool true]) (by simp [results, Tryz.results97, go_sem, c_HRz]) rfl ⟨_, by rw [hB.out], ?_, ?_⟩
              · have e : setFieldF x name n = setFieldI x name n := by rw [setFieldF, hB.out]; rfl
                rw [e]
                exact DRecord.fmk (x := setFieldI x name n) (Fresh.mono (B := (w.heap.size + 2)) (by repeat (first | exact HFz.out | refine Fresh.setLow ?_ (by omega) | refine Fresh.drew ?_)) (by omega))
              · exact (by repeat (first | with_reducible exact belR | (with_reducible refine belAB ?_ ?_; focus (first | omega | (simp; done) | (simp; omega))) | (with_reducible refine belS ?_ ?_; focus (first | omega | (simp; done) | (simp; omega))) | with_reducible apply belN | with_reducible apply belD | with_reducible assumption))
    · obtain ⟨b, off, cs_b, rfl, hw_b, hr_b, hcell_b⟩ := slice_at (q_K1.out.below HB.out) k hlt'
      obtain ⟨fe_b, hrd_b⟩ := hr_b
      have HR_b : Hid (Reads DField.rep w2 cs_b x.fields[k]) := ⟨_, hrd_b⟩
      obtain ⟨rfl, _, b_s0⟩ := DField.rd.1 hrd_b
      clear hrd_b
      have b_c0 : w2.cell? ⟨b, off + k * 2, none⟩ = some (.string x.fields[k].name) := hcell_b 0 (by decide)
      have b_c1 : w2.cell? ⟨b, off + k * 2 + 1, none⟩ = some (.int .i64 x.fields[k].n) := hcell_b 1 (by decide)
      clear hcell_b
      have i1 : (0 : Int) ≤ (k : Int) := by omega
      have i2 : (k : Int) < (x.fields.length : Int) := by omega
      have n5 : Op.bytesLess x.fields[k].name.toList name.toList = true := hle
      go_wp2
      go_light
      exact ⟨⟨k + 1, by omega, by go_num, Lib.hid (by
        intro j hj hjk
        by_cases e : j = k
        · subst e; exact hle
        · exact HA.out j hj (by omega))⟩, by simp [intOf]; omega⟩

end Go.Proofs.YtgicglmcapnogaaGreat
