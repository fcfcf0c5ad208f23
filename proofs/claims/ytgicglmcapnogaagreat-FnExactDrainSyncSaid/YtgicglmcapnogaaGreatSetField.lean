/-
  impl.SetField.
-/
import Derived.Test.YtgicglmcapnogaaGreatFind
import Derived.Test.YtgicglmcapnogaaGreatCopies
import Derived.Test.YtgicglmcapnogaaGreatInsField
namespace Go.Proofs.YtgicglmcapnogaaGreat
open Go.RowKit
attribute [local irreducible] isRecordF setFieldI

theorem findF_none {x : DRecord} {name : ByteArray} (n : Int) (h : idxF (namedAs name) x.fields = -1) : setFieldI x name n = insField x name n := by
  unfold idxF at h
  unfold setFieldI
  split at h
  · omega
  · rename_i hj; rw [hj]
theorem findF_some {x : DRecord} {name : ByteArray} (n : Int) {i : Nat} (hi : i < x.fields.length) (h : idxF (namedAs name) x.fields = (i : Int)) : setFieldI x name n = ⟨x.fields.set i ⟨x.fields[i].name, n⟩⟩ := by
  unfold idxF at h
  unfold setFieldI
  split at h
  · rename_i j hj
    obtain rfl : j = i := by omega
    rw [hj]
    simp only [putField, List.getElem?_eq_getElem hi]
  · omega

set_option maxRecDepth 100000 in
set_option maxHeartbeats 8000000 in
theorem implSetField (cs : List Value) (x : DRecord) (name : ByteArray) (n : Int) (w : World) (h : Reads DRecord.rep w cs x) (hs : x.fields.length ≤ 1048600) (hn : name.size ≤ maxLen) :
    Calls Tryz.prog 108 #[.agg cs.toArray, .string name, .int .i64 n] w fun e w' => ∃ ds, e = .returned (.tuple #[.agg ds.toArray, .bool (setFieldB x name n)]) ∧ Fresh DRecord.rep w.heap.size w' ds (setFieldF x name n) ∧ Below w.heap.size w w' := by
  have HH := Lib.hid h
  obtain ⟨fp_q, h⟩ := h
  obtain ⟨q_v1, q_f1, rfl, _, q_r1⟩ := DRecord.rd.1 h
  obtain ⟨q_a1, q_c1, rfl, q_hm1, q_lc1, q_hu1⟩ := slice_open q_r1; clear q_hu1
  have q_K1 : Hid (Reads (Rep.slice 156 DField.rep) w [.slice q_a1 x.fields.length q_c1] x.fields) := ⟨_, q_r1⟩
  clear q_r1 h
  obtain ⟨i0, hi0, hz0, hz1, hz2⟩ := info_parts infoField
  go_enter Tryz.func108, Tryz.ntmps108
  go_wp2_with fail
  refine (implCopyRecord _ x _ (HH.out.below (by repeat (first | with_reducible exact belR | with_reducible apply belA | (with_reducible refine belS ?_ ?_; focus (first | omega | (simp; done) | (simp; omega))) | with_reducible apply belN | with_reducible apply belD | with_reducible assumption))) hs).mono ?_
  rintro e w1 ⟨ds, rfl, hf, hb⟩
  obtain ⟨ao, cap, rfl, hfw⟩ := DRecord.fopen hf
  have HF : Hid (Fresh (Rep.slice 156 DField.rep) (w.heap.size + 2) w1 [.slice ao x.fields.length cap] x.fields) := Lib.hid (hfw.mono (by simp))
  have hb3 := hb.mono (B' := w.heap.size + 2) (by simp)
  have HX : Hid (WB w1 w.heap.size #[.slice q_a1 x.fields.length q_c1]) := Lib.hid (((WB.at rfl).growA).grow hb3 (by omega))
  have HR : Hid (WB w1 (w.heap.size + 1) #[.slice none 0 0]) := Lib.hid ((WB.at (by simp)).grow hb3 (by omega))
  have HB : Hid (Below w.heap.size w w1) := Lib.hid (Below.trans (by repeat (first | with_reducible exact belR | (with_reducible refine belAB ?_ ?_; focus (first | omega | (simp; done) | (simp; omega))) | (with_reducible refine belS ?_ ?_; focus (first | omega | (simp; done) | (simp; omega))) | with_reducible apply belN | with_reducible apply belD | with_reducible assumption)) (hb3.mono (by omega)))
  have hz : w.heap.size + 2 ≤ w1.heap.size := by have y := hb3.size; simp at y; omega
  clear hf hfw hb hb3
  have ⟨c_HX, z_HX, f_HX⟩ := HX.out
  go_wp2_with fail
  refine (implFieldAt _ x name _ (HH.out.below (by have y := HB.out; exact (by repeat (first | with_reducible exact belR | with_reducible apply belA | (with_reducible refine belS ?_ ?_; focus (first | omega | (simp; done) | (simp; omega))) | with_reducible apply belN | with_reducible apply belD | with_reducible assumption))))).mono ?_
  rintro e w2 ⟨rfl, hb⟩
  have hq : Below w1.heap.size w1 w2 := below_call (by repeat (first | with_reducible exact belR | with_reducible apply belA | (with_reducible refine belS ?_ ?_; focus (first | omega | (simp; done) | (simp; omega))) | with_reducible apply belN | with_reducible apply belD | with_reducible assumption)) (by first | omega | (simp; done) | (simp; omega)) hb
  have HO : Hid (WB w2 w1.heap.size #[.slice ao x.fields.length cap]) := Lib.hid ((WB.at rfl).keep hb)
  have hsz2 : w1.heap.size + 1 ≤ w2.heap.size := by have y := hb.size; simp at y; omega
  have hlt : Hid (∀ b, (Value.slice ao x.fields.length cap).ownBlock = some b → w.heap.size + 2 ≤ b ∧ b < w1.heap.size) := Lib.hid fun b hb => HF.out.ownlt b (by rw [hb]; simp)
  have hno : Hid (∀ b, b < w.heap.size + 2 ∨ w1.heap.size ≤ b → b ∉ (Value.slice ao x.fields.length cap).ownBlock.toList) := Lib.hid fun b hb hm => by
    have := hlt.out b (by simpa using hm); omega
  clear c_HX z_HX f_HX
  replace HX := Lib.hid (HX.out.keep hq)
  replace HR := Lib.hid (HR.out.keep hq)
  replace HF := Lib.hid (HF.out.below hq)
  replace HB := Lib.hid (HB.out.trans (hq.mono HB.out.size))
  clear hb hq
  have ⟨c_HX, z_HX, f_HX⟩ := HX.out
  have ⟨c_HR, z_HR, f_HR⟩ := HR.out
  have ⟨c_HO, z_HO, f_HO⟩ := HO.out
  rcases idxF_cases (namedAs name) x.fields with ⟨he, hall⟩ | ⟨i, hi, he, hp, hall⟩
  · have HE := Lib.hid (findF_none n he)
    rw [he]
    clear he hall
    go_wp2
    go_loop [10] (fun i => ∃ k : Nat, k ≤ x.fields.length ∧ i = .int .i64 k ∧ Hid (∀ j, (hj : j < x.fields.length) → j < k → fieldLess name x.fields[j] = true)) (fun i => x.fields.length - (intOf i).toNat)
    case atStart => exact ⟨0, by omega, rfl, Lib.hid (by intro j hj h; omega)⟩
    case round =>
      obtain ⟨k, hk, rfl, HA⟩ := hrel
      have hstop : (Hid (∀ hk : k < x.fields.length, fieldLess name x.fields[k] = false)) ∨ ∃ hk : k < x.fields.length, fieldLess name x.fields[k] = true := by
        by_cases h1 : k < x.fields.length
        · cases h2 : fieldLess name x.fields[k]
          · exact .inl (Lib.hid fun _ => h2)
          · exact .inr ⟨h1, h2⟩
        · exact .inl (Lib.hid fun h => absurd h h1)
      rcases hstop with HS | ⟨hlt', hle⟩
      · have HL := Lib.hid (lead_eq hk HA.out HS.out)
        have HE2 : Hid (setFieldI x name n = ⟨insAt x.fields k ⟨name, n⟩⟩) := Lib.hid (by rw [HE.out, insField, HL.out])
        have j1 : (0 : Int) ≤ (k : Int) := by omega
        by_cases hkl : k < x.fields.length
        case' pos =>
          have hns := HS.out hkl
          obtain ⟨b, off, cs_b, rfl, hw_b, hr_b, hcell_b⟩ := slice_at HF.out.reads k hkl
          obtain ⟨fe_b, hrd_b⟩ := hr_b
          have HR_b : Hid (Reads DField.rep w2 cs_b x.fields[k]) := ⟨_, hrd_b⟩
          obtain ⟨rfl, _, b_s0⟩ := DField.rd.1 hrd_b
          clear hrd_b
          have b_c0 : w2.cell? ⟨b, off + k * 2, none⟩ = some (.string x.fields[k].name) := hcell_b 0 (by decide)
          have b_c1 : w2.cell? ⟨b, off + k * 2 + 1, none⟩ = some (.int .i64 x.fields[k].n) := hcell_b 1 (by decide)
          clear hcell_b
          have i2 : (k : Int) < (x.fields.length : Int) := by omega
          have n5 : Op.bytesLess x.fields[k].name.toList name.toList = false := hns
        all_goals
          go_wp2_with fail
          refine (insertField _ x.fields ⟨name, n⟩ [.string name, .int .i64 n] _ k (w.heap.size + 2) w2.heap.size _ _ ((HF.out.partAt (Nat.le_refl _)).below (by repeat (first | with_reducible exact belR | with_reducible apply belA | (with_reducible refine belS ?_ ?_; focus (first | omega | (simp; done) | (simp; omega))) | with_reducible apply belN | with_reducible apply belD | with_reducible assumption))) ⟨[], DField.rd.2 ⟨rfl, rfl, hn⟩, by simp, by simp⟩ (by omega) (by first | omega | (simp; done) | (simp; omega)) (by omega) hk (heap_alloc_new w2 _) (hno.out _ (.inr (by omega)))).mono ?_
          rintro e w4 ⟨ao4, cap4, rfl, hf4, hc4, hv4⟩
          have HF4 := Lib.hid hf4
          have hap : Hid (w1.heap.size ∉ (Value.slice ao4 (x.fields.length + 1) cap4).ownBlock.toList) := Lib.hid fun hm => by
            rcases hv4 _ hm with hq | hq
            · exact hno.out _ (.inr (by omega)) hq
            · simp at hq; omega
          have HX4 := Lib.hid (HX.out.growA.chg hc4 (hno.out _ (.inl (by omega))))
          have HR4 := Lib.hid (HR.out.growA.chg hc4 (hno.out _ (.inl (by omega))))
          have HO4 := Lib.hid (HO.out.growA.chg hc4 (hno.out _ (.inr (by omega))))
          have HB4 : Hid (Below w.heap.size w w4) := Lib.hid (by have y := HB.out; exact Below.trans (by repeat (first | with_reducible exact belR | with_reducible apply belA | (with_reducible refine belS ?_ ?_; focus (first | omega | (simp; done) | (simp; omega))) | with_reducible apply belN | with_reducible apply belD | with_reducible assumption)) (hc4.below (fun b hm => by have := hlt.out b (by simpa using hm); omega) (by simp; omega)))
          clear hf4 hc4 hv4
          clear c_HX z_HX f_HX c_HR z_HR f_HR c_HO z_HO f_HO
          have ⟨c_HO4, z_HO4, f_HO4⟩ := HO4.out
          have ⟨c_HX4, z_HX4, f_HX4⟩ := HX4.out
          go_wp2_with fail
          refine settleC (fun W => ∃ v5, WB W w.heap.size #[.slice q_a1 x.fields.length q_c1] ∧ WB W (w.heap.size + 1) #[.slice none 0 0] ∧ WB W w1.heap.size #[v5] ∧ Fresh (Rep.slice 156 DField.rep) (w.heap.size + 2) W [v5] (setFieldI x name n).fields ∧ Below w.heap.size w W) ?hE ?_
          case hE => exact ⟨_, HX4.out.setOther (by omega), HR4.out.setOther (by omega), HO4.out.setAt (by simp) rfl, by rw [HE2.out]; exact DField.flat.setApart HF4.out hap.out, by have y := HB4.out; exact (by repeat (first | with_reducible exact belR | (with_reducible refine belAB ?_ ?_; focus (first | omega | (simp; done) | (simp; omega))) | (with_reducible refine belS ?_ ?_; focus (first | omega | (simp; done) | (simp; omega))) | with_reducible apply belN | with_reducible apply belD | with_reducible assumption))⟩
          clear c_HO4 z_HO4 f_HO4 c_HX4 z_HX4 f_HX4 HX4 HR4 HO4 HF4 HB4 hap HX HR HO HF HB HE HE2 HL
          rintro w3 ⟨v5, hx, hr, ho, hf, hb⟩
          obtain ⟨ao5, cap5, rfl⟩ := hf.slice
          have HX3 := Lib.hid hx
          have HR3 := Lib.hid hr
          have HO3 := Lib.hid ho
          have HF3 := Lib.hid hf
          have HB3 := Lib.hid hb
          clear hx hr ho hf hb
          have ⟨c_HX3, z_HX3, f_HX3⟩ := HX3.out
          refine (implIsRecord _ x _ (HH.out.below HB3.out)).mono ?_
          rintro e w4 ⟨rfl, hb4⟩
          have hbx : Below w.heap.size w w4 := HB3.out.trans (hb4.mono HB3.out.size)
          have HXy := Lib.hid (HX3.out.keep hb4)
          have HRy := Lib.hid (HR3.out.keep hb4)
          have HOy := Lib.hid (HO3.out.keep hb4)
          have HFy := Lib.hid (HF3.out.below hb4)
          clear hb4 c_HX3 z_HX3 f_HX3
          have ⟨c_HXy, z_HXy, f_HXy⟩ := HXy.out
          have ⟨c_HRy, z_HRy, f_HRy⟩ := HRy.out
          have ⟨c_HOy, z_HOy, f_HOy⟩ := HOy.out
          cases a1 : isRecordF x
          · have hB : Hid (setFieldB x name n = false) := Lib.hid (by rw [setFieldB, a1]; rfl)
            go_wp2_with fail
            refine (implCopyRecord _ x _ (HH.out.below hbx) (by omega)).mono ?_
            rintro e w6 ⟨ds, rfl, hf6, hb6⟩
            obtain ⟨ao6, cap6, rfl, hfw6⟩ := DRecord.fopen hf6
            have HF6 := Lib.hid hfw6
            have HB6 := Lib.hid (hbx.trans (hb6.mono hbx.size))
            have ⟨cr6, zr6, fr6⟩ := HRy.out.keep hb6
            have hz6 := hbx.size
            clear hf6 hfw6 hb6
            go_wp2
            refine bodyPost_ret (v := .tuple #[.agg #[.slice ao6 x.fields.length cap6], .bool false]) (by simp [results, Tryz.results108, go_sem, cr6]) rfl ⟨_, by rw [hB.out], ?_, ?_⟩
            · have e : setFieldF x name n = x := by rw [setFieldF, hB.out]; rfl
              rw [e]
              exact DRecord.fmk (Fresh.mono (B := w4.heap.size) (by repeat (first | exact HF6.out | refine Fresh.setLow ?_ (by omega) | refine Fresh.drew ?_)) (by omega))
            · have y := HB6.out
              exact (by repeat (first | with_reducible exact belR | (with_reducible refine belAB ?_ ?_; focus (first | omega | (simp; done) | (simp; omega))) | (with_reducible refine belS ?_ ?_; focus (first | omega | (simp; done) | (simp; omega))) | with_reducible apply belN | with_reducible apply belD | with_reducible assumption))
          · skip
            go_wp2_with fail
            refine (implIsRecord _ (setFieldI x name n) _ (DRecord.fmk (x := setFieldI x name n) HFy.out).reads).mono ?_
            rintro e w5 ⟨rfl, hb5⟩
            have hbx : Below w.heap.size w w5 := hbx.trans (hb5.mono hbx.size)
            clear c_HXy z_HXy f_HXy c_HRy z_HRy f_HRy c_HOy z_HOy f_HOy
            have HXz := Lib.hid (HXy.out.keep hb5)
            have HRz := Lib.hid (HRy.out.keep hb5)
            have HOz := Lib.hid (HOy.out.keep hb5)
            have HFz := Lib.hid (HFy.out.below hb5)
            clear hb5 HXy HRy HOy HFy
            have ⟨c_HXz, z_HXz, f_HXz⟩ := HXz.out
            have ⟨c_HRz, z_HRz, f_HRz⟩ := HRz.out
            have ⟨c_HOz, z_HOz, f_HOz⟩ := HOz.out
            cases a2 : isRecordF (setFieldI x name n)
            · have hB : Hid (setFieldB x name n = false) := Lib.hid (by rw [setFieldB, a2, Bool.and_false])
              go_wp2_with fail
              refine (implCopyRecord _ x _ (HH.out.below hbx) (by omega)).mono ?_
              rintro e w6 ⟨ds, rfl, hf6, hb6⟩
              obtain ⟨ao6, cap6, rfl, hfw6⟩ := DRecord.fopen hf6
              have HF6 := Lib.hid hfw6
              have HB6 := Lib.hid (hbx.trans (hb6.mono hbx.size))
              have ⟨cr6, zr6, fr6⟩ := HRz.out.keep hb6
              have hz6 := hbx.size
              clear hf6 hfw6 hb6
              go_wp2
              refine bodyPost_ret (v := .tuple #[.agg #[.slice ao6 x.fields.length cap6], .bool false]) (by simp [results, Tryz.results108, go_sem, cr6]) rfl ⟨_, by rw [hB.out], ?_, ?_⟩
              · have e : setFieldF x name n = x := by rw [setFieldF, hB.out]; rfl
                rw [e]
                exact DRecord.fmk (Fresh.mono (B := w5.heap.size) (by repeat (first | exact HF6.out | refine Fresh.setLow ?_ (by omega) | refine Fresh.drew ?_)) (by omega))
              · have y := HB6.out
                exact (by repeat (first | with_reducible exact belR | (with_reducible refine belAB ?_ ?_; focus (first | omega | (simp; done) | (simp; omega))) | (with_reducible refine belS ?_ ?_; focus (first | omega | (simp; done) | (simp; omega))) | with_reducible apply belN | with_reducible apply belD | with_reducible assumption))
            · have hB : Hid (setFieldB x name n = true) := Lib.hid (by rw [setFieldB, a1, a2]; rfl)
              go_wp2
              refine bodyPost_ret (v := .tuple #[.agg #[.slice ao5 (setFieldI x name n).fields.length cap5], .bool true]) (by simp [results, Tryz.results108, go_sem, c_HRz]) rfl ⟨_, by rw [hB.out], ?_, ?_⟩
              · have e : setFieldF x name n = setFieldI x name n := by rw [setFieldF, hB.out]; rfl
                rw [e]
                exact DRecord.fmk (x := setFieldI x name n) (Fresh.mono (B := (w.heap.size + 2)) (by repeat (first | exact HFz.out | refine Fresh.setLow ?_ (by omega) | refine Fresh.drew ?_)) (by omega))
              · exact (by repeat (first | with_reducible exact belR | (with_reducible refine belAB ?_ ?_; focus (first | omega | (simp; done) | (simp; omega))) | (with_reducible refine belS ?_ ?_; focus (first | omega | (simp; done) | (simp; omega))) | with_reducible apply belN | with_reducible apply belD | with_reducible assumption))
      · obtain ⟨b, off, cs_b, rfl, hw_b, hr_b, hcell_b⟩ := slice_at HF.out.reads k hlt'
        obtain ⟨fe_b, hrd_b⟩ := hr_b
        have HR_b : Hid (Reads DField.rep w2 cs_b x.fields[k]) := ⟨_, hrd_b⟩
        obtain ⟨rfl, _, b_s0⟩ := DField.rd.1 hrd_b
        clear hrd_b
        have b_c0 : w2.cell? ⟨b, off + k * 2, none⟩ = some (.string x.fields[k].name) := hcell_b 0 (by decide)
        have b_c1 : w2.cell? ⟨b, off + k * 2 + 1, none⟩ = some (.int .i64 x.fields[k].n) := hcell_b 1 (by decide)
        clear hcell_b
        have i1 : (0 : Int) ≤ (k : Int) := by omega
        have i2 : (k : Int) < (x.fields.length : Int) := by omega
        have n5 : Op.bytesLess x.fields[k].name.toList name.toList = true := hle
        go_wp2
        go_light
        exact ⟨⟨k + 1, by omega, by go_num, Lib.hid (by
          intro j hj hjk
          by_cases e : j = k
          · subst e; exact hle
          · exact HA.out j hj (by omega))⟩, by simp [intOf]; omega⟩
  · have HE2 := Lib.hid (findF_some n hi he)
    rw [he]
    clear he hall hp
    obtain ⟨g0, vc, hv, hc1, _, hg1, hg2, hci, hfz⟩ := DField.flat.at HF.out i hi
    simp only [Value.slice.injEq] at hv
    obtain ⟨rfl, hq0, rfl⟩ := hv
    clear hq0 hc1
    have e1 : w2.cell? ⟨g0, i * 2 + 1, none⟩ = some (.int .i64 x.fields[i].n) := hci 1 (by decide)
    clear hci
    have hgl := hlt.out g0 (by simp [Value.ownBlock])
    have i1 : (0 : Int) ≤ (i : Int) := by omega
    have i2 : (i : Int) < (x.fields.length : Int) := by omega
    go_wp2_with fail
    refine settleC (fun W => ∃ v5, WB W w.heap.size #[.slice q_a1 x.fields.length q_c1] ∧ WB W (w.heap.size + 1) #[.slice none 0 0] ∧ WB W w1.heap.size #[v5] ∧ Fresh (Rep.slice 156 DField.rep) (w.heap.size + 2) W [v5] (setFieldI x name n).fields ∧ Below w.heap.size w W) ?hE ?_
    case hE => exact ⟨_, HX.out.setOther (by omega), HR.out.setOther (by omega), HO.out.setOther (by omega), by rw [HE2.out]; exact DField.flat.setAt HF.out i hi 1 [.int .i64 n] ⟨x.fields[i].name, n⟩ (by simp [DField.enc]) (Nat.le_refl 2) (show x.fields[i].name.size ≤ maxLen from DField.flat.ok_of HF.out x.fields[i] (List.getElem_mem hi)), by have y := HB.out; exact (by repeat (first | with_reducible exact belR | (with_reducible refine belAB ?_ ?_; focus (first | omega | (simp; done) | (simp; omega))) | (with_reducible refine belS ?_ ?_; focus (first | omega | (simp; done) | (simp; omega))) | with_reducible apply belN | with_reducible apply belD | with_reducible assumption))⟩
    clear c_HX z_HX f_HX c_HR z_HR f_HR c_HO z_HO f_HO
    clear hfz e1 HX HR HO HF HB HE2 hlt hno
    rintro w3 ⟨v5, hx, hr, ho, hf, hb⟩
    obtain ⟨ao5, cap5, rfl⟩ := hf.slice
    have HX3 := Lib.hid hx
    have HR3 := Lib.hid hr
    have HO3 := Lib.hid ho
    have HF3 := Lib.hid hf
    have HB3 := Lib.hid hb
    clear hx hr ho hf hb
    have ⟨c_HX3, z_HX3, f_HX3⟩ := HX3.out
    refine (implIsRecord _ x _ (HH.out.below HB3.out)).mono ?_
    rintro e w4 ⟨rfl, hb4⟩
    have hbx : Below w.heap.size w w4 := HB3.out.trans (hb4.mono HB3.out.size)
    have HXy := Lib.hid (HX3.out.keep hb4)
    have HRy := Lib.hid (HR3.out.keep hb4)
    have HOy := Lib.hid (HO3.out.keep hb4)
    have HFy := Lib.hid (HF3.out.below hb4)
    clear hb4 c_HX3 z_HX3 f_HX3
    have ⟨c_HXy, z_HXy, f_HXy⟩ := HXy.out
    have ⟨c_HRy, z_HRy, f_HRy⟩ := HRy.out
    have ⟨c_HOy, z_HOy, f_HOy⟩ := HOy.out
    cases a1 : isRecordF x
    · have hB : Hid (setFieldB x name n = false) := Lib.hid (by rw [setFieldB, a1]; rfl)
      go_wp2_with fail
      refine (implCopyRecord _ x _ (HH.out.below hbx) (by omega)).mono ?_
      rintro e w6 ⟨ds, rfl, hf6, hb6⟩
      obtain ⟨ao6, cap6, rfl, hfw6⟩ := DRecord.fopen hf6
      have HF6 := Lib.hid hfw6
      have HB6 := Lib.hid (hbx.trans (hb6.mono hbx.size))
      have ⟨cr6, zr6, fr6⟩ := HRy.out.keep hb6
      have hz6 := hbx.size
      clear hf6 hfw6 hb6
      go_wp2
      refine bodyPost_ret (v := .tuple #[.agg #[.slice ao6 x.fields.length cap6], .bool false]) (by simp [results, Tryz.results108, go_sem, cr6]) rfl ⟨_, by rw [hB.out], ?_, ?_⟩
      · have e : setFieldF x name n = x := by rw [setFieldF, hB.out]; rfl
        rw [e]
        exact DRecord.fmk (Fresh.mono (B := w4.heap.size) (by repeat (first | exact HF6.out | refine Fresh.setLow ?_ (by omega) | refine Fresh.drew ?_)) (by omega))
      · have y := HB6.out
        exact (by repeat (first | with_reducible exact belR | (with_reducible refine belAB ?_ ?_; focus (first | omega | (simp; done) | (simp; omega))) | (with_reducible refine belS ?_ ?_; focus (first | omega | (simp; done) | (simp; omega))) | with_reducible apply belN | with_reducible apply belD | with_reducible assumption))
    · skip
      go_wp2_with fail
      refine (implIsRecord _ (setFieldI x name n) _ (DRecord.fmk (x := setFieldI x name n) HFy.out).reads).mono ?_
      rintro e w5 ⟨rfl, hb5⟩
      have hbx : Below w.heap.size w w5 := hbx.trans (hb5.mono hbx.size)
      clear c_HXy z_HXy f_HXy c_HRy z_HRy f_HRy c_HOy z_HOy f_HOy
      have HXz := Lib.hid (HXy.out.keep hb5)
      have HRz := Lib.hid (HRy.out.keep hb5)
      have HOz := Lib.hid (HOy.out.keep hb5)
      have HFz := Lib.hid (HFy.out.below hb5)
      clear hb5 HXy HRy HOy HFy
      have ⟨c_HXz, z_HXz, f_HXz⟩ := HXz.out
      have ⟨c_HRz, z_HRz, f_HRz⟩ := HRz.out
      have ⟨c_HOz, z_HOz, f_HOz⟩ := HOz.out
      cases a2 : isRecordF (setFieldI x name n)
      · have hB : Hid (setFieldB x name n = false) := Lib.hid (by rw [setFieldB, a2, Bool.and_false])
        go_wp2_with fail
        refine (implCopyRecord _ x _ (HH.out.below hbx) (by omega)).mono ?_
        rintro e w6 ⟨ds, rfl, hf6, hb6⟩
        obtain ⟨ao6, cap6, rfl, hfw6⟩ := DRecord.fopen hf6
        have HF6 := Lib.hid hfw6
        have HB6 := Lib.hid (hbx.trans (hb6.mono hbx.size))
        have ⟨cr6, zr6, fr6⟩ := HRz.out.keep hb6
        have hz6 := hbx.size
        clear hf6 hfw6 hb6
        go_wp2
        refine bodyPost_ret (v := .tuple #[.agg #[.slice ao6 x.fields.length cap6], .bool false]) (by simp [results, Tryz.results108, go_sem, cr6]) rfl ⟨_, by rw [hB.out], ?_, ?_⟩
        · have e : setFieldF x name n = x := by rw [setFieldF, hB.out]; rfl
          rw [e]
          exact DRecord.fmk (Fresh.mono (B := w5.heap.size) (by repeat (first | exact HF6.out | refine Fresh.setLow ?_ (by omega) | refine Fresh.drew ?_)) (by omega))
        · have y := HB6.out
          exact (by repeat (first | with_reducible exact belR | (with_reducible refine belAB ?_ ?_; focus (first | omega | (simp; done) | (simp; omega))) | (with_reducible refine belS ?_ ?_; focus (first | omega | (simp; done) | (simp; omega))) | with_reducible apply belN | with_reducible apply belD | with_reducible assumption))
      · have hB : Hid (setFieldB x name n = true) := Lib.hid (by rw [setFieldB, a1, a2]; rfl)
        go_wp2
        refine bodyPost_ret (v := .tuple #[.agg #[.slice ao5 (setFieldI x name n).fields.length cap5], .bool true]) (by simp [results, Tryz.results108, go_sem, c_HRz]) rfl ⟨_, by rw [hB.out], ?_, ?_⟩
        · have e : setFieldF x name n = setFieldI x name n := by rw [setFieldF, hB.out]; rfl
          rw [e]
          exact DRecord.fmk (x := setFieldI x name n) (Fresh.mono (B := (w.heap.size + 2)) (by repeat (first | exact HFz.out | refine Fresh.setLow ?_ (by omega) | refine Fresh.drew ?_)) (by omega))
        · exact (by repeat (first | with_reducible exact belR | (with_reducible refine belAB ?_ ?_; focus (first | omega | (simp; done) | (simp; omega))) | (with_reducible refine belS ?_ ?_; focus (first | omega | (simp; done) | (simp; omega))) | with_reducible apply belN | with_reducible apply belD | with_reducible assumption))

end Go.Proofs.YtgicglmcapnogaaGreat
