/-
  copyStore.
-/
import Derived.Test.YtgicglmcapnogaaGreatCopies
namespace Go.Proofs.YtgicglmcapnogaaGreat
open Go.RowKit

set_option maxRecDepth 100000 in
set_option maxHeartbeats 8000000 in
theorem implCopyStore (cs : List Value) (x : DStore) (w : World) (h : Reads DStore.rep w cs x) (hs : SmallStore x) :
    Calls Tryz.prog 75 #[.agg cs.toArray] w fun e w' => ∃ ds, e = .returned (.agg ds.toArray) ∧ Fresh DStore.rep w.heap.size w' ds x ∧ Below w.heap.size w w' := by
  obtain ⟨fp_q, h⟩ := h
  obtain ⟨q_v1, q_f1, rfl, _, q_s0, q_r1⟩ := DStore.rd.1 h
  obtain ⟨q_a1, q_c1, rfl, q_hm1, q_lc1, q_hu1⟩ := slice_open q_r1; clear q_hu1
  have q_K1 : Hid (Reads (Rep.slice 134 DItem.rep) w [.slice q_a1 x.items.length q_c1] x.items) := ⟨_, q_r1⟩
  clear q_r1 h
  have hsl := hs.items
  have HSF := Lib.hid hs.fields
  clear hs
  obtain ⟨i0, hi, hz0, hz1, hz2⟩ := info_parts infoItem
  go_enter Tryz.func75, Tryz.ntmps75
  go_wp2
  go_loopw [14] (fun i wr => ∃ (k : Nat) (v : Value), k ≤ x.items.length ∧ i = .int .i64 k ∧ WB wr w.heap.size #[.string x.name, .slice q_a1 x.items.length q_c1, .int .i64 x.auto] ∧ WB wr (w.heap.size + 1) #[.string ⟨#[]⟩, .slice none 0 0, .int .i64 0] ∧ WB wr (w.heap.size + 2) #[.string x.name, v, .int .i64 x.auto] ∧ Fresh (Rep.slice 134 DItem.rep) (w.heap.size + 3) wr [v] (x.items.take k) ∧ Below w.heap.size w wr) (fun i _ => x.items.length - (intOf i).toNat)
  case atStart => exact ⟨0, .slice none 0 0, by omega, rfl, ((WB.at rfl).growA).growA, (WB.at (by simp)).growA, WB.at (by simp), by rw [List.take_zero]; exact Fresh.nil, (by repeat (first | with_reducible exact belR | with_reducible apply belA | (with_reducible refine belS ?_ ?_; focus (first | omega | (simp; done) | (simp; omega))) | with_reducible apply belN | with_reducible apply belD | with_reducible assumption))⟩
  case round =>
    obtain ⟨k, v, hk, rfl, hx, ht, ho, hf, hb⟩ := hrel
    obtain ⟨bo, cap, rfl⟩ := hf.slice
    have hlk : (x.items.take k).length = k := by rw [List.length_take]; omega
    rw [hlk] at ho hf
    have HX := Lib.hid hx
    have HT := Lib.hid ht
    have HO := Lib.hid ho
    have HF := Lib.hid hf
    have HB := Lib.hid hb
    clear hx ht ho hf hb
    have ⟨c_HX, z_HX, f_HX⟩ := HX.out
    have ⟨c_HO, z_HO, f_HO⟩ := HO.out
    by_cases hlt : k < x.items.length
    · obtain ⟨b, off, cs_b, rfl, hw_b, hr_b, hcell_b⟩ := slice_at (q_K1.out.below HB.out) k hlt
      obtain ⟨fe_b, hrd_b⟩ := hr_b
      have HR_b : Hid (Reads DItem.rep wr cs_b x.items[k]) := ⟨_, hrd_b⟩
      obtain ⟨b_v1, b_f1, rfl, _, b_s0, b_r1⟩ := DItem.rd.1 hrd_b
      obtain ⟨b_a1, b_k1, rfl, _⟩ := slice_open b_r1
      have b_R1 : Hid (Reads (Rep.slice 156 DField.rep) wr [.slice b_a1 x.items[k].record.fields.length b_k1] x.items[k].record.fields) := ⟨_, b_r1⟩
      clear b_r1
      clear hrd_b
      have b_c0 : wr.cell? ⟨b, off + k * 4, none⟩ = some (.int .i64 x.items[k].key.kind) := hcell_b 0 (by decide)
      have b_c1 : wr.cell? ⟨b, off + k * 4 + 1, none⟩ = some (.int .i64 x.items[k].key.n) := hcell_b 1 (by decide)
      have b_c2 : wr.cell? ⟨b, off + k * 4 + 2, none⟩ = some (.string x.items[k].key.text) := hcell_b 2 (by decide)
      have b_c3 : wr.cell? ⟨b, off + k * 4 + 3, none⟩ = some (.slice b_a1 x.items[k].record.fields.length b_k1) := hcell_b 3 (by decide)
      clear hcell_b
      have i1 : (0 : Int) ≤ (k : Int) := by omega
      have i2 : (k : Int) < (x.items.length : Int) := by omega
      have hfl := HSF.out x.items[k] (List.getElem_mem hlt)
      have hzr : w.heap.size + 3 ≤ wr.heap.size := by have := z_HO; omega
      go_wp2_with fail
      refine settle (fun W => WB W wr.heap.size #[.int .i64 x.items[k].key.kind, .int .i64 x.items[k].key.n, .string x.items[k].key.text, .slice b_a1 x.items[k].record.fields.length b_k1] ∧ Below wr.heap.size wr W) ⟨WB.at rfl, (by repeat (first | with_reducible exact belR | with_reducible apply belA | (with_reducible refine belS ?_ ?_; focus (first | omega | (simp; done) | (simp; omega))) | with_reducible apply belN | with_reducible apply belD | with_reducible assumption))⟩ ?_
      rintro wx ⟨hy, hb⟩
      have HY := Lib.hid hy
      clear hy
      clear c_HX z_HX f_HX c_HO z_HO f_HO
      replace HR_b := Lib.hid (HR_b.out.below hb)
      have hfx : wr.heap.size < wx.heap.size := HY.out.lt
      replace HX := Lib.hid (HX.out.keep hb)
      replace HT := Lib.hid (HT.out.keep hb)
      replace HO := Lib.hid (HO.out.keep hb)
      replace HF := Lib.hid (HF.out.below hb)
      replace HB := Lib.hid (HB.out.trans (hb.mono HB.out.size))
      clear hb b_c0 b_c1 b_c2 b_c3
      have ⟨c_HO, z_HO, f_HO⟩ := HO.out
      have ⟨c_HY, z_HY, f_HY⟩ := HY.out
      go_region_law (first
        | (go_simp; go_at_call 101; refine (implCopyItem _ x.items[k] _ (HR_b.out.below (by first | exact belR | exact belD belR)) hfl).mono ?_; rintro e w2 ⟨ds, rfl, hf2, hb2⟩; obtain ⟨a2, c2, rfl⟩ := DItem.fshape hf2; have hq2 : Below wx.heap.size wx w2 := (Below.trans (by repeat (first | with_reducible exact belR | (with_reducible refine belAB ?_ ?_; focus (first | omega | (simp; done) | (simp; omega))) | (with_reducible refine belS ?_ ?_; focus (first | omega | (simp; done) | (simp; omega))) | with_reducible apply belN | with_reducible apply belD | with_reducible assumption)) (hb2.mono (by first | omega | (simp; done) | (simp; omega)))); have hwo := HO.out.keep hq2; have ⟨co', zo', fo'⟩ := hwo; have hsz2 := hq2.size)
        | ((refine step_pushN w2 _ (by rfl) _ _ 40 40 (by rfl) DItem.rep (w.heap.size + 3) wx.heap.size 134 i0 _ _ Tryz.underlying40 Tryz.underlying40 hi hz0 hz1 hz2 rfl (.slice bo k cap) (x.items.take k) (by rfl) (Part.below (Fresh.partAt HF.out (Nat.le_refl _)) hq2) (by first | exact belA belR | exact belA (belD belR) | exact belD (belA belR)) x.items[k] [.int .i64 x.items[k].key.kind, .int .i64 x.items[k].key.n, .string x.items[k].key.text, .slice a2 x.items[k].record.fields.length c2] _ (by rfl) (hf2.mono (by first | exact Nat.le_refl _ | omega)) (news_at rfl) (by rw [hlk]; omega) (by decide) (by omega) (by omega) ?_; intro ao3 cap3 w3 hf3 hb3 hsz3; have hb4 : Below (w.heap.size + 3) w2 w3 := Below.trans (by repeat (first | with_reducible exact belR | (with_reducible refine belAB ?_ ?_; focus (first | omega | (simp; done) | (simp; omega))) | (with_reducible refine belS ?_ ?_; focus (first | omega | (simp; done) | (simp; omega))) | with_reducible apply belN | with_reducible apply belD | with_reducible assumption)) hb3; have ⟨co3, zo3, fo3⟩ := HO.out.grow ((hq2.mono (by omega)).trans hb4) (by omega))))
      all_goals
        rw [hlk] at *
        have hb5 : Below (w.heap.size + 3) wx w3 := (hq2.mono (by omega)).trans hb4
        have HE := Lib.hid (show x.items.take k ++ [x.items[k]] = x.items.take (k + 1) from (List.take_succ_eq_append_getElem hlt).symm)
        rw [HE.out] at hf3
        have HX3 := Lib.hid (HX.out.grow hb5 (by omega))
        have HT3 := Lib.hid (HT.out.grow hb5 (by omega))
        have HO3 := Lib.hid (HO.out.grow hb5 (by omega))
        have HF3 := Lib.hid hf3
        have HB3 : Hid (Below w.heap.size w w3) := Lib.hid (HB.out.trans (hb5.mono (by omega)))
        clear hf3 hb3 hb4 hb5 hq2 hb2 hf2
        go_wp2
        go_light
        exact ⟨⟨k + 1, _, by omega, by go_num, HX3.out.setOther (by omega), HT3.out.setOther (by omega), HO3.out.setAt (by simp) rfl, HF3.out.setLow (by omega), by have y := HB3.out; exact (by repeat (first | with_reducible exact belR | (with_reducible refine belAB ?_ ?_; focus (first | omega | (simp; done) | (simp; omega))) | (with_reducible refine belS ?_ ?_; focus (first | omega | (simp; done) | (simp; omega))) | with_reducible apply belN | with_reducible apply belD | with_reducible assumption))⟩, by simp [intOf]; omega⟩
    · have e := Lib.hid (show x.items.take k = x.items by rw [List.take_of_length_le (by omega)])
      have hkl : k = x.items.length := by omega
      subst hkl
      have ⟨c_HT, z_HT, f_HT⟩ := HT.out
      go_wp2
      refine bodyPost_ret (v := .agg #[.string x.name, .slice bo x.items.length cap, .int .i64 x.auto]) (by simp [results, Tryz.results75, go_sem, c_HT]) rfl ⟨_, rfl, ?_, ?_⟩
      · have y := HF.out
        rw [e.out] at y
        exact DStore.fmk (x := x) (Fresh.mono (B := w.heap.size + 3) (by repeat (first | exact y | refine Fresh.setLow ?_ (by omega) | refine Fresh.drew ?_)) (by omega)) q_s0
      · have y := HB.out
        exact (by repeat (first | with_reducible exact belR | (with_reducible refine belAB ?_ ?_; focus (first | omega | (simp; done) | (simp; omega))) | (with_reducible refine belS ?_ ?_; focus (first | omega | (simp; done) | (simp; omega))) | with_reducible apply belN | with_reducible apply belD | with_reducible assumption))

set_option maxRecDepth 100000 in
set_option maxHeartbeats 8000000 in
theorem specCopyStore (cs : List Value) (x : DStore) (w : World) (h : Reads DStore.rep w cs x) (hs : SmallStore x) :
    Calls Tryz.prog 66 #[.agg cs.toArray] w fun e w' => ∃ ds, e = .returned (.agg ds.toArray) ∧ Fresh DStore.rep w.heap.size w' ds x ∧ Below w.heap.size w w' := by
  obtain ⟨fp_q, h⟩ := h
  obtain ⟨q_v1, q_f1, rfl, _, q_s0, q_r1⟩ := DStore.rd.1 h
  obtain ⟨q_a1, q_c1, rfl, q_hm1, q_lc1, q_hu1⟩ := slice_open q_r1; clear q_hu1
  have q_K1 : Hid (Reads (Rep.slice 134 DItem.rep) w [.slice q_a1 x.items.length q_c1] x.items) := ⟨_, q_r1⟩
  clear q_r1 h
  have hsl := hs.items
  have HSF := Lib.hid hs.fields
  clear hs
  obtain ⟨i0, hi, hz0, hz1, hz2⟩ := info_parts infoItem
  go_enter Tryz.func66, Tryz.ntmps66
  go_wp2
  go_loopw [4] (fun i wr => ∃ (k : Nat) (v : Value), k ≤ x.items.length ∧ i = .int .i64 k ∧ WB wr w.heap.size #[.string x.name, .slice q_a1 x.items.length q_c1, .int .i64 x.auto] ∧ WB wr (w.heap.size + 1) #[.string ⟨#[]⟩, .slice none 0 0, .int .i64 0] ∧ WB wr (w.heap.size + 2) #[.string x.name, v, .int .i64 x.auto] ∧ Fresh (Rep.slice 134 DItem.rep) (w.heap.size + 3) wr [v] (x.items.take k) ∧ Below w.heap.size w wr) (fun i _ => x.items.length - (intOf i).toNat)
  case atStart => exact ⟨0, .slice none 0 0, by omega, rfl, ((WB.at rfl).growA).growA, (WB.at (by simp)).growA, WB.at (by simp), by rw [List.take_zero]; exact Fresh.nil, (by repeat (first | with_reducible exact belR | with_reducible apply belA | (with_reducible refine belS ?_ ?_; focus (first | omega | (simp; done) | (simp; omega))) | with_reducible apply belN | with_reducible apply belD | with_reducible assumption))⟩
  case round =>
    obtain ⟨k, v, hk, rfl, hx, ht, ho, hf, hb⟩ := hrel
    obtain ⟨bo, cap, rfl⟩ := hf.slice
    have hlk : (x.items.take k).length = k := by rw [List.length_take]; omega
    rw [hlk] at ho hf
    have HX := Lib.hid hx
    have HT := Lib.hid ht
    have HO := Lib.hid ho
    have HF := Lib.hid hf
    have HB := Lib.hid hb
    clear hx ht ho hf hb
    have ⟨c_HX, z_HX, f_HX⟩ := HX.out
    have ⟨c_HO, z_HO, f_HO⟩ := HO.out
    by_cases hlt : k < x.items.length
    · obtain ⟨b, off, cs_b, rfl, hw_b, hr_b, hcell_b⟩ := slice_at (q_K1.out.below HB.out) k hlt
      obtain ⟨fe_b, hrd_b⟩ := hr_b
      have HR_b : Hid (Reads DItem.rep wr cs_b x.items[k]) := ⟨_, hrd_b⟩
      obtain ⟨b_v1, b_f1, rfl, _, b_s0, b_r1⟩ := DItem.rd.1 hrd_b
      obtain ⟨b_a1, b_k1, rfl, _⟩ := slice_open b_r1
      have b_R1 : Hid (Reads (Rep.slice 156 DField.rep) wr [.slice b_a1 x.items[k].record.fields.length b_k1] x.items[k].record.fields) := ⟨_, b_r1⟩
      clear b_r1
      clear hrd_b
      have b_c0 : wr.cell? ⟨b, off + k * 4, none⟩ = some (.int .i64 x.items[k].key.kind) := hcell_b 0 (by decide)
      have b_c1 : wr.cell? ⟨b, off + k * 4 + 1, none⟩ = some (.int .i64 x.items[k].key.n) := hcell_b 1 (by decide)
      have b_c2 : wr.cell? ⟨b, off + k * 4 + 2, none⟩ = some (.string x.items[k].key.text) := hcell_b 2 (by decide)
      have b_c3 : wr.cell? ⟨b, off + k * 4 + 3, none⟩ = some (.slice b_a1 x.items[k].record.fields.length b_k1) := hcell_b 3 (by decide)
      clear hcell_b
      have i1 : (0 : Int) ≤ (k : Int) := by omega
      have i2 : (k : Int) < (x.items.length : Int) := by omega
      have hfl := HSF.out x.items[k] (List.getElem_mem hlt)
      have hzr : w.heap.size + 3 ≤ wr.heap.size := by have := z_HO; omega
      go_wp2_with fail
      obtain ⟨wx, hwx⟩ : ∃ wx, wx = wr := ⟨_, rfl⟩
      subst hwx
      go_region_law (first
        | (go_simp; go_at_call 94; refine (specCopyItem _ x.items[k] _ (HR_b.out.below (by first | exact belR | exact belD belR)) hfl).mono ?_; rintro e w2 ⟨ds, rfl, hf2, hb2⟩; obtain ⟨a2, c2, rfl⟩ := DItem.fshape hf2; have hq2 : Below wx.heap.size wx w2 := (Below.trans (by repeat (first | with_reducible exact belR | (with_reducible refine belAB ?_ ?_; focus (first | omega | (simp; done) | (simp; omega))) | (with_reducible refine belS ?_ ?_; focus (first | omega | (simp; done) | (simp; omega))) | with_reducible apply belN | with_reducible apply belD | with_reducible assumption)) (hb2.mono (by first | omega | (simp; done) | (simp; omega)))); have hwo := HO.out.keep hq2; have ⟨co', zo', fo'⟩ := hwo; have hsz2 := hq2.size; have hwx' := HX.out.keep hq2; have ⟨cx', zx', fx'⟩ := hwx'; have e0' := (hq2.cell (p := ⟨b, off + k * 4, none⟩) (block_lt_of_cell b_c0)).trans b_c0; have e1' := (hq2.cell (p := ⟨b, off + k * 4 + 1, none⟩) (block_lt_of_cell b_c1)).trans b_c1; have e2' := (hq2.cell (p := ⟨b, off + k * 4 + 2, none⟩) (block_lt_of_cell b_c2)).trans b_c2; have e3' := (hq2.cell (p := ⟨b, off + k * 4 + 3, none⟩) (block_lt_of_cell b_c3)).trans b_c3)
        | ((refine step_pushN w2 _ (by rfl) _ _ 40 40 (by rfl) DItem.rep (w.heap.size + 3) wx.heap.size 134 i0 _ _ Tryz.underlying40 Tryz.underlying40 hi hz0 hz1 hz2 rfl (.slice bo k cap) (x.items.take k) (by rfl) (Part.below (Fresh.partAt HF.out (Nat.le_refl _)) hq2) (by first | exact belA belR | exact belA (belD belR) | exact belD (belA belR)) x.items[k] [.int .i64 x.items[k].key.kind, .int .i64 x.items[k].key.n, .string x.items[k].key.text, .slice a2 x.items[k].record.fields.length c2] _ (by rfl) (hf2.mono (by first | exact Nat.le_refl _ | omega)) (news_at rfl) (by rw [hlk]; omega) (by decide) (by omega) (by omega) ?_; intro ao3 cap3 w3 hf3 hb3 hsz3; have hb4 : Below (w.heap.size + 3) w2 w3 := Below.trans (by repeat (first | with_reducible exact belR | (with_reducible refine belAB ?_ ?_; focus (first | omega | (simp; done) | (simp; omega))) | (with_reducible refine belS ?_ ?_; focus (first | omega | (simp; done) | (simp; omega))) | with_reducible apply belN | with_reducible apply belD | with_reducible assumption)) hb3; have ⟨co3, zo3, fo3⟩ := HO.out.grow ((hq2.mono (by omega)).trans hb4) (by omega))))
      all_goals
        rw [hlk] at *
        have hb5 : Below (w.heap.size + 3) wx w3 := (hq2.mono (by omega)).trans hb4
        have HE := Lib.hid (show x.items.take k ++ [x.items[k]] = x.items.take (k + 1) from (List.take_succ_eq_append_getElem hlt).symm)
        rw [HE.out] at hf3
        have HX3 := Lib.hid (HX.out.grow hb5 (by omega))
        have HT3 := Lib.hid (HT.out.grow hb5 (by omega))
        have HO3 := Lib.hid (HO.out.grow hb5 (by omega))
        have HF3 := Lib.hid hf3
        have HB3 : Hid (Below w.heap.size w w3) := Lib.hid (HB.out.trans (hb5.mono (by omega)))
        clear hf3 hb3 hb4 hb5 hq2 hb2 hf2
        go_wp2
        go_light
        exact ⟨⟨k + 1, _, by omega, by go_num, HX3.out.setOther (by omega), HT3.out.setOther (by omega), HO3.out.setAt (by simp) rfl, HF3.out.setLow (by omega), by have y := HB3.out; exact (by repeat (first | with_reducible exact belR | (with_reducible refine belAB ?_ ?_; focus (first | omega | (simp; done) | (simp; omega))) | (with_reducible refine belS ?_ ?_; focus (first | omega | (simp; done) | (simp; omega))) | with_reducible apply belN | with_reducible apply belD | with_reducible assumption))⟩, by simp [intOf]; omega⟩
    · have e := Lib.hid (show x.items.take k = x.items by rw [List.take_of_length_le (by omega)])
      have hkl : k = x.items.length := by omega
      subst hkl
      have ⟨c_HT, z_HT, f_HT⟩ := HT.out
      go_wp2
      refine bodyPost_ret (v := .agg #[.string x.name, .slice bo x.items.length cap, .int .i64 x.auto]) (by simp [results, Tryz.results66, go_sem, c_HT]) rfl ⟨_, rfl, ?_, ?_⟩
      · have y := HF.out
        rw [e.out] at y
        exact DStore.fmk (x := x) (Fresh.mono (B := w.heap.size + 3) (by repeat (first | exact y | refine Fresh.setLow ?_ (by omega) | refine Fresh.drew ?_)) (by omega)) q_s0
      · have y := HB.out
        exact (by repeat (first | with_reducible exact belR | (with_reducible refine belAB ?_ ?_; focus (first | omega | (simp; done) | (simp; omega))) | (with_reducible refine belS ?_ ?_; focus (first | omega | (simp; done) | (simp; omega))) | with_reducible apply belN | with_reducible apply belD | with_reducible assumption))

end Go.Proofs.YtgicglmcapnogaaGreat
