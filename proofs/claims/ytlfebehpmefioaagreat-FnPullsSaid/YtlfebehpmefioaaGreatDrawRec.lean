/-
 The draw of any record: what is drawn is small.
-/
import Derived.Test.YtlfebehpmefioaaGreatDrawFam
namespace Go.Proofs.YtlfebehpmefioaaGreat
open Go.RowKit

theorem lit_off {α : Type} {R : Rep α} {enc : α → List Value} {ok : α → Prop} (hF : FlatR R enc ok) {E : TypeId} {k : Kur} {w : World} {us : List α} {xs : Array Value} {n kb : Nat} (hkb : kb = w.heap.size) (hk : k.k < w.heap.size) (hx : xs.toList = us.flatMap enc) (hn : n = us.length) (hm : us.length ≤ maxLen) (hok : ∀ x ∈ us, ok x) :
  ReadsOff (Rep.slice E R) k (w.alloc (.cells xs E)) [.slice (some ⟨kb, 0, none⟩) n n] us := Fresh.off (lit_fresh hF hx hn hm hok hkb) (by omega)
theorem ReadsOff.below {α : Type} {R : Rep α} {k : Kur} {w w' : World} {cs : List Value} {x : α} (h : ReadsOff R k w cs x) (hb : Below w.heap.size w w') : ReadsOff R k w' cs x := by
 obtain ⟨fp, h, hn⟩ := h
 exact ⟨fp, Rep.frame _ h fun b hb' => hb.block b (Rep.lt _ h b hb'), hn⟩

def anyNames : List ByteArray := [⟨#[]⟩, ⟨#[65]⟩, ⟨#[122, 122, 122, 122, 122, 122, 122, 122, 122]⟩, ⟨#[122]⟩, ⟨#[97]⟩]
def moreNames : List ByteArray := [⟨#[100]⟩, ⟨#[101]⟩, ⟨#[102]⟩, ⟨#[103]⟩, ⟨#[104]⟩, ⟨#[105]⟩]
theorem any_names {x : ByteArray} (h : x ∈ anyNames) : x.size ≤ 20 := by
 unfold anyNames at h
 simp only [List.mem_cons, List.not_mem_nil, or_false] at h
 rcases h with rfl | rfl | rfl | rfl | rfl <;> decide
set_option maxRecDepth 100000 in
set_option maxHeartbeats 1000000 in
theorem specAnyRecord (k : Kur) (w : World) (h : Cur w k) : Calls Tryz.prog 128 #[.pointer (some ⟨k.k, 0, none⟩)] w fun e w' => ∃ ds : List Value, e = .returned (.agg ds.toArray) ∧ ∃ x : DRecord, Fresh DRecord.rep w.heap.size w' ds x ∧ x.fields.length ≤ 10 ∧ Mov k w w' := by
 have hk := h.lt
 obtain ⟨i0, hi, hz0, hz8, hz9⟩ := info_parts infoField
 go_enter Tryz.func128, Tryz.ntmps128
 go_wp2_with fail
 refine (specDrawRecord k _ (h.below bEl)).mono ?_
 rintro e w1 ⟨ds, rfl, x, hf, hr, hm⟩
 obtain ⟨a1, c1, rfl, hg⟩ := DRecord.fopen hf
 clear hf
 have HR := Lib.hid hr
 have hl : x.fields.length ≤ 6 := isRecord_len hr
 have HT : Hid (WB w1 w.heap.size #[.slice none 0 0]) := Lib.hid ((WB.at rfl).mov hm (by omega))
 have HM : Hid (Mov k w w1) := Lib.hid (Mov.belowL bEl hm)
 have hN := hg.ownlt
 have HF : Hid (Fresh (Rep.slice 112 DField.rep) (w.heap.size + 1) w1 [.slice a1 x.fields.length c1] x.fields) := Lib.hid (hg.mono (by simp))
 have hz1 := HT.out.lt
 clear hg hm hr
 go_upto_region 2 with fail
 refine settle (fun W => ∃ kb, kb = w1.heap.size ∧ kb ∉ (Value.slice a1 x.fields.length c1).ownBlock.toList ∧ WB W kb #[.slice a1 x.fields.length c1] ∧ WB W w.heap.size #[.slice none 0 0] ∧ Fresh (Rep.slice 112 DField.rep) (w.heap.size + 1) W [.slice a1 x.fields.length c1] x.fields ∧ Mov k w W) ⟨_, rfl, fun hm => by have := hN _ hm; omega, WB.at rfl, HT.out.growA, HF.out.below (belA belR), HM.out.below bEl⟩ ?_
 clear HT HF HM hN
 rintro w3 ⟨kb, hkb, hn, hx, ht, hf, hm⟩
 have hkk : w.heap.size < kb ∧ k.k < kb := by omega
 rw [← hkb]
 have HX := Lib.hid hx
 have HN := Lib.hid hn
 have HT := Lib.hid ht
 have HF := Lib.hid hf
 have HM := Lib.hid hm
 clear hx hn ht hf hm hkb hz1
 go_wp2_with fail
 refine (specBelow k _ _ HM.out.cur).mono ?_
 rintro e w4 ⟨b, rfl, _, _, hm⟩
 have hkz := HX.out.lt
 replace HX := Lib.hid (HX.out.mov hm (by omega))
 replace HT := Lib.hid (HT.out.mov hm (by omega))
 replace HF := Lib.hid (HF.out.mov hm (by omega))
 replace HM := Lib.hid (HM.out.trans hm)
 clear hm
 have hkz4 := HX.out.lt
 cases n0 : (b == 0)
 case' false => cases n1 : (b == 1)
 case false.false =>
  have ⟨c_HX, z_HX, f_HX⟩ := HX.out
  have ⟨c_HT, z_HT, f_HT⟩ := HT.out
  go_wp2
  exact bodyPost_ret (v := .agg #[.slice a1 x.fields.length c1]) (by simp [results, Tryz.results128, go_sem, c_HT]) rfl ⟨_, rfl, x, DRecord.fmk (Fresh.mono (B := w.heap.size + 1) (by repeat (first | with_reducible exact HF.out | with_reducible refine Fresh.setLow ?_ (by omega))) (by omega)), by omega, HM.out.low (B := w.heap.size) bEb (Nat.le_refl _) hk⟩
 case true =>
  have hown : Hid (∀ b ∈ (Value.slice a1 x.fields.length c1).ownBlock.toList, w.heap.size + 1 ≤ b) := Lib.hid fun b hb => (HF.out.ownlt b hb).1
  go_upto_region 4 with fail
  refine wp_region_mvf k (Value.slice a1 x.fields.length c1).ownBlock.toList [12] (by kernel_rfl) ?_
  intro wd hbd
  have hwz := hbd.size
  replace HX := Lib.hid (HX.out.keep hbd)
  replace HT := Lib.hid (HT.out.keep hbd)
  replace HF := Lib.hid (HF.out.below hbd)
  replace HM := Lib.hid (HM.out.below hbd)
  clear hbd
  have hne : Nonempty (MovedF k (Value.slice a1 x.fields.length c1).ownBlock.toList wd) := ⟨⟨wd, MovF.of (Mov.refl HM.out.cur)⟩⟩
  have KX := mvf_var (k := k) (fp := (Value.slice a1 x.fields.length c1).ownBlock.toList) HX.out (by omega) HN.out
  refine wpU_group (fun _ _ _ _ _ h => h) (by kernel_rfl) (mvf_of (MovF.of (Mov.refl HM.out.cur))) [0,1,2,5] _ _ _ rfl (by kernel_rfl) ?_
  repeat (go_big_quiet_step (fail))
  refine wpQuiet_nil ?_
  clear KX
  have hkd := HM.out.cur.lt
  have m1 : Mov k wd (wd.alloc (.cells #[.string ⟨#[]⟩, .string ⟨#[65]⟩, .string ⟨#[122, 122, 122, 122, 122, 122, 122, 122, 122]⟩, .string ⟨#[122]⟩, .string ⟨#[97]⟩] 9)) := Mov.below (Mov.refl HM.out.cur) (belA belR)
  have m2 : Mov k wd (wd.alloc (.cells #[.int .i64 0, .int .i64 (-1), .int .i64 1000000000, .int .i64 1000000001] 3)) := Mov.below (Mov.refl HM.out.cur) (belA belR)
  refine wpU_two 3 6 rfl rfl (by kernel_rfl) ?ta ?tb
  case' ta =>
   go_wp2_with fail
   refine HardPost.mk (mvf_of (MovF.of m1)) ?_
   have r1 := lit_off FlatR.str (E := 9) (us := anyNames) (k := k) (w := wd) rfl hkd rfl rfl (by decide) (fun x hx => by have := any_names hx; unfold maxLen; omega)
   refine wpU_two 4 6 rfl rfl (by kernel_rfl) ?taa ?tab
  case' taa =>
   go_wp2_with fail
   refine (specDrawStr k _ anyNames _ m1.cur r1 (by decide)).mono ?_
   rintro e w5 ⟨f, rfl, hf5, hm5⟩
   have mm5 := m1.trans hm5
   go_wp2_with fail
   refine HardPost.mk (mvf_of (MovF.of mm5)) ?_
   refine wpU_one 6 rfl (by kernel_rfl) ?_
   go_wp2_with fail
   have mm6 := mm5.below (c := w5.alloc (.cells #[.int .i64 0, .int .i64 (-1), .int .i64 1000000000, .int .i64 1000000001] 3)) (belA belR)
   refine HardPost.mk (mvf_of (MovF.of mm6)) ?_
   have hro := lit_off FlatR.int (E := 3) (us := [0, -1, 1000000000, 1000000001]) (k := k) (w := w5) rfl mm5.cur.lt rfl rfl (by decide) (fun _ _ => trivial)
  case' tab =>
   go_wp2_with fail
   have m3 := m1.below (c := (wd.alloc (.cells #[.string ⟨#[]⟩, .string ⟨#[65]⟩, .string ⟨#[122, 122, 122, 122, 122, 122, 122, 122, 122]⟩, .string ⟨#[122]⟩, .string ⟨#[97]⟩] 9)).alloc (.cells #[.int .i64 0, .int .i64 (-1), .int .i64 1000000000, .int .i64 1000000001] 3)) (belA belR)
   refine HardPost.mk (mvf_of (MovF.of m3)) ?_
   have r2 := lit_off FlatR.int (E := 3) (us := [0, -1, 1000000000, 1000000001]) (k := k) (w := wd.alloc (.cells #[.string ⟨#[]⟩, .string ⟨#[65]⟩, .string ⟨#[122, 122, 122, 122, 122, 122, 122, 122, 122]⟩, .string ⟨#[122]⟩, .string ⟨#[97]⟩] 9)) (kb := wd.heap.size + 1) (by simp) m1.cur.lt rfl rfl (by decide) (fun _ _ => trivial)
   refine wpU_one 4 rfl (by kernel_rfl) ?_
   go_wp2_with fail
   refine (specDrawStr k _ anyNames _ m3.cur (r1.below (belA belR)) (by decide)).mono ?_
   rintro e w5 ⟨f, rfl, hf5, hm5⟩
   have mm6 := m3.trans hm5
   go_wp2_with fail
   refine HardPost.mk (mvf_of (MovF.of mm6)) ?_
   have hro := r2.mov hm5
  case' tb =>
   go_wp2_with fail
   refine HardPost.mk (mvf_of (MovF.of m2)) ?_
   have r2 := lit_off FlatR.int (E := 3) (us := [0, -1, 1000000000, 1000000001]) (k := k) (w := wd) rfl hkd rfl rfl (by decide) (fun _ _ => trivial)
   refine wpU_one 3 rfl (by kernel_rfl) ?_
   go_wp2_with fail
   have m3 := m2.below (c := (wd.alloc (.cells #[.int .i64 0, .int .i64 (-1), .int .i64 1000000000, .int .i64 1000000001] 3)).alloc (.cells #[.string ⟨#[]⟩, .string ⟨#[65]⟩, .string ⟨#[122, 122, 122, 122, 122, 122, 122, 122, 122]⟩, .string ⟨#[122]⟩, .string ⟨#[97]⟩] 9)) (belA belR)
   refine HardPost.mk (mvf_of (MovF.of m3)) ?_
   have r1 := lit_off FlatR.str (E := 9) (us := anyNames) (k := k) (w := wd.alloc (.cells #[.int .i64 0, .int .i64 (-1), .int .i64 1000000000, .int .i64 1000000001] 3)) (kb := wd.heap.size + 1) (by simp) m2.cur.lt rfl rfl (by decide) (fun x hx => by have := any_names hx; unfold maxLen; omega)
   refine wpU_one 4 rfl (by kernel_rfl) ?_
   go_wp2_with fail
   refine (specDrawStr k _ anyNames _ m3.cur r1 (by decide)).mono ?_
   rintro e w5 ⟨f, rfl, hf5, hm5⟩
   have mm6 := m3.trans hm5
   go_wp2_with fail
   refine HardPost.mk (mvf_of (MovF.of mm6)) ?_
   have hro := (r2.below (belA belR)).mov hm5
  all_goals
   have hfs := any_names hf5
   refine wpU_one 7 rfl (by kernel_rfl) ?_
   go_wp2_with fail
   refine (specDrawInt k _ [0, -1, 1000000000, 1000000001] _ mm6.cur hro (by decide)).mono ?_
   rintro e w7 ⟨v, rfl, _, hm7⟩
   have mm7 := mm6.trans hm7
   go_wp2_with fail
   refine HardPost.mk (mvf_of (MovF.of mm7)) ?_
   refine wpU_group (fun _ _ _ _ _ h => h) (by kernel_rfl) (mvf_of (MovF.of mm7)) [8] _ _ _ rfl (by kernel_rfl) ?_
   repeat (go_big_quiet_step (fail))
   refine wpQuiet_nil ?_
   refine wpU_one 9 rfl (by kernel_rfl) ?_
   go_wp2_with fail
   refine HardPost.mk (mvf_of ((MovF.of mm7).below (belA belR))) ?_
   refine wpU_one 10 rfl (by kernel_rfl) ?_
   have hz6 := mm7.size
   refine wpList_pushC _ rfl _ _ 67 67 rfl DField.flat (w.heap.size + 1) 112 i0 _ _ Tryz.underlying67 Tryz.underlying67 hi hz0 hz8 hz9 rfl (.slice a1 x.fields.length c1) x.fields rfl (HF.out.mov mm7 (by omega)) (⟨f, v⟩ : DField) _ _ _ rfl rfl rfl (by show f.size ≤ maxLen; unfold maxLen; omega) (by omega) (by decide) (by omega) ?_
   intro ao2 cap2 w8 hf7 hg7 hnew7
   go_wp2_with fail
   have mf7 := ((MovF.of mm7).below (belA belR)).chg (Chg.of_grown hg7) (fun b hb => by have := hown.out b hb; omega)
   refine HardPost.mk (mvf_of mf7) ?_
   refine wpU_group (fun _ _ _ _ _ h => h) (by kernel_rfl) (mvf_of mf7) [11] _ _ _ rfl (by kernel_rfl) ?_
   repeat (go_big_quiet_step (fail))
   refine wpQuiet_nil ?_
   have HX7 := Lib.hid (HX.out.chg mf7.1 (by have := HN.out; simp; exact ⟨by omega, by simpa using this⟩))
   have HT7 := Lib.hid (HT.out.chg mf7.1 (by simp; exact ⟨by omega, fun hm => by have := hown.out _ (by simpa using hm); omega⟩))
   have hn7 : kb ∉ (Value.slice ao2 (x.fields.length + 1) cap2).ownBlock.toList := fun hm => by
    rcases hnew7 kb (by simpa using hm) with e | e
    ·exact HN.out (by simp [e])
    ·have := HX.out.lt
     omega
   have HM7 := Lib.hid (mf7.low HM.out (fun b hb => by have := hown.out b hb; omega))
   have HN7 := Lib.hid hn7
   have HF7 := Lib.hid hf7
   have HLL : Hid ((x.fields ++ [(⟨f, v⟩ : DField)]).length = x.fields.length + 1) := Lib.hid (by simp)
   clear hf7 hg7 hnew7 hn7 mf7
   have ⟨c_HX7, z_HX7, f_HX7⟩ := HX7.out
   refine wpU_tail [12] _ _ _ _ rfl (by kernel_rfl) ?_
   go_wp2_with fail
   refine NoPanic.normal ?_
   clear c_HX7 z_HX7 f_HX7
   go_upto_region 11 with fail
   refine settle (fun W => ∃ (y : DRecord) (a4 : Option Addr) (c4 : Nat), y.fields.length ≤ 10 ∧ WB W kb #[.slice a4 y.fields.length c4] ∧ WB W w.heap.size #[.slice none 0 0] ∧ Fresh (Rep.slice 112 DField.rep) (w.heap.size + 1) W [.slice a4 y.fields.length c4] y.fields ∧ Mov k w W) ⟨⟨x.fields ++ [⟨f, v⟩]⟩, ao2, cap2, by show (x.fields ++ [(⟨f, v⟩ : DField)]).length ≤ 10; rw [HLL.out]; omega, by rw [HLL.out]; exact HX7.out.setAt (i := 0) (by simp) rfl, HT7.out.setOther (by omega), by rw [HLL.out]; exact DField.flat.setApart HF7.out HN7.out, HM7.out.low (B := w.heap.size) bEb (Nat.le_refl _) hk⟩ ?_
   clear HX HT HF HM HN HX7 HT7 HM7 HF7 HLL HN7 hown hro mm6 mm7 hm7 hz6 hne m1 m2 hkd HR hf5 hm5
   rintro w9 ⟨y, a4, c4, hly, hx, ht, hf, hm⟩
   have HX := Lib.hid hx
   have HT := Lib.hid ht
   have HF := Lib.hid hf
   have HM := Lib.hid hm
   clear hx ht hf hm
   have hkz9 := HX.out.lt
   have ⟨c_HX, z_HX, f_HX⟩ := HX.out
   have ⟨c_HT, z_HT, f_HT⟩ := HT.out
   go_wp2
   exact bodyPost_ret (v := .agg #[.slice a4 y.fields.length c4]) (by simp [results, Tryz.results128, go_sem, c_HT]) rfl ⟨_, rfl, y, DRecord.fmk (Fresh.mono (B := w.heap.size + 1) (by repeat (first | with_reducible exact HF.out | with_reducible refine Fresh.setLow ?_ (by omega))) (by omega)), hly, HM.out.low (B := w.heap.size) bEb (Nat.le_refl _) hk⟩
 case false.true =>
  have HG : Hid (Fresh DRecord.rep (w.heap.size + 1) w4 [.slice a1 x.fields.length c1] x) := Lib.hid (DRecord.fmk HF.out)
  clear HF HN hl
  go_wp2
  refine settle (fun W => ∃ kl, kl = w4.heap.size ∧ WB W kl #[.string ⟨#[100]⟩, .string ⟨#[101]⟩, .string ⟨#[102]⟩, .string ⟨#[103]⟩, .string ⟨#[104]⟩, .string ⟨#[105]⟩] ∧ WB W kb #[.slice a1 x.fields.length c1] ∧ WB W w.heap.size #[.slice none 0 0] ∧ Fresh DRecord.rep (w.heap.size + 1) W [.slice a1 x.fields.length c1] x ∧ Mov k w W) ⟨_, rfl, WB.at rfl, HX.out.growA, HT.out.growA, HG.out.below (belA belR), HM.out.below bEl⟩ ?_
  clear HX HT HG HM
  rintro w5 ⟨kl, hkl, hl, hx, ht, hg, hm⟩
  rw [← hkl]
  have hkl2 : kb < kl := by omega
  have HL := Lib.hid hl
  have HX := Lib.hid hx
  have HT := Lib.hid ht
  have HG := Lib.hid hg
  have HM := Lib.hid hm
  clear hl hx ht hg hm hkl hkz4 hkz
  go_loopw [28] (fun i wr => ∃ (j : Nat) (x : DRecord) (a : Option Addr) (c : Nat), j ≤ 6 ∧ i = .int .i64 j ∧ isRecordF x = true ∧ WB wr kl #[.string ⟨#[100]⟩, .string ⟨#[101]⟩, .string ⟨#[102]⟩, .string ⟨#[103]⟩, .string ⟨#[104]⟩, .string ⟨#[105]⟩] ∧ WB wr kb #[.slice a x.fields.length c] ∧ WB wr w.heap.size #[.slice none 0 0] ∧ Fresh DRecord.rep (w.heap.size + 1) wr [.slice a x.fields.length c] x ∧ Mov k w wr) (fun i _ => 6 - (intOf i).toNat)
  case atStart => exact ⟨0, x, a1, c1, by omega, rfl, HR.out, HL.out, HX.out, HT.out, HG.out, HM.out⟩
  case round =>
   clear HL HX HT HG HM HR
   obtain ⟨j, x, a, c, hj, rfl, hr, hl, hx, ht, hg, hm⟩ := hrel
   have HR := Lib.hid hr
   have HL := Lib.hid hl
   have HX := Lib.hid hx
   have HT := Lib.hid ht
   have HG := Lib.hid hg
   have HM := Lib.hid hm
   clear hr hl hx ht hg hm
   have hzr := HX.out.lt
   have hlr : x.fields.length ≤ 6 := isRecord_len HR.out
   by_cases hlt : j < 6
   ·obtain ⟨f, hf, hfs⟩ : ∃ f, wr.cell? ⟨kl, j, none⟩ = some (.string f) ∧ f.size ≤ 20 := by
     have h1 := HL.out.cell j
     have h2 : j = 0 ∨ j = 1 ∨ j = 2 ∨ j = 3 ∨ j = 4 ∨ j = 5 := by omega
     rcases h2 with rfl | rfl | rfl | rfl | rfl | rfl
     ·exact ⟨_, h1, by decide⟩
     ·exact ⟨_, h1, by decide⟩
     ·exact ⟨_, h1, by decide⟩
     ·exact ⟨_, h1, by decide⟩
     ·exact ⟨_, h1, by decide⟩
     ·exact ⟨_, h1, by decide⟩
    have i1 : (0 : Int) ≤ (j : Int) := by omega
    have i2 : (j : Int) < 6 := by omega
    have ⟨c_HX, z_HX, f_HX⟩ := HX.out
    go_wp2_with fail
    refine (specSetField _ x f 1 _ HG.out.reads (by omega) (by unfold maxLen; omega)).mono ?_
    rintro e w6 ⟨ds, rfl, hg6, hb⟩
    obtain ⟨a6, c6, rfl⟩ := DRecord.fsh hg6
    clear c_HX z_HX f_HX
    have hz6 := hb.size
    replace HX := Lib.hid (HX.out.keep hb)
    replace HT := Lib.hid (HT.out.keep hb)
    replace HL := Lib.hid (HL.out.keep hb)
    replace HM := Lib.hid (HM.out.below hb)
    have HR6 := Lib.hid (setField_record (name := f) (n := 1) HR.out)
    clear hb hf
    have ⟨c_HX, z_HX, f_HX⟩ := HX.out
    go_wp2
    go_light
    exact ⟨⟨j + 1, setFieldF x f 1, a6, c6, by omega, by go_num, HR6.out, HL.out.setOther (by omega), HX.out.setAt (i := 0) (by simp) rfl, HT.out.setOther (by omega), Fresh.mono (B := wr.heap.size) (by repeat (first | with_reducible exact hg6 | with_reducible refine Fresh.setLow ?_ (by omega))) (by omega), HM.out.low (B := w.heap.size) bEb (Nat.le_refl _) hk⟩, by simp [intOf]; omega⟩
   ·have i2 : ¬ (j : Int) < 6 := by omega
    have ⟨c_HX, z_HX, f_HX⟩ := HX.out
    have ⟨c_HT, z_HT, f_HT⟩ := HT.out
    go_wp2
    exact bodyPost_ret (v := .agg #[.slice a x.fields.length c]) (by simp [results, Tryz.results128, go_sem, c_HT]) rfl ⟨_, rfl, x, Fresh.mono (B := w.heap.size + 1) (by repeat (first | with_reducible exact HG.out | with_reducible refine Fresh.setLow ?_ (by omega))) (by omega), by omega, HM.out.low (B := w.heap.size) bEb (Nat.le_refl _) hk⟩

end Go.Proofs.YtlfebehpmefioaaGreat
