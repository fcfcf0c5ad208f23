/-
 The draw of any outbox, and of a write to be queued.
-/
import Derived.Test.YtlfebehpmefioaaGreatDrawFam
import Derived.Deep.RegionHeldLaw
namespace Go.Proofs.YtlfebehpmefioaaGreat
open Go.RowKit

theorem ints_off {k : Kur} {w : World} {kb : Nat} (hkb : kb = w.heap.size) (hk : k.k < w.heap.size) : ReadsOff (Rep.slice 3 Rep.int) k (w.alloc (.cells #[.int .i64 0, .int .i64 (-1)] 3)) [.slice (some ⟨kb, 0, none⟩) 2 2] [0, -1] :=
 Fresh.off (lit_fresh FlatR.int (us := [0, -1]) rfl rfl (by show 2 ≤ maxLen; decide) (fun _ _ => trivial) hkb) (by omega)
theorem any_ok (d s v : Int) (y : DKey) (h : y.text.size ≤ 20) : (⟨d, s, y, ⟨#[97]⟩, v⟩ : DWrite).key.text.size ≤ maxLen ∧ (⟨d, s, y, ⟨#[97]⟩, v⟩ : DWrite).field.size ≤ maxLen := ⟨by show y.text.size ≤ maxLen; unfold maxLen; omega, by show (⟨#[97]⟩ : ByteArray).size ≤ maxLen; decide⟩

def lenAt (w : World) (b o : Nat) : Nat := match w.cell? ⟨b, o, none⟩ with | some (.slice _ n _) => n | _ => 0
theorem lenAt_of {w : World} {b o n c : Nat} {a : Option Addr} (h : w.cell? ⟨b, o, none⟩ = some (.slice a n c)) : lenAt w b o = n := by unfold lenAt; rw [h]
theorem isKey_small {b : Int} (h0 : 0 ≤ b) (h6 : b < 6) : isKeyF ⟨1, b, ⟨#[]⟩⟩ = true := by
 have e1 : within (1 : Int) 1 3 = true := by decide
 have e2 : within b (-1000000000000) 1000000000000 = true := by unfold within; rw [decide_eq_true (show -1000000000000 ≤ b by omega), decide_eq_true (show b ≤ 1000000000000 by omega)]; rfl
 have e3 : isKeyTextF ⟨#[]⟩ = true := by decide
 have e4 : (⟨#[]⟩ : ByteArray).toList.isEmpty = true := by unfold ByteArray.toList ByteArray.toList.loop; rfl
 unfold isKeyF
 simp only [e1, e2, e3, e4]
 rfl
theorem enq_grows {x : DOutbox} {b : Int} (h : isOutboxF x = true) (hl : x.writes.length < 20) (hn : x.next < 1000000) (h0 : 0 ≤ b) (h6 : b < 6) : enqueueF x ⟨1, b, ⟨#[]⟩⟩ ⟨#[97]⟩ 1 = enqOut x ⟨1, b, ⟨#[]⟩⟩ ⟨#[97]⟩ 1 := by
 obtain ⟨h1, h2, h3, h4⟩ := outbox_iff.1 h
 have hw : wrap64 (x.next + 1) = x.next + 1 := Go.IntWalk.wrap64_in _ (by omega)
 have hlen : (x.writes ++ [newWrite x ⟨1, b, ⟨#[]⟩⟩ ⟨#[97]⟩ 1]).length = x.writes.length + 1 := by simp
 have h5 : isOutboxF (enqOut x ⟨1, b, ⟨#[]⟩⟩ ⟨#[97]⟩ 1) = true := by
  refine outbox_iff.2 ⟨fun i hi => ?_, h2, by show 1 ≤ wrap64 (x.next + 1) ∧ wrap64 (x.next + 1) ≤ 1000000; omega, by show (x.writes ++ [newWrite x ⟨1, b, ⟨#[]⟩⟩ ⟨#[97]⟩ 1]).length ≤ 20; omega⟩
  have hi' : i < (x.writes ++ [newWrite x ⟨1, b, ⟨#[]⟩⟩ ⟨#[97]⟩ 1]).length := hi
  show isWriteF (x.writes ++ [newWrite x ⟨1, b, ⟨#[]⟩⟩ ⟨#[97]⟩ 1])[i] = true ∧ (x.writes ++ [newWrite x ⟨1, b, ⟨#[]⟩⟩ ⟨#[97]⟩ 1])[i].device = x.device ∧ (x.writes ++ [newWrite x ⟨1, b, ⟨#[]⟩⟩ ⟨#[97]⟩ 1])[i].seq = wrap64 (x.next + 1) - ((x.writes ++ [newWrite x ⟨1, b, ⟨#[]⟩⟩ ⟨#[97]⟩ 1]).length : Int) + i
  by_cases hi2 : i < x.writes.length
  ·rw [List.getElem_append_left hi2]
   obtain ⟨e1, e2, e3⟩ := h1 i hi2
   exact ⟨e1, e2, by rw [e3, hw, hlen]; omega⟩
  ·have e : i = x.writes.length := by omega
   subst e
   rw [List.getElem_append_right (Nat.le_refl _)]
   simp only [Nat.sub_self, List.getElem_cons_zero]
   refine ⟨?_, rfl, by rw [hw, hlen]; show x.next = _; omega⟩
   have e4 : within x.device 1 1000000 = true := by unfold within; rw [decide_eq_true h2.1, decide_eq_true h2.2]; rfl
   have e5 : within x.next 1 1000000 = true := by unfold within; rw [decide_eq_true h3.1, decide_eq_true h3.2]; rfl
   have e6 : isWordF ⟨#[97]⟩ 8 false = true := by decide
   have e7 : within (1 : Int) 0 1000000000 = true := by decide
   unfold isWriteF newWrite
   simp only [e4, e5, e6, e7, isKey_small h0 h6]
   rfl
 unfold enqueueF enqueueB
 rw [h, h5]
 rfl

set_option maxRecDepth 100000 in
set_option maxHeartbeats 6400000 in
theorem specAnyOutbox (k : Kur) (w : World) (h : Cur w k) : Calls Tryz.prog 121 #[.pointer (some ⟨k.k, 0, none⟩)] w fun e w' => ∃ (ds : List Value) (x : DOutbox), e = .returned (.agg ds.toArray) ∧ Fresh DOutbox.rep w.heap.size w' ds x ∧ x.writes.length ≤ 1000 ∧ Mov k w w' := by
 have hk := h.lt
 have HRK : Hid (∀ (W : World) (y : DKey), y.text.size ≤ 20 → Reads DKey.rep W [.int .i64 y.kind, .int .i64 y.n, .string y.text] y) := Lib.hid fun W y hy => ⟨[], DKey.rd.2 ⟨rfl, rfl, by unfold maxLen; omega⟩⟩
 obtain ⟨i0, hi, hz0, hz8, hz9⟩ := info_parts infoWrite
 go_enter Tryz.func121, Tryz.ntmps121
 go_wp2_with fail
 refine (specBelow k _ _ (h.below bEl)).mono ?_
 rintro e w1 ⟨d, rfl, _, _, hm⟩
 have HT : Hid (WB w1 w.heap.size #[.int .i64 0, .int .i64 0, .slice none 0 0]) := Lib.hid ((WB.at rfl).mov hm (by omega))
 have HM : Hid (Mov k w w1) := Lib.hid (Mov.belowL bEl hm)
 clear hm
 go_wp2_with fail
 refine (specBox k _ _ HM.out.cur).mono ?_
 rintro e w2 ⟨ds, x, rfl, hf, hlb, hm⟩
 have hl := hlb.1
 have HLB := Lib.hid hlb
 clear hlb
 obtain ⟨a1, c1, rfl, hg⟩ := DOutbox.fopen hf
 clear hf
 have hz1 := HT.out.lt
 replace HT := Lib.hid (HT.out.mov hm (by omega))
 have hkz := HM.out.cur.lt
 have hN := hg.ownlt
 have HF : Hid (Fresh (Rep.slice 34 DWrite.rep) (w.heap.size + 1) w2 [.slice a1 x.writes.length c1] x.writes) := Lib.hid (hg.mono (by omega))
 replace HM := Lib.hid (HM.out.trans hm)
 have hz2 := hm.size
 clear hg hm
 go_upto_region 2 with fail
 refine settle (fun W => ∃ kb, kb = w2.heap.size ∧ kb ∉ (Value.slice a1 x.writes.length c1).ownBlock.toList ∧ WB W kb #[.int .i64 x.device, .int .i64 x.next, .slice a1 x.writes.length c1] ∧ WB W w.heap.size #[.int .i64 0, .int .i64 0, .slice none 0 0] ∧ Fresh (Rep.slice 34 DWrite.rep) (w.heap.size + 1) W [.slice a1 x.writes.length c1] x.writes ∧ Mov k w W) ⟨_, rfl, fun hm => by have := hN _ hm; omega, WB.at rfl, HT.out.growA, HF.out.below (belA belR), HM.out.below bEl⟩ ?_
 clear HT HF HM hN
 rintro w3 ⟨kb, hkb, hn, hx, ht, hf, hm⟩
 have hkk : w.heap.size < kb ∧ k.k < kb := by omega
 rw [← hkb]
 have HX := Lib.hid hx
 have HN := Lib.hid hn
 have HT := Lib.hid ht
 have HF := Lib.hid hf
 have HM := Lib.hid hm
 clear hx hn ht hf hm hkb hz1 hz2 hkz
 go_wp2_with fail
 refine (specBelow k _ _ HM.out.cur).mono ?_
 rintro e w4 ⟨b, rfl, _, _, hm⟩
 have hkz := HX.out.lt
 replace HX := Lib.hid (HX.out.mov hm (by omega))
 replace HT := Lib.hid (HT.out.mov hm (by omega))
 replace HF := Lib.hid (HF.out.mov hm (by omega))
 replace HM := Lib.hid (HM.out.trans hm)
 clear hm
 have hkz4 := HX.out.lt
 cases n0 : (b == 0)
 case' false => cases n1 : (b == 1)
 case' false.false => cases n2 : (b == 2)
 case' false.false.false => cases n3 : (b == 3)
 case false.false.false.false =>
  have ⟨c_HX, z_HX, f_HX⟩ := HX.out
  have ⟨c_HT, z_HT, f_HT⟩ := HT.out
  go_upto_region 12 with fail
  refine settle (fun W => ∃ (y : DOutbox) (a4 : Option Addr) (c4 : Nat), y.writes.length ≤ 1000 ∧ WB W kb #[.int .i64 y.device, .int .i64 y.next, .slice a4 y.writes.length c4] ∧ WB W w.heap.size #[.int .i64 0, .int .i64 0, .slice none 0 0] ∧ Fresh (Rep.slice 34 DWrite.rep) (w.heap.size + 1) W [.slice a4 y.writes.length c4] y.writes ∧ Mov k w W) ⟨x, a1, c1, by omega, HX.out.keep bEl, HT.out.keep bEl, HF.out.below bEl, HM.out.below bEl⟩ ?_
  clear c_HX z_HX f_HX c_HT z_HT f_HT
  clear HX HT HF HM HN
  rintro w9 ⟨y, a4, c4, hly, hx, ht, hf, hm⟩
  have HX := Lib.hid hx
  have HT := Lib.hid ht
  have HF := Lib.hid hf
  have HM := Lib.hid hm
  clear hx ht hf hm
  have hkz9 := HX.out.lt
  have ⟨c_HX, z_HX, f_HX⟩ := HX.out
  have ⟨c_HT, z_HT, f_HT⟩ := HT.out
  go_wp2
  exact bodyPost_ret (v := .agg #[.int .i64 y.device, .int .i64 y.next, .slice a4 y.writes.length c4]) (by simp [results, Tryz.results121, go_sem, c_HT]) rfl ⟨_, y, rfl, DOutbox.fmk (Fresh.mono (B := w.heap.size + 1) (by repeat (first | with_reducible exact HF.out | with_reducible refine Fresh.setLow ?_ (by omega))) (by omega)), hly, HM.out.low (B := w.heap.size) bEb (Nat.le_refl _) hk⟩
 case true =>
  have ⟨c_HX, z_HX, f_HX⟩ := HX.out
  have ⟨c_HT, z_HT, f_HT⟩ := HT.out
  go_wp2_with fail
  refine (specLitInt k [0, 9, 1000001] _ HM.out.cur rfl rfl rfl (by decide) (by decide)).mono ?_
  rintro e w5 ⟨v, rfl, _, hm⟩
  clear c_HX z_HX f_HX c_HT z_HT f_HT
  replace HX := Lib.hid (HX.out.mov hm (by omega))
  replace HT := Lib.hid (HT.out.mov hm (by omega))
  replace HF := Lib.hid (HF.out.mov hm (by omega))
  replace HM := Lib.hid (HM.out.trans hm)
  clear hm
  have hkz5 := HX.out.lt
  have ⟨c_HX, z_HX, f_HX⟩ := HX.out
  have ⟨c_HT, z_HT, f_HT⟩ := HT.out
  go_upto_region 12 with fail
  refine settle (fun W => ∃ (y : DOutbox) (a4 : Option Addr) (c4 : Nat), y.writes.length ≤ 1000 ∧ WB W kb #[.int .i64 y.device, .int .i64 y.next, .slice a4 y.writes.length c4] ∧ WB W w.heap.size #[.int .i64 0, .int .i64 0, .slice none 0 0] ∧ Fresh (Rep.slice 34 DWrite.rep) (w.heap.size + 1) W [.slice a4 y.writes.length c4] y.writes ∧ Mov k w W) ⟨⟨v, x.next, x.writes⟩, a1, c1, by show x.writes.length ≤ 1000; omega, HX.out.setAt (i := 0) (by simp) rfl, HT.out.setOther (by omega), DWrite.flat.setApart HF.out HN.out, HM.out.low (B := w.heap.size) bEb (Nat.le_refl _) hk⟩ ?_
  clear c_HX z_HX f_HX c_HT z_HT f_HT
  clear HX HT HF HM HN
  rintro w9 ⟨y, a4, c4, hly, hx, ht, hf, hm⟩
  have HX := Lib.hid hx
  have HT := Lib.hid ht
  have HF := Lib.hid hf
  have HM := Lib.hid hm
  clear hx ht hf hm
  have hkz9 := HX.out.lt
  have ⟨c_HX, z_HX, f_HX⟩ := HX.out
  have ⟨c_HT, z_HT, f_HT⟩ := HT.out
  go_wp2
  exact bodyPost_ret (v := .agg #[.int .i64 y.device, .int .i64 y.next, .slice a4 y.writes.length c4]) (by simp [results, Tryz.results121, go_sem, c_HT]) rfl ⟨_, y, rfl, DOutbox.fmk (Fresh.mono (B := w.heap.size + 1) (by repeat (first | with_reducible exact HF.out | with_reducible refine Fresh.setLow ?_ (by omega))) (by omega)), hly, HM.out.low (B := w.heap.size) bEb (Nat.le_refl _) hk⟩
 case false.true =>
  have ⟨c_HX, z_HX, f_HX⟩ := HX.out
  have ⟨c_HT, z_HT, f_HT⟩ := HT.out
  go_wp2_with fail
  refine (specLitInt k [0, 3, 1000000, 1000001] _ HM.out.cur rfl rfl rfl (by decide) (by decide)).mono ?_
  rintro e w5 ⟨v, rfl, _, hm⟩
  clear c_HX z_HX f_HX c_HT z_HT f_HT
  replace HX := Lib.hid (HX.out.mov hm (by omega))
  replace HT := Lib.hid (HT.out.mov hm (by omega))
  replace HF := Lib.hid (HF.out.mov hm (by omega))
  replace HM := Lib.hid (HM.out.trans hm)
  clear hm
  have hkz5 := HX.out.lt
  have ⟨c_HX, z_HX, f_HX⟩ := HX.out
  have ⟨c_HT, z_HT, f_HT⟩ := HT.out
  go_upto_region 12 with fail
  refine settle (fun W => ∃ (y : DOutbox) (a4 : Option Addr) (c4 : Nat), y.writes.length ≤ 1000 ∧ WB W kb #[.int .i64 y.device, .int .i64 y.next, .slice a4 y.writes.length c4] ∧ WB W w.heap.size #[.int .i64 0, .int .i64 0, .slice none 0 0] ∧ Fresh (Rep.slice 34 DWrite.rep) (w.heap.size + 1) W [.slice a4 y.writes.length c4] y.writes ∧ Mov k w W) ⟨⟨x.device, v, x.writes⟩, a1, c1, by show x.writes.length ≤ 1000; omega, HX.out.setAt (i := 1) (by simp) rfl, HT.out.setOther (by omega), DWrite.flat.setApart HF.out HN.out, HM.out.low (B := w.heap.size) bEb (Nat.le_refl _) hk⟩ ?_
  clear c_HX z_HX f_HX c_HT z_HT f_HT
  clear HX HT HF HM HN
  rintro w9 ⟨y, a4, c4, hly, hx, ht, hf, hm⟩
  have HX := Lib.hid hx
  have HT := Lib.hid ht
  have HF := Lib.hid hf
  have HM := Lib.hid hm
  clear hx ht hf hm
  have hkz9 := HX.out.lt
  have ⟨c_HX, z_HX, f_HX⟩ := HX.out
  have ⟨c_HT, z_HT, f_HT⟩ := HT.out
  go_wp2
  exact bodyPost_ret (v := .agg #[.int .i64 y.device, .int .i64 y.next, .slice a4 y.writes.length c4]) (by simp [results, Tryz.results121, go_sem, c_HT]) rfl ⟨_, y, rfl, DOutbox.fmk (Fresh.mono (B := w.heap.size + 1) (by repeat (first | with_reducible exact HF.out | with_reducible refine Fresh.setLow ?_ (by omega))) (by omega)), hly, HM.out.low (B := w.heap.size) bEb (Nat.le_refl _) hk⟩
 case false.false.true =>
  have hown : Hid (∀ b ∈ (Value.slice a1 x.writes.length c1).ownBlock.toList, w.heap.size + 1 ≤ b) := Lib.hid fun b hb => (HF.out.ownlt b hb).1
  go_upto_region 8 with fail
  refine wp_region_mvf k (Value.slice a1 x.writes.length c1).ownBlock.toList [15] (by kernel_rfl) ?_
  intro wd hbd
  have hwz := hbd.size
  replace HX := Lib.hid (HX.out.keep hbd)
  replace HT := Lib.hid (HT.out.keep hbd)
  replace HF := Lib.hid (HF.out.below hbd)
  replace HM := Lib.hid (HM.out.below hbd)
  clear hbd
  have hne : Nonempty (MovedF k (Value.slice a1 x.writes.length c1).ownBlock.toList wd) := ⟨⟨wd, MovF.of (Mov.refl HM.out.cur)⟩⟩
  have KX := mvf_var (k := k) (fp := (Value.slice a1 x.writes.length c1).ownBlock.toList) HX.out (by omega) HN.out
  refine wpU_group (fun _ _ _ _ _ h => h) (by kernel_rfl) (mvf_of (MovF.of (Mov.refl HM.out.cur))) [0,1,2,3,4,5,6,8] _ _ _ rfl (by kernel_rfl) ?_
  repeat (go_big_quiet_step (fail))
  refine wpQuiet_nil ?_
  clear KX
  refine wpU_two 7 9 rfl rfl (by kernel_rfl) ?ta ?tb
  case' ta =>
   go_wp2_with fail
   refine (specAnyKey k _ HM.out.cur).mono ?_
   rintro e w5 ⟨y, rfl, hy, hm⟩
   go_wp2_with fail
   refine HardPost.mk (mvf_of (MovF.of hm)) ?_
   refine wpU_one 9 rfl (by kernel_rfl) ?_
   go_wp2_with fail
   refine HardPost.mk (mvf_of (MovF.of (hm.below (belA belR)))) ?_
   refine wpU_one 10 rfl (by kernel_rfl) ?_
   go_wp2_with fail
   refine (specLitInt k [0, -1] _ hm.cur rfl rfl rfl (by decide) (by decide)).mono ?_
   rintro e w6 ⟨v, rfl, _, hm6⟩
   have mm6 := hm.trans hm6
  case' tb =>
   go_wp2_with fail
   refine HardPost.mk (mvf_of (MovF.of (Mov.below (Mov.refl HM.out.cur) (belA belR)))) ?_
   refine wpU_one 7 rfl (by kernel_rfl) ?_
   go_wp2_with fail
   refine (specAnyKey k _ (HM.out.cur.below (belA belR))).mono ?_
   rintro e w5 ⟨y, rfl, hy, hm⟩
   go_wp2_with fail
   refine HardPost.mk (mvf_of (MovF.of (Mov.belowL (belA belR) hm))) ?_
   refine wpU_one 10 rfl (by kernel_rfl) ?_
   go_wp2_with fail
   have hro := (ints_off rfl (by have := HM.out.cur.lt; omega)).mov hm
   refine (specDrawInt k _ [0, -1] _ hm.cur hro (by decide)).mono ?_
   rintro e w6 ⟨v, rfl, _, hm6⟩
   have mm6 := Mov.trans (Mov.belowL (belA belR) hm) hm6
  all_goals
   go_wp2_with fail
   refine HardPost.mk (mvf_of (MovF.of mm6)) ?_
   refine wpU_group (fun _ _ _ _ _ h => h) (by kernel_rfl) (mvf_of (MovF.of mm6)) [11] _ _ _ rfl (by kernel_rfl) ?_
   repeat (go_big_quiet_step (fail))
   refine wpQuiet_nil ?_
   refine wpU_one 12 rfl (by kernel_rfl) ?_
   go_wp2_with fail
   refine HardPost.mk (mvf_of ((MovF.of mm6).below (belA belR))) ?_
   refine wpU_one 13 rfl (by kernel_rfl) ?_
   have hz6 := mm6.size
   refine wpList_pushC _ rfl _ _ 28 28 rfl DWrite.flat (w.heap.size + 1) 34 i0 _ _ Tryz.underlying28 Tryz.underlying28 hi hz0 hz8 hz9 rfl (.slice a1 x.writes.length c1) x.writes rfl (HF.out.mov mm6 (by omega)) (⟨x.device, x.next, y, ⟨#[97]⟩, v⟩ : DWrite) _ _ _ rfl rfl rfl (any_ok _ _ _ y hy) (by omega) (by decide) (by omega) ?_
   intro ao2 cap2 w7 hf7 hg7 hnew7
   go_wp2_with fail
   have mf7 := ((MovF.of mm6).below (belA belR)).chg (Chg.of_grown hg7) (fun b hb => by have := hown.out b hb; omega)
   refine HardPost.mk (mvf_of mf7) ?_
   refine wpU_group (fun _ _ _ _ _ h => h) (by kernel_rfl) (mvf_of mf7) [14] _ _ _ rfl (by kernel_rfl) ?_
   repeat (go_big_quiet_step (fail))
   refine wpQuiet_nil ?_
   have HX7 := Lib.hid (HX.out.chg mf7.1 (by have := HN.out; simp; exact ⟨by omega, by simpa using this⟩))
   have HT7 := Lib.hid (HT.out.chg mf7.1 (by simp; exact ⟨by omega, fun hm => by have := hown.out _ (by simpa using hm); omega⟩))
   have hn7 : kb ∉ (Value.slice ao2 (x.writes.length + 1) cap2).ownBlock.toList := fun hm => by
    rcases hnew7 kb (by simpa using hm) with e | e
    ·exact HN.out (by simp [e])
    ·have := HX.out.lt
     omega
   have HM7 := Lib.hid (mf7.low HM.out (fun b hb => by have := hown.out b hb; omega))
   have HN7 := Lib.hid hn7
   have HF7 := Lib.hid hf7
   have hll : (x.writes ++ [(⟨x.device, x.next, y, ⟨#[97]⟩, v⟩ : DWrite)]).length = x.writes.length + 1 := by simp
   have HLL := Lib.hid hll
   clear hll hf7 hg7 hnew7 hn7 mf7
   have ⟨c_HX7, z_HX7, f_HX7⟩ := HX7.out
   refine wpU_tail [15] _ _ _ _ rfl (by kernel_rfl) ?_
   go_wp2_with fail
   refine NoPanic.normal ?_
   clear c_HX7 z_HX7 f_HX7

   go_upto_region 12 with fail
   refine settle (fun W => ∃ (y : DOutbox) (a4 : Option Addr) (c4 : Nat), y.writes.length ≤ 1000 ∧ WB W kb #[.int .i64 y.device, .int .i64 y.next, .slice a4 y.writes.length c4] ∧ WB W w.heap.size #[.int .i64 0, .int .i64 0, .slice none 0 0] ∧ Fresh (Rep.slice 34 DWrite.rep) (w.heap.size + 1) W [.slice a4 y.writes.length c4] y.writes ∧ Mov k w W) ⟨⟨x.device, x.next, x.writes ++ [⟨x.device, x.next, y, ⟨#[97]⟩, v⟩]⟩, ao2, cap2, by show (x.writes ++ [(⟨x.device, x.next, y, ⟨#[97]⟩, v⟩ : DWrite)]).length ≤ 1000; rw [HLL.out]; omega, by rw [HLL.out]; exact HX7.out.setAt (i := 2) (by simp) rfl, HT7.out.setOther (by omega), by rw [HLL.out]; exact DWrite.flat.setApart HF7.out HN7.out, HM7.out.low (B := w.heap.size) bEb (Nat.le_refl _) hk⟩ ?_
   clear HX HT HF HM HN HX7 HT7 HM7 HF7 HLL HN7 hown hm hm6 mm6 hz6 hne HLB
   rintro w9 ⟨y, a4, c4, hly, hx, ht, hf, hm⟩
   have HX := Lib.hid hx
   have HT := Lib.hid ht
   have HF := Lib.hid hf
   have HM := Lib.hid hm
   clear hx ht hf hm
   have hkz9 := HX.out.lt
   have ⟨c_HX, z_HX, f_HX⟩ := HX.out
   have ⟨c_HT, z_HT, f_HT⟩ := HT.out
   go_wp2
   exact bodyPost_ret (v := .agg #[.int .i64 y.device, .int .i64 y.next, .slice a4 y.writes.length c4]) (by simp [results, Tryz.results121, go_sem, c_HT]) rfl ⟨_, y, rfl, DOutbox.fmk (Fresh.mono (B := w.heap.size + 1) (by repeat (first | with_reducible exact HF.out | with_reducible refine Fresh.setLow ?_ (by omega))) (by omega)), hly, HM.out.low (B := w.heap.size) bEb (Nat.le_refl _) hk⟩
 case false.false.false.true =>
  have ⟨c_HX, z_HX, f_HX⟩ := HX.out
  go_wp2_with fail
  go_loopw [] (fun wr => ∃ (x : DOutbox) (a1 : Option Addr) (c1 : Nat), (x.writes.length ≤ 20 ∧ 0 ≤ x.next ∧ x.next ≤ 7 + x.writes.length) ∧ WB wr kb #[.int .i64 x.device, .int .i64 x.next, .slice a1 x.writes.length c1] ∧ WB wr w.heap.size #[.int .i64 0, .int .i64 0, .slice none 0 0] ∧ Fresh (Rep.slice 34 DWrite.rep) (w.heap.size + 1) wr [.slice a1 x.writes.length c1] x.writes ∧ Mov k w wr) (fun wr => 20 - lenAt wr kb 2)
  case atStart =>
   have hy := HLB.out
   exact ⟨x, a1, c1, ⟨by omega, by omega, by omega⟩, HX.out, HT.out, HF.out, HM.out⟩
  case round =>
   clear c_HX z_HX f_HX
   clear HX HT HF HM HN HLB hl
   obtain ⟨x, a1, c1, hx3, hx, ht, hf, hm⟩ := hrel
   have H3 := Lib.hid hx3
   have HX := Lib.hid hx
   have HT := Lib.hid ht
   have HF := Lib.hid hf
   have HM := Lib.hid hm
   clear hx3 hx ht hf hm
   have hzr := HX.out.lt
   have hle := H3.out.1
   have ⟨c_HX, z_HX, f_HX⟩ := HX.out
   by_cases hlt : x.writes.length < 20
   ·have i2 : (x.writes.length : Int) < 20 := by omega
    go_wp2_with fail
    refine (specIsOutbox _ x _ (DOutbox.fmk HF.out).reads).mono ?_
    rintro e w2 ⟨rfl, hb⟩
    have hla : Hid (lenAt wr kb 2 = x.writes.length) := Lib.hid (lenAt_of (HX.out.cell 2))
    clear c_HX z_HX f_HX
    replace HX := Lib.hid (HX.out.keep hb)
    replace HT := Lib.hid (HT.out.keep hb)
    replace HF := Lib.hid (HF.out.below hb)
    replace HM := Lib.hid (HM.out.below hb)
    have hzw := hb.size
    clear hb
    cases nb : isOutboxF x
    ·have ⟨c_HX, z_HX, f_HX⟩ := HX.out
     have ⟨c_HT, z_HT, f_HT⟩ := HT.out
     go_wp2
     exact bodyPost_ret (v := .agg #[.int .i64 x.device, .int .i64 x.next, .slice a1 x.writes.length c1]) (by simp [results, Tryz.results121, go_sem, c_HT]) rfl ⟨_, x, rfl, DOutbox.fmk (Fresh.mono (B := w.heap.size + 1) (by repeat (first | with_reducible exact HF.out | with_reducible refine Fresh.setLow ?_ (by omega))) (by omega)), by omega, HM.out.low (B := w.heap.size) bEb (Nat.le_refl _) hk⟩
    ·have NB := Lib.hid nb
     clear nb
     go_upto_region 11 with fail
     refine wp_region_mv k [6,7] (by kernel_rfl) ?_
     intro wd hbd
     have hwz := hbd.size
     replace HX := Lib.hid (HX.out.keep hbd)
     replace HT := Lib.hid (HT.out.keep hbd)
     replace HF := Lib.hid (HF.out.below hbd)
     replace HM := Lib.hid (HM.out.below hbd)
     clear hbd
     have hne : Nonempty (Moved k wd) := ⟨⟨wd, Mov.refl HM.out.cur⟩⟩
     have K_HX := mv_var (k := k) HX.out (by omega)
     refine wpU_group (fun _ _ _ _ _ h => h) (by kernel_rfl) (mv_of (Mov.refl HM.out.cur)) [0,1] _ _ _ rfl (by kernel_rfl) ?_
     repeat (go_big_quiet_step (fail))
     refine wpQuiet_nil ?_
     clear K_HX
     refine wpU_one 2 rfl (by kernel_rfl) ?_
     go_wp2_with fail
     refine (specKeyV k _ HM.out.cur).mono ?_
     rintro e w3 ⟨b3, rfl, hb0, hb6, hm⟩
     go_wp2_with fail
     refine HardPost.mk (mv_of (hm)) ?_
     have hz3 := hm.size
     refine wpU_one 3 rfl (by kernel_rfl) ?_
     go_wp2_with fail
     refine (specEnqueueWrite _ _ x ⟨1, b3, ⟨#[]⟩⟩ ⟨#[97]⟩ 1 _ ((DOutbox.fmk (HF.out.mov hm (by omega))).reads) (HRK.out _ ⟨1, b3, ⟨#[]⟩⟩ (by show 0 ≤ 20; decide)) (by omega) (by decide)).mono ?_
     rintro e w4 ⟨ds, rfl, hf5, hb5⟩
     have hnx := H3.out
     rw [enq_grows NB.out hlt (by omega) hb0 hb6] at hf5
     obtain ⟨a5, c5, rfl, hg5⟩ := DOutbox.fopen hf5
     have mm5 := hm.below hb5
     go_wp2_with fail
     refine HardPost.mk (mv_of (mm5)) ?_
     refine wpU_group (fun _ _ _ _ _ h => h) (by kernel_rfl) (mv_of (mm5)) [4,5,6] _ _ _ rfl (by kernel_rfl) ?_
     repeat (go_big_quiet_step (fail))
     refine wpQuiet_nil ?_
     replace HX := Lib.hid (HX.out.mov mm5 (by omega))
     have ⟨c_HX, z_HX, f_HX⟩ := HX.out
     refine wpU_tail [7] _ _ _ _ rfl (by kernel_rfl) ?_
     go_wp2_with fail
     refine NoPanic.normal ?_
     clear c_HX z_HX f_HX
     go_wp2_with fail
     go_light
     have hll : (enqOut x ⟨1, b3, ⟨#[]⟩⟩ ⟨#[97]⟩ 1).writes.length = x.writes.length + 1 := by show (x.writes ++ [newWrite x ⟨1, b3, ⟨#[]⟩⟩ ⟨#[97]⟩ 1]).length = _; simp
     have hnn : (enqOut x ⟨1, b3, ⟨#[]⟩⟩ ⟨#[97]⟩ 1).next = x.next + 1 := by show wrap64 (x.next + 1) = _; exact Go.IntWalk.wrap64_in _ (by omega)
     have HX6 := HX.out.set3 (a' := .int .i64 (enqOut x ⟨1, b3, ⟨#[]⟩⟩ ⟨#[97]⟩ 1).device) (b' := .int .i64 (enqOut x ⟨1, b3, ⟨#[]⟩⟩ ⟨#[97]⟩ 1).next) (c' := .slice a5 (enqOut x ⟨1, b3, ⟨#[]⟩⟩ ⟨#[97]⟩ 1).writes.length c5)
     refine ⟨⟨enqOut x ⟨1, b3, ⟨#[]⟩⟩ ⟨#[97]⟩ 1, a5, c5, ⟨by omega, by omega, by omega⟩, HX6, (((HT.out.mov mm5 (by omega)).setOther (by omega)).setOther (by omega)).setOther (by omega), Fresh.mono (B := w3.heap.size) (by repeat (first | with_reducible exact hg5 | with_reducible refine Fresh.setLow ?_ (by omega))) (by omega), (HM.out.trans mm5).low (B := w.heap.size) bEb (Nat.le_refl _) hk⟩, ?_⟩
     rw [hla.out, lenAt_of (HX6.cell 2), hll]
     omega
   ·have i2 : ¬ (x.writes.length : Int) < 20 := by omega
    have ⟨c_HT, z_HT, f_HT⟩ := HT.out
    go_wp2
    exact bodyPost_ret (v := .agg #[.int .i64 x.device, .int .i64 x.next, .slice a1 x.writes.length c1]) (by simp [results, Tryz.results121, go_sem, c_HT]) rfl ⟨_, rfl, x, DOutbox.fmk (Fresh.mono (B := w.heap.size + 1) (by repeat (first | with_reducible exact HF.out | with_reducible refine Fresh.setLow ?_ (by omega))) (by omega)), by omega, HM.out.low (B := w.heap.size) bEb (Nat.le_refl _) hk⟩

end Go.Proofs.YtlfebehpmefioaaGreat
