/-
 DrawFam: OutDraw, OutDraw2, DrawBox, Shapes, Owns, DrawStore, SrvLaw, NetLaw, in one text.
-/
import Derived.Deep.RegionWith
import Derived.Test.YtlfebehpmefioaaGreatCurFam
import Derived.Test.YtlfebehpmefioaaGreatTFam
import Derived.Test.YtlfebehpmefioaaGreatBoxFam
import Derived.Test.YtlfebehpmefioaaGreatBase
import Derived.Test.YtlfebehpmefioaaGreatItemFam2
import Derived.Test.YtlfebehpmefioaaGreatSrvFam

/-
 The draws of names, keys and writes: what is drawn is small.
-/
namespace Go.Proofs.YtlfebehpmefioaaGreat
open Go.RowKit

theorem name_small {x : ByteArray} (h : x ∈ [(⟨#[97]⟩ : ByteArray), ⟨#[98]⟩, ⟨#[99]⟩, ⟨#[100, 111, 110, 101]⟩, ⟨#[116, 105, 116, 108, 101]⟩]) : x.size ≤ 20 := by
 simp only [List.mem_cons, List.not_mem_nil, or_false] at h
 rcases h with rfl | rfl | rfl | rfl | rfl <;> decide
theorem text_small {x : ByteArray} (h : x ∈ [(⟨#[]⟩ : ByteArray), ⟨#[97]⟩, ⟨#[97, 98]⟩, ⟨#[98]⟩, ⟨#[122, 57]⟩, ⟨#[97, 98, 99, 100, 101, 102, 103, 104, 105, 106, 107, 108]⟩]) : x.size ≤ 20 := by
 simp only [List.mem_cons, List.not_mem_nil, or_false] at h
 rcases h with rfl | rfl | rfl | rfl | rfl | rfl <;> decide
theorem odd_small {x : ByteArray} (h : x ∈ [(⟨#[65]⟩ : ByteArray), ⟨#[97, 32, 98]⟩, ⟨#[97, 98, 99, 100, 101, 102, 103, 104, 105, 106, 107, 108, 109]⟩, ⟨#[120, 39]⟩]) : x.size ≤ 20 := by
 simp only [List.mem_cons, List.not_mem_nil, or_false] at h
 rcases h with rfl | rfl | rfl | rfl <;> decide

set_option maxRecDepth 100000 in
set_option maxHeartbeats 1600000 in
theorem specName (k : Kur) (w : World) (h : Cur w k) : Calls Tryz.prog 87 #[.pointer (some ⟨k.k, 0, none⟩)] w fun e w' => ∃ x : ByteArray, e = .returned (.string x) ∧ x.size ≤ 20 ∧ Mov k w w' := by
 go_enter Tryz.func87, Tryz.ntmps87
 go_wp2_with fail
 refine (specLitStr k [⟨#[97]⟩, ⟨#[98]⟩, ⟨#[99]⟩, ⟨#[100, 111, 110, 101]⟩, ⟨#[116, 105, 116, 108, 101]⟩] _ h rfl rfl rfl (by decide) (by decide) (by decide)).mono ?_
 rintro e w1 ⟨x, rfl, hx, hm⟩
 have hs := name_small hx
 clear hx
 go_wp2
 go_ret
 exact ⟨x, rfl, hs, hm⟩

set_option maxRecDepth 100000 in
set_option maxHeartbeats 1600000 in
theorem specKeyNum (k : Kur) (w : World) (h : Cur w k) : Calls Tryz.prog 156 #[.pointer (some ⟨k.k, 0, none⟩)] w fun e w' => ∃ x : Int, e = .returned (.int .i64 x) ∧ Mov k w w' := by
 go_enter Tryz.func156, Tryz.ntmps156
 go_wp2_with fail
 refine (specBelow k _ _ h).mono ?_
 rintro e w1 ⟨b, rfl, _, _, hm⟩
 go_wp2_with fail
 refine (specLitInt k [0, 1, 2, -1, 255, 256, -1000000000000, 1000000000000, b] _ hm.2 rfl rfl rfl (by show 0 < 9; decide) (by show 9 ≤ 100; decide)).mono ?_
 rintro e w2 ⟨x, rfl, _, hm2⟩
 have hm3 := hm.trans hm2
 clear hm hm2
 go_wp2
 go_ret
 exact ⟨x, rfl, hm3⟩

set_option maxRecDepth 100000 in
set_option maxHeartbeats 1600000 in
theorem specSmallKey (k : Kur) (w : World) (h : Cur w k) : Calls Tryz.prog 86 #[.pointer (some ⟨k.k, 0, none⟩)] w fun e w' => ∃ x : DKey, e = .returned (.agg #[.int .i64 x.kind, .int .i64 x.n, .string x.text]) ∧ x.text.size ≤ 20 ∧ Mov k w w' := by
 have hk := h.lt
 go_enter Tryz.func86, Tryz.ntmps86
 go_wp2_with fail
 refine (specBelow k _ _ (h.below bEl)).mono ?_
 rintro e w1 ⟨b, rfl, _, _, hm⟩
 have HT : Hid (WB w1 w.heap.size #[.int .i64 0, .int .i64 0, .string ⟨#[]⟩]) := Lib.hid ((WB.at rfl).mov hm (by omega))
 have HM : Hid (Mov k w w1) := Lib.hid (Mov.belowL bEl hm)
 clear hm
 have ⟨c_HT, z_HT, f_HT⟩ := HT.out
 go_wp2
 refine bodyPost_ret (v := .agg #[.int .i64 1, .int .i64 b, .string ⟨#[]⟩]) (by simp [results, Tryz.results86, go_sem, c_HT]) rfl ⟨⟨1, b, ⟨#[]⟩⟩, rfl, Nat.zero_le _, HM.out.low (B := w.heap.size) bEb (Nat.le_refl _) hk⟩

set_option maxRecDepth 100000 in
set_option maxHeartbeats 3200000 in
theorem specKey (k : Kur) (w : World) (h : Cur w k) : Calls Tryz.prog 130 #[.pointer (some ⟨k.k, 0, none⟩)] w fun e w' => ∃ x : DKey, e = .returned (.agg #[.int .i64 x.kind, .int .i64 x.n, .string x.text]) ∧ x.text.size ≤ 20 ∧ Mov k w w' := by
 have hk := h.lt
 go_enter Tryz.func130, Tryz.ntmps130
 go_upto_region 1 with fail
 refine settle (fun W => WB W w.heap.size #[.int .i64 0, .int .i64 0, .string ⟨#[]⟩] ∧ Mov k w W) ⟨WB.at rfl, Mov.below (Mov.refl h) bEl⟩ ?_
 rintro w0 ⟨ht, hm0⟩
 have HT := Lib.hid ht
 have HM := Lib.hid hm0
 clear ht hm0
 go_wp2_with fail
 refine (specLitStr k [⟨#[]⟩, ⟨#[97]⟩, ⟨#[97, 98]⟩, ⟨#[98]⟩, ⟨#[122, 57]⟩, ⟨#[97, 98, 99, 100, 101, 102, 103, 104, 105, 106, 107, 108]⟩] _ HM.out.2 rfl rfl rfl (by decide) (by decide) (by decide)).mono ?_
 rintro e w1 ⟨s, rfl, hs, hm⟩
 have hs20 := text_small hs
 clear hs
 replace HT := Lib.hid (HT.out.mov hm (by omega))
 replace HM := Lib.hid (HM.out.trans hm)
 clear hm
 go_wp2_with fail
 refine (specBelow k _ _ HM.out.2).mono ?_
 rintro e w2 ⟨b, rfl, _, _, hm⟩
 replace HT := Lib.hid (HT.out.mov hm (by omega))
 replace HM := Lib.hid (HM.out.trans hm)
 clear hm
 cases n0 : (b == 0)
 case' false => cases n1 : (b == 1)
 case true =>
  have ⟨c_HT, z_HT, f_HT⟩ := HT.out
  go_wp2
  exact bodyPost_ret (v := .agg #[.int .i64 2, .int .i64 0, .string s]) (by simp [results, Tryz.results130, go_sem, c_HT]) rfl ⟨⟨2, 0, s⟩, rfl, hs20, HM.out.low (B := w.heap.size) bEb (Nat.le_refl _) hk⟩
 case' false.true =>
  go_wp2_with fail
  refine (specKeyNum k _ HM.out.2).mono ?_
  rintro e w3 ⟨x, rfl, hm⟩
  replace HT := Lib.hid (HT.out.mov hm (by omega))
  replace HM := Lib.hid (HM.out.trans hm)
  clear hm
  have ⟨c_HT, z_HT, f_HT⟩ := HT.out
  go_wp2
  refine bodyPost_ret (v := .agg #[.int .i64 3, .int .i64 x, .string s]) (by simp [results, Tryz.results130, go_sem, c_HT]) rfl ⟨⟨3, x, s⟩, rfl, hs20, HM.out.low (B := w.heap.size) bEb (Nat.le_refl _) hk⟩
 case false.false =>
  go_wp2_with fail
  refine (specKeyNum k _ HM.out.2).mono ?_
  rintro e w3 ⟨x, rfl, hm⟩
  replace HT := Lib.hid (HT.out.mov hm (by omega))
  replace HM := Lib.hid (HM.out.trans hm)
  clear hm
  have ⟨c_HT, z_HT, f_HT⟩ := HT.out
  go_wp2
  exact bodyPost_ret (v := .agg #[.int .i64 1, .int .i64 x, .string ⟨#[]⟩]) (by simp [results, Tryz.results130, go_sem, c_HT]) rfl ⟨⟨1, x, ⟨#[]⟩⟩, rfl, Nat.zero_le _, HM.out.low (B := w.heap.size) bEb (Nat.le_refl _) hk⟩

set_option maxRecDepth 100000 in
set_option maxHeartbeats 3200000 in
theorem specAnyKey (k : Kur) (w : World) (h : Cur w k) : Calls Tryz.prog 88 #[.pointer (some ⟨k.k, 0, none⟩)] w fun e w' => ∃ x : DKey, e = .returned (.agg #[.int .i64 x.kind, .int .i64 x.n, .string x.text]) ∧ x.text.size ≤ 20 ∧ Mov k w w' := by
 have hk := h.lt
 go_enter Tryz.func88, Tryz.ntmps88
 go_wp2_with fail
 refine (specKey k _ (h.below bEl)).mono ?_
 rintro e w1 ⟨x, rfl, hx, hm⟩
 have HT : Hid (WB w1 w.heap.size #[.int .i64 0, .int .i64 0, .string ⟨#[]⟩]) := Lib.hid ((WB.at rfl).mov hm (by omega))
 have HM : Hid (Mov k w w1) := Lib.hid (Mov.belowL bEl hm)
 have hz1 := HT.out.lt
 clear hm
 go_wp2_with fail
 refine (specBelow k _ _ (HM.out.2.below bEl)).mono ?_
 rintro e w2 ⟨b, rfl, _, _, hm⟩
 obtain ⟨kb, hkb⟩ : ∃ kb, kb = w1.heap.size := ⟨_, rfl⟩
 have HX : Hid (WB w2 kb #[.int .i64 x.kind, .int .i64 x.n, .string x.text]) := Lib.hid (by rw [hkb]; exact (WB.at rfl).mov hm (by have := HM.out.2.lt; omega))
 replace HT := Lib.hid (HT.out.growA.mov hm (by omega))
 have hkk : kb ≠ k.k := by have := HM.out.2.lt; omega
 replace HM := Lib.hid (HM.out.trans (Mov.belowL bEl hm))
 rw [← hkb]
 have hkw : w.heap.size < kb := by omega
 clear hm hkb hz1
 cases n0 : (b == 0)
 case' false => cases n1 : (b == 1)
 case' false.false => cases n2 : (b == 2)
 case false.false.false =>
  have ⟨c_HX, z_HX, f_HX⟩ := HX.out
  have ⟨c_HT, z_HT, f_HT⟩ := HT.out
  go_upto_region 9 with fail
  refine settle (fun W => ∃ x : DKey, WB W kb #[.int .i64 x.kind, .int .i64 x.n, .string x.text] ∧ WB W w.heap.size #[.int .i64 0, .int .i64 0, .string ⟨#[]⟩] ∧ x.text.size ≤ 20 ∧ Mov k w W) ⟨x, HX.out.keep bEl, HT.out.keep bEl, hx, HM.out.below bEl⟩ ?_
  clear c_HX z_HX f_HX c_HT z_HT f_HT
  clear HX HT HM
  rintro w9 ⟨y, hx, ht, hsz, hm⟩
  have HX := Lib.hid hx
  have HT := Lib.hid ht
  have ⟨c_HX, z_HX, f_HX⟩ := HX.out
  have ⟨c_HT, z_HT, f_HT⟩ := HT.out
  go_wp2
  exact bodyPost_ret (v := .agg #[.int .i64 y.kind, .int .i64 y.n, .string y.text]) (by simp [results, Tryz.results88, go_sem, c_HT]) rfl ⟨y, rfl, hsz, hm.low (B := w.heap.size) bEb (Nat.le_refl _) hk⟩
 case true =>
  have ⟨c_HX, z_HX, f_HX⟩ := HX.out
  have ⟨c_HT, z_HT, f_HT⟩ := HT.out
  go_wp2_with fail
  refine (specBelow k _ _ HM.out.2).mono ?_
  rintro e w8 ⟨d, rfl, _, _, hm⟩
  clear c_HX z_HX f_HX c_HT z_HT f_HT
  have hz8 := hm.size
  replace HX := Lib.hid (HX.out.mov hm (by omega))
  replace HT := Lib.hid (HT.out.mov hm (by omega))
  replace HM := Lib.hid (HM.out.trans hm)
  clear hm
  have ⟨c_HX, z_HX, f_HX⟩ := HX.out
  have ⟨c_HT, z_HT, f_HT⟩ := HT.out
  go_upto_region 9 with fail
  refine settle (fun W => ∃ x : DKey, WB W kb #[.int .i64 x.kind, .int .i64 x.n, .string x.text] ∧ WB W w.heap.size #[.int .i64 0, .int .i64 0, .string ⟨#[]⟩] ∧ x.text.size ≤ 20 ∧ Mov k w W) ⟨⟨d, x.n, x.text⟩, HX.out.setAt (i := 0) (by simp) rfl, HT.out.setOther (by omega), hx, HM.out.low (B := w.heap.size) bEb (Nat.le_refl _) hk⟩ ?_
  clear c_HX z_HX f_HX c_HT z_HT f_HT
  clear HX HT HM
  rintro w9 ⟨y, hx, ht, hsz, hm⟩
  have HX := Lib.hid hx
  have HT := Lib.hid ht
  have ⟨c_HX, z_HX, f_HX⟩ := HX.out
  have ⟨c_HT, z_HT, f_HT⟩ := HT.out
  go_wp2
  exact bodyPost_ret (v := .agg #[.int .i64 y.kind, .int .i64 y.n, .string y.text]) (by simp [results, Tryz.results88, go_sem, c_HT]) rfl ⟨y, rfl, hsz, hm.low (B := w.heap.size) bEb (Nat.le_refl _) hk⟩
 case false.true =>
  have ⟨c_HX, z_HX, f_HX⟩ := HX.out
  have ⟨c_HT, z_HT, f_HT⟩ := HT.out
  go_wp2_with fail
  refine (specLitInt k [-1000000000001, 1000000000001, 5] _ HM.out.2 rfl rfl rfl (by decide) (by decide)).mono ?_
  rintro e w8 ⟨d, rfl, _, hm⟩
  clear c_HX z_HX f_HX c_HT z_HT f_HT
  have hz8 := hm.size
  replace HX := Lib.hid (HX.out.mov hm (by omega))
  replace HT := Lib.hid (HT.out.mov hm (by omega))
  replace HM := Lib.hid (HM.out.trans hm)
  clear hm
  have ⟨c_HX, z_HX, f_HX⟩ := HX.out
  have ⟨c_HT, z_HT, f_HT⟩ := HT.out
  go_upto_region 9 with fail
  refine settle (fun W => ∃ x : DKey, WB W kb #[.int .i64 x.kind, .int .i64 x.n, .string x.text] ∧ WB W w.heap.size #[.int .i64 0, .int .i64 0, .string ⟨#[]⟩] ∧ x.text.size ≤ 20 ∧ Mov k w W) ⟨⟨x.kind, d, x.text⟩, HX.out.setAt (i := 1) (by simp) rfl, HT.out.setOther (by omega), hx, HM.out.low (B := w.heap.size) bEb (Nat.le_refl _) hk⟩ ?_
  clear c_HX z_HX f_HX c_HT z_HT f_HT
  clear HX HT HM
  rintro w9 ⟨y, hx, ht, hsz, hm⟩
  have HX := Lib.hid hx
  have HT := Lib.hid ht
  have ⟨c_HX, z_HX, f_HX⟩ := HX.out
  have ⟨c_HT, z_HT, f_HT⟩ := HT.out
  go_wp2
  exact bodyPost_ret (v := .agg #[.int .i64 y.kind, .int .i64 y.n, .string y.text]) (by simp [results, Tryz.results88, go_sem, c_HT]) rfl ⟨y, rfl, hsz, hm.low (B := w.heap.size) bEb (Nat.le_refl _) hk⟩
 case false.false.true =>
  have ⟨c_HX, z_HX, f_HX⟩ := HX.out
  have ⟨c_HT, z_HT, f_HT⟩ := HT.out
  go_wp2_with fail
  refine (specLitStr k [⟨#[65]⟩, ⟨#[97, 32, 98]⟩, ⟨#[97, 98, 99, 100, 101, 102, 103, 104, 105, 106, 107, 108, 109]⟩, ⟨#[120, 39]⟩] _ HM.out.2 rfl rfl rfl (by decide) (by decide) (by decide)).mono ?_
  rintro e w8 ⟨d, rfl, hd, hm⟩
  clear c_HX z_HX f_HX c_HT z_HT f_HT
  have hz8 := hm.size
  replace HX := Lib.hid (HX.out.mov hm (by omega))
  replace HT := Lib.hid (HT.out.mov hm (by omega))
  replace HM := Lib.hid (HM.out.trans hm)
  clear hm
  have ⟨c_HX, z_HX, f_HX⟩ := HX.out
  have ⟨c_HT, z_HT, f_HT⟩ := HT.out
  have hd20 := odd_small hd
  clear hd
  go_upto_region 9 with fail
  refine settle (fun W => ∃ x : DKey, WB W kb #[.int .i64 x.kind, .int .i64 x.n, .string x.text] ∧ WB W w.heap.size #[.int .i64 0, .int .i64 0, .string ⟨#[]⟩] ∧ x.text.size ≤ 20 ∧ Mov k w W) ⟨⟨x.kind, x.n, d⟩, HX.out.setAt (i := 2) (by simp) rfl, HT.out.setOther (by omega), hd20, HM.out.low (B := w.heap.size) bEb (Nat.le_refl _) hk⟩ ?_
  clear c_HX z_HX f_HX c_HT z_HT f_HT
  clear HX HT HM
  rintro w9 ⟨y, hx, ht, hsz, hm⟩
  have HX := Lib.hid hx
  have HT := Lib.hid ht
  have ⟨c_HX, z_HX, f_HX⟩ := HX.out
  have ⟨c_HT, z_HT, f_HT⟩ := HT.out
  go_wp2
  exact bodyPost_ret (v := .agg #[.int .i64 y.kind, .int .i64 y.n, .string y.text]) (by simp [results, Tryz.results88, go_sem, c_HT]) rfl ⟨y, rfl, hsz, hm.low (B := w.heap.size) bEb (Nat.le_refl _) hk⟩

end Go.Proofs.YtlfebehpmefioaaGreat

/-
 The draws of writes and outboxes: what is drawn is small.
-/
namespace Go.Proofs.YtlfebehpmefioaaGreat
open Go.RowKit

theorem Mov.cur {k : Kur} {a b : World} (h : Mov k a b) : Cur b k := h.2

set_option maxRecDepth 100000 in
set_option maxHeartbeats 3200000 in
theorem specWrite (k : Kur) (w : World) (h : Cur w k) : Calls Tryz.prog 41 #[.pointer (some ⟨k.k, 0, none⟩)] w fun e w' => ∃ x : DWrite, e = .returned (.agg #[.int .i64 x.device, .int .i64 x.seq, .int .i64 x.key.kind, .int .i64 x.key.n, .string x.key.text, .string x.field, .int .i64 x.n]) ∧ (x.key.text.size ≤ 20 ∧ x.field.size ≤ 20) ∧ Mov k w w' := by
 have hk := h.lt
 go_enter Tryz.func41, Tryz.ntmps41
 go_wp2_with fail
 refine (specBelow k _ _ (h.below bEl)).mono ?_
 rintro e w1 ⟨d, rfl, _, _, hm⟩
 have HT : Hid (WB w1 w.heap.size #[.int .i64 0, .int .i64 0, .int .i64 0, .int .i64 0, .string ⟨#[]⟩, .string ⟨#[]⟩, .int .i64 0]) := Lib.hid ((WB.at rfl).mov hm (by omega))
 have HM : Hid (Mov k w w1) := Lib.hid (Mov.belowL bEl hm)
 have hz1 := HT.out.lt
 clear hm
 go_wp2_with fail
 refine (specBelow k _ _ HM.out.2).mono ?_
 rintro e w2 ⟨s, rfl, _, _, hm⟩
 replace HT := Lib.hid (HT.out.mov hm (by omega))
 replace HM := Lib.hid (HM.out.trans hm)
 clear hm
 go_wp2_with fail
 refine (specSmallKey k _ HM.out.2).mono ?_
 rintro e w3 ⟨y, rfl, hy, hm⟩
 replace HT := Lib.hid (HT.out.mov hm (by omega))
 replace HM := Lib.hid (HM.out.trans hm)
 clear hm
 go_wp2_with fail
 refine (specName k _ HM.out.2).mono ?_
 rintro e w4 ⟨f, rfl, hf, hm⟩
 replace HT := Lib.hid (HT.out.mov hm (by omega))
 replace HM := Lib.hid (HM.out.trans hm)
 clear hm
 go_wp2_with fail
 refine (specBelow k _ _ HM.out.2).mono ?_
 rintro e w5 ⟨n, rfl, _, _, hm⟩
 replace HT := Lib.hid (HT.out.mov hm (by omega))
 replace HM := Lib.hid (HM.out.trans hm)
 clear hm
 have hz5 := HT.out.lt
 obtain ⟨x, hx⟩ : ∃ x : DWrite, x = ⟨1 + d, 1 + s, y, f, n⟩ := ⟨_, rfl⟩
 have hxs : x.key.text.size ≤ 20 ∧ x.field.size ≤ 20 := by rw [hx]; exact ⟨hy, hf⟩
 have HEx := Lib.hid hx
 clear hx
 have hx := hxs
 clear hxs hy hf
 go_wp2_with fail
 refine (specBelow k _ _ (HM.out.2.below bEl)).mono ?_
 rintro e w6 ⟨b, rfl, _, _, hm⟩
 obtain ⟨kb, hkb⟩ : ∃ kb, kb = w5.heap.size := ⟨_, rfl⟩
 have HX : Hid (WB w6 kb #[.int .i64 x.device, .int .i64 x.seq, .int .i64 x.key.kind, .int .i64 x.key.n, .string x.key.text, .string x.field, .int .i64 x.n]) := Lib.hid (by rw [hkb, HEx.out]; exact (WB.at rfl).mov hm (by have := HM.out.2.lt; omega))
 replace HT := Lib.hid (HT.out.growA.mov hm (by omega))
 have hkk : kb ≠ k.k := by have := HM.out.2.lt; omega
 replace HM := Lib.hid (HM.out.trans (Mov.belowL bEl hm))
 rw [← hkb]
 have hkw : w.heap.size < kb := by omega
 clear hm hkb hz1 hz5 HEx
 cases n0 : (b == 0)
 case' false => cases n1 : (b == 1)
 case' false.false => cases n2 : (b == 2)
 case' false.false.false => cases n3 : (b == 3)
 case' false.false.false.false => cases n4 : (b == 4)
 case false.false.false.false.false =>
  have ⟨c_HX, z_HX, f_HX⟩ := HX.out
  have ⟨c_HT, z_HT, f_HT⟩ := HT.out
  go_upto_region 13 with fail
  refine settle (fun W => ∃ x : DWrite, WB W kb #[.int .i64 x.device, .int .i64 x.seq, .int .i64 x.key.kind, .int .i64 x.key.n, .string x.key.text, .string x.field, .int .i64 x.n] ∧ WB W w.heap.size #[.int .i64 0, .int .i64 0, .int .i64 0, .int .i64 0, .string ⟨#[]⟩, .string ⟨#[]⟩, .int .i64 0] ∧ (x.key.text.size ≤ 20 ∧ x.field.size ≤ 20) ∧ Mov k w W) ⟨x, HX.out.keep bEl, HT.out.keep bEl, hx, HM.out.below bEl⟩ ?_
  clear c_HX z_HX f_HX c_HT z_HT f_HT
  clear HX HT HM
  rintro w9 ⟨y, hx, ht, hsz, hm⟩
  have HX := Lib.hid hx
  have HT := Lib.hid ht
  have ⟨c_HX, z_HX, f_HX⟩ := HX.out
  have ⟨c_HT, z_HT, f_HT⟩ := HT.out
  go_wp2
  exact bodyPost_ret (v := .agg #[.int .i64 y.device, .int .i64 y.seq, .int .i64 y.key.kind, .int .i64 y.key.n, .string y.key.text, .string y.field, .int .i64 y.n]) (by simp [results, Tryz.results41, go_sem, c_HT]) rfl ⟨y, rfl, hsz, hm.low (B := w.heap.size) bEb (Nat.le_refl _) hk⟩
 case true =>
  have ⟨c_HX, z_HX, f_HX⟩ := HX.out
  have ⟨c_HT, z_HT, f_HT⟩ := HT.out
  go_wp2_with fail
  refine (specLitInt k [0, 1000000, 1000001] _ HM.out.2 rfl rfl rfl (by decide) (by decide)).mono ?_
  rintro e w8 ⟨v, rfl, _, hm⟩
  clear c_HX z_HX f_HX c_HT z_HT f_HT
  have hz8 := hm.size
  replace HX := Lib.hid (HX.out.mov hm (by omega))
  replace HT := Lib.hid (HT.out.mov hm (by omega))
  replace HM := Lib.hid (HM.out.trans hm)
  clear hm
  have ⟨c_HX, z_HX, f_HX⟩ := HX.out
  have ⟨c_HT, z_HT, f_HT⟩ := HT.out
  go_upto_region 13 with fail
  refine settle (fun W => ∃ x : DWrite, WB W kb #[.int .i64 x.device, .int .i64 x.seq, .int .i64 x.key.kind, .int .i64 x.key.n, .string x.key.text, .string x.field, .int .i64 x.n] ∧ WB W w.heap.size #[.int .i64 0, .int .i64 0, .int .i64 0, .int .i64 0, .string ⟨#[]⟩, .string ⟨#[]⟩, .int .i64 0] ∧ (x.key.text.size ≤ 20 ∧ x.field.size ≤ 20) ∧ Mov k w W) ⟨⟨v, x.seq, x.key, x.field, x.n⟩, HX.out.setAt (i := 0) (by simp) rfl, HT.out.setOther (by omega), hx, HM.out.low (B := w.heap.size) bEb (Nat.le_refl _) hk⟩ ?_
  clear c_HX z_HX f_HX c_HT z_HT f_HT
  clear HX HT HM
  rintro w9 ⟨y, hx, ht, hsz, hm⟩
  have HX := Lib.hid hx
  have HT := Lib.hid ht
  have ⟨c_HX, z_HX, f_HX⟩ := HX.out
  have ⟨c_HT, z_HT, f_HT⟩ := HT.out
  go_wp2
  exact bodyPost_ret (v := .agg #[.int .i64 y.device, .int .i64 y.seq, .int .i64 y.key.kind, .int .i64 y.key.n, .string y.key.text, .string y.field, .int .i64 y.n]) (by simp [results, Tryz.results41, go_sem, c_HT]) rfl ⟨y, rfl, hsz, hm.low (B := w.heap.size) bEb (Nat.le_refl _) hk⟩
 case false.true =>
  have ⟨c_HX, z_HX, f_HX⟩ := HX.out
  have ⟨c_HT, z_HT, f_HT⟩ := HT.out
  go_wp2_with fail
  refine (specLitInt k [0, 1000000, 1000001] _ HM.out.2 rfl rfl rfl (by decide) (by decide)).mono ?_
  rintro e w8 ⟨v, rfl, _, hm⟩
  clear c_HX z_HX f_HX c_HT z_HT f_HT
  have hz8 := hm.size
  replace HX := Lib.hid (HX.out.mov hm (by omega))
  replace HT := Lib.hid (HT.out.mov hm (by omega))
  replace HM := Lib.hid (HM.out.trans hm)
  clear hm
  have ⟨c_HX, z_HX, f_HX⟩ := HX.out
  have ⟨c_HT, z_HT, f_HT⟩ := HT.out
  go_upto_region 13 with fail
  refine settle (fun W => ∃ x : DWrite, WB W kb #[.int .i64 x.device, .int .i64 x.seq, .int .i64 x.key.kind, .int .i64 x.key.n, .string x.key.text, .string x.field, .int .i64 x.n] ∧ WB W w.heap.size #[.int .i64 0, .int .i64 0, .int .i64 0, .int .i64 0, .string ⟨#[]⟩, .string ⟨#[]⟩, .int .i64 0] ∧ (x.key.text.size ≤ 20 ∧ x.field.size ≤ 20) ∧ Mov k w W) ⟨⟨x.device, v, x.key, x.field, x.n⟩, HX.out.setAt (i := 1) (by simp) rfl, HT.out.setOther (by omega), hx, HM.out.low (B := w.heap.size) bEb (Nat.le_refl _) hk⟩ ?_
  clear c_HX z_HX f_HX c_HT z_HT f_HT
  clear HX HT HM
  rintro w9 ⟨y, hx, ht, hsz, hm⟩
  have HX := Lib.hid hx
  have HT := Lib.hid ht
  have ⟨c_HX, z_HX, f_HX⟩ := HX.out
  have ⟨c_HT, z_HT, f_HT⟩ := HT.out
  go_wp2
  exact bodyPost_ret (v := .agg #[.int .i64 y.device, .int .i64 y.seq, .int .i64 y.key.kind, .int .i64 y.key.n, .string y.key.text, .string y.field, .int .i64 y.n]) (by simp [results, Tryz.results41, go_sem, c_HT]) rfl ⟨y, rfl, hsz, hm.low (B := w.heap.size) bEb (Nat.le_refl _) hk⟩
 case false.false.true =>
  have ⟨c_HX, z_HX, f_HX⟩ := HX.out
  have ⟨c_HT, z_HT, f_HT⟩ := HT.out
  go_wp2_with fail
  refine (specAnyKey k _ HM.out.2).mono ?_
  rintro e w8 ⟨v, rfl, hv, hm⟩
  clear c_HX z_HX f_HX c_HT z_HT f_HT
  have hz8 := hm.size
  replace HX := Lib.hid (HX.out.mov hm (by omega))
  replace HT := Lib.hid (HT.out.mov hm (by omega))
  replace HM := Lib.hid (HM.out.trans hm)
  clear hm
  have ⟨c_HX, z_HX, f_HX⟩ := HX.out
  have ⟨c_HT, z_HT, f_HT⟩ := HT.out
  go_upto_region 13 with fail
  refine settle (fun W => ∃ x : DWrite, WB W kb #[.int .i64 x.device, .int .i64 x.seq, .int .i64 x.key.kind, .int .i64 x.key.n, .string x.key.text, .string x.field, .int .i64 x.n] ∧ WB W w.heap.size #[.int .i64 0, .int .i64 0, .int .i64 0, .int .i64 0, .string ⟨#[]⟩, .string ⟨#[]⟩, .int .i64 0] ∧ (x.key.text.size ≤ 20 ∧ x.field.size ≤ 20) ∧ Mov k w W) ⟨⟨x.device, x.seq, v, x.field, x.n⟩, ((HX.out.setAt (i := 2) (cs' := #[.int .i64 x.device, .int .i64 x.seq, .int .i64 v.kind, .int .i64 x.key.n, .string x.key.text, .string x.field, .int .i64 x.n]) (by simp) rfl).setAt (i := 3) (cs' := #[.int .i64 x.device, .int .i64 x.seq, .int .i64 v.kind, .int .i64 v.n, .string x.key.text, .string x.field, .int .i64 x.n]) (by simp) rfl).setAt (i := 4) (cs' := #[.int .i64 x.device, .int .i64 x.seq, .int .i64 v.kind, .int .i64 v.n, .string v.text, .string x.field, .int .i64 x.n]) (by simp) rfl, ((HT.out.setOther (by omega)).setOther (by omega)).setOther (by omega), ⟨hv, hx.2⟩, HM.out.low (B := w.heap.size) bEb (Nat.le_refl _) hk⟩ ?_
  clear c_HX z_HX f_HX c_HT z_HT f_HT
  clear HX HT HM
  rintro w9 ⟨y, hx, ht, hsz, hm⟩
  have HX := Lib.hid hx
  have HT := Lib.hid ht
  have ⟨c_HX, z_HX, f_HX⟩ := HX.out
  have ⟨c_HT, z_HT, f_HT⟩ := HT.out
  go_wp2
  exact bodyPost_ret (v := .agg #[.int .i64 y.device, .int .i64 y.seq, .int .i64 y.key.kind, .int .i64 y.key.n, .string y.key.text, .string y.field, .int .i64 y.n]) (by simp [results, Tryz.results41, go_sem, c_HT]) rfl ⟨y, rfl, hsz, hm.low (B := w.heap.size) bEb (Nat.le_refl _) hk⟩
 case false.false.false.true =>
  have ⟨c_HX, z_HX, f_HX⟩ := HX.out
  have ⟨c_HT, z_HT, f_HT⟩ := HT.out
  go_upto_region 13 with fail
  refine settle (fun W => ∃ x : DWrite, WB W kb #[.int .i64 x.device, .int .i64 x.seq, .int .i64 x.key.kind, .int .i64 x.key.n, .string x.key.text, .string x.field, .int .i64 x.n] ∧ WB W w.heap.size #[.int .i64 0, .int .i64 0, .int .i64 0, .int .i64 0, .string ⟨#[]⟩, .string ⟨#[]⟩, .int .i64 0] ∧ (x.key.text.size ≤ 20 ∧ x.field.size ≤ 20) ∧ Mov k w W) ⟨⟨x.device, x.seq, x.key, ⟨#[]⟩, x.n⟩, HX.out.setAt (i := 5) (by simp) rfl, HT.out.setOther (by omega), ⟨hx.1, Nat.zero_le _⟩, HM.out.low (B := w.heap.size) bEb (Nat.le_refl _) hk⟩ ?_
  clear c_HX z_HX f_HX c_HT z_HT f_HT
  clear HX HT HM
  rintro w9 ⟨y, hx, ht, hsz, hm⟩
  have HX := Lib.hid hx
  have HT := Lib.hid ht
  have ⟨c_HX, z_HX, f_HX⟩ := HX.out
  have ⟨c_HT, z_HT, f_HT⟩ := HT.out
  go_wp2
  exact bodyPost_ret (v := .agg #[.int .i64 y.device, .int .i64 y.seq, .int .i64 y.key.kind, .int .i64 y.key.n, .string y.key.text, .string y.field, .int .i64 y.n]) (by simp [results, Tryz.results41, go_sem, c_HT]) rfl ⟨y, rfl, hsz, hm.low (B := w.heap.size) bEb (Nat.le_refl _) hk⟩
 case false.false.false.false.true =>
  have ⟨c_HX, z_HX, f_HX⟩ := HX.out
  have ⟨c_HT, z_HT, f_HT⟩ := HT.out
  go_wp2_with fail
  refine (specLitInt k [-1, 1000000000, 1000000001] _ HM.out.2 rfl rfl rfl (by decide) (by decide)).mono ?_
  rintro e w8 ⟨v, rfl, _, hm⟩
  clear c_HX z_HX f_HX c_HT z_HT f_HT
  have hz8 := hm.size
  replace HX := Lib.hid (HX.out.mov hm (by omega))
  replace HT := Lib.hid (HT.out.mov hm (by omega))
  replace HM := Lib.hid (HM.out.trans hm)
  clear hm
  have ⟨c_HX, z_HX, f_HX⟩ := HX.out
  have ⟨c_HT, z_HT, f_HT⟩ := HT.out
  go_upto_region 13 with fail
  refine settle (fun W => ∃ x : DWrite, WB W kb #[.int .i64 x.device, .int .i64 x.seq, .int .i64 x.key.kind, .int .i64 x.key.n, .string x.key.text, .string x.field, .int .i64 x.n] ∧ WB W w.heap.size #[.int .i64 0, .int .i64 0, .int .i64 0, .int .i64 0, .string ⟨#[]⟩, .string ⟨#[]⟩, .int .i64 0] ∧ (x.key.text.size ≤ 20 ∧ x.field.size ≤ 20) ∧ Mov k w W) ⟨⟨x.device, x.seq, x.key, x.field, v⟩, HX.out.setAt (i := 6) (by simp) rfl, HT.out.setOther (by omega), hx, HM.out.low (B := w.heap.size) bEb (Nat.le_refl _) hk⟩ ?_
  clear c_HX z_HX f_HX c_HT z_HT f_HT
  clear HX HT HM
  rintro w9 ⟨y, hx, ht, hsz, hm⟩
  have HX := Lib.hid hx
  have HT := Lib.hid ht
  have ⟨c_HX, z_HX, f_HX⟩ := HX.out
  have ⟨c_HT, z_HT, f_HT⟩ := HT.out
  go_wp2
  exact bodyPost_ret (v := .agg #[.int .i64 y.device, .int .i64 y.seq, .int .i64 y.key.kind, .int .i64 y.key.n, .string y.key.text, .string y.field, .int .i64 y.n]) (by simp [results, Tryz.results41, go_sem, c_HT]) rfl ⟨y, rfl, hsz, hm.low (B := w.heap.size) bEb (Nat.le_refl _) hk⟩

theorem enqueue_len (x : DOutbox) (k : DKey) (f : ByteArray) (n : Int) : (enqueueF x k f n).writes.length ≤ x.writes.length + 1 := by
 unfold enqueueF
 split
 ·show (x.writes ++ [newWrite x k f n]).length ≤ _; simp
 ·omega
theorem ack_len (x : DOutbox) (n : Int) : (ackWritesF x n).writes.length ≤ x.writes.length := by
 unfold ackWritesF
 split
 ·exact List.length_filter_le _ _
 ·exact Nat.le_refl _
theorem four_mem {x : Int} (h : x ∈ [(0 : Int), 2, 4, 6]) : 0 ≤ x ∧ x ≤ 6 := by
 simp only [List.mem_cons, List.not_mem_nil, or_false] at h
 omega

end Go.Proofs.YtlfebehpmefioaaGreat

/-
 The draws of outboxes: what is drawn is small, numbered low.
-/
namespace Go.Proofs.YtlfebehpmefioaaGreat
open Go.RowKit

theorem enqueue_next (x : DOutbox) (k : DKey) (f : ByteArray) (n : Int) (h : x.next ≤ 1000000) (h0 : 0 ≤ x.next) : (enqueueF x k f n).next ≤ x.next + 1 ∧ 0 ≤ (enqueueF x k f n).next := by
 unfold enqueueF
 split
 ·show wrap64 (x.next + 1) ≤ _ ∧ 0 ≤ wrap64 (x.next + 1)
  rw [Go.IntWalk.wrap64_in _ (by omega)]
  omega
 ·omega
theorem ack_next (x : DOutbox) (n : Int) : (ackWritesF x n).next = x.next := by
 unfold ackWritesF ackOut
 split <;> rfl
theorem new_next (d : Int) : 0 ≤ (newOutboxF d).next ∧ (newOutboxF d).next ≤ 1 := by
 unfold newOutboxF
 split
 ·show 0 ≤ (1 : Int) ∧ (1 : Int) ≤ 1; decide
 ·show 0 ≤ (0 : Int) ∧ (0 : Int) ≤ 1; decide

set_option maxRecDepth 100000 in
set_option maxHeartbeats 1600000 in
theorem specKeyV (k : Kur) (w : World) (h : Cur w k) : Calls Tryz.prog 86 #[.pointer (some ⟨k.k, 0, none⟩)] w fun e w' => ∃ b : Int, e = .returned (.agg #[.int .i64 1, .int .i64 b, .string ⟨#[]⟩]) ∧ 0 ≤ b ∧ b < 6 ∧ Mov k w w' := by
 have hk := h.lt
 go_enter Tryz.func86, Tryz.ntmps86
 go_wp2_with fail
 refine (specBelow k _ _ (h.below bEl)).mono ?_
 rintro e w1 ⟨b, rfl, h0, h6, hm⟩
 have HT : Hid (WB w1 w.heap.size #[.int .i64 0, .int .i64 0, .string ⟨#[]⟩]) := Lib.hid ((WB.at rfl).mov hm (by omega))
 have HM : Hid (Mov k w w1) := Lib.hid (Mov.belowL bEl hm)
 clear hm
 have ⟨c_HT, z_HT, f_HT⟩ := HT.out
 go_wp2
 refine bodyPost_ret (v := .agg #[.int .i64 1, .int .i64 b, .string ⟨#[]⟩]) (by simp [results, Tryz.results86, go_sem, c_HT]) rfl ⟨b, rfl, h0, h6 (by decide), HM.out.low (B := w.heap.size) bEb (Nat.le_refl _) hk⟩

set_option maxRecDepth 100000 in
set_option maxHeartbeats 3200000 in
theorem specBox (k : Kur) (d : Int) (w : World) (h : Cur w k) : Calls Tryz.prog 153 #[.pointer (some ⟨k.k, 0, none⟩), .int .i64 d] w fun e w' => ∃ (ds : List Value) (x : DOutbox), e = .returned (.agg ds.toArray) ∧ Fresh DOutbox.rep w.heap.size w' ds x ∧ (x.writes.length ≤ 12 ∧ 0 ≤ x.next ∧ x.next ≤ 7) ∧ Mov k w w' := by
 have hk := h.lt
 have HRK : Hid (∀ (W : World) (y : DKey), y.text.size ≤ 20 → Reads DKey.rep W [.int .i64 y.kind, .int .i64 y.n, .string y.text] y) := Lib.hid fun W y hy => ⟨[], DKey.rd.2 ⟨rfl, rfl, by unfold maxLen; omega⟩⟩
 go_enter Tryz.func153, Tryz.ntmps153
 go_wp2_with fail
 refine (specNewOutbox d _).mono ?_
 rintro e w1 ⟨ds, rfl, hf, hb⟩
 obtain ⟨a1, c1, rfl, hg⟩ := DOutbox.fopen hf
 clear hf
 have HT : Hid (WB w1 w.heap.size #[.int .i64 0, .int .i64 0, .slice none 0 0]) := Lib.hid ((WB.at rfl).keep hb)
 have HM : Hid (Mov k w w1) := Lib.hid (Mov.below (Mov.refl h) (below_call bEl bSz hb))
 have hz1 := HT.out.lt
 have hl : (newOutboxF d).writes.length ≤ 0 := by unfold newOutboxF; split <;> exact Nat.le_refl _
 have hnx := new_next d
 obtain ⟨x, hx⟩ : ∃ x, newOutboxF d = x := ⟨_, rfl⟩
 rw [hx] at hg hl hnx
 rw [hx]
 have HF : Hid (Fresh (Rep.slice 34 DWrite.rep) (w.heap.size + 1) w1 [.slice a1 x.writes.length c1] x.writes) := Lib.hid (hg.mono (by simp))
 have hl6 : x.writes.length ≤ 6 := by omega
 clear hx hg hb hl
 go_upto_region 2 with fail
 refine settle (fun W => ∃ kb, kb = w1.heap.size ∧ WB W kb #[.int .i64 x.device, .int .i64 x.next, .slice a1 x.writes.length c1] ∧ WB W w.heap.size #[.int .i64 0, .int .i64 0, .slice none 0 0] ∧ Fresh (Rep.slice 34 DWrite.rep) (w.heap.size + 1) W [.slice a1 x.writes.length c1] x.writes ∧ Mov k w W) ⟨_, rfl, WB.at rfl, HT.out.growA, HF.out.below (belA belR), HM.out.below bEl⟩ ?_
 clear HT HF HM
 rintro w2 ⟨kb, hkb, hx, ht, hf, hm⟩
 have hkk : w.heap.size < kb ∧ k.k < kb := by omega
 rw [← hkb]
 have HX := Lib.hid hx
 have HT := Lib.hid ht
 have HF := Lib.hid hf
 have HM := Lib.hid hm
 clear hx ht hf hm hkb
 have ⟨c_HX, z_HX, f_HX⟩ := HX.out
 have ⟨c_HT, z_HT, f_HT⟩ := HT.out
 go_wp2_with fail
 refine (specLitInt k [0, 2, 4, 6] _ HM.out.2 rfl rfl rfl (by decide) (by decide)).mono ?_
 rintro e w3 ⟨i, rfl, hi, hm⟩
 have hi6 := four_mem hi
 clear hi
 clear c_HX z_HX f_HX c_HT z_HT f_HT
 have hkz := HX.out.lt
 replace HX := Lib.hid (HX.out.mov hm (by omega))
 replace HT := Lib.hid (HT.out.mov hm (by omega))
 replace HF := Lib.hid (HF.out.mov hm (by omega))
 replace HM := Lib.hid (HM.out.trans hm)
 clear hm hz1
 go_wp2
 go_loopw [7] (fun i wr => ∃ (n : Int) (x : DOutbox) (a1 : Option Addr) (c1 : Nat), i = .int .i64 n ∧ (0 ≤ n ∧ n ≤ 6 ∧ x.writes.length + n.toNat ≤ 12 ∧ 0 ≤ x.next ∧ x.next + n ≤ 7) ∧ WB wr kb #[.int .i64 x.device, .int .i64 x.next, .slice a1 x.writes.length c1] ∧ WB wr w.heap.size #[.int .i64 0, .int .i64 0, .slice none 0 0] ∧ Fresh (Rep.slice 34 DWrite.rep) (w.heap.size + 1) wr [.slice a1 x.writes.length c1] x.writes ∧ Mov k w wr) (fun i _ => (intOf i).toNat)
 case atStart => exact ⟨i, x, a1, c1, rfl, ⟨by omega, by omega, by omega, by omega, by omega⟩, HX.out, HT.out, HF.out, HM.out⟩
 case round =>
  clear HX HT HF HM hl6 hi6 hnx
  obtain ⟨n, x, a1, c1, rfl, hn, hx, ht, hf, hm⟩ := hrel
  have HN := Lib.hid hn
  have HT := Lib.hid ht
  have HF := Lib.hid hf
  have HM := Lib.hid hm
  have HX := Lib.hid hx
  clear hx ht hf hm hn
  have hzr := HX.out.lt
  by_cases hlt : 0 < n
  ·go_upto_region 5 with fail
   refine wp_region_mv k [10,11] (by kernel_rfl) ?_
   intro wd hbd
   have hwz := hbd.size
   replace HX := Lib.hid (HX.out.keep hbd)
   replace HT := Lib.hid (HT.out.keep hbd)
   replace HF := Lib.hid (HF.out.below hbd)
   replace HM := Lib.hid (HM.out.below hbd)
   clear hbd
   have hne : Nonempty (Moved k wd) := ⟨⟨wd, Mov.refl HM.out.cur⟩⟩
   have K_HX := mv_var (k := k) HX.out (by omega)
   refine wpU_group (fun _ _ _ _ _ h => h) (by kernel_rfl) (mv_of (Mov.refl HM.out.cur)) [0,1,3,5] _ _ _ rfl (by kernel_rfl) ?_
   repeat (go_big_quiet_step (fail))
   refine wpQuiet_nil ?_
   clear K_HX
   refine wpU_one 2 rfl (by kernel_rfl) ?_
   go_wp2_with fail
   refine (specSmallKey k _ HM.out.cur).mono ?_
   rintro e w2 ⟨y, rfl, hy, hm⟩
   go_wp2_with fail
   refine HardPost.mk (mv_of (hm)) ?_
   have HX2 := Lib.hid (HX.out.mov hm (by omega))
   have HT2 := Lib.hid (HT.out.mov hm (by omega))
   refine wpU_one 4 rfl (by kernel_rfl) ?_
   go_wp2_with fail
   refine (specName k _ hm.cur).mono ?_
   rintro e w3 ⟨f, rfl, hf3, hm3⟩
   have mm3 := hm.trans hm3
   go_wp2_with fail
   refine HardPost.mk (mv_of (mm3)) ?_
   refine wpU_one 6 rfl (by kernel_rfl) ?_
   go_wp2_with fail
   refine (specBelow k _ _ mm3.cur).mono ?_
   rintro e w4 ⟨m, rfl, _, _, hm4⟩
   have mm4 := mm3.trans hm4
   go_wp2_with fail
   refine HardPost.mk (mv_of (mm4)) ?_
   have hz4 := mm4.size
   refine wpU_one 7 rfl (by kernel_rfl) ?_
   go_wp2_with fail
   refine (specEnqueueWrite _ _ x y f m _ ((DOutbox.fmk (HF.out.mov mm4 (by omega))).reads) (HRK.out _ y hy) (by have := HN.out; omega) (by unfold maxLen; omega)).mono ?_
   rintro e w5 ⟨ds, rfl, hf5, hb5⟩
   obtain ⟨a5, c5, rfl, hg5⟩ := DOutbox.fopen hf5
   have mm5 := mm4.below hb5
   go_wp2_with fail
   refine HardPost.mk (mv_of (mm5)) ?_
   refine wpU_group (fun _ _ _ _ _ h => h) (by kernel_rfl) (mv_of (mm5)) [8,9,10] _ _ _ rfl (by kernel_rfl) ?_
   repeat (go_big_quiet_step (fail))
   refine wpQuiet_nil ?_
   replace HX := Lib.hid (HX.out.mov mm5 (by omega))
   have ⟨c_HX, z_HX, f_HX⟩ := HX.out
   refine wpU_tail [11] _ _ _ _ rfl (by kernel_rfl) ?_
   go_wp2_with fail
   refine NoPanic.normal ?_
   have hen := enqueue_len x y f m
   have hnx := enqueue_next x y f m (by have := HN.out; omega) HN.out.2.2.2.1
   have hn' := HN.out
   go_wp2_with fail
   go_light
   exact ⟨⟨n - 1, enqueueF x y f m, a5, c5, by go_num, ⟨by omega, by omega, by omega, by omega, by omega⟩, HX.out.set3, (((HT.out.mov mm5 (by omega)).setOther (by omega)).setOther (by omega)).setOther (by omega), Fresh.mono (B := w4.heap.size) (by repeat (first | with_reducible exact hg5 | with_reducible refine Fresh.setLow ?_ (by omega))) (by omega), (HM.out.trans mm5).low (B := w.heap.size) bEb (Nat.le_refl _) hk⟩, by simp [intOf]; omega⟩
  ·have hl12 : x.writes.length ≤ 12 ∧ 0 ≤ x.next ∧ x.next ≤ 7 := by have := HN.out; omega
   clear HN
   go_wp2_with fail
   refine (specOnce k _ _ HM.out.cur).mono ?_
   rintro e w2 ⟨b, rfl, hm⟩
   replace HX := Lib.hid (HX.out.mov hm (by omega))
   replace HT := Lib.hid (HT.out.mov hm (by omega))
   replace HF := Lib.hid (HF.out.mov hm (by omega))
   replace HM := Lib.hid (HM.out.trans hm)
   clear hm
   have hzr2 := HX.out.lt
   cases b
   ·have ⟨c_HX, z_HX, f_HX⟩ := HX.out
    have ⟨c_HT, z_HT, f_HT⟩ := HT.out
    go_wp2
    exact bodyPost_ret (v := .agg #[.int .i64 x.device, .int .i64 x.next, .slice a1 x.writes.length c1]) (by simp [results, Tryz.results153, go_sem, c_HT]) rfl ⟨_, x, rfl, DOutbox.fmk (Fresh.mono (B := w.heap.size + 1) (by repeat (first | with_reducible exact HF.out | with_reducible refine Fresh.setLow ?_ (by omega))) (by omega)), hl12, HM.out.low (B := w.heap.size) bEb (Nat.le_refl _) hk⟩
   ·go_upto_region 7 with fail
    refine wp_region_mv k [6,7] (by kernel_rfl) ?_
    intro wd hbd
    have hwz := hbd.size
    replace HX := Lib.hid (HX.out.keep hbd)
    replace HT := Lib.hid (HT.out.keep hbd)
    replace HF := Lib.hid (HF.out.below hbd)
    replace HM := Lib.hid (HM.out.below hbd)
    clear hbd
    have hne : Nonempty (Moved k wd) := ⟨⟨wd, Mov.refl HM.out.cur⟩⟩
    have K_HX := mv_var (k := k) HX.out (by omega)
    refine wpU_group (fun _ _ _ _ _ h => h) (by kernel_rfl) (mv_of (Mov.refl HM.out.cur)) [0,1] _ _ _ rfl (by kernel_rfl) ?_
    repeat (go_big_quiet_step (fail))
    refine wpQuiet_nil ?_
    clear K_HX
    refine wpU_one 2 rfl (by kernel_rfl) ?_
    go_wp2_with fail
    refine (specBelow k _ _ HM.out.cur).mono ?_
    rintro e w3 ⟨m, rfl, _, _, hm⟩
    go_wp2_with fail
    refine HardPost.mk (mv_of (hm)) ?_
    have hz3 := hm.size
    refine wpU_one 3 rfl (by kernel_rfl) ?_
    go_wp2_with fail
    refine (specAckWrites _ x m _ ((DOutbox.fmk (HF.out.mov hm (by omega))).reads) (by omega)).mono ?_
    rintro e w4 ⟨ds, rfl, hf4, hb4⟩
    obtain ⟨a4, c4, rfl, hg4⟩ := DOutbox.fopen hf4
    have mm4 := hm.below hb4
    go_wp2_with fail
    refine HardPost.mk (mv_of (mm4)) ?_
    refine wpU_group (fun _ _ _ _ _ h => h) (by kernel_rfl) (mv_of (mm4)) [4,5,6] _ _ _ rfl (by kernel_rfl) ?_
    repeat (go_big_quiet_step (fail))
    refine wpQuiet_nil ?_
    replace HX := Lib.hid (HX.out.mov mm4 (by omega))
    have ⟨c_HX, z_HX, f_HX⟩ := HX.out
    refine wpU_tail [7] _ _ _ _ rfl (by kernel_rfl) ?_
    go_wp2_with fail
    refine NoPanic.normal ?_
    have hal := ack_len x m
    have han := ack_next x m
    obtain ⟨y, hy⟩ : ∃ y, ackWritesF x m = y := ⟨_, rfl⟩
    rw [hy] at hg4 hal han ⊢
    have hl12 : y.writes.length ≤ 12 ∧ 0 ≤ y.next ∧ y.next ≤ 7 := by omega
    clear hy hal han
    go_upto_region 8 with fail
    refine settle (fun W => WB W kb #[.int .i64 y.device, .int .i64 y.next, .slice a4 y.writes.length c4] ∧ WB W w.heap.size #[.int .i64 0, .int .i64 0, .slice none 0 0] ∧ Fresh (Rep.slice 34 DWrite.rep) (w.heap.size + 1) W [.slice a4 y.writes.length c4] y.writes ∧ Mov k w W) ⟨HX.out.set3, (((HT.out.mov mm4 (by omega)).setOther (by omega)).setOther (by omega)).setOther (by omega), Fresh.mono (B := w3.heap.size) (by repeat (first | with_reducible exact hg4 | with_reducible refine Fresh.setLow ?_ (by omega))) (by omega), (HM.out.trans mm4).low (B := w.heap.size) bEb (Nat.le_refl _) hk⟩ ?_
    clear c_HX z_HX f_HX
    clear HX HT HF HM hg4 hm mm4 hb4 hz3
    rintro w5 ⟨hx, ht, hf, hm⟩
    have HX := Lib.hid hx
    have HT := Lib.hid ht
    have HF := Lib.hid hf
    have HM := Lib.hid hm
    clear hx ht hf hm
    have hkz5 := HX.out.lt
    have ⟨c_HX, z_HX, f_HX⟩ := HX.out
    have ⟨c_HT, z_HT, f_HT⟩ := HT.out
    go_wp2
    exact bodyPost_ret (v := .agg #[.int .i64 y.device, .int .i64 y.next, .slice a4 y.writes.length c4]) (by simp [results, Tryz.results153, go_sem, c_HT]) rfl ⟨_, y, rfl, DOutbox.fmk (Fresh.mono (B := w.heap.size + 1) (by repeat (first | with_reducible exact HF.out | with_reducible refine Fresh.setLow ?_ (by omega))) (by omega)), hl12, HM.out.low (B := w.heap.size) bEb (Nat.le_refl _) hk⟩

end Go.Proofs.YtlfebehpmefioaaGreat

/-
 The cells of what is owned: the slices' headers by name.
-/
namespace Go.Proofs.YtlfebehpmefioaaGreat
open Go.RowKit

theorem DRecord.fsh {B : Nat} {w : World} {cs : List Value} {x : DRecord} (h : Fresh DRecord.rep B w cs x) : ∃ a c, cs = [.slice a x.fields.length c] := by
 obtain ⟨fp, h, _⟩ := h
 obtain ⟨v1, f1, rfl, rfl, r1⟩ := DRecord.rd.1 h
 obtain ⟨a1, c1, rfl, _⟩ := slice_open r1
 exact ⟨a1, c1, rfl⟩
theorem DStore.fsh {B : Nat} {w : World} {cs : List Value} {x : DStore} (h : Fresh DStore.rep B w cs x) : ∃ a c, cs = [.string x.name, .slice a x.items.length c, .int .i64 x.auto] := by
 obtain ⟨fp, h, _⟩ := h
 obtain ⟨v1, f1, rfl, rfl, _, r1⟩ := DStore.rd.1 h
 obtain ⟨a1, c1, rfl, _⟩ := slice_open r1
 exact ⟨a1, c1, rfl⟩
theorem DOutbox.fsh {B : Nat} {w : World} {cs : List Value} {x : DOutbox} (h : Fresh DOutbox.rep B w cs x) : ∃ a c, cs = [.int .i64 x.device, .int .i64 x.next, .slice a x.writes.length c] := by
 obtain ⟨fp, h, _⟩ := h
 obtain ⟨v1, f1, rfl, rfl, r1⟩ := DOutbox.rd.1 h
 obtain ⟨a1, c1, rfl, _⟩ := slice_open r1
 exact ⟨a1, c1, rfl⟩
theorem DServer.fsh {B : Nat} {w : World} {cs : List Value} {x : DServer} (h : Fresh DServer.rep B w cs x) : ∃ a1 c1 a2 c2 a3 c3, cs = [.string x.store.name, .slice a1 x.store.items.length c1, .int .i64 x.store.auto, .slice a2 x.applied.length c2, .slice a3 x.changes.length c3] := by
 obtain ⟨fp, h, _⟩ := h
 obtain ⟨v1, v2, v3, f1, f2, f3, rfl, rfl, _, r1, r2, r3⟩ := DServer.rd.1 h
 obtain ⟨a1, c1, rfl, _⟩ := slice_open r1
 obtain ⟨a2, c2, rfl, _⟩ := slice_open r2
 obtain ⟨a3, c3, rfl, _⟩ := slice_open r3
 exact ⟨a1, c1, a2, c2, a3, c3, rfl⟩
theorem DSync.fsh {B : Nat} {w : World} {cs : List Value} {x : DSync} (h : Fresh DSync.rep B w cs x) : ∃ a c, cs = [.int .i64 x.outbox.device, .int .i64 x.outbox.next, .slice a x.outbox.writes.length c, .int .i64 x.tries, .int .i64 x.waitUntil] := by
 obtain ⟨fp, h, _⟩ := h
 obtain ⟨v1, f1, rfl, rfl, r1⟩ := DSync.rd.1 h
 obtain ⟨a1, c1, rfl, _⟩ := slice_open r1
 exact ⟨a1, c1, rfl⟩
theorem DReplica.fsh {B : Nat} {w : World} {cs : List Value} {x : DReplica} (h : Fresh DReplica.rep B w cs x) : ∃ a c b d, cs = [.string x.base.name, .slice a x.base.items.length c, .int .i64 x.base.auto, .int .i64 x.seen, .int .i64 x.sync.outbox.device, .int .i64 x.sync.outbox.next, .slice b x.sync.outbox.writes.length d, .int .i64 x.sync.tries, .int .i64 x.sync.waitUntil] := by
 obtain ⟨fp, h, _⟩ := h
 obtain ⟨v1, v2, f1, f2, rfl, rfl, _, r1, r2⟩ := DReplica.rd.1 h
 obtain ⟨a1, c1, rfl, _⟩ := slice_open r1
 obtain ⟨a2, c2, rfl, _⟩ := slice_open r2
 exact ⟨a1, c1, a2, c2, rfl⟩

end Go.Proofs.YtlfebehpmefioaaGreat

/-
 What is owned, apart from some blocks (the variables' and the cursor's).
-/
namespace Go.Proofs.YtlfebehpmefioaaGreat
open Go.RowKit

def Owns {α : Type} (R : Rep α) (B : Nat) (K : List Nat) (w : World) (cs : List Value) (x : α) : Prop := ∃ fp, R.rd true w cs x fp ∧ fp.Nodup ∧ ∀ b ∈ fp, B ≤ b ∧ b ∉ K

section
variable {α : Type} {R : Rep α} {B : Nat} {K : List Nat} {w w' : World} {cs : List Value} {x : α}
theorem Owns.fresh (h : Owns R B K w cs x) : Fresh R B w cs x := by
 obtain ⟨fp, h, hn, hf⟩ := h
 exact ⟨fp, h, hn, fun b hb => (hf b hb).1⟩
theorem Owns.reads (h : Owns R B K w cs x) : Reads R w cs x := h.fresh.reads
theorem Owns.of {B0 : Nat} (h : Fresh R B0 w cs x) (hB : B ≤ B0) (hK : ∀ k ∈ K, k < B0 ∨ w.heap.size ≤ k) : Owns R B K w cs x := by
 obtain ⟨fp, h, hn, hf⟩ := h
 refine ⟨fp, h, hn, fun b hb => ⟨Nat.le_trans hB (hf b hb), fun hm => ?_⟩⟩
 have h1 := hf b hb
 have h2 := Rep.lt _ h b hb
 have := hK b hm
 omega
theorem Owns.below (h : Owns R B K w cs x) (hb : Below w.heap.size w w') : Owns R B K w' cs x := by
 obtain ⟨fp, h, hn, hf⟩ := h
 exact ⟨fp, Rep.frame _ h fun b hb' => hb.block b (Rep.lt _ h b hb'), hn, hf⟩
theorem Owns.mov {k : Kur} (h : Owns R B K w cs x) (hm : Mov k w w') (hk : k.k ∈ K) : Owns R B K w' cs x := by
 obtain ⟨fp, h, hn, hf⟩ := h
 exact ⟨fp, Rep.frame _ h fun b hb' => hm.1.block b (Rep.lt _ h b hb') (fun hm => (hf b hb').2 (by simp at hm; subst hm; exact hk)), hn, hf⟩
theorem Owns.set {g o : Nat} {u : Value} (h : Owns R B K w cs x) (hg : g ∈ K ∨ g < B) : Owns R B K (w.setCell ⟨g, o, none⟩ u) cs x := by
 obtain ⟨fp, h, hn, hf⟩ := h
 refine ⟨fp, Rep.frame _ h fun b hb' => Below.heap_setCell _ _ _ _ (fun e => ?_), hn, hf⟩
 have h1 := hf b hb'
 simp only [] at e
 subst e
 rcases hg with hg | hg
 ·exact h1.2 hg
 ·omega
theorem Owns.drew (h : Owns R B K w cs x) : Owns R B K w.drew cs x := h.below (belD belR)
theorem Owns.more {K' : List Nat} (h : Owns R B K w cs x) (hK : ∀ k ∈ K', k ∈ K ∨ k < B ∨ w.heap.size ≤ k) : Owns R B K' w cs x := by
 obtain ⟨fp, h, hn, hf⟩ := h
 refine ⟨fp, h, hn, fun b hb => ⟨(hf b hb).1, fun hm => ?_⟩⟩
 have h1 := hf b hb
 have h2 := Rep.lt _ h b hb
 rcases hK b hm with h3 | h3 | h3
 ·exact h1.2 h3
 ·omega
 ·omega
end

theorem Owns.server {B : Nat} {K : List Nat} {w : World} {v : Value} {s : DStore} (h : Owns DStore.rep B K w [.string s.name, v, .int .i64 s.auto] s) : Owns DServer.rep B K w [.string s.name, v, .int .i64 s.auto, .slice none 0 0, .slice none 0 0] ⟨s, [], []⟩ := by
 obtain ⟨fp, h, hn, hf⟩ := h
 obtain ⟨v1, f1, e, rfl, s0, r1⟩ := DStore.rd.1 h
 simp only [List.cons.injEq, and_true] at e
 obtain ⟨_, rfl, _⟩ := e
 obtain ⟨fp2, h2, _, hf2⟩ := (Fresh.nil (R := DApplied.rep) (E := 89) (B := w.heap.size) (w := w))
 obtain ⟨fp3, h3, _, hf3⟩ := (Fresh.nil (R := DWrite.rep) (E := 34) (B := w.heap.size) (w := w))
 have e2 : fp2 = [] := List.eq_nil_iff_forall_not_mem.2 fun b hb => by have h1 := hf2 b hb; have h2 := Rep.lt _ h2 b hb; omega
 have e3 : fp3 = [] := List.eq_nil_iff_forall_not_mem.2 fun b hb => by have h1 := hf3 b hb; have h2 := Rep.lt _ h3 b hb; omega
 subst e2 e3
 exact ⟨fp, DServer.rd.2 ⟨_, _, _, fp, [], [], rfl, by simp, s0, r1, h2, h3⟩, hn, hf⟩
theorem Owns.sync {B : Nat} {K : List Nat} {w : World} {v : Value} {o : DOutbox} (h : Owns DOutbox.rep B K w [.int .i64 o.device, .int .i64 o.next, v] o) (t u : Int) : Owns DSync.rep B K w [.int .i64 o.device, .int .i64 o.next, v, .int .i64 t, .int .i64 u] ⟨o, t, u⟩ := by
 obtain ⟨fp, h, hn, hf⟩ := h
 obtain ⟨v1, f1, e, rfl, r1⟩ := DOutbox.rd.1 h
 simp only [List.cons.injEq, and_true] at e
 obtain ⟨_, _, rfl⟩ := e
 exact ⟨fp, DSync.rd.2 ⟨_, _, rfl, rfl, r1⟩, hn, hf⟩

end Go.Proofs.YtlfebehpmefioaaGreat

/-
 The draws of records and stores: what is drawn is a record, a store named "notes".
-/
namespace Go.Proofs.YtlfebehpmefioaaGreat
open Go.RowKit

set_option maxRecDepth 100000 in
set_option maxHeartbeats 1600000 in
theorem specKeyNumV (k : Kur) (w : World) (h : Cur w k) : Calls Tryz.prog 156 #[.pointer (some ⟨k.k, 0, none⟩)] w fun e w' => ∃ x : Int, e = .returned (.int .i64 x) ∧ (x ≤ 256 ∨ 1000000 < x) ∧ Mov k w w' := by
 go_enter Tryz.func156, Tryz.ntmps156
 go_wp2_with fail
 refine (specBelow k _ _ h).mono ?_
 rintro e w1 ⟨b, rfl, _, hb9, hm⟩
 go_wp2_with fail
 refine (specLitInt k [0, 1, 2, -1, 255, 256, -1000000000000, 1000000000000, b] _ hm.2 rfl rfl rfl (by show 0 < 9; decide) (by show 9 ≤ 100; decide)).mono ?_
 rintro e w2 ⟨x, rfl, hx, hm2⟩
 have hx2 : x ≤ 256 ∨ 1000000 < x := by
  have := hb9 (by decide)
  simp only [List.mem_cons, List.not_mem_nil, or_false] at hx
  omega
 clear hx hb9
 have hm3 := hm.trans hm2
 clear hm hm2
 go_wp2
 go_ret
 exact ⟨x, rfl, hx2, hm3⟩

set_option maxRecDepth 100000 in
set_option maxHeartbeats 3200000 in
theorem specKeyW (k : Kur) (w : World) (h : Cur w k) : Calls Tryz.prog 130 #[.pointer (some ⟨k.k, 0, none⟩)] w fun e w' => ∃ x : DKey, e = .returned (.agg #[.int .i64 x.kind, .int .i64 x.n, .string x.text]) ∧ (x.text.size ≤ 20 ∧ (x.n ≤ 256 ∨ 1000000 < x.n)) ∧ Mov k w w' := by
 have hk := h.lt
 go_enter Tryz.func130, Tryz.ntmps130
 go_upto_region 1 with fail
 refine settle (fun W => WB W w.heap.size #[.int .i64 0, .int .i64 0, .string ⟨#[]⟩] ∧ Mov k w W) ⟨WB.at rfl, Mov.below (Mov.refl h) bEl⟩ ?_
 rintro w0 ⟨ht, hm0⟩
 have HT := Lib.hid ht
 have HM := Lib.hid hm0
 clear ht hm0
 go_wp2_with fail
 refine (specLitStr k [⟨#[]⟩, ⟨#[97]⟩, ⟨#[97, 98]⟩, ⟨#[98]⟩, ⟨#[122, 57]⟩, ⟨#[97, 98, 99, 100, 101, 102, 103, 104, 105, 106, 107, 108]⟩] _ HM.out.2 rfl rfl rfl (by decide) (by decide) (by decide)).mono ?_
 rintro e w1 ⟨s, rfl, hs, hm⟩
 have hs20 := text_small hs
 clear hs
 replace HT := Lib.hid (HT.out.mov hm (by omega))
 replace HM := Lib.hid (HM.out.trans hm)
 clear hm
 go_wp2_with fail
 refine (specBelow k _ _ HM.out.2).mono ?_
 rintro e w2 ⟨b, rfl, _, _, hm⟩
 replace HT := Lib.hid (HT.out.mov hm (by omega))
 replace HM := Lib.hid (HM.out.trans hm)
 clear hm
 cases n0 : (b == 0)
 case' false => cases n1 : (b == 1)
 case true =>
  have ⟨c_HT, z_HT, f_HT⟩ := HT.out
  go_wp2
  exact bodyPost_ret (v := .agg #[.int .i64 2, .int .i64 0, .string s]) (by simp [results, Tryz.results130, go_sem, c_HT]) rfl ⟨⟨2, 0, s⟩, rfl, ⟨hs20, .inl (by show (0 : Int) ≤ 256; decide)⟩, HM.out.low (B := w.heap.size) bEb (Nat.le_refl _) hk⟩
 case' false.true =>
  go_wp2_with fail
  refine (specKeyNumV k _ HM.out.2).mono ?_
  rintro e w3 ⟨x, rfl, hxv, hm⟩
  replace HT := Lib.hid (HT.out.mov hm (by omega))
  replace HM := Lib.hid (HM.out.trans hm)
  clear hm
  have ⟨c_HT, z_HT, f_HT⟩ := HT.out
  go_wp2
  refine bodyPost_ret (v := .agg #[.int .i64 3, .int .i64 x, .string s]) (by simp [results, Tryz.results130, go_sem, c_HT]) rfl ⟨⟨3, x, s⟩, rfl, ⟨hs20, hxv⟩, HM.out.low (B := w.heap.size) bEb (Nat.le_refl _) hk⟩
 case false.false =>
  go_wp2_with fail
  refine (specKeyNumV k _ HM.out.2).mono ?_
  rintro e w3 ⟨x, rfl, hxv, hm⟩
  replace HT := Lib.hid (HT.out.mov hm (by omega))
  replace HM := Lib.hid (HM.out.trans hm)
  clear hm
  have ⟨c_HT, z_HT, f_HT⟩ := HT.out
  go_wp2
  exact bodyPost_ret (v := .agg #[.int .i64 1, .int .i64 x, .string ⟨#[]⟩]) (by simp [results, Tryz.results130, go_sem, c_HT]) rfl ⟨⟨1, x, ⟨#[]⟩⟩, rfl, ⟨Nat.zero_le _, hxv⟩, HM.out.low (B := w.heap.size) bEb (Nat.le_refl _) hk⟩

theorem setField_record {r : DRecord} {name : ByteArray} {n : Int} (h : isRecordF r = true) : isRecordF (setFieldF r name n) = true := by
 unfold setFieldF
 split
 ·rename_i hb
  unfold setFieldB at hb
  rw [Bool.and_eq_true] at hb
  exact hb.2
 ·exact h

set_option maxRecDepth 100000 in
set_option maxHeartbeats 3200000 in
theorem specDrawRecord (k : Kur) (w : World) (h : Cur w k) : Calls Tryz.prog 147 #[.pointer (some ⟨k.k, 0, none⟩)] w fun e w' => ∃ ds : List Value, e = .returned (.agg ds.toArray) ∧ ∃ x : DRecord, Fresh DRecord.rep w.heap.size w' ds x ∧ isRecordF x = true ∧ Mov k w w' := by
 have hk := h.lt
 go_enter Tryz.func147, Tryz.ntmps147
 go_upto_region 2 with fail
 refine settle (fun W => ∃ kb, kb = w.heap.size + 1 ∧ WB W kb #[.slice none 0 0] ∧ WB W w.heap.size #[.slice none 0 0] ∧ Mov k w W) ⟨_, rfl, WB.at (by simp), (WB.at rfl).growA, Mov.below (Mov.refl h) bEl⟩ ?_
 rintro w1 ⟨kb, hkb, hx, ht, hm⟩
 have hkk : w.heap.size < kb ∧ k.k < kb := by omega
 rw [← hkb]
 have HX := Lib.hid hx
 have HT := Lib.hid ht
 have HM := Lib.hid hm
 clear hx ht hm hkb
 go_wp2_with fail
 refine (specBelow k _ _ HM.out.cur).mono ?_
 rintro e w2 ⟨n, rfl, hn0, hn4, hm⟩
 replace HX := Lib.hid (HX.out.mov hm (by omega))
 replace HT := Lib.hid (HT.out.mov hm (by omega))
 replace HM := Lib.hid (HM.out.trans hm)
 clear hm
 go_wp2
 go_loopw [4] (fun i wr => ∃ (n : Int) (x : DRecord) (a : Option Addr) (c : Nat), i = .int .i64 n ∧ (n ≤ 100 ∧ isRecordF x = true) ∧ WB wr kb #[.slice a x.fields.length c] ∧ WB wr w.heap.size #[.slice none 0 0] ∧ Fresh DRecord.rep (w.heap.size + 1) wr [.slice a x.fields.length c] x ∧ Mov k w wr) (fun i _ => (intOf i).toNat)
 case atStart => exact ⟨n, ⟨[]⟩, none, 0, rfl, ⟨by have := hn4 (by decide); omega, by decide⟩, HX.out, HT.out, DRecord.fmk Fresh.nil, HM.out⟩
 case round =>
  clear HX HT HM hn0 hn4
  obtain ⟨n, x, a, c, rfl, ⟨hn, hr⟩, hx, ht, hf, hm⟩ := hrel
  have HR := Lib.hid hr
  have HX := Lib.hid hx
  have HT := Lib.hid ht
  have HF := Lib.hid hf
  have HM := Lib.hid hm
  clear hx ht hf hm hr
  have hzr := HX.out.lt
  by_cases hlt : 0 < n
  ·go_upto_region 5 with fail
   refine wp_region_mv k [8,9] (by kernel_rfl) ?_
   intro wd hbd
   have hwz := hbd.size
   replace HX := Lib.hid (HX.out.keep hbd)
   replace HT := Lib.hid (HT.out.keep hbd)
   replace HF := Lib.hid (HF.out.below hbd)
   replace HM := Lib.hid (HM.out.below hbd)
   clear hbd
   have hne : Nonempty (Moved k wd) := ⟨⟨wd, Mov.refl HM.out.cur⟩⟩
   have K_HX := mv_var (k := k) HX.out (by omega)
   refine wpU_group (fun _ _ _ _ _ h => h) (by kernel_rfl) (mv_of (Mov.refl HM.out.cur)) [0,1,3] _ _ _ rfl (by kernel_rfl) ?_
   repeat (go_big_quiet_step (fail))
   refine wpQuiet_nil ?_
   clear K_HX
   refine wpU_one 2 rfl (by kernel_rfl) ?_
   go_wp2_with fail
   refine (specName k _ HM.out.cur).mono ?_
   rintro e w3 ⟨f, rfl, hf3, hm⟩
   go_wp2_with fail
   refine HardPost.mk (mv_of (hm)) ?_
   refine wpU_one 4 rfl (by kernel_rfl) ?_
   go_wp2_with fail
   refine (specBelow k _ _ hm.cur).mono ?_
   rintro e w4 ⟨m, rfl, _, _, hm4⟩
   have mm := hm.trans hm4
   go_wp2_with fail
   refine HardPost.mk (mv_of (mm)) ?_
   have hz4 := mm.size
   refine wpU_one 5 rfl (by kernel_rfl) ?_
   go_wp2_with fail
   refine (specSetField _ x f m _ (HF.out.mov mm (by omega)).reads (by have := isRecord_len HR.out; omega) (by unfold maxLen; omega)).mono ?_
   rintro e w5 ⟨ds, rfl, hg, hb5⟩
   obtain ⟨a5, c5, rfl⟩ := DRecord.fsh hg
   have mm5 := mm.below hb5
   go_wp2_with fail
   refine HardPost.mk (mv_of (mm5)) ?_
   refine wpU_group (fun _ _ _ _ _ h => h) (by kernel_rfl) (mv_of (mm5)) [6,7,8] _ _ _ rfl (by kernel_rfl) ?_
   repeat (go_big_quiet_step (fail))
   refine wpQuiet_nil ?_
   replace HX := Lib.hid (HX.out.mov mm5 (by omega))
   have ⟨c_HX, z_HX, f_HX⟩ := HX.out
   refine wpU_tail [9] _ _ _ _ rfl (by kernel_rfl) ?_
   go_wp2_with fail
   refine NoPanic.normal ?_
   go_wp2_with fail
   go_light
   exact ⟨⟨n - 1, setFieldF x f m, a5, c5, by go_num, ⟨by omega, setField_record HR.out⟩, HX.out.setAt (i := 0) (by simp) rfl, (HT.out.mov mm5 (by omega)).setOther (by omega), Fresh.mono (B := w4.heap.size) (by repeat (first | with_reducible exact hg | with_reducible refine Fresh.setLow ?_ (by omega))) (by omega), (HM.out.trans mm5).low (B := w.heap.size) bEb (Nat.le_refl _) hk⟩, by simp [intOf]; omega⟩
  ·have ⟨c_HX, z_HX, f_HX⟩ := HX.out
   have ⟨c_HT, z_HT, f_HT⟩ := HT.out
   go_wp2
   exact bodyPost_ret (v := .agg #[.slice a x.fields.length c]) (by simp [results, Tryz.results147, go_sem, c_HT]) rfl ⟨_, rfl, x, Fresh.mono (B := w.heap.size + 1) (by repeat (first | with_reducible exact HF.out | with_reducible refine Fresh.setLow ?_ (by omega))) (by omega), HR.out, HM.out.low (B := w.heap.size) bEb (Nat.le_refl _) hk⟩

structure NoteStore (s : DStore) : Prop where
 store : isStoreF s = true
 name : s.name = ⟨#[110, 111, 116, 101, 115]⟩
 auto : s.auto ≤ 256
 keys : ∀ x ∈ s.items, x.key.kind = 1 → x.key.n ≤ 1000000 → x.key.n ≤ s.auto
theorem insAt_mem {α : Type} {l : List α} {t : Nat} {x y : α} (h : y ∈ insAt l t x) : y ∈ l ∨ y = x := by
 unfold insAt at h
 rcases List.mem_append.1 h with h | h
 ·exact .inl (List.mem_of_mem_take h)
 ·rcases List.mem_cons.1 h with h | h
  ·exact .inr h
  ·exact .inl (List.mem_of_mem_drop h)
theorem NoteStore.put {s : DStore} (h : NoteStore s) (k : DKey) (r : DRecord) (hk : k.n ≤ 256 ∨ 1000000 < k.n) : NoteStore (putItemF s k r) := by
 unfold putItemF
 split
 ·rename_i hb
  unfold putItemB at hb
  simp only [Bool.and_eq_true] at hb
  obtain ⟨_, _, hs⟩ := hb
  unfold putOut at hs ⊢
  split
  ·rename_i i hi
   rw [hi] at hs
   simp only at hs
   unfold putAt at hs ⊢
   split
   ·rename_i x hx
    rw [hx] at hs
    refine ⟨hs, h.name, h.auto, fun y hy => ?_⟩
    rcases List.mem_or_eq_of_mem_set hy with hy | rfl
    ·exact h.keys y hy
    ·exact h.keys x (List.mem_of_getElem? hx)
   ·exact h
  ·rename_i hi
   rw [hi] at hs
   refine ⟨hs, h.name, ?_, fun y hy => ?_⟩
   ·show autoOf s.auto k ≤ 256
    have := h.auto
    unfold autoOf
    split <;> omega
   ·show y.key.kind = 1 → y.key.n ≤ 1000000 → y.key.n ≤ autoOf s.auto k
    have ha : s.auto ≤ autoOf s.auto k := by unfold autoOf; split <;> omega
    rcases insAt_mem hy with hy | rfl
    ·intro h1 h2
     have := h.keys y hy h1 h2
     omega
    ·intro h1 h2
     have h1 : k.kind = 1 := h1
     have h2 : k.n ≤ 1000000 := h2
     show k.n ≤ autoOf s.auto k
     unfold autoOf
     split <;> omega
 ·exact h

set_option maxRecDepth 100000 in
set_option maxHeartbeats 3200000 in
theorem specDrawStore (k : Kur) (w : World) (h : Cur w k) : Calls Tryz.prog 111 #[.pointer (some ⟨k.k, 0, none⟩), .string ⟨#[110, 111, 116, 101, 115]⟩] w fun e w' => ∃ ds : List Value, e = .returned (.agg ds.toArray) ∧ ∃ x : DStore, Fresh DStore.rep w.heap.size w' ds x ∧ NoteStore x ∧ Mov k w w' := by
 have hk := h.lt
 have HRK : Hid (∀ (W : World) (y : DKey), y.text.size ≤ 20 → Reads DKey.rep W [.int .i64 y.kind, .int .i64 y.n, .string y.text] y) := Lib.hid fun W y hy => ⟨[], DKey.rd.2 ⟨rfl, rfl, by unfold maxLen; omega⟩⟩
 go_enter Tryz.func111, Tryz.ntmps111
 go_upto_region 2 with fail
 refine settle (fun W => ∃ kb, kb = w.heap.size + 1 ∧ WB W kb #[.string ⟨#[110, 111, 116, 101, 115]⟩, .slice none 0 0, .int .i64 0] ∧ WB W w.heap.size #[.string ⟨#[]⟩, .slice none 0 0, .int .i64 0] ∧ Mov k w W) ⟨_, rfl, WB.at (by simp), (WB.at rfl).growA, Mov.below (Mov.refl h) bEl⟩ ?_
 rintro w1 ⟨kb, hkb, hx, ht, hm⟩
 have hkk : w.heap.size < kb ∧ k.k < kb := by omega
 rw [← hkb]
 have HX := Lib.hid hx
 have HT := Lib.hid ht
 have HM := Lib.hid hm
 clear hx ht hm hkb
 go_wp2_with fail
 refine (specLitInt k [0, 2, 4, 6] _ HM.out.cur rfl rfl rfl (by decide) (by decide)).mono ?_
 rintro e w2 ⟨n, rfl, hn, hm⟩
 have hn6 := four_mem hn
 clear hn
 replace HX := Lib.hid (HX.out.mov hm (by omega))
 replace HT := Lib.hid (HT.out.mov hm (by omega))
 replace HM := Lib.hid (HM.out.trans hm)
 clear hm
 go_wp2
 go_loopw [6] (fun i wr => ∃ (n : Int) (x : DStore) (a : Option Addr) (c : Nat), i = .int .i64 n ∧ (n ≤ 100 ∧ NoteStore x) ∧ WB wr kb #[.string x.name, .slice a x.items.length c, .int .i64 x.auto] ∧ WB wr w.heap.size #[.string ⟨#[]⟩, .slice none 0 0, .int .i64 0] ∧ Fresh DStore.rep (w.heap.size + 1) wr [.string x.name, .slice a x.items.length c, .int .i64 x.auto] x ∧ Mov k w wr) (fun i _ => (intOf i).toNat)
 case atStart => exact ⟨n, ⟨⟨#[110, 111, 116, 101, 115]⟩, [], 0⟩, none, 0, rfl, ⟨by omega, ⟨by decide, rfl, by decide, by simp⟩⟩, HX.out, HT.out, DStore.fmk Fresh.nil (by decide), HM.out⟩
 case round =>
  clear HX HT HM hn6
  obtain ⟨n, x, a, c, rfl, ⟨hn, hr⟩, hx, ht, hf, hm⟩ := hrel
  have HR := Lib.hid hr
  have HX := Lib.hid hx
  have HT := Lib.hid ht
  have HF := Lib.hid hf
  have HM := Lib.hid hm
  clear hx ht hf hm hr
  have hzr := HX.out.lt
  by_cases hlt : 0 < n
  ·go_upto_region 5 with fail
   refine wp_region_mv k [8,9] (by kernel_rfl) ?_
   intro wd hbd
   have hwz := hbd.size
   replace HX := Lib.hid (HX.out.keep hbd)
   replace HT := Lib.hid (HT.out.keep hbd)
   replace HF := Lib.hid (HF.out.below hbd)
   replace HM := Lib.hid (HM.out.below hbd)
   clear hbd
   have hne : Nonempty (Moved k wd) := ⟨⟨wd, Mov.refl HM.out.cur⟩⟩
   have K_HX := mv_var (k := k) HX.out (by omega)
   refine wpU_group (fun _ _ _ _ _ h => h) (by kernel_rfl) (mv_of (Mov.refl HM.out.cur)) [0,1,3] _ _ _ rfl (by kernel_rfl) ?_
   repeat (go_big_quiet_step (fail))
   refine wpQuiet_nil ?_
   clear K_HX
   refine wpU_one 2 rfl (by kernel_rfl) ?_
   go_wp2_with fail
   refine (specKeyV k _ HM.out.cur).mono ?_
   rintro e w3 ⟨b, rfl, hb0, hb6, hm⟩
   go_wp2_with fail
   refine HardPost.mk (mv_of (hm)) ?_
   refine wpU_one 4 rfl (by kernel_rfl) ?_
   go_wp2_with fail
   refine (specDrawRecord k _ hm.cur).mono ?_
   rintro e w4 ⟨es, rfl, r, hfr, hrr, hm4⟩
   obtain ⟨a4, c4, rfl⟩ := DRecord.fsh hfr
   have mm := hm.trans hm4
   go_wp2_with fail
   refine HardPost.mk (mv_of (mm)) ?_
   have hz4 := mm.size
   refine wpU_one 5 rfl (by kernel_rfl) ?_
   go_wp2_with fail
   refine (specPutItem _ _ _ x ⟨1, b, ⟨#[]⟩⟩ r _ (HF.out.mov mm (by omega)).reads (HRK.out _ ⟨1, b, ⟨#[]⟩⟩ (by show 0 ≤ 20; decide)) hfr.reads (SmallStore.of_store HR.out.store) (by have := isRecord_len hrr; omega)).mono ?_
   rintro e w5 ⟨ds, rfl, hg, hb5⟩
   have HR5 := Lib.hid (HR.out.put ⟨1, b, ⟨#[]⟩⟩ r (.inl (by show b ≤ 256; omega)))
   obtain ⟨a5, c5, rfl⟩ := DStore.fsh hg
   have mm5 := mm.below hb5
   go_wp2_with fail
   refine HardPost.mk (mv_of (mm5)) ?_
   refine wpU_group (fun _ _ _ _ _ h => h) (by kernel_rfl) (mv_of (mm5)) [6,7,8] _ _ _ rfl (by kernel_rfl) ?_
   repeat (go_big_quiet_step (fail))
   refine wpQuiet_nil ?_
   replace HX := Lib.hid (HX.out.mov mm5 (by omega))
   have ⟨c_HX, z_HX, f_HX⟩ := HX.out
   refine wpU_tail [9] _ _ _ _ rfl (by kernel_rfl) ?_
   go_wp2_with fail
   refine NoPanic.normal ?_
   go_wp2_with fail
   go_light
   exact ⟨⟨n - 1, putItemF x ⟨1, b, ⟨#[]⟩⟩ r, a5, c5, by go_num, ⟨by omega, HR5.out⟩, HX.out.set3, (((HT.out.mov mm5 (by omega)).setOther (by omega)).setOther (by omega)).setOther (by omega), Fresh.mono (B := w4.heap.size) (by repeat (first | with_reducible exact hg | with_reducible refine Fresh.setLow ?_ (by omega))) (by omega), (HM.out.trans mm5).low (B := w.heap.size) bEb (Nat.le_refl _) hk⟩, by simp [intOf]; omega⟩
  ·go_wp2_with fail
   refine (specOnce k _ _ HM.out.cur).mono ?_
   rintro e w2 ⟨b, rfl, hm⟩
   replace HX := Lib.hid (HX.out.mov hm (by omega))
   replace HT := Lib.hid (HT.out.mov hm (by omega))
   replace HF := Lib.hid (HF.out.mov hm (by omega))
   replace HM := Lib.hid (HM.out.trans hm)
   clear hm
   have hzr2 := HX.out.lt
   cases b
   ·have ⟨c_HX, z_HX, f_HX⟩ := HX.out
    have ⟨c_HT, z_HT, f_HT⟩ := HT.out
    go_wp2
    exact bodyPost_ret (v := .agg #[.string x.name, .slice a x.items.length c, .int .i64 x.auto]) (by simp [results, Tryz.results111, go_sem, c_HT]) rfl ⟨_, rfl, x, Fresh.mono (B := w.heap.size + 1) (by repeat (first | with_reducible exact HF.out | with_reducible refine Fresh.setLow ?_ (by omega))) (by omega), HR.out, HM.out.low (B := w.heap.size) bEb (Nat.le_refl _) hk⟩
   ·go_upto_region 7 with fail
    refine wp_region_mv k [8,9] (by kernel_rfl) ?_
    intro wd hbd
    have hwz := hbd.size
    replace HX := Lib.hid (HX.out.keep hbd)
    replace HT := Lib.hid (HT.out.keep hbd)
    replace HF := Lib.hid (HF.out.below hbd)
    replace HM := Lib.hid (HM.out.below hbd)
    clear hbd
    have hne : Nonempty (Moved k wd) := ⟨⟨wd, Mov.refl HM.out.cur⟩⟩
    have K_HX := mv_var (k := k) HX.out (by omega)
    refine wpU_group (fun _ _ _ _ _ h => h) (by kernel_rfl) (mv_of (Mov.refl HM.out.cur)) [0,1,3] _ _ _ rfl (by kernel_rfl) ?_
    repeat (go_big_quiet_step (fail))
    refine wpQuiet_nil ?_
    clear K_HX
    refine wpU_one 2 rfl (by kernel_rfl) ?_
    go_wp2_with fail
    refine (specKeyW k _ HM.out.cur).mono ?_
    rintro e w3 ⟨y, rfl, ⟨hy, hyn⟩, hm⟩
    go_wp2_with fail
    refine HardPost.mk (mv_of (hm)) ?_
    refine wpU_one 4 rfl (by kernel_rfl) ?_
    go_wp2_with fail
    refine (specDrawRecord k _ hm.cur).mono ?_
    rintro e w4 ⟨es, rfl, r, hfr, hrr, hm4⟩
    obtain ⟨a4, c4, rfl⟩ := DRecord.fsh hfr
    have mm := hm.trans hm4
    go_wp2_with fail
    refine HardPost.mk (mv_of (mm)) ?_
    have hz4 := mm.size
    refine wpU_one 5 rfl (by kernel_rfl) ?_
    go_wp2_with fail
    refine (specPutItem _ _ _ x y r _ (HF.out.mov mm (by omega)).reads (HRK.out _ y hy) hfr.reads (SmallStore.of_store HR.out.store) (by have := isRecord_len hrr; omega)).mono ?_
    rintro e w5 ⟨ds, rfl, hg, hb5⟩
    have HR5 := Lib.hid (HR.out.put y r hyn)
    obtain ⟨a5, c5, rfl⟩ := DStore.fsh hg
    have mm5 := mm.below hb5
    go_wp2_with fail
    refine HardPost.mk (mv_of (mm5)) ?_
    refine wpU_group (fun _ _ _ _ _ h => h) (by kernel_rfl) (mv_of (mm5)) [6,7,8] _ _ _ rfl (by kernel_rfl) ?_
    repeat (go_big_quiet_step (fail))
    refine wpQuiet_nil ?_
    replace HX := Lib.hid (HX.out.mov mm5 (by omega))
    replace HT := Lib.hid (HT.out.mov mm5 (by omega))
    replace HM := Lib.hid (HM.out.trans mm5)
    obtain ⟨z, hz⟩ : ∃ z, putItemF x y r = z := ⟨_, rfl⟩
    rw [hz] at hg HR5 ⊢
    clear hz
    have ⟨c_HX, z_HX, f_HX⟩ := HX.out
    refine wpU_tail [9] _ _ _ _ rfl (by kernel_rfl) ?_
    go_wp2_with fail
    refine NoPanic.normal ?_
    go_upto_region 8 with fail
    refine settle (fun W => WB W kb #[.string z.name, .slice a5 z.items.length c5, .int .i64 z.auto] ∧ WB W w.heap.size #[.string ⟨#[]⟩, .slice none 0 0, .int .i64 0] ∧ Fresh DStore.rep (w.heap.size + 1) W [.string z.name, .slice a5 z.items.length c5, .int .i64 z.auto] z ∧ Mov k w W) ⟨HX.out.set3, ((HT.out.setOther (by omega)).setOther (by omega)).setOther (by omega), Fresh.mono (B := w4.heap.size) (by repeat (first | with_reducible exact hg | with_reducible refine Fresh.setLow ?_ (by omega))) (by omega), HM.out.low (B := w.heap.size) bEb (Nat.le_refl _) hk⟩ ?_
    clear c_HX z_HX f_HX
    clear HX HT HF HM hg hm mm5 hb5 hz4 mm hm4 hfr
    rintro w5 ⟨hx, ht, hf, hm⟩
    have HX := Lib.hid hx
    have HT := Lib.hid ht
    have HF := Lib.hid hf
    have HM := Lib.hid hm
    clear hx ht hf hm
    have hkz5 := HX.out.lt
    have ⟨c_HX, z_HX, f_HX⟩ := HX.out
    have ⟨c_HT, z_HT, f_HT⟩ := HT.out
    go_wp2
    exact bodyPost_ret (v := .agg #[.string z.name, .slice a5 z.items.length c5, .int .i64 z.auto]) (by simp [results, Tryz.results111, go_sem, c_HT]) rfl ⟨_, rfl, z, Fresh.mono (B := w.heap.size + 1) (by repeat (first | with_reducible exact HF.out | with_reducible refine Fresh.setLow ?_ (by omega))) (by omega), HR5.out, HM.out.low (B := w.heap.size) bEb (Nat.le_refl _) hk⟩

end Go.Proofs.YtlfebehpmefioaaGreat

/-
 Plain laws of the server: a write received, numbers, what is appended. No function of the program is named here.
-/
namespace Go.Proofs.YtlfebehpmefioaaGreat
open Go.RowKit

theorem write_iff {y : DWrite} : isWriteF y = true ↔ (1 ≤ y.device ∧ y.device ≤ 1000000) ∧ (1 ≤ y.seq ∧ y.seq ≤ 1000000) ∧ isKeyF y.key = true ∧ isWordF y.field 8 false = true ∧ (0 ≤ y.n ∧ y.n ≤ 1000000000) := by
 unfold isWriteF
 simp only [Bool.and_eq_true, within, decide_eq_true_eq]
 constructor
 ·rintro ⟨⟨⟨⟨h1, h2⟩, h3⟩, h4⟩, h5⟩; exact ⟨h1, h2, h3, h4, h5⟩
 ·rintro ⟨h1, h2, h3, h4, h5⟩; exact ⟨⟨⟨⟨h1, h2⟩, h3⟩, h4⟩, h5⟩
theorem within_iff {n a b : Int} : within n a b = true ↔ a ≤ n ∧ n ≤ b := by
 unfold within
 simp only [Bool.and_eq_true, decide_eq_true_eq]

theorem server_iff {x : DServer} : isServerF x = true ↔ (∀ i, (hi : i < x.applied.length) → (1 ≤ x.applied[i].device ∧ x.applied[i].device ≤ 1000000) ∧ (0 ≤ x.applied[i].seq ∧ x.applied[i].seq ≤ 1000000)) ∧ (∀ i, (hi : i + 1 < x.applied.length) → (x.applied[i]'(by omega)).device < x.applied[i + 1].device) ∧ (∀ y ∈ x.changes, isWriteF y = true) ∧ isStoreF x.store = true ∧ isNotes x.store.name = true ∧ x.applied.length ≤ 60 := by
 rw [isServerF, Bool.and_eq_true, List.all_eq_true, Bool.and_eq_true, List.all_eq_true, serverEnd, Bool.and_eq_true, Bool.and_eq_true, decide_eq_true_eq]
 constructor
 ·rintro ⟨h1, h2, h3, h4, h5⟩
  refine ⟨fun i hi => ?_, fun i hi => ?_, h2, h3, h4, h5⟩
  ·have := h1 i (List.mem_range.2 hi)
   rw [appOk_at hi] at this
   simp only [Bool.and_eq_true, within_iff] at this
   exact ⟨this.1, this.2.1⟩
  ·have := h1 (i + 1) (List.mem_range.2 hi)
   rw [appOk_at hi, appBad_at hi] at this
   simp only [Bool.and_eq_true, Bool.not_eq_true', Bool.and_eq_false_iff, decide_eq_false_iff_not, Nat.add_sub_cancel] at this
   rcases this.2.2 with h | h <;> omega
 ·rintro ⟨h1, h2, h3, h4, h5, h6⟩
  refine ⟨fun i hi => ?_, h3, h4, h5, h6⟩
  have hi := List.mem_range.1 hi
  rw [appOk_at hi, appBad_at hi]
  obtain ⟨k1, k2⟩ := h1 i hi
  simp only [Bool.and_eq_true, within_iff]
  refine ⟨k1, k2, ?_⟩
  rcases i with _ | i
  ·rfl
  ·have := h2 i hi
   simp only [Nat.add_sub_cancel, Bool.not_eq_true', Bool.and_eq_false_iff, decide_eq_false_iff_not]
   right; omega

theorem setItem_store {s : DStore} {y : DWrite} (h : isStoreF s = true) : isStoreF (setItemF s y) = true := by
 unfold setItemF
 split
 ·rename_i hb
  unfold setItemB putItemB at hb
  simp only [Bool.and_eq_true] at hb
  exact hb.2.2.2
 ·exact h
theorem putOut_name9 (s : DStore) (k : DKey) (r : DRecord) : (putOut s k r).name = s.name := by
 unfold putOut
 split
 ·unfold putAt; split <;> rfl
 ·rfl
theorem setItem_name9 (s : DStore) (y : DWrite) : (setItemF s y).name = s.name := by
 unfold setItemF
 split
 ·exact putOut_name9 _ _ _
 ·rfl

/-! ### The marks -/
theorem markI_cases (x : DServer) (d q : Int) : (∃ i, ∃ hi : i < x.applied.length, x.applied[i].device = d ∧ markI x.applied d q = x.applied.set i ⟨d, q⟩) ∨ ((∀ a ∈ x.applied, a.device ≠ d) ∧ markI x.applied d q = insAt x.applied (lead (deviceLess d) x.applied) ⟨d, q⟩) := by
 unfold markI
 rcases hf : x.applied.findIdx? (atDevice d) with _ | i
 ·right
  rw [List.findIdx?_eq_none_iff] at hf
  refine ⟨fun a ha e => ?_, rfl⟩
  have := hf a ha
  unfold atDevice at this
  simp [e] at this
 ·left
  obtain ⟨hi, h1, _⟩ := List.findIdx?_eq_some_iff_getElem.1 hf
  have h1' : x.applied[i].device = d := by unfold atDevice at h1; simpa using h1
  refine ⟨i, hi, h1', ?_⟩
  show markAt x.applied q i = _
  unfold markAt
  rw [List.getElem?_eq_getElem hi]
  simp only [h1']

def Marks (l : List DApplied) : Prop := (∀ i, (hi : i < l.length) → (1 ≤ l[i].device ∧ l[i].device ≤ 1000000) ∧ (0 ≤ l[i].seq ∧ l[i].seq ≤ 1000000)) ∧ (∀ i, (hi : i + 1 < l.length) → (l[i]'(by omega)).device < l[i + 1].device)
theorem mark_server {x : DServer} {d q : Int} (h : isServerF x = true) (hd : 1 ≤ d ∧ d ≤ 1000000) (hq : 0 ≤ q ∧ q ≤ 1000000) : Marks (markI x.applied d q) := by
 obtain ⟨h1, h2, _⟩ := server_iff.1 h
 rcases markI_cases x d q with ⟨j, hj, hjd, e⟩ | ⟨hno, e⟩
 ·rw [e]
  have hdev : ∀ i, (hi : i < x.applied.length) → ((x.applied.set j ⟨d, q⟩)[i]'(by simpa using hi)).device = x.applied[i].device := fun i hi => by
   rw [List.getElem_set]
   by_cases hij : j = i
   ·subst hij; simp [hjd]
   ·simp [hij]
  refine ⟨fun i hi => ?_, fun i hi => ?_⟩
  ·have hi' : i < x.applied.length := by simpa using hi
   refine ⟨by rw [hdev i hi']; exact (h1 i hi').1, ?_⟩
   rw [List.getElem_set]
   by_cases hij : j = i
   ·simp [hij]; exact hq
   ·simp [hij]; exact (h1 i hi').2
  ·have hi' : i + 1 < x.applied.length := by simpa using hi
   rw [hdev i (by omega), hdev (i + 1) hi']
   exact h2 i hi'
 ·rw [e]
  have hle := lead_le (deviceLess d) x.applied
  have hlo := lead_lo (deviceLess d) x.applied
  have hhi := lead_hi (deviceLess d) x.applied
  generalize lead (deviceLess d) x.applied = t at hle hlo hhi
  have hlen := insAt_length hle (⟨d, q⟩ : DApplied)
  have g1 : ∀ j, (hj : j < t) → (insAt x.applied t (⟨d, q⟩ : DApplied))[j]'(by omega) = x.applied[j]'(by omega) := by
   intro j hj
   have := insAt_lo (⟨d, q⟩ : DApplied) hle hj
   rw [List.getElem?_eq_getElem (by omega), List.getElem?_eq_getElem (by omega)] at this
   exact Option.some.inj this
  have g2 : (insAt x.applied t (⟨d, q⟩ : DApplied))[t]'(by omega) = ⟨d, q⟩ := by
   have := insAt_at (⟨d, q⟩ : DApplied) hle
   rw [List.getElem?_eq_getElem (by omega)] at this
   exact Option.some.inj this
  have g3 : ∀ j, (hj : t ≤ j) → (h : j < x.applied.length) → (insAt x.applied t (⟨d, q⟩ : DApplied))[j + 1]'(by omega) = x.applied[j]'h := by
   intro j hj h
   have := insAt_hi (j := j + 1) (⟨d, q⟩ : DApplied) hle (by omega)
   rw [List.getElem?_eq_getElem (by omega), List.getElem?_eq_getElem (by omega)] at this
   exact Option.some.inj this
  refine ⟨fun j hj => ?_, fun j hj => ?_⟩
  ·rcases Nat.lt_trichotomy j t with h | rfl | h
   ·rw [g1 j h]; exact h1 j (by omega)
   ·rw [g2]; exact ⟨hd, hq⟩
   ·obtain ⟨j, rfl⟩ : ∃ i, j = i + 1 := ⟨j - 1, by omega⟩
    rw [g3 j (by omega) (by omega)]; exact h1 j (by omega)
  ·rcases Nat.lt_trichotomy (j + 1) t with h | h | h
   ·rw [g1 j (by omega), g1 (j + 1) h]; exact h2 j (by omega)
   ·subst h
    rw [g1 j (by omega), g2]
    have := hlo j (by omega) (by omega)
    unfold deviceLess at this
    exact of_decide_eq_true this
   ·rcases Nat.lt_or_eq_of_le (show t ≤ j by omega) with h' | rfl
    ·obtain ⟨j, rfl⟩ : ∃ i, j = i + 1 := ⟨j - 1, by omega⟩
     rw [g3 j (by omega) (by omega), g3 (j + 1) (by omega) (by omega)]; exact h2 j (by omega)
    ·rw [g2, g3 t (Nat.le_refl _) (by omega)]
     have hx := hhi (by omega)
     have hn := hno _ (List.getElem_mem (show t < x.applied.length by omega))
     unfold deviceLess at hx
     have hx := of_decide_eq_false hx
     show d < _
     omega

theorem receive_one {x : DServer} {y : DWrite} (h : receiveCode x y = 1) : isServerF x = true ∧ isWriteF y = true ∧ fullFor x y.device = false ∧ y.seq = lastSeqF x y.device + 1 := by
 unfold receiveCode at h
 split at h
 ·omega
 ·rename_i hr
  have hr : refused x y = false := by simpa using hr
  unfold refused at hr
  simp only [Bool.or_eq_false_iff, Bool.not_eq_false'] at hr
  obtain ⟨h1, h2, h3⟩ := hr
  split at h
  ·omega
  ·split at h
   ·omega
   ·rename_i h4 h5
    have hs := write_iff.1 h2
    have hl : 0 ≤ lastSeqF x y.device ∧ lastSeqF x y.device ≤ 1000000 := by
     obtain ⟨k1, _⟩ := server_iff.1 h1
     unfold lastSeqF
     rcases hf : x.applied.find? (atDevice y.device) with _ | a
     ·simp
     ·obtain ⟨j, hj, rfl⟩ := List.getElem_of_mem (List.mem_of_find?_eq_some hf)
      exact (k1 j hj).2
    rw [Go.IntWalk.wrap64_in _ (by omega)] at h5
    exact ⟨h1, h2, h3, by omega⟩
theorem lastSeq_in {x : DServer} (h : isServerF x = true) (d : Int) : 0 ≤ lastSeqF x d ∧ lastSeqF x d ≤ 1000000 := by
 obtain ⟨k1, _⟩ := server_iff.1 h
 unfold lastSeqF
 rcases hf : x.applied.find? (atDevice d) with _ | a
 ·simp
 ·obtain ⟨j, hj, rfl⟩ := List.getElem_of_mem (List.mem_of_find?_eq_some hf)
  exact (k1 j hj).2

theorem receiveOut_server {x : DServer} {y : DWrite} (h : isServerF x = true) (hy : isWriteF y = true) (hr : fullFor x y.device = false) : isServerF (receiveOut x y) = true := by
 obtain ⟨h1, h2, h3, h4, h5, h6⟩ := server_iff.1 h
 obtain ⟨hd, hq, _⟩ := write_iff.1 hy
 obtain ⟨g1, g2⟩ := mark_server (q := y.seq) h hd (by omega)
 refine server_iff.2 ⟨g1, g2, fun z hz => ?_, setItem_store h4, by show isNotes (setItemF x.store y).name = true; rw [setItem_name9]; exact h5, ?_⟩
 ·rcases List.mem_append.1 hz with hz | hz
  ·exact h3 z hz
  ·obtain rfl : z = y := by simpa using hz
   exact hy
 ·show (markI x.applied y.device y.seq).length ≤ 60
  rw [markI_len]
  unfold fullFor at hr
  rcases hf : x.applied.findIdx? (atDevice y.device) with _ | i
  ·rw [hf] at hr
   simp at hr
   simp; omega
  ·simp; omega
theorem receive_server {x : DServer} {y : DWrite} (h : isServerF x = true) : isServerF (receiveF x y) = true := by
 unfold receiveF
 split
 ·rename_i hc
  obtain ⟨_, h2, h3, _⟩ := receive_one hc
  exact receiveOut_server h h2 h3
 ·exact h

theorem find_mark {x : DServer} (h : isServerF x = true) (d q e : Int) : ((markI x.applied d q).find? (atDevice e)).map (·.seq) = if e = d then some q else (x.applied.find? (atDevice e)).map (·.seq) := by
 have hs := server_sorted h
 rcases markI_cases x d q with ⟨i, hi, hid, em⟩ | ⟨hno, em⟩
 ·rw [em]
  have hsplit : x.applied = x.applied.take i ++ x.applied[i] :: x.applied.drop (i + 1) := by
   rw [List.getElem_cons_drop]; exact (List.take_append_drop i _).symm
  have hset : x.applied.set i ⟨d, q⟩ = x.applied.take i ++ (⟨d, q⟩ : DApplied) :: x.applied.drop (i + 1) := List.set_eq_take_append_cons_drop.trans (by rw [if_pos hi])
  rw [hset]
  conv => rhs; rw [hsplit]
  rw [List.find?_append, List.find?_append, List.find?_cons, List.find?_cons]
  by_cases he : e = d
  ·subst he
   have hpre : (x.applied.take i).find? (atDevice e) = none := List.find?_eq_none.2 fun a ha => by
    obtain ⟨j, hj, rfl⟩ := List.getElem_of_mem ha
    have hj' : j < i := by simp at hj; omega
    have := hs j i hi hj'
    unfold atDevice
    simp only [List.getElem_take, beq_iff_eq]
    omega
   rw [hpre]
   simp [atDevice]
  ·rw [if_neg he]
   have e1 : atDevice e ⟨d, q⟩ = false := by unfold atDevice; simp; omega
   have e2 : atDevice e x.applied[i] = false := by unfold atDevice; simp; omega
   rw [e1, e2]
 ·rw [em]
  unfold insAt
  rw [List.find?_append, List.find?_cons]
  by_cases he : e = d
  ·subst he
   have hpre : (x.applied.take (lead (deviceLess e) x.applied)).find? (atDevice e) = none := List.find?_eq_none.2 fun a ha => by
    have := hno a (List.mem_of_mem_take ha)
    unfold atDevice
    simpa using this
   rw [hpre]
   simp [atDevice]
  ·have e1 : atDevice e ⟨d, q⟩ = false := by unfold atDevice; simp; omega
   rw [e1, if_neg he]
   dsimp only
   rw [← List.find?_append, List.take_append_drop]
theorem lastSeq_out {x : DServer} {y : DWrite} (h : isServerF x = true) (e : Int) : lastSeqF (receiveOut x y) e = if e = y.device then y.seq else lastSeqF x e := by
 unfold lastSeqF
 show (((markI x.applied y.device y.seq).find? (atDevice e)).map (·.seq)).getD 0 = _
 rw [find_mark h]
 split <;> rfl
theorem room_out {x : DServer} {y : DWrite} (h : isServerF x = true) : fullFor (receiveOut x y) y.device = false := by
 have h1 := find_mark h y.device y.seq y.device
 rw [if_pos rfl] at h1
 unfold fullFor
 have h2 : ((receiveOut x y).applied.findIdx? (atDevice y.device)).isNone = false := by
  cases hf : (receiveOut x y).applied.findIdx? (atDevice y.device)
  ·rw [List.findIdx?_eq_none_iff] at hf
   have h3 : (markI x.applied y.device y.seq).find? (atDevice y.device) = none := List.find?_eq_none.2 fun a ha => by rw [hf a ha]; simp
   rw [h3] at h1
   cases h1
  ·rfl
 rw [h2]; rfl

end Go.Proofs.YtlfebehpmefioaaGreat

/-
 Plain laws of a device's queue and a server that fit together: synchronization, whatever the network loses or repeats. No function of the program is named here.
-/
namespace Go.Proofs.YtlfebehpmefioaaGreat
open Go.RowKit

structure Ext (d : Int) (s t : DServer) : Prop where
 news : ∃ l : List DWrite, t.changes = s.changes ++ l ∧ (l.length : Int) = lastSeqF t d - lastSeqF s d ∧ (∀ i, (hi : i < l.length) → l[i].device = d ∧ l[i].seq = lastSeqF s d + 1 + i) ∧ t.store = appliedF s.store l
theorem Ext.refl (d : Int) (s : DServer) : Ext d s s := ⟨[], by simp, by simp, fun i hi => by simp at hi, rfl⟩
theorem appliedF_append (s : DStore) (l m : List DWrite) : appliedF s (l ++ m) = appliedF (appliedF s l) m := by unfold appliedF; rw [List.foldl_append]
theorem Ext.trans {d : Int} {a b c : DServer} (h : Ext d a b) (h2 : Ext d b c) : Ext d a c := by
 obtain ⟨l, e1, n1, p1, s1⟩ := h
 obtain ⟨m, e2, n2, p2, s2⟩ := h2
 refine ⟨l ++ m, by rw [e2, e1, List.append_assoc], by simp; omega, fun i hi => ?_, by rw [s2, s1, appliedF_append]⟩
 by_cases h : i < l.length
 ·rw [List.getElem_append_left h]; exact p1 i h
 ·rw [List.getElem_append_right (by omega)]
  obtain ⟨q1, q2⟩ := p2 (i - l.length) (by simp at hi; omega)
  exact ⟨q1, by rw [q2]; omega⟩
theorem Ext.one {s : DServer} {y : DWrite} (h : receiveCode s y = 1) : Ext y.device s (receiveF s y) := by
 obtain ⟨h1, _, _, h4⟩ := receive_one h
 have e : receiveF s y = receiveOut s y := by unfold receiveF; rw [if_pos h]
 rw [e]
 refine ⟨[y], rfl, ?_, fun i hi => ?_, rfl⟩
 ·rw [lastSeq_out h1, if_pos rfl, h4]; simp; omega
 ·have : i = 0 := by simp at hi; omega
  subst this
  exact ⟨rfl, by simp [h4]⟩

structure Net (o : DOutbox) (s : DServer) : Prop where
 box : isOutboxF o = true
 srv : isServerF s = true
 room : fullFor s o.device = false
 lo : o.next - o.writes.length - 1 ≤ lastSeqF s o.device
 hi : lastSeqF s o.device ≤ o.next - o.writes.length
 top : lastSeqF s o.device ≤ o.next - 1

theorem Net.first {o : DOutbox} {s : DServer} (h : Net o s) (hl : 0 < o.writes.length) : isWriteF (firstWriteF o) = true ∧ (firstWriteF o).device = o.device ∧ (firstWriteF o).seq = o.next - o.writes.length := by
 obtain ⟨h1, _⟩ := outbox_iff.1 h.box
 have hf : firstWriteF o = o.writes[0] := by
  unfold firstWriteF
  rw [List.headD_eq_head?_getD, List.head?_eq_getElem?, List.getElem?_eq_getElem hl]; rfl
 rw [hf]
 obtain ⟨a, b, c⟩ := h1 0 hl
 exact ⟨a, b, by rw [c]; simp⟩

theorem Net.receive {o : DOutbox} {s : DServer} (h : Net o s) (hl : 0 < o.writes.length) : (receiveCode s (firstWriteF o) = 1 ∨ receiveCode s (firstWriteF o) = 2) ∧ Net o (receiveF s (firstWriteF o)) ∧ lastSeqF (receiveF s (firstWriteF o)) o.device = o.next - o.writes.length ∧ Ext o.device s (receiveF s (firstWriteF o)) := by
 obtain ⟨w1, w2, w3⟩ := h.first hl
 have hin := lastSeq_in h.srv o.device
 have hr : refused s (firstWriteF o) = false := by
  unfold refused
  rw [h.srv, w1, w2, h.room]; rfl
 by_cases hc : (firstWriteF o).seq ≤ lastSeqF s (firstWriteF o).device
 ·have h2 : receiveCode s (firstWriteF o) = 2 := by unfold receiveCode; rw [hr, if_neg (by decide), if_pos hc]
  have e : receiveF s (firstWriteF o) = s := by unfold receiveF; rw [h2, if_neg (by decide)]
  rw [e]
  refine ⟨.inr h2, h, ?_, Ext.refl _ _⟩
  rw [w2, w3] at hc
  have := h.hi
  omega
 ·have h1 : receiveCode s (firstWriteF o) = 1 := by
   unfold receiveCode
   rw [hr, if_neg (by decide), if_neg hc, if_neg ?_]
   rw [w2, w3] at *
   rw [Go.IntWalk.wrap64_in _ (by omega)]
   have := h.lo
   omega
  have hx := Ext.one h1
  rw [w2] at hx
  have e : receiveF s (firstWriteF o) = receiveOut s (firstWriteF o) := by unfold receiveF; rw [if_pos h1]
  have hls : lastSeqF (receiveF s (firstWriteF o)) o.device = o.next - o.writes.length := by
   rw [e, lastSeq_out h.srv, w2, if_pos rfl, w3]
  have hroom : fullFor (receiveF s (firstWriteF o)) o.device = false := by
   have := room_out (y := firstWriteF o) h.srv
   rw [w2] at this
   rw [e]; exact this
  exact ⟨.inl h1, ⟨h.box, receive_server h.srv, hroom, by rw [hls]; omega, by rw [hls]; omega, by rw [hls]; omega⟩, hls, hx⟩

theorem Net.acked {o : DOutbox} {s : DServer} (h : Net o s) (hl : 0 < o.writes.length) (hs : lastSeqF s o.device = o.next - o.writes.length) : Net (ackWritesF o (firstWriteF o).seq) s ∧ (ackWritesF o (firstWriteF o).seq).device = o.device ∧ (ackWritesF o (firstWriteF o).seq).next = o.next ∧ (ackWritesF o (firstWriteF o).seq).writes.length = o.writes.length - 1 := by
 have e := (outbox_law h.box hl).2.1
 rw [e]
 have hlen : (⟨o.device, o.next, o.writes.drop 1⟩ : DOutbox).writes.length = o.writes.length - 1 := by show (o.writes.drop 1).length = _; rw [List.length_drop]
 refine ⟨⟨outbox_tail h.box hl, h.srv, h.room, ?_, ?_, h.top⟩, rfl, rfl, hlen⟩
 ·rw [hlen]; show o.next - ((o.writes.length - 1 : Nat) : Int) - 1 ≤ lastSeqF s o.device; omega
 ·rw [hlen]; show lastSeqF s o.device ≤ o.next - ((o.writes.length - 1 : Nat) : Int); omega

theorem Net.stepSrv {o : DOutbox} {s : DServer} (h : Net o s) (hl : 0 < o.writes.length) (fate : Int) : Net o (stepSrv s (firstWriteF o) fate) ∧ Ext o.device s (stepSrv s (firstWriteF o) fate) ∧ (stepAcked s (firstWriteF o) fate = true → lastSeqF (stepSrv s (firstWriteF o) fate) o.device = o.next - o.writes.length) ∧ (fate = 0 → stepAcked s (firstWriteF o) fate = true) := by
 obtain ⟨c1, n1, l1, x1⟩ := h.receive hl
 unfold Go.Proofs.YtlfebehpmefioaaGreat.stepSrv
 by_cases hf : fate = 0 ∨ fate = 2
 ·rw [if_pos hf]
  refine ⟨n1, x1, fun _ => l1, fun h0 => ?_⟩
  unfold stepAcked stepCode
  rw [if_pos hf, h0]
  rcases c1 with c | c <;> rw [c] <;> rfl
 ·rw [if_neg hf]
  by_cases h3 : fate = 3
  ·rw [if_pos h3]
   obtain ⟨_, n2, l2, x2⟩ := n1.receive hl
   exact ⟨n2, x1.trans x2, fun _ => l2, fun h0 => by omega⟩
  ·rw [if_neg h3]
   refine ⟨h, Ext.refl _ _, fun ha => ?_, fun h0 => by omega⟩
   unfold stepAcked at ha
   simp only [Bool.and_eq_true, Bool.or_eq_true, beq_iff_eq] at ha
   omega

theorem Net.step {y : DSync} {s : DServer} (h : Net y.outbox s) (now fate : Int) : Net (syncStepY y s now fate).outbox (syncStepS y s now fate) ∧ Ext y.outbox.device s (syncStepS y s now fate) ∧ (syncStepY y s now fate).outbox.device = y.outbox.device ∧ (syncStepY y s now fate).outbox.next = y.outbox.next := by
 unfold syncStepY syncStepS
 cases ho : stepOff y now
 ·simp only [Bool.false_eq_true, if_false]
  have hl : 0 < y.outbox.writes.length := by
   unfold stepOff firstWriteB at ho
   simp only [Bool.or_eq_false_iff, Bool.not_eq_false', decide_eq_true_eq] at ho
   exact ho.2.1
  obtain ⟨n1, x1, a1, _⟩ := h.stepSrv hl fate
  cases ha : stepAcked s (firstWriteF y.outbox) fate
  ·simp only [Bool.false_eq_true, if_false]
   exact ⟨n1, x1, rfl, rfl⟩
  ·simp only [if_true]
   obtain ⟨n2, d2, e2, _⟩ := n1.acked hl (a1 ha)
   exact ⟨n2, x1, d2, e2⟩
 ·simp only [if_true]
  exact ⟨h, Ext.refl _ _, by trivial, by trivial⟩

/-! ### With a network -/
/-! ### As the draws make them -/
theorem Net.enqueue {o : DOutbox} {s : DServer} (h : Net o s) (k : DKey) (f : ByteArray) (n : Int) : Net (enqueueF o k f n) s ∧ (enqueueF o k f n).device = o.device := by
 unfold enqueueF
 cases hb : enqueueB o k f n
 ·simp only [Bool.false_eq_true, if_false]
  exact ⟨h, by trivial⟩
 ·simp only [if_true]
  unfold enqueueB at hb
  rw [Bool.and_eq_true] at hb
  obtain ⟨_, _, h3, _⟩ := outbox_iff.1 h.box
  have hl : (enqOut o k f n).writes.length = o.writes.length + 1 := by show (o.writes ++ [newWrite o k f n]).length = _; simp
  have hn : (enqOut o k f n).next = o.next + 1 := by show wrap64 (o.next + 1) = _; exact Go.IntWalk.wrap64_in _ (by omega)
  have hd : (enqOut o k f n).device = o.device := rfl
  have h5 := h.lo
  have h6 := h.hi
  have h7 := h.top
  exact ⟨⟨hb.2, h.srv, by rw [hd]; exact h.room, by rw [hl, hn, hd]; omega, by rw [hl, hn, hd]; omega, by rw [hn, hd]; omega⟩, hd⟩
theorem newOutbox_box {d : Int} (h : 1 ≤ d ∧ d ≤ 1000000) : isOutboxF (newBox d) = true :=
 outbox_iff.2 ⟨fun i hi => by simp [newBox] at hi, h, by show 1 ≤ (1 : Int) ∧ (1 : Int) ≤ 1000000; decide, Nat.zero_le _⟩
theorem newOutbox_is {d : Int} (h : 1 ≤ d ∧ d ≤ 1000000) : newOutboxF d = newBox d := by unfold newOutboxF newOutboxB; rw [newOutbox_box h]; rfl
theorem server_new {s : DStore} (h : isStoreF s = true) (hn : isNotes s.name = true) : isServerF ⟨s, [], []⟩ = true :=
 server_iff.2 ⟨fun i hi => by simp at hi, fun i hi => by simp at hi, fun y hy => by simp at hy, h, hn, Nat.zero_le _⟩
theorem boff_in (t : Int) : 1 ≤ boff t ∧ boff t ≤ 64 := by
 unfold boff
 have h : ∀ k : Nat, k ≤ 6 → 1 ≤ pow2 k ∧ pow2 k ≤ 64 := by decide
 exact h _ (Nat.min_le_right _ _)
theorem tried_in {t : Int} (h : 0 ≤ t) : 0 ≤ tried t ∧ tried t ≤ 60 := by
 unfold tried
 split
 ·rw [Go.IntWalk.wrap64_in _ (by omega)]; omega
 ·omega
theorem syncStepY_in {y : DSync} {s : DServer} {fate : Int} {b : Int} (h : 0 ≤ y.waitUntil ∧ y.waitUntil ≤ b) (hb : b ≤ 1000000) (ht : 0 ≤ y.tries) : (0 ≤ (syncStepY y s y.waitUntil fate).waitUntil ∧ (syncStepY y s y.waitUntil fate).waitUntil ≤ b + 64) ∧ 0 ≤ (syncStepY y s y.waitUntil fate).tries := by
 unfold syncStepY
 split
 ·exact ⟨⟨h.1, by omega⟩, ht⟩
 ·split
  ·exact ⟨⟨by show (0 : Int) ≤ 0; decide, by show (0 : Int) ≤ b + 64; omega⟩, by show (0 : Int) ≤ 0; decide⟩
  ·have h1 := boff_in (tried y.tries)
   refine ⟨?_, (tried_in ht).1⟩
   show 0 ≤ wrap64 (y.waitUntil + boff (tried y.tries)) ∧ wrap64 (y.waitUntil + boff (tried y.tries)) ≤ b + 64
   rw [Go.IntWalk.wrap64_in _ (by omega)]
   omega

structure PairOk (b : Nat) (y : DSync) (s : DServer) : Prop where
 net : Net y.outbox s
 wait : 0 ≤ y.waitUntil ∧ y.waitUntil ≤ b
 tries : 0 ≤ y.tries
 changes : s.changes.length ≤ b
theorem receive_changes (s : DServer) (y : DWrite) : (receiveF s y).changes.length ≤ s.changes.length + 1 := by
 unfold receiveF
 split
 ·show (s.changes ++ [y]).length ≤ _; simp
 ·omega
theorem step_changes (y : DSync) (s : DServer) (now fate : Int) : (syncStepS y s now fate).changes.length ≤ s.changes.length + 2 := by
 unfold syncStepS stepSrv
 split
 ·omega
 ·split
  ·have := receive_changes s (firstWriteF y.outbox); omega
  ·split
   ·have h1 := receive_changes s (firstWriteF y.outbox)
    have h2 := receive_changes (receiveF s (firstWriteF y.outbox)) (firstWriteF y.outbox)
    omega
   ·omega
theorem PairOk.step {b : Nat} {y : DSync} {s : DServer} (h : PairOk b y s) (hb : b ≤ 10000) (fate : Int) : PairOk (b + 64) (syncStepY y s y.waitUntil fate) (syncStepS y s y.waitUntil fate) := by
 obtain ⟨h1, h2⟩ := syncStepY_in (s := s) (fate := fate) h.wait (by omega) h.tries
 exact ⟨(h.net.step _ _).1, by omega, h2, by have := step_changes y s y.waitUntil fate; have := h.changes; omega⟩
theorem PairOk.small {b : Nat} {y : DSync} {s : DServer} (h : PairOk b y s) (hb : b ≤ 10000) : y.outbox.writes.length ≤ 20 ∧ SmallServer s 10000 := by
 obtain ⟨_, _, _, h4⟩ := outbox_iff.1 h.net.box
 have h6 := isServer_len h.net.srv
 exact ⟨h4, ⟨SmallStore.of_store (isServer_store h.net.srv), by omega, by have := h.changes; omega⟩⟩

end Go.Proofs.YtlfebehpmefioaaGreat
