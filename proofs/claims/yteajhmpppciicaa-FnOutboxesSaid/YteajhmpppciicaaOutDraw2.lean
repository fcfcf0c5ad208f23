/-
  The draws of writes and outboxes: what is drawn is small.
-/
import Derived.Test.YteajhmpppciicaaOutDraw
import Derived.Test.YteajhmpppciicaaEnqueue
import Derived.Test.YteajhmpppciicaaAck
import Derived.Deep.RegionWith
namespace Go.Proofs.Yteajhmpppciicaa
open Go.RowKit

theorem Mov.cur {k : Kur} {a b : World} (h : Mov k a b) : Cur b k := h.2


set_option maxRecDepth 100000 in
set_option maxHeartbeats 3200000 in
theorem specWrite (k : Kur) (w : World) (h : Cur w k) : Calls Try.prog 24 #[.pointer (some ⟨k.k, 0, none⟩)] w fun e w' => ∃ x : DWrite, e = .returned (.agg #[.int .i64 x.device, .int .i64 x.seq, .int .i64 x.key.kind, .int .i64 x.key.n, .string x.key.text, .string x.field, .int .i64 x.n]) ∧ (x.key.text.size ≤ 20 ∧ x.field.size ≤ 20) ∧ Mov k w w' := by
  have hk := h.lt
  go_enter Try.func24, Try.ntmps24
  go_wp2_with fail
  refine (specBelow k _ _ (h.below (by repeat (first | with_reducible exact belR | with_reducible apply belA | (with_reducible refine belS ?_ ?_; focus (first | omega | (simp; done) | (simp; omega))) | with_reducible apply belN | with_reducible apply belD | with_reducible assumption)))).mono ?_
  rintro e w1 ⟨d, rfl, _, _, hm⟩
  have HT : Hid (WB w1 w.heap.size #[.int .i64 0, .int .i64 0, .int .i64 0, .int .i64 0, .string ⟨#[]⟩, .string ⟨#[]⟩, .int .i64 0]) := Lib.hid ((WB.at rfl).mov hm (by omega))
  have HM : Hid (Mov k w w1) := Lib.hid (Mov.belowL (by repeat (first | with_reducible exact belR | with_reducible apply belA | (with_reducible refine belS ?_ ?_; focus (first | omega | (simp; done) | (simp; omega))) | with_reducible apply belN | with_reducible apply belD | with_reducible assumption)) hm)
  have hz1 := HT.out.lt
  clear hm
  go_wp2_with fail
  refine (specBelow k _ _ HM.out.2).mono ?_
  rintro e w2 ⟨s, rfl, _, _, hm⟩
  replace HT := Lib.hid (HT.out.mov hm (by omega))
  replace HM := Lib.hid (HM.out.trans hm)
  clear hm
  go_wp2_with fail
  refine (specSmallKey k _ HM.out.2).mono ?_
  rintro e w3 ⟨y, rfl, hy, hm⟩
  replace HT := Lib.hid (HT.out.mov hm (by omega))
  replace HM := Lib.hid (HM.out.trans hm)
  clear hm
  go_wp2_with fail
  refine (specName k _ HM.out.2).mono ?_
  rintro e w4 ⟨f, rfl, hf, hm⟩
  replace HT := Lib.hid (HT.out.mov hm (by omega))
  replace HM := Lib.hid (HM.out.trans hm)
  clear hm
  go_wp2_with fail
  refine (specBelow k _ _ HM.out.2).mono ?_
  rintro e w5 ⟨n, rfl, _, _, hm⟩
  replace HT := Lib.hid (HT.out.mov hm (by omega))
  replace HM := Lib.hid (HM.out.trans hm)
  clear hm
  have hz5 := HT.out.lt
  obtain ⟨x, hx⟩ : ∃ x : DWrite, x = ⟨1 + d, 1 + s, y, f, n⟩ := ⟨_, rfl⟩
  have hxs : x.key.text.size ≤ 20 ∧ x.field.size ≤ 20 := by rw [hx]; exact ⟨hy, hf⟩
  have HEx := Lib.hid hx
  clear hx
  have hx := hxs
  clear hxs hy hf
  go_wp2_with fail
  refine (specBelow k _ _ (HM.out.2.below (by repeat (first | with_reducible exact belR | with_reducible apply belA | (with_reducible refine belS ?_ ?_; focus (first | omega | (simp; done) | (simp; omega))) | with_reducible apply belN | with_reducible apply belD | with_reducible assumption)))).mono ?_
  rintro e w6 ⟨b, rfl, _, _, hm⟩
  obtain ⟨kb, hkb⟩ : ∃ kb, kb = w5.heap.size := ⟨_, rfl⟩
  have HX : Hid (WB w6 kb #[.int .i64 x.device, .int .i64 x.seq, .int .i64 x.key.kind, .int .i64 x.key.n, .string x.key.text, .string x.field, .int .i64 x.n]) := Lib.hid (by rw [hkb, HEx.out]; exact (WB.at rfl).mov hm (by have := HM.out.2.lt; omega))
  replace HT := Lib.hid (HT.out.growA.mov hm (by omega))
  have hkk : kb ≠ k.k := by have := HM.out.2.lt; omega
  replace HM := Lib.hid (HM.out.trans (Mov.belowL (by repeat (first | with_reducible exact belR | with_reducible apply belA | (with_reducible refine belS ?_ ?_; focus (first | omega | (simp; done) | (simp; omega))) | with_reducible apply belN | with_reducible apply belD | with_reducible assumption)) hm))
  rw [← hkb]
  have hkw : w.heap.size < kb := by omega
  clear hm hkb hz1 hz5 HEx
  cases n0 : (b == 0)
  case' false => cases n1 : (b == 1)
  case' false.false => cases n2 : (b == 2)
  case' false.false.false => cases n3 : (b == 3)
  case' false.false.false.false => cases n4 : (b == 4)
  case false.false.false.false.false =>
    have ⟨c_HX, z_HX, f_HX⟩ := HX.out
    have ⟨c_HT, z_HT, f_HT⟩ := HT.out
    go_upto_region 13 with fail
    refine settle (fun W => ∃ x : DWrite, WB W kb #[.int .i64 x.device, .int .i64 x.seq, .int .i64 x.key.kind, .int .i64 x.key.n, .string x.key.text, .string x.field, .int .i64 x.n] ∧ WB W w.heap.size #[.int .i64 0, .int .i64 0, .int .i64 0, .int .i64 0, .string ⟨#[]⟩, .string ⟨#[]⟩, .int .i64 0] ∧ (x.key.text.size ≤ 20 ∧ x.field.size ≤ 20) ∧ Mov k w W) ⟨x, HX.out.keep (by repeat (first | with_reducible exact belR | with_reducible apply belA | (with_reducible refine belS ?_ ?_; focus (first | omega | (simp; done) | (simp; omega))) | with_reducible apply belN | with_reducible apply belD | with_reducible assumption)), HT.out.keep (by repeat (first | with_reducible exact belR | with_reducible apply belA | (with_reducible refine belS ?_ ?_; focus (first | omega | (simp; done) | (simp; omega))) | with_reducible apply belN | with_reducible apply belD | with_reducible assumption)), hx, HM.out.below (by repeat (first | with_reducible exact belR | with_reducible apply belA | (with_reducible refine belS ?_ ?_; focus (first | omega | (simp; done) | (simp; omega))) | with_reducible apply belN | with_reducible apply belD | with_reducible assumption))⟩ ?_
    clear c_HX z_HX f_HX c_HT z_HT f_HT
    clear HX HT HM
    rintro w9 ⟨y, hx, ht, hsz, hm⟩
    have HX := Lib.hid hx
    have HT := Lib.hid ht
    have ⟨c_HX, z_HX, f_HX⟩ := HX.out
    have ⟨c_HT, z_HT, f_HT⟩ := HT.out
    go_wp2
    exact bodyPost_ret (v := .agg #[.int .i64 y.device, .int .i64 y.seq, .int .i64 y.key.kind, .int .i64 y.key.n, .string y.key.text, .string y.field, .int .i64 y.n]) (by simp [results, Try.results24, go_sem, c_HT]) rfl ⟨y, rfl, hsz, hm.low (B := w.heap.size) (by repeat (first | with_reducible exact belR | (with_reducible refine belAB ?_ ?_; focus (first | omega | (simp; done) | (simp; omega))) | (with_reducible refine belS ?_ ?_; focus (first | omega | (simp; done) | (simp; omega))) | with_reducible apply belN | with_reducible apply belD | with_reducible assumption)) (Nat.le_refl _) hk⟩
  case true =>
    have ⟨c_HX, z_HX, f_HX⟩ := HX.out
    have ⟨c_HT, z_HT, f_HT⟩ := HT.out
    go_wp2_with fail
    refine (specLitInt k [0, 1000000, 1000001] _ HM.out.2 rfl rfl rfl (by decide) (by decide)).mono ?_
    rintro e w8 ⟨v, rfl, _, hm⟩
    clear c_HX z_HX f_HX c_HT z_HT f_HT
    have hz8 := hm.size
    replace HX := Lib.hid (HX.out.mov hm (by omega))
    replace HT := Lib.hid (HT.out.mov hm (by omega))
    replace HM := Lib.hid (HM.out.trans hm)
    clear hm
    have ⟨c_HX, z_HX, f_HX⟩ := HX.out
    have ⟨c_HT, z_HT, f_HT⟩ := HT.out
    go_upto_region 13 with fail
    refine settle (fun W => ∃ x : DWrite, WB W kb #[.int .i64 x.device, .int .i64 x.seq, .int .i64 x.key.kind, .int .i64 x.key.n, .string x.key.text, .string x.field, .int .i64 x.n] ∧ WB W w.heap.size #[.int .i64 0, .int .i64 0, .int .i64 0, .int .i64 0, .string ⟨#[]⟩, .string ⟨#[]⟩, .int .i64 0] ∧ (x.key.text.size ≤ 20 ∧ x.field.size ≤ 20) ∧ Mov k w W) ⟨⟨v, x.seq, x.key, x.field, x.n⟩, HX.out.setAt (i := 0) (by simp) rfl, HT.out.setOther (by omega), hx, HM.out.low (B := w.heap.size) (by repeat (first | with_reducible exact belR | (with_reducible refine belAB ?_ ?_; focus (first | omega | (simp; done) | (simp; omega))) | (with_reducible refine belS ?_ ?_; focus (first | omega | (simp; done) | (simp; omega))) | with_reducible apply belN | with_reducible apply belD | with_reducible assumption)) (Nat.le_refl _) hk⟩ ?_
    clear c_HX z_HX f_HX c_HT z_HT f_HT
    clear HX HT HM
    rintro w9 ⟨y, hx, ht, hsz, hm⟩
    have HX := Lib.hid hx
    have HT := Lib.hid ht
    have ⟨c_HX, z_HX, f_HX⟩ := HX.out
    have ⟨c_HT, z_HT, f_HT⟩ := HT.out
    go_wp2
    exact bodyPost_ret (v := .agg #[.int .i64 y.device, .int .i64 y.seq, .int .i64 y.key.kind, .int .i64 y.key.n, .string y.key.text, .string y.field, .int .i64 y.n]) (by simp [results, Try.results24, go_sem, c_HT]) rfl ⟨y, rfl, hsz, hm.low (B := w.heap.size) (by repeat (first | with_reducible exact belR | (with_reducible refine belAB ?_ ?_; focus (first | omega | (simp; done) | (simp; omega))) | (with_reducible refine belS ?_ ?_; focus (first | omega | (simp; done) | (simp; omega))) | with_reducible apply belN | with_reducible apply belD | with_reducible assumption)) (Nat.le_refl _) hk⟩
  case false.true =>
    have ⟨c_HX, z_HX, f_HX⟩ := HX.out
    have ⟨c_HT, z_HT, f_HT⟩ := HT.out
    go_wp2_with fail
    refine (specLitInt k [0, 1000000, 1000001] _ HM.out.2 rfl rfl rfl (by decide) (by decide)).mono ?_
    rintro e w8 ⟨v, rfl, _, hm⟩
    clear c_HX z_HX f_HX c_HT z_HT f_HT
    have hz8 := hm.size
    replace HX := Lib.hid (HX.out.mov hm (by omega))
    replace HT := Lib.hid (HT.out.mov hm (by omega))
    replace HM := Lib.hid (HM.out.trans hm)
    clear hm
    have ⟨c_HX, z_HX, f_HX⟩ := HX.out
    have ⟨c_HT, z_HT, f_HT⟩ := HT.out
    go_upto_region 13 with fail
    refine settle (fun W => ∃ x : DWrite, WB W kb #[.int .i64 x.device, .int .i64 x.seq, .int .i64 x.key.kind, .int .i64 x.key.n, .string x.key.text, .string x.field, .int .i64 x.n] ∧ WB W w.heap.size #[.int .i64 0, .int .i64 0, .int .i64 0, .int .i64 0, .string ⟨#[]⟩, .string ⟨#[]⟩, .int .i64 0] ∧ (x.key.text.size ≤ 20 ∧ x.field.size ≤ 20) ∧ Mov k w W) ⟨⟨x.device, v, x.key, x.field, x.n⟩, HX.out.setAt (i := 1) (by simp) rfl, HT.out.setOther (by omega), hx, HM.out.low (B := w.heap.size) (by repeat (first | with_reducible exact belR | (with_reducible refine belAB ?_ ?_; focus (first | omega | (simp; done) | (simp; omega))) | (with_reducible refine belS ?_ ?_; focus (first | omega | (simp; done) | (simp; omega))) | with_reducible apply belN | with_reducible apply belD | with_reducible assumption)) (Nat.le_refl _) hk⟩ ?_
    clear c_HX z_HX f_HX c_HT z_HT f_HT
    clear HX HT HM
    rintro w9 ⟨y, hx, ht, hsz, hm⟩
    have HX := Lib.hid hx
    have HT := Lib.hid ht
    have ⟨c_HX, z_HX, f_HX⟩ := HX.out
    have ⟨c_HT, z_HT, f_HT⟩ := HT.out
    go_wp2
    exact bodyPost_ret (v := .agg #[.int .i64 y.device, .int .i64 y.seq, .int .i64 y.key.kind, .int .i64 y.key.n, .string y.key.text, .string y.field, .int .i64 y.n]) (by simp [results, Try.results24, go_sem, c_HT]) rfl ⟨y, rfl, hsz, hm.low (B := w.heap.size) (by repeat (first | with_reducible exact belR | (with_reducible refine belAB ?_ ?_; focus (first | omega | (simp; done) | (simp; omega))) | (with_reducible refine belS ?_ ?_; focus (first | omega | (simp; done) | (simp; omega))) | with_reducible apply belN | with_reducible apply belD | with_reducible assumption)) (Nat.le_refl _) hk⟩
  case false.false.true =>
    have ⟨c_HX, z_HX, f_HX⟩ := HX.out
    have ⟨c_HT, z_HT, f_HT⟩ := HT.out
    go_wp2_with fail
    refine (specAnyKey k _ HM.out.2).mono ?_
    rintro e w8 ⟨v, rfl, hv, hm⟩
    clear c_HX z_HX f_HX c_HT z_HT f_HT
    have hz8 := hm.size
    replace HX := Lib.hid (HX.out.mov hm (by omega))
    replace HT := Lib.hid (HT.out.mov hm (by omega))
    replace HM := Lib.hid (HM.out.trans hm)
    clear hm
    have ⟨c_HX, z_HX, f_HX⟩ := HX.out
    have ⟨c_HT, z_HT, f_HT⟩ := HT.out
    go_upto_region 13 with fail
    refine settle (fun W => ∃ x : DWrite, WB W kb #[.int .i64 x.device, .int .i64 x.seq, .int .i64 x.key.kind, .int .i64 x.key.n, .string x.key.text, .string x.field, .int .i64 x.n] ∧ WB W w.heap.size #[.int .i64 0, .int .i64 0, .int .i64 0, .int .i64 0, .string ⟨#[]⟩, .string ⟨#[]⟩, .int .i64 0] ∧ (x.key.text.size ≤ 20 ∧ x.field.size ≤ 20) ∧ Mov k w W) ⟨⟨x.device, x.seq, v, x.field, x.n⟩, ((HX.out.setAt (i := 2) (cs' := #[.int .i64 x.device, .int .i64 x.seq, .int .i64 v.kind, .int .i64 x.key.n, .string x.key.text, .string x.field, .int .i64 x.n]) (by simp) rfl).setAt (i := 3) (cs' := #[.int .i64 x.device, .int .i64 x.seq, .int .i64 v.kind, .int .i64 v.n, .string x.key.text, .string x.field, .int .i64 x.n]) (by simp) rfl).setAt (i := 4) (cs' := #[.int .i64 x.device, .int .i64 x.seq, .int .i64 v.kind, .int .i64 v.n, .string v.text, .string x.field, .int .i64 x.n]) (by simp) rfl, ((HT.out.setOther (by omega)).setOther (by omega)).setOther (by omega), ⟨hv, hx.2⟩, HM.out.low (B := w.heap.size) (by repeat (first | with_reducible exact belR | (with_reducible refine belAB ?_ ?_; focus (first | omega | (simp; done) | (simp; omega))) | (with_reducible refine belS ?_ ?_; focus (first | omega | (simp; done) | (simp; omega))) | with_reducible apply belN | with_reducible apply belD | with_reducible assumption)) (Nat.le_refl _) hk⟩ ?_
    clear c_HX z_HX f_HX c_HT z_HT f_HT
    clear HX HT HM
    rintro w9 ⟨y, hx, ht, hsz, hm⟩
    have HX := Lib.hid hx
    have HT := Lib.hid ht
    have ⟨c_HX, z_HX, f_HX⟩ := HX.out
    have ⟨c_HT, z_HT, f_HT⟩ := HT.out
    go_wp2
    exact bodyPost_ret (v := .agg #[.int .i64 y.device, .int .i64 y.seq, .int .i64 y.key.kind, .int .i64 y.key.n, .string y.key.text, .string y.field, .int .i64 y.n]) (by simp [results, Try.results24, go_sem, c_HT]) rfl ⟨y, rfl, hsz, hm.low (B := w.heap.size) (by repeat (first | with_reducible exact belR | (with_reducible refine belAB ?_ ?_; focus (first | omega | (simp; done) | (simp; omega))) | (with_reducible refine belS ?_ ?_; focus (first | omega | (simp; done) | (simp; omega))) | with_reducible apply belN | with_reducible apply belD | with_reducible assumption)) (Nat.le_refl _) hk⟩
  case false.false.false.true =>
    have ⟨c_HX, z_HX, f_HX⟩ := HX.out
    have ⟨c_HT, z_HT, f_HT⟩ := HT.out
    go_upto_region 13 with fail
    refine settle (fun W => ∃ x : DWrite, WB W kb #[.int .i64 x.device, .int .i64 x.seq, .int .i64 x.key.kind, .int .i64 x.key.n, .string x.key.text, .string x.field, .int .i64 x.n] ∧ WB W w.heap.size #[.int .i64 0, .int .i64 0, .int .i64 0, .int .i64 0, .string ⟨#[]⟩, .string ⟨#[]⟩, .int .i64 0] ∧ (x.key.text.size ≤ 20 ∧ x.field.size ≤ 20) ∧ Mov k w W) ⟨⟨x.device, x.seq, x.key, ⟨#[]⟩, x.n⟩, HX.out.setAt (i := 5) (by simp) rfl, HT.out.setOther (by omega), ⟨hx.1, Nat.zero_le _⟩, HM.out.low (B := w.heap.size) (by repeat (first | with_reducible exact belR | (with_reducible refine belAB ?_ ?_; focus (first | omega | (simp; done) | (simp; omega))) | (with_reducible refine belS ?_ ?_; focus (first | omega | (simp; done) | (simp; omega))) | with_reducible apply belN | with_reducible apply belD | with_reducible assumption)) (Nat.le_refl _) hk⟩ ?_
    clear c_HX z_HX f_HX c_HT z_HT f_HT
    clear HX HT HM
    rintro w9 ⟨y, hx, ht, hsz, hm⟩
    have HX := Lib.hid hx
    have HT := Lib.hid ht
    have ⟨c_HX, z_HX, f_HX⟩ := HX.out
    have ⟨c_HT, z_HT, f_HT⟩ := HT.out
    go_wp2
    exact bodyPost_ret (v := .agg #[.int .i64 y.device, .int .i64 y.seq, .int .i64 y.key.kind, .int .i64 y.key.n, .string y.key.text, .string y.field, .int .i64 y.n]) (by simp [results, Try.results24, go_sem, c_HT]) rfl ⟨y, rfl, hsz, hm.low (B := w.heap.size) (by repeat (first | with_reducible exact belR | (with_reducible refine belAB ?_ ?_; focus (first | omega | (simp; done) | (simp; omega))) | (with_reducible refine belS ?_ ?_; focus (first | omega | (simp; done) | (simp; omega))) | with_reducible apply belN | with_reducible apply belD | with_reducible assumption)) (Nat.le_refl _) hk⟩
  case false.false.false.false.true =>
    have ⟨c_HX, z_HX, f_HX⟩ := HX.out
    have ⟨c_HT, z_HT, f_HT⟩ := HT.out
    go_wp2_with fail
    refine (specLitInt k [-1, 1000000000, 1000000001] _ HM.out.2 rfl rfl rfl (by decide) (by decide)).mono ?_
    rintro e w8 ⟨v, rfl, _, hm⟩
    clear c_HX z_HX f_HX c_HT z_HT f_HT
    have hz8 := hm.size
    replace HX := Lib.hid (HX.out.mov hm (by omega))
    replace HT := Lib.hid (HT.out.mov hm (by omega))
    replace HM := Lib.hid (HM.out.trans hm)
    clear hm
    have ⟨c_HX, z_HX, f_HX⟩ := HX.out
    have ⟨c_HT, z_HT, f_HT⟩ := HT.out
    go_upto_region 13 with fail
    refine settle (fun W => ∃ x : DWrite, WB W kb #[.int .i64 x.device, .int .i64 x.seq, .int .i64 x.key.kind, .int .i64 x.key.n, .string x.key.text, .string x.field, .int .i64 x.n] ∧ WB W w.heap.size #[.int .i64 0, .int .i64 0, .int .i64 0, .int .i64 0, .string ⟨#[]⟩, .string ⟨#[]⟩, .int .i64 0] ∧ (x.key.text.size ≤ 20 ∧ x.field.size ≤ 20) ∧ Mov k w W) ⟨⟨x.device, x.seq, x.key, x.field, v⟩, HX.out.setAt (i := 6) (by simp) rfl, HT.out.setOther (by omega), hx, HM.out.low (B := w.heap.size) (by repeat (first | with_reducible exact belR | (with_reducible refine belAB ?_ ?_; focus (first | omega | (simp; done) | (simp; omega))) | (with_reducible refine belS ?_ ?_; focus (first | omega | (simp; done) | (simp; omega))) | with_reducible apply belN | with_reducible apply belD | with_reducible assumption)) (Nat.le_refl _) hk⟩ ?_
    clear c_HX z_HX f_HX c_HT z_HT f_HT
    clear HX HT HM
    rintro w9 ⟨y, hx, ht, hsz, hm⟩
    have HX := Lib.hid hx
    have HT := Lib.hid ht
    have ⟨c_HX, z_HX, f_HX⟩ := HX.out
    have ⟨c_HT, z_HT, f_HT⟩ := HT.out
    go_wp2
    exact bodyPost_ret (v := .agg #[.int .i64 y.device, .int .i64 y.seq, .int .i64 y.key.kind, .int .i64 y.key.n, .string y.key.text, .string y.field, .int .i64 y.n]) (by simp [results, Try.results24, go_sem, c_HT]) rfl ⟨y, rfl, hsz, hm.low (B := w.heap.size) (by repeat (first | with_reducible exact belR | (with_reducible refine belAB ?_ ?_; focus (first | omega | (simp; done) | (simp; omega))) | (with_reducible refine belS ?_ ?_; focus (first | omega | (simp; done) | (simp; omega))) | with_reducible apply belN | with_reducible apply belD | with_reducible assumption)) (Nat.le_refl _) hk⟩

theorem enqueue_len (x : DOutbox) (k : DKey) (f : ByteArray) (n : Int) : (enqueueF x k f n).writes.length ≤ x.writes.length + 1 := by
  unfold enqueueF
  split
  · show (x.writes ++ [newWrite x k f n]).length ≤ _; simp
  · omega
theorem ack_len (x : DOutbox) (n : Int) : (ackWritesF x n).writes.length ≤ x.writes.length := by
  unfold ackWritesF
  split
  · exact List.length_filter_le _ _
  · exact Nat.le_refl _
theorem four_mem {x : Int} (h : x ∈ [(0 : Int), 2, 4, 6]) : 0 ≤ x ∧ x ≤ 6 := by
  simp only [List.mem_cons, List.not_mem_nil, or_false] at h
  omega

set_option maxRecDepth 100000 in
set_option maxHeartbeats 6400000 in
theorem specOutbox (k : Kur) (d : Int) (w : World) (h : Cur w k) : Calls Try.prog 50 #[.pointer (some ⟨k.k, 0, none⟩), .int .i64 d] w fun e w' => ∃ (ds : List Value) (x : DOutbox), e = .returned (.agg ds.toArray) ∧ Fresh DOutbox.rep w.heap.size w' ds x ∧ x.writes.length ≤ 12 ∧ Mov k w w' := by
  have hk := h.lt
  have HRK : Hid (∀ (W : World) (y : DKey), y.text.size ≤ 20 → Reads DKey.rep W [.int .i64 y.kind, .int .i64 y.n, .string y.text] y) := Lib.hid fun W y hy => ⟨[], DKey.rd.2 ⟨rfl, rfl, by unfold maxLen; omega⟩⟩
  go_enter Try.func50, Try.ntmps50
  go_wp2_with fail
  refine (specNewOutbox d _).mono ?_
  rintro e w1 ⟨ds, rfl, hf, hb⟩
  obtain ⟨a1, c1, rfl, hg⟩ := DOutbox.fopen hf
  clear hf
  have HT : Hid (WB w1 w.heap.size #[.int .i64 0, .int .i64 0, .slice none 0 0]) := Lib.hid ((WB.at rfl).keep hb)
  have HM : Hid (Mov k w w1) := Lib.hid (Mov.below (Mov.refl h) (below_call (by repeat (first | with_reducible exact belR | with_reducible apply belA | (with_reducible refine belS ?_ ?_; focus (first | omega | (simp; done) | (simp; omega))) | with_reducible apply belN | with_reducible apply belD | with_reducible assumption)) (by first | omega | (simp; done) | (simp; omega)) hb))
  have hz1 := HT.out.lt
  have hl : (newOutboxF d).writes.length ≤ 0 := by unfold newOutboxF; split <;> exact Nat.le_refl _
  obtain ⟨x, hx⟩ : ∃ x, newOutboxF d = x := ⟨_, rfl⟩
  rw [hx] at hg hl
  rw [hx]
  have HF : Hid (Fresh (Rep.slice 35 DWrite.rep) (w.heap.size + 1) w1 [.slice a1 x.writes.length c1] x.writes) := Lib.hid (hg.mono (by simp))
  have hl6 : x.writes.length ≤ 6 := by omega
  clear hx hg hb hl
  go_upto_region 2 with fail
  refine settle (fun W => ∃ kb, kb = w1.heap.size ∧ WB W kb #[.int .i64 x.device, .int .i64 x.next, .slice a1 x.writes.length c1] ∧ WB W w.heap.size #[.int .i64 0, .int .i64 0, .slice none 0 0] ∧ Fresh (Rep.slice 35 DWrite.rep) (w.heap.size + 1) W [.slice a1 x.writes.length c1] x.writes ∧ Mov k w W) ⟨_, rfl, WB.at rfl, HT.out.growA, HF.out.below (belA belR), HM.out.below (by repeat (first | with_reducible exact belR | with_reducible apply belA | (with_reducible refine belS ?_ ?_; focus (first | omega | (simp; done) | (simp; omega))) | with_reducible apply belN | with_reducible apply belD | with_reducible assumption))⟩ ?_
  clear HT HF HM
  rintro w2 ⟨kb, hkb, hx, ht, hf, hm⟩
  have hkk : w.heap.size < kb ∧ k.k < kb := by omega
  rw [← hkb]
  have HX := Lib.hid hx
  have HT := Lib.hid ht
  have HF := Lib.hid hf
  have HM := Lib.hid hm
  clear hx ht hf hm hkb
  have ⟨c_HX, z_HX, f_HX⟩ := HX.out
  have ⟨c_HT, z_HT, f_HT⟩ := HT.out
  go_wp2_with fail
  refine (specLitInt k [0, 2, 4, 6] _ HM.out.2 rfl rfl rfl (by decide) (by decide)).mono ?_
  rintro e w3 ⟨i, rfl, hi, hm⟩
  have hi6 := four_mem hi
  clear hi
  clear c_HX z_HX f_HX c_HT z_HT f_HT
  have hkz := HX.out.lt
  replace HX := Lib.hid (HX.out.mov hm (by omega))
  replace HT := Lib.hid (HT.out.mov hm (by omega))
  replace HF := Lib.hid (HF.out.mov hm (by omega))
  replace HM := Lib.hid (HM.out.trans hm)
  clear hm hz1
  go_wp2
  go_loopw [7] (fun i wr => ∃ (n : Int) (x : DOutbox) (a1 : Option Addr) (c1 : Nat), i = .int .i64 n ∧ 0 ≤ n ∧ n ≤ 6 ∧ x.writes.length + n.toNat ≤ 12 ∧ WB wr kb #[.int .i64 x.device, .int .i64 x.next, .slice a1 x.writes.length c1] ∧ WB wr w.heap.size #[.int .i64 0, .int .i64 0, .slice none 0 0] ∧ Fresh (Rep.slice 35 DWrite.rep) (w.heap.size + 1) wr [.slice a1 x.writes.length c1] x.writes ∧ Mov k w wr) (fun i _ => (intOf i).toNat)
  case atStart => exact ⟨i, x, a1, c1, rfl, by omega, by omega, by omega, HX.out, HT.out, HF.out, HM.out⟩
  case round =>
    clear HX HT HF HM hl6 hi6
    obtain ⟨n, x, a1, c1, rfl, hn0, hn6, hxn, hx, ht, hf, hm⟩ := hrel
    have HT := Lib.hid ht
    have HF := Lib.hid hf
    have HM := Lib.hid hm
    have HX := Lib.hid hx
    clear hx ht hf hm
    have hzr := HM.out.2.lt
    by_cases hlt : 0 < n
    · have ⟨c_HX, z_HX, f_HX⟩ := HX.out
      go_upto_region 5 with fail
      go_region_with (first
        | (go_at_call 8; refine (specEnqueueWrite _ _ x y f m _ ((DOutbox.fmk (by first | with_reducible exact ((HF.out.mov hm2 (by omega)).mov hm3 (by omega)).mov hm4 (by omega) | with_reducible exact (((HF.out.below (belD belR)).mov hm2 (by omega)).mov hm3 (by omega)).mov hm4 (by omega))).reads) (HRK.out _ y hy2) (by omega) (by unfold maxLen; omega)).mono ?_; rintro e w5 ⟨ds, rfl, hf5, hb5⟩; obtain ⟨a5, c5, rfl, hg5⟩ := DOutbox.fopen hf5; have hq5 : Below w4.heap.size w4 w5 := below_call (by repeat (first | with_reducible exact belR | with_reducible apply belA | (with_reducible refine belS ?_ ?_; focus (first | omega | (simp; done) | (simp; omega))) | with_reducible apply belN | with_reducible apply belD | with_reducible assumption)) (by first | omega | (simp; done) | (simp; omega)) hb5; have HM5 := HM4.below hq5; have hx5 := hx4.keep hq5; have ⟨cx5, zx5, fx5⟩ := hx5; have ht5 := ht4.keep hq5)
        | (go_at_call 35; refine (specBelow k _ _ HM3.2).mono ?_; rintro e w4 ⟨m, rfl, _, _, hm4⟩; have HM4 := HM3.trans hm4; have hx4 := hx3.mov hm4 (by omega); have ⟨cx4, zx4, fx4⟩ := hx4; have ht4 := ht3.mov hm4 (by omega))
        | (go_at_call 54; refine (specName k _ HM2.2).mono ?_; rintro e w3 ⟨f, rfl, hf3, hm3⟩; have HM3 := HM2.trans hm3; have hx3 := hx2.mov hm3 (by omega); have ⟨cx3, zx3, fx3⟩ := hx3; have ht3 := ht2.mov hm3 (by omega))
        | (go_at_call 53; refine (specSmallKey k _ (by first | with_reducible exact HM.out.cur | with_reducible exact HM.out.cur.below (belD belR))).mono ?_; rintro e w2 ⟨y, rfl, hy2, hm2⟩; have HM2 : Mov k w w2 := (by first | with_reducible exact HM.out.trans hm2 | with_reducible exact HM.out.trans (Mov.belowL (belD belR) hm2)); have hx2 : WB w2 kb #[.int .i64 x.device, .int .i64 x.next, .slice a1 x.writes.length c1] := (by first | with_reducible exact HX.out.mov hm2 (by omega) | with_reducible exact HX.out.growD.mov hm2 (by omega)); have ⟨cx2, zx2, fx2⟩ := hx2; have ht2 : WB w2 w.heap.size #[.int .i64 0, .int .i64 0, .slice none 0 0] := (by first | with_reducible exact HT.out.mov hm2 (by omega) | with_reducible exact HT.out.growD.mov hm2 (by omega))))
      all_goals
        have hen := enqueue_len x y f m
        go_wp2_with fail
        go_light
        exact ⟨⟨n - 1, enqueueF x y f m, a5, c5, by go_num, by omega, by omega, by omega, hx5.set3, ((ht5.setOther (by omega)).setOther (by omega)).setOther (by omega), Fresh.mono (B := w4.heap.size) (by repeat (first | with_reducible exact hg5 | with_reducible refine Fresh.setLow ?_ (by omega))) (by omega), HM5.low (B := w.heap.size) (by repeat (first | with_reducible exact belR | (with_reducible refine belAB ?_ ?_; focus (first | omega | (simp; done) | (simp; omega))) | (with_reducible refine belS ?_ ?_; focus (first | omega | (simp; done) | (simp; omega))) | with_reducible apply belN | with_reducible apply belD | with_reducible assumption)) (Nat.le_refl _) hk⟩, by simp [intOf]; omega⟩
    · have hl12 : x.writes.length ≤ 12 := by omega
      clear hxn
      go_wp2_with fail
      refine (specOnce k _ _ HM.out.cur).mono ?_
      rintro e w2 ⟨b, rfl, hm⟩
      have hkz2 := HX.out.lt
      replace HX := Lib.hid (HX.out.mov hm (by omega))
      replace HT := Lib.hid (HT.out.mov hm (by omega))
      replace HF := Lib.hid (HF.out.mov hm (by omega))
      replace HM := Lib.hid (HM.out.trans hm)
      clear hm
      have hzr2 := HX.out.lt
      cases b
      · have ⟨c_HX, z_HX, f_HX⟩ := HX.out
        have ⟨c_HT, z_HT, f_HT⟩ := HT.out
        go_wp2
        exact bodyPost_ret (v := .agg #[.int .i64 x.device, .int .i64 x.next, .slice a1 x.writes.length c1]) (by simp [results, Try.results50, go_sem, c_HT]) rfl ⟨_, x, rfl, DOutbox.fmk (Fresh.mono (B := w.heap.size + 1) (by repeat (first | with_reducible exact HF.out | with_reducible refine Fresh.setLow ?_ (by omega))) (by omega)), hl12, HM.out.low (B := w.heap.size) (by repeat (first | with_reducible exact belR | (with_reducible refine belAB ?_ ?_; focus (first | omega | (simp; done) | (simp; omega))) | (with_reducible refine belS ?_ ?_; focus (first | omega | (simp; done) | (simp; omega))) | with_reducible apply belN | with_reducible apply belD | with_reducible assumption)) (Nat.le_refl _) hk⟩
      · have ⟨c_HX, z_HX, f_HX⟩ := HX.out
        go_upto_region 7 with fail
        go_region_with (first
          | (go_at_call 82; refine (specAckWrites _ x m _ ((DOutbox.fmk (by first | with_reducible exact HF.out.mov hm3 (by omega) | with_reducible exact (HF.out.below (belD belR)).mov hm3 (by omega))).reads) (by omega)).mono ?_; rintro e w4 ⟨ds, rfl, hf4, hb4⟩; obtain ⟨a4, c4, rfl, hg4⟩ := DOutbox.fopen hf4; have hq4 : Below w3.heap.size w3 w4 := below_call (by repeat (first | with_reducible exact belR | with_reducible apply belA | (with_reducible refine belS ?_ ?_; focus (first | omega | (simp; done) | (simp; omega))) | with_reducible apply belN | with_reducible apply belD | with_reducible assumption)) (by first | omega | (simp; done) | (simp; omega)) hb4; have HM4 := HM3.below hq4; have hx4 := hx3.keep hq4; have ⟨cx4, zx4, fx4⟩ := hx4; have ht4 := ht3.keep hq4)
          | (go_at_call 35; refine (specBelow k _ _ (by first | with_reducible exact HM.out.cur | with_reducible exact HM.out.cur.below (belD belR))).mono ?_; rintro e w3 ⟨m, rfl, _, _, hm3⟩; have HM3 : Mov k w w3 := (by first | with_reducible exact HM.out.trans hm3 | with_reducible exact HM.out.trans (Mov.belowL (belD belR) hm3)); have hx3 : WB w3 kb #[.int .i64 x.device, .int .i64 x.next, .slice a1 x.writes.length c1] := (by first | with_reducible exact HX.out.mov hm3 (by omega) | with_reducible exact HX.out.growD.mov hm3 (by omega)); have ⟨cx3, zx3, fx3⟩ := hx3; have ht3 : WB w3 w.heap.size #[.int .i64 0, .int .i64 0, .slice none 0 0] := (by first | with_reducible exact HT.out.mov hm3 (by omega) | with_reducible exact HT.out.growD.mov hm3 (by omega))))
        all_goals
          have hal := ack_len x m
          obtain ⟨y, hy⟩ : ∃ y, ackWritesF x m = y := ⟨_, rfl⟩
          rw [hy] at hg4 hal ⊢
          clear hy
          go_upto_region 8 with fail
          refine settle (fun W => WB W kb #[.int .i64 y.device, .int .i64 y.next, .slice a4 y.writes.length c4] ∧ WB W w.heap.size #[.int .i64 0, .int .i64 0, .slice none 0 0] ∧ Fresh (Rep.slice 35 DWrite.rep) (w.heap.size + 1) W [.slice a4 y.writes.length c4] y.writes ∧ Mov k w W) ⟨hx4.set3, ((ht4.setOther (by omega)).setOther (by omega)).setOther (by omega), Fresh.mono (B := w3.heap.size) (by repeat (first | with_reducible exact hg4 | with_reducible refine Fresh.setLow ?_ (by omega))) (by omega), HM4.low (B := w.heap.size) (by repeat (first | with_reducible exact belR | (with_reducible refine belAB ?_ ?_; focus (first | omega | (simp; done) | (simp; omega))) | (with_reducible refine belS ?_ ?_; focus (first | omega | (simp; done) | (simp; omega))) | with_reducible apply belN | with_reducible apply belD | with_reducible assumption)) (Nat.le_refl _) hk⟩ ?_
          clear HX HT HF HM hx4 ht4 hg4 HM4 hx3 ht3 HM3 cx3 zx3 fx3 cx4 zx4 fx4 hq4
          rintro w5 ⟨hx, ht, hf, hm⟩
          have HX := Lib.hid hx
          have HT := Lib.hid ht
          have HF := Lib.hid hf
          have HM := Lib.hid hm
          clear hx ht hf hm
          have hkz5 := HX.out.lt
          have ⟨c_HX, z_HX, f_HX⟩ := HX.out
          have ⟨c_HT, z_HT, f_HT⟩ := HT.out
          go_wp2
          exact bodyPost_ret (v := .agg #[.int .i64 y.device, .int .i64 y.next, .slice a4 y.writes.length c4]) (by simp [results, Try.results50, go_sem, c_HT]) rfl ⟨_, y, rfl, DOutbox.fmk (Fresh.mono (B := w.heap.size + 1) (by repeat (first | with_reducible exact HF.out | with_reducible refine Fresh.setLow ?_ (by omega))) (by omega)), by omega, HM.out.low (B := w.heap.size) (by repeat (first | with_reducible exact belR | (with_reducible refine belAB ?_ ?_; focus (first | omega | (simp; done) | (simp; omega))) | (with_reducible refine belS ?_ ?_; focus (first | omega | (simp; done) | (simp; omega))) | with_reducible apply belN | with_reducible apply belD | with_reducible assumption)) (Nat.le_refl _) hk⟩


end Go.Proofs.Yteajhmpppciicaa
