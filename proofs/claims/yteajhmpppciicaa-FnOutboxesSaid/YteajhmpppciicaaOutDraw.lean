/-
  The draws of names, keys and writes: what is drawn is small.
-/
import Derived.Test.YteajhmpppciicaaCur
import Derived.Test.YteajhmpppciicaaTFam
namespace Go.Proofs.Yteajhmpppciicaa
open Go.RowKit

theorem name_small {x : ByteArray} (h : x ∈ [(⟨#[97]⟩ : ByteArray), ⟨#[98]⟩, ⟨#[99]⟩, ⟨#[100, 111, 110, 101]⟩, ⟨#[116, 105, 116, 108, 101]⟩]) : x.size ≤ 20 := by
  simp only [List.mem_cons, List.not_mem_nil, or_false] at h
  rcases h with rfl | rfl | rfl | rfl | rfl <;> decide
theorem text_small {x : ByteArray} (h : x ∈ [(⟨#[]⟩ : ByteArray), ⟨#[97]⟩, ⟨#[97, 98]⟩, ⟨#[98]⟩, ⟨#[122, 57]⟩, ⟨#[97, 98, 99, 100, 101, 102, 103, 104, 105, 106, 107, 108]⟩]) : x.size ≤ 20 := by
  simp only [List.mem_cons, List.not_mem_nil, or_false] at h
  rcases h with rfl | rfl | rfl | rfl | rfl | rfl <;> decide
theorem odd_small {x : ByteArray} (h : x ∈ [(⟨#[65]⟩ : ByteArray), ⟨#[97, 32, 98]⟩, ⟨#[97, 98, 99, 100, 101, 102, 103, 104, 105, 106, 107, 108, 109]⟩, ⟨#[120, 39]⟩]) : x.size ≤ 20 := by
  simp only [List.mem_cons, List.not_mem_nil, or_false] at h
  rcases h with rfl | rfl | rfl | rfl <;> decide

set_option maxRecDepth 100000 in
set_option maxHeartbeats 1600000 in
theorem specName (k : Kur) (w : World) (h : Cur w k) : Calls Try.prog 54 #[.pointer (some ⟨k.k, 0, none⟩)] w fun e w' => ∃ x : ByteArray, e = .returned (.string x) ∧ x.size ≤ 20 ∧ Mov k w w' := by
  go_enter Try.func54, Try.ntmps54
  go_wp2_with fail
  refine (specLitStr k [⟨#[97]⟩, ⟨#[98]⟩, ⟨#[99]⟩, ⟨#[100, 111, 110, 101]⟩, ⟨#[116, 105, 116, 108, 101]⟩] _ h rfl rfl rfl (by decide) (by decide) (by decide)).mono ?_
  rintro e w1 ⟨x, rfl, hx, hm⟩
  have hs := name_small hx
  clear hx
  go_wp2
  go_ret
  exact ⟨x, rfl, hs, hm⟩

set_option maxRecDepth 100000 in
set_option maxHeartbeats 1600000 in
theorem specKeyNum (k : Kur) (w : World) (h : Cur w k) : Calls Try.prog 100 #[.pointer (some ⟨k.k, 0, none⟩)] w fun e w' => ∃ x : Int, e = .returned (.int .i64 x) ∧ Mov k w w' := by
  go_enter Try.func100, Try.ntmps100
  go_wp2_with fail
  refine (specBelow k _ _ h).mono ?_
  rintro e w1 ⟨b, rfl, _, _, hm⟩
  go_wp2_with fail
  refine (specLitInt k [0, 1, 2, -1, 255, 256, -1000000000000, 1000000000000, b] _ hm.2 rfl rfl rfl (by show 0 < 9; decide) (by show 9 ≤ 100; decide)).mono ?_
  rintro e w2 ⟨x, rfl, _, hm2⟩
  have hm3 := hm.trans hm2
  clear hm hm2
  go_wp2
  go_ret
  exact ⟨x, rfl, hm3⟩

set_option maxRecDepth 100000 in
set_option maxHeartbeats 1600000 in
theorem specSmallKey (k : Kur) (w : World) (h : Cur w k) : Calls Try.prog 53 #[.pointer (some ⟨k.k, 0, none⟩)] w fun e w' => ∃ x : DKey, e = .returned (.agg #[.int .i64 x.kind, .int .i64 x.n, .string x.text]) ∧ x.text.size ≤ 20 ∧ Mov k w w' := by
  have hk := h.lt
  go_enter Try.func53, Try.ntmps53
  go_wp2_with fail
  refine (specBelow k _ _ (h.below (by repeat (first | with_reducible exact belR | with_reducible apply belA | (with_reducible refine belS ?_ ?_; focus (first | omega | (simp; done) | (simp; omega))) | with_reducible apply belN | with_reducible apply belD | with_reducible assumption)))).mono ?_
  rintro e w1 ⟨b, rfl, _, _, hm⟩
  have HT : Hid (WB w1 w.heap.size #[.int .i64 0, .int .i64 0, .string ⟨#[]⟩]) := Lib.hid ((WB.at rfl).mov hm (by omega))
  have HM : Hid (Mov k w w1) := Lib.hid (Mov.belowL (by repeat (first | with_reducible exact belR | with_reducible apply belA | (with_reducible refine belS ?_ ?_; focus (first | omega | (simp; done) | (simp; omega))) | with_reducible apply belN | with_reducible apply belD | with_reducible assumption)) hm)
  clear hm
  have ⟨c_HT, z_HT, f_HT⟩ := HT.out
  go_wp2
  refine bodyPost_ret (v := .agg #[.int .i64 1, .int .i64 b, .string ⟨#[]⟩]) (by simp [results, Try.results53, go_sem, c_HT]) rfl ⟨⟨1, b, ⟨#[]⟩⟩, rfl, Nat.zero_le _, HM.out.low (B := w.heap.size) (by repeat (first | with_reducible exact belR | (with_reducible refine belAB ?_ ?_; focus (first | omega | (simp; done) | (simp; omega))) | (with_reducible refine belS ?_ ?_; focus (first | omega | (simp; done) | (simp; omega))) | with_reducible apply belN | with_reducible apply belD | with_reducible assumption)) (Nat.le_refl _) hk⟩

set_option maxRecDepth 100000 in
set_option maxHeartbeats 3200000 in
theorem specKey (k : Kur) (w : World) (h : Cur w k) : Calls Try.prog 83 #[.pointer (some ⟨k.k, 0, none⟩)] w fun e w' => ∃ x : DKey, e = .returned (.agg #[.int .i64 x.kind, .int .i64 x.n, .string x.text]) ∧ x.text.size ≤ 20 ∧ Mov k w w' := by
  have hk := h.lt
  go_enter Try.func83, Try.ntmps83
  go_upto_region 1 with fail
  refine settle (fun W => WB W w.heap.size #[.int .i64 0, .int .i64 0, .string ⟨#[]⟩] ∧ Mov k w W) ⟨WB.at rfl, Mov.below (Mov.refl h) (by repeat (first | with_reducible exact belR | with_reducible apply belA | (with_reducible refine belS ?_ ?_; focus (first | omega | (simp; done) | (simp; omega))) | with_reducible apply belN | with_reducible apply belD | with_reducible assumption))⟩ ?_
  rintro w0 ⟨ht, hm0⟩
  have HT := Lib.hid ht
  have HM := Lib.hid hm0
  clear ht hm0
  go_wp2_with fail
  refine (specLitStr k [⟨#[]⟩, ⟨#[97]⟩, ⟨#[97, 98]⟩, ⟨#[98]⟩, ⟨#[122, 57]⟩, ⟨#[97, 98, 99, 100, 101, 102, 103, 104, 105, 106, 107, 108]⟩] _ HM.out.2 rfl rfl rfl (by decide) (by decide) (by decide)).mono ?_
  rintro e w1 ⟨s, rfl, hs, hm⟩
  have hs20 := text_small hs
  clear hs
  replace HT := Lib.hid (HT.out.mov hm (by omega))
  replace HM := Lib.hid (HM.out.trans hm)
  clear hm
  go_wp2_with fail
  refine (specBelow k _ _ HM.out.2).mono ?_
  rintro e w2 ⟨b, rfl, _, _, hm⟩
  replace HT := Lib.hid (HT.out.mov hm (by omega))
  replace HM := Lib.hid (HM.out.trans hm)
  clear hm
  cases n0 : (b == 0)
  case' false => cases n1 : (b == 1)
  case true =>
    have ⟨c_HT, z_HT, f_HT⟩ := HT.out
    go_wp2
    exact bodyPost_ret (v := .agg #[.int .i64 2, .int .i64 0, .string s]) (by simp [results, Try.results83, go_sem, c_HT]) rfl ⟨⟨2, 0, s⟩, rfl, hs20, HM.out.low (B := w.heap.size) (by repeat (first | with_reducible exact belR | (with_reducible refine belAB ?_ ?_; focus (first | omega | (simp; done) | (simp; omega))) | (with_reducible refine belS ?_ ?_; focus (first | omega | (simp; done) | (simp; omega))) | with_reducible apply belN | with_reducible apply belD | with_reducible assumption)) (Nat.le_refl _) hk⟩
  case' false.true =>
    go_wp2_with fail
    refine (specKeyNum k _ HM.out.2).mono ?_
    rintro e w3 ⟨x, rfl, hm⟩
    replace HT := Lib.hid (HT.out.mov hm (by omega))
    replace HM := Lib.hid (HM.out.trans hm)
    clear hm
    have ⟨c_HT, z_HT, f_HT⟩ := HT.out
    go_wp2
    refine bodyPost_ret (v := .agg #[.int .i64 3, .int .i64 x, .string s]) (by simp [results, Try.results83, go_sem, c_HT]) rfl ⟨⟨3, x, s⟩, rfl, hs20, HM.out.low (B := w.heap.size) (by repeat (first | with_reducible exact belR | (with_reducible refine belAB ?_ ?_; focus (first | omega | (simp; done) | (simp; omega))) | (with_reducible refine belS ?_ ?_; focus (first | omega | (simp; done) | (simp; omega))) | with_reducible apply belN | with_reducible apply belD | with_reducible assumption)) (Nat.le_refl _) hk⟩
  case false.false =>
    go_wp2_with fail
    refine (specKeyNum k _ HM.out.2).mono ?_
    rintro e w3 ⟨x, rfl, hm⟩
    replace HT := Lib.hid (HT.out.mov hm (by omega))
    replace HM := Lib.hid (HM.out.trans hm)
    clear hm
    have ⟨c_HT, z_HT, f_HT⟩ := HT.out
    go_wp2
    exact bodyPost_ret (v := .agg #[.int .i64 1, .int .i64 x, .string ⟨#[]⟩]) (by simp [results, Try.results83, go_sem, c_HT]) rfl ⟨⟨1, x, ⟨#[]⟩⟩, rfl, Nat.zero_le _, HM.out.low (B := w.heap.size) (by repeat (first | with_reducible exact belR | (with_reducible refine belAB ?_ ?_; focus (first | omega | (simp; done) | (simp; omega))) | (with_reducible refine belS ?_ ?_; focus (first | omega | (simp; done) | (simp; omega))) | with_reducible apply belN | with_reducible apply belD | with_reducible assumption)) (Nat.le_refl _) hk⟩


set_option maxRecDepth 100000 in
set_option maxHeartbeats 3200000 in
theorem specAnyKey (k : Kur) (w : World) (h : Cur w k) : Calls Try.prog 52 #[.pointer (some ⟨k.k, 0, none⟩)] w fun e w' => ∃ x : DKey, e = .returned (.agg #[.int .i64 x.kind, .int .i64 x.n, .string x.text]) ∧ x.text.size ≤ 20 ∧ Mov k w w' := by
  have hk := h.lt
  go_enter Try.func52, Try.ntmps52
  go_wp2_with fail
  refine (specKey k _ (h.below (by repeat (first | with_reducible exact belR | with_reducible apply belA | (with_reducible refine belS ?_ ?_; focus (first | omega | (simp; done) | (simp; omega))) | with_reducible apply belN | with_reducible apply belD | with_reducible assumption)))).mono ?_
  rintro e w1 ⟨x, rfl, hx, hm⟩
  have HT : Hid (WB w1 w.heap.size #[.int .i64 0, .int .i64 0, .string ⟨#[]⟩]) := Lib.hid ((WB.at rfl).mov hm (by omega))
  have HM : Hid (Mov k w w1) := Lib.hid (Mov.belowL (by repeat (first | with_reducible exact belR | with_reducible apply belA | (with_reducible refine belS ?_ ?_; focus (first | omega | (simp; done) | (simp; omega))) | with_reducible apply belN | with_reducible apply belD | with_reducible assumption)) hm)
  have hz1 := HT.out.lt
  clear hm
  go_wp2_with fail
  refine (specBelow k _ _ (HM.out.2.below (by repeat (first | with_reducible exact belR | with_reducible apply belA | (with_reducible refine belS ?_ ?_; focus (first | omega | (simp; done) | (simp; omega))) | with_reducible apply belN | with_reducible apply belD | with_reducible assumption)))).mono ?_
  rintro e w2 ⟨b, rfl, _, _, hm⟩
  obtain ⟨kb, hkb⟩ : ∃ kb, kb = w1.heap.size := ⟨_, rfl⟩
  have HX : Hid (WB w2 kb #[.int .i64 x.kind, .int .i64 x.n, .string x.text]) := Lib.hid (by rw [hkb]; exact (WB.at rfl).mov hm (by have := HM.out.2.lt; omega))
  replace HT := Lib.hid (HT.out.growA.mov hm (by omega))
  have hkk : kb ≠ k.k := by have := HM.out.2.lt; omega
  replace HM := Lib.hid (HM.out.trans (Mov.belowL (by repeat (first | with_reducible exact belR | with_reducible apply belA | (with_reducible refine belS ?_ ?_; focus (first | omega | (simp; done) | (simp; omega))) | with_reducible apply belN | with_reducible apply belD | with_reducible assumption)) hm))
  rw [← hkb]
  have hkw : w.heap.size < kb := by omega
  clear hm hkb hz1
  cases n0 : (b == 0)
  case' false => cases n1 : (b == 1)
  case' false.false => cases n2 : (b == 2)
  case false.false.false =>
    have ⟨c_HX, z_HX, f_HX⟩ := HX.out
    have ⟨c_HT, z_HT, f_HT⟩ := HT.out
    go_upto_region 9 with fail
    refine settle (fun W => ∃ x : DKey, WB W kb #[.int .i64 x.kind, .int .i64 x.n, .string x.text] ∧ WB W w.heap.size #[.int .i64 0, .int .i64 0, .string ⟨#[]⟩] ∧ x.text.size ≤ 20 ∧ Mov k w W) ⟨x, HX.out.keep (by repeat (first | with_reducible exact belR | with_reducible apply belA | (with_reducible refine belS ?_ ?_; focus (first | omega | (simp; done) | (simp; omega))) | with_reducible apply belN | with_reducible apply belD | with_reducible assumption)), HT.out.keep (by repeat (first | with_reducible exact belR | with_reducible apply belA | (with_reducible refine belS ?_ ?_; focus (first | omega | (simp; done) | (simp; omega))) | with_reducible apply belN | with_reducible apply belD | with_reducible assumption)), hx, HM.out.below (by repeat (first | with_reducible exact belR | with_reducible apply belA | (with_reducible refine belS ?_ ?_; focus (first | omega | (simp; done) | (simp; omega))) | with_reducible apply belN | with_reducible apply belD | with_reducible assumption))⟩ ?_
    clear c_HX z_HX f_HX c_HT z_HT f_HT
    clear HX HT HM
    rintro w9 ⟨y, hx, ht, hsz, hm⟩
    have HX := Lib.hid hx
    have HT := Lib.hid ht
    have ⟨c_HX, z_HX, f_HX⟩ := HX.out
    have ⟨c_HT, z_HT, f_HT⟩ := HT.out
    go_wp2
    exact bodyPost_ret (v := .agg #[.int .i64 y.kind, .int .i64 y.n, .string y.text]) (by simp [results, Try.results52, go_sem, c_HT]) rfl ⟨y, rfl, hsz, hm.low (B := w.heap.size) (by repeat (first | with_reducible exact belR | (with_reducible refine belAB ?_ ?_; focus (first | omega | (simp; done) | (simp; omega))) | (with_reducible refine belS ?_ ?_; focus (first | omega | (simp; done) | (simp; omega))) | with_reducible apply belN | with_reducible apply belD | with_reducible assumption)) (Nat.le_refl _) hk⟩
  case true =>
    have ⟨c_HX, z_HX, f_HX⟩ := HX.out
    have ⟨c_HT, z_HT, f_HT⟩ := HT.out
    go_wp2_with fail
    refine (specBelow k _ _ HM.out.2).mono ?_
    rintro e w8 ⟨d, rfl, _, _, hm⟩
    clear c_HX z_HX f_HX c_HT z_HT f_HT
    have hz8 := hm.size
    replace HX := Lib.hid (HX.out.mov hm (by omega))
    replace HT := Lib.hid (HT.out.mov hm (by omega))
    replace HM := Lib.hid (HM.out.trans hm)
    clear hm
    have ⟨c_HX, z_HX, f_HX⟩ := HX.out
    have ⟨c_HT, z_HT, f_HT⟩ := HT.out
    go_upto_region 9 with fail
    refine settle (fun W => ∃ x : DKey, WB W kb #[.int .i64 x.kind, .int .i64 x.n, .string x.text] ∧ WB W w.heap.size #[.int .i64 0, .int .i64 0, .string ⟨#[]⟩] ∧ x.text.size ≤ 20 ∧ Mov k w W) ⟨⟨d, x.n, x.text⟩, HX.out.setAt (i := 0) (by simp) rfl, HT.out.setOther (by omega), hx, HM.out.low (B := w.heap.size) (by repeat (first | with_reducible exact belR | (with_reducible refine belAB ?_ ?_; focus (first | omega | (simp; done) | (simp; omega))) | (with_reducible refine belS ?_ ?_; focus (first | omega | (simp; done) | (simp; omega))) | with_reducible apply belN | with_reducible apply belD | with_reducible assumption)) (Nat.le_refl _) hk⟩ ?_
    clear c_HX z_HX f_HX c_HT z_HT f_HT
    clear HX HT HM
    rintro w9 ⟨y, hx, ht, hsz, hm⟩
    have HX := Lib.hid hx
    have HT := Lib.hid ht
    have ⟨c_HX, z_HX, f_HX⟩ := HX.out
    have ⟨c_HT, z_HT, f_HT⟩ := HT.out
    go_wp2
    exact bodyPost_ret (v := .agg #[.int .i64 y.kind, .int .i64 y.n, .string y.text]) (by simp [results, Try.results52, go_sem, c_HT]) rfl ⟨y, rfl, hsz, hm.low (B := w.heap.size) (by repeat (first | with_reducible exact belR | (with_reducible refine belAB ?_ ?_; focus (first | omega | (simp; done) | (simp; omega))) | (with_reducible refine belS ?_ ?_; focus (first | omega | (simp; done) | (simp; omega))) | with_reducible apply belN | with_reducible apply belD | with_reducible assumption)) (Nat.le_refl _) hk⟩
  case false.true =>
    have ⟨c_HX, z_HX, f_HX⟩ := HX.out
    have ⟨c_HT, z_HT, f_HT⟩ := HT.out
    go_wp2_with fail
    refine (specLitInt k [-1000000000001, 1000000000001, 5] _ HM.out.2 rfl rfl rfl (by decide) (by decide)).mono ?_
    rintro e w8 ⟨d, rfl, _, hm⟩
    clear c_HX z_HX f_HX c_HT z_HT f_HT
    have hz8 := hm.size
    replace HX := Lib.hid (HX.out.mov hm (by omega))
    replace HT := Lib.hid (HT.out.mov hm (by omega))
    replace HM := Lib.hid (HM.out.trans hm)
    clear hm
    have ⟨c_HX, z_HX, f_HX⟩ := HX.out
    have ⟨c_HT, z_HT, f_HT⟩ := HT.out
    go_upto_region 9 with fail
    refine settle (fun W => ∃ x : DKey, WB W kb #[.int .i64 x.kind, .int .i64 x.n, .string x.text] ∧ WB W w.heap.size #[.int .i64 0, .int .i64 0, .string ⟨#[]⟩] ∧ x.text.size ≤ 20 ∧ Mov k w W) ⟨⟨x.kind, d, x.text⟩, HX.out.setAt (i := 1) (by simp) rfl, HT.out.setOther (by omega), hx, HM.out.low (B := w.heap.size) (by repeat (first | with_reducible exact belR | (with_reducible refine belAB ?_ ?_; focus (first | omega | (simp; done) | (simp; omega))) | (with_reducible refine belS ?_ ?_; focus (first | omega | (simp; done) | (simp; omega))) | with_reducible apply belN | with_reducible apply belD | with_reducible assumption)) (Nat.le_refl _) hk⟩ ?_
    clear c_HX z_HX f_HX c_HT z_HT f_HT
    clear HX HT HM
    rintro w9 ⟨y, hx, ht, hsz, hm⟩
    have HX := Lib.hid hx
    have HT := Lib.hid ht
    have ⟨c_HX, z_HX, f_HX⟩ := HX.out
    have ⟨c_HT, z_HT, f_HT⟩ := HT.out
    go_wp2
    exact bodyPost_ret (v := .agg #[.int .i64 y.kind, .int .i64 y.n, .string y.text]) (by simp [results, Try.results52, go_sem, c_HT]) rfl ⟨y, rfl, hsz, hm.low (B := w.heap.size) (by repeat (first | with_reducible exact belR | (with_reducible refine belAB ?_ ?_; focus (first | omega | (simp; done) | (simp; omega))) | (with_reducible refine belS ?_ ?_; focus (first | omega | (simp; done) | (simp; omega))) | with_reducible apply belN | with_reducible apply belD | with_reducible assumption)) (Nat.le_refl _) hk⟩
  case false.false.true =>
    have ⟨c_HX, z_HX, f_HX⟩ := HX.out
    have ⟨c_HT, z_HT, f_HT⟩ := HT.out
    go_wp2_with fail
    refine (specLitStr k [⟨#[65]⟩, ⟨#[97, 32, 98]⟩, ⟨#[97, 98, 99, 100, 101, 102, 103, 104, 105, 106, 107, 108, 109]⟩, ⟨#[120, 39]⟩] _ HM.out.2 rfl rfl rfl (by decide) (by decide) (by decide)).mono ?_
    rintro e w8 ⟨d, rfl, hd, hm⟩
    clear c_HX z_HX f_HX c_HT z_HT f_HT
    have hz8 := hm.size
    replace HX := Lib.hid (HX.out.mov hm (by omega))
    replace HT := Lib.hid (HT.out.mov hm (by omega))
    replace HM := Lib.hid (HM.out.trans hm)
    clear hm
    have ⟨c_HX, z_HX, f_HX⟩ := HX.out
    have ⟨c_HT, z_HT, f_HT⟩ := HT.out
    have hd20 := odd_small hd
    clear hd
    go_upto_region 9 with fail
    refine settle (fun W => ∃ x : DKey, WB W kb #[.int .i64 x.kind, .int .i64 x.n, .string x.text] ∧ WB W w.heap.size #[.int .i64 0, .int .i64 0, .string ⟨#[]⟩] ∧ x.text.size ≤ 20 ∧ Mov k w W) ⟨⟨x.kind, x.n, d⟩, HX.out.setAt (i := 2) (by simp) rfl, HT.out.setOther (by omega), hd20, HM.out.low (B := w.heap.size) (by repeat (first | with_reducible exact belR | (with_reducible refine belAB ?_ ?_; focus (first | omega | (simp; done) | (simp; omega))) | (with_reducible refine belS ?_ ?_; focus (first | omega | (simp; done) | (simp; omega))) | with_reducible apply belN | with_reducible apply belD | with_reducible assumption)) (Nat.le_refl _) hk⟩ ?_
    clear c_HX z_HX f_HX c_HT z_HT f_HT
    clear HX HT HM
    rintro w9 ⟨y, hx, ht, hsz, hm⟩
    have HX := Lib.hid hx
    have HT := Lib.hid ht
    have ⟨c_HX, z_HX, f_HX⟩ := HX.out
    have ⟨c_HT, z_HT, f_HT⟩ := HT.out
    go_wp2
    exact bodyPost_ret (v := .agg #[.int .i64 y.kind, .int .i64 y.n, .string y.text]) (by simp [results, Try.results52, go_sem, c_HT]) rfl ⟨y, rfl, hsz, hm.low (B := w.heap.size) (by repeat (first | with_reducible exact belR | (with_reducible refine belAB ?_ ?_; focus (first | omega | (simp; done) | (simp; omega))) | (with_reducible refine belS ?_ ?_; focus (first | omega | (simp; done) | (simp; omega))) | with_reducible apply belN | with_reducible apply belD | with_reducible assumption)) (Nat.le_refl _) hk⟩

end Go.Proofs.Yteajhmpppciicaa
