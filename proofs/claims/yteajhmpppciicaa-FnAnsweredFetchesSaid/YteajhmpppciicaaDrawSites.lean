/-
  The draws of paths, registrations and sites.
-/
import Derived.Test.YteajhmpppciicaaCurFam
import Derived.Test.YteajhmpppciicaaTRegistration
namespace Go.Proofs.Yteajhmpppciicaa
open Go.RowKit

theorem word_small {x : ByteArray} {l : List ByteArray} (h : x ∈ l) (hl : ∀ y ∈ l, y.size ≤ 20) : x.size ≤ 20 := hl x h

set_option maxRecDepth 100000 in
set_option maxHeartbeats 1600000 in
theorem specPath (k : Kur) (w : World) (h : Cur w k) : Calls Try.prog 39 #[.pointer (some ⟨k.k, 0, none⟩)] w fun e w' => ∃ x : ByteArray, e = .returned (.string x) ∧ x ∈ [⟨#[105, 110, 100, 101, 120]⟩, ⟨#[115, 116, 121, 108, 101]⟩, ⟨#[99, 111, 100, 101]⟩, ⟨#[100, 97, 116, 97]⟩] ∧ Mov k w w' := by
  go_enter Try.func39, Try.ntmps39
  go_wp2_with fail
  refine (specLitStr k [⟨#[105, 110, 100, 101, 120]⟩, ⟨#[115, 116, 121, 108, 101]⟩, ⟨#[99, 111, 100, 101]⟩, ⟨#[100, 97, 116, 97]⟩] _ h rfl rfl rfl (by decide) (by decide) (by decide)).mono ?_
  rintro e w1 ⟨x, rfl, hx, hm⟩
  go_wp2
  go_ret
  exact ⟨_, rfl, hx, hm⟩

set_option maxRecDepth 100000 in
set_option maxHeartbeats 6400000 in
theorem specReg (k : Kur) (w : World) (h : Cur w k) : Calls Try.prog 49 #[.pointer (some ⟨k.k, 0, none⟩)] w fun e w' => ∃ (s : ByteArray) (i n a : Int), e = .returned (.agg #[.string s, .int .i64 i, .int .i64 n, .int .i64 a]) ∧ s.size ≤ 20 ∧ Mov k w w' := by
  have hk := h.lt
  go_enter Try.func49, Try.ntmps49
  go_wp2_with fail
  refine (specSite k _ (h.below (by repeat (first | with_reducible exact belR | with_reducible apply belA | (with_reducible refine belS ?_ ?_; focus (first | omega | (simp; done) | (simp; omega))) | with_reducible apply belN | with_reducible apply belD | with_reducible assumption)))).mono ?_
  rintro e w1 ⟨x, rfl, hx, hm⟩
  have HS : Hid (x.size ≤ 20) := Lib.hid (by simp only [List.mem_cons, List.not_mem_nil, or_false] at hx; rcases hx with rfl | rfl | rfl <;> decide)
  have HT : Hid (WB w1 w.heap.size #[.string ⟨#[]⟩, .int .i64 0, .int .i64 0, .int .i64 0]) := Lib.hid ((WB.at rfl).mov hm (by omega))
  have HM : Hid (Mov k w w1) := Lib.hid (Mov.belowL (by repeat (first | with_reducible exact belR | with_reducible apply belA | (with_reducible refine belS ?_ ?_; focus (first | omega | (simp; done) | (simp; omega))) | with_reducible apply belN | with_reducible apply belD | with_reducible assumption)) hm)
  have hz1 := HT.out.lt
  clear hm hx
  go_upto_region 3 with fail
  refine settle (fun W => ∃ kb, kb = w1.heap.size ∧ (∃ p q r : Int, WB W kb #[.string x, .int .i64 p, .int .i64 q, .int .i64 r]) ∧ WB W w.heap.size #[.string ⟨#[]⟩, .int .i64 0, .int .i64 0, .int .i64 0] ∧ Mov k w W) ⟨_, rfl, ⟨_, _, _, WB.at rfl⟩, HT.out.growA, HM.out.below (by repeat (first | with_reducible exact belR | with_reducible apply belA | (with_reducible refine belS ?_ ?_; focus (first | omega | (simp; done) | (simp; omega))) | with_reducible apply belN | with_reducible apply belD | with_reducible assumption))⟩ ?_
  clear HT HM
  rintro w2 ⟨kb, hkb, ⟨p, q, r, hx⟩, ht, hm⟩
  have hkk : w.heap.size < kb ∧ k.k < kb := by omega
  rw [← hkb]
  have HX := Lib.hid hx
  have HT := Lib.hid ht
  have HM := Lib.hid hm
  clear hx ht hm hkb hz1
  go_wp2_with fail
  refine (specOnce k _ _ HM.out.2).mono ?_
  rintro e w3 ⟨b, rfl, hm⟩
  have hzb := HX.out.lt
  replace HX := Lib.hid (HX.out.mov hm (by omega))
  replace HT := Lib.hid (HT.out.mov hm (by omega))
  replace HM := Lib.hid (HM.out.trans hm)
  clear hm hzb
  cases b
  case' true =>
    go_wp2_with fail
    refine (specBelow k _ _ HM.out.2).mono ?_
    rintro e w4 ⟨b, rfl, _, _, hm⟩
    have hzb := HX.out.lt
    replace HX := Lib.hid (HX.out.mov hm (by omega))
    replace HT := Lib.hid (HT.out.mov hm (by omega))
    replace HM := Lib.hid (HM.out.trans hm)
    clear hm hzb
    have ⟨c_HX, z_HX, f_HX⟩ := HX.out
    go_upto_region 6 with fail
    refine settle (fun W => (∃ p q r : Int, WB W kb #[.string x, .int .i64 p, .int .i64 q, .int .i64 r]) ∧ WB W w.heap.size #[.string ⟨#[]⟩, .int .i64 0, .int .i64 0, .int .i64 0] ∧ Mov k w W) ⟨⟨_, _, _, HX.out.setAt (i := 3) (by simp) rfl⟩, HT.out.setOther (by omega), HM.out.low (B := w.heap.size) (by repeat (first | with_reducible exact belR | (with_reducible refine belAB ?_ ?_; focus (first | omega | (simp; done) | (simp; omega))) | (with_reducible refine belS ?_ ?_; focus (first | omega | (simp; done) | (simp; omega))) | with_reducible apply belN | with_reducible apply belD | with_reducible assumption)) (Nat.le_refl _) hk⟩ ?_
  case' false =>
    go_upto_region 6 with fail
    refine settle (fun W => (∃ p q r : Int, WB W kb #[.string x, .int .i64 p, .int .i64 q, .int .i64 r]) ∧ WB W w.heap.size #[.string ⟨#[]⟩, .int .i64 0, .int .i64 0, .int .i64 0] ∧ Mov k w W) ⟨⟨_, _, _, HX.out⟩, HT.out, HM.out⟩ ?_
  all_goals
    clear HX HT HM
    rintro w3 ⟨⟨p, q, r, hx⟩, ht, hm⟩
    have HX := Lib.hid hx
    have HT := Lib.hid ht
    have HM := Lib.hid hm
    clear hx ht hm
  all_goals
    go_wp2_with fail
    refine (specOnce k _ _ HM.out.2).mono ?_
    rintro e w3 ⟨b, rfl, hm⟩
    have hzb := HX.out.lt
    replace HX := Lib.hid (HX.out.mov hm (by omega))
    replace HT := Lib.hid (HT.out.mov hm (by omega))
    replace HM := Lib.hid (HM.out.trans hm)
    clear hm hzb
    cases b
    case' true =>
      go_wp2_with fail
      refine (specBelow k _ _ HM.out.2).mono ?_
      rintro e w4 ⟨b, rfl, _, _, hm⟩
      have hzb := HX.out.lt
      replace HX := Lib.hid (HX.out.mov hm (by omega))
      replace HT := Lib.hid (HT.out.mov hm (by omega))
      replace HM := Lib.hid (HM.out.trans hm)
      clear hm hzb
      have ⟨c_HX, z_HX, f_HX⟩ := HX.out
      go_upto_region 9 with fail
      refine settle (fun W => (∃ p q r : Int, WB W kb #[.string x, .int .i64 p, .int .i64 q, .int .i64 r]) ∧ WB W w.heap.size #[.string ⟨#[]⟩, .int .i64 0, .int .i64 0, .int .i64 0] ∧ Mov k w W) ⟨⟨_, _, _, HX.out.setAt (i := 2) (by simp) rfl⟩, HT.out.setOther (by omega), HM.out.low (B := w.heap.size) (by repeat (first | with_reducible exact belR | (with_reducible refine belAB ?_ ?_; focus (first | omega | (simp; done) | (simp; omega))) | (with_reducible refine belS ?_ ?_; focus (first | omega | (simp; done) | (simp; omega))) | with_reducible apply belN | with_reducible apply belD | with_reducible assumption)) (Nat.le_refl _) hk⟩ ?_
    case' false =>
      go_upto_region 9 with fail
      refine settle (fun W => (∃ p q r : Int, WB W kb #[.string x, .int .i64 p, .int .i64 q, .int .i64 r]) ∧ WB W w.heap.size #[.string ⟨#[]⟩, .int .i64 0, .int .i64 0, .int .i64 0] ∧ Mov k w W) ⟨⟨_, _, _, HX.out⟩, HT.out, HM.out⟩ ?_
    all_goals
      clear HX HT HM
      rintro w3 ⟨⟨p, q, r, hx⟩, ht, hm⟩
      have HX := Lib.hid hx
      have HT := Lib.hid ht
      have HM := Lib.hid hm
      clear hx ht hm
  all_goals
    go_wp2_with fail
    refine (specOnce k _ _ HM.out.2).mono ?_
    rintro e w3 ⟨b, rfl, hm⟩
    have hzb := HX.out.lt
    replace HX := Lib.hid (HX.out.mov hm (by omega))
    replace HT := Lib.hid (HT.out.mov hm (by omega))
    replace HM := Lib.hid (HM.out.trans hm)
    clear hm hzb
    cases b
    case' true =>
      go_wp2_with fail
      refine (specBelow k _ _ HM.out.2).mono ?_
      rintro e w4 ⟨b, rfl, _, _, hm⟩
      have hzb := HX.out.lt
      replace HX := Lib.hid (HX.out.mov hm (by omega))
      replace HT := Lib.hid (HT.out.mov hm (by omega))
      replace HM := Lib.hid (HM.out.trans hm)
      clear hm hzb
      have ⟨c_HX, z_HX, f_HX⟩ := HX.out
      go_upto_region 12 with fail
      refine settle (fun W => (∃ p q r : Int, WB W kb #[.string x, .int .i64 p, .int .i64 q, .int .i64 r]) ∧ WB W w.heap.size #[.string ⟨#[]⟩, .int .i64 0, .int .i64 0, .int .i64 0] ∧ Mov k w W) ⟨⟨_, _, _, HX.out.setAt (i := 1) (by simp) rfl⟩, HT.out.setOther (by omega), HM.out.low (B := w.heap.size) (by repeat (first | with_reducible exact belR | (with_reducible refine belAB ?_ ?_; focus (first | omega | (simp; done) | (simp; omega))) | (with_reducible refine belS ?_ ?_; focus (first | omega | (simp; done) | (simp; omega))) | with_reducible apply belN | with_reducible apply belD | with_reducible assumption)) (Nat.le_refl _) hk⟩ ?_
    case' false =>
      go_upto_region 12 with fail
      refine settle (fun W => (∃ p q r : Int, WB W kb #[.string x, .int .i64 p, .int .i64 q, .int .i64 r]) ∧ WB W w.heap.size #[.string ⟨#[]⟩, .int .i64 0, .int .i64 0, .int .i64 0] ∧ Mov k w W) ⟨⟨_, _, _, HX.out⟩, HT.out, HM.out⟩ ?_
    all_goals
      clear HX HT HM
      rintro w3 ⟨⟨p, q, r, hx⟩, ht, hm⟩
      have HX := Lib.hid hx
      have HT := Lib.hid ht
      have HM := Lib.hid hm
      clear hx ht hm
  all_goals
    go_wp2_with fail
    refine (specBelow k _ _ HM.out.2).mono ?_
    rintro e w4 ⟨b, rfl, _, _, hm⟩
    have hzb := HX.out.lt
    replace HX := Lib.hid (HX.out.mov hm (by omega))
    replace HT := Lib.hid (HT.out.mov hm (by omega))
    replace HM := Lib.hid (HM.out.trans hm)
    clear hm hzb
    cases n0 : (b == 0)
    case' true =>
      have ⟨c_HX, z_HX, f_HX⟩ := HX.out
      go_upto_region 17 with fail
      refine settle (fun W => (∃ (s : ByteArray) (p q r : Int), s.size ≤ 20 ∧ WB W kb #[.string s, .int .i64 p, .int .i64 q, .int .i64 r]) ∧ WB W w.heap.size #[.string ⟨#[]⟩, .int .i64 0, .int .i64 0, .int .i64 0] ∧ Mov k w W) ⟨⟨_, _, _, _, by decide, HX.out.setAt (i := 0) (by simp) rfl⟩, HT.out.setOther (by omega), HM.out.low (B := w.heap.size) (by repeat (first | with_reducible exact belR | (with_reducible refine belAB ?_ ?_; focus (first | omega | (simp; done) | (simp; omega))) | (with_reducible refine belS ?_ ?_; focus (first | omega | (simp; done) | (simp; omega))) | with_reducible apply belN | with_reducible apply belD | with_reducible assumption)) (Nat.le_refl _) hk⟩ ?_
    case' false => cases n1 : (b == 1)
    case' false.true =>
      go_wp2_with fail
      refine (specLitInt k [-1, 1, 9, 1000000000001] _ HM.out.2 rfl rfl rfl (by decide) (by decide)).mono ?_
      rintro e w5 ⟨v, rfl, _, hm⟩
      have hzb := HX.out.lt
      replace HX := Lib.hid (HX.out.mov hm (by omega))
      replace HT := Lib.hid (HT.out.mov hm (by omega))
      replace HM := Lib.hid (HM.out.trans hm)
      clear hm hzb
      have ⟨c_HX, z_HX, f_HX⟩ := HX.out
      go_upto_region 17 with fail
      refine settle (fun W => (∃ (s : ByteArray) (p q r : Int), s.size ≤ 20 ∧ WB W kb #[.string s, .int .i64 p, .int .i64 q, .int .i64 r]) ∧ WB W w.heap.size #[.string ⟨#[]⟩, .int .i64 0, .int .i64 0, .int .i64 0] ∧ Mov k w W) ⟨⟨_, _, _, _, HS.out, HX.out.setAt (i := 2) (by simp) rfl⟩, HT.out.setOther (by omega), HM.out.low (B := w.heap.size) (by repeat (first | with_reducible exact belR | (with_reducible refine belAB ?_ ?_; focus (first | omega | (simp; done) | (simp; omega))) | (with_reducible refine belS ?_ ?_; focus (first | omega | (simp; done) | (simp; omega))) | with_reducible apply belN | with_reducible apply belD | with_reducible assumption)) (Nat.le_refl _) hk⟩ ?_
    case' false.false =>
      go_upto_region 17 with fail
      refine settle (fun W => (∃ (s : ByteArray) (p q r : Int), s.size ≤ 20 ∧ WB W kb #[.string s, .int .i64 p, .int .i64 q, .int .i64 r]) ∧ WB W w.heap.size #[.string ⟨#[]⟩, .int .i64 0, .int .i64 0, .int .i64 0] ∧ Mov k w W) ⟨⟨_, _, _, _, HS.out, HX.out⟩, HT.out, HM.out⟩ ?_
    all_goals
      clear HX HT HM
      rintro w3 ⟨⟨s, p, q, r, hs, hx⟩, ht, hm⟩
      have HX := Lib.hid hx
      have HT := Lib.hid ht
      have HM := Lib.hid hm
      clear hx ht hm
      have ⟨c_HX, z_HX, f_HX⟩ := HX.out
      have ⟨c_HT, z_HT, f_HT⟩ := HT.out
      go_wp2
      exact bodyPost_ret (v := .agg #[.string s, .int .i64 p, .int .i64 q, .int .i64 r]) (by simp [results, Try.results49, go_sem, c_HT]) rfl ⟨_, _, _, _, rfl, hs, HM.out.low (B := w.heap.size) (by repeat (first | with_reducible exact belR | (with_reducible refine belAB ?_ ?_; focus (first | omega | (simp; done) | (simp; omega))) | (with_reducible refine belS ?_ ?_; focus (first | omega | (simp; done) | (simp; omega))) | with_reducible apply belN | with_reducible apply belD | with_reducible assumption)) (Nat.le_refl _) hk⟩

end Go.Proofs.Yteajhmpppciicaa
