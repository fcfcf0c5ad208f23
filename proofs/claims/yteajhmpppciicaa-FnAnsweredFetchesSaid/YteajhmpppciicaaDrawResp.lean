/-
  The draws of responses.
-/
import Derived.Test.YteajhmpppciicaaCurFam
import Derived.Test.YteajhmpppciicaaCaches
namespace Go.Proofs.Yteajhmpppciicaa
open Go.RowKit

/-- It reads, its blocks are its own, not below B, and none of K. -/
def Owns {α : Type} (R : Rep α) (B : Nat) (K : List Nat) (w : World) (cs : List Value) (x : α) : Prop := ∃ fp, R.rd true w cs x fp ∧ fp.Nodup ∧ ∀ b ∈ fp, B ≤ b ∧ b ∉ K

section
variable {α : Type} {R : Rep α} {B : Nat} {K : List Nat} {w w' : World} {cs : List Value} {x : α}
theorem Owns.fresh (h : Owns R B K w cs x) : Fresh R B w cs x := by
  obtain ⟨fp, h, hn, hf⟩ := h
  exact ⟨fp, h, hn, fun b hb => (hf b hb).1⟩
theorem Owns.reads (h : Owns R B K w cs x) : Reads R w cs x := h.fresh.reads
theorem Owns.of {B0 : Nat} (h : Fresh R B0 w cs x) (hB : B ≤ B0) (hK : ∀ k ∈ K, k < B0 ∨ w.heap.size ≤ k) : Owns R B K w cs x := by
  obtain ⟨fp, h, hn, hf⟩ := h
  refine ⟨fp, h, hn, fun b hb => ⟨Nat.le_trans hB (hf b hb), fun hm => ?_⟩⟩
  have h1 := hf b hb
  have h2 := Rep.lt _ h b hb
  have := hK b hm
  omega
theorem Owns.below (h : Owns R B K w cs x) (hb : Below w.heap.size w w') : Owns R B K w' cs x := by
  obtain ⟨fp, h, hn, hf⟩ := h
  exact ⟨fp, Rep.frame _ h fun b hb' => hb.block b (Rep.lt _ h b hb'), hn, hf⟩
theorem Owns.mov {k : Kur} (h : Owns R B K w cs x) (hm : Mov k w w') (hk : k.k ∈ K) : Owns R B K w' cs x := by
  obtain ⟨fp, h, hn, hf⟩ := h
  exact ⟨fp, Rep.frame _ h fun b hb' => hm.1.block b (Rep.lt _ h b hb') (fun hm => (hf b hb').2 (by simp at hm; subst hm; exact hk)), hn, hf⟩
theorem Owns.set {g o : Nat} {u : Value} (h : Owns R B K w cs x) (hg : g ∈ K ∨ g < B) : Owns R B K (w.setCell ⟨g, o, none⟩ u) cs x := by
  obtain ⟨fp, h, hn, hf⟩ := h
  refine ⟨fp, Rep.frame _ h fun b hb' => Below.heap_setCell _ _ _ _ (fun e => ?_), hn, hf⟩
  have h1 := hf b hb'
  simp only [] at e
  subst e
  rcases hg with hg | hg
  · exact h1.2 hg
  · omega
theorem Owns.drew (h : Owns R B K w cs x) : Owns R B K w.drew cs x := h.below (belD belR)
theorem Owns.more {K' : List Nat} (h : Owns R B K w cs x) (hK : ∀ k ∈ K', k ∈ K ∨ k < B ∨ w.heap.size ≤ k) : Owns R B K' w cs x := by
  obtain ⟨fp, h, hn, hf⟩ := h
  refine ⟨fp, h, hn, fun b hb => ⟨(hf b hb).1, fun hm => ?_⟩⟩
  have h1 := hf b hb
  have h2 := Rep.lt _ h b hb
  rcases hK b hm with h3 | h3 | h3
  · exact h1.2 h3
  · omega
  · omega
end

set_option maxRecDepth 100000 in
set_option maxHeartbeats 6400000 in
theorem specResp (k : Kur) (w : World) (h : Cur w k) : Calls Try.prog 69 #[.pointer (some ⟨k.k, 0, none⟩)] w fun e w' => ∃ (x : DResponse) (a : Option Addr) (c : Nat), e = .returned (.agg #[.int .i64 x.type_, .int .i64 x.status, .int .i64 x.version, .slice a x.body.length c, .bool x.shares]) ∧ Fresh DResponse.rep w.heap.size w' [.int .i64 x.type_, .int .i64 x.status, .int .i64 x.version, .slice a x.body.length c, .bool x.shares] x ∧ x.body.length ≤ 61 ∧ Mov k w w' := by
  have hk := h.lt
  go_enter Try.func69, Try.ntmps69
  go_wp2_with fail
  refine (specBelow k _ _ (h.below (by repeat (first | with_reducible exact belR | with_reducible apply belA | (with_reducible refine belS ?_ ?_; focus (first | omega | (simp; done) | (simp; omega))) | with_reducible apply belN | with_reducible apply belD | with_reducible assumption)))).mono ?_
  rintro e w1 ⟨t, rfl, _, _, hm⟩
  have HT : Hid (WB w1 w.heap.size #[.int .i64 0, .int .i64 0, .int .i64 0, .slice none 0 0, .bool false]) := Lib.hid ((WB.at rfl).mov hm (by omega))
  have HM : Hid (Mov k w w1) := Lib.hid (Mov.belowL (by repeat (first | with_reducible exact belR | with_reducible apply belA | (with_reducible refine belS ?_ ?_; focus (first | omega | (simp; done) | (simp; omega))) | with_reducible apply belN | with_reducible apply belD | with_reducible assumption)) hm)
  clear hm
  go_wp2_with fail
  refine (specBelow k _ _ HM.out.2).mono ?_
  rintro e w2 ⟨ver, rfl, _, _, hm⟩
  replace HT := Lib.hid (HT.out.mov hm (by omega))
  replace HM := Lib.hid (HM.out.trans hm)
  clear hm
  go_wp2_with fail
  refine (specBelow k _ _ HM.out.2).mono ?_
  rintro e w3 ⟨n, rfl, hn0, hn1, hm⟩
  have hn2 := hn1 (by decide)
  obtain ⟨n, rfl⟩ : ∃ m : Nat, n = m := ⟨n.toNat, by omega⟩
  have hz1 := HT.out.lt
  replace HT := Lib.hid (HT.out.mov hm (by omega))
  replace HM := Lib.hid (HM.out.trans hm)
  have hz3 := hm.size
  clear hm
  go_wp2_with fail
  refine (specDrawBytes k n _ HM.out.2 (by omega)).mono ?_
  rintro e w4 ⟨v, l, rfl, hf, hl, hm⟩
  obtain ⟨a1, c1, rfl⟩ := hf.slice
  subst hl
  have hz4 := hm.size
  replace HT := Lib.hid (HT.out.mov hm (by omega))
  replace HM := Lib.hid (HM.out.trans hm)
  have HF : Hid (Owns Rep.bytes (w.heap.size + 1) [k.k] w4 [.slice a1 l.length c1] l) := Lib.hid (Owns.of hf (by omega) (by simp; omega))
  clear hm hf
  go_wp2_with fail
  refine (specOnce k _ _ HM.out.2).mono ?_
  rintro e w5 ⟨b, rfl, hm⟩
  have hz5 := hm.size
  replace HT := Lib.hid (HT.out.mov hm (by omega))
  replace HM := Lib.hid (HM.out.trans hm)
  replace HF := Lib.hid (HF.out.mov hm (by simp))
  clear hm
  have hll : l.length ≤ 61 := by omega
  go_upto_region 2 with fail
  refine settle (fun W => ∃ kb, kb = w5.heap.size ∧ (∃ p q r : Int, WB W kb #[.int .i64 p, .int .i64 q, .int .i64 r, .slice a1 l.length c1, .bool b]) ∧ WB W w.heap.size #[.int .i64 0, .int .i64 0, .int .i64 0, .slice none 0 0, .bool false] ∧ Owns Rep.bytes (w.heap.size + 1) [k.k, kb] W [.slice a1 l.length c1] l ∧ Mov k w W) ⟨_, rfl, ⟨_, _, _, WB.at rfl⟩, HT.out.growA, (HF.out.more (K' := [k.k, w5.heap.size]) (by simp)).below (belA belR), HM.out.below (by repeat (first | with_reducible exact belR | with_reducible apply belA | (with_reducible refine belS ?_ ?_; focus (first | omega | (simp; done) | (simp; omega))) | with_reducible apply belN | with_reducible apply belD | with_reducible assumption))⟩ ?_
  clear HT HM HF
  rintro w6 ⟨kb, hkb, ⟨p, q, r, hx⟩, ht, hf, hm⟩
  have hkk : w.heap.size < kb ∧ k.k < kb := by omega
  rw [← hkb]
  have HX := Lib.hid hx
  have HT := Lib.hid ht
  have HF := Lib.hid hf
  have HM := Lib.hid hm
  clear hx ht hf hm hkb hz1 hz3 hz4 hz5
  go_wp2_with fail
  refine (specBelow k _ _ HM.out.2).mono ?_
  rintro e w7 ⟨d, rfl, _, _, hm⟩
  have hzb := HX.out.lt
  replace HX := Lib.hid (HX.out.mov hm (by omega))
  replace HT := Lib.hid (HT.out.mov hm (by omega))
  replace HF := Lib.hid (HF.out.mov hm (by simp))
  replace HM := Lib.hid (HM.out.trans hm)
  clear hm hzb
  cases n0 : (d == 0)
  case' false => cases n1 : (d == 1)
  case' false.false => cases n2 : (d == 2)
  case' true =>
    go_wp2_with fail
    refine (specLitInt k [0, 4, 5] _ HM.out.2 rfl rfl rfl (by decide) (by decide)).mono ?_
    rintro e w8 ⟨u, rfl, _, hm⟩
    have hzb := HX.out.lt
    replace HX := Lib.hid (HX.out.mov hm (by omega))
    replace HT := Lib.hid (HT.out.mov hm (by omega))
    replace HF := Lib.hid (HF.out.mov hm (by simp))
    replace HM := Lib.hid (HM.out.trans hm)
    clear hm hzb
    have ⟨c_HX, z_HX, f_HX⟩ := HX.out
    go_upto_region 9 with fail
    refine settle (fun W => (∃ (p q r : Int) (l : List UInt8) (a : Option Addr) (c : Nat), l.length ≤ 61 ∧ WB W kb #[.int .i64 p, .int .i64 q, .int .i64 r, .slice a l.length c, .bool b] ∧ Owns Rep.bytes (w.heap.size + 1) [k.k, kb] W [.slice a l.length c] l) ∧ WB W w.heap.size #[.int .i64 0, .int .i64 0, .int .i64 0, .slice none 0 0, .bool false] ∧ Mov k w W) ⟨⟨_, _, _, _, _, _, hll, HX.out.setAt (i := 0) (by simp) rfl, (by repeat (first | with_reducible exact HF.out | with_reducible refine Owns.set ?_ (.inl (by simp))))⟩, HT.out.setOther (by omega), HM.out.low (B := w.heap.size) (by repeat (first | with_reducible exact belR | (with_reducible refine belAB ?_ ?_; focus (first | omega | (simp; done) | (simp; omega))) | (with_reducible refine belS ?_ ?_; focus (first | omega | (simp; done) | (simp; omega))) | with_reducible apply belN | with_reducible apply belD | with_reducible assumption)) (Nat.le_refl _) hk⟩ ?_
  case' false.true =>
    go_wp2_with fail
    refine (specLitInt k [-1, 0, 404, 999, 1000] _ HM.out.2 rfl rfl rfl (by decide) (by decide)).mono ?_
    rintro e w8 ⟨u, rfl, _, hm⟩
    have hzb := HX.out.lt
    replace HX := Lib.hid (HX.out.mov hm (by omega))
    replace HT := Lib.hid (HT.out.mov hm (by omega))
    replace HF := Lib.hid (HF.out.mov hm (by simp))
    replace HM := Lib.hid (HM.out.trans hm)
    clear hm hzb
    have ⟨c_HX, z_HX, f_HX⟩ := HX.out
    go_upto_region 9 with fail
    refine settle (fun W => (∃ (p q r : Int) (l : List UInt8) (a : Option Addr) (c : Nat), l.length ≤ 61 ∧ WB W kb #[.int .i64 p, .int .i64 q, .int .i64 r, .slice a l.length c, .bool b] ∧ Owns Rep.bytes (w.heap.size + 1) [k.k, kb] W [.slice a l.length c] l) ∧ WB W w.heap.size #[.int .i64 0, .int .i64 0, .int .i64 0, .slice none 0 0, .bool false] ∧ Mov k w W) ⟨⟨_, _, _, _, _, _, hll, HX.out.setAt (i := 1) (by simp) rfl, (by repeat (first | with_reducible exact HF.out | with_reducible refine Owns.set ?_ (.inl (by simp))))⟩, HT.out.setOther (by omega), HM.out.low (B := w.heap.size) (by repeat (first | with_reducible exact belR | (with_reducible refine belAB ?_ ?_; focus (first | omega | (simp; done) | (simp; omega))) | (with_reducible refine belS ?_ ?_; focus (first | omega | (simp; done) | (simp; omega))) | with_reducible apply belN | with_reducible apply belD | with_reducible assumption)) (Nat.le_refl _) hk⟩ ?_
  case' false.false.false =>
    go_upto_region 9 with fail
    refine settle (fun W => (∃ (p q r : Int) (l : List UInt8) (a : Option Addr) (c : Nat), l.length ≤ 61 ∧ WB W kb #[.int .i64 p, .int .i64 q, .int .i64 r, .slice a l.length c, .bool b] ∧ Owns Rep.bytes (w.heap.size + 1) [k.k, kb] W [.slice a l.length c] l) ∧ WB W w.heap.size #[.int .i64 0, .int .i64 0, .int .i64 0, .slice none 0 0, .bool false] ∧ Mov k w W) ⟨⟨_, _, _, _, _, _, hll, HX.out, HF.out⟩, HT.out, HM.out⟩ ?_
  case' false.false.true =>
    go_wp2_with fail
    refine (specLitInt k [60, 61] _ HM.out.2 rfl rfl rfl (by decide) (by decide)).mono ?_
    rintro e w8 ⟨u, rfl, hu, hm⟩
    have hu2 : u = 60 ∨ u = 61 := by simpa using hu
    clear hu
    obtain ⟨u, rfl⟩ : ∃ m : Nat, u = m := ⟨u.toNat, by omega⟩
    have hzb := HX.out.lt
    replace HX := Lib.hid (HX.out.mov hm (by omega))
    replace HT := Lib.hid (HT.out.mov hm (by omega))
    replace HF := Lib.hid (HF.out.mov hm (by simp))
    replace HM := Lib.hid (HM.out.trans hm)
    clear hm hzb
    have hzb := HX.out.lt
    go_wp2_with fail
    refine (specDrawBytes k u _ HM.out.2 (by omega)).mono ?_
    rintro e w9 ⟨v2, l2, rfl, hf, hl2, hm⟩
    obtain ⟨a2, c2, rfl⟩ := hf.slice
    subst hl2
    replace HX := Lib.hid (HX.out.mov hm (by omega))
    replace HT := Lib.hid (HT.out.mov hm (by omega))
    replace HM := Lib.hid (HM.out.trans hm)
    replace HF : Hid (Owns Rep.bytes (w.heap.size + 1) [k.k, kb] w9 [.slice a2 l2.length c2] l2) := Lib.hid (Owns.of hf (by omega) (by simp; omega))
    have hl3 : l2.length ≤ 61 := by omega
    clear hm hf hzb
    have ⟨c_HX, z_HX, f_HX⟩ := HX.out
    go_upto_region 9 with fail
    refine settle (fun W => (∃ (p q r : Int) (l : List UInt8) (a : Option Addr) (c : Nat), l.length ≤ 61 ∧ WB W kb #[.int .i64 p, .int .i64 q, .int .i64 r, .slice a l.length c, .bool b] ∧ Owns Rep.bytes (w.heap.size + 1) [k.k, kb] W [.slice a l.length c] l) ∧ WB W w.heap.size #[.int .i64 0, .int .i64 0, .int .i64 0, .slice none 0 0, .bool false] ∧ Mov k w W) ⟨⟨_, _, _, _, _, _, hl3, HX.out.setAt (i := 3) (by simp) rfl, (by repeat (first | with_reducible exact HF.out | with_reducible refine Owns.set ?_ (.inl (by simp))))⟩, HT.out.setOther (by omega), HM.out.low (B := w.heap.size) (by repeat (first | with_reducible exact belR | (with_reducible refine belAB ?_ ?_; focus (first | omega | (simp; done) | (simp; omega))) | (with_reducible refine belS ?_ ?_; focus (first | omega | (simp; done) | (simp; omega))) | with_reducible apply belN | with_reducible apply belD | with_reducible assumption)) (Nat.le_refl _) hk⟩ ?_
  all_goals
    clear HX HT HM HF
    rintro w8 ⟨⟨p, q, r, l, a, c, hl, hx, hf⟩, ht, hm⟩
    have HX := Lib.hid hx
    have HT := Lib.hid ht
    have HF := Lib.hid hf
    have HM := Lib.hid hm
    clear hx ht hf hm
    have ⟨c_HX, z_HX, f_HX⟩ := HX.out
    have ⟨c_HT, z_HT, f_HT⟩ := HT.out
    go_wp2
    exact bodyPost_ret (v := .agg #[.int .i64 p, .int .i64 q, .int .i64 r, .slice a l.length c, .bool b]) (by simp [results, Try.results69, go_sem, c_HT]) rfl ⟨⟨p, q, r, l, b⟩, a, c, rfl, DResponse.fmk (Fresh.mono (B := w.heap.size + 1) (by repeat (first | with_reducible exact HF.out.fresh | with_reducible refine Fresh.setLow ?_ (by omega))) (by omega)), hl, HM.out.low (B := w.heap.size) (by repeat (first | with_reducible exact belR | (with_reducible refine belAB ?_ ?_; focus (first | omega | (simp; done) | (simp; omega))) | (with_reducible refine belS ?_ ?_; focus (first | omega | (simp; done) | (simp; omega))) | with_reducible apply belN | with_reducible apply belD | with_reducible assumption)) (Nat.le_refl _) hk⟩

end Go.Proofs.Yteajhmpppciicaa
