/-
  The draws of sets of caches.
-/
import Derived.Test.YteajhmpppciicaaOpenCache
import Derived.Test.YteajhmpppciicaaStoreResp
import Derived.Test.YteajhmpppciicaaDrawSites
import Derived.Test.YteajhmpppciicaaDrawSiteAny
namespace Go.Proofs.Yteajhmpppciicaa
open Go.RowKit

theorem Part.movL {α : Type} {R : Rep α} {lo hi : Nat} {w w' : World} {cs : List Value} {x : α} {k : Kur} (h : Part R lo hi w cs x) (hm : Mov k w w') (hk : k.k < lo) : Part R lo hi w' cs x := by
  obtain ⟨fp, h, hn, hf⟩ := h
  exact ⟨fp, Rep.frame _ h fun b hb' => hm.1.block b (Rep.lt _ h b hb') (fun hm => by simp at hm; subst hm; have := (hf _ hb').1; omega), hn, hf⟩
theorem Part.ownsLt {α : Type} {R : Rep α} {lo hi : Nat} {w : World} {cs : List Value} {x : α} (h : Part R lo hi w cs x) : OwnsLt R lo [hi] (hi + 1) w cs x := by
  obtain ⟨fp, h, hn, hf⟩ := h
  exact ⟨fp, h, hn, fun b hb => ⟨(hf b hb).1, fun hm => by have := (hf b hb).2; simp at hm; omega⟩, fun b hb => by have := (hf b hb).2; omega⟩
theorem OwnsLt.owns {α : Type} {R : Rep α} {B m : Nat} {K : List Nat} {w : World} {cs : List Value} {x : α} (h : OwnsLt R B K m w cs x) : Owns R B K w cs x := by
  obtain ⟨fp, h, hn, hf, _⟩ := h
  exact ⟨fp, h, hn, hf⟩
theorem OwnsLt.movL {α : Type} {R : Rep α} {B m : Nat} {K : List Nat} {w w' : World} {cs : List Value} {x : α} {k : Kur} (h : OwnsLt R B K m w cs x) (hm : Mov k w w') (hk : k.k < B) : OwnsLt R B K m w' cs x := by
  obtain ⟨fp, h, hn, hf, h2⟩ := h
  exact ⟨fp, Rep.frame _ h fun b hb' => hm.1.block b (Rep.lt _ h b hb') (fun hm => by simp at hm; subst hm; have := (hf _ hb').1; omega), hn, hf, h2⟩
theorem mvf_cell {k : Kur} {fp : List Nat} {w : World} {b o : Nat} {v : Value} (h : w.cell? ⟨b, o, none⟩ = some v) (hk : b ≠ k.k) (hj : b ∉ fp) : ∀ (p : MovedF k fp w), (mvf p).cell? ⟨b, o, none⟩ = some v := fun p => (World.cell?_of_block (a := ⟨b, o, none⟩) ((mvf_ok p).1.block b (block_lt_of_cell h) (by simp [hk, hj]))).trans h
theorem site_le {x : ByteArray} (h : x ∈ ([⟨#[98, 97, 110, 107]⟩, ⟨#[115, 104, 111, 112]⟩, ⟨#[110, 101, 119, 115]⟩] : List ByteArray)) : x.size ≤ 20 := by
  simp only [List.mem_cons, List.not_mem_nil, or_false] at h
  rcases h with rfl | rfl | rfl <;> decide
theorem path_le {x : ByteArray} (h : x ∈ ([⟨#[105, 110, 100, 101, 120]⟩, ⟨#[115, 116, 121, 108, 101]⟩, ⟨#[99, 111, 100, 101]⟩, ⟨#[100, 97, 116, 97]⟩] : List ByteArray)) : x.size ≤ 20 := by
  simp only [List.mem_cons, List.not_mem_nil, or_false] at h
  rcases h with rfl | rfl | rfl | rfl <;> decide

set_option maxRecDepth 100000 in
set_option maxHeartbeats 6400000 in
theorem specSet17 (k : Kur) (w : World) (h : Cur w k) : Calls Try.prog 68 #[.pointer (some ⟨k.k, 0, none⟩)] w fun e w' => ∃ (x : DCacheSet) (a : Option Addr) (c : Nat), e = .returned (.agg #[.slice a x.caches.length c]) ∧ Fresh (Rep.slice 85 DCache.rep) w.heap.size w' [.slice a x.caches.length c] x.caches ∧ SetLe 3 6 x ∧ Mov k w w' := by
  have hk := h.lt
  go_enter Try.func68, Try.ntmps68
  go_upto_region 2 with fail
  refine settle (fun W => WB W (w.heap.size + 1) #[.slice none 0 0] ∧ WB W w.heap.size #[.slice none 0 0] ∧ Mov k w W) ⟨WB.at (by simp), (WB.at rfl).growA, Mov.belowL (by repeat (first | with_reducible exact belR | with_reducible apply belA | (with_reducible refine belS ?_ ?_; focus (first | omega | (simp; done) | (simp; omega))) | with_reducible apply belN | with_reducible apply belD | with_reducible assumption)) (Mov.refl (h.below (by repeat (first | with_reducible exact belR | with_reducible apply belA | (with_reducible refine belS ?_ ?_; focus (first | omega | (simp; done) | (simp; omega))) | with_reducible apply belN | with_reducible apply belD | with_reducible assumption))))⟩ ?_
  rintro w1 ⟨hx, ht, hm⟩
  have HX := Lib.hid hx
  have HT := Lib.hid ht
  have HM := Lib.hid hm
  have hz1 := HX.out.lt
  clear hx ht hm
  go_wp2_with fail
  refine (specBelow k _ _ HM.out.cur).mono ?_
  rintro e w2 ⟨n, rfl, hn0, hn4, hm⟩
  have hn5 := hn4 (by decide)
  clear hn4
  replace HX := Lib.hid (HX.out.mov hm (by omega))
  replace HT := Lib.hid (HT.out.mov hm (by omega))
  replace HM := Lib.hid (HM.out.trans hm)
  clear hm
  go_wp2
  go_loopw [4] (fun i wr => ∃ (n : Int) (x : DCacheSet) (a : Option Addr) (c : Nat), i = .int .i64 n ∧ (n ≤ 2 ∧ SetLe (3 - n.toNat) 0 x) ∧ WB wr (w.heap.size + 1) #[.slice a x.caches.length c] ∧ WB wr w.heap.size #[.slice none 0 0] ∧ Fresh (Rep.slice 85 DCache.rep) (w.heap.size + 2) wr [.slice a x.caches.length c] x.caches ∧ Mov k w wr) (fun i _ => (intOf i).toNat)
  case atStart => exact ⟨n, ⟨[]⟩, none, 0, rfl, ⟨by omega, ⟨Nat.zero_le _, fun c hc => by simp at hc⟩⟩, HX.out, HT.out, Fresh.nil, HM.out⟩
  case round =>
    clear HX HT HM hn0 hn5
    obtain ⟨n, x, a, c, rfl, ⟨hn, hr⟩, hx, ht, hf, hm⟩ := hrel
    have HR := Lib.hid hr
    have HX := Lib.hid hx
    have HT := Lib.hid ht
    have HF := Lib.hid hf
    have HM := Lib.hid hm
    clear hx ht hf hm hr
    have hzr := HX.out.lt
    by_cases hlt : 0 < n
    · go_upto_region 5 with fail
      refine wp_region_mv k [7,8] (by kernel_rfl) ?_
      intro wd hbd
      have hwz := hbd.size
      replace HX := Lib.hid (HX.out.keep hbd)
      replace HT := Lib.hid (HT.out.keep hbd)
      replace HF := Lib.hid (HF.out.below hbd)
      replace HM := Lib.hid (HM.out.below hbd)
      clear hbd
      have hne : Nonempty (Moved k wd) := ⟨⟨wd, Mov.refl HM.out.cur⟩⟩
      have K_HX := mv_var (k := k) HX.out (by omega)
      refine wpU_group (fun _ _ _ _ _ h => h) (by kernel_rfl) (mv_of (Mov.refl HM.out.cur)) [0,1] _ _ _ rfl (by kernel_rfl) ?_
      repeat (go_big_quiet_step (fail))
      refine wpQuiet_nil ?_
      clear K_HX
      refine wpU_one 2 rfl (by kernel_rfl) ?_
      go_wp2_with fail
      refine (specBelow k _ _ HM.out.cur).mono ?_
      rintro e w3 ⟨f, rfl, _, _, hm⟩
      go_wp2_with fail
      refine HardPost.mk (mv_of (hm)) ?_
      refine wpU_group (fun _ _ _ _ _ h => h) (by kernel_rfl) (mv_of (hm)) [3] _ _ _ rfl (by kernel_rfl) ?_
      repeat (go_big_quiet_step (fail))
      refine wpQuiet_nil ?_
      have hz4 := hm.size
      refine wpU_one 4 rfl (by kernel_rfl) ?_
      go_wp2_with fail
      refine (specOpenCache _ x _ _ (HF.out.mov hm (by omega)).reads _ _ HR.out (by omega) (by omega)).mono ?_
      rintro e w5 ⟨y, b, a5, c5, rfl, hg, hle, hb5⟩
      have mm5 := hm.below hb5
      go_wp2_with fail
      refine HardPost.mk (mv_of (mm5)) ?_
      refine wpU_group (fun _ _ _ _ _ h => h) (by kernel_rfl) (mv_of (mm5)) [5,6,7] _ _ _ rfl (by kernel_rfl) ?_
      repeat (go_big_quiet_step (fail))
      refine wpQuiet_nil ?_
      replace HX := Lib.hid (HX.out.mov mm5 (by omega))
      have ⟨c_HX, z_HX, f_HX⟩ := HX.out
      refine wpU_tail [8] _ _ _ _ rfl (by kernel_rfl) ?_
      go_wp2_with fail
      refine NoPanic.normal ?_
      go_wp2_with fail
      go_light
      exact ⟨⟨n - 1, y, a5, c5, by go_num, ⟨by omega, hle.mono (by omega) (by omega)⟩, HX.out.setAt (i := 0) (by simp) rfl, (HT.out.mov mm5 (by omega)).setOther (by omega), Fresh.mono (B := w3.heap.size) (by repeat (first | with_reducible exact hg | with_reducible refine Fresh.setLow ?_ (by omega))) (by omega), (HM.out.trans mm5).low (B := w.heap.size) (by repeat (first | with_reducible exact belR | (with_reducible refine belAB ?_ ?_; focus (first | omega | (simp; done) | (simp; omega))) | (with_reducible refine belS ?_ ?_; focus (first | omega | (simp; done) | (simp; omega))) | with_reducible apply belN | with_reducible apply belD | with_reducible assumption)) (Nat.le_refl _) hk⟩, by simp [intOf]; omega⟩
    · go_wp2_with fail
      refine (specBelow k _ _ HM.out.cur).mono ?_
      rintro e w2 ⟨n2, rfl, hn0, hn4, hm⟩
      have hn5 := hn4 (by decide)
      clear hn4
      replace HX := Lib.hid (HX.out.mov hm (by omega))
      replace HT := Lib.hid (HT.out.mov hm (by omega))
      replace HF := Lib.hid (HF.out.mov hm (by omega))
      replace HM := Lib.hid (HM.out.trans hm)
      clear hm
      go_wp2
      go_loopw [5] (fun i wr => ∃ (n : Int) (x : DCacheSet) (a : Option Addr) (c : Nat), i = .int .i64 n ∧ (n ≤ 4 ∧ SetLe 3 (5 - n.toNat) x) ∧ WB wr (w.heap.size + 1) #[.slice a x.caches.length c] ∧ WB wr w.heap.size #[.slice none 0 0] ∧ Fresh (Rep.slice 85 DCache.rep) (w.heap.size + 2) wr [.slice a x.caches.length c] x.caches ∧ Mov k w wr) (fun i _ => (intOf i).toNat)
      case atStart => exact ⟨n2, x, a, c, rfl, ⟨by omega, HR.out.mono (by omega) (by omega)⟩, HX.out, HT.out, HF.out, HM.out⟩
      case round =>
        clear HX HT HM HF HR hn0 hn5 hlt hzr
        obtain ⟨n, x, a, c, rfl, ⟨hn, hr⟩, hx, ht, hf, hm⟩ := hrel
        have HR := Lib.hid hr
        have HX := Lib.hid hx
        have HT := Lib.hid ht
        have HF := Lib.hid hf
        have HM := Lib.hid hm
        clear hx ht hf hm hr
        have hzr := HX.out.lt
        by_cases hlt : 0 < n
        · go_upto_region 9 with fail
          refine wp_region_mv k [13,14] (by kernel_rfl) ?_
          intro wd hbd
          have hwz := hbd.size
          replace HX := Lib.hid (HX.out.keep hbd)
          replace HT := Lib.hid (HT.out.keep hbd)
          replace HF := Lib.hid (HF.out.below hbd)
          replace HM := Lib.hid (HM.out.below hbd)
          clear hbd
          have hne : Nonempty (Moved k wd) := ⟨⟨wd, Mov.refl HM.out.cur⟩⟩
          have K_HX := mv_var (k := k) HX.out (by omega)
          refine wpU_group (fun _ _ _ _ _ h => h) (by kernel_rfl) (mv_of (Mov.refl HM.out.cur)) [0,1,4,6,8] _ _ _ rfl (by kernel_rfl) ?_
          repeat (go_big_quiet_step (fail))
          refine wpQuiet_nil ?_
          clear K_HX
          refine wpU_one 2 rfl (by kernel_rfl) ?_
          go_wp2_with fail
          refine (specBelow k _ _ HM.out.cur).mono ?_
          rintro e w3 ⟨f, rfl, _, _, hm⟩
          go_wp2_with fail
          refine HardPost.mk (mv_of (hm)) ?_
          refine wpU_group (fun _ _ _ _ _ h => h) (by kernel_rfl) (mv_of (hm)) [3] _ _ _ rfl (by kernel_rfl) ?_
          repeat (go_big_quiet_step (fail))
          refine wpQuiet_nil ?_
          refine wpU_one 5 rfl (by kernel_rfl) ?_
          go_wp2_with fail
          refine (specSite k _ hm.cur).mono ?_
          rintro e w4 ⟨st, rfl, hst, hm4⟩
          have mm4 := hm.trans hm4
          go_wp2_with fail
          refine HardPost.mk (mv_of (mm4)) ?_
          refine wpU_one 7 rfl (by kernel_rfl) ?_
          go_wp2_with fail
          refine (specPath k _ mm4.cur).mono ?_
          rintro e w5 ⟨pt, rfl, hpt, hm5⟩
          have mm5 := mm4.trans hm5
          go_wp2_with fail
          refine HardPost.mk (mv_of (mm5)) ?_
          refine wpU_one 9 rfl (by kernel_rfl) ?_
          go_wp2_with fail
          refine (specResp k _ mm5.cur).mono ?_
          rintro e w6 ⟨r, ra, rc, rfl, hfr, hrl, hm6⟩
          have mm6 := mm5.trans hm6
          go_wp2_with fail
          refine HardPost.mk (mv_of (mm6)) ?_
          have hz6 := mm6.size
          refine wpU_one 10 rfl (by kernel_rfl) ?_
          go_wp2_with fail
          refine (specStoreResponse _ _ x _ st pt r _ (HF.out.mov mm6 (by omega)).reads hfr.reads _ _ HR.out (by omega) (by omega) (site_le hst) (path_le hpt) hrl).mono ?_
          rintro e w7 ⟨y, b, a5, c5, rfl, hg, hle, hb5⟩
          have mm7 := mm6.below hb5
          go_wp2_with fail
          refine HardPost.mk (mv_of (mm7)) ?_
          refine wpU_group (fun _ _ _ _ _ h => h) (by kernel_rfl) (mv_of (mm7)) [11,12,13] _ _ _ rfl (by kernel_rfl) ?_
          repeat (go_big_quiet_step (fail))
          refine wpQuiet_nil ?_
          replace HX := Lib.hid (HX.out.mov mm7 (by omega))
          have ⟨c_HX, z_HX, f_HX⟩ := HX.out
          refine wpU_tail [14] _ _ _ _ rfl (by kernel_rfl) ?_
          go_wp2_with fail
          refine NoPanic.normal ?_
          go_wp2_with fail
          go_light
          exact ⟨⟨n - 1, y, a5, c5, by go_num, ⟨by omega, hle.mono (by omega) (by omega)⟩, HX.out.setAt (i := 0) (by simp) rfl, (HT.out.mov mm7 (by omega)).setOther (by omega), Fresh.mono (B := w6.heap.size) (by repeat (first | with_reducible exact hg | with_reducible refine Fresh.setLow ?_ (by omega))) (by omega), (HM.out.trans mm7).low (B := w.heap.size) (by repeat (first | with_reducible exact belR | (with_reducible refine belAB ?_ ?_; focus (first | omega | (simp; done) | (simp; omega))) | (with_reducible refine belS ?_ ?_; focus (first | omega | (simp; done) | (simp; omega))) | with_reducible apply belN | with_reducible apply belD | with_reducible assumption)) (Nat.le_refl _) hk⟩, by simp [intOf]; omega⟩
        · have ⟨c_HX, z_HX, f_HX⟩ := HX.out
          have ⟨c_HT, z_HT, f_HT⟩ := HT.out
          go_wp2
          exact bodyPost_ret (v := .agg #[.slice a x.caches.length c]) (by simp [results, Try.results68, go_sem, c_HT]) rfl ⟨x, _, _, rfl, (Fresh.mono (B := (w.heap.size + 2)) (by repeat (first | with_reducible exact HF.out | with_reducible refine Fresh.setLow ?_ (by omega) | with_reducible refine Fresh.drew ?_)) (by omega)), HR.out.mono (by omega) (by omega), HM.out.low (B := w.heap.size) (by repeat (first | with_reducible exact belR | (with_reducible refine belAB ?_ ?_; focus (first | omega | (simp; done) | (simp; omega))) | (with_reducible refine belS ?_ ?_; focus (first | omega | (simp; done) | (simp; omega))) | with_reducible apply belN | with_reducible apply belD | with_reducible assumption)) (Nat.le_refl _) hk⟩

end Go.Proofs.Yteajhmpppciicaa
