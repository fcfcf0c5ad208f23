/-
  The draws of sets of caches, some of them odd.
-/
import Derived.Test.YteajhmpppciicaaDrawCaches
namespace Go.Proofs.Yteajhmpppciicaa
open Go.RowKit

def oddPaths : List ByteArray := [⟨#[105, 110, 100, 101, 120]⟩, ⟨#[]⟩, ⟨#[122, 122]⟩]
theorem odd_paths {x : ByteArray} (h : x ∈ oddPaths) : x.size ≤ 20 := by
  unfold oddPaths at h
  simp only [List.mem_cons, List.not_mem_nil, or_false] at h
  rcases h with rfl | rfl | rfl <;> decide
theorem set_more {m n : Nat} {x : DCacheSet} {v : Int} (h : SetLe m n x) : SetLe (m + 1) n ⟨x.caches ++ [⟨v, []⟩]⟩ := by
  refine ⟨by have := h.1; simp; omega, fun c hc => ?_⟩
  rcases List.mem_append.1 hc with h1 | h1
  · exact h.2 c h1
  · simp at h1; subst h1; exact ⟨Nat.zero_le _, fun e he => by simp at he⟩

set_option maxRecDepth 100000 in
set_option maxHeartbeats 6400000 in
theorem specAnyCaches (k : Kur) (w : World) (h : Cur w k) : Calls Try.prog 38 #[.pointer (some ⟨k.k, 0, none⟩)] w fun e w' => ∃ (x : DCacheSet) (a : Option Addr) (c : Nat), e = .returned (.agg #[.slice a x.caches.length c]) ∧ Fresh (Rep.slice 85 DCache.rep) w.heap.size w' [.slice a x.caches.length c] x.caches ∧ SetLe 8 8 x ∧ Mov k w w' := by
  have hk := h.lt
  obtain ⟨i0, hi, hz0, hz8, hz9⟩ := info_parts infoCache
  obtain ⟨i1, hi1, hz10, hz11, hz12⟩ := info_parts infoCached
  go_enter Try.func38, Try.ntmps38
  go_wp2_with fail
  refine (specSet17 k _ (h.below (by repeat (first | with_reducible exact belR | with_reducible apply belA | (with_reducible refine belS ?_ ?_; focus (first | omega | (simp; done) | (simp; omega))) | with_reducible apply belN | with_reducible apply belD | with_reducible assumption)))).mono ?_
  rintro e w1 ⟨x, a, c, rfl, hf, hle, hm⟩
  have HL := Lib.hid hle
  have HT : Hid (WB w1 w.heap.size #[.slice none 0 0]) := Lib.hid ((WB.at rfl).mov hm (by omega))
  have HF : Hid (Part (Rep.slice 85 DCache.rep) (w.heap.size + 1) w1.heap.size w1 [.slice a x.caches.length c] x.caches) := Lib.hid ((hf.mono (B' := w.heap.size + 1) (by simp)).partAt (Nat.le_refl _))
  have HM : Hid (Mov k w w1) := Lib.hid (Mov.belowL (by repeat (first | with_reducible exact belR | with_reducible apply belA | (with_reducible refine belS ?_ ?_; focus (first | omega | (simp; done) | (simp; omega))) | with_reducible apply belN | with_reducible apply belD | with_reducible assumption)) hm)
  have hz1 : w.heap.size + 1 ≤ w1.heap.size := by have := hm.size; simp at this; omega
  clear hf hle hm
  go_upto_region 2 with fail
  refine settle (fun W => ∃ kb, kb = w1.heap.size ∧ WB W kb #[.slice a x.caches.length c] ∧ WB W w.heap.size #[.slice none 0 0] ∧ Part (Rep.slice 85 DCache.rep) (w.heap.size + 1) kb W [.slice a x.caches.length c] x.caches ∧ Mov k w W) ⟨_, rfl, WB.at rfl, HT.out.growA, HF.out.below (belA belR), HM.out.below (by repeat (first | with_reducible exact belR | with_reducible apply belA | (with_reducible refine belS ?_ ?_; focus (first | omega | (simp; done) | (simp; omega))) | with_reducible apply belN | with_reducible apply belD | with_reducible assumption))⟩ ?_
  clear HT HF HM
  rintro w2 ⟨kb, hkb, hx, ht, hf, hm⟩
  rw [← hkb]
  have hkk : w.heap.size < kb ∧ k.k < kb := by omega
  have HX := Lib.hid hx
  have HT := Lib.hid ht
  have HF := Lib.hid hf
  have HM := Lib.hid hm
  have hz2 := HX.out.lt
  clear hx ht hf hm hkb hz1
  go_wp2_with fail
  refine (specBelow k _ _ HM.out.cur).mono ?_
  rintro e w3 ⟨d, rfl, _, _, hm⟩
  have hz3 := hm.size
  replace HX := Lib.hid (HX.out.mov hm (by omega))
  replace HT := Lib.hid (HT.out.mov hm (by omega))
  replace HF := Lib.hid (HF.out.movL hm (by omega))
  replace HM := Lib.hid (HM.out.trans hm)
  clear hm
  cases n0 : (d == 0)
  case' false => cases n1 : (d == 1)
  case' false.false => cases n2 : (d == 2)
  case' true =>
    have HO := Lib.hid HF.out.ownsLt
    obtain ⟨fi, hfi⟩ : ∃ fi, fi = (Value.slice a x.caches.length c).ownBlock.toList := ⟨_, rfl⟩
    have hnot := Lib.hid (OwnsLt.notin HO.out)
    have HFI := Lib.hid hfi
    rw [← hfi] at hnot
    have hof : kb ∉ fi := fun h => by have := (hnot.out _ h).1; simp at this
    have htf : w.heap.size ∉ fi := fun h => by have := (hnot.out _ h).2.1; omega
    clear hfi
    go_upto_region 4 with fail
    refine wp_region_mvf k (fi) [9] (by kernel_rfl) ?_
    intro wd hbd
    have hwz := hbd.size
    replace HX := Lib.hid (HX.out.keep hbd)
    replace HT := Lib.hid (HT.out.keep hbd)
    replace HF := Lib.hid (HF.out.below hbd)
    replace HO := Lib.hid (HO.out.below hbd)
    replace HM := Lib.hid (HM.out.below hbd)
    clear hbd
    have hne : Nonempty (MovedF k (fi) wd) := ⟨⟨wd, MovF.of (Mov.refl HM.out.cur)⟩⟩
    have KX := mvf_var (k := k) (fp := fi) HX.out (by omega) hof
    refine wpU_group (fun _ _ _ _ _ h => h) (by kernel_rfl) (mvf_of (MovF.of (Mov.refl HM.out.cur))) [0,1,2] _ _ _ rfl (by kernel_rfl) ?_
    repeat (go_big_quiet_step (fail))
    refine wpQuiet_nil ?_
    clear KX
    have m1 : Mov k wd (wd.alloc (.cells #[.int .i64 0, .int .i64 1, .int .i64 9, .int .i64 1000000000001] 3)) := Mov.below (Mov.refl HM.out.cur) (belA belR)
    refine wpU_one 3 rfl (by kernel_rfl) ?_
    go_wp2_with fail
    refine HardPost.mk (mvf_of (MovF.of m1)) ?_
    refine wpU_one 4 rfl (by kernel_rfl) ?_
    go_wp2_with fail
    refine (specLitInt k [0, 1, 9, 1000000000001] _ HM.out.cur rfl rfl rfl (by decide) (by decide)).mono ?_
    rintro e w5 ⟨u, rfl, _, mm7⟩
    go_wp2_with fail
    refine HardPost.mk (mvf_of (MovF.of mm7)) ?_
    refine wpU_group (fun _ _ _ _ _ h => h) (by kernel_rfl) (mvf_of (MovF.of mm7)) [5] _ _ _ rfl (by kernel_rfl) ?_
    repeat (go_big_quiet_step (fail))
    refine wpQuiet_nil ?_
    refine wpU_one 6 rfl (by kernel_rfl) ?_
    go_wp2_with fail
    refine HardPost.mk (mvf_of ((MovF.of mm7).below (belA belR))) ?_
    refine wpU_one 7 rfl (by kernel_rfl) ?_
    have hz6 := mm7.size
    refine wpList_pushNK _ rfl _ _ 42 42 rfl (w.heap.size + 1) [kb] (kb + 1) 85 i0 _ _ Try.underlying42 Try.underlying42 hi hz0 hz8 hz9 rfl (.slice a x.caches.length c) x.caches rfl (HO.out.movL mm7 (by omega)) (⟨u, []⟩ : DCache) _ _ _ rfl rfl ((cache_none (kb + 1) 0 _ u).fresh (Nat.le_refl _)) (by have := HL.out.1; omega) (by decide) (by omega) (by omega) (by intro b hb; simp at hb; omega) ?_
    intro ao2 cap2 w8 hO8 hg8
    go_wp2_with fail
    have mf7 : MovF k fi wd w8 := by
      have y := Chg.of_grown hg8
      rw [← HFI.out] at y
      exact ((MovF.of mm7).below (belA belR)).chg y (fun b hb => by have := (hnot.out b hb).2.1; omega)
    refine HardPost.mk (mvf_of mf7) ?_
    refine wpU_group (fun _ _ _ _ _ h => h) (by kernel_rfl) (mvf_of (mf7)) [8] _ _ _ rfl (by kernel_rfl) ?_
    repeat (go_big_quiet_step (fail))
    refine wpQuiet_nil ?_
    have HX7 := Lib.hid (HX.out.chg mf7.1 (by simp; exact ⟨by omega, hof⟩))
    have HT7 := Lib.hid (HT.out.chg mf7.1 (by simp; exact ⟨by omega, htf⟩))
    have HM7 := Lib.hid (mf7.low HM.out (fun b hb => by have := (hnot.out b hb).2.1; omega))
    obtain ⟨y, hy⟩ : ∃ y : DCacheSet, y = ⟨x.caches ++ [⟨u, []⟩]⟩ := ⟨_, rfl⟩
    have hyl : y.caches.length = x.caches.length + 1 := by rw [hy]; simp
    have HY : Hid (SetLe 8 8 y) := Lib.hid (by rw [hy]; exact (set_more HL.out).mono (by omega) (by omega))
    have HF7 : Hid (Fresh (Rep.slice 85 DCache.rep) (w.heap.size + 1) (w8.setCell ⟨kb, 0, none⟩ (.slice ao2 (x.caches.length + 1) cap2)) [.slice ao2 (x.caches.length + 1) cap2] y.caches) := Lib.hid (by rw [hy]; exact (hO8.set (.inl (by simp))).fresh)
    clear hO8 hg8 mf7 hy
    have ⟨c_HX7, z_HX7, f_HX7⟩ := HX7.out
    refine wpU_tail [9] _ _ _ _ rfl (by kernel_rfl) ?_
    go_wp2_with fail
    refine NoPanic.normal ?_
    clear c_HX7 z_HX7 f_HX7
    go_upto_region 13 with fail
    refine settle (fun W => (∃ (y : DCacheSet) (a : Option Addr) (c : Nat), SetLe 8 8 y ∧ WB W kb #[.slice a y.caches.length c] ∧ Fresh (Rep.slice 85 DCache.rep) (w.heap.size + 1) W [.slice a y.caches.length c] y.caches) ∧ WB W w.heap.size #[.slice none 0 0] ∧ Mov k w W) ⟨⟨y, ao2, cap2, HY.out, by rw [hyl]; exact HX7.out.setAt (i := 0) (by simp) rfl, by rw [hyl]; exact HF7.out⟩, HT7.out.setOther (by omega), HM7.out.low (B := w.heap.size) (by repeat (first | with_reducible exact belR | (with_reducible refine belAB ?_ ?_; focus (first | omega | (simp; done) | (simp; omega))) | (with_reducible refine belS ?_ ?_; focus (first | omega | (simp; done) | (simp; omega))) | with_reducible apply belN | with_reducible apply belD | with_reducible assumption)) (Nat.le_refl _) hk⟩ ?_
    clear HX7 HT7 HM7 HF7 hyl HO hnot HFI mm7 hz6 hne m1
  case' false.true => cases hlen : decide (0 < x.caches.length)
  case' false.true.false =>
    have hl0 := of_decide_eq_false hlen
    clear hlen
    have ⟨c_HX, z_HX, f_HX⟩ := HX.out
    go_upto_region 13 with fail
    refine settle (fun W => (∃ (y : DCacheSet) (a : Option Addr) (c : Nat), SetLe 8 8 y ∧ WB W kb #[.slice a y.caches.length c] ∧ Fresh (Rep.slice 85 DCache.rep) (w.heap.size + 1) W [.slice a y.caches.length c] y.caches) ∧ WB W w.heap.size #[.slice none 0 0] ∧ Mov k w W) ⟨⟨x, a, c, HL.out.mono (by omega) (by omega), HX.out, HF.out.fresh (Nat.le_refl _)⟩, HT.out, HM.out⟩ ?_
    clear c_HX z_HX f_HX
  case' false.true.true =>
    have hl0 := of_decide_eq_true hlen
    clear hlen
    have j1 : (0 : Int) < (x.caches.length : Int) := by omega
    have hcl := HL.out.2 _ (List.getElem_mem hl0)
    have ⟨c_HX, z_HX, f_HX⟩ := HX.out
    go_upto_region 7 with fail
    clear c_HX z_HX f_HX
    obtain ⟨g, K, a2, c2, rfl, c0, c1, hfz, hgK, hKb, hown, hrd, hput1, hput2⟩ := caches_at HF.out 0 hl0
    have c1 : w3.cell? ⟨g, 1, none⟩ = some (.slice a2 x.caches[0].entries.length c2) := c1
    have HPut1 := Lib.hid hput1
    have HKb := Lib.hid hKb
    have hgb := hKb g hgK
    have hnot := Lib.hid (OwnsLt.notin hown)
    obtain ⟨fi, hfi⟩ : ∃ fi, fi = (Value.slice a2 x.caches[0].entries.length c2).ownBlock.toList := ⟨_, rfl⟩
    have HFI := Lib.hid hfi
    rw [← hfi] at hnot
    have hgf : g ∉ fi := fun h => (hnot.out g h).1 hgK
    have hof : kb ∉ fi := fun h => by have := hnot.out _ h; omega
    have htf : w.heap.size ∉ fi := fun h => by have := hnot.out _ h; omega
    clear hfi c0 hrd hput1 hput2 hKb
    refine wp_region_mvf k fi [17] (by kernel_rfl) ?_
    intro wd hbd
    have hwz := hbd.size
    replace HX := Lib.hid (HX.out.keep hbd)
    replace HT := Lib.hid (HT.out.keep hbd)
    replace HF := Lib.hid (HF.out.below hbd)
    replace HM := Lib.hid (HM.out.below hbd)
    have hgl : g < w3.heap.size := block_lt_of_cell c1
    have c1d := (hbd.cell (p := ⟨g, 1, none⟩) hgl).trans c1
    have hfzd : ∀ j, wd.frozen? ⟨g, j, none⟩ = false := fun j => (hbd.frozen (p := ⟨g, j, none⟩) hgl).trans (hfz j)
    have HOwnD := Lib.hid (OwnsLt.below hown hbd)
    have HKd : Hid (∀ b ∈ K, wd.heap[b]? = w3.heap[b]?) := Lib.hid fun b hb => hbd.block b (by have := HKb.out b hb; omega)
    clear hbd c1 hfz hown
    have hne : Nonempty (MovedF k fi wd) := ⟨⟨wd, MovF.of (Mov.refl HM.out.cur)⟩⟩
    have KX := mvf_var (k := k) (fp := fi) HX.out (by omega) hof
    have KC := mvf_cell (k := k) (fp := fi) c1d (by omega) hgf
    refine wpU_group (fun _ _ _ _ _ h => h) (by kernel_rfl) (mvf_of (MovF.of (Mov.refl HM.out.cur))) [0,1,2,3,4,5,6,7,10] _ _ _ rfl (by kernel_rfl) ?_
    repeat (go_big_quiet_step (fail))
    refine wpQuiet_nil ?_
    clear KX KC
    have m1 : Mov k wd (wd.alloc (.cells #[.string ⟨#[105, 110, 100, 101, 120]⟩, .string ⟨#[]⟩, .string ⟨#[122, 122]⟩] 9)) := Mov.below (Mov.refl HM.out.cur) (belA belR)
    refine wpU_one 8 rfl (by kernel_rfl) ?_
    go_wp2_with fail
    refine HardPost.mk (mvf_of (MovF.of m1)) ?_
    refine wpU_one 9 rfl (by kernel_rfl) ?_
    go_wp2_with fail
    refine (specLitStr k oddPaths _ HM.out.cur rfl rfl rfl (by decide) (by decide) (fun x hx => by have := odd_paths hx; unfold maxLen; omega)).mono ?_
    rintro e w5 ⟨p, rfl, hp, mm7⟩
    have hps := odd_paths hp
    go_wp2_with fail
    refine HardPost.mk (mvf_of (MovF.of mm7)) ?_
    have hz5 := mm7.size
    refine wpU_one 11 rfl (by kernel_rfl) ?_
    go_wp2_with fail
    refine (specResp k _ mm7.cur).mono ?_
    rintro e w6 ⟨r, ra, rc, rfl, hfr, hrl, hm6⟩
    have mm6 := mm7.trans hm6
    go_wp2_with fail
    refine HardPost.mk (mvf_of (MovF.of mm6)) ?_
    refine wpU_group (fun _ _ _ _ _ h => h) (by kernel_rfl) (mvf_of (MovF.of mm6)) [12] _ _ _ rfl (by kernel_rfl) ?_
    repeat (go_big_quiet_step (fail))
    refine wpQuiet_nil ?_
    refine wpU_one 13 rfl (by kernel_rfl) ?_
    go_wp2_with fail
    refine HardPost.mk (mvf_of ((MovF.of mm6).below (belA belR))) ?_
    refine wpU_one 14 rfl (by kernel_rfl) ?_
    have hz6 := mm6.size
    refine wpList_pushNK _ rfl _ _ 83 83 rfl (w.heap.size + 1) K kb 88 i1 _ _ Try.underlying83 Try.underlying83 hi1 hz10 hz11 hz12 rfl (.slice a2 x.caches[0].entries.length c2) x.caches[0].entries rfl (HOwnD.out.movL mm6 (by omega)) (⟨⟨#[98, 97, 110, 107]⟩, p, r⟩ : DCached) _ _ _ rfl rfl (DCached.fmk (e := ⟨⟨#[98, 97, 110, 107]⟩, p, r⟩) (hfr.mono (by omega)) (by show 4 ≤ maxLen; decide) (by show p.size ≤ maxLen; unfold maxLen; omega)) (by have := hcl.1; omega) (by decide) (by omega) (by omega) (fun b hb => (HKb.out b hb).2) ?_
    intro ao2 cap2 w8 hO8 hg8
    go_wp2_with fail
    have mf7 : MovF k fi wd w8 := by
      have y := Chg.of_grown hg8
      rw [← HFI.out] at y
      exact ((MovF.of mm6).below (belA belR)).chg y (fun b hb => by have := (hnot.out b hb).2.1; omega)
    refine HardPost.mk (mvf_of mf7) ?_
    obtain ⟨es, hes⟩ : ∃ es, es = x.caches[0].entries ++ [(⟨⟨#[98, 97, 110, 107]⟩, p, r⟩ : DCached)] := ⟨_, rfl⟩
    have hel : es.length = x.caches[0].entries.length + 1 := by rw [hes]; simp
    have hesm : Hid (∀ e ∈ es, EntryLe e) := Lib.hid fun e he => by
      rw [hes] at he
      rcases List.mem_append.1 he with h | h
      · exact hcl.2 e h
      · simp at h; subst h; exact ⟨by show 4 ≤ 20; decide, hps, hrl⟩
    rw [← hes] at hO8
    have hkb8 : ∀ b ∈ K, w8.heap[b]? = wd.heap[b]? := fun b hb => mf7.1.block b (by have := HKb.out b hb; omega) (by
      have := HKb.out b hb
      simp only [List.mem_cons, not_or]
      exact ⟨by omega, fun hm => (hnot.out b hm).1 hb⟩)
    have c8 := (World.cell?_of_block (a := ⟨g, 1, none⟩) (hkb8 g hgK)).trans c1d
    have hfz8 : ∀ j, w8.frozen? ⟨g, j, none⟩ = false := fun j => (World.frozen?_of_block (a := ⟨g, j, none⟩) (hkb8 g hgK)).trans (hfzd j)
    have hput := HPut1.out (w8.setCell ⟨g, 0 * 2 + 1, none⟩ (.slice ao2 es.length cap2)) w8 ao2 cap2 es (by rw [hel]; exact hO8.set (.inl hgK))
      (fun b hb hne => ((Below.heap_setCell _ _ _ _ hne).trans (hkb8 b hb)).trans (HKd.out b hb)) ((hkb8 g hgK).trans (HKd.out g hgK)) rfl
    rw [hel] at hput
    obtain ⟨y, hy⟩ : ∃ y : DCacheSet, y = ⟨x.caches.set 0 ⟨x.caches[0].version, es⟩⟩ := ⟨_, rfl⟩
    have hyl : y.caches.length = x.caches.length := by rw [hy]; simp
    have HY : Hid (SetLe 8 8 y) := Lib.hid (by rw [hy]; exact (set_put HL.out hl0 (by have := hcl.1; omega) hesm.out).mono (by omega) (by omega))
    have HF7 : Hid (Fresh (Rep.slice 85 DCache.rep) (w.heap.size + 1) (w8.setCell ⟨g, 1, none⟩ (.slice ao2 (x.caches[0].entries.length + 1) cap2)) [.slice (some ⟨g, 0, none⟩) x.caches.length c] y.caches) := Lib.hid (by rw [hy]; exact hput)
    have HX7 := Lib.hid (HX.out.chg mf7.1 (by simp; exact ⟨by omega, hof⟩))
    have HT7 := Lib.hid (HT.out.chg mf7.1 (by simp; exact ⟨by omega, htf⟩))
    have HM7 := Lib.hid (mf7.low HM.out (fun b hb => by have := (hnot.out b hb).2.1; omega))
    refine wpU_one 15 rfl (by kernel_rfl) ?_
    go_wp2_with fail
    refine HardPost.mk (mvf_of mf7) ?_
    refine wpU_group (fun _ _ _ _ _ h => h) (by kernel_rfl) (mvf_of (mf7)) [16] _ _ _ rfl (by kernel_rfl) ?_
    repeat (go_big_quiet_step (fail))
    refine wpQuiet_nil ?_
    clear hO8 hg8 mf7 hy hput hes hkb8 HPut1 hesm
    refine wpU_tail [17] _ _ _ _ rfl (by kernel_rfl) ?_
    go_wp2_with fail
    refine NoPanic.normal ?_
    clear c8 hfz8 c1d hfzd
    go_upto_region 13 with fail
    refine settle (fun W => (∃ (y : DCacheSet) (a : Option Addr) (c : Nat), SetLe 8 8 y ∧ WB W kb #[.slice a y.caches.length c] ∧ Fresh (Rep.slice 85 DCache.rep) (w.heap.size + 1) W [.slice a y.caches.length c] y.caches) ∧ WB W w.heap.size #[.slice none 0 0] ∧ Mov k w W) ⟨⟨y, some ⟨g, 0, none⟩, c, HY.out, by rw [hyl]; exact HX7.out.setOther (by omega), by rw [hyl]; exact HF7.out⟩, HT7.out.setOther (by omega), HM7.out.low (B := w.heap.size) (by repeat (first | with_reducible exact belR | (with_reducible refine belAB ?_ ?_; focus (first | omega | (simp; done) | (simp; omega))) | (with_reducible refine belS ?_ ?_; focus (first | omega | (simp; done) | (simp; omega))) | with_reducible apply belN | with_reducible apply belD | with_reducible assumption)) (Nat.le_refl _) hk⟩ ?_
    clear HX7 HT7 HM7 HF7 hyl hnot HFI mm7 mm6 hm6 hfr hz6 hne m1 HKb HKd HOwnD
  case' false.false.false =>
    go_upto_region 13 with fail
    refine settle (fun W => (∃ (y : DCacheSet) (a : Option Addr) (c : Nat), SetLe 8 8 y ∧ WB W kb #[.slice a y.caches.length c] ∧ Fresh (Rep.slice 85 DCache.rep) (w.heap.size + 1) W [.slice a y.caches.length c] y.caches) ∧ WB W w.heap.size #[.slice none 0 0] ∧ Mov k w W) ⟨⟨x, a, c, HL.out.mono (by omega) (by omega), HX.out, HF.out.fresh (Nat.le_refl _)⟩, HT.out, HM.out⟩ ?_
  case' false.false.true =>
    have HF1 := Lib.hid HF.out.ownsLt.owns
    clear HF
    go_wp2
    go_loopw [4] (fun i wr => ∃ (n : Int) (y : DCacheSet) (a : Option Addr) (c : Nat), i = .int .i64 n ∧ (1 ≤ n ∧ n ≤ 5 ∧ SetLe (2 + n.toNat) 8 y) ∧ WB wr kb #[.slice a y.caches.length c] ∧ WB wr w.heap.size #[.slice none 0 0] ∧ Owns (Rep.slice 85 DCache.rep) (w.heap.size + 1) [kb] wr [.slice a y.caches.length c] y.caches ∧ Mov k w wr) (fun i _ => (5 - intOf i).toNat)
    case atStart => exact ⟨1, x, a, c, rfl, ⟨by omega, by omega, HL.out.mono (by omega) (by omega)⟩, HX.out, HT.out, HF1.out, HM.out⟩
    case round =>
      clear HX HT HM HF1
      obtain ⟨n, y, a, c, rfl, ⟨hn1, hn5, hr⟩, hx, ht, hf, hm⟩ := hrel
      have HR := Lib.hid hr
      have HX := Lib.hid hx
      have HT := Lib.hid ht
      have HF := Lib.hid hf
      have HM := Lib.hid hm
      clear hx ht hf hm hr
      have hzr := HX.out.lt
      by_cases hlt : n ≤ 4
      · have ⟨c_HX, z_HX, f_HX⟩ := HX.out
        go_wp2_with fail
        refine (specOpenCache _ y _ _ HF.out.reads _ _ HR.out (by omega) (by omega)).mono ?_
        rintro e w5 ⟨z, b, a5, c5, rfl, hg, hle, hb5⟩
        clear c_HX z_HX f_HX
        have hz5 := hb5.size
        replace HX := Lib.hid (HX.out.keep hb5)
        replace HT := Lib.hid (HT.out.keep hb5)
        replace HM := Lib.hid (HM.out.below hb5)
        have HG := Lib.hid hg
        clear hg hb5
        have ⟨c_HX, z_HX, f_HX⟩ := HX.out
        go_wp2
        go_light
        exact ⟨⟨n + 1, z, a5, c5, by go_num, ⟨by omega, by omega, hle.mono (by omega) (by omega)⟩, HX.out.setAt (i := 0) (by simp) rfl, HT.out.setOther (by omega), (Owns.of (K := [kb]) HG.out (by omega) (by intro b hb; simp at hb; omega)).set (.inl (by simp)), HM.out.low (B := w.heap.size) (by repeat (first | with_reducible exact belR | (with_reducible refine belAB ?_ ?_; focus (first | omega | (simp; done) | (simp; omega))) | (with_reducible refine belS ?_ ?_; focus (first | omega | (simp; done) | (simp; omega))) | with_reducible apply belN | with_reducible apply belD | with_reducible assumption)) (Nat.le_refl _) hk⟩, by simp [intOf]; omega⟩
      · have ⟨c_HX, z_HX, f_HX⟩ := HX.out
        have ⟨c_HT, z_HT, f_HT⟩ := HT.out
        go_wp2
        exact bodyPost_ret (v := .agg #[.slice a y.caches.length c]) (by simp [results, Try.results38, go_sem, c_HT]) rfl ⟨y, _, _, rfl, (Fresh.mono (B := (w.heap.size + 1)) (by repeat (first | with_reducible exact HF.out.fresh | with_reducible refine Fresh.setLow ?_ (by omega) | with_reducible refine Fresh.drew ?_)) (by omega)), HR.out.mono (by omega) (by omega), HM.out.low (B := w.heap.size) (by repeat (first | with_reducible exact belR | (with_reducible refine belAB ?_ ?_; focus (first | omega | (simp; done) | (simp; omega))) | (with_reducible refine belS ?_ ?_; focus (first | omega | (simp; done) | (simp; omega))) | with_reducible apply belN | with_reducible apply belD | with_reducible assumption)) (Nat.le_refl _) hk⟩
  all_goals
    clear HX HT HM HF HL
    rintro w9 ⟨⟨y, a, c, hl, hx, hf⟩, ht, hm⟩
    have HX := Lib.hid hx
    have HT := Lib.hid ht
    have HF := Lib.hid hf
    have HM := Lib.hid hm
    clear hx ht hf hm
    have ⟨c_HX, z_HX, f_HX⟩ := HX.out
    have ⟨c_HT, z_HT, f_HT⟩ := HT.out
    go_wp2
    exact bodyPost_ret (v := .agg #[.slice a y.caches.length c]) (by simp [results, Try.results38, go_sem, c_HT]) rfl ⟨y, _, _, rfl, (Fresh.mono (B := (w.heap.size + 1)) (by repeat (first | with_reducible exact HF.out | with_reducible refine Fresh.setLow ?_ (by omega) | with_reducible refine Fresh.drew ?_)) (by omega)), hl, HM.out.low (B := w.heap.size) (by repeat (first | with_reducible exact belR | (with_reducible refine belAB ?_ ?_; focus (first | omega | (simp; done) | (simp; omega))) | (with_reducible refine belS ?_ ?_; focus (first | omega | (simp; done) | (simp; omega))) | with_reducible apply belN | with_reducible apply belD | with_reducible assumption)) (Nat.le_refl _) hk⟩

end Go.Proofs.Yteajhmpppciicaa
