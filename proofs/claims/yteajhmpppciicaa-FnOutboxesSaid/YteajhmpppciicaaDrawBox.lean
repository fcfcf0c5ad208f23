/-
  The draws of outboxes: what is drawn is small, numbered low.
-/
import Derived.Test.YteajhmpppciicaaOutDraw2
import Derived.Test.YteajhmpppciicaaOutLaw
import Derived.Test.YteajhmpppciicaaMv
namespace Go.Proofs.Yteajhmpppciicaa
open Go.RowKit

theorem enqueue_next (x : DOutbox) (k : DKey) (f : ByteArray) (n : Int) (h : x.next ≤ 1000000) (h0 : 0 ≤ x.next) : (enqueueF x k f n).next ≤ x.next + 1 ∧ 0 ≤ (enqueueF x k f n).next := by
  unfold enqueueF
  split
  · show wrap64 (x.next + 1) ≤ _ ∧ 0 ≤ wrap64 (x.next + 1)
    rw [Go.IntWalk.wrap64_in _ (by omega)]
    omega
  · omega
theorem ack_next (x : DOutbox) (n : Int) : (ackWritesF x n).next = x.next := by
  unfold ackWritesF ackOut
  split <;> rfl
theorem new_next (d : Int) : 0 ≤ (newOutboxF d).next ∧ (newOutboxF d).next ≤ 1 := by
  unfold newOutboxF
  split
  · show 0 ≤ (1 : Int) ∧ (1 : Int) ≤ 1; decide
  · show 0 ≤ (0 : Int) ∧ (0 : Int) ≤ 1; decide

set_option maxRecDepth 100000 in
set_option maxHeartbeats 1600000 in
theorem specKeyV (k : Kur) (w : World) (h : Cur w k) : Calls Try.prog 53 #[.pointer (some ⟨k.k, 0, none⟩)] w fun e w' => ∃ b : Int, e = .returned (.agg #[.int .i64 1, .int .i64 b, .string ⟨#[]⟩]) ∧ 0 ≤ b ∧ b < 6 ∧ Mov k w w' := by
  have hk := h.lt
  go_enter Try.func53, Try.ntmps53
  go_wp2_with fail
  refine (specBelow k _ _ (h.below (by repeat (first | with_reducible exact belR | with_reducible apply belA | (with_reducible refine belS ?_ ?_; focus (first | omega | (simp; done) | (simp; omega))) | with_reducible apply belN | with_reducible apply belD | with_reducible assumption)))).mono ?_
  rintro e w1 ⟨b, rfl, h0, h6, hm⟩
  have HT : Hid (WB w1 w.heap.size #[.int .i64 0, .int .i64 0, .string ⟨#[]⟩]) := Lib.hid ((WB.at rfl).mov hm (by omega))
  have HM : Hid (Mov k w w1) := Lib.hid (Mov.belowL (by repeat (first | with_reducible exact belR | with_reducible apply belA | (with_reducible refine belS ?_ ?_; focus (first | omega | (simp; done) | (simp; omega))) | with_reducible apply belN | with_reducible apply belD | with_reducible assumption)) hm)
  clear hm
  have ⟨c_HT, z_HT, f_HT⟩ := HT.out
  go_wp2
  refine bodyPost_ret (v := .agg #[.int .i64 1, .int .i64 b, .string ⟨#[]⟩]) (by simp [results, Try.results53, go_sem, c_HT]) rfl ⟨b, rfl, h0, h6 (by decide), HM.out.low (B := w.heap.size) (by repeat (first | with_reducible exact belR | (with_reducible refine belAB ?_ ?_; focus (first | omega | (simp; done) | (simp; omega))) | (with_reducible refine belS ?_ ?_; focus (first | omega | (simp; done) | (simp; omega))) | with_reducible apply belN | with_reducible apply belD | with_reducible assumption)) (Nat.le_refl _) hk⟩

set_option maxRecDepth 100000 in
set_option maxHeartbeats 3200000 in
theorem specBox (k : Kur) (d : Int) (w : World) (h : Cur w k) : Calls Try.prog 50 #[.pointer (some ⟨k.k, 0, none⟩), .int .i64 d] w fun e w' => ∃ (ds : List Value) (x : DOutbox), e = .returned (.agg ds.toArray) ∧ Fresh DOutbox.rep w.heap.size w' ds x ∧ (x.writes.length ≤ 12 ∧ 0 ≤ x.next ∧ x.next ≤ 7) ∧ Mov k w w' := by
  have hk := h.lt
  have HRK : Hid (∀ (W : World) (y : DKey), y.text.size ≤ 20 → Reads DKey.rep W [.int .i64 y.kind, .int .i64 y.n, .string y.text] y) := Lib.hid fun W y hy => ⟨[], DKey.rd.2 ⟨rfl, rfl, by unfold maxLen; omega⟩⟩
  go_enter Try.func50, Try.ntmps50
  go_wp2_with fail
  refine (specNewOutbox d _).mono ?_
  rintro e w1 ⟨ds, rfl, hf, hb⟩
  obtain ⟨a1, c1, rfl, hg⟩ := DOutbox.fopen hf
  clear hf
  have HT : Hid (WB w1 w.heap.size #[.int .i64 0, .int .i64 0, .slice none 0 0]) := Lib.hid ((WB.at rfl).keep hb)
  have HM : Hid (Mov k w w1) := Lib.hid (Mov.below (Mov.refl h) (below_call (by repeat (first | with_reducible exact belR | with_reducible apply belA | (with_reducible refine belS ?_ ?_; focus (first | omega | (simp; done) | (simp; omega))) | with_reducible apply belN | with_reducible apply belD | with_reducible assumption)) (by first | omega | (simp; done) | (simp; omega)) hb))
  have hz1 := HT.out.lt
  have hl : (newOutboxF d).writes.length ≤ 0 := by unfold newOutboxF; split <;> exact Nat.le_refl _
  have hnx := new_next d
  obtain ⟨x, hx⟩ : ∃ x, newOutboxF d = x := ⟨_, rfl⟩
  rw [hx] at hg hl hnx
  rw [hx]
  have HF : Hid (Fresh (Rep.slice 35 DWrite.rep) (w.heap.size + 1) w1 [.slice a1 x.writes.length c1] x.writes) := Lib.hid (hg.mono (by simp))
  have hl6 : x.writes.length ≤ 6 := by omega
  clear hx hg hb hl
  go_upto_region 2 with fail
  refine settle (fun W => ∃ kb, kb = w1.heap.size ∧ WB W kb #[.int .i64 x.device, .int .i64 x.next, .slice a1 x.writes.length c1] ∧ WB W w.heap.size #[.int .i64 0, .int .i64 0, .slice none 0 0] ∧ Fresh (Rep.slice 35 DWrite.rep) (w.heap.size + 1) W [.slice a1 x.writes.length c1] x.writes ∧ Mov k w W) ⟨_, rfl, WB.at rfl, HT.out.growA, HF.out.below (belA belR), HM.out.below (by repeat (first | with_reducible exact belR | with_reducible apply belA | (with_reducible refine belS ?_ ?_; focus (first | omega | (simp; done) | (simp; omega))) | with_reducible apply belN | with_reducible apply belD | with_reducible assumption))⟩ ?_
  clear HT HF HM
  rintro w2 ⟨kb, hkb, hx, ht, hf, hm⟩
  have hkk : w.heap.size < kb ∧ k.k < kb := by omega
  rw [← hkb]
  have HX := Lib.hid hx
  have HT := Lib.hid ht
  have HF := Lib.hid hf
  have HM := Lib.hid hm
  clear hx ht hf hm hkb
  have ⟨c_HX, z_HX, f_HX⟩ := HX.out
  have ⟨c_HT, z_HT, f_HT⟩ := HT.out
  go_wp2_with fail
  refine (specLitInt k [0, 2, 4, 6] _ HM.out.2 rfl rfl rfl (by decide) (by decide)).mono ?_
  rintro e w3 ⟨i, rfl, hi, hm⟩
  have hi6 := four_mem hi
  clear hi
  clear c_HX z_HX f_HX c_HT z_HT f_HT
  have hkz := HX.out.lt
  replace HX := Lib.hid (HX.out.mov hm (by omega))
  replace HT := Lib.hid (HT.out.mov hm (by omega))
  replace HF := Lib.hid (HF.out.mov hm (by omega))
  replace HM := Lib.hid (HM.out.trans hm)
  clear hm hz1
  go_wp2
  go_loopw [7] (fun i wr => ∃ (n : Int) (x : DOutbox) (a1 : Option Addr) (c1 : Nat), i = .int .i64 n ∧ (0 ≤ n ∧ n ≤ 6 ∧ x.writes.length + n.toNat ≤ 12 ∧ 0 ≤ x.next ∧ x.next + n ≤ 7) ∧ WB wr kb #[.int .i64 x.device, .int .i64 x.next, .slice a1 x.writes.length c1] ∧ WB wr w.heap.size #[.int .i64 0, .int .i64 0, .slice none 0 0] ∧ Fresh (Rep.slice 35 DWrite.rep) (w.heap.size + 1) wr [.slice a1 x.writes.length c1] x.writes ∧ Mov k w wr) (fun i _ => (intOf i).toNat)
  case atStart => exact ⟨i, x, a1, c1, rfl, ⟨by omega, by omega, by omega, by omega, by omega⟩, HX.out, HT.out, HF.out, HM.out⟩
  case round =>
    clear HX HT HF HM hl6 hi6 hnx
    obtain ⟨n, x, a1, c1, rfl, hn, hx, ht, hf, hm⟩ := hrel
    have HN := Lib.hid hn
    have HT := Lib.hid ht
    have HF := Lib.hid hf
    have HM := Lib.hid hm
    have HX := Lib.hid hx
    clear hx ht hf hm hn
    have hzr := HX.out.lt
    by_cases hlt : 0 < n
    · go_upto_region 5 with fail
      refine wp_region_mv k [10,11] (by kernel_rfl) ?_
      intro wd hbd
      have hwz := hbd.size
      replace HX := Lib.hid (HX.out.keep hbd)
      replace HT := Lib.hid (HT.out.keep hbd)
      replace HF := Lib.hid (HF.out.below hbd)
      replace HM := Lib.hid (HM.out.below hbd)
      clear hbd
      have hne : Nonempty (Moved k wd) := ⟨⟨wd, Mov.refl HM.out.cur⟩⟩
      have K_HX := mv_var (k := k) HX.out (by omega)
      refine wpU_group (fun _ _ _ _ _ h => h) (by kernel_rfl) (mv_of (Mov.refl HM.out.cur)) [0,1,3,5] _ _ _ rfl (by kernel_rfl) ?_
      repeat (go_big_quiet_step (fail))
      refine wpQuiet_nil ?_
      clear K_HX
      refine wpU_one 2 rfl (by kernel_rfl) ?_
      go_wp2_with fail
      refine (specSmallKey k _ HM.out.cur).mono ?_
      rintro e w2 ⟨y, rfl, hy, hm⟩
      go_wp2_with fail
      refine HardPost.mk (mv_of (hm)) ?_
      have HX2 := Lib.hid (HX.out.mov hm (by omega))
      have HT2 := Lib.hid (HT.out.mov hm (by omega))
      refine wpU_one 4 rfl (by kernel_rfl) ?_
      go_wp2_with fail
      refine (specName k _ hm.cur).mono ?_
      rintro e w3 ⟨f, rfl, hf3, hm3⟩
      have mm3 := hm.trans hm3
      go_wp2_with fail
      refine HardPost.mk (mv_of (mm3)) ?_
      refine wpU_one 6 rfl (by kernel_rfl) ?_
      go_wp2_with fail
      refine (specBelow k _ _ mm3.cur).mono ?_
      rintro e w4 ⟨m, rfl, _, _, hm4⟩
      have mm4 := mm3.trans hm4
      go_wp2_with fail
      refine HardPost.mk (mv_of (mm4)) ?_
      have hz4 := mm4.size
      refine wpU_one 7 rfl (by kernel_rfl) ?_
      go_wp2_with fail
      refine (specEnqueueWrite _ _ x y f m _ ((DOutbox.fmk (HF.out.mov mm4 (by omega))).reads) (HRK.out _ y hy) (by have := HN.out; omega) (by unfold maxLen; omega)).mono ?_
      rintro e w5 ⟨ds, rfl, hf5, hb5⟩
      obtain ⟨a5, c5, rfl, hg5⟩ := DOutbox.fopen hf5
      have mm5 := mm4.below hb5
      go_wp2_with fail
      refine HardPost.mk (mv_of (mm5)) ?_
      refine wpU_group (fun _ _ _ _ _ h => h) (by kernel_rfl) (mv_of (mm5)) [8,9,10] _ _ _ rfl (by kernel_rfl) ?_
      repeat (go_big_quiet_step (fail))
      refine wpQuiet_nil ?_
      replace HX := Lib.hid (HX.out.mov mm5 (by omega))
      have ⟨c_HX, z_HX, f_HX⟩ := HX.out
      refine wpU_tail [11] _ _ _ _ rfl (by kernel_rfl) ?_
      go_wp2_with fail
      refine NoPanic.normal ?_
      have hen := enqueue_len x y f m
      have hnx := enqueue_next x y f m (by have := HN.out; omega) HN.out.2.2.2.1
      have hn' := HN.out
      go_wp2_with fail
      go_light
      exact ⟨⟨n - 1, enqueueF x y f m, a5, c5, by go_num, ⟨by omega, by omega, by omega, by omega, by omega⟩, HX.out.set3, (((HT.out.mov mm5 (by omega)).setOther (by omega)).setOther (by omega)).setOther (by omega), Fresh.mono (B := w4.heap.size) (by repeat (first | with_reducible exact hg5 | with_reducible refine Fresh.setLow ?_ (by omega))) (by omega), (HM.out.trans mm5).low (B := w.heap.size) (by repeat (first | with_reducible exact belR | (with_reducible refine belAB ?_ ?_; focus (first | omega | (simp; done) | (simp; omega))) | (with_reducible refine belS ?_ ?_; focus (first | omega | (simp; done) | (simp; omega))) | with_reducible apply belN | with_reducible apply belD | with_reducible assumption)) (Nat.le_refl _) hk⟩, by simp [intOf]; omega⟩
    · have hl12 : x.writes.length ≤ 12 ∧ 0 ≤ x.next ∧ x.next ≤ 7 := by have := HN.out; omega
      clear HN
      go_wp2_with fail
      refine (specOnce k _ _ HM.out.cur).mono ?_
      rintro e w2 ⟨b, rfl, hm⟩
      replace HX := Lib.hid (HX.out.mov hm (by omega))
      replace HT := Lib.hid (HT.out.mov hm (by omega))
      replace HF := Lib.hid (HF.out.mov hm (by omega))
      replace HM := Lib.hid (HM.out.trans hm)
      clear hm
      have hzr2 := HX.out.lt
      cases b
      · have ⟨c_HX, z_HX, f_HX⟩ := HX.out
        have ⟨c_HT, z_HT, f_HT⟩ := HT.out
        go_wp2
        exact bodyPost_ret (v := .agg #[.int .i64 x.device, .int .i64 x.next, .slice a1 x.writes.length c1]) (by simp [results, Try.results50, go_sem, c_HT]) rfl ⟨_, x, rfl, DOutbox.fmk (Fresh.mono (B := w.heap.size + 1) (by repeat (first | with_reducible exact HF.out | with_reducible refine Fresh.setLow ?_ (by omega))) (by omega)), hl12, HM.out.low (B := w.heap.size) (by repeat (first | with_reducible exact belR | (with_reducible refine belAB ?_ ?_; focus (first | omega | (simp; done) | (simp; omega))) | (with_reducible refine belS ?_ ?_; focus (first | omega | (simp; done) | (simp; omega))) | with_reducible apply belN | with_reducible apply belD | with_reducible assumption)) (Nat.le_refl _) hk⟩
      · go_upto_region 7 with fail
        refine wp_region_mv k [6,7] (by kernel_rfl) ?_
        intro wd hbd
        have hwz := hbd.size
        replace HX := Lib.hid (HX.out.keep hbd)
        replace HT := Lib.hid (HT.out.keep hbd)
        replace HF := Lib.hid (HF.out.below hbd)
        replace HM := Lib.hid (HM.out.below hbd)
        clear hbd
        have hne : Nonempty (Moved k wd) := ⟨⟨wd, Mov.refl HM.out.cur⟩⟩
        have K_HX := mv_var (k := k) HX.out (by omega)
        refine wpU_group (fun _ _ _ _ _ h => h) (by kernel_rfl) (mv_of (Mov.refl HM.out.cur)) [0,1] _ _ _ rfl (by kernel_rfl) ?_
        repeat (go_big_quiet_step (fail))
        refine wpQuiet_nil ?_
        clear K_HX
        refine wpU_one 2 rfl (by kernel_rfl) ?_
        go_wp2_with fail
        refine (specBelow k _ _ HM.out.cur).mono ?_
        rintro e w3 ⟨m, rfl, _, _, hm⟩
        go_wp2_with fail
        refine HardPost.mk (mv_of (hm)) ?_
        have hz3 := hm.size
        refine wpU_one 3 rfl (by kernel_rfl) ?_
        go_wp2_with fail
        refine (specAckWrites _ x m _ ((DOutbox.fmk (HF.out.mov hm (by omega))).reads) (by omega)).mono ?_
        rintro e w4 ⟨ds, rfl, hf4, hb4⟩
        obtain ⟨a4, c4, rfl, hg4⟩ := DOutbox.fopen hf4
        have mm4 := hm.below hb4
        go_wp2_with fail
        refine HardPost.mk (mv_of (mm4)) ?_
        refine wpU_group (fun _ _ _ _ _ h => h) (by kernel_rfl) (mv_of (mm4)) [4,5,6] _ _ _ rfl (by kernel_rfl) ?_
        repeat (go_big_quiet_step (fail))
        refine wpQuiet_nil ?_
        replace HX := Lib.hid (HX.out.mov mm4 (by omega))
        have ⟨c_HX, z_HX, f_HX⟩ := HX.out
        refine wpU_tail [7] _ _ _ _ rfl (by kernel_rfl) ?_
        go_wp2_with fail
        refine NoPanic.normal ?_
        have hal := ack_len x m
        have han := ack_next x m
        obtain ⟨y, hy⟩ : ∃ y, ackWritesF x m = y := ⟨_, rfl⟩
        rw [hy] at hg4 hal han ⊢
        have hl12 : y.writes.length ≤ 12 ∧ 0 ≤ y.next ∧ y.next ≤ 7 := by omega
        clear hy hal han
        go_upto_region 8 with fail
        refine settle (fun W => WB W kb #[.int .i64 y.device, .int .i64 y.next, .slice a4 y.writes.length c4] ∧ WB W w.heap.size #[.int .i64 0, .int .i64 0, .slice none 0 0] ∧ Fresh (Rep.slice 35 DWrite.rep) (w.heap.size + 1) W [.slice a4 y.writes.length c4] y.writes ∧ Mov k w W) ⟨HX.out.set3, (((HT.out.mov mm4 (by omega)).setOther (by omega)).setOther (by omega)).setOther (by omega), Fresh.mono (B := w3.heap.size) (by repeat (first | with_reducible exact hg4 | with_reducible refine Fresh.setLow ?_ (by omega))) (by omega), (HM.out.trans mm4).low (B := w.heap.size) (by repeat (first | with_reducible exact belR | (with_reducible refine belAB ?_ ?_; focus (first | omega | (simp; done) | (simp; omega))) | (with_reducible refine belS ?_ ?_; focus (first | omega | (simp; done) | (simp; omega))) | with_reducible apply belN | with_reducible apply belD | with_reducible assumption)) (Nat.le_refl _) hk⟩ ?_
        clear c_HX z_HX f_HX
        clear HX HT HF HM hg4 hm mm4 hb4 hz3
        rintro w5 ⟨hx, ht, hf, hm⟩
        have HX := Lib.hid hx
        have HT := Lib.hid ht
        have HF := Lib.hid hf
        have HM := Lib.hid hm
        clear hx ht hf hm
        have hkz5 := HX.out.lt
        have ⟨c_HX, z_HX, f_HX⟩ := HX.out
        have ⟨c_HT, z_HT, f_HT⟩ := HT.out
        go_wp2
        exact bodyPost_ret (v := .agg #[.int .i64 y.device, .int .i64 y.next, .slice a4 y.writes.length c4]) (by simp [results, Try.results50, go_sem, c_HT]) rfl ⟨_, y, rfl, DOutbox.fmk (Fresh.mono (B := w.heap.size + 1) (by repeat (first | with_reducible exact HF.out | with_reducible refine Fresh.setLow ?_ (by omega))) (by omega)), hl12, HM.out.low (B := w.heap.size) (by repeat (first | with_reducible exact belR | (with_reducible refine belAB ?_ ?_; focus (first | omega | (simp; done) | (simp; omega))) | (with_reducible refine belS ?_ ?_; focus (first | omega | (simp; done) | (simp; omega))) | with_reducible apply belN | with_reducible apply belD | with_reducible assumption)) (Nat.le_refl _) hk⟩

end Go.Proofs.Yteajhmpppciicaa
