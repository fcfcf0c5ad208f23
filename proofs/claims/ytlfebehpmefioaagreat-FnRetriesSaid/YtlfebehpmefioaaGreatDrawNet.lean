/-
  The draws of a synchronization and a server that fit together, of fates.
-/
import Derived.Test.YtlfebehpmefioaaGreatDrawFam
import Derived.Test.YtlfebehpmefioaaGreatSyncPair
namespace Go.Proofs.YtlfebehpmefioaaGreat
open Go.RowKit

theorem isNotes_notes : isNotes ⟨#[110, 111, 116, 101, 115]⟩ = true := by
  unfold isNotes ByteArray.toList
  unfold ByteArray.toList.loop ByteArray.toList.loop ByteArray.toList.loop ByteArray.toList.loop ByteArray.toList.loop ByteArray.toList.loop
  rfl

set_option maxRecDepth 100000 in
set_option maxHeartbeats 6400000 in
theorem specPair (k : Kur) (w : World) (h : Cur w k) : Calls Tryz.prog 62 #[.pointer (some ⟨k.k, 0, none⟩)] w fun e w' => ∃ ds dv : List Value, e = .returned (.tuple #[.agg ds.toArray, .agg dv.toArray]) ∧ ∃ (y : DSync) (s : DServer), Fresh DSync.rep w.heap.size w' ds y ∧ Fresh DServer.rep w.heap.size w' dv s ∧ PairOk 1000 y s ∧ Mov k w w' := by
  have hk := h.lt
  have HRK : Hid (∀ (W : World) (y : DKey), y.text.size ≤ 20 → Reads DKey.rep W [.int .i64 y.kind, .int .i64 y.n, .string y.text] y) := Lib.hid fun W y hy => ⟨[], DKey.rd.2 ⟨rfl, rfl, by unfold maxLen; omega⟩⟩
  go_enter Tryz.func62, Tryz.ntmps62
  go_wp2_with fail
  refine (specDrawStore k _ (h.below (by repeat (first | with_reducible exact belR | with_reducible apply belA | (with_reducible refine belS ?_ ?_; focus (first | omega | (simp; done) | (simp; omega))) | with_reducible apply belN | with_reducible apply belD | with_reducible assumption)))).mono ?_
  rintro e w1 ⟨ds, rfl, s0, hf, hs, hm⟩
  obtain ⟨a1, c1, rfl⟩ := DStore.fsh hf
  have HT : Hid (WB w1 w.heap.size #[.int .i64 0, .int .i64 0, .slice none 0 0, .int .i64 0, .int .i64 0]) := Lib.hid (((WB.at rfl).growA).mov hm (by omega))
  have HU : Hid (WB w1 (w.heap.size + 1) #[.string ⟨#[]⟩, .slice none 0 0, .int .i64 0, .slice none 0 0, .slice none 0 0]) := Lib.hid ((WB.at (by simp)).mov hm (by omega))
  have HM : Hid (Mov k w w1) := Lib.hid (Mov.belowL (by repeat (first | with_reducible exact belR | with_reducible apply belA | (with_reducible refine belS ?_ ?_; focus (first | omega | (simp; done) | (simp; omega))) | with_reducible apply belN | with_reducible apply belD | with_reducible assumption)) hm)
  have hz1 := HU.out.lt
  have HS := Lib.hid hs
  have HF := Lib.hid (hf.mono (B' := w.heap.size + 2) (by simp))
  clear hm hf hs
  go_upto_region 2 with fail
  refine settle (fun W => ∃ ks, ks = w1.heap.size ∧ WB W ks #[.string s0.name, .slice a1 s0.items.length c1, .int .i64 s0.auto, .slice none 0 0, .slice none 0 0] ∧ WB W w.heap.size #[.int .i64 0, .int .i64 0, .slice none 0 0, .int .i64 0, .int .i64 0] ∧ WB W (w.heap.size + 1) #[.string ⟨#[]⟩, .slice none 0 0, .int .i64 0, .slice none 0 0, .slice none 0 0] ∧ Owns DServer.rep (w.heap.size + 2) [k.k, ks] W [.string s0.name, .slice a1 s0.items.length c1, .int .i64 s0.auto, .slice none 0 0, .slice none 0 0] ⟨s0, [], []⟩ ∧ Mov k w W) ⟨_, rfl, WB.at rfl, HT.out.growA, HU.out.growA, Owns.server ((Owns.of HF.out (Nat.le_refl _) (by intro b hb; simp at hb; rcases hb with rfl | rfl; exact .inl (by omega); exact .inr (Nat.le_refl _))).below (belA belR)), HM.out.below (by repeat (first | with_reducible exact belR | with_reducible apply belA | (with_reducible refine belS ?_ ?_; focus (first | omega | (simp; done) | (simp; omega))) | with_reducible apply belN | with_reducible apply belD | with_reducible assumption))⟩ ?_
  clear HT HU HF HM
  rintro w2 ⟨ks, hks, hx, ht, hu, hf, hm⟩
  have hkk : w.heap.size + 1 < ks ∧ k.k < w.heap.size := by omega
  rw [← hks]
  have HX := Lib.hid hx
  have HT := Lib.hid ht
  have HU := Lib.hid hu
  have HF := Lib.hid hf
  have HM := Lib.hid hm
  clear hx ht hu hf hm hks hz1
  obtain ⟨S, hS⟩ : ∃ S : DServer, S = ⟨s0, [], []⟩ := ⟨_, rfl⟩
  have HX' : Hid (WB w2 ks #[.string S.store.name, .slice a1 S.store.items.length c1, .int .i64 S.store.auto, .slice none S.applied.length 0, .slice none S.changes.length 0]) := Lib.hid (by rw [hS]; exact HX.out)
  have HF' : Hid (Owns DServer.rep (w.heap.size + 2) [k.k, ks] w2 [.string S.store.name, .slice a1 S.store.items.length c1, .int .i64 S.store.auto, .slice none S.applied.length 0, .slice none S.changes.length 0] S) := Lib.hid (by rw [hS]; exact HF.out)
  have HSv : Hid (isStoreF s0 = true ∧ isNotes s0.name = true) := Lib.hid ⟨HS.out.store, by rw [HS.out.name]; exact isNotes_notes⟩
  have HN0 : Hid (∀ d : Int, 1 ≤ d ∧ d ≤ 1000000 → Net (newOutboxF d) S) := Lib.hid fun d hd => by rw [hS]; exact Net.start HSv.out.1 HSv.out.2 hd
  have HC0 : Hid (S.changes.length ≤ 0) := Lib.hid (by rw [hS]; exact Nat.le_refl _)
  clear HX HF HS HSv hS
  go_wp2_with fail
  refine (specBelow k _ _ HM.out.cur).mono ?_
  rintro e w3 ⟨d, rfl, hd0, hd3, hm⟩
  have hd := hd3 (by decide)
  have hkz := HX'.out.lt
  replace HX' := Lib.hid (HX'.out.mov hm (by omega))
  replace HT := Lib.hid (HT.out.mov hm (by omega))
  replace HU := Lib.hid (HU.out.mov hm (by omega))
  replace HF' := Lib.hid (HF'.out.mov hm (by simp))
  replace HM := Lib.hid (HM.out.trans hm)
  clear hm hd3
  go_wp2_with fail
  refine (specNewOutbox (1 + d) _).mono ?_
  rintro e w4 ⟨ds, rfl, hg, hb⟩
  have HN := Lib.hid (HN0.out (1 + d) (by omega))
  obtain ⟨o, ho⟩ : ∃ o, newOutboxF (1 + d) = o := ⟨_, rfl⟩
  rw [ho] at hg HN
  clear ho HN0
  obtain ⟨a, c, rfl⟩ := DOutbox.fsh hg
  have hkz3 := HX'.out.lt
  replace HX' := Lib.hid (HX'.out.keep hb)
  replace HT := Lib.hid (HT.out.keep hb)
  replace HU := Lib.hid (HU.out.keep hb)
  replace HF' := Lib.hid (HF'.out.below hb)
  have hkz4 := HX'.out.lt
  have HG := Lib.hid (hg.mono (B' := w.heap.size + 2) (by omega))
  have HG2 : Hid (∀ ko, w4.heap.size ≤ ko → Owns DOutbox.rep (w.heap.size + 2) [k.k, ks, ko] w4 [.int .i64 o.device, .int .i64 o.next, .slice a o.writes.length c] o) := Lib.hid fun ko hko => Owns.of hg (by omega) (by intro b hb; simp at hb; rcases hb with rfl | rfl | rfl; exact .inl (by omega); exact .inl (by omega); exact .inr hko)
  replace HM := Lib.hid (HM.out.below hb)
  clear hg hb
  go_upto_region 3 with fail
  refine settle (fun W => ∃ ko, ko = w4.heap.size ∧ WB W ko #[.int .i64 o.device, .int .i64 o.next, .slice a o.writes.length c] ∧ WB W ks #[.string S.store.name, .slice a1 S.store.items.length c1, .int .i64 S.store.auto, .slice none S.applied.length 0, .slice none S.changes.length 0] ∧ WB W w.heap.size #[.int .i64 0, .int .i64 0, .slice none 0 0, .int .i64 0, .int .i64 0] ∧ WB W (w.heap.size + 1) #[.string ⟨#[]⟩, .slice none 0 0, .int .i64 0, .slice none 0 0, .slice none 0 0] ∧ Owns DServer.rep (w.heap.size + 2) [k.k, ks, ko] W [.string S.store.name, .slice a1 S.store.items.length c1, .int .i64 S.store.auto, .slice none S.applied.length 0, .slice none S.changes.length 0] S ∧ Owns DOutbox.rep (w.heap.size + 2) [k.k, ks, ko] W [.int .i64 o.device, .int .i64 o.next, .slice a o.writes.length c] o ∧ Mov k w W) ⟨_, rfl, WB.at rfl, HX'.out.growA, HT.out.growA, HU.out.growA, (HF'.out.more (by intro b hb; simp at hb; rcases hb with rfl | rfl | rfl; exact .inl (by simp); exact .inl (by simp); exact .inr (.inr (Nat.le_refl _)))).below (belA belR), (HG2.out _ (Nat.le_refl _)).below (belA belR), HM.out.below (by repeat (first | with_reducible exact belR | with_reducible apply belA | (with_reducible refine belS ?_ ?_; focus (first | omega | (simp; done) | (simp; omega))) | with_reducible apply belN | with_reducible apply belD | with_reducible assumption))⟩ ?_
  clear HX' HT HU HF' HG HG2 HM
  rintro w5 ⟨ko, hko, ho, hx, ht, hu, hf, hg, hm⟩
  have hkl : ks < ko := by omega
  rw [← hko]
  have HO := Lib.hid ho
  have HX := Lib.hid hx
  have HT := Lib.hid ht
  have HU := Lib.hid hu
  have HF := Lib.hid hf
  have HG := Lib.hid hg
  have HM := Lib.hid hm
  clear ho hx ht hu hf hg hm hko hkz hkz3 hkz4
  go_wp2_with fail
  refine (specLitInt k [1, 3, 5] _ HM.out.cur rfl rfl rfl (by decide) (by decide)).mono ?_
  rintro e w6 ⟨n, rfl, hn, hm⟩
  have hn5 : n ≤ 5 := by
    simp only [List.mem_cons, List.not_mem_nil, or_false] at hn
    omega
  clear hn
  have hkz5 := HO.out.lt
  replace HO := Lib.hid (HO.out.mov hm (by omega))
  replace HX := Lib.hid (HX.out.mov hm (by omega))
  replace HT := Lib.hid (HT.out.mov hm (by omega))
  replace HU := Lib.hid (HU.out.mov hm (by omega))
  replace HF := Lib.hid (HF.out.mov hm (by simp))
  replace HG := Lib.hid (HG.out.mov hm (by simp))
  replace HM := Lib.hid (HM.out.trans hm)
  clear hm
  go_wp2
  go_loopw [7] (fun i wr => ∃ (n : Int) (o : DOutbox) (a : Option Addr) (c : Nat), i = .int .i64 n ∧ (n ≤ 100 ∧ Net o S) ∧ WB wr ko #[.int .i64 o.device, .int .i64 o.next, .slice a o.writes.length c] ∧ WB wr ks #[.string S.store.name, .slice a1 S.store.items.length c1, .int .i64 S.store.auto, .slice none S.applied.length 0, .slice none S.changes.length 0] ∧ WB wr w.heap.size #[.int .i64 0, .int .i64 0, .slice none 0 0, .int .i64 0, .int .i64 0] ∧ WB wr (w.heap.size + 1) #[.string ⟨#[]⟩, .slice none 0 0, .int .i64 0, .slice none 0 0, .slice none 0 0] ∧ Owns DServer.rep (w.heap.size + 2) [k.k, ks, ko] wr [.string S.store.name, .slice a1 S.store.items.length c1, .int .i64 S.store.auto, .slice none S.applied.length 0, .slice none S.changes.length 0] S ∧ Owns DOutbox.rep (w.heap.size + 2) [k.k, ks, ko] wr [.int .i64 o.device, .int .i64 o.next, .slice a o.writes.length c] o ∧ Mov k w wr) (fun i _ => (intOf i).toNat)
  case atStart => exact ⟨n, o, a, c, rfl, ⟨by omega, HN.out⟩, HO.out, HX.out, HT.out, HU.out, HF.out, HG.out, HM.out⟩
  case round =>
    clear HO HX HT HU HF HG HM HN hn5 hkz5
    obtain ⟨n, o, a, c, rfl, ⟨hn, hnet⟩, ho, hx, ht, hu, hf, hg, hm⟩ := hrel
    have HN := Lib.hid hnet
    have HO := Lib.hid ho
    have HX := Lib.hid hx
    have HT := Lib.hid ht
    have HU := Lib.hid hu
    have HF := Lib.hid hf
    have HG := Lib.hid hg
    have HM := Lib.hid hm
    clear ho hx ht hu hf hg hm hnet
    have hzr := HO.out.lt
    by_cases hlt : 0 < n
    · go_upto_region 6 with fail
      refine wp_region_mv k [10,11] (by kernel_rfl) ?_
      intro wd hbd
      have hwz := hbd.size
      replace HO := Lib.hid (HO.out.keep hbd)
      replace HX := Lib.hid (HX.out.keep hbd)
      replace HT := Lib.hid (HT.out.keep hbd)
      replace HU := Lib.hid (HU.out.keep hbd)
      replace HF := Lib.hid (HF.out.below hbd)
      replace HG := Lib.hid (HG.out.below hbd)
      replace HM := Lib.hid (HM.out.below hbd)
      clear hbd
      have hne : Nonempty (Moved k wd) := ⟨⟨wd, Mov.refl HM.out.cur⟩⟩
      have K_HO := mv_var (k := k) HO.out (by omega)
      refine wpU_group (fun _ _ _ _ _ h => h) (by kernel_rfl) (mv_of (Mov.refl HM.out.cur)) [0,1,3,5] _ _ _ rfl (by kernel_rfl) ?_
      repeat (go_big_quiet_step (fail))
      refine wpQuiet_nil ?_
      clear K_HO
      refine wpU_one 2 rfl (by kernel_rfl) ?_
      go_wp2_with fail
      refine (specKeyV k _ HM.out.cur).mono ?_
      rintro e w2 ⟨b, rfl, hb0, hb6, hm⟩
      go_wp2_with fail
      refine HardPost.mk (mv_of (hm)) ?_
      refine wpU_one 4 rfl (by kernel_rfl) ?_
      go_wp2_with fail
      refine (specName k _ hm.cur).mono ?_
      rintro e w3 ⟨f, rfl, hf3, hm3⟩
      have mm3 := hm.trans hm3
      go_wp2_with fail
      refine HardPost.mk (mv_of (mm3)) ?_
      refine wpU_one 6 rfl (by kernel_rfl) ?_
      go_wp2_with fail
      refine (specBelow k _ _ mm3.cur).mono ?_
      rintro e w4 ⟨m, rfl, _, _, hm4⟩
      have mm4 := mm3.trans hm4
      go_wp2_with fail
      refine HardPost.mk (mv_of (mm4)) ?_
      have hz4 := mm4.size
      have hbl := (outbox_iff.1 HN.out.box).2.2.2
      refine wpU_one 7 rfl (by kernel_rfl) ?_
      go_wp2_with fail
      refine (specEnqueueWrite _ _ o ⟨1, b, ⟨#[]⟩⟩ f m _ (HG.out.mov mm4 (by simp)).reads (HRK.out _ ⟨1, b, ⟨#[]⟩⟩ (by show 0 ≤ 20; decide)) (by omega) (by unfold maxLen; omega)).mono ?_
      rintro e w5 ⟨ds, rfl, hg5, hb5⟩
      obtain ⟨a5, c5, rfl⟩ := DOutbox.fsh hg5
      have mm5 := mm4.below hb5
      go_wp2_with fail
      refine HardPost.mk (mv_of (mm5)) ?_
      refine wpU_group (fun _ _ _ _ _ h => h) (by kernel_rfl) (mv_of (mm5)) [8,9,10] _ _ _ rfl (by kernel_rfl) ?_
      repeat (go_big_quiet_step (fail))
      refine wpQuiet_nil ?_
      replace HO := Lib.hid (HO.out.mov mm5 (by omega))
      have ⟨c_HO, z_HO, f_HO⟩ := HO.out
      refine wpU_tail [11] _ _ _ _ rfl (by kernel_rfl) ?_
      go_wp2_with fail
      refine NoPanic.normal ?_
      go_wp2_with fail
      go_light
      exact ⟨⟨n - 1, enqueueF o ⟨1, b, ⟨#[]⟩⟩ f m, a5, c5, by go_num, ⟨by omega, (HN.out.enqueue _ _ _).1⟩, HO.out.set3, (((HX.out.mov mm5 (by omega)).setOther (by omega)).setOther (by omega)).setOther (by omega), (((HT.out.mov mm5 (by omega)).setOther (by omega)).setOther (by omega)).setOther (by omega), (((HU.out.mov mm5 (by omega)).setOther (by omega)).setOther (by omega)).setOther (by omega), (((HF.out.mov mm5 (by simp)).set (.inl (by simp))).set (.inl (by simp))).set (.inl (by simp)), (((Owns.of hg5 (by omega) (by intro b hb; simp at hb; rcases hb with rfl | rfl | rfl <;> exact .inl (by omega))).set (.inl (by simp))).set (.inl (by simp))).set (.inl (by simp)), (HM.out.trans mm5).low (B := w.heap.size) (by repeat (first | with_reducible exact belR | (with_reducible refine belAB ?_ ?_; focus (first | omega | (simp; done) | (simp; omega))) | (with_reducible refine belS ?_ ?_; focus (first | omega | (simp; done) | (simp; omega))) | with_reducible apply belN | with_reducible apply belD | with_reducible assumption)) (Nat.le_refl _) hk⟩, by simp [intOf]; omega⟩
    · clear hn
      have ⟨c_HO, z_HO, f_HO⟩ := HO.out
      go_upto_region 8 with fail
      have HG3 := Lib.hid (HG.out.sync 0 0)
      refine settle (fun W => ∃ ky, ky = wr.heap.size ∧ WB W ky #[.int .i64 o.device, .int .i64 o.next, .slice a o.writes.length c, .int .i64 0, .int .i64 0] ∧ WB W ks #[.string S.store.name, .slice a1 S.store.items.length c1, .int .i64 S.store.auto, .slice none S.applied.length 0, .slice none S.changes.length 0] ∧ WB W w.heap.size #[.int .i64 0, .int .i64 0, .slice none 0 0, .int .i64 0, .int .i64 0] ∧ WB W (w.heap.size + 1) #[.string ⟨#[]⟩, .slice none 0 0, .int .i64 0, .slice none 0 0, .slice none 0 0] ∧ Owns DServer.rep (w.heap.size + 2) [k.k, ks, ky] W [.string S.store.name, .slice a1 S.store.items.length c1, .int .i64 S.store.auto, .slice none S.applied.length 0, .slice none S.changes.length 0] S ∧ Owns DSync.rep (w.heap.size + 2) [k.k, ks, ky] W [.int .i64 o.device, .int .i64 o.next, .slice a o.writes.length c, .int .i64 0, .int .i64 0] ⟨o, 0, 0⟩ ∧ Mov k w W) ⟨_, rfl, WB.at rfl, HX.out.growA, HT.out.growA, HU.out.growA, (HF.out.more (by intro b hb; simp at hb; rcases hb with rfl | rfl | rfl; exact .inl (by simp); exact .inl (by simp); exact .inr (.inr (Nat.le_refl _)))).below (belA belR), (HG3.out.more (by intro b hb; simp at hb; rcases hb with rfl | rfl | rfl; exact .inl (by simp); exact .inl (by simp); exact .inr (.inr (Nat.le_refl _)))).below (belA belR), HM.out.below (by repeat (first | with_reducible exact belR | with_reducible apply belA | (with_reducible refine belS ?_ ?_; focus (first | omega | (simp; done) | (simp; omega))) | with_reducible apply belN | with_reducible apply belD | with_reducible assumption))⟩ ?_
      clear c_HO z_HO f_HO
      clear HO HX HT HU HF HG HG3 HM
      rintro w2 ⟨ky, hky, ho, hx, ht, hu, hf, hg, hm⟩
      have hkl2 : ko < ky := by omega
      rw [← hky]
      have HO := Lib.hid ho
      have HX := Lib.hid hx
      have HT := Lib.hid ht
      have HU := Lib.hid hu
      have HF := Lib.hid hf
      have HG := Lib.hid hg
      have HM := Lib.hid hm
      clear ho hx ht hu hf hg hm hky hzr
      go_wp2_with fail
      refine (specBelow k _ _ HM.out.cur).mono ?_
      rintro e w3 ⟨r, rfl, hr0, hr4, hm⟩
      have hr := hr4 (by decide)
      have hkz := HO.out.lt
      replace HO := Lib.hid (HO.out.mov hm (by omega))
      replace HX := Lib.hid (HX.out.mov hm (by omega))
      replace HT := Lib.hid (HT.out.mov hm (by omega))
      replace HU := Lib.hid (HU.out.mov hm (by omega))
      replace HF := Lib.hid (HF.out.mov hm (by simp))
      replace HG := Lib.hid (HG.out.mov hm (by simp))
      replace HM := Lib.hid (HM.out.trans hm)
      clear hm hr4
      go_wp2
      go_loopw [9] (fun i wr => ∃ (n : Int) (b : Nat) (y : DSync) (s : DServer) (a : Option Addr) (c : Nat) (a1 : Option Addr) (c1 : Nat) (a2 : Option Addr) (c2 : Nat) (a3 : Option Addr) (c3 : Nat), i = .int .i64 n ∧ (n ≤ 100 ∧ b + 64 * n.toNat ≤ 1000 ∧ PairOk b y s) ∧ WB wr ky #[.int .i64 y.outbox.device, .int .i64 y.outbox.next, .slice a y.outbox.writes.length c, .int .i64 y.tries, .int .i64 y.waitUntil] ∧ WB wr ks #[.string s.store.name, .slice a1 s.store.items.length c1, .int .i64 s.store.auto, .slice a2 s.applied.length c2, .slice a3 s.changes.length c3] ∧ WB wr w.heap.size #[.int .i64 0, .int .i64 0, .slice none 0 0, .int .i64 0, .int .i64 0] ∧ WB wr (w.heap.size + 1) #[.string ⟨#[]⟩, .slice none 0 0, .int .i64 0, .slice none 0 0, .slice none 0 0] ∧ Owns DServer.rep (w.heap.size + 2) [k.k, ks, ky] wr [.string s.store.name, .slice a1 s.store.items.length c1, .int .i64 s.store.auto, .slice a2 s.applied.length c2, .slice a3 s.changes.length c3] s ∧ Owns DSync.rep (w.heap.size + 2) [k.k, ks, ky] wr [.int .i64 y.outbox.device, .int .i64 y.outbox.next, .slice a y.outbox.writes.length c, .int .i64 y.tries, .int .i64 y.waitUntil] y ∧ Mov k w wr) (fun i _ => (intOf i).toNat)
      case atStart =>
        have hc := HC0.out
        exact ⟨r, 0, ⟨o, 0, 0⟩, S, a, c, a1, c1, none, 0, none, 0, rfl, ⟨by omega, by omega, ⟨HN.out, ⟨by show (0 : Int) ≤ 0; decide, by show (0 : Int) ≤ ((0 : Nat) : Int); decide⟩, by show (0 : Int) ≤ 0; decide, hc⟩⟩, HO.out, HX.out, HT.out, HU.out, HF.out, HG.out, HM.out⟩
      case round =>
        clear HO HX HT HU HF HG HM HN HC0 hkz hr hr0
        obtain ⟨n, b, y, s, a, c, a1, c1, a2, c2, a3, c3, rfl, ⟨hn, hb, hp⟩, ho, hx, ht, hu, hf, hg, hm⟩ := hrel
        have HP := Lib.hid hp
        have HO := Lib.hid ho
        have HX := Lib.hid hx
        have HT := Lib.hid ht
        have HU := Lib.hid hu
        have HF := Lib.hid hf
        have HG := Lib.hid hg
        have HM := Lib.hid hm
        clear ho hx ht hu hf hg hm hp
        have hzr := HO.out.lt
        have hzs := HX.out.lt
        by_cases hlt : 0 < n
        · go_upto_region 11 with fail
          refine wp_region_mv k [9,10,11,12] (by kernel_rfl) ?_
          intro wd hbd
          have hwz := hbd.size
          replace HO := Lib.hid (HO.out.keep hbd)
          replace HX := Lib.hid (HX.out.keep hbd)
          replace HT := Lib.hid (HT.out.keep hbd)
          replace HU := Lib.hid (HU.out.keep hbd)
          replace HF := Lib.hid (HF.out.below hbd)
          replace HG := Lib.hid (HG.out.below hbd)
          replace HM := Lib.hid (HM.out.below hbd)
          clear hbd
          have hne : Nonempty (Moved k wd) := ⟨⟨wd, Mov.refl HM.out.cur⟩⟩
          have K_HO := mv_var (k := k) HO.out (by omega)
          have K_HX := mv_var (k := k) HX.out (by omega)
          refine wpU_group (fun _ _ _ _ _ h => h) (by kernel_rfl) (mv_of (Mov.refl HM.out.cur)) [0,1,2,3,4] _ _ _ rfl (by kernel_rfl) ?_
          repeat (go_big_quiet_step (fail))
          refine wpQuiet_nil ?_
          clear K_HO K_HX
          refine wpU_one 5 rfl (by kernel_rfl) ?_
          go_wp2_with fail
          refine (specBelow k _ _ HM.out.cur).mono ?_
          rintro e w3 ⟨m, rfl, _, _, hm⟩
          go_wp2_with fail
          refine HardPost.mk (mv_of (hm)) ?_
          have hz3 := hm.size
          have hsm := HP.out.small (by omega)
          refine wpU_one 6 rfl (by kernel_rfl) ?_
          go_wp2_with fail
          refine (specSyncStep _ _ y s y.waitUntil m _ (HG.out.mov hm (by simp)).reads (HF.out.mov hm (by simp)).reads (by omega) (hsm.2.mono (by omega)) (by have := HP.out.tries; omega)).mono ?_
          rintro e w4 ⟨ds, dv, rfl, hf2, hb4⟩
          have hfy := hf2.left
          have hfs := hf2.right
          have HP2 := Lib.hid (HP.out.step (by omega) m)
          obtain ⟨y2, hy2⟩ : ∃ y2, syncStepY y s y.waitUntil m = y2 := ⟨_, rfl⟩
          obtain ⟨s2, hs2⟩ : ∃ s2, syncStepS y s y.waitUntil m = s2 := ⟨_, rfl⟩
          rw [hy2] at hfy HP2
          rw [hs2] at hfs HP2
          clear hf2 hy2 hs2 hsm
          obtain ⟨b0, d0, rfl⟩ := DSync.fsh hfy
          obtain ⟨b1, d1, b2, d2, b3, d3, rfl⟩ := DServer.fsh hfs
          have mm := hm.below hb4
          go_wp2_with fail
          refine HardPost.mk (mv_of (mm)) ?_
          refine wpU_group (fun _ _ _ _ _ h => h) (by kernel_rfl) (mv_of (mm)) [7,8,9,10] _ _ _ rfl (by kernel_rfl) ?_
          repeat (go_big_quiet_step (fail))
          refine wpQuiet_nil ?_
          replace HO := Lib.hid (HO.out.mov mm (by omega))
          replace HX := Lib.hid (HX.out.mov mm (by omega))
          replace HT := Lib.hid (HT.out.mov mm (by omega))
          replace HU := Lib.hid (HU.out.mov mm (by omega))
          replace HM := Lib.hid (HM.out.trans mm)
          have HF4 : Hid (Owns DServer.rep (w.heap.size + 2) [k.k, ks, ky] w4 [.string s2.store.name, .slice b1 s2.store.items.length d1, .int .i64 s2.store.auto, .slice b2 s2.applied.length d2, .slice b3 s2.changes.length d3] s2) := Lib.hid (Owns.of hfs (by omega) (by intro b hb; simp at hb; rcases hb with rfl | rfl | rfl <;> exact .inl (by omega)))
          have HG4 : Hid (Owns DSync.rep (w.heap.size + 2) [k.k, ks, ky] w4 [.int .i64 y2.outbox.device, .int .i64 y2.outbox.next, .slice b0 y2.outbox.writes.length d0, .int .i64 y2.tries, .int .i64 y2.waitUntil] y2) := Lib.hid (Owns.of hfy (by omega) (by intro b hb; simp at hb; rcases hb with rfl | rfl | rfl <;> exact .inl (by omega)))
          clear hfy hfs
          have ⟨c_HO, z_HO, f_HO⟩ := HO.out
          have ⟨c_HX, z_HX, f_HX⟩ := HX.out
          refine wpU_tail [11,12] _ _ _ _ rfl (by kernel_rfl) ?_
          go_wp2_with fail
          refine NoPanic.normal ?_
          go_wp2_with fail
          go_light
          exact ⟨⟨n - 1, b + 64, y2, s2, b0, d0, b1, d1, b2, d2, b3, d3, by go_num, ⟨by omega, by omega, HP2.out⟩, off5 (set5 HO.out) (by omega), set5 (off5 HX.out (by omega)), off5 (off5 HT.out (by omega)) (by omega), off5 (off5 HU.out (by omega)) (by omega), by repeat (first | with_reducible exact HF4.out | with_reducible refine Owns.set ?_ (.inl (by simp))), by repeat (first | with_reducible exact HG4.out | with_reducible refine Owns.set ?_ (.inl (by simp))), HM.out.low (B := w.heap.size) (by repeat (first | with_reducible exact belR | (with_reducible refine belAB ?_ ?_; focus (first | omega | (simp; done) | (simp; omega))) | (with_reducible refine belS ?_ ?_; focus (first | omega | (simp; done) | (simp; omega))) | with_reducible apply belN | with_reducible apply belD | with_reducible assumption)) (Nat.le_refl _) hk⟩, by simp [intOf]; omega⟩
        · go_upto_region 12 with fail
          refine wp_region_mvf k ([w.heap.size, w.heap.size + 1]) [] (by kernel_rfl) ?_
          intro wd hbd
          have hwz := hbd.size
          replace HO := Lib.hid (HO.out.keep hbd)
          replace HX := Lib.hid (HX.out.keep hbd)
          replace HT := Lib.hid (HT.out.keep hbd)
          replace HU := Lib.hid (HU.out.keep hbd)
          replace HF := Lib.hid (HF.out.below hbd)
          replace HG := Lib.hid (HG.out.below hbd)
          replace HM := Lib.hid (HM.out.below hbd)
          clear hbd
          have hne : Nonempty (MovedF k ([w.heap.size, w.heap.size + 1]) wd) := ⟨⟨wd, MovF.of (Mov.refl HM.out.cur)⟩⟩
          have K_HO := mvf_var (k := k) (fp := ([w.heap.size, w.heap.size + 1])) HO.out (by omega) (by first | (simp; omega) | assumption)
          have K_HX := mvf_var (k := k) (fp := ([w.heap.size, w.heap.size + 1])) HX.out (by omega) (by first | (simp; omega) | assumption)
          refine wpU_group (fun _ _ _ _ _ h => h) (by kernel_rfl) (mvf_of (MovF.of (Mov.refl HM.out.cur))) [0,1] _ _ _ rfl (by kernel_rfl) ?_
          repeat (go_big_quiet_step (fail))
          refine wpQuiet_nil ?_
          clear K_HO K_HX
          have ⟨c_HT, z_HT, f_HT⟩ := HT.out
          have ⟨c_HU, z_HU, f_HU⟩ := HU.out
          have hkb : k.b ≤ k.k := by
            obtain ⟨_, _, _, _, _, _, _, hq⟩ := HM.out.cur
            exact hq
          have hq0 : MovF k [w.heap.size, w.heap.size + 1] wd wd := MovF.of (Mov.refl HM.out.cur)
          refine wpU_one 2 rfl (by kernel_rfl) ?_
          go_wp2_with fail
          have hq1 := hq0.set5 (b := w.heap.size) (u0 := .int .i64 y.outbox.device) (u1 := .int .i64 y.outbox.next) (u2 := .slice a y.outbox.writes.length c) (u3 := .int .i64 y.tries) (u4 := .int .i64 y.waitUntil) (by simp) (by omega) (by omega)
          refine HardPost.mk (mvf_of hq1) ?_
          have HT1 := Lib.hid (set5 HT.out (b0 := .int .i64 y.outbox.device) (b1 := .int .i64 y.outbox.next) (b2 := .slice a y.outbox.writes.length c) (b3 := .int .i64 y.tries) (b4 := .int .i64 y.waitUntil))
          have HU1 := Lib.hid (off5 HU.out (g := w.heap.size) (b0 := .int .i64 y.outbox.device) (b1 := .int .i64 y.outbox.next) (b2 := .slice a y.outbox.writes.length c) (b3 := .int .i64 y.tries) (b4 := .int .i64 y.waitUntil) (by omega))
          clear c_HT z_HT f_HT c_HU z_HU f_HU
          have ⟨c_HU1, z_HU1, f_HU1⟩ := HU1.out
          refine wpU_one 3 rfl (by kernel_rfl) ?_
          go_wp2_with fail
          have hq2 := hq1.set5 (b := w.heap.size + 1) (u0 := .string s.store.name) (u1 := .slice a1 s.store.items.length c1) (u2 := .int .i64 s.store.auto) (u3 := .slice a2 s.applied.length c2) (u4 := .slice a3 s.changes.length c3) (by simp) (by omega) (by omega)
          refine HardPost.mk (mvf_of hq2) ?_
          have HT2 := Lib.hid (off5 HT1.out (g := w.heap.size + 1) (b0 := .string s.store.name) (b1 := .slice a1 s.store.items.length c1) (b2 := .int .i64 s.store.auto) (b3 := .slice a2 s.applied.length c2) (b4 := .slice a3 s.changes.length c3) (by omega))
          have HU2 := Lib.hid (set5 HU1.out (b0 := .string s.store.name) (b1 := .slice a1 s.store.items.length c1) (b2 := .int .i64 s.store.auto) (b3 := .slice a2 s.applied.length c2) (b4 := .slice a3 s.changes.length c3))
          clear c_HU1 z_HU1 f_HU1
          refine wpU_tail [] _ _ _ _ rfl (by kernel_rfl) ?_
          go_wp2_with fail
          refine NoPanic.normal ?_
          have ⟨c_HT2, z_HT2, f_HT2⟩ := HT2.out
          have ⟨c_HU2, z_HU2, f_HU2⟩ := HU2.out
          go_wp2
          exact bodyPost_ret (v := .tuple #[.agg #[.int .i64 y.outbox.device, .int .i64 y.outbox.next, .slice a y.outbox.writes.length c, .int .i64 y.tries, .int .i64 y.waitUntil], .agg #[.string s.store.name, .slice a1 s.store.items.length c1, .int .i64 s.store.auto, .slice a2 s.applied.length c2, .slice a3 s.changes.length c3]]) (by simp [results, Tryz.results62, go_sem, c_HT2, c_HU2]) rfl ⟨_, _, rfl, y, s, (Owns.fresh (K := [k.k, ks, ky]) (B := w.heap.size + 2) (by repeat (first | with_reducible exact HG.out | with_reducible refine Owns.set ?_ (.inr (by omega))))).mono (by omega), (Owns.fresh (K := [k.k, ks, ky]) (B := w.heap.size + 2) (by repeat (first | with_reducible exact HF.out | with_reducible refine Owns.set ?_ (.inr (by omega))))).mono (by omega), ⟨HP.out.net, by have := HP.out.wait; omega, HP.out.tries, by have := HP.out.changes; omega⟩, HM.out.low (B := w.heap.size) (by repeat (first | with_reducible exact belR | (with_reducible refine belAB ?_ ?_; focus (first | omega | (simp; done) | (simp; omega))) | (with_reducible refine belS ?_ ?_; focus (first | omega | (simp; done) | (simp; omega))) | with_reducible apply belN | with_reducible apply belD | with_reducible assumption)) (Nat.le_refl _) hk⟩


end Go.Proofs.YtlfebehpmefioaaGreat
