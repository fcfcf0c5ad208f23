/-
  The walk of the law FnReplicas.
-/
import Derived.Test.YtlfebehpmefioaaGreatDrawReplica
import Derived.Test.YtlfebehpmefioaaGreatRepEnd
import Derived.Test.YtlfebehpmefioaaGreatRepKeep
import Derived.Test.YtlfebehpmefioaaGreatRepFind
namespace Go.Proofs.YtlfebehpmefioaaGreat
open Go.RowKit

theorem sync_reads {W : World} {r : DReplica} {v1 v2 : Value} (h : Reads DReplica.rep W [.string r.base.name, v1, .int .i64 r.base.auto, .int .i64 r.seen, .int .i64 r.sync.outbox.device, .int .i64 r.sync.outbox.next, v2, .int .i64 r.sync.tries, .int .i64 r.sync.waitUntil] r) : Reads DSync.rep W [.int .i64 r.sync.outbox.device, .int .i64 r.sync.outbox.next, v2, .int .i64 r.sync.tries, .int .i64 r.sync.waitUntil] r.sync ∧ Reads DStore.rep W [.string r.base.name, v1, .int .i64 r.base.auto] r.base := by
  obtain ⟨p1, p2⟩ := (Off.of_reads (K := fun _ => False) h (fun _ _ h => h)).replicaParts
  exact ⟨p2.reads, p1.reads⟩
theorem server_store {W : World} {s : DServer} {v1 v2 v3 : Value} (h : Reads DServer.rep W [.string s.store.name, v1, .int .i64 s.store.auto, v2, v3] s) : Reads DStore.rep W [.string s.store.name, v1, .int .i64 s.store.auto] s.store :=
  (Off.of_reads (K := fun _ => False) h (fun _ _ h => h)).serverParts.1.reads
theorem equal_stores (x : DStore) : equalStoresF x x = true := by unfold equalStoresF; simp

theorem write_seen {r : DReplica} {k : DKey} {f : ByteArray} {n : Int} : (writeLocalF r k f n).seen = r.seen := by
  unfold writeLocalF
  split <;> rfl
theorem store_items {W : World} {v : Value} {x : DStore} (h : Reads DStore.rep W [.string x.name, v, .int .i64 x.auto] x) : Reads (Rep.slice 71 DItem.rep) W [v] x.items := by
  obtain ⟨fp, h⟩ := h
  obtain ⟨v1, f1, e, _, _, r1⟩ := DStore.rd.1 h
  simp only [List.cons.injEq, and_true, true_and] at e
  subst e
  exact ⟨f1, r1⟩
theorem findAs (cs ck : List Value) (x : DStore) (y : DKey) (i : Nat) (hi : idxF (keyIs y) x.items = (i : Int)) (w : World) (h : Reads DStore.rep w cs x) (h' : Reads DKey.rep w ck y) :
    Calls Tryz.prog 26 #[.agg cs.toArray, .agg ck.toArray] w fun e w' => e = .returned (.int .i64 (i : Int)) ∧ Below w.heap.size w w' := by
  rw [← hi]; exact specFindItem cs ck x y w h h'
attribute [local irreducible] writeLocalF writeLocalB pullChangesF pullChangesN drainF localStoreF equalReplicasF equalStoresF isConfirmedF

set_option maxRecDepth 100000 in
set_option maxHeartbeats 16000000 in
theorem lawReplicas (v : Value) (l0 : List UInt8) (w : World) (h : Reads Rep.bytes w [v] l0) :
    Calls Tryz.prog 6 #[v] w fun e w' => e = .returned (.bool true) ∧ Below w.heap.size w w' := by
  have HK : Hid (Reads Rep.bytes w [v] l0) := Lib.hid h
  obtain ⟨fp, h⟩ := h
  obtain ⟨ao, c1, rfl, hm, _, hu⟩ := slice_open h
  clear hu h
  by_cases hbig : 1048576 < l0.length
  · go_enter Tryz.func6, Tryz.ntmps6
    go_wp2_with (go_at_call 8; refine (lawBig _ _ _ HK.out).mono ?_; rintro e w' ⟨rfl, rfl⟩)
    go_ret
    exact ⟨rfl, bEl⟩
  have hl0 : l0.length ≤ 1048576 := by omega
  have g0 := atN_ge l0 0
  have g1 := atN_ge l0 1
  obtain ⟨p, hp⟩ : ∃ p : Int, p = atN l0 0 % 4 := ⟨_, rfl⟩
  obtain ⟨q, hq⟩ : ∃ q : Int, q = atN l0 1 := ⟨_, rfl⟩
  have m1 : (atN l0 0).tmod 4 = p := (Int.tmod_eq_emod_of_nonneg g0.1).trans hp.symm
  have m2 : atN l0 1 = q := hq.symm
  have hp4 : 0 ≤ p ∧ p ≤ 3 := by omega
  have wp1 : IntKind.i64.wrap p = p := Go.IntWalk.i64_in _ (by omega)
  clear hp hq
  go_enter Tryz.func6, Tryz.ntmps6
  go_upto_region 3 with (go_at_call 8; refine (lawBig _ _ _ HK.out).mono ?_; rintro e w' ⟨rfl, rfl⟩)
  go_wp2_with fail
  refine (specDrawReplica repInv _ l0 _ (HK.out.below bEl) hl0).mono ?_
  rintro e w1 ⟨ds, dv, rfl, b, r, s, hf, hg, hb5, hok, hb⟩
  obtain ⟨a1, c1, a2, c2, rfl⟩ := (Off.of_reads (K := fun _ => False) hf (fun _ _ h => h)).repShape
  obtain ⟨b1, d1, b2, d2, b3, d3, rfl⟩ := (Off.of_reads (K := fun _ => False) hg (fun _ _ h => h)).srvShape
  have HB : Hid (Below w.heap.size w w1) := Lib.hid hb
  have hw1 : w.heap.size ≤ w1.heap.size := hb.size
  have HF := Lib.hid hf
  have HG := Lib.hid hg
  have HOk := Lib.hid hok
  clear hf hg hb hok
  go_upto_region 4 with fail
  refine settle (fun W => WB W w1.heap.size #[.string r.base.name, .slice a1 r.base.items.length c1, .int .i64 r.base.auto, .int .i64 r.seen, .int .i64 r.sync.outbox.device, .int .i64 r.sync.outbox.next, .slice a2 r.sync.outbox.writes.length c2, .int .i64 r.sync.tries, .int .i64 r.sync.waitUntil] ∧ WB W (w1.heap.size + 1) #[.string s.store.name, .slice b1 s.store.items.length d1, .int .i64 s.store.auto, .slice b2 s.applied.length d2, .slice b3 s.changes.length d3] ∧ Below w1.heap.size w1 W) ⟨(WB.at rfl).growA, WB.at (by simp), bEl⟩ ?_
  rintro w2 ⟨hx, hy, hb⟩
  have HX := Lib.hid hx
  have HY := Lib.hid hy
  replace HF := Lib.hid (HF.out.below hb)
  replace HG := Lib.hid (HG.out.below hb)
  replace HB := Lib.hid (HB.out.trans (hb.mono HB.out.size))
  clear hx hy hb
  have hsz2 := HY.out.lt
  obtain ⟨wb, hwb⟩ : ∃ wb, writeLocalB r ⟨1, p, ⟨#[]⟩⟩ ⟨#[97]⟩ q = wb := ⟨_, rfl⟩
  obtain ⟨z, hz⟩ : ∃ z, writeLocalF r ⟨1, p, ⟨#[]⟩⟩ ⟨#[97]⟩ q = z := ⟨_, rfl⟩
  have HWB := Lib.hid hwb
  have HZ := Lib.hid hz
  have hsm := HOk.out.small (by omega)
  have HSm := Lib.hid hsm
  clear hwb hz hsm
  go_cut [5, 6] (fun xx yy W => ∃ (kx : Nat) (e1 : Option Addr) (f1 : Nat) (e2 : Option Addr) (f2 : Nat), xx = .pointer (some ⟨kx, 0, none⟩) ∧ yy = .bool wb ∧ WB W kx #[.string z.base.name, .slice e1 z.base.items.length f1, .int .i64 z.base.auto, .int .i64 z.seen, .int .i64 z.sync.outbox.device, .int .i64 z.sync.outbox.next, .slice e2 z.sync.outbox.writes.length f2, .int .i64 z.sync.tries, .int .i64 z.sync.waitUntil] ∧ Off DReplica.rep (fun x => x = kx) W [.string z.base.name, .slice e1 z.base.items.length f1, .int .i64 z.base.auto, .int .i64 z.seen, .int .i64 z.sync.outbox.device, .int .i64 z.sync.outbox.next, .slice e2 z.sync.outbox.writes.length f2, .int .i64 z.sync.tries, .int .i64 z.sync.waitUntil] z ∧ w2.heap.size ≤ kx ∧ Below w2.heap.size w2 W)
  case first =>
    refine wp_region_chf [] [10, 12, 13] (by kernel_rfl) ?_
    intro wd hbd
    have hwz := hbd.size
    have hkd : Reads Rep.bytes wd _ l0 := HK.out.below (HB.out.trans (hbd.mono HB.out.size))
    have HX2 := Lib.hid (HX.out.keep hbd)
    have HF2 := Lib.hid (HF.out.below hbd)
    have HBd := Lib.hid hbd
    clear hbd
    have hne : Nonempty (ChgdF [] wd) := ⟨⟨wd, Chg.refl⟩⟩
    have K_HX := chf_var (fp := []) HX2.out (by simp)
    refine wpU_group (fun _ _ _ _ _ h => h) (by kernel_rfl) (chf_of Chg.refl) [0,1,5] _ _ _ rfl (by kernel_rfl) ?_
    repeat (go_big_quiet_step (fail))
    refine wpQuiet_nil ?_
    clear K_HX
    refine wpU_two 2 11 rfl rfl (by kernel_rfl) ?ta ?tb
    case ta =>
      go_wp2_with fail
      refine (lawAt _ l0 _ 0 (by omega) (by decide) hl0 _ (hkd.below belR)).mono ?_
      rintro e w3 ⟨rfl, rfl⟩
      go_wp2_with fail
      refine HardPost.mk (chf_of Chg.refl) ?_
      refine wpU_group (fun _ _ _ _ _ h => h) (by kernel_rfl) (chf_of Chg.refl) [3,4] _ _ _ rfl (by kernel_rfl) ?_
      repeat (go_big_quiet_step (fail))
      refine wpQuiet_nil ?_
      refine wpU_two 6 11 rfl rfl (by kernel_rfl) ?taa ?tab
      case taa =>
        go_wp2_with fail
        refine (lawAt _ l0 _ 1 (by omega) (by decide) hl0 _ (hkd.below belR)).mono ?_
        rintro e w3 ⟨rfl, rfl⟩
        go_wp2_with fail
        refine HardPost.mk (chf_of Chg.refl) ?_
        refine wpU_two 7 11 rfl rfl (by kernel_rfl) ?taaa ?taab
        case taaa =>
          go_wp2_with fail
          refine (implWriteLocal _ _ r ⟨1, p, ⟨#[]⟩⟩ ⟨#[97]⟩ q _ (HF2.out.below belR) (pairKey _ p) HSm.out.1 (by have := HSm.out.2.1; omega) (by show 1 ≤ maxLen; decide)).mono ?_
          rintro e w4 ⟨ds, rfl, hg4, hb4⟩
          have hq4 : Below wd.heap.size wd w4 := below_call belR bSz hb4
          have hz4 := hb4.size
          rw [HZ.out] at hg4
          rw [HWB.out]
          obtain ⟨e1, f1, e2, f2, rfl⟩ := DReplica.fsh hg4
          go_wp2_with fail
          refine HardPost.mk (chf_of (Chg.of_below hq4 (Nat.le_refl _))) ?_
          refine wpU_group (fun _ _ _ _ _ h => h) (by kernel_rfl) (chf_of (Chg.of_below hq4 (Nat.le_refl _))) [8,9,10] _ _ _ rfl (by kernel_rfl) ?_
          repeat (go_big_quiet_step (fail))
          refine wpQuiet_nil ?_
          refine wpU_one 11 rfl (by kernel_rfl) ?_
          go_wp2_with fail
          refine HardPost.mk (chf_of (chgA (Chg.of_below hq4 (Nat.le_refl _)))) ?_
          have HKx : Hid (WB (w4.alloc (.cells #[.string ⟨#[]⟩, .slice none 0 0, .int .i64 0, .int .i64 0, .int .i64 0, .int .i64 0, .slice none 0 0, .int .i64 0, .int .i64 0] 58)) w4.heap.size #[.string ⟨#[]⟩, .slice none 0 0, .int .i64 0, .int .i64 0, .int .i64 0, .int .i64 0, .slice none 0 0, .int .i64 0, .int .i64 0]) := Lib.hid (WB.at rfl)
          have ⟨c_HKx, z_HKx, f_HKx⟩ := HKx.out
          refine wpU_tail [12,13] _ _ _ _ rfl (by kernel_rfl) ?_
          go_wp2_with fail
          refine NoPanic.normal ?_
          clear c_HKx z_HKx f_HKx
          go_wp2_with fail
          go_meet
          have HO4 : Hid (Off DReplica.rep (fun x => x = w4.heap.size) w4 [.string z.base.name, .slice e1 z.base.items.length f1, .int .i64 z.base.auto, .int .i64 z.seen, .int .i64 z.sync.outbox.device, .int .i64 z.sync.outbox.next, .slice e2 z.sync.outbox.writes.length f2, .int .i64 z.sync.tries, .int .i64 z.sync.waitUntil] z) := Lib.hid (Off.of hg4 (fun x h1 h2 h3 => by omega))
          have HQ4 := Lib.hid (HBd.out.trans (hq4.mono hwz))
          exact ⟨w4.heap.size, e1, f1, e2, f2, rfl, rfl, WB.at rfl, HO4.out.below (belA belR), by have := hq4.size; omega, by have y := HQ4.out; exact bEb⟩
        case taab =>
          go_wp2_with fail
          refine HardPost.mk (chf_of (chgA Chg.refl)) ?_
          refine wpU_one 7 rfl (by kernel_rfl) ?_
          go_wp2_with fail
          refine (implWriteLocal _ _ r ⟨1, p, ⟨#[]⟩⟩ ⟨#[97]⟩ q _ (HF2.out.below (belA belR)) (pairKey _ p) HSm.out.1 (by have := HSm.out.2.1; omega) (by show 1 ≤ maxLen; decide)).mono ?_
          rintro e w4 ⟨ds, rfl, hg4, hb4⟩
          have hq4 : Below wd.heap.size wd w4 := below_call (belA belR) bSz hb4
          have hz4 := hb4.size
          rw [HZ.out] at hg4
          rw [HWB.out]
          obtain ⟨e1, f1, e2, f2, rfl⟩ := DReplica.fsh hg4
          have HKx : Hid (WB w4 wd.heap.size #[.string ⟨#[]⟩, .slice none 0 0, .int .i64 0, .int .i64 0, .int .i64 0, .int .i64 0, .slice none 0 0, .int .i64 0, .int .i64 0]) := Lib.hid ((WB.at rfl).keep hb4)
          have hzx := HKx.out.lt
          go_wp2_with fail
          refine HardPost.mk (chf_of (Chg.of_below hq4 (Nat.le_refl _))) ?_
          refine wpU_group (fun _ _ _ _ _ h => h) (by kernel_rfl) (chf_of (Chg.of_below hq4 (Nat.le_refl _))) [8,9,10] _ _ _ rfl (by kernel_rfl) ?_
          repeat (go_big_quiet_step (fail))
          refine wpQuiet_nil ?_
          have ⟨c_HKx, z_HKx, f_HKx⟩ := HKx.out
          refine wpU_tail [12,13] _ _ _ _ rfl (by kernel_rfl) ?_
          go_wp2_with fail
          refine NoPanic.normal ?_
          clear c_HKx z_HKx f_HKx
          go_wp2_with fail
          go_meet
          have HO4 : Hid (Off DReplica.rep (fun x => x = wd.heap.size) w4 [.string z.base.name, .slice e1 z.base.items.length f1, .int .i64 z.base.auto, .int .i64 z.seen, .int .i64 z.sync.outbox.device, .int .i64 z.sync.outbox.next, .slice e2 z.sync.outbox.writes.length f2, .int .i64 z.sync.tries, .int .i64 z.sync.waitUntil] z) := Lib.hid (Off.of hg4 (fun x h1 h2 h3 => by first | omega | (simp at h1; omega)))
          have HQ4 := Lib.hid (HBd.out.trans (hq4.mono hwz))
          exact ⟨wd.heap.size, e1, f1, e2, f2, rfl, rfl, set9r HKx.out, by repeat (first | with_reducible exact HO4.out | with_reducible refine Off.set ?_ rfl), hwz, by have y := HQ4.out; exact bEb⟩
      case tab =>
        go_wp2_with fail
        refine HardPost.mk (chf_of (chgA Chg.refl)) ?_
        refine wpU_one 6 rfl (by kernel_rfl) ?_
        go_wp2_with fail
        refine (lawAt _ l0 _ 1 (by omega) (by decide) hl0 _ (hkd.below (belA belR))).mono ?_
        rintro e w3 ⟨rfl, rfl⟩
        go_wp2_with fail
        refine HardPost.mk (chf_of (chgA Chg.refl)) ?_
        refine wpU_one 7 rfl (by kernel_rfl) ?_
        go_wp2_with fail
        refine (implWriteLocal _ _ r ⟨1, p, ⟨#[]⟩⟩ ⟨#[97]⟩ q _ (HF2.out.below (belA belR)) (pairKey _ p) HSm.out.1 (by have := HSm.out.2.1; omega) (by show 1 ≤ maxLen; decide)).mono ?_
        rintro e w4 ⟨ds, rfl, hg4, hb4⟩
        have hq4 : Below wd.heap.size wd w4 := below_call (belA belR) bSz hb4
        have hz4 := hb4.size
        rw [HZ.out] at hg4
        rw [HWB.out]
        obtain ⟨e1, f1, e2, f2, rfl⟩ := DReplica.fsh hg4
        have HKx : Hid (WB w4 wd.heap.size #[.string ⟨#[]⟩, .slice none 0 0, .int .i64 0, .int .i64 0, .int .i64 0, .int .i64 0, .slice none 0 0, .int .i64 0, .int .i64 0]) := Lib.hid ((WB.at rfl).keep hb4)
        have hzx := HKx.out.lt
        go_wp2_with fail
        refine HardPost.mk (chf_of (Chg.of_below hq4 (Nat.le_refl _))) ?_
        refine wpU_group (fun _ _ _ _ _ h => h) (by kernel_rfl) (chf_of (Chg.of_below hq4 (Nat.le_refl _))) [8,9,10] _ _ _ rfl (by kernel_rfl) ?_
        repeat (go_big_quiet_step (fail))
        refine wpQuiet_nil ?_
        have ⟨c_HKx, z_HKx, f_HKx⟩ := HKx.out
        refine wpU_tail [12,13] _ _ _ _ rfl (by kernel_rfl) ?_
        go_wp2_with fail
        refine NoPanic.normal ?_
        clear c_HKx z_HKx f_HKx
        go_wp2_with fail
        go_meet
        have HO4 : Hid (Off DReplica.rep (fun x => x = wd.heap.size) w4 [.string z.base.name, .slice e1 z.base.items.length f1, .int .i64 z.base.auto, .int .i64 z.seen, .int .i64 z.sync.outbox.device, .int .i64 z.sync.outbox.next, .slice e2 z.sync.outbox.writes.length f2, .int .i64 z.sync.tries, .int .i64 z.sync.waitUntil] z) := Lib.hid (Off.of hg4 (fun x h1 h2 h3 => by first | omega | (simp at h1; omega)))
        have HQ4 := Lib.hid (HBd.out.trans (hq4.mono hwz))
        exact ⟨wd.heap.size, e1, f1, e2, f2, rfl, rfl, set9r HKx.out, by repeat (first | with_reducible exact HO4.out | with_reducible refine Off.set ?_ rfl), hwz, by have y := HQ4.out; exact bEb⟩
    case tb =>
      go_wp2_with fail
      refine HardPost.mk (chf_of (chgA Chg.refl)) ?_
      refine wpU_one 2 rfl (by kernel_rfl) ?_
      go_wp2_with fail
      refine (lawAt _ l0 _ 0 (by omega) (by decide) hl0 _ (hkd.below (belA belR))).mono ?_
      rintro e w3 ⟨rfl, rfl⟩
      go_wp2_with fail
      refine HardPost.mk (chf_of (chgA Chg.refl)) ?_
      refine wpU_group (fun _ _ _ _ _ h => h) (by kernel_rfl) (chf_of (chgA Chg.refl)) [3,4] _ _ _ rfl (by kernel_rfl) ?_
      repeat (go_big_quiet_step (fail))
      refine wpQuiet_nil ?_
      refine wpU_one 6 rfl (by kernel_rfl) ?_
      go_wp2_with fail
      refine (lawAt _ l0 _ 1 (by omega) (by decide) hl0 _ (hkd.below (belA belR))).mono ?_
      rintro e w3 ⟨rfl, rfl⟩
      go_wp2_with fail
      refine HardPost.mk (chf_of (chgA Chg.refl)) ?_
      refine wpU_one 7 rfl (by kernel_rfl) ?_
      go_wp2_with fail
      refine (implWriteLocal _ _ r ⟨1, p, ⟨#[]⟩⟩ ⟨#[97]⟩ q _ (HF2.out.below (belA belR)) (pairKey _ p) HSm.out.1 (by have := HSm.out.2.1; omega) (by show 1 ≤ maxLen; decide)).mono ?_
      rintro e w4 ⟨ds, rfl, hg4, hb4⟩
      have hq4 : Below wd.heap.size wd w4 := below_call (belA belR) bSz hb4
      have hz4 := hb4.size
      rw [HZ.out] at hg4
      rw [HWB.out]
      obtain ⟨e1, f1, e2, f2, rfl⟩ := DReplica.fsh hg4
      have HKx : Hid (WB w4 wd.heap.size #[.string ⟨#[]⟩, .slice none 0 0, .int .i64 0, .int .i64 0, .int .i64 0, .int .i64 0, .slice none 0 0, .int .i64 0, .int .i64 0]) := Lib.hid ((WB.at rfl).keep hb4)
      have hzx := HKx.out.lt
      go_wp2_with fail
      refine HardPost.mk (chf_of (Chg.of_below hq4 (Nat.le_refl _))) ?_
      refine wpU_group (fun _ _ _ _ _ h => h) (by kernel_rfl) (chf_of (Chg.of_below hq4 (Nat.le_refl _))) [8,9,10] _ _ _ rfl (by kernel_rfl) ?_
      repeat (go_big_quiet_step (fail))
      refine wpQuiet_nil ?_
      have ⟨c_HKx, z_HKx, f_HKx⟩ := HKx.out
      refine wpU_tail [12,13] _ _ _ _ rfl (by kernel_rfl) ?_
      go_wp2_with fail
      refine NoPanic.normal ?_
      clear c_HKx z_HKx f_HKx
      go_wp2_with fail
      go_meet
      have HO4 : Hid (Off DReplica.rep (fun x => x = wd.heap.size) w4 [.string z.base.name, .slice e1 z.base.items.length f1, .int .i64 z.base.auto, .int .i64 z.seen, .int .i64 z.sync.outbox.device, .int .i64 z.sync.outbox.next, .slice e2 z.sync.outbox.writes.length f2, .int .i64 z.sync.tries, .int .i64 z.sync.waitUntil] z) := Lib.hid (Off.of hg4 (fun x h1 h2 h3 => by first | omega | (simp at h1; omega)))
      have HQ4 := Lib.hid (HBd.out.trans (hq4.mono hwz))
      exact ⟨wd.heap.size, e1, f1, e2, f2, rfl, rfl, set9r HKx.out, by repeat (first | with_reducible exact HO4.out | with_reducible refine Off.set ?_ rfl), hwz, by have y := HQ4.out; exact bEb⟩
  case rest =>
    obtain ⟨kx, e1, f1, e2, f2, rfl, rfl, hz5, hf5, hkx, hb5⟩ := hcut
    have HZ5 := Lib.hid hz5
    have HF5 := Lib.hid hf5
    replace HX := Lib.hid (HX.out.keep hb5)
    replace HG := Lib.hid (HG.out.below hb5)
    replace HB := Lib.hid (HB.out.trans (hb5.mono HB.out.size))
    replace HY := Lib.hid (HY.out.keep hb5)
    clear hz5 hf5 hb5 HF
    have HOz : Hid (RepOk (b + 1) z s ∧ z.seen = r.seen) := Lib.hid (by rw [← HZ.out]; exact ⟨HOk.out.write _ _ _, write_seen⟩)
    have hsmz := HOz.out.1.small (by omega)
    have HSz := Lib.hid hsmz
    clear hsmz
    cases wb
    case' false =>
      go_upto_region 13 with fail
      refine settle (fun W => Below wc.heap.size wc W) belR ?_
    case' true =>
      obtain ⟨R, hR1, hR2⟩ := written_found HWB.out
      rw [HZ.out] at hR2
      obtain ⟨L, hL⟩ : ∃ L, localStoreF z = L := ⟨_, rfl⟩
      rw [hL] at hR2
      obtain ⟨i, hi, hidx, hrec⟩ := idx_find hR2
      have HL := Lib.hid hL
      have HI := Lib.hid hidx
      have HG1 : Hid (getHit L.items[i].record ⟨#[97]⟩ = some q) := Lib.hid (by rw [hrec]; exact hR1)
      clear hR1 hR2 hL hidx hrec
      have ⟨c_HZ5, z_HZ5, f_HZ5⟩ := HZ5.out
      go_wp2_with fail
      refine (implLocalStore _ z _ HF5.out.reads HSz.out.1).mono ?_
      rintro e w6 ⟨ds, rfl, hl6, hb⟩
      clear c_HZ5 z_HZ5 f_HZ5
      rw [HL.out] at hl6
      obtain ⟨g0, h0, rfl⟩ := DStore.fsh hl6
      have HL6 := Lib.hid hl6.reads
      have HB6 := Lib.hid hb
      clear hl6 hb
      go_upto_region 7 with fail
      refine settle (fun W => WB W w6.heap.size #[.string L.name, .slice g0 L.items.length h0, .int .i64 L.auto] ∧ Below w6.heap.size w6 W) ⟨WB.at rfl, bEl⟩ ?_
      rintro w7 ⟨hx7, hb⟩
      have HX7 := Lib.hid hx7
      replace HL6 := Lib.hid (HL6.out.below hb)
      replace HB6 := Lib.hid (HB6.out.trans (hb.mono HB6.out.size))
      clear hx7 hb
      have hk7 : Reads Rep.bytes w7 _ l0 := HK.out.below (HB.out.trans (HB6.out.mono HB.out.size))
      have HK7 := Lib.hid hk7
      clear hk7
      have K0 := rg_var HX7.out
      refine wp_region_rg (by kernel_rfl) (by kernel_rfl) ?_
      repeat (go_big_quiet_step ((first | (go_at_call 21; exact calls_rgSame (lawAt _ l0 _ 0 (by omega) (by decide) hl0 _ (HK7.out.below (rg_below _ _)))) | (go_at_call 26; exact calls_rg (findAs _ _ L ⟨1, p, ⟨#[]⟩⟩ i HI.out _ (HL6.out.below (rg_below _ _)) (pairKey _ p))))))
      refine wpQuiet_nil ?_
      rintro _ ⟨pq, rfl⟩
      have hb := rg_below w7 pq
      generalize rg w7 pq = w8 at *
      clear K0
      replace HX7 := Lib.hid (HX7.out.keep hb)
      replace HL6 := Lib.hid (HL6.out.below hb)
      replace HB6 := Lib.hid (HB6.out.trans (hb.mono HB6.out.size))
      have HK8 := Lib.hid (HK7.out.below hb)
      clear hb HK7
      have j1 : (0 : Int) ≤ (i : Int) := by omega
      have j2 : (i : Int) < (L.items.length : Int) := by omega
      have HIt : Hid (Reads (Rep.slice 71 DItem.rep) w8 [.slice g0 L.items.length h0] L.items) := Lib.hid (store_items HL6.out)
      obtain ⟨d, off, cs_d, rfl, hw_d, hr_d, hcell_d⟩ := slice_at HIt.out i hi
      obtain ⟨fe_d, hrd_d⟩ := hr_d
      have HR_d : Hid (Reads DItem.rep w8 cs_d L.items[i]) := ⟨_, hrd_d⟩
      obtain ⟨d_v1, d_f1, rfl, _, d_s0, d_r1⟩ := DItem.rd.1 hrd_d
      obtain ⟨d_a1, d_k1, rfl, _⟩ := slice_open d_r1
      have d_R1 : Hid (Reads (Rep.slice 112 DField.rep) w8 [.slice d_a1 L.items[i].record.fields.length d_k1] L.items[i].record.fields) := ⟨_, d_r1⟩
      clear d_r1
      clear hrd_d
      have d_c0 : w8.cell? ⟨d, off + i * 4, none⟩ = some (.int .i64 L.items[i].key.kind) := hcell_d 0 (by decide)
      have d_c1 : w8.cell? ⟨d, off + i * 4 + 1, none⟩ = some (.int .i64 L.items[i].key.n) := hcell_d 1 (by decide)
      have d_c2 : w8.cell? ⟨d, off + i * 4 + 2, none⟩ = some (.string L.items[i].key.text) := hcell_d 2 (by decide)
      have d_c3 : w8.cell? ⟨d, off + i * 4 + 3, none⟩ = some (.slice d_a1 L.items[i].record.fields.length d_k1) := hcell_d 3 (by decide)
      clear hcell_d
      have ⟨c_HX7, z_HX7, f_HX7⟩ := HX7.out
      go_wp2_with fail
      refine (specGetField _ L.items[i].record ⟨#[97]⟩ q HG1.out _ (d_R1.out.below bEl)).mono ?_
      rintro e w9 ⟨rfl, hb⟩
      clear c_HX7 z_HX7 f_HX7
      replace HB6 := Lib.hid (HB6.out.trans (hb.mono HB6.out.size))
      replace HK8 := Lib.hid (HK8.out.below hb)
      clear hb d_c0 d_c1 d_c2 d_c3 HR_d d_R1 HIt HX7 HL6
      go_wp2_with fail
      refine (lawAt _ l0 _ 1 (by omega) (by decide) hl0 _ HK8.out).mono ?_
      rintro e w' ⟨rfl, rfl⟩
      go_upto_region 13 with fail
      refine settle (fun W => Below wc.heap.size wc W) HB6.out ?_
      clear HB6 HK8 HG1 HI HL
    all_goals
      rintro w10 hb
      replace HX := Lib.hid (HX.out.keep hb)
      replace HY := Lib.hid (HY.out.keep hb)
      replace HZ5 := Lib.hid (HZ5.out.keep hb)
      replace HF5 := Lib.hid (HF5.out.below hb)
      replace HG := Lib.hid (HG.out.below hb)
      replace HB := Lib.hid (HB.out.trans (hb.mono HB.out.size))
      clear hb
      have hzk : kx < w10.heap.size := HZ5.out.lt
      have ⟨c_HY, z_HY, f_HY⟩ := HY.out
      have ⟨c_HZ5, z_HZ5, f_HZ5⟩ := HZ5.out
      go_wp2_with fail
      refine (implDrainSync _ _ z.sync s z.sync.waitUntil _ (sync_reads HF5.out.reads).1 HG.out (by have := HSz.out.2.1; omega) (HSz.out.2.2.1.mono (by omega))).mono ?_
      rintro e w11 ⟨ds, dv, rfl, hf2, hb⟩
      clear c_HY z_HY f_HY c_HZ5 z_HZ5 f_HZ5
      have hfy := hf2.left
      have hfs := hf2.right
      obtain ⟨y, hy⟩ : ∃ y, (drainF z.sync s z.sync.waitUntil).1 = y := ⟨_, rfl⟩
      obtain ⟨u, hu⟩ : ∃ u, (drainF z.sync s z.sync.waitUntil).2 = u := ⟨_, rfl⟩
      obtain ⟨⟨E1, E2⟩, ⟨E3, E4⟩, E5, E6, E7, E8, E9⟩ := rep_end HOz.out.1 (by omega) hy hu
      rw [hy] at hfy
      rw [hu] at hfs
      clear hf2 hy hu
      obtain ⟨x2, hx2⟩ : ∃ x2 : DReplica, x2 = ⟨u.store, (u.changes.length : Int), y⟩ := ⟨_, rfl⟩
      rw [← hx2] at E2 E3 E4 E5 E6
      have F7 : Hid (SmallStore x2.base ∧ x2.sync.outbox.writes.length = 0 ∧ x2.seen = (u.changes.length : Int)) := Lib.hid (by rw [hx2]; exact ⟨E7, E8, rfl⟩)
      have E1 := E1.trans (show (u.changes.length : Int) - z.seen = (u.changes.length : Int) - r.seen by rw [HOz.out.2])
      clear E7 hx2
      have F2 := Lib.hid E2
      have F4 := Lib.hid E4
      have F5 := Lib.hid E5
      have F6 := Lib.hid E6
      have F1 := Lib.hid E1
      have F3 := Lib.hid E3
      have F8 := Lib.hid E8
      clear E1 E2 E3 E4 E5 E6 E8
      obtain ⟨e3, f3, rfl⟩ := DSync.fsh hfy
      obtain ⟨g1, h1, g2, h2, g3, h3, rfl⟩ := DServer.fsh hfs
      replace HX := Lib.hid (HX.out.keep hb)
      replace HZ5 := Lib.hid (HZ5.out.keep hb)
      replace HF5 := Lib.hid (HF5.out.below hb)
      replace HB := Lib.hid (HB.out.trans (hb.mono HB.out.size))
      have hsz11 := hb.size
      have HYs : Hid (Off DSync.rep (fun x => x = kx) w11 [.int .i64 y.outbox.device, .int .i64 y.outbox.next, .slice e3 y.outbox.writes.length f3, .int .i64 y.tries, .int .i64 y.waitUntil] y) := Lib.hid (Off.of hfy (fun x h1 h2 h3 => by omega))
      have HUs : Hid (Off DServer.rep (fun x => x = kx) w11 [.string u.store.name, .slice g1 u.store.items.length h1, .int .i64 u.store.auto, .slice g2 u.applied.length h2, .slice g3 u.changes.length h3] u) := Lib.hid (Off.of hfs (fun x h1 h2 h3 => by omega))
      clear hfy hfs hb HG HY
      go_upto_region 14 with fail
      refine settle (fun W => WB W w11.heap.size #[.int .i64 y.outbox.device, .int .i64 y.outbox.next, .slice e3 y.outbox.writes.length f3, .int .i64 y.tries, .int .i64 y.waitUntil] ∧ WB W (w11.heap.size + 1) #[.string u.store.name, .slice g1 u.store.items.length h1, .int .i64 u.store.auto, .slice g2 u.applied.length h2, .slice g3 u.changes.length h3] ∧ Below w11.heap.size w11 W) ⟨(WB.at rfl).growA, WB.at (by simp), bEl⟩ ?_
      rintro w12 ⟨ha, hc, hb⟩
      have HA := Lib.hid ha
      have HC := Lib.hid hc
      replace HX := Lib.hid (HX.out.keep hb)
      replace HZ5 := Lib.hid (HZ5.out.keep hb)
      replace HF5 := Lib.hid (HF5.out.below hb)
      replace HYs := Lib.hid (HYs.out.below hb)
      replace HUs := Lib.hid (HUs.out.below hb)
      replace HB := Lib.hid (HB.out.trans (hb.mono HB.out.size))
      clear ha hc hb
      have HJ := Lib.hid (Off.replica (n := z.seen) HF5.out.replicaParts.1 HYs.out)
      have ⟨c_HA, z_HA, f_HA⟩ := HA.out
      have ⟨c_HZ5, z_HZ5, f_HZ5⟩ := HZ5.out
      go_upto_region 15 with fail
      clear c_HA z_HA f_HA c_HZ5 z_HZ5 f_HZ5
      refine settle (fun W => WB W kx #[.string z.base.name, .slice e1 z.base.items.length f1, .int .i64 z.base.auto, .int .i64 z.seen, .int .i64 y.outbox.device, .int .i64 y.outbox.next, .slice e3 y.outbox.writes.length f3, .int .i64 y.tries, .int .i64 y.waitUntil] ∧ WB W w1.heap.size #[.string r.base.name, .slice a1 r.base.items.length c1, .int .i64 r.base.auto, .int .i64 r.seen, .int .i64 r.sync.outbox.device, .int .i64 r.sync.outbox.next, .slice a2 r.sync.outbox.writes.length c2, .int .i64 r.sync.tries, .int .i64 r.sync.waitUntil] ∧ WB W (w11.heap.size + 1) #[.string u.store.name, .slice g1 u.store.items.length h1, .int .i64 u.store.auto, .slice g2 u.applied.length h2, .slice g3 u.changes.length h3] ∧ Reads DReplica.rep W [.string z.base.name, .slice e1 z.base.items.length f1, .int .i64 z.base.auto, .int .i64 z.seen, .int .i64 y.outbox.device, .int .i64 y.outbox.next, .slice e3 y.outbox.writes.length f3, .int .i64 y.tries, .int .i64 y.waitUntil] ⟨z.base, z.seen, y⟩ ∧ Reads DServer.rep W [.string u.store.name, .slice g1 u.store.items.length h1, .int .i64 u.store.auto, .slice g2 u.applied.length h2, .slice g3 u.changes.length h3] u ∧ Below w.heap.size w W) ⟨set5at4 HZ5.out, off5at4 HX.out (by omega), off5at4 HC.out (by omega), Off.reads (K := fun x => x = kx) (by repeat (first | with_reducible exact HJ.out | with_reducible refine Off.set ?_ rfl)), Off.reads (K := fun x => x = kx) (by repeat (first | with_reducible exact HUs.out | with_reducible refine Off.set ?_ rfl)), by have z9 := HB.out; exact bEb⟩ ?_
      clear HX HZ5 HA HC HJ HUs HYs HF5 HB
      rintro w13 ⟨hz, hx, hc, hr, hu, hb⟩
      have HZ6 := Lib.hid hz
      have HX := Lib.hid hx
      have HC := Lib.hid hc
      have HR := Lib.hid hr
      have HU := Lib.hid hu
      have HB := Lib.hid hb
      clear hz hx hc hr hu hb
      have ⟨c_HZ6, z_HZ6, f_HZ6⟩ := HZ6.out
      have ⟨c_HC, z_HC, f_HC⟩ := HC.out
      go_wp2_with fail
      refine (implPullChanges _ _ ⟨z.base, z.seen, y⟩ u _ HR.out HU.out HSz.out.1 (by show y.outbox.writes.length ≤ 1048576; have := F8.out; omega)).mono ?_
      rintro e w14 ⟨ds, rfl, hg, hb⟩
      clear c_HZ6 z_HZ6 f_HZ6 c_HC z_HC f_HC
      rw [F2.out] at hg
      rw [F1.out]
      obtain ⟨i1, j1, i2, j2, rfl⟩ := DReplica.fsh hg
      replace HX := Lib.hid (HX.out.keep hb)
      replace HC := Lib.hid (HC.out.keep hb)
      replace HU := Lib.hid (HU.out.below hb)
      replace HB := Lib.hid (HB.out.trans (hb.mono HB.out.size))
      have HQ1 := Lib.hid hg.reads
      clear hb hg HZ6 HR
      go_upto_region 16 with fail
      refine settle (fun W => WB W w14.heap.size #[.string x2.base.name, .slice i1 x2.base.items.length j1, .int .i64 x2.base.auto, .int .i64 x2.seen, .int .i64 x2.sync.outbox.device, .int .i64 x2.sync.outbox.next, .slice i2 x2.sync.outbox.writes.length j2, .int .i64 x2.sync.tries, .int .i64 x2.sync.waitUntil] ∧ Below w14.heap.size w14 W) ⟨WB.at rfl, bEl⟩ ?_
      rintro w15 ⟨hz, hb⟩
      have HZ7 := Lib.hid hz
      replace HX := Lib.hid (HX.out.keep hb)
      replace HC := Lib.hid (HC.out.keep hb)
      replace HU := Lib.hid (HU.out.below hb)
      replace HQ1 := Lib.hid (HQ1.out.below hb)
      replace HB := Lib.hid (HB.out.trans (hb.mono HB.out.size))
      clear hz hb
      have ⟨c_HZ7, z_HZ7, f_HZ7⟩ := HZ7.out
      have ⟨c_HC, z_HC, f_HC⟩ := HC.out
      go_wp2_with fail
      refine (implPullChanges _ _ x2 u _ HQ1.out HU.out F7.out.1 (by have := F7.out.2.1; omega)).mono ?_
      rintro e w16 ⟨ds, rfl, hg, hb⟩
      clear c_HZ7 z_HZ7 f_HZ7 c_HC z_HC f_HC
      rw [F4.out] at hg
      rw [F3.out]
      obtain ⟨i3, j3, i4, j4, rfl⟩ := DReplica.fsh hg
      replace HX := Lib.hid (HX.out.keep hb)
      replace HC := Lib.hid (HC.out.keep hb)
      replace HZ7 := Lib.hid (HZ7.out.keep hb)
      replace HU := Lib.hid (HU.out.below hb)
      replace HQ1 := Lib.hid (HQ1.out.below hb)
      replace HB := Lib.hid (HB.out.trans (hb.mono HB.out.size))
      have HQ2 := Lib.hid hg.reads
      clear hb hg
      go_upto_region 17 with fail
      refine settle (fun W => WB W w16.heap.size #[.string x2.base.name, .slice i3 x2.base.items.length j3, .int .i64 x2.base.auto, .int .i64 x2.seen, .int .i64 x2.sync.outbox.device, .int .i64 x2.sync.outbox.next, .slice i4 x2.sync.outbox.writes.length j4, .int .i64 x2.sync.tries, .int .i64 x2.sync.waitUntil] ∧ Below w16.heap.size w16 W) ⟨WB.at rfl, bEl⟩ ?_
      rintro w17 ⟨hz, hb⟩
      have HZ8 := Lib.hid hz
      replace HX := Lib.hid (HX.out.keep hb)
      replace HC := Lib.hid (HC.out.keep hb)
      replace HZ7 := Lib.hid (HZ7.out.keep hb)
      replace HU := Lib.hid (HU.out.below hb)
      replace HQ1 := Lib.hid (HQ1.out.below hb)
      replace HQ2 := Lib.hid (HQ2.out.below hb)
      replace HB := Lib.hid (HB.out.trans (hb.mono HB.out.size))
      clear hz hb
      refine wp_region_chf [] [] (by kernel_rfl) ?_
      intro wd hbd
      have hwz := hbd.size
      replace HX := Lib.hid (HX.out.keep hbd)
      replace HC := Lib.hid (HC.out.keep hbd)
      replace HZ7 := Lib.hid (HZ7.out.keep hbd)
      replace HZ8 := Lib.hid (HZ8.out.keep hbd)
      replace HU := Lib.hid (HU.out.below hbd)
      replace HQ1 := Lib.hid (HQ1.out.below hbd)
      replace HQ2 := Lib.hid (HQ2.out.below hbd)
      replace HB := Lib.hid (HB.out.trans (hbd.mono HB.out.size))
      clear hbd
      have hne : Nonempty (ChgdF [] wd) := ⟨⟨wd, Chg.refl⟩⟩
      have wn : IntKind.i64.wrap ((u.changes.length : Int) - r.seen) = (u.changes.length : Int) - r.seen := Go.IntWalk.i64_in _ (by have := HOk.out.seen; have := HOk.out.changes; omega)
      have wn2 : wrap64 ((u.changes.length : Int) - r.seen) = (u.changes.length : Int) - r.seen := Go.IntWalk.wrap64_in _ (by have := HOk.out.seen; have := HOk.out.changes; omega)
      have K_HC := chf_var (fp := []) HC.out (by simp)
      have K_HX := chf_var (fp := []) HX.out (by simp)
      have K_HZ7 := chf_var (fp := []) HZ7.out (by simp)
      have K_HZ8 := chf_var (fp := []) HZ8.out (by simp)
      refine wpU_group (fun _ _ _ _ _ h => h) (by kernel_rfl) (chf_of Chg.refl) [0,1,2,4,5] _ _ _ rfl (by kernel_rfl) ?_
      repeat (go_big_quiet_step (fail))
      refine wpQuiet_nil ?_
      refine wpU_one 3 rfl (by kernel_rfl) ?_
      go_wp2_with fail
      refine HardPost.mk (chf_of Chg.refl) ?_
      refine wpU_group (fun _ _ _ _ _ h => h) (by kernel_rfl) (chf_of Chg.refl) [6,7,8] _ _ _ rfl (by kernel_rfl) ?_
      repeat (go_big_quiet_step (fail))
      refine wpQuiet_nil ?_
      refine wpU_group (fun _ _ _ _ _ h => h) (by kernel_rfl) (chf_of Chg.refl) [9] _ _ _ rfl (by kernel_rfl) ?_
      repeat (go_big_quiet_step (fail))
      refine wpQuiet_nil ?_
      refine wpU_one 10 rfl (by kernel_rfl) ?_
      go_wp2_with fail
      refine (implIsConfirmed _ x2 _ HQ1.out).mono ?_
      rintro e w18 ⟨rfl, hb⟩
      rw [F5.out]
      have q18 : Below wd.heap.size wd w18 := hb
      have cc18 : Chg [] wd w18 := Chg.of_below q18 (Nat.le_refl _)
      go_wp2_with fail
      refine HardPost.mk (chf_of cc18) ?_
      refine wpU_one 11 rfl (by kernel_rfl) ?_
      go_wp2_with fail
      refine HardPost.mk (chf_of cc18) ?_
      refine wpU_group (fun _ _ _ _ _ h => h) (by kernel_rfl) (chf_of cc18) [12] _ _ _ rfl (by kernel_rfl) ?_
      repeat (go_big_quiet_step (fail))
      refine wpQuiet_nil ?_
      refine wpU_group (fun _ _ _ _ _ h => h) (by kernel_rfl) (chf_of cc18) [13,15,16] _ _ _ rfl (by kernel_rfl) ?_
      repeat (go_big_quiet_step (fail))
      refine wpQuiet_nil ?_
      refine wpU_one 14 rfl (by kernel_rfl) ?_
      go_wp2_with fail
      refine (implLocalStore _ x2 _ (HQ1.out.below q18) F7.out.1).mono ?_
      rintro e w19 ⟨ds, rfl, hl, hb⟩
      rw [F6.out] at hl
      obtain ⟨m1', n1', rfl⟩ := DStore.fsh hl
      have q19 : Below wd.heap.size wd w19 := below_call q18 q18.size hb
      have cc19 : Chg [] wd w19 := Chg.of_below q19 (Nat.le_refl _)
      go_wp2_with fail
      refine HardPost.mk (chf_of cc19) ?_
      refine wpU_one 17 rfl (by kernel_rfl) ?_
      go_wp2_with fail
      refine (specEqualStores _ _ u.store u.store _ hl.reads (server_store (HU.out.below q19))).mono ?_
      rintro e w20 ⟨rfl, hb⟩
      rw [equal_stores]
      have q20 : Below wd.heap.size wd w20 := below_call q19 q19.size hb
      have cc20 : Chg [] wd w20 := Chg.of_below q20 (Nat.le_refl _)
      go_wp2_with fail
      refine HardPost.mk (chf_of cc20) ?_
      refine wpU_one 18 rfl (by kernel_rfl) ?_
      go_wp2_with fail
      refine HardPost.mk (chf_of cc20) ?_
      refine wpU_group (fun _ _ _ _ _ h => h) (by kernel_rfl) (chf_of cc20) [19] _ _ _ rfl (by kernel_rfl) ?_
      repeat (go_big_quiet_step (fail))
      refine wpQuiet_nil ?_
      refine wpU_group (fun _ _ _ _ _ h => h) (by kernel_rfl) (chf_of cc20) [20,21,22,23] _ _ _ rfl (by kernel_rfl) ?_
      repeat (go_big_quiet_step (fail))
      refine wpQuiet_nil ?_
      refine wpU_one 24 rfl (by kernel_rfl) ?_
      go_wp2_with fail
      refine HardPost.mk (chf_of cc20) ?_
      have hseen := F7.out.2.2
      refine wpU_group (fun _ _ _ _ _ h => h) (by kernel_rfl) (chf_of cc20) [25] _ _ _ rfl (by kernel_rfl) ?_
      repeat (go_big_quiet_step (fail))
      refine wpQuiet_nil ?_
      clear hseen
      refine wpU_one 26 rfl (by kernel_rfl) ?_
      go_wp2_with fail
      refine HardPost.mk (chf_of cc20) ?_
      refine wpU_group (fun _ _ _ _ _ h => h) (by kernel_rfl) (chf_of cc20) [27] _ _ _ rfl (by kernel_rfl) ?_
      repeat (go_big_quiet_step (fail))
      refine wpQuiet_nil ?_
      refine wpU_group (fun _ _ _ _ _ h => h) (by kernel_rfl) (chf_of cc20) [28,29] _ _ _ rfl (by kernel_rfl) ?_
      repeat (go_big_quiet_step (fail))
      refine wpQuiet_nil ?_
      refine wpU_one 30 rfl (by kernel_rfl) ?_
      go_wp2_with fail
      refine HardPost.mk (chf_of cc20) ?_
      refine wpU_group (fun _ _ _ _ _ h => h) (by kernel_rfl) (chf_of cc20) [31] _ _ _ rfl (by kernel_rfl) ?_
      repeat (go_big_quiet_step (fail))
      refine wpQuiet_nil ?_
      refine wpU_group (fun _ _ _ _ _ h => h) (by kernel_rfl) (chf_of cc20) [32,33] _ _ _ rfl (by kernel_rfl) ?_
      repeat (go_big_quiet_step (fail))
      refine wpQuiet_nil ?_
      refine wpU_one 34 rfl (by kernel_rfl) ?_
      go_wp2_with fail
      refine (implEqualReplicas _ _ x2 x2 _ (HQ2.out.below q20) (HQ1.out.below q20)).mono ?_
      rintro e w21 ⟨rfl, hb⟩
      rw [equal_reps]
      have q21 : Below wd.heap.size wd w21 := below_call q20 q20.size hb
      have cc21 : Chg [] wd w21 := Chg.of_below q21 (Nat.le_refl _)
      go_wp2_with fail
      refine HardPost.mk (chf_of cc21) ?_
      refine wpU_one 35 rfl (by kernel_rfl) ?_
      go_wp2_with fail
      refine HardPost.mk (chf_of cc21) ?_
      refine wpU_group (fun _ _ _ _ _ h => h) (by kernel_rfl) (chf_of cc21) [36] _ _ _ rfl (by kernel_rfl) ?_
      repeat (go_big_quiet_step (fail))
      refine wpQuiet_nil ?_
      refine wpU_tail [] _ _ _ _ rfl (by kernel_rfl) ?_
      go_wp2_with fail
      refine NoPanic.normal ?_
      go_wp2
      go_ret
      exact ⟨rfl, HB.out.trans (q21.mono HB.out.size)⟩

end Go.Proofs.YtlfebehpmefioaaGreat
