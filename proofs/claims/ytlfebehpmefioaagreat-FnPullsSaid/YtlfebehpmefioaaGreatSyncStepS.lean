/-
 spec.Min, spec.SyncStep.
-/
import Derived.Test.YtlfebehpmefioaaGreatSyncStep
import Derived.Test.YtlfebehpmefioaaGreatReceiveS
namespace Go.Proofs.YtlfebehpmefioaaGreat
open Go.RowKit

def minF (a b : Int) : Int := if b < a then b else a
theorem tried_min2 {t : Int} (h : -9223372036854775808 ≤ t) : minF 60 (wrap64 (minF 59 t + 1)) = tried t := by
 unfold tried minF
 by_cases h1 : t < 59
 ·rw [if_pos h1, Go.IntWalk.wrap64_in _ (by omega), if_pos (by omega), if_pos (by omega)]
 ·rw [if_neg h1, Go.IntWalk.wrap64_in _ (by omega), if_neg (by omega)]
  split
  ·rw [show t = 59 by omega, Go.IntWalk.wrap64_in _ (by omega)]; decide
  ·rfl
attribute [local irreducible] isOutboxF firstWriteF firstWriteB receiveF receiveCode stepSrv stepCode stepAcked ackWritesF boff

set_option maxHeartbeats 400000 in
theorem specMin (a b : Int) (w : World) :
  Calls Tryz.prog 149 #[.int .i64 a, .int .i64 b] w fun e w' => e = .returned (.int .i64 (minF a b)) ∧ w = w' := by
 by_cases h : b < a
 ·have hm : Hid (minF a b = b) := Lib.hid (if_pos h)
  go_enter Tryz.func149, Tryz.ntmps149
  go_wp2
  go_ret
  exact ⟨ret_int hm.out.symm, rfl⟩
 ·have hm : Hid (minF a b = a) := Lib.hid (if_neg h)
  go_enter Tryz.func149, Tryz.ntmps149
  go_wp2
  go_ret
  exact ⟨ret_int hm.out.symm, rfl⟩

set_option maxRecDepth 100000 in
set_option maxHeartbeats 16000000 in
theorem specSyncStep (cs cv : List Value) (y : DSync) (s : DServer) (now fate : Int) (w : World) (h : Reads DSync.rep w cs y) (h' : Reads DServer.rep w cv s) (hy : y.outbox.writes.length ≤ 1048590) (hs : SmallServer s 1048900) (ht : -9223372036854775808 ≤ y.tries) :
  Calls Tryz.prog 114 #[.agg cs.toArray, .agg cv.toArray, .int .i64 now, .int .i64 fate] w fun e w' => ∃ ds dv, e = .returned (.tuple #[.agg ds.toArray, .agg dv.toArray, .int .i64 (syncStepN y s now fate)]) ∧ Fresh2 DSync.rep DServer.rep w.heap.size w' ds dv (syncStepY y s now fate) (syncStepS y s now fate) ∧ Below w.heap.size w w' := by
 have HYr := Lib.hid h
 have HSr := Lib.hid h'
 obtain ⟨fp_q, h⟩ := h
 obtain ⟨q_v1, q_f1, rfl, _, q_r1⟩ := DSync.rd.1 h
 obtain ⟨q_a1, q_c1, rfl, q_hm1, q_lc1, q_hu1⟩ := slice_open q_r1; clear q_hu1
 have q_K1 : Hid (Reads (Rep.slice 34 DWrite.rep) w [.slice q_a1 y.outbox.writes.length q_c1] y.outbox.writes) := ⟨_, q_r1⟩
 clear q_r1 h
 obtain ⟨fp_p, h'⟩ := h'
 obtain ⟨p_v1, p_v2, p_v3, p_f1, p_f2, p_f3, rfl, _, p_s0, p_r1, p_r2, p_r3⟩ := DServer.rd.1 h'
 obtain ⟨p_a1, p_c1, rfl, p_hm1, p_lc1, p_hu1⟩ := slice_open p_r1; clear p_hu1
 have p_K1 : Hid (Reads (Rep.slice 71 DItem.rep) w [.slice p_a1 s.store.items.length p_c1] s.store.items) := ⟨_, p_r1⟩
 obtain ⟨p_a2, p_c2, rfl, p_hm2, p_lc2, p_hu2⟩ := slice_open p_r2; clear p_hu2
 have p_K2 : Hid (Reads (Rep.slice 89 DApplied.rep) w [.slice p_a2 s.applied.length p_c2] s.applied) := ⟨_, p_r2⟩
 obtain ⟨p_a3, p_c3, rfl, p_hm3, p_lc3, p_hu3⟩ := slice_open p_r3; clear p_hu3
 have p_K3 : Hid (Reads (Rep.slice 34 DWrite.rep) w [.slice p_a3 s.changes.length p_c3] s.changes) := ⟨_, p_r3⟩
 clear p_r1 p_r2 p_r3 h'
 have HOb : Hid (Reads DOutbox.rep w [.int .i64 y.outbox.device, .int .i64 y.outbox.next, .slice q_a1 y.outbox.writes.length q_c1] y.outbox) := by
  obtain ⟨f, r⟩ := q_K1.out
  exact ⟨f, DOutbox.rd.2 ⟨_, _, rfl, rfl, r⟩⟩
 go_enter Tryz.func114, Tryz.ntmps114
 go_wp2_with fail
 refine (specCopySync _ y _ (HYr.out.below bEl) (by omega)).mono ?_
 rintro e w1 ⟨ds, rfl, hf, hb⟩
 obtain ⟨a1, c1, rfl, hfw⟩ := DSync.fopen hf
 have HX : Hid (WB w1 w.heap.size #[.int .i64 y.outbox.device, .int .i64 y.outbox.next, .slice q_a1 y.outbox.writes.length q_c1, .int .i64 y.tries, .int .i64 y.waitUntil]) := Lib.hid (((((WB.at rfl).growA).growA).growA).keep hb)
 have HV : Hid (WB w1 (w.heap.size + 1) #[.string s.store.name, .slice p_a1 s.store.items.length p_c1, .int .i64 s.store.auto, .slice p_a2 s.applied.length p_c2, .slice p_a3 s.changes.length p_c3]) := Lib.hid ((((WB.at (by simp)).growA).growA).keep hb)
 have HT : Hid (WB w1 (w.heap.size + 2) #[.int .i64 0, .int .i64 0, .slice none 0 0, .int .i64 0, .int .i64 0]) := Lib.hid (((WB.at (by simp)).growA).keep hb)
 have HU : Hid (WB w1 (w.heap.size + 3) #[.string ⟨#[]⟩, .slice none 0 0, .int .i64 0, .slice none 0 0, .slice none 0 0]) := Lib.hid ((WB.at (by simp)).keep hb)
 have HB : Hid (Below w.heap.size w w1) := Lib.hid (below_call bEl bSz hb)
 have HP : Hid (Part (Rep.slice 34 DWrite.rep) (w.heap.size + 4) w1.heap.size w1 [.slice a1 y.outbox.writes.length c1] y.outbox.writes) := Lib.hid (hfw.partAt (by simp))
 have hz : w.heap.size + 4 ≤ w1.heap.size := by have y := hb.size; simp at y; omega
 clear hb hf hfw
 have ⟨c_HX, z_HX, f_HX⟩ := HX.out
 have ⟨c_HV, z_HV, f_HV⟩ := HV.out
 go_wp2_with fail
 refine (specFirstWrite _ y.outbox _ (HOb.out.below (HB.out.trans (Below.mono (B := w1.heap.size) bEb (by omega))))).mono ?_
 rintro e w2 ⟨ds, rfl, hf, hb⟩
 obtain ⟨rfl, hyt, hyf⟩ := write_fopen hf
 have hq : Below w1.heap.size w1 w2 := below_call bEl bSz hb
 have HO : Hid (WB w2 w1.heap.size #[.int .i64 y.outbox.device, .int .i64 y.outbox.next, .slice a1 y.outbox.writes.length c1, .int .i64 y.tries, .int .i64 y.waitUntil]) := Lib.hid ((WB.at rfl).keep hb)
 have hsz2 : w1.heap.size + 1 ≤ w2.heap.size := by have y := hb.size; simp at y; omega
 clear c_HX z_HX f_HX c_HV z_HV f_HV
 replace HX := Lib.hid (HX.out.keep hq)
 replace HV := Lib.hid (HV.out.keep hq)
 replace HT := Lib.hid (HT.out.keep hq)
 replace HU := Lib.hid (HU.out.keep hq)
 replace HB := Lib.hid (HB.out.trans (hq.mono HB.out.size))
 replace HP := Lib.hid (Part.below HP.out hq)
 clear hb hq hf
 have HWr : Hid (∀ W, Reads DWrite.rep W [.int .i64 (firstWriteF y.outbox).device, .int .i64 (firstWriteF y.outbox).seq, .int .i64 (firstWriteF y.outbox).key.kind, .int .i64 (firstWriteF y.outbox).key.n, .string (firstWriteF y.outbox).key.text, .string (firstWriteF y.outbox).field, .int .i64 (firstWriteF y.outbox).n] (firstWriteF y.outbox)) := Lib.hid fun W => ⟨[], DWrite.rd.2 ⟨rfl, rfl, hyt, hyf⟩⟩
 have ⟨c_HX, z_HX, f_HX⟩ := HX.out
 go_upto_region 3 with fail
 refine settle (fun W => WB W w.heap.size #[.int .i64 y.outbox.device, .int .i64 y.outbox.next, .slice q_a1 y.outbox.writes.length q_c1, .int .i64 y.tries, .int .i64 y.waitUntil] ∧ WB W (w.heap.size + 1) #[.string s.store.name, .slice p_a1 s.store.items.length p_c1, .int .i64 s.store.auto, .slice p_a2 s.applied.length p_c2, .slice p_a3 s.changes.length p_c3] ∧ WB W (w.heap.size + 2) #[.int .i64 0, .int .i64 0, .slice none 0 0, .int .i64 0, .int .i64 0] ∧ WB W (w.heap.size + 3) #[.string ⟨#[]⟩, .slice none 0 0, .int .i64 0, .slice none 0 0, .slice none 0 0] ∧ WB W w1.heap.size #[.int .i64 y.outbox.device, .int .i64 y.outbox.next, .slice a1 y.outbox.writes.length c1, .int .i64 y.tries, .int .i64 y.waitUntil] ∧ WB W w2.heap.size #[.int .i64 (firstWriteF y.outbox).device, .int .i64 (firstWriteF y.outbox).seq, .int .i64 (firstWriteF y.outbox).key.kind, .int .i64 (firstWriteF y.outbox).key.n, .string (firstWriteF y.outbox).key.text, .string (firstWriteF y.outbox).field, .int .i64 (firstWriteF y.outbox).n] ∧ Part (Rep.slice 34 DWrite.rep) (w.heap.size + 4) w1.heap.size W [.slice a1 y.outbox.writes.length c1] y.outbox.writes ∧ Below w.heap.size w W ∧ w2.heap.size + 1 ≤ W.heap.size) ⟨HX.out.growA, HV.out.growA, HT.out.growA, HU.out.growA, HO.out.growA, WB.at rfl, partA HP.out, by have y := HB.out; exact bEb, by simp⟩ ?_
 clear c_HX z_HX f_HX
 clear HX HV HT HU HO HP HB
 rintro w4 ⟨hx, hv, ht', hu, ho, hw9, hp, hb, hz4⟩
 have HX := Lib.hid hx
 have HV := Lib.hid hv
 have HT := Lib.hid ht'
 have HU := Lib.hid hu
 have HO := Lib.hid ho
 have HW := Lib.hid hw9
 have HP := Lib.hid hp
 have HB := Lib.hid hb
 clear hx hv ht' hu ho hw9 hp hb
 have ⟨c_HX, z_HX, f_HX⟩ := HX.out
 have ⟨c_HV, z_HV, f_HV⟩ := HV.out
 have ⟨c_HT, z_HT, f_HT⟩ := HT.out
 have ⟨c_HU, z_HU, f_HU⟩ := HU.out
 have ⟨c_HO, z_HO, f_HO⟩ := HO.out
 cases b1 : firstWriteB y.outbox
 ·
  have ho : stepOff y now = true := by
   unfold stepOff
   first
    | (rw [b0]; rfl)
    | (rw [b0, b1, b2, b3]; rfl)
    | (rw [b0, b1, b2]; rfl)
    | (rw [b1]; (first | rfl | (simp; done)))
  have hYs := Lib.hid (step_off (s := s) (fate := fate) ho).1
  have hSs := Lib.hid (step_off (s := s) (fate := fate) ho).2.1
  have hN := Lib.hid (step_off (s := s) (fate := fate) ho).2.2
  go_upto_region 4 with (first | (go_at_call 78; refine (specIn _ _ _ _).mono ?_; rintro e w' ⟨rfl, rfl⟩) | fail)
  have HSx : Hid (∀ w', Chg [w.heap.size + 2, w.heap.size + 3] w4 w' → (∀ o, w'.cell? ⟨w.heap.size + 1, o, none⟩ = #[.string s.store.name, .slice p_a1 s.store.items.length p_c1, .int .i64 s.store.auto, .slice p_a2 s.applied.length p_c2, .slice p_a3 s.changes.length p_c3][o]?) ∧ (∀ o, w'.cell? ⟨w1.heap.size, o, none⟩ = #[.int .i64 y.outbox.device, .int .i64 y.outbox.next, .slice a1 y.outbox.writes.length c1, .int .i64 y.tries, .int .i64 y.waitUntil][o]?) ∧ Chg [w.heap.size + 2, w.heap.size + 3] w4 w') := Lib.hid fun w' hw' => ⟨(HV.out.chg hw' (by simp)).cell, (HO.out.chg hw' (by simp; omega)).cell, hw'⟩
  go_region_held3 (fun w' => (∀ o, w'.cell? ⟨w.heap.size + 1, o, none⟩ = #[.string s.store.name, .slice p_a1 s.store.items.length p_c1, .int .i64 s.store.auto, .slice p_a2 s.applied.length p_c2, .slice p_a3 s.changes.length p_c3][o]?) ∧ (∀ o, w'.cell? ⟨w1.heap.size, o, none⟩ = #[.int .i64 y.outbox.device, .int .i64 y.outbox.next, .slice a1 y.outbox.writes.length c1, .int .i64 y.tries, .int .i64 y.waitUntil][o]?) ∧ Chg [w.heap.size + 2, w.heap.size + 3] w4 w')
   (first | (refine HSx.out _ ?_; (repeat (with_reducible refine Chg.set (by simp) ?_)); exact Chg.of_below (B := w4.heap.size) (by (repeat (first | with_reducible exact belR | (with_reducible refine belAB ?_ ?_; focus (first | omega | (simp; done) | (simp; omega))) | with_reducible apply belN | with_reducible apply belD | with_reducible assumption)); done) (Nat.le_refl _)) | fail)
   (first
    | (go_at_call 49; refine (specCopyServer _ s _ (HSr.out.below (HB.out.trans (Below.mono (B := w4.heap.size) bEb (by omega)))) (hs.mono (by omega))).mono ?_; rintro e wq ⟨ds, rfl, hf, hb⟩; obtain ⟨av2, cv2, av3, cv3, av4, cv4, rfl⟩ := DServer.fshape hf; have hq6 : Below w4.heap.size w4 wq := (Below.trans bEb (hb.mono bSz)); have hp6 := hf.partAt (lo := w4.heap.size) (by first | exact Nat.le_refl _ | (simp; done)); have hz6 := hq6.size; have ht6 := HT.out.keep hq6; have ⟨ct6, zt6, ft6⟩ := ht6; have hu6 := HU.out.keep hq6; have ⟨cu6, zu6, fu6⟩ := hu6; clear hb hf)
    | fail)
  all_goals
   have HP6 := Lib.hid (Part.below HP.out hq6)
   have HQ6 := Lib.hid hp6
   have HB6 := Lib.hid (HB.out.trans (hq6.mono HB.out.size))
   clear hp6 hq6 ht6 hu6
   go_wp2
   refine bodyPost_ret (v := .tuple #[.agg #[.int .i64 y.outbox.device, .int .i64 y.outbox.next, .slice a1 y.outbox.writes.length c1, .int .i64 y.tries, .int .i64 y.waitUntil], .agg #[.string s.store.name, .slice av2 s.store.items.length cv2, .int .i64 s.store.auto, .slice av3 s.applied.length cv3, .slice av4 s.changes.length cv4], .int .i64 0]) (by simp [results, Tryz.results114, go_sem, ct6, cu6]) rfl ⟨_, _, by rw [hN.out], ?_, ?_⟩
   ·rw [hYs.out, hSs.out]
    refine Fresh2.of_parts (B := w.heap.size) (sync_part (x := y) (lo := (w.heap.size + 4)) (hi := w1.heap.size) ?_) (lo' := w4.heap.size) (hi' := wq.heap.size) ?_ (by omega) (by omega) (by omega)
    ·(repeat (first | with_reducible refine offCell ?_ (by omega) | with_reducible refine partD ?_))
     exact HP6.out
    ·(repeat (first | with_reducible refine offCell ?_ (by omega) | with_reducible refine partD ?_))
     exact HQ6.out
   ·have y := HB6.out
    exact bEb
 ·go_wp2_with fail
  refine (specIsOutbox _ y.outbox _ (HOb.out.below HB.out)).mono ?_
  rintro e w5 ⟨rfl, hb⟩
  clear c_HX z_HX f_HX c_HV z_HV f_HV c_HT z_HT f_HT c_HU z_HU f_HU c_HO z_HO f_HO
  have hz5 := hb.size
  replace HX := Lib.hid (HX.out.keep hb)
  replace HV := Lib.hid (HV.out.keep hb)
  replace HT := Lib.hid (HT.out.keep hb)
  replace HU := Lib.hid (HU.out.keep hb)
  replace HO := Lib.hid (HO.out.keep hb)
  replace HW := Lib.hid (HW.out.keep hb)
  replace HB := Lib.hid (HB.out.trans (hb.mono HB.out.size))
  replace HP := Lib.hid (Part.below HP.out hb)
  clear hb
  have ⟨c_HX, z_HX, f_HX⟩ := HX.out
  have ⟨c_HV, z_HV, f_HV⟩ := HV.out
  have ⟨c_HT, z_HT, f_HT⟩ := HT.out
  have ⟨c_HU, z_HU, f_HU⟩ := HU.out
  have ⟨c_HO, z_HO, f_HO⟩ := HO.out
  cases b0 : isOutboxF y.outbox
  case' true => cases b2 : decide (now < y.waitUntil)
  case' true.false => cases b3 : within now 0 1000000000000
  case true.false.true =>
   have b2' := of_decide_eq_false b2
   have HON : Hid (stepOff y now = false) := Lib.hid (by unfold stepOff; rw [b0, b1, b2, b3]; rfl)
   clear b0
   go_wp2_with (first | (go_at_call 78; refine (specIn _ _ _ _).mono ?_; rintro e w' ⟨rfl, rfl⟩) | fail)
   refine (specCopyServer _ s _ (HSr.out.below HB.out) (hs.mono (by omega))).mono ?_
   rintro e w3 ⟨ds, rfl, hf, hb⟩
   obtain ⟨av2, cv2, av3, cv3, av4, cv4, rfl⟩ := DServer.fshape hf
   clear c_HX z_HX f_HX c_HV z_HV f_HV c_HT z_HT f_HT c_HU z_HU f_HU c_HO z_HO f_HO
   have hz3 := hb.size
   replace HX := Lib.hid (HX.out.keep hb)
   replace HT := Lib.hid (HT.out.keep hb)
   replace HU := Lib.hid (HU.out.keep hb)
   replace HO := Lib.hid (HO.out.keep hb)
   replace HW := Lib.hid (HW.out.keep hb)
   replace HB := Lib.hid (HB.out.trans (hb.mono HB.out.size))
   replace HP := Lib.hid (Part.below HP.out hb)
   have HQ : Hid (Part DServer.rep w5.heap.size w3.heap.size w3 [.string s.store.name, .slice av2 s.store.items.length cv2, .int .i64 s.store.auto, .slice av3 s.applied.length cv3, .slice av4 s.changes.length cv4] s) := Lib.hid (hf.partAt (Nat.le_refl _))
   clear hb hf HV
   have ⟨c_HX, z_HX, f_HX⟩ := HX.out
   go_upto_region 7 with fail
   refine settle (fun W => ∃ (lo hi : Nat) (av2 : Option Addr) (cv2 : Nat) (av3 : Option Addr) (cv3 : Nat) (av4 : Option Addr) (cv4 : Nat), WB W w.heap.size #[.int .i64 y.outbox.device, .int .i64 y.outbox.next, .slice q_a1 y.outbox.writes.length q_c1, .int .i64 y.tries, .int .i64 y.waitUntil] ∧ WB W (w.heap.size + 2) #[.int .i64 0, .int .i64 0, .slice none 0 0, .int .i64 0, .int .i64 0] ∧ WB W (w.heap.size + 3) #[.string ⟨#[]⟩, .slice none 0 0, .int .i64 0, .slice none 0 0, .slice none 0 0] ∧ WB W w1.heap.size #[.int .i64 y.outbox.device, .int .i64 y.outbox.next, .slice a1 y.outbox.writes.length c1, .int .i64 y.tries, .int .i64 y.waitUntil] ∧ WB W w3.heap.size #[.string s.store.name, .slice av2 s.store.items.length cv2, .int .i64 s.store.auto, .slice av3 s.applied.length cv3, .slice av4 s.changes.length cv4] ∧ WB W w2.heap.size #[.int .i64 (firstWriteF y.outbox).device, .int .i64 (firstWriteF y.outbox).seq, .int .i64 (firstWriteF y.outbox).key.kind, .int .i64 (firstWriteF y.outbox).key.n, .string (firstWriteF y.outbox).key.text, .string (firstWriteF y.outbox).field, .int .i64 (firstWriteF y.outbox).n] ∧ Part (Rep.slice 34 DWrite.rep) (w.heap.size + 4) w1.heap.size W [.slice a1 y.outbox.writes.length c1] y.outbox.writes ∧ Part DServer.rep lo hi W [.string s.store.name, .slice av2 s.store.items.length cv2, .int .i64 s.store.auto, .slice av3 s.applied.length cv3, .slice av4 s.changes.length cv4] s ∧ Below w.heap.size w W ∧ w1.heap.size + 1 ≤ lo ∧ (w3.heap.size < lo ∨ hi ≤ w3.heap.size) ∧ hi ≤ W.heap.size ∧ w3.heap.size < W.heap.size ∧ w2.heap.size < W.heap.size) ⟨_, _, _, _, _, _, _, _, HX.out.growA, HT.out.growA, HU.out.growA, HO.out.growA, WB.at rfl, HW.out.growA, partA HP.out, partA HQ.out, by have y := HB.out; exact bEb, by omega, by omega, by simp, by simp, by simp; omega⟩ ?_
   clear c_HX z_HX f_HX
   clear HX HT HU HO HW HP HQ HB
   rintro w7 ⟨lo, hi, av2, cv2, av3, cv3, av4, cv4, hx, ht, hu, ho, hs9, hw9, hp, hq, hb, hlo, hkS, hhi, hS7, hW7⟩
   have HX := Lib.hid hx
   have HT := Lib.hid ht
   have HU := Lib.hid hu
   have HO := Lib.hid ho
   have HS := Lib.hid hs9
   have HW := Lib.hid hw9
   have HP := Lib.hid hp
   have HQ := Lib.hid hq
   have HB := Lib.hid hb
   clear hx ht hu ho hs9 hw9 hp hq hb
   have hfate : fate = 0 ∨ fate = 2 ∨ fate = 3 ∨ ((fate == 0) = false ∧ (fate == 2) = false ∧ (fate == 3) = false) := by
    by_cases h0 : fate = 0
    ·exact .inl h0
    by_cases h2 : fate = 2
    ·exact .inr (.inl h2)
    by_cases h3 : fate = 3
    ·exact .inr (.inr (.inl h3))
    ·exact .inr (.inr (.inr ⟨by simpa using h0, by simpa using h2, by simpa using h3⟩))
   have ⟨c_HO, z_HO, f_HO⟩ := HO.out
   have ⟨c_HS, z_HS, f_HS⟩ := HS.out
   have ⟨c_HW, z_HW, f_HW⟩ := HW.out
   have ⟨c_HX, z_HX, f_HX⟩ := HX.out
   rcases hfate with rfl | rfl | rfl | ⟨f0, f2, f3⟩
   ·have hSs : Hid (syncStepS y s now 0 = (receiveF s (firstWriteF y.outbox))) := Lib.hid ((step_on HON.out).trans (srv_one (.inl rfl)).1)
    go_wp2_with (first | (go_at_call 78; refine (specIn _ _ _ _).mono ?_; rintro e w' ⟨rfl, rfl⟩) | fail)
    refine (specReceiveWrite _ _ s (firstWriteF y.outbox) _ HQ.out.reads (HWr.out _) (hs.mono (by omega))).mono ?_
    rintro e wr1 ⟨ds, rfl, hf, hb⟩
    obtain ⟨av2, cv2, av3, cv3, av4, cv4, rfl⟩ := DServer.fshape hf
    clear c_HO z_HO f_HO c_HS z_HS f_HS c_HW z_HW f_HW c_HX z_HX f_HX
    have hzwr1 := hb.size
    replace HX := Lib.hid (HX.out.keep hb)
    replace HT := Lib.hid (HT.out.keep hb)
    replace HU := Lib.hid (HU.out.keep hb)
    replace HO := Lib.hid (HO.out.keep hb)
    replace HS := Lib.hid (HS.out.keep hb)
    replace HW := Lib.hid (HW.out.keep hb)
    replace HB := Lib.hid (HB.out.trans (hb.mono HB.out.size))
    replace HP := Lib.hid (Part.below HP.out hb)
    replace HQ := Lib.hid (hf.partAt (Nat.le_refl _))
    clear hb hf
    have ⟨c_HO, z_HO, f_HO⟩ := HO.out
    have ⟨c_HS, z_HS, f_HS⟩ := HS.out
    have ⟨c_HW, z_HW, f_HW⟩ := HW.out
    have ⟨c_HX, z_HX, f_HX⟩ := HX.out
    go_upto_region 11 with fail
    refine settle (fun W => ∃ (lo hi : Nat) (av2 : Option Addr) (cv2 : Nat) (av3 : Option Addr) (cv3 : Nat) (av4 : Option Addr) (cv4 : Nat), WB W w.heap.size #[.int .i64 y.outbox.device, .int .i64 y.outbox.next, .slice q_a1 y.outbox.writes.length q_c1, .int .i64 y.tries, .int .i64 y.waitUntil] ∧ WB W (w.heap.size + 2) #[.int .i64 0, .int .i64 0, .slice none 0 0, .int .i64 0, .int .i64 0] ∧ WB W (w.heap.size + 3) #[.string ⟨#[]⟩, .slice none 0 0, .int .i64 0, .slice none 0 0, .slice none 0 0] ∧ WB W w1.heap.size #[.int .i64 y.outbox.device, .int .i64 y.outbox.next, .slice a1 y.outbox.writes.length c1, .int .i64 y.tries, .int .i64 y.waitUntil] ∧ WB W w3.heap.size #[.string (receiveF s (firstWriteF y.outbox)).store.name, .slice av2 (receiveF s (firstWriteF y.outbox)).store.items.length cv2, .int .i64 (receiveF s (firstWriteF y.outbox)).store.auto, .slice av3 (receiveF s (firstWriteF y.outbox)).applied.length cv3, .slice av4 (receiveF s (firstWriteF y.outbox)).changes.length cv4] ∧ WB W w2.heap.size #[.int .i64 (firstWriteF y.outbox).device, .int .i64 (firstWriteF y.outbox).seq, .int .i64 (firstWriteF y.outbox).key.kind, .int .i64 (firstWriteF y.outbox).key.n, .string (firstWriteF y.outbox).key.text, .string (firstWriteF y.outbox).field, .int .i64 (firstWriteF y.outbox).n] ∧ Part (Rep.slice 34 DWrite.rep) (w.heap.size + 4) w1.heap.size W [.slice a1 y.outbox.writes.length c1] y.outbox.writes ∧ Part DServer.rep lo hi W [.string (receiveF s (firstWriteF y.outbox)).store.name, .slice av2 (receiveF s (firstWriteF y.outbox)).store.items.length cv2, .int .i64 (receiveF s (firstWriteF y.outbox)).store.auto, .slice av3 (receiveF s (firstWriteF y.outbox)).applied.length cv3, .slice av4 (receiveF s (firstWriteF y.outbox)).changes.length cv4] (receiveF s (firstWriteF y.outbox)) ∧ Below w.heap.size w W ∧ w1.heap.size + 1 ≤ lo ∧ (w3.heap.size < lo ∨ hi ≤ w3.heap.size) ∧ hi ≤ W.heap.size ∧ w3.heap.size < W.heap.size ∧ w2.heap.size < W.heap.size) ⟨_, _, _, _, _, _, _, _, HX.out.offs (by omega), HT.out.offs (by omega), HU.out.offs (by omega), HO.out.offs (by omega), HS.out.sets5, HW.out.offs (by omega), offs5 HP.out (by omega), offs5 HQ.out (by omega), by have y := HB.out; exact bEb, by omega, by omega, by simp, by simp; omega, by simp; omega⟩ ?_
    clear c_HO z_HO f_HO c_HS z_HS f_HS c_HW z_HW f_HW c_HX z_HX f_HX
    clear HX HT HU HO HS HW HP HQ HB
    rintro w7 ⟨lo, hi, av2, cv2, av3, cv3, av4, cv4, hx, ht, hu, ho, hs9, hw9, hp, hq, hb, hlo, hkS, hhi, hS7, hW7⟩
    have HX := Lib.hid hx
    have HT := Lib.hid ht
    have HU := Lib.hid hu
    have HO := Lib.hid ho
    have HS := Lib.hid hs9
    have HW := Lib.hid hw9
    have HP := Lib.hid hp
    have HQ := Lib.hid hq
    have HB := Lib.hid hb
    clear hx ht hu ho hs9 hw9 hp hq hb
    have ⟨c_HO, z_HO, f_HO⟩ := HO.out
    have ⟨c_HS, z_HS, f_HS⟩ := HS.out
    have ⟨c_HW, z_HW, f_HW⟩ := HW.out
    have ⟨c_HX, z_HX, f_HX⟩ := HX.out
    cases n1 : (receiveCode s (firstWriteF y.outbox) == 1)
    case' false => cases n2 : (receiveCode s (firstWriteF y.outbox) == 2)
    case false.false =>
     have ha : stepAcked s (firstWriteF y.outbox) 0 = false := by rw [acked_is (by decide), (srv_one (.inl rfl)).2, n1, n2]; rfl
     have hYs := Lib.hid (step_waits (s := s) HON.out ha).1
     have hN := Lib.hid (step_waits (s := s) HON.out ha).2
     have htm := Lib.hid (tried_min2 ht)
     go_wp2_with fail
     refine (specMin _ _ _).mono ?_
     rintro e w8 ⟨rfl, rfl⟩
     go_wp2_with fail
     refine (specMin _ _ _).mono ?_
     rintro e w8 ⟨rfl, rfl⟩
     rw [htm.out]
     go_wp2_with fail
     refine (specBackoff _ _).mono ?_
     rintro e w8 ⟨rfl, rfl⟩
     go_upto_region 18 with fail
     refine settle (fun W => WB W (w.heap.size + 2) #[.int .i64 0, .int .i64 0, .slice none 0 0, .int .i64 0, .int .i64 0] ∧ WB W (w.heap.size + 3) #[.string ⟨#[]⟩, .slice none 0 0, .int .i64 0, .slice none 0 0, .slice none 0 0] ∧ WB W w1.heap.size #[.int .i64 y.outbox.device, .int .i64 y.outbox.next, .slice a1 y.outbox.writes.length c1, .int .i64 (tried y.tries), .int .i64 (wrap64 (now + boff (tried y.tries)))] ∧ WB W w3.heap.size #[.string (receiveF s (firstWriteF y.outbox)).store.name, .slice av2 (receiveF s (firstWriteF y.outbox)).store.items.length cv2, .int .i64 (receiveF s (firstWriteF y.outbox)).store.auto, .slice av3 (receiveF s (firstWriteF y.outbox)).applied.length cv3, .slice av4 (receiveF s (firstWriteF y.outbox)).changes.length cv4] ∧ Part (Rep.slice 34 DWrite.rep) (w.heap.size + 4) w1.heap.size W [.slice a1 y.outbox.writes.length c1] y.outbox.writes ∧ Part DServer.rep lo hi W [.string (receiveF s (firstWriteF y.outbox)).store.name, .slice av2 (receiveF s (firstWriteF y.outbox)).store.items.length cv2, .int .i64 (receiveF s (firstWriteF y.outbox)).store.auto, .slice av3 (receiveF s (firstWriteF y.outbox)).applied.length cv3, .slice av4 (receiveF s (firstWriteF y.outbox)).changes.length cv4] (receiveF s (firstWriteF y.outbox)) ∧ Below w.heap.size w W) ⟨(HT.out.setOther (by omega)).setOther (by omega), (HU.out.setOther (by omega)).setOther (by omega), (HO.out.setAt (i := 3) (by simp) rfl).setAt (by simp) rfl, (HS.out.setOther (by omega)).setOther (by omega), offCell (offCell HP.out (by omega)) (by omega), offCell (offCell HQ.out (by omega)) (by omega), by have y := HB.out; exact bEb⟩ ?_
     clear c_HO z_HO f_HO c_HS z_HS f_HS c_HW z_HW f_HW c_HX z_HX f_HX
     clear HX HT HU HO HS HW HP HQ HB
     rintro w9 ⟨ht9, hu, ho, hs9, hp, hq, hb⟩
     have HT := Lib.hid ht9
     have HU := Lib.hid hu
     have HO := Lib.hid ho
     have HS := Lib.hid hs9
     have HP := Lib.hid hp
     have HQ := Lib.hid hq
     have HB := Lib.hid hb
     clear ht9 hu ho hs9 hp hq hb
     have ⟨c_HT, z_HT, f_HT⟩ := HT.out
     have ⟨c_HU, z_HU, f_HU⟩ := HU.out
     have ⟨c_HO, z_HO, f_HO⟩ := HO.out
     have ⟨c_HS, z_HS, f_HS⟩ := HS.out
     go_region
     all_goals
      go_wp2
      refine bodyPost_ret (v := .tuple #[.agg #[.int .i64 y.outbox.device, .int .i64 y.outbox.next, .slice a1 y.outbox.writes.length c1, .int .i64 (tried y.tries), .int .i64 (wrap64 (now + boff (tried y.tries)))], .agg #[.string (receiveF s (firstWriteF y.outbox)).store.name, .slice av2 (receiveF s (firstWriteF y.outbox)).store.items.length cv2, .int .i64 (receiveF s (firstWriteF y.outbox)).store.auto, .slice av3 (receiveF s (firstWriteF y.outbox)).applied.length cv3, .slice av4 (receiveF s (firstWriteF y.outbox)).changes.length cv4], .int .i64 2]) (by simp [results, Tryz.results114, go_sem, c_HT, c_HU]) rfl ⟨_, _, by rw [hN.out], ?_, ?_⟩
      ·rw [hYs.out, hSs.out]
       refine Fresh2.of_parts (B := w.heap.size) (sync_part (x := stepSync y now) (lo := (w.heap.size + 4)) (hi := w1.heap.size) ?_) (lo' := lo) (hi' := hi) ?_ (by omega) (by omega) (by omega)
       ·(repeat (first | with_reducible refine offCell ?_ (by omega) | with_reducible refine partD ?_))
        exact HP.out
       ·(repeat (first | with_reducible refine offCell ?_ (by omega) | with_reducible refine partD ?_))
        exact HQ.out
      ·have y := HB.out
       exact bEb
    all_goals
     have ha : stepAcked s (firstWriteF y.outbox) 0 = true := by
      rw [acked_is (by decide), (srv_one (.inl rfl)).2, n1]
      first | rfl | (rw [n2]; rfl)
     have hYs := Lib.hid (step_acked HON.out ha).1
     have hN := Lib.hid (step_acked HON.out ha).2
     go_wp2_with fail
     refine (specAckWrites _ y.outbox (firstWriteF y.outbox).seq _ (HOb.out.below HB.out) (by omega)).mono ?_
     rintro e w8 ⟨ds8, rfl, hf8, hb8⟩
     obtain ⟨a8, c8, rfl, hfw8⟩ := DOutbox.fopen hf8
     have hz8 := hb8.size
     clear c_HO z_HO f_HO c_HS z_HS f_HS c_HW z_HW f_HW c_HX z_HX f_HX
     replace HT := Lib.hid (HT.out.keep hb8)
     replace HU := Lib.hid (HU.out.keep hb8)
     replace HO := Lib.hid (HO.out.keep hb8)
     replace HS := Lib.hid (HS.out.keep hb8)
     replace HB := Lib.hid (HB.out.trans (hb8.mono HB.out.size))
     replace HQ := Lib.hid (Part.below HQ.out hb8)
     replace HP : Hid (Part (Rep.slice 34 DWrite.rep) w7.heap.size w8.heap.size w8 [.slice a8 (ackWritesF y.outbox (firstWriteF y.outbox).seq).writes.length c8] (ackWritesF y.outbox (firstWriteF y.outbox).seq).writes) := Lib.hid (hfw8.partAt (Nat.le_refl _))
     clear hb8 hf8 hfw8
     have ⟨c_HO, z_HO, f_HO⟩ := HO.out
     go_upto_region 15 with fail
     refine settle (fun W => WB W (w.heap.size + 2) #[.int .i64 0, .int .i64 0, .slice none 0 0, .int .i64 0, .int .i64 0] ∧ WB W (w.heap.size + 3) #[.string ⟨#[]⟩, .slice none 0 0, .int .i64 0, .slice none 0 0, .slice none 0 0] ∧ WB W w1.heap.size #[.int .i64 (ackWritesF y.outbox (firstWriteF y.outbox).seq).device, .int .i64 (ackWritesF y.outbox (firstWriteF y.outbox).seq).next, .slice a8 (ackWritesF y.outbox (firstWriteF y.outbox).seq).writes.length c8, .int .i64 0, .int .i64 0] ∧ WB W w3.heap.size #[.string (receiveF s (firstWriteF y.outbox)).store.name, .slice av2 (receiveF s (firstWriteF y.outbox)).store.items.length cv2, .int .i64 (receiveF s (firstWriteF y.outbox)).store.auto, .slice av3 (receiveF s (firstWriteF y.outbox)).applied.length cv3, .slice av4 (receiveF s (firstWriteF y.outbox)).changes.length cv4] ∧ Part (Rep.slice 34 DWrite.rep) w7.heap.size w8.heap.size W [.slice a8 (ackWritesF y.outbox (firstWriteF y.outbox).seq).writes.length c8] (ackWritesF y.outbox (firstWriteF y.outbox).seq).writes ∧ Part DServer.rep lo hi W [.string (receiveF s (firstWriteF y.outbox)).store.name, .slice av2 (receiveF s (firstWriteF y.outbox)).store.items.length cv2, .int .i64 (receiveF s (firstWriteF y.outbox)).store.auto, .slice av3 (receiveF s (firstWriteF y.outbox)).applied.length cv3, .slice av4 (receiveF s (firstWriteF y.outbox)).changes.length cv4] (receiveF s (firstWriteF y.outbox)) ∧ Below w.heap.size w W) ⟨HT.out.offs (by omega), HU.out.offs (by omega), HO.out.sets5, HS.out.offs (by omega), offs5 HP.out (by omega), offs5 HQ.out (by omega), by have y := HB.out; exact bEb⟩ ?_
     clear c_HO z_HO f_HO
     clear HX HT HU HO HS HW HP HQ HB
     rintro w9 ⟨ht, hu, ho, hs9, hp, hq, hb⟩
     have HT := Lib.hid ht
     have HU := Lib.hid hu
     have HO := Lib.hid ho
     have HS := Lib.hid hs9
     have HP := Lib.hid hp
     have HQ := Lib.hid hq
     have HB := Lib.hid hb
     clear ht hu ho hs9 hp hq hb
     have ⟨c_HT, z_HT, f_HT⟩ := HT.out
     have ⟨c_HU, z_HU, f_HU⟩ := HU.out
     have ⟨c_HO, z_HO, f_HO⟩ := HO.out
     have ⟨c_HS, z_HS, f_HS⟩ := HS.out
     go_region
     all_goals
      go_wp2
      refine bodyPost_ret (v := .tuple #[.agg #[.int .i64 (ackWritesF y.outbox (firstWriteF y.outbox).seq).device, .int .i64 (ackWritesF y.outbox (firstWriteF y.outbox).seq).next, .slice a8 (ackWritesF y.outbox (firstWriteF y.outbox).seq).writes.length c8, .int .i64 0, .int .i64 0], .agg #[.string (receiveF s (firstWriteF y.outbox)).store.name, .slice av2 (receiveF s (firstWriteF y.outbox)).store.items.length cv2, .int .i64 (receiveF s (firstWriteF y.outbox)).store.auto, .slice av3 (receiveF s (firstWriteF y.outbox)).applied.length cv3, .slice av4 (receiveF s (firstWriteF y.outbox)).changes.length cv4], .int .i64 1]) (by simp [results, Tryz.results114, go_sem, c_HT, c_HU]) rfl ⟨_, _, by rw [hN.out], ?_, ?_⟩
      ·rw [hYs.out, hSs.out]
       refine Fresh2.of_parts (B := w.heap.size) (sync_part (x := ackedSync y) (lo := w7.heap.size) (hi := w8.heap.size) ?_) (lo' := lo) (hi' := hi) ?_ (by omega) (by omega) (by omega)
       ·(repeat (first | with_reducible refine offCell ?_ (by omega) | with_reducible refine partD ?_))
        exact HP.out
       ·(repeat (first | with_reducible refine offCell ?_ (by omega) | with_reducible refine partD ?_))
        exact HQ.out
      ·have y := HB.out
       exact bEb
   ·have hSs : Hid (syncStepS y s now 2 = (receiveF s (firstWriteF y.outbox))) := Lib.hid ((step_on HON.out).trans (srv_one (.inr rfl)).1)
    have ha : stepAcked s (firstWriteF y.outbox) 2 = false := acked_not (by decide) (by decide)
    have hYs := Lib.hid (step_waits (s := s) HON.out ha).1
    have hN := Lib.hid (step_waits (s := s) HON.out ha).2
    go_wp2_with (first | (go_at_call 78; refine (specIn _ _ _ _).mono ?_; rintro e w' ⟨rfl, rfl⟩) | fail)
    refine (specReceiveWrite _ _ s (firstWriteF y.outbox) _ HQ.out.reads (HWr.out _) (hs.mono (by omega))).mono ?_
    rintro e wr1 ⟨ds, rfl, hf, hb⟩
    obtain ⟨av2, cv2, av3, cv3, av4, cv4, rfl⟩ := DServer.fshape hf
    clear c_HO z_HO f_HO c_HS z_HS f_HS c_HW z_HW f_HW c_HX z_HX f_HX
    have hzwr1 := hb.size
    replace HX := Lib.hid (HX.out.keep hb)
    replace HT := Lib.hid (HT.out.keep hb)
    replace HU := Lib.hid (HU.out.keep hb)
    replace HO := Lib.hid (HO.out.keep hb)
    replace HS := Lib.hid (HS.out.keep hb)
    replace HW := Lib.hid (HW.out.keep hb)
    replace HB := Lib.hid (HB.out.trans (hb.mono HB.out.size))
    replace HP := Lib.hid (Part.below HP.out hb)
    replace HQ := Lib.hid (hf.partAt (Nat.le_refl _))
    clear hb hf
    have ⟨c_HO, z_HO, f_HO⟩ := HO.out
    have ⟨c_HS, z_HS, f_HS⟩ := HS.out
    have ⟨c_HW, z_HW, f_HW⟩ := HW.out
    have ⟨c_HX, z_HX, f_HX⟩ := HX.out
    go_upto_region 11 with fail
    refine settle (fun W => ∃ (lo hi : Nat) (av2 : Option Addr) (cv2 : Nat) (av3 : Option Addr) (cv3 : Nat) (av4 : Option Addr) (cv4 : Nat), WB W w.heap.size #[.int .i64 y.outbox.device, .int .i64 y.outbox.next, .slice q_a1 y.outbox.writes.length q_c1, .int .i64 y.tries, .int .i64 y.waitUntil] ∧ WB W (w.heap.size + 2) #[.int .i64 0, .int .i64 0, .slice none 0 0, .int .i64 0, .int .i64 0] ∧ WB W (w.heap.size + 3) #[.string ⟨#[]⟩, .slice none 0 0, .int .i64 0, .slice none 0 0, .slice none 0 0] ∧ WB W w1.heap.size #[.int .i64 y.outbox.device, .int .i64 y.outbox.next, .slice a1 y.outbox.writes.length c1, .int .i64 y.tries, .int .i64 y.waitUntil] ∧ WB W w3.heap.size #[.string (receiveF s (firstWriteF y.outbox)).store.name, .slice av2 (receiveF s (firstWriteF y.outbox)).store.items.length cv2, .int .i64 (receiveF s (firstWriteF y.outbox)).store.auto, .slice av3 (receiveF s (firstWriteF y.outbox)).applied.length cv3, .slice av4 (receiveF s (firstWriteF y.outbox)).changes.length cv4] ∧ WB W w2.heap.size #[.int .i64 (firstWriteF y.outbox).device, .int .i64 (firstWriteF y.outbox).seq, .int .i64 (firstWriteF y.outbox).key.kind, .int .i64 (firstWriteF y.outbox).key.n, .string (firstWriteF y.outbox).key.text, .string (firstWriteF y.outbox).field, .int .i64 (firstWriteF y.outbox).n] ∧ Part (Rep.slice 34 DWrite.rep) (w.heap.size + 4) w1.heap.size W [.slice a1 y.outbox.writes.length c1] y.outbox.writes ∧ Part DServer.rep lo hi W [.string (receiveF s (firstWriteF y.outbox)).store.name, .slice av2 (receiveF s (firstWriteF y.outbox)).store.items.length cv2, .int .i64 (receiveF s (firstWriteF y.outbox)).store.auto, .slice av3 (receiveF s (firstWriteF y.outbox)).applied.length cv3, .slice av4 (receiveF s (firstWriteF y.outbox)).changes.length cv4] (receiveF s (firstWriteF y.outbox)) ∧ Below w.heap.size w W ∧ w1.heap.size + 1 ≤ lo ∧ (w3.heap.size < lo ∨ hi ≤ w3.heap.size) ∧ hi ≤ W.heap.size ∧ w3.heap.size < W.heap.size ∧ w2.heap.size < W.heap.size) ⟨_, _, _, _, _, _, _, _, HX.out.offs (by omega), HT.out.offs (by omega), HU.out.offs (by omega), HO.out.offs (by omega), HS.out.sets5, HW.out.offs (by omega), offs5 HP.out (by omega), offs5 HQ.out (by omega), by have y := HB.out; exact bEb, by omega, by omega, by simp, by simp; omega, by simp; omega⟩ ?_
    clear c_HO z_HO f_HO c_HS z_HS f_HS c_HW z_HW f_HW c_HX z_HX f_HX
    clear HX HT HU HO HS HW HP HQ HB
    rintro w7 ⟨lo, hi, av2, cv2, av3, cv3, av4, cv4, hx, ht, hu, ho, hs9, hw9, hp, hq, hb, hlo, hkS, hhi, hS7, hW7⟩
    have HX := Lib.hid hx
    have HT := Lib.hid ht
    have HU := Lib.hid hu
    have HO := Lib.hid ho
    have HS := Lib.hid hs9
    have HW := Lib.hid hw9
    have HP := Lib.hid hp
    have HQ := Lib.hid hq
    have HB := Lib.hid hb
    clear hx ht hu ho hs9 hw9 hp hq hb
    have ⟨c_HO, z_HO, f_HO⟩ := HO.out
    have ⟨c_HS, z_HS, f_HS⟩ := HS.out
    have ⟨c_HW, z_HW, f_HW⟩ := HW.out
    have ⟨c_HX, z_HX, f_HX⟩ := HX.out
    have htm := Lib.hid (tried_min2 ht)
    go_wp2_with fail
    refine (specMin _ _ _).mono ?_
    rintro e w8 ⟨rfl, rfl⟩
    go_wp2_with fail
    refine (specMin _ _ _).mono ?_
    rintro e w8 ⟨rfl, rfl⟩
    rw [htm.out]
    go_wp2_with fail
    refine (specBackoff _ _).mono ?_
    rintro e w8 ⟨rfl, rfl⟩
    go_upto_region 18 with fail
    refine settle (fun W => WB W (w.heap.size + 2) #[.int .i64 0, .int .i64 0, .slice none 0 0, .int .i64 0, .int .i64 0] ∧ WB W (w.heap.size + 3) #[.string ⟨#[]⟩, .slice none 0 0, .int .i64 0, .slice none 0 0, .slice none 0 0] ∧ WB W w1.heap.size #[.int .i64 y.outbox.device, .int .i64 y.outbox.next, .slice a1 y.outbox.writes.length c1, .int .i64 (tried y.tries), .int .i64 (wrap64 (now + boff (tried y.tries)))] ∧ WB W w3.heap.size #[.string (receiveF s (firstWriteF y.outbox)).store.name, .slice av2 (receiveF s (firstWriteF y.outbox)).store.items.length cv2, .int .i64 (receiveF s (firstWriteF y.outbox)).store.auto, .slice av3 (receiveF s (firstWriteF y.outbox)).applied.length cv3, .slice av4 (receiveF s (firstWriteF y.outbox)).changes.length cv4] ∧ Part (Rep.slice 34 DWrite.rep) (w.heap.size + 4) w1.heap.size W [.slice a1 y.outbox.writes.length c1] y.outbox.writes ∧ Part DServer.rep lo hi W [.string (receiveF s (firstWriteF y.outbox)).store.name, .slice av2 (receiveF s (firstWriteF y.outbox)).store.items.length cv2, .int .i64 (receiveF s (firstWriteF y.outbox)).store.auto, .slice av3 (receiveF s (firstWriteF y.outbox)).applied.length cv3, .slice av4 (receiveF s (firstWriteF y.outbox)).changes.length cv4] (receiveF s (firstWriteF y.outbox)) ∧ Below w.heap.size w W) ⟨(HT.out.setOther (by omega)).setOther (by omega), (HU.out.setOther (by omega)).setOther (by omega), (HO.out.setAt (i := 3) (by simp) rfl).setAt (by simp) rfl, (HS.out.setOther (by omega)).setOther (by omega), offCell (offCell HP.out (by omega)) (by omega), offCell (offCell HQ.out (by omega)) (by omega), by have y := HB.out; exact bEb⟩ ?_
    clear c_HO z_HO f_HO c_HS z_HS f_HS c_HW z_HW f_HW c_HX z_HX f_HX
    clear HX HT HU HO HS HW HP HQ HB
    rintro w9 ⟨ht9, hu, ho, hs9, hp, hq, hb⟩
    have HT := Lib.hid ht9
    have HU := Lib.hid hu
    have HO := Lib.hid ho
    have HS := Lib.hid hs9
    have HP := Lib.hid hp
    have HQ := Lib.hid hq
    have HB := Lib.hid hb
    clear ht9 hu ho hs9 hp hq hb
    have ⟨c_HT, z_HT, f_HT⟩ := HT.out
    have ⟨c_HU, z_HU, f_HU⟩ := HU.out
    have ⟨c_HO, z_HO, f_HO⟩ := HO.out
    have ⟨c_HS, z_HS, f_HS⟩ := HS.out
    go_region
    all_goals
     go_wp2
     refine bodyPost_ret (v := .tuple #[.agg #[.int .i64 y.outbox.device, .int .i64 y.outbox.next, .slice a1 y.outbox.writes.length c1, .int .i64 (tried y.tries), .int .i64 (wrap64 (now + boff (tried y.tries)))], .agg #[.string (receiveF s (firstWriteF y.outbox)).store.name, .slice av2 (receiveF s (firstWriteF y.outbox)).store.items.length cv2, .int .i64 (receiveF s (firstWriteF y.outbox)).store.auto, .slice av3 (receiveF s (firstWriteF y.outbox)).applied.length cv3, .slice av4 (receiveF s (firstWriteF y.outbox)).changes.length cv4], .int .i64 2]) (by simp [results, Tryz.results114, go_sem, c_HT, c_HU]) rfl ⟨_, _, by rw [hN.out], ?_, ?_⟩
     ·rw [hYs.out, hSs.out]
      refine Fresh2.of_parts (B := w.heap.size) (sync_part (x := stepSync y now) (lo := (w.heap.size + 4)) (hi := w1.heap.size) ?_) (lo' := lo) (hi' := hi) ?_ (by omega) (by omega) (by omega)
      ·(repeat (first | with_reducible refine offCell ?_ (by omega) | with_reducible refine partD ?_))
       exact HP.out
      ·(repeat (first | with_reducible refine offCell ?_ (by omega) | with_reducible refine partD ?_))
       exact HQ.out
     ·have y := HB.out
      exact bEb
   ·have hSs : Hid (syncStepS y s now 3 = (receiveF (receiveF s (firstWriteF y.outbox)) (firstWriteF y.outbox))) := Lib.hid ((step_on HON.out).trans (srv_two rfl).1)
    go_wp2_with (first | (go_at_call 78; refine (specIn _ _ _ _).mono ?_; rintro e w' ⟨rfl, rfl⟩) | fail)
    refine (specReceiveWrite _ _ s (firstWriteF y.outbox) _ HQ.out.reads (HWr.out _) (hs.mono (by omega))).mono ?_
    rintro e wr1 ⟨ds, rfl, hf, hb⟩
    obtain ⟨av2, cv2, av3, cv3, av4, cv4, rfl⟩ := DServer.fshape hf
    clear c_HO z_HO f_HO c_HS z_HS f_HS c_HW z_HW f_HW c_HX z_HX f_HX
    have hzwr1 := hb.size
    replace HX := Lib.hid (HX.out.keep hb)
    replace HT := Lib.hid (HT.out.keep hb)
    replace HU := Lib.hid (HU.out.keep hb)
    replace HO := Lib.hid (HO.out.keep hb)
    replace HS := Lib.hid (HS.out.keep hb)
    replace HW := Lib.hid (HW.out.keep hb)
    replace HB := Lib.hid (HB.out.trans (hb.mono HB.out.size))
    replace HP := Lib.hid (Part.below HP.out hb)
    replace HQ := Lib.hid (hf.partAt (Nat.le_refl _))
    clear hb hf
    have ⟨c_HO, z_HO, f_HO⟩ := HO.out
    have ⟨c_HS, z_HS, f_HS⟩ := HS.out
    have ⟨c_HW, z_HW, f_HW⟩ := HW.out
    have ⟨c_HX, z_HX, f_HX⟩ := HX.out
    go_upto_region 9 with fail
    refine settle (fun W => ∃ (lo hi : Nat) (av2 : Option Addr) (cv2 : Nat) (av3 : Option Addr) (cv3 : Nat) (av4 : Option Addr) (cv4 : Nat), WB W w.heap.size #[.int .i64 y.outbox.device, .int .i64 y.outbox.next, .slice q_a1 y.outbox.writes.length q_c1, .int .i64 y.tries, .int .i64 y.waitUntil] ∧ WB W (w.heap.size + 2) #[.int .i64 0, .int .i64 0, .slice none 0 0, .int .i64 0, .int .i64 0] ∧ WB W (w.heap.size + 3) #[.string ⟨#[]⟩, .slice none 0 0, .int .i64 0, .slice none 0 0, .slice none 0 0] ∧ WB W w1.heap.size #[.int .i64 y.outbox.device, .int .i64 y.outbox.next, .slice a1 y.outbox.writes.length c1, .int .i64 y.tries, .int .i64 y.waitUntil] ∧ WB W w3.heap.size #[.string (receiveF s (firstWriteF y.outbox)).store.name, .slice av2 (receiveF s (firstWriteF y.outbox)).store.items.length cv2, .int .i64 (receiveF s (firstWriteF y.outbox)).store.auto, .slice av3 (receiveF s (firstWriteF y.outbox)).applied.length cv3, .slice av4 (receiveF s (firstWriteF y.outbox)).changes.length cv4] ∧ WB W w2.heap.size #[.int .i64 (firstWriteF y.outbox).device, .int .i64 (firstWriteF y.outbox).seq, .int .i64 (firstWriteF y.outbox).key.kind, .int .i64 (firstWriteF y.outbox).key.n, .string (firstWriteF y.outbox).key.text, .string (firstWriteF y.outbox).field, .int .i64 (firstWriteF y.outbox).n] ∧ Part (Rep.slice 34 DWrite.rep) (w.heap.size + 4) w1.heap.size W [.slice a1 y.outbox.writes.length c1] y.outbox.writes ∧ Part DServer.rep lo hi W [.string (receiveF s (firstWriteF y.outbox)).store.name, .slice av2 (receiveF s (firstWriteF y.outbox)).store.items.length cv2, .int .i64 (receiveF s (firstWriteF y.outbox)).store.auto, .slice av3 (receiveF s (firstWriteF y.outbox)).applied.length cv3, .slice av4 (receiveF s (firstWriteF y.outbox)).changes.length cv4] (receiveF s (firstWriteF y.outbox)) ∧ Below w.heap.size w W ∧ w1.heap.size + 1 ≤ lo ∧ (w3.heap.size < lo ∨ hi ≤ w3.heap.size) ∧ hi ≤ W.heap.size ∧ w3.heap.size < W.heap.size ∧ w2.heap.size < W.heap.size) ⟨_, _, _, _, _, _, _, _, HX.out.offs (by omega), HT.out.offs (by omega), HU.out.offs (by omega), HO.out.offs (by omega), HS.out.sets5, HW.out.offs (by omega), offs5 HP.out (by omega), offs5 HQ.out (by omega), by have y := HB.out; exact bEb, by omega, by omega, by simp, by simp; omega, by simp; omega⟩ ?_
    clear c_HO z_HO f_HO c_HS z_HS f_HS c_HW z_HW f_HW c_HX z_HX f_HX
    clear HX HT HU HO HS HW HP HQ HB
    rintro w7 ⟨lo, hi, av2, cv2, av3, cv3, av4, cv4, hx, ht, hu, ho, hs9, hw9, hp, hq, hb, hlo, hkS, hhi, hS7, hW7⟩
    have HX := Lib.hid hx
    have HT := Lib.hid ht
    have HU := Lib.hid hu
    have HO := Lib.hid ho
    have HS := Lib.hid hs9
    have HW := Lib.hid hw9
    have HP := Lib.hid hp
    have HQ := Lib.hid hq
    have HB := Lib.hid hb
    clear hx ht hu ho hs9 hw9 hp hq hb
    have ⟨c_HO, z_HO, f_HO⟩ := HO.out
    have ⟨c_HS, z_HS, f_HS⟩ := HS.out
    have ⟨c_HW, z_HW, f_HW⟩ := HW.out
    have ⟨c_HX, z_HX, f_HX⟩ := HX.out
    go_wp2_with fail
    refine (specReceiveWrite _ _ (receiveF s (firstWriteF y.outbox)) (firstWriteF y.outbox) _ HQ.out.reads (HWr.out _) ((hs.receive).mono (by omega))).mono ?_
    rintro e wr2 ⟨ds, rfl, hf, hb⟩
    obtain ⟨av2, cv2, av3, cv3, av4, cv4, rfl⟩ := DServer.fshape hf
    clear c_HO z_HO f_HO c_HS z_HS f_HS c_HW z_HW f_HW c_HX z_HX f_HX
    have hzwr2 := hb.size
    replace HX := Lib.hid (HX.out.keep hb)
    replace HT := Lib.hid (HT.out.keep hb)
    replace HU := Lib.hid (HU.out.keep hb)
    replace HO := Lib.hid (HO.out.keep hb)
    replace HS := Lib.hid (HS.out.keep hb)
    replace HW := Lib.hid (HW.out.keep hb)
    replace HB := Lib.hid (HB.out.trans (hb.mono HB.out.size))
    replace HP := Lib.hid (Part.below HP.out hb)
    replace HQ := Lib.hid (hf.partAt (Nat.le_refl _))
    clear hb hf
    have ⟨c_HO, z_HO, f_HO⟩ := HO.out
    have ⟨c_HS, z_HS, f_HS⟩ := HS.out
    have ⟨c_HW, z_HW, f_HW⟩ := HW.out
    have ⟨c_HX, z_HX, f_HX⟩ := HX.out
    go_upto_region 11 with fail
    refine settle (fun W => ∃ (lo hi : Nat) (av2 : Option Addr) (cv2 : Nat) (av3 : Option Addr) (cv3 : Nat) (av4 : Option Addr) (cv4 : Nat), WB W w.heap.size #[.int .i64 y.outbox.device, .int .i64 y.outbox.next, .slice q_a1 y.outbox.writes.length q_c1, .int .i64 y.tries, .int .i64 y.waitUntil] ∧ WB W (w.heap.size + 2) #[.int .i64 0, .int .i64 0, .slice none 0 0, .int .i64 0, .int .i64 0] ∧ WB W (w.heap.size + 3) #[.string ⟨#[]⟩, .slice none 0 0, .int .i64 0, .slice none 0 0, .slice none 0 0] ∧ WB W w1.heap.size #[.int .i64 y.outbox.device, .int .i64 y.outbox.next, .slice a1 y.outbox.writes.length c1, .int .i64 y.tries, .int .i64 y.waitUntil] ∧ WB W w3.heap.size #[.string (receiveF (receiveF s (firstWriteF y.outbox)) (firstWriteF y.outbox)).store.name, .slice av2 (receiveF (receiveF s (firstWriteF y.outbox)) (firstWriteF y.outbox)).store.items.length cv2, .int .i64 (receiveF (receiveF s (firstWriteF y.outbox)) (firstWriteF y.outbox)).store.auto, .slice av3 (receiveF (receiveF s (firstWriteF y.outbox)) (firstWriteF y.outbox)).applied.length cv3, .slice av4 (receiveF (receiveF s (firstWriteF y.outbox)) (firstWriteF y.outbox)).changes.length cv4] ∧ WB W w2.heap.size #[.int .i64 (firstWriteF y.outbox).device, .int .i64 (firstWriteF y.outbox).seq, .int .i64 (firstWriteF y.outbox).key.kind, .int .i64 (firstWriteF y.outbox).key.n, .string (firstWriteF y.outbox).key.text, .string (firstWriteF y.outbox).field, .int .i64 (firstWriteF y.outbox).n] ∧ Part (Rep.slice 34 DWrite.rep) (w.heap.size + 4) w1.heap.size W [.slice a1 y.outbox.writes.length c1] y.outbox.writes ∧ Part DServer.rep lo hi W [.string (receiveF (receiveF s (firstWriteF y.outbox)) (firstWriteF y.outbox)).store.name, .slice av2 (receiveF (receiveF s (firstWriteF y.outbox)) (firstWriteF y.outbox)).store.items.length cv2, .int .i64 (receiveF (receiveF s (firstWriteF y.outbox)) (firstWriteF y.outbox)).store.auto, .slice av3 (receiveF (receiveF s (firstWriteF y.outbox)) (firstWriteF y.outbox)).applied.length cv3, .slice av4 (receiveF (receiveF s (firstWriteF y.outbox)) (firstWriteF y.outbox)).changes.length cv4] (receiveF (receiveF s (firstWriteF y.outbox)) (firstWriteF y.outbox)) ∧ Below w.heap.size w W ∧ w1.heap.size + 1 ≤ lo ∧ (w3.heap.size < lo ∨ hi ≤ w3.heap.size) ∧ hi ≤ W.heap.size ∧ w3.heap.size < W.heap.size ∧ w2.heap.size < W.heap.size) ⟨_, _, _, _, _, _, _, _, HX.out.offs (by omega), HT.out.offs (by omega), HU.out.offs (by omega), HO.out.offs (by omega), HS.out.sets5, HW.out.offs (by omega), offs5 HP.out (by omega), offs5 HQ.out (by omega), by have y := HB.out; exact bEb, by omega, by omega, by simp, by simp; omega, by simp; omega⟩ ?_
    clear c_HO z_HO f_HO c_HS z_HS f_HS c_HW z_HW f_HW c_HX z_HX f_HX
    clear HX HT HU HO HS HW HP HQ HB
    rintro w7 ⟨lo, hi, av2, cv2, av3, cv3, av4, cv4, hx, ht, hu, ho, hs9, hw9, hp, hq, hb, hlo, hkS, hhi, hS7, hW7⟩
    have HX := Lib.hid hx
    have HT := Lib.hid ht
    have HU := Lib.hid hu
    have HO := Lib.hid ho
    have HS := Lib.hid hs9
    have HW := Lib.hid hw9
    have HP := Lib.hid hp
    have HQ := Lib.hid hq
    have HB := Lib.hid hb
    clear hx ht hu ho hs9 hw9 hp hq hb
    have ⟨c_HO, z_HO, f_HO⟩ := HO.out
    have ⟨c_HS, z_HS, f_HS⟩ := HS.out
    have ⟨c_HW, z_HW, f_HW⟩ := HW.out
    have ⟨c_HX, z_HX, f_HX⟩ := HX.out
    cases n1 : (receiveCode (receiveF s (firstWriteF y.outbox)) (firstWriteF y.outbox) == 1)
    case' false => cases n2 : (receiveCode (receiveF s (firstWriteF y.outbox)) (firstWriteF y.outbox) == 2)
    case false.false =>
     have ha : stepAcked s (firstWriteF y.outbox) 3 = false := by rw [acked_is (by decide), (srv_two rfl).2, n1, n2]; rfl
     have hYs := Lib.hid (step_waits (s := s) HON.out ha).1
     have hN := Lib.hid (step_waits (s := s) HON.out ha).2
     have htm := Lib.hid (tried_min2 ht)
     go_wp2_with fail
     refine (specMin _ _ _).mono ?_
     rintro e w8 ⟨rfl, rfl⟩
     go_wp2_with fail
     refine (specMin _ _ _).mono ?_
     rintro e w8 ⟨rfl, rfl⟩
     rw [htm.out]
     go_wp2_with fail
     refine (specBackoff _ _).mono ?_
     rintro e w8 ⟨rfl, rfl⟩
     go_upto_region 18 with fail
     refine settle (fun W => WB W (w.heap.size + 2) #[.int .i64 0, .int .i64 0, .slice none 0 0, .int .i64 0, .int .i64 0] ∧ WB W (w.heap.size + 3) #[.string ⟨#[]⟩, .slice none 0 0, .int .i64 0, .slice none 0 0, .slice none 0 0] ∧ WB W w1.heap.size #[.int .i64 y.outbox.device, .int .i64 y.outbox.next, .slice a1 y.outbox.writes.length c1, .int .i64 (tried y.tries), .int .i64 (wrap64 (now + boff (tried y.tries)))] ∧ WB W w3.heap.size #[.string (receiveF (receiveF s (firstWriteF y.outbox)) (firstWriteF y.outbox)).store.name, .slice av2 (receiveF (receiveF s (firstWriteF y.outbox)) (firstWriteF y.outbox)).store.items.length cv2, .int .i64 (receiveF (receiveF s (firstWriteF y.outbox)) (firstWriteF y.outbox)).store.auto, .slice av3 (receiveF (receiveF s (firstWriteF y.outbox)) (firstWriteF y.outbox)).applied.length cv3, .slice av4 (receiveF (receiveF s (firstWriteF y.outbox)) (firstWriteF y.outbox)).changes.length cv4] ∧ Part (Rep.slice 34 DWrite.rep) (w.heap.size + 4) w1.heap.size W [.slice a1 y.outbox.writes.length c1] y.outbox.writes ∧ Part DServer.rep lo hi W [.string (receiveF (receiveF s (firstWriteF y.outbox)) (firstWriteF y.outbox)).store.name, .slice av2 (receiveF (receiveF s (firstWriteF y.outbox)) (firstWriteF y.outbox)).store.items.length cv2, .int .i64 (receiveF (receiveF s (firstWriteF y.outbox)) (firstWriteF y.outbox)).store.auto, .slice av3 (receiveF (receiveF s (firstWriteF y.outbox)) (firstWriteF y.outbox)).applied.length cv3, .slice av4 (receiveF (receiveF s (firstWriteF y.outbox)) (firstWriteF y.outbox)).changes.length cv4] (receiveF (receiveF s (firstWriteF y.outbox)) (firstWriteF y.outbox)) ∧ Below w.heap.size w W) ⟨(HT.out.setOther (by omega)).setOther (by omega), (HU.out.setOther (by omega)).setOther (by omega), (HO.out.setAt (i := 3) (by simp) rfl).setAt (by simp) rfl, (HS.out.setOther (by omega)).setOther (by omega), offCell (offCell HP.out (by omega)) (by omega), offCell (offCell HQ.out (by omega)) (by omega), by have y := HB.out; exact bEb⟩ ?_
     clear c_HO z_HO f_HO c_HS z_HS f_HS c_HW z_HW f_HW c_HX z_HX f_HX
     clear HX HT HU HO HS HW HP HQ HB
     rintro w9 ⟨ht9, hu, ho, hs9, hp, hq, hb⟩
     have HT := Lib.hid ht9
     have HU := Lib.hid hu
     have HO := Lib.hid ho
     have HS := Lib.hid hs9
     have HP := Lib.hid hp
     have HQ := Lib.hid hq
     have HB := Lib.hid hb
     clear ht9 hu ho hs9 hp hq hb
     have ⟨c_HT, z_HT, f_HT⟩ := HT.out
     have ⟨c_HU, z_HU, f_HU⟩ := HU.out
     have ⟨c_HO, z_HO, f_HO⟩ := HO.out
     have ⟨c_HS, z_HS, f_HS⟩ := HS.out
     go_region
     all_goals
      go_wp2
      refine bodyPost_ret (v := .tuple #[.agg #[.int .i64 y.outbox.device, .int .i64 y.outbox.next, .slice a1 y.outbox.writes.length c1, .int .i64 (tried y.tries), .int .i64 (wrap64 (now + boff (tried y.tries)))], .agg #[.string (receiveF (receiveF s (firstWriteF y.outbox)) (firstWriteF y.outbox)).store.name, .slice av2 (receiveF (receiveF s (firstWriteF y.outbox)) (firstWriteF y.outbox)).store.items.length cv2, .int .i64 (receiveF (receiveF s (firstWriteF y.outbox)) (firstWriteF y.outbox)).store.auto, .slice av3 (receiveF (receiveF s (firstWriteF y.outbox)) (firstWriteF y.outbox)).applied.length cv3, .slice av4 (receiveF (receiveF s (firstWriteF y.outbox)) (firstWriteF y.outbox)).changes.length cv4], .int .i64 2]) (by simp [results, Tryz.results114, go_sem, c_HT, c_HU]) rfl ⟨_, _, by rw [hN.out], ?_, ?_⟩
      ·rw [hYs.out, hSs.out]
       refine Fresh2.of_parts (B := w.heap.size) (sync_part (x := stepSync y now) (lo := (w.heap.size + 4)) (hi := w1.heap.size) ?_) (lo' := lo) (hi' := hi) ?_ (by omega) (by omega) (by omega)
       ·(repeat (first | with_reducible refine offCell ?_ (by omega) | with_reducible refine partD ?_))
        exact HP.out
       ·(repeat (first | with_reducible refine offCell ?_ (by omega) | with_reducible refine partD ?_))
        exact HQ.out
      ·have y := HB.out
       exact bEb
    all_goals
     have ha : stepAcked s (firstWriteF y.outbox) 3 = true := by
      rw [acked_is (by decide), (srv_two rfl).2, n1]
      first | rfl | (rw [n2]; rfl)
     have hYs := Lib.hid (step_acked HON.out ha).1
     have hN := Lib.hid (step_acked HON.out ha).2
     go_wp2_with fail
     refine (specAckWrites _ y.outbox (firstWriteF y.outbox).seq _ (HOb.out.below HB.out) (by omega)).mono ?_
     rintro e w8 ⟨ds8, rfl, hf8, hb8⟩
     obtain ⟨a8, c8, rfl, hfw8⟩ := DOutbox.fopen hf8
     have hz8 := hb8.size
     clear c_HO z_HO f_HO c_HS z_HS f_HS c_HW z_HW f_HW c_HX z_HX f_HX
     replace HT := Lib.hid (HT.out.keep hb8)
     replace HU := Lib.hid (HU.out.keep hb8)
     replace HO := Lib.hid (HO.out.keep hb8)
     replace HS := Lib.hid (HS.out.keep hb8)
     replace HB := Lib.hid (HB.out.trans (hb8.mono HB.out.size))
     replace HQ := Lib.hid (Part.below HQ.out hb8)
     replace HP : Hid (Part (Rep.slice 34 DWrite.rep) w7.heap.size w8.heap.size w8 [.slice a8 (ackWritesF y.outbox (firstWriteF y.outbox).seq).writes.length c8] (ackWritesF y.outbox (firstWriteF y.outbox).seq).writes) := Lib.hid (hfw8.partAt (Nat.le_refl _))
     clear hb8 hf8 hfw8
     have ⟨c_HO, z_HO, f_HO⟩ := HO.out
     go_upto_region 15 with fail
     refine settle (fun W => WB W (w.heap.size + 2) #[.int .i64 0, .int .i64 0, .slice none 0 0, .int .i64 0, .int .i64 0] ∧ WB W (w.heap.size + 3) #[.string ⟨#[]⟩, .slice none 0 0, .int .i64 0, .slice none 0 0, .slice none 0 0] ∧ WB W w1.heap.size #[.int .i64 (ackWritesF y.outbox (firstWriteF y.outbox).seq).device, .int .i64 (ackWritesF y.outbox (firstWriteF y.outbox).seq).next, .slice a8 (ackWritesF y.outbox (firstWriteF y.outbox).seq).writes.length c8, .int .i64 0, .int .i64 0] ∧ WB W w3.heap.size #[.string (receiveF (receiveF s (firstWriteF y.outbox)) (firstWriteF y.outbox)).store.name, .slice av2 (receiveF (receiveF s (firstWriteF y.outbox)) (firstWriteF y.outbox)).store.items.length cv2, .int .i64 (receiveF (receiveF s (firstWriteF y.outbox)) (firstWriteF y.outbox)).store.auto, .slice av3 (receiveF (receiveF s (firstWriteF y.outbox)) (firstWriteF y.outbox)).applied.length cv3, .slice av4 (receiveF (receiveF s (firstWriteF y.outbox)) (firstWriteF y.outbox)).changes.length cv4] ∧ Part (Rep.slice 34 DWrite.rep) w7.heap.size w8.heap.size W [.slice a8 (ackWritesF y.outbox (firstWriteF y.outbox).seq).writes.length c8] (ackWritesF y.outbox (firstWriteF y.outbox).seq).writes ∧ Part DServer.rep lo hi W [.string (receiveF (receiveF s (firstWriteF y.outbox)) (firstWriteF y.outbox)).store.name, .slice av2 (receiveF (receiveF s (firstWriteF y.outbox)) (firstWriteF y.outbox)).store.items.length cv2, .int .i64 (receiveF (receiveF s (firstWriteF y.outbox)) (firstWriteF y.outbox)).store.auto, .slice av3 (receiveF (receiveF s (firstWriteF y.outbox)) (firstWriteF y.outbox)).applied.length cv3, .slice av4 (receiveF (receiveF s (firstWriteF y.outbox)) (firstWriteF y.outbox)).changes.length cv4] (receiveF (receiveF s (firstWriteF y.outbox)) (firstWriteF y.outbox)) ∧ Below w.heap.size w W) ⟨HT.out.offs (by omega), HU.out.offs (by omega), HO.out.sets5, HS.out.offs (by omega), offs5 HP.out (by omega), offs5 HQ.out (by omega), by have y := HB.out; exact bEb⟩ ?_
     clear c_HO z_HO f_HO
     clear HX HT HU HO HS HW HP HQ HB
     rintro w9 ⟨ht, hu, ho, hs9, hp, hq, hb⟩
     have HT := Lib.hid ht
     have HU := Lib.hid hu
     have HO := Lib.hid ho
     have HS := Lib.hid hs9
     have HP := Lib.hid hp
     have HQ := Lib.hid hq
     have HB := Lib.hid hb
     clear ht hu ho hs9 hp hq hb
     have ⟨c_HT, z_HT, f_HT⟩ := HT.out
     have ⟨c_HU, z_HU, f_HU⟩ := HU.out
     have ⟨c_HO, z_HO, f_HO⟩ := HO.out
     have ⟨c_HS, z_HS, f_HS⟩ := HS.out
     go_region
     all_goals
      go_wp2
      refine bodyPost_ret (v := .tuple #[.agg #[.int .i64 (ackWritesF y.outbox (firstWriteF y.outbox).seq).device, .int .i64 (ackWritesF y.outbox (firstWriteF y.outbox).seq).next, .slice a8 (ackWritesF y.outbox (firstWriteF y.outbox).seq).writes.length c8, .int .i64 0, .int .i64 0], .agg #[.string (receiveF (receiveF s (firstWriteF y.outbox)) (firstWriteF y.outbox)).store.name, .slice av2 (receiveF (receiveF s (firstWriteF y.outbox)) (firstWriteF y.outbox)).store.items.length cv2, .int .i64 (receiveF (receiveF s (firstWriteF y.outbox)) (firstWriteF y.outbox)).store.auto, .slice av3 (receiveF (receiveF s (firstWriteF y.outbox)) (firstWriteF y.outbox)).applied.length cv3, .slice av4 (receiveF (receiveF s (firstWriteF y.outbox)) (firstWriteF y.outbox)).changes.length cv4], .int .i64 1]) (by simp [results, Tryz.results114, go_sem, c_HT, c_HU]) rfl ⟨_, _, by rw [hN.out], ?_, ?_⟩
      ·rw [hYs.out, hSs.out]
       refine Fresh2.of_parts (B := w.heap.size) (sync_part (x := ackedSync y) (lo := w7.heap.size) (hi := w8.heap.size) ?_) (lo' := lo) (hi' := hi) ?_ (by omega) (by omega) (by omega)
       ·(repeat (first | with_reducible refine offCell ?_ (by omega) | with_reducible refine partD ?_))
        exact HP.out
       ·(repeat (first | with_reducible refine offCell ?_ (by omega) | with_reducible refine partD ?_))
        exact HQ.out
      ·have y := HB.out
       exact bEb
   ·have g0 : fate ≠ 0 := by simpa using f0
    have g2 : fate ≠ 2 := by simpa using f2
    have g3 : fate ≠ 3 := by simpa using f3
    have hSs : Hid (syncStepS y s now fate = s) := Lib.hid ((step_on HON.out).trans (srv_none g0 g2 g3))
    have ha : stepAcked s (firstWriteF y.outbox) fate = false := acked_not g0 g3
    have hYs := Lib.hid (step_waits (s := s) HON.out ha).1
    have hN := Lib.hid (step_waits (s := s) HON.out ha).2
    clear g0 g2 g3
    go_upto_region 11 with (first | (go_at_call 78; refine (specIn _ _ _ _).mono ?_; rintro e w' ⟨rfl, rfl⟩) | fail)
    refine settle (fun W => ∃ (lo hi : Nat) (av2 : Option Addr) (cv2 : Nat) (av3 : Option Addr) (cv3 : Nat) (av4 : Option Addr) (cv4 : Nat), WB W w.heap.size #[.int .i64 y.outbox.device, .int .i64 y.outbox.next, .slice q_a1 y.outbox.writes.length q_c1, .int .i64 y.tries, .int .i64 y.waitUntil] ∧ WB W (w.heap.size + 2) #[.int .i64 0, .int .i64 0, .slice none 0 0, .int .i64 0, .int .i64 0] ∧ WB W (w.heap.size + 3) #[.string ⟨#[]⟩, .slice none 0 0, .int .i64 0, .slice none 0 0, .slice none 0 0] ∧ WB W w1.heap.size #[.int .i64 y.outbox.device, .int .i64 y.outbox.next, .slice a1 y.outbox.writes.length c1, .int .i64 y.tries, .int .i64 y.waitUntil] ∧ WB W w3.heap.size #[.string s.store.name, .slice av2 s.store.items.length cv2, .int .i64 s.store.auto, .slice av3 s.applied.length cv3, .slice av4 s.changes.length cv4] ∧ WB W w2.heap.size #[.int .i64 (firstWriteF y.outbox).device, .int .i64 (firstWriteF y.outbox).seq, .int .i64 (firstWriteF y.outbox).key.kind, .int .i64 (firstWriteF y.outbox).key.n, .string (firstWriteF y.outbox).key.text, .string (firstWriteF y.outbox).field, .int .i64 (firstWriteF y.outbox).n] ∧ Part (Rep.slice 34 DWrite.rep) (w.heap.size + 4) w1.heap.size W [.slice a1 y.outbox.writes.length c1] y.outbox.writes ∧ Part DServer.rep lo hi W [.string s.store.name, .slice av2 s.store.items.length cv2, .int .i64 s.store.auto, .slice av3 s.applied.length cv3, .slice av4 s.changes.length cv4] s ∧ Below w.heap.size w W ∧ w1.heap.size + 1 ≤ lo ∧ (w3.heap.size < lo ∨ hi ≤ w3.heap.size) ∧ hi ≤ W.heap.size ∧ w3.heap.size < W.heap.size ∧ w2.heap.size < W.heap.size) ⟨_, _, _, _, _, _, _, _, HX.out, HT.out, HU.out, HO.out, HS.out, HW.out, HP.out, HQ.out, HB.out, by omega, by omega, by omega, by omega, by omega⟩ ?_
    clear c_HO z_HO f_HO c_HS z_HS f_HS c_HW z_HW f_HW c_HX z_HX f_HX
    clear HX HT HU HO HS HW HP HQ HB
    rintro w7 ⟨lo, hi, av2, cv2, av3, cv3, av4, cv4, hx, ht, hu, ho, hs9, hw9, hp, hq, hb, hlo, hkS, hhi, hS7, hW7⟩
    have HX := Lib.hid hx
    have HT := Lib.hid ht
    have HU := Lib.hid hu
    have HO := Lib.hid ho
    have HS := Lib.hid hs9
    have HW := Lib.hid hw9
    have HP := Lib.hid hp
    have HQ := Lib.hid hq
    have HB := Lib.hid hb
    clear hx ht hu ho hs9 hw9 hp hq hb
    have ⟨c_HO, z_HO, f_HO⟩ := HO.out
    have ⟨c_HS, z_HS, f_HS⟩ := HS.out
    have ⟨c_HW, z_HW, f_HW⟩ := HW.out
    have ⟨c_HX, z_HX, f_HX⟩ := HX.out
    have htm := Lib.hid (tried_min2 ht)
    go_wp2_with fail
    refine (specMin _ _ _).mono ?_
    rintro e w8 ⟨rfl, rfl⟩
    go_wp2_with fail
    refine (specMin _ _ _).mono ?_
    rintro e w8 ⟨rfl, rfl⟩
    rw [htm.out]
    go_wp2_with fail
    refine (specBackoff _ _).mono ?_
    rintro e w8 ⟨rfl, rfl⟩
    go_upto_region 18 with fail
    refine settle (fun W => WB W (w.heap.size + 2) #[.int .i64 0, .int .i64 0, .slice none 0 0, .int .i64 0, .int .i64 0] ∧ WB W (w.heap.size + 3) #[.string ⟨#[]⟩, .slice none 0 0, .int .i64 0, .slice none 0 0, .slice none 0 0] ∧ WB W w1.heap.size #[.int .i64 y.outbox.device, .int .i64 y.outbox.next, .slice a1 y.outbox.writes.length c1, .int .i64 (tried y.tries), .int .i64 (wrap64 (now + boff (tried y.tries)))] ∧ WB W w3.heap.size #[.string s.store.name, .slice av2 s.store.items.length cv2, .int .i64 s.store.auto, .slice av3 s.applied.length cv3, .slice av4 s.changes.length cv4] ∧ Part (Rep.slice 34 DWrite.rep) (w.heap.size + 4) w1.heap.size W [.slice a1 y.outbox.writes.length c1] y.outbox.writes ∧ Part DServer.rep lo hi W [.string s.store.name, .slice av2 s.store.items.length cv2, .int .i64 s.store.auto, .slice av3 s.applied.length cv3, .slice av4 s.changes.length cv4] s ∧ Below w.heap.size w W) ⟨(HT.out.setOther (by omega)).setOther (by omega), (HU.out.setOther (by omega)).setOther (by omega), (HO.out.setAt (i := 3) (by simp) rfl).setAt (by simp) rfl, (HS.out.setOther (by omega)).setOther (by omega), offCell (offCell HP.out (by omega)) (by omega), offCell (offCell HQ.out (by omega)) (by omega), by have y := HB.out; exact bEb⟩ ?_
    clear c_HO z_HO f_HO c_HS z_HS f_HS c_HW z_HW f_HW c_HX z_HX f_HX
    clear HX HT HU HO HS HW HP HQ HB
    rintro w9 ⟨ht9, hu, ho, hs9, hp, hq, hb⟩
    have HT := Lib.hid ht9
    have HU := Lib.hid hu
    have HO := Lib.hid ho
    have HS := Lib.hid hs9
    have HP := Lib.hid hp
    have HQ := Lib.hid hq
    have HB := Lib.hid hb
    clear ht9 hu ho hs9 hp hq hb
    have ⟨c_HT, z_HT, f_HT⟩ := HT.out
    have ⟨c_HU, z_HU, f_HU⟩ := HU.out
    have ⟨c_HO, z_HO, f_HO⟩ := HO.out
    have ⟨c_HS, z_HS, f_HS⟩ := HS.out
    go_region
    all_goals
     go_wp2
     refine bodyPost_ret (v := .tuple #[.agg #[.int .i64 y.outbox.device, .int .i64 y.outbox.next, .slice a1 y.outbox.writes.length c1, .int .i64 (tried y.tries), .int .i64 (wrap64 (now + boff (tried y.tries)))], .agg #[.string s.store.name, .slice av2 s.store.items.length cv2, .int .i64 s.store.auto, .slice av3 s.applied.length cv3, .slice av4 s.changes.length cv4], .int .i64 2]) (by simp [results, Tryz.results114, go_sem, c_HT, c_HU]) rfl ⟨_, _, by rw [hN.out], ?_, ?_⟩
     ·rw [hYs.out, hSs.out]
      refine Fresh2.of_parts (B := w.heap.size) (sync_part (x := stepSync y now) (lo := (w.heap.size + 4)) (hi := w1.heap.size) ?_) (lo' := lo) (hi' := hi) ?_ (by omega) (by omega) (by omega)
      ·(repeat (first | with_reducible refine offCell ?_ (by omega) | with_reducible refine partD ?_))
       exact HP.out
      ·(repeat (first | with_reducible refine offCell ?_ (by omega) | with_reducible refine partD ?_))
       exact HQ.out
     ·have y := HB.out
      exact bEb
  all_goals
   first | (have b2' := of_decide_eq_true b2) | (have b2' := of_decide_eq_false b2) | skip
   have ho : stepOff y now = true := by
    unfold stepOff
    first
     | (rw [b0]; rfl)
     | (rw [b0, b1, b2, b3]; rfl)
     | (rw [b0, b1, b2]; rfl)
     | (rw [b1]; (first | rfl | (simp; done)))
   have hYs := Lib.hid (step_off (s := s) (fate := fate) ho).1
   have hSs := Lib.hid (step_off (s := s) (fate := fate) ho).2.1
   have hN := Lib.hid (step_off (s := s) (fate := fate) ho).2.2
   go_upto_region 4 with (first | (go_at_call 78; refine (specIn _ _ _ _).mono ?_; rintro e w' ⟨rfl, rfl⟩) | fail)
   have HSx : Hid (∀ w', Chg [w.heap.size + 2, w.heap.size + 3] w5 w' → (∀ o, w'.cell? ⟨w.heap.size + 1, o, none⟩ = #[.string s.store.name, .slice p_a1 s.store.items.length p_c1, .int .i64 s.store.auto, .slice p_a2 s.applied.length p_c2, .slice p_a3 s.changes.length p_c3][o]?) ∧ (∀ o, w'.cell? ⟨w1.heap.size, o, none⟩ = #[.int .i64 y.outbox.device, .int .i64 y.outbox.next, .slice a1 y.outbox.writes.length c1, .int .i64 y.tries, .int .i64 y.waitUntil][o]?) ∧ Chg [w.heap.size + 2, w.heap.size + 3] w5 w') := Lib.hid fun w' hw' => ⟨(HV.out.chg hw' (by simp)).cell, (HO.out.chg hw' (by simp; omega)).cell, hw'⟩
   go_region_held3 (fun w' => (∀ o, w'.cell? ⟨w.heap.size + 1, o, none⟩ = #[.string s.store.name, .slice p_a1 s.store.items.length p_c1, .int .i64 s.store.auto, .slice p_a2 s.applied.length p_c2, .slice p_a3 s.changes.length p_c3][o]?) ∧ (∀ o, w'.cell? ⟨w1.heap.size, o, none⟩ = #[.int .i64 y.outbox.device, .int .i64 y.outbox.next, .slice a1 y.outbox.writes.length c1, .int .i64 y.tries, .int .i64 y.waitUntil][o]?) ∧ Chg [w.heap.size + 2, w.heap.size + 3] w5 w')
    (first | (refine HSx.out _ ?_; (repeat (with_reducible refine Chg.set (by simp) ?_)); exact Chg.of_below (B := w5.heap.size) (by (repeat (first | with_reducible exact belR | (with_reducible refine belAB ?_ ?_; focus (first | omega | (simp; done) | (simp; omega))) | with_reducible apply belN | with_reducible apply belD | with_reducible assumption)); done) (Nat.le_refl _)) | fail)
    (first
     | (go_at_call 49; refine (specCopyServer _ s _ (HSr.out.below (HB.out.trans (Below.mono (B := w5.heap.size) bEb (by omega)))) (hs.mono (by omega))).mono ?_; rintro e wq ⟨ds, rfl, hf, hb⟩; obtain ⟨av2, cv2, av3, cv3, av4, cv4, rfl⟩ := DServer.fshape hf; have hq6 : Below w5.heap.size w5 wq := (Below.trans bEb (hb.mono bSz)); have hp6 := hf.partAt (lo := w5.heap.size) (by first | exact Nat.le_refl _ | (simp; done)); have hz6 := hq6.size; have ht6 := HT.out.keep hq6; have ⟨ct6, zt6, ft6⟩ := ht6; have hu6 := HU.out.keep hq6; have ⟨cu6, zu6, fu6⟩ := hu6; clear hb hf)
     | fail)
   all_goals
    have HP6 := Lib.hid (Part.below HP.out hq6)
    have HQ6 := Lib.hid hp6
    have HB6 := Lib.hid (HB.out.trans (hq6.mono HB.out.size))
    clear hp6 hq6 ht6 hu6
    go_wp2
    refine bodyPost_ret (v := .tuple #[.agg #[.int .i64 y.outbox.device, .int .i64 y.outbox.next, .slice a1 y.outbox.writes.length c1, .int .i64 y.tries, .int .i64 y.waitUntil], .agg #[.string s.store.name, .slice av2 s.store.items.length cv2, .int .i64 s.store.auto, .slice av3 s.applied.length cv3, .slice av4 s.changes.length cv4], .int .i64 0]) (by simp [results, Tryz.results114, go_sem, ct6, cu6]) rfl ⟨_, _, by rw [hN.out], ?_, ?_⟩
    ·rw [hYs.out, hSs.out]
     refine Fresh2.of_parts (B := w.heap.size) (sync_part (x := y) (lo := (w.heap.size + 4)) (hi := w1.heap.size) ?_) (lo' := w5.heap.size) (hi' := wq.heap.size) ?_ (by omega) (by omega) (by omega)
     ·(repeat (first | with_reducible refine offCell ?_ (by omega) | with_reducible refine partD ?_))
      exact HP6.out
     ·(repeat (first | with_reducible refine offCell ?_ (by omega) | with_reducible refine partD ?_))
      exact HQ6.out
    ·have y := HB6.out
     exact bEb

end Go.Proofs.YtlfebehpmefioaaGreat
