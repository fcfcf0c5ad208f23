/-
  impl.SyncStep.
-/
import Derived.Test.YtlfebehpmefioaaGreatReceive
import Derived.Test.YtlfebehpmefioaaGreatBoxFam
import Derived.Test.YtlfebehpmefioaaGreatSrvFam
import Derived.Test.YtlfebehpmefioaaGreatSrvCnt
namespace Go.Proofs.YtlfebehpmefioaaGreat
open Go.RowKit

theorem Fresh2.of_parts {α β : Type} {R : Rep α} {S : Rep β} {B lo hi lo' hi' : Nat} {w : World} {cs ds : List Value} {x : α} {y : β} (h : Part R lo hi w cs x) (k : Part S lo' hi' w ds y) (h1 : B ≤ lo) (h2 : B ≤ lo') (hd : hi ≤ lo' ∨ hi' ≤ lo) : Fresh2 R S B w cs ds x y := by
  obtain ⟨f, r1, r2, r3⟩ := h
  obtain ⟨g, k1, k2, k3⟩ := k
  exact ⟨f, g, r1, k1, r2, k2, fun b hb hb' => by have := r3 b hb; have := k3 b hb'; omega, fun b hb => by have := r3 b hb; omega, fun b hb => by have := k3 b hb; omega⟩
theorem sync_part {lo hi : Nat} {w : World} {v : Value} {x : DSync} (h : Part (Rep.slice 34 DWrite.rep) lo hi w [v] x.outbox.writes) : Part DSync.rep lo hi w [.int .i64 x.outbox.device, .int .i64 x.outbox.next, v, .int .i64 x.tries, .int .i64 x.waitUntil] x := by
  obtain ⟨f, r1, r2, r3⟩ := h
  exact ⟨f, DSync.rd.2 ⟨_, _, rfl, rfl, r1⟩, r2, r3⟩
theorem outbox_part {lo hi : Nat} {w : World} {v : Value} {x : DOutbox} (h : Part (Rep.slice 34 DWrite.rep) lo hi w [v] x.writes) : Part DOutbox.rep lo hi w [.int .i64 x.device, .int .i64 x.next, v] x := by
  obtain ⟨f, r1, r2, r3⟩ := h
  exact ⟨f, DOutbox.rd.2 ⟨_, _, rfl, rfl, r1⟩, r2, r3⟩
theorem offCell {α : Type} {R : Rep α} {lo hi : Nat} {w : World} {cs : List Value} {x : α} {g o : Nat} {u : Value} (h : Part R lo hi w cs x) (hg : g < lo ∨ hi ≤ g) : Part R lo hi (w.setCell ⟨g, o, none⟩ u) cs x := by
  obtain ⟨fp, h1, h2, h3⟩ := h
  exact ⟨fp, R.frame h1 fun b hb => Below.heap_setCell _ _ _ _ (by have := h3 b hb; simp only []; omega), h2, h3⟩
theorem WB.sets5 {w : World} {k : Nat} {a b c d e a' b' c' d' e' : Value} (h : WB w k #[a, b, c, d, e]) : WB (((((w.setCell ⟨k, 0, none⟩ a').setCell ⟨k, 1, none⟩ b').setCell ⟨k, 2, none⟩ c').setCell ⟨k, 3, none⟩ d').setCell ⟨k, 4, none⟩ e') k #[a', b', c', d', e'] :=
  (((((h.setAt (i := 0) (cs' := #[a', b, c, d, e]) (by simp) rfl).setAt (i := 1) (cs' := #[a', b', c, d, e]) (by simp) rfl).setAt (i := 2) (cs' := #[a', b', c', d, e]) (by simp) rfl).setAt (i := 3) (cs' := #[a', b', c', d', e]) (by simp) rfl).setAt (i := 4) (cs' := #[a', b', c', d', e']) (by simp) rfl)
theorem write_fopen {B : Nat} {w : World} {cs : List Value} {x : DWrite} (h : Fresh DWrite.rep B w cs x) : cs = [.int .i64 x.device, .int .i64 x.seq, .int .i64 x.key.kind, .int .i64 x.key.n, .string x.key.text, .string x.field, .int .i64 x.n] ∧ x.key.text.size ≤ maxLen ∧ x.field.size ≤ maxLen := by
  obtain ⟨_, h, _⟩ := h
  obtain ⟨rfl, _, h1, h2⟩ := DWrite.rd.1 h
  exact ⟨rfl, h1, h2⟩
theorem step_off {y : DSync} {s : DServer} {now fate : Int} (h : stepOff y now = true) : syncStepY y s now fate = y ∧ syncStepS y s now fate = s ∧ syncStepN y s now fate = 0 := by
  unfold syncStepY syncStepS syncStepN; simp only [h, if_true, and_self]
theorem step_on {y : DSync} {s : DServer} {now fate : Int} (h : stepOff y now = false) : syncStepS y s now fate = stepSrv s (firstWriteF y.outbox) fate := by
  unfold syncStepS; rw [h]; rfl
theorem step_acked {y : DSync} {s : DServer} {now fate : Int} (h : stepOff y now = false) (ha : stepAcked s (firstWriteF y.outbox) fate = true) : syncStepY y s now fate = ackedSync y ∧ syncStepN y s now fate = 1 := by
  unfold syncStepY syncStepN; simp only [h, ha, Bool.false_eq_true, if_false, if_true, and_self]
theorem step_waits {y : DSync} {s : DServer} {now fate : Int} (h : stepOff y now = false) (ha : stepAcked s (firstWriteF y.outbox) fate = false) : syncStepY y s now fate = stepSync y now ∧ syncStepN y s now fate = 2 := by
  unfold syncStepY syncStepN; simp only [h, ha, Bool.false_eq_true, if_false, and_self]
theorem srv_one {s : DServer} {y : DWrite} {fate : Int} (h : fate = 0 ∨ fate = 2) : stepSrv s y fate = receiveF s y ∧ stepCode s y fate = receiveCode s y := by unfold stepSrv stepCode; simp only [h, if_true, and_self]
theorem srv_two {s : DServer} {y : DWrite} {fate : Int} (h : fate = 3) : stepSrv s y fate = receiveF (receiveF s y) y ∧ stepCode s y fate = receiveCode (receiveF s y) y := by subst h; unfold stepSrv stepCode; simp
theorem srv_none {s : DServer} {y : DWrite} {fate : Int} (h0 : fate ≠ 0) (h2 : fate ≠ 2) (h3 : fate ≠ 3) : stepSrv s y fate = s := by unfold stepSrv; simp [h0, h2, h3]
theorem acked_not {s : DServer} {y : DWrite} {fate : Int} (h0 : fate ≠ 0) (h3 : fate ≠ 3) : stepAcked s y fate = false := by unfold stepAcked; simp [h0, h3]
theorem acked_is {s : DServer} {y : DWrite} {fate : Int} (h0 : fate = 0 ∨ fate = 3) : stepAcked s y fate = (stepCode s y fate == 1 || stepCode s y fate == 2) := by unfold stepAcked; rcases h0 with h | h <;> simp [h]
theorem WB.offs {w : World} {k g : Nat} {cs : Array Value} {a b c d e : Value} (h : WB w k cs) (hk : k ≠ g) : WB (((((w.setCell ⟨g, 0, none⟩ a).setCell ⟨g, 1, none⟩ b).setCell ⟨g, 2, none⟩ c).setCell ⟨g, 3, none⟩ d).setCell ⟨g, 4, none⟩ e) k cs :=
  ((((h.setOther hk).setOther hk).setOther hk).setOther hk).setOther hk
theorem offs5 {α : Type} {R : Rep α} {lo hi : Nat} {w : World} {cs : List Value} {x : α} {g : Nat} {a b c d e : Value} (h : Part R lo hi w cs x) (hg : g < lo ∨ hi ≤ g) : Part R lo hi (((((w.setCell ⟨g, 0, none⟩ a).setCell ⟨g, 1, none⟩ b).setCell ⟨g, 2, none⟩ c).setCell ⟨g, 3, none⟩ d).setCell ⟨g, 4, none⟩ e) cs x :=
  offCell (offCell (offCell (offCell (offCell h hg) hg) hg) hg) hg
attribute [local irreducible] isOutboxF firstWriteF firstWriteB receiveF receiveCode stepSrv stepCode stepAcked ackWritesF boff

set_option maxRecDepth 100000 in
set_option maxHeartbeats 16000000 in
theorem implSyncStep (cs cv : List Value) (y : DSync) (s : DServer) (now fate : Int) (w : World) (h : Reads DSync.rep w cs y) (h' : Reads DServer.rep w cv s) (hy : y.outbox.writes.length ≤ 1048590) (hs : SmallServer s 1048900) :
    Calls Tryz.prog 65 #[.agg cs.toArray, .agg cv.toArray, .int .i64 now, .int .i64 fate] w fun e w' => ∃ ds dv, e = .returned (.tuple #[.agg ds.toArray, .agg dv.toArray, .int .i64 (syncStepN y s now fate)]) ∧ Fresh2 DSync.rep DServer.rep w.heap.size w' ds dv (syncStepY y s now fate) (syncStepS y s now fate) ∧ Below w.heap.size w w' := by
  have HYr := Lib.hid h
  have HSr := Lib.hid h'
  obtain ⟨fp_q, h⟩ := h
  obtain ⟨q_v1, q_f1, rfl, _, q_r1⟩ := DSync.rd.1 h
  obtain ⟨q_a1, q_c1, rfl, q_hm1, q_lc1, q_hu1⟩ := slice_open q_r1; clear q_hu1
  have q_K1 : Hid (Reads (Rep.slice 34 DWrite.rep) w [.slice q_a1 y.outbox.writes.length q_c1] y.outbox.writes) := ⟨_, q_r1⟩
  clear q_r1 h
  obtain ⟨fp_p, h'⟩ := h'
  obtain ⟨p_v1, p_v2, p_v3, p_f1, p_f2, p_f3, rfl, _, p_s0, p_r1, p_r2, p_r3⟩ := DServer.rd.1 h'
  obtain ⟨p_a1, p_c1, rfl, p_hm1, p_lc1, p_hu1⟩ := slice_open p_r1; clear p_hu1
  have p_K1 : Hid (Reads (Rep.slice 71 DItem.rep) w [.slice p_a1 s.store.items.length p_c1] s.store.items) := ⟨_, p_r1⟩
  obtain ⟨p_a2, p_c2, rfl, p_hm2, p_lc2, p_hu2⟩ := slice_open p_r2; clear p_hu2
  have p_K2 : Hid (Reads (Rep.slice 89 DApplied.rep) w [.slice p_a2 s.applied.length p_c2] s.applied) := ⟨_, p_r2⟩
  obtain ⟨p_a3, p_c3, rfl, p_hm3, p_lc3, p_hu3⟩ := slice_open p_r3; clear p_hu3
  have p_K3 : Hid (Reads (Rep.slice 34 DWrite.rep) w [.slice p_a3 s.changes.length p_c3] s.changes) := ⟨_, p_r3⟩
  clear p_r1 p_r2 p_r3 h'
  have HOb : Hid (Reads DOutbox.rep w [.int .i64 y.outbox.device, .int .i64 y.outbox.next, .slice q_a1 y.outbox.writes.length q_c1] y.outbox) := by
    obtain ⟨f, r⟩ := q_K1.out
    exact ⟨f, DOutbox.rd.2 ⟨_, _, rfl, rfl, r⟩⟩
  go_enter Tryz.func65, Tryz.ntmps65
  go_wp2_with fail
  refine (implCopySync _ y _ (HYr.out.below bEl) (by omega)).mono ?_
  rintro e w1 ⟨ds, rfl, hf, hb⟩
  obtain ⟨a1, c1, rfl, hfw⟩ := DSync.fopen hf
  have HX : Hid (WB w1 w.heap.size #[.int .i64 y.outbox.device, .int .i64 y.outbox.next, .slice q_a1 y.outbox.writes.length q_c1, .int .i64 y.tries, .int .i64 y.waitUntil]) := Lib.hid (((((WB.at rfl).growA).growA).growA).keep hb)
  have HV : Hid (WB w1 (w.heap.size + 1) #[.string s.store.name, .slice p_a1 s.store.items.length p_c1, .int .i64 s.store.auto, .slice p_a2 s.applied.length p_c2, .slice p_a3 s.changes.length p_c3]) := Lib.hid ((((WB.at (by simp)).growA).growA).keep hb)
  have HT : Hid (WB w1 (w.heap.size + 2) #[.int .i64 0, .int .i64 0, .slice none 0 0, .int .i64 0, .int .i64 0]) := Lib.hid (((WB.at (by simp)).growA).keep hb)
  have HU : Hid (WB w1 (w.heap.size + 3) #[.string ⟨#[]⟩, .slice none 0 0, .int .i64 0, .slice none 0 0, .slice none 0 0]) := Lib.hid ((WB.at (by simp)).keep hb)
  have HB : Hid (Below w.heap.size w w1) := Lib.hid (below_call bEl bSz hb)
  have HP : Hid (Part (Rep.slice 34 DWrite.rep) (w.heap.size + 4) w1.heap.size w1 [.slice a1 y.outbox.writes.length c1] y.outbox.writes) := Lib.hid (hfw.partAt (by simp))
  have hz : w.heap.size + 4 ≤ w1.heap.size := by have y := hb.size; simp at y; omega
  clear hb hf hfw
  have ⟨c_HX, z_HX, f_HX⟩ := HX.out
  have ⟨c_HV, z_HV, f_HV⟩ := HV.out
  go_wp2_with fail
  refine (implCopyServer _ s _ (HSr.out.below (HB.out.trans (Below.mono (B := w1.heap.size) bEb (by omega)))) (hs.mono (by omega))).mono ?_
  rintro e w2 ⟨ds, rfl, hf, hb⟩
  obtain ⟨av2, cv2, av3, cv3, av4, cv4, rfl⟩ := DServer.fshape hf
  have hq : Below w1.heap.size w1 w2 := below_call bEl bSz hb
  have HO : Hid (WB w2 w1.heap.size #[.int .i64 y.outbox.device, .int .i64 y.outbox.next, .slice a1 y.outbox.writes.length c1, .int .i64 y.tries, .int .i64 y.waitUntil]) := Lib.hid ((WB.at rfl).keep hb)
  have HQ : Hid (Part DServer.rep (w1.heap.size + 1) w2.heap.size w2 [.string s.store.name, .slice av2 s.store.items.length cv2, .int .i64 s.store.auto, .slice av3 s.applied.length cv3, .slice av4 s.changes.length cv4] s) := Lib.hid (hf.partAt (by simp))
  have hsz2 : w1.heap.size + 1 ≤ w2.heap.size := by have y := hb.size; simp at y; omega
  clear c_HX z_HX f_HX c_HV z_HV f_HV
  replace HX := Lib.hid (HX.out.keep hq)
  replace HV := Lib.hid (HV.out.keep hq)
  replace HT := Lib.hid (HT.out.keep hq)
  replace HU := Lib.hid (HU.out.keep hq)
  replace HB := Lib.hid (HB.out.trans (hq.mono HB.out.size))
  replace HP := Lib.hid (Part.below HP.out hq)
  clear hb hq hf
  have ⟨c_HX, z_HX, f_HX⟩ := HX.out
  have ⟨c_HV, z_HV, f_HV⟩ := HV.out
  go_wp2_with fail
  refine (implFirstWrite _ y.outbox _ (HOb.out.below (HB.out.trans (Below.mono (B := w2.heap.size) bEb (by omega))))).mono ?_
  rintro e w3 ⟨ds, rfl, hf, hb⟩
  obtain ⟨rfl, hyt, hyf⟩ := write_fopen hf
  have hq : Below w2.heap.size w2 w3 := below_call bEl bSz hb
  have HS : Hid (WB w3 w2.heap.size #[.string s.store.name, .slice av2 s.store.items.length cv2, .int .i64 s.store.auto, .slice av3 s.applied.length cv3, .slice av4 s.changes.length cv4]) := Lib.hid ((WB.at rfl).keep hb)
  have hsz3 : w2.heap.size + 1 ≤ w3.heap.size := by have y := hb.size; simp at y; omega
  clear c_HX z_HX f_HX c_HV z_HV f_HV
  replace HX := Lib.hid (HX.out.keep hq)
  replace HT := Lib.hid (HT.out.keep hq)
  replace HU := Lib.hid (HU.out.keep hq)
  replace HO := Lib.hid (HO.out.keep hq)
  replace HB := Lib.hid (HB.out.trans (hq.mono HB.out.size))
  replace HP := Lib.hid (Part.below HP.out hq)
  replace HQ := Lib.hid (Part.below HQ.out hq)
  clear hb hq hf HV
  have HWr : Hid (∀ W, Reads DWrite.rep W [.int .i64 (firstWriteF y.outbox).device, .int .i64 (firstWriteF y.outbox).seq, .int .i64 (firstWriteF y.outbox).key.kind, .int .i64 (firstWriteF y.outbox).key.n, .string (firstWriteF y.outbox).key.text, .string (firstWriteF y.outbox).field, .int .i64 (firstWriteF y.outbox).n] (firstWriteF y.outbox)) := Lib.hid fun W => ⟨[], DWrite.rd.2 ⟨rfl, rfl, hyt, hyf⟩⟩
  have ⟨c_HX, z_HX, f_HX⟩ := HX.out
  go_upto_region 4 with fail
  refine settle (fun W => WB W w.heap.size #[.int .i64 y.outbox.device, .int .i64 y.outbox.next, .slice q_a1 y.outbox.writes.length q_c1, .int .i64 y.tries, .int .i64 y.waitUntil] ∧ WB W (w.heap.size + 2) #[.int .i64 0, .int .i64 0, .slice none 0 0, .int .i64 0, .int .i64 0] ∧ WB W (w.heap.size + 3) #[.string ⟨#[]⟩, .slice none 0 0, .int .i64 0, .slice none 0 0, .slice none 0 0] ∧ WB W w1.heap.size #[.int .i64 y.outbox.device, .int .i64 y.outbox.next, .slice a1 y.outbox.writes.length c1, .int .i64 y.tries, .int .i64 y.waitUntil] ∧ WB W w2.heap.size #[.string s.store.name, .slice av2 s.store.items.length cv2, .int .i64 s.store.auto, .slice av3 s.applied.length cv3, .slice av4 s.changes.length cv4] ∧ WB W w3.heap.size #[.int .i64 (firstWriteF y.outbox).device, .int .i64 (firstWriteF y.outbox).seq, .int .i64 (firstWriteF y.outbox).key.kind, .int .i64 (firstWriteF y.outbox).key.n, .string (firstWriteF y.outbox).key.text, .string (firstWriteF y.outbox).field, .int .i64 (firstWriteF y.outbox).n] ∧ Part (Rep.slice 34 DWrite.rep) (w.heap.size + 4) w1.heap.size W [.slice a1 y.outbox.writes.length c1] y.outbox.writes ∧ Part DServer.rep (w1.heap.size + 1) w2.heap.size W [.string s.store.name, .slice av2 s.store.items.length cv2, .int .i64 s.store.auto, .slice av3 s.applied.length cv3, .slice av4 s.changes.length cv4] s ∧ Below w.heap.size w W ∧ w3.heap.size + 1 ≤ W.heap.size) ⟨HX.out.growA, HT.out.growA, HU.out.growA, HO.out.growA, HS.out.growA, WB.at rfl, partA HP.out, partA HQ.out, by have y := HB.out; exact bEb, by simp⟩ ?_
  clear c_HX z_HX f_HX
  clear HX HT HU HO HS HP HQ HB
  rintro w4 ⟨hx, ht, hu, ho, hs9, hw9, hp, hq, hb, hz4⟩
  have HX := Lib.hid hx
  have HT := Lib.hid ht
  have HU := Lib.hid hu
  have HO := Lib.hid ho
  have HS := Lib.hid hs9
  have HW := Lib.hid hw9
  have HP := Lib.hid hp
  have HQ := Lib.hid hq
  have HB := Lib.hid hb
  clear hx ht hu ho hs9 hw9 hp hq hb
  have ⟨c_HX, z_HX, f_HX⟩ := HX.out
  go_wp2_with fail
  refine (implIsOutbox _ y.outbox _ (HOb.out.below HB.out)).mono ?_
  rintro e w5 ⟨rfl, hb⟩
  clear c_HX z_HX f_HX
  have hz5 := hb.size
  replace HX := Lib.hid (HX.out.keep hb)
  replace HT := Lib.hid (HT.out.keep hb)
  replace HU := Lib.hid (HU.out.keep hb)
  replace HO := Lib.hid (HO.out.keep hb)
  replace HS := Lib.hid (HS.out.keep hb)
  replace HW := Lib.hid (HW.out.keep hb)
  replace HB := Lib.hid (HB.out.trans (hb.mono HB.out.size))
  replace HP := Lib.hid (Part.below HP.out hb)
  replace HQ := Lib.hid (Part.below HQ.out hb)
  clear hb
  have ⟨c_HX, z_HX, f_HX⟩ := HX.out
  have ⟨c_HT, z_HT, f_HT⟩ := HT.out
  have ⟨c_HU, z_HU, f_HU⟩ := HU.out
  have ⟨c_HO, z_HO, f_HO⟩ := HO.out
  have ⟨c_HS, z_HS, f_HS⟩ := HS.out
  have ⟨c_HW, z_HW, f_HW⟩ := HW.out
  cases b0 : isOutboxF y.outbox
  case' true => cases b1 : firstWriteB y.outbox
  case' true.true => cases b2 : decide (now < y.waitUntil)
  case' true.true.false => cases b3 : within now 0 1000000000000
  case true.true.false.true =>
    have b2' := of_decide_eq_false b2
    have HON : Hid (stepOff y now = false) := Lib.hid (by unfold stepOff; rw [b0, b1, b2, b3]; rfl)
    clear b0
    have hfate : fate = 0 ∨ fate = 2 ∨ fate = 3 ∨ ((fate == 0) = false ∧ (fate == 2) = false ∧ (fate == 3) = false) := by
      by_cases h0 : fate = 0
      · exact .inl h0
      by_cases h2 : fate = 2
      · exact .inr (.inl h2)
      by_cases h3 : fate = 3
      · exact .inr (.inr (.inl h3))
      · exact .inr (.inr (.inr ⟨by simpa using h0, by simpa using h2, by simpa using h3⟩))
    rcases hfate with rfl | rfl | rfl | ⟨f0, f2, f3⟩
    · have hSs : Hid (syncStepS y s now 0 = (receiveF s (firstWriteF y.outbox))) := Lib.hid ((step_on HON.out).trans (srv_one (.inl rfl)).1)
      go_wp2_with (first | (go_at_call 60; refine (implInRange _ _ _ _).mono ?_; rintro e w' ⟨rfl, rfl⟩) | fail)
      refine (implReceiveWrite _ _ s (firstWriteF y.outbox) _ HQ.out.reads (HWr.out _) (hs.mono (by omega))).mono ?_
      rintro e wr1 ⟨ds, rfl, hf, hb⟩
      obtain ⟨av2, cv2, av3, cv3, av4, cv4, rfl⟩ := DServer.fshape hf
      clear c_HX z_HX f_HX c_HT z_HT f_HT c_HU z_HU f_HU c_HO z_HO f_HO c_HS z_HS f_HS c_HW z_HW f_HW
      have hzwr1 := hb.size
      replace HX := Lib.hid (HX.out.keep hb)
      replace HT := Lib.hid (HT.out.keep hb)
      replace HU := Lib.hid (HU.out.keep hb)
      replace HO := Lib.hid (HO.out.keep hb)
      replace HS := Lib.hid (HS.out.keep hb)
      replace HW := Lib.hid (HW.out.keep hb)
      replace HB := Lib.hid (HB.out.trans (hb.mono HB.out.size))
      replace HP := Lib.hid (Part.below HP.out hb)
      replace HQ := Lib.hid (hf.partAt (Nat.le_refl _))
      clear hb hf
      have ⟨c_HO, z_HO, f_HO⟩ := HO.out
      have ⟨c_HS, z_HS, f_HS⟩ := HS.out
      have ⟨c_HW, z_HW, f_HW⟩ := HW.out
      have ⟨c_HX, z_HX, f_HX⟩ := HX.out
      go_upto_region 14 with fail
      refine settle (fun W => ∃ (lo hi : Nat) (av2 : Option Addr) (cv2 : Nat) (av3 : Option Addr) (cv3 : Nat) (av4 : Option Addr) (cv4 : Nat), WB W w.heap.size #[.int .i64 y.outbox.device, .int .i64 y.outbox.next, .slice q_a1 y.outbox.writes.length q_c1, .int .i64 y.tries, .int .i64 y.waitUntil] ∧ WB W (w.heap.size + 2) #[.int .i64 0, .int .i64 0, .slice none 0 0, .int .i64 0, .int .i64 0] ∧ WB W (w.heap.size + 3) #[.string ⟨#[]⟩, .slice none 0 0, .int .i64 0, .slice none 0 0, .slice none 0 0] ∧ WB W w1.heap.size #[.int .i64 y.outbox.device, .int .i64 y.outbox.next, .slice a1 y.outbox.writes.length c1, .int .i64 y.tries, .int .i64 y.waitUntil] ∧ WB W w2.heap.size #[.string (receiveF s (firstWriteF y.outbox)).store.name, .slice av2 (receiveF s (firstWriteF y.outbox)).store.items.length cv2, .int .i64 (receiveF s (firstWriteF y.outbox)).store.auto, .slice av3 (receiveF s (firstWriteF y.outbox)).applied.length cv3, .slice av4 (receiveF s (firstWriteF y.outbox)).changes.length cv4] ∧ WB W w3.heap.size #[.int .i64 (firstWriteF y.outbox).device, .int .i64 (firstWriteF y.outbox).seq, .int .i64 (firstWriteF y.outbox).key.kind, .int .i64 (firstWriteF y.outbox).key.n, .string (firstWriteF y.outbox).key.text, .string (firstWriteF y.outbox).field, .int .i64 (firstWriteF y.outbox).n] ∧ Part (Rep.slice 34 DWrite.rep) (w.heap.size + 4) w1.heap.size W [.slice a1 y.outbox.writes.length c1] y.outbox.writes ∧ Part DServer.rep lo hi W [.string (receiveF s (firstWriteF y.outbox)).store.name, .slice av2 (receiveF s (firstWriteF y.outbox)).store.items.length cv2, .int .i64 (receiveF s (firstWriteF y.outbox)).store.auto, .slice av3 (receiveF s (firstWriteF y.outbox)).applied.length cv3, .slice av4 (receiveF s (firstWriteF y.outbox)).changes.length cv4] (receiveF s (firstWriteF y.outbox)) ∧ Below w.heap.size w W ∧ w1.heap.size + 1 ≤ lo ∧ (w2.heap.size < lo ∨ hi ≤ w2.heap.size) ∧ hi ≤ W.heap.size ∧ w2.heap.size < W.heap.size ∧ w3.heap.size < W.heap.size) ⟨_, _, _, _, _, _, _, _, HX.out.offs (by omega), HT.out.offs (by omega), HU.out.offs (by omega), HO.out.offs (by omega), HS.out.sets5, HW.out.offs (by omega), offs5 HP.out (by omega), offs5 HQ.out (by omega), by have y := HB.out; exact bEb, by omega, by omega, by simp, by simp; omega, by simp; omega⟩ ?_
      clear c_HO z_HO f_HO c_HS z_HS f_HS c_HW z_HW f_HW c_HX z_HX f_HX
      clear HX HT HU HO HS HW HP HQ HB
      rintro w7 ⟨lo, hi, av2, cv2, av3, cv3, av4, cv4, hx, ht, hu, ho, hs9, hw9, hp, hq, hb, hlo, hkS, hhi, hS7, hW7⟩
      have HX := Lib.hid hx
      have HT := Lib.hid ht
      have HU := Lib.hid hu
      have HO := Lib.hid ho
      have HS := Lib.hid hs9
      have HW := Lib.hid hw9
      have HP := Lib.hid hp
      have HQ := Lib.hid hq
      have HB := Lib.hid hb
      clear hx ht hu ho hs9 hw9 hp hq hb
      have ⟨c_HO, z_HO, f_HO⟩ := HO.out
      have ⟨c_HS, z_HS, f_HS⟩ := HS.out
      have ⟨c_HW, z_HW, f_HW⟩ := HW.out
      have ⟨c_HX, z_HX, f_HX⟩ := HX.out
      cases n1 : (receiveCode s (firstWriteF y.outbox) == 1)
      case' false => cases n2 : (receiveCode s (firstWriteF y.outbox) == 2)
      case false.false =>
        have ha : stepAcked s (firstWriteF y.outbox) 0 = false := by rw [acked_is (by decide), (srv_one (.inl rfl)).2, n1, n2]; rfl
        have hYs := Lib.hid (step_waits (s := s) HON.out ha).1
        have hN := Lib.hid (step_waits (s := s) HON.out ha).2
        by_cases ht60 : y.tries < 60
        case' pos => have htr : Hid (tried y.tries = wrap64 (y.tries + 1)) := Lib.hid (if_pos ht60)
        case' neg => have htr : Hid (tried y.tries = 60) := Lib.hid (if_neg ht60)
        all_goals
          go_wp2_with fail
          refine (implBackoff _ _).mono ?_
          rintro e w8 ⟨rfl, rfl⟩
          go_upto_region 23 with fail
          refine settle (fun W => WB W (w.heap.size + 2) #[.int .i64 0, .int .i64 0, .slice none 0 0, .int .i64 0, .int .i64 0] ∧ WB W (w.heap.size + 3) #[.string ⟨#[]⟩, .slice none 0 0, .int .i64 0, .slice none 0 0, .slice none 0 0] ∧ WB W w1.heap.size #[.int .i64 y.outbox.device, .int .i64 y.outbox.next, .slice a1 y.outbox.writes.length c1, .int .i64 (tried y.tries), .int .i64 (wrap64 (now + boff (tried y.tries)))] ∧ WB W w2.heap.size #[.string (receiveF s (firstWriteF y.outbox)).store.name, .slice av2 (receiveF s (firstWriteF y.outbox)).store.items.length cv2, .int .i64 (receiveF s (firstWriteF y.outbox)).store.auto, .slice av3 (receiveF s (firstWriteF y.outbox)).applied.length cv3, .slice av4 (receiveF s (firstWriteF y.outbox)).changes.length cv4] ∧ Part (Rep.slice 34 DWrite.rep) (w.heap.size + 4) w1.heap.size W [.slice a1 y.outbox.writes.length c1] y.outbox.writes ∧ Part DServer.rep lo hi W [.string (receiveF s (firstWriteF y.outbox)).store.name, .slice av2 (receiveF s (firstWriteF y.outbox)).store.items.length cv2, .int .i64 (receiveF s (firstWriteF y.outbox)).store.auto, .slice av3 (receiveF s (firstWriteF y.outbox)).applied.length cv3, .slice av4 (receiveF s (firstWriteF y.outbox)).changes.length cv4] (receiveF s (firstWriteF y.outbox)) ∧ Below w.heap.size w W) ⟨(HT.out.setOther (by omega)).setOther (by omega), (HU.out.setOther (by omega)).setOther (by omega), by rw [htr.out]; exact (HO.out.setAt (i := 3) (by simp) rfl).setAt (by simp) rfl, (HS.out.setOther (by omega)).setOther (by omega), offCell (offCell HP.out (by omega)) (by omega), offCell (offCell HQ.out (by omega)) (by omega), by have y := HB.out; exact bEb⟩ ?_
          clear c_HO z_HO f_HO c_HS z_HS f_HS c_HW z_HW f_HW c_HX z_HX f_HX
          clear HX HT HU HO HS HW HP HQ HB
          rintro w9 ⟨ht9, hu, ho, hs9, hp, hq, hb⟩
          have HT := Lib.hid ht9
          have HU := Lib.hid hu
          have HO := Lib.hid ho
          have HS := Lib.hid hs9
          have HP := Lib.hid hp
          have HQ := Lib.hid hq
          have HB := Lib.hid hb
          clear ht9 hu ho hs9 hp hq hb
          have ⟨c_HT, z_HT, f_HT⟩ := HT.out
          have ⟨c_HU, z_HU, f_HU⟩ := HU.out
          have ⟨c_HO, z_HO, f_HO⟩ := HO.out
          have ⟨c_HS, z_HS, f_HS⟩ := HS.out
          go_region
          all_goals
            go_wp2
            refine bodyPost_ret (v := .tuple #[.agg #[.int .i64 y.outbox.device, .int .i64 y.outbox.next, .slice a1 y.outbox.writes.length c1, .int .i64 (tried y.tries), .int .i64 (wrap64 (now + boff (tried y.tries)))], .agg #[.string (receiveF s (firstWriteF y.outbox)).store.name, .slice av2 (receiveF s (firstWriteF y.outbox)).store.items.length cv2, .int .i64 (receiveF s (firstWriteF y.outbox)).store.auto, .slice av3 (receiveF s (firstWriteF y.outbox)).applied.length cv3, .slice av4 (receiveF s (firstWriteF y.outbox)).changes.length cv4], .int .i64 2]) (by simp [results, Tryz.results65, go_sem, c_HT, c_HU]) rfl ⟨_, _, by rw [hN.out], ?_, ?_⟩
            · rw [hYs.out, hSs.out]
              refine Fresh2.of_parts (B := w.heap.size) (sync_part (x := stepSync y now) (lo := (w.heap.size + 4)) (hi := w1.heap.size) ?_) (lo' := lo) (hi' := hi) ?_ (by omega) (by omega) (by omega)
              · (repeat (first | with_reducible refine offCell ?_ (by omega) | with_reducible refine partD ?_))
                exact HP.out
              · (repeat (first | with_reducible refine offCell ?_ (by omega) | with_reducible refine partD ?_))
                exact HQ.out
            · have y := HB.out
              exact bEb
      all_goals
        have ha : stepAcked s (firstWriteF y.outbox) 0 = true := by
          rw [acked_is (by decide), (srv_one (.inl rfl)).2, n1]
          first | rfl | (rw [n2]; rfl)
        have hYs := Lib.hid (step_acked HON.out ha).1
        have hN := Lib.hid (step_acked HON.out ha).2
        go_wp2_with fail
        refine (implAckWrites _ y.outbox (firstWriteF y.outbox).seq _ (outbox_part HP.out).reads (by omega)).mono ?_
        rintro e w8 ⟨ds8, rfl, hf8, hb8⟩
        obtain ⟨a8, c8, rfl, hfw8⟩ := DOutbox.fopen hf8
        have hz8 := hb8.size
        clear c_HO z_HO f_HO c_HS z_HS f_HS c_HW z_HW f_HW c_HX z_HX f_HX
        replace HT := Lib.hid (HT.out.keep hb8)
        replace HU := Lib.hid (HU.out.keep hb8)
        replace HO := Lib.hid (HO.out.keep hb8)
        replace HS := Lib.hid (HS.out.keep hb8)
        replace HB := Lib.hid (HB.out.trans (hb8.mono HB.out.size))
        replace HQ := Lib.hid (Part.below HQ.out hb8)
        replace HP : Hid (Part (Rep.slice 34 DWrite.rep) w7.heap.size w8.heap.size w8 [.slice a8 (ackWritesF y.outbox (firstWriteF y.outbox).seq).writes.length c8] (ackWritesF y.outbox (firstWriteF y.outbox).seq).writes) := Lib.hid (hfw8.partAt (Nat.le_refl _))
        clear hb8 hf8 hfw8
        have ⟨c_HO, z_HO, f_HO⟩ := HO.out
        go_upto_region 18 with fail
        refine settle (fun W => WB W (w.heap.size + 2) #[.int .i64 0, .int .i64 0, .slice none 0 0, .int .i64 0, .int .i64 0] ∧ WB W (w.heap.size + 3) #[.string ⟨#[]⟩, .slice none 0 0, .int .i64 0, .slice none 0 0, .slice none 0 0] ∧ WB W w1.heap.size #[.int .i64 (ackWritesF y.outbox (firstWriteF y.outbox).seq).device, .int .i64 (ackWritesF y.outbox (firstWriteF y.outbox).seq).next, .slice a8 (ackWritesF y.outbox (firstWriteF y.outbox).seq).writes.length c8, .int .i64 0, .int .i64 0] ∧ WB W w2.heap.size #[.string (receiveF s (firstWriteF y.outbox)).store.name, .slice av2 (receiveF s (firstWriteF y.outbox)).store.items.length cv2, .int .i64 (receiveF s (firstWriteF y.outbox)).store.auto, .slice av3 (receiveF s (firstWriteF y.outbox)).applied.length cv3, .slice av4 (receiveF s (firstWriteF y.outbox)).changes.length cv4] ∧ Part (Rep.slice 34 DWrite.rep) w7.heap.size w8.heap.size W [.slice a8 (ackWritesF y.outbox (firstWriteF y.outbox).seq).writes.length c8] (ackWritesF y.outbox (firstWriteF y.outbox).seq).writes ∧ Part DServer.rep lo hi W [.string (receiveF s (firstWriteF y.outbox)).store.name, .slice av2 (receiveF s (firstWriteF y.outbox)).store.items.length cv2, .int .i64 (receiveF s (firstWriteF y.outbox)).store.auto, .slice av3 (receiveF s (firstWriteF y.outbox)).applied.length cv3, .slice av4 (receiveF s (firstWriteF y.outbox)).changes.length cv4] (receiveF s (firstWriteF y.outbox)) ∧ Below w.heap.size w W) ⟨HT.out.offs (by omega), HU.out.offs (by omega), HO.out.sets5, HS.out.offs (by omega), offs5 HP.out (by omega), offs5 HQ.out (by omega), by have y := HB.out; exact bEb⟩ ?_
        clear c_HO z_HO f_HO
        clear HX HT HU HO HS HW HP HQ HB
        rintro w9 ⟨ht, hu, ho, hs9, hp, hq, hb⟩
        have HT := Lib.hid ht
        have HU := Lib.hid hu
        have HO := Lib.hid ho
        have HS := Lib.hid hs9
        have HP := Lib.hid hp
        have HQ := Lib.hid hq
        have HB := Lib.hid hb
        clear ht hu ho hs9 hp hq hb
        have ⟨c_HT, z_HT, f_HT⟩ := HT.out
        have ⟨c_HU, z_HU, f_HU⟩ := HU.out
        have ⟨c_HO, z_HO, f_HO⟩ := HO.out
        have ⟨c_HS, z_HS, f_HS⟩ := HS.out
        go_region
        all_goals
          go_wp2
          refine bodyPost_ret (v := .tuple #[.agg #[.int .i64 (ackWritesF y.outbox (firstWriteF y.outbox).seq).device, .int .i64 (ackWritesF y.outbox (firstWriteF y.outbox).seq).next, .slice a8 (ackWritesF y.outbox (firstWriteF y.outbox).seq).writes.length c8, .int .i64 0, .int .i64 0], .agg #[.string (receiveF s (firstWriteF y.outbox)).store.name, .slice av2 (receiveF s (firstWriteF y.outbox)).store.items.length cv2, .int .i64 (receiveF s (firstWriteF y.outbox)).store.auto, .slice av3 (receiveF s (firstWriteF y.outbox)).applied.length cv3, .slice av4 (receiveF s (firstWriteF y.outbox)).changes.length cv4], .int .i64 1]) (by simp [results, Tryz.results65, go_sem, c_HT, c_HU]) rfl ⟨_, _, by rw [hN.out], ?_, ?_⟩
          · rw [hYs.out, hSs.out]
            refine Fresh2.of_parts (B := w.heap.size) (sync_part (x := ackedSync y) (lo := w7.heap.size) (hi := w8.heap.size) ?_) (lo' := lo) (hi' := hi) ?_ (by omega) (by omega) (by omega)
            · (repeat (first | with_reducible refine offCell ?_ (by omega) | with_reducible refine partD ?_))
              exact HP.out
            · (repeat (first | with_reducible refine offCell ?_ (by omega) | with_reducible refine partD ?_))
              exact HQ.out
          · have y := HB.out
            exact bEb
    · have hSs : Hid (syncStepS y s now 2 = (receiveF s (firstWriteF y.outbox))) := Lib.hid ((step_on HON.out).trans (srv_one (.inr rfl)).1)
      have ha : stepAcked s (firstWriteF y.outbox) 2 = false := acked_not (by decide) (by decide)
      have hYs := Lib.hid (step_waits (s := s) HON.out ha).1
      have hN := Lib.hid (step_waits (s := s) HON.out ha).2
      go_wp2_with (first | (go_at_call 60; refine (implInRange _ _ _ _).mono ?_; rintro e w' ⟨rfl, rfl⟩) | fail)
      refine (implReceiveWrite _ _ s (firstWriteF y.outbox) _ HQ.out.reads (HWr.out _) (hs.mono (by omega))).mono ?_
      rintro e wr1 ⟨ds, rfl, hf, hb⟩
      obtain ⟨av2, cv2, av3, cv3, av4, cv4, rfl⟩ := DServer.fshape hf
      clear c_HX z_HX f_HX c_HT z_HT f_HT c_HU z_HU f_HU c_HO z_HO f_HO c_HS z_HS f_HS c_HW z_HW f_HW
      have hzwr1 := hb.size
      replace HX := Lib.hid (HX.out.keep hb)
      replace HT := Lib.hid (HT.out.keep hb)
      replace HU := Lib.hid (HU.out.keep hb)
      replace HO := Lib.hid (HO.out.keep hb)
      replace HS := Lib.hid (HS.out.keep hb)
      replace HW := Lib.hid (HW.out.keep hb)
      replace HB := Lib.hid (HB.out.trans (hb.mono HB.out.size))
      replace HP := Lib.hid (Part.below HP.out hb)
      replace HQ := Lib.hid (hf.partAt (Nat.le_refl _))
      clear hb hf
      have ⟨c_HO, z_HO, f_HO⟩ := HO.out
      have ⟨c_HS, z_HS, f_HS⟩ := HS.out
      have ⟨c_HW, z_HW, f_HW⟩ := HW.out
      have ⟨c_HX, z_HX, f_HX⟩ := HX.out
      go_upto_region 14 with fail
      refine settle (fun W => ∃ (lo hi : Nat) (av2 : Option Addr) (cv2 : Nat) (av3 : Option Addr) (cv3 : Nat) (av4 : Option Addr) (cv4 : Nat), WB W w.heap.size #[.int .i64 y.outbox.device, .int .i64 y.outbox.next, .slice q_a1 y.outbox.writes.length q_c1, .int .i64 y.tries, .int .i64 y.waitUntil] ∧ WB W (w.heap.size + 2) #[.int .i64 0, .int .i64 0, .slice none 0 0, .int .i64 0, .int .i64 0] ∧ WB W (w.heap.size + 3) #[.string ⟨#[]⟩, .slice none 0 0, .int .i64 0, .slice none 0 0, .slice none 0 0] ∧ WB W w1.heap.size #[.int .i64 y.outbox.device, .int .i64 y.outbox.next, .slice a1 y.outbox.writes.length c1, .int .i64 y.tries, .int .i64 y.waitUntil] ∧ WB W w2.heap.size #[.string (receiveF s (firstWriteF y.outbox)).store.name, .slice av2 (receiveF s (firstWriteF y.outbox)).store.items.length cv2, .int .i64 (receiveF s (firstWriteF y.outbox)).store.auto, .slice av3 (receiveF s (firstWriteF y.outbox)).applied.length cv3, .slice av4 (receiveF s (firstWriteF y.outbox)).changes.length cv4] ∧ WB W w3.heap.size #[.int .i64 (firstWriteF y.outbox).device, .int .i64 (firstWriteF y.outbox).seq, .int .i64 (firstWriteF y.outbox).key.kind, .int .i64 (firstWriteF y.outbox).key.n, .string (firstWriteF y.outbox).key.text, .string (firstWriteF y.outbox).field, .int .i64 (firstWriteF y.outbox).n] ∧ Part (Rep.slice 34 DWrite.rep) (w.heap.size + 4) w1.heap.size W [.slice a1 y.outbox.writes.length c1] y.outbox.writes ∧ Part DServer.rep lo hi W [.string (receiveF s (firstWriteF y.outbox)).store.name, .slice av2 (receiveF s (firstWriteF y.outbox)).store.items.length cv2, .int .i64 (receiveF s (firstWriteF y.outbox)).store.auto, .slice av3 (receiveF s (firstWriteF y.outbox)).applied.length cv3, .slice av4 (receiveF s (firstWriteF y.outbox)).changes.length cv4] (receiveF s (firstWriteF y.outbox)) ∧ Below w.heap.size w W ∧ w1.heap.size + 1 ≤ lo ∧ (w2.heap.size < lo ∨ hi ≤ w2.heap.size) ∧ hi ≤ W.heap.size ∧ w2.heap.size < W.heap.size ∧ w3.heap.size < W.heap.size) ⟨_, _, _, _, _, _, _, _, HX.out.offs (by omega), HT.out.offs (by omega), HU.out.offs (by omega), HO.out.offs (by omega), HS.out.sets5, HW.out.offs (by omega), offs5 HP.out (by omega), offs5 HQ.out (by omega), by have y := HB.out; exact bEb, by omega, by omega, by simp, by simp; omega, by simp; omega⟩ ?_
      clear c_HO z_HO f_HO c_HS z_HS f_HS c_HW z_HW f_HW c_HX z_HX f_HX
      clear HX HT HU HO HS HW HP HQ HB
      rintro w7 ⟨lo, hi, av2, cv2, av3, cv3, av4, cv4, hx, ht, hu, ho, hs9, hw9, hp, hq, hb, hlo, hkS, hhi, hS7, hW7⟩
      have HX := Lib.hid hx
      have HT := Lib.hid ht
      have HU := Lib.hid hu
      have HO := Lib.hid ho
      have HS := Lib.hid hs9
      have HW := Lib.hid hw9
      have HP := Lib.hid hp
      have HQ := Lib.hid hq
      have HB := Lib.hid hb
      clear hx ht hu ho hs9 hw9 hp hq hb
      have ⟨c_HO, z_HO, f_HO⟩ := HO.out
      have ⟨c_HS, z_HS, f_HS⟩ := HS.out
      have ⟨c_HW, z_HW, f_HW⟩ := HW.out
      have ⟨c_HX, z_HX, f_HX⟩ := HX.out
      by_cases ht60 : y.tries < 60
      case' pos => have htr : Hid (tried y.tries = wrap64 (y.tries + 1)) := Lib.hid (if_pos ht60)
      case' neg => have htr : Hid (tried y.tries = 60) := Lib.hid (if_neg ht60)
      all_goals
        go_wp2_with fail
        refine (implBackoff _ _).mono ?_
        rintro e w8 ⟨rfl, rfl⟩
        go_upto_region 23 with fail
        refine settle (fun W => WB W (w.heap.size + 2) #[.int .i64 0, .int .i64 0, .slice none 0 0, .int .i64 0, .int .i64 0] ∧ WB W (w.heap.size + 3) #[.string ⟨#[]⟩, .slice none 0 0, .int .i64 0, .slice none 0 0, .slice none 0 0] ∧ WB W w1.heap.size #[.int .i64 y.outbox.device, .int .i64 y.outbox.next, .slice a1 y.outbox.writes.length c1, .int .i64 (tried y.tries), .int .i64 (wrap64 (now + boff (tried y.tries)))] ∧ WB W w2.heap.size #[.string (receiveF s (firstWriteF y.outbox)).store.name, .slice av2 (receiveF s (firstWriteF y.outbox)).store.items.length cv2, .int .i64 (receiveF s (firstWriteF y.outbox)).store.auto, .slice av3 (receiveF s (firstWriteF y.outbox)).applied.length cv3, .slice av4 (receiveF s (firstWriteF y.outbox)).changes.length cv4] ∧ Part (Rep.slice 34 DWrite.rep) (w.heap.size + 4) w1.heap.size W [.slice a1 y.outbox.writes.length c1] y.outbox.writes ∧ Part DServer.rep lo hi W [.string (receiveF s (firstWriteF y.outbox)).store.name, .slice av2 (receiveF s (firstWriteF y.outbox)).store.items.length cv2, .int .i64 (receiveF s (firstWriteF y.outbox)).store.auto, .slice av3 (receiveF s (firstWriteF y.outbox)).applied.length cv3, .slice av4 (receiveF s (firstWriteF y.outbox)).changes.length cv4] (receiveF s (firstWriteF y.outbox)) ∧ Below w.heap.size w W) ⟨(HT.out.setOther (by omega)).setOther (by omega), (HU.out.setOther (by omega)).setOther (by omega), by rw [htr.out]; exact (HO.out.setAt (i := 3) (by simp) rfl).setAt (by simp) rfl, (HS.out.setOther (by omega)).setOther (by omega), offCell (offCell HP.out (by omega)) (by omega), offCell (offCell HQ.out (by omega)) (by omega), by have y := HB.out; exact bEb⟩ ?_
        clear c_HO z_HO f_HO c_HS z_HS f_HS c_HW z_HW f_HW c_HX z_HX f_HX
        clear HX HT HU HO HS HW HP HQ HB
        rintro w9 ⟨ht9, hu, ho, hs9, hp, hq, hb⟩
        have HT := Lib.hid ht9
        have HU := Lib.hid hu
        have HO := Lib.hid ho
        have HS := Lib.hid hs9
        have HP := Lib.hid hp
        have HQ := Lib.hid hq
        have HB := Lib.hid hb
        clear ht9 hu ho hs9 hp hq hb
        have ⟨c_HT, z_HT, f_HT⟩ := HT.out
        have ⟨c_HU, z_HU, f_HU⟩ := HU.out
        have ⟨c_HO, z_HO, f_HO⟩ := HO.out
        have ⟨c_HS, z_HS, f_HS⟩ := HS.out
        go_region
        all_goals
          go_wp2
          refine bodyPost_ret (v := .tuple #[.agg #[.int .i64 y.outbox.device, .int .i64 y.outbox.next, .slice a1 y.outbox.writes.length c1, .int .i64 (tried y.tries), .int .i64 (wrap64 (now + boff (tried y.tries)))], .agg #[.string (receiveF s (firstWriteF y.outbox)).store.name, .slice av2 (receiveF s (firstWriteF y.outbox)).store.items.length cv2, .int .i64 (receiveF s (firstWriteF y.outbox)).store.auto, .slice av3 (receiveF s (firstWriteF y.outbox)).applied.length cv3, .slice av4 (receiveF s (firstWriteF y.outbox)).changes.length cv4], .int .i64 2]) (by simp [results, Tryz.results65, go_sem, c_HT, c_HU]) rfl ⟨_, _, by rw [hN.out], ?_, ?_⟩
          · rw [hYs.out, hSs.out]
            refine Fresh2.of_parts (B := w.heap.size) (sync_part (x := stepSync y now) (lo := (w.heap.size + 4)) (hi := w1.heap.size) ?_) (lo' := lo) (hi' := hi) ?_ (by omega) (by omega) (by omega)
            · (repeat (first | with_reducible refine offCell ?_ (by omega) | with_reducible refine partD ?_))
              exact HP.out
            · (repeat (first | with_reducible refine offCell ?_ (by omega) | with_reducible refine partD ?_))
              exact HQ.out
          · have y := HB.out
            exact bEb
    · have hSs : Hid (syncStepS y s now 3 = (receiveF (receiveF s (firstWriteF y.outbox)) (firstWriteF y.outbox))) := Lib.hid ((step_on HON.out).trans (srv_two rfl).1)
      go_wp2_with (first | (go_at_call 60; refine (implInRange _ _ _ _).mono ?_; rintro e w' ⟨rfl, rfl⟩) | fail)
      refine (implReceiveWrite _ _ s (firstWriteF y.outbox) _ HQ.out.reads (HWr.out _) (hs.mono (by omega))).mono ?_
      rintro e wr1 ⟨ds, rfl, hf, hb⟩
      obtain ⟨av2, cv2, av3, cv3, av4, cv4, rfl⟩ := DServer.fshape hf
      clear c_HX z_HX f_HX c_HT z_HT f_HT c_HU z_HU f_HU c_HO z_HO f_HO c_HS z_HS f_HS c_HW z_HW f_HW
      have hzwr1 := hb.size
      replace HX := Lib.hid (HX.out.keep hb)
      replace HT := Lib.hid (HT.out.keep hb)
      replace HU := Lib.hid (HU.out.keep hb)
      replace HO := Lib.hid (HO.out.keep hb)
      replace HS := Lib.hid (HS.out.keep hb)
      replace HW := Lib.hid (HW.out.keep hb)
      replace HB := Lib.hid (HB.out.trans (hb.mono HB.out.size))
      replace HP := Lib.hid (Part.below HP.out hb)
      replace HQ := Lib.hid (hf.partAt (Nat.le_refl _))
      clear hb hf
      have ⟨c_HO, z_HO, f_HO⟩ := HO.out
      have ⟨c_HS, z_HS, f_HS⟩ := HS.out
      have ⟨c_HW, z_HW, f_HW⟩ := HW.out
      have ⟨c_HX, z_HX, f_HX⟩ := HX.out
      go_upto_region 13 with fail
      refine settle (fun W => ∃ (lo hi : Nat) (av2 : Option Addr) (cv2 : Nat) (av3 : Option Addr) (cv3 : Nat) (av4 : Option Addr) (cv4 : Nat), WB W w.heap.size #[.int .i64 y.outbox.device, .int .i64 y.outbox.next, .slice q_a1 y.outbox.writes.length q_c1, .int .i64 y.tries, .int .i64 y.waitUntil] ∧ WB W (w.heap.size + 2) #[.int .i64 0, .int .i64 0, .slice none 0 0, .int .i64 0, .int .i64 0] ∧ WB W (w.heap.size + 3) #[.string ⟨#[]⟩, .slice none 0 0, .int .i64 0, .slice none 0 0, .slice none 0 0] ∧ WB W w1.heap.size #[.int .i64 y.outbox.device, .int .i64 y.outbox.next, .slice a1 y.outbox.writes.length c1, .int .i64 y.tries, .int .i64 y.waitUntil] ∧ WB W w2.heap.size #[.string (receiveF s (firstWriteF y.outbox)).store.name, .slice av2 (receiveF s (firstWriteF y.outbox)).store.items.length cv2, .int .i64 (receiveF s (firstWriteF y.outbox)).store.auto, .slice av3 (receiveF s (firstWriteF y.outbox)).applied.length cv3, .slice av4 (receiveF s (firstWriteF y.outbox)).changes.length cv4] ∧ WB W w3.heap.size #[.int .i64 (firstWriteF y.outbox).device, .int .i64 (firstWriteF y.outbox).seq, .int .i64 (firstWriteF y.outbox).key.kind, .int .i64 (firstWriteF y.outbox).key.n, .string (firstWriteF y.outbox).key.text, .string (firstWriteF y.outbox).field, .int .i64 (firstWriteF y.outbox).n] ∧ Part (Rep.slice 34 DWrite.rep) (w.heap.size + 4) w1.heap.size W [.slice a1 y.outbox.writes.length c1] y.outbox.writes ∧ Part DServer.rep lo hi W [.string (receiveF s (firstWriteF y.outbox)).store.name, .slice av2 (receiveF s (firstWriteF y.outbox)).store.items.length cv2, .int .i64 (receiveF s (firstWriteF y.outbox)).store.auto, .slice av3 (receiveF s (firstWriteF y.outbox)).applied.length cv3, .slice av4 (receiveF s (firstWriteF y.outbox)).changes.length cv4] (receiveF s (firstWriteF y.outbox)) ∧ Below w.heap.size w W ∧ w1.heap.size + 1 ≤ lo ∧ (w2.heap.size < lo ∨ hi ≤ w2.heap.size) ∧ hi ≤ W.heap.size ∧ w2.heap.size < W.heap.size ∧ w3.heap.size < W.heap.size) ⟨_, _, _, _, _, _, _, _, HX.out.offs (by omega), HT.out.offs (by omega), HU.out.offs (by omega), HO.out.offs (by omega), HS.out.sets5, HW.out.offs (by omega), offs5 HP.out (by omega), offs5 HQ.out (by omega), by have y := HB.out; exact bEb, by omega, by omega, by simp, by simp; omega, by simp; omega⟩ ?_
      clear c_HO z_HO f_HO c_HS z_HS f_HS c_HW z_HW f_HW c_HX z_HX f_HX
      clear HX HT HU HO HS HW HP HQ HB
      rintro w7 ⟨lo, hi, av2, cv2, av3, cv3, av4, cv4, hx, ht, hu, ho, hs9, hw9, hp, hq, hb, hlo, hkS, hhi, hS7, hW7⟩
      have HX := Lib.hid hx
      have HT := Lib.hid ht
      have HU := Lib.hid hu
      have HO := Lib.hid ho
      have HS := Lib.hid hs9
      have HW := Lib.hid hw9
      have HP := Lib.hid hp
      have HQ := Lib.hid hq
      have HB := Lib.hid hb
      clear hx ht hu ho hs9 hw9 hp hq hb
      have ⟨c_HO, z_HO, f_HO⟩ := HO.out
      have ⟨c_HS, z_HS, f_HS⟩ := HS.out
      have ⟨c_HW, z_HW, f_HW⟩ := HW.out
      have ⟨c_HX, z_HX, f_HX⟩ := HX.out
      go_wp2_with fail
      refine (implReceiveWrite _ _ (receiveF s (firstWriteF y.outbox)) (firstWriteF y.outbox) _ HQ.out.reads (HWr.out _) ((hs.receive).mono (by omega))).mono ?_
      rintro e wr2 ⟨ds, rfl, hf, hb⟩
      obtain ⟨av2, cv2, av3, cv3, av4, cv4, rfl⟩ := DServer.fshape hf
      clear c_HO z_HO f_HO c_HS z_HS f_HS c_HW z_HW f_HW c_HX z_HX f_HX
      have hzwr2 := hb.size
      replace HX := Lib.hid (HX.out.keep hb)
      replace HT := Lib.hid (HT.out.keep hb)
      replace HU := Lib.hid (HU.out.keep hb)
      replace HO := Lib.hid (HO.out.keep hb)
      replace HS := Lib.hid (HS.out.keep hb)
      replace HW := Lib.hid (HW.out.keep hb)
      replace HB := Lib.hid (HB.out.trans (hb.mono HB.out.size))
      replace HP := Lib.hid (Part.below HP.out hb)
      replace HQ := Lib.hid (hf.partAt (Nat.le_refl _))
      clear hb hf
      have ⟨c_HO, z_HO, f_HO⟩ := HO.out
      have ⟨c_HS, z_HS, f_HS⟩ := HS.out
      have ⟨c_HW, z_HW, f_HW⟩ := HW.out
      have ⟨c_HX, z_HX, f_HX⟩ := HX.out
      go_upto_region 14 with fail
      refine settle (fun W => ∃ (lo hi : Nat) (av2 : Option Addr) (cv2 : Nat) (av3 : Option Addr) (cv3 : Nat) (av4 : Option Addr) (cv4 : Nat), WB W w.heap.size #[.int .i64 y.outbox.device, .int .i64 y.outbox.next, .slice q_a1 y.outbox.writes.length q_c1, .int .i64 y.tries, .int .i64 y.waitUntil] ∧ WB W (w.heap.size + 2) #[.int .i64 0, .int .i64 0, .slice none 0 0, .int .i64 0, .int .i64 0] ∧ WB W (w.heap.size + 3) #[.string ⟨#[]⟩, .slice none 0 0, .int .i64 0, .slice none 0 0, .slice none 0 0] ∧ WB W w1.heap.size #[.int .i64 y.outbox.device, .int .i64 y.outbox.next, .slice a1 y.outbox.writes.length c1, .int .i64 y.tries, .int .i64 y.waitUntil] ∧ WB W w2.heap.size #[.string (receiveF (receiveF s (firstWriteF y.outbox)) (firstWriteF y.outbox)).store.name, .slice av2 (receiveF (receiveF s (firstWriteF y.outbox)) (firstWriteF y.outbox)).store.items.length cv2, .int .i64 (receiveF (receiveF s (firstWriteF y.outbox)) (firstWriteF y.outbox)).store.auto, .slice av3 (receiveF (receiveF s (firstWriteF y.outbox)) (firstWriteF y.outbox)).applied.length cv3, .slice av4 (receiveF (receiveF s (firstWriteF y.outbox)) (firstWriteF y.outbox)).changes.length cv4] ∧ WB W w3.heap.size #[.int .i64 (firstWriteF y.outbox).device, .int .i64 (firstWriteF y.outbox).seq, .int .i64 (firstWriteF y.outbox).key.kind, .int .i64 (firstWriteF y.outbox).key.n, .string (firstWriteF y.outbox).key.text, .string (firstWriteF y.outbox).field, .int .i64 (firstWriteF y.outbox).n] ∧ Part (Rep.slice 34 DWrite.rep) (w.heap.size + 4) w1.heap.size W [.slice a1 y.outbox.writes.length c1] y.outbox.writes ∧ Part DServer.rep lo hi W [.string (receiveF (receiveF s (firstWriteF y.outbox)) (firstWriteF y.outbox)).store.name, .slice av2 (receiveF (receiveF s (firstWriteF y.outbox)) (firstWriteF y.outbox)).store.items.length cv2, .int .i64 (receiveF (receiveF s (firstWriteF y.outbox)) (firstWriteF y.outbox)).store.auto, .slice av3 (receiveF (receiveF s (firstWriteF y.outbox)) (firstWriteF y.outbox)).applied.length cv3, .slice av4 (receiveF (receiveF s (firstWriteF y.outbox)) (firstWriteF y.outbox)).changes.length cv4] (receiveF (receiveF s (firstWriteF y.outbox)) (firstWriteF y.outbox)) ∧ Below w.heap.size w W ∧ w1.heap.size + 1 ≤ lo ∧ (w2.heap.size < lo ∨ hi ≤ w2.heap.size) ∧ hi ≤ W.heap.size ∧ w2.heap.size < W.heap.size ∧ w3.heap.size < W.heap.size) ⟨_, _, _, _, _, _, _, _, HX.out.offs (by omega), HT.out.offs (by omega), HU.out.offs (by omega), HO.out.offs (by omega), HS.out.sets5, HW.out.offs (by omega), offs5 HP.out (by omega), offs5 HQ.out (by omega), by have y := HB.out; exact bEb, by omega, by omega, by simp, by simp; omega, by simp; omega⟩ ?_
      clear c_HO z_HO f_HO c_HS z_HS f_HS c_HW z_HW f_HW c_HX z_HX f_HX
      clear HX HT HU HO HS HW HP HQ HB
      rintro w7 ⟨lo, hi, av2, cv2, av3, cv3, av4, cv4, hx, ht, hu, ho, hs9, hw9, hp, hq, hb, hlo, hkS, hhi, hS7, hW7⟩
      have HX := Lib.hid hx
      have HT := Lib.hid ht
      have HU := Lib.hid hu
      have HO := Lib.hid ho
      have HS := Lib.hid hs9
      have HW := Lib.hid hw9
      have HP := Lib.hid hp
      have HQ := Lib.hid hq
      have HB := Lib.hid hb
      clear hx ht hu ho hs9 hw9 hp hq hb
      have ⟨c_HO, z_HO, f_HO⟩ := HO.out
      have ⟨c_HS, z_HS, f_HS⟩ := HS.out
      have ⟨c_HW, z_HW, f_HW⟩ := HW.out
      have ⟨c_HX, z_HX, f_HX⟩ := HX.out
      cases n1 : (receiveCode (receiveF s (firstWriteF y.outbox)) (firstWriteF y.outbox) == 1)
      case' false => cases n2 : (receiveCode (receiveF s (firstWriteF y.outbox)) (firstWriteF y.outbox) == 2)
      case false.false =>
        have ha : stepAcked s (firstWriteF y.outbox) 3 = false := by rw [acked_is (by decide), (srv_two rfl).2, n1, n2]; rfl
        have hYs := Lib.hid (step_waits (s := s) HON.out ha).1
        have hN := Lib.hid (step_waits (s := s) HON.out ha).2
        by_cases ht60 : y.tries < 60
        case' pos => have htr : Hid (tried y.tries = wrap64 (y.tries + 1)) := Lib.hid (if_pos ht60)
        case' neg => have htr : Hid (tried y.tries = 60) := Lib.hid (if_neg ht60)
        all_goals
          go_wp2_with fail
          refine (implBackoff _ _).mono ?_
          rintro e w8 ⟨rfl, rfl⟩
          go_upto_region 23 with fail
          refine settle (fun W => WB W (w.heap.size + 2) #[.int .i64 0, .int .i64 0, .slice none 0 0, .int .i64 0, .int .i64 0] ∧ WB W (w.heap.size + 3) #[.string ⟨#[]⟩, .slice none 0 0, .int .i64 0, .slice none 0 0, .slice none 0 0] ∧ WB W w1.heap.size #[.int .i64 y.outbox.device, .int .i64 y.outbox.next, .slice a1 y.outbox.writes.length c1, .int .i64 (tried y.tries), .int .i64 (wrap64 (now + boff (tried y.tries)))] ∧ WB W w2.heap.size #[.string (receiveF (receiveF s (firstWriteF y.outbox)) (firstWriteF y.outbox)).store.name, .slice av2 (receiveF (receiveF s (firstWriteF y.outbox)) (firstWriteF y.outbox)).store.items.length cv2, .int .i64 (receiveF (receiveF s (firstWriteF y.outbox)) (firstWriteF y.outbox)).store.auto, .slice av3 (receiveF (receiveF s (firstWriteF y.outbox)) (firstWriteF y.outbox)).applied.length cv3, .slice av4 (receiveF (receiveF s (firstWriteF y.outbox)) (firstWriteF y.outbox)).changes.length cv4] ∧ Part (Rep.slice 34 DWrite.rep) (w.heap.size + 4) w1.heap.size W [.slice a1 y.outbox.writes.length c1] y.outbox.writes ∧ Part DServer.rep lo hi W [.string (receiveF (receiveF s (firstWriteF y.outbox)) (firstWriteF y.outbox)).store.name, .slice av2 (receiveF (receiveF s (firstWriteF y.outbox)) (firstWriteF y.outbox)).store.items.length cv2, .int .i64 (receiveF (receiveF s (firstWriteF y.outbox)) (firstWriteF y.outbox)).store.auto, .slice av3 (receiveF (receiveF s (firstWriteF y.outbox)) (firstWriteF y.outbox)).applied.length cv3, .slice av4 (receiveF (receiveF s (firstWriteF y.outbox)) (firstWriteF y.outbox)).changes.length cv4] (receiveF (receiveF s (firstWriteF y.outbox)) (firstWriteF y.outbox)) ∧ Below w.heap.size w W) ⟨(HT.out.setOther (by omega)).setOther (by omega), (HU.out.setOther (by omega)).setOther (by omega), by rw [htr.out]; exact (HO.out.setAt (i := 3) (by simp) rfl).setAt (by simp) rfl, (HS.out.setOther (by omega)).setOther (by omega), offCell (offCell HP.out (by omega)) (by omega), offCell (offCell HQ.out (by omega)) (by omega), by have y := HB.out; exact bEb⟩ ?_
          clear c_HO z_HO f_HO c_HS z_HS f_HS c_HW z_HW f_HW c_HX z_HX f_HX
          clear HX HT HU HO HS HW HP HQ HB
          rintro w9 ⟨ht9, hu, ho, hs9, hp, hq, hb⟩
          have HT := Lib.hid ht9
          have HU := Lib.hid hu
          have HO := Lib.hid ho
          have HS := Lib.hid hs9
          have HP := Lib.hid hp
          have HQ := Lib.hid hq
          have HB := Lib.hid hb
          clear ht9 hu ho hs9 hp hq hb
          have ⟨c_HT, z_HT, f_HT⟩ := HT.out
          have ⟨c_HU, z_HU, f_HU⟩ := HU.out
          have ⟨c_HO, z_HO, f_HO⟩ := HO.out
          have ⟨c_HS, z_HS, f_HS⟩ := HS.out
          go_region
          all_goals
            go_wp2
            refine bodyPost_ret (v := .tuple #[.agg #[.int .i64 y.outbox.device, .int .i64 y.outbox.next, .slice a1 y.outbox.writes.length c1, .int .i64 (tried y.tries), .int .i64 (wrap64 (now + boff (tried y.tries)))], .agg #[.string (receiveF (receiveF s (firstWriteF y.outbox)) (firstWriteF y.outbox)).store.name, .slice av2 (receiveF (receiveF s (firstWriteF y.outbox)) (firstWriteF y.outbox)).store.items.length cv2, .int .i64 (receiveF (receiveF s (firstWriteF y.outbox)) (firstWriteF y.outbox)).store.auto, .slice av3 (receiveF (receiveF s (firstWriteF y.outbox)) (firstWriteF y.outbox)).applied.length cv3, .slice av4 (receiveF (receiveF s (firstWriteF y.outbox)) (firstWriteF y.outbox)).changes.length cv4], .int .i64 2]) (by simp [results, Tryz.results65, go_sem, c_HT, c_HU]) rfl ⟨_, _, by rw [hN.out], ?_, ?_⟩
            · rw [hYs.out, hSs.out]
              refine Fresh2.of_parts (B := w.heap.size) (sync_part (x := stepSync y now) (lo := (w.heap.size + 4)) (hi := w1.heap.size) ?_) (lo' := lo) (hi' := hi) ?_ (by omega) (by omega) (by omega)
              · (repeat (first | with_reducible refine offCell ?_ (by omega) | with_reducible refine partD ?_))
                exact HP.out
              · (repeat (first | with_reducible refine offCell ?_ (by omega) | with_reducible refine partD ?_))
                exact HQ.out
            · have y := HB.out
              exact bEb
      all_goals
        have ha : stepAcked s (firstWriteF y.outbox) 3 = true := by
          rw [acked_is (by decide), (srv_two rfl).2, n1]
          first | rfl | (rw [n2]; rfl)
        have hYs := Lib.hid (step_acked HON.out ha).1
        have hN := Lib.hid (step_acked HON.out ha).2
        go_wp2_with fail
        refine (implAckWrites _ y.outbox (firstWriteF y.outbox).seq _ (outbox_part HP.out).reads (by omega)).mono ?_
        rintro e w8 ⟨ds8, rfl, hf8, hb8⟩
        obtain ⟨a8, c8, rfl, hfw8⟩ := DOutbox.fopen hf8
        have hz8 := hb8.size
        clear c_HO z_HO f_HO c_HS z_HS f_HS c_HW z_HW f_HW c_HX z_HX f_HX
        replace HT := Lib.hid (HT.out.keep hb8)
        replace HU := Lib.hid (HU.out.keep hb8)
        replace HO := Lib.hid (HO.out.keep hb8)
        replace HS := Lib.hid (HS.out.keep hb8)
        replace HB := Lib.hid (HB.out.trans (hb8.mono HB.out.size))
        replace HQ := Lib.hid (Part.below HQ.out hb8)
        replace HP : Hid (Part (Rep.slice 34 DWrite.rep) w7.heap.size w8.heap.size w8 [.slice a8 (ackWritesF y.outbox (firstWriteF y.outbox).seq).writes.length c8] (ackWritesF y.outbox (firstWriteF y.outbox).seq).writes) := Lib.hid (hfw8.partAt (Nat.le_refl _))
        clear hb8 hf8 hfw8
        have ⟨c_HO, z_HO, f_HO⟩ := HO.out
        go_upto_region 18 with fail
        refine settle (fun W => WB W (w.heap.size + 2) #[.int .i64 0, .int .i64 0, .slice none 0 0, .int .i64 0, .int .i64 0] ∧ WB W (w.heap.size + 3) #[.string ⟨#[]⟩, .slice none 0 0, .int .i64 0, .slice none 0 0, .slice none 0 0] ∧ WB W w1.heap.size #[.int .i64 (ackWritesF y.outbox (firstWriteF y.outbox).seq).device, .int .i64 (ackWritesF y.outbox (firstWriteF y.outbox).seq).next, .slice a8 (ackWritesF y.outbox (firstWriteF y.outbox).seq).writes.length c8, .int .i64 0, .int .i64 0] ∧ WB W w2.heap.size #[.string (receiveF (receiveF s (firstWriteF y.outbox)) (firstWriteF y.outbox)).store.name, .slice av2 (receiveF (receiveF s (firstWriteF y.outbox)) (firstWriteF y.outbox)).store.items.length cv2, .int .i64 (receiveF (receiveF s (firstWriteF y.outbox)) (firstWriteF y.outbox)).store.auto, .slice av3 (receiveF (receiveF s (firstWriteF y.outbox)) (firstWriteF y.outbox)).applied.length cv3, .slice av4 (receiveF (receiveF s (firstWriteF y.outbox)) (firstWriteF y.outbox)).changes.length cv4] ∧ Part (Rep.slice 34 DWrite.rep) w7.heap.size w8.heap.size W [.slice a8 (ackWritesF y.outbox (firstWriteF y.outbox).seq).writes.length c8] (ackWritesF y.outbox (firstWriteF y.outbox).seq).writes ∧ Part DServer.rep lo hi W [.string (receiveF (receiveF s (firstWriteF y.outbox)) (firstWriteF y.outbox)).store.name, .slice av2 (receiveF (receiveF s (firstWriteF y.outbox)) (firstWriteF y.outbox)).store.items.length cv2, .int .i64 (receiveF (receiveF s (firstWriteF y.outbox)) (firstWriteF y.outbox)).store.auto, .slice av3 (receiveF (receiveF s (firstWriteF y.outbox)) (firstWriteF y.outbox)).applied.length cv3, .slice av4 (receiveF (receiveF s (firstWriteF y.outbox)) (firstWriteF y.outbox)).changes.length cv4] (receiveF (receiveF s (firstWriteF y.outbox)) (firstWriteF y.outbox)) ∧ Below w.heap.size w W) ⟨HT.out.offs (by omega), HU.out.offs (by omega), HO.out.sets5, HS.out.offs (by omega), offs5 HP.out (by omega), offs5 HQ.out (by omega), by have y := HB.out; exact bEb⟩ ?_
        clear c_HO z_HO f_HO
        clear HX HT HU HO HS HW HP HQ HB
        rintro w9 ⟨ht, hu, ho, hs9, hp, hq, hb⟩
        have HT := Lib.hid ht
        have HU := Lib.hid hu
        have HO := Lib.hid ho
        have HS := Lib.hid hs9
        have HP := Lib.hid hp
        have HQ := Lib.hid hq
        have HB := Lib.hid hb
        clear ht hu ho hs9 hp hq hb
        have ⟨c_HT, z_HT, f_HT⟩ := HT.out
        have ⟨c_HU, z_HU, f_HU⟩ := HU.out
        have ⟨c_HO, z_HO, f_HO⟩ := HO.out
        have ⟨c_HS, z_HS, f_HS⟩ := HS.out
        go_region
        all_goals
          go_wp2
          refine bodyPost_ret (v := .tuple #[.agg #[.int .i64 (ackWritesF y.outbox (firstWriteF y.outbox).seq).device, .int .i64 (ackWritesF y.outbox (firstWriteF y.outbox).seq).next, .slice a8 (ackWritesF y.outbox (firstWriteF y.outbox).seq).writes.length c8, .int .i64 0, .int .i64 0], .agg #[.string (receiveF (receiveF s (firstWriteF y.outbox)) (firstWriteF y.outbox)).store.name, .slice av2 (receiveF (receiveF s (firstWriteF y.outbox)) (firstWriteF y.outbox)).store.items.length cv2, .int .i64 (receiveF (receiveF s (firstWriteF y.outbox)) (firstWriteF y.outbox)).store.auto, .slice av3 (receiveF (receiveF s (firstWriteF y.outbox)) (firstWriteF y.outbox)).applied.length cv3, .slice av4 (receiveF (receiveF s (firstWriteF y.outbox)) (firstWriteF y.outbox)).changes.length cv4], .int .i64 1]) (by simp [results, Tryz.results65, go_sem, c_HT, c_HU]) rfl ⟨_, _, by rw [hN.out], ?_, ?_⟩
          · rw [hYs.out, hSs.out]
            refine Fresh2.of_parts (B := w.heap.size) (sync_part (x := ackedSync y) (lo := w7.heap.size) (hi := w8.heap.size) ?_) (lo' := lo) (hi' := hi) ?_ (by omega) (by omega) (by omega)
            · (repeat (first | with_reducible refine offCell ?_ (by omega) | with_reducible refine partD ?_))
              exact HP.out
            · (repeat (first | with_reducible refine offCell ?_ (by omega) | with_reducible refine partD ?_))
              exact HQ.out
          · have y := HB.out
            exact bEb
    · have g0 : fate ≠ 0 := by simpa using f0
      have g2 : fate ≠ 2 := by simpa using f2
      have g3 : fate ≠ 3 := by simpa using f3
      have hSs : Hid (syncStepS y s now fate = s) := Lib.hid ((step_on HON.out).trans (srv_none g0 g2 g3))
      have ha : stepAcked s (firstWriteF y.outbox) fate = false := acked_not g0 g3
      have hYs := Lib.hid (step_waits (s := s) HON.out ha).1
      have hN := Lib.hid (step_waits (s := s) HON.out ha).2
      clear g0 g2 g3
      go_upto_region 14 with (first | (go_at_call 60; refine (implInRange _ _ _ _).mono ?_; rintro e w' ⟨rfl, rfl⟩) | fail)
      refine settle (fun W => ∃ (lo hi : Nat) (av2 : Option Addr) (cv2 : Nat) (av3 : Option Addr) (cv3 : Nat) (av4 : Option Addr) (cv4 : Nat), WB W w.heap.size #[.int .i64 y.outbox.device, .int .i64 y.outbox.next, .slice q_a1 y.outbox.writes.length q_c1, .int .i64 y.tries, .int .i64 y.waitUntil] ∧ WB W (w.heap.size + 2) #[.int .i64 0, .int .i64 0, .slice none 0 0, .int .i64 0, .int .i64 0] ∧ WB W (w.heap.size + 3) #[.string ⟨#[]⟩, .slice none 0 0, .int .i64 0, .slice none 0 0, .slice none 0 0] ∧ WB W w1.heap.size #[.int .i64 y.outbox.device, .int .i64 y.outbox.next, .slice a1 y.outbox.writes.length c1, .int .i64 y.tries, .int .i64 y.waitUntil] ∧ WB W w2.heap.size #[.string s.store.name, .slice av2 s.store.items.length cv2, .int .i64 s.store.auto, .slice av3 s.applied.length cv3, .slice av4 s.changes.length cv4] ∧ WB W w3.heap.size #[.int .i64 (firstWriteF y.outbox).device, .int .i64 (firstWriteF y.outbox).seq, .int .i64 (firstWriteF y.outbox).key.kind, .int .i64 (firstWriteF y.outbox).key.n, .string (firstWriteF y.outbox).key.text, .string (firstWriteF y.outbox).field, .int .i64 (firstWriteF y.outbox).n] ∧ Part (Rep.slice 34 DWrite.rep) (w.heap.size + 4) w1.heap.size W [.slice a1 y.outbox.writes.length c1] y.outbox.writes ∧ Part DServer.rep lo hi W [.string s.store.name, .slice av2 s.store.items.length cv2, .int .i64 s.store.auto, .slice av3 s.applied.length cv3, .slice av4 s.changes.length cv4] s ∧ Below w.heap.size w W ∧ w1.heap.size + 1 ≤ lo ∧ (w2.heap.size < lo ∨ hi ≤ w2.heap.size) ∧ hi ≤ W.heap.size ∧ w2.heap.size < W.heap.size ∧ w3.heap.size < W.heap.size) ⟨_, _, _, _, _, _, _, _, HX.out, HT.out, HU.out, HO.out, HS.out, HW.out, HP.out, HQ.out, HB.out, by omega, by omega, by omega, by omega, by omega⟩ ?_
      clear c_HX z_HX f_HX c_HT z_HT f_HT c_HU z_HU f_HU c_HO z_HO f_HO c_HS z_HS f_HS c_HW z_HW f_HW
      clear HX HT HU HO HS HW HP HQ HB
      rintro w7 ⟨lo, hi, av2, cv2, av3, cv3, av4, cv4, hx, ht, hu, ho, hs9, hw9, hp, hq, hb, hlo, hkS, hhi, hS7, hW7⟩
      have HX := Lib.hid hx
      have HT := Lib.hid ht
      have HU := Lib.hid hu
      have HO := Lib.hid ho
      have HS := Lib.hid hs9
      have HW := Lib.hid hw9
      have HP := Lib.hid hp
      have HQ := Lib.hid hq
      have HB := Lib.hid hb
      clear hx ht hu ho hs9 hw9 hp hq hb
      have ⟨c_HO, z_HO, f_HO⟩ := HO.out
      have ⟨c_HS, z_HS, f_HS⟩ := HS.out
      have ⟨c_HW, z_HW, f_HW⟩ := HW.out
      have ⟨c_HX, z_HX, f_HX⟩ := HX.out
      by_cases ht60 : y.tries < 60
      case' pos => have htr : Hid (tried y.tries = wrap64 (y.tries + 1)) := Lib.hid (if_pos ht60)
      case' neg => have htr : Hid (tried y.tries = 60) := Lib.hid (if_neg ht60)
      all_goals
        go_wp2_with fail
        refine (implBackoff _ _).mono ?_
        rintro e w8 ⟨rfl, rfl⟩
        go_upto_region 23 with fail
        refine settle (fun W => WB W (w.heap.size + 2) #[.int .i64 0, .int .i64 0, .slice none 0 0, .int .i64 0, .int .i64 0] ∧ WB W (w.heap.size + 3) #[.string ⟨#[]⟩, .slice none 0 0, .int .i64 0, .slice none 0 0, .slice none 0 0] ∧ WB W w1.heap.size #[.int .i64 y.outbox.device, .int .i64 y.outbox.next, .slice a1 y.outbox.writes.length c1, .int .i64 (tried y.tries), .int .i64 (wrap64 (now + boff (tried y.tries)))] ∧ WB W w2.heap.size #[.string s.store.name, .slice av2 s.store.items.length cv2, .int .i64 s.store.auto, .slice av3 s.applied.length cv3, .slice av4 s.changes.length cv4] ∧ Part (Rep.slice 34 DWrite.rep) (w.heap.size + 4) w1.heap.size W [.slice a1 y.outbox.writes.length c1] y.outbox.writes ∧ Part DServer.rep lo hi W [.string s.store.name, .slice av2 s.store.items.length cv2, .int .i64 s.store.auto, .slice av3 s.applied.length cv3, .slice av4 s.changes.length cv4] s ∧ Below w.heap.size w W) ⟨(HT.out.setOther (by omega)).setOther (by omega), (HU.out.setOther (by omega)).setOther (by omega), by rw [htr.out]; exact (HO.out.setAt (i := 3) (by simp) rfl).setAt (by simp) rfl, (HS.out.setOther (by omega)).setOther (by omega), offCell (offCell HP.out (by omega)) (by omega), offCell (offCell HQ.out (by omega)) (by omega), by have y := HB.out; exact bEb⟩ ?_
        clear c_HO z_HO f_HO c_HS z_HS f_HS c_HW z_HW f_HW c_HX z_HX f_HX
        clear HX HT HU HO HS HW HP HQ HB
        rintro w9 ⟨ht9, hu, ho, hs9, hp, hq, hb⟩
        have HT := Lib.hid ht9
        have HU := Lib.hid hu
        have HO := Lib.hid ho
        have HS := Lib.hid hs9
        have HP := Lib.hid hp
        have HQ := Lib.hid hq
        have HB := Lib.hid hb
        clear ht9 hu ho hs9 hp hq hb
        have ⟨c_HT, z_HT, f_HT⟩ := HT.out
        have ⟨c_HU, z_HU, f_HU⟩ := HU.out
        have ⟨c_HO, z_HO, f_HO⟩ := HO.out
        have ⟨c_HS, z_HS, f_HS⟩ := HS.out
        go_region
        all_goals
          go_wp2
          refine bodyPost_ret (v := .tuple #[.agg #[.int .i64 y.outbox.device, .int .i64 y.outbox.next, .slice a1 y.outbox.writes.length c1, .int .i64 (tried y.tries), .int .i64 (wrap64 (now + boff (tried y.tries)))], .agg #[.string s.store.name, .slice av2 s.store.items.length cv2, .int .i64 s.store.auto, .slice av3 s.applied.length cv3, .slice av4 s.changes.length cv4], .int .i64 2]) (by simp [results, Tryz.results65, go_sem, c_HT, c_HU]) rfl ⟨_, _, by rw [hN.out], ?_, ?_⟩
          · rw [hYs.out, hSs.out]
            refine Fresh2.of_parts (B := w.heap.size) (sync_part (x := stepSync y now) (lo := (w.heap.size + 4)) (hi := w1.heap.size) ?_) (lo' := lo) (hi' := hi) ?_ (by omega) (by omega) (by omega)
            · (repeat (first | with_reducible refine offCell ?_ (by omega) | with_reducible refine partD ?_))
              exact HP.out
            · (repeat (first | with_reducible refine offCell ?_ (by omega) | with_reducible refine partD ?_))
              exact HQ.out
          · have y := HB.out
            exact bEb
  all_goals
    first | (have b2' := of_decide_eq_true b2) | (have b2' := of_decide_eq_false b2) | skip
    have ho : stepOff y now = true := by
      unfold stepOff
      first
        | (rw [b0]; rfl)
        | (rw [b1]; (first | rfl | (simp; done)))
        | (rw [b0, b1]; rfl)
        | (rw [b0, b1, b2]; rfl)
        | (rw [b0, b1, b2, b3]; rfl)
    have hYs := Lib.hid (step_off (s := s) (fate := fate) ho).1
    have hSs := Lib.hid (step_off (s := s) (fate := fate) ho).2.1
    have hN := Lib.hid (step_off (s := s) (fate := fate) ho).2.2
    go_upto_region 5 with (first | (go_at_call 60; refine (implInRange _ _ _ _).mono ?_; rintro e w' ⟨rfl, rfl⟩) | fail)
    go_region
    all_goals
      go_wp2
      refine bodyPost_ret (v := .tuple #[.agg #[.int .i64 y.outbox.device, .int .i64 y.outbox.next, .slice a1 y.outbox.writes.length c1, .int .i64 y.tries, .int .i64 y.waitUntil], .agg #[.string s.store.name, .slice av2 s.store.items.length cv2, .int .i64 s.store.auto, .slice av3 s.applied.length cv3, .slice av4 s.changes.length cv4], .int .i64 0]) (by simp [results, Tryz.results65, go_sem, c_HT, c_HU]) rfl ⟨_, _, by rw [hN.out], ?_, ?_⟩
      · rw [hYs.out, hSs.out]
        refine Fresh2.of_parts (B := w.heap.size) (sync_part (x := y) (lo := (w.heap.size + 4)) (hi := w1.heap.size) ?_) (lo' := (w1.heap.size + 1)) (hi' := w2.heap.size) ?_ (by omega) (by omega) (by omega)
        · (repeat (first | with_reducible refine offCell ?_ (by omega) | with_reducible refine partD ?_))
          exact HP.out
        · (repeat (first | with_reducible refine offCell ?_ (by omega) | with_reducible refine partD ?_))
          exact HQ.out
      · have y := HB.out
        exact bEb

end Go.Proofs.YtlfebehpmefioaaGreat
