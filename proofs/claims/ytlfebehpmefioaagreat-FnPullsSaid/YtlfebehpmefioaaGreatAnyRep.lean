/-
 The draws of replicas, some of them odd; spec.DrawPullChanges.
-/
import Derived.Test.YtlfebehpmefioaaGreatRepKeep
import Derived.Test.YtlfebehpmefioaaGreatOutDraw3
import Derived.Test.YtlfebehpmefioaaGreatDrawItems
namespace Go.Proofs.YtlfebehpmefioaaGreat
open Go.RowKit

theorem set3of9 {w : World} {k : Nat} {a0 a1 a2 a3 a4 a5 a6 a7 a8 b0 b1 b2 : Value} (h : WB w k #[a0, a1, a2, a3, a4, a5, a6, a7, a8]) : WB (((w.setCell ⟨k, 0, none⟩ b0).setCell ⟨k, 1, none⟩ b1).setCell ⟨k, 2, none⟩ b2) k #[b0, b1, b2, a3, a4, a5, a6, a7, a8] :=
 (((h.setAt (i := 0) (cs' := #[b0, a1, a2, a3, a4, a5, a6, a7, a8]) (by simp) rfl).setAt (i := 1) (cs' := #[b0, b1, a2, a3, a4, a5, a6, a7, a8]) (by simp) rfl).setAt (i := 2) (cs' := #[b0, b1, b2, a3, a4, a5, a6, a7, a8]) (by simp) rfl)
theorem off3of {w : World} {k g : Nat} {cs : Array Value} {b0 b1 b2 : Value} (h : WB w k cs) (hk : k ≠ g) : WB (((w.setCell ⟨g, 0, none⟩ b0).setCell ⟨g, 1, none⟩ b1).setCell ⟨g, 2, none⟩ b2) k cs :=
 (((h.setOther hk).setOther hk).setOther hk)
theorem set3at4 {w : World} {k : Nat} {a0 a1 a2 a3 a4 a5 a6 a7 a8 b4 b5 b6 : Value} (h : WB w k #[a0, a1, a2, a3, a4, a5, a6, a7, a8]) : WB (((w.setCell ⟨k, 4, none⟩ b4).setCell ⟨k, 5, none⟩ b5).setCell ⟨k, 6, none⟩ b6) k #[a0, a1, a2, a3, b4, b5, b6, a7, a8] :=
 (((h.setAt (i := 4) (cs' := #[a0, a1, a2, a3, b4, a5, a6, a7, a8]) (by simp) rfl).setAt (i := 5) (cs' := #[a0, a1, a2, a3, b4, b5, a6, a7, a8]) (by simp) rfl).setAt (i := 6) (cs' := #[a0, a1, a2, a3, b4, b5, b6, a7, a8]) (by simp) rfl)
theorem off3at4 {w : World} {k g : Nat} {cs : Array Value} {b0 b1 b2 : Value} (h : WB w k cs) (hk : k ≠ g) : WB (((w.setCell ⟨g, 4, none⟩ b0).setCell ⟨g, 5, none⟩ b1).setCell ⟨g, 6, none⟩ b2) k cs :=
 (((h.setOther hk).setOther hk).setOther hk)

def RepLe (r : DReplica) : Prop := SmallStore r.base ∧ r.sync.outbox.writes.length ≤ 10000
theorem RepOk.le {b : Nat} {r : DReplica} {s : DServer} (h : RepOk b r s) (hb : b ≤ 5) : RepLe r ∧ SmallStore s.store ∧ s.changes.length ≤ 10000 := by
 obtain ⟨h1, h2, h3, _, h5⟩ := h.small (by omega)
 exact ⟨⟨h1, h2⟩, SmallStore.of_store (isServer_store h5), by have := h.changes; omega⟩
theorem rep_newbase {K : Nat → Prop} {W : World} {r : DReplica} {x : DStore} {v1 v2 v : Value} (h : Off DReplica.rep K W [.string r.base.name, v1, .int .i64 r.base.auto, .int .i64 r.seen, .int .i64 r.sync.outbox.device, .int .i64 r.sync.outbox.next, v2, .int .i64 r.sync.tries, .int .i64 r.sync.waitUntil] r) (hx : Off DStore.rep K W [.string x.name, v, .int .i64 x.auto] x) :
  Off DReplica.rep K W [.string x.name, v, .int .i64 x.auto, .int .i64 r.seen, .int .i64 r.sync.outbox.device, .int .i64 r.sync.outbox.next, v2, .int .i64 r.sync.tries, .int .i64 r.sync.waitUntil] ⟨x, r.seen, r.sync⟩ := Off.replica (n := r.seen) hx h.replicaParts.2
theorem rep_newseen {K : Nat → Prop} {W : World} {r : DReplica} {n : Int} {v1 v2 : Value} (h : Off DReplica.rep K W [.string r.base.name, v1, .int .i64 r.base.auto, .int .i64 r.seen, .int .i64 r.sync.outbox.device, .int .i64 r.sync.outbox.next, v2, .int .i64 r.sync.tries, .int .i64 r.sync.waitUntil] r) :
  Off DReplica.rep K W [.string r.base.name, v1, .int .i64 r.base.auto, .int .i64 n, .int .i64 r.sync.outbox.device, .int .i64 r.sync.outbox.next, v2, .int .i64 r.sync.tries, .int .i64 r.sync.waitUntil] ⟨r.base, n, r.sync⟩ := Off.replica (n := n) h.replicaParts.1 h.replicaParts.2
theorem rep_newbox {K : Nat → Prop} {W : World} {r : DReplica} {o : DOutbox} {v1 v2 v : Value} (h : Off DReplica.rep K W [.string r.base.name, v1, .int .i64 r.base.auto, .int .i64 r.seen, .int .i64 r.sync.outbox.device, .int .i64 r.sync.outbox.next, v2, .int .i64 r.sync.tries, .int .i64 r.sync.waitUntil] r) (ho : Off DOutbox.rep K W [.int .i64 o.device, .int .i64 o.next, v] o) :
  Off DReplica.rep K W [.string r.base.name, v1, .int .i64 r.base.auto, .int .i64 r.seen, .int .i64 o.device, .int .i64 o.next, v, .int .i64 r.sync.tries, .int .i64 r.sync.waitUntil] ⟨r.base, r.seen, ⟨o, r.sync.tries, r.sync.waitUntil⟩⟩ := Off.replica (y := ⟨o, r.sync.tries, r.sync.waitUntil⟩) (n := r.seen) h.replicaParts.1 (ho.sync r.sync.tries r.sync.waitUntil)

set_option maxRecDepth 100000 in
set_option maxHeartbeats 6400000 in
theorem specAnyReplica (k : Kur) (w : World) (h : Cur w k) : Calls Tryz.prog 73 #[.pointer (some ⟨k.k, 0, none⟩)] w fun e w' => ∃ ds : List Value, e = .returned (.agg ds.toArray) ∧ ∃ r : DReplica, Off DReplica.rep (fun x => x < w.heap.size) w' ds r ∧ RepLe r ∧ Mov k w w' := by
 have hk := h.lt
 go_enter Tryz.func73, Tryz.ntmps73
 go_wp2_with fail
 refine (specPair23 repInv k _ (h.below bEl)).mono ?_
 rintro e w1 ⟨ds, dv, rfl, t, r, s, hf, hg0, ht5, hok, hm⟩
 obtain ⟨a1, c1, a2, c2, rfl⟩ := hf.repShape
 obtain ⟨b1, d1, b2, d2, b3, d3, rfl⟩ := hg0.srvShape
 clear hg0
 have HLe := Lib.hid (hok.le ht5).1
 have HT : Hid (WB w1 w.heap.size #[.string ⟨#[]⟩, .slice none 0 0, .int .i64 0, .int .i64 0, .int .i64 0, .int .i64 0, .slice none 0 0, .int .i64 0, .int .i64 0]) := Lib.hid ((WB.at rfl).mov hm (by omega))
 have HM : Hid (Mov k w w1) := Lib.hid (Mov.belowL bEl hm)
 have hz1 := HT.out.lt
 have HF := Lib.hid hf
 clear hf hok hm
 go_upto_region 2 with fail
 refine settle (fun W => ∃ kr, kr = w1.heap.size ∧ WB W kr #[.string r.base.name, .slice a1 r.base.items.length c1, .int .i64 r.base.auto, .int .i64 r.seen, .int .i64 r.sync.outbox.device, .int .i64 r.sync.outbox.next, .slice a2 r.sync.outbox.writes.length c2, .int .i64 r.sync.tries, .int .i64 r.sync.waitUntil] ∧ WB W w.heap.size #[.string ⟨#[]⟩, .slice none 0 0, .int .i64 0, .int .i64 0, .int .i64 0, .int .i64 0, .slice none 0 0, .int .i64 0, .int .i64 0] ∧ Off DReplica.rep (fun x => x < w.heap.size + 1 ∨ x = w1.heap.size) W [.string r.base.name, .slice a1 r.base.items.length c1, .int .i64 r.base.auto, .int .i64 r.seen, .int .i64 r.sync.outbox.device, .int .i64 r.sync.outbox.next, .slice a2 r.sync.outbox.writes.length c2, .int .i64 r.sync.tries, .int .i64 r.sync.waitUntil] r ∧ Mov k w W) ⟨_, rfl, (WB.at rfl).growA, (HT.out.growA).growA, ((HF.out.more (K' := fun x => x < w.heap.size + 1 ∨ x = w1.heap.size) (fun x h1 h2 => by first | omega | (simp; omega))).below (belA belR)).below (belA belR), (HM.out.below (belA belR)).below (belA belR)⟩ ?_
 clear HT HF HM
 rintro w2 ⟨kr, hkr, hx, ht, hf, hm⟩
 rw [← hkr]
 rw [← hkr] at hf
 have hkk : w.heap.size + 1 ≤ kr := by omega
 have HX := Lib.hid hx
 have HT := Lib.hid ht
 have HF := Lib.hid hf
 have HM := Lib.hid hm
 have hz2 := HX.out.lt
 clear hx ht hf hm hkr hz1
 go_wp2_with fail
 refine (specBelow k _ _ HM.out.cur).mono ?_
 rintro e w3 ⟨d, rfl, _, _, hm⟩
 have hz3 := hm.size
 replace HX := Lib.hid (HX.out.mov hm (by omega))
 replace HT := Lib.hid (HT.out.mov hm (by omega))
 replace HF := Lib.hid (HF.out.mov hm (.inl (by omega)))
 replace HM := Lib.hid (HM.out.trans hm)
 clear hm
 cases n0 : (d == 0)
 case' false => cases n1 : (d == 1)
 case' false.false => cases n2 : (d == 2)
 case' true =>
  go_wp2_with fail
  refine (specAnyStore k _ HM.out.cur).mono ?_
  rintro e w4 ⟨ds, rfl, x, hg, hl, hm⟩
  obtain ⟨e1, f1, rfl⟩ := DStore.fsh hg
  replace HX := Lib.hid (HX.out.mov hm (by omega))
  replace HT := Lib.hid (HT.out.mov hm (by omega))
  replace HM := Lib.hid (HM.out.trans hm)
  have HF2 := Lib.hid (rep_newbase (HF.out.mov hm (.inl (by omega))) (Off.of (K := fun x => x < w.heap.size + 1 ∨ x = kr) hg (fun x h1 h2 h3 => by omega)))
  have HL2 : Hid (RepLe ⟨x, r.seen, r.sync⟩) := Lib.hid ⟨hl.small, HLe.out.2⟩
  clear hg hm hl
  have ⟨c_HX, z_HX, f_HX⟩ := HX.out
  go_upto_region 9 with fail
  refine settle (fun W => ∃ (r : DReplica) (a1 : Option Addr) (c1 : Nat) (a2 : Option Addr) (c2 : Nat), RepLe r ∧ WB W kr #[.string r.base.name, .slice a1 r.base.items.length c1, .int .i64 r.base.auto, .int .i64 r.seen, .int .i64 r.sync.outbox.device, .int .i64 r.sync.outbox.next, .slice a2 r.sync.outbox.writes.length c2, .int .i64 r.sync.tries, .int .i64 r.sync.waitUntil] ∧ WB W w.heap.size #[.string ⟨#[]⟩, .slice none 0 0, .int .i64 0, .int .i64 0, .int .i64 0, .int .i64 0, .slice none 0 0, .int .i64 0, .int .i64 0] ∧ Off DReplica.rep (fun x => x < w.heap.size + 1 ∨ x = kr) W [.string r.base.name, .slice a1 r.base.items.length c1, .int .i64 r.base.auto, .int .i64 r.seen, .int .i64 r.sync.outbox.device, .int .i64 r.sync.outbox.next, .slice a2 r.sync.outbox.writes.length c2, .int .i64 r.sync.tries, .int .i64 r.sync.waitUntil] r ∧ Mov k w W) ⟨⟨x, r.seen, r.sync⟩, e1, f1, a2, c2, HL2.out, set3of9 HX.out, off3of HT.out (by omega), by repeat (first | with_reducible exact HF2.out | with_reducible refine Off.set ?_ (.inr rfl)), HM.out.low (B := w.heap.size) bEb (Nat.le_refl _) hk⟩ ?_
  clear c_HX z_HX f_HX
  clear HF2 HL2
 case' false.true =>
  go_wp2_with fail
  refine (specLitInt k [-1, 9, 1000000000001] _ HM.out.cur rfl rfl rfl (by decide) (by decide)).mono ?_
  rintro e w4 ⟨u, rfl, _, hm⟩
  replace HX := Lib.hid (HX.out.mov hm (by omega))
  replace HT := Lib.hid (HT.out.mov hm (by omega))
  replace HM := Lib.hid (HM.out.trans hm)
  have HF2 := Lib.hid (rep_newseen (n := u) (HF.out.mov hm (.inl (by omega))))
  have HL2 : Hid (RepLe ⟨r.base, u, r.sync⟩) := Lib.hid HLe.out
  clear hm
  have ⟨c_HX, z_HX, f_HX⟩ := HX.out
  go_upto_region 9 with fail
  refine settle (fun W => ∃ (r : DReplica) (a1 : Option Addr) (c1 : Nat) (a2 : Option Addr) (c2 : Nat), RepLe r ∧ WB W kr #[.string r.base.name, .slice a1 r.base.items.length c1, .int .i64 r.base.auto, .int .i64 r.seen, .int .i64 r.sync.outbox.device, .int .i64 r.sync.outbox.next, .slice a2 r.sync.outbox.writes.length c2, .int .i64 r.sync.tries, .int .i64 r.sync.waitUntil] ∧ WB W w.heap.size #[.string ⟨#[]⟩, .slice none 0 0, .int .i64 0, .int .i64 0, .int .i64 0, .int .i64 0, .slice none 0 0, .int .i64 0, .int .i64 0] ∧ Off DReplica.rep (fun x => x < w.heap.size + 1 ∨ x = kr) W [.string r.base.name, .slice a1 r.base.items.length c1, .int .i64 r.base.auto, .int .i64 r.seen, .int .i64 r.sync.outbox.device, .int .i64 r.sync.outbox.next, .slice a2 r.sync.outbox.writes.length c2, .int .i64 r.sync.tries, .int .i64 r.sync.waitUntil] r ∧ Mov k w W) ⟨⟨r.base, u, r.sync⟩, a1, c1, a2, c2, HL2.out, HX.out.setAt (i := 3) (by simp) rfl, HT.out.setOther (by omega), HF2.out.set (.inr rfl), HM.out.low (B := w.heap.size) bEb (Nat.le_refl _) hk⟩ ?_
  clear c_HX z_HX f_HX
  clear HF2 HL2
 case' false.false.true =>
  go_wp2_with fail
  refine (specAnyOutbox k _ HM.out.cur).mono ?_
  rintro e w4 ⟨ds, o, rfl, hg, hl, hm⟩
  obtain ⟨e1, f1, rfl⟩ := DOutbox.fsh hg
  replace HX := Lib.hid (HX.out.mov hm (by omega))
  replace HT := Lib.hid (HT.out.mov hm (by omega))
  replace HM := Lib.hid (HM.out.trans hm)
  have HF2 := Lib.hid (rep_newbox (HF.out.mov hm (.inl (by omega))) (Off.of (K := fun x => x < w.heap.size + 1 ∨ x = kr) hg (fun x h1 h2 h3 => by omega)))
  have HL2 : Hid (RepLe ⟨r.base, r.seen, ⟨o, r.sync.tries, r.sync.waitUntil⟩⟩) := Lib.hid ⟨HLe.out.1, by show o.writes.length ≤ 10000; omega⟩
  clear hg hm hl
  have ⟨c_HX, z_HX, f_HX⟩ := HX.out
  go_upto_region 9 with fail
  refine settle (fun W => ∃ (r : DReplica) (a1 : Option Addr) (c1 : Nat) (a2 : Option Addr) (c2 : Nat), RepLe r ∧ WB W kr #[.string r.base.name, .slice a1 r.base.items.length c1, .int .i64 r.base.auto, .int .i64 r.seen, .int .i64 r.sync.outbox.device, .int .i64 r.sync.outbox.next, .slice a2 r.sync.outbox.writes.length c2, .int .i64 r.sync.tries, .int .i64 r.sync.waitUntil] ∧ WB W w.heap.size #[.string ⟨#[]⟩, .slice none 0 0, .int .i64 0, .int .i64 0, .int .i64 0, .int .i64 0, .slice none 0 0, .int .i64 0, .int .i64 0] ∧ Off DReplica.rep (fun x => x < w.heap.size + 1 ∨ x = kr) W [.string r.base.name, .slice a1 r.base.items.length c1, .int .i64 r.base.auto, .int .i64 r.seen, .int .i64 r.sync.outbox.device, .int .i64 r.sync.outbox.next, .slice a2 r.sync.outbox.writes.length c2, .int .i64 r.sync.tries, .int .i64 r.sync.waitUntil] r ∧ Mov k w W) ⟨⟨r.base, r.seen, ⟨o, r.sync.tries, r.sync.waitUntil⟩⟩, a1, c1, e1, f1, HL2.out, set3at4 HX.out, off3at4 HT.out (by omega), by repeat (first | with_reducible exact HF2.out | with_reducible refine Off.set ?_ (.inr rfl)), HM.out.low (B := w.heap.size) bEb (Nat.le_refl _) hk⟩ ?_
  clear c_HX z_HX f_HX
  clear HF2 HL2
 case' false.false.false =>
  go_upto_region 9 with fail
  refine settle (fun W => ∃ (r : DReplica) (a1 : Option Addr) (c1 : Nat) (a2 : Option Addr) (c2 : Nat), RepLe r ∧ WB W kr #[.string r.base.name, .slice a1 r.base.items.length c1, .int .i64 r.base.auto, .int .i64 r.seen, .int .i64 r.sync.outbox.device, .int .i64 r.sync.outbox.next, .slice a2 r.sync.outbox.writes.length c2, .int .i64 r.sync.tries, .int .i64 r.sync.waitUntil] ∧ WB W w.heap.size #[.string ⟨#[]⟩, .slice none 0 0, .int .i64 0, .int .i64 0, .int .i64 0, .int .i64 0, .slice none 0 0, .int .i64 0, .int .i64 0] ∧ Off DReplica.rep (fun x => x < w.heap.size + 1 ∨ x = kr) W [.string r.base.name, .slice a1 r.base.items.length c1, .int .i64 r.base.auto, .int .i64 r.seen, .int .i64 r.sync.outbox.device, .int .i64 r.sync.outbox.next, .slice a2 r.sync.outbox.writes.length c2, .int .i64 r.sync.tries, .int .i64 r.sync.waitUntil] r ∧ Mov k w W) ⟨r, a1, c1, a2, c2, HLe.out, HX.out, HT.out, HF.out, HM.out⟩ ?_
 all_goals
  clear HX HT HF HM HLe
  rintro w9 ⟨q, g1, h1, g2, h2, hle, hx, ht, hf, hm⟩
  have HX := Lib.hid hx
  have HT := Lib.hid ht
  have HF := Lib.hid hf
  have HM := Lib.hid hm
  have HLq := Lib.hid hle
  clear hx ht hf hm hle
  have HT2 := Lib.hid (set9r HT.out (b0 := .string q.base.name) (b1 := .slice g1 q.base.items.length h1) (b2 := .int .i64 q.base.auto) (b3 := .int .i64 q.seen) (b4 := .int .i64 q.sync.outbox.device) (b5 := .int .i64 q.sync.outbox.next) (b6 := .slice g2 q.sync.outbox.writes.length h2) (b7 := .int .i64 q.sync.tries) (b8 := .int .i64 q.sync.waitUntil))
  have ⟨c_HX, z_HX, f_HX⟩ := HX.out
  have ⟨c_HT, z_HT, f_HT⟩ := HT.out
  go_wp2
  clear c_HX z_HX f_HX c_HT z_HT f_HT
  have ⟨c_HT2, z_HT2, f_HT2⟩ := HT2.out
  exact bodyPost_ret (v := .agg #[.string q.base.name, .slice g1 q.base.items.length h1, .int .i64 q.base.auto, .int .i64 q.seen, .int .i64 q.sync.outbox.device, .int .i64 q.sync.outbox.next, .slice g2 q.sync.outbox.writes.length h2, .int .i64 q.sync.tries, .int .i64 q.sync.waitUntil]) (by simp [results, Tryz.results73, go_sem, c_HT2]) rfl ⟨_, rfl, q, Off.more (K := fun x => x < w.heap.size + 1 ∨ x = kr) (by repeat (first | with_reducible exact HF.out | with_reducible refine Off.set ?_ (.inl (by omega)))) (fun x h1 h2 => .inl (by omega)), HLq.out, HM.out.low (B := w.heap.size) bEb (Nat.le_refl _) hk⟩

set_option maxRecDepth 100000 in
set_option maxHeartbeats 6400000 in
theorem specDrawPull (v : Value) (l : List UInt8) (w : World) (h : Reads Rep.bytes w [v] l) (hl : l.length ≤ 1048576) : Calls Tryz.prog 32 #[v] w fun e w' => ∃ ds dv : List Value, e = .returned (.tuple #[.agg ds.toArray, .agg dv.toArray]) ∧ ∃ (r : DReplica) (s : DServer), Reads DReplica.rep w' ds r ∧ Reads DServer.rep w' dv s ∧ RepLe r ∧ SmallStore s.store ∧ s.changes.length ≤ 10000 ∧ Below w.heap.size w w' := by
 have HK := Lib.hid h
 clear h
 go_enter Tryz.func32, Tryz.ntmps32
 go_wp2_with fail
 refine (specNew v l _ w.heap.size (HK.out.lo bEl) (by simp; omega) hl).mono ?_
 rintro e w1 ⟨k, rfl, hk, hkb, hc, hb⟩
 simp at hk
 have HT : Hid (WB w1 w.heap.size #[.string ⟨#[]⟩, .slice none 0 0, .int .i64 0, .int .i64 0, .int .i64 0, .int .i64 0, .slice none 0 0, .int .i64 0, .int .i64 0]) := Lib.hid (((WB.at rfl).growA).keep hb)
 have HU : Hid (WB w1 (w.heap.size + 1) #[.string ⟨#[]⟩, .slice none 0 0, .int .i64 0, .slice none 0 0, .slice none 0 0]) := Lib.hid ((WB.at (by simp)).keep hb)
 have HB : Hid (Below w.heap.size w w1) := Lib.hid (below_call bEl bSz hb)
 have hc1 := hc.lt
 have hzb := HB.out.size
 clear hb
 go_wp2_with fail
 refine (specPair23 repInv k _ hc).mono ?_
 rintro e w2 ⟨ds, dv, rfl, t, r, s, hf, hg, ht5, hok, hm⟩
 obtain ⟨a1, c1, a2, c2, rfl⟩ := hf.repShape
 obtain ⟨b1, d1, b2, d2, b3, d3, rfl⟩ := hg.srvShape
 have HLe := Lib.hid (hok.le ht5)
 have HF := Lib.hid hf
 have HG := Lib.hid hg
 have hz2 := hm.size
 replace HT := Lib.hid (HT.out.mov hm (by omega))
 replace HU := Lib.hid (HU.out.mov hm (by omega))
 have HM : Hid (Mov k w1 w2) := Lib.hid hm
 clear hf hg hok hm
 go_upto_region 3 with fail
 refine settle (fun W => ∃ kr ks, (kr = w2.heap.size ∧ ks = w2.heap.size + 1) ∧ WB W kr #[.string r.base.name, .slice a1 r.base.items.length c1, .int .i64 r.base.auto, .int .i64 r.seen, .int .i64 r.sync.outbox.device, .int .i64 r.sync.outbox.next, .slice a2 r.sync.outbox.writes.length c2, .int .i64 r.sync.tries, .int .i64 r.sync.waitUntil] ∧ WB W ks #[.string s.store.name, .slice b1 s.store.items.length d1, .int .i64 s.store.auto, .slice b2 s.applied.length d2, .slice b3 s.changes.length d3] ∧ WB W w.heap.size #[.string ⟨#[]⟩, .slice none 0 0, .int .i64 0, .int .i64 0, .int .i64 0, .int .i64 0, .slice none 0 0, .int .i64 0, .int .i64 0] ∧ WB W (w.heap.size + 1) #[.string ⟨#[]⟩, .slice none 0 0, .int .i64 0, .slice none 0 0, .slice none 0 0] ∧ Off DReplica.rep (fun x => x < w1.heap.size ∨ x = kr ∨ x = ks) W [.string r.base.name, .slice a1 r.base.items.length c1, .int .i64 r.base.auto, .int .i64 r.seen, .int .i64 r.sync.outbox.device, .int .i64 r.sync.outbox.next, .slice a2 r.sync.outbox.writes.length c2, .int .i64 r.sync.tries, .int .i64 r.sync.waitUntil] r ∧ Off DServer.rep (fun x => x < w1.heap.size ∨ x = kr ∨ x = ks) W [.string s.store.name, .slice b1 s.store.items.length d1, .int .i64 s.store.auto, .slice b2 s.applied.length d2, .slice b3 s.changes.length d3] s ∧ Mov k w1 W) ⟨_, _, ⟨rfl, rfl⟩, (WB.at rfl).growA, WB.at (by simp), (HT.out.growA).growA, (HU.out.growA).growA, ((HF.out.more (K' := fun x => x < w1.heap.size ∨ x = w2.heap.size ∨ x = w2.heap.size + 1) (fun x h1 h2 => by first | omega | (simp; omega))).below (belA belR)).below (belA belR), ((HG.out.more (K' := fun x => x < w1.heap.size ∨ x = w2.heap.size ∨ x = w2.heap.size + 1) (fun x h1 h2 => by first | omega | (simp; omega))).below (belA belR)).below (belA belR), (HM.out.below (belA belR)).below (belA belR)⟩ ?_
 clear HT HU HF HG HM
 rintro w3 ⟨kr, ks, ⟨hkr, hks⟩, hx, hy, ht, hu, hf, hg, hm⟩
 rw [← hks, ← hkr]
 have hkk : w1.heap.size ≤ kr ∧ kr < ks ∧ w.heap.size + 2 ≤ w1.heap.size ∧ w.heap.size + 2 ≤ k.k := by have := hc1; omega
 have HX := Lib.hid hx
 have HY := Lib.hid hy
 have HT := Lib.hid ht
 have HU := Lib.hid hu
 have HF := Lib.hid hf
 have HG := Lib.hid hg
 have HM := Lib.hid hm
 have hz3 := HY.out.lt
 clear hx hy ht hu hf hg hm hkr hks hz2
 go_wp2_with fail
 refine (specBelow k _ _ HM.out.cur).mono ?_
 rintro e w4 ⟨d, rfl, _, _, hm⟩
 have hz4 := hm.size
 replace HX := Lib.hid (HX.out.mov hm (by omega))
 replace HY := Lib.hid (HY.out.mov hm (by omega))
 replace HT := Lib.hid (HT.out.mov hm (by omega))
 replace HU := Lib.hid (HU.out.mov hm (by omega))
 replace HM := Lib.hid (HM.out.trans hm)
 replace HF := Lib.hid (HF.out.mov hm (.inl hc1))
 replace HG := Lib.hid (HG.out.mov hm (.inl hc1))
 clear hm
 cases n0 : (d == 0)
 case' false => cases n1 : (d == 1)
 case' true =>
  go_wp2_with fail
  refine (specAnyReplica k _ HM.out.cur).mono ?_
  rintro e w5 ⟨ds, rfl, q, hq, hle, hm⟩
  obtain ⟨g1, h1, g2, h2, rfl⟩ := hq.repShape
  replace HX := Lib.hid (HX.out.mov hm (by omega))
  replace HY := Lib.hid (HY.out.mov hm (by omega))
  replace HT := Lib.hid (HT.out.mov hm (by omega))
  replace HU := Lib.hid (HU.out.mov hm (by omega))
  replace HM := Lib.hid (HM.out.trans hm)
  replace HG := Lib.hid (HG.out.mov hm (.inl hc1))
  have HF2 := Lib.hid (hq.more (K' := fun x => x < w1.heap.size ∨ x = kr ∨ x = ks) (fun x h1 h2 => by omega))
  have HL2 := Lib.hid hle
  clear hq hm hle HF
  have ⟨c_HX, z_HX, f_HX⟩ := HX.out
  go_upto_region 8 with fail
  refine settle (fun W => ∃ (r : DReplica) (s : DServer) (a1 : Option Addr) (c1 : Nat) (a2 : Option Addr) (c2 : Nat) (b1 : Option Addr) (d1 : Nat) (b2 : Option Addr) (d2 : Nat) (b3 : Option Addr) (d3 : Nat), (RepLe r ∧ SmallStore s.store ∧ s.changes.length ≤ 10000) ∧ WB W kr #[.string r.base.name, .slice a1 r.base.items.length c1, .int .i64 r.base.auto, .int .i64 r.seen, .int .i64 r.sync.outbox.device, .int .i64 r.sync.outbox.next, .slice a2 r.sync.outbox.writes.length c2, .int .i64 r.sync.tries, .int .i64 r.sync.waitUntil] ∧ WB W ks #[.string s.store.name, .slice b1 s.store.items.length d1, .int .i64 s.store.auto, .slice b2 s.applied.length d2, .slice b3 s.changes.length d3] ∧ WB W w.heap.size #[.string ⟨#[]⟩, .slice none 0 0, .int .i64 0, .int .i64 0, .int .i64 0, .int .i64 0, .slice none 0 0, .int .i64 0, .int .i64 0] ∧ WB W (w.heap.size + 1) #[.string ⟨#[]⟩, .slice none 0 0, .int .i64 0, .slice none 0 0, .slice none 0 0] ∧ Off DReplica.rep (fun x => x < w1.heap.size ∨ x = kr ∨ x = ks) W [.string r.base.name, .slice a1 r.base.items.length c1, .int .i64 r.base.auto, .int .i64 r.seen, .int .i64 r.sync.outbox.device, .int .i64 r.sync.outbox.next, .slice a2 r.sync.outbox.writes.length c2, .int .i64 r.sync.tries, .int .i64 r.sync.waitUntil] r ∧ Off DServer.rep (fun x => x < w1.heap.size ∨ x = kr ∨ x = ks) W [.string s.store.name, .slice b1 s.store.items.length d1, .int .i64 s.store.auto, .slice b2 s.applied.length d2, .slice b3 s.changes.length d3] s ∧ Mov k w1 W) ⟨q, s, g1, h1, g2, h2, b1, d1, b2, d2, b3, d3, ⟨HL2.out, HLe.out.2⟩, set9r HX.out, off9r HY.out (by omega), off9r HT.out (by omega), off9r HU.out (by omega), by repeat (first | with_reducible exact HF2.out | with_reducible refine Off.set ?_ (.inr (.inl rfl))), by repeat (first | with_reducible exact HG.out | with_reducible refine Off.set ?_ (.inr (.inl rfl))), HM.out.low (B := w1.heap.size) bEb (Nat.le_refl _) hc1⟩ ?_
  clear c_HX z_HX f_HX
  clear HF2 HL2
 case' false.true =>
  go_wp2_with fail
  refine (specAnyServer k _ HM.out.cur).mono ?_
  rintro e w5 ⟨ds, rfl, y, g1, h1, g2, h2, g3, h3, rfl, hq, hle, hm⟩
  replace HX := Lib.hid (HX.out.mov hm (by omega))
  replace HY := Lib.hid (HY.out.mov hm (by omega))
  replace HT := Lib.hid (HT.out.mov hm (by omega))
  replace HU := Lib.hid (HU.out.mov hm (by omega))
  replace HM := Lib.hid (HM.out.trans hm)
  replace HF := Lib.hid (HF.out.mov hm (.inl hc1))
  have HG2 := Lib.hid (hq.more (K' := fun x => x < w1.heap.size ∨ x = kr ∨ x = ks) (fun x h1 h2 => by omega))
  have HL2 : Hid (SmallStore y.store ∧ y.changes.length ≤ 10000) := Lib.hid ⟨hle.store.small, by have := hle.changes; omega⟩
  clear hq hm hle HG
  have ⟨c_HY, z_HY, f_HY⟩ := HY.out
  go_upto_region 8 with fail
  refine settle (fun W => ∃ (r : DReplica) (s : DServer) (a1 : Option Addr) (c1 : Nat) (a2 : Option Addr) (c2 : Nat) (b1 : Option Addr) (d1 : Nat) (b2 : Option Addr) (d2 : Nat) (b3 : Option Addr) (d3 : Nat), (RepLe r ∧ SmallStore s.store ∧ s.changes.length ≤ 10000) ∧ WB W kr #[.string r.base.name, .slice a1 r.base.items.length c1, .int .i64 r.base.auto, .int .i64 r.seen, .int .i64 r.sync.outbox.device, .int .i64 r.sync.outbox.next, .slice a2 r.sync.outbox.writes.length c2, .int .i64 r.sync.tries, .int .i64 r.sync.waitUntil] ∧ WB W ks #[.string s.store.name, .slice b1 s.store.items.length d1, .int .i64 s.store.auto, .slice b2 s.applied.length d2, .slice b3 s.changes.length d3] ∧ WB W w.heap.size #[.string ⟨#[]⟩, .slice none 0 0, .int .i64 0, .int .i64 0, .int .i64 0, .int .i64 0, .slice none 0 0, .int .i64 0, .int .i64 0] ∧ WB W (w.heap.size + 1) #[.string ⟨#[]⟩, .slice none 0 0, .int .i64 0, .slice none 0 0, .slice none 0 0] ∧ Off DReplica.rep (fun x => x < w1.heap.size ∨ x = kr ∨ x = ks) W [.string r.base.name, .slice a1 r.base.items.length c1, .int .i64 r.base.auto, .int .i64 r.seen, .int .i64 r.sync.outbox.device, .int .i64 r.sync.outbox.next, .slice a2 r.sync.outbox.writes.length c2, .int .i64 r.sync.tries, .int .i64 r.sync.waitUntil] r ∧ Off DServer.rep (fun x => x < w1.heap.size ∨ x = kr ∨ x = ks) W [.string s.store.name, .slice b1 s.store.items.length d1, .int .i64 s.store.auto, .slice b2 s.applied.length d2, .slice b3 s.changes.length d3] s ∧ Mov k w1 W) ⟨r, y, a1, c1, a2, c2, g1, h1, g2, h2, g3, h3, ⟨HLe.out.1, HL2.out⟩, off5s HX.out (by omega), set5s HY.out, off5s HT.out (by omega), off5s HU.out (by omega), by repeat (first | with_reducible exact HF.out | with_reducible refine Off.set ?_ (.inr (.inr rfl))), by repeat (first | with_reducible exact HG2.out | with_reducible refine Off.set ?_ (.inr (.inr rfl))), HM.out.low (B := w1.heap.size) bEb (Nat.le_refl _) hc1⟩ ?_
  clear c_HY z_HY f_HY
  clear HG2 HL2
 case' false.false =>
  go_upto_region 8 with fail
  refine settle (fun W => ∃ (r : DReplica) (s : DServer) (a1 : Option Addr) (c1 : Nat) (a2 : Option Addr) (c2 : Nat) (b1 : Option Addr) (d1 : Nat) (b2 : Option Addr) (d2 : Nat) (b3 : Option Addr) (d3 : Nat), (RepLe r ∧ SmallStore s.store ∧ s.changes.length ≤ 10000) ∧ WB W kr #[.string r.base.name, .slice a1 r.base.items.length c1, .int .i64 r.base.auto, .int .i64 r.seen, .int .i64 r.sync.outbox.device, .int .i64 r.sync.outbox.next, .slice a2 r.sync.outbox.writes.length c2, .int .i64 r.sync.tries, .int .i64 r.sync.waitUntil] ∧ WB W ks #[.string s.store.name, .slice b1 s.store.items.length d1, .int .i64 s.store.auto, .slice b2 s.applied.length d2, .slice b3 s.changes.length d3] ∧ WB W w.heap.size #[.string ⟨#[]⟩, .slice none 0 0, .int .i64 0, .int .i64 0, .int .i64 0, .int .i64 0, .slice none 0 0, .int .i64 0, .int .i64 0] ∧ WB W (w.heap.size + 1) #[.string ⟨#[]⟩, .slice none 0 0, .int .i64 0, .slice none 0 0, .slice none 0 0] ∧ Off DReplica.rep (fun x => x < w1.heap.size ∨ x = kr ∨ x = ks) W [.string r.base.name, .slice a1 r.base.items.length c1, .int .i64 r.base.auto, .int .i64 r.seen, .int .i64 r.sync.outbox.device, .int .i64 r.sync.outbox.next, .slice a2 r.sync.outbox.writes.length c2, .int .i64 r.sync.tries, .int .i64 r.sync.waitUntil] r ∧ Off DServer.rep (fun x => x < w1.heap.size ∨ x = kr ∨ x = ks) W [.string s.store.name, .slice b1 s.store.items.length d1, .int .i64 s.store.auto, .slice b2 s.applied.length d2, .slice b3 s.changes.length d3] s ∧ Mov k w1 W) ⟨r, s, a1, c1, a2, c2, b1, d1, b2, d2, b3, d3, HLe.out, HX.out, HY.out, HT.out, HU.out, HF.out, HG.out, HM.out⟩ ?_
 all_goals
  clear HX HY HT HU HM HLe
  try clear HF
  try clear HG
  rintro w9 ⟨r, s, a1, c1, a2, c2, b1, d1, b2, d2, b3, d3, hle, hx, hy, ht, hu, hf, hg, hm⟩
  have HX := Lib.hid hx
  have HY := Lib.hid hy
  have HT := Lib.hid ht
  have HU := Lib.hid hu
  have HF := Lib.hid hf
  have HG := Lib.hid hg
  have HM := Lib.hid hm
  have HLq := Lib.hid hle
  clear hx hy ht hu hf hg hm hle
  go_upto_region 8 with fail
  refine wp_region_mvf k ([w.heap.size, w.heap.size + 1]) [] (by kernel_rfl) ?_
  intro wd hbd
  have hwz := hbd.size
  replace HX := Lib.hid (HX.out.keep hbd)
  replace HY := Lib.hid (HY.out.keep hbd)
  replace HT := Lib.hid (HT.out.keep hbd)
  replace HU := Lib.hid (HU.out.keep hbd)
  replace HF := Lib.hid (HF.out.below hbd)
  replace HG := Lib.hid (HG.out.below hbd)
  replace HM := Lib.hid (HM.out.below hbd)
  clear hbd
  have hne : Nonempty (MovedF k ([w.heap.size, w.heap.size + 1]) wd) := ⟨⟨wd, MovF.of (Mov.refl HM.out.cur)⟩⟩
  have K_HX := mvf_var (k := k) (fp := ([w.heap.size, w.heap.size + 1])) HX.out (by omega) (by first | (simp; omega) | assumption)
  have K_HY := mvf_var (k := k) (fp := ([w.heap.size, w.heap.size + 1])) HY.out (by omega) (by first | (simp; omega) | assumption)
  refine wpU_group (fun _ _ _ _ _ h => h) (by kernel_rfl) (mvf_of (MovF.of (Mov.refl HM.out.cur))) [0,1] _ _ _ rfl (by kernel_rfl) ?_
  repeat (go_big_quiet_step (fail))
  refine wpQuiet_nil ?_
  clear K_HX K_HY
  have ⟨c_HT, z_HT, f_HT⟩ := HT.out
  have ⟨c_HU, z_HU, f_HU⟩ := HU.out
  have hq0 : MovF k [w.heap.size, w.heap.size + 1] wd wd := MovF.of (Mov.refl HM.out.cur)
  refine wpU_one 2 rfl (by kernel_rfl) ?_
  go_wp2_with fail
  have hq1 := hq0.set9r (b := w.heap.size) (u0 := .string r.base.name) (u1 := .slice a1 r.base.items.length c1) (u2 := .int .i64 r.base.auto) (u3 := .int .i64 r.seen) (u4 := .int .i64 r.sync.outbox.device) (u5 := .int .i64 r.sync.outbox.next) (u6 := .slice a2 r.sync.outbox.writes.length c2) (u7 := .int .i64 r.sync.tries) (u8 := .int .i64 r.sync.waitUntil) (by simp) (by omega) (by omega)
  refine HardPost.mk (mvf_of hq1) ?_
  have HT1 := Lib.hid (set9r HT.out (b0 := .string r.base.name) (b1 := .slice a1 r.base.items.length c1) (b2 := .int .i64 r.base.auto) (b3 := .int .i64 r.seen) (b4 := .int .i64 r.sync.outbox.device) (b5 := .int .i64 r.sync.outbox.next) (b6 := .slice a2 r.sync.outbox.writes.length c2) (b7 := .int .i64 r.sync.tries) (b8 := .int .i64 r.sync.waitUntil))
  have HU1 := Lib.hid (off9r HU.out (g := w.heap.size) (b0 := .string r.base.name) (b1 := .slice a1 r.base.items.length c1) (b2 := .int .i64 r.base.auto) (b3 := .int .i64 r.seen) (b4 := .int .i64 r.sync.outbox.device) (b5 := .int .i64 r.sync.outbox.next) (b6 := .slice a2 r.sync.outbox.writes.length c2) (b7 := .int .i64 r.sync.tries) (b8 := .int .i64 r.sync.waitUntil) (by omega))
  clear c_HT z_HT f_HT c_HU z_HU f_HU
  have ⟨c_HU1, z_HU1, f_HU1⟩ := HU1.out
  refine wpU_one 3 rfl (by kernel_rfl) ?_
  go_wp2_with fail
  have hq2 := hq1.set5r (b := w.heap.size + 1) (u0 := .string s.store.name) (u1 := .slice b1 s.store.items.length d1) (u2 := .int .i64 s.store.auto) (u3 := .slice b2 s.applied.length d2) (u4 := .slice b3 s.changes.length d3) (by simp) (by omega) (by omega)
  refine HardPost.mk (mvf_of hq2) ?_
  have HT2 := Lib.hid (off5s HT1.out (g := w.heap.size + 1) (b0 := .string s.store.name) (b1 := .slice b1 s.store.items.length d1) (b2 := .int .i64 s.store.auto) (b3 := .slice b2 s.applied.length d2) (b4 := .slice b3 s.changes.length d3) (by omega))
  have HU2 := Lib.hid (set5s HU1.out (b0 := .string s.store.name) (b1 := .slice b1 s.store.items.length d1) (b2 := .int .i64 s.store.auto) (b3 := .slice b2 s.applied.length d2) (b4 := .slice b3 s.changes.length d3))
  clear c_HU1 z_HU1 f_HU1
  refine wpU_tail [] _ _ _ _ rfl (by kernel_rfl) ?_
  go_wp2_with fail
  refine NoPanic.normal ?_
  have ⟨c_HT2, z_HT2, f_HT2⟩ := HT2.out
  have ⟨c_HU2, z_HU2, f_HU2⟩ := HU2.out
  go_wp2
  refine bodyPost_ret (v := .tuple #[.agg #[.string r.base.name, .slice a1 r.base.items.length c1, .int .i64 r.base.auto, .int .i64 r.seen, .int .i64 r.sync.outbox.device, .int .i64 r.sync.outbox.next, .slice a2 r.sync.outbox.writes.length c2, .int .i64 r.sync.tries, .int .i64 r.sync.waitUntil], .agg #[.string s.store.name, .slice b1 s.store.items.length d1, .int .i64 s.store.auto, .slice b2 s.applied.length d2, .slice b3 s.changes.length d3]]) (by simp [results, Tryz.results32, go_sem, c_HT2, c_HU2]) rfl ⟨_, _, rfl, r, s, Off.reads (K := fun x => x < w1.heap.size ∨ x = kr ∨ x = ks) (by repeat (first | with_reducible exact HF.out | with_reducible refine Off.set ?_ (.inl (by omega)))), Off.reads (K := fun x => x < w1.heap.size ∨ x = kr ∨ x = ks) (by repeat (first | with_reducible exact HG.out | with_reducible refine Off.set ?_ (.inl (by omega)))), HLq.out.1, HLq.out.2.1, HLq.out.2.2, ?_⟩
  have y2 := HB.out.trans (HM.out.toBelow (B := w.heap.size) (by omega) hc1)
  exact bEb

end Go.Proofs.YtlfebehpmefioaaGreat
