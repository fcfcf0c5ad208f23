/-
 The draws of a replica and a server that fit together, whatever their steps keep.
-/
import Derived.Test.YtlfebehpmefioaaGreatDrawSrv
import Derived.Test.YtlfebehpmefioaaGreatSyncStepS
import Derived.Test.YtlfebehpmefioaaGreatWriteLocal
import Derived.Test.YtlfebehpmefioaaGreatNewReplica
import Derived.Test.YtlfebehpmefioaaGreatPullS
namespace Go.Proofs.YtlfebehpmefioaaGreat
open Go.RowKit

theorem set9r {w : World} {k : Nat} {a0 a1 a2 a3 a4 a5 a6 a7 a8 b0 b1 b2 b3 b4 b5 b6 b7 b8 : Value} (h : WB w k #[a0, a1, a2, a3, a4, a5, a6, a7, a8]) : WB (((((((((w.setCell ⟨k, 0, none⟩ b0).setCell ⟨k, 1, none⟩ b1).setCell ⟨k, 2, none⟩ b2).setCell ⟨k, 3, none⟩ b3).setCell ⟨k, 4, none⟩ b4).setCell ⟨k, 5, none⟩ b5).setCell ⟨k, 6, none⟩ b6).setCell ⟨k, 7, none⟩ b7).setCell ⟨k, 8, none⟩ b8) k #[b0, b1, b2, b3, b4, b5, b6, b7, b8] :=
 (((((((((h.setAt (i := 0) (cs' := #[b0, a1, a2, a3, a4, a5, a6, a7, a8]) (by simp) rfl).setAt (i := 1) (cs' := #[b0, b1, a2, a3, a4, a5, a6, a7, a8]) (by simp) rfl).setAt (i := 2) (cs' := #[b0, b1, b2, a3, a4, a5, a6, a7, a8]) (by simp) rfl).setAt (i := 3) (cs' := #[b0, b1, b2, b3, a4, a5, a6, a7, a8]) (by simp) rfl).setAt (i := 4) (cs' := #[b0, b1, b2, b3, b4, a5, a6, a7, a8]) (by simp) rfl).setAt (i := 5) (cs' := #[b0, b1, b2, b3, b4, b5, a6, a7, a8]) (by simp) rfl).setAt (i := 6) (cs' := #[b0, b1, b2, b3, b4, b5, b6, a7, a8]) (by simp) rfl).setAt (i := 7) (cs' := #[b0, b1, b2, b3, b4, b5, b6, b7, a8]) (by simp) rfl).setAt (i := 8) (cs' := #[b0, b1, b2, b3, b4, b5, b6, b7, b8]) (by simp) rfl)
theorem off9r {w : World} {k g : Nat} {cs : Array Value} {b0 b1 b2 b3 b4 b5 b6 b7 b8 : Value} (h : WB w k cs) (hk : k ≠ g) : WB (((((((((w.setCell ⟨g, 0, none⟩ b0).setCell ⟨g, 1, none⟩ b1).setCell ⟨g, 2, none⟩ b2).setCell ⟨g, 3, none⟩ b3).setCell ⟨g, 4, none⟩ b4).setCell ⟨g, 5, none⟩ b5).setCell ⟨g, 6, none⟩ b6).setCell ⟨g, 7, none⟩ b7).setCell ⟨g, 8, none⟩ b8) k cs :=
 (((((((((h.setOther hk).setOther hk).setOther hk).setOther hk).setOther hk).setOther hk).setOther hk).setOther hk).setOther hk)
theorem set5at4 {w : World} {k : Nat} {a0 a1 a2 a3 a4 a5 a6 a7 a8 b4 b5 b6 b7 b8 : Value} (h : WB w k #[a0, a1, a2, a3, a4, a5, a6, a7, a8]) : WB (((((w.setCell ⟨k, 4, none⟩ b4).setCell ⟨k, 5, none⟩ b5).setCell ⟨k, 6, none⟩ b6).setCell ⟨k, 7, none⟩ b7).setCell ⟨k, 8, none⟩ b8) k #[a0, a1, a2, a3, b4, b5, b6, b7, b8] :=
 (((((h.setAt (i := 4) (cs' := #[a0, a1, a2, a3, b4, a5, a6, a7, a8]) (by simp) rfl).setAt (i := 5) (cs' := #[a0, a1, a2, a3, b4, b5, a6, a7, a8]) (by simp) rfl).setAt (i := 6) (cs' := #[a0, a1, a2, a3, b4, b5, b6, a7, a8]) (by simp) rfl).setAt (i := 7) (cs' := #[a0, a1, a2, a3, b4, b5, b6, b7, a8]) (by simp) rfl).setAt (i := 8) (cs' := #[a0, a1, a2, a3, b4, b5, b6, b7, b8]) (by simp) rfl)
theorem off5at4 {w : World} {k g : Nat} {cs : Array Value} {b0 b1 b2 b3 b4 : Value} (h : WB w k cs) (hk : k ≠ g) : WB (((((w.setCell ⟨g, 4, none⟩ b0).setCell ⟨g, 5, none⟩ b1).setCell ⟨g, 6, none⟩ b2).setCell ⟨g, 7, none⟩ b3).setCell ⟨g, 8, none⟩ b4) k cs :=
 (((((h.setOther hk).setOther hk).setOther hk).setOther hk).setOther hk)
theorem MovF.set9r {k : Kur} {fp : List Nat} {w w1 : World} {b : Nat} {u0 u1 u2 u3 u4 u5 u6 u7 u8 : Value} (h : MovF k fp w w1) (hb : b ∈ fp) (h1 : k.b ≤ b) (h2 : k.k ≠ b) : MovF k fp w (((((((((w1.setCell ⟨b, 0, none⟩ u0).setCell ⟨b, 1, none⟩ u1).setCell ⟨b, 2, none⟩ u2).setCell ⟨b, 3, none⟩ u3).setCell ⟨b, 4, none⟩ u4).setCell ⟨b, 5, none⟩ u5).setCell ⟨b, 6, none⟩ u6).setCell ⟨b, 7, none⟩ u7).setCell ⟨b, 8, none⟩ u8) :=
 (((((((((h.set hb h1 h2).set hb h1 h2).set hb h1 h2).set hb h1 h2).set hb h1 h2).set hb h1 h2).set hb h1 h2).set hb h1 h2).set hb h1 h2)
theorem MovF.set5r {k : Kur} {fp : List Nat} {w w1 : World} {b : Nat} {u0 u1 u2 u3 u4 : Value} (h : MovF k fp w w1) (hb : b ∈ fp) (h1 : k.b ≤ b) (h2 : k.k ≠ b) : MovF k fp w (((((w1.setCell ⟨b, 0, none⟩ u0).setCell ⟨b, 1, none⟩ u1).setCell ⟨b, 2, none⟩ u2).setCell ⟨b, 3, none⟩ u3).setCell ⟨b, 4, none⟩ u4) :=
 (((((h.set hb h1 h2).set hb h1 h2).set hb h1 h2).set hb h1 h2).set hb h1 h2)

theorem alloc_wb (w : World) (cs : Array Value) (t : TypeId) : WB (w.alloc (.cells cs t)) w.heap.size cs := WB.at rfl
theorem Off.repShape {K : Nat → Prop} {w : World} {cs : List Value} {x : DReplica} (h : Off DReplica.rep K w cs x) : ∃ a1 c1 a2 c2, cs = [.string x.base.name, .slice a1 x.base.items.length c1, .int .i64 x.base.auto, .int .i64 x.seen, .int .i64 x.sync.outbox.device, .int .i64 x.sync.outbox.next, .slice a2 x.sync.outbox.writes.length c2, .int .i64 x.sync.tries, .int .i64 x.sync.waitUntil] := by
 obtain ⟨fp, h, _⟩ := h
 exact DReplica.shape h
theorem Off.srvShape {K : Nat → Prop} {w : World} {cs : List Value} {x : DServer} (h : Off DServer.rep K w cs x) : ∃ b1 d1 b2 d2 b3 d3, cs = [.string x.store.name, .slice b1 x.store.items.length d1, .int .i64 x.store.auto, .slice b2 x.applied.length d2, .slice b3 x.changes.length d3] := by
 obtain ⟨fp, h, _⟩ := h
 exact DServer.shape h

section
variable {P : Program} {Q : Exit → Act → World → Prop} {S : World → Prop} {M : List Nat}
def threeB (ops : Array Oper) (D : List Nat) (i j m : Nat) : Bool := decide (D.length < ops.size) && Region.ready .any ops (mark ops.size D) == [i, j, m]
theorem wpU_three {l : List Oper} {D : List Nat} (i j m : Nat) {o o' o'' : Oper} (ho : l[i]? = some o) (ho' : l[j]? = some o') (ho'' : l[m]? = some o'') (hB : threeB l.toArray D i j m = true) {a : Act} {w : World} (h : wpList P l.toArray (HardPost P l.toArray Q S M D i) [o] a w)
  (h' : wpList P l.toArray (HardPost P l.toArray Q S M D j) [o'] a w) (h'' : wpList P l.toArray (HardPost P l.toArray Q S M D m) [o''] a w) : wpU P l.toArray Q S M D a w := by
 unfold threeB at hB
 simp only [Bool.and_eq_true, decide_eq_true_eq, beq_iff_eq] at hB
 obtain ⟨hD, hr⟩ := hB
 have hsz : l.toArray.size - D.length = (l.toArray.size - (D.length + 1)) + 1 := by simp at hD ⊢; omega
 have key : ∀ (i : Nat) (o : Oper), l[i]? = some o → wpList P l.toArray (HardPost P l.toArray Q S M D i) [o] a w → wpOp P l.toArray Q i (fun a' w' => (i ∈ M ∨ S w') ∧ wpAnyU P l.toArray Q S M (l.toArray.size - (D.length + 1)) ((mark l.toArray.size D).setIfInBounds i true) a' w') a w := fun i o ho h => by
  refine wpOp_of_list (Q' := HardPost P l.toArray Q S M D i) (by simpa using ho) (fun a w hk => ⟨hk.1, ?_⟩) (fun _ _ _ h => h) (fun h => h) h
  have h2 := hk.2
  unfold wpU at h2
  rw [mark_snoc, show (D ++ [i]).length = D.length + 1 by simp] at h2
  exact h2
 unfold wpU
 rw [hsz]
 refine ⟨fun h0 => (by rw [hr] at h0; cases h0), fun n hn => ?_⟩
 rw [hr] at hn
 have hn : n = i ∨ n = j ∨ n = m := by simpa using hn
 rcases hn with rfl | rfl | rfl
 ·exact key _ _ ho h
 ·exact key _ _ ho' h'
 ·exact key _ _ ho'' h''
end

structure RepInv (P : Nat → DReplica → DServer → Prop) : Prop where
 new : ∀ s, SrvOk 5 s → P 0 (newReplicaF s 4) s
 write : ∀ b r s k f n, b ≤ 5 → P b r s → P (b + 1) (writeLocalF r k f n) s
 sync : ∀ b r s m, b ≤ 5 → P b r s → P (b + 1) ⟨r.base, r.seen, syncStepY r.sync s r.sync.waitUntil m⟩ (syncStepS r.sync s r.sync.waitUntil m)
 recv : ∀ b r s y, b ≤ 5 → P b r s → (1 ≤ y.device ∧ y.device ≤ 3) → P (b + 1) r (receiveF s y)
 pull : ∀ b r s, b ≤ 5 → P b r s → P (b + 1) (pullChangesF r s) s
 small : ∀ b r s, b ≤ 5 → P b r s → SmallStore r.base ∧ r.sync.outbox.writes.length ≤ 10000 ∧ SmallServer s 10000 ∧ 0 ≤ r.sync.tries ∧ isServerF s = true

theorem pairKey (W : World) (b : Int) : Reads DKey.rep W [.int .i64 1, .int .i64 b, .string ⟨#[]⟩] ⟨1, b, ⟨#[]⟩⟩ := ⟨[], DKey.rd.2 ⟨rfl, rfl, by show 0 ≤ maxLen; decide⟩⟩
theorem pairWrite (W : World) (d q b m : Int) (f : ByteArray) (hf : f.size ≤ 20) : Reads DWrite.rep W [.int .i64 d, .int .i64 q, .int .i64 1, .int .i64 b, .string ⟨#[]⟩, .string f, .int .i64 m] ⟨d, q, ⟨1, b, ⟨#[]⟩⟩, f, m⟩ := writeReads W ⟨d, q, ⟨1, b, ⟨#[]⟩⟩, f, m⟩ (by show 0 ≤ 20; decide) hf

attribute [local irreducible] newReplicaF writeLocalF syncStepY syncStepS receiveF pullChangesF lastSeqF

set_option maxRecDepth 100000 in
set_option maxHeartbeats 16000000 in
theorem specPair23 {P : Nat → DReplica → DServer → Prop} (hP : RepInv P) (k : Kur) (w : World) (h : Cur w k) : Calls Tryz.prog 67 #[.pointer (some ⟨k.k, 0, none⟩)] w fun e w' => ∃ ds dv : List Value, e = .returned (.tuple #[.agg ds.toArray, .agg dv.toArray]) ∧ ∃ (t : Nat) (r : DReplica) (s : DServer), Off DReplica.rep (fun x => x < w.heap.size) w' ds r ∧ Off DServer.rep (fun x => x < w.heap.size) w' dv s ∧ t ≤ 5 ∧ P t r s ∧ Mov k w w' := by
 have hk := h.lt
 have HP := Lib.hid hP
 clear hP
 go_enter Tryz.func67, Tryz.ntmps67
 go_wp2_with fail
 refine (specDrawServer k _ (h.below bEl)).mono ?_
 rintro e w1 ⟨ds, rfl, s, hf, hs, hm⟩
 obtain ⟨b1, d1, b2, d2, b3, d3, rfl⟩ := DServer.fsh hf
 have HT : Hid (WB w1 w.heap.size #[.string ⟨#[]⟩, .slice none 0 0, .int .i64 0, .int .i64 0, .int .i64 0, .int .i64 0, .slice none 0 0, .int .i64 0, .int .i64 0]) := Lib.hid (((WB.at rfl).growA).mov hm (by omega))
 have HU : Hid (WB w1 (w.heap.size + 1) #[.string ⟨#[]⟩, .slice none 0 0, .int .i64 0, .slice none 0 0, .slice none 0 0]) := Lib.hid ((WB.at (by simp)).mov hm (by omega))
 have HM : Hid (Mov k w w1) := Lib.hid (Mov.belowL bEl hm)
 have hz1 : w.heap.size + 2 ≤ w1.heap.size := HU.out.lt
 have HF := Lib.hid (hf.mono (B' := w.heap.size + 2) (by simp))
 have HS := Lib.hid hs
 clear hm hf hs
 go_upto_region 2 with fail
 refine settle (fun W => ∃ ks, ks = w1.heap.size ∧ WB W ks #[.string s.store.name, .slice b1 s.store.items.length d1, .int .i64 s.store.auto, .slice b2 s.applied.length d2, .slice b3 s.changes.length d3] ∧ WB W w.heap.size #[.string ⟨#[]⟩, .slice none 0 0, .int .i64 0, .int .i64 0, .int .i64 0, .int .i64 0, .slice none 0 0, .int .i64 0, .int .i64 0] ∧ WB W (w.heap.size + 1) #[.string ⟨#[]⟩, .slice none 0 0, .int .i64 0, .slice none 0 0, .slice none 0 0] ∧ Off DServer.rep (fun x => x < w.heap.size + 2 ∨ w1.heap.size ≤ x) W [.string s.store.name, .slice b1 s.store.items.length d1, .int .i64 s.store.auto, .slice b2 s.applied.length d2, .slice b3 s.changes.length d3] s ∧ Mov k w W) ⟨_, rfl, WB.at rfl, HT.out.growA, HU.out.growA, (Off.of HF.out (fun x h1 h2 h3 => by omega)).below (belA belR), HM.out.below bEl⟩ ?_
 clear HT HU HF HM
 rintro w2 ⟨ks, hks, hx, ht, hu, hf, hm⟩
 rw [← hks]
 rw [← hks] at hf
 have HX := Lib.hid hx
 have HT := Lib.hid ht
 have HU := Lib.hid hu
 have HG := Lib.hid hf
 have HM := Lib.hid hm
 have hkk : w.heap.size + 2 ≤ ks ∧ k.k < w.heap.size := by omega
 have hz2 := HX.out.lt
 clear hx ht hu hf hm hks hz1
 have ⟨c_HX, z_HX, f_HX⟩ := HX.out
 go_wp2_with fail
 refine (specNewReplica _ s 4 _ HG.out.reads (HS.out.small (by decide)).1).mono ?_
 rintro e w3 ⟨ds, rfl, hf, hb⟩
 clear c_HX z_HX f_HX
 have HPz := Lib.hid (HP.out.new s HS.out)
 obtain ⟨r, hr⟩ : ∃ r, newReplicaF s 4 = r := ⟨_, rfl⟩
 rw [hr] at hf HPz
 clear hr
 obtain ⟨a1, c1, a2, c2, rfl⟩ := DReplica.fsh hf
 have hz3 := hb.size
 replace HX := Lib.hid (HX.out.keep hb)
 replace HT := Lib.hid (HT.out.keep hb)
 replace HU := Lib.hid (HU.out.keep hb)
 replace HG := Lib.hid (HG.out.below hb)
 replace HM := Lib.hid (HM.out.below hb)
 have HF := Lib.hid hf
 clear hf hb
 go_upto_region 3 with fail
 refine settle (fun W => ∃ kr, kr = w3.heap.size ∧ WB W kr #[.string r.base.name, .slice a1 r.base.items.length c1, .int .i64 r.base.auto, .int .i64 r.seen, .int .i64 r.sync.outbox.device, .int .i64 r.sync.outbox.next, .slice a2 r.sync.outbox.writes.length c2, .int .i64 r.sync.tries, .int .i64 r.sync.waitUntil] ∧ WB W ks #[.string s.store.name, .slice b1 s.store.items.length d1, .int .i64 s.store.auto, .slice b2 s.applied.length d2, .slice b3 s.changes.length d3] ∧ WB W w.heap.size #[.string ⟨#[]⟩, .slice none 0 0, .int .i64 0, .int .i64 0, .int .i64 0, .int .i64 0, .slice none 0 0, .int .i64 0, .int .i64 0] ∧ WB W (w.heap.size + 1) #[.string ⟨#[]⟩, .slice none 0 0, .int .i64 0, .slice none 0 0, .slice none 0 0] ∧ Off DReplica.rep (fun x => x < w.heap.size + 2 ∨ x = ks ∨ x = w3.heap.size) W [.string r.base.name, .slice a1 r.base.items.length c1, .int .i64 r.base.auto, .int .i64 r.seen, .int .i64 r.sync.outbox.device, .int .i64 r.sync.outbox.next, .slice a2 r.sync.outbox.writes.length c2, .int .i64 r.sync.tries, .int .i64 r.sync.waitUntil] r ∧ Off DServer.rep (fun x => x < w.heap.size + 2 ∨ x = ks ∨ x = w3.heap.size) W [.string s.store.name, .slice b1 s.store.items.length d1, .int .i64 s.store.auto, .slice b2 s.applied.length d2, .slice b3 s.changes.length d3] s ∧ Mov k w W) ⟨_, rfl, WB.at rfl, HX.out.growA, HT.out.growA, HU.out.growA, (Off.of HF.out (fun x h1 h2 h3 => by omega)).below (belA belR), (HG.out.more (fun x h1 h2 => by omega)).below (belA belR), HM.out.below bEl⟩ ?_
 clear HX HT HU HF HG HM
 rintro w4 ⟨kr, hkr, hy, hx, ht, hu, hf, hg, hm⟩
 rw [← hkr]
 rw [← hkr] at hf hg
 have hkl : ks < kr := by omega
 have HR := Lib.hid hy
 have HX := Lib.hid hx
 have HT := Lib.hid ht
 have HU := Lib.hid hu
 have HF := Lib.hid hf
 have HG := Lib.hid hg
 have HM := Lib.hid hm
 clear hy hx ht hu hf hg hm hkr hz3 hz2 HS
 go_wp2_with fail
 refine (specBelow k _ _ HM.out.cur).mono ?_
 rintro e w5 ⟨n, rfl, hn0, hn6, hm⟩
 have hn := hn6 (by decide)
 replace HR := Lib.hid (HR.out.mov hm (by omega))
 replace HX := Lib.hid (HX.out.mov hm (by omega))
 replace HT := Lib.hid (HT.out.mov hm (by omega))
 replace HU := Lib.hid (HU.out.mov hm (by omega))
 replace HF := Lib.hid (HF.out.mov hm (.inl (by omega)))
 replace HG := Lib.hid (HG.out.mov hm (.inl (by omega)))
 replace HM := Lib.hid (HM.out.trans hm)
 clear hm hn6
 go_wp2
 go_loopw [7] (fun i W => ∃ (n : Int) (t : Nat) (r : DReplica) (s : DServer) (a1 : Option Addr) (c1 : Nat) (a2 : Option Addr) (c2 : Nat) (b1 : Option Addr) (d1 : Nat) (b2 : Option Addr) (d2 : Nat) (b3 : Option Addr) (d3 : Nat), i = .int .i64 n ∧ (n ≤ 100 ∧ t + n.toNat ≤ 5 ∧ P t r s) ∧ WB W kr #[.string r.base.name, .slice a1 r.base.items.length c1, .int .i64 r.base.auto, .int .i64 r.seen, .int .i64 r.sync.outbox.device, .int .i64 r.sync.outbox.next, .slice a2 r.sync.outbox.writes.length c2, .int .i64 r.sync.tries, .int .i64 r.sync.waitUntil] ∧ WB W ks #[.string s.store.name, .slice b1 s.store.items.length d1, .int .i64 s.store.auto, .slice b2 s.applied.length d2, .slice b3 s.changes.length d3] ∧ WB W w.heap.size #[.string ⟨#[]⟩, .slice none 0 0, .int .i64 0, .int .i64 0, .int .i64 0, .int .i64 0, .slice none 0 0, .int .i64 0, .int .i64 0] ∧ WB W (w.heap.size + 1) #[.string ⟨#[]⟩, .slice none 0 0, .int .i64 0, .slice none 0 0, .slice none 0 0] ∧ Off DReplica.rep (fun x => x < w.heap.size + 2 ∨ x = ks ∨ x = kr) W [.string r.base.name, .slice a1 r.base.items.length c1, .int .i64 r.base.auto, .int .i64 r.seen, .int .i64 r.sync.outbox.device, .int .i64 r.sync.outbox.next, .slice a2 r.sync.outbox.writes.length c2, .int .i64 r.sync.tries, .int .i64 r.sync.waitUntil] r ∧ Off DServer.rep (fun x => x < w.heap.size + 2 ∨ x = ks ∨ x = kr) W [.string s.store.name, .slice b1 s.store.items.length d1, .int .i64 s.store.auto, .slice b2 s.applied.length d2, .slice b3 s.changes.length d3] s ∧ Mov k w W) (fun i _ => (intOf i).toNat)
 case atStart => exact ⟨n, 0, r, s, a1, c1, a2, c2, b1, d1, b2, d2, b3, d3, rfl, ⟨by omega, by omega, HPz.out⟩, HR.out, HX.out, HT.out, HU.out, HF.out, HG.out, HM.out⟩
 case round =>
  clear HR HX HT HU HF HG HM HPz hn0 hn
  obtain ⟨n, t, r, s, a1, c1, a2, c2, b1, d1, b2, d2, b3, d3, rfl, ⟨hn, hnt, hp⟩, hy, hx, ht, hu, hf, hg, hm⟩ := hrel
  have HR := Lib.hid hy
  have HX := Lib.hid hx
  have HT := Lib.hid ht
  have HU := Lib.hid hu
  have HF := Lib.hid hf
  have HG := Lib.hid hg
  have HM := Lib.hid hm
  have HQ := Lib.hid hp
  clear hy hx ht hu hf hg hm hp
  have hzr := HR.out.lt
  by_cases hlt : 0 < n
  ·go_wp2_with fail
   refine (specBelow k _ _ HM.out.cur).mono ?_
   rintro e w6 ⟨d, rfl, hd0, hd5, hm⟩
   replace HR := Lib.hid (HR.out.mov hm (by omega))
   replace HX := Lib.hid (HX.out.mov hm (by omega))
   replace HT := Lib.hid (HT.out.mov hm (by omega))
   replace HU := Lib.hid (HU.out.mov hm (by omega))
   replace HF := Lib.hid (HF.out.mov hm (.inl (by omega)))
   replace HG := Lib.hid (HG.out.mov hm (.inl (by omega)))
   replace HM := Lib.hid (HM.out.trans hm)
   clear hm hd5
   have hzr := HR.out.lt
   have hsm := HP.out.small t r s (by omega) HQ.out
   have HSm := Lib.hid hsm
   clear hsm
   cases n0 : (d == 0)
   case' false => cases n1 : (d == 1)
   case' false.false => cases n2 : (d == 2)
   case' false.false.false => cases n3 : (d == 3)
   case' true =>
    go_upto_region 10 with fail
    refine wp_region_mv k [10,11] (by kernel_rfl) ?_
    intro wd hbd
    have hwz := hbd.size
    replace HR := Lib.hid (HR.out.keep hbd)
    replace HX := Lib.hid (HX.out.keep hbd)
    replace HT := Lib.hid (HT.out.keep hbd)
    replace HU := Lib.hid (HU.out.keep hbd)
    replace HF := Lib.hid (HF.out.below hbd)
    replace HG := Lib.hid (HG.out.below hbd)
    replace HM := Lib.hid (HM.out.below hbd)
    clear hbd
    have hne : Nonempty (Moved k wd) := ⟨⟨wd, Mov.refl HM.out.cur⟩⟩
    have K_HR := mv_var (k := k) HR.out (by omega)
    refine wpU_group (fun _ _ _ _ _ h => h) (by kernel_rfl) (mv_of (Mov.refl HM.out.cur)) [0,1,3,5] _ _ _ rfl (by kernel_rfl) ?_
    repeat (go_big_quiet_step (fail))
    refine wpQuiet_nil ?_
    clear K_HR
    refine wpU_one 2 rfl (by kernel_rfl) ?_
    go_wp2_with fail
    refine (specKeyV k _ HM.out.cur).mono ?_
    rintro e w2 ⟨y, rfl, _, _, hm⟩
    go_wp2_with fail
    refine HardPost.mk (mv_of (hm)) ?_
    refine wpU_one 4 rfl (by kernel_rfl) ?_
    go_wp2_with fail
    refine (specName k _ hm.cur).mono ?_
    rintro e w3 ⟨f, rfl, hf3, hm3⟩
    have mm3 := hm.trans hm3
    go_wp2_with fail
    refine HardPost.mk (mv_of (mm3)) ?_
    refine wpU_one 6 rfl (by kernel_rfl) ?_
    go_wp2_with fail
    refine (specBelow k _ _ mm3.cur).mono ?_
    rintro e w4 ⟨m, rfl, _, _, hm4⟩
    have mm4 := mm3.trans hm4
    go_wp2_with fail
    refine HardPost.mk (mv_of (mm4)) ?_
    have hz4 := mm4.size
    refine wpU_one 7 rfl (by kernel_rfl) ?_
    go_wp2_with fail
    refine (specWriteLocal _ _ r ⟨1, y, ⟨#[]⟩⟩ f m _ (HF.out.mov mm4 (.inl (by omega))).reads (pairKey _ y) HSm.out.1 (by have := HSm.out.2.1; omega) (by unfold maxLen; omega)).mono ?_
    rintro e w5 ⟨ds, rfl, hg5, hb5⟩
    have HQ2 := Lib.hid (HP.out.write t r s ⟨1, y, ⟨#[]⟩⟩ f m (by omega) HQ.out)
    obtain ⟨z, hz⟩ : ∃ z, writeLocalF r ⟨1, y, ⟨#[]⟩⟩ f m = z := ⟨_, rfl⟩
    rw [hz] at hg5 HQ2
    clear hz
    obtain ⟨e1, f1, e2, f2, rfl⟩ := DReplica.fsh hg5
    have mm5 := mm4.below hb5
    go_wp2_with fail
    refine HardPost.mk (mv_of (mm5)) ?_
    refine wpU_group (fun _ _ _ _ _ h => h) (by kernel_rfl) (mv_of (mm5)) [8,9,10] _ _ _ rfl (by kernel_rfl) ?_
    repeat (go_big_quiet_step (fail))
    refine wpQuiet_nil ?_
    replace HR := Lib.hid (HR.out.mov mm5 (by omega))
    replace HX := Lib.hid (HX.out.mov mm5 (by omega))
    replace HT := Lib.hid (HT.out.mov mm5 (by omega))
    replace HU := Lib.hid (HU.out.mov mm5 (by omega))
    replace HG := Lib.hid (HG.out.mov mm5 (.inl (by omega)))
    replace HM := Lib.hid (HM.out.trans mm5)
    have HF5 : Hid (Off DReplica.rep (fun x => x < w.heap.size + 2 ∨ x = ks ∨ x = kr) w5 [.string z.base.name, .slice e1 z.base.items.length f1, .int .i64 z.base.auto, .int .i64 z.seen, .int .i64 z.sync.outbox.device, .int .i64 z.sync.outbox.next, .slice e2 z.sync.outbox.writes.length f2, .int .i64 z.sync.tries, .int .i64 z.sync.waitUntil] z) := Lib.hid (Off.of hg5 (fun x h1 h2 h3 => by omega))
    clear hg5 hm hm3 hm4 mm3 mm4 hb5 HF
    have ⟨c_HR, z_HR, f_HR⟩ := HR.out
    refine wpU_tail [11] _ _ _ _ rfl (by kernel_rfl) ?_
    go_wp2_with fail
    refine NoPanic.normal ?_
    clear c_HR z_HR f_HR
    go_upto_region 5 with fail
    refine settle (fun W => ∃ (r : DReplica) (s : DServer) (a1 : Option Addr) (c1 : Nat) (a2 : Option Addr) (c2 : Nat) (b1 : Option Addr) (d1 : Nat) (b2 : Option Addr) (d2 : Nat) (b3 : Option Addr) (d3 : Nat), P (t + 1) r s ∧ WB W kr #[.string r.base.name, .slice a1 r.base.items.length c1, .int .i64 r.base.auto, .int .i64 r.seen, .int .i64 r.sync.outbox.device, .int .i64 r.sync.outbox.next, .slice a2 r.sync.outbox.writes.length c2, .int .i64 r.sync.tries, .int .i64 r.sync.waitUntil] ∧ WB W ks #[.string s.store.name, .slice b1 s.store.items.length d1, .int .i64 s.store.auto, .slice b2 s.applied.length d2, .slice b3 s.changes.length d3] ∧ WB W w.heap.size #[.string ⟨#[]⟩, .slice none 0 0, .int .i64 0, .int .i64 0, .int .i64 0, .int .i64 0, .slice none 0 0, .int .i64 0, .int .i64 0] ∧ WB W (w.heap.size + 1) #[.string ⟨#[]⟩, .slice none 0 0, .int .i64 0, .slice none 0 0, .slice none 0 0] ∧ Off DReplica.rep (fun x => x < w.heap.size + 2 ∨ x = ks ∨ x = kr) W [.string r.base.name, .slice a1 r.base.items.length c1, .int .i64 r.base.auto, .int .i64 r.seen, .int .i64 r.sync.outbox.device, .int .i64 r.sync.outbox.next, .slice a2 r.sync.outbox.writes.length c2, .int .i64 r.sync.tries, .int .i64 r.sync.waitUntil] r ∧ Off DServer.rep (fun x => x < w.heap.size + 2 ∨ x = ks ∨ x = kr) W [.string s.store.name, .slice b1 s.store.items.length d1, .int .i64 s.store.auto, .slice b2 s.applied.length d2, .slice b3 s.changes.length d3] s ∧ Mov k w W) ⟨z, s, e1, f1, e2, f2, b1, d1, b2, d2, b3, d3, HQ2.out, set9r HR.out, off9r HX.out (by omega), off9r HT.out (by omega), off9r HU.out (by omega), by repeat (first | with_reducible exact HF5.out | with_reducible refine Off.set ?_ (.inr (.inr rfl))), by repeat (first | with_reducible exact HG.out | with_reducible refine Off.set ?_ (.inr (.inr rfl))), HM.out.low (B := w.heap.size) bEb (Nat.le_refl _) hk⟩ ?_
    clear HF5 HQ2 mm5 hne
   case' false.true =>
    go_upto_region 10 with fail
    refine wp_region_mv k [10,11] (by kernel_rfl) ?_
    intro wd hbd
    have hwz := hbd.size
    replace HR := Lib.hid (HR.out.keep hbd)
    replace HX := Lib.hid (HX.out.keep hbd)
    replace HT := Lib.hid (HT.out.keep hbd)
    replace HU := Lib.hid (HU.out.keep hbd)
    replace HF := Lib.hid (HF.out.below hbd)
    replace HG := Lib.hid (HG.out.below hbd)
    replace HM := Lib.hid (HM.out.below hbd)
    clear hbd
    have hne : Nonempty (Moved k wd) := ⟨⟨wd, Mov.refl HM.out.cur⟩⟩
    have K_HR := mv_var (k := k) HR.out (by omega)
    refine wpU_group (fun _ _ _ _ _ h => h) (by kernel_rfl) (mv_of (Mov.refl HM.out.cur)) [0,1,3,5] _ _ _ rfl (by kernel_rfl) ?_
    repeat (go_big_quiet_step (fail))
    refine wpQuiet_nil ?_
    clear K_HR
    refine wpU_one 2 rfl (by kernel_rfl) ?_
    go_wp2_with fail
    refine (specKeyV k _ HM.out.cur).mono ?_
    rintro e w2 ⟨y, rfl, _, _, hm⟩
    go_wp2_with fail
    refine HardPost.mk (mv_of (hm)) ?_
    refine wpU_one 4 rfl (by kernel_rfl) ?_
    go_wp2_with fail
    refine (specName k _ hm.cur).mono ?_
    rintro e w3 ⟨f, rfl, hf3, hm3⟩
    have mm3 := hm.trans hm3
    go_wp2_with fail
    refine HardPost.mk (mv_of (mm3)) ?_
    refine wpU_one 6 rfl (by kernel_rfl) ?_
    go_wp2_with fail
    refine (specBelow k _ _ mm3.cur).mono ?_
    rintro e w4 ⟨m, rfl, _, _, hm4⟩
    have mm4 := mm3.trans hm4
    go_wp2_with fail
    refine HardPost.mk (mv_of (mm4)) ?_
    have hz4 := mm4.size
    refine wpU_one 7 rfl (by kernel_rfl) ?_
    go_wp2_with fail
    refine (specWriteLocal _ _ r ⟨1, y, ⟨#[]⟩⟩ f m _ (HF.out.mov mm4 (.inl (by omega))).reads (pairKey _ y) HSm.out.1 (by have := HSm.out.2.1; omega) (by unfold maxLen; omega)).mono ?_
    rintro e w5 ⟨ds, rfl, hg5, hb5⟩
    have HQ2 := Lib.hid (HP.out.write t r s ⟨1, y, ⟨#[]⟩⟩ f m (by omega) HQ.out)
    obtain ⟨z, hz⟩ : ∃ z, writeLocalF r ⟨1, y, ⟨#[]⟩⟩ f m = z := ⟨_, rfl⟩
    rw [hz] at hg5 HQ2
    clear hz
    obtain ⟨e1, f1, e2, f2, rfl⟩ := DReplica.fsh hg5
    have mm5 := mm4.below hb5
    go_wp2_with fail
    refine HardPost.mk (mv_of (mm5)) ?_
    refine wpU_group (fun _ _ _ _ _ h => h) (by kernel_rfl) (mv_of (mm5)) [8,9,10] _ _ _ rfl (by kernel_rfl) ?_
    repeat (go_big_quiet_step (fail))
    refine wpQuiet_nil ?_
    replace HR := Lib.hid (HR.out.mov mm5 (by omega))
    replace HX := Lib.hid (HX.out.mov mm5 (by omega))
    replace HT := Lib.hid (HT.out.mov mm5 (by omega))
    replace HU := Lib.hid (HU.out.mov mm5 (by omega))
    replace HG := Lib.hid (HG.out.mov mm5 (.inl (by omega)))
    replace HM := Lib.hid (HM.out.trans mm5)
    have HF5 : Hid (Off DReplica.rep (fun x => x < w.heap.size + 2 ∨ x = ks ∨ x = kr) w5 [.string z.base.name, .slice e1 z.base.items.length f1, .int .i64 z.base.auto, .int .i64 z.seen, .int .i64 z.sync.outbox.device, .int .i64 z.sync.outbox.next, .slice e2 z.sync.outbox.writes.length f2, .int .i64 z.sync.tries, .int .i64 z.sync.waitUntil] z) := Lib.hid (Off.of hg5 (fun x h1 h2 h3 => by omega))
    clear hg5 hm hm3 hm4 mm3 mm4 hb5 HF
    have ⟨c_HR, z_HR, f_HR⟩ := HR.out
    refine wpU_tail [11] _ _ _ _ rfl (by kernel_rfl) ?_
    go_wp2_with fail
    refine NoPanic.normal ?_
    clear c_HR z_HR f_HR
    go_upto_region 5 with fail
    refine settle (fun W => ∃ (r : DReplica) (s : DServer) (a1 : Option Addr) (c1 : Nat) (a2 : Option Addr) (c2 : Nat) (b1 : Option Addr) (d1 : Nat) (b2 : Option Addr) (d2 : Nat) (b3 : Option Addr) (d3 : Nat), P (t + 1) r s ∧ WB W kr #[.string r.base.name, .slice a1 r.base.items.length c1, .int .i64 r.base.auto, .int .i64 r.seen, .int .i64 r.sync.outbox.device, .int .i64 r.sync.outbox.next, .slice a2 r.sync.outbox.writes.length c2, .int .i64 r.sync.tries, .int .i64 r.sync.waitUntil] ∧ WB W ks #[.string s.store.name, .slice b1 s.store.items.length d1, .int .i64 s.store.auto, .slice b2 s.applied.length d2, .slice b3 s.changes.length d3] ∧ WB W w.heap.size #[.string ⟨#[]⟩, .slice none 0 0, .int .i64 0, .int .i64 0, .int .i64 0, .int .i64 0, .slice none 0 0, .int .i64 0, .int .i64 0] ∧ WB W (w.heap.size + 1) #[.string ⟨#[]⟩, .slice none 0 0, .int .i64 0, .slice none 0 0, .slice none 0 0] ∧ Off DReplica.rep (fun x => x < w.heap.size + 2 ∨ x = ks ∨ x = kr) W [.string r.base.name, .slice a1 r.base.items.length c1, .int .i64 r.base.auto, .int .i64 r.seen, .int .i64 r.sync.outbox.device, .int .i64 r.sync.outbox.next, .slice a2 r.sync.outbox.writes.length c2, .int .i64 r.sync.tries, .int .i64 r.sync.waitUntil] r ∧ Off DServer.rep (fun x => x < w.heap.size + 2 ∨ x = ks ∨ x = kr) W [.string s.store.name, .slice b1 s.store.items.length d1, .int .i64 s.store.auto, .slice b2 s.applied.length d2, .slice b3 s.changes.length d3] s ∧ Mov k w W) ⟨z, s, e1, f1, e2, f2, b1, d1, b2, d2, b3, d3, HQ2.out, set9r HR.out, off9r HX.out (by omega), off9r HT.out (by omega), off9r HU.out (by omega), by repeat (first | with_reducible exact HF5.out | with_reducible refine Off.set ?_ (.inr (.inr rfl))), by repeat (first | with_reducible exact HG.out | with_reducible refine Off.set ?_ (.inr (.inr rfl))), HM.out.low (B := w.heap.size) bEb (Nat.le_refl _) hk⟩ ?_
    clear HF5 HQ2 mm5 hne
   case' false.false.true =>
    have HPt := Lib.hid HF.out.replicaParts
    go_upto_region 12 with fail
    go_cut [8, 9, 10] from 21 to 86 (fun xx yy _ W => ∃ (k8 k9 : Nat) (y2 : DSync) (s2 : DServer) (e0 : Option Addr) (f0 : Nat) (g1 : Option Addr) (h1 : Nat) (g2 : Option Addr) (h2 : Nat) (g3 : Option Addr) (h3 : Nat), xx = .pointer (some ⟨k8, 0, none⟩) ∧ yy = .pointer (some ⟨k9, 0, none⟩) ∧ P (t + 1) ⟨r.base, r.seen, y2⟩ s2 ∧ (kr < k8 ∧ kr < k9 ∧ k8 ≠ k9) ∧ WB W k8 #[.int .i64 y2.outbox.device, .int .i64 y2.outbox.next, .slice e0 y2.outbox.writes.length f0, .int .i64 y2.tries, .int .i64 y2.waitUntil] ∧ WB W k9 #[.string s2.store.name, .slice g1 s2.store.items.length h1, .int .i64 s2.store.auto, .slice g2 s2.applied.length h2, .slice g3 s2.changes.length h3] ∧ WB W kr #[.string r.base.name, .slice a1 r.base.items.length c1, .int .i64 r.base.auto, .int .i64 r.seen, .int .i64 r.sync.outbox.device, .int .i64 r.sync.outbox.next, .slice a2 r.sync.outbox.writes.length c2, .int .i64 r.sync.tries, .int .i64 r.sync.waitUntil] ∧ WB W ks #[.string s.store.name, .slice b1 s.store.items.length d1, .int .i64 s.store.auto, .slice b2 s.applied.length d2, .slice b3 s.changes.length d3] ∧ WB W w.heap.size #[.string ⟨#[]⟩, .slice none 0 0, .int .i64 0, .int .i64 0, .int .i64 0, .int .i64 0, .slice none 0 0, .int .i64 0, .int .i64 0] ∧ WB W (w.heap.size + 1) #[.string ⟨#[]⟩, .slice none 0 0, .int .i64 0, .slice none 0 0, .slice none 0 0] ∧ Off DStore.rep (fun x => x < w.heap.size + 2 ∨ x = ks ∨ x = kr) W [.string r.base.name, .slice a1 r.base.items.length c1, .int .i64 r.base.auto] r.base ∧ Off DSync.rep (fun x => x < w.heap.size + 2 ∨ x = ks ∨ x = kr) W [.int .i64 y2.outbox.device, .int .i64 y2.outbox.next, .slice e0 y2.outbox.writes.length f0, .int .i64 y2.tries, .int .i64 y2.waitUntil] y2 ∧ Off DServer.rep (fun x => x < w.heap.size + 2 ∨ x = ks ∨ x = kr) W [.string s2.store.name, .slice g1 s2.store.items.length h1, .int .i64 s2.store.auto, .slice g2 s2.applied.length h2, .slice g3 s2.changes.length h3] s2 ∧ Mov k w W)
    case first =>
     refine wp_region_mv k [11,12,15,16,17] (by kernel_rfl) ?_
     intro wd hbd
     have hwz := hbd.size
     replace HR := Lib.hid (HR.out.keep hbd)
     replace HX := Lib.hid (HX.out.keep hbd)
     replace HT := Lib.hid (HT.out.keep hbd)
     replace HU := Lib.hid (HU.out.keep hbd)
     replace HG := Lib.hid (HG.out.below hbd)
     replace HPt := Lib.hid (show _ ∧ _ from ⟨HPt.out.1.below hbd, HPt.out.2.below hbd⟩)
     replace HM := Lib.hid (HM.out.below hbd)
     clear hbd
     have hne : Nonempty (Moved k wd) := ⟨⟨wd, Mov.refl HM.out.cur⟩⟩
     have K_HR := mv_var (k := k) HR.out (by omega)
     have K_HX := mv_var (k := k) HX.out (by omega)
     refine wpU_group (fun _ _ _ _ _ h => h) (by kernel_rfl) (mv_of (Mov.refl HM.out.cur)) [0,1,2,3,4,5,6] _ _ _ rfl (by kernel_rfl) ?_
     repeat (go_big_quiet_step (fail))
     refine wpQuiet_nil ?_
     clear K_HR K_HX
     have mv0 := Mov.refl HM.out.cur
     refine wpU_three 7 13 14 rfl rfl rfl (by kernel_rfl) ?t0 ?t1 ?t2
     case t0 =>
      go_wp2_with fail
      refine (specBelow k _ _ mv0.cur).mono ?_
      rintro e W1 ⟨m, rfl, _, _, hm1⟩
      have mv1 := mv0.trans hm1
      have hz1 := hm1.size
      go_wp2_with fail
      refine HardPost.mk (mv_of mv1) ?_
      refine wpU_three 8 13 14 rfl rfl rfl (by kernel_rfl) ?ta0 ?ta1 ?ta2
      case ta0 =>
       go_wp2_with fail
       refine (specSyncStep _ _ r.sync s r.sync.waitUntil m _ (HPt.out.2.mov mv1 (.inl (by omega))).reads (HG.out.mov mv1 (.inl (by omega))).reads (by have := HSm.out.2.1; omega) (HSm.out.2.2.1.mono (by omega)) (by have := HSm.out.2.2.2.1; omega)).mono ?_
       rintro e W2 ⟨ds, dv, rfl, hf2, hm2⟩
       have mv2 := mv1.below hm2
       have hz2 := hm2.size
       have hfy := hf2.left
       have hfs := hf2.right
       have HQ2 := Lib.hid (HP.out.sync t r s m (by omega) HQ.out)
       obtain ⟨y2, hy2⟩ : ∃ y2, syncStepY r.sync s r.sync.waitUntil m = y2 := ⟨_, rfl⟩
       obtain ⟨s2, hs2⟩ : ∃ s2, syncStepS r.sync s r.sync.waitUntil m = s2 := ⟨_, rfl⟩
       rw [hy2] at hfy HQ2
       rw [hs2] at hfs HQ2
       clear hf2 hy2 hs2
       obtain ⟨e0, f0, rfl⟩ := DSync.fsh hfy
       obtain ⟨g1, h1, g2, h2, g3, h3, rfl⟩ := DServer.fsh hfs
       go_wp2_with fail
       refine HardPost.mk (mv_of mv2) ?_
       refine wpU_group (fun _ _ _ _ _ h => h) (by kernel_rfl) (mv_of mv2) [9,10,11,12] _ _ _ rfl (by kernel_rfl) ?_
       repeat (go_big_quiet_step (fail))
       refine wpQuiet_nil ?_
       refine wpU_two 13 14 rfl rfl (by kernel_rfl) ?taa0 ?taa1
       case taa0 =>
        go_wp2_with fail
        have q3 : Below W2.heap.size W2 (World.alloc W2 (.cells #[.int .i64 0, .int .i64 0, .slice none 0 0, .int .i64 0, .int .i64 0] 46)) := belA belR
        have b83 := alloc_wb W2 #[.int .i64 0, .int .i64 0, .slice none 0 0, .int .i64 0, .int .i64 0] 46
        have mv3 := Mov.below mv2 q3
        have aft3 := Below.trans belR (q3.mono (by first | exact Nat.le_refl _ | omega))
        refine HardPost.mk (mv_of mv3) ?_
        generalize (World.alloc W2 (.cells #[.int .i64 0, .int .i64 0, .slice none 0 0, .int .i64 0, .int .i64 0] 46)) = W3 at *
        have hz3 := b83.lt
        refine wpU_one 14 rfl (by kernel_rfl) ?_
        go_wp2_with fail
        have q4 : Below W3.heap.size W3 (World.alloc W3 (.cells #[.string ⟨#[]⟩, .slice none 0 0, .int .i64 0, .slice none 0 0, .slice none 0 0] 30)) := belA belR
        have b94 := alloc_wb W3 #[.string ⟨#[]⟩, .slice none 0 0, .int .i64 0, .slice none 0 0, .slice none 0 0] 30
        have mv4 := Mov.below mv3 q4
        have b84 := (b83).keep q4
        have aft4 := Below.trans aft3 (q4.mono (by first | exact Nat.le_refl _ | omega))
        refine HardPost.mk (mv_of mv4) ?_
        generalize (World.alloc W3 (.cells #[.string ⟨#[]⟩, .slice none 0 0, .int .i64 0, .slice none 0 0, .slice none 0 0] 30)) = W4 at *
        have hz4 := b94.lt
        have HK8 := Lib.hid b84
        have HK9 := Lib.hid b94
        have HS2 := Lib.hid (Off.below (Off.of (K := fun x => x < w.heap.size + 2 ∨ x = ks ∨ x = kr ∨ x = W2.heap.size ∨ x = W3.heap.size) hfs (fun x h1 h2 h3 => by omega)) aft4)
        have HY2 := Lib.hid (Off.below (Off.of (K := fun x => x < w.heap.size + 2 ∨ x = ks ∨ x = kr ∨ x = W2.heap.size ∨ x = W3.heap.size) hfy (fun x h1 h2 h3 => by omega)) aft4)
        have HB2 := Lib.hid ((HPt.out.1.more (K' := fun x => x < w.heap.size + 2 ∨ x = ks ∨ x = kr ∨ x = W2.heap.size ∨ x = W3.heap.size) (fun x h1 h2 => by omega)).mov mv4 (.inl (by omega)))
        replace HR := Lib.hid (HR.out.mov mv4 (by omega))
        replace HX := Lib.hid (HX.out.mov mv4 (by omega))
        replace HT := Lib.hid (HT.out.mov mv4 (by omega))
        replace HU := Lib.hid (HU.out.mov mv4 (by omega))
        replace HM := Lib.hid (HM.out.trans mv4)
        clear hfs hfy HF HG
        have ⟨c_HK8, z_HK8, f_HK8⟩ := HK8.out
        have ⟨c_HK9, z_HK9, f_HK9⟩ := HK9.out
        refine wpU_tail [15,16,17] _ _ _ _ rfl (by kernel_rfl) ?_
        go_wp2_with fail
        refine NoPanic.normal ?_
        clear c_HK8 z_HK8 f_HK8 c_HK9 z_HK9 f_HK9
        go_wp2_with fail
        go_meet
        exact ⟨W2.heap.size, W3.heap.size, y2, s2, e0, f0, g1, h1, g2, h2, g3, h3, rfl, rfl, HQ2.out, by omega, off5s (set5s HK8.out) (by omega), set5s (off5s HK9.out (by omega)), off5s (off5s HR.out (by omega)) (by omega), off5s (off5s HX.out (by omega)) (by omega), off5s (off5s HT.out (by omega)) (by omega), off5s (off5s HU.out (by omega)) (by omega), (Off.more (by repeat (first | with_reducible exact HB2.out | with_reducible refine Off.set ?_ (.inr (.inr (.inr (.inl rfl)))) | with_reducible refine Off.set ?_ (.inr (.inr (.inr (.inr rfl)))))) (K := fun x => x < w.heap.size + 2 ∨ x = ks ∨ x = kr ∨ x = W2.heap.size ∨ x = W3.heap.size) (fun x h1 h2 => by omega)), (Off.more (by repeat (first | with_reducible exact HY2.out | with_reducible refine Off.set ?_ (.inr (.inr (.inr (.inl rfl)))) | with_reducible refine Off.set ?_ (.inr (.inr (.inr (.inr rfl)))))) (K := fun x => x < w.heap.size + 2 ∨ x = ks ∨ x = kr ∨ x = W2.heap.size ∨ x = W3.heap.size) (fun x h1 h2 => by omega)), (Off.more (by repeat (first | with_reducible exact HS2.out | with_reducible refine Off.set ?_ (.inr (.inr (.inr (.inl rfl)))) | with_reducible refine Off.set ?_ (.inr (.inr (.inr (.inr rfl)))))) (K := fun x => x < w.heap.size + 2 ∨ x = ks ∨ x = kr ∨ x = W2.heap.size ∨ x = W3.heap.size) (fun x h1 h2 => by omega)), HM.out.low (B := w.heap.size) bEb (Nat.le_refl _) hk⟩
       case taa1 =>
        go_wp2_with fail
        have q6 : Below W2.heap.size W2 (World.alloc W2 (.cells #[.string ⟨#[]⟩, .slice none 0 0, .int .i64 0, .slice none 0 0, .slice none 0 0] 30)) := belA belR
        have b96 := alloc_wb W2 #[.string ⟨#[]⟩, .slice none 0 0, .int .i64 0, .slice none 0 0, .slice none 0 0] 30
        have mv6 := Mov.below mv2 q6
        have aft6 := Below.trans belR (q6.mono (by first | exact Nat.le_refl _ | omega))
        refine HardPost.mk (mv_of mv6) ?_
        generalize (World.alloc W2 (.cells #[.string ⟨#[]⟩, .slice none 0 0, .int .i64 0, .slice none 0 0, .slice none 0 0] 30)) = W6 at *
        have hz6 := b96.lt
        refine wpU_one 13 rfl (by kernel_rfl) ?_
        go_wp2_with fail
        have q7 : Below W6.heap.size W6 (World.alloc W6 (.cells #[.int .i64 0, .int .i64 0, .slice none 0 0, .int .i64 0, .int .i64 0] 46)) := belA belR
        have b87 := alloc_wb W6 #[.int .i64 0, .int .i64 0, .slice none 0 0, .int .i64 0, .int .i64 0] 46
        have mv7 := Mov.below mv6 q7
        have b97 := (b96).keep q7
        have aft7 := Below.trans aft6 (q7.mono (by first | exact Nat.le_refl _ | omega))
        refine HardPost.mk (mv_of mv7) ?_
        generalize (World.alloc W6 (.cells #[.int .i64 0, .int .i64 0, .slice none 0 0, .int .i64 0, .int .i64 0] 46)) = W7 at *
        have hz7 := b87.lt
        have HK8 := Lib.hid b87
        have HK9 := Lib.hid b97
        have HS2 := Lib.hid (Off.below (Off.of (K := fun x => x < w.heap.size + 2 ∨ x = ks ∨ x = kr ∨ x = W6.heap.size ∨ x = W2.heap.size) hfs (fun x h1 h2 h3 => by omega)) aft7)
        have HY2 := Lib.hid (Off.below (Off.of (K := fun x => x < w.heap.size + 2 ∨ x = ks ∨ x = kr ∨ x = W6.heap.size ∨ x = W2.heap.size) hfy (fun x h1 h2 h3 => by omega)) aft7)
        have HB2 := Lib.hid ((HPt.out.1.more (K' := fun x => x < w.heap.size + 2 ∨ x = ks ∨ x = kr ∨ x = W6.heap.size ∨ x = W2.heap.size) (fun x h1 h2 => by omega)).mov mv7 (.inl (by omega)))
        replace HR := Lib.hid (HR.out.mov mv7 (by omega))
        replace HX := Lib.hid (HX.out.mov mv7 (by omega))
        replace HT := Lib.hid (HT.out.mov mv7 (by omega))
        replace HU := Lib.hid (HU.out.mov mv7 (by omega))
        replace HM := Lib.hid (HM.out.trans mv7)
        clear hfs hfy HF HG
        have ⟨c_HK8, z_HK8, f_HK8⟩ := HK8.out
        have ⟨c_HK9, z_HK9, f_HK9⟩ := HK9.out
        refine wpU_tail [15,16,17] _ _ _ _ rfl (by kernel_rfl) ?_
        go_wp2_with fail
        refine NoPanic.normal ?_
        clear c_HK8 z_HK8 f_HK8 c_HK9 z_HK9 f_HK9
        go_wp2_with fail
        go_meet
        exact ⟨W6.heap.size, W2.heap.size, y2, s2, e0, f0, g1, h1, g2, h2, g3, h3, rfl, rfl, HQ2.out, by omega, off5s (set5s HK8.out) (by omega), set5s (off5s HK9.out (by omega)), off5s (off5s HR.out (by omega)) (by omega), off5s (off5s HX.out (by omega)) (by omega), off5s (off5s HT.out (by omega)) (by omega), off5s (off5s HU.out (by omega)) (by omega), (Off.more (by repeat (first | with_reducible exact HB2.out | with_reducible refine Off.set ?_ (.inr (.inr (.inr (.inl rfl)))) | with_reducible refine Off.set ?_ (.inr (.inr (.inr (.inr rfl)))))) (K := fun x => x < w.heap.size + 2 ∨ x = ks ∨ x = kr ∨ x = W6.heap.size ∨ x = W2.heap.size) (fun x h1 h2 => by omega)), (Off.more (by repeat (first | with_reducible exact HY2.out | with_reducible refine Off.set ?_ (.inr (.inr (.inr (.inl rfl)))) | with_reducible refine Off.set ?_ (.inr (.inr (.inr (.inr rfl)))))) (K := fun x => x < w.heap.size + 2 ∨ x = ks ∨ x = kr ∨ x = W6.heap.size ∨ x = W2.heap.size) (fun x h1 h2 => by omega)), (Off.more (by repeat (first | with_reducible exact HS2.out | with_reducible refine Off.set ?_ (.inr (.inr (.inr (.inl rfl)))) | with_reducible refine Off.set ?_ (.inr (.inr (.inr (.inr rfl)))))) (K := fun x => x < w.heap.size + 2 ∨ x = ks ∨ x = kr ∨ x = W6.heap.size ∨ x = W2.heap.size) (fun x h1 h2 => by omega)), HM.out.low (B := w.heap.size) bEb (Nat.le_refl _) hk⟩
      case ta1 =>
       go_wp2_with fail
       have q9 : Below W1.heap.size W1 (World.alloc W1 (.cells #[.int .i64 0, .int .i64 0, .slice none 0 0, .int .i64 0, .int .i64 0] 46)) := belA belR
       have b89 := alloc_wb W1 #[.int .i64 0, .int .i64 0, .slice none 0 0, .int .i64 0, .int .i64 0] 46
       have mv9 := Mov.below mv1 q9
       refine HardPost.mk (mv_of mv9) ?_
       generalize (World.alloc W1 (.cells #[.int .i64 0, .int .i64 0, .slice none 0 0, .int .i64 0, .int .i64 0] 46)) = W9 at *
       have hz9 := b89.lt
       refine wpU_two 8 14 rfl rfl (by kernel_rfl) ?tab0 ?tab1
       case tab0 =>
        go_wp2_with fail
        refine (specSyncStep _ _ r.sync s r.sync.waitUntil m _ (HPt.out.2.mov mv9 (.inl (by omega))).reads (HG.out.mov mv9 (.inl (by omega))).reads (by have := HSm.out.2.1; omega) (HSm.out.2.2.1.mono (by omega)) (by have := HSm.out.2.2.2.1; omega)).mono ?_
        rintro e W10 ⟨ds, dv, rfl, hf2, hm10⟩
        have mv10 := mv9.below hm10
        have hz10 := hm10.size
        have hfy := hf2.left
        have hfs := hf2.right
        have HQ2 := Lib.hid (HP.out.sync t r s m (by omega) HQ.out)
        obtain ⟨y2, hy2⟩ : ∃ y2, syncStepY r.sync s r.sync.waitUntil m = y2 := ⟨_, rfl⟩
        obtain ⟨s2, hs2⟩ : ∃ s2, syncStepS r.sync s r.sync.waitUntil m = s2 := ⟨_, rfl⟩
        rw [hy2] at hfy HQ2
        rw [hs2] at hfs HQ2
        clear hf2 hy2 hs2
        obtain ⟨e0, f0, rfl⟩ := DSync.fsh hfy
        obtain ⟨g1, h1, g2, h2, g3, h3, rfl⟩ := DServer.fsh hfs
        have b810 := b89.keep hm10
        go_wp2_with fail
        refine HardPost.mk (mv_of mv10) ?_
        refine wpU_group (fun _ _ _ _ _ h => h) (by kernel_rfl) (mv_of mv10) [9,10,11,12] _ _ _ rfl (by kernel_rfl) ?_
        repeat (go_big_quiet_step (fail))
        refine wpQuiet_nil ?_
        refine wpU_one 14 rfl (by kernel_rfl) ?_
        go_wp2_with fail
        have q11 : Below W10.heap.size W10 (World.alloc W10 (.cells #[.string ⟨#[]⟩, .slice none 0 0, .int .i64 0, .slice none 0 0, .slice none 0 0] 30)) := belA belR
        have b911 := alloc_wb W10 #[.string ⟨#[]⟩, .slice none 0 0, .int .i64 0, .slice none 0 0, .slice none 0 0] 30
        have mv11 := Mov.below mv10 q11
        have b811 := (b810).keep q11
        have aft11 := Below.trans belR (q11.mono (by first | exact Nat.le_refl _ | omega))
        refine HardPost.mk (mv_of mv11) ?_
        generalize (World.alloc W10 (.cells #[.string ⟨#[]⟩, .slice none 0 0, .int .i64 0, .slice none 0 0, .slice none 0 0] 30)) = W11 at *
        have hz11 := b911.lt
        have HK8 := Lib.hid b811
        have HK9 := Lib.hid b911
        have HS2 := Lib.hid (Off.below (Off.of (K := fun x => x < w.heap.size + 2 ∨ x = ks ∨ x = kr ∨ x = W1.heap.size ∨ x = W10.heap.size) hfs (fun x h1 h2 h3 => by omega)) aft11)
        have HY2 := Lib.hid (Off.below (Off.of (K := fun x => x < w.heap.size + 2 ∨ x = ks ∨ x = kr ∨ x = W1.heap.size ∨ x = W10.heap.size) hfy (fun x h1 h2 h3 => by omega)) aft11)
        have HB2 := Lib.hid ((HPt.out.1.more (K' := fun x => x < w.heap.size + 2 ∨ x = ks ∨ x = kr ∨ x = W1.heap.size ∨ x = W10.heap.size) (fun x h1 h2 => by omega)).mov mv11 (.inl (by omega)))
        replace HR := Lib.hid (HR.out.mov mv11 (by omega))
        replace HX := Lib.hid (HX.out.mov mv11 (by omega))
        replace HT := Lib.hid (HT.out.mov mv11 (by omega))
        replace HU := Lib.hid (HU.out.mov mv11 (by omega))
        replace HM := Lib.hid (HM.out.trans mv11)
        clear hfs hfy HF HG
        have ⟨c_HK8, z_HK8, f_HK8⟩ := HK8.out
        have ⟨c_HK9, z_HK9, f_HK9⟩ := HK9.out
        refine wpU_tail [15,16,17] _ _ _ _ rfl (by kernel_rfl) ?_
        go_wp2_with fail
        refine NoPanic.normal ?_
        clear c_HK8 z_HK8 f_HK8 c_HK9 z_HK9 f_HK9
        go_wp2_with fail
        go_meet
        exact ⟨W1.heap.size, W10.heap.size, y2, s2, e0, f0, g1, h1, g2, h2, g3, h3, rfl, rfl, HQ2.out, by omega, off5s (set5s HK8.out) (by omega), set5s (off5s HK9.out (by omega)), off5s (off5s HR.out (by omega)) (by omega), off5s (off5s HX.out (by omega)) (by omega), off5s (off5s HT.out (by omega)) (by omega), off5s (off5s HU.out (by omega)) (by omega), (Off.more (by repeat (first | with_reducible exact HB2.out | with_reducible refine Off.set ?_ (.inr (.inr (.inr (.inl rfl)))) | with_reducible refine Off.set ?_ (.inr (.inr (.inr (.inr rfl)))))) (K := fun x => x < w.heap.size + 2 ∨ x = ks ∨ x = kr ∨ x = W1.heap.size ∨ x = W10.heap.size) (fun x h1 h2 => by omega)), (Off.more (by repeat (first | with_reducible exact HY2.out | with_reducible refine Off.set ?_ (.inr (.inr (.inr (.inl rfl)))) | with_reducible refine Off.set ?_ (.inr (.inr (.inr (.inr rfl)))))) (K := fun x => x < w.heap.size + 2 ∨ x = ks ∨ x = kr ∨ x = W1.heap.size ∨ x = W10.heap.size) (fun x h1 h2 => by omega)), (Off.more (by repeat (first | with_reducible exact HS2.out | with_reducible refine Off.set ?_ (.inr (.inr (.inr (.inl rfl)))) | with_reducible refine Off.set ?_ (.inr (.inr (.inr (.inr rfl)))))) (K := fun x => x < w.heap.size + 2 ∨ x = ks ∨ x = kr ∨ x = W1.heap.size ∨ x = W10.heap.size) (fun x h1 h2 => by omega)), HM.out.low (B := w.heap.size) bEb (Nat.le_refl _) hk⟩
       case tab1 =>
        go_wp2_with fail
        have q13 : Below W9.heap.size W9 (World.alloc W9 (.cells #[.string ⟨#[]⟩, .slice none 0 0, .int .i64 0, .slice none 0 0, .slice none 0 0] 30)) := belA belR
        have b913 := alloc_wb W9 #[.string ⟨#[]⟩, .slice none 0 0, .int .i64 0, .slice none 0 0, .slice none 0 0] 30
        have mv13 := Mov.below mv9 q13
        have b813 := (b89).keep q13
        refine HardPost.mk (mv_of mv13) ?_
        generalize (World.alloc W9 (.cells #[.string ⟨#[]⟩, .slice none 0 0, .int .i64 0, .slice none 0 0, .slice none 0 0] 30)) = W13 at *
        have hz13 := b913.lt
        refine wpU_one 8 rfl (by kernel_rfl) ?_
        go_wp2_with fail
        refine (specSyncStep _ _ r.sync s r.sync.waitUntil m _ (HPt.out.2.mov mv13 (.inl (by omega))).reads (HG.out.mov mv13 (.inl (by omega))).reads (by have := HSm.out.2.1; omega) (HSm.out.2.2.1.mono (by omega)) (by have := HSm.out.2.2.2.1; omega)).mono ?_
        rintro e W14 ⟨ds, dv, rfl, hf2, hm14⟩
        have mv14 := mv13.below hm14
        have hz14 := hm14.size
        have hfy := hf2.left
        have hfs := hf2.right
        have HQ2 := Lib.hid (HP.out.sync t r s m (by omega) HQ.out)
        obtain ⟨y2, hy2⟩ : ∃ y2, syncStepY r.sync s r.sync.waitUntil m = y2 := ⟨_, rfl⟩
        obtain ⟨s2, hs2⟩ : ∃ s2, syncStepS r.sync s r.sync.waitUntil m = s2 := ⟨_, rfl⟩
        rw [hy2] at hfy HQ2
        rw [hs2] at hfs HQ2
        clear hf2 hy2 hs2
        obtain ⟨e0, f0, rfl⟩ := DSync.fsh hfy
        obtain ⟨g1, h1, g2, h2, g3, h3, rfl⟩ := DServer.fsh hfs
        have b814 := b813.keep hm14
        have b914 := b913.keep hm14
        go_wp2_with fail
        refine HardPost.mk (mv_of mv14) ?_
        refine wpU_group (fun _ _ _ _ _ h => h) (by kernel_rfl) (mv_of mv14) [9,10,11,12] _ _ _ rfl (by kernel_rfl) ?_
        repeat (go_big_quiet_step (fail))
        refine wpQuiet_nil ?_
        have HK8 := Lib.hid b814
        have HK9 := Lib.hid b914
        have HS2 := Lib.hid (Off.below (Off.of (K := fun x => x < w.heap.size + 2 ∨ x = ks ∨ x = kr ∨ x = W1.heap.size ∨ x = W9.heap.size) hfs (fun x h1 h2 h3 => by omega)) belR)
        have HY2 := Lib.hid (Off.below (Off.of (K := fun x => x < w.heap.size + 2 ∨ x = ks ∨ x = kr ∨ x = W1.heap.size ∨ x = W9.heap.size) hfy (fun x h1 h2 h3 => by omega)) belR)
        have HB2 := Lib.hid ((HPt.out.1.more (K' := fun x => x < w.heap.size + 2 ∨ x = ks ∨ x = kr ∨ x = W1.heap.size ∨ x = W9.heap.size) (fun x h1 h2 => by omega)).mov mv14 (.inl (by omega)))
        replace HR := Lib.hid (HR.out.mov mv14 (by omega))
        replace HX := Lib.hid (HX.out.mov mv14 (by omega))
        replace HT := Lib.hid (HT.out.mov mv14 (by omega))
        replace HU := Lib.hid (HU.out.mov mv14 (by omega))
        replace HM := Lib.hid (HM.out.trans mv14)
        clear hfs hfy HF HG
        have ⟨c_HK8, z_HK8, f_HK8⟩ := HK8.out
        have ⟨c_HK9, z_HK9, f_HK9⟩ := HK9.out
        refine wpU_tail [15,16,17] _ _ _ _ rfl (by kernel_rfl) ?_
        go_wp2_with fail
        refine NoPanic.normal ?_
        clear c_HK8 z_HK8 f_HK8 c_HK9 z_HK9 f_HK9
        go_wp2_with fail
        go_meet
        exact ⟨W1.heap.size, W9.heap.size, y2, s2, e0, f0, g1, h1, g2, h2, g3, h3, rfl, rfl, HQ2.out, by omega, off5s (set5s HK8.out) (by omega), set5s (off5s HK9.out (by omega)), off5s (off5s HR.out (by omega)) (by omega), off5s (off5s HX.out (by omega)) (by omega), off5s (off5s HT.out (by omega)) (by omega), off5s (off5s HU.out (by omega)) (by omega), (Off.more (by repeat (first | with_reducible exact HB2.out | with_reducible refine Off.set ?_ (.inr (.inr (.inr (.inl rfl)))) | with_reducible refine Off.set ?_ (.inr (.inr (.inr (.inr rfl)))))) (K := fun x => x < w.heap.size + 2 ∨ x = ks ∨ x = kr ∨ x = W1.heap.size ∨ x = W9.heap.size) (fun x h1 h2 => by omega)), (Off.more (by repeat (first | with_reducible exact HY2.out | with_reducible refine Off.set ?_ (.inr (.inr (.inr (.inl rfl)))) | with_reducible refine Off.set ?_ (.inr (.inr (.inr (.inr rfl)))))) (K := fun x => x < w.heap.size + 2 ∨ x = ks ∨ x = kr ∨ x = W1.heap.size ∨ x = W9.heap.size) (fun x h1 h2 => by omega)), (Off.more (by repeat (first | with_reducible exact HS2.out | with_reducible refine Off.set ?_ (.inr (.inr (.inr (.inl rfl)))) | with_reducible refine Off.set ?_ (.inr (.inr (.inr (.inr rfl)))))) (K := fun x => x < w.heap.size + 2 ∨ x = ks ∨ x = kr ∨ x = W1.heap.size ∨ x = W9.heap.size) (fun x h1 h2 => by omega)), HM.out.low (B := w.heap.size) bEb (Nat.le_refl _) hk⟩
      case ta2 =>
       go_wp2_with fail
       have q16 : Below W1.heap.size W1 (World.alloc W1 (.cells #[.string ⟨#[]⟩, .slice none 0 0, .int .i64 0, .slice none 0 0, .slice none 0 0] 30)) := belA belR
       have b916 := alloc_wb W1 #[.string ⟨#[]⟩, .slice none 0 0, .int .i64 0, .slice none 0 0, .slice none 0 0] 30
       have mv16 := Mov.below mv1 q16
       refine HardPost.mk (mv_of mv16) ?_
       generalize (World.alloc W1 (.cells #[.string ⟨#[]⟩, .slice none 0 0, .int .i64 0, .slice none 0 0, .slice none 0 0] 30)) = W16 at *
       have hz16 := b916.lt
       refine wpU_two 8 13 rfl rfl (by kernel_rfl) ?tac0 ?tac1
       case tac0 =>
        go_wp2_with fail
        refine (specSyncStep _ _ r.sync s r.sync.waitUntil m _ (HPt.out.2.mov mv16 (.inl (by omega))).reads (HG.out.mov mv16 (.inl (by omega))).reads (by have := HSm.out.2.1; omega) (HSm.out.2.2.1.mono (by omega)) (by have := HSm.out.2.2.2.1; omega)).mono ?_
        rintro e W17 ⟨ds, dv, rfl, hf2, hm17⟩
        have mv17 := mv16.below hm17
        have hz17 := hm17.size
        have hfy := hf2.left
        have hfs := hf2.right
        have HQ2 := Lib.hid (HP.out.sync t r s m (by omega) HQ.out)
        obtain ⟨y2, hy2⟩ : ∃ y2, syncStepY r.sync s r.sync.waitUntil m = y2 := ⟨_, rfl⟩
        obtain ⟨s2, hs2⟩ : ∃ s2, syncStepS r.sync s r.sync.waitUntil m = s2 := ⟨_, rfl⟩
        rw [hy2] at hfy HQ2
        rw [hs2] at hfs HQ2
        clear hf2 hy2 hs2
        obtain ⟨e0, f0, rfl⟩ := DSync.fsh hfy
        obtain ⟨g1, h1, g2, h2, g3, h3, rfl⟩ := DServer.fsh hfs
        have b917 := b916.keep hm17
        go_wp2_with fail
        refine HardPost.mk (mv_of mv17) ?_
        refine wpU_group (fun _ _ _ _ _ h => h) (by kernel_rfl) (mv_of mv17) [9,10,11,12] _ _ _ rfl (by kernel_rfl) ?_
        repeat (go_big_quiet_step (fail))
        refine wpQuiet_nil ?_
        refine wpU_one 13 rfl (by kernel_rfl) ?_
        go_wp2_with fail
        have q18 : Below W17.heap.size W17 (World.alloc W17 (.cells #[.int .i64 0, .int .i64 0, .slice none 0 0, .int .i64 0, .int .i64 0] 46)) := belA belR
        have b818 := alloc_wb W17 #[.int .i64 0, .int .i64 0, .slice none 0 0, .int .i64 0, .int .i64 0] 46
        have mv18 := Mov.below mv17 q18
        have b918 := (b917).keep q18
        have aft18 := Below.trans belR (q18.mono (by first | exact Nat.le_refl _ | omega))
        refine HardPost.mk (mv_of mv18) ?_
        generalize (World.alloc W17 (.cells #[.int .i64 0, .int .i64 0, .slice none 0 0, .int .i64 0, .int .i64 0] 46)) = W18 at *
        have hz18 := b818.lt
        have HK8 := Lib.hid b818
        have HK9 := Lib.hid b918
        have HS2 := Lib.hid (Off.below (Off.of (K := fun x => x < w.heap.size + 2 ∨ x = ks ∨ x = kr ∨ x = W17.heap.size ∨ x = W1.heap.size) hfs (fun x h1 h2 h3 => by omega)) aft18)
        have HY2 := Lib.hid (Off.below (Off.of (K := fun x => x < w.heap.size + 2 ∨ x = ks ∨ x = kr ∨ x = W17.heap.size ∨ x = W1.heap.size) hfy (fun x h1 h2 h3 => by omega)) aft18)
        have HB2 := Lib.hid ((HPt.out.1.more (K' := fun x => x < w.heap.size + 2 ∨ x = ks ∨ x = kr ∨ x = W17.heap.size ∨ x = W1.heap.size) (fun x h1 h2 => by omega)).mov mv18 (.inl (by omega)))
        replace HR := Lib.hid (HR.out.mov mv18 (by omega))
        replace HX := Lib.hid (HX.out.mov mv18 (by omega))
        replace HT := Lib.hid (HT.out.mov mv18 (by omega))
        replace HU := Lib.hid (HU.out.mov mv18 (by omega))
        replace HM := Lib.hid (HM.out.trans mv18)
        clear hfs hfy HF HG
        have ⟨c_HK8, z_HK8, f_HK8⟩ := HK8.out
        have ⟨c_HK9, z_HK9, f_HK9⟩ := HK9.out
        refine wpU_tail [15,16,17] _ _ _ _ rfl (by kernel_rfl) ?_
        go_wp2_with fail
        refine NoPanic.normal ?_
        clear c_HK8 z_HK8 f_HK8 c_HK9 z_HK9 f_HK9
        go_wp2_with fail
        go_meet
        exact ⟨W17.heap.size, W1.heap.size, y2, s2, e0, f0, g1, h1, g2, h2, g3, h3, rfl, rfl, HQ2.out, by omega, off5s (set5s HK8.out) (by omega), set5s (off5s HK9.out (by omega)), off5s (off5s HR.out (by omega)) (by omega), off5s (off5s HX.out (by omega)) (by omega), off5s (off5s HT.out (by omega)) (by omega), off5s (off5s HU.out (by omega)) (by omega), (Off.more (by repeat (first | with_reducible exact HB2.out | with_reducible refine Off.set ?_ (.inr (.inr (.inr (.inl rfl)))) | with_reducible refine Off.set ?_ (.inr (.inr (.inr (.inr rfl)))))) (K := fun x => x < w.heap.size + 2 ∨ x = ks ∨ x = kr ∨ x = W17.heap.size ∨ x = W1.heap.size) (fun x h1 h2 => by omega)), (Off.more (by repeat (first | with_reducible exact HY2.out | with_reducible refine Off.set ?_ (.inr (.inr (.inr (.inl rfl)))) | with_reducible refine Off.set ?_ (.inr (.inr (.inr (.inr rfl)))))) (K := fun x => x < w.heap.size + 2 ∨ x = ks ∨ x = kr ∨ x = W17.heap.size ∨ x = W1.heap.size) (fun x h1 h2 => by omega)), (Off.more (by repeat (first | with_reducible exact HS2.out | with_reducible refine Off.set ?_ (.inr (.inr (.inr (.inl rfl)))) | with_reducible refine Off.set ?_ (.inr (.inr (.inr (.inr rfl)))))) (K := fun x => x < w.heap.size + 2 ∨ x = ks ∨ x = kr ∨ x = W17.heap.size ∨ x = W1.heap.size) (fun x h1 h2 => by omega)), HM.out.low (B := w.heap.size) bEb (Nat.le_refl _) hk⟩
       case tac1 =>
        go_wp2_with fail
        have q20 : Below W16.heap.size W16 (World.alloc W16 (.cells #[.int .i64 0, .int .i64 0, .slice none 0 0, .int .i64 0, .int .i64 0] 46)) := belA belR
        have b820 := alloc_wb W16 #[.int .i64 0, .int .i64 0, .slice none 0 0, .int .i64 0, .int .i64 0] 46
        have mv20 := Mov.below mv16 q20
        have b920 := (b916).keep q20
        refine HardPost.mk (mv_of mv20) ?_
        generalize (World.alloc W16 (.cells #[.int .i64 0, .int .i64 0, .slice none 0 0, .int .i64 0, .int .i64 0] 46)) = W20 at *
        have hz20 := b820.lt
        refine wpU_one 8 rfl (by kernel_rfl) ?_
        go_wp2_with fail
        refine (specSyncStep _ _ r.sync s r.sync.waitUntil m _ (HPt.out.2.mov mv20 (.inl (by omega))).reads (HG.out.mov mv20 (.inl (by omega))).reads (by have := HSm.out.2.1; omega) (HSm.out.2.2.1.mono (by omega)) (by have := HSm.out.2.2.2.1; omega)).mono ?_
        rintro e W21 ⟨ds, dv, rfl, hf2, hm21⟩
        have mv21 := mv20.below hm21
        have hz21 := hm21.size
        have hfy := hf2.left
        have hfs := hf2.right
        have HQ2 := Lib.hid (HP.out.sync t r s m (by omega) HQ.out)
        obtain ⟨y2, hy2⟩ : ∃ y2, syncStepY r.sync s r.sync.waitUntil m = y2 := ⟨_, rfl⟩
        obtain ⟨s2, hs2⟩ : ∃ s2, syncStepS r.sync s r.sync.waitUntil m = s2 := ⟨_, rfl⟩
        rw [hy2] at hfy HQ2
        rw [hs2] at hfs HQ2
        clear hf2 hy2 hs2
        obtain ⟨e0, f0, rfl⟩ := DSync.fsh hfy
        obtain ⟨g1, h1, g2, h2, g3, h3, rfl⟩ := DServer.fsh hfs
        have b821 := b820.keep hm21
        have b921 := b920.keep hm21
        go_wp2_with fail
        refine HardPost.mk (mv_of mv21) ?_
        refine wpU_group (fun _ _ _ _ _ h => h) (by kernel_rfl) (mv_of mv21) [9,10,11,12] _ _ _ rfl (by kernel_rfl) ?_
        repeat (go_big_quiet_step (fail))
        refine wpQuiet_nil ?_
        have HK8 := Lib.hid b821
        have HK9 := Lib.hid b921
        have HS2 := Lib.hid (Off.below (Off.of (K := fun x => x < w.heap.size + 2 ∨ x = ks ∨ x = kr ∨ x = W16.heap.size ∨ x = W1.heap.size) hfs (fun x h1 h2 h3 => by omega)) belR)
        have HY2 := Lib.hid (Off.below (Off.of (K := fun x => x < w.heap.size + 2 ∨ x = ks ∨ x = kr ∨ x = W16.heap.size ∨ x = W1.heap.size) hfy (fun x h1 h2 h3 => by omega)) belR)
        have HB2 := Lib.hid ((HPt.out.1.more (K' := fun x => x < w.heap.size + 2 ∨ x = ks ∨ x = kr ∨ x = W16.heap.size ∨ x = W1.heap.size) (fun x h1 h2 => by omega)).mov mv21 (.inl (by omega)))
        replace HR := Lib.hid (HR.out.mov mv21 (by omega))
        replace HX := Lib.hid (HX.out.mov mv21 (by omega))
        replace HT := Lib.hid (HT.out.mov mv21 (by omega))
        replace HU := Lib.hid (HU.out.mov mv21 (by omega))
        replace HM := Lib.hid (HM.out.trans mv21)
        clear hfs hfy HF HG
        have ⟨c_HK8, z_HK8, f_HK8⟩ := HK8.out
        have ⟨c_HK9, z_HK9, f_HK9⟩ := HK9.out
        refine wpU_tail [15,16,17] _ _ _ _ rfl (by kernel_rfl) ?_
        go_wp2_with fail
        refine NoPanic.normal ?_
        clear c_HK8 z_HK8 f_HK8 c_HK9 z_HK9 f_HK9
        go_wp2_with fail
        go_meet
        exact ⟨W16.heap.size, W1.heap.size, y2, s2, e0, f0, g1, h1, g2, h2, g3, h3, rfl, rfl, HQ2.out, by omega, off5s (set5s HK8.out) (by omega), set5s (off5s HK9.out (by omega)), off5s (off5s HR.out (by omega)) (by omega), off5s (off5s HX.out (by omega)) (by omega), off5s (off5s HT.out (by omega)) (by omega), off5s (off5s HU.out (by omega)) (by omega), (Off.more (by repeat (first | with_reducible exact HB2.out | with_reducible refine Off.set ?_ (.inr (.inr (.inr (.inl rfl)))) | with_reducible refine Off.set ?_ (.inr (.inr (.inr (.inr rfl)))))) (K := fun x => x < w.heap.size + 2 ∨ x = ks ∨ x = kr ∨ x = W16.heap.size ∨ x = W1.heap.size) (fun x h1 h2 => by omega)), (Off.more (by repeat (first | with_reducible exact HY2.out | with_reducible refine Off.set ?_ (.inr (.inr (.inr (.inl rfl)))) | with_reducible refine Off.set ?_ (.inr (.inr (.inr (.inr rfl)))))) (K := fun x => x < w.heap.size + 2 ∨ x = ks ∨ x = kr ∨ x = W16.heap.size ∨ x = W1.heap.size) (fun x h1 h2 => by omega)), (Off.more (by repeat (first | with_reducible exact HS2.out | with_reducible refine Off.set ?_ (.inr (.inr (.inr (.inl rfl)))) | with_reducible refine Off.set ?_ (.inr (.inr (.inr (.inr rfl)))))) (K := fun x => x < w.heap.size + 2 ∨ x = ks ∨ x = kr ∨ x = W16.heap.size ∨ x = W1.heap.size) (fun x h1 h2 => by omega)), HM.out.low (B := w.heap.size) bEb (Nat.le_refl _) hk⟩
     case t1 =>
      go_wp2_with fail
      have q23 : Below wd.heap.size wd (World.alloc wd (.cells #[.int .i64 0, .int .i64 0, .slice none 0 0, .int .i64 0, .int .i64 0] 46)) := belA belR
      have b823 := alloc_wb wd #[.int .i64 0, .int .i64 0, .slice none 0 0, .int .i64 0, .int .i64 0] 46
      have mv23 := Mov.below mv0 q23
      refine HardPost.mk (mv_of mv23) ?_
      generalize (World.alloc wd (.cells #[.int .i64 0, .int .i64 0, .slice none 0 0, .int .i64 0, .int .i64 0] 46)) = W23 at *
      have hz23 := b823.lt
      refine wpU_two 7 14 rfl rfl (by kernel_rfl) ?tb0 ?tb1
      case tb0 =>
       go_wp2_with fail
       refine (specBelow k _ _ mv23.cur).mono ?_
       rintro e W24 ⟨m, rfl, _, _, hm24⟩
       have mv24 := mv23.trans hm24
       have hz24 := hm24.size
       have b824 := b823.mov hm24 (by omega)
       go_wp2_with fail
       refine HardPost.mk (mv_of mv24) ?_
       refine wpU_two 8 14 rfl rfl (by kernel_rfl) ?tba0 ?tba1
       case tba0 =>
        go_wp2_with fail
        refine (specSyncStep _ _ r.sync s r.sync.waitUntil m _ (HPt.out.2.mov mv24 (.inl (by omega))).reads (HG.out.mov mv24 (.inl (by omega))).reads (by have := HSm.out.2.1; omega) (HSm.out.2.2.1.mono (by omega)) (by have := HSm.out.2.2.2.1; omega)).mono ?_
        rintro e W25 ⟨ds, dv, rfl, hf2, hm25⟩
        have mv25 := mv24.below hm25
        have hz25 := hm25.size
        have hfy := hf2.left
        have hfs := hf2.right
        have HQ2 := Lib.hid (HP.out.sync t r s m (by omega) HQ.out)
        obtain ⟨y2, hy2⟩ : ∃ y2, syncStepY r.sync s r.sync.waitUntil m = y2 := ⟨_, rfl⟩
        obtain ⟨s2, hs2⟩ : ∃ s2, syncStepS r.sync s r.sync.waitUntil m = s2 := ⟨_, rfl⟩
        rw [hy2] at hfy HQ2
        rw [hs2] at hfs HQ2
        clear hf2 hy2 hs2
        obtain ⟨e0, f0, rfl⟩ := DSync.fsh hfy
        obtain ⟨g1, h1, g2, h2, g3, h3, rfl⟩ := DServer.fsh hfs
        have b825 := b824.keep hm25
        go_wp2_with fail
        refine HardPost.mk (mv_of mv25) ?_
        refine wpU_group (fun _ _ _ _ _ h => h) (by kernel_rfl) (mv_of mv25) [9,10,11,12] _ _ _ rfl (by kernel_rfl) ?_
        repeat (go_big_quiet_step (fail))
        refine wpQuiet_nil ?_
        refine wpU_one 14 rfl (by kernel_rfl) ?_
        go_wp2_with fail
        have q26 : Below W25.heap.size W25 (World.alloc W25 (.cells #[.string ⟨#[]⟩, .slice none 0 0, .int .i64 0, .slice none 0 0, .slice none 0 0] 30)) := belA belR
        have b926 := alloc_wb W25 #[.string ⟨#[]⟩, .slice none 0 0, .int .i64 0, .slice none 0 0, .slice none 0 0] 30
        have mv26 := Mov.below mv25 q26
        have b826 := (b825).keep q26
        have aft26 := Below.trans belR (q26.mono (by first | exact Nat.le_refl _ | omega))
        refine HardPost.mk (mv_of mv26) ?_
        generalize (World.alloc W25 (.cells #[.string ⟨#[]⟩, .slice none 0 0, .int .i64 0, .slice none 0 0, .slice none 0 0] 30)) = W26 at *
        have hz26 := b926.lt
        have HK8 := Lib.hid b826
        have HK9 := Lib.hid b926
        have HS2 := Lib.hid (Off.below (Off.of (K := fun x => x < w.heap.size + 2 ∨ x = ks ∨ x = kr ∨ x = wd.heap.size ∨ x = W25.heap.size) hfs (fun x h1 h2 h3 => by omega)) aft26)
        have HY2 := Lib.hid (Off.below (Off.of (K := fun x => x < w.heap.size + 2 ∨ x = ks ∨ x = kr ∨ x = wd.heap.size ∨ x = W25.heap.size) hfy (fun x h1 h2 h3 => by omega)) aft26)
        have HB2 := Lib.hid ((HPt.out.1.more (K' := fun x => x < w.heap.size + 2 ∨ x = ks ∨ x = kr ∨ x = wd.heap.size ∨ x = W25.heap.size) (fun x h1 h2 => by omega)).mov mv26 (.inl (by omega)))
        replace HR := Lib.hid (HR.out.mov mv26 (by omega))
        replace HX := Lib.hid (HX.out.mov mv26 (by omega))
        replace HT := Lib.hid (HT.out.mov mv26 (by omega))
        replace HU := Lib.hid (HU.out.mov mv26 (by omega))
        replace HM := Lib.hid (HM.out.trans mv26)
        clear hfs hfy HF HG
        have ⟨c_HK8, z_HK8, f_HK8⟩ := HK8.out
        have ⟨c_HK9, z_HK9, f_HK9⟩ := HK9.out
        refine wpU_tail [15,16,17] _ _ _ _ rfl (by kernel_rfl) ?_
        go_wp2_with fail
        refine NoPanic.normal ?_
        clear c_HK8 z_HK8 f_HK8 c_HK9 z_HK9 f_HK9
        go_wp2_with fail
        go_meet
        exact ⟨wd.heap.size, W25.heap.size, y2, s2, e0, f0, g1, h1, g2, h2, g3, h3, rfl, rfl, HQ2.out, by omega, off5s (set5s HK8.out) (by omega), set5s (off5s HK9.out (by omega)), off5s (off5s HR.out (by omega)) (by omega), off5s (off5s HX.out (by omega)) (by omega), off5s (off5s HT.out (by omega)) (by omega), off5s (off5s HU.out (by omega)) (by omega), (Off.more (by repeat (first | with_reducible exact HB2.out | with_reducible refine Off.set ?_ (.inr (.inr (.inr (.inl rfl)))) | with_reducible refine Off.set ?_ (.inr (.inr (.inr (.inr rfl)))))) (K := fun x => x < w.heap.size + 2 ∨ x = ks ∨ x = kr ∨ x = wd.heap.size ∨ x = W25.heap.size) (fun x h1 h2 => by omega)), (Off.more (by repeat (first | with_reducible exact HY2.out | with_reducible refine Off.set ?_ (.inr (.inr (.inr (.inl rfl)))) | with_reducible refine Off.set ?_ (.inr (.inr (.inr (.inr rfl)))))) (K := fun x => x < w.heap.size + 2 ∨ x = ks ∨ x = kr ∨ x = wd.heap.size ∨ x = W25.heap.size) (fun x h1 h2 => by omega)), (Off.more (by repeat (first | with_reducible exact HS2.out | with_reducible refine Off.set ?_ (.inr (.inr (.inr (.inl rfl)))) | with_reducible refine Off.set ?_ (.inr (.inr (.inr (.inr rfl)))))) (K := fun x => x < w.heap.size + 2 ∨ x = ks ∨ x = kr ∨ x = wd.heap.size ∨ x = W25.heap.size) (fun x h1 h2 => by omega)), HM.out.low (B := w.heap.size) bEb (Nat.le_refl _) hk⟩
       case tba1 =>
        go_wp2_with fail
        have q28 : Below W24.heap.size W24 (World.alloc W24 (.cells #[.string ⟨#[]⟩, .slice none 0 0, .int .i64 0, .slice none 0 0, .slice none 0 0] 30)) := belA belR
        have b928 := alloc_wb W24 #[.string ⟨#[]⟩, .slice none 0 0, .int .i64 0, .slice none 0 0, .slice none 0 0] 30
        have mv28 := Mov.below mv24 q28
        have b828 := (b824).keep q28
        refine HardPost.mk (mv_of mv28) ?_
        generalize (World.alloc W24 (.cells #[.string ⟨#[]⟩, .slice none 0 0, .int .i64 0, .slice none 0 0, .slice none 0 0] 30)) = W28 at *
        have hz28 := b928.lt
        refine wpU_one 8 rfl (by kernel_rfl) ?_
        go_wp2_with fail
        refine (specSyncStep _ _ r.sync s r.sync.waitUntil m _ (HPt.out.2.mov mv28 (.inl (by omega))).reads (HG.out.mov mv28 (.inl (by omega))).reads (by have := HSm.out.2.1; omega) (HSm.out.2.2.1.mono (by omega)) (by have := HSm.out.2.2.2.1; omega)).mono ?_
        rintro e W29 ⟨ds, dv, rfl, hf2, hm29⟩
        have mv29 := mv28.below hm29
        have hz29 := hm29.size
        have hfy := hf2.left
        have hfs := hf2.right
        have HQ2 := Lib.hid (HP.out.sync t r s m (by omega) HQ.out)
        obtain ⟨y2, hy2⟩ : ∃ y2, syncStepY r.sync s r.sync.waitUntil m = y2 := ⟨_, rfl⟩
        obtain ⟨s2, hs2⟩ : ∃ s2, syncStepS r.sync s r.sync.waitUntil m = s2 := ⟨_, rfl⟩
        rw [hy2] at hfy HQ2
        rw [hs2] at hfs HQ2
        clear hf2 hy2 hs2
        obtain ⟨e0, f0, rfl⟩ := DSync.fsh hfy
        obtain ⟨g1, h1, g2, h2, g3, h3, rfl⟩ := DServer.fsh hfs
        have b829 := b828.keep hm29
        have b929 := b928.keep hm29
        go_wp2_with fail
        refine HardPost.mk (mv_of mv29) ?_
        refine wpU_group (fun _ _ _ _ _ h => h) (by kernel_rfl) (mv_of mv29) [9,10,11,12] _ _ _ rfl (by kernel_rfl) ?_
        repeat (go_big_quiet_step (fail))
        refine wpQuiet_nil ?_
        have HK8 := Lib.hid b829
        have HK9 := Lib.hid b929
        have HS2 := Lib.hid (Off.below (Off.of (K := fun x => x < w.heap.size + 2 ∨ x = ks ∨ x = kr ∨ x = wd.heap.size ∨ x = W24.heap.size) hfs (fun x h1 h2 h3 => by omega)) belR)
        have HY2 := Lib.hid (Off.below (Off.of (K := fun x => x < w.heap.size + 2 ∨ x = ks ∨ x = kr ∨ x = wd.heap.size ∨ x = W24.heap.size) hfy (fun x h1 h2 h3 => by omega)) belR)
        have HB2 := Lib.hid ((HPt.out.1.more (K' := fun x => x < w.heap.size + 2 ∨ x = ks ∨ x = kr ∨ x = wd.heap.size ∨ x = W24.heap.size) (fun x h1 h2 => by omega)).mov mv29 (.inl (by omega)))
        replace HR := Lib.hid (HR.out.mov mv29 (by omega))
        replace HX := Lib.hid (HX.out.mov mv29 (by omega))
        replace HT := Lib.hid (HT.out.mov mv29 (by omega))
        replace HU := Lib.hid (HU.out.mov mv29 (by omega))
        replace HM := Lib.hid (HM.out.trans mv29)
        clear hfs hfy HF HG
        have ⟨c_HK8, z_HK8, f_HK8⟩ := HK8.out
        have ⟨c_HK9, z_HK9, f_HK9⟩ := HK9.out
        refine wpU_tail [15,16,17] _ _ _ _ rfl (by kernel_rfl) ?_
        go_wp2_with fail
        refine NoPanic.normal ?_
        clear c_HK8 z_HK8 f_HK8 c_HK9 z_HK9 f_HK9
        go_wp2_with fail
        go_meet
        exact ⟨wd.heap.size, W24.heap.size, y2, s2, e0, f0, g1, h1, g2, h2, g3, h3, rfl, rfl, HQ2.out, by omega, off5s (set5s HK8.out) (by omega), set5s (off5s HK9.out (by omega)), off5s (off5s HR.out (by omega)) (by omega), off5s (off5s HX.out (by omega)) (by omega), off5s (off5s HT.out (by omega)) (by omega), off5s (off5s HU.out (by omega)) (by omega), (Off.more (by repeat (first | with_reducible exact HB2.out | with_reducible refine Off.set ?_ (.inr (.inr (.inr (.inl rfl)))) | with_reducible refine Off.set ?_ (.inr (.inr (.inr (.inr rfl)))))) (K := fun x => x < w.heap.size + 2 ∨ x = ks ∨ x = kr ∨ x = wd.heap.size ∨ x = W24.heap.size) (fun x h1 h2 => by omega)), (Off.more (by repeat (first | with_reducible exact HY2.out | with_reducible refine Off.set ?_ (.inr (.inr (.inr (.inl rfl)))) | with_reducible refine Off.set ?_ (.inr (.inr (.inr (.inr rfl)))))) (K := fun x => x < w.heap.size + 2 ∨ x = ks ∨ x = kr ∨ x = wd.heap.size ∨ x = W24.heap.size) (fun x h1 h2 => by omega)), (Off.more (by repeat (first | with_reducible exact HS2.out | with_reducible refine Off.set ?_ (.inr (.inr (.inr (.inl rfl)))) | with_reducible refine Off.set ?_ (.inr (.inr (.inr (.inr rfl)))))) (K := fun x => x < w.heap.size + 2 ∨ x = ks ∨ x = kr ∨ x = wd.heap.size ∨ x = W24.heap.size) (fun x h1 h2 => by omega)), HM.out.low (B := w.heap.size) bEb (Nat.le_refl _) hk⟩
      case tb1 =>
       go_wp2_with fail
       have q31 : Below W23.heap.size W23 (World.alloc W23 (.cells #[.string ⟨#[]⟩, .slice none 0 0, .int .i64 0, .slice none 0 0, .slice none 0 0] 30)) := belA belR
       have b931 := alloc_wb W23 #[.string ⟨#[]⟩, .slice none 0 0, .int .i64 0, .slice none 0 0, .slice none 0 0] 30
       have mv31 := Mov.below mv23 q31
       have b831 := (b823).keep q31
       refine HardPost.mk (mv_of mv31) ?_
       generalize (World.alloc W23 (.cells #[.string ⟨#[]⟩, .slice none 0 0, .int .i64 0, .slice none 0 0, .slice none 0 0] 30)) = W31 at *
       have hz31 := b931.lt
       refine wpU_one 7 rfl (by kernel_rfl) ?_
       go_wp2_with fail
       refine (specBelow k _ _ mv31.cur).mono ?_
       rintro e W32 ⟨m, rfl, _, _, hm32⟩
       have mv32 := mv31.trans hm32
       have hz32 := hm32.size
       have b832 := b831.mov hm32 (by omega)
       have b932 := b931.mov hm32 (by omega)
       go_wp2_with fail
       refine HardPost.mk (mv_of mv32) ?_
       refine wpU_one 8 rfl (by kernel_rfl) ?_
       go_wp2_with fail
       refine (specSyncStep _ _ r.sync s r.sync.waitUntil m _ (HPt.out.2.mov mv32 (.inl (by omega))).reads (HG.out.mov mv32 (.inl (by omega))).reads (by have := HSm.out.2.1; omega) (HSm.out.2.2.1.mono (by omega)) (by have := HSm.out.2.2.2.1; omega)).mono ?_
       rintro e W33 ⟨ds, dv, rfl, hf2, hm33⟩
       have mv33 := mv32.below hm33
       have hz33 := hm33.size
       have hfy := hf2.left
       have hfs := hf2.right
       have HQ2 := Lib.hid (HP.out.sync t r s m (by omega) HQ.out)
       obtain ⟨y2, hy2⟩ : ∃ y2, syncStepY r.sync s r.sync.waitUntil m = y2 := ⟨_, rfl⟩
       obtain ⟨s2, hs2⟩ : ∃ s2, syncStepS r.sync s r.sync.waitUntil m = s2 := ⟨_, rfl⟩
       rw [hy2] at hfy HQ2
       rw [hs2] at hfs HQ2
       clear hf2 hy2 hs2
       obtain ⟨e0, f0, rfl⟩ := DSync.fsh hfy
       obtain ⟨g1, h1, g2, h2, g3, h3, rfl⟩ := DServer.fsh hfs
       have b833 := b832.keep hm33
       have b933 := b932.keep hm33
       go_wp2_with fail
       refine HardPost.mk (mv_of mv33) ?_
       refine wpU_group (fun _ _ _ _ _ h => h) (by kernel_rfl) (mv_of mv33) [9,10,11,12] _ _ _ rfl (by kernel_rfl) ?_
       repeat (go_big_quiet_step (fail))
       refine wpQuiet_nil ?_
       have HK8 := Lib.hid b833
       have HK9 := Lib.hid b933
       have HS2 := Lib.hid (Off.below (Off.of (K := fun x => x < w.heap.size + 2 ∨ x = ks ∨ x = kr ∨ x = wd.heap.size ∨ x = W23.heap.size) hfs (fun x h1 h2 h3 => by omega)) belR)
       have HY2 := Lib.hid (Off.below (Off.of (K := fun x => x < w.heap.size + 2 ∨ x = ks ∨ x = kr ∨ x = wd.heap.size ∨ x = W23.heap.size) hfy (fun x h1 h2 h3 => by omega)) belR)
       have HB2 := Lib.hid ((HPt.out.1.more (K' := fun x => x < w.heap.size + 2 ∨ x = ks ∨ x = kr ∨ x = wd.heap.size ∨ x = W23.heap.size) (fun x h1 h2 => by omega)).mov mv33 (.inl (by omega)))
       replace HR := Lib.hid (HR.out.mov mv33 (by omega))
       replace HX := Lib.hid (HX.out.mov mv33 (by omega))
       replace HT := Lib.hid (HT.out.mov mv33 (by omega))
       replace HU := Lib.hid (HU.out.mov mv33 (by omega))
       replace HM := Lib.hid (HM.out.trans mv33)
       clear hfs hfy HF HG
       have ⟨c_HK8, z_HK8, f_HK8⟩ := HK8.out
       have ⟨c_HK9, z_HK9, f_HK9⟩ := HK9.out
       refine wpU_tail [15,16,17] _ _ _ _ rfl (by kernel_rfl) ?_
       go_wp2_with fail
       refine NoPanic.normal ?_
       clear c_HK8 z_HK8 f_HK8 c_HK9 z_HK9 f_HK9
       go_wp2_with fail
       go_meet
       exact ⟨wd.heap.size, W23.heap.size, y2, s2, e0, f0, g1, h1, g2, h2, g3, h3, rfl, rfl, HQ2.out, by omega, off5s (set5s HK8.out) (by omega), set5s (off5s HK9.out (by omega)), off5s (off5s HR.out (by omega)) (by omega), off5s (off5s HX.out (by omega)) (by omega), off5s (off5s HT.out (by omega)) (by omega), off5s (off5s HU.out (by omega)) (by omega), (Off.more (by repeat (first | with_reducible exact HB2.out | with_reducible refine Off.set ?_ (.inr (.inr (.inr (.inl rfl)))) | with_reducible refine Off.set ?_ (.inr (.inr (.inr (.inr rfl)))))) (K := fun x => x < w.heap.size + 2 ∨ x = ks ∨ x = kr ∨ x = wd.heap.size ∨ x = W23.heap.size) (fun x h1 h2 => by omega)), (Off.more (by repeat (first | with_reducible exact HY2.out | with_reducible refine Off.set ?_ (.inr (.inr (.inr (.inl rfl)))) | with_reducible refine Off.set ?_ (.inr (.inr (.inr (.inr rfl)))))) (K := fun x => x < w.heap.size + 2 ∨ x = ks ∨ x = kr ∨ x = wd.heap.size ∨ x = W23.heap.size) (fun x h1 h2 => by omega)), (Off.more (by repeat (first | with_reducible exact HS2.out | with_reducible refine Off.set ?_ (.inr (.inr (.inr (.inl rfl)))) | with_reducible refine Off.set ?_ (.inr (.inr (.inr (.inr rfl)))))) (K := fun x => x < w.heap.size + 2 ∨ x = ks ∨ x = kr ∨ x = wd.heap.size ∨ x = W23.heap.size) (fun x h1 h2 => by omega)), HM.out.low (B := w.heap.size) bEb (Nat.le_refl _) hk⟩
     case t2 =>
      go_wp2_with fail
      have q35 : Below wd.heap.size wd (World.alloc wd (.cells #[.string ⟨#[]⟩, .slice none 0 0, .int .i64 0, .slice none 0 0, .slice none 0 0] 30)) := belA belR
      have b935 := alloc_wb wd #[.string ⟨#[]⟩, .slice none 0 0, .int .i64 0, .slice none 0 0, .slice none 0 0] 30
      have mv35 := Mov.below mv0 q35
      refine HardPost.mk (mv_of mv35) ?_
      generalize (World.alloc wd (.cells #[.string ⟨#[]⟩, .slice none 0 0, .int .i64 0, .slice none 0 0, .slice none 0 0] 30)) = W35 at *
      have hz35 := b935.lt
      refine wpU_two 7 13 rfl rfl (by kernel_rfl) ?tc0 ?tc1
      case tc0 =>
       go_wp2_with fail
       refine (specBelow k _ _ mv35.cur).mono ?_
       rintro e W36 ⟨m, rfl, _, _, hm36⟩
       have mv36 := mv35.trans hm36
       have hz36 := hm36.size
       have b936 := b935.mov hm36 (by omega)
       go_wp2_with fail
       refine HardPost.mk (mv_of mv36) ?_
       refine wpU_two 8 13 rfl rfl (by kernel_rfl) ?tca0 ?tca1
       case tca0 =>
        go_wp2_with fail
        refine (specSyncStep _ _ r.sync s r.sync.waitUntil m _ (HPt.out.2.mov mv36 (.inl (by omega))).reads (HG.out.mov mv36 (.inl (by omega))).reads (by have := HSm.out.2.1; omega) (HSm.out.2.2.1.mono (by omega)) (by have := HSm.out.2.2.2.1; omega)).mono ?_
        rintro e W37 ⟨ds, dv, rfl, hf2, hm37⟩
        have mv37 := mv36.below hm37
        have hz37 := hm37.size
        have hfy := hf2.left
        have hfs := hf2.right
        have HQ2 := Lib.hid (HP.out.sync t r s m (by omega) HQ.out)
        obtain ⟨y2, hy2⟩ : ∃ y2, syncStepY r.sync s r.sync.waitUntil m = y2 := ⟨_, rfl⟩
        obtain ⟨s2, hs2⟩ : ∃ s2, syncStepS r.sync s r.sync.waitUntil m = s2 := ⟨_, rfl⟩
        rw [hy2] at hfy HQ2
        rw [hs2] at hfs HQ2
        clear hf2 hy2 hs2
        obtain ⟨e0, f0, rfl⟩ := DSync.fsh hfy
        obtain ⟨g1, h1, g2, h2, g3, h3, rfl⟩ := DServer.fsh hfs
        have b937 := b936.keep hm37
        go_wp2_with fail
        refine HardPost.mk (mv_of mv37) ?_
        refine wpU_group (fun _ _ _ _ _ h => h) (by kernel_rfl) (mv_of mv37) [9,10,11,12] _ _ _ rfl (by kernel_rfl) ?_
        repeat (go_big_quiet_step (fail))
        refine wpQuiet_nil ?_
        refine wpU_one 13 rfl (by kernel_rfl) ?_
        go_wp2_with fail
        have q38 : Below W37.heap.size W37 (World.alloc W37 (.cells #[.int .i64 0, .int .i64 0, .slice none 0 0, .int .i64 0, .int .i64 0] 46)) := belA belR
        have b838 := alloc_wb W37 #[.int .i64 0, .int .i64 0, .slice none 0 0, .int .i64 0, .int .i64 0] 46
        have mv38 := Mov.below mv37 q38
        have b938 := (b937).keep q38
        have aft38 := Below.trans belR (q38.mono (by first | exact Nat.le_refl _ | omega))
        refine HardPost.mk (mv_of mv38) ?_
        generalize (World.alloc W37 (.cells #[.int .i64 0, .int .i64 0, .slice none 0 0, .int .i64 0, .int .i64 0] 46)) = W38 at *
        have hz38 := b838.lt
        have HK8 := Lib.hid b838
        have HK9 := Lib.hid b938
        have HS2 := Lib.hid (Off.below (Off.of (K := fun x => x < w.heap.size + 2 ∨ x = ks ∨ x = kr ∨ x = W37.heap.size ∨ x = wd.heap.size) hfs (fun x h1 h2 h3 => by omega)) aft38)
        have HY2 := Lib.hid (Off.below (Off.of (K := fun x => x < w.heap.size + 2 ∨ x = ks ∨ x = kr ∨ x = W37.heap.size ∨ x = wd.heap.size) hfy (fun x h1 h2 h3 => by omega)) aft38)
        have HB2 := Lib.hid ((HPt.out.1.more (K' := fun x => x < w.heap.size + 2 ∨ x = ks ∨ x = kr ∨ x = W37.heap.size ∨ x = wd.heap.size) (fun x h1 h2 => by omega)).mov mv38 (.inl (by omega)))
        replace HR := Lib.hid (HR.out.mov mv38 (by omega))
        replace HX := Lib.hid (HX.out.mov mv38 (by omega))
        replace HT := Lib.hid (HT.out.mov mv38 (by omega))
        replace HU := Lib.hid (HU.out.mov mv38 (by omega))
        replace HM := Lib.hid (HM.out.trans mv38)
        clear hfs hfy HF HG
        have ⟨c_HK8, z_HK8, f_HK8⟩ := HK8.out
        have ⟨c_HK9, z_HK9, f_HK9⟩ := HK9.out
        refine wpU_tail [15,16,17] _ _ _ _ rfl (by kernel_rfl) ?_
        go_wp2_with fail
        refine NoPanic.normal ?_
        clear c_HK8 z_HK8 f_HK8 c_HK9 z_HK9 f_HK9
        go_wp2_with fail
        go_meet
        exact ⟨W37.heap.size, wd.heap.size, y2, s2, e0, f0, g1, h1, g2, h2, g3, h3, rfl, rfl, HQ2.out, by omega, off5s (set5s HK8.out) (by omega), set5s (off5s HK9.out (by omega)), off5s (off5s HR.out (by omega)) (by omega), off5s (off5s HX.out (by omega)) (by omega), off5s (off5s HT.out (by omega)) (by omega), off5s (off5s HU.out (by omega)) (by omega), (Off.more (by repeat (first | with_reducible exact HB2.out | with_reducible refine Off.set ?_ (.inr (.inr (.inr (.inl rfl)))) | with_reducible refine Off.set ?_ (.inr (.inr (.inr (.inr rfl)))))) (K := fun x => x < w.heap.size + 2 ∨ x = ks ∨ x = kr ∨ x = W37.heap.size ∨ x = wd.heap.size) (fun x h1 h2 => by omega)), (Off.more (by repeat (first | with_reducible exact HY2.out | with_reducible refine Off.set ?_ (.inr (.inr (.inr (.inl rfl)))) | with_reducible refine Off.set ?_ (.inr (.inr (.inr (.inr rfl)))))) (K := fun x => x < w.heap.size + 2 ∨ x = ks ∨ x = kr ∨ x = W37.heap.size ∨ x = wd.heap.size) (fun x h1 h2 => by omega)), (Off.more (by repeat (first | with_reducible exact HS2.out | with_reducible refine Off.set ?_ (.inr (.inr (.inr (.inl rfl)))) | with_reducible refine Off.set ?_ (.inr (.inr (.inr (.inr rfl)))))) (K := fun x => x < w.heap.size + 2 ∨ x = ks ∨ x = kr ∨ x = W37.heap.size ∨ x = wd.heap.size) (fun x h1 h2 => by omega)), HM.out.low (B := w.heap.size) bEb (Nat.le_refl _) hk⟩
       case tca1 =>
        go_wp2_with fail
        have q40 : Below W36.heap.size W36 (World.alloc W36 (.cells #[.int .i64 0, .int .i64 0, .slice none 0 0, .int .i64 0, .int .i64 0] 46)) := belA belR
        have b840 := alloc_wb W36 #[.int .i64 0, .int .i64 0, .slice none 0 0, .int .i64 0, .int .i64 0] 46
        have mv40 := Mov.below mv36 q40
        have b940 := (b936).keep q40
        refine HardPost.mk (mv_of mv40) ?_
        generalize (World.alloc W36 (.cells #[.int .i64 0, .int .i64 0, .slice none 0 0, .int .i64 0, .int .i64 0] 46)) = W40 at *
        have hz40 := b840.lt
        refine wpU_one 8 rfl (by kernel_rfl) ?_
        go_wp2_with fail
        refine (specSyncStep _ _ r.sync s r.sync.waitUntil m _ (HPt.out.2.mov mv40 (.inl (by omega))).reads (HG.out.mov mv40 (.inl (by omega))).reads (by have := HSm.out.2.1; omega) (HSm.out.2.2.1.mono (by omega)) (by have := HSm.out.2.2.2.1; omega)).mono ?_
        rintro e W41 ⟨ds, dv, rfl, hf2, hm41⟩
        have mv41 := mv40.below hm41
        have hz41 := hm41.size
        have hfy := hf2.left
        have hfs := hf2.right
        have HQ2 := Lib.hid (HP.out.sync t r s m (by omega) HQ.out)
        obtain ⟨y2, hy2⟩ : ∃ y2, syncStepY r.sync s r.sync.waitUntil m = y2 := ⟨_, rfl⟩
        obtain ⟨s2, hs2⟩ : ∃ s2, syncStepS r.sync s r.sync.waitUntil m = s2 := ⟨_, rfl⟩
        rw [hy2] at hfy HQ2
        rw [hs2] at hfs HQ2
        clear hf2 hy2 hs2
        obtain ⟨e0, f0, rfl⟩ := DSync.fsh hfy
        obtain ⟨g1, h1, g2, h2, g3, h3, rfl⟩ := DServer.fsh hfs
        have b841 := b840.keep hm41
        have b941 := b940.keep hm41
        go_wp2_with fail
        refine HardPost.mk (mv_of mv41) ?_
        refine wpU_group (fun _ _ _ _ _ h => h) (by kernel_rfl) (mv_of mv41) [9,10,11,12] _ _ _ rfl (by kernel_rfl) ?_
        repeat (go_big_quiet_step (fail))
        refine wpQuiet_nil ?_
        have HK8 := Lib.hid b841
        have HK9 := Lib.hid b941
        have HS2 := Lib.hid (Off.below (Off.of (K := fun x => x < w.heap.size + 2 ∨ x = ks ∨ x = kr ∨ x = W36.heap.size ∨ x = wd.heap.size) hfs (fun x h1 h2 h3 => by omega)) belR)
        have HY2 := Lib.hid (Off.below (Off.of (K := fun x => x < w.heap.size + 2 ∨ x = ks ∨ x = kr ∨ x = W36.heap.size ∨ x = wd.heap.size) hfy (fun x h1 h2 h3 => by omega)) belR)
        have HB2 := Lib.hid ((HPt.out.1.more (K' := fun x => x < w.heap.size + 2 ∨ x = ks ∨ x = kr ∨ x = W36.heap.size ∨ x = wd.heap.size) (fun x h1 h2 => by omega)).mov mv41 (.inl (by omega)))
        replace HR := Lib.hid (HR.out.mov mv41 (by omega))
        replace HX := Lib.hid (HX.out.mov mv41 (by omega))
        replace HT := Lib.hid (HT.out.mov mv41 (by omega))
        replace HU := Lib.hid (HU.out.mov mv41 (by omega))
        replace HM := Lib.hid (HM.out.trans mv41)
        clear hfs hfy HF HG
        have ⟨c_HK8, z_HK8, f_HK8⟩ := HK8.out
        have ⟨c_HK9, z_HK9, f_HK9⟩ := HK9.out
        refine wpU_tail [15,16,17] _ _ _ _ rfl (by kernel_rfl) ?_
        go_wp2_with fail
        refine NoPanic.normal ?_
        clear c_HK8 z_HK8 f_HK8 c_HK9 z_HK9 f_HK9
        go_wp2_with fail
        go_meet
        exact ⟨W36.heap.size, wd.heap.size, y2, s2, e0, f0, g1, h1, g2, h2, g3, h3, rfl, rfl, HQ2.out, by omega, off5s (set5s HK8.out) (by omega), set5s (off5s HK9.out (by omega)), off5s (off5s HR.out (by omega)) (by omega), off5s (off5s HX.out (by omega)) (by omega), off5s (off5s HT.out (by omega)) (by omega), off5s (off5s HU.out (by omega)) (by omega), (Off.more (by repeat (first | with_reducible exact HB2.out | with_reducible refine Off.set ?_ (.inr (.inr (.inr (.inl rfl)))) | with_reducible refine Off.set ?_ (.inr (.inr (.inr (.inr rfl)))))) (K := fun x => x < w.heap.size + 2 ∨ x = ks ∨ x = kr ∨ x = W36.heap.size ∨ x = wd.heap.size) (fun x h1 h2 => by omega)), (Off.more (by repeat (first | with_reducible exact HY2.out | with_reducible refine Off.set ?_ (.inr (.inr (.inr (.inl rfl)))) | with_reducible refine Off.set ?_ (.inr (.inr (.inr (.inr rfl)))))) (K := fun x => x < w.heap.size + 2 ∨ x = ks ∨ x = kr ∨ x = W36.heap.size ∨ x = wd.heap.size) (fun x h1 h2 => by omega)), (Off.more (by repeat (first | with_reducible exact HS2.out | with_reducible refine Off.set ?_ (.inr (.inr (.inr (.inl rfl)))) | with_reducible refine Off.set ?_ (.inr (.inr (.inr (.inr rfl)))))) (K := fun x => x < w.heap.size + 2 ∨ x = ks ∨ x = kr ∨ x = W36.heap.size ∨ x = wd.heap.size) (fun x h1 h2 => by omega)), HM.out.low (B := w.heap.size) bEb (Nat.le_refl _) hk⟩
      case tc1 =>
       go_wp2_with fail
       have q43 : Below W35.heap.size W35 (World.alloc W35 (.cells #[.int .i64 0, .int .i64 0, .slice none 0 0, .int .i64 0, .int .i64 0] 46)) := belA belR
       have b843 := alloc_wb W35 #[.int .i64 0, .int .i64 0, .slice none 0 0, .int .i64 0, .int .i64 0] 46
       have mv43 := Mov.below mv35 q43
       have b943 := (b935).keep q43
       refine HardPost.mk (mv_of mv43) ?_
       generalize (World.alloc W35 (.cells #[.int .i64 0, .int .i64 0, .slice none 0 0, .int .i64 0, .int .i64 0] 46)) = W43 at *
       have hz43 := b843.lt
       refine wpU_one 7 rfl (by kernel_rfl) ?_
       go_wp2_with fail
       refine (specBelow k _ _ mv43.cur).mono ?_
       rintro e W44 ⟨m, rfl, _, _, hm44⟩
       have mv44 := mv43.trans hm44
       have hz44 := hm44.size
       have b844 := b843.mov hm44 (by omega)
       have b944 := b943.mov hm44 (by omega)
       go_wp2_with fail
       refine HardPost.mk (mv_of mv44) ?_
       refine wpU_one 8 rfl (by kernel_rfl) ?_
       go_wp2_with fail
       refine (specSyncStep _ _ r.sync s r.sync.waitUntil m _ (HPt.out.2.mov mv44 (.inl (by omega))).reads (HG.out.mov mv44 (.inl (by omega))).reads (by have := HSm.out.2.1; omega) (HSm.out.2.2.1.mono (by omega)) (by have := HSm.out.2.2.2.1; omega)).mono ?_
       rintro e W45 ⟨ds, dv, rfl, hf2, hm45⟩
       have mv45 := mv44.below hm45
       have hz45 := hm45.size
       have hfy := hf2.left
       have hfs := hf2.right
       have HQ2 := Lib.hid (HP.out.sync t r s m (by omega) HQ.out)
       obtain ⟨y2, hy2⟩ : ∃ y2, syncStepY r.sync s r.sync.waitUntil m = y2 := ⟨_, rfl⟩
       obtain ⟨s2, hs2⟩ : ∃ s2, syncStepS r.sync s r.sync.waitUntil m = s2 := ⟨_, rfl⟩
       rw [hy2] at hfy HQ2
       rw [hs2] at hfs HQ2
       clear hf2 hy2 hs2
       obtain ⟨e0, f0, rfl⟩ := DSync.fsh hfy
       obtain ⟨g1, h1, g2, h2, g3, h3, rfl⟩ := DServer.fsh hfs
       have b845 := b844.keep hm45
       have b945 := b944.keep hm45
       go_wp2_with fail
       refine HardPost.mk (mv_of mv45) ?_
       refine wpU_group (fun _ _ _ _ _ h => h) (by kernel_rfl) (mv_of mv45) [9,10,11,12] _ _ _ rfl (by kernel_rfl) ?_
       repeat (go_big_quiet_step (fail))
       refine wpQuiet_nil ?_
       have HK8 := Lib.hid b845
       have HK9 := Lib.hid b945
       have HS2 := Lib.hid (Off.below (Off.of (K := fun x => x < w.heap.size + 2 ∨ x = ks ∨ x = kr ∨ x = W35.heap.size ∨ x = wd.heap.size) hfs (fun x h1 h2 h3 => by omega)) belR)
       have HY2 := Lib.hid (Off.below (Off.of (K := fun x => x < w.heap.size + 2 ∨ x = ks ∨ x = kr ∨ x = W35.heap.size ∨ x = wd.heap.size) hfy (fun x h1 h2 h3 => by omega)) belR)
       have HB2 := Lib.hid ((HPt.out.1.more (K' := fun x => x < w.heap.size + 2 ∨ x = ks ∨ x = kr ∨ x = W35.heap.size ∨ x = wd.heap.size) (fun x h1 h2 => by omega)).mov mv45 (.inl (by omega)))
       replace HR := Lib.hid (HR.out.mov mv45 (by omega))
       replace HX := Lib.hid (HX.out.mov mv45 (by omega))
       replace HT := Lib.hid (HT.out.mov mv45 (by omega))
       replace HU := Lib.hid (HU.out.mov mv45 (by omega))
       replace HM := Lib.hid (HM.out.trans mv45)
       clear hfs hfy HF HG
       have ⟨c_HK8, z_HK8, f_HK8⟩ := HK8.out
       have ⟨c_HK9, z_HK9, f_HK9⟩ := HK9.out
       refine wpU_tail [15,16,17] _ _ _ _ rfl (by kernel_rfl) ?_
       go_wp2_with fail
       refine NoPanic.normal ?_
       clear c_HK8 z_HK8 f_HK8 c_HK9 z_HK9 f_HK9
       go_wp2_with fail
       go_meet
       exact ⟨W35.heap.size, wd.heap.size, y2, s2, e0, f0, g1, h1, g2, h2, g3, h3, rfl, rfl, HQ2.out, by omega, off5s (set5s HK8.out) (by omega), set5s (off5s HK9.out (by omega)), off5s (off5s HR.out (by omega)) (by omega), off5s (off5s HX.out (by omega)) (by omega), off5s (off5s HT.out (by omega)) (by omega), off5s (off5s HU.out (by omega)) (by omega), (Off.more (by repeat (first | with_reducible exact HB2.out | with_reducible refine Off.set ?_ (.inr (.inr (.inr (.inl rfl)))) | with_reducible refine Off.set ?_ (.inr (.inr (.inr (.inr rfl)))))) (K := fun x => x < w.heap.size + 2 ∨ x = ks ∨ x = kr ∨ x = W35.heap.size ∨ x = wd.heap.size) (fun x h1 h2 => by omega)), (Off.more (by repeat (first | with_reducible exact HY2.out | with_reducible refine Off.set ?_ (.inr (.inr (.inr (.inl rfl)))) | with_reducible refine Off.set ?_ (.inr (.inr (.inr (.inr rfl)))))) (K := fun x => x < w.heap.size + 2 ∨ x = ks ∨ x = kr ∨ x = W35.heap.size ∨ x = wd.heap.size) (fun x h1 h2 => by omega)), (Off.more (by repeat (first | with_reducible exact HS2.out | with_reducible refine Off.set ?_ (.inr (.inr (.inr (.inl rfl)))) | with_reducible refine Off.set ?_ (.inr (.inr (.inr (.inr rfl)))))) (K := fun x => x < w.heap.size + 2 ∨ x = ks ∨ x = kr ∨ x = W35.heap.size ∨ x = wd.heap.size) (fun x h1 h2 => by omega)), HM.out.low (B := w.heap.size) bEb (Nat.le_refl _) hk⟩
    case rest =>
     clear HR HX HT HU HF HG HM HQ HPt
     obtain ⟨k8, k9, y2, s2, e0, f0, g1, h1, g2, h2, g3, h3, rfl, rfl, hp, hkz, hk8, hk9, hr, hx, ht, hu, hb2, hy2, hs2, hm⟩ := hcut
     have HK8 := Lib.hid hk8
     have HK9 := Lib.hid hk9
     have HR := Lib.hid hr
     have HX := Lib.hid hx
     have HT := Lib.hid ht
     have HU := Lib.hid hu
     have HF := Lib.hid (Off.replica (n := r.seen) hb2 hy2)
     have HG := Lib.hid hs2
     have HM := Lib.hid hm
     have HQ2 := Lib.hid hp
     clear hk8 hk9 hr hx ht hu hb2 hy2 hs2 hm hp
     have ⟨c_HK8, z_HK8, f_HK8⟩ := HK8.out
     have ⟨c_HR, z_HR, f_HR⟩ := HR.out
     go_upto_region 14 with fail
     clear c_HK8 z_HK8 f_HK8 c_HR z_HR f_HR
     refine settle (fun W => WB W k9 #[.string s2.store.name, .slice g1 s2.store.items.length h1, .int .i64 s2.store.auto, .slice g2 s2.applied.length h2, .slice g3 s2.changes.length h3] ∧ WB W kr #[.string r.base.name, .slice a1 r.base.items.length c1, .int .i64 r.base.auto, .int .i64 r.seen, .int .i64 y2.outbox.device, .int .i64 y2.outbox.next, .slice e0 y2.outbox.writes.length f0, .int .i64 y2.tries, .int .i64 y2.waitUntil] ∧ WB W ks #[.string s.store.name, .slice b1 s.store.items.length d1, .int .i64 s.store.auto, .slice b2 s.applied.length d2, .slice b3 s.changes.length d3] ∧ WB W w.heap.size #[.string ⟨#[]⟩, .slice none 0 0, .int .i64 0, .int .i64 0, .int .i64 0, .int .i64 0, .slice none 0 0, .int .i64 0, .int .i64 0] ∧ WB W (w.heap.size + 1) #[.string ⟨#[]⟩, .slice none 0 0, .int .i64 0, .slice none 0 0, .slice none 0 0] ∧ Off DReplica.rep (fun x => x < w.heap.size + 2 ∨ x = ks ∨ x = kr) W [.string r.base.name, .slice a1 r.base.items.length c1, .int .i64 r.base.auto, .int .i64 r.seen, .int .i64 y2.outbox.device, .int .i64 y2.outbox.next, .slice e0 y2.outbox.writes.length f0, .int .i64 y2.tries, .int .i64 y2.waitUntil] ⟨r.base, r.seen, y2⟩ ∧ Off DServer.rep (fun x => x < w.heap.size + 2 ∨ x = ks ∨ x = kr) W [.string s2.store.name, .slice g1 s2.store.items.length h1, .int .i64 s2.store.auto, .slice g2 s2.applied.length h2, .slice g3 s2.changes.length h3] s2 ∧ Mov k w W) ⟨off5at4 HK9.out (by omega), set5at4 HR.out, off5at4 HX.out (by omega), off5at4 HT.out (by omega), off5at4 HU.out (by omega), by repeat (first | with_reducible exact HF.out | with_reducible refine Off.set ?_ (.inr (.inr rfl))), by repeat (first | with_reducible exact HG.out | with_reducible refine Off.set ?_ (.inr (.inr rfl))), HM.out.low (B := w.heap.size) bEb (Nat.le_refl _) hk⟩ ?_
     clear HK8 HK9 HR HX HT HU HF HG HM
     rintro w8 ⟨hk9, hr, hx, ht, hu, hf, hg, hm⟩
     have HK9 := Lib.hid hk9
     have HR := Lib.hid hr
     have HX := Lib.hid hx
     have HT := Lib.hid ht
     have HU := Lib.hid hu
     have HF := Lib.hid hf
     have HG := Lib.hid hg
     have HM := Lib.hid hm
     clear hk9 hr hx ht hu hf hg hm
     have ⟨c_HK9, z_HK9, f_HK9⟩ := HK9.out
     have ⟨c_HX, z_HX, f_HX⟩ := HX.out
     go_upto_region 5 with fail
     clear c_HK9 z_HK9 f_HK9 c_HX z_HX f_HX
     refine settle (fun W => ∃ (r : DReplica) (s : DServer) (a1 : Option Addr) (c1 : Nat) (a2 : Option Addr) (c2 : Nat) (b1 : Option Addr) (d1 : Nat) (b2 : Option Addr) (d2 : Nat) (b3 : Option Addr) (d3 : Nat), P (t + 1) r s ∧ WB W kr #[.string r.base.name, .slice a1 r.base.items.length c1, .int .i64 r.base.auto, .int .i64 r.seen, .int .i64 r.sync.outbox.device, .int .i64 r.sync.outbox.next, .slice a2 r.sync.outbox.writes.length c2, .int .i64 r.sync.tries, .int .i64 r.sync.waitUntil] ∧ WB W ks #[.string s.store.name, .slice b1 s.store.items.length d1, .int .i64 s.store.auto, .slice b2 s.applied.length d2, .slice b3 s.changes.length d3] ∧ WB W w.heap.size #[.string ⟨#[]⟩, .slice none 0 0, .int .i64 0, .int .i64 0, .int .i64 0, .int .i64 0, .slice none 0 0, .int .i64 0, .int .i64 0] ∧ WB W (w.heap.size + 1) #[.string ⟨#[]⟩, .slice none 0 0, .int .i64 0, .slice none 0 0, .slice none 0 0] ∧ Off DReplica.rep (fun x => x < w.heap.size + 2 ∨ x = ks ∨ x = kr) W [.string r.base.name, .slice a1 r.base.items.length c1, .int .i64 r.base.auto, .int .i64 r.seen, .int .i64 r.sync.outbox.device, .int .i64 r.sync.outbox.next, .slice a2 r.sync.outbox.writes.length c2, .int .i64 r.sync.tries, .int .i64 r.sync.waitUntil] r ∧ Off DServer.rep (fun x => x < w.heap.size + 2 ∨ x = ks ∨ x = kr) W [.string s.store.name, .slice b1 s.store.items.length d1, .int .i64 s.store.auto, .slice b2 s.applied.length d2, .slice b3 s.changes.length d3] s ∧ Mov k w W) ⟨⟨r.base, r.seen, y2⟩, s2, a1, c1, e0, f0, g1, h1, g2, h2, g3, h3, HQ2.out, off5s HR.out (by omega), set5s HX.out, off5s HT.out (by omega), off5s HU.out (by omega), by repeat (first | with_reducible exact HF.out | with_reducible refine Off.set ?_ (.inr (.inl rfl))), by repeat (first | with_reducible exact HG.out | with_reducible refine Off.set ?_ (.inr (.inl rfl))), HM.out.low (B := w.heap.size) bEb (Nat.le_refl _) hk⟩ ?_
     clear HK9 HR HX HT HU HF HG HM HQ2
     rintro w9 ⟨r, s, a1, c1, a2, c2, b1, d1, b2, d2, b3, d3, hp, hy, hx, ht, hu, hf, hg, hm⟩
     have HR := Lib.hid hy
     have HX := Lib.hid hx
     have HT := Lib.hid ht
     have HU := Lib.hid hu
     have HF := Lib.hid hf
     have HG := Lib.hid hg
     have HM := Lib.hid hm
     have HQ := Lib.hid hp
     clear hy hx ht hu hf hg hm hp
     go_wp2
     go_light
     exact ⟨⟨n - 1, t + 1, r, s, a1, c1, a2, c2, b1, d1, b2, d2, b3, d3, by go_num, ⟨by omega, by omega, HQ.out⟩, HR.out, HX.out, HT.out, HU.out, HF.out, HG.out, HM.out⟩, by simp [intOf]; omega⟩
   case' false.false.false.true =>
    go_wp2_with fail
    refine (specBelow k _ _ HM.out.cur).mono ?_
    rintro e w2 ⟨v, rfl, hv0, hv3, hm⟩
    have hv := hv3 (by decide)
    replace HR := Lib.hid (HR.out.mov hm (by omega))
    replace HX := Lib.hid (HX.out.mov hm (by omega))
    replace HT := Lib.hid (HT.out.mov hm (by omega))
    replace HU := Lib.hid (HU.out.mov hm (by omega))
    replace HF := Lib.hid (HF.out.mov hm (.inl (by omega)))
    replace HG := Lib.hid (HG.out.mov hm (.inl (by omega)))
    replace HM := Lib.hid (HM.out.trans hm)
    clear hm hv3
    have hzr2 := HR.out.lt
    go_upto_region 17 with fail
    refine wp_region_mv k [16,17] (by kernel_rfl) ?_
    intro wd hbd
    have hwz := hbd.size
    replace HR := Lib.hid (HR.out.keep hbd)
    replace HX := Lib.hid (HX.out.keep hbd)
    replace HT := Lib.hid (HT.out.keep hbd)
    replace HU := Lib.hid (HU.out.keep hbd)
    replace HF := Lib.hid (HF.out.below hbd)
    replace HG := Lib.hid (HG.out.below hbd)
    replace HM := Lib.hid (HM.out.below hbd)
    clear hbd
    have hne : Nonempty (Moved k wd) := ⟨⟨wd, Mov.refl HM.out.cur⟩⟩
    have K_HX := mv_var (k := k) HX.out (by omega)
    refine wpU_group (fun _ _ _ _ _ h => h) (by kernel_rfl) (mv_of (Mov.refl HM.out.cur)) [0,1,2,3,6,8,10] _ _ _ rfl (by kernel_rfl) ?_
    repeat (go_big_quiet_step (fail))
    refine wpQuiet_nil ?_
    clear K_HX
    refine wpU_one 4 rfl (by kernel_rfl) ?_
    go_wp2_with fail
    refine (specLastSeq _ s (1 + v) _ HG.out.reads).mono ?_
    rintro e w3 ⟨rfl, hb3⟩
    have m3 := Mov.below (Mov.refl HM.out.cur) hb3
    go_wp2_with fail
    refine HardPost.mk (mv_of (m3)) ?_
    have hq := lastSeq_in HSm.out.2.2.2.2 (1 + v)
    obtain ⟨q, hqq⟩ : ∃ q, lastSeqF s (1 + v) = q := ⟨_, rfl⟩
    rw [hqq] at hq ⊢
    clear hqq
    refine wpU_group (fun _ _ _ _ _ h => h) (by kernel_rfl) (mv_of (m3)) [5] _ _ _ rfl (by kernel_rfl) ?_
    repeat (go_big_quiet_step (fail))
    refine wpQuiet_nil ?_
    refine wpU_one 7 rfl (by kernel_rfl) ?_
    go_wp2_with fail
    refine (specKeyV k _ m3.cur).mono ?_
    rintro e w4 ⟨y, rfl, _, _, hm4⟩
    have m4 := m3.trans hm4
    go_wp2_with fail
    refine HardPost.mk (mv_of (m4)) ?_
    refine wpU_one 9 rfl (by kernel_rfl) ?_
    go_wp2_with fail
    refine (specName k _ m4.cur).mono ?_
    rintro e w5 ⟨f, rfl, hf5, hm5⟩
    have m5 := m4.trans hm5
    go_wp2_with fail
    refine HardPost.mk (mv_of (m5)) ?_
    refine wpU_one 11 rfl (by kernel_rfl) ?_
    go_wp2_with fail
    refine (specBelow k _ _ m5.cur).mono ?_
    rintro e w6 ⟨m, rfl, _, _, hm6⟩
    have m6 := m5.trans hm6
    go_wp2_with fail
    refine HardPost.mk (mv_of (m6)) ?_
    refine wpU_group (fun _ _ _ _ _ h => h) (by kernel_rfl) (mv_of (m6)) [12] _ _ _ rfl (by kernel_rfl) ?_
    repeat (go_big_quiet_step (fail))
    refine wpQuiet_nil ?_
    have hz6 := m6.size
    refine wpU_one 13 rfl (by kernel_rfl) ?_
    go_wp2_with fail
    refine (specReceiveWrite _ _ s ⟨1 + v, q + 1, ⟨1, y, ⟨#[]⟩⟩, f, m⟩ _ (HG.out.mov m6 (.inl (by omega))).reads (pairWrite _ _ _ _ _ f hf5) (HSm.out.2.2.1.mono (by omega))).mono ?_
    rintro e w7 ⟨ds, rfl, hf7, hb7⟩
    have HQ2 := Lib.hid (HP.out.recv t r s ⟨1 + v, q + 1, ⟨1, y, ⟨#[]⟩⟩, f, m⟩ (by omega) HQ.out ⟨by show 1 ≤ 1 + v; omega, by show 1 + v ≤ 3; omega⟩)
    obtain ⟨z, hz⟩ : ∃ z, receiveF s ⟨1 + v, q + 1, ⟨1, y, ⟨#[]⟩⟩, f, m⟩ = z := ⟨_, rfl⟩
    rw [hz] at hf7 HQ2
    clear hz
    obtain ⟨g1, h1, g2, h2, g3, h3, rfl⟩ := DServer.fsh hf7
    have m7 := m6.below hb7
    go_wp2_with fail
    refine HardPost.mk (mv_of (m7)) ?_
    refine wpU_group (fun _ _ _ _ _ h => h) (by kernel_rfl) (mv_of (m7)) [14,15,16] _ _ _ rfl (by kernel_rfl) ?_
    repeat (go_big_quiet_step (fail))
    refine wpQuiet_nil ?_
    replace HR := Lib.hid (HR.out.mov m7 (by omega))
    replace HX := Lib.hid (HX.out.mov m7 (by omega))
    replace HT := Lib.hid (HT.out.mov m7 (by omega))
    replace HU := Lib.hid (HU.out.mov m7 (by omega))
    replace HF := Lib.hid (HF.out.mov m7 (.inl (by omega)))
    replace HM := Lib.hid (HM.out.trans m7)
    have HG7 : Hid (Off DServer.rep (fun x => x < w.heap.size + 2 ∨ x = ks ∨ x = kr) w7 [.string z.store.name, .slice g1 z.store.items.length h1, .int .i64 z.store.auto, .slice g2 z.applied.length h2, .slice g3 z.changes.length h3] z) := Lib.hid (Off.of hf7 (fun x h1 h2 h3 => by omega))
    clear hf7 hm4 hm5 hm6 m3 m4 m5 m6 hb7 hb3 HG
    have ⟨c_HX, z_HX, f_HX⟩ := HX.out
    refine wpU_tail [17] _ _ _ _ rfl (by kernel_rfl) ?_
    go_wp2_with fail
    refine NoPanic.normal ?_
    clear c_HX z_HX f_HX
    go_upto_region 5 with fail
    refine settle (fun W => ∃ (r : DReplica) (s : DServer) (a1 : Option Addr) (c1 : Nat) (a2 : Option Addr) (c2 : Nat) (b1 : Option Addr) (d1 : Nat) (b2 : Option Addr) (d2 : Nat) (b3 : Option Addr) (d3 : Nat), P (t + 1) r s ∧ WB W kr #[.string r.base.name, .slice a1 r.base.items.length c1, .int .i64 r.base.auto, .int .i64 r.seen, .int .i64 r.sync.outbox.device, .int .i64 r.sync.outbox.next, .slice a2 r.sync.outbox.writes.length c2, .int .i64 r.sync.tries, .int .i64 r.sync.waitUntil] ∧ WB W ks #[.string s.store.name, .slice b1 s.store.items.length d1, .int .i64 s.store.auto, .slice b2 s.applied.length d2, .slice b3 s.changes.length d3] ∧ WB W w.heap.size #[.string ⟨#[]⟩, .slice none 0 0, .int .i64 0, .int .i64 0, .int .i64 0, .int .i64 0, .slice none 0 0, .int .i64 0, .int .i64 0] ∧ WB W (w.heap.size + 1) #[.string ⟨#[]⟩, .slice none 0 0, .int .i64 0, .slice none 0 0, .slice none 0 0] ∧ Off DReplica.rep (fun x => x < w.heap.size + 2 ∨ x = ks ∨ x = kr) W [.string r.base.name, .slice a1 r.base.items.length c1, .int .i64 r.base.auto, .int .i64 r.seen, .int .i64 r.sync.outbox.device, .int .i64 r.sync.outbox.next, .slice a2 r.sync.outbox.writes.length c2, .int .i64 r.sync.tries, .int .i64 r.sync.waitUntil] r ∧ Off DServer.rep (fun x => x < w.heap.size + 2 ∨ x = ks ∨ x = kr) W [.string s.store.name, .slice b1 s.store.items.length d1, .int .i64 s.store.auto, .slice b2 s.applied.length d2, .slice b3 s.changes.length d3] s ∧ Mov k w W) ⟨r, z, a1, c1, a2, c2, g1, h1, g2, h2, g3, h3, HQ2.out, off5s HR.out (by omega), set5s HX.out, off5s HT.out (by omega), off5s HU.out (by omega), by repeat (first | with_reducible exact HF.out | with_reducible refine Off.set ?_ (.inr (.inl rfl))), by repeat (first | with_reducible exact HG7.out | with_reducible refine Off.set ?_ (.inr (.inl rfl))), HM.out.low (B := w.heap.size) bEb (Nat.le_refl _) hk⟩ ?_
    clear HG7 HQ2 m7 hne
   case' false.false.false.false =>
    have ⟨c_HR, z_HR, f_HR⟩ := HR.out
    have ⟨c_HX, z_HX, f_HX⟩ := HX.out
    go_wp2_with fail
    refine (specPullChanges _ _ r s _ HF.out.reads HG.out.reads HSm.out.1 (by have := HSm.out.2.1; omega)).mono ?_
    rintro e w7 ⟨ds, rfl, hg7, hb7⟩
    clear c_HR z_HR f_HR c_HX z_HX f_HX
    have HQ2 := Lib.hid (HP.out.pull t r s (by omega) HQ.out)
    obtain ⟨z, hz⟩ : ∃ z, pullChangesF r s = z := ⟨_, rfl⟩
    rw [hz] at hg7 HQ2
    clear hz
    obtain ⟨e1, f1, e2, f2, rfl⟩ := DReplica.fsh hg7
    have HF5 : Hid (Off DReplica.rep (fun x => x < w.heap.size + 2 ∨ x = ks ∨ x = kr) w7 [.string z.base.name, .slice e1 z.base.items.length f1, .int .i64 z.base.auto, .int .i64 z.seen, .int .i64 z.sync.outbox.device, .int .i64 z.sync.outbox.next, .slice e2 z.sync.outbox.writes.length f2, .int .i64 z.sync.tries, .int .i64 z.sync.waitUntil] z) := Lib.hid (Off.of hg7 (fun x h1 h2 h3 => by omega))
    replace HR := Lib.hid (HR.out.keep hb7)
    replace HX := Lib.hid (HX.out.keep hb7)
    replace HT := Lib.hid (HT.out.keep hb7)
    replace HU := Lib.hid (HU.out.keep hb7)
    replace HG := Lib.hid (HG.out.below hb7)
    replace HM := Lib.hid (HM.out.below hb7)
    clear hg7 hb7 HF
    have ⟨c_HR, z_HR, f_HR⟩ := HR.out
    go_upto_region 5 with fail
    clear c_HR z_HR f_HR
    refine settle (fun W => ∃ (r : DReplica) (s : DServer) (a1 : Option Addr) (c1 : Nat) (a2 : Option Addr) (c2 : Nat) (b1 : Option Addr) (d1 : Nat) (b2 : Option Addr) (d2 : Nat) (b3 : Option Addr) (d3 : Nat), P (t + 1) r s ∧ WB W kr #[.string r.base.name, .slice a1 r.base.items.length c1, .int .i64 r.base.auto, .int .i64 r.seen, .int .i64 r.sync.outbox.device, .int .i64 r.sync.outbox.next, .slice a2 r.sync.outbox.writes.length c2, .int .i64 r.sync.tries, .int .i64 r.sync.waitUntil] ∧ WB W ks #[.string s.store.name, .slice b1 s.store.items.length d1, .int .i64 s.store.auto, .slice b2 s.applied.length d2, .slice b3 s.changes.length d3] ∧ WB W w.heap.size #[.string ⟨#[]⟩, .slice none 0 0, .int .i64 0, .int .i64 0, .int .i64 0, .int .i64 0, .slice none 0 0, .int .i64 0, .int .i64 0] ∧ WB W (w.heap.size + 1) #[.string ⟨#[]⟩, .slice none 0 0, .int .i64 0, .slice none 0 0, .slice none 0 0] ∧ Off DReplica.rep (fun x => x < w.heap.size + 2 ∨ x = ks ∨ x = kr) W [.string r.base.name, .slice a1 r.base.items.length c1, .int .i64 r.base.auto, .int .i64 r.seen, .int .i64 r.sync.outbox.device, .int .i64 r.sync.outbox.next, .slice a2 r.sync.outbox.writes.length c2, .int .i64 r.sync.tries, .int .i64 r.sync.waitUntil] r ∧ Off DServer.rep (fun x => x < w.heap.size + 2 ∨ x = ks ∨ x = kr) W [.string s.store.name, .slice b1 s.store.items.length d1, .int .i64 s.store.auto, .slice b2 s.applied.length d2, .slice b3 s.changes.length d3] s ∧ Mov k w W) ⟨z, s, e1, f1, e2, f2, b1, d1, b2, d2, b3, d3, HQ2.out, set9r HR.out, off9r HX.out (by omega), off9r HT.out (by omega), off9r HU.out (by omega), by repeat (first | with_reducible exact HF5.out | with_reducible refine Off.set ?_ (.inr (.inr rfl))), by repeat (first | with_reducible exact HG.out | with_reducible refine Off.set ?_ (.inr (.inr rfl))), HM.out.low (B := w.heap.size) bEb (Nat.le_refl _) hk⟩ ?_
    clear HF5 HQ2
   all_goals
    clear HR HX HT HU HM HQ HSm
    try clear HF
    try clear HG
    rintro w9 ⟨r, s, a1, c1, a2, c2, b1, d1, b2, d2, b3, d3, hp, hy, hx, ht, hu, hf, hg, hm⟩
    have HR := Lib.hid hy
    have HX := Lib.hid hx
    have HT := Lib.hid ht
    have HU := Lib.hid hu
    have HF := Lib.hid hf
    have HG := Lib.hid hg
    have HM := Lib.hid hm
    have HQ := Lib.hid hp
    clear hy hx ht hu hf hg hm hp
    go_wp2
    go_light
    exact ⟨⟨n - 1, t + 1, r, s, a1, c1, a2, c2, b1, d1, b2, d2, b3, d3, by go_num, ⟨by omega, by omega, HQ.out⟩, HR.out, HX.out, HT.out, HU.out, HF.out, HG.out, HM.out⟩, by simp [intOf]; omega⟩
  ·go_upto_region 18 with fail
   refine wp_region_mvf k ([w.heap.size, w.heap.size + 1]) [] (by kernel_rfl) ?_
   intro wd hbd
   have hwz := hbd.size
   replace HR := Lib.hid (HR.out.keep hbd)
   replace HX := Lib.hid (HX.out.keep hbd)
   replace HT := Lib.hid (HT.out.keep hbd)
   replace HU := Lib.hid (HU.out.keep hbd)
   replace HF := Lib.hid (HF.out.below hbd)
   replace HG := Lib.hid (HG.out.below hbd)
   replace HM := Lib.hid (HM.out.below hbd)
   clear hbd
   have hne : Nonempty (MovedF k ([w.heap.size, w.heap.size + 1]) wd) := ⟨⟨wd, MovF.of (Mov.refl HM.out.cur)⟩⟩
   have K_HR := mvf_var (k := k) (fp := ([w.heap.size, w.heap.size + 1])) HR.out (by omega) (by first | (simp; omega) | assumption)
   have K_HX := mvf_var (k := k) (fp := ([w.heap.size, w.heap.size + 1])) HX.out (by omega) (by first | (simp; omega) | assumption)
   refine wpU_group (fun _ _ _ _ _ h => h) (by kernel_rfl) (mvf_of (MovF.of (Mov.refl HM.out.cur))) [0,1] _ _ _ rfl (by kernel_rfl) ?_
   repeat (go_big_quiet_step (fail))
   refine wpQuiet_nil ?_
   clear K_HR K_HX
   have ⟨c_HT, z_HT, f_HT⟩ := HT.out
   have ⟨c_HU, z_HU, f_HU⟩ := HU.out
   have hkb : k.b ≤ k.k := by
    obtain ⟨_, _, _, _, _, _, _, hq⟩ := HM.out.cur
    exact hq
   have hq0 : MovF k [w.heap.size, w.heap.size + 1] wd wd := MovF.of (Mov.refl HM.out.cur)
   refine wpU_one 2 rfl (by kernel_rfl) ?_
   go_wp2_with fail
   have hq1 := hq0.set9r (b := w.heap.size) (u0 := .string r.base.name) (u1 := .slice a1 r.base.items.length c1) (u2 := .int .i64 r.base.auto) (u3 := .int .i64 r.seen) (u4 := .int .i64 r.sync.outbox.device) (u5 := .int .i64 r.sync.outbox.next) (u6 := .slice a2 r.sync.outbox.writes.length c2) (u7 := .int .i64 r.sync.tries) (u8 := .int .i64 r.sync.waitUntil) (by simp) (by omega) (by omega)
   refine HardPost.mk (mvf_of hq1) ?_
   have HT1 := Lib.hid (set9r HT.out (b0 := .string r.base.name) (b1 := .slice a1 r.base.items.length c1) (b2 := .int .i64 r.base.auto) (b3 := .int .i64 r.seen) (b4 := .int .i64 r.sync.outbox.device) (b5 := .int .i64 r.sync.outbox.next) (b6 := .slice a2 r.sync.outbox.writes.length c2) (b7 := .int .i64 r.sync.tries) (b8 := .int .i64 r.sync.waitUntil))
   have HU1 := Lib.hid (off9r HU.out (g := w.heap.size) (b0 := .string r.base.name) (b1 := .slice a1 r.base.items.length c1) (b2 := .int .i64 r.base.auto) (b3 := .int .i64 r.seen) (b4 := .int .i64 r.sync.outbox.device) (b5 := .int .i64 r.sync.outbox.next) (b6 := .slice a2 r.sync.outbox.writes.length c2) (b7 := .int .i64 r.sync.tries) (b8 := .int .i64 r.sync.waitUntil) (by omega))
   clear c_HT z_HT f_HT c_HU z_HU f_HU
   have ⟨c_HU1, z_HU1, f_HU1⟩ := HU1.out
   refine wpU_one 3 rfl (by kernel_rfl) ?_
   go_wp2_with fail
   have hq2 := hq1.set5r (b := w.heap.size + 1) (u0 := .string s.store.name) (u1 := .slice b1 s.store.items.length d1) (u2 := .int .i64 s.store.auto) (u3 := .slice b2 s.applied.length d2) (u4 := .slice b3 s.changes.length d3) (by simp) (by omega) (by omega)
   refine HardPost.mk (mvf_of hq2) ?_
   have HT2 := Lib.hid (off5s HT1.out (g := w.heap.size + 1) (b0 := .string s.store.name) (b1 := .slice b1 s.store.items.length d1) (b2 := .int .i64 s.store.auto) (b3 := .slice b2 s.applied.length d2) (b4 := .slice b3 s.changes.length d3) (by omega))
   have HU2 := Lib.hid (set5s HU1.out (b0 := .string s.store.name) (b1 := .slice b1 s.store.items.length d1) (b2 := .int .i64 s.store.auto) (b3 := .slice b2 s.applied.length d2) (b4 := .slice b3 s.changes.length d3))
   clear c_HU1 z_HU1 f_HU1
   refine wpU_tail [] _ _ _ _ rfl (by kernel_rfl) ?_
   go_wp2_with fail
   refine NoPanic.normal ?_
   have ⟨c_HT2, z_HT2, f_HT2⟩ := HT2.out
   have ⟨c_HU2, z_HU2, f_HU2⟩ := HU2.out
   go_wp2
   exact bodyPost_ret (v := .tuple #[.agg #[.string r.base.name, .slice a1 r.base.items.length c1, .int .i64 r.base.auto, .int .i64 r.seen, .int .i64 r.sync.outbox.device, .int .i64 r.sync.outbox.next, .slice a2 r.sync.outbox.writes.length c2, .int .i64 r.sync.tries, .int .i64 r.sync.waitUntil], .agg #[.string s.store.name, .slice b1 s.store.items.length d1, .int .i64 s.store.auto, .slice b2 s.applied.length d2, .slice b3 s.changes.length d3]]) (by simp [results, Tryz.results67, go_sem, c_HT2, c_HU2]) rfl ⟨_, _, rfl, t, r, s, Off.more (K := (fun x => x < w.heap.size + 2 ∨ x = ks ∨ x = kr)) (by repeat (first | with_reducible exact HF.out | with_reducible refine Off.set ?_ (.inl (by omega)))) (fun x h1 h2 => .inl (by omega)), Off.more (K := (fun x => x < w.heap.size + 2 ∨ x = ks ∨ x = kr)) (by repeat (first | with_reducible exact HG.out | with_reducible refine Off.set ?_ (.inl (by omega)))) (fun x h1 h2 => .inl (by omega)), by omega, HQ.out, HM.out.low (B := w.heap.size) bEb (Nat.le_refl _) hk⟩

end Go.Proofs.YtlfebehpmefioaaGreat
