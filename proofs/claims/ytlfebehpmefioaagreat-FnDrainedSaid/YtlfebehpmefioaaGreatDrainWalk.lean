/-
  The walk of the law FnDrained.
-/
import Derived.Test.YtlfebehpmefioaaGreatCurFam
import Derived.Test.YtlfebehpmefioaaGreatDrawNet2
import Derived.Test.YtlfebehpmefioaaGreatDrainLaw
import Derived.Test.YtlfebehpmefioaaGreatPendingCount
import Derived.Test.YtlfebehpmefioaaGreatBoxFam
namespace Go.Proofs.YtlfebehpmefioaaGreat
open Go.RowKit

theorem drainAs (cs cv : List Value) (y : DSync) (s : DServer) (now : Int) (X : DSync) (T : DServer) (hX : (drainF y s now).1 = X) (hT : (drainF y s now).2 = T) (w : World) (h : Reads DSync.rep w cs y) (h' : Reads DServer.rep w cv s) (hy : y.outbox.writes.length ≤ 1048576) (hs : SmallServer s 1048576) :
    Calls Tryz.prog 19 #[.agg cs.toArray, .agg cv.toArray, .int .i64 now] w fun e w' => ∃ (b : Option Addr) (d : Nat) (b1 : Option Addr) (d1 : Nat) (b2 : Option Addr) (d2 : Nat) (b3 : Option Addr) (d3 : Nat), e = .returned (.tuple #[.agg #[.int .i64 X.outbox.device, .int .i64 X.outbox.next, .slice b X.outbox.writes.length d, .int .i64 X.tries, .int .i64 X.waitUntil], .agg #[.string T.store.name, .slice b1 T.store.items.length d1, .int .i64 T.store.auto, .slice b2 T.applied.length d2, .slice b3 T.changes.length d3]]) ∧ Reads DSync.rep w' [.int .i64 X.outbox.device, .int .i64 X.outbox.next, .slice b X.outbox.writes.length d, .int .i64 X.tries, .int .i64 X.waitUntil] X ∧ Reads DServer.rep w' [.string T.store.name, .slice b1 T.store.items.length d1, .int .i64 T.store.auto, .slice b2 T.applied.length d2, .slice b3 T.changes.length d3] T ∧ Below w.heap.size w w' := by
  refine (implDrainSync cs cv y s now w h h' hy hs).mono ?_
  rintro e w1 ⟨ds, dv, rfl, hf, hb⟩
  rw [hX, hT] at hf
  have h1 := hf.left
  have h2 := hf.right
  obtain ⟨b, d, rfl⟩ := DSync.fsh h1
  obtain ⟨b1, d1, b2, d2, b3, d3, rfl⟩ := DServer.fsh h2
  exact ⟨b, d, b1, d1, b2, d2, b3, d3, rfl, h1.reads, h2.reads, hb⟩
theorem backAs (t N : Int) (h : boff t = N) (w : World) : Calls Tryz.prog 20 #[.int .i64 t] w fun e w' => e = .returned (.int .i64 N) ∧ w = w' := by
  subst h
  exact implBackoff t w
theorem lastSeqAs (cs : List Value) (x : DServer) (d N : Int) (hN : lastSeqF x d = N) (w : World) (h : Reads DServer.rep w cs x) :
    Calls Tryz.prog 14 #[.agg cs.toArray, .int .i64 d] w fun e w' => e = .returned (.int .i64 N) ∧ Below w.heap.size w w' := by
  subst hN
  exact implLastSeq cs x d w h
theorem pendingAs (cs : List Value) (x : DSync) (N : Int) (hN : pendingCountF x = N) (w : World) (h : Reads DSync.rep w cs x) :
    Calls Tryz.prog 18 #[.agg cs.toArray] w fun e w' => e = .returned (.int .i64 N) ∧ Below w.heap.size w w' := by
  subst hN
  exact implPendingCount cs x w h
theorem equalSyncsSelf (cs : List Value) (x : DSync) (w : World) (h : Reads DSync.rep w cs x) : Calls Tryz.prog 22 #[.agg cs.toArray, .agg cs.toArray] w fun e w' => e = .returned (.bool true) ∧ Below w.heap.size w w' := by
  refine (implEqualSyncs cs cs x x w h h).mono ?_
  rintro e w1 ⟨rfl, hb⟩
  exact ⟨by rw [equal_syncs], hb⟩
theorem boff0 : boff 0 = 1 := by decide
attribute [local irreducible] drainF boff lastSeqF pendingCountF

set_option maxRecDepth 100000 in
set_option maxHeartbeats 8000000 in
theorem lawDrained (v : Value) (l0 : List UInt8) (w : World) (h : Reads Rep.bytes w [v] l0) :
    Calls Tryz.prog 5 #[v] w fun e w' => e = .returned (.bool true) ∧ Below w.heap.size w w' := by
  have HK : Hid (Reads Rep.bytes w [v] l0) := Lib.hid h
  clear h
  by_cases hbig : 1048576 < l0.length
  · go_enter Tryz.func5, Tryz.ntmps5
    go_wp2_with (go_at_call 8; refine (lawBig _ _ _ HK.out).mono ?_; rintro e w' ⟨rfl, rfl⟩)
    go_ret
    exact ⟨rfl, (by repeat (first | with_reducible exact belR | with_reducible apply belA | (with_reducible refine belS ?_ ?_; focus (first | omega | (simp; done) | (simp; omega))) | with_reducible apply belN | with_reducible apply belD | with_reducible assumption))⟩
  have hl0 : l0.length ≤ 1048576 := by omega
  go_enter Tryz.func5, Tryz.ntmps5
  go_wp2_with (go_at_call 8; refine (lawBig _ _ _ HK.out).mono ?_; rintro e w' ⟨rfl, rfl⟩)
  refine (specDrawNetwork v l0 _ HK.out hl0).mono ?_
  rintro e w1 ⟨y, s, lf, a, c, a1, c1, a2, c2, a3, c3, af, cf, rfl, hry, hrs, _, hp, _, hb⟩
  have HB := Lib.hid hb
  have HY := Lib.hid hry
  have HS := Lib.hid hrs
  have HP := Lib.hid hp
  have HKB : Hid (Reads Rep.bytes w1 [v] l0) := Lib.hid (HK.out.below hb)
  clear hb hry hrs hp HK
  obtain ⟨X, hX⟩ : ∃ X, (drainF y s y.waitUntil).1 = X := ⟨_, rfl⟩
  obtain ⟨T, hT⟩ : ∃ T, (drainF y s y.waitUntil).2 = T := ⟨_, rfl⟩
  have hd := drained HP.out.net (by have := HP.out.wait; omega)
  rw [hX, hT] at hd
  have HD := Lib.hid hd
  have HX := Lib.hid hX
  have HT := Lib.hid hT
  have hsm := HP.out.small (by omega)
  have HSm := Lib.hid hsm
  clear hd hX hT hsm
  go_wp2_with fail
  refine (drainAs _ _ y s y.waitUntil X T HX.out HT.out _ (HY.out.below (by repeat (first | with_reducible exact belR | with_reducible apply belA | (with_reducible refine belS ?_ ?_; focus (first | omega | (simp; done) | (simp; omega))) | with_reducible apply belN | with_reducible apply belD | with_reducible assumption))) (HS.out.below (by repeat (first | with_reducible exact belR | with_reducible apply belA | (with_reducible refine belS ?_ ?_; focus (first | omega | (simp; done) | (simp; omega))) | with_reducible apply belN | with_reducible apply belD | with_reducible assumption))) (by have := HSm.out.1; omega) (HSm.out.2.mono (by omega))).mono ?_
  rintro e w2 ⟨b, d, b1, d1, b2, d2, b3, d3, rfl, hrx, hrt, hb⟩
  have HBY : Hid (WB w2 w1.heap.size #[.int .i64 y.outbox.device, .int .i64 y.outbox.next, .slice a y.outbox.writes.length c, .int .i64 y.tries, .int .i64 y.waitUntil]) := Lib.hid (((WB.at rfl).growA).keep hb)
  have HBS : Hid (WB w2 (w1.heap.size + 1) #[.string s.store.name, .slice a1 s.store.items.length c1, .int .i64 s.store.auto, .slice a2 s.applied.length c2, .slice a3 s.changes.length c3]) := Lib.hid ((WB.at (by simp)).keep hb)
  have hq : Below w1.heap.size w1 w2 := below_call (by repeat (first | with_reducible exact belR | with_reducible apply belA | (with_reducible refine belS ?_ ?_; focus (first | omega | (simp; done) | (simp; omega))) | with_reducible apply belN | with_reducible apply belD | with_reducible assumption)) (by first | omega | (simp; done) | (simp; omega)) hb
  have HRX := Lib.hid hrx
  have HRT := Lib.hid hrt
  replace HKB := Lib.hid (HKB.out.below hq)
  replace HB := Lib.hid (HB.out.trans (hq.mono HB.out.size))
  clear hb hrx hrt hq HY HS
  go_upto_region 5 with fail
  refine settle (fun W => ∃ kx kt, kx = w2.heap.size ∧ kt = w2.heap.size + 1 ∧ WB W kx #[.int .i64 X.outbox.device, .int .i64 X.outbox.next, .slice b X.outbox.writes.length d, .int .i64 X.tries, .int .i64 X.waitUntil] ∧ WB W kt #[.string T.store.name, .slice b1 T.store.items.length d1, .int .i64 T.store.auto, .slice b2 T.applied.length d2, .slice b3 T.changes.length d3] ∧ WB W w1.heap.size #[.int .i64 y.outbox.device, .int .i64 y.outbox.next, .slice a y.outbox.writes.length c, .int .i64 y.tries, .int .i64 y.waitUntil] ∧ Reads DSync.rep W [.int .i64 X.outbox.device, .int .i64 X.outbox.next, .slice b X.outbox.writes.length d, .int .i64 X.tries, .int .i64 X.waitUntil] X ∧ Reads DServer.rep W [.string T.store.name, .slice b1 T.store.items.length d1, .int .i64 T.store.auto, .slice b2 T.applied.length d2, .slice b3 T.changes.length d3] T ∧ Reads Rep.bytes W [v] l0 ∧ Below w.heap.size w W) ⟨_, _, rfl, rfl, (WB.at rfl).growA, WB.at (by simp), HBY.out.growA.growA, HRX.out.below (by repeat (first | with_reducible exact belR | with_reducible apply belA | (with_reducible refine belS ?_ ?_; focus (first | omega | (simp; done) | (simp; omega))) | with_reducible apply belN | with_reducible apply belD | with_reducible assumption)), HRT.out.below (by repeat (first | with_reducible exact belR | with_reducible apply belA | (with_reducible refine belS ?_ ?_; focus (first | omega | (simp; done) | (simp; omega))) | with_reducible apply belN | with_reducible apply belD | with_reducible assumption)), HKB.out.below (by repeat (first | with_reducible exact belR | with_reducible apply belA | (with_reducible refine belS ?_ ?_; focus (first | omega | (simp; done) | (simp; omega))) | with_reducible apply belN | with_reducible apply belD | with_reducible assumption)), (HB.out.trans ((belA (belA belR) : Below w2.heap.size w2 _).mono HB.out.size))⟩ ?_
  clear HBY HBS HRX HRT HKB HB
  rintro w3 ⟨kx, kt, hkx, hkt, hx, ht, hy, hrx, hrt, hkb, hb⟩
  rw [← hkt, ← hkx]
  have HBX := Lib.hid hx
  have HBT := Lib.hid ht
  have HBY := Lib.hid hy
  have HRX := Lib.hid hrx
  have HRT := Lib.hid hrt
  have HKB := Lib.hid hkb
  have HB := Lib.hid hb
  clear hx ht hy hrx hrt hkb hb hkx hkt
  have hat := atN_ge l0 0
  have hrem : (atN l0 0).tmod 9 = atN l0 0 % 9 := Int.tmod_eq_emod_of_nonneg hat.1
  have hst := boff_steps (n := atN l0 0 % 9) (by omega)
  obtain ⟨A, hA⟩ : ∃ A, boff (atN l0 0 % 9) = A := ⟨_, rfl⟩
  obtain ⟨C, hC⟩ : ∃ C, boff (atN l0 0 % 9 + 1) = C := ⟨_, rfl⟩
  rw [hA, hC] at hst
  have HA := Lib.hid hA
  have HC := Lib.hid hC
  have HST := Lib.hid hst
  clear hA hC hst
  go_wp2_with fail
  refine (lawAt v l0 0 0 rfl (by decide) hl0 _ HKB.out).mono ?_
  rintro e w' ⟨rfl, rfl⟩
  go_wp2_with fail
  refine (backAs _ A HA.out _).mono ?_
  rintro e w' ⟨rfl, rfl⟩
  go_wp2_with fail
  refine (lawAt v l0 0 0 rfl (by decide) hl0 _ HKB.out).mono ?_
  rintro e w' ⟨rfl, rfl⟩
  go_wp2_with fail
  refine (backAs _ C HC.out _).mono ?_
  rintro e w' ⟨rfl, rfl⟩
  go_upto_region 7 with fail
  have hd := HD.out
  have i1 : A ≤ C := HST.out.1
  have i2 : C ≤ 64 := HST.out.2.1
  have i3 : C ≤ 2 * A := HST.out.2.2
  have hA1 := boff_in (atN l0 0 % 9)
  rw [HA.out] at hA1
  have HPN : Hid (pendingCountF X = 0) := Lib.hid (by have := hd.1; unfold pendingCountF; rw [this]; rfl)
  have HLS := Lib.hid hd.2.1
  have hnx := hd.2.2.1
  have KX := rg_var HBX.out
  have KT := rg_var HBT.out
  have KY := rg_var HBY.out
  clear hd
  refine wp_region_rg (by kernel_rfl) (by kernel_rfl) ?_
  repeat (go_big_quiet_step ((first | (go_at_call 18; exact calls_rg (pendingAs _ X 0 HPN.out _ (HRX.out.below (rg_below w3 _)))) | (go_at_call 14; exact calls_rg (lastSeqAs _ T _ _ HLS.out _ (HRT.out.below (rg_below w3 _)))) | (go_at_call 20; exact calls_rgSame (backAs 0 1 boff0 _)) | (go_at_call 22; exact calls_rg (equalSyncsSelf _ X _ (HRX.out.below (rg_below w3 _)))))))
  refine wpQuiet_nil ?_
  rintro _ ⟨pq, rfl⟩
  have hq := rg_below w3 pq
  go_wp2
  go_ret
  exact ⟨rfl, HB.out.trans (hq.mono HB.out.size)⟩

end Go.Proofs.YtlfebehpmefioaaGreat
