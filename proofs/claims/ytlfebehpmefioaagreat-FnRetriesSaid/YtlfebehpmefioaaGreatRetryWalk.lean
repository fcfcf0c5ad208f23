/-
  The plain law and the walk of the law FnRetries.
-/
import Derived.Test.YtlfebehpmefioaaGreatCurFam
import Derived.Test.YtlfebehpmefioaaGreatDrawNet2
import Derived.Test.YtlfebehpmefioaaGreatPendingCount
import Derived.Test.YtlfebehpmefioaaGreatSyncAll
namespace Go.Proofs.YtlfebehpmefioaaGreat
open Go.RowKit

theorem retried {y : DSync} {s : DServer} (h : PairOk 1000 y s) (l : List Int) {X : DSync} {T : DServer} (hX : (syncAllF y s y.waitUntil l).1 = X) (hT : (syncAllF y s y.waitUntil l).2 = T) :
    X.outbox.next = y.outbox.next ∧ (1 ≤ X.outbox.next ∧ X.outbox.next ≤ 1000000) ∧ X.outbox.writes.length ≤ 20 ∧ (∀ i, (hi : i < X.outbox.writes.length) → X.outbox.writes[i].seq = X.outbox.next - X.outbox.writes.length + i) ∧ s.changes.length ≤ T.changes.length ∧ s.changes.length ≤ 1000 ∧ (T.changes.length : Int) - s.changes.length = lastSeqF T y.outbox.device - lastSeqF s y.outbox.device ∧
    (∀ i, (hi : i < T.changes.length) → s.changes.length ≤ i → T.changes[i].device = y.outbox.device ∧ T.changes[i].seq = lastSeqF s y.outbox.device + 1 + i - s.changes.length) ∧ X.outbox.next - X.outbox.writes.length - 1 ≤ lastSeqF T y.outbox.device ∧ lastSeqF T y.outbox.device ≤ X.outbox.next - X.outbox.writes.length ∧ (0 ≤ lastSeqF s y.outbox.device ∧ lastSeqF s y.outbox.device ≤ 1000000) ∧ (0 ≤ lastSeqF T y.outbox.device ∧ lastSeqF T y.outbox.device ≤ 1000000) := by
  obtain ⟨n, x, d, e⟩ := h.net.syncAll y.waitUntil l
  rw [hX, hT] at n
  rw [hX] at d e
  rw [hT] at x
  obtain ⟨news, e1, n1, p1, _⟩ := x
  obtain ⟨b1, _, b3, b4⟩ := outbox_iff.1 n.box
  have hlen : T.changes.length = s.changes.length + news.length := by rw [e1, List.length_append]
  refine ⟨e, b3, b4, fun i hi => (b1 i hi).2.2, by omega, h.changes, by omega, fun i hi hs => ?_, ?_, ?_, lastSeq_in h.net.srv _, ?_⟩
  · have hi2 : i < (s.changes ++ news).length := by rw [← e1]; exact hi
    have e2 : T.changes[i] = (s.changes ++ news)[i]'hi2 := by simp only [e1]
    rw [e2, List.getElem_append_right hs]
    obtain ⟨q1, q2⟩ := p1 (i - s.changes.length) (by omega)
    exact ⟨q1, by rw [q2]; omega⟩
  · have := n.lo; rw [d] at this; exact this
  · have := n.hi; rw [d] at this; exact this
  · exact lastSeq_in n.srv _

theorem syncAllAs (cs cv : List Value) (y : DSync) (s : DServer) (now : Int) (v : Value) (l : List Int) (X : DSync) (T : DServer) (hX : (syncAllF y s now l).1 = X) (hT : (syncAllF y s now l).2 = T) (w : World) (h : Reads DSync.rep w cs y) (h' : Reads DServer.rep w cv s) (hv : Reads (Rep.slice 3 Rep.int) w [v] l) (hy : y.outbox.writes.length ≤ 1048576) (hs : SmallServer s 1048576) (hl : l.length ≤ 1048576) :
    Calls Tryz.prog 17 #[.agg cs.toArray, .agg cv.toArray, .int .i64 now, v] w fun e w' => ∃ (b : Option Addr) (d : Nat) (b1 : Option Addr) (d1 : Nat) (b2 : Option Addr) (d2 : Nat) (b3 : Option Addr) (d3 : Nat), e = .returned (.tuple #[.agg #[.int .i64 X.outbox.device, .int .i64 X.outbox.next, .slice b X.outbox.writes.length d, .int .i64 X.tries, .int .i64 X.waitUntil], .agg #[.string T.store.name, .slice b1 T.store.items.length d1, .int .i64 T.store.auto, .slice b2 T.applied.length d2, .slice b3 T.changes.length d3]]) ∧ Reads DSync.rep w' [.int .i64 X.outbox.device, .int .i64 X.outbox.next, .slice b X.outbox.writes.length d, .int .i64 X.tries, .int .i64 X.waitUntil] X ∧ Reads DServer.rep w' [.string T.store.name, .slice b1 T.store.items.length d1, .int .i64 T.store.auto, .slice b2 T.applied.length d2, .slice b3 T.changes.length d3] T ∧ Below w.heap.size w w' := by
  refine (implSyncAll cs cv y s now v l w h h' hv hy hs hl).mono ?_
  rintro e w1 ⟨ds, dv, rfl, hf, hb⟩
  rw [hX, hT] at hf
  have h1 := hf.left
  have h2 := hf.right
  obtain ⟨b, d, rfl⟩ := DSync.fsh h1
  obtain ⟨b1, d1, b2, d2, b3, d3, rfl⟩ := DServer.fsh h2
  exact ⟨b, d, b1, d1, b2, d2, b3, d3, rfl, h1.reads, h2.reads, hb⟩
theorem lastSeqAs' (cs : List Value) (x : DServer) (d N : Int) (hN : lastSeqF x d = N) (w : World) (h : Reads DServer.rep w cs x) :
    Calls Tryz.prog 14 #[.agg cs.toArray, .int .i64 d] w fun e w' => e = .returned (.int .i64 N) ∧ Below w.heap.size w w' := by
  subst hN
  exact implLastSeq cs x d w h
theorem pendingAs' (cs : List Value) (x : DSync) (w : World) (h : Reads DSync.rep w cs x) :
    Calls Tryz.prog 18 #[.agg cs.toArray] w fun e w' => e = .returned (.int .i64 (x.outbox.writes.length : Int)) ∧ Below w.heap.size w w' := implPendingCount cs x w h
theorem sync_writes {w : World} {v : Value} {X : DSync} (h : Reads DSync.rep w [.int .i64 X.outbox.device, .int .i64 X.outbox.next, v, .int .i64 X.tries, .int .i64 X.waitUntil] X) : Reads (Rep.slice 34 DWrite.rep) w [v] X.outbox.writes := by
  obtain ⟨fp, h⟩ := h
  obtain ⟨v1, f1, e, rfl, r1⟩ := DSync.rd.1 h
  simp only [List.cons.injEq, and_true] at e
  obtain ⟨_, _, rfl, _⟩ := e
  exact ⟨_, r1⟩
theorem server_changes {w : World} {v1 v2 v3 : Value} {T : DServer} (h : Reads DServer.rep w [.string T.store.name, v1, .int .i64 T.store.auto, v2, v3] T) : Reads (Rep.slice 34 DWrite.rep) w [v3] T.changes := by
  obtain ⟨fp, h⟩ := h
  obtain ⟨u1, u2, u3, f1, f2, f3, e, rfl, s0, r1, r2, r3⟩ := DServer.rd.1 h
  simp only [List.cons.injEq, and_true] at e
  obtain ⟨_, rfl, _, rfl, rfl⟩ := e
  exact ⟨_, r3⟩
attribute [local irreducible] syncAllF lastSeqF pendingCountF

set_option maxRecDepth 100000 in
set_option maxHeartbeats 8000000 in
theorem lawRetries (v : Value) (l0 : List UInt8) (w : World) (h : Reads Rep.bytes w [v] l0) :
    Calls Tryz.prog 4 #[v] w fun e w' => e = .returned (.bool true) ∧ Below w.heap.size w w' := by
  have HK : Hid (Reads Rep.bytes w [v] l0) := Lib.hid h
  clear h
  by_cases hbig : 1048576 < l0.length
  · go_enter Tryz.func4, Tryz.ntmps4
    go_wp2_with (go_at_call 8; refine (lawBig _ _ _ HK.out).mono ?_; rintro e w' ⟨rfl, rfl⟩)
    go_ret
    exact ⟨rfl, (by repeat (first | with_reducible exact belR | with_reducible apply belA | (with_reducible refine belS ?_ ?_; focus (first | omega | (simp; done) | (simp; omega))) | with_reducible apply belN | with_reducible apply belD | with_reducible assumption))⟩
  have hl0 : l0.length ≤ 1048576 := by omega
  go_enter Tryz.func4, Tryz.ntmps4
  go_wp2_with (go_at_call 8; refine (lawBig _ _ _ HK.out).mono ?_; rintro e w' ⟨rfl, rfl⟩)
  refine (specDrawNetwork v l0 _ HK.out hl0).mono ?_
  rintro e w1 ⟨y, s, lf, a, c, a1, c1, a2, c2, a3, c3, af, cf, rfl, hry, hrs, hrf, hp, hlf, hb⟩
  have HB := Lib.hid hb
  have HY := Lib.hid hry
  have HS := Lib.hid hrs
  have HLF := Lib.hid hrf
  have HP := Lib.hid hp
  clear hb hry hrs hp HK hrf
  obtain ⟨X, hX⟩ : ∃ X, (syncAllF y s y.waitUntil lf).1 = X := ⟨_, rfl⟩
  obtain ⟨T, hT⟩ : ∃ T, (syncAllF y s y.waitUntil lf).2 = T := ⟨_, rfl⟩
  have HD := Lib.hid (retried HP.out lf hX hT)
  have HX := Lib.hid hX
  have HT := Lib.hid hT
  have HSm := Lib.hid (HP.out.small (by omega))
  clear hX hT
  have hsc : Hid (s.changes.length ≤ 1000) := Lib.hid HD.out.2.2.2.2.2.1
  go_upto_region 4 with fail
  refine settle (fun W => ∃ ky ks, ky = w1.heap.size ∧ ks = w1.heap.size + 1 ∧ WB W ky #[.int .i64 y.outbox.device, .int .i64 y.outbox.next, .slice a y.outbox.writes.length c, .int .i64 y.tries, .int .i64 y.waitUntil] ∧ WB W ks #[.string s.store.name, .slice a1 s.store.items.length c1, .int .i64 s.store.auto, .slice a2 s.applied.length c2, .slice a3 s.changes.length c3] ∧ Reads DSync.rep W [.int .i64 y.outbox.device, .int .i64 y.outbox.next, .slice a y.outbox.writes.length c, .int .i64 y.tries, .int .i64 y.waitUntil] y ∧ Reads DServer.rep W [.string s.store.name, .slice a1 s.store.items.length c1, .int .i64 s.store.auto, .slice a2 s.applied.length c2, .slice a3 s.changes.length c3] s ∧ Reads (Rep.slice 3 Rep.int) W [.slice af lf.length cf] lf ∧ Below w.heap.size w W) ⟨_, _, rfl, rfl, (WB.at rfl).growA, WB.at (by simp), HY.out.below (by repeat (first | with_reducible exact belR | with_reducible apply belA | (with_reducible refine belS ?_ ?_; focus (first | omega | (simp; done) | (simp; omega))) | with_reducible apply belN | with_reducible apply belD | with_reducible assumption)), HS.out.below (by repeat (first | with_reducible exact belR | with_reducible apply belA | (with_reducible refine belS ?_ ?_; focus (first | omega | (simp; done) | (simp; omega))) | with_reducible apply belN | with_reducible apply belD | with_reducible assumption)), HLF.out.below (by repeat (first | with_reducible exact belR | with_reducible apply belA | (with_reducible refine belS ?_ ?_; focus (first | omega | (simp; done) | (simp; omega))) | with_reducible apply belN | with_reducible apply belD | with_reducible assumption)), (HB.out.trans ((belA (belA belR) : Below w1.heap.size w1 _).mono HB.out.size))⟩ ?_
  clear HY HS HLF HB
  rintro w2 ⟨ky, ks, hky, hks, hy, hs, hry, hrs, hrf, hb⟩
  rw [← hks, ← hky]
  have hkk : ky < ks := by omega
  have HBY := Lib.hid hy
  have HBS := Lib.hid hs
  have HY := Lib.hid hry
  have HS := Lib.hid hrs
  have HLF := Lib.hid hrf
  have HB := Lib.hid hb
  clear hy hs hry hrs hrf hb hky hks
  have ⟨c_HBY, z_HBY, f_HBY⟩ := HBY.out
  have ⟨c_HBS, z_HBS, f_HBS⟩ := HBS.out
  go_wp2_with fail
  refine (syncAllAs _ _ y s y.waitUntil _ lf X T HX.out HT.out _ (HY.out.below (by repeat (first | with_reducible exact belR | with_reducible apply belA | (with_reducible refine belS ?_ ?_; focus (first | omega | (simp; done) | (simp; omega))) | with_reducible apply belN | with_reducible apply belD | with_reducible assumption))) (HS.out.below (by repeat (first | with_reducible exact belR | with_reducible apply belA | (with_reducible refine belS ?_ ?_; focus (first | omega | (simp; done) | (simp; omega))) | with_reducible apply belN | with_reducible apply belD | with_reducible assumption))) (HLF.out.below (by repeat (first | with_reducible exact belR | with_reducible apply belA | (with_reducible refine belS ?_ ?_; focus (first | omega | (simp; done) | (simp; omega))) | with_reducible apply belN | with_reducible apply belD | with_reducible assumption))) (by have := HSm.out.1; omega) (HSm.out.2.mono (by omega)) (by omega)).mono ?_
  rintro e w3 ⟨b, d, b1, d1, b2, d2, b3, d3, rfl, hrx, hrt, hb⟩
  clear c_HBY z_HBY f_HBY c_HBS z_HBS f_HBS
  replace HBY := Lib.hid (HBY.out.keep hb)
  replace HBS := Lib.hid (HBS.out.keep hb)
  replace HS := Lib.hid (HS.out.below hb)
  have HRX := Lib.hid hrx
  have HRT := Lib.hid hrt
  replace HB := Lib.hid (HB.out.trans (hb.mono HB.out.size))
  clear hrx hrt hb HY HLF
  go_upto_region 6 with fail
  refine settle (fun W => ∃ kx kt, kx = w3.heap.size ∧ kt = w3.heap.size + 1 ∧ WB W kx #[.int .i64 X.outbox.device, .int .i64 X.outbox.next, .slice b X.outbox.writes.length d, .int .i64 X.tries, .int .i64 X.waitUntil] ∧ WB W kt #[.string T.store.name, .slice b1 T.store.items.length d1, .int .i64 T.store.auto, .slice b2 T.applied.length d2, .slice b3 T.changes.length d3] ∧ WB W ky #[.int .i64 y.outbox.device, .int .i64 y.outbox.next, .slice a y.outbox.writes.length c, .int .i64 y.tries, .int .i64 y.waitUntil] ∧ WB W ks #[.string s.store.name, .slice a1 s.store.items.length c1, .int .i64 s.store.auto, .slice a2 s.applied.length c2, .slice a3 s.changes.length c3] ∧ Reads DSync.rep W [.int .i64 X.outbox.device, .int .i64 X.outbox.next, .slice b X.outbox.writes.length d, .int .i64 X.tries, .int .i64 X.waitUntil] X ∧ Reads DServer.rep W [.string T.store.name, .slice b1 T.store.items.length d1, .int .i64 T.store.auto, .slice b2 T.applied.length d2, .slice b3 T.changes.length d3] T ∧ Reads DServer.rep W [.string s.store.name, .slice a1 s.store.items.length c1, .int .i64 s.store.auto, .slice a2 s.applied.length c2, .slice a3 s.changes.length c3] s ∧ Below w.heap.size w W) ⟨_, _, rfl, rfl, (WB.at rfl).growA, WB.at (by simp), HBY.out.growA.growA, HBS.out.growA.growA, HRX.out.below (by repeat (first | with_reducible exact belR | with_reducible apply belA | (with_reducible refine belS ?_ ?_; focus (first | omega | (simp; done) | (simp; omega))) | with_reducible apply belN | with_reducible apply belD | with_reducible assumption)), HRT.out.below (by repeat (first | with_reducible exact belR | with_reducible apply belA | (with_reducible refine belS ?_ ?_; focus (first | omega | (simp; done) | (simp; omega))) | with_reducible apply belN | with_reducible apply belD | with_reducible assumption)), HS.out.below (by repeat (first | with_reducible exact belR | with_reducible apply belA | (with_reducible refine belS ?_ ?_; focus (first | omega | (simp; done) | (simp; omega))) | with_reducible apply belN | with_reducible apply belD | with_reducible assumption)), (HB.out.trans ((belA (belA belR) : Below w3.heap.size w3 _).mono HB.out.size))⟩ ?_
  clear HBY HBS HRX HRT HS HB
  rintro w4 ⟨kx, kt, hkx, hkt, hx, ht, hy, hs, hrx, hrt, hrs, hb⟩
  rw [← hkt, ← hkx]
  have HBX := Lib.hid hx
  have HBT := Lib.hid ht
  have HBY := Lib.hid hy
  have HBS := Lib.hid hs
  have HRX := Lib.hid hrx
  have HRT := Lib.hid hrt
  have HS := Lib.hid hrs
  have HB := Lib.hid hb
  clear hx ht hy hs hrx hrt hrs hb hkx hkt
  obtain ⟨L, hL⟩ : ∃ L, lastSeqF T y.outbox.device = L := ⟨_, rfl⟩
  obtain ⟨L0, hL0⟩ : ∃ L0, lastSeqF s y.outbox.device = L0 := ⟨_, rfl⟩
  have hd := HD.out
  rw [hL, hL0] at hd
  replace HD := Lib.hid hd
  have HL := Lib.hid hL
  have HL0 := Lib.hid hL0
  clear hd hL hL0
  have ⟨c_HBY, z_HBY, f_HBY⟩ := HBY.out
  have ⟨c_HBT, z_HBT, f_HBT⟩ := HBT.out
  go_wp2_with fail
  refine (lastSeqAs' _ T _ L HL.out _ (HRT.out.below (by repeat (first | with_reducible exact belR | with_reducible apply belA | (with_reducible refine belS ?_ ?_; focus (first | omega | (simp; done) | (simp; omega))) | with_reducible apply belN | with_reducible apply belD | with_reducible assumption)))).mono ?_
  rintro e w5 ⟨rfl, hb⟩
  clear c_HBY z_HBY f_HBY c_HBT z_HBT f_HBT
  replace HBX := Lib.hid (HBX.out.keep hb)
  replace HBT := Lib.hid (HBT.out.keep hb)
  replace HBY := Lib.hid (HBY.out.keep hb)
  replace HBS := Lib.hid (HBS.out.keep hb)
  replace HRX := Lib.hid (HRX.out.below hb)
  replace HRT := Lib.hid (HRT.out.below hb)
  replace HS := Lib.hid (HS.out.below hb)
  replace HB := Lib.hid (HB.out.trans (hb.mono HB.out.size))
  clear hb
  go_upto_region 8 with fail
  have hd := HD.out
  have n0 : (X.outbox.next != y.outbox.next) = false := by rw [hd.1]; simp
  have i1 : ¬ (T.changes.length : Int) < (s.changes.length : Int) := by have := hd.2.2.2.2.1; omega
  have n1 : (((T.changes.length : Int) - (s.changes.length : Int)) != (L - L0)) = false := by rw [hd.2.2.2.2.2.2.1]; simp
  have hb1 := hd.2.2.2.2.2.2.2.2.2.2.1
  have hb2 := hd.2.2.2.2.2.2.2.2.2.2.2
  have hb3 := hd.2.2.2.2.2.1
  have hb4 : T.changes.length ≤ 1001000 := by have := hd.2.2.2.2.2.2.1; omega
  clear hd
  have KX := rg_var HBX.out
  have KT := rg_var HBT.out
  have KY := rg_var HBY.out
  have KS := rg_var HBS.out
  refine wp_region_rg (by kernel_rfl) (by kernel_rfl) ?_
  repeat (go_big_quiet_step ((go_at_call 14; exact calls_rg (lastSeqAs' _ s _ L0 HL0.out _ (HS.out.below (rg_below w5 _))))))
  refine wpQuiet_nil ?_
  rintro _ ⟨pq, rfl⟩
  have hq := rg_below w5 pq
  replace HBX := Lib.hid (HBX.out.keep hq)
  replace HBT := Lib.hid (HBT.out.keep hq)
  replace HBY := Lib.hid (HBY.out.keep hq)
  replace HBS := Lib.hid (HBS.out.keep hq)
  replace HRX := Lib.hid (HRX.out.below hq)
  replace HRT := Lib.hid (HRT.out.below hq)
  replace HS := Lib.hid (HS.out.below hq)
  replace HB := Lib.hid (HB.out.trans (hq.mono HB.out.size))
  clear KX KT KY KS
  generalize rg w5 pq = w6 at *
  clear hq n0 n1 i1
  go_wp2
  go_loopw [11] (fun i wr => ∃ k : Nat, k ≤ X.outbox.writes.length ∧ i = .int .i64 k ∧ WB wr kx #[.int .i64 X.outbox.device, .int .i64 X.outbox.next, .slice b X.outbox.writes.length d, .int .i64 X.tries, .int .i64 X.waitUntil] ∧ WB wr kt #[.string T.store.name, .slice b1 T.store.items.length d1, .int .i64 T.store.auto, .slice b2 T.applied.length d2, .slice b3 T.changes.length d3] ∧ WB wr ky #[.int .i64 y.outbox.device, .int .i64 y.outbox.next, .slice a y.outbox.writes.length c, .int .i64 y.tries, .int .i64 y.waitUntil] ∧ WB wr ks #[.string s.store.name, .slice a1 s.store.items.length c1, .int .i64 s.store.auto, .slice a2 s.applied.length c2, .slice a3 s.changes.length c3] ∧ Reads DSync.rep wr [.int .i64 X.outbox.device, .int .i64 X.outbox.next, .slice b X.outbox.writes.length d, .int .i64 X.tries, .int .i64 X.waitUntil] X ∧ Reads DServer.rep wr [.string T.store.name, .slice b1 T.store.items.length d1, .int .i64 T.store.auto, .slice b2 T.applied.length d2, .slice b3 T.changes.length d3] T ∧ Reads DServer.rep wr [.string s.store.name, .slice a1 s.store.items.length c1, .int .i64 s.store.auto, .slice a2 s.applied.length c2, .slice a3 s.changes.length c3] s ∧ Below w.heap.size w wr) (fun i _ => X.outbox.writes.length - (intOf i).toNat)
  case atStart => exact ⟨0, by omega, rfl, HBX.out, HBT.out, HBY.out, HBS.out, HRX.out, HRT.out, HS.out, HB.out⟩
  case round =>
    clear HBX HBT HBY HBS HRX HRT HS HB
    obtain ⟨k, hk, rfl, hx, ht, hy, hs, hrx, hrt, hrs, hb⟩ := hrel
    have HBX := Lib.hid hx
    have HBT := Lib.hid ht
    have HBY := Lib.hid hy
    have HBS := Lib.hid hs
    have HRX := Lib.hid hrx
    have HRT := Lib.hid hrt
    have HS := Lib.hid hrs
    have HB := Lib.hid hb
    clear hx ht hy hs hrx hrt hrs hb
    have hd := HD.out
    have hnx := hd.2.1
    have hl20 := hd.2.2.1
    have hsq := hd.2.2.2.1
    clear hd
    by_cases hlt : k < X.outbox.writes.length
    · have HW := Lib.hid (sync_writes HRX.out)
      obtain ⟨g, off, cs_g, rfl, hw_g, hr_g, hcell_g⟩ := slice_at HW.out k hlt
      obtain ⟨fe_g, hrd_g⟩ := hr_g
      have HR_g : Hid (Reads DWrite.rep wr cs_g X.outbox.writes[k]) := ⟨_, hrd_g⟩
      obtain ⟨rfl, _, g_s0, g_s1⟩ := DWrite.rd.1 hrd_g
      clear hrd_g
      have g_c0 : wr.cell? ⟨g, off + k * 7, none⟩ = some (.int .i64 X.outbox.writes[k].device) := hcell_g 0 (by decide)
      have g_c1 : wr.cell? ⟨g, off + k * 7 + 1, none⟩ = some (.int .i64 X.outbox.writes[k].seq) := hcell_g 1 (by decide)
      have g_c2 : wr.cell? ⟨g, off + k * 7 + 2, none⟩ = some (.int .i64 X.outbox.writes[k].key.kind) := hcell_g 2 (by decide)
      have g_c3 : wr.cell? ⟨g, off + k * 7 + 3, none⟩ = some (.int .i64 X.outbox.writes[k].key.n) := hcell_g 3 (by decide)
      have g_c4 : wr.cell? ⟨g, off + k * 7 + 4, none⟩ = some (.string X.outbox.writes[k].key.text) := hcell_g 4 (by decide)
      have g_c5 : wr.cell? ⟨g, off + k * 7 + 5, none⟩ = some (.string X.outbox.writes[k].field) := hcell_g 5 (by decide)
      have g_c6 : wr.cell? ⟨g, off + k * 7 + 6, none⟩ = some (.int .i64 X.outbox.writes[k].n) := hcell_g 6 (by decide)
      clear hcell_g
      have C := rg_cell g_c1
      have KX := rg_var HBX.out
      have n2 : (X.outbox.writes[k].seq != X.outbox.next - (X.outbox.writes.length : Int) + (k : Int)) = false := by rw [hsq k hlt]; simp
      have i1 : (0 : Int) ≤ (k : Int) := by omega
      have i2 : (k : Int) < (X.outbox.writes.length : Int) := by omega
      clear hsq
      have ⟨c_HBX, z_HBX, f_HBX⟩ := HBX.out
      go_upto_region 13 with fail
      clear c_HBX z_HBX f_HBX
      refine wp_region_rg (by kernel_rfl) (by kernel_rfl) ?_
      repeat (go_big_quiet_step (fail))
      refine wpQuiet_nil ?_
      rintro _ ⟨pq, rfl⟩
      have hq := rg_below wr pq
      replace HBX := Lib.hid (HBX.out.keep hq)
      replace HBT := Lib.hid (HBT.out.keep hq)
      replace HBY := Lib.hid (HBY.out.keep hq)
      replace HBS := Lib.hid (HBS.out.keep hq)
      replace HRX := Lib.hid (HRX.out.below hq)
      replace HRT := Lib.hid (HRT.out.below hq)
      replace HS := Lib.hid (HS.out.below hq)
      replace HB := Lib.hid (HB.out.trans (hq.mono HB.out.size))
      clear KX C HW g_c0 g_c1 g_c2 g_c3 g_c4 g_c5 g_c6
      generalize rg wr pq = w7 at *
      go_wp2
      go_light
      exact ⟨⟨k + 1, by omega, by go_num, HBX.out, HBT.out, HBY.out, HBS.out, HRX.out, HRT.out, HS.out, HB.out⟩, by simp [intOf]; omega⟩
    · have i2 : ¬ (k : Int) < (X.outbox.writes.length : Int) := by omega
      clear hsq
      have ⟨c_HBX, z_HBX, f_HBX⟩ := HBX.out
      go_wp2
      clear c_HBX z_HBX f_HBX
      go_loopw [13] (fun i wr => ∃ k : Nat, (s.changes.length ≤ k ∧ k ≤ T.changes.length) ∧ i = .int .i64 k ∧ WB wr kx #[.int .i64 X.outbox.device, .int .i64 X.outbox.next, .slice b X.outbox.writes.length d, .int .i64 X.tries, .int .i64 X.waitUntil] ∧ WB wr kt #[.string T.store.name, .slice b1 T.store.items.length d1, .int .i64 T.store.auto, .slice b2 T.applied.length d2, .slice b3 T.changes.length d3] ∧ WB wr ky #[.int .i64 y.outbox.device, .int .i64 y.outbox.next, .slice a y.outbox.writes.length c, .int .i64 y.tries, .int .i64 y.waitUntil] ∧ WB wr ks #[.string s.store.name, .slice a1 s.store.items.length c1, .int .i64 s.store.auto, .slice a2 s.applied.length c2, .slice a3 s.changes.length c3] ∧ Reads DSync.rep wr [.int .i64 X.outbox.device, .int .i64 X.outbox.next, .slice b X.outbox.writes.length d, .int .i64 X.tries, .int .i64 X.waitUntil] X ∧ Reads DServer.rep wr [.string T.store.name, .slice b1 T.store.items.length d1, .int .i64 T.store.auto, .slice b2 T.applied.length d2, .slice b3 T.changes.length d3] T ∧ Reads DServer.rep wr [.string s.store.name, .slice a1 s.store.items.length c1, .int .i64 s.store.auto, .slice a2 s.applied.length c2, .slice a3 s.changes.length c3] s ∧ Below w.heap.size w wr) (fun i _ => T.changes.length - (intOf i).toNat)
      case atStart => exact ⟨s.changes.length, ⟨Nat.le_refl _, HD.out.2.2.2.2.1⟩, rfl, HBX.out, HBT.out, HBY.out, HBS.out, HRX.out, HRT.out, HS.out, HB.out⟩
      case round =>
        clear HBX HBT HBY HBS HRX HRT HS HB i2 hlt hk
        obtain ⟨m, hm, rfl, hx, ht, hy, hs, hrx, hrt, hrs, hb⟩ := hrel
        have HBX := Lib.hid hx
        have HBT := Lib.hid ht
        have HBY := Lib.hid hy
        have HBS := Lib.hid hs
        have HRX := Lib.hid hrx
        have HRT := Lib.hid hrt
        have HS := Lib.hid hrs
        have HB := Lib.hid hb
        clear hx ht hy hs hrx hrt hrs hb
        have hd := HD.out
        have hch := hd.2.2.2.2.2.2.2.1
        have hlo := hd.2.2.2.2.2.2.2.2.1
        have hhi := hd.2.2.2.2.2.2.2.2.2.1
        clear hd
        by_cases hlt : m < T.changes.length
        · have HW := Lib.hid (server_changes HRT.out)
          obtain ⟨g, off, cs_g, rfl, hw_g, hr_g, hcell_g⟩ := slice_at HW.out m hlt
          obtain ⟨fe_g, hrd_g⟩ := hr_g
          have HR_g : Hid (Reads DWrite.rep wr cs_g T.changes[m]) := ⟨_, hrd_g⟩
          obtain ⟨rfl, _, g_s0, g_s1⟩ := DWrite.rd.1 hrd_g
          clear hrd_g
          have g_c0 : wr.cell? ⟨g, off + m * 7, none⟩ = some (.int .i64 T.changes[m].device) := hcell_g 0 (by decide)
          have g_c1 : wr.cell? ⟨g, off + m * 7 + 1, none⟩ = some (.int .i64 T.changes[m].seq) := hcell_g 1 (by decide)
          have g_c2 : wr.cell? ⟨g, off + m * 7 + 2, none⟩ = some (.int .i64 T.changes[m].key.kind) := hcell_g 2 (by decide)
          have g_c3 : wr.cell? ⟨g, off + m * 7 + 3, none⟩ = some (.int .i64 T.changes[m].key.n) := hcell_g 3 (by decide)
          have g_c4 : wr.cell? ⟨g, off + m * 7 + 4, none⟩ = some (.string T.changes[m].key.text) := hcell_g 4 (by decide)
          have g_c5 : wr.cell? ⟨g, off + m * 7 + 5, none⟩ = some (.string T.changes[m].field) := hcell_g 5 (by decide)
          have g_c6 : wr.cell? ⟨g, off + m * 7 + 6, none⟩ = some (.int .i64 T.changes[m].n) := hcell_g 6 (by decide)
          clear hcell_g
          have C0 := rg_cell g_c0
          have C1 := rg_cell g_c1
          have KT := rg_var HBT.out
          have KS := rg_var HBS.out
          have n3 : (T.changes[m].device != y.outbox.device) = false := by rw [(hch m hlt hm.1).1]; simp
          have n4 : (T.changes[m].seq != L0 + 1 + (m : Int) - (s.changes.length : Int)) = false := by rw [(hch m hlt hm.1).2]; simp
          have i1 : (0 : Int) ≤ (m : Int) := by omega
          have i2 : (m : Int) < (T.changes.length : Int) := by omega
          clear hch hlo hhi
          have ⟨c_HBT, z_HBT, f_HBT⟩ := HBT.out
          go_upto_region 19 with fail
          clear c_HBT z_HBT f_HBT
          refine wp_region_rg (by kernel_rfl) (by kernel_rfl) ?_
          repeat (go_big_quiet_step ((go_at_call 14; exact calls_rg (lastSeqAs' _ s _ L0 HL0.out _ (HS.out.below (rg_below wr _))))))
          refine wpQuiet_nil ?_
          rintro _ ⟨pq, rfl⟩
          have hq := rg_below wr pq
          replace HBX := Lib.hid (HBX.out.keep hq)
          replace HBT := Lib.hid (HBT.out.keep hq)
          replace HBY := Lib.hid (HBY.out.keep hq)
          replace HBS := Lib.hid (HBS.out.keep hq)
          replace HRX := Lib.hid (HRX.out.below hq)
          replace HRT := Lib.hid (HRT.out.below hq)
          replace HS := Lib.hid (HS.out.below hq)
          replace HB := Lib.hid (HB.out.trans (hq.mono HB.out.size))
          clear KT KS C0 C1 HW g_c0 g_c1 g_c2 g_c3 g_c4 g_c5 g_c6
          generalize rg wr pq = w7 at *
          go_wp2
          go_light
          exact ⟨⟨m + 1, ⟨by omega, by omega⟩, by go_num, HBX.out, HBT.out, HBY.out, HBS.out, HRX.out, HRT.out, HS.out, HB.out⟩, by simp [intOf]; omega⟩
        · have i2 : ¬ (m : Int) < (T.changes.length : Int) := by omega
          clear hch
          have ⟨c_HBT, z_HBT, f_HBT⟩ := HBT.out
          go_upto_region 21 with fail
          clear c_HBT z_HBT f_HBT
          have KX := rg_var HBX.out
          refine wp_region_rg (by kernel_rfl) (by kernel_rfl) ?_
          repeat (go_big_quiet_step ((go_at_call 18; exact calls_rg (pendingAs' _ X _ (HRX.out.below (rg_below wr _))))))
          refine wpQuiet_nil ?_
          rintro _ ⟨pq, rfl⟩
          have hq := rg_below wr pq
          go_wp2
          go_ret
          exact ⟨rfl, HB.out.trans (hq.mono HB.out.size)⟩

end Go.Proofs.YtlfebehpmefioaaGreat
