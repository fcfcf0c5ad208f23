/-
  The plain law and the walk of the law FnServers.
-/
import Derived.Test.YtlfebehpmefioaaGreatDrawRcv
import Derived.Test.YtlfebehpmefioaaGreatDigest
import Derived.Test.YtlfebehpmefioaaGreatEqualServers
import Derived.Test.YtlfebehpmefioaaGreatReceive
namespace Go.Proofs.YtlfebehpmefioaaGreat
open Go.RowKit

theorem equal_stores (x : DStore) : equalStoresF x x = true := by unfold equalStoresF; simp
theorem equal_servers (x : DServer) : equalServersF x x = true := by unfold equalServersF; rw [equal_stores]; simp
theorem received {s : DServer} {y : DWrite} (h : receiveCode s y = 1) : (1 ≤ y.device ∧ y.device ≤ 1000000) ∧ (1 ≤ y.seq ∧ y.seq ≤ 1000000) ∧ receiveCode (receiveF s y) y = 2 ∧ receiveF (receiveF s y) y = receiveF s y ∧ lastSeqF (receiveF s y) y.device = y.seq ∧ lastSeqF s y.device = y.seq - 1 ∧ (receiveF s y).changes.length = s.changes.length + 1 ∧ isServerF (receiveF s y) = true ∧ lastSeqF (receiveF s y) (y.device + 1) = lastSeqF s (y.device + 1) := by
  obtain ⟨h1, h2, h3, h4⟩ := receive_one h
  obtain ⟨w1, w2, _⟩ := write_iff.1 h2
  have e : receiveF s y = receiveOut s y := by unfold receiveF; rw [if_pos h]
  have hs := receiveOut_server h1 h2 h3
  have hl : lastSeqF (receiveOut s y) y.device = y.seq := by rw [lastSeq_out h1, if_pos rfl]
  have hc : receiveCode (receiveOut s y) y = 2 := by
    have hr : refused (receiveOut s y) y = false := by unfold refused; rw [hs, h2, room_out h1]; rfl
    unfold receiveCode
    rw [hr, if_neg (by decide), if_pos (by omega)]
  rw [e]
  refine ⟨w1, w2, hc, ?_, hl, by omega, by show (s.changes ++ [y]).length = _; simp, hs, ?_⟩
  · unfold receiveF; rw [hc, if_neg (by decide)]
  · rw [lastSeq_out h1, if_neg (by omega)]

theorem recvI (cs cy : List Value) (x : DServer) (y : DWrite) (X : DServer) (N : Int) (hX : receiveF x y = X) (hN : receiveCode x y = N) (w : World) (h : Reads DServer.rep w cs x) (h' : Reads DWrite.rep w cy y) (hs : SmallServer x 1048990) :
    Calls Tryz.prog 10 #[.agg cs.toArray, .agg cy.toArray] w fun e w' => ∃ (b1 : Option Addr) (d1 : Nat) (b2 : Option Addr) (d2 : Nat) (b3 : Option Addr) (d3 : Nat), e = .returned (.tuple #[.agg #[.string X.store.name, .slice b1 X.store.items.length d1, .int .i64 X.store.auto, .slice b2 X.applied.length d2, .slice b3 X.changes.length d3], .int .i64 N]) ∧ Reads DServer.rep w' [.string X.store.name, .slice b1 X.store.items.length d1, .int .i64 X.store.auto, .slice b2 X.applied.length d2, .slice b3 X.changes.length d3] X ∧ Below w.heap.size w w' := by
  refine (implReceiveWrite cs cy x y w h h' hs).mono ?_
  rintro e w1 ⟨ds, rfl, hf, hb⟩
  rw [hX] at hf
  rw [hN]
  obtain ⟨b1, d1, b2, d2, b3, d3, rfl⟩ := DServer.fsh hf
  exact ⟨b1, d1, b2, d2, b3, d3, rfl, hf.reads, hb⟩
theorem recvS (cs cy : List Value) (x : DServer) (y : DWrite) (X : DServer) (N : Int) (hX : receiveF x y = X) (hN : receiveCode x y = N) (w : World) (h : Reads DServer.rep w cs x) (h' : Reads DWrite.rep w cy y) (hs : SmallServer x 1048990) :
    Calls Tryz.prog 11 #[.agg cs.toArray, .agg cy.toArray] w fun e w' => ∃ (b1 : Option Addr) (d1 : Nat) (b2 : Option Addr) (d2 : Nat) (b3 : Option Addr) (d3 : Nat), e = .returned (.tuple #[.agg #[.string X.store.name, .slice b1 X.store.items.length d1, .int .i64 X.store.auto, .slice b2 X.applied.length d2, .slice b3 X.changes.length d3], .int .i64 N]) ∧ Reads DServer.rep w' [.string X.store.name, .slice b1 X.store.items.length d1, .int .i64 X.store.auto, .slice b2 X.applied.length d2, .slice b3 X.changes.length d3] X ∧ Below w.heap.size w w' := by
  refine (specReceiveWrite cs cy x y w h h' hs).mono ?_
  rintro e w1 ⟨ds, rfl, hf, hb⟩
  rw [hX] at hf
  rw [hN]
  obtain ⟨b1, d1, b2, d2, b3, d3, rfl⟩ := DServer.fsh hf
  exact ⟨b1, d1, b2, d2, b3, d3, rfl, hf.reads, hb⟩
theorem eqSrv (cs ds : List Value) (x : DServer) (w : World) (h : Reads DServer.rep w cs x) (h' : Reads DServer.rep w ds x) : Calls Tryz.prog 12 #[.agg cs.toArray, .agg ds.toArray] w fun e w' => e = .returned (.bool true) ∧ Below w.heap.size w w' := by
  refine (implEqualServers cs ds x x w h h').mono ?_
  rintro e w1 ⟨rfl, hb⟩
  exact ⟨by rw [equal_servers], hb⟩
theorem digestAs (cs : List Value) (x : DServer) (N : Int) (hN : serverDigestF x = N) (w : World) (h : Reads DServer.rep w cs x) (hs : x.applied.length ≤ 1048576) (hi : x.store.items.length ≤ 1048576) :
    Calls Tryz.prog 13 #[.agg cs.toArray] w fun e w' => e = .returned (.int .i64 N) ∧ Below w.heap.size w w' := by
  subst hN
  exact implServerDigest cs x w h hs hi
theorem lastAs (cs : List Value) (x : DServer) (d N : Int) (hN : lastSeqF x d = N) (w : World) (h : Reads DServer.rep w cs x) :
    Calls Tryz.prog 14 #[.agg cs.toArray, .int .i64 d] w fun e w' => e = .returned (.int .i64 N) ∧ Below w.heap.size w w' := by
  subst hN
  exact implLastSeq cs x d w h
theorem isSrvAs (cs : List Value) (x : DServer) (hx : isServerF x = true) (w : World) (h : Reads DServer.rep w cs x) : Calls Tryz.prog 15 #[.agg cs.toArray] w fun e w' => e = .returned (.bool true) ∧ Below w.heap.size w w' := by
  refine (implIsServer cs x w h).mono ?_
  rintro e w1 ⟨rfl, hb⟩
  exact ⟨by rw [hx], hb⟩
attribute [local irreducible] receiveF receiveCode lastSeqF serverDigestF isServerF equalServersF

set_option maxRecDepth 100000 in
set_option maxHeartbeats 8000000 in
theorem lawServers (v : Value) (l0 : List UInt8) (w : World) (h : Reads Rep.bytes w [v] l0) :
    Calls Tryz.prog 3 #[v] w fun e w' => e = .returned (.bool true) ∧ Below w.heap.size w w' := by
  have HK : Hid (Reads Rep.bytes w [v] l0) := Lib.hid h
  clear h
  by_cases hbig : 1048576 < l0.length
  · go_enter Tryz.func3, Tryz.ntmps3
    go_wp2_with (go_at_call 8; refine (lawBig _ _ _ HK.out).mono ?_; rintro e w' ⟨rfl, rfl⟩)
    go_ret
    exact ⟨rfl, (by repeat (first | with_reducible exact belR | with_reducible apply belA | (with_reducible refine belS ?_ ?_; focus (first | omega | (simp; done) | (simp; omega))) | with_reducible apply belN | with_reducible apply belD | with_reducible assumption))⟩
  have hl0 : l0.length ≤ 1048576 := by omega
  go_enter Tryz.func3, Tryz.ntmps3
  go_wp2_with (go_at_call 8; refine (lawBig _ _ _ HK.out).mono ?_; rintro e w' ⟨rfl, rfl⟩)
  refine (specDrawReceive v l0 _ HK.out hl0).mono ?_
  rintro e w1 ⟨s, y, a1, c1, a2, c2, a3, c3, rfl, hrs, hsl, ⟨hy1, hy2⟩, hb⟩
  have HB := Lib.hid hb
  have HS := Lib.hid hrs
  have HLe := Lib.hid hsl
  have HW : Hid (∀ W, Reads DWrite.rep W [.int .i64 y.device, .int .i64 y.seq, .int .i64 y.key.kind, .int .i64 y.key.n, .string y.key.text, .string y.field, .int .i64 y.n] y) := Lib.hid fun W => writeReads W y hy1 hy2
  clear hb hrs hsl HK
  go_upto_region 4 with fail
  refine settle (fun W => ∃ ks ky, ks = w1.heap.size ∧ ky = w1.heap.size + 1 ∧ WB W ks #[.string s.store.name, .slice a1 s.store.items.length c1, .int .i64 s.store.auto, .slice a2 s.applied.length c2, .slice a3 s.changes.length c3] ∧ WB W ky #[.int .i64 y.device, .int .i64 y.seq, .int .i64 y.key.kind, .int .i64 y.key.n, .string y.key.text, .string y.field, .int .i64 y.n] ∧ Reads DServer.rep W [.string s.store.name, .slice a1 s.store.items.length c1, .int .i64 s.store.auto, .slice a2 s.applied.length c2, .slice a3 s.changes.length c3] s ∧ Below w.heap.size w W) ⟨_, _, rfl, rfl, (WB.at rfl).growA, WB.at (by simp), HS.out.below (by repeat (first | with_reducible exact belR | with_reducible apply belA | (with_reducible refine belS ?_ ?_; focus (first | omega | (simp; done) | (simp; omega))) | with_reducible apply belN | with_reducible apply belD | with_reducible assumption)), (HB.out.trans ((belA (belA belR) : Below w1.heap.size w1 _).mono HB.out.size))⟩ ?_
  clear HS HB
  rintro w2 ⟨ks, ky, hks, hky, hs, hy, hrs, hb⟩
  rw [← hky, ← hks]
  have HBS := Lib.hid hs
  have HBY := Lib.hid hy
  have HS := Lib.hid hrs
  have HB := Lib.hid hb
  clear hs hy hrs hb hks hky
  have hsm := HLe.out.small
  have HSm := Lib.hid hsm
  clear hsm
  obtain ⟨X, hX⟩ : ∃ X, receiveF s y = X := ⟨_, rfl⟩
  obtain ⟨N, hN⟩ : ∃ N, receiveCode s y = N := ⟨_, rfl⟩
  have HX := Lib.hid hX
  have HN := Lib.hid hN
  clear hX hN
  have ⟨c_HBS, z_HBS, f_HBS⟩ := HBS.out
  have ⟨c_HBY, z_HBY, f_HBY⟩ := HBY.out
  go_wp2_with fail
  refine (recvI _ _ s y X N HX.out HN.out _ (HS.out.below (by repeat (first | with_reducible exact belR | with_reducible apply belA | (with_reducible refine belS ?_ ?_; focus (first | omega | (simp; done) | (simp; omega))) | with_reducible apply belN | with_reducible apply belD | with_reducible assumption))) (HW.out _) (HSm.out.mono (by omega))).mono ?_
  rintro e w3 ⟨b1, d1, b2, d2, b3, d3, rfl, hrx, hb⟩
  clear c_HBS z_HBS f_HBS c_HBY z_HBY f_HBY
  replace HBS := Lib.hid (HBS.out.keep hb)
  replace HBY := Lib.hid (HBY.out.keep hb)
  replace HS := Lib.hid (HS.out.below hb)
  have HRX := Lib.hid hrx
  replace HB := Lib.hid (HB.out.trans (hb.mono HB.out.size))
  clear hrx hb
  go_upto_region 5 with fail
  refine settle (fun W => ∃ kx, kx = w3.heap.size ∧ WB W kx #[.string X.store.name, .slice b1 X.store.items.length d1, .int .i64 X.store.auto, .slice b2 X.applied.length d2, .slice b3 X.changes.length d3] ∧ WB W ks #[.string s.store.name, .slice a1 s.store.items.length c1, .int .i64 s.store.auto, .slice a2 s.applied.length c2, .slice a3 s.changes.length c3] ∧ WB W ky #[.int .i64 y.device, .int .i64 y.seq, .int .i64 y.key.kind, .int .i64 y.key.n, .string y.key.text, .string y.field, .int .i64 y.n] ∧ Reads DServer.rep W [.string s.store.name, .slice a1 s.store.items.length c1, .int .i64 s.store.auto, .slice a2 s.applied.length c2, .slice a3 s.changes.length c3] s ∧ Reads DServer.rep W [.string X.store.name, .slice b1 X.store.items.length d1, .int .i64 X.store.auto, .slice b2 X.applied.length d2, .slice b3 X.changes.length d3] X ∧ Below w.heap.size w W) ⟨_, rfl, WB.at rfl, HBS.out.growA, HBY.out.growA, HS.out.below (by repeat (first | with_reducible exact belR | with_reducible apply belA | (with_reducible refine belS ?_ ?_; focus (first | omega | (simp; done) | (simp; omega))) | with_reducible apply belN | with_reducible apply belD | with_reducible assumption)), HRX.out.below (by repeat (first | with_reducible exact belR | with_reducible apply belA | (with_reducible refine belS ?_ ?_; focus (first | omega | (simp; done) | (simp; omega))) | with_reducible apply belN | with_reducible apply belD | with_reducible assumption)), (HB.out.trans ((belA belR : Below w3.heap.size w3 _).mono HB.out.size))⟩ ?_
  clear HBS HBY HS HRX HB
  rintro w4 ⟨kx, hkx, hx, hs, hy, hrs, hrx, hb⟩
  rw [← hkx]
  have HBX := Lib.hid hx
  have HBS := Lib.hid hs
  have HBY := Lib.hid hy
  have HS := Lib.hid hrs
  have HRX := Lib.hid hrx
  have HB := Lib.hid hb
  clear hx hs hy hrs hrx hb hkx
  have ⟨c_HBS, z_HBS, f_HBS⟩ := HBS.out
  have ⟨c_HBY, z_HBY, f_HBY⟩ := HBY.out
  go_wp2_with fail
  refine (recvS _ _ s y X N HX.out HN.out _ (HS.out.below (by repeat (first | with_reducible exact belR | with_reducible apply belA | (with_reducible refine belS ?_ ?_; focus (first | omega | (simp; done) | (simp; omega))) | with_reducible apply belN | with_reducible apply belD | with_reducible assumption))) (HW.out _) (HSm.out.mono (by omega))).mono ?_
  rintro e w5 ⟨e1, f1, e2, f2, e3, f3, rfl, hrv, hb⟩
  clear c_HBS z_HBS f_HBS c_HBY z_HBY f_HBY
  replace HBX := Lib.hid (HBX.out.keep hb)
  replace HBS := Lib.hid (HBS.out.keep hb)
  replace HBY := Lib.hid (HBY.out.keep hb)
  replace HS := Lib.hid (HS.out.below hb)
  replace HRX := Lib.hid (HRX.out.below hb)
  have HRV := Lib.hid hrv
  replace HB := Lib.hid (HB.out.trans (hb.mono HB.out.size))
  clear hrv hb
  go_upto_region 6 with fail
  refine settle (fun W => ∃ kv, kv = w5.heap.size ∧ WB W kv #[.string X.store.name, .slice e1 X.store.items.length f1, .int .i64 X.store.auto, .slice e2 X.applied.length f2, .slice e3 X.changes.length f3] ∧ WB W kx #[.string X.store.name, .slice b1 X.store.items.length d1, .int .i64 X.store.auto, .slice b2 X.applied.length d2, .slice b3 X.changes.length d3] ∧ WB W ks #[.string s.store.name, .slice a1 s.store.items.length c1, .int .i64 s.store.auto, .slice a2 s.applied.length c2, .slice a3 s.changes.length c3] ∧ WB W ky #[.int .i64 y.device, .int .i64 y.seq, .int .i64 y.key.kind, .int .i64 y.key.n, .string y.key.text, .string y.field, .int .i64 y.n] ∧ Reads DServer.rep W [.string s.store.name, .slice a1 s.store.items.length c1, .int .i64 s.store.auto, .slice a2 s.applied.length c2, .slice a3 s.changes.length c3] s ∧ Reads DServer.rep W [.string X.store.name, .slice b1 X.store.items.length d1, .int .i64 X.store.auto, .slice b2 X.applied.length d2, .slice b3 X.changes.length d3] X ∧ Reads DServer.rep W [.string X.store.name, .slice e1 X.store.items.length f1, .int .i64 X.store.auto, .slice e2 X.applied.length f2, .slice e3 X.changes.length f3] X ∧ Below w.heap.size w W) ⟨_, rfl, WB.at rfl, HBX.out.growA, HBS.out.growA, HBY.out.growA, HS.out.below (by repeat (first | with_reducible exact belR | with_reducible apply belA | (with_reducible refine belS ?_ ?_; focus (first | omega | (simp; done) | (simp; omega))) | with_reducible apply belN | with_reducible apply belD | with_reducible assumption)), HRX.out.below (by repeat (first | with_reducible exact belR | with_reducible apply belA | (with_reducible refine belS ?_ ?_; focus (first | omega | (simp; done) | (simp; omega))) | with_reducible apply belN | with_reducible apply belD | with_reducible assumption)), HRV.out.below (by repeat (first | with_reducible exact belR | with_reducible apply belA | (with_reducible refine belS ?_ ?_; focus (first | omega | (simp; done) | (simp; omega))) | with_reducible apply belN | with_reducible apply belD | with_reducible assumption)), (HB.out.trans ((belA belR : Below w5.heap.size w5 _).mono HB.out.size))⟩ ?_
  clear HBX HBS HBY HS HRX HRV HB
  rintro w6 ⟨kv, hkv, hv, hx, hs, hy, hrs, hrx, hrv, hb⟩
  rw [← hkv]
  have HBV := Lib.hid hv
  have HBX := Lib.hid hx
  have HBS := Lib.hid hs
  have HBY := Lib.hid hy
  have HS := Lib.hid hrs
  have HRX := Lib.hid hrx
  have HRV := Lib.hid hrv
  have HB := Lib.hid hb
  clear hv hx hs hy hrs hrx hrv hb hkv
  have ⟨c_HBV, z_HBV, f_HBV⟩ := HBV.out
  have ⟨c_HBX, z_HBX, f_HBX⟩ := HBX.out
  go_wp2_with fail
  refine (eqSrv _ _ X _ HRX.out HRV.out).mono ?_
  rintro e w7 ⟨rfl, hb⟩
  clear c_HBV z_HBV f_HBV c_HBX z_HBX f_HBX
  replace HBX := Lib.hid (HBX.out.keep hb)
  replace HBS := Lib.hid (HBS.out.keep hb)
  replace HBY := Lib.hid (HBY.out.keep hb)
  replace HS := Lib.hid (HS.out.below hb)
  replace HRX := Lib.hid (HRX.out.below hb)
  replace HB := Lib.hid (HB.out.trans (hb.mono HB.out.size))
  clear hb HBV HRV
  by_cases hN1 : N = 1
  case' neg =>
    have n0 : (N != 1) = true := by simpa using hN1
    have hXs : X = s := by
      have h1 := HX.out
      have h2 := HN.out
      unfold receiveF at h1
      rw [h2, if_neg hN1] at h1
      exact h1.symm
    subst hXs
    obtain ⟨D, hD⟩ : ∃ D, serverDigestF X = D := ⟨_, rfl⟩
    have HD := Lib.hid hD
    have hap := HLe.out.applied
    have hit := HLe.out.store.items
    clear hD
    go_upto_region 9 with fail
    have KX := rg_var HBX.out
    have KS := rg_var HBS.out
    refine wp_region_rg (by kernel_rfl) (by kernel_rfl) ?_
    repeat (go_big_quiet_step ((first | (go_at_call 12; exact calls_rg (eqSrv _ _ X _ (HRX.out.below (rg_below w7 _)) (HS.out.below (rg_below w7 _)))) | (go_at_call 13; exact calls_rg (digestAs _ X D HD.out _ (by first | with_reducible exact HRX.out.below (rg_below w7 _) | with_reducible exact HS.out.below (rg_below w7 _)) (by omega) (by omega))))))
    refine wpQuiet_nil ?_
    rintro _ ⟨pq, rfl⟩
    have hq := rg_below w7 pq
    go_wp2
    go_ret
    exact ⟨rfl, HB.out.trans (hq.mono HB.out.size)⟩
  subst hN1
  have hd := received HN.out
  rw [HX.out] at hd
  have HD := Lib.hid hd
  have HSX : Hid (SmallServer X 10001) := Lib.hid (by have := HSm.out.receive (y := y); rw [HX.out] at this; exact this)
  clear hd
  have ⟨c_HBX, z_HBX, f_HBX⟩ := HBX.out
  have ⟨c_HBY, z_HBY, f_HBY⟩ := HBY.out
  go_wp2_with fail
  refine (recvI _ _ X y X 2 HD.out.2.2.2.1 HD.out.2.2.1 _ HRX.out (HW.out _) (HSX.out.mono (by omega))).mono ?_
  rintro e w8 ⟨g1, h1, g2, h2, g3, h3, rfl, hrq, hb⟩
  clear c_HBX z_HBX f_HBX c_HBY z_HBY f_HBY
  replace HBX := Lib.hid (HBX.out.keep hb)
  replace HBS := Lib.hid (HBS.out.keep hb)
  replace HBY := Lib.hid (HBY.out.keep hb)
  replace HS := Lib.hid (HS.out.below hb)
  replace HRX := Lib.hid (HRX.out.below hb)
  have HRQ := Lib.hid hrq
  replace HB := Lib.hid (HB.out.trans (hb.mono HB.out.size))
  clear hrq hb
  go_upto_region 11 with fail
  refine settle (fun W => ∃ kq, kq = w8.heap.size ∧ WB W kq #[.string X.store.name, .slice g1 X.store.items.length h1, .int .i64 X.store.auto, .slice g2 X.applied.length h2, .slice g3 X.changes.length h3] ∧ WB W kx #[.string X.store.name, .slice b1 X.store.items.length d1, .int .i64 X.store.auto, .slice b2 X.applied.length d2, .slice b3 X.changes.length d3] ∧ WB W ks #[.string s.store.name, .slice a1 s.store.items.length c1, .int .i64 s.store.auto, .slice a2 s.applied.length c2, .slice a3 s.changes.length c3] ∧ WB W ky #[.int .i64 y.device, .int .i64 y.seq, .int .i64 y.key.kind, .int .i64 y.key.n, .string y.key.text, .string y.field, .int .i64 y.n] ∧ Reads DServer.rep W [.string s.store.name, .slice a1 s.store.items.length c1, .int .i64 s.store.auto, .slice a2 s.applied.length c2, .slice a3 s.changes.length c3] s ∧ Reads DServer.rep W [.string X.store.name, .slice b1 X.store.items.length d1, .int .i64 X.store.auto, .slice b2 X.applied.length d2, .slice b3 X.changes.length d3] X ∧ Reads DServer.rep W [.string X.store.name, .slice g1 X.store.items.length h1, .int .i64 X.store.auto, .slice g2 X.applied.length h2, .slice g3 X.changes.length h3] X ∧ Below w.heap.size w W) ⟨_, rfl, WB.at rfl, HBX.out.growA, HBS.out.growA, HBY.out.growA, HS.out.below (by repeat (first | with_reducible exact belR | with_reducible apply belA | (with_reducible refine belS ?_ ?_; focus (first | omega | (simp; done) | (simp; omega))) | with_reducible apply belN | with_reducible apply belD | with_reducible assumption)), HRX.out.below (by repeat (first | with_reducible exact belR | with_reducible apply belA | (with_reducible refine belS ?_ ?_; focus (first | omega | (simp; done) | (simp; omega))) | with_reducible apply belN | with_reducible apply belD | with_reducible assumption)), HRQ.out.below (by repeat (first | with_reducible exact belR | with_reducible apply belA | (with_reducible refine belS ?_ ?_; focus (first | omega | (simp; done) | (simp; omega))) | with_reducible apply belN | with_reducible apply belD | with_reducible assumption)), (HB.out.trans ((belA belR : Below w8.heap.size w8 _).mono HB.out.size))⟩ ?_
  clear HBX HBS HBY HS HRX HRQ HB
  rintro w9 ⟨kq, hkq, hq, hx, hs, hy, hrs, hrx, hrq, hb⟩
  rw [← hkq]
  have HBQ := Lib.hid hq
  have HBX := Lib.hid hx
  have HBS := Lib.hid hs
  have HBY := Lib.hid hy
  have HS := Lib.hid hrs
  have HRX := Lib.hid hrx
  have HRQ := Lib.hid hrq
  have HB := Lib.hid hb
  clear hq hx hs hy hrs hrx hrq hb hkq
  have hdv := HD.out.1
  have hsq := HD.out.2.1
  have hch := HLe.out.changes
  have n1 : ((X.changes.length : Int) == (s.changes.length : Int) + 1) = true := by rw [HD.out.2.2.2.2.2.2.1]; simp
  have hxl : X.changes.length ≤ 200 := by have := HD.out.2.2.2.2.2.2.1; omega
  obtain ⟨L1, hL1⟩ : ∃ L1, lastSeqF s (y.device + 1) = L1 := ⟨_, rfl⟩
  have HL1 := Lib.hid hL1
  have HL2 : Hid (lastSeqF X (y.device + 1) = L1) := Lib.hid (by rw [HD.out.2.2.2.2.2.2.2.2]; exact hL1)
  clear hL1
  have KQ := rg_var HBQ.out
  have KX := rg_var HBX.out
  have KS := rg_var HBS.out
  have KY := rg_var HBY.out
  refine wp_region_rg (by kernel_rfl) (by kernel_rfl) ?_
  repeat (go_big_quiet_step ((first | (go_at_call 12; exact calls_rg (eqSrv _ _ X _ (HRQ.out.below (rg_below w9 _)) (HRX.out.below (rg_below w9 _)))) | (go_at_call 15; exact calls_rg (isSrvAs _ X HD.out.2.2.2.2.2.2.2.1 _ (HRX.out.below (rg_below w9 _)))) | (go_at_call 14; first | with_reducible exact calls_rg (lastAs _ X y.device y.seq HD.out.2.2.2.2.1 _ (HRX.out.below (rg_below w9 _))) | with_reducible exact calls_rg (lastAs _ s y.device (y.seq - 1) HD.out.2.2.2.2.2.1 _ (HS.out.below (rg_below w9 _))) | with_reducible exact calls_rg (lastAs _ X (y.device + 1) L1 HL2.out _ (HRX.out.below (rg_below w9 _))) | with_reducible exact calls_rg (lastAs _ s (y.device + 1) L1 HL1.out _ (HS.out.below (rg_below w9 _)))))))
  refine wpQuiet_nil ?_
  rintro _ ⟨pq, rfl⟩
  have hq := rg_below w9 pq
  go_wp2
  go_ret
  exact ⟨rfl, HB.out.trans (hq.mono HB.out.size)⟩

end Go.Proofs.YtlfebehpmefioaaGreat
