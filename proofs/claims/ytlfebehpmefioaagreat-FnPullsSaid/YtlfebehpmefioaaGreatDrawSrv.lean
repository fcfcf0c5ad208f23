/-
 The draws of servers.
-/
import Derived.Test.YtlfebehpmefioaaGreatDrawItems
import Derived.Test.YtlfebehpmefioaaGreatReceiveS
namespace Go.Proofs.YtlfebehpmefioaaGreat
open Go.RowKit

section
variable {α : Type} {R : Rep α} {enc : α → List Value} {ok : α → Prop}

theorem wpList_push {P : Program} (w : World) {ops : Array Oper} {rest : List Oper} {o : Oper} {a : Act} {Q : Exit → Act → World → Prop} (hgd : o.guard = none) (s x : Operand) (t tx : TypeId)
  (ho : o.op = .call { callee := .builtin .append, args := #[s, x], argTypes := #[t, tx] })
  (h : FlatR R enc ok) (B : Nat) (e : TypeId) (i : TypeInfo) (z : Value) (bytes : Nat) (ht : P.underlying t = some (.slice e)) {e' : TypeId} (htx : P.underlying tx = some (.slice e')) (hi : P.info? e = some i) (hz : i.zero = some z)
  (hsize : i.size = R.n) (hby : i.bytes = bytes) (hzs : z.cells.size = R.n)
  (v : Value) (l : List α) (hv : a.eval s = v) (hown : Fresh (Rep.slice e R) B w [v] l)
  (u : α) (xs : Array Value) (t2 : TypeId) (k : Nat) (hx : a.eval x = .slice (some ⟨k, 0, none⟩) 1 1) (hk : k = w.heap.size) (hxs : xs.toList = enc u) (hok : ok u)
  (hlen : l.length + 1 ≤ 16777216) (hbytes : bytes ≤ 8388608) (hbase : B ≤ w.heap.size)
  (hgo : ∀ ao cap w', Fresh (Rep.slice e R) B w' [.slice ao (l.length + 1) cap] (l ++ [u]) → Below B w w' →
   wpList P ops Q rest (a.put o.dst (.slice ao (l.length + 1) cap)) w') : wpList P ops Q (o :: rest) a (w.alloc (.cells xs t2)) := by
 have hb : Below w.heap.size w (w.alloc (.cells xs t2)) := (Below.refl _ _).alloc (Nat.le_refl _) _
 have hmul : (l.length + 1) * bytes ≤ 16777216 * 8388608 := Nat.mul_le_mul hlen hbytes
 refine wpList_grow (w.alloc (.cells xs t2)) hgd s x t tx ho h B e i z bytes ht hi hz hsize hby hzs v l hv (hown.below hb) (.slice (some ⟨k, 0, none⟩) 1 1) [u] hx
  (lit_src' (us := [u]) (n := 1) h htx (by simpa using hxs) rfl (by simpa using hok) hk) (by simpa using hok) ?_ ?_ ?_ fun ao cap w' h1 h2 => ?_
 ·simp only [List.length_cons, List.length_nil, Nat.zero_add]; omega
 ·simp only [List.length_cons, List.length_nil, Nat.zero_add]; unfold maxLen; omega
 ·have := hb.size; omega
 ·exact hgo ao cap w' h1 ((hb.mono hbase).trans h2)

end
theorem set5s {w : World} {k : Nat} {a0 a1 a2 a3 a4 b0 b1 b2 b3 b4 : Value} (h : WB w k #[a0, a1, a2, a3, a4]) : WB (((((w.setCell ⟨k, 0, none⟩ b0).setCell ⟨k, 1, none⟩ b1).setCell ⟨k, 2, none⟩ b2).setCell ⟨k, 3, none⟩ b3).setCell ⟨k, 4, none⟩ b4) k #[b0, b1, b2, b3, b4] :=
 (((((h.setAt (i := 0) (cs' := #[b0, a1, a2, a3, a4]) (by simp) rfl).setAt (i := 1) (cs' := #[b0, b1, a2, a3, a4]) (by simp) rfl).setAt (i := 2) (cs' := #[b0, b1, b2, a3, a4]) (by simp) rfl).setAt (i := 3) (cs' := #[b0, b1, b2, b3, a4]) (by simp) rfl).setAt (i := 4) (cs' := #[b0, b1, b2, b3, b4]) (by simp) rfl)
theorem off5s {w : World} {k g : Nat} {cs : Array Value} {b0 b1 b2 b3 b4 : Value} (h : WB w k cs) (hk : k ≠ g) : WB (((((w.setCell ⟨g, 0, none⟩ b0).setCell ⟨g, 1, none⟩ b1).setCell ⟨g, 2, none⟩ b2).setCell ⟨g, 3, none⟩ b3).setCell ⟨g, 4, none⟩ b4) k cs :=
 (((((h.setOther hk).setOther hk).setOther hk).setOther hk).setOther hk)
theorem isNotes_word : isNotes ⟨#[110, 111, 116, 101, 115]⟩ = true := by
 unfold isNotes ByteArray.toList
 unfold ByteArray.toList.loop ByteArray.toList.loop ByteArray.toList.loop ByteArray.toList.loop ByteArray.toList.loop ByteArray.toList.loop
 rfl

structure SrvOk (b : Nat) (s : DServer) : Prop where
 srv : isServerF s = true
 changes : s.changes.length ≤ b
 applied : s.applied.length ≤ b
 four : lastSeqF s 4 = 0
theorem receive_applied (s : DServer) (y : DWrite) : (receiveF s y).applied.length ≤ s.applied.length + 1 := by
 unfold receiveF
 split
 ·show (markI s.applied y.device y.seq).length ≤ _
  rw [markI_len]
  split <;> omega
 ·omega
theorem SrvOk.receive {b : Nat} {s : DServer} (h : SrvOk b s) (y : DWrite) (hd : y.device ≠ 4) : SrvOk (b + 1) (receiveF s y) := by
 refine ⟨receive_server h.srv, by have := receive_changes s y; have := h.changes; omega, by have := receive_applied s y; have := h.applied; omega, ?_⟩
 unfold receiveF
 split
 ·rw [lastSeq_out h.srv, if_neg (Ne.symm hd)]; exact h.four
 ·exact h.four
theorem SrvOk.small {b : Nat} {s : DServer} (h : SrvOk b s) (hb : b ≤ 10000) : SmallServer s 10000 := ⟨SmallStore.of_store (isServer_store h.srv), by have := h.applied; omega, by have := h.changes; omega⟩
theorem writeReads (W : World) (x : DWrite) (h : x.key.text.size ≤ 20) (h' : x.field.size ≤ 20) : Reads DWrite.rep W [.int .i64 x.device, .int .i64 x.seq, .int .i64 x.key.kind, .int .i64 x.key.n, .string x.key.text, .string x.field, .int .i64 x.n] x := ⟨[], DWrite.rd.2 ⟨rfl, rfl, by unfold maxLen; omega, by unfold maxLen; omega⟩⟩

set_option maxRecDepth 100000 in
set_option maxHeartbeats 3200000 in
theorem specDrawServer (k : Kur) (w : World) (h : Cur w k) : Calls Tryz.prog 83 #[.pointer (some ⟨k.k, 0, none⟩)] w fun e w' => ∃ ds : List Value, e = .returned (.agg ds.toArray) ∧ ∃ s : DServer, Fresh DServer.rep w.heap.size w' ds s ∧ SrvOk 5 s ∧ Mov k w w' := by
 have hk := h.lt
 go_enter Tryz.func83, Tryz.ntmps83
 go_wp2_with fail
 refine (specDrawStore k _ (h.below bEl)).mono ?_
 rintro e w1 ⟨ds, rfl, s0, hf, hs, hm⟩
 obtain ⟨a1, c1, rfl⟩ := DStore.fsh hf
 have HT : Hid (WB w1 w.heap.size #[.string ⟨#[]⟩, .slice none 0 0, .int .i64 0, .slice none 0 0, .slice none 0 0]) := Lib.hid ((WB.at rfl).mov hm (by omega))
 have HM : Hid (Mov k w w1) := Lib.hid (Mov.belowL bEl hm)
 have hz1 := HT.out.lt
 have HS := Lib.hid hs
 have HF := Lib.hid (hf.mono (B' := w.heap.size + 1) (by simp))
 clear hm hf hs
 go_upto_region 2 with fail
 refine settle (fun W => ∃ kb, kb = w1.heap.size ∧ WB W kb #[.string s0.name, .slice a1 s0.items.length c1, .int .i64 s0.auto, .slice none 0 0, .slice none 0 0] ∧ WB W w.heap.size #[.string ⟨#[]⟩, .slice none 0 0, .int .i64 0, .slice none 0 0, .slice none 0 0] ∧ Owns DServer.rep (w.heap.size + 1) [k.k, kb] W [.string s0.name, .slice a1 s0.items.length c1, .int .i64 s0.auto, .slice none 0 0, .slice none 0 0] ⟨s0, [], []⟩ ∧ Mov k w W) ⟨_, rfl, WB.at rfl, HT.out.growA, Owns.server ((Owns.of HF.out (Nat.le_refl _) (by intro b hb; simp at hb; rcases hb with rfl | rfl; exact .inl (by omega); exact .inr (Nat.le_refl _))).below (belA belR)), HM.out.below bEl⟩ ?_
 clear HT HF HM
 rintro w2 ⟨kb, hkb, hx, ht, hf, hm⟩
 have hkk : w.heap.size < kb ∧ k.k < w.heap.size := by omega
 rw [← hkb]
 obtain ⟨S, hS⟩ : ∃ S : DServer, S = ⟨s0, [], []⟩ := ⟨_, rfl⟩
 have HX : Hid (WB w2 kb #[.string S.store.name, .slice a1 S.store.items.length c1, .int .i64 S.store.auto, .slice none S.applied.length 0, .slice none S.changes.length 0]) := Lib.hid (by rw [hS]; exact hx)
 have HT := Lib.hid ht
 have HF : Hid (Owns DServer.rep (w.heap.size + 1) [k.k, kb] w2 [.string S.store.name, .slice a1 S.store.items.length c1, .int .i64 S.store.auto, .slice none S.applied.length 0, .slice none S.changes.length 0] S) := Lib.hid (by rw [hS]; exact hf)
 have HM := Lib.hid hm
 have HOk : Hid (SrvOk 0 S) := Lib.hid (by rw [hS]; exact ⟨server_new HS.out.store (by rw [HS.out.name]; exact isNotes_word), Nat.le_refl _, Nat.le_refl _, rfl⟩)
 clear hx ht hf hm hkb hz1 HS hS
 go_wp2_with fail
 refine (specBelow k _ _ HM.out.cur).mono ?_
 rintro e w3 ⟨n, rfl, hn0, hn6, hm⟩
 have hn := hn6 (by decide)
 replace HX := Lib.hid (HX.out.mov hm (by omega))
 replace HT := Lib.hid (HT.out.mov hm (by omega))
 replace HF := Lib.hid (HF.out.mov hm (by simp))
 replace HM := Lib.hid (HM.out.trans hm)
 clear hm hn6
 go_wp2
 go_loopw [4] (fun i wr => ∃ (n : Int) (b : Nat) (s : DServer) (a1 : Option Addr) (c1 : Nat) (a2 : Option Addr) (c2 : Nat) (a3 : Option Addr) (c3 : Nat), i = .int .i64 n ∧ (n ≤ 100 ∧ b + n.toNat ≤ 5 ∧ SrvOk b s) ∧ WB wr kb #[.string s.store.name, .slice a1 s.store.items.length c1, .int .i64 s.store.auto, .slice a2 s.applied.length c2, .slice a3 s.changes.length c3] ∧ WB wr w.heap.size #[.string ⟨#[]⟩, .slice none 0 0, .int .i64 0, .slice none 0 0, .slice none 0 0] ∧ Owns DServer.rep (w.heap.size + 1) [k.k, kb] wr [.string s.store.name, .slice a1 s.store.items.length c1, .int .i64 s.store.auto, .slice a2 s.applied.length c2, .slice a3 s.changes.length c3] s ∧ Mov k w wr) (fun i _ => (intOf i).toNat)
 case atStart => exact ⟨n, 0, S, a1, c1, none, 0, none, 0, rfl, ⟨by omega, by omega, HOk.out⟩, HX.out, HT.out, HF.out, HM.out⟩
 case round =>
  clear HX HT HF HM HOk hn0 hn
  obtain ⟨n, b, s, a1, c1, a2, c2, a3, c3, rfl, ⟨hn, hb, hs⟩, hx, ht, hf, hm⟩ := hrel
  have HS := Lib.hid hs
  have HX := Lib.hid hx
  have HT := Lib.hid ht
  have HF := Lib.hid hf
  have HM := Lib.hid hm
  clear hs hx ht hf hm
  have hzr := HX.out.lt
  by_cases hlt : 0 < n
  ·go_wp2_with fail
   refine (specBelow k _ _ HM.out.cur).mono ?_
   rintro e w2 ⟨d, rfl, hd0, hd3, hm⟩
   have hd := hd3 (by decide)
   replace HX := Lib.hid (HX.out.mov hm (by omega))
   replace HT := Lib.hid (HT.out.mov hm (by omega))
   replace HF := Lib.hid (HF.out.mov hm (by simp))
   replace HM := Lib.hid (HM.out.trans hm)
   have hz2 := hm.size
   clear hm hd3
   go_upto_region 6 with fail
   refine wp_region_mv k [16,17] (by kernel_rfl) ?_
   intro wd hbd
   have hwz := hbd.size
   replace HX := Lib.hid (HX.out.keep hbd)
   replace HT := Lib.hid (HT.out.keep hbd)
   replace HF := Lib.hid (HF.out.below hbd)
   replace HM := Lib.hid (HM.out.below hbd)
   clear hbd
   have hne : Nonempty (Moved k wd) := ⟨⟨wd, Mov.refl HM.out.cur⟩⟩
   have K_HX := mv_var (k := k) HX.out (by omega)
   refine wpU_group (fun _ _ _ _ _ h => h) (by kernel_rfl) (mv_of (Mov.refl HM.out.cur)) [0,1,2,3,6,8,10] _ _ _ rfl (by kernel_rfl) ?_
   repeat (go_big_quiet_step (fail))
   refine wpQuiet_nil ?_
   clear K_HX
   refine wpU_one 4 rfl (by kernel_rfl) ?_
   go_wp2_with fail
   refine (specLastSeq _ s (1 + d) _ HF.out.reads).mono ?_
   rintro e w3 ⟨rfl, hb3⟩
   have m3 := Mov.below (Mov.refl HM.out.cur) hb3
   go_wp2_with fail
   refine HardPost.mk (mv_of (m3)) ?_
   have hq := lastSeq_in HS.out.srv (1 + d)
   obtain ⟨q, hqq⟩ : ∃ q, lastSeqF s (1 + d) = q := ⟨_, rfl⟩
   rw [hqq] at hq ⊢
   clear hqq
   refine wpU_group (fun _ _ _ _ _ h => h) (by kernel_rfl) (mv_of (m3)) [5] _ _ _ rfl (by kernel_rfl) ?_
   repeat (go_big_quiet_step (fail))
   refine wpQuiet_nil ?_
   refine wpU_one 7 rfl (by kernel_rfl) ?_
   go_wp2_with fail
   refine (specKeyV k _ m3.cur).mono ?_
   rintro e w4 ⟨y, rfl, hy0, hy6, hm4⟩
   have m4 := m3.trans hm4
   go_wp2_with fail
   refine HardPost.mk (mv_of (m4)) ?_
   refine wpU_one 9 rfl (by kernel_rfl) ?_
   go_wp2_with fail
   refine (specName k _ m4.cur).mono ?_
   rintro e w5 ⟨f, rfl, hf5, hm5⟩
   have m5 := m4.trans hm5
   go_wp2_with fail
   refine HardPost.mk (mv_of (m5)) ?_
   refine wpU_one 11 rfl (by kernel_rfl) ?_
   go_wp2_with fail
   refine (specBelow k _ _ m5.cur).mono ?_
   rintro e w6 ⟨m, rfl, _, _, hm6⟩
   have m6 := m5.trans hm6
   go_wp2_with fail
   refine HardPost.mk (mv_of (m6)) ?_
   refine wpU_group (fun _ _ _ _ _ h => h) (by kernel_rfl) (mv_of (m6)) [12] _ _ _ rfl (by kernel_rfl) ?_
   repeat (go_big_quiet_step (fail))
   refine wpQuiet_nil ?_
   have hz6 := m6.size
   refine wpU_one 13 rfl (by kernel_rfl) ?_
   go_wp2_with fail
   refine (specReceiveWrite _ _ s ⟨1 + d, q + 1, ⟨1, y, ⟨#[]⟩⟩, f, m⟩ _ (HF.out.mov m6 (by simp)).reads (writeReads _ ⟨1 + d, q + 1, ⟨1, y, ⟨#[]⟩⟩, f, m⟩ (by show 0 ≤ 20; decide) hf5) ((HS.out.small (by omega)).mono (by omega))).mono ?_
   rintro e w7 ⟨ds, rfl, hf7, hb7⟩
   have HS7 := Lib.hid (HS.out.receive ⟨1 + d, q + 1, ⟨1, y, ⟨#[]⟩⟩, f, m⟩ (by show 1 + d ≠ 4; omega))
   obtain ⟨z, hz⟩ : ∃ z, receiveF s ⟨1 + d, q + 1, ⟨1, y, ⟨#[]⟩⟩, f, m⟩ = z := ⟨_, rfl⟩
   rw [hz] at hf7 HS7
   clear hz
   obtain ⟨b1, d1, b2, d2, b3, d3, rfl⟩ := DServer.fsh hf7
   have m7 := m6.below hb7
   go_wp2_with fail
   refine HardPost.mk (mv_of (m7)) ?_
   refine wpU_group (fun _ _ _ _ _ h => h) (by kernel_rfl) (mv_of (m7)) [14,15,16] _ _ _ rfl (by kernel_rfl) ?_
   repeat (go_big_quiet_step (fail))
   refine wpQuiet_nil ?_
   replace HX := Lib.hid (HX.out.mov m7 (by omega))
   replace HT := Lib.hid (HT.out.mov m7 (by omega))
   replace HM := Lib.hid (HM.out.trans m7)
   have HF7 : Hid (Owns DServer.rep (w.heap.size + 1) [k.k, kb] w7 [.string z.store.name, .slice b1 z.store.items.length d1, .int .i64 z.store.auto, .slice b2 z.applied.length d2, .slice b3 z.changes.length d3] z) := Lib.hid (Owns.of hf7 (by omega) (by intro b hb; simp at hb; rcases hb with rfl | rfl <;> exact .inl (by omega)))
   clear hf7
   have ⟨c_HX, z_HX, f_HX⟩ := HX.out
   refine wpU_tail [17] _ _ _ _ rfl (by kernel_rfl) ?_
   go_wp2_with fail
   refine NoPanic.normal ?_
   go_wp2_with fail
   go_light
   exact ⟨⟨n - 1, b + 1, z, b1, d1, b2, d2, b3, d3, by go_num, ⟨by omega, by omega, HS7.out⟩, set5s HX.out, off5s HT.out (by omega), by repeat (first | with_reducible exact HF7.out | with_reducible refine Owns.set ?_ (.inl (by simp))), HM.out.low (B := w.heap.size) bEb (Nat.le_refl _) hk⟩, by simp [intOf]; omega⟩
  ·have ⟨c_HX, z_HX, f_HX⟩ := HX.out
   have ⟨c_HT, z_HT, f_HT⟩ := HT.out
   go_wp2
   exact bodyPost_ret (v := .agg #[.string s.store.name, .slice a1 s.store.items.length c1, .int .i64 s.store.auto, .slice a2 s.applied.length c2, .slice a3 s.changes.length c3]) (by simp [results, Tryz.results83, go_sem, c_HT]) rfl ⟨_, rfl, s, (Owns.fresh (K := [k.k, kb]) (B := w.heap.size + 1) (by repeat (first | with_reducible exact HF.out | with_reducible refine Owns.set ?_ (.inr (by omega))))).mono (by omega), ⟨HS.out.srv, by have := HS.out.changes; omega, by have := HS.out.applied; omega, HS.out.four⟩, HM.out.low (B := w.heap.size) bEb (Nat.le_refl _) hk⟩

structure ServerLe (s : DServer) : Prop where
 store : StoreLe s.store
 applied : s.applied.length ≤ 100
 changes : s.changes.length ≤ 100
theorem ServerLe.small {s : DServer} (h : ServerLe s) : SmallServer s 10000 := ⟨h.store.small, by have := h.applied; omega, by have := h.changes; omega⟩
theorem SrvOk.le {b : Nat} {s : DServer} (h : SrvOk b s) (hb : b ≤ 50) : ServerLe s := ⟨StoreLe.of_store (isServer_store h.srv), by have := h.applied; omega, by have := h.changes; omega⟩

section
variable {B : Nat} {L : List Nat} {w : World} {v1 v2 v3 : Value} {x : DServer}
theorem Owns.split2 (h : Owns DServer.rep B L w [.string x.store.name, v1, .int .i64 x.store.auto, v2, v3] x) : Owns (Rep.slice 89 DApplied.rep) B L w [v2] x.applied ∧ Off DStore.rep (fun b => b < B ∨ b ∈ L ∨ b ∈ v2.ownBlock.toList) w [.string x.store.name, v1, .int .i64 x.store.auto] x.store ∧ Off (Rep.slice 34 DWrite.rep) (fun b => b < B ∨ b ∈ L ∨ b ∈ v2.ownBlock.toList) w [v3] x.changes := by
 obtain ⟨fp, h, hn, hf⟩ := h
 obtain ⟨u1, u2, u3, f1, f2, f3, e, rfl, s0, r1, r2, r3⟩ := DServer.rd.1 h
 simp only [List.cons.injEq, and_true] at e
 obtain ⟨_, rfl, _, rfl, rfl⟩ := e
 have ho := own_in r2
 have hn2 := List.nodup_append.1 hn
 have hn3 := List.nodup_append.1 hn2.2.1
 obtain ⟨g1, q1, s1⟩ := Rep.weak _ r1
 obtain ⟨g3, q3, s3⟩ := Rep.weak _ r3
 refine ⟨⟨f2, r2, hn3.1, fun b hb => hf b (by simp [hb])⟩, ⟨g1, DStore.rd.2 ⟨_, _, rfl, rfl, s0, q1⟩, fun b hb hK => ?_⟩, ⟨g3, q3, fun b hb hK => ?_⟩⟩
 ·have h1 := hf b (by simp [s1 b hb])
  rcases hK with hK | hK | hK
  ·omega
  ·exact h1.2 hK
  ·exact hn2.2.2 b (s1 b hb) b (by simp [ho b hK]) rfl
 ·have h1 := hf b (by simp [s3 b hb])
  rcases hK with hK | hK | hK
  ·omega
  ·exact h1.2 hK
  ·exact hn3.2.2 b (ho b hK) b (s3 b hb) rfl
theorem Owns.split3 (h : Owns DServer.rep B L w [.string x.store.name, v1, .int .i64 x.store.auto, v2, v3] x) : Owns (Rep.slice 34 DWrite.rep) B L w [v3] x.changes ∧ Off DStore.rep (fun b => b < B ∨ b ∈ L ∨ b ∈ v3.ownBlock.toList) w [.string x.store.name, v1, .int .i64 x.store.auto] x.store ∧ Off (Rep.slice 89 DApplied.rep) (fun b => b < B ∨ b ∈ L ∨ b ∈ v3.ownBlock.toList) w [v2] x.applied := by
 obtain ⟨fp, h, hn, hf⟩ := h
 obtain ⟨u1, u2, u3, f1, f2, f3, e, rfl, s0, r1, r2, r3⟩ := DServer.rd.1 h
 simp only [List.cons.injEq, and_true] at e
 obtain ⟨_, rfl, _, rfl, rfl⟩ := e
 have ho := own_in r3
 have hn2 := List.nodup_append.1 hn
 have hn3 := List.nodup_append.1 hn2.2.1
 obtain ⟨g1, q1, s1⟩ := Rep.weak _ r1
 obtain ⟨g2, q2, s2⟩ := Rep.weak _ r2
 refine ⟨⟨f3, r3, hn3.2.1, fun b hb => hf b (by simp [hb])⟩, ⟨g1, DStore.rd.2 ⟨_, _, rfl, rfl, s0, q1⟩, fun b hb hK => ?_⟩, ⟨g2, q2, fun b hb hK => ?_⟩⟩
 ·have h1 := hf b (by simp [s1 b hb])
  rcases hK with hK | hK | hK
  ·omega
  ·exact h1.2 hK
  ·exact hn2.2.2 b (s1 b hb) b (by simp [ho b hK]) rfl
 ·have h1 := hf b (by simp [s2 b hb])
  rcases hK with hK | hK | hK
  ·omega
  ·exact h1.2 hK
  ·exact hn3.2.2 b (s2 b hb) b (ho b hK) rfl
end
theorem FlatR.off {α : Type} {R : Rep α} {enc : α → List Value} {ok : α → Prop} (h : FlatR R enc ok) {E : TypeId} {B : Nat} {K : Nat → Prop} {w : World} {v : Value} {l : List α} (hf : Fresh (Rep.slice E R) B w [v] l) (hK : ∀ b ∈ v.ownBlock.toList, ¬ K b) : Off (Rep.slice E R) K w [v] l := by
 obtain ⟨fp, hr, _, _⟩ := hf
 obtain ⟨fq, h2, hs⟩ := Rep.weak _ hr
 refine ⟨fq, h2, fun b hb => hK b ?_⟩
 have hb2 := hs b hb
 obtain ⟨v', ts, hv, rfl, rfl, h1, _, _⟩ := hr
 simp only [List.cons.injEq, and_true] at hv
 subst hv
 have e := (cells_flat h ts h1).2.1
 rw [e, List.append_nil] at hb2
 simpa [head] using hb2

set_option maxRecDepth 100000 in
set_option maxHeartbeats 6400000 in
theorem specAnyServer (k : Kur) (w : World) (h : Cur w k) : Calls Tryz.prog 40 #[.pointer (some ⟨k.k, 0, none⟩)] w fun e w' => ∃ ds : List Value, e = .returned (.agg ds.toArray) ∧ ∃ (y : DServer) (b1 : Option Addr) (d1 : Nat) (b2 : Option Addr) (d2 : Nat) (b3 : Option Addr) (d3 : Nat), ds = [.string y.store.name, .slice b1 y.store.items.length d1, .int .i64 y.store.auto, .slice b2 y.applied.length d2, .slice b3 y.changes.length d3] ∧ Off DServer.rep (fun b => b < w.heap.size) w' [.string y.store.name, .slice b1 y.store.items.length d1, .int .i64 y.store.auto, .slice b2 y.applied.length d2, .slice b3 y.changes.length d3] y ∧ ServerLe y ∧ Mov k w w' := by
 have hk := h.lt
 go_enter Tryz.func40, Tryz.ntmps40
 go_wp2_with fail
 refine (specDrawServer k _ (h.below bEl)).mono ?_
 rintro e w1 ⟨ds, rfl, s, hf, hs, hm⟩
 obtain ⟨a1, c1, a2, c2, a3, c3, rfl⟩ := DServer.fsh hf
 have HLe := Lib.hid (hs.le (by omega))
 have hap : s.applied.length ≤ 5 := hs.applied
 have hch : s.changes.length ≤ 5 := hs.changes
 have HT : Hid (WB w1 w.heap.size #[.string ⟨#[]⟩, .slice none 0 0, .int .i64 0, .slice none 0 0, .slice none 0 0]) := Lib.hid ((WB.at rfl).mov hm (by omega))
 have HM : Hid (Mov k w w1) := Lib.hid (Mov.belowL bEl hm)
 have hz1 := HT.out.lt
 have HF := Lib.hid (hf.mono (B' := w.heap.size + 1) (by simp))
 clear hm hf hs
 go_upto_region 2 with fail
 refine settle (fun W => ∃ kb, kb = w1.heap.size ∧ WB W kb #[.string s.store.name, .slice a1 s.store.items.length c1, .int .i64 s.store.auto, .slice a2 s.applied.length c2, .slice a3 s.changes.length c3] ∧ WB W w.heap.size #[.string ⟨#[]⟩, .slice none 0 0, .int .i64 0, .slice none 0 0, .slice none 0 0] ∧ Owns DServer.rep (w.heap.size + 1) [kb] W [.string s.store.name, .slice a1 s.store.items.length c1, .int .i64 s.store.auto, .slice a2 s.applied.length c2, .slice a3 s.changes.length c3] s ∧ Mov k w W) ⟨_, rfl, WB.at rfl, HT.out.growA, (Owns.of HF.out (Nat.le_refl _) (by intro b hb; simp at hb; subst hb; exact .inr (Nat.le_refl _))).below (belA belR), HM.out.below bEl⟩ ?_
 clear HT HF HM
 rintro w3 ⟨kb, hkb, hx, ht, hf, hm⟩
 have hkk : w.heap.size < kb ∧ k.k < w.heap.size := by omega
 rw [← hkb]
 have HX := Lib.hid hx
 have HT := Lib.hid ht
 have HF := Lib.hid hf
 have HM := Lib.hid hm
 clear hx ht hf hm hkb hz1
 go_wp2_with fail
 refine (specBelow k _ _ HM.out.cur).mono ?_
 rintro e w4 ⟨b, rfl, _, _, hm⟩
 have hkz := HX.out.lt
 replace HX := Lib.hid (HX.out.mov hm (by omega))
 replace HT := Lib.hid (HT.out.mov hm (by omega))
 replace HF := Lib.hid (HF.out.movL hm (by omega))
 replace HM := Lib.hid (HM.out.trans hm)
 clear hm
 have hkz4 := HX.out.lt
 cases n0 : (b == 0)
 case' false => cases n1 : (b == 1)
 case' false.false => cases n2 : (b == 2)
 case' false.false.false => cases n3 : (b == 3)
 case false.false.false.false =>
  have ⟨c_HX, z_HX, f_HX⟩ := HX.out
  have ⟨c_HT, z_HT, f_HT⟩ := HT.out
  go_upto_region 15 with fail
  refine settle (fun W => ∃ (y : DServer) (b1 : Option Addr) (d1 : Nat) (b2 : Option Addr) (d2 : Nat) (b3 : Option Addr) (d3 : Nat), ServerLe y ∧ WB W kb #[.string y.store.name, .slice b1 y.store.items.length d1, .int .i64 y.store.auto, .slice b2 y.applied.length d2, .slice b3 y.changes.length d3] ∧ WB W w.heap.size #[.string ⟨#[]⟩, .slice none 0 0, .int .i64 0, .slice none 0 0, .slice none 0 0] ∧ Off DServer.rep (fun b => b < w.heap.size + 1 ∨ b = kb) W [.string y.store.name, .slice b1 y.store.items.length d1, .int .i64 y.store.auto, .slice b2 y.applied.length d2, .slice b3 y.changes.length d3] y ∧ Mov k w W) ⟨s, a1, c1, a2, c2, a3, c3, HLe.out, HX.out.keep bEl, HT.out.keep bEl, (Off.of_owns HF.out (fun b h1 _ h2 h3 => by simp at h2; omega)).below bEl, HM.out.below bEl⟩ ?_
  clear c_HX z_HX f_HX c_HT z_HT f_HT
  clear HX HT HF HM
  rintro w9 ⟨y, b1, d1, b2, d2, b3, d3, hly, hx, ht, hf, hm⟩
  have HX := Lib.hid hx
  have HT := Lib.hid ht
  have HF := Lib.hid hf
  have HM := Lib.hid hm
  have HLy := Lib.hid hly
  clear hx ht hf hm hly
  have hkz9 := HX.out.lt
  have ⟨c_HX, z_HX, f_HX⟩ := HX.out
  have ⟨c_HT, z_HT, f_HT⟩ := HT.out
  go_wp2
  exact bodyPost_ret (v := .agg #[.string y.store.name, .slice b1 y.store.items.length d1, .int .i64 y.store.auto, .slice b2 y.applied.length d2, .slice b3 y.changes.length d3]) (by simp [results, Tryz.results40, go_sem, c_HT]) rfl ⟨_, rfl, y, b1, d1, b2, d2, b3, d3, rfl, Off.more (K := fun b => b < w.heap.size + 1 ∨ b = kb) (by repeat (first | with_reducible exact HF.out | with_reducible refine Off.set ?_ (by omega))) (fun b _ hb => by omega), HLy.out, HM.out.low (B := w.heap.size) bEb (Nat.le_refl _) hk⟩
 case true =>
  have ⟨c_HX, z_HX, f_HX⟩ := HX.out
  have ⟨c_HT, z_HT, f_HT⟩ := HT.out
  go_wp2_with fail
  refine (specAnyStore k _ HM.out.cur).mono ?_
  rintro e w5 ⟨ds, rfl, z, hfz, hzl, hm⟩
  obtain ⟨b1, d1, rfl⟩ := DStore.fsh hfz
  clear c_HX z_HX f_HX c_HT z_HT f_HT
  have hzw := HX.out.lt
  have HP := Lib.hid (Off.serverParts (Off.of_owns (K := fun b => b < w.heap.size + 1 ∨ b = kb) (HF.out.movL hm (by omega)) (fun b h1 _ h2 h3 => by simp at h2; omega)))
  have HZ : Hid (Off DStore.rep (fun b => b < w.heap.size + 1 ∨ b = kb) w5 [.string z.name, .slice b1 z.items.length d1, .int .i64 z.auto] z) := Lib.hid (Off.of hfz (fun b h1 _ h2 => by omega))
  have HL := Lib.hid hzl
  replace HX := Lib.hid (HX.out.mov hm (by omega))
  replace HT := Lib.hid (HT.out.mov hm (by omega))
  replace HM := Lib.hid (HM.out.trans hm)
  clear hm hfz hzl HF
  have hkz5 := HX.out.lt
  have ⟨c_HX, z_HX, f_HX⟩ := HX.out
  have ⟨c_HT, z_HT, f_HT⟩ := HT.out
  go_upto_region 15 with fail
  refine settle (fun W => ∃ (y : DServer) (b1 : Option Addr) (d1 : Nat) (b2 : Option Addr) (d2 : Nat) (b3 : Option Addr) (d3 : Nat), ServerLe y ∧ WB W kb #[.string y.store.name, .slice b1 y.store.items.length d1, .int .i64 y.store.auto, .slice b2 y.applied.length d2, .slice b3 y.changes.length d3] ∧ WB W w.heap.size #[.string ⟨#[]⟩, .slice none 0 0, .int .i64 0, .slice none 0 0, .slice none 0 0] ∧ Off DServer.rep (fun b => b < w.heap.size + 1 ∨ b = kb) W [.string y.store.name, .slice b1 y.store.items.length d1, .int .i64 y.store.auto, .slice b2 y.applied.length d2, .slice b3 y.changes.length d3] y ∧ Mov k w W) ⟨⟨z, s.applied, s.changes⟩, b1, d1, a2, c2, a3, c3, ⟨HL.out, HLe.out.applied, HLe.out.changes⟩, ((HX.out.setAt (i := 0) (cs' := #[.string z.name, .slice a1 s.store.items.length c1, .int .i64 s.store.auto, .slice a2 s.applied.length c2, .slice a3 s.changes.length c3]) (by simp) rfl).setAt (i := 1) (cs' := #[.string z.name, .slice b1 z.items.length d1, .int .i64 s.store.auto, .slice a2 s.applied.length c2, .slice a3 s.changes.length c3]) (by simp) rfl).setAt (i := 2) (cs' := #[.string z.name, .slice b1 z.items.length d1, .int .i64 z.auto, .slice a2 s.applied.length c2, .slice a3 s.changes.length c3]) (by simp) rfl, ((HT.out.setOther (by omega)).setOther (by omega)).setOther (by omega), (((Off.server HZ.out HP.out.2.1 HP.out.2.2).set (g := kb) (.inr rfl)).set (g := kb) (.inr rfl)).set (g := kb) (.inr rfl), HM.out.low (B := w.heap.size) bEb (Nat.le_refl _) hk⟩ ?_
  clear c_HX z_HX f_HX c_HT z_HT f_HT
  clear HX HT HM HP HZ HL
  rintro w9 ⟨y, b1, d1, b2, d2, b3, d3, hly, hx, ht, hf, hm⟩
  have HX := Lib.hid hx
  have HT := Lib.hid ht
  have HF := Lib.hid hf
  have HM := Lib.hid hm
  have HLy := Lib.hid hly
  clear hx ht hf hm hly
  have hkz9 := HX.out.lt
  have ⟨c_HX, z_HX, f_HX⟩ := HX.out
  have ⟨c_HT, z_HT, f_HT⟩ := HT.out
  go_wp2
  exact bodyPost_ret (v := .agg #[.string y.store.name, .slice b1 y.store.items.length d1, .int .i64 y.store.auto, .slice b2 y.applied.length d2, .slice b3 y.changes.length d3]) (by simp [results, Tryz.results40, go_sem, c_HT]) rfl ⟨_, rfl, y, b1, d1, b2, d2, b3, d3, rfl, Off.more (K := fun b => b < w.heap.size + 1 ∨ b = kb) (by repeat (first | with_reducible exact HF.out | with_reducible refine Off.set ?_ (by omega))) (fun b _ hb => by omega), HLy.out, HM.out.low (B := w.heap.size) bEb (Nat.le_refl _) hk⟩
 case false.true =>
  obtain ⟨q2, q1, q3⟩ := HF.out.split2
  have HI := Lib.hid q2
  have HQ1 := Lib.hid q1
  have HQ3 := Lib.hid q3
  clear q1 q2 q3
  have hown : Hid (∀ b ∈ (Value.slice a2 s.applied.length c2).ownBlock.toList, (w.heap.size + 1 ≤ b ∧ b ≠ kb) ∧ b < w4.heap.size) := Lib.hid fun b hb => by
   obtain ⟨fp, r, _, hge⟩ := HI.out
   have h1 := hge b (own_in r b hb)
   have h2 := Rep.lt _ r b (own_in r b hb)
   simp at h1
   exact ⟨h1, h2⟩
  have HN : Hid (kb ∉ (Value.slice a2 s.applied.length c2).ownBlock.toList) := Lib.hid fun hm => (hown.out kb hm).1.2 rfl
  obtain ⟨i0, hi, hz0, hz8, hz9⟩ := info_parts infoApplied
  go_upto_region 6 with fail
  refine wp_region_mvf k (Value.slice a2 s.applied.length c2).ownBlock.toList [12] (by kernel_rfl) ?_
  intro wd hbd
  have hwz := hbd.size
  replace HX := Lib.hid (HX.out.keep hbd)
  replace HT := Lib.hid (HT.out.keep hbd)
  replace HI := Lib.hid (HI.out.below hbd)
  replace HQ1 := Lib.hid (HQ1.out.below hbd)
  replace HQ3 := Lib.hid (HQ3.out.below hbd)
  replace HM := Lib.hid (HM.out.below hbd)
  clear hbd HF
  have hne : Nonempty (MovedF k (Value.slice a2 s.applied.length c2).ownBlock.toList wd) := ⟨⟨wd, MovF.of (Mov.refl HM.out.cur)⟩⟩
  have KX := mvf_var (k := k) (fp := (Value.slice a2 s.applied.length c2).ownBlock.toList) HX.out (by omega) HN.out
  refine wpU_group (fun _ _ _ _ _ h => h) (by kernel_rfl) (mvf_of (MovF.of (Mov.refl HM.out.cur))) [0,1,2,5] _ _ _ rfl (by kernel_rfl) ?_
  repeat (go_big_quiet_step (fail))
  refine wpQuiet_nil ?_
  clear KX
  have hkd := HM.out.cur.lt
  have m1 : Mov k wd (wd.alloc (.cells #[.int .i64 0, .int .i64 2, .int .i64 9, .int .i64 1000001] 3)) := Mov.below (Mov.refl HM.out.cur) (belA belR)
  have m2 : Mov k wd (wd.alloc (.cells #[.int .i64 0, .int .i64 (-1)] 3)) := Mov.below (Mov.refl HM.out.cur) (belA belR)
  refine wpU_two 3 6 rfl rfl (by kernel_rfl) ?ta ?tb
  case' ta =>
   go_wp2_with fail
   refine HardPost.mk (mvf_of (MovF.of m1)) ?_
   have r1 := lit_off FlatR.int (E := 3) (us := [0, 2, 9, 1000001]) (k := k) (w := wd) rfl hkd rfl rfl (by decide) (fun _ _ => trivial)
   refine wpU_two 4 6 rfl rfl (by kernel_rfl) ?taa ?tab
  case' taa =>
   go_wp2_with fail
   refine (specDrawInt k _ [0, 2, 9, 1000001] _ m1.cur r1 (by decide)).mono ?_
   rintro e w5 ⟨f, rfl, hf5, hm5⟩
   have mm5 := m1.trans hm5
   go_wp2_with fail
   refine HardPost.mk (mvf_of (MovF.of mm5)) ?_
   refine wpU_one 6 rfl (by kernel_rfl) ?_
   go_wp2_with fail
   have mm6 := mm5.below (c := w5.alloc (.cells #[.int .i64 0, .int .i64 (-1)] 3)) (belA belR)
   refine HardPost.mk (mvf_of (MovF.of mm6)) ?_
   have hro := lit_off FlatR.int (E := 3) (us := [0, -1]) (k := k) (w := w5) rfl mm5.cur.lt rfl rfl (by decide) (fun _ _ => trivial)
  case' tab =>
   go_wp2_with fail
   have m3 := m1.below (c := (wd.alloc (.cells #[.int .i64 0, .int .i64 2, .int .i64 9, .int .i64 1000001] 3)).alloc (.cells #[.int .i64 0, .int .i64 (-1)] 3)) (belA belR)
   refine HardPost.mk (mvf_of (MovF.of m3)) ?_
   have r2 := lit_off FlatR.int (E := 3) (us := [0, -1]) (k := k) (w := wd.alloc (.cells #[.int .i64 0, .int .i64 2, .int .i64 9, .int .i64 1000001] 3)) (kb := wd.heap.size + 1) (by simp) m1.cur.lt rfl rfl (by decide) (fun _ _ => trivial)
   refine wpU_one 4 rfl (by kernel_rfl) ?_
   go_wp2_with fail
   refine (specDrawInt k _ [0, 2, 9, 1000001] _ m3.cur (r1.below (belA belR)) (by decide)).mono ?_
   rintro e w5 ⟨f, rfl, hf5, hm5⟩
   have mm6 := m3.trans hm5
   go_wp2_with fail
   refine HardPost.mk (mvf_of (MovF.of mm6)) ?_
   have hro := r2.mov hm5
  case' tb =>
   go_wp2_with fail
   refine HardPost.mk (mvf_of (MovF.of m2)) ?_
   have r2 := lit_off FlatR.int (E := 3) (us := [0, -1]) (k := k) (w := wd) rfl hkd rfl rfl (by decide) (fun _ _ => trivial)
   refine wpU_one 3 rfl (by kernel_rfl) ?_
   go_wp2_with fail
   have m3 := m2.below (c := (wd.alloc (.cells #[.int .i64 0, .int .i64 (-1)] 3)).alloc (.cells #[.int .i64 0, .int .i64 2, .int .i64 9, .int .i64 1000001] 3)) (belA belR)
   refine HardPost.mk (mvf_of (MovF.of m3)) ?_
   have r1 := lit_off FlatR.int (E := 3) (us := [0, 2, 9, 1000001]) (k := k) (w := wd.alloc (.cells #[.int .i64 0, .int .i64 (-1)] 3)) (kb := wd.heap.size + 1) (by simp) m2.cur.lt rfl rfl (by decide) (fun _ _ => trivial)
   refine wpU_one 4 rfl (by kernel_rfl) ?_
   go_wp2_with fail
   refine (specDrawInt k _ [0, 2, 9, 1000001] _ m3.cur r1 (by decide)).mono ?_
   rintro e w5 ⟨f, rfl, hf5, hm5⟩
   have mm6 := m3.trans hm5
   go_wp2_with fail
   refine HardPost.mk (mvf_of (MovF.of mm6)) ?_
   have hro := (r2.below (belA belR)).mov hm5
  all_goals
   refine wpU_one 7 rfl (by kernel_rfl) ?_
   go_wp2_with fail
   refine (specDrawInt k _ [0, -1] _ mm6.cur hro (by decide)).mono ?_
   rintro e w7 ⟨v, rfl, _, hm7⟩
   have mm7 := mm6.trans hm7
   go_wp2_with fail
   refine HardPost.mk (mvf_of (MovF.of mm7)) ?_
   refine wpU_group (fun _ _ _ _ _ h => h) (by kernel_rfl) (mvf_of (MovF.of mm7)) [8] _ _ _ rfl (by kernel_rfl) ?_
   repeat (go_big_quiet_step (fail))
   refine wpQuiet_nil ?_
   refine wpU_one 9 rfl (by kernel_rfl) ?_
   go_wp2_with fail
   refine HardPost.mk (mvf_of ((MovF.of mm7).below (belA belR))) ?_
   refine wpU_one 10 rfl (by kernel_rfl) ?_
   have hz6 := mm7.size
   refine wpList_pushC _ rfl _ _ 27 27 rfl DApplied.flat (w.heap.size + 1) 89 i0 _ _ Tryz.underlying27 Tryz.underlying27 hi hz0 hz8 hz9 rfl (.slice a2 s.applied.length c2) s.applied rfl (HI.out.movL mm7 (by omega)).fresh (⟨f, v⟩ : DApplied) _ _ _ rfl rfl rfl trivial (by omega) (by decide) (by omega) ?_
   intro ao2 cap2 w8 hf8 hg8 hnew8
   go_wp2_with fail
   have mf7 := ((MovF.of mm7).below (belA belR)).chg (Chg.of_grown hg8) (fun b hb => by have := hown.out b hb; omega)
   refine HardPost.mk (mvf_of mf7) ?_
   refine wpU_group (fun _ _ _ _ _ h => h) (by kernel_rfl) (mvf_of mf7) [11] _ _ _ rfl (by kernel_rfl) ?_
   repeat (go_big_quiet_step (fail))
   refine wpQuiet_nil ?_
   have HX7 := Lib.hid (HX.out.chg mf7.1 (by have := HN.out; simp; exact ⟨by omega, by simpa using this⟩))
   have HT7 := Lib.hid (HT.out.chg mf7.1 (by simp; exact ⟨by omega, fun hm => by have := hown.out _ (by simpa using hm); omega⟩))
   have HM7 := Lib.hid (mf7.low HM.out (fun b hb => by have := hown.out b hb; omega))
   have hkz7 := HX.out.lt
   have HZ7 : Hid (Off (Rep.slice 89 DApplied.rep) (fun b => b < w.heap.size + 1 ∨ b = kb) w8 [.slice ao2 (s.applied.length + 1) cap2] (s.applied ++ [⟨f, v⟩])) := Lib.hid (DApplied.flat.off hf8 fun b hb hK => by
    have hb2 : (Value.slice ao2 (s.applied.length + 1) cap2).ownBlock = some b := by simpa using hb
    rcases hnew8 b hb2 with e | e
    ·have := hown.out b (by simp [e]); omega
    ·omega)
   have HA7 := Lib.hid ((HQ1.out.chg mf7.1 (by intro b hb; simp at hb; rcases hb with rfl | hb; exact .inl (by omega); exact .inr (.inr (by simpa using hb)))).more (K' := fun b => b < w.heap.size + 1 ∨ b = kb) (fun b _ hb => by rcases hb with hb | hb; exact .inl hb; exact .inr (.inl (by simp [hb]))))
   have HC7 := Lib.hid ((HQ3.out.chg mf7.1 (by intro b hb; simp at hb; rcases hb with rfl | hb; exact .inl (by omega); exact .inr (.inr (by simpa using hb)))).more (K' := fun b => b < w.heap.size + 1 ∨ b = kb) (fun b _ hb => by rcases hb with hb | hb; exact .inl hb; exact .inr (.inl (by simp [hb]))))
   have HLL : Hid ((s.applied ++ [(⟨f, v⟩ : DApplied)]).length = s.applied.length + 1) := Lib.hid (by simp)
   have HL7 : Hid (ServerLe ⟨s.store, s.applied ++ [⟨f, v⟩], s.changes⟩) := Lib.hid ⟨HLe.out.store, by show (s.applied ++ [(⟨f, v⟩ : DApplied)]).length ≤ 100; rw [HLL.out]; omega, HLe.out.changes⟩
   clear hf8 hg8 hnew8 mf7
   have ⟨c_HX7, z_HX7, f_HX7⟩ := HX7.out
   refine wpU_tail [12] _ _ _ _ rfl (by kernel_rfl) ?_
   go_wp2_with fail
   refine NoPanic.normal ?_
   clear c_HX7 z_HX7 f_HX7
   go_upto_region 15 with fail
   refine settle (fun W => ∃ (y : DServer) (b1 : Option Addr) (d1 : Nat) (b2 : Option Addr) (d2 : Nat) (b3 : Option Addr) (d3 : Nat), ServerLe y ∧ WB W kb #[.string y.store.name, .slice b1 y.store.items.length d1, .int .i64 y.store.auto, .slice b2 y.applied.length d2, .slice b3 y.changes.length d3] ∧ WB W w.heap.size #[.string ⟨#[]⟩, .slice none 0 0, .int .i64 0, .slice none 0 0, .slice none 0 0] ∧ Off DServer.rep (fun b => b < w.heap.size + 1 ∨ b = kb) W [.string y.store.name, .slice b1 y.store.items.length d1, .int .i64 y.store.auto, .slice b2 y.applied.length d2, .slice b3 y.changes.length d3] y ∧ Mov k w W) ⟨⟨s.store, s.applied ++ [⟨f, v⟩], s.changes⟩, a1, c1, ao2, cap2, a3, c3, HL7.out, by rw [HLL.out]; exact HX7.out.setAt (i := 3) (by simp) rfl, HT7.out.setOther (by omega), by rw [HLL.out]; exact (Off.server HA7.out HZ7.out HC7.out).set (g := kb) (.inr rfl), HM7.out.low (B := w.heap.size) bEb (Nat.le_refl _) hk⟩ ?_
   clear HX HT HM HX7 HT7 HM7 HZ7 HA7 HC7 HLL hown hro mm6 mm7 hm7 hz6 hne HI HQ1 HQ3 HL7 HN m1 m2 hkd
   rintro w9 ⟨y, b1, d1, b2, d2, b3, d3, hly, hx, ht, hf, hm⟩
   have HX := Lib.hid hx
   have HT := Lib.hid ht
   have HF := Lib.hid hf
   have HM := Lib.hid hm
   have HLy := Lib.hid hly
   clear hx ht hf hm hly
   have hkz9 := HX.out.lt
   have ⟨c_HX, z_HX, f_HX⟩ := HX.out
   have ⟨c_HT, z_HT, f_HT⟩ := HT.out
   go_wp2
   exact bodyPost_ret (v := .agg #[.string y.store.name, .slice b1 y.store.items.length d1, .int .i64 y.store.auto, .slice b2 y.applied.length d2, .slice b3 y.changes.length d3]) (by simp [results, Tryz.results40, go_sem, c_HT]) rfl ⟨_, rfl, y, b1, d1, b2, d2, b3, d3, rfl, Off.more (K := fun b => b < w.heap.size + 1 ∨ b = kb) (by repeat (first | with_reducible exact HF.out | with_reducible refine Off.set ?_ (by omega))) (fun b _ hb => by omega), HLy.out, HM.out.low (B := w.heap.size) bEb (Nat.le_refl _) hk⟩
 case false.false.true =>
  obtain ⟨q3, q1, q2⟩ := HF.out.split3
  have HI := Lib.hid q3
  have HQ1 := Lib.hid q1
  have HQ2 := Lib.hid q2
  clear q1 q2 q3
  have hown : Hid (∀ b ∈ (Value.slice a3 s.changes.length c3).ownBlock.toList, (w.heap.size + 1 ≤ b ∧ b ≠ kb) ∧ b < w4.heap.size) := Lib.hid fun b hb => by
   obtain ⟨fp, r, _, hge⟩ := HI.out
   have h1 := hge b (own_in r b hb)
   have h2 := Rep.lt _ r b (own_in r b hb)
   simp at h1
   exact ⟨h1, h2⟩
  have HN : Hid (kb ∉ (Value.slice a3 s.changes.length c3).ownBlock.toList) := Lib.hid fun hm => (hown.out kb hm).1.2 rfl
  obtain ⟨i0, hi, hz0, hz8, hz9⟩ := info_parts infoWrite
  go_upto_region 8 with fail
  refine wp_region_mvf k (Value.slice a3 s.changes.length c3).ownBlock.toList [7] (by kernel_rfl) ?_
  intro wd hbd
  have hwz := hbd.size
  replace HX := Lib.hid (HX.out.keep hbd)
  replace HT := Lib.hid (HT.out.keep hbd)
  replace HI := Lib.hid (HI.out.below hbd)
  replace HQ1 := Lib.hid (HQ1.out.below hbd)
  replace HQ2 := Lib.hid (HQ2.out.below hbd)
  replace HM := Lib.hid (HM.out.below hbd)
  clear hbd HF
  have hne : Nonempty (MovedF k (Value.slice a3 s.changes.length c3).ownBlock.toList wd) := ⟨⟨wd, MovF.of (Mov.refl HM.out.cur)⟩⟩
  have KX := mvf_var (k := k) (fp := (Value.slice a3 s.changes.length c3).ownBlock.toList) HX.out (by omega) HN.out
  refine wpU_group (fun _ _ _ _ _ h => h) (by kernel_rfl) (mvf_of (MovF.of (Mov.refl HM.out.cur))) [0,1,2] _ _ _ rfl (by kernel_rfl) ?_
  repeat (go_big_quiet_step (fail))
  refine wpQuiet_nil ?_
  clear KX
  refine wpU_one 3 rfl (by kernel_rfl) ?_
  go_wp2_with fail
  refine (specWrite k _ HM.out.cur).mono ?_
  rintro e w7 ⟨u, rfl, ⟨hu1, hu2⟩, mm7⟩
  go_wp2_with fail
  refine HardPost.mk (mvf_of (MovF.of mm7)) ?_
  refine wpU_one 4 rfl (by kernel_rfl) ?_
  go_wp2_with fail
  refine HardPost.mk (mvf_of ((MovF.of mm7).below (belA belR))) ?_
  refine wpU_one 5 rfl (by kernel_rfl) ?_
  have hz6 := mm7.size
  refine wpList_pushC _ rfl _ _ 28 28 rfl DWrite.flat (w.heap.size + 1) 34 i0 _ _ Tryz.underlying28 Tryz.underlying28 hi hz0 hz8 hz9 rfl (.slice a3 s.changes.length c3) s.changes rfl (HI.out.movL mm7 (by omega)).fresh u _ _ _ rfl rfl rfl ⟨by unfold maxLen; omega, by unfold maxLen; omega⟩ (by omega) (by decide) (by omega) ?_
  intro ao2 cap2 w8 hf8 hg8 hnew8
  go_wp2_with fail
  have mf7 := ((MovF.of mm7).below (belA belR)).chg (Chg.of_grown hg8) (fun b hb => by have := hown.out b hb; omega)
  refine HardPost.mk (mvf_of mf7) ?_
  refine wpU_group (fun _ _ _ _ _ h => h) (by kernel_rfl) (mvf_of mf7) [6] _ _ _ rfl (by kernel_rfl) ?_
  repeat (go_big_quiet_step (fail))
  refine wpQuiet_nil ?_
  have HX7 := Lib.hid (HX.out.chg mf7.1 (by have := HN.out; simp; exact ⟨by omega, by simpa using this⟩))
  have HT7 := Lib.hid (HT.out.chg mf7.1 (by simp; exact ⟨by omega, fun hm => by have := hown.out _ (by simpa using hm); omega⟩))
  have HM7 := Lib.hid (mf7.low HM.out (fun b hb => by have := hown.out b hb; omega))
  have hkz7 := HX.out.lt
  have HZ7 : Hid (Off (Rep.slice 34 DWrite.rep) (fun b => b < w.heap.size + 1 ∨ b = kb) w8 [.slice ao2 (s.changes.length + 1) cap2] (s.changes ++ [u])) := Lib.hid (DWrite.flat.off hf8 fun b hb hK => by
   have hb2 : (Value.slice ao2 (s.changes.length + 1) cap2).ownBlock = some b := by simpa using hb
   rcases hnew8 b hb2 with e | e
   ·have := hown.out b (by simp [e]); omega
   ·omega)
  have HA7 := Lib.hid ((HQ1.out.chg mf7.1 (by intro b hb; simp at hb; rcases hb with rfl | hb; exact .inl (by omega); exact .inr (.inr (by simpa using hb)))).more (K' := fun b => b < w.heap.size + 1 ∨ b = kb) (fun b _ hb => by rcases hb with hb | hb; exact .inl hb; exact .inr (.inl (by simp [hb]))))
  have HC7 := Lib.hid ((HQ2.out.chg mf7.1 (by intro b hb; simp at hb; rcases hb with rfl | hb; exact .inl (by omega); exact .inr (.inr (by simpa using hb)))).more (K' := fun b => b < w.heap.size + 1 ∨ b = kb) (fun b _ hb => by rcases hb with hb | hb; exact .inl hb; exact .inr (.inl (by simp [hb]))))
  have HLL : Hid ((s.changes ++ [u]).length = s.changes.length + 1) := Lib.hid (by simp)
  have HL7 : Hid (ServerLe ⟨s.store, s.applied, s.changes ++ [u]⟩) := Lib.hid ⟨HLe.out.store, HLe.out.applied, by show (s.changes ++ [u]).length ≤ 100; rw [HLL.out]; omega⟩
  clear hf8 hg8 hnew8 mf7
  have ⟨c_HX7, z_HX7, f_HX7⟩ := HX7.out
  refine wpU_tail [7] _ _ _ _ rfl (by kernel_rfl) ?_
  go_wp2_with fail
  refine NoPanic.normal ?_
  clear c_HX7 z_HX7 f_HX7
  go_upto_region 15 with fail
  refine settle (fun W => ∃ (y : DServer) (b1 : Option Addr) (d1 : Nat) (b2 : Option Addr) (d2 : Nat) (b3 : Option Addr) (d3 : Nat), ServerLe y ∧ WB W kb #[.string y.store.name, .slice b1 y.store.items.length d1, .int .i64 y.store.auto, .slice b2 y.applied.length d2, .slice b3 y.changes.length d3] ∧ WB W w.heap.size #[.string ⟨#[]⟩, .slice none 0 0, .int .i64 0, .slice none 0 0, .slice none 0 0] ∧ Off DServer.rep (fun b => b < w.heap.size + 1 ∨ b = kb) W [.string y.store.name, .slice b1 y.store.items.length d1, .int .i64 y.store.auto, .slice b2 y.applied.length d2, .slice b3 y.changes.length d3] y ∧ Mov k w W) ⟨⟨s.store, s.applied, s.changes ++ [u]⟩, a1, c1, a2, c2, ao2, cap2, HL7.out, by rw [HLL.out]; exact HX7.out.setAt (i := 4) (by simp) rfl, HT7.out.setOther (by omega), by rw [HLL.out]; exact (Off.server HA7.out HC7.out HZ7.out).set (g := kb) (.inr rfl), HM7.out.low (B := w.heap.size) bEb (Nat.le_refl _) hk⟩ ?_
  clear HX HT HM HX7 HT7 HM7 HZ7 HA7 HC7 HLL hown mm7 hz6 hne HI HQ1 HQ2 HL7 HN
  rintro w9 ⟨y, b1, d1, b2, d2, b3, d3, hly, hx, ht, hf, hm⟩
  have HX := Lib.hid hx
  have HT := Lib.hid ht
  have HF := Lib.hid hf
  have HM := Lib.hid hm
  have HLy := Lib.hid hly
  clear hx ht hf hm hly
  have hkz9 := HX.out.lt
  have ⟨c_HX, z_HX, f_HX⟩ := HX.out
  have ⟨c_HT, z_HT, f_HT⟩ := HT.out
  go_wp2
  exact bodyPost_ret (v := .agg #[.string y.store.name, .slice b1 y.store.items.length d1, .int .i64 y.store.auto, .slice b2 y.applied.length d2, .slice b3 y.changes.length d3]) (by simp [results, Tryz.results40, go_sem, c_HT]) rfl ⟨_, rfl, y, b1, d1, b2, d2, b3, d3, rfl, Off.more (K := fun b => b < w.heap.size + 1 ∨ b = kb) (by repeat (first | with_reducible exact HF.out | with_reducible refine Off.set ?_ (by omega))) (fun b _ hb => by omega), HLy.out, HM.out.low (B := w.heap.size) bEb (Nat.le_refl _) hk⟩
 case false.false.false.true =>
  have HP := Lib.hid (Off.serverParts (Off.of_owns (K := fun b => b < w.heap.size + 1 ∨ b = kb) HF.out (fun b h1 _ h2 h3 => by simp at h2; omega)))
  obtain ⟨i0, hi, hz0, hz1, hz2⟩ := info_parts infoApplied
  have ⟨c_HX, z_HX, f_HX⟩ := HX.out
  go_wp2
  clear c_HX z_HX f_HX
  refine settle (fun W => WB W kb #[.string s.store.name, .slice a1 s.store.items.length c1, .int .i64 s.store.auto, .slice none 0 0, .slice a3 s.changes.length c3] ∧ WB W w.heap.size #[.string ⟨#[]⟩, .slice none 0 0, .int .i64 0, .slice none 0 0, .slice none 0 0] ∧ Off DStore.rep (fun b => b < w.heap.size + 1 ∨ b = kb) W [.string s.store.name, .slice a1 s.store.items.length c1, .int .i64 s.store.auto] s.store ∧ Off (Rep.slice 34 DWrite.rep) (fun b => b < w.heap.size + 1 ∨ b = kb) W [.slice a3 s.changes.length c3] s.changes ∧ Mov k w W) ⟨HX.out.setAt (i := 3) (by simp) rfl, HT.out.setOther (by omega), HP.out.1.set (g := kb) (.inr rfl), HP.out.2.2.set (g := kb) (.inr rfl), HM.out.low (B := w.heap.size) bEb (Nat.le_refl _) hk⟩ ?_
  clear HX HT HF HP HM hkz4 hkz
  rintro w5 ⟨hx, ht, h1, h3, hm⟩
  have HX := Lib.hid hx
  have HT := Lib.hid ht
  have H1 := Lib.hid (h1.more (K' := fun b => b < w.heap.size + 1 ∨ b = kb ∨ w5.heap.size ≤ b) (fun b _ hb => by omega))
  have H3 := Lib.hid (h3.more (K' := fun b => b < w.heap.size + 1 ∨ b = kb ∨ w5.heap.size ≤ b) (fun b _ hb => by omega))
  have HM := Lib.hid hm
  have hkz5 := HX.out.lt
  clear hx ht h1 h3 hm
  go_loopw [4] (fun i wr => ∃ (l : List DApplied) (a2 : Option Addr) (c2 : Nat), l.length ≤ 60 ∧ i = .int .i64 (4 + (l.length : Int)) ∧ WB wr kb #[.string s.store.name, .slice a1 s.store.items.length c1, .int .i64 s.store.auto, .slice a2 l.length c2, .slice a3 s.changes.length c3] ∧ WB wr w.heap.size #[.string ⟨#[]⟩, .slice none 0 0, .int .i64 0, .slice none 0 0, .slice none 0 0] ∧ Fresh (Rep.slice 89 DApplied.rep) w5.heap.size wr [.slice a2 l.length c2] l ∧ Off DStore.rep (fun b => b < w.heap.size + 1 ∨ b = kb ∨ w5.heap.size ≤ b) wr [.string s.store.name, .slice a1 s.store.items.length c1, .int .i64 s.store.auto] s.store ∧ Off (Rep.slice 34 DWrite.rep) (fun b => b < w.heap.size + 1 ∨ b = kb ∨ w5.heap.size ≤ b) wr [.slice a3 s.changes.length c3] s.changes ∧ Mov k w wr ∧ w5.heap.size ≤ wr.heap.size) (fun i _ => 64 - (intOf i).toNat)
  case atStart => exact ⟨[], none, 0, by decide, rfl, HX.out, HT.out, Fresh.nil, H1.out, H3.out, HM.out, Nat.le_refl _⟩
  case round =>
   clear HX HT H1 H3 HM
   obtain ⟨l, a2, c2, hl, rfl, hx, ht, hf, h1, h3, hm, hw5⟩ := hrel
   have HX := Lib.hid hx
   have HT := Lib.hid ht
   have HF := Lib.hid hf
   have H1 := Lib.hid h1
   have H3 := Lib.hid h3
   have HM := Lib.hid hm
   clear hx ht hf h1 h3 hm
   have hzr := HX.out.lt
   by_cases hlt : l.length < 60
   ·have i2 : (4 : Int) + (l.length : Int) < 64 := by omega
    have ⟨c_HX, z_HX, f_HX⟩ := HX.out
    go_wp2_with (at_builtin; refine wpList_push _ rfl _ _ 27 27 rfl DApplied.flat w5.heap.size 89 i0 _ _ Tryz.underlying27 Tryz.underlying27 hi hz0 hz1 hz2 rfl _ _ rfl (HF.out.below bEl) (⟨4 + (l.length : Int), 0⟩ : DApplied) _ _ _ rfl ?p0 rfl trivial ?p1 ?p2 ?p3 ?_)
    case p0 => first | rfl | simp
    case p1 => omega
    case p2 => decide
    case p3 => first | omega | (simp; omega)
    intro ao' cap' w6 hf6 hb6
    clear c_HX z_HX f_HX
    have hb7 : Below w5.heap.size wr w6 := Below.trans bEb hb6
    replace HX := Lib.hid (HX.out.grow hb7 (by omega))
    replace HT := Lib.hid (HT.out.grow hb7 (by omega))
    replace H1 := Lib.hid (H1.out.low hb7 (fun b hb => .inr (.inr hb)))
    replace H3 := Lib.hid (H3.out.low hb7 (fun b hb => .inr (.inr hb)))
    replace HM := Lib.hid (HM.out.low hb7 (by omega) hk)
    have HF6 := Lib.hid hf6
    have hz6 := hb7.size
    clear hf6 hb6 hb7 HF
    have ⟨c_HX, z_HX, f_HX⟩ := HX.out
    go_wp2
    clear c_HX z_HX f_HX
    go_light
    refine ⟨⟨l ++ [⟨4 + (l.length : Int), 0⟩], ao', cap', by simp; omega, by simp; first | rfl | omega | go_num, ?_, HT.out.setOther (by omega), ?_, H1.out.set (g := kb) (.inr (.inl rfl)), H3.out.set (g := kb) (.inr (.inl rfl)), HM.out.low (B := w.heap.size) bEb (Nat.le_refl _) hk, by simp; omega⟩, by simp [intOf]; omega⟩
    ·have e : (l ++ [(⟨4 + (l.length : Int), 0⟩ : DApplied)]).length = l.length + 1 := by simp
     rw [e]; exact HX.out.setAt (i := 3) (by simp) rfl
    ·have e : (l ++ [(⟨4 + (l.length : Int), 0⟩ : DApplied)]).length = l.length + 1 := by simp
     rw [e]; exact HF6.out.setLow (by omega)
   ·have i2 : ¬ (4 : Int) + (l.length : Int) < 64 := by omega
    have HFl : Hid (Off (Rep.slice 89 DApplied.rep) (fun b => b < w.heap.size + 1 ∨ b = kb) wr [.slice a2 l.length c2] l) := Lib.hid (Off.of HF.out (fun b h1 _ h2 => by omega))
    have HFF := Lib.hid (Off.server (H1.out.more (K' := fun b => b < w.heap.size + 1 ∨ b = kb) (fun b _ hb => by omega)) HFl.out (H3.out.more (K' := fun b => b < w.heap.size + 1 ∨ b = kb) (fun b _ hb => by omega)))
    clear HF HFl H1 H3
    have ⟨c_HX, z_HX, f_HX⟩ := HX.out
    have ⟨c_HT, z_HT, f_HT⟩ := HT.out
    go_wp2
    exact bodyPost_ret (v := .agg #[.string s.store.name, .slice a1 s.store.items.length c1, .int .i64 s.store.auto, .slice a2 l.length c2, .slice a3 s.changes.length c3]) (by simp [results, Tryz.results40, go_sem, c_HT]) rfl ⟨_, rfl, ⟨s.store, l, s.changes⟩, a1, c1, a2, c2, a3, c3, rfl, Off.more (K := fun b => b < w.heap.size + 1 ∨ b = kb) (by repeat (first | with_reducible exact HFF.out | with_reducible refine Off.set ?_ (by omega))) (fun b _ hb => by omega), ⟨HLe.out.store, by show l.length ≤ 100; omega, HLe.out.changes⟩, HM.out.low (B := w.heap.size) bEb (Nat.le_refl _) hk⟩

end Go.Proofs.YtlfebehpmefioaaGreat
