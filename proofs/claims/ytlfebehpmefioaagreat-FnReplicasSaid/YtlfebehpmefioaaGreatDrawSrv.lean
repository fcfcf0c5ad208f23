/-
  The draws of servers.
-/
import Derived.Test.YtlfebehpmefioaaGreatDrawItems
import Derived.Test.YtlfebehpmefioaaGreatReceiveS
namespace Go.Proofs.YtlfebehpmefioaaGreat
open Go.RowKit

theorem set5s {w : World} {k : Nat} {a0 a1 a2 a3 a4 b0 b1 b2 b3 b4 : Value} (h : WB w k #[a0, a1, a2, a3, a4]) : WB (((((w.setCell ⟨k, 0, none⟩ b0).setCell ⟨k, 1, none⟩ b1).setCell ⟨k, 2, none⟩ b2).setCell ⟨k, 3, none⟩ b3).setCell ⟨k, 4, none⟩ b4) k #[b0, b1, b2, b3, b4] :=
  (((((h.setAt (i := 0) (cs' := #[b0, a1, a2, a3, a4]) (by simp) rfl).setAt (i := 1) (cs' := #[b0, b1, a2, a3, a4]) (by simp) rfl).setAt (i := 2) (cs' := #[b0, b1, b2, a3, a4]) (by simp) rfl).setAt (i := 3) (cs' := #[b0, b1, b2, b3, a4]) (by simp) rfl).setAt (i := 4) (cs' := #[b0, b1, b2, b3, b4]) (by simp) rfl)
theorem off5s {w : World} {k g : Nat} {cs : Array Value} {b0 b1 b2 b3 b4 : Value} (h : WB w k cs) (hk : k ≠ g) : WB (((((w.setCell ⟨g, 0, none⟩ b0).setCell ⟨g, 1, none⟩ b1).setCell ⟨g, 2, none⟩ b2).setCell ⟨g, 3, none⟩ b3).setCell ⟨g, 4, none⟩ b4) k cs :=
  (((((h.setOther hk).setOther hk).setOther hk).setOther hk).setOther hk)
theorem isNotes_word : isNotes ⟨#[110, 111, 116, 101, 115]⟩ = true := by
  unfold isNotes ByteArray.toList
  unfold ByteArray.toList.loop ByteArray.toList.loop ByteArray.toList.loop ByteArray.toList.loop ByteArray.toList.loop ByteArray.toList.loop
  rfl

structure SrvOk (b : Nat) (s : DServer) : Prop where
  srv : isServerF s = true
  changes : s.changes.length ≤ b
  applied : s.applied.length ≤ b
  four : lastSeqF s 4 = 0
theorem receive_applied (s : DServer) (y : DWrite) : (receiveF s y).applied.length ≤ s.applied.length + 1 := by
  unfold receiveF
  split
  · show (markI s.applied y.device y.seq).length ≤ _
    rw [markI_len]
    split <;> omega
  · omega
theorem SrvOk.receive {b : Nat} {s : DServer} (h : SrvOk b s) (y : DWrite) (hd : y.device ≠ 4) : SrvOk (b + 1) (receiveF s y) := by
  refine ⟨receive_server h.srv, by have := receive_changes s y; have := h.changes; omega, by have := receive_applied s y; have := h.applied; omega, ?_⟩
  unfold receiveF
  split
  · rw [lastSeq_out h.srv, if_neg (Ne.symm hd)]; exact h.four
  · exact h.four
theorem SrvOk.small {b : Nat} {s : DServer} (h : SrvOk b s) (hb : b ≤ 10000) : SmallServer s 10000 := ⟨SmallStore.of_store (isServer_store h.srv), by have := h.applied; omega, by have := h.changes; omega⟩
theorem writeReads (W : World) (x : DWrite) (h : x.key.text.size ≤ 20) (h' : x.field.size ≤ 20) : Reads DWrite.rep W [.int .i64 x.device, .int .i64 x.seq, .int .i64 x.key.kind, .int .i64 x.key.n, .string x.key.text, .string x.field, .int .i64 x.n] x := ⟨[], DWrite.rd.2 ⟨rfl, rfl, by unfold maxLen; omega, by unfold maxLen; omega⟩⟩

set_option maxRecDepth 100000 in
set_option maxHeartbeats 3200000 in
theorem specDrawServer (k : Kur) (w : World) (h : Cur w k) : Calls Tryz.prog 83 #[.pointer (some ⟨k.k, 0, none⟩)] w fun e w' => ∃ ds : List Value, e = .returned (.agg ds.toArray) ∧ ∃ s : DServer, Fresh DServer.rep w.heap.size w' ds s ∧ SrvOk 5 s ∧ Mov k w w' := by
  have hk := h.lt
  go_enter Tryz.func83, Tryz.ntmps83
  go_wp2_with fail
  refine (specDrawStore k _ (h.below bEl)).mono ?_
  rintro e w1 ⟨ds, rfl, s0, hf, hs, hm⟩
  obtain ⟨a1, c1, rfl⟩ := DStore.fsh hf
  have HT : Hid (WB w1 w.heap.size #[.string ⟨#[]⟩, .slice none 0 0, .int .i64 0, .slice none 0 0, .slice none 0 0]) := Lib.hid ((WB.at rfl).mov hm (by omega))
  have HM : Hid (Mov k w w1) := Lib.hid (Mov.belowL bEl hm)
  have hz1 := HT.out.lt
  have HS := Lib.hid hs
  have HF := Lib.hid (hf.mono (B' := w.heap.size + 1) (by simp))
  clear hm hf hs
  go_upto_region 2 with fail
  refine settle (fun W => ∃ kb, kb = w1.heap.size ∧ WB W kb #[.string s0.name, .slice a1 s0.items.length c1, .int .i64 s0.auto, .slice none 0 0, .slice none 0 0] ∧ WB W w.heap.size #[.string ⟨#[]⟩, .slice none 0 0, .int .i64 0, .slice none 0 0, .slice none 0 0] ∧ Owns DServer.rep (w.heap.size + 1) [k.k, kb] W [.string s0.name, .slice a1 s0.items.length c1, .int .i64 s0.auto, .slice none 0 0, .slice none 0 0] ⟨s0, [], []⟩ ∧ Mov k w W) ⟨_, rfl, WB.at rfl, HT.out.growA, Owns.server ((Owns.of HF.out (Nat.le_refl _) (by intro b hb; simp at hb; rcases hb with rfl | rfl; exact .inl (by omega); exact .inr (Nat.le_refl _))).below (belA belR)), HM.out.below bEl⟩ ?_
  clear HT HF HM
  rintro w2 ⟨kb, hkb, hx, ht, hf, hm⟩
  have hkk : w.heap.size < kb ∧ k.k < w.heap.size := by omega
  rw [← hkb]
  obtain ⟨S, hS⟩ : ∃ S : DServer, S = ⟨s0, [], []⟩ := ⟨_, rfl⟩
  have HX : Hid (WB w2 kb #[.string S.store.name, .slice a1 S.store.items.length c1, .int .i64 S.store.auto, .slice none S.applied.length 0, .slice none S.changes.length 0]) := Lib.hid (by rw [hS]; exact hx)
  have HT := Lib.hid ht
  have HF : Hid (Owns DServer.rep (w.heap.size + 1) [k.k, kb] w2 [.string S.store.name, .slice a1 S.store.items.length c1, .int .i64 S.store.auto, .slice none S.applied.length 0, .slice none S.changes.length 0] S) := Lib.hid (by rw [hS]; exact hf)
  have HM := Lib.hid hm
  have HOk : Hid (SrvOk 0 S) := Lib.hid (by rw [hS]; exact ⟨server_new HS.out.store (by rw [HS.out.name]; exact isNotes_word), Nat.le_refl _, Nat.le_refl _, rfl⟩)
  clear hx ht hf hm hkb hz1 HS hS
  go_wp2_with fail
  refine (specBelow k _ _ HM.out.cur).mono ?_
  rintro e w3 ⟨n, rfl, hn0, hn6, hm⟩
  have hn := hn6 (by decide)
  replace HX := Lib.hid (HX.out.mov hm (by omega))
  replace HT := Lib.hid (HT.out.mov hm (by omega))
  replace HF := Lib.hid (HF.out.mov hm (by simp))
  replace HM := Lib.hid (HM.out.trans hm)
  clear hm hn6
  go_wp2
  go_loopw [4] (fun i wr => ∃ (n : Int) (b : Nat) (s : DServer) (a1 : Option Addr) (c1 : Nat) (a2 : Option Addr) (c2 : Nat) (a3 : Option Addr) (c3 : Nat), i = .int .i64 n ∧ (n ≤ 100 ∧ b + n.toNat ≤ 5 ∧ SrvOk b s) ∧ WB wr kb #[.string s.store.name, .slice a1 s.store.items.length c1, .int .i64 s.store.auto, .slice a2 s.applied.length c2, .slice a3 s.changes.length c3] ∧ WB wr w.heap.size #[.string ⟨#[]⟩, .slice none 0 0, .int .i64 0, .slice none 0 0, .slice none 0 0] ∧ Owns DServer.rep (w.heap.size + 1) [k.k, kb] wr [.string s.store.name, .slice a1 s.store.items.length c1, .int .i64 s.store.auto, .slice a2 s.applied.length c2, .slice a3 s.changes.length c3] s ∧ Mov k w wr) (fun i _ => (intOf i).toNat)
  case atStart => exact ⟨n, 0, S, a1, c1, none, 0, none, 0, rfl, ⟨by omega, by omega, HOk.out⟩, HX.out, HT.out, HF.out, HM.out⟩
  case round =>
    clear HX HT HF HM HOk hn0 hn
    obtain ⟨n, b, s, a1, c1, a2, c2, a3, c3, rfl, ⟨hn, hb, hs⟩, hx, ht, hf, hm⟩ := hrel
    have HS := Lib.hid hs
    have HX := Lib.hid hx
    have HT := Lib.hid ht
    have HF := Lib.hid hf
    have HM := Lib.hid hm
    clear hs hx ht hf hm
    have hzr := HX.out.lt
    by_cases hlt : 0 < n
    · go_wp2_with fail
      refine (specBelow k _ _ HM.out.cur).mono ?_
      rintro e w2 ⟨d, rfl, hd0, hd3, hm⟩
      have hd := hd3 (by decide)
      replace HX := Lib.hid (HX.out.mov hm (by omega))
      replace HT := Lib.hid (HT.out.mov hm (by omega))
      replace HF := Lib.hid (HF.out.mov hm (by simp))
      replace HM := Lib.hid (HM.out.trans hm)
      have hz2 := hm.size
      clear hm hd3
      go_upto_region 6 with fail
      refine wp_region_mv k [16,17] (by kernel_rfl) ?_
      intro wd hbd
      have hwz := hbd.size
      replace HX := Lib.hid (HX.out.keep hbd)
      replace HT := Lib.hid (HT.out.keep hbd)
      replace HF := Lib.hid (HF.out.below hbd)
      replace HM := Lib.hid (HM.out.below hbd)
      clear hbd
      have hne : Nonempty (Moved k wd) := ⟨⟨wd, Mov.refl HM.out.cur⟩⟩
      have K_HX := mv_var (k := k) HX.out (by omega)
      refine wpU_group (fun _ _ _ _ _ h => h) (by kernel_rfl) (mv_of (Mov.refl HM.out.cur)) [0,1,2,3,6,8,10] _ _ _ rfl (by kernel_rfl) ?_
      repeat (go_big_quiet_step (fail))
      refine wpQuiet_nil ?_
      clear K_HX
      refine wpU_one 4 rfl (by kernel_rfl) ?_
      go_wp2_with fail
      refine (specLastSeq _ s (1 + d) _ HF.out.reads).mono ?_
      rintro e w3 ⟨rfl, hb3⟩
      have m3 := Mov.below (Mov.refl HM.out.cur) hb3
      go_wp2_with fail
      refine HardPost.mk (mv_of (m3)) ?_
      have hq := lastSeq_in HS.out.srv (1 + d)
      obtain ⟨q, hqq⟩ : ∃ q, lastSeqF s (1 + d) = q := ⟨_, rfl⟩
      rw [hqq] at hq ⊢
      clear hqq
      refine wpU_group (fun _ _ _ _ _ h => h) (by kernel_rfl) (mv_of (m3)) [5] _ _ _ rfl (by kernel_rfl) ?_
      repeat (go_big_quiet_step (fail))
      refine wpQuiet_nil ?_
      refine wpU_one 7 rfl (by kernel_rfl) ?_
      go_wp2_with fail
      refine (specKeyV k _ m3.cur).mono ?_
      rintro e w4 ⟨y, rfl, hy0, hy6, hm4⟩
      have m4 := m3.trans hm4
      go_wp2_with fail
      refine HardPost.mk (mv_of (m4)) ?_
      refine wpU_one 9 rfl (by kernel_rfl) ?_
      go_wp2_with fail
      refine (specName k _ m4.cur).mono ?_
      rintro e w5 ⟨f, rfl, hf5, hm5⟩
      have m5 := m4.trans hm5
      go_wp2_with fail
      refine HardPost.mk (mv_of (m5)) ?_
      refine wpU_one 11 rfl (by kernel_rfl) ?_
      go_wp2_with fail
      refine (specBelow k _ _ m5.cur).mono ?_
      rintro e w6 ⟨m, rfl, _, _, hm6⟩
      have m6 := m5.trans hm6
      go_wp2_with fail
      refine HardPost.mk (mv_of (m6)) ?_
      refine wpU_group (fun _ _ _ _ _ h => h) (by kernel_rfl) (mv_of (m6)) [12] _ _ _ rfl (by kernel_rfl) ?_
      repeat (go_big_quiet_step (fail))
      refine wpQuiet_nil ?_
      have hz6 := m6.size
      refine wpU_one 13 rfl (by kernel_rfl) ?_
      go_wp2_with fail
      refine (specReceiveWrite _ _ s ⟨1 + d, q + 1, ⟨1, y, ⟨#[]⟩⟩, f, m⟩ _ (HF.out.mov m6 (by simp)).reads (writeReads _ ⟨1 + d, q + 1, ⟨1, y, ⟨#[]⟩⟩, f, m⟩ (by show 0 ≤ 20; decide) hf5) ((HS.out.small (by omega)).mono (by omega))).mono ?_
      rintro e w7 ⟨ds, rfl, hf7, hb7⟩
      have HS7 := Lib.hid (HS.out.receive ⟨1 + d, q + 1, ⟨1, y, ⟨#[]⟩⟩, f, m⟩ (by show 1 + d ≠ 4; omega))
      obtain ⟨z, hz⟩ : ∃ z, receiveF s ⟨1 + d, q + 1, ⟨1, y, ⟨#[]⟩⟩, f, m⟩ = z := ⟨_, rfl⟩
      rw [hz] at hf7 HS7
      clear hz
      obtain ⟨b1, d1, b2, d2, b3, d3, rfl⟩ := DServer.fsh hf7
      have m7 := m6.below hb7
      go_wp2_with fail
      refine HardPost.mk (mv_of (m7)) ?_
      refine wpU_group (fun _ _ _ _ _ h => h) (by kernel_rfl) (mv_of (m7)) [14,15,16] _ _ _ rfl (by kernel_rfl) ?_
      repeat (go_big_quiet_step (fail))
      refine wpQuiet_nil ?_
      replace HX := Lib.hid (HX.out.mov m7 (by omega))
      replace HT := Lib.hid (HT.out.mov m7 (by omega))
      replace HM := Lib.hid (HM.out.trans m7)
      have HF7 : Hid (Owns DServer.rep (w.heap.size + 1) [k.k, kb] w7 [.string z.store.name, .slice b1 z.store.items.length d1, .int .i64 z.store.auto, .slice b2 z.applied.length d2, .slice b3 z.changes.length d3] z) := Lib.hid (Owns.of hf7 (by omega) (by intro b hb; simp at hb; rcases hb with rfl | rfl <;> exact .inl (by omega)))
      clear hf7
      have ⟨c_HX, z_HX, f_HX⟩ := HX.out
      refine wpU_tail [17] _ _ _ _ rfl (by kernel_rfl) ?_
      go_wp2_with fail
      refine NoPanic.normal ?_
      go_wp2_with fail
      go_light
      exact ⟨⟨n - 1, b + 1, z, b1, d1, b2, d2, b3, d3, by go_num, ⟨by omega, by omega, HS7.out⟩, set5s HX.out, off5s HT.out (by omega), by repeat (first | with_reducible exact HF7.out | with_reducible refine Owns.set ?_ (.inl (by simp))), HM.out.low (B := w.heap.size) bEb (Nat.le_refl _) hk⟩, by simp [intOf]; omega⟩
    · have ⟨c_HX, z_HX, f_HX⟩ := HX.out
      have ⟨c_HT, z_HT, f_HT⟩ := HT.out
      go_wp2
      exact bodyPost_ret (v := .agg #[.string s.store.name, .slice a1 s.store.items.length c1, .int .i64 s.store.auto, .slice a2 s.applied.length c2, .slice a3 s.changes.length c3]) (by simp [results, Tryz.results83, go_sem, c_HT]) rfl ⟨_, rfl, s, (Owns.fresh (K := [k.k, kb]) (B := w.heap.size + 1) (by repeat (first | with_reducible exact HF.out | with_reducible refine Owns.set ?_ (.inr (by omega))))).mono (by omega), ⟨HS.out.srv, by have := HS.out.changes; omega, by have := HS.out.applied; omega, HS.out.four⟩, HM.out.low (B := w.heap.size) bEb (Nat.le_refl _) hk⟩

structure ServerLe (s : DServer) : Prop where
  store : StoreLe s.store
  applied : s.applied.length ≤ 100
  changes : s.changes.length ≤ 100
theorem ServerLe.small {s : DServer} (h : ServerLe s) : SmallServer s 10000 := ⟨h.store.small, by have := h.applied; omega, by have := h.changes; omega⟩
theorem SrvOk.le {b : Nat} {s : DServer} (h : SrvOk b s) (hb : b ≤ 50) : ServerLe s := ⟨StoreLe.of_store (isServer_store h.srv), by have := h.applied; omega, by have := h.changes; omega⟩

section
variable {B : Nat} {L : List Nat} {w : World} {v1 v2 v3 : Value} {x : DServer}
end
theorem FlatR.off {α : Type} {R : Rep α} {enc : α → List Value} {ok : α → Prop} (h : FlatR R enc ok) {E : TypeId} {B : Nat} {K : Nat → Prop} {w : World} {v : Value} {l : List α} (hf : Fresh (Rep.slice E R) B w [v] l) (hK : ∀ b ∈ v.ownBlock.toList, ¬ K b) : Off (Rep.slice E R) K w [v] l := by
  obtain ⟨fp, hr, _, _⟩ := hf
  obtain ⟨fq, h2, hs⟩ := Rep.weak _ hr
  refine ⟨fq, h2, fun b hb => hK b ?_⟩
  have hb2 := hs b hb
  obtain ⟨v', ts, hv, rfl, rfl, h1, _, _⟩ := hr
  simp only [List.cons.injEq, and_true] at hv
  subst hv
  have e := (cells_flat h ts h1).2.1
  rw [e, List.append_nil] at hb2
  simpa [head] using hb2

end Go.Proofs.YtlfebehpmefioaaGreat
