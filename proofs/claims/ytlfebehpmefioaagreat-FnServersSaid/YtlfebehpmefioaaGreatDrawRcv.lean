/-
  The draw of a server and a write.
-/
import Derived.Test.YtlfebehpmefioaaGreatDrawSrv
namespace Go.Proofs.YtlfebehpmefioaaGreat
open Go.RowKit

theorem set7 {w : World} {k : Nat} {a0 a1 a2 a3 a4 a5 a6 b0 b1 b2 b3 b4 b5 b6 : Value} (h : WB w k #[a0, a1, a2, a3, a4, a5, a6]) : WB (((((((w.setCell ⟨k, 0, none⟩ b0).setCell ⟨k, 1, none⟩ b1).setCell ⟨k, 2, none⟩ b2).setCell ⟨k, 3, none⟩ b3).setCell ⟨k, 4, none⟩ b4).setCell ⟨k, 5, none⟩ b5).setCell ⟨k, 6, none⟩ b6) k #[b0, b1, b2, b3, b4, b5, b6] :=
  ((((((h.setAt (i := 0) (cs' := #[b0, a1, a2, a3, a4, a5, a6]) (by simp) rfl).setAt (i := 1) (cs' := #[b0, b1, a2, a3, a4, a5, a6]) (by simp) rfl).setAt (i := 2) (cs' := #[b0, b1, b2, a3, a4, a5, a6]) (by simp) rfl).setAt (i := 3) (cs' := #[b0, b1, b2, b3, a4, a5, a6]) (by simp) rfl).setAt (i := 4) (cs' := #[b0, b1, b2, b3, b4, a5, a6]) (by simp) rfl).setAt (i := 5) (cs' := #[b0, b1, b2, b3, b4, b5, a6]) (by simp) rfl).setAt (i := 6) (cs' := #[b0, b1, b2, b3, b4, b5, b6]) (by simp) rfl
theorem off7 {w : World} {k g : Nat} {cs : Array Value} {b0 b1 b2 b3 b4 b5 b6 : Value} (h : WB w k cs) (hk : k ≠ g) : WB (((((((w.setCell ⟨g, 0, none⟩ b0).setCell ⟨g, 1, none⟩ b1).setCell ⟨g, 2, none⟩ b2).setCell ⟨g, 3, none⟩ b3).setCell ⟨g, 4, none⟩ b4).setCell ⟨g, 5, none⟩ b5).setCell ⟨g, 6, none⟩ b6) k cs :=
  ((((((h.setOther hk).setOther hk).setOther hk).setOther hk).setOther hk).setOther hk).setOther hk
theorem MovF.set7 {k : Kur} {fp : List Nat} {w w1 : World} {b : Nat} {u0 u1 u2 u3 u4 u5 u6 : Value} (h : MovF k fp w w1) (hb : b ∈ fp) (h1 : k.b ≤ b) (h2 : k.k ≠ b) : MovF k fp w (((((((w1.setCell ⟨b, 0, none⟩ u0).setCell ⟨b, 1, none⟩ u1).setCell ⟨b, 2, none⟩ u2).setCell ⟨b, 3, none⟩ u3).setCell ⟨b, 4, none⟩ u4).setCell ⟨b, 5, none⟩ u5).setCell ⟨b, 6, none⟩ u6) := ((((((h.set hb h1 h2).set hb h1 h2).set hb h1 h2).set hb h1 h2).set hb h1 h2).set hb h1 h2).set hb h1 h2

set_option maxRecDepth 100000 in
set_option maxHeartbeats 3200000 in
theorem specDrawReceive (v : Value) (l : List UInt8) (w : World) (h : Reads Rep.bytes w [v] l) (hl : l.length ≤ 1048576) : Calls Tryz.prog 9 #[v] w fun e w' => ∃ (s : DServer) (y : DWrite) (a1 : Option Addr) (c1 : Nat) (a2 : Option Addr) (c2 : Nat) (a3 : Option Addr) (c3 : Nat), e = .returned (.tuple #[.agg #[.string s.store.name, .slice a1 s.store.items.length c1, .int .i64 s.store.auto, .slice a2 s.applied.length c2, .slice a3 s.changes.length c3], .agg #[.int .i64 y.device, .int .i64 y.seq, .int .i64 y.key.kind, .int .i64 y.key.n, .string y.key.text, .string y.field, .int .i64 y.n]]) ∧ Reads DServer.rep w' [.string s.store.name, .slice a1 s.store.items.length c1, .int .i64 s.store.auto, .slice a2 s.applied.length c2, .slice a3 s.changes.length c3] s ∧ ServerLe s ∧ (y.key.text.size ≤ 20 ∧ y.field.size ≤ 20) ∧ Below w.heap.size w w' := by
  have HK := Lib.hid h
  clear h
  go_enter Tryz.func9, Tryz.ntmps9
  go_wp2_with fail
  refine (specNew v l _ w.heap.size (HK.out.lo (by repeat (first | with_reducible exact belR | with_reducible apply belA | (with_reducible refine belS ?_ ?_; focus (first | omega | (simp; done) | (simp; omega))) | with_reducible apply belN | with_reducible apply belD | with_reducible assumption))) (by simp; omega) hl).mono ?_
  rintro e w1 ⟨k, rfl, hk, hkb, hc, hb⟩
  simp at hk
  have HT : Hid (WB w1 w.heap.size #[.string ⟨#[]⟩, .slice none 0 0, .int .i64 0, .slice none 0 0, .slice none 0 0]) := Lib.hid (((WB.at rfl).growA).keep hb)
  have HU : Hid (WB w1 (w.heap.size + 1) #[.int .i64 0, .int .i64 0, .int .i64 0, .int .i64 0, .string ⟨#[]⟩, .string ⟨#[]⟩, .int .i64 0]) := Lib.hid ((WB.at (by simp)).keep hb)
  have HB : Hid (Below w.heap.size w w1) := Lib.hid (below_call (by repeat (first | with_reducible exact belR | with_reducible apply belA | (with_reducible refine belS ?_ ?_; focus (first | omega | (simp; done) | (simp; omega))) | with_reducible apply belN | with_reducible apply belD | with_reducible assumption)) (by first | omega | (simp; done) | (simp; omega)) hb)
  have hc1 := hc.lt
  have hzb := HB.out.size
  clear hb
  go_wp2_with fail
  refine (specAnyServer k _ hc).mono ?_
  rintro e w2 ⟨ds, rfl, s, a1, c1, a2, c2, a3, c3, rfl, hf, hsl, hm⟩
  have HLe := Lib.hid hsl
  replace HT := Lib.hid (HT.out.mov hm (by omega))
  replace HU := Lib.hid (HU.out.mov hm (by omega))
  have HF := Lib.hid (hf.more (K' := fun b => b < w1.heap.size ∨ w2.heap.size ≤ b) (fun b hb hK => by omega))
  have HM : Hid (Mov k w1 w2) := Lib.hid hm
  have hz2 := hm.size
  clear hf hm hsl
  go_upto_region 3 with fail
  refine settle (fun W => ∃ ks, ks = w2.heap.size ∧ WB W ks #[.string s.store.name, .slice a1 s.store.items.length c1, .int .i64 s.store.auto, .slice a2 s.applied.length c2, .slice a3 s.changes.length c3] ∧ WB W w.heap.size #[.string ⟨#[]⟩, .slice none 0 0, .int .i64 0, .slice none 0 0, .slice none 0 0] ∧ WB W (w.heap.size + 1) #[.int .i64 0, .int .i64 0, .int .i64 0, .int .i64 0, .string ⟨#[]⟩, .string ⟨#[]⟩, .int .i64 0] ∧ Off DServer.rep (fun b => b < w1.heap.size ∨ w2.heap.size ≤ b) W [.string s.store.name, .slice a1 s.store.items.length c1, .int .i64 s.store.auto, .slice a2 s.applied.length c2, .slice a3 s.changes.length c3] s ∧ Mov k w1 W) ⟨_, rfl, WB.at rfl, HT.out.growA, HU.out.growA, HF.out.below (belA belR), HM.out.below (by repeat (first | with_reducible exact belR | with_reducible apply belA | (with_reducible refine belS ?_ ?_; focus (first | omega | (simp; done) | (simp; omega))) | with_reducible apply belN | with_reducible apply belD | with_reducible assumption))⟩ ?_
  clear HT HU HF HM
  rintro w3 ⟨ks, hks, hx, ht, hu, hf, hm⟩
  rw [← hks]
  have hkk : w.heap.size + 1 < ks ∧ k.k < ks ∧ w.heap.size + 2 ≤ k.k ∧ w.heap.size + 2 ≤ w1.heap.size := by omega
  have HX := Lib.hid hx
  have HT := Lib.hid ht
  have HU := Lib.hid hu
  have HF := Lib.hid (hf.more (K' := fun b => b < w1.heap.size ∨ ks ≤ b) (fun b hb hK => by omega))
  have HM := Lib.hid hm
  have hw1s : w1.heap.size ≤ ks := by omega
  clear hx ht hu hf hm hks hz2
  go_wp2_with fail
  refine (specWrite k _ HM.out.cur).mono ?_
  rintro e w4 ⟨u, rfl, hu, hm⟩
  have hz3 := HX.out.lt
  have hz4 := hm.size
  replace HX := Lib.hid (HX.out.mov hm (by omega))
  replace HT := Lib.hid (HT.out.mov hm (by omega))
  replace HU := Lib.hid (HU.out.mov hm (by omega))
  replace HF := Lib.hid (HF.out.mov hm (.inl hc1))
  replace HM := Lib.hid (HM.out.trans hm)
  clear hm
  go_upto_region 4 with fail
  refine settle (fun W => ∃ ky, ky = w4.heap.size ∧ WB W ky #[.int .i64 u.device, .int .i64 u.seq, .int .i64 u.key.kind, .int .i64 u.key.n, .string u.key.text, .string u.field, .int .i64 u.n] ∧ WB W ks #[.string s.store.name, .slice a1 s.store.items.length c1, .int .i64 s.store.auto, .slice a2 s.applied.length c2, .slice a3 s.changes.length c3] ∧ WB W w.heap.size #[.string ⟨#[]⟩, .slice none 0 0, .int .i64 0, .slice none 0 0, .slice none 0 0] ∧ WB W (w.heap.size + 1) #[.int .i64 0, .int .i64 0, .int .i64 0, .int .i64 0, .string ⟨#[]⟩, .string ⟨#[]⟩, .int .i64 0] ∧ Off DServer.rep (fun b => b < w1.heap.size ∨ ks ≤ b) W [.string s.store.name, .slice a1 s.store.items.length c1, .int .i64 s.store.auto, .slice a2 s.applied.length c2, .slice a3 s.changes.length c3] s ∧ Mov k w1 W) ⟨_, rfl, WB.at rfl, HX.out.growA, HT.out.growA, HU.out.growA, HF.out.below (belA belR), HM.out.below (by repeat (first | with_reducible exact belR | with_reducible apply belA | (with_reducible refine belS ?_ ?_; focus (first | omega | (simp; done) | (simp; omega))) | with_reducible apply belN | with_reducible apply belD | with_reducible assumption))⟩ ?_
  clear HT HU HF HM HX
  rintro w5 ⟨ky, hky, hy, hx, ht, hu2, hf, hm⟩
  rw [← hky]
  have hkl : ks < ky := by omega
  have HY := Lib.hid hy
  have HX := Lib.hid hx
  have HT := Lib.hid ht
  have HU := Lib.hid hu2
  have HF := Lib.hid hf
  have HM := Lib.hid hm
  clear hy hx ht hu2 hf hm hky hz3 hz4
  go_wp2_with fail
  refine (specOnce k _ _ HM.out.cur).mono ?_
  rintro e w6 ⟨b, rfl, hm⟩
  have hz5 := HY.out.lt
  replace HY := Lib.hid (HY.out.mov hm (by omega))
  replace HX := Lib.hid (HX.out.mov hm (by omega))
  replace HT := Lib.hid (HT.out.mov hm (by omega))
  replace HU := Lib.hid (HU.out.mov hm (by omega))
  replace HF := Lib.hid (HF.out.mov hm (.inl hc1))
  replace HM := Lib.hid (HM.out.trans hm)
  clear hm
  have hz6 := HY.out.lt
  cases b
  case' false =>
    have ⟨c_HX, z_HX, f_HX⟩ := HX.out
    have ⟨c_HY, z_HY, f_HY⟩ := HY.out
    go_upto_region 6 with fail
    refine settle (fun W => ∃ y : DWrite, (y.key.text.size ≤ 20 ∧ y.field.size ≤ 20) ∧ WB W ky #[.int .i64 y.device, .int .i64 y.seq, .int .i64 y.key.kind, .int .i64 y.key.n, .string y.key.text, .string y.field, .int .i64 y.n] ∧ WB W ks #[.string s.store.name, .slice a1 s.store.items.length c1, .int .i64 s.store.auto, .slice a2 s.applied.length c2, .slice a3 s.changes.length c3] ∧ WB W w.heap.size #[.string ⟨#[]⟩, .slice none 0 0, .int .i64 0, .slice none 0 0, .slice none 0 0] ∧ WB W (w.heap.size + 1) #[.int .i64 0, .int .i64 0, .int .i64 0, .int .i64 0, .string ⟨#[]⟩, .string ⟨#[]⟩, .int .i64 0] ∧ Off DServer.rep (fun b => b < w1.heap.size ∨ ks ≤ b) W [.string s.store.name, .slice a1 s.store.items.length c1, .int .i64 s.store.auto, .slice a2 s.applied.length c2, .slice a3 s.changes.length c3] s ∧ Mov k w1 W) ⟨u, hu, HY.out.keep (by repeat (first | with_reducible exact belR | with_reducible apply belA | (with_reducible refine belS ?_ ?_; focus (first | omega | (simp; done) | (simp; omega))) | with_reducible apply belN | with_reducible apply belD | with_reducible assumption)), HX.out.keep (by repeat (first | with_reducible exact belR | with_reducible apply belA | (with_reducible refine belS ?_ ?_; focus (first | omega | (simp; done) | (simp; omega))) | with_reducible apply belN | with_reducible apply belD | with_reducible assumption)), HT.out.keep (by repeat (first | with_reducible exact belR | with_reducible apply belA | (with_reducible refine belS ?_ ?_; focus (first | omega | (simp; done) | (simp; omega))) | with_reducible apply belN | with_reducible apply belD | with_reducible assumption)), HU.out.keep (by repeat (first | with_reducible exact belR | with_reducible apply belA | (with_reducible refine belS ?_ ?_; focus (first | omega | (simp; done) | (simp; omega))) | with_reducible apply belN | with_reducible apply belD | with_reducible assumption)), HF.out.below (by repeat (first | with_reducible exact belR | with_reducible apply belA | (with_reducible refine belS ?_ ?_; focus (first | omega | (simp; done) | (simp; omega))) | with_reducible apply belN | with_reducible apply belD | with_reducible assumption)), HM.out.below (by repeat (first | with_reducible exact belR | with_reducible apply belA | (with_reducible refine belS ?_ ?_; focus (first | omega | (simp; done) | (simp; omega))) | with_reducible apply belN | with_reducible apply belD | with_reducible assumption))⟩ ?_
    clear c_HX z_HX f_HX c_HY z_HY f_HY
  case' true =>
    have ⟨c_HX, z_HX, f_HX⟩ := HX.out
    have ⟨c_HY, z_HY, f_HY⟩ := HY.out
    go_wp2_with fail
    refine (specLastSeq _ s u.device _ (HF.out.below (by repeat (first | with_reducible exact belR | with_reducible apply belA | (with_reducible refine belS ?_ ?_; focus (first | omega | (simp; done) | (simp; omega))) | with_reducible apply belN | with_reducible apply belD | with_reducible assumption))).reads).mono ?_
    rintro e w7 ⟨rfl, hb⟩
    clear c_HX z_HX f_HX c_HY z_HY f_HY
    have hb9 : Below w6.heap.size w6 w7 := below_call (by repeat (first | with_reducible exact belR | with_reducible apply belA | (with_reducible refine belS ?_ ?_; focus (first | omega | (simp; done) | (simp; omega))) | with_reducible apply belN | with_reducible apply belD | with_reducible assumption)) (by first | omega | (simp; done) | (simp; omega)) hb
    replace HY := Lib.hid (HY.out.keep hb9)
    replace HX := Lib.hid (HX.out.keep hb9)
    replace HT := Lib.hid (HT.out.keep hb9)
    replace HU := Lib.hid (HU.out.keep hb9)
    replace HF := Lib.hid (HF.out.below hb9)
    replace HM := Lib.hid (HM.out.below hb9)
    clear hb hb9
    obtain ⟨q, hq⟩ : ∃ q, lastSeqF s u.device = q := ⟨_, rfl⟩
    rw [hq]
    clear hq
    have ⟨c_HX, z_HX, f_HX⟩ := HX.out
    have ⟨c_HY, z_HY, f_HY⟩ := HY.out
    go_wp2_with fail
    refine (specBelow k _ _ HM.out.cur).mono ?_
    rintro e w8 ⟨r, rfl, _, _, hm⟩
    clear c_HX z_HX f_HX c_HY z_HY f_HY
    have hz7 := HY.out.lt
    replace HY := Lib.hid (HY.out.mov hm (by omega))
    replace HX := Lib.hid (HX.out.mov hm (by omega))
    replace HT := Lib.hid (HT.out.mov hm (by omega))
    replace HU := Lib.hid (HU.out.mov hm (by omega))
    replace HF := Lib.hid (HF.out.mov hm (.inl hc1))
    replace HM := Lib.hid (HM.out.trans hm)
    clear hm
    have hz8 := HY.out.lt
    have ⟨c_HX, z_HX, f_HX⟩ := HX.out
    have ⟨c_HY, z_HY, f_HY⟩ := HY.out
    go_upto_region 6 with fail
    refine settle (fun W => ∃ y : DWrite, (y.key.text.size ≤ 20 ∧ y.field.size ≤ 20) ∧ WB W ky #[.int .i64 y.device, .int .i64 y.seq, .int .i64 y.key.kind, .int .i64 y.key.n, .string y.key.text, .string y.field, .int .i64 y.n] ∧ WB W ks #[.string s.store.name, .slice a1 s.store.items.length c1, .int .i64 s.store.auto, .slice a2 s.applied.length c2, .slice a3 s.changes.length c3] ∧ WB W w.heap.size #[.string ⟨#[]⟩, .slice none 0 0, .int .i64 0, .slice none 0 0, .slice none 0 0] ∧ WB W (w.heap.size + 1) #[.int .i64 0, .int .i64 0, .int .i64 0, .int .i64 0, .string ⟨#[]⟩, .string ⟨#[]⟩, .int .i64 0] ∧ Off DServer.rep (fun b => b < w1.heap.size ∨ ks ≤ b) W [.string s.store.name, .slice a1 s.store.items.length c1, .int .i64 s.store.auto, .slice a2 s.applied.length c2, .slice a3 s.changes.length c3] s ∧ Mov k w1 W) ⟨⟨u.device, wrap64 (q + r), u.key, u.field, u.n⟩, hu, HY.out.setAt (i := 1) (by simp) rfl, HX.out.setOther (by omega), HT.out.setOther (by omega), HU.out.setOther (by omega), HF.out.set (g := ky) (.inr (by omega)), HM.out.low (B := w1.heap.size) (by repeat (first | with_reducible exact belR | (with_reducible refine belAB ?_ ?_; focus (first | omega | (simp; done) | (simp; omega))) | (with_reducible refine belS ?_ ?_; focus (first | omega | (simp; done) | (simp; omega))) | with_reducible apply belN | with_reducible apply belD | with_reducible assumption)) (Nat.le_refl _) hc1⟩ ?_
    clear c_HX z_HX f_HX c_HY z_HY f_HY
  all_goals
    clear HX HY HT HU HF HM
    rintro w9 ⟨y, hyz, hy, hx, ht, hu9, hf, hm⟩
    have HY := Lib.hid hy
    have HX := Lib.hid hx
    have HT := Lib.hid ht
    have HU := Lib.hid hu9
    have HF := Lib.hid hf
    have HM := Lib.hid hm
    have HZ := Lib.hid hyz
    clear hy hx ht hu9 hf hm hyz
    go_upto_region 6 with fail
    refine wp_region_mvf k ([w.heap.size, w.heap.size + 1]) [] (by kernel_rfl) ?_
    intro wd hbd
    have hwz := hbd.size
    replace HX := Lib.hid (HX.out.keep hbd)
    replace HY := Lib.hid (HY.out.keep hbd)
    replace HT := Lib.hid (HT.out.keep hbd)
    replace HU := Lib.hid (HU.out.keep hbd)
    replace HF := Lib.hid (HF.out.below hbd)
    replace HM := Lib.hid (HM.out.below hbd)
    clear hbd
    have hne : Nonempty (MovedF k ([w.heap.size, w.heap.size + 1]) wd) := ⟨⟨wd, MovF.of (Mov.refl HM.out.cur)⟩⟩
    have K_HX := mvf_var (k := k) (fp := ([w.heap.size, w.heap.size + 1])) HX.out (by omega) (by first | (simp; omega) | assumption)
    have K_HY := mvf_var (k := k) (fp := ([w.heap.size, w.heap.size + 1])) HY.out (by omega) (by first | (simp; omega) | assumption)
    refine wpU_group (fun _ _ _ _ _ h => h) (by kernel_rfl) (mvf_of (MovF.of (Mov.refl HM.out.cur))) [0,1] _ _ _ rfl (by kernel_rfl) ?_
    repeat (go_big_quiet_step (fail))
    refine wpQuiet_nil ?_
    clear K_HX K_HY
    have ⟨c_HT, z_HT, f_HT⟩ := HT.out
    have ⟨c_HU, z_HU, f_HU⟩ := HU.out
    have hq0 : MovF k [w.heap.size, w.heap.size + 1] wd wd := MovF.of (Mov.refl HM.out.cur)
    refine wpU_one 2 rfl (by kernel_rfl) ?_
    go_wp2_with fail
    have hq1 := hq0.set5 (b := w.heap.size) (u0 := .string s.store.name) (u1 := .slice a1 s.store.items.length c1) (u2 := .int .i64 s.store.auto) (u3 := .slice a2 s.applied.length c2) (u4 := .slice a3 s.changes.length c3) (by simp) (by omega) (by omega)
    refine HardPost.mk (mvf_of hq1) ?_
    have HT1 := Lib.hid (set5s HT.out (b0 := .string s.store.name) (b1 := .slice a1 s.store.items.length c1) (b2 := .int .i64 s.store.auto) (b3 := .slice a2 s.applied.length c2) (b4 := .slice a3 s.changes.length c3))
    have HU1 := Lib.hid (off5s HU.out (g := w.heap.size) (b0 := .string s.store.name) (b1 := .slice a1 s.store.items.length c1) (b2 := .int .i64 s.store.auto) (b3 := .slice a2 s.applied.length c2) (b4 := .slice a3 s.changes.length c3) (by omega))
    clear c_HT z_HT f_HT c_HU z_HU f_HU
    have ⟨c_HU1, z_HU1, f_HU1⟩ := HU1.out
    refine wpU_one 3 rfl (by kernel_rfl) ?_
    go_wp2_with fail
    have hq2 := hq1.set7 (b := w.heap.size + 1) (u0 := .int .i64 y.device) (u1 := .int .i64 y.seq) (u2 := .int .i64 y.key.kind) (u3 := .int .i64 y.key.n) (u4 := .string y.key.text) (u5 := .string y.field) (u6 := .int .i64 y.n) (by simp) (by omega) (by omega)
    refine HardPost.mk (mvf_of hq2) ?_
    have HT2 := Lib.hid (off7 HT1.out (g := w.heap.size + 1) (b0 := .int .i64 y.device) (b1 := .int .i64 y.seq) (b2 := .int .i64 y.key.kind) (b3 := .int .i64 y.key.n) (b4 := .string y.key.text) (b5 := .string y.field) (b6 := .int .i64 y.n) (by omega))
    have HU2 := Lib.hid (set7 HU1.out (b0 := .int .i64 y.device) (b1 := .int .i64 y.seq) (b2 := .int .i64 y.key.kind) (b3 := .int .i64 y.key.n) (b4 := .string y.key.text) (b5 := .string y.field) (b6 := .int .i64 y.n))
    clear c_HU1 z_HU1 f_HU1
    refine wpU_tail [] _ _ _ _ rfl (by kernel_rfl) ?_
    go_wp2_with fail
    refine NoPanic.normal ?_
    have ⟨c_HT2, z_HT2, f_HT2⟩ := HT2.out
    have ⟨c_HU2, z_HU2, f_HU2⟩ := HU2.out
    go_wp2
    refine bodyPost_ret (v := .tuple #[.agg #[.string s.store.name, .slice a1 s.store.items.length c1, .int .i64 s.store.auto, .slice a2 s.applied.length c2, .slice a3 s.changes.length c3], .agg #[.int .i64 y.device, .int .i64 y.seq, .int .i64 y.key.kind, .int .i64 y.key.n, .string y.key.text, .string y.field, .int .i64 y.n]]) (by simp [results, Tryz.results9, go_sem, c_HT2, c_HU2]) rfl ⟨s, y, a1, c1, a2, c2, a3, c3, rfl, Off.reads (K := fun b => b < w1.heap.size ∨ ks ≤ b) (by repeat (first | with_reducible exact HF.out | with_reducible refine Off.set ?_ (.inl (by omega)))), HLe.out, HZ.out, ?_⟩
    have y2 := HB.out.trans (HM.out.toBelow (B := w.heap.size) (by omega) (by omega))
    exact (by repeat (first | with_reducible exact belR | (with_reducible refine belAB ?_ ?_; focus (first | omega | (simp; done) | (simp; omega))) | (with_reducible refine belS ?_ ?_; focus (first | omega | (simp; done) | (simp; omega))) | with_reducible apply belN | with_reducible apply belD | with_reducible assumption))

end Go.Proofs.YtlfebehpmefioaaGreat
