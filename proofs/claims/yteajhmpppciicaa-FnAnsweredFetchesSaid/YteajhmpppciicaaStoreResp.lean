/-
  spec.StoreResponse.
-/
import Derived.Test.YteajhmpppciicaaCacheMem
import Derived.Test.YteajhmpppciicaaCacheIs
namespace Go.Proofs.Yteajhmpppciicaa
open Go.RowKit

theorem mem_set_cases {α : Type} {l : List α} {k : Nat} {u y : α} (h : y ∈ l.set k u) : y ∈ l ∨ y = u := by
  rcases List.mem_or_eq_of_mem_set h with h | h
  · exact .inl h
  · exact .inr h
theorem set_put {m n k : Nat} {x : DCacheSet} (h : SetLe m n x) (hk : k < x.caches.length) {es : List DCached} (h1 : es.length ≤ n + 1) (h2 : ∀ e ∈ es, EntryLe e) : SetLe m (n + 1) ⟨x.caches.set k ⟨x.caches[k].version, es⟩⟩ := by
  refine ⟨by rw [List.length_set]; exact h.1, fun c hc => ?_⟩
  rcases mem_set_cases hc with h3 | rfl
  · exact (h.2 c h3).mono (by omega)
  · exact ⟨h1, h2⟩

theorem OwnsLt.notin {α : Type} {R : Rep α} {E : TypeId} {B m : Nat} {K : List Nat} {w : World} {v : Value} {l : List α} (h : OwnsLt (Rep.slice E R) B K m w [v] l) : ∀ b ∈ v.ownBlock.toList, b ∉ K ∧ B ≤ b ∧ b < m := by
  obtain ⟨fp, hrd, _, h1, h2⟩ := h
  exact fun b hb => ⟨(h1 b (own_in hrd b hb)).2, (h1 b (own_in hrd b hb)).1, h2 b (own_in hrd b hb)⟩
theorem OwnsLt.below {α : Type} {R : Rep α} {B m : Nat} {K : List Nat} {w w' : World} {cs : List Value} {x : α} (h : OwnsLt R B K m w cs x) (hb : Below w.heap.size w w') : OwnsLt R B K m w' cs x := by
  obtain ⟨fp, h, hn, hf, h2⟩ := h
  exact ⟨fp, Rep.frame _ h fun b hb' => hb.block b (Rep.lt _ h b hb'), hn, hf, h2⟩
theorem off7s {w : World} {k g o0 o1 o2 o3 o4 o5 o6 : Nat} {cs : Array Value} {b0 b1 b2 b3 b4 b5 b6 : Value} (h : WB w k cs) (hk : k ≠ g) : WB (((((((w.setCell ⟨g, o0, none⟩ b0).setCell ⟨g, o1, none⟩ b1).setCell ⟨g, o2, none⟩ b2).setCell ⟨g, o3, none⟩ b3).setCell ⟨g, o4, none⟩ b4).setCell ⟨g, o5, none⟩ b5).setCell ⟨g, o6, none⟩ b6) k cs :=
  ((((((h.setOther hk).setOther hk).setOther hk).setOther hk).setOther hk).setOther hk).setOther hk

attribute [local irreducible] isCachesF

set_option maxRecDepth 100000 in
set_option maxHeartbeats 6400000 in
theorem specStoreResponse (cs cr : List Value) (x : DCacheSet) (v : Int) (site path : ByteArray) (r : DResponse) (w : World) (h : Reads DCacheSet.rep w cs x) (h' : Reads DResponse.rep w cr r) (m n : Nat) (hs : SetLe m n x) (hm : m ≤ 900) (hn : n ≤ 900) (hsite : site.size ≤ 20) (hpath : path.size ≤ 20) (hbody : r.body.length ≤ 61) :
    Calls Try.prog 67 #[.agg cs.toArray, .int .i64 v, .string site, .string path, .agg cr.toArray] w fun e w' => ∃ (y : DCacheSet) (b : Bool) (a : Option Addr) (c : Nat), e = .returned (.tuple #[.agg #[.slice a y.caches.length c], .bool b]) ∧ Fresh (Rep.slice 85 DCache.rep) w.heap.size w' [.slice a y.caches.length c] y.caches ∧ SetLe m (n + 1) y ∧ Below w.heap.size w w' := by
  have HR := Lib.hid h
  have HRr := Lib.hid h'
  have HLe := Lib.hid hs
  have hsl := hs.1
  clear hs
  obtain ⟨fp_q, h⟩ := h
  obtain ⟨q_v1, q_f1, rfl, _, q_r1⟩ := DCacheSet.rd.1 h
  obtain ⟨q_a1, q_c1, rfl, q_hm1, q_lc1, q_hu1⟩ := slice_open q_r1; clear q_hu1
  have q_K1 : Hid (Reads (Rep.slice 85 DCache.rep) w [.slice q_a1 x.caches.length q_c1] x.caches) := ⟨_, q_r1⟩
  clear q_r1 h
  obtain ⟨fp_r, h'⟩ := h'
  obtain ⟨r_v1, r_f1, rfl, _, r_r1⟩ := DResponse.rd.1 h'
  obtain ⟨r_a1, r_c1, rfl, r_hm1, r_lc1, r_hu1⟩ := slice_open r_r1; clear r_hu1
  have r_K1 : Hid (Reads (Rep.slice 5 Rep.byte) w [.slice r_a1 r.body.length r_c1] r.body) := ⟨_, r_r1⟩
  clear r_r1 h'
  obtain ⟨i0, hi, hz0, hz1, hz2⟩ := info_parts infoCached
  go_enter Try.func67, Try.ntmps67
  go_wp2_with fail
  refine (specCopyCaches _ x _ (HR.out.below (by repeat (first | with_reducible exact belR | with_reducible apply belA | (with_reducible refine belS ?_ ?_; focus (first | omega | (simp; done) | (simp; omega))) | with_reducible apply belN | with_reducible apply belD | with_reducible assumption))) m n HLe.out (by omega) (by omega)).mono ?_
  rintro e w1 ⟨ao, cap, rfl, hf, hb⟩
  have HX : Hid (WB w1 w.heap.size #[.slice q_a1 x.caches.length q_c1]) := Lib.hid (((WB.at rfl).growA).growA.keep hb)
  have HV : Hid (WB w1 (w.heap.size + 1) #[.int .i64 r.type_, .int .i64 r.status, .int .i64 r.version, .slice r_a1 r.body.length r_c1, .bool r.shares]) := Lib.hid (((WB.at (by simp)).growA).keep hb)
  have HT : Hid (WB w1 (w.heap.size + 2) #[.slice none 0 0]) := Lib.hid ((WB.at (by simp)).keep hb)
  have HF : Hid (Fresh (Rep.slice 85 DCache.rep) (w.heap.size + 3) w1 [.slice ao x.caches.length cap] x.caches) := Lib.hid (hf.mono (by simp))
  have HB : Hid (Below w.heap.size w w1) := Lib.hid (below_call (by repeat (first | with_reducible exact belR | with_reducible apply belA | (with_reducible refine belS ?_ ?_; focus (first | omega | (simp; done) | (simp; omega))) | with_reducible apply belN | with_reducible apply belD | with_reducible assumption)) (by first | omega | (simp; done) | (simp; omega)) hb)
  have hz1' : w.heap.size + 3 ≤ w1.heap.size := by have y := hb.size; simp at y; omega
  have HP := Lib.hid (HF.out.partAt (Nat.le_refl _))
  clear hf hb
  go_upto_region 2 with fail
  refine settle (fun W => WB W w1.heap.size #[.slice ao x.caches.length cap] ∧ Below w1.heap.size w1 W) ⟨WB.at rfl, (by repeat (first | with_reducible exact belR | with_reducible apply belA | (with_reducible refine belS ?_ ?_; focus (first | omega | (simp; done) | (simp; omega))) | with_reducible apply belN | with_reducible apply belD | with_reducible assumption))⟩ ?_
  rintro w2 ⟨ho, hb⟩
  have HO := Lib.hid ho
  have hz2' : w1.heap.size + 1 ≤ w2.heap.size := HO.out.lt
  replace HX := Lib.hid (HX.out.keep hb)
  replace HV := Lib.hid (HV.out.keep hb)
  replace HT := Lib.hid (HT.out.keep hb)
  replace HF := Lib.hid (HF.out.below hb)
  replace HP := Lib.hid (HP.out.below hb)
  replace HB := Lib.hid (HB.out.trans (hb.mono HB.out.size))
  clear ho hb
  have ⟨c_HX, z_HX, f_HX⟩ := HX.out
  go_wp2_with fail
  refine (specFindCache _ x v _ (HR.out.below HB.out)).mono ?_
  rintro e w3 ⟨rfl, hb⟩
  clear c_HX z_HX f_HX
  have hz3' := hb.size
  replace HX := Lib.hid (HX.out.keep hb)
  replace HV := Lib.hid (HV.out.keep hb)
  replace HT := Lib.hid (HT.out.keep hb)
  replace HO := Lib.hid (HO.out.keep hb)
  replace HF := Lib.hid (HF.out.below hb)
  replace HP := Lib.hid (HP.out.below hb)
  replace HB := Lib.hid (HB.out.trans (hb.mono HB.out.size))
  clear hb
  rcases idxF_cases (versionIs v) x.caches with ⟨e1, _⟩ | ⟨k, hk, e1, _, _⟩
  · rw [e1]
    have ⟨c_HO, z_HO, f_HO⟩ := HO.out
    have ⟨c_HT, z_HT, f_HT⟩ := HT.out
    go_wp2
    refine bodyPost_ret (v := .tuple #[.agg #[.slice ao x.caches.length cap], .bool false]) (by simp [results, Try.results67, go_sem, c_HT]) rfl ⟨x, false, _, _, rfl, (Fresh.mono (B := (w.heap.size + 3)) (by repeat (first | with_reducible exact HF.out | with_reducible refine Fresh.setLow ?_ (by omega) | with_reducible refine Fresh.drew ?_)) (by omega)), HLe.out.mono (by omega) (by omega), by have z := HB.out; exact (by repeat (first | with_reducible exact belR | (with_reducible refine belAB ?_ ?_; focus (first | omega | (simp; done) | (simp; omega))) | (with_reducible refine belS ?_ ?_; focus (first | omega | (simp; done) | (simp; omega))) | with_reducible apply belN | with_reducible apply belD | with_reducible assumption))⟩
  · rw [e1]
    clear e1
    have j1 : (0 : Int) ≤ (k : Int) := by omega
    have j3 : (k : Int) < (x.caches.length : Int) := by omega
    have hcl := HLe.out.2 _ (List.getElem_mem hk)
    have ⟨c_HV, z_HV, f_HV⟩ := HV.out
    go_wp2_with fail
    refine (specCopyResponse _ r _ (HRr.out.below (by have y := HB.out; exact (by repeat (first | with_reducible exact belR | with_reducible apply belA | (with_reducible refine belS ?_ ?_; focus (first | omega | (simp; done) | (simp; omega))) | with_reducible apply belN | with_reducible apply belD | with_reducible assumption)))) (by omega)).mono ?_
    rintro e w4 ⟨ds, rfl, hf4, hb⟩
    obtain ⟨a3, c3, rfl⟩ := DResponse.fshape hf4
    clear c_HV z_HV f_HV
    have hz4' := hb.size
    replace HX := Lib.hid (HX.out.keep hb)
    replace HT := Lib.hid (HT.out.keep hb)
    replace HO := Lib.hid (HO.out.keep hb)
    replace HP := Lib.hid (HP.out.below hb)
    replace HB := Lib.hid (HB.out.trans (hb.mono HB.out.size))
    clear hb
    have HE4 : Hid (Fresh DCached.rep w3.heap.size w4 [.string site, .string path, .int .i64 r.type_, .int .i64 r.status, .int .i64 r.version, .slice a3 r.body.length c3, .bool r.shares] ⟨site, path, r⟩) := Lib.hid (DCached.fmk (e := ⟨site, path, r⟩) hf4 (by unfold maxLen; show site.size ≤ _; omega) (by unfold maxLen; show path.size ≤ _; omega))
    clear hf4 HF HV
    go_upto_region 6 with fail
    refine settle (fun W => WB W w4.heap.size #[.string site, .string path, .int .i64 r.type_, .int .i64 r.status, .int .i64 r.version, .slice a3 r.body.length c3, .bool r.shares] ∧ Below w4.heap.size w4 W) ⟨WB.at rfl, (by repeat (first | with_reducible exact belR | with_reducible apply belA | (with_reducible refine belS ?_ ?_; focus (first | omega | (simp; done) | (simp; omega))) | with_reducible apply belN | with_reducible apply belD | with_reducible assumption))⟩ ?_
    rintro w5 ⟨he, hb⟩
    have HE := Lib.hid he
    have hz5' : w4.heap.size + 1 ≤ w5.heap.size := HE.out.lt
    replace HX := Lib.hid (HX.out.keep hb)
    replace HT := Lib.hid (HT.out.keep hb)
    replace HO := Lib.hid (HO.out.keep hb)
    replace HP := Lib.hid (HP.out.below hb)
    replace HE4 := Lib.hid (HE4.out.below hb)
    replace HB := Lib.hid (HB.out.trans (hb.mono HB.out.size))
    clear he hb
    obtain ⟨g, K, a, c, rfl, c0, c1, hfz, hgK, hKb, hown, hrd, hput1, hput2⟩ := caches_at HP.out k hk
    clear hput1 hput2 hown hfz
    have ⟨c_HO, z_HO, f_HO⟩ := HO.out
    go_wp2_with fail
    refine (specEntryAt _ x.caches[k] site path _ (hrd.below (by repeat (first | with_reducible exact belR | with_reducible apply belA | (with_reducible refine belS ?_ ?_; focus (first | omega | (simp; done) | (simp; omega))) | with_reducible apply belN | with_reducible apply belD | with_reducible assumption)))).mono ?_
    rintro e w6 ⟨rfl, hb⟩
    clear c_HO z_HO f_HO
    have hz6' := hb.size
    replace HX := Lib.hid (HX.out.keep hb)
    replace HT := Lib.hid (HT.out.keep hb)
    replace HO := Lib.hid (HO.out.keep hb)
    replace HE := Lib.hid (HE.out.keep hb)
    replace HP := Lib.hid (HP.out.below hb)
    replace HE4 := Lib.hid (HE4.out.below hb)
    replace HB := Lib.hid (HB.out.trans (hb.mono HB.out.size))
    clear hb c0 c1 hgK hKb hrd
    rcases idxF_cases (entryIs site path) x.caches[k].entries with ⟨e1, _⟩ | ⟨i, hi', e1, _, _⟩
    case' inl =>
      rw [e1]
      clear e1
      go_upto_region 9 with fail
      obtain ⟨g', K, a, c, hg', c0, c1, hfz, hgK, hKb, hown, hrd, hput1, hput2⟩ := caches_at HP.out k hk
      simp only [Option.some.injEq, Addr.mk.injEq, and_true] at hg'
      subst hg'
      clear hrd c0
      have HPut1 := Lib.hid hput1
      have HPut2 := Lib.hid hput2
      have HOwn := Lib.hid hown
      have HKb := Lib.hid hKb
      have hgb := hKb g hgK
      clear hput1 hput2 hown hKb
      have hnot := Lib.hid (OwnsLt.notin HOwn.out)
      obtain ⟨fi, hfi⟩ : ∃ fi, fi = (Value.slice a x.caches[k].entries.length c).ownBlock.toList := ⟨_, rfl⟩
      have HFI := Lib.hid hfi
      rw [← hfi] at hnot
      have hgf : g ∉ fi := fun h => (hnot.out g h).1 hgK
      have hof : w1.heap.size ∉ fi := fun h => by have := hnot.out _ h; omega
      have hef : w4.heap.size ∉ fi := fun h => by have := hnot.out _ h; omega
      have hxf : w.heap.size ∉ fi := fun h => by have := hnot.out _ h; omega
      have htf : w.heap.size + 2 ∉ fi := fun h => by have := hnot.out _ h; omega
      clear hfi
      refine wp_region_chf fi [14] (by kernel_rfl) ?_
      intro wd hbd
      have hwz := hbd.size
      replace HX := Lib.hid (HX.out.keep hbd)
      replace HT := Lib.hid (HT.out.keep hbd)
      replace HO := Lib.hid (HO.out.keep hbd)
      replace HE := Lib.hid (HE.out.keep hbd)
      replace HE4 := Lib.hid (HE4.out.below hbd)
      replace HB := Lib.hid (HB.out.trans (hbd.mono HB.out.size))
      have hgl : g < w6.heap.size := block_lt_of_cell c1
      have c1d := (hbd.cell (p := ⟨g, k * 2 + 1, none⟩) (block_lt_of_cell c1)).trans c1
      have hfzd : ∀ j, wd.frozen? ⟨g, j, none⟩ = false := fun j => (hbd.frozen (p := ⟨g, j, none⟩) hgl).trans (hfz j)
      have hownd := OwnsLt.below HOwn.out hbd
      have HKd : Hid (∀ b ∈ K, wd.heap[b]? = w6.heap[b]?) := Lib.hid fun b hb => hbd.block b (by have := HKb.out b hb; omega)
      have HOwnD := Lib.hid hownd
      clear hbd c1 hfz hownd HOwn HPut2 HP
      have K_HO := chf_var (fp := fi) HO.out hof
      have K_HE := chf_var (fp := fi) HE.out hef
      have K_c1 := chf_cell (fp := fi) c1d hgf
      have hne : Nonempty (ChgdF fi wd) := ⟨⟨wd, Chg.refl⟩⟩
      refine wpU_group (fun _ _ _ _ _ h => h) (by kernel_rfl) (chf_of Chg.refl) [0,1,2,3,4,5,9] _ _ _ rfl (by kernel_rfl) ?_
      repeat (go_big_quiet_step (fail))
      refine wpQuiet_nil ?_
      refine wpU_two 6 10 rfl rfl (by kernel_rfl) ?ta ?tb
      case' ta =>
        go_wp2_with fail
        refine HardPost.mk (chf_of Chg.refl) ?_
        refine wpU_group (fun _ _ _ _ _ h => h) (by kernel_rfl) (chf_of Chg.refl) [7,8] _ _ _ rfl (by kernel_rfl) ?_
        repeat (go_big_quiet_step (fail))
        refine wpQuiet_nil ?_
        refine wpU_one 10 rfl (by kernel_rfl) ?_
        go_wp2_with fail
        refine HardPost.mk (chf_of (chgA Chg.refl)) ?_
      case' tb =>
        go_wp2_with fail
        refine HardPost.mk (chf_of (chgA Chg.refl)) ?_
        refine wpU_one 6 rfl (by kernel_rfl) ?_
        go_wp2_with fail
        refine HardPost.mk (chf_of (chgA Chg.refl)) ?_
        refine wpU_group (fun _ _ _ _ _ h => h) (by kernel_rfl) (chf_of (chgA Chg.refl)) [7,8] _ _ _ rfl (by kernel_rfl) ?_
        repeat (go_big_quiet_step (fail))
        refine wpQuiet_nil ?_
      all_goals
        clear K_HO K_HE K_c1
        refine wpU_one 11 rfl (by kernel_rfl) ?_
        refine wpList_pushNK _ rfl _ _ 83 83 rfl (w.heap.size + 3) K w1.heap.size 88 i0 _ _ Try.underlying83 Try.underlying83 hi hz0 hz1 hz2 rfl (.slice a x.caches[k].entries.length c) x.caches[k].entries rfl HOwnD.out (⟨site, path, r⟩ : DCached) _ _ _ rfl rfl (HE4.out.mono (by omega)) (by have := hcl.1; omega) (by decide) (by omega) (by omega) (fun b hb => (HKb.out b hb).2) ?_
        intro ao2 cap2 w8 hO8 hg8
        have hc8 : Chg fi wd w8 := by
          have y := Chg.of_grown hg8
          rw [← HFI.out] at y
          exact (chgA Chg.refl).trans y
        obtain ⟨es, hes⟩ : ∃ es, es = x.caches[k].entries ++ [(⟨site, path, r⟩ : DCached)] := ⟨_, rfl⟩
        have hel : es.length = x.caches[k].entries.length + 1 := by rw [hes]; simp
        have hesm : Hid (∀ e ∈ es, EntryLe e) := Lib.hid fun e he => by
          rw [hes] at he
          rcases List.mem_append.1 he with h | h
          · exact hcl.2 e h
          · simp at h; subst h; exact ⟨hsite, hpath, hbody⟩
        rw [← hes] at hO8
        have c8 := (World.cell?_of_block (a := ⟨g, k * 2 + 1, none⟩) (hc8.block g (by omega) hgf)).trans c1d
        have hfz8 : ∀ j, w8.frozen? ⟨g, j, none⟩ = false := fun j => (World.frozen?_of_block (a := ⟨g, j, none⟩) (hc8.block g (by omega) hgf)).trans (hfzd j)
        have hput := HPut1.out (w8.setCell ⟨g, k * 2 + 1, none⟩ (.slice ao2 es.length cap2)) w8 ao2 cap2 es (by rw [hel]; exact hO8.set (.inl hgK))
          (fun b hb hne => ((Below.heap_setCell _ _ _ _ hne).trans (hc8.block b (by have := HKb.out b hb; omega) (fun hm => (hnot.out b hm).1 hb))).trans (HKd.out b hb)) ((hc8.block g (by omega) hgf).trans (HKd.out g hgK)) rfl
        rw [hel] at hput
        have HPutF := Lib.hid hput
        have HX8 := Lib.hid (HX.out.chg hc8 hxf)
        have HT8 := Lib.hid (HT.out.chg hc8 htf)
        have HO8 := Lib.hid (HO.out.chg hc8 hof)
        have HB8 : Hid (Below w.heap.size w w8) := Lib.hid (HB.out.trans (hc8.below (fun b hb => by have := hnot.out b hb; omega) HB.out.size))
        clear hput hO8 hg8 hes HPut1 HE HX HT HO HB
        go_wp2_with fail
        refine HardPost.mk (chf_of hc8) ?_
        refine wpU_one 12 rfl (by kernel_rfl) ?_
        go_wp2_with fail
        refine HardPost.mk (chf_of hc8) ?_
        refine wpU_group (fun _ _ _ _ _ h => h) (by kernel_rfl) (chf_of hc8) [13] _ _ _ rfl (by kernel_rfl) ?_
        repeat (go_big_quiet_step (fail))
        refine wpQuiet_nil ?_
        refine wpU_tail [14] _ _ _ _ rfl (by kernel_rfl) ?_
        go_wp2_with fail
        refine NoPanic.normal ?_
        clear c8 hfz8 c1d hfzd
        go_upto_region 10 with fail
        refine settle (fun W => ∃ y : DCacheSet, SetLe m (n + 1) y ∧ WB W w.heap.size #[.slice q_a1 x.caches.length q_c1] ∧ WB W (w.heap.size + 2) #[.slice none 0 0] ∧ WB W w1.heap.size #[.slice (some ⟨g, 0, none⟩) y.caches.length cap] ∧ Fresh (Rep.slice 85 DCache.rep) (w.heap.size + 3) W [.slice (some ⟨g, 0, none⟩) y.caches.length cap] y.caches ∧ Below w.heap.size w W) ⟨⟨x.caches.set k ⟨x.caches[k].version, es⟩⟩, set_put HLe.out hk (by have := hcl.1; omega) hesm.out, HX8.out.setOther (by omega), HT8.out.setOther (by omega), by show WB _ _ #[.slice _ (List.set _ _ _).length _]; rw [List.length_set]; exact HO8.out.setOther (by omega), by show Fresh _ _ _ [.slice _ (List.set _ _ _).length _] _; rw [List.length_set]; exact HPutF.out, by have y := HB8.out; exact (by repeat (first | with_reducible exact belR | (with_reducible refine belAB ?_ ?_; focus (first | omega | (simp; done) | (simp; omega))) | (with_reducible refine belS ?_ ?_; focus (first | omega | (simp; done) | (simp; omega))) | with_reducible apply belN | with_reducible apply belD | with_reducible assumption))⟩ ?_
        clear HX8 HT8 HO8 HE4 HB8 HPutF
    case' inr =>
      rw [e1]
      clear e1
      have j4 : (0 : Int) ≤ (i : Int) := by omega
      have j6 : (i : Int) < (x.caches[k].entries.length : Int) := by omega
      go_upto_region 8 with fail
      refine wp_region_chf ([]) [9] (by kernel_rfl) ?_
      intro wd hbd
      have hwz := hbd.size
      replace HX := Lib.hid (HX.out.keep hbd)
      replace HT := Lib.hid (HT.out.keep hbd)
      replace HO := Lib.hid (HO.out.keep hbd)
      replace HE := Lib.hid (HE.out.keep hbd)
      replace HP := Lib.hid (HP.out.below hbd)
      replace HE4 := Lib.hid (HE4.out.below hbd)
      have hne : Nonempty (ChgdF ([]) wd) := ⟨⟨wd, Chg.refl⟩⟩
      replace HB := Lib.hid (HB.out.trans (hbd.mono HB.out.size))
      clear hbd
      obtain ⟨g', K, a, c, hg', c0, c1, hfz, hgK, hKb, hown, hrd, hput1, hput2⟩ := caches_at HP.out k hk
      simp only [Option.some.injEq, Addr.mk.injEq, and_true] at hg'
      subst hg'
      clear hrd c0
      have HPut1 := Lib.hid hput1
      have HPut2 := Lib.hid hput2
      have HOwn := Lib.hid hown
      have HKb := Lib.hid hKb
      have hgb := hKb g hgK
      clear hput1 hput2 hown hKb
      obtain ⟨g2, rfl, hex, hfz2, hB2, hm2, hK2, hset⟩ := entries_at HOwn.out (fun b hb => (HKb.out b hb).2) (by omega) i hi'
      have hput := HPut2.out _ _ (hset [.string site, .string path, .int .i64 r.type_, .int .i64 r.status, .int .i64 r.version, .slice a3 r.body.length c3, .bool r.shares] ⟨site, path, r⟩ rfl (HE4.out.mono (by omega))) (fun b hb => setCells_other (by intro e; subst e; exact hK2 hb) _ _ _) (by rw [List.length_set])
      have HPutF := Lib.hid hput
      obtain ⟨u0, x0⟩ := hex 0 (by decide)
      have x0 : wd.cell? ⟨g2, i * 7, none⟩ = some u0 := x0
      obtain ⟨u1, x1⟩ := hex 1 (by decide)
      obtain ⟨u2, x2⟩ := hex 2 (by decide)
      obtain ⟨u3, x3⟩ := hex 3 (by decide)
      obtain ⟨u4, x4⟩ := hex 4 (by decide)
      obtain ⟨u5, x5⟩ := hex 5 (by decide)
      obtain ⟨u6, x6⟩ := hex 6 (by decide)
      have hgl := block_lt_of_cell x0
      clear hput hset hex HPut1 HPut2 HOwn
      have K_HO := chf_var (fp := []) HO.out (by simp)
      have K_HE := chf_var (fp := []) HE.out (by simp)
      have K_c1 := chf_cell (fp := []) c1 (by simp)
      refine wpU_group (fun _ _ _ _ _ h => h) (by kernel_rfl) (chf_of Chg.refl) [0,1,2,6,7] _ _ _ rfl (by kernel_rfl) ?_
      repeat (go_big_quiet_step (fail))
      refine wpQuiet_nil ?_
      refine wpU_one 3 rfl (by kernel_rfl) ?_
      go_wp2_with fail
      refine HardPost.mk (chf_of Chg.refl) ?_
      refine wpU_group (fun _ _ _ _ _ h => h) (by kernel_rfl) (chf_of Chg.refl) [4,5] _ _ _ rfl (by kernel_rfl) ?_
      repeat (go_big_quiet_step (fail))
      refine wpQuiet_nil ?_
      clear K_HO K_HE K_c1
      refine wpU_one 8 rfl (by kernel_rfl) ?_
      go_wp2_with fail
      refine HardPost.mk (chf_of Chg.refl) ?_
      refine wpU_tail [9] _ _ _ _ rfl (by kernel_rfl) ?_
      go_wp2_with fail
      refine NoPanic.normal ?_
      clear x0 x1 x2 x3 x4 x5 x6 hfz hfz2
      go_upto_region 10 with fail
      refine settle (fun W => ∃ y : DCacheSet, SetLe m (n + 1) y ∧ WB W w.heap.size #[.slice q_a1 x.caches.length q_c1] ∧ WB W (w.heap.size + 2) #[.slice none 0 0] ∧ WB W w1.heap.size #[.slice (some ⟨g, 0, none⟩) y.caches.length cap] ∧ Fresh (Rep.slice 85 DCache.rep) (w.heap.size + 3) W [.slice (some ⟨g, 0, none⟩) y.caches.length cap] y.caches ∧ Below w.heap.size w W) ⟨⟨x.caches.set k ⟨x.caches[k].version, (x.caches[k].entries.set i ⟨site, path, r⟩)⟩⟩, set_put HLe.out hk (by rw [List.length_set]; have := hcl.1; omega) (fun e he => by rcases mem_set_cases he with h | rfl; exact hcl.2 e h; exact ⟨hsite, hpath, hbody⟩), off7s HX.out (by omega), off7s HT.out (by omega), by show WB _ _ #[.slice _ (List.set _ _ _).length _]; rw [List.length_set]; exact off7s HO.out (by omega), by show Fresh _ _ _ [.slice _ (List.set _ _ _).length _] _; rw [List.length_set]; exact HPutF.out, by have y := HB.out; exact (by repeat (first | with_reducible exact belR | (with_reducible refine belAB ?_ ?_; focus (first | omega | (simp; done) | (simp; omega))) | (with_reducible refine belS ?_ ?_; focus (first | omega | (simp; done) | (simp; omega))) | with_reducible apply belN | with_reducible apply belD | with_reducible assumption))⟩ ?_
      clear HX HT HO HE HP HE4 HB HPutF
    all_goals
      rintro w8 ⟨y, hy, hx, ht, ho, hf, hb⟩
      have HY := Lib.hid hy
      have HX := Lib.hid hx
      have HT := Lib.hid ht
      have HO := Lib.hid ho
      have HF := Lib.hid hf
      have HB := Lib.hid hb
      clear hy hx ht ho hf hb
      cases b0 : isCachesF x
      case' false =>
        have ⟨c_HX, z_HX, f_HX⟩ := HX.out
        go_wp2_with fail
        refine (specIsCacheSet _ x _ (HR.out.below (by have z := HB.out; exact (by repeat (first | with_reducible exact belR | with_reducible apply belA | (with_reducible refine belS ?_ ?_; focus (first | omega | (simp; done) | (simp; omega))) | with_reducible apply belN | with_reducible apply belD | with_reducible assumption))))).mono ?_
        rintro e w9 ⟨rfl, hb⟩
        rw [b0]
        clear c_HX z_HX f_HX
        replace HX := Lib.hid (HX.out.keep hb)
        replace HT := Lib.hid (HT.out.keep hb)
        replace HB := Lib.hid (HB.out.trans (hb.mono HB.out.size))
        clear hb
      case' true => cases b1 : isCachesF y
      case' true.false =>
        have ⟨c_HX, z_HX, f_HX⟩ := HX.out
        go_wp2_with fail
        refine (specIsCacheSet _ x _ (HR.out.below (by have z := HB.out; exact (by repeat (first | with_reducible exact belR | with_reducible apply belA | (with_reducible refine belS ?_ ?_; focus (first | omega | (simp; done) | (simp; omega))) | with_reducible apply belN | with_reducible apply belD | with_reducible assumption))))).mono ?_
        rintro e w8b ⟨rfl, hb⟩
        rw [b0]
        clear c_HX z_HX f_HX
        replace HX := Lib.hid (HX.out.keep hb)
        replace HT := Lib.hid (HT.out.keep hb)
        replace HO := Lib.hid (HO.out.keep hb)
        replace HF := Lib.hid (HF.out.below hb)
        replace HB := Lib.hid (HB.out.trans (hb.mono HB.out.size))
        clear hb
        have ⟨c_HO, z_HO, f_HO⟩ := HO.out
        go_wp2_with fail
        refine (specIsCacheSet _ y _ HF.out.reads).mono ?_
        rintro e w9 ⟨rfl, hb⟩
        rw [b1]
        clear c_HO z_HO f_HO
        replace HX := Lib.hid (HX.out.keep hb)
        replace HT := Lib.hid (HT.out.keep hb)
        replace HB := Lib.hid (HB.out.trans (hb.mono HB.out.size))
        clear hb
      case true.true =>
        have ⟨c_HX, z_HX, f_HX⟩ := HX.out
        go_wp2_with fail
        refine (specIsCacheSet _ x _ (HR.out.below (by have z := HB.out; exact (by repeat (first | with_reducible exact belR | with_reducible apply belA | (with_reducible refine belS ?_ ?_; focus (first | omega | (simp; done) | (simp; omega))) | with_reducible apply belN | with_reducible apply belD | with_reducible assumption))))).mono ?_
        rintro e w8b ⟨rfl, hb⟩
        rw [b0]
        clear c_HX z_HX f_HX
        replace HX := Lib.hid (HX.out.keep hb)
        replace HT := Lib.hid (HT.out.keep hb)
        replace HO := Lib.hid (HO.out.keep hb)
        replace HF := Lib.hid (HF.out.below hb)
        replace HB := Lib.hid (HB.out.trans (hb.mono HB.out.size))
        clear hb
        have ⟨c_HO, z_HO, f_HO⟩ := HO.out
        go_wp2_with fail
        refine (specIsCacheSet _ y _ HF.out.reads).mono ?_
        rintro e w9 ⟨rfl, hb⟩
        rw [b1]
        clear c_HO z_HO f_HO
        replace HX := Lib.hid (HX.out.keep hb)
        replace HT := Lib.hid (HT.out.keep hb)
        replace HO := Lib.hid (HO.out.keep hb)
        replace HF := Lib.hid (HF.out.below hb)
        replace HB := Lib.hid (HB.out.trans (hb.mono HB.out.size))
        clear hb
        have ⟨c_HO, z_HO, f_HO⟩ := HO.out
        have ⟨c_HT, z_HT, f_HT⟩ := HT.out
        go_wp2
        refine bodyPost_ret (v := .tuple #[.agg #[.slice (some ⟨g, 0, none⟩) y.caches.length cap], .bool true]) (by simp [results, Try.results67, go_sem, c_HT]) rfl ⟨y, true, _, _, rfl, (Fresh.mono (B := (w.heap.size + 3)) (by repeat (first | with_reducible exact HF.out | with_reducible refine Fresh.setLow ?_ (by omega) | with_reducible refine Fresh.drew ?_)) (by omega)), HY.out, by have z := HB.out; exact (by repeat (first | with_reducible exact belR | (with_reducible refine belAB ?_ ?_; focus (first | omega | (simp; done) | (simp; omega))) | (with_reducible refine belS ?_ ?_; focus (first | omega | (simp; done) | (simp; omega))) | with_reducible apply belN | with_reducible apply belD | with_reducible assumption))⟩
      all_goals
        have ⟨c_HX, z_HX, f_HX⟩ := HX.out
        go_wp2_with fail
        refine (specCopyCaches _ x _ (HR.out.below HB.out) m n HLe.out (by omega) (by omega)).mono ?_
        rintro e w10 ⟨ao7, cap7, rfl, hf7, hb7⟩
        have HF7 : Hid (Fresh (Rep.slice 85 DCache.rep) (w.heap.size + 3) w10 [.slice ao7 x.caches.length cap7] x.caches) := Lib.hid (hf7.mono (by have z := HB.out.size; have z2 := HT.out.lt; omega))
        have HB7 := Lib.hid (HB.out.trans (hb7.mono HB.out.size))
        have ⟨cr7, zr7, fr7⟩ := HT.out.keep hb7
        clear c_HX z_HX f_HX
        clear hf7 hb7
        go_wp2
        refine bodyPost_ret (v := .tuple #[.agg #[.slice ao7 x.caches.length cap7], .bool false]) (by simp [results, Try.results67, go_sem, cr7]) rfl ⟨x, false, _, _, rfl, (Fresh.mono (B := (w.heap.size + 3)) (by repeat (first | with_reducible exact HF7.out | with_reducible refine Fresh.setLow ?_ (by omega) | with_reducible refine Fresh.drew ?_)) (by omega)), HLe.out.mono (by omega) (by omega), by have z := HB7.out; exact (by repeat (first | with_reducible exact belR | (with_reducible refine belAB ?_ ?_; focus (first | omega | (simp; done) | (simp; omega))) | (with_reducible refine belS ?_ ?_; focus (first | omega | (simp; done) | (simp; omega))) | with_reducible apply belN | with_reducible apply belD | with_reducible assumption))⟩

end Go.Proofs.Yteajhmpppciicaa
