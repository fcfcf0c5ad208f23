/-
  applied, LocalStore.
-/
import Derived.Test.YtlfebehpmefioaaGreatItemFam2
import Derived.Test.YtlfebehpmefioaaGreatStoreCnt
import Derived.Test.YtlfebehpmefioaaGreatSrvFam
namespace Go.Proofs.YtlfebehpmefioaaGreat
open Go.RowKit

theorem Gap.of_part {α : Type} {R : Rep α} {B m m2 lo hi : Nat} {w : World} {cs : List Value} {x : α} (h : Part R lo hi w cs x) (h1 : B ≤ lo) (h2 : hi ≤ m) : Gap R B m m2 w cs x := by
  obtain ⟨fp, r1, r2, r3⟩ := h
  exact ⟨fp, r1, r2, fun b hb => by have := r3 b hb; exact ⟨by omega, .inl (by omega)⟩⟩
theorem Gap.of_fresh {α : Type} {R : Rep α} {B m m2 C : Nat} {w : World} {cs : List Value} {x : α} (h : Fresh R C w cs x) (h1 : B ≤ C) (h2 : m2 ≤ C) : Gap R B m m2 w cs x := by
  obtain ⟨fp, r1, r2, r3⟩ := h
  exact ⟨fp, r1, r2, fun b hb => by have := r3 b hb; exact ⟨by omega, .inr (by omega)⟩⟩
theorem Part.offCell {α : Type} {R : Rep α} {lo hi : Nat} {w : World} {cs : List Value} {x : α} {g o : Nat} {u : Value} (h : Part R lo hi w cs x) (hg : g < lo ∨ hi ≤ g) : Part R lo hi (w.setCell ⟨g, o, none⟩ u) cs x := by
  obtain ⟨fp, h1, h2, h3⟩ := h
  exact ⟨fp, R.frame h1 fun b hb => Below.heap_setCell _ _ _ _ (by have := h3 b hb; simp only []; omega), h2, h3⟩
theorem applied_fmk {B : Nat} {w : World} {v : Value} {s : DStore} {l : List DWrite} (h : Fresh (Rep.slice 71 DItem.rep) B w [v] (appliedF s l).items) (s0 : s.name.size ≤ maxLen) : Fresh DStore.rep B w [.string s.name, v, .int .i64 (appliedF s l).auto] (appliedF s l) := by
  have y := DStore.fmk (x := appliedF s l) h (by rw [applied_name]; exact s0)
  rw [applied_name] at y
  exact y
theorem applied_fopen {B : Nat} {w : World} {cs : List Value} {s : DStore} {l : List DWrite} (h : Fresh DStore.rep B w cs (appliedF s l)) :
    ∃ a1 c1, cs = [.string s.name, .slice a1 (appliedF s l).items.length c1, .int .i64 (appliedF s l).auto] ∧ Fresh (Rep.slice 71 DItem.rep) B w [.slice a1 (appliedF s l).items.length c1] (appliedF s l).items := by
  obtain ⟨a1, c1, rfl, h1, _⟩ := DStore.fopen h
  exact ⟨a1, c1, by rw [applied_name], h1⟩
theorem applied_step {s : DStore} {l : List DWrite} {k : Nat} (h : k < l.length) : setItemF (appliedF s (l.take k)) l[k] = appliedF s (l.take (k + 1)) := (appliedF_succ h).symm
theorem applied_skip {s : DStore} {l : List DWrite} {k : Nat} (h : k < l.length) (hb : setItemB (appliedF s (l.take k)) l[k] = false) : appliedF s (l.take (k + 1)) = appliedF s (l.take k) := by
  rw [appliedF_succ h, setItemF, hb]; rfl
attribute [local irreducible] appliedF setItemB setItemF

set_option maxRecDepth 100000 in
set_option maxHeartbeats 4000000 in
theorem implApplied (cs : List Value) (s : DStore) (v : Value) (l : List DWrite) (w : World) (h : Reads DStore.rep w cs s) (h' : Reads (Rep.slice 34 DWrite.rep) w [v] l) (hs : SmallStore s) :
    Calls Tryz.prog 70 #[.agg cs.toArray, v] w fun e w' => ∃ ds, e = .returned (.agg ds.toArray) ∧ Fresh DStore.rep w.heap.size w' ds (appliedF s l) ∧ Below w.heap.size w w' := by
  have HS := Lib.hid h
  obtain ⟨fp_q, h⟩ := h
  obtain ⟨q_v1, q_f1, rfl, _, q_s0, q_r1⟩ := DStore.rd.1 h
  obtain ⟨q_a1, q_c1, rfl, q_hm1, q_lc1, q_hu1⟩ := slice_open q_r1; clear q_hu1
  have q_K1 : Hid (Reads (Rep.slice 71 DItem.rep) w [.slice q_a1 s.items.length q_c1] s.items) := ⟨_, q_r1⟩
  clear q_r1 h
  have HL := Lib.hid h'
  obtain ⟨f', h'⟩ := h'
  obtain ⟨ao, cap, rfl, hlm, hlc, _⟩ := slice_open h'
  clear h'
  go_enter Tryz.func70, Tryz.ntmps70
  go_wp2_with fail
  refine (implCopyStore _ s _ (HS.out.below bEl) hs).mono ?_
  rintro e w1 ⟨ds, rfl, hf, hb⟩
  obtain ⟨a1, c1, rfl, hfw, _⟩ := DStore.fopen hf
  have HT : Hid (WB w1 (w.heap.size + 1) #[.string ⟨#[]⟩, .slice none 0 0, .int .i64 0]) := Lib.hid ((WB.at (by simp)).keep hb)
  have HG : Hid (Gap (Rep.slice 71 DItem.rep) (w.heap.size + 2) w1.heap.size (w1.heap.size + 1) w1 [.slice a1 s.items.length c1] s.items) := Lib.hid (Gap.of_part (hfw.partAt (Nat.le_refl _)) (by simp) (Nat.le_refl _))
  have HB : Hid (Below w.heap.size w w1) := Lib.hid (below_call bEl bSz hb)
  have hz : w.heap.size + 2 ≤ w1.heap.size := by have y := hb.size; simp at y; omega
  clear hb hf hfw
  have h0 : appliedF s (l.take 0) = s := by rw [List.take_zero]; unfold appliedF; rfl
  go_wp2
  go_loopw [12] (fun i wr => ∃ (k : Nat) (v : Value), k ≤ l.length ∧ i = .int .i64 k ∧ WB wr (w.heap.size + 1) #[.string ⟨#[]⟩, .slice none 0 0, .int .i64 0] ∧ WB wr w1.heap.size #[.string s.name, v, .int .i64 (appliedF s (l.take k)).auto] ∧ Gap (Rep.slice 71 DItem.rep) (w.heap.size + 2) w1.heap.size (w1.heap.size + 1) wr [v] (appliedF s (l.take k)).items ∧ Below w.heap.size w wr) (fun i _ => l.length - (intOf i).toNat)
  case atStart => exact ⟨0, .slice a1 s.items.length c1, by omega, rfl, HT.out.growA, by rw [h0]; exact WB.at rfl, by rw [h0]; exact HG.out.below bEl, by have y := HB.out; exact bEb⟩
  case round =>
    clear HT HG HB h0
    obtain ⟨k, v, hk, rfl, ht, ho, hg, hb⟩ := hrel
    obtain ⟨bo, bc, rfl⟩ := hg.fresh.slice
    have HT := Lib.hid ht
    have HO := Lib.hid ho
    have HG := Lib.hid hg
    have HB := Lib.hid hb
    clear ht ho hg hb
    have ⟨c_HO, z_HO, f_HO⟩ := HO.out
    by_cases hlt : k < l.length
    · obtain ⟨b, off, cs_b, rfl, hw_b, hr_b, hcell_b⟩ := slice_at (HL.out.below HB.out) k hlt
      obtain ⟨fe_b, hrd_b⟩ := hr_b
      have HR_b : Hid (Reads DWrite.rep wr cs_b l[k]) := ⟨_, hrd_b⟩
      obtain ⟨rfl, _, b_s0, b_s1⟩ := DWrite.rd.1 hrd_b
      clear hrd_b
      have b_c0 : wr.cell? ⟨b, off + k * 7, none⟩ = some (.int .i64 l[k].device) := hcell_b 0 (by decide)
      have b_c1 : wr.cell? ⟨b, off + k * 7 + 1, none⟩ = some (.int .i64 l[k].seq) := hcell_b 1 (by decide)
      have b_c2 : wr.cell? ⟨b, off + k * 7 + 2, none⟩ = some (.int .i64 l[k].key.kind) := hcell_b 2 (by decide)
      have b_c3 : wr.cell? ⟨b, off + k * 7 + 3, none⟩ = some (.int .i64 l[k].key.n) := hcell_b 3 (by decide)
      have b_c4 : wr.cell? ⟨b, off + k * 7 + 4, none⟩ = some (.string l[k].key.text) := hcell_b 4 (by decide)
      have b_c5 : wr.cell? ⟨b, off + k * 7 + 5, none⟩ = some (.string l[k].field) := hcell_b 5 (by decide)
      have b_c6 : wr.cell? ⟨b, off + k * 7 + 6, none⟩ = some (.int .i64 l[k].n) := hcell_b 6 (by decide)
      clear hcell_b
      have i1 : (0 : Int) ≤ (k : Int) := by omega
      have i2 : (k : Int) < (l.length : Int) := by omega
      have HRd := Lib.hid (applied_fmk HG.out.fresh q_s0).reads
      have hsm := SmallStore.applied hs (l.take k)
      go_wp2_with fail
      refine (implSetItemField _ _ (appliedF s (l.take k)) l[k] _ (HRd.out.below bEl) (HR_b.out.below bEl) hsm).mono ?_
      rintro e w2 ⟨ds, rfl, hf, hb2⟩
      rw [applied_step hlt] at hf
      obtain ⟨a2, c2, rfl, hfw⟩ := applied_fopen hf
      have hq : Below wr.heap.size wr w2 := Below.trans bEb (hb2.mono bSz)
      have HG2 : Hid (Gap (Rep.slice 71 DItem.rep) (w.heap.size + 2) w1.heap.size (w1.heap.size + 1) w2 [.slice a2 (appliedF s (l.take (k + 1))).items.length c2] (appliedF s (l.take (k + 1))).items) := Lib.hid (Gap.of_fresh hfw (by simp; omega) (by simp; omega))
      have HB2 := Lib.hid (HB.out.trans (hq.mono HB.out.size))
      have HT2 := Lib.hid (HT.out.keep hq)
      have HO2 := Lib.hid (HO.out.keep hq)
      clear c_HO z_HO f_HO
      clear hb2 hf hfw hq HRd HR_b HG HO HT HB b_c0 b_c1 b_c2 b_c3 b_c4 b_c5 b_c6
      have ⟨c_HO2, z_HO2, f_HO2⟩ := HO2.out
      go_wp2
      go_light
      exact ⟨⟨k + 1, _, by omega, by go_num, ((HT2.out.setOther (by omega)).setOther (by omega)).setOther (by omega), HO2.out.set3, ((HG2.out.set (by omega)).set (by omega)).set (by omega), by have y := HB2.out; exact bEb⟩, by simp [intOf]; omega⟩
    · have e := Lib.hid (appliedF_all (s := s) hlt)
      rw [e.out] at HG HO
      clear c_HO z_HO f_HO
      have ⟨c_HO, z_HO, f_HO⟩ := HO.out
      have ⟨c_HT, z_HT, f_HT⟩ := HT.out
      go_wp2
      refine bodyPost_ret (v := .agg #[.string s.name, .slice bo (appliedF s l).items.length bc, .int .i64 (appliedF s l).auto]) (by simp [results, Tryz.results70, go_sem, c_HT]) rfl ⟨_, rfl, ?_, ?_⟩
      · exact applied_fmk (Fresh.mono (B := (w.heap.size + 2)) (by repeat (first | exact HG.out.fresh | refine Fresh.setLow ?_ (by omega) | refine Fresh.drew ?_)) (by omega)) q_s0
      · have y := HB.out
        exact bEb

set_option maxRecDepth 100000 in
set_option maxHeartbeats 8000000 in
theorem specApplied (cs : List Value) (s : DStore) (v : Value) (l : List DWrite) (w : World) (h : Reads DStore.rep w cs s) (h' : Reads (Rep.slice 34 DWrite.rep) w [v] l) (hs : SmallStore s) :
    Calls Tryz.prog 75 #[.agg cs.toArray, v] w fun e w' => ∃ ds, e = .returned (.agg ds.toArray) ∧ Fresh DStore.rep w.heap.size w' ds (appliedF s l) ∧ Below w.heap.size w w' := by
  have HS := Lib.hid h
  obtain ⟨fp_q, h⟩ := h
  obtain ⟨q_v1, q_f1, rfl, _, q_s0, q_r1⟩ := DStore.rd.1 h
  obtain ⟨q_a1, q_c1, rfl, q_hm1, q_lc1, q_hu1⟩ := slice_open q_r1; clear q_hu1
  have q_K1 : Hid (Reads (Rep.slice 71 DItem.rep) w [.slice q_a1 s.items.length q_c1] s.items) := ⟨_, q_r1⟩
  clear q_r1 h
  have HL := Lib.hid h'
  obtain ⟨f', h'⟩ := h'
  obtain ⟨ao, cap, rfl, hlm, hlc, _⟩ := slice_open h'
  clear h'
  go_enter Tryz.func75, Tryz.ntmps75
  go_wp2_with fail
  refine (specCopyStore _ s _ (HS.out.below bEl) hs).mono ?_
  rintro e w1 ⟨ds, rfl, hf, hb⟩
  obtain ⟨a1, c1, rfl, hfw, _⟩ := DStore.fopen hf
  have HT : Hid (WB w1 (w.heap.size + 1) #[.string ⟨#[]⟩, .slice none 0 0, .int .i64 0]) := Lib.hid ((WB.at (by simp)).keep hb)
  have HG : Hid (Gap (Rep.slice 71 DItem.rep) (w.heap.size + 2) w1.heap.size (w1.heap.size + 1) w1 [.slice a1 s.items.length c1] s.items) := Lib.hid (Gap.of_part (hfw.partAt (Nat.le_refl _)) (by simp) (Nat.le_refl _))
  have HB : Hid (Below w.heap.size w w1) := Lib.hid (below_call bEl bSz hb)
  have hz : w.heap.size + 2 ≤ w1.heap.size := by have y := hb.size; simp at y; omega
  clear hb hf hfw
  have h0 : appliedF s (l.take 0) = s := by rw [List.take_zero]; unfold appliedF; rfl
  go_wp2
  go_loopw [6] (fun i wr => ∃ (k : Nat) (v : Value), k ≤ l.length ∧ i = .int .i64 k ∧ WB wr (w.heap.size + 1) #[.string ⟨#[]⟩, .slice none 0 0, .int .i64 0] ∧ WB wr w1.heap.size #[.string s.name, v, .int .i64 (appliedF s (l.take k)).auto] ∧ Gap (Rep.slice 71 DItem.rep) (w.heap.size + 2) w1.heap.size (w1.heap.size + 1) wr [v] (appliedF s (l.take k)).items ∧ Below w.heap.size w wr) (fun i _ => l.length - (intOf i).toNat)
  case atStart => exact ⟨0, .slice a1 s.items.length c1, by omega, rfl, HT.out.growA, by rw [h0]; exact WB.at rfl, by rw [h0]; exact HG.out.below bEl, by have y := HB.out; exact bEb⟩
  case round =>
    clear HT HG HB h0
    obtain ⟨k, v, hk, rfl, ht, ho, hg, hb⟩ := hrel
    obtain ⟨bo, bc, rfl⟩ := hg.fresh.slice
    have HT := Lib.hid ht
    have HO := Lib.hid ho
    have HG := Lib.hid hg
    have HB := Lib.hid hb
    clear ht ho hg hb
    have ⟨c_HO, z_HO, f_HO⟩ := HO.out
    by_cases hlt : k < l.length
    · obtain ⟨b, off, cs_b, rfl, hw_b, hr_b, hcell_b⟩ := slice_at (HL.out.below HB.out) k hlt
      obtain ⟨fe_b, hrd_b⟩ := hr_b
      have HR_b : Hid (Reads DWrite.rep wr cs_b l[k]) := ⟨_, hrd_b⟩
      obtain ⟨rfl, _, b_s0, b_s1⟩ := DWrite.rd.1 hrd_b
      clear hrd_b
      have b_c0 : wr.cell? ⟨b, off + k * 7, none⟩ = some (.int .i64 l[k].device) := hcell_b 0 (by decide)
      have b_c1 : wr.cell? ⟨b, off + k * 7 + 1, none⟩ = some (.int .i64 l[k].seq) := hcell_b 1 (by decide)
      have b_c2 : wr.cell? ⟨b, off + k * 7 + 2, none⟩ = some (.int .i64 l[k].key.kind) := hcell_b 2 (by decide)
      have b_c3 : wr.cell? ⟨b, off + k * 7 + 3, none⟩ = some (.int .i64 l[k].key.n) := hcell_b 3 (by decide)
      have b_c4 : wr.cell? ⟨b, off + k * 7 + 4, none⟩ = some (.string l[k].key.text) := hcell_b 4 (by decide)
      have b_c5 : wr.cell? ⟨b, off + k * 7 + 5, none⟩ = some (.string l[k].field) := hcell_b 5 (by decide)
      have b_c6 : wr.cell? ⟨b, off + k * 7 + 6, none⟩ = some (.int .i64 l[k].n) := hcell_b 6 (by decide)
      clear hcell_b
      have i1 : (0 : Int) ≤ (k : Int) := by omega
      have i2 : (k : Int) < (l.length : Int) := by omega
      have HRd := Lib.hid (applied_fmk HG.out.fresh q_s0).reads
      have hsm := SmallStore.applied hs (l.take k)
      have hzr := HB.out.size
      have hz1 := HO.out.lt
      go_upto_region 5 with fail
      go_cut [7, 8] (fun p q W => ∃ kb a2 c2 lo hi, p = .pointer (some ⟨kb, 0, none⟩) ∧ q = .bool (setItemB (appliedF s (l.take k)) l[k]) ∧ WB W kb #[.string s.name, .slice a2 (appliedF s (l.take (k + 1))).items.length c2, .int .i64 (appliedF s (l.take (k + 1))).auto] ∧ Part (Rep.slice 71 DItem.rep) lo hi W [.slice a2 (appliedF s (l.take (k + 1))).items.length c2] (appliedF s (l.take (k + 1))).items ∧ wr.heap.size ≤ lo ∧ wr.heap.size ≤ kb ∧ Below wr.heap.size wr W)
      case first =>
        go_region_law (first
          | (go_simp; go_at_call 52; refine (specSetItemField _ _ (appliedF s (l.take k)) l[k] _ (HRd.out.below (by first | exact belR | exact belA belR | exact belD belR | exact belA (belD belR) | exact belD (belA belR))) (HR_b.out.below (by first | exact belR | exact belA belR | exact belD belR | exact belA (belD belR) | exact belD (belA belR))) hsm).mono ?_; rintro e w2 ⟨ds, rfl, hf, hb2⟩; rw [applied_step hlt] at hf; obtain ⟨a2, c2, rfl, hfw⟩ := applied_fopen hf; have hq : Below wr.heap.size wr w2 := Below.trans bEb (hb2.mono bSz); (first | (have hwb : WB w2 wr.heap.size #[.string ⟨#[]⟩, .slice none 0 0, .int .i64 0] := (by first | exact (WB.at (by first | rfl | simp)).keep hb2 | exact (WB.at (by first | rfl | simp)).growD.keep hb2); have ⟨cb2, zb2, fb2⟩ := hwb) | skip)))
        all_goals
          have hs2 := hq.size
          go_wp2_with fail
          go_meet
          first
            | (have hh := hwb
               exact ⟨wr.heap.size, a2, c2, wr.heap.size + 1, w2.heap.size, rfl, rfl, hh.set3, Part.offCell (Part.offCell (Part.offCell (hfw.partAt (by simp)) (.inl (by omega))) (.inl (by omega))) (.inl (by omega)), by omega, Nat.le_refl _, bEb⟩)
            | exact ⟨w2.heap.size, a2, c2, wr.heap.size, w2.heap.size, rfl, rfl, WB.at rfl, Part.below (hfw.partAt (by first | exact Nat.le_refl _ | (simp; done) | (simp; omega))) bEl, Nat.le_refl _, by omega, bEb⟩
      case rest =>
        obtain ⟨kb, a2, c2, lo, hi, rfl, rfl, hn, hp, hlo, hkb, hq⟩ := hcut
        obtain ⟨w2, hw2⟩ : ∃ w2 : World, w2 = wc := ⟨_, rfl⟩
        subst hw2
        have HN := Lib.hid hn
        have HP := Lib.hid hp
        have HB2 := Lib.hid (HB.out.trans (hq.mono HB.out.size))
        have HT2 := Lib.hid (HT.out.keep hq)
        have HO2 := Lib.hid (HO.out.keep hq)
        have HG2 := Lib.hid (HG.out.below hq)
        clear c_HO z_HO f_HO
        clear hq HRd HR_b HG HO HT HB b_c0 b_c1 b_c2 b_c3 b_c4 b_c5 b_c6 hn hp
        have ⟨c_HN, z_HN, f_HN⟩ := HN.out
        have ⟨c_HO2, z_HO2, f_HO2⟩ := HO2.out
        cases n : setItemB (appliedF s (l.take k)) l[k]
        · have e := Lib.hid (applied_skip hlt n)
          go_wp2
          go_light
          exact ⟨⟨k + 1, _, by omega, by go_num, HT2.out, by rw [e.out]; exact HO2.out, by rw [e.out]; exact HG2.out, HB2.out⟩, by simp [intOf]; omega⟩
        · go_wp2
          go_light
          exact ⟨⟨k + 1, _, by omega, by go_num, ((HT2.out.setOther (by omega)).setOther (by omega)).setOther (by omega), HO2.out.set3, (((Gap.of_fresh (C := lo) (HP.out.fresh (Nat.le_refl _)) (by omega) (by omega)).set (by omega)).set (by omega)).set (by omega), by have y := HB2.out; exact bEb⟩, by simp [intOf]; omega⟩
    · have e := Lib.hid (appliedF_all (s := s) hlt)
      rw [e.out] at HG HO
      clear c_HO z_HO f_HO
      have ⟨c_HO, z_HO, f_HO⟩ := HO.out
      have ⟨c_HT, z_HT, f_HT⟩ := HT.out
      go_wp2
      refine bodyPost_ret (v := .agg #[.string s.name, .slice bo (appliedF s l).items.length bc, .int .i64 (appliedF s l).auto]) (by simp [results, Tryz.results75, go_sem, c_HT]) rfl ⟨_, rfl, ?_, ?_⟩
      · exact applied_fmk (Fresh.mono (B := (w.heap.size + 2)) (by repeat (first | exact HG.out.fresh | refine Fresh.setLow ?_ (by omega) | refine Fresh.drew ?_)) (by omega)) q_s0
      · have y := HB.out
        exact bEb

set_option maxRecDepth 100000 in
set_option maxHeartbeats 1600000 in
theorem implLocalStore (cs : List Value) (x : DReplica) (w : World) (h : Reads DReplica.rep w cs x) (hs : SmallStore x.base) :
    Calls Tryz.prog 25 #[.agg cs.toArray] w fun e w' => ∃ ds, e = .returned (.agg ds.toArray) ∧ Fresh DStore.rep w.heap.size w' ds (localStoreF x) ∧ Below w.heap.size w w' := by
  obtain ⟨fp_q, h⟩ := h
  obtain ⟨q_v1, q_v2, q_f1, q_f2, rfl, _, q_s0, q_r1, q_r2⟩ := DReplica.rd.1 h
  obtain ⟨q_a1, q_c1, rfl, q_hm1, q_lc1, q_hu1⟩ := slice_open q_r1; clear q_hu1
  have q_K1 : Hid (Reads (Rep.slice 71 DItem.rep) w [.slice q_a1 x.base.items.length q_c1] x.base.items) := ⟨_, q_r1⟩
  obtain ⟨q_a2, q_c2, rfl, q_hm2, q_lc2, q_hu2⟩ := slice_open q_r2; clear q_hu2
  have q_K2 : Hid (Reads (Rep.slice 34 DWrite.rep) w [.slice q_a2 x.sync.outbox.writes.length q_c2] x.sync.outbox.writes) := ⟨_, q_r2⟩
  clear q_r1 q_r2 h
  have HSt : Hid (Reads DStore.rep w [.string x.base.name, .slice q_a1 x.base.items.length q_c1, .int .i64 x.base.auto] x.base) := by
    obtain ⟨f, r⟩ := q_K1.out
    exact ⟨f, DStore.rd.2 ⟨_, _, rfl, rfl, q_s0, r⟩⟩
  go_enter Tryz.func25, Tryz.ntmps25
  go_wp2_with fail
  refine (implApplied _ x.base _ x.sync.outbox.writes _ (HSt.out.below bEl) (q_K2.out.below bEl) hs).mono ?_
  rintro e w1 ⟨ds, rfl, hf, hb⟩
  obtain ⟨a1, c1, rfl, hfw⟩ := applied_fopen hf
  have HT : Hid (WB w1 (w.heap.size + 1) #[.string ⟨#[]⟩, .slice none 0 0, .int .i64 0]) := Lib.hid ((WB.at (by simp)).keep hb)
  have HF := Lib.hid (hfw.mono (B' := w.heap.size + 2) (by simp))
  have HB : Hid (Below w.heap.size w w1) := Lib.hid (below_call bEl bSz hb)
  clear hb hf hfw
  have ⟨c_HT, z_HT, f_HT⟩ := HT.out
  go_wp2
  refine bodyPost_ret (v := .agg #[.string x.base.name, .slice a1 (localStoreF x).items.length c1, .int .i64 (localStoreF x).auto]) (by simp [results, Tryz.results25, go_sem, c_HT, localStoreF]) rfl ⟨_, rfl, ?_, ?_⟩
  · exact applied_fmk (s := x.base) (l := x.sync.outbox.writes) (Fresh.mono (B := (w.heap.size + 2)) (by repeat (first | exact HF.out | refine Fresh.setLow ?_ (by omega) | refine Fresh.drew ?_)) (by omega)) q_s0
  · have y := HB.out
    exact bEb

set_option maxRecDepth 100000 in
set_option maxHeartbeats 1600000 in
theorem specLocalStore (cs : List Value) (x : DReplica) (w : World) (h : Reads DReplica.rep w cs x) (hs : SmallStore x.base) :
    Calls Tryz.prog 151 #[.agg cs.toArray] w fun e w' => ∃ ds, e = .returned (.agg ds.toArray) ∧ Fresh DStore.rep w.heap.size w' ds (localStoreF x) ∧ Below w.heap.size w w' := by
  obtain ⟨fp_q, h⟩ := h
  obtain ⟨q_v1, q_v2, q_f1, q_f2, rfl, _, q_s0, q_r1, q_r2⟩ := DReplica.rd.1 h
  obtain ⟨q_a1, q_c1, rfl, q_hm1, q_lc1, q_hu1⟩ := slice_open q_r1; clear q_hu1
  have q_K1 : Hid (Reads (Rep.slice 71 DItem.rep) w [.slice q_a1 x.base.items.length q_c1] x.base.items) := ⟨_, q_r1⟩
  obtain ⟨q_a2, q_c2, rfl, q_hm2, q_lc2, q_hu2⟩ := slice_open q_r2; clear q_hu2
  have q_K2 : Hid (Reads (Rep.slice 34 DWrite.rep) w [.slice q_a2 x.sync.outbox.writes.length q_c2] x.sync.outbox.writes) := ⟨_, q_r2⟩
  clear q_r1 q_r2 h
  have HSt : Hid (Reads DStore.rep w [.string x.base.name, .slice q_a1 x.base.items.length q_c1, .int .i64 x.base.auto] x.base) := by
    obtain ⟨f, r⟩ := q_K1.out
    exact ⟨f, DStore.rd.2 ⟨_, _, rfl, rfl, q_s0, r⟩⟩
  go_enter Tryz.func151, Tryz.ntmps151
  go_wp2_with fail
  refine (specApplied _ x.base _ x.sync.outbox.writes _ (HSt.out.below bEl) (q_K2.out.below bEl) hs).mono ?_
  rintro e w1 ⟨ds, rfl, hf, hb⟩
  obtain ⟨a1, c1, rfl, hfw⟩ := applied_fopen hf
  have HT : Hid (WB w1 (w.heap.size + 1) #[.string ⟨#[]⟩, .slice none 0 0, .int .i64 0]) := Lib.hid ((WB.at (by simp)).keep hb)
  have HF := Lib.hid (hfw.mono (B' := w.heap.size + 2) (by simp))
  have HB : Hid (Below w.heap.size w w1) := Lib.hid (below_call bEl bSz hb)
  clear hb hf hfw
  have ⟨c_HT, z_HT, f_HT⟩ := HT.out
  go_wp2
  refine bodyPost_ret (v := .agg #[.string x.base.name, .slice a1 (localStoreF x).items.length c1, .int .i64 (localStoreF x).auto]) (by simp [results, Tryz.results151, go_sem, c_HT, localStoreF]) rfl ⟨_, rfl, ?_, ?_⟩
  · exact applied_fmk (s := x.base) (l := x.sync.outbox.writes) (Fresh.mono (B := (w.heap.size + 2)) (by repeat (first | exact HF.out | refine Fresh.setLow ?_ (by omega) | refine Fresh.drew ?_)) (by omega)) q_s0
  · have y := HB.out
    exact bEb

end Go.Proofs.YtlfebehpmefioaaGreat
