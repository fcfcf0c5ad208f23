/-
  ItemFam: Find, Copies, CopyStore, InsGen, InsItem, PutItem, in one text.
-/
import Derived.Deep.RegionLaw
import Derived.Lib.Overlaps
import Derived.Lib.AppendZerosOnto
import Derived.Laws.CopyOwn
import Derived.Test.YtlfebehpmefioaaGreatFuncsFam
import Derived.Test.YtlfebehpmefioaaGreatRecFam
import Derived.Test.YtlfebehpmefioaaGreatBase
import Derived.Test.YtlfebehpmefioaaGreatLFamA

/-
  fieldAt, FindItem.
-/
namespace Go.Proofs.YtlfebehpmefioaaGreat
open Go.RowKit

theorem namePred (name : ByteArray) (B k : Nat) (w : World) (hk : k < B) (hc : w.cell? ⟨k, 0, none⟩ = some (.string name)) : PredOn Tryz.prog DField.rep 158 #[.pointer (some ⟨k, 0, none⟩)] (namedAs name) B w := by
  intro W cs x hb hr
  obtain ⟨fp, hr⟩ := hr
  obtain ⟨rfl, _, _⟩ := DField.rd.1 hr
  have hc' := (hb.cell (p := ⟨k, 0, none⟩) hk).trans hc
  have hkW := block_lt_of_cell hc'
  clear hr hb hc
  change Calls Tryz.prog 158 #[.agg #[.string x.name, .int .i64 x.n], .pointer (some ⟨k, 0, none⟩)] W _
  go_enter Tryz.func158, Tryz.ntmps158
  go_wp2
  go_ret
  exact ⟨rfl, bEl⟩

set_option maxHeartbeats 800000 in
theorem implFieldAt (cs : List Value) (x : DRecord) (name : ByteArray) (w : World) (h : Reads DRecord.rep w cs x) :
    Calls Tryz.prog 136 #[.agg cs.toArray, .string name] w fun e w' => e = .returned (.int .i64 (idxF (namedAs name) x.fields)) ∧ Below w.heap.size w w' := by
  obtain ⟨fp_q, h⟩ := h
  obtain ⟨q_v1, q_f1, rfl, _, q_r1⟩ := DRecord.rd.1 h
  obtain ⟨q_a1, q_c1, rfl, q_hm1, q_lc1, q_hu1⟩ := slice_open q_r1; clear q_hu1
  have q_K1 : Hid (Reads (Rep.slice 112 DField.rep) w [.slice q_a1 x.fields.length q_c1] x.fields) := ⟨_, q_r1⟩
  clear q_r1 h
  go_enter Tryz.func136, Tryz.ntmps136
  go_wp2_with fail
  refine (indexFuncField _ _ (namedAs name) (w.heap.size + 2) _ _ _ (enters_at Tryz.func158 (by kernel_rfl) rfl) (q_K1.out.below bEl) (namePred name _ _ _ (by omega) ((WB.at (by simp)).cell 0)) (by simp)).mono ?_
  rintro e w1 ⟨rfl, hb⟩
  have HB := Lib.hid (Below.trans bEl (hb.mono bSz) : Below w.heap.size w w1)
  clear hb
  go_wp2
  go_ret
  exact ⟨rfl, HB.out⟩

theorem keyPred (y : DKey) (B k : Nat) (w : World) (hk : k < B) (hc : WB w k #[.int .i64 y.kind, .int .i64 y.n, .string y.text]) : PredOn Tryz.prog DItem.rep 134 #[.pointer (some ⟨k, 0, none⟩)] (keyIs y) B w := by
  intro W cs x hb hr
  obtain ⟨fp, hr⟩ := hr
  obtain ⟨q_a1, q_c1, rfl⟩ := DItem.shape hr
  have HC := Lib.hid (hc.grow hb hk)
  clear hb hc hr
  have heq := fun W : World => equalInKey x.key y W
  change Calls Tryz.prog 134 #[.agg #[.int .i64 x.key.kind, .int .i64 x.key.n, .string x.key.text, .slice q_a1 x.record.fields.length q_c1], .pointer (some ⟨k, 0, none⟩)] W _
  have ⟨c_HC, z_HC, f_HC⟩ := HC.out
  go_enter Tryz.func134, Tryz.ntmps134
  go_wp2
  go_ret
  exact ⟨rfl, bEl⟩

set_option maxHeartbeats 800000 in
theorem implFindItem (cs ck : List Value) (x : DStore) (y : DKey) (w : World) (h : Reads DStore.rep w cs x) (h' : Reads DKey.rep w ck y) :
    Calls Tryz.prog 94 #[.agg cs.toArray, .agg ck.toArray] w fun e w' => e = .returned (.int .i64 (idxF (keyIs y) x.items)) ∧ Below w.heap.size w w' := by
  obtain ⟨fp_q, h⟩ := h
  obtain ⟨q_v1, q_f1, rfl, _, q_s0, q_r1⟩ := DStore.rd.1 h
  obtain ⟨q_a1, q_c1, rfl, q_hm1, q_lc1, q_hu1⟩ := slice_open q_r1; clear q_hu1
  have q_K1 : Hid (Reads (Rep.slice 71 DItem.rep) w [.slice q_a1 x.items.length q_c1] x.items) := ⟨_, q_r1⟩
  clear q_r1 h
  obtain ⟨fk, hk⟩ := h'
  obtain ⟨rfl, _, hkt⟩ := DKey.rd.1 hk
  clear hk
  go_enter Tryz.func94, Tryz.ntmps94
  go_wp2_with fail
  refine (indexFuncItem _ _ (keyIs y) (w.heap.size + 2) _ _ _ (enters_at Tryz.func134 (by kernel_rfl) rfl) (q_K1.out.below bEl) (keyPred y _ _ _ (by omega) (WB.at (by simp))) (by simp)).mono ?_
  rintro e w1 ⟨rfl, hb⟩
  have HB := Lib.hid (Below.trans bEl (hb.mono bSz) : Below w.heap.size w w1)
  clear hb
  go_wp2
  go_ret
  exact ⟨rfl, HB.out⟩

theorem find_none {s : DStore} {k : DKey} (h : idxF (keyIs k) s.items = -1) : s.items.findIdx? (keyIs k) = none := by
  unfold idxF at h
  split at h
  · omega
  · assumption
theorem find_some {s : DStore} {k : DKey} {i : Nat} (h : idxF (keyIs k) s.items = (i : Int)) : s.items.findIdx? (keyIs k) = some i := by
  unfold idxF at h
  split at h
  · rename_i j hj
    rw [hj]; congr 1; omega
  · omega

set_option maxRecDepth 100000 in
set_option maxHeartbeats 1600000 in
theorem specFindItem (cs ck : List Value) (x : DStore) (y : DKey) (w : World) (h : Reads DStore.rep w cs x) (h' : Reads DKey.rep w ck y) :
    Calls Tryz.prog 26 #[.agg cs.toArray, .agg ck.toArray] w fun e w' => e = .returned (.int .i64 (idxF (keyIs y) x.items)) ∧ Below w.heap.size w w' := by
  obtain ⟨fp_q, h⟩ := h
  obtain ⟨q_v1, q_f1, rfl, _, q_s0, q_r1⟩ := DStore.rd.1 h
  obtain ⟨q_a1, q_c1, rfl, q_hm1, q_lc1, q_hu1⟩ := slice_open q_r1; clear q_hu1
  have q_K1 : Hid (Reads (Rep.slice 71 DItem.rep) w [.slice q_a1 x.items.length q_c1] x.items) := ⟨_, q_r1⟩
  clear q_r1 h
  obtain ⟨fk, hk⟩ := h'
  obtain ⟨rfl, _, hkt⟩ := DKey.rd.1 hk
  clear hk
  go_enter Tryz.func26, Tryz.ntmps26
  go_wp2
  go_loopw [5] (fun i wr => ∃ k : Nat, k ≤ x.items.length ∧ i = .int .i64 k ∧ Hid (∀ j, (hj : j < x.items.length) → j < k → keyIs y x.items[j] = false) ∧ WB wr w.heap.size #[.string x.name, .slice q_a1 x.items.length q_c1, .int .i64 x.auto] ∧ WB wr (w.heap.size + 1) #[.int .i64 y.kind, .int .i64 y.n, .string y.text] ∧ Below w.heap.size w wr) (fun i _ => x.items.length - (intOf i).toNat)
  case atStart => exact ⟨0, by omega, rfl, Lib.hid (by intro j hj h; omega), (WB.at rfl).growA, WB.at (by simp), bEl⟩
  case round =>
    obtain ⟨k, hk, rfl, HA, hx, hy, hb⟩ := hrel
    have HB := Lib.hid hb
    have HX := Lib.hid hx
    have HY := Lib.hid hy
    clear hb hx hy
    have ⟨c_HX, z_HX, f_HX⟩ := HX.out
    by_cases hlt : k < x.items.length
    · obtain ⟨b, off, cs_b, rfl, hw_b, hr_b, hcell_b⟩ := slice_at (q_K1.out.below HB.out) k hlt
      obtain ⟨fe_b, hrd_b⟩ := hr_b
      have HR_b : Hid (Reads DItem.rep wr cs_b x.items[k]) := ⟨_, hrd_b⟩
      obtain ⟨b_v1, b_f1, rfl, _, b_s0, b_r1⟩ := DItem.rd.1 hrd_b
      obtain ⟨b_a1, b_k1, rfl, _⟩ := slice_open b_r1
      have b_R1 : Hid (Reads (Rep.slice 112 DField.rep) wr [.slice b_a1 x.items[k].record.fields.length b_k1] x.items[k].record.fields) := ⟨_, b_r1⟩
      clear b_r1
      clear hrd_b
      have b_c0 : wr.cell? ⟨b, off + k * 4, none⟩ = some (.int .i64 x.items[k].key.kind) := hcell_b 0 (by decide)
      have b_c1 : wr.cell? ⟨b, off + k * 4 + 1, none⟩ = some (.int .i64 x.items[k].key.n) := hcell_b 1 (by decide)
      have b_c2 : wr.cell? ⟨b, off + k * 4 + 2, none⟩ = some (.string x.items[k].key.text) := hcell_b 2 (by decide)
      have b_c3 : wr.cell? ⟨b, off + k * 4 + 3, none⟩ = some (.slice b_a1 x.items[k].record.fields.length b_k1) := hcell_b 3 (by decide)
      clear hcell_b
      clear HR_b b_R1
      have j1 : (0 : Int) ≤ (k : Int) := by omega
      have j3 : (k : Int) < (x.items.length : Int) := by omega
      cases hq : keyIs y x.items[k]
      case' true => have n5 : decide (x.items[k].key = y) = true := hq
      case' false => have n5 : decide (x.items[k].key = y) = false := hq
      all_goals
        have HQ := Lib.hid hq
        clear hq
        go_wp2
        have K0 := rg_var HX.out
        have K1 := rg_var HY.out
        have C3 := rg_cell b_c0
        have C4 := rg_cell b_c1
        have C5 := rg_cell b_c2
        have heq := fun W : World => equalInKey x.items[k].key y W
        refine wp_region_rg (by kernel_rfl) (by kernel_rfl) ?_
        repeat (go_big_quiet_step (fail))
        refine wpQuiet_nil ?_
        rintro _ ⟨pq, rfl⟩
        clear K0 K1 C3 C4 C5 heq n5
        have HB1 := Lib.hid (rg_below wr pq)
      · have HE := Lib.hid (none_snoc hlt HA.out HQ.out)
        go_wp2
        go_light
        exact ⟨⟨k + 1, by omega, by go_num, HE, HX.out.keep HB1.out, HY.out.keep HB1.out, below_call HB.out HB.out.size HB1.out⟩, by simp [intOf]; omega⟩
      · have HE := Lib.hid (idxF_hit hlt HQ.out HA.out)
        go_wp2
        go_ret
        exact ⟨ret_int HE.out.symm, below_call HB.out HB.out.size HB1.out⟩
    · have HE := Lib.hid (idxF_miss (p := keyIs y) (l := x.items) (fun j hj => HA.out j hj (by omega)))
      go_wp2
      go_ret
      exact ⟨ret_int HE.out.symm, HB.out⟩

end Go.Proofs.YtlfebehpmefioaaGreat

/-
  copyRecord, copyItem, copyStore.
-/
namespace Go.Proofs.YtlfebehpmefioaaGreat
open Go.RowKit

theorem DRecord.fmk {B : Nat} {w : World} {v : Value} {x : DRecord} (h : Fresh (Rep.slice 112 DField.rep) B w [v] x.fields) : Fresh DRecord.rep B w [v] x :=
  DRecord.fresh (h.partAt (Nat.le_refl _)) (Nat.le_refl _)
theorem DRecord.fopen {B : Nat} {w : World} {cs : List Value} {x : DRecord} (h : Fresh DRecord.rep B w cs x) :
    ∃ a1 c1, cs = [.slice a1 x.fields.length c1] ∧ Fresh (Rep.slice 112 DField.rep) B w [.slice a1 x.fields.length c1] x.fields := by
  obtain ⟨fp, h, hn, hg⟩ := h
  obtain ⟨v1, f1, rfl, rfl, r1⟩ := DRecord.parts h
  obtain ⟨a1, c1, rfl, _⟩ := slice_open r1
  exact ⟨a1, c1, rfl, fp, r1, hn, hg⟩
theorem DStore.fmk {B : Nat} {w : World} {v : Value} {x : DStore} (h : Fresh (Rep.slice 71 DItem.rep) B w [v] x.items) (s0 : x.name.size ≤ maxLen) : Fresh DStore.rep B w [.string x.name, v, .int .i64 x.auto] x :=
  DStore.fresh (h.partAt (Nat.le_refl _)) (Nat.le_refl _) s0
theorem DStore.fopen {B : Nat} {w : World} {cs : List Value} {x : DStore} (h : Fresh DStore.rep B w cs x) :
    ∃ a1 c1, cs = [.string x.name, .slice a1 x.items.length c1, .int .i64 x.auto] ∧ Fresh (Rep.slice 71 DItem.rep) B w [.slice a1 x.items.length c1] x.items ∧ x.name.size ≤ maxLen := by
  obtain ⟨fp, h, hn, hg⟩ := h
  obtain ⟨v1, f1, rfl, rfl, s0, r1⟩ := DStore.parts h
  obtain ⟨a1, c1, rfl, _⟩ := slice_open r1
  exact ⟨a1, c1, rfl, ⟨fp, r1, hn, hg⟩, s0⟩

set_option maxRecDepth 100000 in
set_option maxHeartbeats 800000 in
theorem implCopyRecord (cs : List Value) (x : DRecord) (w : World) (h : Reads DRecord.rep w cs x) (hs : x.fields.length ≤ 1048600) :
    Calls Tryz.prog 135 #[.agg cs.toArray] w fun e w' => ∃ ds, e = .returned (.agg ds.toArray) ∧ Fresh DRecord.rep w.heap.size w' ds x ∧ Below w.heap.size w w' := by
  obtain ⟨fp_q, h⟩ := h
  obtain ⟨q_v1, q_f1, rfl, _, q_r1⟩ := DRecord.rd.1 h
  obtain ⟨q_a1, q_c1, rfl, q_hm1, q_lc1, q_hu1⟩ := slice_open q_r1; clear q_hu1
  have q_K1 : Hid (Reads (Rep.slice 112 DField.rep) w [.slice q_a1 x.fields.length q_c1] x.fields) := ⟨_, q_r1⟩
  clear q_r1 h
  obtain ⟨i0, hi, hz0, hz1, hz2⟩ := info_parts infoField
  go_enter Tryz.func135, Tryz.ntmps135
  go_wp2_with (at_builtin; refine wpList_grow _ rfl _ _ 67 67 rfl DField.flat (w.heap.size + 2) 112 i0 _ _ Tryz.underlying67 hi hz0 hz1 hz2 rfl _ [] rfl (lit_fresh DField.flat (w := _) (xs := #[]) (us := []) rfl rfl (by decide) (by simp) (by simp)) _ x.fields rfl (DField.flat.src Tryz.underlying67 (q_K1.out.below bEl)) ?c1a ?c2a ?c3a ?c4a ?_)
  case c1a => exact (DField.flat.row q_K1.out).2
  case c2a => (try simp only [List.length_nil, Nat.zero_add]); omega
  case c3a => (try simp only [List.length_nil, Nat.zero_add]); unfold maxLen; omega
  try (case c4a => simp; try omega)
  intro ao1 cap1 w1 hf1 hb1
  have HF1 := Lib.hid hf1
  have HB1 := Lib.hid (Below.trans bEb (hb1.mono (by omega)) : Below w.heap.size w w1)
  have ⟨cr, zr, fr⟩ : WB w1 (w.heap.size + 1) #[.slice none 0 0] := ((WB.at (by simp)).growA).grow hb1 (by omega)
  clear hf1 hb1
  go_wp2
  refine bodyPost_ret (v := .agg #[.slice ao1 x.fields.length cap1]) (by simp [results, Tryz.results135, go_sem, cr]) rfl ⟨_, rfl, ?_, ?_⟩
  · exact DRecord.fmk (Fresh.mono (B := (w.heap.size + 2)) (by repeat (first | exact HF1.out | refine Fresh.setLow ?_ (by omega) | refine Fresh.drew ?_)) (by omega))
  · have y := HB1.out
    exact bEb

set_option maxRecDepth 100000 in
set_option maxHeartbeats 1600000 in
theorem implCopyItem (cs : List Value) (x : DItem) (w : World) (h : Reads DItem.rep w cs x) (hs : x.record.fields.length ≤ 1048600) :
    Calls Tryz.prog 126 #[.agg cs.toArray] w fun e w' => ∃ ds, e = .returned (.agg ds.toArray) ∧ Fresh DItem.rep w.heap.size w' ds x ∧ Below w.heap.size w w' := by
  obtain ⟨fp_q, h⟩ := h
  obtain ⟨q_v1, q_f1, rfl, _, q_s0, q_r1⟩ := DItem.rd.1 h
  obtain ⟨q_a1, q_c1, rfl, q_hm1, q_lc1, q_hu1⟩ := slice_open q_r1; clear q_hu1
  have q_K1 : Hid (Reads (Rep.slice 112 DField.rep) w [.slice q_a1 x.record.fields.length q_c1] x.record.fields) := ⟨_, q_r1⟩
  clear q_r1 h
  have HR : Hid (Reads DRecord.rep w [.slice q_a1 x.record.fields.length q_c1] x.record) := by
    obtain ⟨f, r⟩ := q_K1.out
    exact ⟨f, DRecord.rd.2 ⟨_, _, rfl, rfl, r⟩⟩
  go_enter Tryz.func126, Tryz.ntmps126
  go_wp2_with fail
  refine settle (fun W => WB W w.heap.size #[.int .i64 x.key.kind, .int .i64 x.key.n, .string x.key.text, .slice q_a1 x.record.fields.length q_c1] ∧ WB W (w.heap.size + 1) #[.int .i64 0, .int .i64 0, .string ⟨#[]⟩, .slice none 0 0] ∧ Below w.heap.size w W ∧ w.heap.size + 2 ≤ W.heap.size) ⟨(WB.at rfl).growA, WB.at (by simp), bEl, by simp⟩ ?_
  rintro wr ⟨hx, ht, hb, hz⟩
  have HX := Lib.hid hx
  have HT := Lib.hid ht
  have HB := Lib.hid hb
  clear hx ht hb
  have HS : Hid (∀ w', Chg [w.heap.size + 1] wr w' → (∀ o, w'.cell? ⟨w.heap.size, o, none⟩ = #[.int .i64 x.key.kind, .int .i64 x.key.n, .string x.key.text, .slice q_a1 x.record.fields.length q_c1][o]?) ∧ Chg [w.heap.size + 1] wr w') := Lib.hid fun w' hw' => ⟨(HX.out.chg hw' (by simp)).cell, hw'⟩
  have ⟨c_HX, z_HX, f_HX⟩ := HX.out
  have ⟨c_HT, z_HT, f_HT⟩ := HT.out
  go_region_held3 (fun w' => (∀ o, w'.cell? ⟨w.heap.size, o, none⟩ = #[.int .i64 x.key.kind, .int .i64 x.key.n, .string x.key.text, .slice q_a1 x.record.fields.length q_c1][o]?) ∧ Chg [w.heap.size + 1] wr w')
    (first | exact HS.out _ (chgD Chg.refl) | exact HS.out _ hc2 | exact HS.out _ (Chg.set (by simp) (Chg.set (by simp) (Chg.set (by simp) (Chg.set (by simp) hc2)))))
    (first | (go_at_call 135; refine (implCopyRecord _ x.record _ (HR.out.below (by have y := HB.out; exact bEb)) hs).mono ?_; rintro e w2 ⟨ds, rfl, hf2, hb2⟩; obtain ⟨a2, c2, rfl⟩ := DRecord.fshape hf2; have hc2 : Chg [w.heap.size + 1] wr w2 := (chgD Chg.refl).trans (Chg.of_below hb2 (Nat.le_refl _)); have hw2 := HT.out.growD.keep hb2; have ⟨e2, l2, f2⟩ := hw2))
  all_goals
    have HF2 := Lib.hid hf2
    have HB2 : Hid (Below w.heap.size w w2) := Lib.hid (HB.out.trans (hc2.below (by simp) HB.out.size))
    have hz2 : w.heap.size + 2 ≤ wr.heap.size := hz
    clear hf2 hc2 hw2
    go_wp2
    refine bodyPost_ret (v := .agg #[.int .i64 x.key.kind, .int .i64 x.key.n, .string x.key.text, .slice a2 x.record.fields.length c2]) (by simp [results, Tryz.results126, go_sem, e2]) rfl ⟨_, rfl, ?_, ?_⟩
    · refine DItem.fresh (B := w.heap.size) (Fresh.partAt (lo := w.heap.size) (Fresh.mono (B := wr.heap.size) (by repeat (first | exact HF2.out | refine Fresh.setLow ?_ (by omega) | refine Fresh.drew ?_)) (by omega)) (Nat.le_refl _)) (Nat.le_refl _) q_s0
    · have y := HB2.out
      exact bEb

set_option maxRecDepth 100000 in
set_option maxHeartbeats 800000 in
theorem specCopyRecord (cs : List Value) (x : DRecord) (w : World) (h : Reads DRecord.rep w cs x) (hs : x.fields.length ≤ 1048600) :
    Calls Tryz.prog 142 #[.agg cs.toArray] w fun e w' => ∃ ds, e = .returned (.agg ds.toArray) ∧ Fresh DRecord.rep w.heap.size w' ds x ∧ Below w.heap.size w w' := by
  obtain ⟨fp_q, h⟩ := h
  obtain ⟨q_v1, q_f1, rfl, _, q_r1⟩ := DRecord.rd.1 h
  obtain ⟨q_a1, q_c1, rfl, q_hm1, q_lc1, q_hu1⟩ := slice_open q_r1; clear q_hu1
  have q_K1 : Hid (Reads (Rep.slice 112 DField.rep) w [.slice q_a1 x.fields.length q_c1] x.fields) := ⟨_, q_r1⟩
  clear q_r1 h
  obtain ⟨i0, hi, hz0, hz1, hz2⟩ := info_parts infoField
  go_enter Tryz.func142, Tryz.ntmps142
  go_wp2_with (at_builtin; refine wpList_grow _ rfl _ _ 67 67 rfl DField.flat (w.heap.size + 2) 112 i0 _ _ Tryz.underlying67 hi hz0 hz1 hz2 rfl _ [] rfl (lit_fresh DField.flat (w := _) (xs := #[]) (us := []) rfl rfl (by decide) (by simp) (by simp)) _ x.fields rfl (DField.flat.src Tryz.underlying67 (q_K1.out.below bEl)) ?c1a ?c2a ?c3a ?c4a ?_)
  case c1a => exact (DField.flat.row q_K1.out).2
  case c2a => (try simp only [List.length_nil, Nat.zero_add]); omega
  case c3a => (try simp only [List.length_nil, Nat.zero_add]); unfold maxLen; omega
  try (case c4a => simp; try omega)
  intro ao1 cap1 w1 hf1 hb1
  have HF1 := Lib.hid hf1
  have HB1 := Lib.hid (Below.trans bEb (hb1.mono (by omega)) : Below w.heap.size w w1)
  have ⟨cr, zr, fr⟩ : WB w1 (w.heap.size + 1) #[.slice none 0 0] := ((WB.at (by simp)).growA).grow hb1 (by omega)
  clear hf1 hb1
  go_wp2
  refine bodyPost_ret (v := .agg #[.slice ao1 x.fields.length cap1]) (by simp [results, Tryz.results142, go_sem, cr]) rfl ⟨_, rfl, ?_, ?_⟩
  · exact DRecord.fmk (Fresh.mono (B := (w.heap.size + 2)) (by repeat (first | exact HF1.out | refine Fresh.setLow ?_ (by omega) | refine Fresh.drew ?_)) (by omega))
  · have y := HB1.out
    exact bEb

set_option maxRecDepth 100000 in
set_option maxHeartbeats 1600000 in
theorem specCopyItem (cs : List Value) (x : DItem) (w : World) (h : Reads DItem.rep w cs x) (hs : x.record.fields.length ≤ 1048600) :
    Calls Tryz.prog 140 #[.agg cs.toArray] w fun e w' => ∃ ds, e = .returned (.agg ds.toArray) ∧ Fresh DItem.rep w.heap.size w' ds x ∧ Below w.heap.size w w' := by
  obtain ⟨fp_q, h⟩ := h
  obtain ⟨q_v1, q_f1, rfl, _, q_s0, q_r1⟩ := DItem.rd.1 h
  obtain ⟨q_a1, q_c1, rfl, q_hm1, q_lc1, q_hu1⟩ := slice_open q_r1; clear q_hu1
  have q_K1 : Hid (Reads (Rep.slice 112 DField.rep) w [.slice q_a1 x.record.fields.length q_c1] x.record.fields) := ⟨_, q_r1⟩
  clear q_r1 h
  have HR : Hid (Reads DRecord.rep w [.slice q_a1 x.record.fields.length q_c1] x.record) := by
    obtain ⟨f, r⟩ := q_K1.out
    exact ⟨f, DRecord.rd.2 ⟨_, _, rfl, rfl, r⟩⟩
  go_enter Tryz.func140, Tryz.ntmps140
  go_wp2_with fail
  refine settle (fun W => WB W w.heap.size #[.int .i64 x.key.kind, .int .i64 x.key.n, .string x.key.text, .slice q_a1 x.record.fields.length q_c1] ∧ WB W (w.heap.size + 1) #[.int .i64 0, .int .i64 0, .string ⟨#[]⟩, .slice none 0 0] ∧ Below w.heap.size w W ∧ w.heap.size + 2 ≤ W.heap.size) ⟨(WB.at rfl).growA, WB.at (by simp), bEl, by simp⟩ ?_
  rintro wr ⟨hx, ht, hb, hz⟩
  have HX := Lib.hid hx
  have HT := Lib.hid ht
  have HB := Lib.hid hb
  clear hx ht hb
  have HS : Hid (∀ w', Chg [w.heap.size + 1] wr w' → (∀ o, w'.cell? ⟨w.heap.size, o, none⟩ = #[.int .i64 x.key.kind, .int .i64 x.key.n, .string x.key.text, .slice q_a1 x.record.fields.length q_c1][o]?) ∧ Chg [w.heap.size + 1] wr w') := Lib.hid fun w' hw' => ⟨(HX.out.chg hw' (by simp)).cell, hw'⟩
  have ⟨c_HX, z_HX, f_HX⟩ := HX.out
  have ⟨c_HT, z_HT, f_HT⟩ := HT.out
  go_region_held3 (fun w' => (∀ o, w'.cell? ⟨w.heap.size, o, none⟩ = #[.int .i64 x.key.kind, .int .i64 x.key.n, .string x.key.text, .slice q_a1 x.record.fields.length q_c1][o]?) ∧ Chg [w.heap.size + 1] wr w')
    (first | exact HS.out _ (chgD Chg.refl) | exact HS.out _ hc2 | exact HS.out _ (Chg.set (by simp) (Chg.set (by simp) (Chg.set (by simp) (Chg.set (by simp) hc2)))))
    (first | (go_at_call 142; refine (specCopyRecord _ x.record _ (HR.out.below (by have y := HB.out; exact bEb)) hs).mono ?_; rintro e w2 ⟨ds, rfl, hf2, hb2⟩; obtain ⟨a2, c2, rfl⟩ := DRecord.fshape hf2; have hc2 : Chg [w.heap.size + 1] wr w2 := (chgD Chg.refl).trans (Chg.of_below hb2 (Nat.le_refl _)); have hw2 := HT.out.growD.keep hb2; have ⟨e2, l2, f2⟩ := hw2))
  all_goals
    have HF2 := Lib.hid hf2
    have HB2 : Hid (Below w.heap.size w w2) := Lib.hid (HB.out.trans (hc2.below (by simp) HB.out.size))
    have hz2 : w.heap.size + 2 ≤ wr.heap.size := hz
    clear hf2 hc2 hw2
    go_wp2
    refine bodyPost_ret (v := .agg #[.int .i64 x.key.kind, .int .i64 x.key.n, .string x.key.text, .slice a2 x.record.fields.length c2]) (by simp [results, Tryz.results140, go_sem, e2]) rfl ⟨_, rfl, ?_, ?_⟩
    · refine DItem.fresh (B := w.heap.size) (Fresh.partAt (lo := w.heap.size) (Fresh.mono (B := wr.heap.size) (by repeat (first | exact HF2.out | refine Fresh.setLow ?_ (by omega) | refine Fresh.drew ?_)) (by omega)) (Nat.le_refl _)) (Nat.le_refl _) q_s0
    · have y := HB2.out
      exact bEb

end Go.Proofs.YtlfebehpmefioaaGreat

/-
  copyStore.
-/
namespace Go.Proofs.YtlfebehpmefioaaGreat
open Go.RowKit

set_option maxRecDepth 100000 in
set_option maxHeartbeats 8000000 in
theorem implCopyStore (cs : List Value) (x : DStore) (w : World) (h : Reads DStore.rep w cs x) (hs : SmallStore x) :
    Calls Tryz.prog 81 #[.agg cs.toArray] w fun e w' => ∃ ds, e = .returned (.agg ds.toArray) ∧ Fresh DStore.rep w.heap.size w' ds x ∧ Below w.heap.size w w' := by
  obtain ⟨fp_q, h⟩ := h
  obtain ⟨q_v1, q_f1, rfl, _, q_s0, q_r1⟩ := DStore.rd.1 h
  obtain ⟨q_a1, q_c1, rfl, q_hm1, q_lc1, q_hu1⟩ := slice_open q_r1; clear q_hu1
  have q_K1 : Hid (Reads (Rep.slice 71 DItem.rep) w [.slice q_a1 x.items.length q_c1] x.items) := ⟨_, q_r1⟩
  clear q_r1 h
  have hsl := hs.items
  have HSF := Lib.hid hs.fields
  clear hs
  obtain ⟨i0, hi, hz0, hz1, hz2⟩ := info_parts infoItem
  go_enter Tryz.func81, Tryz.ntmps81
  go_wp2
  go_loopw [14] (fun i wr => ∃ (k : Nat) (v : Value), k ≤ x.items.length ∧ i = .int .i64 k ∧ WB wr w.heap.size #[.string x.name, .slice q_a1 x.items.length q_c1, .int .i64 x.auto] ∧ WB wr (w.heap.size + 1) #[.string ⟨#[]⟩, .slice none 0 0, .int .i64 0] ∧ WB wr (w.heap.size + 2) #[.string x.name, v, .int .i64 x.auto] ∧ Fresh (Rep.slice 71 DItem.rep) (w.heap.size + 3) wr [v] (x.items.take k) ∧ Below w.heap.size w wr) (fun i _ => x.items.length - (intOf i).toNat)
  case atStart => exact ⟨0, .slice none 0 0, by omega, rfl, ((WB.at rfl).growA).growA, (WB.at (by simp)).growA, WB.at (by simp), by rw [List.take_zero]; exact Fresh.nil, bEl⟩
  case round =>
    obtain ⟨k, v, hk, rfl, hx, ht, ho, hf, hb⟩ := hrel
    obtain ⟨bo, cap, rfl⟩ := hf.slice
    have hlk : (x.items.take k).length = k := by rw [List.length_take]; omega
    rw [hlk] at ho hf
    have HX := Lib.hid hx
    have HT := Lib.hid ht
    have HO := Lib.hid ho
    have HF := Lib.hid hf
    have HB := Lib.hid hb
    clear hx ht ho hf hb
    have ⟨c_HX, z_HX, f_HX⟩ := HX.out
    have ⟨c_HO, z_HO, f_HO⟩ := HO.out
    by_cases hlt : k < x.items.length
    · obtain ⟨b, off, cs_b, rfl, hw_b, hr_b, hcell_b⟩ := slice_at (q_K1.out.below HB.out) k hlt
      obtain ⟨fe_b, hrd_b⟩ := hr_b
      have HR_b : Hid (Reads DItem.rep wr cs_b x.items[k]) := ⟨_, hrd_b⟩
      obtain ⟨b_v1, b_f1, rfl, _, b_s0, b_r1⟩ := DItem.rd.1 hrd_b
      obtain ⟨b_a1, b_k1, rfl, _⟩ := slice_open b_r1
      have b_R1 : Hid (Reads (Rep.slice 112 DField.rep) wr [.slice b_a1 x.items[k].record.fields.length b_k1] x.items[k].record.fields) := ⟨_, b_r1⟩
      clear b_r1
      clear hrd_b
      have b_c0 : wr.cell? ⟨b, off + k * 4, none⟩ = some (.int .i64 x.items[k].key.kind) := hcell_b 0 (by decide)
      have b_c1 : wr.cell? ⟨b, off + k * 4 + 1, none⟩ = some (.int .i64 x.items[k].key.n) := hcell_b 1 (by decide)
      have b_c2 : wr.cell? ⟨b, off + k * 4 + 2, none⟩ = some (.string x.items[k].key.text) := hcell_b 2 (by decide)
      have b_c3 : wr.cell? ⟨b, off + k * 4 + 3, none⟩ = some (.slice b_a1 x.items[k].record.fields.length b_k1) := hcell_b 3 (by decide)
      clear hcell_b
      have i1 : (0 : Int) ≤ (k : Int) := by omega
      have i2 : (k : Int) < (x.items.length : Int) := by omega
      have hfl := HSF.out x.items[k] (List.getElem_mem hlt)
      have hzr : w.heap.size + 3 ≤ wr.heap.size := by have := z_HO; omega
      go_wp2_with fail
      refine settle (fun W => WB W wr.heap.size #[.int .i64 x.items[k].key.kind, .int .i64 x.items[k].key.n, .string x.items[k].key.text, .slice b_a1 x.items[k].record.fields.length b_k1] ∧ Below wr.heap.size wr W) ⟨WB.at rfl, bEl⟩ ?_
      rintro wx ⟨hy, hb⟩
      have HY := Lib.hid hy
      clear hy
      clear c_HX z_HX f_HX c_HO z_HO f_HO
      replace HR_b := Lib.hid (HR_b.out.below hb)
      have hfx : wr.heap.size < wx.heap.size := HY.out.lt
      replace HX := Lib.hid (HX.out.keep hb)
      replace HT := Lib.hid (HT.out.keep hb)
      replace HO := Lib.hid (HO.out.keep hb)
      replace HF := Lib.hid (HF.out.below hb)
      replace HB := Lib.hid (HB.out.trans (hb.mono HB.out.size))
      clear hb b_c0 b_c1 b_c2 b_c3
      have ⟨c_HO, z_HO, f_HO⟩ := HO.out
      have ⟨c_HY, z_HY, f_HY⟩ := HY.out
      go_region_law (first
        | (go_simp; go_at_call 126; refine (implCopyItem _ x.items[k] _ (HR_b.out.below (by first | exact belR | exact belD belR)) hfl).mono ?_; rintro e w2 ⟨ds, rfl, hf2, hb2⟩; obtain ⟨a2, c2, rfl⟩ := DItem.fshape hf2; have hq2 : Below wx.heap.size wx w2 := (Below.trans bEb (hb2.mono bSz)); have hwo := HO.out.keep hq2; have ⟨co', zo', fo'⟩ := hwo; have hsz2 := hq2.size)
        | ((refine step_pushN w2 _ (by rfl) _ _ 24 24 (by rfl) DItem.rep (w.heap.size + 3) wx.heap.size 71 i0 _ _ Tryz.underlying24 Tryz.underlying24 hi hz0 hz1 hz2 rfl (.slice bo k cap) (x.items.take k) (by rfl) (Part.below (Fresh.partAt HF.out (Nat.le_refl _)) hq2) (by first | exact belA belR | exact belA (belD belR) | exact belD (belA belR)) x.items[k] [.int .i64 x.items[k].key.kind, .int .i64 x.items[k].key.n, .string x.items[k].key.text, .slice a2 x.items[k].record.fields.length c2] _ (by rfl) (hf2.mono (by first | exact Nat.le_refl _ | omega)) (news_at rfl) (by rw [hlk]; omega) (by decide) (by omega) (by omega) ?_; intro ao3 cap3 w3 hf3 hb3 hsz3; have hb4 : Below (w.heap.size + 3) w2 w3 := Below.trans bEb hb3; have ⟨co3, zo3, fo3⟩ := HO.out.grow ((hq2.mono (by omega)).trans hb4) (by omega))))
      all_goals
        rw [hlk] at *
        have hb5 : Below (w.heap.size + 3) wx w3 := (hq2.mono (by omega)).trans hb4
        have HE := Lib.hid (show x.items.take k ++ [x.items[k]] = x.items.take (k + 1) from (List.take_succ_eq_append_getElem hlt).symm)
        rw [HE.out] at hf3
        have HX3 := Lib.hid (HX.out.grow hb5 (by omega))
        have HT3 := Lib.hid (HT.out.grow hb5 (by omega))
        have HO3 := Lib.hid (HO.out.grow hb5 (by omega))
        have HF3 := Lib.hid hf3
        have HB3 : Hid (Below w.heap.size w w3) := Lib.hid (HB.out.trans (hb5.mono (by omega)))
        clear hf3 hb3 hb4 hb5 hq2 hb2 hf2
        go_wp2
        go_light
        exact ⟨⟨k + 1, _, by omega, by go_num, HX3.out.setOther (by omega), HT3.out.setOther (by omega), HO3.out.setAt (by simp) rfl, HF3.out.setLow (by omega), by have y := HB3.out; exact bEb⟩, by simp [intOf]; omega⟩
    · have e := Lib.hid (show x.items.take k = x.items by rw [List.take_of_length_le (by omega)])
      have hkl : k = x.items.length := by omega
      subst hkl
      have ⟨c_HT, z_HT, f_HT⟩ := HT.out
      go_wp2
      refine bodyPost_ret (v := .agg #[.string x.name, .slice bo x.items.length cap, .int .i64 x.auto]) (by simp [results, Tryz.results81, go_sem, c_HT]) rfl ⟨_, rfl, ?_, ?_⟩
      · have y := HF.out
        rw [e.out] at y
        exact DStore.fmk (x := x) (Fresh.mono (B := w.heap.size + 3) (by repeat (first | exact y | refine Fresh.setLow ?_ (by omega) | refine Fresh.drew ?_)) (by omega)) q_s0
      · have y := HB.out
        exact bEb

set_option maxRecDepth 100000 in
set_option maxHeartbeats 8000000 in
theorem specCopyStore (cs : List Value) (x : DStore) (w : World) (h : Reads DStore.rep w cs x) (hs : SmallStore x) :
    Calls Tryz.prog 99 #[.agg cs.toArray] w fun e w' => ∃ ds, e = .returned (.agg ds.toArray) ∧ Fresh DStore.rep w.heap.size w' ds x ∧ Below w.heap.size w w' := by
  obtain ⟨fp_q, h⟩ := h
  obtain ⟨q_v1, q_f1, rfl, _, q_s0, q_r1⟩ := DStore.rd.1 h
  obtain ⟨q_a1, q_c1, rfl, q_hm1, q_lc1, q_hu1⟩ := slice_open q_r1; clear q_hu1
  have q_K1 : Hid (Reads (Rep.slice 71 DItem.rep) w [.slice q_a1 x.items.length q_c1] x.items) := ⟨_, q_r1⟩
  clear q_r1 h
  have hsl := hs.items
  have HSF := Lib.hid hs.fields
  clear hs
  obtain ⟨i0, hi, hz0, hz1, hz2⟩ := info_parts infoItem
  go_enter Tryz.func99, Tryz.ntmps99
  go_wp2
  go_loopw [4] (fun i wr => ∃ (k : Nat) (v : Value), k ≤ x.items.length ∧ i = .int .i64 k ∧ WB wr w.heap.size #[.string x.name, .slice q_a1 x.items.length q_c1, .int .i64 x.auto] ∧ WB wr (w.heap.size + 1) #[.string ⟨#[]⟩, .slice none 0 0, .int .i64 0] ∧ WB wr (w.heap.size + 2) #[.string x.name, v, .int .i64 x.auto] ∧ Fresh (Rep.slice 71 DItem.rep) (w.heap.size + 3) wr [v] (x.items.take k) ∧ Below w.heap.size w wr) (fun i _ => x.items.length - (intOf i).toNat)
  case atStart => exact ⟨0, .slice none 0 0, by omega, rfl, ((WB.at rfl).growA).growA, (WB.at (by simp)).growA, WB.at (by simp), by rw [List.take_zero]; exact Fresh.nil, bEl⟩
  case round =>
    obtain ⟨k, v, hk, rfl, hx, ht, ho, hf, hb⟩ := hrel
    obtain ⟨bo, cap, rfl⟩ := hf.slice
    have hlk : (x.items.take k).length = k := by rw [List.length_take]; omega
    rw [hlk] at ho hf
    have HX := Lib.hid hx
    have HT := Lib.hid ht
    have HO := Lib.hid ho
    have HF := Lib.hid hf
    have HB := Lib.hid hb
    clear hx ht ho hf hb
    have ⟨c_HX, z_HX, f_HX⟩ := HX.out
    have ⟨c_HO, z_HO, f_HO⟩ := HO.out
    by_cases hlt : k < x.items.length
    · obtain ⟨b, off, cs_b, rfl, hw_b, hr_b, hcell_b⟩ := slice_at (q_K1.out.below HB.out) k hlt
      obtain ⟨fe_b, hrd_b⟩ := hr_b
      have HR_b : Hid (Reads DItem.rep wr cs_b x.items[k]) := ⟨_, hrd_b⟩
      obtain ⟨b_v1, b_f1, rfl, _, b_s0, b_r1⟩ := DItem.rd.1 hrd_b
      obtain ⟨b_a1, b_k1, rfl, _⟩ := slice_open b_r1
      have b_R1 : Hid (Reads (Rep.slice 112 DField.rep) wr [.slice b_a1 x.items[k].record.fields.length b_k1] x.items[k].record.fields) := ⟨_, b_r1⟩
      clear b_r1
      clear hrd_b
      have b_c0 : wr.cell? ⟨b, off + k * 4, none⟩ = some (.int .i64 x.items[k].key.kind) := hcell_b 0 (by decide)
      have b_c1 : wr.cell? ⟨b, off + k * 4 + 1, none⟩ = some (.int .i64 x.items[k].key.n) := hcell_b 1 (by decide)
      have b_c2 : wr.cell? ⟨b, off + k * 4 + 2, none⟩ = some (.string x.items[k].key.text) := hcell_b 2 (by decide)
      have b_c3 : wr.cell? ⟨b, off + k * 4 + 3, none⟩ = some (.slice b_a1 x.items[k].record.fields.length b_k1) := hcell_b 3 (by decide)
      clear hcell_b
      have i1 : (0 : Int) ≤ (k : Int) := by omega
      have i2 : (k : Int) < (x.items.length : Int) := by omega
      have hfl := HSF.out x.items[k] (List.getElem_mem hlt)
      have hzr : w.heap.size + 3 ≤ wr.heap.size := by have := z_HO; omega
      go_wp2_with fail
      obtain ⟨wx, hwx⟩ : ∃ wx, wx = wr := ⟨_, rfl⟩
      subst hwx
      go_region_law (first
        | (go_simp; go_at_call 140; refine (specCopyItem _ x.items[k] _ (HR_b.out.below (by first | exact belR | exact belD belR)) hfl).mono ?_; rintro e w2 ⟨ds, rfl, hf2, hb2⟩; obtain ⟨a2, c2, rfl⟩ := DItem.fshape hf2; have hq2 : Below wx.heap.size wx w2 := (Below.trans bEb (hb2.mono bSz)); have hwo := HO.out.keep hq2; have ⟨co', zo', fo'⟩ := hwo; have hsz2 := hq2.size; have hwx' := HX.out.keep hq2; have ⟨cx', zx', fx'⟩ := hwx'; have e0' := (hq2.cell (p := ⟨b, off + k * 4, none⟩) (block_lt_of_cell b_c0)).trans b_c0; have e1' := (hq2.cell (p := ⟨b, off + k * 4 + 1, none⟩) (block_lt_of_cell b_c1)).trans b_c1; have e2' := (hq2.cell (p := ⟨b, off + k * 4 + 2, none⟩) (block_lt_of_cell b_c2)).trans b_c2; have e3' := (hq2.cell (p := ⟨b, off + k * 4 + 3, none⟩) (block_lt_of_cell b_c3)).trans b_c3)
        | ((refine step_pushN w2 _ (by rfl) _ _ 24 24 (by rfl) DItem.rep (w.heap.size + 3) wx.heap.size 71 i0 _ _ Tryz.underlying24 Tryz.underlying24 hi hz0 hz1 hz2 rfl (.slice bo k cap) (x.items.take k) (by rfl) (Part.below (Fresh.partAt HF.out (Nat.le_refl _)) hq2) (by first | exact belA belR | exact belA (belD belR) | exact belD (belA belR)) x.items[k] [.int .i64 x.items[k].key.kind, .int .i64 x.items[k].key.n, .string x.items[k].key.text, .slice a2 x.items[k].record.fields.length c2] _ (by rfl) (hf2.mono (by first | exact Nat.le_refl _ | omega)) (news_at rfl) (by rw [hlk]; omega) (by decide) (by omega) (by omega) ?_; intro ao3 cap3 w3 hf3 hb3 hsz3; have hb4 : Below (w.heap.size + 3) w2 w3 := Below.trans bEb hb3; have ⟨co3, zo3, fo3⟩ := HO.out.grow ((hq2.mono (by omega)).trans hb4) (by omega))))
      all_goals
        rw [hlk] at *
        have hb5 : Below (w.heap.size + 3) wx w3 := (hq2.mono (by omega)).trans hb4
        have HE := Lib.hid (show x.items.take k ++ [x.items[k]] = x.items.take (k + 1) from (List.take_succ_eq_append_getElem hlt).symm)
        rw [HE.out] at hf3
        have HX3 := Lib.hid (HX.out.grow hb5 (by omega))
        have HT3 := Lib.hid (HT.out.grow hb5 (by omega))
        have HO3 := Lib.hid (HO.out.grow hb5 (by omega))
        have HF3 := Lib.hid hf3
        have HB3 : Hid (Below w.heap.size w w3) := Lib.hid (HB.out.trans (hb5.mono (by omega)))
        clear hf3 hb3 hb4 hb5 hq2 hb2 hf2
        go_wp2
        go_light
        exact ⟨⟨k + 1, _, by omega, by go_num, HX3.out.setOther (by omega), HT3.out.setOther (by omega), HO3.out.setAt (by simp) rfl, HF3.out.setLow (by omega), by have y := HB3.out; exact bEb⟩, by simp [intOf]; omega⟩
    · have e := Lib.hid (show x.items.take k = x.items by rw [List.take_of_length_le (by omega)])
      have hkl : k = x.items.length := by omega
      subst hkl
      have ⟨c_HT, z_HT, f_HT⟩ := HT.out
      go_wp2
      refine bodyPost_ret (v := .agg #[.string x.name, .slice bo x.items.length cap, .int .i64 x.auto]) (by simp [results, Tryz.results99, go_sem, c_HT]) rfl ⟨_, rfl, ?_, ?_⟩
      · have y := HF.out
        rw [e.out] at y
        exact DStore.fmk (x := x) (Fresh.mono (B := w.heap.size + 3) (by repeat (first | exact y | refine Fresh.setLow ?_ (by omega) | refine Fresh.drew ?_)) (by omega)) q_s0
      · have y := HB.out
        exact bEb

end Go.Proofs.YtlfebehpmefioaaGreat

/-
  slices.Insert's parts at elements of several cells: copy onto a row that is known whole, append of zero values; what an owned slice is behind an insertion. No function of the program is named here.
-/
namespace Go.Proofs.YtlfebehpmefioaaGreat
open Go.RowKit

theorem run_copy_rows {P : Program} (w : World) (dT sT ty elem : TypeId) (S g o dLen dCap : Nat) (a : Addr) (sLen sCap : Nat) (cur : Array Value) (t : TypeId) (cs : List Value)
    (hu : P.underlying dT = some (.slice elem)) (hs : (P.info? elem).map (·.size) = some S)
    (hg : w.heap[g]? = some (.cells cur t (0, 0))) (hn : cs.length = Nat.min sLen dLen * S)
    (hsrc : ∀ j v, cs[j]? = some v → w.cell? (a.add j) = some v) (hfit : o + cs.length ≤ cur.size) (h1 : ∀ v ∈ cs, v.oneCell' = true) :
    (Builtin.copy_ #[dT, sT] ty #[.slice (some ⟨g, o, none⟩) dLen dCap, .slice (some a) sLen sCap]).run P w =
      .ok (goInt (Nat.min sLen dLen)) (w.setRow g (cur.toList.take o ++ cs ++ cur.toList.drop (o + cs.length)).toArray) := by
  have hl := run_loadCells_list (P := P) w a cs hsrc
  have hst := run_storeCells_at P g o t cs 0 cur w hg (by simpa using hfit) h1
  cases hq : P.info? elem with
  | none => simp [hq] at hs
  | some i =>
    have hi : i.size = S := by simpa [hq] using hs
    simp [Builtin.copy_, run_underlying hu, Builtin.lenOf, Builtin.firstCells, sizeOf, typeInfo, hq, hi, ← hn, hl, hst]

theorem grown_setRow (w : World) (g : Nat) (cs : Array Value) : w.grownBy (w.setRow g cs) (some g) :=
  ⟨rfl, rfl, rfl, by simp [World.setRow], fun k _ hk => setRow_other w g k cs (fun e => hk (by simp [e]))⟩

theorem grown_drew {w w' : World} {r : Option Nat} (h : w.drew.grownBy w' r) : w.grownBy w' r := ⟨h.os, h.tape, h.output, h.size, h.block⟩
theorem wpList_copy_rows {P : Program} {w : World} {ops : Array Oper} {rest : List Oper} {o : Oper} {a : Act} {Q : Exit → Act → World → Prop} (hgd : o.guard = none) (d s : Operand) (dT sT : TypeId)
    (ho : o.op = .call { callee := .builtin .copy, args := #[d, s], argTypes := #[dT, sT] }) (elem : TypeId) (S : Nat) (hu : P.underlying dT = some (.slice elem)) (hsz : (P.info? elem).map (·.size) = some S)
    (dp sp : Option Addr) (dLen dCap sLen sCap : Nat) (hd : a.eval d = .slice dp dLen dCap) (hs : a.eval s = .slice sp sLen sCap)
    (g off : Nat) (cur : List Value) (t : TypeId) (hg : w.heap[g]? = some (.cells cur.toArray t (0, 0))) (cs : List Value) (ad : Addr) (hdp : dp = some ⟨g, off, none⟩) (hsp : sp = some ad) (hn : cs.length = Nat.min sLen dLen * S)
    (hsrc : ∀ j v, cs[j]? = some v → w.cell? (ad.add j) = some v)
    (hfit : off + cs.length ≤ cur.length) (h1 : ∀ v ∈ cs, v.oneCell' = true)
    (h : ∀ w', Hid (w'.heap[g]? = some (.cells (splice cur off cs).toArray t (0, 0))) → Hid (w.grownBy w' (some g)) → wpList P ops Q rest (a.put o.dst (goInt (Nat.min sLen dLen))) w') :
    wpList P ops Q (o :: rest) a w := by
  subst hdp hsp
  refine wpList_plain hgd fun K hK => ?_
  have hrun := run_copy_rows (P := P) w dT sT o.type elem S g off dLen dCap ad sLen sCap cur.toArray t cs hu hsz hg hn hsrc (by simpa using hfit) h1
  unfold Oper.wp execOp
  simp only [ho, resolve, invoke, builtin, Sem.run_bind, Sem.run_pure, Result.andThen_ok, List.map_toArray, List.map_cons, List.map_nil, hd, hs, hrun]
  exact hK _ _ (h _ (show _ = _ by simpa [splice] using setRow_heap w g _ _ t _ hg) (grown_setRow _ _ _))

theorem step_copy_rows {P : Program} {ops : Array Oper} {o : Oper} {a : Act} {w : World} {K : Act → World → Prop} {Q : Exit → Act → World → Prop} {X : Prop} (hgd : o.guard = none) (d s : Operand) (dT sT : TypeId)
    (ho : o.op = .call { callee := .builtin .copy, args := #[d, s], argTypes := #[dT, sT] }) (elem : TypeId) (S : Nat) (hu : P.underlying dT = some (.slice elem)) (hsz : (P.info? elem).map (·.size) = some S)
    (dp sp : Option Addr) (dLen dCap sLen sCap : Nat) (hd : a.eval d = .slice dp dLen dCap) (hs : a.eval s = .slice sp sLen sCap)
    (g off : Nat) (cur : List Value) (t : TypeId) (hg : w.heap[g]? = some (.cells cur.toArray t (0, 0))) (cs : List Value) (ad : Addr) (hdp : dp = some ⟨g, off, none⟩) (hsp : sp = some ad) (hn : cs.length = Nat.min sLen dLen * S)
    (hsrc : ∀ j v, cs[j]? = some v → w.cell? (ad.add j) = some v)
    (hfit : off + cs.length ≤ cur.length) (h1 : ∀ v ∈ cs, v.oneCell' = true)
    (h : ∀ w', Hid (w'.heap[g]? = some (.cells (splice cur off cs).toArray t (0, 0))) → Hid (w.grownBy w' (some g)) → K (a.put o.dst (goInt (Nat.min sLen dLen))) w') :
    if Region.wanted o (yielded ops a.tmps) = true then Oper.wp P o a w K Q else X := by
  have hw : Region.wanted o (yielded ops a.tmps) = true := by simp [Region.wanted, hgd]
  rw [if_pos hw]
  subst hdp hsp
  have hrun := run_copy_rows (P := P) w dT sT o.type elem S g off dLen dCap ad sLen sCap cur.toArray t cs hu hsz hg hn hsrc (by simpa using hfit) h1
  unfold Oper.wp execOp
  simp only [ho, resolve, invoke, builtin, Sem.run_bind, Sem.run_pure, Result.andThen_ok, List.map_toArray, List.map_cons, List.map_nil, hd, hs, hrun]
  exact h _ (show _ = _ by simpa [splice] using setRow_heap w g _ _ t _ hg) (grown_setRow _ _ _)

theorem wpList_append_zeros {P : Program} {w : World} {ops : Array Oper} {rest : List Oper} {o : Oper} {a : Act} {Q : Exit → Act → World → Prop} (hgd : o.guard = none) (s x : Operand) (t tn : TypeId)
    (ho : o.op = .call { callee := .builtin .append, args := #[s, x], argTypes := #[t, tn] }) (e : TypeId) (i : TypeInfo) (z : Value) (S bytes : Nat) (kq kn : IntKind) (ht : P.underlying t = some (.slice e)) (htn : P.underlying tn = some (.int kn)) (hi : P.info? e = some i) (hz : i.zero = some z)
    (hsize : i.size = S) (hby : i.bytes = bytes) (hzs : z.cells.size = S) (hS : 0 < S)
    (v : Value) (q : Int) (hv : a.eval s = v) (hx : a.eval x = .int kq q) (g n cap k m : Nat) (hm : n + k = m) (hvv : v = .slice (some ⟨g, 0, none⟩) n cap) (hq : q = (k : Int)) (olds : List Value) (hol : olds.length = n * S) (hold : ∀ j u, olds[j]? = some u → w.cell? ⟨g, j, none⟩ = some u)
    (h0 : 0 < k) (hg : cap < n + k) (hlen : n + k ≤ 16777216) (hbytes : bytes ≤ 8388608)
    (h : ∀ c' row w', Hid (w'.heap[w.heap.size]? = some (.cells row e (0, 0))) → Hid (row.size = c' * S ∧ m ≤ c' ∧ c' ≤ maxLen ∧ row.toList.take (n * S) = olds) → Hid (Below w.heap.size w w' ∧ w'.heap.size = w.heap.size + 1) →
      wpList P ops Q rest (a.put o.dst (.slice (some ⟨w.heap.size, 0, none⟩) m c')) w') :
    wpList P ops Q (o :: rest) a w := by
  subst hvv hq hm
  have hmul : (n + k) * bytes ≤ 16777216 * 8388608 := Nat.mul_le_mul hlen hbytes
  have hkb : k * bytes ≤ 16777216 * 8388608 := Nat.le_trans (Nat.mul_le_mul_right _ (by omega)) hmul
  refine wpList_plain hgd fun K hK => ?_
  have hf : (Builtin.firstCells i.size n (.slice (some ⟨g, 0, none⟩) n cap)).run P w.drew = .ok olds.toArray w.drew := by
    rw [hsize]
    exact run_firstCells_some w.drew S n ⟨g, 0, none⟩ n cap olds hol (fun j u hj => by rw [Addr.add_lit, Nat.zero_add]; exact hold j u hj)
  have hrun := Lib.run_append_grow_zeros (P := P) w t tn o.type e i z kq kn ht htn hi hz (some ⟨g, 0, none⟩) n cap olds hf k h0 (by omega) hg (by omega) (by rw [hby]; omega) (by rw [hby]; exact growslice_fits hg (by omega))
  unfold Oper.wp execOp
  simp only [ho, resolve, invoke, builtin, Sem.run_bind, Sem.run_pure, Result.andThen_ok, List.map_toArray, List.map_cons, List.map_nil, hv, hx, hrun]
  have hG := grownCap_ge w (n + k) cap e
  refine hK _ _ (h _ _ _ (show _ = _ from heap_alloc_new w.drew _) ⟨?_, hG, grownCap_le_maxLen w (n + k) cap e (by unfold maxLen; omega), ?_⟩ ⟨belA (belD belR), by simp⟩)
  · simp only [Array.size_append, size_zeroCells, hzs, List.size_toArray, hol]
    rw [← Nat.add_mul, ← Nat.add_mul]
    congr 1; omega
  · rw [Array.toList_append, Array.toList_append, List.append_assoc, List.take_left' (by simpa using hol)]

theorem insert_room {S n cap i : Nat} {cur xs us : List Value} (hi : i < n) (hnc : n + 1 ≤ cap) (hcs : cur.length = cap * S) (hxs : cur.take (n * S) = xs) (hus : us.length = S) :
    (splice (splice cur ((i + 1) * S) (xs.drop (i * S))) (i * S) us).length = cap * S ∧ (splice (splice cur ((i + 1) * S) (xs.drop (i * S))) (i * S) us).take ((n + 1) * S) = xs.take (i * S) ++ us ++ xs.drop (i * S) := by
  have e1 : (i + 1) * S = i * S + S := by rw [Nat.add_mul]; omega
  have e2 : (n + 1) * S = n * S + S := by rw [Nat.add_mul]; omega
  have h1 : i * S ≤ n * S := Nat.mul_le_mul_right _ (by omega)
  have h2 : n * S + S ≤ cap * S := by rw [← e2]; exact Nat.mul_le_mul_right _ hnc
  have hl : xs.length = n * S := by rw [← hxs, List.length_take]; omega
  have hdl : (xs.drop (i * S)).length = n * S - i * S := by rw [List.length_drop, hl]
  have k1 : (splice cur ((i + 1) * S) (xs.drop (i * S))).length = cap * S := by rw [length_splice _ _ _ (by omega), hcs]
  have k2 : (splice (splice cur ((i + 1) * S) (xs.drop (i * S))) (i * S) us).length = cap * S := by rw [length_splice _ _ _ (by omega), k1]
  refine ⟨k2, ?_⟩
  have t1 : (splice cur ((i + 1) * S) (xs.drop (i * S))).take (i * S) = xs.take (i * S) := by
    unfold splice
    rw [List.take_append_of_le_length (by rw [List.length_take]; omega), List.take_take, ← hxs, List.take_take]
    congr 1; omega
  have t2 : (splice cur ((i + 1) * S) (xs.drop (i * S))).drop (i * S + us.length) = xs.drop (i * S) ++ cur.drop (n * S + S) := by
    unfold splice
    have hk : (cur.take ((i + 1) * S)).length = i * S + us.length := by rw [List.length_take]; omega
    rw [← hk, List.drop_left]
    congr 2
    omega
  have eU : ∀ (L : List Value) (o : Nat) (cs : List Value), splice L o cs = L.take o ++ (cs ++ L.drop (o + cs.length)) := fun _ _ _ => rfl
  rw [eU (splice cur ((i + 1) * S) (xs.drop (i * S))), t1, t2, ← List.append_assoc, ← List.append_assoc]
  refine List.take_left' ?_
  simp only [List.length_append, List.length_take, hdl, hl, hus]
  omega

theorem insert_grow {S n c i : Nat} {row xs us : List Value} (hi : i < n) (hnc : n + 1 ≤ c) (hcs : row.length = c * S) (hxs : xs.length = n * S) (hrow : row.take (i * S) = xs.take (i * S)) (hus : us.length = S) :
    (splice (splice row (i * S) us) ((i + 1) * S) (xs.drop (i * S))).length = c * S ∧ (splice (splice row (i * S) us) ((i + 1) * S) (xs.drop (i * S))).take ((n + 1) * S) = xs.take (i * S) ++ us ++ xs.drop (i * S) := by
  have e1 : (i + 1) * S = i * S + S := by rw [Nat.add_mul]; omega
  have e2 : (n + 1) * S = n * S + S := by rw [Nat.add_mul]; omega
  have h1 : i * S ≤ n * S := Nat.mul_le_mul_right _ (by omega)
  have h2 : n * S + S ≤ c * S := by rw [← e2]; exact Nat.mul_le_mul_right _ hnc
  have h3 : i * S + S ≤ n * S := by rw [← e1]; exact Nat.mul_le_mul_right _ hi
  have hdl : (xs.drop (i * S)).length = n * S - i * S := by rw [List.length_drop, hxs]
  have k1 : (splice row (i * S) us).length = c * S := by rw [length_splice _ _ _ (by omega), hcs]
  refine ⟨by rw [length_splice _ _ _ (by omega), k1], ?_⟩
  have t1 : (splice row (i * S) us).take ((i + 1) * S) = xs.take (i * S) ++ us := by
    unfold splice
    rw [← List.append_assoc, hrow]
    exact List.take_left' (by simp only [List.length_append, List.length_take, hxs, hus]; omega)
  have eU : ∀ (L : List Value) (o : Nat) (cs : List Value), splice L o cs = L.take o ++ (cs ++ L.drop (o + cs.length)) := fun _ _ _ => rfl
  rw [eU (splice row (i * S) us), t1, ← List.append_assoc]
  refine List.take_left' ?_
  simp only [List.length_append, List.length_take, hdl, hxs, hus]
  omega

theorem ownsRow_unique {w : World} {B B' : Nat} {e : TypeId} {size : Nat} {v : Value} {n : Nat} {xs ys : List Value} (h : w.ownsRow B e size v n xs) (h' : w.ownsRow B' e size v n ys) : xs = ys := by
  rcases h.2 with ⟨rfl, rfl⟩ | ⟨g, cap, cur, rfl, _, hg, _, _, _, ht⟩
  · have e1 := h.1
    have e2 := h'.1
    simp only [Nat.zero_mul] at e1 e2
    rw [List.eq_nil_of_length_eq_zero e1, List.eq_nil_of_length_eq_zero e2]
  · rcases h'.2 with ⟨hv, _⟩ | ⟨g', cap', cur', hv, _, hg', _, _, _, ht'⟩
    · simp at hv
    · simp only [Value.slice.injEq, Option.some.injEq, Addr.mk.injEq, and_true, true_and] at hv
      obtain ⟨rfl, rfl⟩ := hv
      rw [hg] at hg'
      simp only [Option.some.injEq, Obj.cells.injEq, and_true] at hg'
      subst hg'
      rw [← ht, ← ht']
theorem grown_of_below {w w' : World} {r : Option Nat} (h : Below w.heap.size w w') : w.grownBy w' r := ⟨h.os, h.tape, h.output, h.size, fun k hk _ => h.block k hk⟩

def Gap {α : Type} (R : Rep α) (B m m2 : Nat) (w : World) (cs : List Value) (x : α) : Prop := ∃ fp, R.rd true w cs x fp ∧ fp.Nodup ∧ ∀ b ∈ fp, B ≤ b ∧ (b < m ∨ m2 ≤ b)
theorem Gap.fresh {α : Type} {R : Rep α} {B m m2 : Nat} {w : World} {cs : List Value} {x : α} (h : Gap R B m m2 w cs x) : Fresh R B w cs x := by
  obtain ⟨fp, h1, h2, h3⟩ := h
  exact ⟨fp, h1, h2, fun b hb => (h3 b hb).1⟩
theorem Gap.set {α : Type} {R : Rep α} {B m m2 : Nat} {w : World} {cs : List Value} {x : α} {g o : Nat} {u : Value} (h : Gap R B m m2 w cs x) (hg : m ≤ g ∧ g < m2) : Gap R B m m2 (w.setCell ⟨g, o, none⟩ u) cs x := by
  obtain ⟨fp, h1, h2, h3⟩ := h
  exact ⟨fp, R.frame h1 fun b hb => Below.heap_setCell _ _ _ _ (by have := (h3 b hb).2; simp only []; omega), h2, h3⟩
theorem Gap.below {α : Type} {R : Rep α} {B m m2 : Nat} {w w' : World} {cs : List Value} {x : α} (h : Gap R B m m2 w cs x) (hb : Below w.heap.size w w') : Gap R B m m2 w' cs x := by
  obtain ⟨fp, h1, h2, h3⟩ := h
  exact ⟨fp, R.frame h1 fun b hb' => hb.block b (R.lt h1 b hb'), h2, h3⟩
theorem Gap.of_owned {α : Type} {R : Rep α} {E : TypeId} {B m m2 : Nat} {w : World} {v : Value} (ts : List (El α)) (h1 : ∀ t ∈ ts, R.rd true w t.1 t.2.1 t.2.2) {B' : Nat} (h3 : w.ownsRow B' E R.n v ts.length (cellsOf ts))
    (hnd : (v.ownBlock.toList ++ feet ts).Nodup) (hge : ∀ b ∈ v.ownBlock.toList ++ feet ts, B ≤ b ∧ (b < m ∨ m2 ≤ b)) : Gap (Rep.slice E R) B m m2 w [v] (vals ts) := by
  have e : head true v ts.length = v.ownBlock.toList := by simp [head]
  exact ⟨v.ownBlock.toList ++ feet ts, ⟨v, ts, rfl, rfl, by rw [e], h1, Row.of_owns h3, fun _ => ownsRow_rebase h3 fun _ _ => Nat.zero_le _⟩, hnd, hge⟩

section
variable {α : Type} {R : Rep α}

theorem cellsOf_take {n : Nat} : ∀ (ts : List (El α)) (k : Nat), (∀ t ∈ ts, t.1.length = n) → cellsOf (ts.take k) = (cellsOf ts).take (k * n)
  | ts, 0, _ => by simp [cellsOf]
  | [], k + 1, _ => by simp [cellsOf]
  | t :: ts, k + 1, h => by
    have h1 := h t (by simp)
    have e : cellsOf (t :: ts) = t.1 ++ cellsOf ts := by simp [cellsOf]
    have e' : cellsOf ((t :: ts).take (k + 1)) = t.1 ++ cellsOf (ts.take k) := by simp [cellsOf]
    rw [e', e, cellsOf_take ts k fun u hu => h u (by simp [hu]), List.take_append]
    have e1 : t.1.take ((k + 1) * n) = t.1 := List.take_of_length_le (by rw [h1, Nat.add_mul]; omega)
    rw [e1, h1, show (k + 1) * n - n = k * n by rw [Nat.add_mul]; omega]
theorem cellsOf_drop' {n : Nat} : ∀ (ts : List (El α)) (k : Nat), (∀ t ∈ ts, t.1.length = n) → cellsOf (ts.drop k) = (cellsOf ts).drop (k * n)
  | ts, 0, _ => by simp
  | [], k + 1, _ => by simp [cellsOf]
  | t :: ts, k + 1, h => by
    have h1 := h t (by simp)
    have e : cellsOf (t :: ts) = t.1 ++ cellsOf ts := by simp [cellsOf]
    have e1 : t.1.drop ((k + 1) * n) = [] := List.drop_of_length_le (by rw [h1, Nat.add_mul]; omega)
    have e2 : (k + 1) * n - n = k * n := by rw [Nat.add_mul]; omega
    rw [List.drop_succ_cons, cellsOf_drop' ts k fun u hu => h u (by simp [hu]), e, List.drop_append, h1, e1, e2, List.nil_append]

theorem Part.inserted {E : TypeId} {B m m2 : Nat} {w w' : World} {v v' : Value} {l : List α} {u : α} {us : List Value} {i : Nat} (h : Part (Rep.slice E R) B m w [v] l) (hu : Fresh R m2 w us u) (hB : B ≤ m) (hmm : m ≤ m2) (hm2 : m2 ≤ w.heap.size)
    {B' : Nat} (hg : w.grownBy w' v.ownBlock) (hv : ∀ b ∈ v'.ownBlock.toList, b ∈ v.ownBlock.toList ∨ w.heap.size ≤ b)
    (ho : ∀ xs, w.ownsRow B E R.n v l.length xs → (∀ x ∈ xs, x.oneCell' = true) → w'.ownsRow B' E R.n v' (l.length + 1) (xs.take (i * R.n) ++ us ++ xs.drop (i * R.n))) (hi : i ≤ l.length) :
    Gap (Rep.slice E R) B m m2 w' [v'] (insAt l i u) := by
  obtain ⟨ts, rfl, h1, h2, hnd, hge⟩ := h.owned
  obtain ⟨fu, r1, r2, r3⟩ := hu
  have hlen : ∀ t ∈ ts, t.1.length = R.n := fun t ht => R.len (h1 t ht)
  have hone : ∀ x ∈ cellsOf ts, x.oneCell' = true := fun x hx => by
    obtain ⟨t, ht, hx⟩ := List.mem_flatMap.1 hx
    exact R.one (h1 t ht) x hx
  have ho' := ho (cellsOf ts) (by rw [vals_length]; exact h2) hone
  rw [vals_length] at ho' hi
  have e1 : cellsOf (ts.take i ++ (us, u, fu) :: ts.drop i) = (cellsOf ts).take (i * R.n) ++ us ++ (cellsOf ts).drop (i * R.n) := by
    have := cellsOf_take ts i hlen
    have := cellsOf_drop' ts i hlen
    simp only [cellsOf, List.flatMap_append, List.flatMap_cons] at *
    simp only [*, List.append_assoc]
  have e2 : vals (ts.take i ++ (us, u, fu) :: ts.drop i) = insAt (vals ts) i u := by simp [vals, insAt, List.map_take, List.map_drop]
  have e3 : ∀ b, b ∈ feet (ts.take i ++ (us, u, fu) :: ts.drop i) ↔ b ∈ feet ts ∨ b ∈ fu := by
    intro b
    have e : feet ts = feet (ts.take i) ++ feet (ts.drop i) := by
      unfold feet
      rw [← List.flatMap_append, List.take_append_drop]
    rw [e]
    simp only [feet, List.flatMap_append, List.flatMap_cons, List.mem_append]
    constructor
    · rintro (h | h | h) <;> simp [h]
    · rintro ((h | h) | h) <;> simp [h]
  have hnd0 := (List.nodup_append.1 hnd).2.1
  have hfe : (feet (ts.take i ++ (us, u, fu) :: ts.drop i)).Nodup := by
    have e : feet ts = feet (ts.take i) ++ feet (ts.drop i) := by
      unfold feet
      rw [← List.flatMap_append, List.take_append_drop]
    rw [e, List.nodup_append] at hnd0
    have hlt : ∀ b ∈ feet (ts.take i) ++ feet (ts.drop i), b < m := fun b hb => (hge b (List.mem_append.2 (.inr (by rw [e]; exact hb)))).2
    have e' : feet (ts.take i ++ (us, u, fu) :: ts.drop i) = feet (ts.take i) ++ (fu ++ feet (ts.drop i)) := by simp [feet]
    rw [e', List.nodup_append, List.nodup_append]
    refine ⟨hnd0.1, ⟨r2, hnd0.2.1, fun a ha b hb hab => ?_⟩, fun a ha b hb hab => ?_⟩
    · have := r3 a ha; have := hlt b (List.mem_append.2 (.inr hb)); omega
    · rcases List.mem_append.1 hb with hb | hb
      · have := r3 b hb; have := hlt a (List.mem_append.2 (.inl ha)); omega
      · exact hnd0.2.2 a ha b hb hab
  have hnv : ∀ b ∈ feet (ts.take i ++ (us, u, fu) :: ts.drop i), b ∉ v.ownBlock.toList := by
    intro b hb hb'
    have hbm := (hge b (List.mem_append.2 (.inl hb'))).2
    rcases (e3 b).1 hb with h | h
    · exact (List.nodup_append.1 hnd).2.2 b hb' b h rfl
    · have := r3 b h; omega
  have hrd : ∀ t ∈ ts.take i ++ (us, u, fu) :: ts.drop i, R.rd true w t.1 t.2.1 t.2.2 := by
    intro t ht
    rcases List.mem_append.1 ht with ht | ht
    · exact h1 t (List.mem_of_mem_take ht)
    · rcases List.mem_cons.1 ht with rfl | ht
      · exact r1
      · exact h1 t (List.mem_of_mem_drop ht)
  rw [← e2]
  refine Gap.of_owned (ts.take i ++ (us, u, fu) :: ts.drop i) (fun t ht => ?_) (B' := B') (by rw [e1]; simpa [Nat.min_eq_left hi, show i + (ts.length - i + 1) = ts.length + 1 by omega] using ho') ?_ ?_
  · exact R.frame (hrd t ht) fun b hb => hg.block b (R.lt (hrd t ht) b hb) fun e => hnv b (List.mem_flatMap.2 ⟨t, ht, hb⟩) (by rw [← e]; simp)
  · rw [List.nodup_append]
    refine ⟨by cases v'.ownBlock <;> simp, hfe, fun a ha b hb hab => ?_⟩
    subst hab
    rcases hv a ha with h | h
    · exact hnv a hb h
    · obtain ⟨t, ht, hb⟩ := List.mem_flatMap.1 hb
      have := R.lt (hrd t ht) a hb
      omega
  · intro b hb
    rcases List.mem_append.1 hb with hb | hb
    · rcases hv b hb with h | h
      · have := hge b (List.mem_append.2 (.inl h)); exact ⟨this.1, .inl this.2⟩
      · exact ⟨by omega, .inr (by omega)⟩
    · rcases (e3 b).1 hb with h | h
      · have := hge b (List.mem_append.2 (.inr h)); exact ⟨this.1, .inl this.2⟩
      · have := r3 b h; exact ⟨by omega, .inr this⟩

theorem Part.setEl {E : TypeId} {B m g cap n : Nat} {w : World} {l : List α} (h : Part (Rep.slice E R) B m w [.slice (some ⟨g, 0, none⟩) n cap] l) (i : Nat) (hi : i < l.length) (o : Nat) (us : List Value) (x : α) (hfit : o + us.length ≤ R.n)
    (hnew : ∀ cs fe, R.rd true w cs l[i] fe → fe.Nodup → (∀ b ∈ fe, B ≤ b ∧ b < m) → ∃ fx, R.rd true w (cs.take o ++ (us ++ cs.drop (o + us.length))) x fx ∧ fx.Nodup ∧ ∀ b ∈ fx, B ≤ b ∧ (b ∈ fe ∨ m ≤ b)) :
    Fresh (Rep.slice E R) B (setCells w g (i * R.n + o) us) [.slice (some ⟨g, 0, none⟩) n cap] (l.set i x) := by
  obtain ⟨ts, rfl, h1, h2, hnd, hge⟩ := h.owned
  rw [vals_length] at hi
  have hti : (vals ts)[i]'(by rw [vals_length]; exact hi) = ts[i].2.1 := by simp [vals]
  have hlen : ∀ t ∈ ts, t.1.length = R.n := fun t ht => R.len (h1 t ht)
  have hn : n = ts.length := by
    rcases h2.2 with ⟨h, _⟩ | ⟨g', cap', cur, h, _⟩
    · simp at h
    · simp only [Value.slice.injEq] at h; exact h.2.1
  subst hn
  have hm1 := h1 ts[i] (List.getElem_mem _)
  have hfi : ∀ b ∈ ts[i].2.2, b ∈ feet ts := fun b hb => List.mem_flatMap.2 ⟨ts[i], List.getElem_mem _, hb⟩
  have esplit : ts = ts.take i ++ (ts[i] :: ts.drop (i + 1)) := by rw [List.getElem_cons_drop, List.take_append_drop]
  have efeet : feet ts = feet (ts.take i) ++ (ts[i].2.2 ++ feet (ts.drop (i + 1))) := by
    unfold feet
    conv => lhs; rw [esplit]
    rw [List.flatMap_append, List.flatMap_cons]
  have hnd0 := (List.nodup_append.1 hnd).2.1
  have hnd1 := hnd0
  rw [efeet, List.nodup_append, List.nodup_append] at hnd1
  have hgf : ∀ b ∈ feet ts, b ≠ g := fun b hb e => (List.nodup_append.1 hnd).2.2 g (by simp [Value.ownBlock]) b hb e.symm
  have hgm := (hge g (List.mem_append.2 (.inl (by simp [Value.ownBlock])))).2
  obtain ⟨fx, k1, k2, k3⟩ := hnew ts[i].1 ts[i].2.2 (by rw [hti]; exact hm1) hnd1.2.1.1 (fun b hb => hge b (List.mem_append.2 (.inr (hfi b hb))))
  have hs := setCells_owns us (i * R.n + o) w _ h2
  have hlt : (cellsOf (ts.take i)).length = i * R.n := by
    rw [cellsOf_length _ fun t ht => hlen t (List.mem_of_mem_take ht), List.length_take, Nat.min_eq_left (Nat.le_of_lt hi)]
  have hli := hlen ts[i] (List.getElem_mem _)
  have hsplit : cellsOf ts = (cellsOf (ts.take i) ++ ts[i].1.take o) ++ (((ts[i].1.drop o).take us.length) ++ (ts[i].1.drop (o + us.length) ++ cellsOf (ts.drop (i + 1)))) := by
    have e2 : ts[i].1 = ts[i].1.take o ++ ((ts[i].1.drop o).take us.length ++ ts[i].1.drop (o + us.length)) := by
      rw [← List.drop_drop, List.take_append_drop, List.take_append_drop]
    conv => lhs; rw [esplit]
    have e3 : cellsOf (ts.take i ++ (ts[i] :: ts.drop (i + 1))) = cellsOf (ts.take i) ++ (ts[i].1 ++ cellsOf (ts.drop (i + 1))) := by simp only [cellsOf, List.flatMap_append, List.flatMap_cons]
    rw [e3]
    conv => lhs; rw [e2]
    simp only [List.append_assoc]
  have hA : (cellsOf (ts.take i) ++ ts[i].1.take o).length = i * R.n + o := by rw [List.length_append, hlt, List.length_take, hli]; omega
  rw [hsplit, ← hA, setL_mid _ _ _ _ (by rw [List.length_take, List.length_drop, hli]; omega), hA] at hs
  let t' : El α := (ts[i].1.take o ++ (us ++ ts[i].1.drop (o + us.length)), x, fx)
  have hset : (cellsOf (ts.take i) ++ ts[i].1.take o) ++ (us ++ (ts[i].1.drop (o + us.length) ++ cellsOf (ts.drop (i + 1)))) = cellsOf (ts.take i ++ (t' :: ts.drop (i + 1))) := by
    have e3 : cellsOf (ts.take i ++ (t' :: ts.drop (i + 1))) = cellsOf (ts.take i) ++ (t'.1 ++ cellsOf (ts.drop (i + 1))) := by simp [cellsOf]
    rw [e3]
    simp only [t', List.append_assoc]
  rw [hset] at hs
  have ev : (vals ts).set i x = vals (ts.take i ++ (t' :: ts.drop (i + 1))) := by
    rw [List.set_eq_take_append_cons_drop, if_pos (by rw [vals_length]; exact hi)]
    simp [vals, t', List.map_take, List.map_drop]
  have ef : feet (ts.take i ++ (t' :: ts.drop (i + 1))) = feet (ts.take i) ++ (fx ++ feet (ts.drop (i + 1))) := by simp [feet, t']
  have hfx : ∀ b ∈ fx, b ≠ g := fun b hb e => by
    rcases (k3 b hb).2 with h | h
    · exact hgf b (hfi b h) e
    · omega
  have hall : ∀ b ∈ feet (ts.take i ++ (t' :: ts.drop (i + 1))), b ≠ g ∧ B ≤ b := by
    intro b hb
    rw [ef] at hb
    have hin : ∀ b, b ∈ feet (ts.take i) ∨ b ∈ feet (ts.drop (i + 1)) → b ∈ feet ts := fun b h => by
      rw [efeet]; rcases h with h | h <;> simp [h]
    rcases List.mem_append.1 hb with hb | hb
    · exact ⟨hgf b (hin b (.inl hb)), (hge b (List.mem_append.2 (.inr (hin b (.inl hb))))).1⟩
    · rcases List.mem_append.1 hb with hb | hb
      · exact ⟨hfx b hb, (k3 b hb).1⟩
      · exact ⟨hgf b (hin b (.inr hb)), (hge b (List.mem_append.2 (.inr (hin b (.inr hb))))).1⟩
  have hgE : (Value.slice (some ⟨g, 0, none⟩) ts.length cap).ownBlock.toList = [g] := by simp [Value.ownBlock]
  rw [ev]
  refine Fresh.of_owned (B' := B) (ts.take i ++ (t' :: ts.drop (i + 1))) (fun t ht => ?_) ?_ ?_ ?_
  · have hr : R.rd true w t.1 t.2.1 t.2.2 := by
      rcases List.mem_append.1 ht with ht | ht
      · exact h1 t (List.mem_of_mem_take ht)
      · rcases List.mem_cons.1 ht with rfl | ht
        · exact k1
        · exact h1 t (List.mem_of_mem_drop ht)
    exact R.frame hr fun b hb => setCells_other (hall b (List.mem_flatMap.2 ⟨t, ht, hb⟩)).1 us _ w
  · have el : (ts.take i ++ (t' :: ts.drop (i + 1))).length = ts.length := by simp; omega
    rw [el]
    exact hs
  · rw [hgE, List.nodup_append]
    refine ⟨by simp, ?_, fun a ha b hb e => ?_⟩
    · rw [ef, List.nodup_append, List.nodup_append]
      have hdis : ∀ b ∈ fx, b ∉ feet (ts.take i) ∧ b ∉ feet (ts.drop (i + 1)) := by
        intro b hb
        rcases (k3 b hb).2 with h | h
        · exact ⟨fun h' => hnd1.2.2 b h' b (List.mem_append.2 (.inl h)) rfl, fun h' => hnd1.2.1.2.2 b h b h' rfl⟩
        · have hx : ∀ c ∈ feet ts, c < m := fun c hc => (hge c (List.mem_append.2 (.inr hc))).2
          exact ⟨fun h' => by have := hx b (by rw [efeet]; simp [h']); omega, fun h' => by have := hx b (by rw [efeet]; simp [h']); omega⟩
      refine ⟨hnd1.1, ⟨k2, hnd1.2.1.2.1, fun a ha b hb e => (hdis a ha).2 (e ▸ hb)⟩, fun a ha b hb e => ?_⟩
      rcases List.mem_append.1 hb with hb | hb
      · exact (hdis b hb).1 (e ▸ ha)
      · exact hnd1.2.2 a ha b (List.mem_append.2 (.inr hb)) e
    · simp at ha
      exact (hall b hb).1 (by rw [← e, ha])
  · intro b hb
    rcases List.mem_append.1 hb with hb | hb
    · rw [hgE] at hb
      simp at hb
      subst hb
      exact (hge b (List.mem_append.2 (.inl (by simp [Value.ownBlock])))).1
    · exact (hall b hb).2
end

end Go.Proofs.YtlfebehpmefioaaGreat

/-
  slices.Insert at []Item: one element into a slice that the call owns.
-/
namespace Go.Proofs.YtlfebehpmefioaaGreat
open Go.RowKit

set_option maxRecDepth 100000 in
set_option maxHeartbeats 4000000 in
theorem insItem_end (v : Value) (n : Nat) (xs us : List Value) (k B : Nat) (w : World) (ho : w.ownsRow B 71 4 v n xs) (hn : n ≤ 1100000) (hus : us.length = 4) (hu1 : ∀ u ∈ us, u.oneCell' = true) (hk : ∀ j u, us[j]? = some u → w.cell? ⟨k, j, none⟩ = some u) (hB : B ≤ w.heap.size) :
    Calls Tryz.prog 138 #[v, .int .i64 (n : Int), .slice (some ⟨k, 0, none⟩) 1 1] w fun e w' => ∃ ao cap, e = .returned (.slice ao (n + 1) cap) ∧ w'.ownsRow B 71 4 (.slice ao (n + 1) cap) (n + 1) (xs ++ us) ∧ w.grownBy w' v.ownBlock ∧ ∀ b ∈ (Value.slice ao (n + 1) cap).ownBlock.toList, b ∈ v.ownBlock.toList ∨ w.heap.size ≤ b := by
  obtain ⟨i0, hi, hz0, hz1, hz2⟩ := info_parts infoItem
  have hsrc : Src Tryz.prog 4 24 (.slice (some ⟨k, 0, none⟩) 1 1) 1 us w := Src.ofSlice w Tryz.underlying24 ⟨k, 0, none⟩ 1 1 us (by rw [hus]) (fun j u hj => by rw [Addr.add_lit, Nat.zero_add]; exact hk j u hj) hu1
  clear hk
  rcases id ho.2 with ⟨rfl, rfl⟩ | ⟨g, cap, cur, rfl, _, _, hnc, hcm, _, _⟩
  · obtain rfl : xs = [] := List.eq_nil_of_length_eq_zero (by have := ho.1; simpa using this)
    have HO := Lib.hid ho
    clear ho
    go_enter Tryz.func138, Tryz.ntmps138
    go_wp2_with (at_builtin; refine wpList_append_src _ rfl _ _ 24 24 rfl B 71 i0 _ 4 _ Tryz.underlying24 hi hz0 hz1 hz2 rfl _ 0 [] rfl HO.out _ 1 us rfl hsrc ?c1 ?c2 hB ?_)
    case c1 => omega
    case c2 => unfold maxLen; omega
    intro ao2 cap2 w2 h1 h2 h3
    have H1 := Lib.hid h1; have H2 := Lib.hid h2; have H3 := Lib.hid h3; clear h1 h2 h3
    go_wp2
    go_ret
    exact ⟨ao2, cap2, rfl, H1.out, H2.out, fun b hb => by have h := H3.out b (by simpa using hb); simp [Value.ownBlock] at h ⊢; omega⟩
  · unfold maxLen at hcm
    by_cases hcn : cap = n
    case' pos => subst hcn
    all_goals
      have HO := Lib.hid ho
      clear ho
      go_enter Tryz.func138, Tryz.ntmps138
      go_wp2_with (at_builtin; refine wpList_append_src _ rfl _ _ 24 24 rfl B 71 i0 _ 4 _ Tryz.underlying24 hi hz0 hz1 hz2 rfl _ _ xs rfl HO.out _ 1 us rfl hsrc ?c1 ?c2 hB ?_)
      case c1 => omega
      case c2 => unfold maxLen; omega
      intro ao2 cap2 w2 h1 h2 h3
      have H1 := Lib.hid h1; have H2 := Lib.hid h2; have H3 := Lib.hid h3; clear h1 h2 h3
      go_wp2
      go_ret
      exact ⟨ao2, cap2, rfl, H1.out, H2.out, fun b hb => by have h := H3.out b (by simpa using hb); simp [Value.ownBlock] at h ⊢; omega⟩

set_option maxRecDepth 100000 in
set_option maxHeartbeats 4000000 in
theorem insItem_room (g n cap i : Nat) (cur : Array Value) (xs us : List Value) (k : Nat) (tk : TypeId) (w : World) (hg : w.heap[g]? = some (.cells cur 71 (0, 0))) (hcs : cur.size = cap * 4) (htake : cur.toList.take (n * 4) = xs) (hi : i < n) (hnc : n + 1 ≤ cap) (hcm : cap ≤ 9223372036854775807) (hx1 : ∀ u ∈ xs, u.oneCell' = true) (hus : us.length = 4) (hu1 : ∀ u ∈ us, u.oneCell' = true) (hk : w.heap[k]? = some (.cells us.toArray tk (0, 0))) (hkg : k ≠ g) :
    Calls Tryz.prog 138 #[.slice (some ⟨g, 0, none⟩) n cap, .int .i64 (i : Int), .slice (some ⟨k, 0, none⟩) 1 1] w fun e w' => e = .returned (.slice (some ⟨g, 0, none⟩) (n + 1) cap) ∧ Hid (w'.heap[g]? = some (.cells (splice (splice cur.toList ((i + 1) * 4) (xs.drop (i * 4))) (i * 4) us).toArray 71 (0, 0))) ∧ Hid (w.grownBy w' (some g)) := by
  have hxl : xs.length = n * 4 := by rw [← htake, List.length_take, Array.length_toList, hcs]; omega
  have hdl : (xs.drop (i * 4)).length = (n - i) * 4 := by rw [List.length_drop, hxl]; omega
  have hov : ∀ off lb cb, (callFunc 161 #[.slice (some ⟨k, 0, none⟩) 1 1, .slice (some ⟨g, off, none⟩) lb cb]).run Tryz.prog w = .ok (.value (.bool false)) w := fun off lb cb => by
    rw [run_callFunc_extern Tryz.func161 (by kernel_rfl) (by kernel_rfl) (by kernel_rfl) (e := Extern.SlicesOverlaps.overlaps #[24, 24] #[4]) (by kernel_rfl),
      Lib.run_overlaps_apart w 24 4 71 Tryz.underlying24 4 (fun _ => by kernel_rfl) ⟨k, 0, none⟩ ⟨g, off, none⟩ 1 1 lb cb hkg tk 71 us.toArray.size cur.size (by simp [World.shape?, hk]) (by simp [World.shape?, hg]) (by omega) (by simp [World.frozen?, hk]) (by simp [World.frozen?, hk])]
    rfl
  have HG := Lib.hid hg
  have HK := Lib.hid hk
  have hsz : (Tryz.prog.info? 71).map (·.size) = some 4 := by kernel_rfl
  have HS : Hid (∀ j v, (xs.drop (i * 4))[j]? = some v → w.cell? ((⟨g, i * 4, none⟩ : Addr).add j) = some v) := Lib.hid fun j v hj => by
    rw [Addr.add_lit, cell_of_row w g _ cur _ (0, 0) hg]
    rw [List.getElem?_drop, ← htake, List.getElem?_take] at hj
    split at hj
    · simpa using hj
    · cases hj
  have HX : Hid (∀ v ∈ xs.drop (i * 4), v.oneCell' = true) := Lib.hid fun v hv => hx1 v (List.mem_of_mem_drop hv)
  have HU := Lib.hid hu1
  have hz2 : ((i : Int) == (n : Int)) = false := beq_eq_false_iff_ne.2 (by omega)
  have hw1 : IntKind.i64.wrap ((i : Int) + 1) = (i : Int) + 1 := Go.IntWalk.i64_in _ (by omega)
  have hw2 : IntKind.i64.wrap ((n : Int) + 1) = (n : Int) + 1 := Go.IntWalk.i64_in _ (by omega)
  have hb3 : (i : Int) ≤ (n : Int) := by omega
  have hb1 : (0 : Int) ≤ (i : Int) + 1 := by omega
  have hb8 : (i : Int) ≤ (n : Int) + 1 := by omega
  have hb9 : (0 : Int) ≤ (i : Int) := by omega
  have hb4 : ¬ (cap = i) := by omega
  have hb5 : ¬ (cap = i + 1) := by omega
  clear hg hk hx1 hu1 htake
  go_enter Tryz.func138, Tryz.ntmps138
  go_wp2_with (simp only [hov])
  go_region_law (refine step_copy_rows (by rfl) _ _ 24 24 (by rfl) 71 4 Tryz.underlying24 hsz (some ⟨g, (i + 1) * 4, none⟩) (some ⟨g, i * 4, none⟩) (n - i) (cap - (i + 1)) (n + 1 - i) (cap - i) (by simp [Act.eval, Act.put]) (by simp [Act.eval, Act.put]) g ((i + 1) * 4) cur.toList 71 (by exact HG.out) (xs.drop (i * 4)) ⟨g, i * 4, none⟩ rfl rfl (by rw [hdl]; congr 1; simp only [Nat.min_def]; split <;> omega) (by exact HS.out) (by rw [hdl, Array.length_toList, hcs]; omega) HX.out ?_; intro w2 HG2 HW2')
  all_goals
    have HW2 := Lib.hid (grown_drew HW2'.out)
    clear HW2'
    have HK2 : Hid (w2.heap[k]? = some (.cells us.toArray tk (0, 0))) := Lib.hid ((HW2.out.block k (Array.getElem?_eq_some_iff.1 HK.out).1 (fun e => hkg (by simpa using e))).trans HK.out)
    have HS2 : Hid (∀ j v, us[j]? = some v → w2.cell? ((⟨k, 0, none⟩ : Addr).add j) = some v) := Lib.hid fun j v hj => by rw [Addr.add_lit, cell_of_row w2 k _ us.toArray _ (0, 0) HK2.out, Nat.zero_add]; simpa using hj
    have hl2 : (splice cur.toList ((i + 1) * 4) (xs.drop (i * 4))).length = cap * 4 := by rw [length_splice _ _ _ (by rw [hdl, Array.length_toList, hcs]; omega), Array.length_toList, hcs]
    go_wp2_with (refine wpList_copy_rows (by rfl) _ _ 24 24 rfl 71 4 Tryz.underlying24 hsz _ _ _ _ _ _ rfl rfl g (i * 4) _ 71 HG2.out us ⟨k, 0, none⟩ ?d1 ?d2 ?d3 HS2.out ?d4 HU.out ?_)
    case d1 => first | rfl | (simp; done) | (simp; omega)
    case d2 => first | rfl | (simp; done) | (simp; omega)
    case d3 => rw [hus, show Nat.min 1 (n + 1 - i) = 1 by simp only [Nat.min_def]; split <;> omega]
    case d4 => rw [hl2, hus]; omega
    intro w3 HG3 HW3
    go_wp2
    go_ret
    exact ⟨rfl, HG3, Lib.hid (HW2.out.trans HW3.out)⟩

set_option maxRecDepth 100000 in
set_option maxHeartbeats 4000000 in
theorem insItem_grow (g n cap i : Nat) (xs us : List Value) (k B : Nat) (w : World) (ho : w.ownsRow B 71 4 (.slice (some ⟨g, 0, none⟩) n cap) n xs) (hi : i < n) (hnc : n ≤ cap) (hgr : cap < n + 1) (hn : n ≤ 1100000) (hx1 : ∀ u ∈ xs, u.oneCell' = true) (hus : us.length = 4) (hu1 : ∀ u ∈ us, u.oneCell' = true) (hk : ∀ j u, us[j]? = some u → w.cell? ⟨k, j, none⟩ = some u) :
    Calls Tryz.prog 138 #[.slice (some ⟨g, 0, none⟩) n cap, .int .i64 (i : Int), .slice (some ⟨k, 0, none⟩) 1 1] w fun e w' => ∃ c row, e = .returned (.slice (some ⟨w.heap.size, 0, none⟩) (n + 1) c) ∧ Hid (row.length = c * 4 ∧ n + 1 ≤ c ∧ c ≤ maxLen ∧ row.take (i * 4) = xs.take (i * 4) ∧ w'.heap[w.heap.size]? = some (.cells (splice (splice row (i * 4) us) ((i + 1) * 4) (xs.drop (i * 4))).toArray 71 (0, 0))) ∧ Hid (Below w.heap.size w w') := by
  obtain ⟨i0, hi0, hz0, hz1, hz2⟩ := info_parts infoItem
  have hxl : xs.length = n * 4 := ho.1
  have hkw : k < w.heap.size := block_lt_of_cell (hk 0 _ (List.getElem?_eq_getElem (by omega)))
  have hgw : g < w.heap.size := (World.ownsRow.lt ho g (by simp [Value.ownBlock])).2
  have hdl : (xs.drop (i * 4)).length = (n - i) * 4 := by rw [List.length_drop, hxl]; omega
  have hsz : (Tryz.prog.info? 71).map (·.size) = some 4 := by kernel_rfl
  have HO : Hid (∀ j u, (xs.take (i * 4))[j]? = some u → w.cell? ⟨g, j, none⟩ = some u) := Lib.hid fun j u hj => by
    rw [List.getElem?_take] at hj
    split at hj
    · rw [World.ownsRow.cellAt ho j (by have := (List.getElem?_eq_some_iff.1 hj).1; omega)]; exact hj
    · cases hj
  have HS : Hid (∀ j v, (xs.drop (i * 4))[j]? = some v → w.cell? ((⟨g, i * 4, none⟩ : Addr).add j) = some v) := Lib.hid fun j v hj => by
    rw [List.getElem?_drop] at hj
    rw [Addr.add_lit, World.ownsRow.cellAt ho _ (by have := (List.getElem?_eq_some_iff.1 hj).1; omega)]; exact hj
  have HX : Hid (∀ v ∈ xs.drop (i * 4), v.oneCell' = true) := Lib.hid fun v hv => hx1 v (List.mem_of_mem_drop hv)
  have HU := Lib.hid hu1
  have HK := Lib.hid hk
  have htl : (xs.take (i * 4)).length = i * 4 := by rw [List.length_take, hxl]; omega
  have hz3 : ((i : Int) == (n : Int)) = false := beq_eq_false_iff_ne.2 (by omega)
  have hw1 : IntKind.i64.wrap ((i : Int) + 1) = (i : Int) + 1 := Go.IntWalk.i64_in _ (by omega)
  have hw2 : IntKind.i64.wrap ((n : Int) + 1) = (n : Int) + 1 := Go.IntWalk.i64_in _ (by omega)
  have hb3 : (i : Int) ≤ (n : Int) := by omega
  have hb1 : (0 : Int) ≤ (i : Int) + 1 := by omega
  have hb8 : (i : Int) ≤ (n : Int) + 1 := by omega
  have hb9 : (0 : Int) ≤ (i : Int) := by omega
  have hb4 : ¬ (cap = i) := by omega
  clear ho hx1 hu1 hk
  go_enter Tryz.func138, Tryz.ntmps138
  go_wp2_with (at_builtin; refine wpList_append_zeros rfl _ _ 24 3 rfl 71 i0 _ 4 _ .i64 .i64 Tryz.underlying24 Tryz.underlying3 hi0 hz0 hz1 hz2 rfl (by decide) _ _ rfl rfl g i cap (n + 1 - i) (n + 1) ?e0 ?e1 ?e2 (xs.take (i * 4)) htl HO.out ?e3 ?e4 ?e5 (by decide) ?_)
  case e0 => omega
  case e1 => first | rfl | (simp; done) | (simp; omega)
  case e2 => omega
  case e3 => omega
  case e4 => omega
  case e5 => omega
  intro c row w1 HR1 HC1 HB1
  have hnc1 := HC1.out.2.1
  have hcm1 := HC1.out.2.2.1
  unfold maxLen at hcm1
  have hrl : row.toList.length = c * 4 := by rw [Array.length_toList]; exact HC1.out.1
  have hs1 := HB1.out.2
  have HU1 : Hid (∀ j v, us[j]? = some v → w1.cell? ((⟨k, 0, none⟩ : Addr).add j) = some v) := Lib.hid fun j v hj => by rw [Addr.add_lit, Nat.zero_add]; exact (HB1.out.1.cell (p := ⟨k, j, none⟩) hkw).trans (HK.out j v hj)
  have hb6 : ¬ (c = i) := by omega
  have hb7 : ¬ (c = i + 1) := by omega
  go_wp2_with (refine wpList_copy_rows (by rfl) _ _ 24 24 rfl 71 4 Tryz.underlying24 hsz _ _ _ _ _ _ rfl rfl w.heap.size (i * 4) row.toList 71 HR1.out us ⟨k, 0, none⟩ ?d1 ?d2 ?d3 HU1.out ?d4 HU.out ?_)
  case d1 => first | rfl | (simp; done) | (simp; omega)
  case d2 => first | rfl | (simp; done) | (simp; omega)
  case d3 => rw [hus, show Nat.min 1 (n + 1 - i) = 1 by simp only [Nat.min_def]; split <;> omega]
  case d4 => rw [hrl, hus]; omega
  intro w2 HR2 HW2
  have hl2 : (splice row.toList (i * 4) us).length = c * 4 := by rw [length_splice _ _ _ (by rw [hrl, hus]; omega), hrl]
  have HB2 : Hid (Below w.heap.size w w2) := Lib.hid (HB1.out.1.trans (grow_below (v := .slice (some ⟨w.heap.size, 0, none⟩) 0 0) (by simpa [Value.ownBlock] using HW2.out) (by simp [Value.ownBlock]) (by omega)))
  have HS2 : Hid (∀ j v, (xs.drop (i * 4))[j]? = some v → w2.cell? ((⟨g, i * 4, none⟩ : Addr).add j) = some v) := Lib.hid fun j v hj => by
    have h := HS.out j v hj
    rw [Addr.add_lit] at h ⊢
    exact (HB2.out.cell (p := ⟨g, i * 4 + j, none⟩) hgw).trans h
  have hs2 := HW2.out.size
  go_wp2
  go_region_law (refine step_copy_rows (by rfl) _ _ 24 24 (by rfl) 71 4 Tryz.underlying24 hsz (some ⟨w.heap.size, (i + 1) * 4, none⟩) (some ⟨g, i * 4, none⟩) (n - i) (c - (i + 1)) (n - i) (cap - i) (by simp [Act.eval, Act.put]) (by simp [Act.eval, Act.put]) w.heap.size ((i + 1) * 4) (splice row.toList (i * 4) us) 71 (by exact HR2.out) (xs.drop (i * 4)) ⟨g, i * 4, none⟩ rfl rfl (by rw [hdl]; congr 1; simp only [Nat.min_def]; split <;> omega) (by exact HS2.out) (by rw [hdl, hl2]; omega) HX.out ?_; intro w3 HR3 HW3)
  all_goals
    go_wp2
    go_ret
    exact ⟨c, row.toList, rfl, Lib.hid ⟨hrl, hnc1, HC1.out.2.2.1, HC1.out.2.2.2, HR3.out⟩, Lib.hid (HB2.out.trans (grow_below (v := .slice (some ⟨w.heap.size, 0, none⟩) 0 0) (by simpa [Value.ownBlock] using grown_drew HW3.out) (by simp [Value.ownBlock]) (by omega)))⟩

theorem insCellsItem (v : Value) (n : Nat) (xs us : List Value) (k i B : Nat) (tk : TypeId) (w : World) (ho : w.ownsRow B 71 4 v n xs) (hn : n ≤ 1100000) (hi : i ≤ n) (hx1 : ∀ u ∈ xs, u.oneCell' = true) (hus : us.length = 4) (hu1 : ∀ u ∈ us, u.oneCell' = true) (hk : w.heap[k]? = some (.cells us.toArray tk (0, 0))) (hkv : k ∉ v.ownBlock.toList) (hB : B ≤ w.heap.size) :
    Calls Tryz.prog 138 #[v, .int .i64 (i : Int), .slice (some ⟨k, 0, none⟩) 1 1] w fun e w' => ∃ ao cap, e = .returned (.slice ao (n + 1) cap) ∧ w'.ownsRow B 71 4 (.slice ao (n + 1) cap) (n + 1) (xs.take (i * 4) ++ us ++ xs.drop (i * 4)) ∧ w.grownBy w' v.ownBlock ∧ ∀ b ∈ (Value.slice ao (n + 1) cap).ownBlock.toList, b ∈ v.ownBlock.toList ∨ w.heap.size ≤ b := by
  have hkc : ∀ j u, us[j]? = some u → w.cell? ⟨k, j, none⟩ = some u := fun j u hj => by rw [cell_of_row w k j us.toArray tk (0, 0) hk]; simpa using hj
  have hxl : xs.length = n * 4 := ho.1
  by_cases hin : i = n
  · subst hin
    have e1 : xs.take (i * 4) ++ us ++ xs.drop (i * 4) = xs ++ us := by rw [List.take_of_length_le (by omega), List.drop_of_length_le (by omega), List.append_nil]
    rw [e1]
    exact insItem_end v i xs us k B w ho hn hus hu1 hkc hB
  have hlt : i < n := by omega
  rcases id ho.2 with ⟨rfl, rfl⟩ | ⟨g, cap, cur, rfl, hbg, hg, hnc, hcm, hcs, htake⟩
  · omega
  have hll : (xs.take (i * 4) ++ us ++ xs.drop (i * 4)).length = (n + 1) * 4 := by
    simp only [List.length_append, List.length_take, List.length_drop, hxl, hus]; omega
  by_cases hr : n + 1 ≤ cap
  · refine (insItem_room g n cap i cur xs us k tk w hg hcs htake hlt hr (by unfold maxLen at hcm; omega) hx1 hus hu1 hk (fun e => hkv (by rw [e]; simp [Value.ownBlock]))).mono ?_
    rintro e w' ⟨rfl, hg', hw'⟩
    obtain ⟨q1, q2⟩ := insert_room (S := 4) (cap := cap) (cur := cur.toList) hlt hr (by rw [Array.length_toList, hcs]) htake hus
    exact ⟨some ⟨g, 0, none⟩, cap, rfl, ⟨hll, .inr ⟨g, cap, _, rfl, hbg, hg'.out, hr, hcm, by simpa using q1, by simpa using q2⟩⟩, hw'.out, fun b hb => .inl hb⟩
  · refine (insItem_grow g n cap i xs us k B w ho hlt hnc (by omega) hn hx1 hus hu1 hkc).mono ?_
    rintro e w' ⟨c, row, rfl, hr1, hb'⟩
    obtain ⟨r1, r2, r3, r4, r5⟩ := hr1.out
    obtain ⟨q1, q2⟩ := insert_grow (S := 4) hlt r2 r1 hxl r4 hus
    exact ⟨some ⟨w.heap.size, 0, none⟩, c, rfl, ⟨hll, .inr ⟨w.heap.size, c, _, rfl, hB, r5, r2, r3, by simpa using q1, by simpa using q2⟩⟩, grown_of_below hb'.out, fun b hb => .inr (by simp [Value.ownBlock] at hb; omega)⟩

theorem insertGItem (v : Value) (l : List DItem) (u : DItem) (us : List Value) (k i B m m2 : Nat) (tk : TypeId) (w : World) (h : Part (Rep.slice 71 DItem.rep) B m w [v] l) (hu : Fresh DItem.rep m2 w us u) (hB : B ≤ m) (hmm : m ≤ m2) (hm : m2 ≤ w.heap.size) (hn : l.length ≤ 1100000) (hi : i ≤ l.length) (hk : w.heap[k]? = some (.cells us.toArray tk (0, 0))) (hkv : k ∉ v.ownBlock.toList) :
    Calls Tryz.prog 138 #[v, .int .i64 (i : Int), .slice (some ⟨k, 0, none⟩) 1 1] w fun e w' => ∃ ao cap, e = .returned (.slice ao (l.length + 1) cap) ∧ Gap (Rep.slice 71 DItem.rep) B m m2 w' [.slice ao (l.length + 1) cap] (insAt l i u) ∧ Chg v.ownBlock.toList w w' ∧ ∀ b ∈ (Value.slice ao (l.length + 1) cap).ownBlock.toList, b ∈ v.ownBlock.toList ∨ w.heap.size ≤ b := by
  obtain ⟨ts, hl, h1, h2, _, _⟩ := h.owned
  have hlt : l.length = ts.length := by rw [hl, vals_length]
  have hone : ∀ x ∈ cellsOf ts, x.oneCell' = true := fun x hx => by
    obtain ⟨t, ht, hx⟩ := List.mem_flatMap.1 hx
    exact DItem.rep.one (h1 t ht) x hx
  have hu' := hu
  obtain ⟨fu, r1, _, _⟩ := hu'
  have hus : us.length = 4 := DItem.rep.len r1
  rw [← hlt] at h2
  refine (insCellsItem v l.length (cellsOf ts) us k i B tk w h2 hn hi hone hus (DItem.rep.one r1) hk hkv (by omega)).mono ?_
  rintro e w' ⟨ao, cap, rfl, k1, k2, k3⟩
  refine ⟨ao, cap, rfl, Part.inserted (B' := B) h hu hB hmm hm k2 k3 (fun xs hxs _ => ?_) hi, Chg.of_grown k2, k3⟩
  rw [ownsRow_unique hxs h2]
  exact k1

end Go.Proofs.YtlfebehpmefioaaGreat

/-
  impl.PutItem.
-/
namespace Go.Proofs.YtlfebehpmefioaaGreat
open Go.RowKit

theorem putOut_none {s : DStore} {k : DKey} (r : DRecord) (h : idxF (keyIs k) s.items = -1) : putOut s k r = putNew s k r := by
  unfold putOut; rw [find_none h]
theorem putOut_some {s : DStore} {k : DKey} (r : DRecord) {i : Nat} (hi : i < s.items.length) (h : idxF (keyIs k) s.items = (i : Int)) : putOut s k r = ⟨s.name, s.items.set i ⟨s.items[i].key, r⟩, s.auto⟩ := by
  unfold putOut; rw [find_some h]
  simp only [putAt, List.getElem?_eq_getElem hi]
theorem putOut_name (s : DStore) (k : DKey) (r : DRecord) : (putOut s k r).name = s.name := by
  unfold putOut putAt putNew
  split
  · split <;> rfl
  · rfl
theorem putOut_fmk {B : Nat} {w : World} {v : Value} {s : DStore} {k : DKey} {r : DRecord} (h : Fresh (Rep.slice 71 DItem.rep) B w [v] (putOut s k r).items) (s0 : s.name.size ≤ maxLen) : Fresh DStore.rep B w [.string s.name, v, .int .i64 (putOut s k r).auto] (putOut s k r) := by
  have y := DStore.fmk (x := putOut s k r) h (by rw [putOut_name]; exact s0)
  rw [putOut_name] at y
  exact y
theorem items_set {B m g cap n : Nat} {w : World} {l : List DItem} (h : Part (Rep.slice 71 DItem.rep) B m w [.slice (some ⟨g, 0, none⟩) n cap] l) (i : Nat) (hi : i < l.length) {v : Value} {r : DRecord} (hr : Fresh DRecord.rep m w [v] r) (hB : B ≤ m) :
    Fresh (Rep.slice 71 DItem.rep) B (w.setCell ⟨g, i * 4 + 3, none⟩ v) [.slice (some ⟨g, 0, none⟩) n cap] (l.set i ⟨l[i].key, r⟩) := by
  refine Part.setEl h i hi 3 [v] ⟨l[i].key, r⟩ (Nat.le_refl 4) fun cs fe hc _ _ => ?_
  obtain ⟨v1, f1, rfl, rfl, hs0, _⟩ := DItem.parts hc
  obtain ⟨fr, r1, r2, r3⟩ := hr
  exact ⟨fr, DItem.join (x := ⟨l[i].key, r⟩) [v] fr r1 hs0, r2, fun b hb => ⟨Nat.le_trans hB (r3 b hb), .inr (r3 b hb)⟩⟩
theorem item_fmk {B : Nat} {w : World} {v : Value} {k : DKey} {r : DRecord} (hk : k.text.size ≤ maxLen) (h : Fresh DRecord.rep B w [v] r) : Fresh DItem.rep B w [.int .i64 k.kind, .int .i64 k.n, .string k.text, v] ⟨k, r⟩ :=
  DItem.fresh (x := ⟨k, r⟩) (h.partAt (Nat.le_refl _)) (Nat.le_refl _) hk
theorem owned_at {α : Type} {R : Rep α} {E : TypeId} {B : Nat} {w : World} {v : Value} {l : List α} (hf : Fresh (Rep.slice E R) B w [v] l) (i : Nat) (hi : i < l.length) :
    ∃ g cap, v = .slice (some ⟨g, 0, none⟩) l.length cap ∧ g < w.heap.size ∧ (∀ j, w.frozen? ⟨g, j, none⟩ = false) ∧ ∀ j, j < R.n → ∃ u, w.cell? ⟨g, i * R.n + j, none⟩ = some u := by
  obtain ⟨ts, rfl, h1, ho, _, _⟩ := hf.owned
  rw [vals_length] at hi
  have ho' := ho
  rcases ho.2 with ⟨rfl, h0⟩ | ⟨g, cap, cur, rfl, hb, hg, hnc, hcm, hcs, htake⟩
  · omega
  · refine ⟨g, cap, by rw [vals_length], (Array.getElem?_eq_some_iff.1 hg).1, fun j => World.ownsRow.frozenAt ho' j, fun j hj => ?_⟩
    have hlt : i * R.n + j < ts.length * R.n := by
      have : (i + 1) * R.n ≤ ts.length * R.n := Nat.mul_le_mul_right _ hi
      rw [Nat.add_mul] at this; omega
    have hl := ho'.1
    exact ⟨_, (World.ownsRow.cellAt ho' _ hlt).trans (List.getElem?_eq_getElem (by omega))⟩
theorem auto_yes {a : Int} {k : DKey} (c : (k.kind == 1) = true) : autoOf a k = if a < k.n ∧ k.n ≤ 1000000 then k.n else a := by
  have c : k.kind = 1 := by simpa using c
  unfold autoOf; simp only [c, true_and]
theorem auto_no {a : Int} {k : DKey} (c : (k.kind == 1) = false) : autoOf a k = a := by
  have c : ¬ k.kind = 1 := by simpa using c
  unfold autoOf; rw [if_neg (fun h => c h.1)]
attribute [local irreducible] isStoreF isKeyF putOut keyIs cmpKeysF

set_option maxRecDepth 100000 in
set_option maxHeartbeats 16000000 in
theorem implPutItem (cs ck cr : List Value) (s : DStore) (k : DKey) (r : DRecord) (w : World) (h : Reads DStore.rep w cs s) (h' : Reads DKey.rep w ck k) (h'' : Reads DRecord.rep w cr r) (hs : SmallStore s) (hr : r.fields.length ≤ 1048600) :
    Calls Tryz.prog 96 #[.agg cs.toArray, .agg ck.toArray, .agg cr.toArray] w fun e w' => ∃ ds, e = .returned (.tuple #[.agg ds.toArray, .bool (putItemB s k r)]) ∧ Fresh DStore.rep w.heap.size w' ds (putItemF s k r) ∧ Below w.heap.size w w' := by
  have HS := Lib.hid h
  have HRr := Lib.hid h''
  obtain ⟨fp_q, h⟩ := h
  obtain ⟨q_v1, q_f1, rfl, _, q_s0, q_r1⟩ := DStore.rd.1 h
  obtain ⟨q_a1, q_c1, rfl, q_hm1, q_lc1, q_hu1⟩ := slice_open q_r1; clear q_hu1
  have q_K1 : Hid (Reads (Rep.slice 71 DItem.rep) w [.slice q_a1 s.items.length q_c1] s.items) := ⟨_, q_r1⟩
  clear q_r1 h
  obtain ⟨fk, hk⟩ := h'
  obtain ⟨rfl, _, hkt⟩ := DKey.rd.1 hk
  clear hk
  obtain ⟨fp_r, h''⟩ := h''
  obtain ⟨r_v1, r_f1, rfl, _, r_r1⟩ := DRecord.rd.1 h''
  obtain ⟨r_a1, r_c1, rfl, r_hm1, r_lc1, r_hu1⟩ := slice_open r_r1; clear r_hu1
  have r_K1 : Hid (Reads (Rep.slice 112 DField.rep) w [.slice r_a1 r.fields.length r_c1] r.fields) := ⟨_, r_r1⟩
  clear r_r1 h''
  have HKr : Hid (∀ W, Reads DKey.rep W [.int .i64 k.kind, .int .i64 k.n, .string k.text] k) := Lib.hid fun W => ⟨[], DKey.rd.2 ⟨rfl, rfl, hkt⟩⟩
  have hsl := hs.items
  go_enter Tryz.func96, Tryz.ntmps96
  go_wp2_with fail
  refine (implIsStore _ s _ (HS.out.below bEl)).mono ?_
  rintro e w1 ⟨rfl, hb⟩
  have HX : Hid (WB w1 w.heap.size #[.string s.name, .slice q_a1 s.items.length q_c1, .int .i64 s.auto]) := Lib.hid ((((WB.at rfl).growA).growA).growA.keep hb)
  have HK : Hid (WB w1 (w.heap.size + 1) #[.int .i64 k.kind, .int .i64 k.n, .string k.text]) := Lib.hid ((((WB.at (by simp)).growA).growA).keep hb)
  have HR : Hid (WB w1 (w.heap.size + 2) #[.slice r_a1 r.fields.length r_c1]) := Lib.hid (((WB.at (by simp)).growA).keep hb)
  have HT : Hid (WB w1 (w.heap.size + 3) #[.string ⟨#[]⟩, .slice none 0 0, .int .i64 0]) := Lib.hid ((WB.at (by simp)).keep hb)
  have HB : Hid (Below w.heap.size w w1) := Lib.hid (below_call bEl bSz hb)
  have hz : w.heap.size + 4 ≤ w1.heap.size := by have y := hb.size; simp at y; omega
  clear hb
  have ⟨c_HX, z_HX, f_HX⟩ := HX.out
  have ⟨c_HK, z_HK, f_HK⟩ := HK.out
  have ⟨c_HR, z_HR, f_HR⟩ := HR.out
  have ⟨c_HT, z_HT, f_HT⟩ := HT.out
  cases b0 : isStoreF s
  case' true => cases b1 : isKeyF k
  case false =>
    have hB : Hid (putItemB s k r = false) := Lib.hid (by rw [putItemB, b0]; rfl)
    go_wp2_with fail
    refine (implCopyStore _ s _ (HS.out.below HB.out) hs).mono ?_
    rintro e w7 ⟨ds, rfl, hf7, hb7⟩
    obtain ⟨ao7, cap7, rfl, hfw7, _⟩ := DStore.fopen hf7
    have HF7 := Lib.hid hfw7
    have HB7 := Lib.hid (HB.out.trans (hb7.mono HB.out.size))
    have ⟨cr7, zr7, fr7⟩ := HT.out.keep hb7
    have hz7 := HB.out.size
    clear hf7 hfw7 hb7
    go_wp2
    refine bodyPost_ret (v := .tuple #[.agg #[.string s.name, .slice ao7 s.items.length cap7, .int .i64 s.auto], .bool false]) (by simp [results, Tryz.results96, go_sem, cr7]) rfl ⟨_, by rw [hB.out], ?_, ?_⟩
    · have e : putItemF s k r = s := by rw [putItemF, hB.out]; rfl
      rw [e]
      exact DStore.fmk (Fresh.mono (B := w1.heap.size) (by repeat (first | exact HF7.out | refine Fresh.setLow ?_ (by omega) | refine Fresh.drew ?_)) (by omega)) q_s0
    · have y := HB7.out
      exact bEb
  case true.false =>
    have hB : Hid (putItemB s k r = false) := Lib.hid (by rw [putItemB, b1, Bool.false_and, Bool.and_false])
    go_wp2_with fail
    refine (implIsKey _ k _ (HKr.out _)).mono ?_
    rintro e w2 ⟨rfl, hb⟩
    rw [b1]
    clear c_HX z_HX f_HX c_HK z_HK f_HK c_HR z_HR f_HR c_HT z_HT f_HT
    replace HX := Lib.hid (HX.out.keep hb)
    replace HK := Lib.hid (HK.out.keep hb)
    replace HR := Lib.hid (HR.out.keep hb)
    replace HT := Lib.hid (HT.out.keep hb)
    replace HB := Lib.hid (HB.out.trans (hb.mono HB.out.size))
    clear hb
    have ⟨c_HX, z_HX, f_HX⟩ := HX.out
    have ⟨c_HT, z_HT, f_HT⟩ := HT.out
    obtain ⟨w1, rfl⟩ : ∃ w1', w1' = w2 := ⟨_, rfl⟩
    go_wp2_with fail
    refine (implCopyStore _ s _ (HS.out.below HB.out) hs).mono ?_
    rintro e w7 ⟨ds, rfl, hf7, hb7⟩
    obtain ⟨ao7, cap7, rfl, hfw7, _⟩ := DStore.fopen hf7
    have HF7 := Lib.hid hfw7
    have HB7 := Lib.hid (HB.out.trans (hb7.mono HB.out.size))
    have ⟨cr7, zr7, fr7⟩ := HT.out.keep hb7
    have hz7 := HB.out.size
    clear hf7 hfw7 hb7
    go_wp2
    refine bodyPost_ret (v := .tuple #[.agg #[.string s.name, .slice ao7 s.items.length cap7, .int .i64 s.auto], .bool false]) (by simp [results, Tryz.results96, go_sem, cr7]) rfl ⟨_, by rw [hB.out], ?_, ?_⟩
    · have e : putItemF s k r = s := by rw [putItemF, hB.out]; rfl
      rw [e]
      exact DStore.fmk (Fresh.mono (B := w1.heap.size) (by repeat (first | exact HF7.out | refine Fresh.setLow ?_ (by omega) | refine Fresh.drew ?_)) (by omega)) q_s0
    · have y := HB7.out
      exact bEb
  case true.true =>
    have a0 := Lib.hid b0
    have a1 := Lib.hid b1
    go_wp2_with fail
    refine (implIsKey _ k _ (HKr.out _)).mono ?_
    rintro e w1b ⟨rfl, hb⟩
    rw [b1]
    clear c_HX z_HX f_HX c_HK z_HK f_HK c_HR z_HR f_HR c_HT z_HT f_HT
    have hzb := hb.size
    replace HX := Lib.hid (HX.out.keep hb)
    replace HK := Lib.hid (HK.out.keep hb)
    replace HR := Lib.hid (HR.out.keep hb)
    replace HT := Lib.hid (HT.out.keep hb)
    replace HB := Lib.hid (HB.out.trans (hb.mono HB.out.size))
    clear hb b0 b1
    have ⟨c_HX, z_HX, f_HX⟩ := HX.out
    go_wp2_with fail
    refine (implCopyStore _ s _ (HS.out.below HB.out) hs).mono ?_
    rintro e w2 ⟨ds, rfl, hf, hb⟩
    obtain ⟨ao, cap, rfl, hfw, _⟩ := DStore.fopen hf
    have HF : Hid (Fresh (Rep.slice 71 DItem.rep) (w.heap.size + 4) w2 [.slice ao s.items.length cap] s.items) := Lib.hid (hfw.mono (by omega))
    have hz2 := hb.size
    clear c_HX z_HX f_HX
    replace HX := Lib.hid (HX.out.keep hb)
    replace HK := Lib.hid (HK.out.keep hb)
    replace HR := Lib.hid (HR.out.keep hb)
    replace HT := Lib.hid (HT.out.keep hb)
    replace HB := Lib.hid (HB.out.trans (hb.mono HB.out.size))
    clear hf hfw hb
    have ⟨c_HX, z_HX, f_HX⟩ := HX.out
    have ⟨c_HK, z_HK, f_HK⟩ := HK.out
    go_wp2_with fail
    refine (implFindItem _ _ s k _ (HS.out.below (by have y := HB.out; exact bEl)) (HKr.out _)).mono ?_
    rintro e w3 ⟨rfl, hb⟩
    have hq : Below w2.heap.size w2 w3 := below_call bEl bSz hb
    have HO : Hid (WB w3 w2.heap.size #[.string s.name, .slice ao s.items.length cap, .int .i64 s.auto]) := Lib.hid ((WB.at rfl).keep hb)
    have hsz3 : w2.heap.size + 1 ≤ w3.heap.size := by have y := hb.size; simp at y; omega
    have hlt : Hid (∀ b, (Value.slice ao s.items.length cap).ownBlock = some b → w.heap.size + 4 ≤ b ∧ b < w2.heap.size) := Lib.hid fun b hb => HF.out.ownlt b (by rw [hb]; simp)
    have hno : Hid (∀ b, b < w.heap.size + 4 ∨ w2.heap.size ≤ b → b ∉ (Value.slice ao s.items.length cap).ownBlock.toList) := Lib.hid fun b hb hm => by
      have := hlt.out b (by simpa using hm); omega
    have HP := Lib.hid (HF.out.partAt (Nat.le_refl _))
    clear c_HX z_HX f_HX c_HK z_HK f_HK
    replace HX := Lib.hid (HX.out.keep hq)
    replace HK := Lib.hid (HK.out.keep hq)
    replace HR := Lib.hid (HR.out.keep hq)
    replace HT := Lib.hid (HT.out.keep hq)
    replace HF := Lib.hid (HF.out.below hq)
    replace HP := Lib.hid (HP.out.below hq)
    replace HB := Lib.hid (HB.out.trans (hq.mono HB.out.size))
    clear hb hq
    rcases idxF_cases (keyIs k) s.items with ⟨he, hall⟩ | ⟨i, hi, he, hp, hall⟩
    · have HE := Lib.hid (putOut_none r he)
      rw [he]
      clear he hall
      have ⟨c_HX, z_HX, f_HX⟩ := HX.out
      have ⟨c_HK, z_HK, f_HK⟩ := HK.out
      have ⟨c_HR, z_HR, f_HR⟩ := HR.out
      have ⟨c_HO, z_HO, f_HO⟩ := HO.out
      go_wp2
      go_loopw [10] (fun i wr => ∃ a : Nat, a ≤ s.items.length ∧ i = .int .i64 a ∧ Hid (∀ j, (hj : j < s.items.length) → j < a → itemLess k s.items[j] = true) ∧ Below w3.heap.size w3 wr) (fun i _ => s.items.length - (intOf i).toNat)
      case atStart => exact ⟨0, by omega, rfl, Lib.hid (by intro j hj h; omega), belR⟩
      case round =>
        obtain ⟨a, ha, rfl, HA, hb⟩ := hrel
        clear c_HX z_HX f_HX c_HK z_HK f_HK c_HR z_HR f_HR c_HO z_HO f_HO
        have hsr := hb.size
        replace HX := Lib.hid (HX.out.keep hb)
        replace HK := Lib.hid (HK.out.keep hb)
        replace HR := Lib.hid (HR.out.keep hb)
        replace HT := Lib.hid (HT.out.keep hb)
        replace HO := Lib.hid (HO.out.keep hb)
        replace HF := Lib.hid (HF.out.below hb)
        replace HP := Lib.hid (HP.out.below hb)
        replace HB := Lib.hid (HB.out.trans (hb.mono HB.out.size))
        have HQ := Lib.hid hb
        clear hb
        have ⟨c_HX, z_HX, f_HX⟩ := HX.out
        have ⟨c_HK, z_HK, f_HK⟩ := HK.out
        have ⟨c_HR, z_HR, f_HR⟩ := HR.out
        have ⟨c_HO, z_HO, f_HO⟩ := HO.out
        have hstop : (Hid (∀ h : a < s.items.length, itemLess k s.items[a] = false)) ∨ ∃ h : a < s.items.length, itemLess k s.items[a] = true := by
          by_cases h1 : a < s.items.length
          · cases h2 : itemLess k s.items[a]
            · exact .inl (Lib.hid fun _ => h2)
            · exact .inr ⟨h1, h2⟩
          · exact .inl (Lib.hid fun h => absurd h h1)
        have j1 : (0 : Int) ≤ (a : Int) := by omega
        rcases hstop with HN | ⟨hlt', hle⟩
        · have HL := Lib.hid (lead_eq ha HA.out HN.out)
          have HE2 : Hid (putOut s k r = ⟨s.name, insAt s.items a ⟨k, r⟩, autoOf s.auto k⟩) := Lib.hid (by rw [HE.out, putNew, HL.out])
          clear HE HL HA HQ
          go_upto_region 8 with fail
          go_cut [50] from 35 to 52 (fun v wx => v = .bool false ∧ Below wr.heap.size wr wx)
          case first =>
            by_cases hkl : a < s.items.length
            · obtain ⟨b, off, cs_b, rfl, hw_b, hr_b, hcell_b⟩ := slice_at HF.out.reads a hkl
              obtain ⟨fe_b, hrd_b⟩ := hr_b
              have HR_b : Hid (Reads DItem.rep wr cs_b s.items[a]) := ⟨_, hrd_b⟩
              obtain ⟨b_v1, b_f1, rfl, _, b_s0, b_r1⟩ := DItem.rd.1 hrd_b
              obtain ⟨b_a1, b_k1, rfl, _⟩ := slice_open b_r1
              have b_R1 : Hid (Reads (Rep.slice 112 DField.rep) wr [.slice b_a1 s.items[a].record.fields.length b_k1] s.items[a].record.fields) := ⟨_, b_r1⟩
              clear b_r1
              clear hrd_b
              have b_c0 : wr.cell? ⟨b, off + a * 4, none⟩ = some (.int .i64 s.items[a].key.kind) := hcell_b 0 (by decide)
              have b_c1 : wr.cell? ⟨b, off + a * 4 + 1, none⟩ = some (.int .i64 s.items[a].key.n) := hcell_b 1 (by decide)
              have b_c2 : wr.cell? ⟨b, off + a * 4 + 2, none⟩ = some (.string s.items[a].key.text) := hcell_b 2 (by decide)
              have b_c3 : wr.cell? ⟨b, off + a * 4 + 3, none⟩ = some (.slice b_a1 s.items[a].record.fields.length b_k1) := hcell_b 3 (by decide)
              clear hcell_b
              clear HR_b b_R1
              have i2 : (a : Int) < (s.items.length : Int) := by omega
              have n5 : decide (cmpKeysF s.items[a].key k < 0) = false := HN.out hkl
              have HKj : Hid (∀ W, Reads DKey.rep W [.int .i64 s.items[a].key.kind, .int .i64 s.items[a].key.n, .string s.items[a].key.text] s.items[a].key) := Lib.hid fun W => ⟨[], DKey.rd.2 ⟨rfl, rfl, b_s0⟩⟩
              have n6 : decide (a < s.items.length) = true := decide_eq_true hkl
              go_wp2_with fail
              have K0 := rg_var HO.out
              have K1 := rg_var HK.out
              have C3 := rg_cell b_c0
              have C4 := rg_cell b_c1
              have C5 := rg_cell b_c2
              refine wp_region_rg (by kernel_rfl) (by kernel_rfl) ?_
              repeat (go_big_quiet_step ((go_at_call 110; exact calls_rg (implCompareKeys _ _ s.items[a].key k _ (HKj.out _) (HKr.out _)))))
              refine wpQuiet_nil ?_
              rintro _ ⟨pq, rfl⟩
              have hb := rg_below wr pq
              go_wp2_with fail
              go_meet
              exact ⟨rfl, hb⟩
            · have n6 : decide (a < s.items.length) = false := decide_eq_false hkl
              go_wp2_with fail
              have K0 := rg_var HO.out
              have K1 := rg_var HK.out
              refine wp_region_rg (by kernel_rfl) (by kernel_rfl) ?_
              repeat (go_big_quiet_step (fail))
              refine wpQuiet_nil ?_
              rintro _ ⟨pq, rfl⟩
              have hb := rg_below wr pq
              go_wp2_with fail
              go_meet
              exact ⟨rfl, hb⟩
          case rest =>
            obtain ⟨rfl, hb⟩ := hcut
            obtain ⟨wx, hwx⟩ : ∃ wx : World, wx = wc := ⟨_, rfl⟩
            subst hwx
            clear c_HX z_HX f_HX c_HK z_HK f_HK c_HR z_HR f_HR c_HO z_HO f_HO
            have hsx := hb.size
            replace HX := Lib.hid (HX.out.keep hb)
            replace HK := Lib.hid (HK.out.keep hb)
            replace HR := Lib.hid (HR.out.keep hb)
            replace HT := Lib.hid (HT.out.keep hb)
            replace HO := Lib.hid (HO.out.keep hb)
            replace HF := Lib.hid (HF.out.below hb)
            replace HP := Lib.hid (HP.out.below hb)
            replace HB := Lib.hid (HB.out.trans (hb.mono HB.out.size))
            clear hb
            have ⟨c_HX, z_HX, f_HX⟩ := HX.out
            have ⟨c_HK, z_HK, f_HK⟩ := HK.out
            have ⟨c_HR, z_HR, f_HR⟩ := HR.out
            have ⟨c_HO, z_HO, f_HO⟩ := HO.out
            go_upto_region 10 with fail
            go_cut [61] (fun _ W => ∃ v6, WB W w.heap.size #[.string s.name, .slice q_a1 s.items.length q_c1, .int .i64 s.auto] ∧ WB W (w.heap.size + 1) #[.int .i64 k.kind, .int .i64 k.n, .string k.text] ∧ WB W (w.heap.size + 3) #[.string ⟨#[]⟩, .slice none 0 0, .int .i64 0] ∧ WB W w2.heap.size #[.string s.name, v6, .int .i64 s.auto] ∧ Gap (Rep.slice 71 DItem.rep) (w.heap.size + 4) w2.heap.size wx.heap.size W [v6] (insAt s.items a ⟨k, r⟩) ∧ Below w.heap.size w W)
            case first =>
              go_region_law (first
                | (go_simp; go_at_call 135; refine (implCopyRecord _ r _ (HRr.out.below (by have y := HB.out; exact bEb)) hr).mono ?_; rintro e w4 ⟨ds, rfl, hf4, hb4⟩; obtain ⟨a4, c4, rfl⟩ := DRecord.fshape hf4; have hq4 : Below wx.heap.size wx w4 := (Below.trans bEb (hb4.mono bSz)); have hsz4 := hq4.size; have hfi := item_fmk hkt (hf4.mono (B' := wx.heap.size) (by first | exact Nat.le_refl _ | (simp; done) | omega)); have hwo := HO.out.keep hq4; have ⟨co4, zo4, fo4⟩ := hwo; have hwk := HK.out.keep hq4; have ⟨ck4, zk4, fk4⟩ := hwk)
                | (go_simp; go_at_call 138; have hal : Below w4.heap.size w4 (w4.alloc (.cells #[.int .i64 k.kind, .int .i64 k.n, .string k.text, .slice a4 r.fields.length c4] 71)) := belA belR; have hp6 := Part.below (Part.below HP.out hq4) hal; have hu6 := Fresh.below hfi hal; have hk6 := heap_alloc_new w4 (.cells #[.int .i64 k.kind, .int .i64 k.n, .string k.text, .slice a4 r.fields.length c4] 71); have hn6 := hno.out w4.heap.size (.inr (by have := hsz4; omega)); have hs6 : wx.heap.size ≤ (w4.alloc (.cells #[.int .i64 k.kind, .int .i64 k.n, .string k.text, .slice a4 r.fields.length c4] 71)).heap.size := Nat.le_trans hsz4 hal.size; have hB6 : w.heap.size + 4 ≤ w2.heap.size := (by omega); have hm6 : w2.heap.size ≤ wx.heap.size := (by omega); have hl6 : s.items.length ≤ 1100000 := (by omega); refine (insertGItem _ s.items ⟨k, r⟩ [.int .i64 k.kind, .int .i64 k.n, .string k.text, .slice a4 r.fields.length c4] w4.heap.size a (w.heap.size + 4) w2.heap.size wx.heap.size _ _ hp6 hu6 hB6 hm6 hs6 hl6 ha hk6 hn6).mono ?_; rintro e w6 ⟨ao6, cap6, rfl, hf6, hc6, hv6⟩; have hc7 := (Chg.of_below hal (Nat.le_refl _)).trans hc6; have hwo6 := hwo.chg hc7 (hno.out _ (.inr (by omega))); have ⟨co6, zo6, fo6⟩ := hwo6))
              all_goals
                have HF6 := Lib.hid hf6
                have HX6 := Lib.hid ((HX.out.keep hq4).chg hc7 (hno.out _ (.inl (by omega))))
                have HK6 := Lib.hid ((HK.out.keep hq4).chg hc7 (hno.out _ (.inl (by omega))))
                have HT6 := Lib.hid ((HT.out.keep hq4).chg hc7 (hno.out _ (.inl (by omega))))
                have HO6 := Lib.hid hwo6
                have HB6 : Hid (Below w.heap.size w w6) := Lib.hid ((HB.out.trans (hq4.mono HB.out.size)).trans (hc7.below (fun b hm => by have := hlt.out b (by simpa using hm); omega) (by omega)))
                go_wp2_with fail
                go_meet
                exact ⟨_, HX6.out.setOther (by omega), HK6.out.setOther (by omega), HT6.out.setOther (by omega), HO6.out.setAt (by simp) rfl, HF6.out.set (by omega), by have y := HB6.out; exact bEb⟩
            case rest =>
              clear c_HX z_HX f_HX c_HK z_HK f_HK c_HR z_HR f_HR c_HO z_HO f_HO
              clear HX HK HR HT HO HF HB HP
              obtain ⟨v6, hx, hk8, ht, ho, hf, hb⟩ := hcut
              have HX := Lib.hid hx
              have HK := Lib.hid hk8
              have HT := Lib.hid ht
              have HO := Lib.hid ho
              have HF := Lib.hid hf
              have HB := Lib.hid hb
              clear hx hk8 ht ho hf hb
              have ⟨c_HX, z_HX, f_HX⟩ := HX.out
              have ⟨c_HK, z_HK, f_HK⟩ := HK.out
              have ⟨c_HO, z_HO, f_HO⟩ := HO.out
              have hcase : (k.kind == 1) = false ∨ ((k.kind == 1) = true ∧ (¬ s.auto < k.n ∨ (s.auto < k.n ∧ (¬ k.n ≤ 1000000 ∨ k.n ≤ 1000000)))) := by
                cases c1 : (k.kind == 1)
                · exact .inl rfl
                · refine .inr ⟨rfl, ?_⟩
                  by_cases c2 : s.auto < k.n
                  · exact .inr ⟨c2, (Classical.em _).symm⟩
                  · exact .inl c2
              rcases hcase with c1 | ⟨c1, c2 | ⟨c2, c3 | c3⟩⟩
              all_goals
                go_upto_region 13 with fail
                refine settle (fun W => ∃ v5, WB W w.heap.size #[.string s.name, .slice q_a1 s.items.length q_c1, .int .i64 s.auto] ∧ WB W (w.heap.size + 3) #[.string ⟨#[]⟩, .slice none 0 0, .int .i64 0] ∧ WB W w2.heap.size #[.string s.name, v5, .int .i64 (putOut s k r).auto] ∧ Fresh (Rep.slice 71 DItem.rep) (w.heap.size + 4) W [v5] (putOut s k r).items ∧ Below w.heap.size w W) ?hE ?_
                case hE => exact ⟨_, by first | exact HX.out | exact HX.out.setOther (by omega), by first | exact HT.out | exact HT.out.setOther (by omega), by rw [HE2.out]; show WB _ _ #[_, _, .int .i64 (autoOf s.auto k)]; first | (rw [(auto_yes c1).trans (if_pos ⟨c2, c3⟩)]; exact HO.out.setAt (by simp) rfl) | (rw [(auto_yes c1).trans (if_neg (fun h => c3 h.2))]; exact HO.out) | (rw [(auto_yes c1).trans (if_neg (fun h => c2 h.1))]; exact HO.out) | (rw [auto_no c1]; exact HO.out), by rw [HE2.out]; first | exact HF.out.fresh | exact (HF.out.set (by omega)).fresh, by have y := HB.out; exact bEb⟩
                clear c_HX z_HX f_HX c_HK z_HK f_HK c_HO z_HO f_HO
                clear HX HK HT HO HF HB HE2 hlt hno
                rintro w5 ⟨v5, hx, ht, ho, hf, hb⟩
                obtain ⟨ao5, cap5, rfl⟩ := hf.slice
                have HX5 := Lib.hid hx
                have HT5 := Lib.hid ht
                have HO5 := Lib.hid ho
                have HF5 := Lib.hid hf
                have HB5 := Lib.hid hb
                clear hx ht ho hf hb
                have HRd : Hid (Reads DStore.rep w5 [.string s.name, .slice ao5 (putOut s k r).items.length cap5, .int .i64 (putOut s k r).auto] (putOut s k r)) := Lib.hid (putOut_fmk HF5.out q_s0).reads
                have ⟨c_HO5, z_HO5, f_HO5⟩ := HO5.out
                go_wp2_with fail
                refine (implIsStore _ (putOut s k r) _ HRd.out).mono ?_
                rintro e w6 ⟨rfl, hb6⟩
                have hbx : Below w.heap.size w w6 := HB5.out.trans (hb6.mono HB5.out.size)
                have HXy := Lib.hid (HX5.out.keep hb6)
                have HTy := Lib.hid (HT5.out.keep hb6)
                have HOy := Lib.hid (HO5.out.keep hb6)
                have HFy := Lib.hid (HF5.out.below hb6)
                clear c_HO5 z_HO5 f_HO5
                clear hb6 HX5 HT5 HO5 HF5 HB5 HRd
                have ⟨c_HXy, z_HXy, f_HXy⟩ := HXy.out
                have ⟨c_HTy, z_HTy, f_HTy⟩ := HTy.out
                have ⟨c_HOy, z_HOy, f_HOy⟩ := HOy.out
                cases a2 : isStoreF (putOut s k r)
                · have hB : Hid (putItemB s k r = false) := Lib.hid (by rw [putItemB, a2, Bool.and_false, Bool.and_false])
                  go_wp2_with fail
                  refine (implCopyStore _ s _ (HS.out.below hbx) hs).mono ?_
                  rintro e w7 ⟨ds, rfl, hf7, hb7⟩
                  obtain ⟨ao7, cap7, rfl, hfw7, _⟩ := DStore.fopen hf7
                  have HF7 := Lib.hid hfw7
                  have HB7 := Lib.hid (hbx.trans (hb7.mono hbx.size))
                  have ⟨cr7, zr7, fr7⟩ := HTy.out.keep hb7
                  have hz7 := hbx.size
                  clear hf7 hfw7 hb7
                  go_wp2
                  refine bodyPost_ret (v := .tuple #[.agg #[.string s.name, .slice ao7 s.items.length cap7, .int .i64 s.auto], .bool false]) (by simp [results, Tryz.results96, go_sem, cr7]) rfl ⟨_, by rw [hB.out], ?_, ?_⟩
                  · have e : putItemF s k r = s := by rw [putItemF, hB.out]; rfl
                    rw [e]
                    exact DStore.fmk (Fresh.mono (B := w6.heap.size) (by repeat (first | exact HF7.out | refine Fresh.setLow ?_ (by omega) | refine Fresh.drew ?_)) (by omega)) q_s0
                  · have y := HB7.out
                    exact bEb
                · have hB : Hid (putItemB s k r = true) := Lib.hid (by rw [putItemB, a0.out, a1.out, a2]; rfl)
                  go_wp2
                  refine bodyPost_ret (v := .tuple #[.agg #[.string s.name, .slice ao5 (putOut s k r).items.length cap5, .int .i64 (putOut s k r).auto], .bool true]) (by simp [results, Tryz.results96, go_sem, c_HTy]) rfl ⟨_, by rw [hB.out], ?_, ?_⟩
                  · have e : putItemF s k r = putOut s k r := by rw [putItemF, hB.out]; rfl
                    rw [e]
                    exact putOut_fmk (Fresh.mono (B := (w.heap.size + 4)) (by repeat (first | exact HFy.out | refine Fresh.setLow ?_ (by omega) | refine Fresh.drew ?_)) (by omega)) q_s0
                  · exact bEb
        · obtain ⟨b, off, cs_b, rfl, hw_b, hr_b, hcell_b⟩ := slice_at HF.out.reads a hlt'
          obtain ⟨fe_b, hrd_b⟩ := hr_b
          have HR_b : Hid (Reads DItem.rep wr cs_b s.items[a]) := ⟨_, hrd_b⟩
          obtain ⟨b_v1, b_f1, rfl, _, b_s0, b_r1⟩ := DItem.rd.1 hrd_b
          obtain ⟨b_a1, b_k1, rfl, _⟩ := slice_open b_r1
          have b_R1 : Hid (Reads (Rep.slice 112 DField.rep) wr [.slice b_a1 s.items[a].record.fields.length b_k1] s.items[a].record.fields) := ⟨_, b_r1⟩
          clear b_r1
          clear hrd_b
          have b_c0 : wr.cell? ⟨b, off + a * 4, none⟩ = some (.int .i64 s.items[a].key.kind) := hcell_b 0 (by decide)
          have b_c1 : wr.cell? ⟨b, off + a * 4 + 1, none⟩ = some (.int .i64 s.items[a].key.n) := hcell_b 1 (by decide)
          have b_c2 : wr.cell? ⟨b, off + a * 4 + 2, none⟩ = some (.string s.items[a].key.text) := hcell_b 2 (by decide)
          have b_c3 : wr.cell? ⟨b, off + a * 4 + 3, none⟩ = some (.slice b_a1 s.items[a].record.fields.length b_k1) := hcell_b 3 (by decide)
          clear hcell_b
          clear HR_b b_R1
          have i2 : (a : Int) < (s.items.length : Int) := by omega
          have n5 : decide (cmpKeysF s.items[a].key k < 0) = true := hle
          have HKj : Hid (∀ W, Reads DKey.rep W [.int .i64 s.items[a].key.kind, .int .i64 s.items[a].key.n, .string s.items[a].key.text] s.items[a].key) := Lib.hid fun W => ⟨[], DKey.rd.2 ⟨rfl, rfl, b_s0⟩⟩
          have n6 : decide (a < s.items.length) = true := decide_eq_true hlt'
          go_wp2_with fail
          have K0 := rg_var HO.out
          have K1 := rg_var HK.out
          have C3 := rg_cell b_c0
          have C4 := rg_cell b_c1
          have C5 := rg_cell b_c2
          refine wp_region_rg (by kernel_rfl) (by kernel_rfl) ?_
          repeat (go_big_quiet_step ((go_at_call 110; exact calls_rg (implCompareKeys _ _ s.items[a].key k _ (HKj.out _) (HKr.out _)))))
          refine wpQuiet_nil ?_
          rintro _ ⟨pq, rfl⟩
          clear K0 K1 C3 C4 C5 n5 HKj
          have hb := rg_below wr pq
          go_wp2
          go_light
          exact ⟨⟨a + 1, by omega, by go_num, Lib.hid (by
            intro j hj hjk
            by_cases e : j = a
            · subst e; exact hle
            · exact HA.out j hj (by omega)), HQ.out.trans (hb.mono hsr)⟩, by simp [intOf]; omega⟩
    · have HE2 := Lib.hid (putOut_some r hi he)
      rw [he]
      clear he hall hp
      obtain ⟨g0, vc, hv, hg2, hfz, hex⟩ := owned_at HF.out i hi
      simp only [Value.slice.injEq] at hv
      obtain ⟨rfl, hq0, rfl⟩ := hv
      clear hq0
      obtain ⟨u3, e3⟩ := hex 3 (by decide)
      have e3 : w3.cell? ⟨g0, i * 4 + 3, none⟩ = some u3 := e3
      clear hex
      have hgl := hlt.out g0 (by simp [Value.ownBlock])
      have i1 : (0 : Int) ≤ (i : Int) := by omega
      have i2 : (i : Int) < (s.items.length : Int) := by omega
      have HSx : Hid (∀ w', Chg [g0] w3 w' → (∀ o, w'.cell? ⟨w2.heap.size, o, none⟩ = #[.string s.name, .slice (some ⟨g0, 0, none⟩) s.items.length cap, .int .i64 s.auto][o]?) ∧ (∀ o, w'.cell? ⟨w.heap.size + 2, o, none⟩ = #[.slice r_a1 r.fields.length r_c1][o]?) ∧ Chg [g0] w3 w') := Lib.hid fun w' hw' => ⟨(HO.out.chg hw' (by simp; omega)).cell, (HR.out.chg hw' (by simp; omega)).cell, hw'⟩
      have ⟨c_HO, z_HO, f_HO⟩ := HO.out
      have ⟨c_HR, z_HR, f_HR⟩ := HR.out
      go_wp2_with fail
      go_region_held3 (fun w' => (∀ o, w'.cell? ⟨w2.heap.size, o, none⟩ = #[.string s.name, .slice (some ⟨g0, 0, none⟩) s.items.length cap, .int .i64 s.auto][o]?) ∧ (∀ o, w'.cell? ⟨w.heap.size + 2, o, none⟩ = #[.slice r_a1 r.fields.length r_c1][o]?) ∧ Chg [g0] w3 w')
        (first | exact HSx.out _ (chgD Chg.refl) | exact HSx.out _ hc4 | exact HSx.out _ (Chg.set (by simp) hc4))
        (first | (go_at_call 135; refine (implCopyRecord _ r _ (HRr.out.below (by have y := HB.out; exact bEb)) hr).mono ?_; rintro e w4 ⟨ds, rfl, hf4, hb4⟩; obtain ⟨a4, c4, rfl⟩ := DRecord.fshape hf4; have hq4 : Below w3.heap.size w3 w4 := (Below.trans bEb (hb4.mono bSz)); have hc4 : Chg [g0] w3 w4 := Chg.of_below hq4 (Nat.le_refl _); have e4' := (hq4.cell (p := ⟨g0, i * 4 + 3, none⟩) hg2).trans e3; have f4' : ∀ j, w4.frozen? ⟨g0, j, none⟩ = false := (fun j => (hq4.frozen (p := ⟨g0, j, none⟩) hg2).trans (hfz j))))
      all_goals
        have hset := items_set (Part.below HP.out hq4) i hi (hf4.mono (B' := w2.heap.size) (by first | omega | (simp; omega))) (by omega)
        have HF5 := Lib.hid hset
        have HX5 := Lib.hid ((HX.out.keep hq4).setOther (g := g0) (o := i * 4 + 3) (u := .slice a4 r.fields.length c4) (by omega))
        have HT5 := Lib.hid ((HT.out.keep hq4).setOther (g := g0) (o := i * 4 + 3) (u := .slice a4 r.fields.length c4) (by omega))
        have HO5 := Lib.hid ((HO.out.keep hq4).setOther (g := g0) (o := i * 4 + 3) (u := .slice a4 r.fields.length c4) (by omega))
        have HB5 : Hid (Below w.heap.size w w4) := Lib.hid (HB.out.trans (hq4.mono HB.out.size))
        clear hset hf4 hq4 hc4 hb4 e4' f4' hfz e3 HSx
        clear c_HO z_HO f_HO c_HR z_HR f_HR
        clear HX HK HR HT HO HF HB HP
        refine settleP (fun W => ∃ v5, WB W w.heap.size #[.string s.name, .slice q_a1 s.items.length q_c1, .int .i64 s.auto] ∧ WB W (w.heap.size + 3) #[.string ⟨#[]⟩, .slice none 0 0, .int .i64 0] ∧ WB W w2.heap.size #[.string s.name, v5, .int .i64 (putOut s k r).auto] ∧ Fresh (Rep.slice 71 DItem.rep) (w.heap.size + 4) W [v5] (putOut s k r).items ∧ Below w.heap.size w W) ?hE ?_
        case hE => exact ⟨_, HX5.out, HT5.out, by rw [HE2.out]; exact HO5.out, by rw [HE2.out]; exact HF5.out, by have y := HB5.out; exact bEb⟩
        clear HX5 HT5 HO5 HF5 HB5 HE2 hlt hno
        rintro w5 ⟨v5, hx, ht, ho, hf, hb⟩
        obtain ⟨ao5, cap5, rfl⟩ := hf.slice
        have HX5 := Lib.hid hx
        have HT5 := Lib.hid ht
        have HO5 := Lib.hid ho
        have HF5 := Lib.hid hf
        have HB5 := Lib.hid hb
        clear hx ht ho hf hb
        have HRd : Hid (Reads DStore.rep w5 [.string s.name, .slice ao5 (putOut s k r).items.length cap5, .int .i64 (putOut s k r).auto] (putOut s k r)) := Lib.hid (putOut_fmk HF5.out q_s0).reads
        have ⟨c_HO5, z_HO5, f_HO5⟩ := HO5.out
        go_wp2_with fail
        refine (implIsStore _ (putOut s k r) _ HRd.out).mono ?_
        rintro e w6 ⟨rfl, hb6⟩
        have hbx : Below w.heap.size w w6 := HB5.out.trans (hb6.mono HB5.out.size)
        have HXy := Lib.hid (HX5.out.keep hb6)
        have HTy := Lib.hid (HT5.out.keep hb6)
        have HOy := Lib.hid (HO5.out.keep hb6)
        have HFy := Lib.hid (HF5.out.below hb6)
        clear c_HO5 z_HO5 f_HO5
        clear hb6 HX5 HT5 HO5 HF5 HB5 HRd
        have ⟨c_HXy, z_HXy, f_HXy⟩ := HXy.out
        have ⟨c_HTy, z_HTy, f_HTy⟩ := HTy.out
        have ⟨c_HOy, z_HOy, f_HOy⟩ := HOy.out
        cases a2 : isStoreF (putOut s k r)
        · have hB : Hid (putItemB s k r = false) := Lib.hid (by rw [putItemB, a2, Bool.and_false, Bool.and_false])
          go_wp2_with fail
          refine (implCopyStore _ s _ (HS.out.below hbx) hs).mono ?_
          rintro e w7 ⟨ds, rfl, hf7, hb7⟩
          obtain ⟨ao7, cap7, rfl, hfw7, _⟩ := DStore.fopen hf7
          have HF7 := Lib.hid hfw7
          have HB7 := Lib.hid (hbx.trans (hb7.mono hbx.size))
          have ⟨cr7, zr7, fr7⟩ := HTy.out.keep hb7
          have hz7 := hbx.size
          clear hf7 hfw7 hb7
          go_wp2
          refine bodyPost_ret (v := .tuple #[.agg #[.string s.name, .slice ao7 s.items.length cap7, .int .i64 s.auto], .bool false]) (by simp [results, Tryz.results96, go_sem, cr7]) rfl ⟨_, by rw [hB.out], ?_, ?_⟩
          · have e : putItemF s k r = s := by rw [putItemF, hB.out]; rfl
            rw [e]
            exact DStore.fmk (Fresh.mono (B := w6.heap.size) (by repeat (first | exact HF7.out | refine Fresh.setLow ?_ (by omega) | refine Fresh.drew ?_)) (by omega)) q_s0
          · have y := HB7.out
            exact bEb
        · have hB : Hid (putItemB s k r = true) := Lib.hid (by rw [putItemB, a0.out, a1.out, a2]; rfl)
          go_wp2
          refine bodyPost_ret (v := .tuple #[.agg #[.string s.name, .slice ao5 (putOut s k r).items.length cap5, .int .i64 (putOut s k r).auto], .bool true]) (by simp [results, Tryz.results96, go_sem, c_HTy]) rfl ⟨_, by rw [hB.out], ?_, ?_⟩
          · have e : putItemF s k r = putOut s k r := by rw [putItemF, hB.out]; rfl
            rw [e]
            exact putOut_fmk (Fresh.mono (B := (w.heap.size + 4)) (by repeat (first | exact HFy.out | refine Fresh.setLow ?_ (by omega) | refine Fresh.drew ?_)) (by omega)) q_s0
          · exact bEb

end Go.Proofs.YtlfebehpmefioaaGreat
