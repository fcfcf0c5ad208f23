/-
  EqualRecords, equalItems, slices.EqualFunc at []Item, EqualStores.
-/
import Derived.Test.YtlfebehpmefioaaGreatEqFam
import Derived.Test.YtlfebehpmefioaaGreatFuncsFam
import Derived.Test.YtlfebehpmefioaaGreatTFam
namespace Go.Proofs.YtlfebehpmefioaaGreat
open Go.RowKit

def equalStoresF (x y : DStore) : Bool := decide (x.name = y.name) && ((x.auto == y.auto) && decide (x.items = y.items))

theorem DItem.eq_dec (x y : DItem) : decide (x = y) = (decide (x.key = y.key) && decide (x.record.fields = y.record.fields)) := by
  obtain ⟨k, ⟨f⟩⟩ := x
  obtain ⟨k', ⟨f'⟩⟩ := y
  simp only [DItem.mk.injEq, DRecord.mk.injEq, Bool.decide_and]

set_option maxHeartbeats 800000 in
theorem implEqualRecords (cs ds : List Value) (x y : DRecord) (w : World) (h : Reads DRecord.rep w cs x) (h' : Reads DRecord.rep w ds y) :
    Calls Tryz.prog 143 #[.agg cs.toArray, .agg ds.toArray] w fun e w' => e = .returned (.bool (decide (x.fields = y.fields))) ∧ Below w.heap.size w w' := by
  obtain ⟨fp_q, h⟩ := h
  obtain ⟨q_v1, q_f1, rfl, _, q_r1⟩ := DRecord.rd.1 h
  obtain ⟨q_a1, q_c1, rfl, q_hm1, q_lc1, q_hu1⟩ := slice_open q_r1; clear q_hu1
  have q_K1 : Hid (Reads (Rep.slice 112 DField.rep) w [.slice q_a1 x.fields.length q_c1] x.fields) := ⟨_, q_r1⟩
  clear q_r1 h
  obtain ⟨fp_r, h'⟩ := h'
  obtain ⟨r_v1, r_f1, rfl, _, r_r1⟩ := DRecord.rd.1 h'
  obtain ⟨r_a1, r_c1, rfl, r_hm1, r_lc1, r_hu1⟩ := slice_open r_r1; clear r_hu1
  have r_K1 : Hid (Reads (Rep.slice 112 DField.rep) w [.slice r_a1 y.fields.length r_c1] y.fields) := ⟨_, r_r1⟩
  clear r_r1 h'
  go_enter Tryz.func143, Tryz.ntmps143
  go_wp2_with fail
  refine (slicesEqualField _ _ x.fields y.fields _ (q_K1.out.below bEl) (r_K1.out.below bEl)).mono ?_
  rintro e w1 ⟨rfl, hb⟩
  have HB := Lib.hid (Below.trans bEl (hb.mono bSz) : Below w.heap.size w w1)
  go_wp2
  go_ret
  exact ⟨rfl, HB.out⟩

set_option maxRecDepth 100000 in
set_option maxHeartbeats 1600000 in
theorem specEqualRecords (cs ds : List Value) (x y : DRecord) (w : World) (h : Reads DRecord.rep w cs x) (h' : Reads DRecord.rep w ds y) :
    Calls Tryz.prog 72 #[.agg cs.toArray, .agg ds.toArray] w fun e w' => e = .returned (.bool (decide (x.fields = y.fields))) ∧ Below w.heap.size w w' := by
  obtain ⟨fp_q, h⟩ := h
  obtain ⟨q_v1, q_f1, rfl, _, q_r1⟩ := DRecord.rd.1 h
  obtain ⟨q_a1, q_c1, rfl, q_hm1, q_lc1, q_hu1⟩ := slice_open q_r1; clear q_hu1
  have q_K1 : Hid (Reads (Rep.slice 112 DField.rep) w [.slice q_a1 x.fields.length q_c1] x.fields) := ⟨_, q_r1⟩
  clear q_r1 h
  obtain ⟨fp_r, h'⟩ := h'
  obtain ⟨r_v1, r_f1, rfl, _, r_r1⟩ := DRecord.rd.1 h'
  obtain ⟨r_a1, r_c1, rfl, r_hm1, r_lc1, r_hu1⟩ := slice_open r_r1; clear r_hu1
  have r_K1 : Hid (Reads (Rep.slice 112 DField.rep) w [.slice r_a1 y.fields.length r_c1] y.fields) := ⟨_, r_r1⟩
  clear r_r1 h'
  have hEQ := equalInField
  by_cases hlen : x.fields.length = y.fields.length
  · have hl0 : ((x.fields.length : Int) != y.fields.length) = false := by simp; omega
    have HL := Lib.hid hlen; clear hlen
    go_enter Tryz.func72, Tryz.ntmps72
    go_wp2
    go_loopw [5] (fun i wr => ∃ k : Nat, k ≤ x.fields.length ∧ i = .int .i64 k ∧ Hid (∀ j, j < k → x.fields[j]? = y.fields[j]?) ∧ WB wr w.heap.size #[.slice q_a1 x.fields.length q_c1] ∧ WB wr (w.heap.size + 1) #[.slice r_a1 y.fields.length r_c1] ∧ Below w.heap.size w wr) (fun i _ => x.fields.length - (intOf i).toNat)
    case atStart => exact ⟨0, by omega, rfl, Lib.hid (by intro j hj; omega), (WB.at rfl).growA, WB.at (by simp), bEl⟩
    case round =>
      obtain ⟨k, hk, rfl, HA, hx, hy, hb⟩ := hrel
      have HB := Lib.hid hb; clear hb
      have HX := Lib.hid hx
      have HY := Lib.hid hy
      have ⟨cx, zx, fx⟩ := hx
      have ⟨cy, zy, fy⟩ := hy
      clear hx hy
      by_cases hlt : k < x.fields.length
      · have hlt' : k < y.fields.length := by have := HL.out; omega
        obtain ⟨b, off, cs_b, rfl, hw_b, hr_b, hcell_b⟩ := slice_at (q_K1.out.below HB.out) k hlt
        obtain ⟨fe_b, hrd_b⟩ := hr_b
        have HR_b : Hid (Reads DField.rep wr cs_b x.fields[k]) := ⟨_, hrd_b⟩
        obtain ⟨rfl, _, b_s0⟩ := DField.rd.1 hrd_b
        clear hrd_b
        have b_c0 : wr.cell? ⟨b, off + k * 2, none⟩ = some (.string x.fields[k].name) := hcell_b 0 (by decide)
        have b_c1 : wr.cell? ⟨b, off + k * 2 + 1, none⟩ = some (.int .i64 x.fields[k].n) := hcell_b 1 (by decide)
        clear hcell_b
        obtain ⟨d, off', cs_d, rfl, hw_d, hr_d, hcell_d⟩ := slice_at (r_K1.out.below HB.out) k hlt'
        obtain ⟨fe_d, hrd_d⟩ := hr_d
        have HR_d : Hid (Reads DField.rep wr cs_d y.fields[k]) := ⟨_, hrd_d⟩
        obtain ⟨rfl, _, d_s0⟩ := DField.rd.1 hrd_d
        clear hrd_d
        have d_c0 : wr.cell? ⟨d, off' + k * 2, none⟩ = some (.string y.fields[k].name) := hcell_d 0 (by decide)
        have d_c1 : wr.cell? ⟨d, off' + k * 2 + 1, none⟩ = some (.int .i64 y.fields[k].n) := hcell_d 1 (by decide)
        clear hcell_d
        have i1 : (0 : Int) ≤ (k : Int) := by omega
        have i2 : (k : Int) < (x.fields.length : Int) := by omega
        have i3 : (k : Int) < (y.fields.length : Int) := by omega
        by_cases he : x.fields[k] = y.fields[k]
        · have hd : decide (x.fields[k] = y.fields[k]) = true := decide_eq_true he
          have HE := Lib.hid he; clear he
          go_wp2
          go_quiet (fail)
          go_wp2
          go_light
          have y := HB.out
          exact ⟨⟨k + 1, by omega, by go_num, Lib.hid (agree_snoc HA.out (by rw [List.getElem?_eq_getElem hlt, List.getElem?_eq_getElem hlt', HE.out])), HX.out.keep (belN belR), HY.out.keep (belN belR), bEl⟩, by simp [intOf]; omega⟩
        · have hd : decide (x.fields[k] = y.fields[k]) = false := decide_eq_false he
          have HE := Lib.hid he; clear he
          go_wp2
          go_quiet (fail)
          go_wp2
          go_ret
          have y' := HB.out
          refine ⟨ret_bool ?_, bEl⟩
          go_light
          symm
          rw [decide_eq_false_iff_not]
          intro e
          exact HE.out (List.getElem_of_eq e hlt)
      · go_wp2
        go_ret
        have y' := HB.out
        refine ⟨ret_bool ?_, bEl⟩
        go_light
        have := agree_all HA.out (by omega) HL.out.symm
        rw [this]; simp
  · have hl0 : ((x.fields.length : Int) != y.fields.length) = true := by simp; omega
    have HL := Lib.hid hlen; clear hlen
    go_enter Tryz.func72, Tryz.ntmps72
    go_wp2
    go_ret
    refine ⟨ret_bool ?_, bEl⟩
    go_light
    symm
    rw [decide_eq_false_iff_not]
    intro e
    exact HL.out (by rw [e])

set_option maxHeartbeats 800000 in
theorem implEqualItems (cs ds : List Value) (x y : DItem) (w : World) (h : Reads DItem.rep w cs x) (h' : Reads DItem.rep w ds y) :
    Calls Tryz.prog 105 #[.agg cs.toArray, .agg ds.toArray] w fun e w' => e = .returned (.bool (decide (x = y))) ∧ Below w.heap.size w w' := by
  obtain ⟨fp_q, h⟩ := h
  obtain ⟨q_v1, q_f1, rfl, _, q_s0, q_r1⟩ := DItem.rd.1 h
  obtain ⟨q_a1, q_c1, rfl, q_hm1, q_lc1, q_hu1⟩ := slice_open q_r1; clear q_hu1
  have q_K1 : Hid (Reads (Rep.slice 112 DField.rep) w [.slice q_a1 x.record.fields.length q_c1] x.record.fields) := ⟨_, q_r1⟩
  clear q_r1 h
  obtain ⟨fp_r, h'⟩ := h'
  obtain ⟨r_v1, r_f1, rfl, _, r_s0, r_r1⟩ := DItem.rd.1 h'
  obtain ⟨r_a1, r_c1, rfl, r_hm1, r_lc1, r_hu1⟩ := slice_open r_r1; clear r_hu1
  have r_K1 : Hid (Reads (Rep.slice 112 DField.rep) w [.slice r_a1 y.record.fields.length r_c1] y.record.fields) := ⟨_, r_r1⟩
  clear r_r1 h'
  have hEQ := equalInKey
  by_cases he : x.key = y.key
  · have hd : decide (x.key = y.key) = true := decide_eq_true he
    have HE := Lib.hid hd
    clear he
    go_enter Tryz.func105, Tryz.ntmps105
    go_wp2_with fail
    refine (implEqualRecords _ _ x.record y.record _ (Reads.below (R := DRecord.rep) q_K1.out bEl) (Reads.below (R := DRecord.rep) r_K1.out bEl)).mono ?_
    rintro e w1 ⟨rfl, hb⟩
    have HB := Lib.hid (Below.trans bEl (hb.mono bSz) : Below w.heap.size w w1)
    go_wp2
    go_ret
    exact ⟨ret_bool (by rw [DItem.eq_dec, HE.out]; rfl), HB.out⟩
  · have hd : decide (x.key = y.key) = false := decide_eq_false he
    have HE := Lib.hid hd
    clear he
    go_enter Tryz.func105, Tryz.ntmps105
    go_wp2
    go_ret
    exact ⟨ret_bool (by rw [DItem.eq_dec, HE.out]; rfl), bEl⟩

set_option maxRecDepth 100000 in
set_option maxHeartbeats 800000 in
theorem equalFuncItem (u v : Value) (l m : List DItem) (w : World) (hu : Reads (Rep.slice 71 DItem.rep) w [u] l) (hv : Reads (Rep.slice 71 DItem.rep) w [v] m) :
    Calls Tryz.prog 104 #[u, v, .func (.func 105) #[] #[]] w fun e w' => e = .returned (.bool (decide (l = m))) ∧ Below w.heap.size w w' := by
  have HU := Lib.hid hu
  have HV := Lib.hid hv
  obtain ⟨_, hu⟩ := hu
  obtain ⟨_, hv⟩ := hv
  obtain ⟨ao, c1, rfl, hm, _, hu⟩ := slice_open hu
  obtain ⟨bo, c2, rfl, hm2, _, hv⟩ := slice_open hv
  clear hu hv
  have eg := enters_at Tryz.func105 (by kernel_rfl) rfl
  unfold Enters at eg
  by_cases hlen : l.length = m.length
  · have hl0 : ((l.length : Int) != m.length) = false := by simp; omega
    have HL := Lib.hid hlen; clear hlen
    go_enter Tryz.func104, Tryz.ntmps104
    go_wp2
    go_loopw [17] (fun i wr => ∃ k : Nat, k ≤ l.length ∧ i = .int .i64 k ∧ Hid (∀ j, j < k → l[j]? = m[j]?) ∧ Below w.heap.size w wr) (fun i _ => l.length - (intOf i).toNat)
    case atStart => exact ⟨0, by omega, rfl, Lib.hid (by intro j hj; omega), bEl⟩
    case round =>
      obtain ⟨k, hk, rfl, HA, hb⟩ := hrel
      have HB := Lib.hid hb; clear hb
      by_cases hlt : k < l.length
      · have hlt' : k < m.length := by have := HL.out; omega
        obtain ⟨b, off, cs_b, rfl, hw_b, hr_b, hcell_b⟩ := slice_at (HU.out.below HB.out) k hlt
        obtain ⟨fe_b, hrd_b⟩ := hr_b
        have HR_b : Hid (Reads DItem.rep wr cs_b l[k]) := ⟨_, hrd_b⟩
        obtain ⟨b_v1, b_f1, rfl, _, b_s0, b_r1⟩ := DItem.rd.1 hrd_b
        obtain ⟨b_a1, b_k1, rfl, _⟩ := slice_open b_r1
        have b_R1 : Hid (Reads (Rep.slice 112 DField.rep) wr [.slice b_a1 l[k].record.fields.length b_k1] l[k].record.fields) := ⟨_, b_r1⟩
        clear b_r1
        clear hrd_b
        have b_c0 : wr.cell? ⟨b, off + k * 4, none⟩ = some (.int .i64 l[k].key.kind) := hcell_b 0 (by decide)
        have b_c1 : wr.cell? ⟨b, off + k * 4 + 1, none⟩ = some (.int .i64 l[k].key.n) := hcell_b 1 (by decide)
        have b_c2 : wr.cell? ⟨b, off + k * 4 + 2, none⟩ = some (.string l[k].key.text) := hcell_b 2 (by decide)
        have b_c3 : wr.cell? ⟨b, off + k * 4 + 3, none⟩ = some (.slice b_a1 l[k].record.fields.length b_k1) := hcell_b 3 (by decide)
        clear hcell_b
        obtain ⟨d, off', cs_d, rfl, hw_d, hr_d, hcell_d⟩ := slice_at (HV.out.below HB.out) k hlt'
        obtain ⟨fe_d, hrd_d⟩ := hr_d
        have HR_d : Hid (Reads DItem.rep wr cs_d m[k]) := ⟨_, hrd_d⟩
        obtain ⟨d_v1, d_f1, rfl, _, d_s0, d_r1⟩ := DItem.rd.1 hrd_d
        obtain ⟨d_a1, d_k1, rfl, _⟩ := slice_open d_r1
        have d_R1 : Hid (Reads (Rep.slice 112 DField.rep) wr [.slice d_a1 m[k].record.fields.length d_k1] m[k].record.fields) := ⟨_, d_r1⟩
        clear d_r1
        clear hrd_d
        have d_c0 : wr.cell? ⟨d, off' + k * 4, none⟩ = some (.int .i64 m[k].key.kind) := hcell_d 0 (by decide)
        have d_c1 : wr.cell? ⟨d, off' + k * 4 + 1, none⟩ = some (.int .i64 m[k].key.n) := hcell_d 1 (by decide)
        have d_c2 : wr.cell? ⟨d, off' + k * 4 + 2, none⟩ = some (.string m[k].key.text) := hcell_d 2 (by decide)
        have d_c3 : wr.cell? ⟨d, off' + k * 4 + 3, none⟩ = some (.slice d_a1 m[k].record.fields.length d_k1) := hcell_d 3 (by decide)
        clear hcell_d
        have i1 : (0 : Int) ≤ (k : Int) := by omega
        have i2 : (k : Int) < (l.length : Int) := by omega
        have i3 : (k : Int) < (m.length : Int) := by omega
        by_cases he : l[k] = m[k]
        · have hd : decide (l[k] = m[k]) = true := decide_eq_true he
          have HD := Lib.hid hd; clear hd
          have HE := Lib.hid he; clear he
          go_wp2_with fail
          refine (implEqualItems _ _ l[k] m[k] _ (HR_b.out.below bEl) (HR_d.out.below bEl)).mono ?_
          rw [HD.out]
          rintro e w1 ⟨rfl, hb⟩
          have y := HB.out
          have yz := HB.out.size
          have HB1 := Lib.hid (Below.trans bEl (hb.mono bSz) : Below w.heap.size w w1)
          clear hb y yz
          go_wp2
          go_light
          exact ⟨⟨k + 1, by omega, by go_num, Lib.hid (agree_snoc HA.out (by rw [List.getElem?_eq_getElem hlt, List.getElem?_eq_getElem hlt', HE.out])), HB1.out⟩, by simp [intOf]; omega⟩
        · have hd : decide (l[k] = m[k]) = false := decide_eq_false he
          have HD := Lib.hid hd; clear hd
          have HE := Lib.hid he; clear he
          go_wp2_with fail
          refine (implEqualItems _ _ l[k] m[k] _ (HR_b.out.below bEl) (HR_d.out.below bEl)).mono ?_
          rw [HD.out]
          rintro e w1 ⟨rfl, hb⟩
          have y := HB.out
          have yz := HB.out.size
          have HB1 := Lib.hid (Below.trans bEl (hb.mono bSz) : Below w.heap.size w w1)
          clear hb y yz
          go_wp2
          go_ret
          refine ⟨ret_bool ?_, HB1.out⟩
          symm
          rw [decide_eq_false_iff_not]
          intro e
          exact HE.out (List.getElem_of_eq e hlt)
      · go_wp2
        go_ret
        refine ⟨ret_bool ?_, HB.out⟩
        have := agree_all HA.out (by omega) HL.out.symm
        rw [this]; simp
  · have hl0 : ((l.length : Int) != m.length) = true := by simp; omega
    have HL := Lib.hid hlen; clear hlen
    go_enter Tryz.func104, Tryz.ntmps104
    go_wp2
    go_ret
    refine ⟨ret_bool ?_, bEl⟩
    symm
    rw [decide_eq_false_iff_not]
    intro e
    exact HL.out (by rw [e])

theorem name_eq (a b : ByteArray) {c : Bool} (h : (a.toList == b.toList) = c) : decide (a = b) = c := by
  rw [← h]
  by_cases e : a = b
  · subst e; simp
  · have : ¬ a.toList = b.toList := fun f => e (bytes_ext f)
    simp [e, this]

set_option maxHeartbeats 800000 in
theorem implEqualStores (cs ds : List Value) (x y : DStore) (w : World) (h : Reads DStore.rep w cs x) (h' : Reads DStore.rep w ds y) :
    Calls Tryz.prog 53 #[.agg cs.toArray, .agg ds.toArray] w fun e w' => e = .returned (.bool (equalStoresF x y)) ∧ Below w.heap.size w w' := by
  obtain ⟨fp_q, h⟩ := h
  obtain ⟨q_v1, q_f1, rfl, _, q_s0, q_r1⟩ := DStore.rd.1 h
  obtain ⟨q_a1, q_c1, rfl, q_hm1, q_lc1, q_hu1⟩ := slice_open q_r1; clear q_hu1
  have q_K1 : Hid (Reads (Rep.slice 71 DItem.rep) w [.slice q_a1 x.items.length q_c1] x.items) := ⟨_, q_r1⟩
  clear q_r1 h
  obtain ⟨fp_r, h'⟩ := h'
  obtain ⟨r_v1, r_f1, rfl, _, r_s0, r_r1⟩ := DStore.rd.1 h'
  obtain ⟨r_a1, r_c1, rfl, r_hm1, r_lc1, r_hu1⟩ := slice_open r_r1; clear r_hu1
  have r_K1 : Hid (Reads (Rep.slice 71 DItem.rep) w [.slice r_a1 y.items.length r_c1] y.items) := ⟨_, r_r1⟩
  clear r_r1 h'
  cases h1 : (x.name.toList == y.name.toList)
  · have H1 := Lib.hid (name_eq x.name y.name h1)
    go_enter Tryz.func53, Tryz.ntmps53
    go_wp2
    go_ret
    exact ⟨ret_bool (by rw [equalStoresF, H1.out]; rfl), bEl⟩
  · have H1 := Lib.hid (name_eq x.name y.name h1)
    cases h2 : (x.auto == y.auto)
    · go_enter Tryz.func53, Tryz.ntmps53
      go_wp2
      go_ret
      exact ⟨ret_bool (by rw [equalStoresF, h2, Bool.false_and, Bool.and_false]), bEl⟩
    · go_enter Tryz.func53, Tryz.ntmps53
      go_wp2_with fail
      refine (equalFuncItem _ _ x.items y.items _ (q_K1.out.below bEl) (r_K1.out.below bEl)).mono ?_
      rintro e w1 ⟨rfl, hb⟩
      have HB := Lib.hid (Below.trans bEl (hb.mono bSz) : Below w.heap.size w w1)
      go_wp2
      go_ret
      exact ⟨ret_bool (by rw [equalStoresF, H1.out, h2]; rfl), HB.out⟩

set_option maxRecDepth 100000 in
set_option maxHeartbeats 1600000 in
theorem specEqualStores (cs ds : List Value) (x y : DStore) (w : World) (h : Reads DStore.rep w cs x) (h' : Reads DStore.rep w ds y) :
    Calls Tryz.prog 30 #[.agg cs.toArray, .agg ds.toArray] w fun e w' => e = .returned (.bool (equalStoresF x y)) ∧ Below w.heap.size w w' := by
  obtain ⟨fp_q, h⟩ := h
  obtain ⟨q_v1, q_f1, rfl, _, q_s0, q_r1⟩ := DStore.rd.1 h
  obtain ⟨q_a1, q_c1, rfl, q_hm1, q_lc1, q_hu1⟩ := slice_open q_r1; clear q_hu1
  have q_K1 : Hid (Reads (Rep.slice 71 DItem.rep) w [.slice q_a1 x.items.length q_c1] x.items) := ⟨_, q_r1⟩
  clear q_r1 h
  obtain ⟨fp_r, h'⟩ := h'
  obtain ⟨r_v1, r_f1, rfl, _, r_s0, r_r1⟩ := DStore.rd.1 h'
  obtain ⟨r_a1, r_c1, rfl, r_hm1, r_lc1, r_hu1⟩ := slice_open r_r1; clear r_hu1
  have r_K1 : Hid (Reads (Rep.slice 71 DItem.rep) w [.slice r_a1 y.items.length r_c1] y.items) := ⟨_, r_r1⟩
  clear r_r1 h'
  have hEQ := equalInKey
  cases h1 : (x.name.toList == y.name.toList)
  · have h1' : (x.name.toList != y.name.toList) = true := by simp only [bne, h1, Bool.not_false]
    have H1 := Lib.hid (name_eq x.name y.name h1)
    go_enter Tryz.func30, Tryz.ntmps30
    go_wp2
    go_ret
    exact ⟨ret_bool (by rw [equalStoresF, H1.out]; rfl), bEl⟩
  have H1 := Lib.hid (name_eq x.name y.name h1)
  cases h2 : (x.auto == y.auto)
  · have h2' : (x.auto != y.auto) = true := by simp only [bne, h2, Bool.not_false]
    go_enter Tryz.func30, Tryz.ntmps30
    go_wp2
    go_ret
    exact ⟨ret_bool (by rw [equalStoresF, h2, Bool.false_and, Bool.and_false]), bEl⟩
  have h2' : (x.auto != y.auto) = false := by simp only [bne, h2, Bool.not_true]
  have H2 := Lib.hid h2; clear h2
  by_cases hlen : x.items.length = y.items.length
  · have hl0 : ((x.items.length : Int) != y.items.length) = false := by simp; omega
    have HL := Lib.hid hlen; clear hlen
    go_enter Tryz.func30, Tryz.ntmps30
    go_wp2
    go_loopw [5] (fun i wr => ∃ k : Nat, k ≤ x.items.length ∧ i = .int .i64 k ∧ Hid (∀ j, j < k → x.items[j]? = y.items[j]?) ∧ WB wr w.heap.size #[.string x.name, .slice q_a1 x.items.length q_c1, .int .i64 x.auto] ∧ WB wr (w.heap.size + 1) #[.string y.name, .slice r_a1 y.items.length r_c1, .int .i64 y.auto] ∧ Below w.heap.size w wr) (fun i _ => x.items.length - (intOf i).toNat)
    case atStart => exact ⟨0, by omega, rfl, Lib.hid (by intro j hj; omega), (WB.at rfl).growA, WB.at (by simp), bEl⟩
    case round =>
      obtain ⟨k, hk, rfl, HA, hx, hy, hb⟩ := hrel
      have HB := Lib.hid hb; clear hb
      have HX := Lib.hid hx
      have HY := Lib.hid hy
      clear hx hy
      have ⟨c_HX, z_HX, f_HX⟩ := HX.out
      have ⟨cy, zy, fy⟩ := HY.out
      by_cases hlt : k < x.items.length
      · have hlt' : k < y.items.length := by have := HL.out; omega
        obtain ⟨b, off, cs_b, rfl, hw_b, hr_b, hcell_b⟩ := slice_at (q_K1.out.below HB.out) k hlt
        obtain ⟨fe_b, hrd_b⟩ := hr_b
        have HR_b : Hid (Reads DItem.rep wr cs_b x.items[k]) := ⟨_, hrd_b⟩
        obtain ⟨b_v1, b_f1, rfl, _, b_s0, b_r1⟩ := DItem.rd.1 hrd_b
        obtain ⟨b_a1, b_k1, rfl, _⟩ := slice_open b_r1
        have b_R1 : Hid (Reads (Rep.slice 112 DField.rep) wr [.slice b_a1 x.items[k].record.fields.length b_k1] x.items[k].record.fields) := ⟨_, b_r1⟩
        clear b_r1
        clear hrd_b
        have b_c0 : wr.cell? ⟨b, off + k * 4, none⟩ = some (.int .i64 x.items[k].key.kind) := hcell_b 0 (by decide)
        have b_c1 : wr.cell? ⟨b, off + k * 4 + 1, none⟩ = some (.int .i64 x.items[k].key.n) := hcell_b 1 (by decide)
        have b_c2 : wr.cell? ⟨b, off + k * 4 + 2, none⟩ = some (.string x.items[k].key.text) := hcell_b 2 (by decide)
        have b_c3 : wr.cell? ⟨b, off + k * 4 + 3, none⟩ = some (.slice b_a1 x.items[k].record.fields.length b_k1) := hcell_b 3 (by decide)
        clear hcell_b
        obtain ⟨d, off', cs_d, rfl, hw_d, hr_d, hcell_d⟩ := slice_at (r_K1.out.below HB.out) k hlt'
        obtain ⟨fe_d, hrd_d⟩ := hr_d
        have HR_d : Hid (Reads DItem.rep wr cs_d y.items[k]) := ⟨_, hrd_d⟩
        obtain ⟨d_v1, d_f1, rfl, _, d_s0, d_r1⟩ := DItem.rd.1 hrd_d
        obtain ⟨d_a1, d_k1, rfl, _⟩ := slice_open d_r1
        have d_R1 : Hid (Reads (Rep.slice 112 DField.rep) wr [.slice d_a1 y.items[k].record.fields.length d_k1] y.items[k].record.fields) := ⟨_, d_r1⟩
        clear d_r1
        clear hrd_d
        have d_c0 : wr.cell? ⟨d, off' + k * 4, none⟩ = some (.int .i64 y.items[k].key.kind) := hcell_d 0 (by decide)
        have d_c1 : wr.cell? ⟨d, off' + k * 4 + 1, none⟩ = some (.int .i64 y.items[k].key.n) := hcell_d 1 (by decide)
        have d_c2 : wr.cell? ⟨d, off' + k * 4 + 2, none⟩ = some (.string y.items[k].key.text) := hcell_d 2 (by decide)
        have d_c3 : wr.cell? ⟨d, off' + k * 4 + 3, none⟩ = some (.slice d_a1 y.items[k].record.fields.length d_k1) := hcell_d 3 (by decide)
        clear hcell_d
        have HRx : Hid (∀ W, Below wr.heap.size wr W → Reads DRecord.rep W [.slice b_a1 x.items[k].record.fields.length b_k1] x.items[k].record) := Lib.hid fun W hW => Reads.below (R := DRecord.rep) b_R1.out hW
        have HRy : Hid (∀ W, Below wr.heap.size wr W → Reads DRecord.rep W [.slice d_a1 y.items[k].record.fields.length d_k1] y.items[k].record) := Lib.hid fun W hW => Reads.below (R := DRecord.rep) d_R1.out hW
        clear HR_b HR_d
        have i1 : (0 : Int) ≤ (k : Int) := by omega
        have i2 : (k : Int) < (x.items.length : Int) := by omega
        have i3 : (k : Int) < (y.items.length : Int) := by omega
        have HI := Lib.hid (DItem.eq_dec x.items[k] y.items[k])
        cases n1 : decide (x.items[k].key = y.items[k].key)
        case' true => cases n2 : decide (x.items[k].record.fields = y.items[k].record.fields)
        all_goals
          go_wp2_with fail
          have K0 := rg_var HX.out
          have K1 := rg_var HY.out
          have C0 := rg_cell b_c0
          have C1 := rg_cell b_c1
          have C2 := rg_cell b_c2
          have C3 := rg_cell b_c3
          have C4 := rg_cell d_c0
          have C5 := rg_cell d_c1
          have C6 := rg_cell d_c2
          have C7 := rg_cell d_c3
          have HQ : Hid (∀ p, Below wr.heap.size wr (rg wr p)) := Lib.hid fun p => rg_below wr p
          refine wp_region_rg (by kernel_rfl) (by kernel_rfl) ?_
          repeat (go_big_quiet_step ((first | (go_at_call 72; exact calls_rg (specEqualRecords _ _ x.items[k].record y.items[k].record _ (HRx.out _ (HQ.out _)) (HRy.out _ (HQ.out _)))))))
          refine wpQuiet_nil ?_
          rintro _ ⟨pq, rfl⟩
          clear K0 K1 C0 C1 C2 C3 C4 C5 C6 C7 HQ
          have HB1 := Lib.hid (rg_below wr pq)
        all_goals
          first
            | (go_wp2
               go_ret
               refine ⟨ret_bool ?_, below_call HB.out HB.out.size HB1.out⟩
               have hne : decide (x.items = y.items) = false := by
                 rw [decide_eq_false_iff_not]
                 intro e
                 have h3 := HI.out
                 rw [decide_eq_true (List.getElem_of_eq e hlt)] at h3
                 first | (rw [n1, Bool.false_and] at h3; simp at h3; done) | (rw [n1, n2] at h3; simp at h3; done)
               rw [equalStoresF, hne, Bool.and_false, Bool.and_false])
            | (have HE : Hid (x.items[k] = y.items[k]) := Lib.hid (by
                 have h3 := HI.out
                 rw [n1, n2] at h3
                 exact of_decide_eq_true h3)
               go_wp2
               go_light
               exact ⟨⟨k + 1, by omega, by go_num, Lib.hid (agree_snoc HA.out (by rw [List.getElem?_eq_getElem hlt, List.getElem?_eq_getElem hlt', HE.out])), HX.out.keep HB1.out, HY.out.keep HB1.out, below_call HB.out HB.out.size HB1.out⟩, by simp [intOf]; omega⟩)
      · go_wp2
        go_ret
        refine ⟨ret_bool ?_, HB.out⟩
        have := agree_all HA.out (by omega) HL.out.symm
        rw [equalStoresF, H1.out, H2.out, this]; simp
  · have hl0 : ((x.items.length : Int) != y.items.length) = true := by simp; omega
    have HL := Lib.hid hlen; clear hlen
    go_enter Tryz.func30, Tryz.ntmps30
    go_wp2
    go_ret
    refine ⟨ret_bool ?_, bEl⟩
    have : decide (x.items = y.items) = false := by
      rw [decide_eq_false_iff_not]
      intro e
      exact HL.out (by rw [e])
    rw [equalStoresF, this, Bool.and_false, Bool.and_false]

end Go.Proofs.YtlfebehpmefioaaGreat
