/-
  fieldAt, FindItem.
-/
import Derived.Test.YtgicglmcapnogaaGreatFuncsFam
import Derived.Test.YtgicglmcapnogaaGreatPlain2
namespace Go.Proofs.YtgicglmcapnogaaGreat
open Go.RowKit

theorem namePred (name : ByteArray) (B k : Nat) (w : World) (hk : k < B) (hc : w.cell? ⟨k, 0, none⟩ = some (.string name)) : PredOn Tryz.prog DField.rep 141 #[.pointer (some ⟨k, 0, none⟩)] (namedAs name) B w := by
  intro W cs x hb hr
  obtain ⟨fp, hr⟩ := hr
  obtain ⟨rfl, _, _⟩ := DField.rd.1 hr
  have hc' := (hb.cell (p := ⟨k, 0, none⟩) hk).trans hc
  have hkW := block_lt_of_cell hc'
  clear hr hb hc
  change Calls Tryz.prog 141 #[.agg #[.string x.name, .int .i64 x.n], .pointer (some ⟨k, 0, none⟩)] W _
  go_enter Tryz.func141, Tryz.ntmps141
  go_wp2
  go_ret
  exact ⟨rfl, (by repeat (first | with_reducible exact belR | with_reducible apply belA | (with_reducible refine belS ?_ ?_; focus (first | omega | (simp; done) | (simp; omega))) | with_reducible apply belN | with_reducible apply belD | with_reducible assumption))⟩

set_option maxHeartbeats 800000 in
theorem implFieldAt (cs : List Value) (x : DRecord) (name : ByteArray) (w : World) (h : Reads DRecord.rep w cs x) :
    Calls Tryz.prog 130 #[.agg cs.toArray, .string name] w fun e w' => e = .returned (.int .i64 (idxF (namedAs name) x.fields)) ∧ Below w.heap.size w w' := by
  obtain ⟨fp_q, h⟩ := h
  obtain ⟨q_v1, q_f1, rfl, _, q_r1⟩ := DRecord.rd.1 h
  obtain ⟨q_a1, q_c1, rfl, q_hm1, q_lc1, q_hu1⟩ := slice_open q_r1; clear q_hu1
  have q_K1 : Hid (Reads (Rep.slice 156 DField.rep) w [.slice q_a1 x.fields.length q_c1] x.fields) := ⟨_, q_r1⟩
  clear q_r1 h
  go_enter Tryz.func130, Tryz.ntmps130
  go_wp2_with fail
  refine (indexFuncField _ _ (namedAs name) (w.heap.size + 2) _ _ _ (enters_at Tryz.func141 (by kernel_rfl) rfl) (q_K1.out.below (by repeat (first | with_reducible exact belR | with_reducible apply belA | (with_reducible refine belS ?_ ?_; focus (first | omega | (simp; done) | (simp; omega))) | with_reducible apply belN | with_reducible apply belD | with_reducible assumption))) (namePred name _ _ _ (by omega) ((WB.at (by simp)).cell 0)) (by simp)).mono ?_
  rintro e w1 ⟨rfl, hb⟩
  have HB := Lib.hid (Below.trans (by repeat (first | with_reducible exact belR | with_reducible apply belA | (with_reducible refine belS ?_ ?_; focus (first | omega | (simp; done) | (simp; omega))) | with_reducible apply belN | with_reducible apply belD | with_reducible assumption)) (hb.mono (by first | omega | (simp; done) | (simp; omega))) : Below w.heap.size w w1)
  clear hb
  go_wp2
  go_ret
  exact ⟨rfl, HB.out⟩

theorem keyPred (y : DKey) (B k : Nat) (w : World) (hk : k < B) (hc : WB w k #[.int .i64 y.kind, .int .i64 y.n, .string y.text]) : PredOn Tryz.prog DItem.rep 129 #[.pointer (some ⟨k, 0, none⟩)] (keyIs y) B w := by
  intro W cs x hb hr
  obtain ⟨fp, hr⟩ := hr
  obtain ⟨q_a1, q_c1, rfl⟩ := DItem.shape hr
  have HC := Lib.hid (hc.grow hb hk)
  clear hb hc hr
  have heq := fun W : World => equalInKey x.key y W
  change Calls Tryz.prog 129 #[.agg #[.int .i64 x.key.kind, .int .i64 x.key.n, .string x.key.text, .slice q_a1 x.record.fields.length q_c1], .pointer (some ⟨k, 0, none⟩)] W _
  have ⟨c_HC, z_HC, f_HC⟩ := HC.out
  go_enter Tryz.func129, Tryz.ntmps129
  go_wp2
  go_ret
  exact ⟨rfl, (by repeat (first | with_reducible exact belR | with_reducible apply belA | (with_reducible refine belS ?_ ?_; focus (first | omega | (simp; done) | (simp; omega))) | with_reducible apply belN | with_reducible apply belD | with_reducible assumption))⟩

set_option maxHeartbeats 800000 in
theorem implFindItem (cs ck : List Value) (x : DStore) (y : DKey) (w : World) (h : Reads DStore.rep w cs x) (h' : Reads DKey.rep w ck y) :
    Calls Tryz.prog 107 #[.agg cs.toArray, .agg ck.toArray] w fun e w' => e = .returned (.int .i64 (idxF (keyIs y) x.items)) ∧ Below w.heap.size w w' := by
  obtain ⟨fp_q, h⟩ := h
  obtain ⟨q_v1, q_f1, rfl, _, q_s0, q_r1⟩ := DStore.rd.1 h
  obtain ⟨q_a1, q_c1, rfl, q_hm1, q_lc1, q_hu1⟩ := slice_open q_r1; clear q_hu1
  have q_K1 : Hid (Reads (Rep.slice 134 DItem.rep) w [.slice q_a1 x.items.length q_c1] x.items) := ⟨_, q_r1⟩
  clear q_r1 h
  obtain ⟨fk, hk⟩ := h'
  obtain ⟨rfl, _, hkt⟩ := DKey.rd.1 hk
  clear hk
  go_enter Tryz.func107, Tryz.ntmps107
  go_wp2_with fail
  refine (indexFuncItem _ _ (keyIs y) (w.heap.size + 2) _ _ _ (enters_at Tryz.func129 (by kernel_rfl) rfl) (q_K1.out.below (by repeat (first | with_reducible exact belR | with_reducible apply belA | (with_reducible refine belS ?_ ?_; focus (first | omega | (simp; done) | (simp; omega))) | with_reducible apply belN | with_reducible apply belD | with_reducible assumption))) (keyPred y _ _ _ (by omega) (WB.at (by simp))) (by simp)).mono ?_
  rintro e w1 ⟨rfl, hb⟩
  have HB := Lib.hid (Below.trans (by repeat (first | with_reducible exact belR | with_reducible apply belA | (with_reducible refine belS ?_ ?_; focus (first | omega | (simp; done) | (simp; omega))) | with_reducible apply belN | with_reducible apply belD | with_reducible assumption)) (hb.mono (by first | omega | (simp; done) | (simp; omega))) : Below w.heap.size w w1)
  clear hb
  go_wp2
  go_ret
  exact ⟨rfl, HB.out⟩

theorem find_none {s : DStore} {k : DKey} (h : idxF (keyIs k) s.items = -1) : s.items.findIdx? (keyIs k) = none := by
  unfold idxF at h
  split at h
  · omega
  · assumption
theorem find_some {s : DStore} {k : DKey} {i : Nat} (h : idxF (keyIs k) s.items = (i : Int)) : s.items.findIdx? (keyIs k) = some i := by
  unfold idxF at h
  split at h
  · rename_i j hj
    rw [hj]; congr 1; omega
  · omega

set_option maxRecDepth 100000 in
set_option maxHeartbeats 1600000 in
theorem specFindItem (cs ck : List Value) (x : DStore) (y : DKey) (w : World) (h : Reads DStore.rep w cs x) (h' : Reads DKey.rep w ck y) :
    Calls Tryz.prog 96 #[.agg cs.toArray, .agg ck.toArray] w fun e w' => e = .returned (.int .i64 (idxF (keyIs y) x.items)) ∧ Below w.heap.size w w' := by
  obtain ⟨fp_q, h⟩ := h
  obtain ⟨q_v1, q_f1, rfl, _, q_s0, q_r1⟩ := DStore.rd.1 h
  obtain ⟨q_a1, q_c1, rfl, q_hm1, q_lc1, q_hu1⟩ := slice_open q_r1; clear q_hu1
  have q_K1 : Hid (Reads (Rep.slice 134 DItem.rep) w [.slice q_a1 x.items.length q_c1] x.items) := ⟨_, q_r1⟩
  clear q_r1 h
  obtain ⟨fk, hk⟩ := h'
  obtain ⟨rfl, _, hkt⟩ := DKey.rd.1 hk
  clear hk
  go_enter Tryz.func96, Tryz.ntmps96
  go_wp2
  go_loopw [5] (fun i wr => ∃ k : Nat, k ≤ x.items.length ∧ i = .int .i64 k ∧ Hid (∀ j, (hj : j < x.items.length) → j < k → keyIs y x.items[j] = false) ∧ WB wr w.heap.size #[.string x.name, .slice q_a1 x.items.length q_c1, .int .i64 x.auto] ∧ WB wr (w.heap.size + 1) #[.int .i64 y.kind, .int .i64 y.n, .string y.text] ∧ Below w.heap.size w wr) (fun i _ => x.items.length - (intOf i).toNat)
  case atStart => exact ⟨0, by omega, rfl, Lib.hid (by intro j hj h; omega), (WB.at rfl).growA, WB.at (by simp), (by repeat (first | with_reducible exact belR | with_reducible apply belA | (with_reducible refine belS ?_ ?_; focus (first | omega | (simp; done) | (simp; omega))) | with_reducible apply belN | with_reducible apply belD | with_reducible assumption))⟩
  case round =>
    obtain ⟨k, hk, rfl, HA, hx, hy, hb⟩ := hrel
    have HB := Lib.hid hb
    have HX := Lib.hid hx
    have HY := Lib.hid hy
    clear hb hx hy
    have ⟨c_HX, z_HX, f_HX⟩ := HX.out
    by_cases hlt : k < x.items.length
    · obtain ⟨b, off, cs_b, rfl, hw_b, hr_b, hcell_b⟩ := slice_at (q_K1.out.below HB.out) k hlt
      obtain ⟨fe_b, hrd_b⟩ := hr_b
      have HR_b : Hid (Reads DItem.rep wr cs_b x.items[k]) := ⟨_, hrd_b⟩
      obtain ⟨b_v1, b_f1, rfl, _, b_s0, b_r1⟩ := DItem.rd.1 hrd_b
      obtain ⟨b_a1, b_k1, rfl, _⟩ := slice_open b_r1
      have b_R1 : Hid (Reads (Rep.slice 156 DField.rep) wr [.slice b_a1 x.items[k].record.fields.length b_k1] x.items[k].record.fields) := ⟨_, b_r1⟩
      clear b_r1
      clear hrd_b
      have b_c0 : wr.cell? ⟨b, off + k * 4, none⟩ = some (.int .i64 x.items[k].key.kind) := hcell_b 0 (by decide)
      have b_c1 : wr.cell? ⟨b, off + k * 4 + 1, none⟩ = some (.int .i64 x.items[k].key.n) := hcell_b 1 (by decide)
      have b_c2 : wr.cell? ⟨b, off + k * 4 + 2, none⟩ = some (.string x.items[k].key.text) := hcell_b 2 (by decide)
      have b_c3 : wr.cell? ⟨b, off + k * 4 + 3, none⟩ = some (.slice b_a1 x.items[k].record.fields.length b_k1) := hcell_b 3 (by decide)
      clear hcell_b
      clear HR_b b_R1
      have j1 : (0 : Int) ≤ (k : Int) := by omega
      have j3 : (k : Int) < (x.items.length : Int) := by omega
      cases hq : keyIs y x.items[k]
      case' true => have n5 : decide (x.items[k].key = y) = true := hq
      case' false => have n5 : decide (x.items[k].key = y) = false := hq
      all_goals
        have HQ := Lib.hid hq
        clear hq
        go_wp2
        have K0 := rg_var HX.out
        have K1 := rg_var HY.out
        have C3 := rg_cell b_c0
        have C4 := rg_cell b_c1
        have C5 := rg_cell b_c2
        have heq := fun W : World => equalInKey x.items[k].key y W
        refine wp_region_rg (by kernel_rfl) (by kernel_rfl) ?_
        repeat (go_big_quiet_step (fail))
        refine wpQuiet_nil ?_
        rintro _ ⟨pq, rfl⟩
        clear K0 K1 C3 C4 C5 heq n5
        have HB1 := Lib.hid (rg_below wr pq)
      · have HE := Lib.hid (none_snoc hlt HA.out HQ.out)
        go_wp2
        go_light
        exact ⟨⟨k + 1, by omega, by go_num, HE, HX.out.keep HB1.out, HY.out.keep HB1.out, below_call HB.out HB.out.size HB1.out⟩, by simp [intOf]; omega⟩
      · have HE := Lib.hid (idxF_hit hlt HQ.out HA.out)
        go_wp2
        go_ret
        exact ⟨ret_int HE.out.symm, below_call HB.out HB.out.size HB1.out⟩
    · have HE := Lib.hid (idxF_miss (p := keyIs y) (l := x.items) (fun j hj => HA.out j hj (by omega)))
      go_wp2
      go_ret
      exact ⟨ret_int HE.out.symm, HB.out⟩

end Go.Proofs.YtgicglmcapnogaaGreat
