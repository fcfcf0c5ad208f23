/-
  EqualServers.
-/
import Derived.Test.YtjdoofekohjjlaaEqStores
namespace Go.Proofs.Ytjdoofekohjjlaa
open Go.RowKit

def equalServersF (x y : DServer) : Bool := equalStoresF x.store y.store && (decide (x.applied = y.applied) && decide (x.changes = y.changes))
attribute [local irreducible] equalStoresF

set_option maxHeartbeats 800000 in
theorem implEqualServers (cs ds : List Value) (x y : DServer) (w : World) (h : Reads DServer.rep w cs x) (h' : Reads DServer.rep w ds y) :
    Calls Try.prog 14 #[.agg cs.toArray, .agg ds.toArray] w fun e w' => e = .returned (.bool (equalServersF x y)) ∧ Below w.heap.size w w' := by
  obtain ⟨fp_q, h⟩ := h
  obtain ⟨q_v1, q_v2, q_v3, q_f1, q_f2, q_f3, rfl, _, q_s0, q_r1, q_r2, q_r3⟩ := DServer.rd.1 h
  obtain ⟨q_a1, q_c1, rfl, q_hm1, q_lc1, q_hu1⟩ := slice_open q_r1; clear q_hu1
  have q_K1 : Hid (Reads (Rep.slice 106 DItem.rep) w [.slice q_a1 x.store.items.length q_c1] x.store.items) := ⟨_, q_r1⟩
  obtain ⟨q_a2, q_c2, rfl, q_hm2, q_lc2, q_hu2⟩ := slice_open q_r2; clear q_hu2
  have q_K2 : Hid (Reads (Rep.slice 86 DApplied.rep) w [.slice q_a2 x.applied.length q_c2] x.applied) := ⟨_, q_r2⟩
  obtain ⟨q_a3, q_c3, rfl, q_hm3, q_lc3, q_hu3⟩ := slice_open q_r3; clear q_hu3
  have q_K3 : Hid (Reads (Rep.slice 72 DWrite.rep) w [.slice q_a3 x.changes.length q_c3] x.changes) := ⟨_, q_r3⟩
  clear q_r1 q_r2 q_r3 h
  obtain ⟨fp_r, h'⟩ := h'
  obtain ⟨r_v1, r_v2, r_v3, r_f1, r_f2, r_f3, rfl, _, r_s0, r_r1, r_r2, r_r3⟩ := DServer.rd.1 h'
  obtain ⟨r_a1, r_c1, rfl, r_hm1, r_lc1, r_hu1⟩ := slice_open r_r1; clear r_hu1
  have r_K1 : Hid (Reads (Rep.slice 106 DItem.rep) w [.slice r_a1 y.store.items.length r_c1] y.store.items) := ⟨_, r_r1⟩
  obtain ⟨r_a2, r_c2, rfl, r_hm2, r_lc2, r_hu2⟩ := slice_open r_r2; clear r_hu2
  have r_K2 : Hid (Reads (Rep.slice 86 DApplied.rep) w [.slice r_a2 y.applied.length r_c2] y.applied) := ⟨_, r_r2⟩
  obtain ⟨r_a3, r_c3, rfl, r_hm3, r_lc3, r_hu3⟩ := slice_open r_r3; clear r_hu3
  have r_K3 : Hid (Reads (Rep.slice 72 DWrite.rep) w [.slice r_a3 y.changes.length r_c3] y.changes) := ⟨_, r_r3⟩
  clear r_r1 r_r2 r_r3 h'
  have HR : ∀ W, Below w.heap.size w W → Reads DStore.rep W [.string x.store.name, .slice q_a1 x.store.items.length q_c1, .int .i64 x.store.auto] x.store := fun W hW => by
    obtain ⟨f, hf⟩ := q_K1.out.below hW
    exact ⟨_, DStore.rd.2 ⟨_, _, rfl, rfl, q_s0, hf⟩⟩
  have HS : ∀ W, Below w.heap.size w W → Reads DStore.rep W [.string y.store.name, .slice r_a1 y.store.items.length r_c1, .int .i64 y.store.auto] y.store := fun W hW => by
    obtain ⟨f, hf⟩ := r_K1.out.below hW
    exact ⟨_, DStore.rd.2 ⟨_, _, rfl, rfl, r_s0, hf⟩⟩
  have HR := Lib.hid HR
  have HS := Lib.hid HS
  cases h3 : equalStoresF x.store y.store
  case' true => cases h4 : decide (x.applied = y.applied)
  all_goals
    go_enter Try.func14, Try.ntmps14
    go_wp2_with fail
    refine (implEqualStores _ _ x.store y.store _ (HR.out _ (by repeat (first | with_reducible exact belR | with_reducible apply belA | (with_reducible refine belS ?_ ?_; focus (first | omega | (simp; done) | (simp; omega))) | with_reducible apply belN | with_reducible apply belD | with_reducible assumption))) (HS.out _ (by repeat (first | with_reducible exact belR | with_reducible apply belA | (with_reducible refine belS ?_ ?_; focus (first | omega | (simp; done) | (simp; omega))) | with_reducible apply belN | with_reducible apply belD | with_reducible assumption)))).mono ?_
    rintro e w1 ⟨rfl, hb⟩
    have HX : Hid (WB w1 w.heap.size #[.string x.store.name, .slice q_a1 x.store.items.length q_c1, .int .i64 x.store.auto, .slice q_a2 x.applied.length q_c2, .slice q_a3 x.changes.length q_c3]) := Lib.hid (((WB.at rfl).growA).keep hb)
    have HY : Hid (WB w1 (w.heap.size + 1) #[.string y.store.name, .slice r_a1 y.store.items.length r_c1, .int .i64 y.store.auto, .slice r_a2 y.applied.length r_c2, .slice r_a3 y.changes.length r_c3]) := Lib.hid ((WB.at (by simp)).keep hb)
    have HB := Lib.hid (Below.trans (by repeat (first | with_reducible exact belR | with_reducible apply belA | (with_reducible refine belS ?_ ?_; focus (first | omega | (simp; done) | (simp; omega))) | with_reducible apply belN | with_reducible apply belD | with_reducible assumption)) (hb.mono (by first | omega | (simp; done) | (simp; omega))) : Below w.heap.size w w1)
    clear hb
    rw [h3]
    have ⟨cx, zx, _⟩ := HX.out
    have ⟨cy, zy, _⟩ := HY.out
  rotate_left 2
  · go_wp2
    go_ret
    exact ⟨ret_bool (by rw [equalServersF, h3]; rfl), HB.out⟩
  all_goals
    go_wp2_with fail
    refine (slicesEqualApplied _ _ x.applied y.applied _ (q_K2.out.below HB.out) (r_K2.out.below HB.out)).mono ?_
    rintro e w2 ⟨rfl, hb⟩
    replace HX := Lib.hid (HX.out.keep hb)
    replace HY := Lib.hid (HY.out.keep hb)
    have HB1 := Lib.hid (below_call HB.out HB.out.size hb)
    clear hb
    rw [h4]
    have ⟨cx2, zx2, _⟩ := HX.out
    have ⟨cy2, zy2, _⟩ := HY.out
    clear cx zx cy zy
  · go_wp2
    go_ret
    exact ⟨ret_bool (by rw [equalServersF, h3, h4]; rfl), HB1.out⟩
  · go_wp2_with fail
    refine (slicesEqualWrite _ _ x.changes y.changes _ (q_K3.out.below HB1.out) (r_K3.out.below HB1.out)).mono ?_
    rintro e w3 ⟨rfl, hb⟩
    have HB2 := Lib.hid (below_call HB1.out HB1.out.size hb)
    clear hb
    go_wp2
    go_ret
    exact ⟨ret_bool (by rw [equalServersF, h3, h4]; rfl), HB2.out⟩

set_option maxRecDepth 100000 in
set_option maxHeartbeats 1600000 in
theorem specEqualServers (cs ds : List Value) (x y : DServer) (w : World) (h : Reads DServer.rep w cs x) (h' : Reads DServer.rep w ds y) :
    Calls Try.prog 12 #[.agg cs.toArray, .agg ds.toArray] w fun e w' => e = .returned (.bool (equalServersF x y)) ∧ Below w.heap.size w w' := by
  obtain ⟨fp_q, h⟩ := h
  obtain ⟨q_v1, q_v2, q_v3, q_f1, q_f2, q_f3, rfl, _, q_s0, q_r1, q_r2, q_r3⟩ := DServer.rd.1 h
  obtain ⟨q_a1, q_c1, rfl, q_hm1, q_lc1, q_hu1⟩ := slice_open q_r1; clear q_hu1
  have q_K1 : Hid (Reads (Rep.slice 106 DItem.rep) w [.slice q_a1 x.store.items.length q_c1] x.store.items) := ⟨_, q_r1⟩
  obtain ⟨q_a2, q_c2, rfl, q_hm2, q_lc2, q_hu2⟩ := slice_open q_r2; clear q_hu2
  have q_K2 : Hid (Reads (Rep.slice 86 DApplied.rep) w [.slice q_a2 x.applied.length q_c2] x.applied) := ⟨_, q_r2⟩
  obtain ⟨q_a3, q_c3, rfl, q_hm3, q_lc3, q_hu3⟩ := slice_open q_r3; clear q_hu3
  have q_K3 : Hid (Reads (Rep.slice 72 DWrite.rep) w [.slice q_a3 x.changes.length q_c3] x.changes) := ⟨_, q_r3⟩
  clear q_r1 q_r2 q_r3 h
  obtain ⟨fp_r, h'⟩ := h'
  obtain ⟨r_v1, r_v2, r_v3, r_f1, r_f2, r_f3, rfl, _, r_s0, r_r1, r_r2, r_r3⟩ := DServer.rd.1 h'
  obtain ⟨r_a1, r_c1, rfl, r_hm1, r_lc1, r_hu1⟩ := slice_open r_r1; clear r_hu1
  have r_K1 : Hid (Reads (Rep.slice 106 DItem.rep) w [.slice r_a1 y.store.items.length r_c1] y.store.items) := ⟨_, r_r1⟩
  obtain ⟨r_a2, r_c2, rfl, r_hm2, r_lc2, r_hu2⟩ := slice_open r_r2; clear r_hu2
  have r_K2 : Hid (Reads (Rep.slice 86 DApplied.rep) w [.slice r_a2 y.applied.length r_c2] y.applied) := ⟨_, r_r2⟩
  obtain ⟨r_a3, r_c3, rfl, r_hm3, r_lc3, r_hu3⟩ := slice_open r_r3; clear r_hu3
  have r_K3 : Hid (Reads (Rep.slice 72 DWrite.rep) w [.slice r_a3 y.changes.length r_c3] y.changes) := ⟨_, r_r3⟩
  clear r_r1 r_r2 r_r3 h'
  have HR : ∀ W, Below w.heap.size w W → Reads DStore.rep W [.string x.store.name, .slice q_a1 x.store.items.length q_c1, .int .i64 x.store.auto] x.store := fun W hW => by
    obtain ⟨f, hf⟩ := q_K1.out.below hW
    exact ⟨_, DStore.rd.2 ⟨_, _, rfl, rfl, q_s0, hf⟩⟩
  have HS : ∀ W, Below w.heap.size w W → Reads DStore.rep W [.string y.store.name, .slice r_a1 y.store.items.length r_c1, .int .i64 y.store.auto] y.store := fun W hW => by
    obtain ⟨f, hf⟩ := r_K1.out.below hW
    exact ⟨_, DStore.rd.2 ⟨_, _, rfl, rfl, r_s0, hf⟩⟩
  have HR := Lib.hid HR
  have HS := Lib.hid HS
  have hEQ := equalInApplied
  have hEW := equalInWrite
  have hl0 : ((x.applied.length : Int) != y.applied.length) = !decide (x.applied.length = y.applied.length) := by
    by_cases e : x.applied.length = y.applied.length
    · rw [decide_eq_true e, e]; simp
    · rw [decide_eq_false e]; simp; omega
  have hl1 : ((x.changes.length : Int) != y.changes.length) = !decide (x.changes.length = y.changes.length) := by
    by_cases e : x.changes.length = y.changes.length
    · rw [decide_eq_true e, e]; simp
    · rw [decide_eq_false e]; simp; omega
  cases h3 : equalStoresF x.store y.store
  case' true => cases h4 : decide (x.applied.length = y.applied.length)
  case' true.true => cases h5 : decide (x.changes.length = y.changes.length)
  all_goals
    first | rw [h4] at hl0 | skip
    first | rw [h5] at hl1 | skip
    go_enter Try.func12, Try.ntmps12
    go_wp2_with fail
    refine (specEqualStores _ _ x.store y.store _ (HR.out _ (by repeat (first | with_reducible exact belR | with_reducible apply belA | (with_reducible refine belS ?_ ?_; focus (first | omega | (simp; done) | (simp; omega))) | with_reducible apply belN | with_reducible apply belD | with_reducible assumption))) (HS.out _ (by repeat (first | with_reducible exact belR | with_reducible apply belA | (with_reducible refine belS ?_ ?_; focus (first | omega | (simp; done) | (simp; omega))) | with_reducible apply belN | with_reducible apply belD | with_reducible assumption)))).mono ?_
    rintro e w1 ⟨rfl, hb⟩
    have HX : Hid (WB w1 w.heap.size #[.string x.store.name, .slice q_a1 x.store.items.length q_c1, .int .i64 x.store.auto, .slice q_a2 x.applied.length q_c2, .slice q_a3 x.changes.length q_c3]) := Lib.hid (((WB.at rfl).growA).keep hb)
    have HY : Hid (WB w1 (w.heap.size + 1) #[.string y.store.name, .slice r_a1 y.store.items.length r_c1, .int .i64 y.store.auto, .slice r_a2 y.applied.length r_c2, .slice r_a3 y.changes.length r_c3]) := Lib.hid ((WB.at (by simp)).keep hb)
    have HB := Lib.hid (Below.trans (by repeat (first | with_reducible exact belR | with_reducible apply belA | (with_reducible refine belS ?_ ?_; focus (first | omega | (simp; done) | (simp; omega))) | with_reducible apply belN | with_reducible apply belD | with_reducible assumption)) (hb.mono (by first | omega | (simp; done) | (simp; omega))) : Below w.heap.size w w1)
    clear hb
    rw [h3]
    have ⟨cx, zx, _⟩ := HX.out
    have ⟨cy, zy, _⟩ := HY.out
  · have hne : decide (x.changes = y.changes) = false := by
      rw [decide_eq_false_iff_not]
      intro e
      exact of_decide_eq_false h5 (by rw [e])
    have HN := Lib.hid hne; clear hne
    go_wp2
    go_ret
    exact ⟨ret_bool (by rw [equalServersF, HN.out, Bool.and_false, Bool.and_false]), HB.out⟩
  · have HL := Lib.hid (of_decide_eq_true h4)
    have HM := Lib.hid (of_decide_eq_true h5)
    have H3 := Lib.hid h3
    clear h3 h4 h5 cx zx cy zy
    have ⟨cx, zx, _⟩ := HX.out
    have ⟨cy, zy, _⟩ := HY.out
    go_wp2
    go_loopw [5] (fun i wr => ∃ k : Nat, k ≤ x.applied.length ∧ i = .int .i64 k ∧ Hid (∀ j, j < k → x.applied[j]? = y.applied[j]?) ∧ WB wr w.heap.size #[.string x.store.name, .slice q_a1 x.store.items.length q_c1, .int .i64 x.store.auto, .slice q_a2 x.applied.length q_c2, .slice q_a3 x.changes.length q_c3] ∧ WB wr (w.heap.size + 1) #[.string y.store.name, .slice r_a1 y.store.items.length r_c1, .int .i64 y.store.auto, .slice r_a2 y.applied.length r_c2, .slice r_a3 y.changes.length r_c3] ∧ Below w.heap.size w wr) (fun i _ => x.applied.length - (intOf i).toNat)
    case atStart => exact ⟨0, by omega, rfl, Lib.hid (by intro j hj; omega), HX.out, HY.out, HB.out⟩
    case round =>
      clear cx zx cy zy HX HY HB
      obtain ⟨k, hk, rfl, HA, hx, hy, hb⟩ := hrel
      have HB := Lib.hid hb; clear hb
      have HX := Lib.hid hx
      have HY := Lib.hid hy
      have ⟨cx, zx, fx⟩ := hx
      have ⟨cy, zy, fy⟩ := hy
      clear hx hy
      by_cases hlt : k < x.applied.length
      · have hlt' : k < y.applied.length := by have := HL.out; omega
        obtain ⟨b, off, cs_b, rfl, hw_b, hr_b, hcell_b⟩ := slice_at (q_K2.out.below HB.out) k hlt
        obtain ⟨fe_b, hrd_b⟩ := hr_b
        have HR_b : Hid (Reads DApplied.rep wr cs_b x.applied[k]) := ⟨_, hrd_b⟩
        obtain ⟨rfl, _⟩ := DApplied.rd.1 hrd_b
        clear hrd_b
        have b_c0 : wr.cell? ⟨b, off + k * 2, none⟩ = some (.int .i64 x.applied[k].device) := hcell_b 0 (by decide)
        have b_c1 : wr.cell? ⟨b, off + k * 2 + 1, none⟩ = some (.int .i64 x.applied[k].seq) := hcell_b 1 (by decide)
        clear hcell_b
        obtain ⟨d, off', cs_d, rfl, hw_d, hr_d, hcell_d⟩ := slice_at (r_K2.out.below HB.out) k hlt'
        obtain ⟨fe_d, hrd_d⟩ := hr_d
        have HR_d : Hid (Reads DApplied.rep wr cs_d y.applied[k]) := ⟨_, hrd_d⟩
        obtain ⟨rfl, _⟩ := DApplied.rd.1 hrd_d
        clear hrd_d
        have d_c0 : wr.cell? ⟨d, off' + k * 2, none⟩ = some (.int .i64 y.applied[k].device) := hcell_d 0 (by decide)
        have d_c1 : wr.cell? ⟨d, off' + k * 2 + 1, none⟩ = some (.int .i64 y.applied[k].seq) := hcell_d 1 (by decide)
        clear hcell_d
        have i1 : (0 : Int) ≤ (k : Int) := by omega
        have i2 : (k : Int) < (x.applied.length : Int) := by omega
        have i3 : (k : Int) < (y.applied.length : Int) := by omega
        by_cases he : x.applied[k] = y.applied[k]
        · have hd : decide (x.applied[k] = y.applied[k]) = true := decide_eq_true he
          have HE := Lib.hid he; clear he
          go_wp2
          go_quiet (fail)
          go_wp2
          go_light
          have yz := HB.out
          exact ⟨⟨k + 1, by omega, by go_num, Lib.hid (agree_snoc HA.out (by rw [List.getElem?_eq_getElem hlt, List.getElem?_eq_getElem hlt', HE.out])), HX.out.keep (belN belR), HY.out.keep (belN belR), (by repeat (first | with_reducible exact belR | with_reducible apply belA | (with_reducible refine belS ?_ ?_; focus (first | omega | (simp; done) | (simp; omega))) | with_reducible apply belN | with_reducible apply belD | with_reducible assumption))⟩, by simp [intOf]; omega⟩
        · have hd : decide (x.applied[k] = y.applied[k]) = false := decide_eq_false he
          have HE := Lib.hid he; clear he
          go_wp2
          go_quiet (fail)
          go_wp2
          go_ret
          have yz := HB.out
          refine ⟨ret_bool ?_, (by repeat (first | with_reducible exact belR | with_reducible apply belA | (with_reducible refine belS ?_ ?_; focus (first | omega | (simp; done) | (simp; omega))) | with_reducible apply belN | with_reducible apply belD | with_reducible assumption))⟩
          go_light
          have : decide (x.applied = y.applied) = false := by
            rw [decide_eq_false_iff_not]
            intro e
            exact HE.out (List.getElem_of_eq e hlt)
          rw [equalServersF, this, Bool.false_and, Bool.and_false]
      · have HG := Lib.hid (agree_all HA.out (by omega) HL.out.symm)
        clear HA
        go_wp2
        go_loopw [6] (fun i wr => ∃ k : Nat, k ≤ x.changes.length ∧ i = .int .i64 k ∧ Hid (∀ j, j < k → x.changes[j]? = y.changes[j]?) ∧ WB wr w.heap.size #[.string x.store.name, .slice q_a1 x.store.items.length q_c1, .int .i64 x.store.auto, .slice q_a2 x.applied.length q_c2, .slice q_a3 x.changes.length q_c3] ∧ WB wr (w.heap.size + 1) #[.string y.store.name, .slice r_a1 y.store.items.length r_c1, .int .i64 y.store.auto, .slice r_a2 y.applied.length r_c2, .slice r_a3 y.changes.length r_c3] ∧ Below w.heap.size w wr) (fun i _ => x.changes.length - (intOf i).toNat)
        case atStart => exact ⟨0, by omega, rfl, Lib.hid (by intro j hj; omega), HX.out, HY.out, HB.out⟩
        case round =>
          clear cx zx fx cy zy fy HX HY HB hlt hk
          obtain ⟨k', hk, rfl, HA, hx, hy, hb⟩ := hrel
          have HB := Lib.hid hb; clear hb
          have HX := Lib.hid hx
          have HY := Lib.hid hy
          have ⟨cx, zx, fx⟩ := hx
          have ⟨cy, zy, fy⟩ := hy
          clear hx hy
          by_cases hlt : k' < x.changes.length
          · have hlt' : k' < y.changes.length := by have := HM.out; omega
            obtain ⟨b, off, cs_b, rfl, hw_b, hr_b, hcell_b⟩ := slice_at (q_K3.out.below HB.out) k' hlt
            obtain ⟨fe_b, hrd_b⟩ := hr_b
            have HR_b : Hid (Reads DWrite.rep wr cs_b x.changes[k']) := ⟨_, hrd_b⟩
            obtain ⟨rfl, _, b_s0, b_s1⟩ := DWrite.rd.1 hrd_b
            clear hrd_b
            have b_c0 : wr.cell? ⟨b, off + k' * 7, none⟩ = some (.int .i64 x.changes[k'].device) := hcell_b 0 (by decide)
            have b_c1 : wr.cell? ⟨b, off + k' * 7 + 1, none⟩ = some (.int .i64 x.changes[k'].seq) := hcell_b 1 (by decide)
            have b_c2 : wr.cell? ⟨b, off + k' * 7 + 2, none⟩ = some (.int .i64 x.changes[k'].key.kind) := hcell_b 2 (by decide)
            have b_c3 : wr.cell? ⟨b, off + k' * 7 + 3, none⟩ = some (.int .i64 x.changes[k'].key.n) := hcell_b 3 (by decide)
            have b_c4 : wr.cell? ⟨b, off + k' * 7 + 4, none⟩ = some (.string x.changes[k'].key.text) := hcell_b 4 (by decide)
            have b_c5 : wr.cell? ⟨b, off + k' * 7 + 5, none⟩ = some (.string x.changes[k'].field) := hcell_b 5 (by decide)
            have b_c6 : wr.cell? ⟨b, off + k' * 7 + 6, none⟩ = some (.int .i64 x.changes[k'].n) := hcell_b 6 (by decide)
            clear hcell_b
            obtain ⟨d, off', cs_d, rfl, hw_d, hr_d, hcell_d⟩ := slice_at (r_K3.out.below HB.out) k' hlt'
            obtain ⟨fe_d, hrd_d⟩ := hr_d
            have HR_d : Hid (Reads DWrite.rep wr cs_d y.changes[k']) := ⟨_, hrd_d⟩
            obtain ⟨rfl, _, d_s0, d_s1⟩ := DWrite.rd.1 hrd_d
            clear hrd_d
            have d_c0 : wr.cell? ⟨d, off' + k' * 7, none⟩ = some (.int .i64 y.changes[k'].device) := hcell_d 0 (by decide)
            have d_c1 : wr.cell? ⟨d, off' + k' * 7 + 1, none⟩ = some (.int .i64 y.changes[k'].seq) := hcell_d 1 (by decide)
            have d_c2 : wr.cell? ⟨d, off' + k' * 7 + 2, none⟩ = some (.int .i64 y.changes[k'].key.kind) := hcell_d 2 (by decide)
            have d_c3 : wr.cell? ⟨d, off' + k' * 7 + 3, none⟩ = some (.int .i64 y.changes[k'].key.n) := hcell_d 3 (by decide)
            have d_c4 : wr.cell? ⟨d, off' + k' * 7 + 4, none⟩ = some (.string y.changes[k'].key.text) := hcell_d 4 (by decide)
            have d_c5 : wr.cell? ⟨d, off' + k' * 7 + 5, none⟩ = some (.string y.changes[k'].field) := hcell_d 5 (by decide)
            have d_c6 : wr.cell? ⟨d, off' + k' * 7 + 6, none⟩ = some (.int .i64 y.changes[k'].n) := hcell_d 6 (by decide)
            clear hcell_d
            have i1 : (0 : Int) ≤ (k' : Int) := by omega
            have i2 : (k' : Int) < (x.changes.length : Int) := by omega
            have i3 : (k' : Int) < (y.changes.length : Int) := by omega
            by_cases he : x.changes[k'] = y.changes[k']
            · have hd : decide (x.changes[k'] = y.changes[k']) = true := decide_eq_true he
              have HE := Lib.hid he; clear he
              go_wp2
              go_quiet (fail)
              go_wp2
              go_light
              have yz := HB.out
              exact ⟨⟨k' + 1, by omega, by go_num, Lib.hid (agree_snoc HA.out (by rw [List.getElem?_eq_getElem hlt, List.getElem?_eq_getElem hlt', HE.out])), HX.out.keep (belN belR), HY.out.keep (belN belR), (by repeat (first | with_reducible exact belR | with_reducible apply belA | (with_reducible refine belS ?_ ?_; focus (first | omega | (simp; done) | (simp; omega))) | with_reducible apply belN | with_reducible apply belD | with_reducible assumption))⟩, by simp [intOf]; omega⟩
            · have hd : decide (x.changes[k'] = y.changes[k']) = false := decide_eq_false he
              have HE := Lib.hid he; clear he
              go_wp2
              go_quiet (fail)
              go_wp2
              go_ret
              have yz := HB.out
              refine ⟨ret_bool ?_, (by repeat (first | with_reducible exact belR | with_reducible apply belA | (with_reducible refine belS ?_ ?_; focus (first | omega | (simp; done) | (simp; omega))) | with_reducible apply belN | with_reducible apply belD | with_reducible assumption))⟩
              go_light
              have : decide (x.changes = y.changes) = false := by
                rw [decide_eq_false_iff_not]
                intro e
                exact HE.out (List.getElem_of_eq e hlt)
              rw [equalServersF, this, Bool.and_false, Bool.and_false]
          · have HG2 := Lib.hid (agree_all HA.out (by omega) HM.out.symm)
            go_wp2
            go_ret
            refine ⟨ret_bool ?_, HB.out⟩
            rw [equalServersF, H3.out, HG.out, HG2.out]; simp
  · have hne : decide (x.applied = y.applied) = false := by
      rw [decide_eq_false_iff_not]
      intro e
      exact of_decide_eq_false h4 (by rw [e])
    have HN := Lib.hid hne; clear hne
    go_wp2
    go_ret
    exact ⟨ret_bool (by rw [equalServersF, HN.out, Bool.false_and, Bool.and_false]), HB.out⟩
  · go_wp2
    go_ret
    exact ⟨ret_bool (by rw [equalServersF, h3]; rfl), HB.out⟩

end Go.Proofs.Ytjdoofekohjjlaa
