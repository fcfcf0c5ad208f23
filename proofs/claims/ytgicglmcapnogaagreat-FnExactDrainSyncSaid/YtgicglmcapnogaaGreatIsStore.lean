/-
  IsStore.
-/
import Derived.Test.YtgicglmcapnogaaGreatCompare
import Derived.Test.YtgicglmcapnogaaGreatTFam
namespace Go.Proofs.YtgicglmcapnogaaGreat
open Go.RowKit

def itemBad (l : List DItem) (i : Nat) : Bool := match l[i]?, l[i - 1]? with | some f, some g => decide (0 ≤ cmpKeysF g.key f.key) | _, _ => false
def itemOk (x : DStore) (i : Nat) : Bool := match x.items[i]? with | none => true | some f => isKeyF f.key && (isRecordF f.record && !(decide (0 < i) && itemBad x.items i))
def isStoreF (x : DStore) : Bool := (List.range x.items.length).all (itemOk x) && (isWordF x.name 8 false && (decide (x.items.length ≤ 16) && within x.auto 0 1000000))
theorem itemBad_at {l : List DItem} {i : Nat} (hi : i < l.length) : itemBad l i = decide (0 ≤ cmpKeysF l[i - 1].key l[i].key) := by
  unfold itemBad; rw [List.getElem?_eq_getElem hi, List.getElem?_eq_getElem (show i - 1 < l.length by omega)]
theorem itemOk_at {x : DStore} {i : Nat} (hi : i < x.items.length) : itemOk x i = (isKeyF x.items[i].key && (isRecordF x.items[i].record && !(decide (0 < i) && itemBad x.items i))) := by
  unfold itemOk; rw [List.getElem?_eq_getElem hi]
theorem store_no {x : DStore} {i : Nat} (hi : i < x.items.length) (h : itemOk x i = false) : isStoreF x = false := by
  have : (List.range x.items.length).all (itemOk x) = false := List.all_eq_false.2 ⟨i, List.mem_range.2 hi, by rw [h]; simp⟩
  rw [isStoreF, this, Bool.false_and]
theorem store_yes {x : DStore} {k : Nat} (hk : ¬ k < x.items.length) (h : ∀ i, i < k → itemOk x i = true) : isStoreF x = (isWordF x.name 8 false && (decide (x.items.length ≤ 16) && within x.auto 0 1000000)) := by
  have : (List.range x.items.length).all (itemOk x) = true := List.all_eq_true.2 fun i hi => h i (by have := List.mem_range.1 hi; omega)
  rw [isStoreF, this, Bool.true_and]
attribute [irreducible] itemOk itemBad
attribute [local irreducible] cmpKeysF

set_option maxRecDepth 100000 in
set_option maxHeartbeats 6400000 in
theorem implIsStore (cs : List Value) (x : DStore) (w : World) (h : Reads DStore.rep w cs x) :
    Calls Tryz.prog 106 #[.agg cs.toArray] w fun e w' => e = .returned (.bool (isStoreF x)) ∧ Below w.heap.size w w' := by
  obtain ⟨fp_q, h⟩ := h
  obtain ⟨q_v1, q_f1, rfl, _, q_s0, q_r1⟩ := DStore.rd.1 h
  obtain ⟨q_a1, q_c1, rfl, q_hm1, q_lc1, q_hu1⟩ := slice_open q_r1; clear q_hu1
  have q_K1 : Hid (Reads (Rep.slice 134 DItem.rep) w [.slice q_a1 x.items.length q_c1] x.items) := ⟨_, q_r1⟩
  clear q_r1 h
  go_enter Tryz.func106, Tryz.ntmps106
  go_wp2
  go_loopw [8] (fun i wr => ∃ k : Nat, k ≤ x.items.length ∧ i = .int .i64 k ∧ Hid (∀ i, i < k → itemOk x i = true) ∧ WB wr w.heap.size #[.string x.name, .slice q_a1 x.items.length q_c1, .int .i64 x.auto] ∧ Below w.heap.size w wr) (fun i _ => x.items.length - (intOf i).toNat)
  case atStart => exact ⟨0, by omega, rfl, Lib.hid (by intro i hi; omega), WB.at rfl, (by repeat (first | with_reducible exact belR | with_reducible apply belA | (with_reducible refine belS ?_ ?_; focus (first | omega | (simp; done) | (simp; omega))) | with_reducible apply belN | with_reducible apply belD | with_reducible assumption))⟩
  case round =>
    obtain ⟨k, hk, rfl, HA, hx, hb⟩ := hrel
    have HB := Lib.hid hb; clear hb
    have HX := Lib.hid hx
    clear hx
    have ⟨c_HX, z_HX, f_HX⟩ := HX.out
    by_cases hlt : k < x.items.length
    · have eo := Lib.hid (itemOk_at hlt)
      have hlt' : k - 1 < x.items.length := by omega
      obtain ⟨b, off, cs_b, rfl, hw_b, hr_b, hcell_b⟩ := slice_at (q_K1.out.below HB.out) k hlt
      obtain ⟨fe_b, hrd_b⟩ := hr_b
      have HR_b : Hid (Reads DItem.rep wr cs_b x.items[k]) := ⟨_, hrd_b⟩
      obtain ⟨b_v1, b_f1, rfl, _, b_s0, b_r1⟩ := DItem.rd.1 hrd_b
      obtain ⟨b_a1, b_k1, rfl, _⟩ := slice_open b_r1
      have b_R1 : Hid (Reads (Rep.slice 156 DField.rep) wr [.slice b_a1 x.items[k].record.fields.length b_k1] x.items[k].record.fields) := ⟨_, b_r1⟩
      clear b_r1
      clear hrd_b
      have b_c0 : wr.cell? ⟨b, off + k * 4, none⟩ = some (.int .i64 x.items[k].key.kind) := hcell_b 0 (by decide)
      have b_c1 : wr.cell? ⟨b, off + k * 4 + 1, none⟩ = some (.int .i64 x.items[k].key.n) := hcell_b 1 (by decide)
      have b_c2 : wr.cell? ⟨b, off + k * 4 + 2, none⟩ = some (.string x.items[k].key.text) := hcell_b 2 (by decide)
      have b_c3 : wr.cell? ⟨b, off + k * 4 + 3, none⟩ = some (.slice b_a1 x.items[k].record.fields.length b_k1) := hcell_b 3 (by decide)
      clear hcell_b
      obtain ⟨cs2, _, ⟨_, hrd2⟩, hcell2⟩ := slice_at' (q_K1.out.below HB.out) (k - 1) hlt'
      obtain ⟨v2, _, rfl, _, s2, _⟩ := DItem.rd.1 hrd2
      have c_c0 : wr.cell? ⟨b, off + (k - 1) * 4, none⟩ = some (.int .i64 x.items[k - 1].key.kind) := hcell2 0 (by decide)
      have c_c1 : wr.cell? ⟨b, off + (k - 1) * 4 + 1, none⟩ = some (.int .i64 x.items[k - 1].key.n) := hcell2 1 (by decide)
      have c_c2 : wr.cell? ⟨b, off + (k - 1) * 4 + 2, none⟩ = some (.string x.items[k - 1].key.text) := hcell2 2 (by decide)
      clear hcell2 hrd2
      have HKk : Hid (∀ W, Reads DKey.rep W [.int .i64 x.items[k].key.kind, .int .i64 x.items[k].key.n, .string x.items[k].key.text] x.items[k].key) := Lib.hid fun W => ⟨[], DKey.rd.2 ⟨rfl, rfl, b_s0⟩⟩
      have HKj : Hid (∀ W, Reads DKey.rep W [.int .i64 x.items[k - 1].key.kind, .int .i64 x.items[k - 1].key.n, .string x.items[k - 1].key.text] x.items[k - 1].key) := Lib.hid fun W => ⟨[], DKey.rd.2 ⟨rfl, rfl, s2⟩⟩
      have HRr : Hid (∀ W, Below wr.heap.size wr W → Reads DRecord.rep W [.slice b_a1 x.items[k].record.fields.length b_k1] x.items[k].record) := Lib.hid fun W hW => Reads.below (R := DRecord.rep) b_R1.out hW
      clear HR_b
      have j1 : (0 : Int) ≤ (k : Int) := by omega
      have j3 : (k : Int) < (x.items.length : Int) := by omega
      cases n1 : isKeyF x.items[k].key
      case' true => cases n2 : isRecordF x.items[k].record
      case' true.true => cases n3 : decide (0 < k)
      case' true.true.true => cases n4 : itemBad x.items k
      all_goals
        first | (have hk0 := of_decide_eq_true n3; have hw : IntKind.i64.wrap ((k : Int) - 1) = ((k - 1 : Nat) : Int) := by rw [Go.IntWalk.i64_in _ (by omega)]; omega) | (have hw : True := trivial)
        have j4 : (0 : Int) ≤ ((k - 1 : Nat) : Int) := by omega
        have j5 : ((k - 1 : Nat) : Int) < (x.items.length : Int) := by omega
        first | (have n5 := (itemBad_at hlt).symm.trans n4) | (have n5 : True := trivial)
        go_wp2_with fail
        refine settle (fun W => WB W wr.heap.size #[.int .i64 x.items[k].key.kind, .int .i64 x.items[k].key.n, .string x.items[k].key.text, .slice b_a1 x.items[k].record.fields.length b_k1] ∧ WB W w.heap.size #[.string x.name, .slice (some ⟨b, off, none⟩) x.items.length q_c1, .int .i64 x.auto] ∧ Below wr.heap.size wr W) ⟨WB.at rfl, HX.out.growA, (by repeat (first | with_reducible exact belR | with_reducible apply belA | (with_reducible refine belS ?_ ?_; focus (first | omega | (simp; done) | (simp; omega))) | with_reducible apply belN | with_reducible apply belD | with_reducible assumption))⟩ ?_
        rintro w0 ⟨hy, hx0, hb0⟩
        have K0 := rg_var hx0
        have K1 := rg_var hy
        have C2 := rg_cell ((hb0.cell (block_lt_of_cell c_c0)).trans c_c0)
        have C7 := rg_cell ((hb0.cell (block_lt_of_cell c_c1)).trans c_c1)
        have C8 := rg_cell ((hb0.cell (block_lt_of_cell c_c2)).trans c_c2)
        have HQ : Hid (∀ p, Below wr.heap.size wr (rg w0 p)) := Lib.hid fun p => hb0.trans ((rg_below w0 p).mono hb0.size)
        refine wp_region_rg (by kernel_rfl) (by kernel_rfl) ?_
        repeat (go_big_quiet_step ((first | (go_at_call 102; exact calls_rg (implIsKey _ x.items[k].key _ (HKk.out _))) | (go_at_call 126; exact calls_rg (implIsRecord _ x.items[k].record _ (HRr.out _ (HQ.out _)))) | (go_at_call 127; exact calls_rg (implCompareKeys _ _ x.items[k - 1].key x.items[k].key _ (HKj.out _) (HKk.out _))))))
        refine wpQuiet_nil ?_
        rintro _ ⟨pq, rfl⟩
        clear K0 K1 C2 C7 C8 hw n5 HQ
        have HB1 := Lib.hid (hb0.trans ((rg_below w0 pq).mono hb0.size))
        clear hb0 hy hx0
      all_goals
        first
          | (go_wp2
             go_ret
             refine ⟨ret_bool (store_no hlt ?_).symm, below_call HB.out HB.out.size HB1.out⟩
             rw [eo.out]
             first
               | (rw [n1]; rfl)
               | (rw [n1, n2]; rfl)
               | (rw [n1, n2, n3, n4]; rfl))
          | (have HK : Hid (itemOk x k = true) := Lib.hid (by
               rw [eo.out]
               first
                 | (rw [n1, n2, n3, n4]; rfl)
                 | (rw [n1, n2, n3]; rfl))
             go_wp2
             go_light
             exact ⟨⟨k + 1, by omega, by go_num, Lib.hid (all_snoc HA.out HK.out), HX.out.keep HB1.out, below_call HB.out HB.out.size HB1.out⟩, by simp [intOf]; omega⟩)
    · have he := Lib.hid (store_yes hlt HA.out)
      cases m1 : isWordF x.name 8 false
      case' true => cases m2 : decide (x.items.length ≤ 16)
      all_goals
        first | (have m3 := of_decide_eq_true m2) | (have m3 := of_decide_eq_false m2) | skip
        go_wp2_with (first | (go_at_call 103; refine (implIsName _ q_s0 _).mono ?_; rintro e w' ⟨rfl, rfl⟩) | (go_at_call 46; refine (implInRange _ _ _ _).mono ?_; rintro e w' ⟨rfl, rfl⟩))
        go_ret
        refine ⟨ret_bool ?_, HB.out⟩
        rw [he.out]
        first
          | (rw [m1]; rfl)
          | (rw [m1, m2]; rfl)

set_option maxRecDepth 100000 in
set_option maxHeartbeats 6400000 in
theorem specIsStore (cs : List Value) (x : DStore) (w : World) (h : Reads DStore.rep w cs x) :
    Calls Tryz.prog 95 #[.agg cs.toArray] w fun e w' => e = .returned (.bool (isStoreF x)) ∧ Below w.heap.size w w' := by
  obtain ⟨fp_q, h⟩ := h
  obtain ⟨q_v1, q_f1, rfl, _, q_s0, q_r1⟩ := DStore.rd.1 h
  obtain ⟨q_a1, q_c1, rfl, q_hm1, q_lc1, q_hu1⟩ := slice_open q_r1; clear q_hu1
  have q_K1 : Hid (Reads (Rep.slice 134 DItem.rep) w [.slice q_a1 x.items.length q_c1] x.items) := ⟨_, q_r1⟩
  clear q_r1 h
  go_enter Tryz.func95, Tryz.ntmps95
  go_wp2
  go_loopw [3] (fun i wr => ∃ k : Nat, k ≤ x.items.length ∧ i = .int .i64 k ∧ Hid (∀ i, i < k → itemOk x i = true) ∧ WB wr w.heap.size #[.string x.name, .slice q_a1 x.items.length q_c1, .int .i64 x.auto] ∧ Below w.heap.size w wr) (fun i _ => x.items.length - (intOf i).toNat)
  case atStart => exact ⟨0, by omega, rfl, Lib.hid (by intro i hi; omega), WB.at rfl, (by repeat (first | with_reducible exact belR | with_reducible apply belA | (with_reducible refine belS ?_ ?_; focus (first | omega | (simp; done) | (simp; omega))) | with_reducible apply belN | with_reducible apply belD | with_reducible assumption))⟩
  case round =>
    obtain ⟨k, hk, rfl, HA, hx, hb⟩ := hrel
    have HB := Lib.hid hb; clear hb
    have HX := Lib.hid hx
    clear hx
    have ⟨c_HX, z_HX, f_HX⟩ := HX.out
    by_cases hlt : k < x.items.length
    · have eo := Lib.hid (itemOk_at hlt)
      have hlt' : k - 1 < x.items.length := by omega
      obtain ⟨b, off, cs_b, rfl, hw_b, hr_b, hcell_b⟩ := slice_at (q_K1.out.below HB.out) k hlt
      obtain ⟨fe_b, hrd_b⟩ := hr_b
      have HR_b : Hid (Reads DItem.rep wr cs_b x.items[k]) := ⟨_, hrd_b⟩
      obtain ⟨b_v1, b_f1, rfl, _, b_s0, b_r1⟩ := DItem.rd.1 hrd_b
      obtain ⟨b_a1, b_k1, rfl, _⟩ := slice_open b_r1
      have b_R1 : Hid (Reads (Rep.slice 156 DField.rep) wr [.slice b_a1 x.items[k].record.fields.length b_k1] x.items[k].record.fields) := ⟨_, b_r1⟩
      clear b_r1
      clear hrd_b
      have b_c0 : wr.cell? ⟨b, off + k * 4, none⟩ = some (.int .i64 x.items[k].key.kind) := hcell_b 0 (by decide)
      have b_c1 : wr.cell? ⟨b, off + k * 4 + 1, none⟩ = some (.int .i64 x.items[k].key.n) := hcell_b 1 (by decide)
      have b_c2 : wr.cell? ⟨b, off + k * 4 + 2, none⟩ = some (.string x.items[k].key.text) := hcell_b 2 (by decide)
      have b_c3 : wr.cell? ⟨b, off + k * 4 + 3, none⟩ = some (.slice b_a1 x.items[k].record.fields.length b_k1) := hcell_b 3 (by decide)
      clear hcell_b
      obtain ⟨cs2, _, ⟨_, hrd2⟩, hcell2⟩ := slice_at' (q_K1.out.below HB.out) (k - 1) hlt'
      obtain ⟨v2, _, rfl, _, s2, _⟩ := DItem.rd.1 hrd2
      have c_c0 : wr.cell? ⟨b, off + (k - 1) * 4, none⟩ = some (.int .i64 x.items[k - 1].key.kind) := hcell2 0 (by decide)
      have c_c1 : wr.cell? ⟨b, off + (k - 1) * 4 + 1, none⟩ = some (.int .i64 x.items[k - 1].key.n) := hcell2 1 (by decide)
      have c_c2 : wr.cell? ⟨b, off + (k - 1) * 4 + 2, none⟩ = some (.string x.items[k - 1].key.text) := hcell2 2 (by decide)
      clear hcell2 hrd2
      have HKk : Hid (∀ W, Reads DKey.rep W [.int .i64 x.items[k].key.kind, .int .i64 x.items[k].key.n, .string x.items[k].key.text] x.items[k].key) := Lib.hid fun W => ⟨[], DKey.rd.2 ⟨rfl, rfl, b_s0⟩⟩
      have HKj : Hid (∀ W, Reads DKey.rep W [.int .i64 x.items[k - 1].key.kind, .int .i64 x.items[k - 1].key.n, .string x.items[k - 1].key.text] x.items[k - 1].key) := Lib.hid fun W => ⟨[], DKey.rd.2 ⟨rfl, rfl, s2⟩⟩
      have HRr : Hid (∀ W, Below wr.heap.size wr W → Reads DRecord.rep W [.slice b_a1 x.items[k].record.fields.length b_k1] x.items[k].record) := Lib.hid fun W hW => Reads.below (R := DRecord.rep) b_R1.out hW
      clear HR_b
      have j1 : (0 : Int) ≤ (k : Int) := by omega
      have j3 : (k : Int) < (x.items.length : Int) := by omega
      cases n1 : isKeyF x.items[k].key
      case' true => cases n2 : isRecordF x.items[k].record
      case' true.true => cases n3 : decide (0 < k)
      case' true.true.true => cases n4 : itemBad x.items k
      all_goals
        first | (have hk0 := of_decide_eq_true n3; have hw : IntKind.i64.wrap ((k : Int) - 1) = ((k - 1 : Nat) : Int) := by rw [Go.IntWalk.i64_in _ (by omega)]; omega) | (have hw : True := trivial)
        have j4 : (0 : Int) ≤ ((k - 1 : Nat) : Int) := by omega
        have j5 : ((k - 1 : Nat) : Int) < (x.items.length : Int) := by omega
        first | (have n5 := (itemBad_at hlt).symm.trans n4) | (have n5 : True := trivial)
        go_wp2_with fail
        have K0 := rg_var HX.out
        have C3 := rg_cell b_c0
        have C4 := rg_cell b_c1
        have C5 := rg_cell b_c2
        have C6 := rg_cell b_c3
        have C2 := rg_cell c_c0
        have C7 := rg_cell c_c1
        have C8 := rg_cell c_c2
        have HQ : Hid (∀ p, Below wr.heap.size wr (rg wr p)) := Lib.hid fun p => rg_below wr p
        refine wp_region_rg (by kernel_rfl) (by kernel_rfl) ?_
        repeat (go_big_quiet_step ((first | (go_at_call 92; exact calls_rg (specIsKey _ x.items[k].key _ (HKk.out _))) | (go_at_call 120; exact calls_rg (specIsRecord _ x.items[k].record _ (HRr.out _ (HQ.out _)))) | (go_at_call 121; exact calls_rg (specCompareKeys _ _ x.items[k - 1].key x.items[k].key _ (HKj.out _) (HKk.out _))))))
        refine wpQuiet_nil ?_
        rintro _ ⟨pq, rfl⟩
        clear K0 C3 C4 C5 C6 C2 C7 C8 hw n5 HQ
        have HB1 := Lib.hid (rg_below wr pq)
      all_goals
        first
          | (go_wp2
             go_ret
             refine ⟨ret_bool (store_no hlt ?_).symm, below_call HB.out HB.out.size HB1.out⟩
             rw [eo.out]
             first
               | (rw [n1]; rfl)
               | (rw [n1, n2]; rfl)
               | (rw [n1, n2, n3, n4]; rfl))
          | (have HK : Hid (itemOk x k = true) := Lib.hid (by
               rw [eo.out]
               first
                 | (rw [n1, n2, n3, n4]; rfl)
                 | (rw [n1, n2, n3]; rfl))
             go_wp2
             go_light
             exact ⟨⟨k + 1, by omega, by go_num, Lib.hid (all_snoc HA.out HK.out), HX.out.keep HB1.out, below_call HB.out HB.out.size HB1.out⟩, by simp [intOf]; omega⟩)
    · have he := Lib.hid (store_yes hlt HA.out)
      cases m1 : isWordF x.name 8 false
      case' true => cases m2 : decide (x.items.length ≤ 16)
      all_goals
        first | (have m3 := of_decide_eq_true m2) | (have m3 := of_decide_eq_false m2) | skip
        go_wp2_with (first | (go_at_call 93; refine (specIsName _ q_s0 _).mono ?_; rintro e w' ⟨rfl, rfl⟩) | (go_at_call 32; refine (specIn _ _ _ _).mono ?_; rintro e w' ⟨rfl, rfl⟩))
        go_ret
        refine ⟨ret_bool ?_, HB.out⟩
        rw [he.out]
        first
          | (rw [m1]; rfl)
          | (rw [m1, m2]; rfl)

end Go.Proofs.YtgicglmcapnogaaGreat
