/-
  IsRecord.
-/
import Derived.Test.YtgicglmcapnogaaGreatKeys
import Derived.Test.YtgicglmcapnogaaGreatTFam
import Derived.Test.YtgicglmcapnogaaGreatBase
namespace Go.Proofs.YtgicglmcapnogaaGreat
open Go.RowKit

theorem bl_total : ∀ (x y : List UInt8), (Op.bytesLess x y || x == y) = !(Op.bytesLess y x)
  | [], [] => rfl
  | [], _ :: _ => rfl
  | _ :: _, [] => rfl
  | a :: x, b :: y => by
    have ih := bl_total x y
    simp only [Op.bytesLess]
    rcases Nat.lt_trichotomy a.toNat b.toNat with h | h | h
    · have h1 : decide (a < b) = true := decide_eq_true (UInt8.lt_iff_toNat_lt.2 h)
      have h2 : decide (b < a) = false := decide_eq_false (fun g => by have := UInt8.lt_iff_toNat_lt.1 g; omega)
      have h3 : (b == a) = false := by simp only [beq_eq_false_iff_ne]; intro e; subst e; omega
      rw [h1, h2, h3]; rfl
    · have e : a = b := UInt8.toNat_inj.1 h
      subst e
      have h1 : decide (a < a) = false := decide_eq_false (fun g => by have := UInt8.lt_iff_toNat_lt.1 g; omega)
      have h2 : (a == a) = true := by simp
      have h3 : (a :: x == a :: y) = (x == y) := by rw [List.cons_beq_cons, h2, Bool.true_and]
      rw [h1, h2, h3, Bool.false_or, Bool.true_and, Bool.false_or, Bool.true_and]
      exact ih
    · have h1 : decide (a < b) = false := decide_eq_false (fun g => by have := UInt8.lt_iff_toNat_lt.1 g; omega)
      have h2 : decide (b < a) = true := decide_eq_true (UInt8.lt_iff_toNat_lt.2 h)
      have h3 : (a == b) = false := by simp only [beq_eq_false_iff_ne]; intro e; subst e; omega
      have h4 : (a :: x == b :: y) = false := by rw [List.cons_beq_cons, h3, Bool.false_and]
      rw [h1, h2, h3, h4]; rfl

theorem slice_at' {α : Type} {E : TypeId} {R : Rep α} {w : World} {b off n cap : Nat} {l : List α} (h : Reads (Rep.slice E R) w [.slice (some ⟨b, off, none⟩) n cap] l) (i : Nat) (hi : i < l.length) :
    ∃ cs, b < w.heap.size ∧ Reads R w cs l[i] ∧ ∀ j, j < R.n → w.cell? ⟨b, off + i * R.n + j, none⟩ = cs[j]? := by
  obtain ⟨b', off', cs, he, h1, h2, h3⟩ := slice_at h i hi
  simp only [Option.some.injEq, Addr.mk.injEq, and_true] at he
  obtain ⟨rfl, rfl⟩ := he
  exact ⟨cs, h1, h2, h3⟩
def recBad (l : List DField) (i : Nat) : Bool := match l[i]?, l[i - 1]? with | some f, some g => !(Op.bytesLess g.name.toList f.name.toList) | _, _ => false
def recOk (x : DRecord) (i : Nat) : Bool := match x.fields[i]? with | none => true | some f => isWordF f.name 8 false && (within f.n 0 1000000000 && !(decide (0 < i) && recBad x.fields i))
def isRecordF (x : DRecord) : Bool := (List.range x.fields.length).all (recOk x) && decide (x.fields.length ≤ 6)
theorem recBad_at {l : List DField} {i : Nat} (hi : i < l.length) : recBad l i = !(Op.bytesLess l[i - 1].name.toList l[i].name.toList) := by
  unfold recBad; rw [List.getElem?_eq_getElem hi, List.getElem?_eq_getElem (show i - 1 < l.length by omega)]
theorem recOk_at {x : DRecord} {i : Nat} (hi : i < x.fields.length) : recOk x i = (isWordF x.fields[i].name 8 false && (within x.fields[i].n 0 1000000000 && !(decide (0 < i) && recBad x.fields i))) := by
  unfold recOk; rw [List.getElem?_eq_getElem hi]
theorem record_no {x : DRecord} {i : Nat} (hi : i < x.fields.length) (h : recOk x i = false) : isRecordF x = false := by
  have : (List.range x.fields.length).all (recOk x) = false := List.all_eq_false.2 ⟨i, List.mem_range.2 hi, by rw [h]; simp⟩
  rw [isRecordF, this, Bool.false_and]
theorem record_yes {x : DRecord} {k : Nat} (hk : ¬ k < x.fields.length) (h : ∀ i, i < k → recOk x i = true) : isRecordF x = decide (x.fields.length ≤ 6) := by
  have : (List.range x.fields.length).all (recOk x) = true := List.all_eq_true.2 fun i hi => h i (by have := List.mem_range.1 hi; omega)
  rw [isRecordF, this, Bool.true_and]
theorem all_snoc {p : Nat → Bool} {k : Nat} (h : ∀ i, i < k → p i = true) (hk : p k = true) : ∀ i, i < k + 1 → p i = true := by
  intro i hi
  by_cases e : i = k
  · subst e; exact hk
  · exact h i (by omega)
attribute [irreducible] recOk recBad

set_option maxRecDepth 100000 in
set_option maxHeartbeats 3200000 in
theorem specIsRecord (cs : List Value) (x : DRecord) (w : World) (h : Reads DRecord.rep w cs x) :
    Calls Tryz.prog 120 #[.agg cs.toArray] w fun e w' => e = .returned (.bool (isRecordF x)) ∧ Below w.heap.size w w' := by
  obtain ⟨fp_q, h⟩ := h
  obtain ⟨q_v1, q_f1, rfl, _, q_r1⟩ := DRecord.rd.1 h
  obtain ⟨q_a1, q_c1, rfl, q_hm1, q_lc1, q_hu1⟩ := slice_open q_r1; clear q_hu1
  have q_K1 : Hid (Reads (Rep.slice 156 DField.rep) w [.slice q_a1 x.fields.length q_c1] x.fields) := ⟨_, q_r1⟩
  clear q_r1 h
  go_enter Tryz.func120, Tryz.ntmps120
  go_wp2
  go_loopw [3] (fun i wr => ∃ k : Nat, k ≤ x.fields.length ∧ i = .int .i64 k ∧ Hid (∀ i, i < k → recOk x i = true) ∧ WB wr w.heap.size #[.slice q_a1 x.fields.length q_c1] ∧ Below w.heap.size w wr) (fun i _ => x.fields.length - (intOf i).toNat)
  case atStart => exact ⟨0, by omega, rfl, Lib.hid (by intro i hi; omega), WB.at rfl, (by repeat (first | with_reducible exact belR | with_reducible apply belA | (with_reducible refine belS ?_ ?_; focus (first | omega | (simp; done) | (simp; omega))) | with_reducible apply belN | with_reducible apply belD | with_reducible assumption))⟩
  case round =>
    obtain ⟨k, hk, rfl, HA, hx, hb⟩ := hrel
    have HB := Lib.hid hb; clear hb
    have HX := Lib.hid hx
    clear hx
    have ⟨c_HX, z_HX, f_HX⟩ := HX.out
    by_cases hlt : k < x.fields.length
    · have eo := Lib.hid (recOk_at hlt)
      have hlt' : k - 1 < x.fields.length := by omega
      obtain ⟨b, off, cs_b, rfl, hw_b, hr_b, hcell_b⟩ := slice_at (q_K1.out.below HB.out) k hlt
      obtain ⟨fe_b, hrd_b⟩ := hr_b
      have HR_b : Hid (Reads DField.rep wr cs_b x.fields[k]) := ⟨_, hrd_b⟩
      obtain ⟨rfl, _, b_s0⟩ := DField.rd.1 hrd_b
      clear hrd_b
      have b_c0 : wr.cell? ⟨b, off + k * 2, none⟩ = some (.string x.fields[k].name) := hcell_b 0 (by decide)
      have b_c1 : wr.cell? ⟨b, off + k * 2 + 1, none⟩ = some (.int .i64 x.fields[k].n) := hcell_b 1 (by decide)
      clear hcell_b
      obtain ⟨cs2, _, ⟨_, hrd2⟩, hcell2⟩ := slice_at' (q_K1.out.below HB.out) (k - 1) hlt'
      obtain ⟨rfl, _, _⟩ := DField.rd.1 hrd2
      have c_c0 : wr.cell? ⟨b, off + (k - 1) * 2, none⟩ = some (.string x.fields[k - 1].name) := hcell2 0 (by decide)
      clear hcell2 hrd2
      have j1 : (0 : Int) ≤ (k : Int) := by omega
      have j3 : (k : Int) < (x.fields.length : Int) := by omega
      have K0 := rg_var HX.out
      have C0 := rg_cell b_c0
      have C1 := rg_cell b_c1
      have C2 := rg_cell c_c0
      cases n1 : isWordF x.fields[k].name 8 false
      case' true => cases n2 : within x.fields[k].n 0 1000000000
      case' true.true => cases n3 : decide (0 < k)
      case' true.true.true => cases n4 : recBad x.fields k
      all_goals
        first | (have hk0 := of_decide_eq_true n3; have hw : IntKind.i64.wrap ((k : Int) - 1) = ((k - 1 : Nat) : Int) := by rw [Go.IntWalk.i64_in _ (by omega)]; omega) | (have hw : True := trivial)
        have j4 : (0 : Int) ≤ ((k - 1 : Nat) : Int) := by omega
        have j5 : ((k - 1 : Nat) : Int) < (x.fields.length : Int) := by omega
        first | (have n5 := (recBad_at hlt).symm.trans n4) | (have n5 : True := trivial)
        go_wp2
        refine wp_region_rg (by kernel_rfl) (by kernel_rfl) ?_
        repeat (go_big_quiet_step ((first | (go_at_call 93; exact calls_rgSame (specIsName _ b_s0 _)) | (go_at_call 32; exact calls_rgSame (specIn _ _ _ _)))))
        refine wpQuiet_nil ?_
        rintro _ ⟨pq, rfl⟩
        clear K0 C0 C1 C2 hw n5
        have HB1 := Lib.hid (rg_below wr pq)
      all_goals
        first
          | (go_wp2
             go_ret
             refine ⟨ret_bool (record_no hlt ?_).symm, below_call HB.out HB.out.size HB1.out⟩
             rw [eo.out]
             first
               | (rw [n1]; rfl)
               | (rw [n1, n2]; rfl)
               | (rw [n1, n2, n3, n4]; rfl))
          | (have HK : Hid (recOk x k = true) := Lib.hid (by
               rw [eo.out]
               first
                 | (rw [n1, n2, n3, n4]; rfl)
                 | (rw [n1, n2, n3]; rfl))
             go_wp2
             go_light
             exact ⟨⟨k + 1, by omega, by go_num, Lib.hid (all_snoc HA.out HK.out), HX.out.keep HB1.out, below_call HB.out HB.out.size HB1.out⟩, by simp [intOf]; omega⟩)
    · have he := Lib.hid (record_yes hlt HA.out)
      go_wp2
      go_ret
      refine ⟨ret_bool ?_, HB.out⟩
      rw [he.out]
      simp
      try omega

set_option maxRecDepth 100000 in
set_option maxHeartbeats 3200000 in
theorem implIsRecord (cs : List Value) (x : DRecord) (w : World) (h : Reads DRecord.rep w cs x) :
    Calls Tryz.prog 126 #[.agg cs.toArray] w fun e w' => e = .returned (.bool (isRecordF x)) ∧ Below w.heap.size w w' := by
  obtain ⟨fp_q, h⟩ := h
  obtain ⟨q_v1, q_f1, rfl, _, q_r1⟩ := DRecord.rd.1 h
  obtain ⟨q_a1, q_c1, rfl, q_hm1, q_lc1, q_hu1⟩ := slice_open q_r1; clear q_hu1
  have q_K1 : Hid (Reads (Rep.slice 156 DField.rep) w [.slice q_a1 x.fields.length q_c1] x.fields) := ⟨_, q_r1⟩
  clear q_r1 h
  go_enter Tryz.func126, Tryz.ntmps126
  go_wp2
  go_loopw [8] (fun i wr => ∃ k : Nat, k ≤ x.fields.length ∧ i = .int .i64 k ∧ Hid (∀ i, i < k → recOk x i = true) ∧ WB wr w.heap.size #[.slice q_a1 x.fields.length q_c1] ∧ Below w.heap.size w wr) (fun i _ => x.fields.length - (intOf i).toNat)
  case atStart => exact ⟨0, by omega, rfl, Lib.hid (by intro i hi; omega), WB.at rfl, (by repeat (first | with_reducible exact belR | with_reducible apply belA | (with_reducible refine belS ?_ ?_; focus (first | omega | (simp; done) | (simp; omega))) | with_reducible apply belN | with_reducible apply belD | with_reducible assumption))⟩
  case round =>
    obtain ⟨k, hk, rfl, HA, hx, hb⟩ := hrel
    have HB := Lib.hid hb; clear hb
    have HX := Lib.hid hx
    clear hx
    have ⟨c_HX, z_HX, f_HX⟩ := HX.out
    by_cases hlt : k < x.fields.length
    · have eo := Lib.hid (recOk_at hlt)
      have hlt' : k - 1 < x.fields.length := by omega
      obtain ⟨b, off, cs_b, rfl, hw_b, hr_b, hcell_b⟩ := slice_at (q_K1.out.below HB.out) k hlt
      obtain ⟨fe_b, hrd_b⟩ := hr_b
      have HR_b : Hid (Reads DField.rep wr cs_b x.fields[k]) := ⟨_, hrd_b⟩
      obtain ⟨rfl, _, b_s0⟩ := DField.rd.1 hrd_b
      clear hrd_b
      have b_c0 : wr.cell? ⟨b, off + k * 2, none⟩ = some (.string x.fields[k].name) := hcell_b 0 (by decide)
      have b_c1 : wr.cell? ⟨b, off + k * 2 + 1, none⟩ = some (.int .i64 x.fields[k].n) := hcell_b 1 (by decide)
      clear hcell_b
      obtain ⟨cs2, _, ⟨_, hrd2⟩, hcell2⟩ := slice_at' (q_K1.out.below HB.out) (k - 1) hlt'
      obtain ⟨rfl, _, _⟩ := DField.rd.1 hrd2
      have c_c0 : wr.cell? ⟨b, off + (k - 1) * 2, none⟩ = some (.string x.fields[k - 1].name) := hcell2 0 (by decide)
      clear hcell2 hrd2
      have j1 : (0 : Int) ≤ (k : Int) := by omega
      have j3 : (k : Int) < (x.fields.length : Int) := by omega
      cases n1 : isWordF x.fields[k].name 8 false
      case' true => cases n2 : within x.fields[k].n 0 1000000000
      case' true.true => cases n3 : decide (0 < k)
      case' true.true.true => cases n4 : recBad x.fields k
      all_goals
        first | (have hk0 := of_decide_eq_true n3; have hw : IntKind.i64.wrap ((k : Int) - 1) = ((k - 1 : Nat) : Int) := by rw [Go.IntWalk.i64_in _ (by omega)]; omega) | (have hw : True := trivial)
        have j4 : (0 : Int) ≤ ((k - 1 : Nat) : Int) := by omega
        have j5 : ((k - 1 : Nat) : Int) < (x.fields.length : Int) := by omega
        first | (have n5 := (bl_total _ _).trans ((recBad_at hlt).symm.trans n4)) | (have n5 : True := trivial)
        go_wp2_with fail
        refine settle (fun W => WB W wr.heap.size #[.string x.fields[k].name, .int .i64 x.fields[k].n] ∧ WB W w.heap.size #[.slice (some ⟨b, off, none⟩) x.fields.length q_c1] ∧ Below wr.heap.size wr W) ⟨WB.at rfl, HX.out.growA, (by repeat (first | with_reducible exact belR | with_reducible apply belA | (with_reducible refine belS ?_ ?_; focus (first | omega | (simp; done) | (simp; omega))) | with_reducible apply belN | with_reducible apply belD | with_reducible assumption))⟩ ?_
        rintro w0 ⟨hy, hx0, hb0⟩
        have K0 := rg_var hx0
        have K1 := rg_var hy
        have C2 := rg_cell ((hb0.cell (block_lt_of_cell c_c0)).trans c_c0)
        refine wp_region_rg (by kernel_rfl) (by kernel_rfl) ?_
        repeat (go_big_quiet_step ((first | (go_at_call 103; exact calls_rgSame (implIsName _ b_s0 _)) | (go_at_call 46; exact calls_rgSame (implInRange _ _ _ _)))))
        refine wpQuiet_nil ?_
        rintro _ ⟨pq, rfl⟩
        clear K0 K1 C2 hw n5
        have HB1 := Lib.hid (hb0.trans ((rg_below w0 pq).mono hb0.size))
        clear hb0 hy hx0
      all_goals
        first
          | (go_wp2
             go_ret
             refine ⟨ret_bool (record_no hlt ?_).symm, below_call HB.out HB.out.size HB1.out⟩
             rw [eo.out]
             first
               | (rw [n1]; rfl)
               | (rw [n1, n2]; rfl)
               | (rw [n1, n2, n3, n4]; rfl))
          | (have HK : Hid (recOk x k = true) := Lib.hid (by
               rw [eo.out]
               first
                 | (rw [n1, n2, n3, n4]; rfl)
                 | (rw [n1, n2, n3]; rfl))
             go_wp2
             go_light
             exact ⟨⟨k + 1, by omega, by go_num, Lib.hid (all_snoc HA.out HK.out), HX.out.keep HB1.out, below_call HB.out HB.out.size HB1.out⟩, by simp [intOf]; omega⟩)
    · have he := Lib.hid (record_yes hlt HA.out)
      go_wp2
      go_ret
      refine ⟨ret_bool ?_, HB.out⟩
      rw [he.out]
      simp
      try omega

end Go.Proofs.YtgicglmcapnogaaGreat
