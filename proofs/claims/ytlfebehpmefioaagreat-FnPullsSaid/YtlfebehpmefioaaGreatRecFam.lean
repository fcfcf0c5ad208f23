/-
  RecFam: Records, Compare, IsStore, Plain, Plain2, in one text.
-/
import Derived.Lib.Bytealg
import Derived.Laws.Externs
import Derived.Test.YtlfebehpmefioaaGreatKeys
import Derived.Test.YtlfebehpmefioaaGreatTFam
import Derived.Test.YtlfebehpmefioaaGreatBase
import Derived.Test.YtlfebehpmefioaaGreatEqFam

/-
  IsRecord.
-/
namespace Go.Proofs.YtlfebehpmefioaaGreat
open Go.RowKit

theorem bl_total : ∀ (x y : List UInt8), (Op.bytesLess x y || x == y) = !(Op.bytesLess y x)
  | [], [] => rfl
  | [], _ :: _ => rfl
  | _ :: _, [] => rfl
  | a :: x, b :: y => by
    have ih := bl_total x y
    simp only [Op.bytesLess]
    rcases Nat.lt_trichotomy a.toNat b.toNat with h | h | h
    · have h1 : decide (a < b) = true := decide_eq_true (UInt8.lt_iff_toNat_lt.2 h)
      have h2 : decide (b < a) = false := decide_eq_false (fun g => by have := UInt8.lt_iff_toNat_lt.1 g; omega)
      have h3 : (b == a) = false := by simp only [beq_eq_false_iff_ne]; intro e; subst e; omega
      rw [h1, h2, h3]; rfl
    · have e : a = b := UInt8.toNat_inj.1 h
      subst e
      have h1 : decide (a < a) = false := decide_eq_false (fun g => by have := UInt8.lt_iff_toNat_lt.1 g; omega)
      have h2 : (a == a) = true := by simp
      have h3 : (a :: x == a :: y) = (x == y) := by rw [List.cons_beq_cons, h2, Bool.true_and]
      rw [h1, h2, h3, Bool.false_or, Bool.true_and, Bool.false_or, Bool.true_and]
      exact ih
    · have h1 : decide (a < b) = false := decide_eq_false (fun g => by have := UInt8.lt_iff_toNat_lt.1 g; omega)
      have h2 : decide (b < a) = true := decide_eq_true (UInt8.lt_iff_toNat_lt.2 h)
      have h3 : (a == b) = false := by simp only [beq_eq_false_iff_ne]; intro e; subst e; omega
      have h4 : (a :: x == b :: y) = false := by rw [List.cons_beq_cons, h3, Bool.false_and]
      rw [h1, h2, h3, h4]; rfl

theorem slice_at' {α : Type} {E : TypeId} {R : Rep α} {w : World} {b off n cap : Nat} {l : List α} (h : Reads (Rep.slice E R) w [.slice (some ⟨b, off, none⟩) n cap] l) (i : Nat) (hi : i < l.length) :
    ∃ cs, b < w.heap.size ∧ Reads R w cs l[i] ∧ ∀ j, j < R.n → w.cell? ⟨b, off + i * R.n + j, none⟩ = cs[j]? := by
  obtain ⟨b', off', cs, he, h1, h2, h3⟩ := slice_at h i hi
  simp only [Option.some.injEq, Addr.mk.injEq, and_true] at he
  obtain ⟨rfl, rfl⟩ := he
  exact ⟨cs, h1, h2, h3⟩
def recBad (l : List DField) (i : Nat) : Bool := match l[i]?, l[i - 1]? with | some f, some g => !(Op.bytesLess g.name.toList f.name.toList) | _, _ => false
def recOk (x : DRecord) (i : Nat) : Bool := match x.fields[i]? with | none => true | some f => isWordF f.name 8 false && (within f.n 0 1000000000 && !(decide (0 < i) && recBad x.fields i))
def isRecordF (x : DRecord) : Bool := (List.range x.fields.length).all (recOk x) && decide (x.fields.length ≤ 6)
theorem recBad_at {l : List DField} {i : Nat} (hi : i < l.length) : recBad l i = !(Op.bytesLess l[i - 1].name.toList l[i].name.toList) := by
  unfold recBad; rw [List.getElem?_eq_getElem hi, List.getElem?_eq_getElem (show i - 1 < l.length by omega)]
theorem recOk_at {x : DRecord} {i : Nat} (hi : i < x.fields.length) : recOk x i = (isWordF x.fields[i].name 8 false && (within x.fields[i].n 0 1000000000 && !(decide (0 < i) && recBad x.fields i))) := by
  unfold recOk; rw [List.getElem?_eq_getElem hi]
theorem record_no {x : DRecord} {i : Nat} (hi : i < x.fields.length) (h : recOk x i = false) : isRecordF x = false := by
  have : (List.range x.fields.length).all (recOk x) = false := List.all_eq_false.2 ⟨i, List.mem_range.2 hi, by rw [h]; simp⟩
  rw [isRecordF, this, Bool.false_and]
theorem record_yes {x : DRecord} {k : Nat} (hk : ¬ k < x.fields.length) (h : ∀ i, i < k → recOk x i = true) : isRecordF x = decide (x.fields.length ≤ 6) := by
  have : (List.range x.fields.length).all (recOk x) = true := List.all_eq_true.2 fun i hi => h i (by have := List.mem_range.1 hi; omega)
  rw [isRecordF, this, Bool.true_and]
theorem all_snoc {p : Nat → Bool} {k : Nat} (h : ∀ i, i < k → p i = true) (hk : p k = true) : ∀ i, i < k + 1 → p i = true := by
  intro i hi
  by_cases e : i = k
  · subst e; exact hk
  · exact h i (by omega)
attribute [irreducible] recOk recBad

set_option maxRecDepth 100000 in
set_option maxHeartbeats 3200000 in
theorem specIsRecord (cs : List Value) (x : DRecord) (w : World) (h : Reads DRecord.rep w cs x) :
    Calls Tryz.prog 124 #[.agg cs.toArray] w fun e w' => e = .returned (.bool (isRecordF x)) ∧ Below w.heap.size w w' := by
  obtain ⟨fp_q, h⟩ := h
  obtain ⟨q_v1, q_f1, rfl, _, q_r1⟩ := DRecord.rd.1 h
  obtain ⟨q_a1, q_c1, rfl, q_hm1, q_lc1, q_hu1⟩ := slice_open q_r1; clear q_hu1
  have q_K1 : Hid (Reads (Rep.slice 112 DField.rep) w [.slice q_a1 x.fields.length q_c1] x.fields) := ⟨_, q_r1⟩
  clear q_r1 h
  go_enter Tryz.func124, Tryz.ntmps124
  go_wp2
  go_loopw [3] (fun i wr => ∃ k : Nat, k ≤ x.fields.length ∧ i = .int .i64 k ∧ Hid (∀ i, i < k → recOk x i = true) ∧ WB wr w.heap.size #[.slice q_a1 x.fields.length q_c1] ∧ Below w.heap.size w wr) (fun i _ => x.fields.length - (intOf i).toNat)
  case atStart => exact ⟨0, by omega, rfl, Lib.hid (by intro i hi; omega), WB.at rfl, bEl⟩
  case round =>
    obtain ⟨k, hk, rfl, HA, hx, hb⟩ := hrel
    have HB := Lib.hid hb; clear hb
    have HX := Lib.hid hx
    clear hx
    have ⟨c_HX, z_HX, f_HX⟩ := HX.out
    by_cases hlt : k < x.fields.length
    · have eo := Lib.hid (recOk_at hlt)
      have hlt' : k - 1 < x.fields.length := by omega
      obtain ⟨b, off, cs_b, rfl, hw_b, hr_b, hcell_b⟩ := slice_at (q_K1.out.below HB.out) k hlt
      obtain ⟨fe_b, hrd_b⟩ := hr_b
      have HR_b : Hid (Reads DField.rep wr cs_b x.fields[k]) := ⟨_, hrd_b⟩
      obtain ⟨rfl, _, b_s0⟩ := DField.rd.1 hrd_b
      clear hrd_b
      have b_c0 : wr.cell? ⟨b, off + k * 2, none⟩ = some (.string x.fields[k].name) := hcell_b 0 (by decide)
      have b_c1 : wr.cell? ⟨b, off + k * 2 + 1, none⟩ = some (.int .i64 x.fields[k].n) := hcell_b 1 (by decide)
      clear hcell_b
      obtain ⟨cs2, _, ⟨_, hrd2⟩, hcell2⟩ := slice_at' (q_K1.out.below HB.out) (k - 1) hlt'
      obtain ⟨rfl, _, _⟩ := DField.rd.1 hrd2
      have c_c0 : wr.cell? ⟨b, off + (k - 1) * 2, none⟩ = some (.string x.fields[k - 1].name) := hcell2 0 (by decide)
      clear hcell2 hrd2
      have j1 : (0 : Int) ≤ (k : Int) := by omega
      have j3 : (k : Int) < (x.fields.length : Int) := by omega
      have K0 := rg_var HX.out
      have C0 := rg_cell b_c0
      have C1 := rg_cell b_c1
      have C2 := rg_cell c_c0
      cases n1 : isWordF x.fields[k].name 8 false
      case' true => cases n2 : within x.fields[k].n 0 1000000000
      case' true.true => cases n3 : decide (0 < k)
      case' true.true.true => cases n4 : recBad x.fields k
      all_goals
        first | (have hk0 := of_decide_eq_true n3; have hw : IntKind.i64.wrap ((k : Int) - 1) = ((k - 1 : Nat) : Int) := by rw [Go.IntWalk.i64_in _ (by omega)]; omega) | (have hw : True := trivial)
        have j4 : (0 : Int) ≤ ((k - 1 : Nat) : Int) := by omega
        have j5 : ((k - 1 : Nat) : Int) < (x.fields.length : Int) := by omega
        first | (have n5 := (recBad_at hlt).symm.trans n4) | (have n5 : True := trivial)
        go_wp2
        refine wp_region_rg (by kernel_rfl) (by kernel_rfl) ?_
        repeat (go_big_quiet_step ((first | (go_at_call 101; exact calls_rgSame (specIsName _ b_s0 _)) | (go_at_call 78; exact calls_rgSame (specIn _ _ _ _)))))
        refine wpQuiet_nil ?_
        rintro _ ⟨pq, rfl⟩
        clear K0 C0 C1 C2 hw n5
        have HB1 := Lib.hid (rg_below wr pq)
      all_goals
        first
          | (go_wp2
             go_ret
             refine ⟨ret_bool (record_no hlt ?_).symm, below_call HB.out HB.out.size HB1.out⟩
             rw [eo.out]
             first
               | (rw [n1]; rfl)
               | (rw [n1, n2]; rfl)
               | (rw [n1, n2, n3, n4]; rfl))
          | (have HK : Hid (recOk x k = true) := Lib.hid (by
               rw [eo.out]
               first
                 | (rw [n1, n2, n3, n4]; rfl)
                 | (rw [n1, n2, n3]; rfl))
             go_wp2
             go_light
             exact ⟨⟨k + 1, by omega, by go_num, Lib.hid (all_snoc HA.out HK.out), HX.out.keep HB1.out, below_call HB.out HB.out.size HB1.out⟩, by simp [intOf]; omega⟩)
    · have he := Lib.hid (record_yes hlt HA.out)
      go_wp2
      go_ret
      refine ⟨ret_bool ?_, HB.out⟩
      rw [he.out]
      simp
      try omega

set_option maxRecDepth 100000 in
set_option maxHeartbeats 3200000 in
theorem implIsRecord (cs : List Value) (x : DRecord) (w : World) (h : Reads DRecord.rep w cs x) :
    Calls Tryz.prog 106 #[.agg cs.toArray] w fun e w' => e = .returned (.bool (isRecordF x)) ∧ Below w.heap.size w w' := by
  obtain ⟨fp_q, h⟩ := h
  obtain ⟨q_v1, q_f1, rfl, _, q_r1⟩ := DRecord.rd.1 h
  obtain ⟨q_a1, q_c1, rfl, q_hm1, q_lc1, q_hu1⟩ := slice_open q_r1; clear q_hu1
  have q_K1 : Hid (Reads (Rep.slice 112 DField.rep) w [.slice q_a1 x.fields.length q_c1] x.fields) := ⟨_, q_r1⟩
  clear q_r1 h
  go_enter Tryz.func106, Tryz.ntmps106
  go_wp2
  go_loopw [8] (fun i wr => ∃ k : Nat, k ≤ x.fields.length ∧ i = .int .i64 k ∧ Hid (∀ i, i < k → recOk x i = true) ∧ WB wr w.heap.size #[.slice q_a1 x.fields.length q_c1] ∧ Below w.heap.size w wr) (fun i _ => x.fields.length - (intOf i).toNat)
  case atStart => exact ⟨0, by omega, rfl, Lib.hid (by intro i hi; omega), WB.at rfl, bEl⟩
  case round =>
    obtain ⟨k, hk, rfl, HA, hx, hb⟩ := hrel
    have HB := Lib.hid hb; clear hb
    have HX := Lib.hid hx
    clear hx
    have ⟨c_HX, z_HX, f_HX⟩ := HX.out
    by_cases hlt : k < x.fields.length
    · have eo := Lib.hid (recOk_at hlt)
      have hlt' : k - 1 < x.fields.length := by omega
      obtain ⟨b, off, cs_b, rfl, hw_b, hr_b, hcell_b⟩ := slice_at (q_K1.out.below HB.out) k hlt
      obtain ⟨fe_b, hrd_b⟩ := hr_b
      have HR_b : Hid (Reads DField.rep wr cs_b x.fields[k]) := ⟨_, hrd_b⟩
      obtain ⟨rfl, _, b_s0⟩ := DField.rd.1 hrd_b
      clear hrd_b
      have b_c0 : wr.cell? ⟨b, off + k * 2, none⟩ = some (.string x.fields[k].name) := hcell_b 0 (by decide)
      have b_c1 : wr.cell? ⟨b, off + k * 2 + 1, none⟩ = some (.int .i64 x.fields[k].n) := hcell_b 1 (by decide)
      clear hcell_b
      obtain ⟨cs2, _, ⟨_, hrd2⟩, hcell2⟩ := slice_at' (q_K1.out.below HB.out) (k - 1) hlt'
      obtain ⟨rfl, _, _⟩ := DField.rd.1 hrd2
      have c_c0 : wr.cell? ⟨b, off + (k - 1) * 2, none⟩ = some (.string x.fields[k - 1].name) := hcell2 0 (by decide)
      clear hcell2 hrd2
      have j1 : (0 : Int) ≤ (k : Int) := by omega
      have j3 : (k : Int) < (x.fields.length : Int) := by omega
      cases n1 : isWordF x.fields[k].name 8 false
      case' true => cases n2 : within x.fields[k].n 0 1000000000
      case' true.true => cases n3 : decide (0 < k)
      case' true.true.true => cases n4 : recBad x.fields k
      all_goals
        first | (have hk0 := of_decide_eq_true n3; have hw : IntKind.i64.wrap ((k : Int) - 1) = ((k - 1 : Nat) : Int) := by rw [Go.IntWalk.i64_in _ (by omega)]; omega) | (have hw : True := trivial)
        have j4 : (0 : Int) ≤ ((k - 1 : Nat) : Int) := by omega
        have j5 : ((k - 1 : Nat) : Int) < (x.fields.length : Int) := by omega
        first | (have n5 := (bl_total _ _).trans ((recBad_at hlt).symm.trans n4)) | (have n5 : True := trivial)
        go_wp2_with fail
        refine settle (fun W => WB W wr.heap.size #[.string x.fields[k].name, .int .i64 x.fields[k].n] ∧ WB W w.heap.size #[.slice (some ⟨b, off, none⟩) x.fields.length q_c1] ∧ Below wr.heap.size wr W) ⟨WB.at rfl, HX.out.growA, bEl⟩ ?_
        rintro w0 ⟨hy, hx0, hb0⟩
        have K0 := rg_var hx0
        have K1 := rg_var hy
        have C2 := rg_cell ((hb0.cell (block_lt_of_cell c_c0)).trans c_c0)
        refine wp_region_rg (by kernel_rfl) (by kernel_rfl) ?_
        repeat (go_big_quiet_step ((first | (go_at_call 93; exact calls_rgSame (implIsName _ b_s0 _)) | (go_at_call 60; exact calls_rgSame (implInRange _ _ _ _)))))
        refine wpQuiet_nil ?_
        rintro _ ⟨pq, rfl⟩
        clear K0 K1 C2 hw n5
        have HB1 := Lib.hid (hb0.trans ((rg_below w0 pq).mono hb0.size))
        clear hb0 hy hx0
      all_goals
        first
          | (go_wp2
             go_ret
             refine ⟨ret_bool (record_no hlt ?_).symm, below_call HB.out HB.out.size HB1.out⟩
             rw [eo.out]
             first
               | (rw [n1]; rfl)
               | (rw [n1, n2]; rfl)
               | (rw [n1, n2, n3, n4]; rfl))
          | (have HK : Hid (recOk x k = true) := Lib.hid (by
               rw [eo.out]
               first
                 | (rw [n1, n2, n3, n4]; rfl)
                 | (rw [n1, n2, n3]; rfl))
             go_wp2
             go_light
             exact ⟨⟨k + 1, by omega, by go_num, Lib.hid (all_snoc HA.out HK.out), HX.out.keep HB1.out, below_call HB.out HB.out.size HB1.out⟩, by simp [intOf]; omega⟩)
    · have he := Lib.hid (record_yes hlt HA.out)
      go_wp2
      go_ret
      refine ⟨ret_bool ?_, HB.out⟩
      rw [he.out]
      simp
      try omega

end Go.Proofs.YtlfebehpmefioaaGreat

/-
  CompareKeys.
-/
namespace Go.Proofs.YtlfebehpmefioaaGreat
open Go.RowKit

def cmpI (a b : Int) : Int := if a < b then -1 else if b < a then 1 else 0
def cmpL (x y : List UInt8) : Int := if Op.bytesLess x y then -1 else if Op.bytesLess y x then 1 else 0
theorem cmpL_eq : ∀ (x y : List UInt8), Go.Lib.compareBytes x y = cmpL x y
  | [], [] => rfl
  | [], _ :: _ => rfl
  | _ :: _, [] => rfl
  | a :: x, b :: y => by
    have ih := cmpL_eq x y
    unfold Go.Lib.compareBytes
    unfold cmpL at ih ⊢
    simp only [Op.bytesLess]
    rcases Nat.lt_trichotomy a.toNat b.toNat with h | h | h
    · have h1 : a < b := UInt8.lt_iff_toNat_lt.2 h
      simp [h1]
    · have e : a = b := UInt8.toNat_inj.1 h
      subst e
      have h1 : ¬ a < a := fun g => by have := UInt8.lt_iff_toNat_lt.1 g; omega
      simp [h1, ih]
    · have h1 : ¬ a < b := fun g => by have := UInt8.lt_iff_toNat_lt.1 g; omega
      have h2 : b < a := UInt8.lt_iff_toNat_lt.2 h
      have h3 : (a == b) = false := by simp only [beq_eq_false_iff_ne]; intro e; subst e; omega
      simp [h1, h2, h3]
def cmpS (a b : ByteArray) : Int := cmpL a.toList b.toList
def cmpKeysF (a b : DKey) : Int := if isKeyF a && isKeyF b then (if a.kind != b.kind then cmpI a.kind b.kind else if a.n != b.n then cmpI a.n b.n else cmpS a.text b.text) else 0

set_option maxRecDepth 100000 in
set_option maxHeartbeats 400000 in
theorem cmpString (a b : ByteArray) (w : World) : Calls Tryz.prog 165 #[.string a, .string b] w fun e w' => e = .returned (.int .i64 (cmpS a b)) ∧ w = w' := by
  go_enter Tryz.func165, Tryz.ntmps165
  go_wp2
  rw [run_callFunc_extern Tryz.func168 (by kernel_rfl) (by kernel_rfl) (by kernel_rfl) (e := Extern.BytealgCompare.compare) (by kernel_rfl), Go.Lib.run_compareString]
  simp only [Result.andThen]
  rw [Oper.upon_value]
  go_wp2
  go_ret
  exact ⟨ret_int (by rw [cmpL_eq, cmpS, ByteArray.toList_eq, ByteArray.toList_eq]), rfl⟩

set_option maxHeartbeats 400000 in
theorem stringsCompare (a b : ByteArray) (w : World) : Calls Tryz.prog 146 #[.string a, .string b] w fun e w' => e = .returned (.int .i64 (cmpS a b)) ∧ w = w' := by
  go_enter Tryz.func146, Tryz.ntmps146
  go_wp2_with (go_at_call 165; refine (cmpString _ _ _).mono ?_; rintro e w' ⟨rfl, rfl⟩)
  go_ret
  exact ⟨rfl, rfl⟩

set_option maxHeartbeats 400000 in
theorem compareInts (a b : Int) (w : World) : Calls Tryz.prog 145 #[.int .i64 a, .int .i64 b] w fun e w' => e = .returned (.int .i64 (cmpI a b)) ∧ w = w' := by
  have he : Hid (cmpI a b = if a < b then -1 else if b < a then 1 else 0) := Lib.hid rfl
  by_cases h1 : a < b
  · have e := Lib.hid (he.out.trans (if_pos h1))
    go_enter Tryz.func145, Tryz.ntmps145
    go_wp2
    go_ret
    exact ⟨ret_int e.out.symm, rfl⟩
  · by_cases h2 : b < a
    · have e := Lib.hid ((he.out.trans (if_neg h1)).trans (if_pos h2))
      go_enter Tryz.func145, Tryz.ntmps145
      go_wp2
      go_ret
      exact ⟨ret_int e.out.symm, rfl⟩
    · have e := Lib.hid ((he.out.trans (if_neg h1)).trans (if_neg h2))
      go_enter Tryz.func145, Tryz.ntmps145
      go_wp2
      go_ret
      exact ⟨ret_int e.out.symm, rfl⟩

def signF (a b : Bool) : Int := match a, b with | true, _ => -1 | false, true => 1 | false, false => 0
theorem sign_int {a b : Int} (h : (a != b) = true) : signF (decide (a < b)) true = cmpI a b := by
  have h0 : a ≠ b := by simpa using h
  unfold cmpI signF
  by_cases h1 : a < b
  · rw [decide_eq_true h1, if_pos h1]
  · rw [decide_eq_false h1, if_neg h1, if_pos (by omega)]
theorem sign_str (a b : ByteArray) : signF (Op.bytesLess a.toList b.toList) (Op.bytesLess b.toList a.toList) = cmpS a b := by
  unfold cmpS cmpL signF
  cases Op.bytesLess a.toList b.toList <;> cases Op.bytesLess b.toList a.toList <;> rfl
attribute [irreducible] signF
theorem signF_at : signF true false = -1 ∧ signF true true = -1 ∧ signF false true = 1 ∧ signF false false = 0 := by unfold signF; exact ⟨rfl, rfl, rfl, rfl⟩

set_option maxHeartbeats 400000 in
theorem signOf (a b : Bool) (w : World) : Calls Tryz.prog 154 #[.bool a, .bool b] w fun e w' => e = .returned (.int .i64 (signF a b)) ∧ w = w' := by
  have hs := signF_at
  cases a <;> cases b
  all_goals
    go_enter Tryz.func154, Tryz.ntmps154
    go_wp2
    go_ret
    exact ⟨ret_int (by simp only [hs]), rfl⟩

theorem gt_bl (a b : ByteArray) : (!(Op.bytesLess a.toList b.toList || a.toList == b.toList)) = Op.bytesLess b.toList a.toList := by rw [bl_total, Bool.not_not]

set_option maxRecDepth 100000 in
set_option maxHeartbeats 3200000 in
theorem implCompareKeys (cs ds : List Value) (x y : DKey) (w : World) (h : Reads DKey.rep w cs x) (h' : Reads DKey.rep w ds y) :
    Calls Tryz.prog 110 #[.agg cs.toArray, .agg ds.toArray] w fun e w' => e = .returned (.int .i64 (cmpKeysF x y)) ∧ Below w.heap.size w w' := by
  have HX := Lib.hid h
  have HY := Lib.hid h'
  obtain ⟨f1, h⟩ := h
  obtain ⟨rfl, _, s0⟩ := DKey.rd.1 h
  obtain ⟨f2, h'⟩ := h'
  obtain ⟨rfl, _, s1⟩ := DKey.rd.1 h'
  clear h h'
  go_enter Tryz.func110, Tryz.ntmps110
  go_wp2_with fail
  refine (implIsKey _ x _ (HX.out.below bEl)).mono ?_
  rintro e w1 ⟨rfl, hb⟩
  have VX : Hid (WB w1 w.heap.size #[.int .i64 x.kind, .int .i64 x.n, .string x.text]) := Lib.hid ((WB.at rfl).growA.keep hb)
  have VY : Hid (WB w1 (w.heap.size + 1) #[.int .i64 y.kind, .int .i64 y.n, .string y.text]) := Lib.hid ((WB.at (by simp)).keep hb)
  have HB : Hid (Below w.heap.size w w1) := Lib.hid (below_call bEl bSz hb)
  clear hb
  have ⟨c_VX, z_VX, f_VX⟩ := VX.out
  have ⟨c_VY, z_VY, f_VY⟩ := VY.out
  cases k1 : isKeyF x
  · have e := Lib.hid (show cmpKeysF x y = 0 by rw [cmpKeysF, k1]; rfl)
    go_wp2
    go_ret
    exact ⟨ret_int e.out.symm, HB.out⟩
  · go_wp2_with fail
    refine (implIsKey _ y _ (HY.out.below HB.out)).mono ?_
    rintro e w2 ⟨rfl, hq⟩
    clear c_VX z_VX f_VX c_VY z_VY f_VY
    replace VX := Lib.hid (VX.out.keep hq)
    replace VY := Lib.hid (VY.out.keep hq)
    replace HB := Lib.hid (HB.out.trans (hq.mono HB.out.size))
    clear hq
    have ⟨c_VX, z_VX, f_VX⟩ := VX.out
    have ⟨c_VY, z_VY, f_VY⟩ := VY.out
    cases k2 : isKeyF y
    · have e := Lib.hid (show cmpKeysF x y = 0 by rw [cmpKeysF, k1, k2]; rfl)
      go_wp2
      go_ret
      exact ⟨ret_int e.out.symm, HB.out⟩
    · have E : Hid (cmpKeysF x y = (if x.kind != y.kind then cmpI x.kind y.kind else if x.n != y.n then cmpI x.n y.n else cmpS x.text y.text)) := Lib.hid (by rw [cmpKeysF, k1, k2]; rfl)
      clear k1 k2
      cases n1 : (x.kind != y.kind)
      · have hc : cmpI x.kind y.kind = 0 := by
          have : x.kind = y.kind := by simpa using n1
          rw [this]; unfold cmpI; simp
        have HC := Lib.hid hc; clear hc
        cases n2 : (x.n != y.n)
        · have hc2 : cmpI x.n y.n = 0 := by
            have : x.n = y.n := by simpa using n2
            rw [this]; unfold cmpI; simp
          have HC2 := Lib.hid hc2; clear hc2
          rw [n1, n2] at E
          clear n1 n2
          have h1 := HC.out
          have h2 := HC2.out
          go_wp2_with (first | (go_at_call 145; refine (compareInts _ _ _).mono ?_; rintro e w' ⟨rfl, rfl⟩) | (go_at_call 146; refine (stringsCompare _ _ _).mono ?_; rintro e w' ⟨rfl, rfl⟩))
          go_ret
          exact ⟨ret_int E.out.symm, HB.out⟩
        · have hc2 : (cmpI x.n y.n != 0) = true := by
            have : x.n ≠ y.n := by simpa using n2
            unfold cmpI; simp; omega
          rw [n1, n2] at E
          clear n1 n2
          have h1 := HC.out
          go_wp2_with (first | (go_at_call 145; refine (compareInts _ _ _).mono ?_; rintro e w' ⟨rfl, rfl⟩))
          go_ret
          exact ⟨ret_int E.out.symm, HB.out⟩
      · have hc : (cmpI x.kind y.kind != 0) = true := by
          have : x.kind ≠ y.kind := by simpa using n1
          unfold cmpI; simp; omega
        rw [n1] at E
        clear n1
        go_wp2_with (first | (go_at_call 145; refine (compareInts _ _ _).mono ?_; rintro e w' ⟨rfl, rfl⟩))
        go_ret
        exact ⟨ret_int E.out.symm, HB.out⟩

set_option maxRecDepth 100000 in
set_option maxHeartbeats 3200000 in
theorem specCompareKeys (cs ds : List Value) (x y : DKey) (w : World) (h : Reads DKey.rep w cs x) (h' : Reads DKey.rep w ds y) :
    Calls Tryz.prog 125 #[.agg cs.toArray, .agg ds.toArray] w fun e w' => e = .returned (.int .i64 (cmpKeysF x y)) ∧ Below w.heap.size w w' := by
  have HX := Lib.hid h
  have HY := Lib.hid h'
  obtain ⟨f1, h⟩ := h
  obtain ⟨rfl, _, s0⟩ := DKey.rd.1 h
  obtain ⟨f2, h'⟩ := h'
  obtain ⟨rfl, _, s1⟩ := DKey.rd.1 h'
  clear h h'
  go_enter Tryz.func125, Tryz.ntmps125
  go_wp2_with fail
  refine (specIsKey _ x _ (HX.out.below bEl)).mono ?_
  rintro e w1 ⟨rfl, hb⟩
  have VX : Hid (WB w1 w.heap.size #[.int .i64 x.kind, .int .i64 x.n, .string x.text]) := Lib.hid ((WB.at rfl).growA.keep hb)
  have VY : Hid (WB w1 (w.heap.size + 1) #[.int .i64 y.kind, .int .i64 y.n, .string y.text]) := Lib.hid ((WB.at (by simp)).keep hb)
  have HB : Hid (Below w.heap.size w w1) := Lib.hid (below_call bEl bSz hb)
  clear hb
  have ⟨c_VX, z_VX, f_VX⟩ := VX.out
  have ⟨c_VY, z_VY, f_VY⟩ := VY.out
  cases k1 : isKeyF x
  · have e := Lib.hid (show cmpKeysF x y = 0 by rw [cmpKeysF, k1]; rfl)
    go_wp2
    go_ret
    exact ⟨ret_int e.out.symm, HB.out⟩
  · go_wp2_with fail
    refine (specIsKey _ y _ (HY.out.below HB.out)).mono ?_
    rintro e w2 ⟨rfl, hq⟩
    clear c_VX z_VX f_VX c_VY z_VY f_VY
    replace VX := Lib.hid (VX.out.keep hq)
    replace VY := Lib.hid (VY.out.keep hq)
    replace HB := Lib.hid (HB.out.trans (hq.mono HB.out.size))
    clear hq
    have ⟨c_VX, z_VX, f_VX⟩ := VX.out
    have ⟨c_VY, z_VY, f_VY⟩ := VY.out
    cases k2 : isKeyF y
    · have e := Lib.hid (show cmpKeysF x y = 0 by rw [cmpKeysF, k1, k2]; rfl)
      go_wp2
      go_ret
      exact ⟨ret_int e.out.symm, HB.out⟩
    · have E : Hid (cmpKeysF x y = (if x.kind != y.kind then cmpI x.kind y.kind else if x.n != y.n then cmpI x.n y.n else cmpS x.text y.text)) := Lib.hid (by rw [cmpKeysF, k1, k2]; rfl)
      clear k1 k2
      have g1 := gt_bl x.text y.text
      cases n1 : (x.kind != y.kind)
      · cases n2 : (x.n != y.n)
        · rw [n1, n2] at E
          go_wp2_with (go_at_call 154; refine (signOf _ _ _).mono ?_; rintro e w' ⟨rfl, rfl⟩)
          go_ret
          exact ⟨ret_int ((sign_str _ _).trans E.out.symm), HB.out⟩
        · rw [n1, n2] at E
          have HN := Lib.hid n2
          go_wp2_with (go_at_call 154; refine (signOf _ _ _).mono ?_; rintro e w' ⟨rfl, rfl⟩)
          go_ret
          exact ⟨ret_int ((sign_int HN.out).trans E.out.symm), HB.out⟩
      · rw [n1] at E
        have HN := Lib.hid n1
        go_wp2_with (go_at_call 154; refine (signOf _ _ _).mono ?_; rintro e w' ⟨rfl, rfl⟩)
        go_ret
        exact ⟨ret_int ((sign_int HN.out).trans E.out.symm), HB.out⟩

end Go.Proofs.YtlfebehpmefioaaGreat

/-
  IsStore.
-/
namespace Go.Proofs.YtlfebehpmefioaaGreat
open Go.RowKit

def itemBad (l : List DItem) (i : Nat) : Bool := match l[i]?, l[i - 1]? with | some f, some g => decide (0 ≤ cmpKeysF g.key f.key) | _, _ => false
def itemOk (x : DStore) (i : Nat) : Bool := match x.items[i]? with | none => true | some f => isKeyF f.key && (isRecordF f.record && !(decide (0 < i) && itemBad x.items i))
def isStoreF (x : DStore) : Bool := (List.range x.items.length).all (itemOk x) && (isWordF x.name 8 false && (decide (x.items.length ≤ 16) && within x.auto 0 1000000))
theorem itemBad_at {l : List DItem} {i : Nat} (hi : i < l.length) : itemBad l i = decide (0 ≤ cmpKeysF l[i - 1].key l[i].key) := by
  unfold itemBad; rw [List.getElem?_eq_getElem hi, List.getElem?_eq_getElem (show i - 1 < l.length by omega)]
theorem itemOk_at {x : DStore} {i : Nat} (hi : i < x.items.length) : itemOk x i = (isKeyF x.items[i].key && (isRecordF x.items[i].record && !(decide (0 < i) && itemBad x.items i))) := by
  unfold itemOk; rw [List.getElem?_eq_getElem hi]
theorem store_no {x : DStore} {i : Nat} (hi : i < x.items.length) (h : itemOk x i = false) : isStoreF x = false := by
  have : (List.range x.items.length).all (itemOk x) = false := List.all_eq_false.2 ⟨i, List.mem_range.2 hi, by rw [h]; simp⟩
  rw [isStoreF, this, Bool.false_and]
theorem store_yes {x : DStore} {k : Nat} (hk : ¬ k < x.items.length) (h : ∀ i, i < k → itemOk x i = true) : isStoreF x = (isWordF x.name 8 false && (decide (x.items.length ≤ 16) && within x.auto 0 1000000)) := by
  have : (List.range x.items.length).all (itemOk x) = true := List.all_eq_true.2 fun i hi => h i (by have := List.mem_range.1 hi; omega)
  rw [isStoreF, this, Bool.true_and]
attribute [irreducible] itemOk itemBad
attribute [local irreducible] cmpKeysF

set_option maxRecDepth 100000 in
set_option maxHeartbeats 6400000 in
theorem implIsStore (cs : List Value) (x : DStore) (w : World) (h : Reads DStore.rep w cs x) :
    Calls Tryz.prog 61 #[.agg cs.toArray] w fun e w' => e = .returned (.bool (isStoreF x)) ∧ Below w.heap.size w w' := by
  obtain ⟨fp_q, h⟩ := h
  obtain ⟨q_v1, q_f1, rfl, _, q_s0, q_r1⟩ := DStore.rd.1 h
  obtain ⟨q_a1, q_c1, rfl, q_hm1, q_lc1, q_hu1⟩ := slice_open q_r1; clear q_hu1
  have q_K1 : Hid (Reads (Rep.slice 71 DItem.rep) w [.slice q_a1 x.items.length q_c1] x.items) := ⟨_, q_r1⟩
  clear q_r1 h
  go_enter Tryz.func61, Tryz.ntmps61
  go_wp2
  go_loopw [8] (fun i wr => ∃ k : Nat, k ≤ x.items.length ∧ i = .int .i64 k ∧ Hid (∀ i, i < k → itemOk x i = true) ∧ WB wr w.heap.size #[.string x.name, .slice q_a1 x.items.length q_c1, .int .i64 x.auto] ∧ Below w.heap.size w wr) (fun i _ => x.items.length - (intOf i).toNat)
  case atStart => exact ⟨0, by omega, rfl, Lib.hid (by intro i hi; omega), WB.at rfl, bEl⟩
  case round =>
    obtain ⟨k, hk, rfl, HA, hx, hb⟩ := hrel
    have HB := Lib.hid hb; clear hb
    have HX := Lib.hid hx
    clear hx
    have ⟨c_HX, z_HX, f_HX⟩ := HX.out
    by_cases hlt : k < x.items.length
    · have eo := Lib.hid (itemOk_at hlt)
      have hlt' : k - 1 < x.items.length := by omega
      obtain ⟨b, off, cs_b, rfl, hw_b, hr_b, hcell_b⟩ := slice_at (q_K1.out.below HB.out) k hlt
      obtain ⟨fe_b, hrd_b⟩ := hr_b
      have HR_b : Hid (Reads DItem.rep wr cs_b x.items[k]) := ⟨_, hrd_b⟩
      obtain ⟨b_v1, b_f1, rfl, _, b_s0, b_r1⟩ := DItem.rd.1 hrd_b
      obtain ⟨b_a1, b_k1, rfl, _⟩ := slice_open b_r1
      have b_R1 : Hid (Reads (Rep.slice 112 DField.rep) wr [.slice b_a1 x.items[k].record.fields.length b_k1] x.items[k].record.fields) := ⟨_, b_r1⟩
      clear b_r1
      clear hrd_b
      have b_c0 : wr.cell? ⟨b, off + k * 4, none⟩ = some (.int .i64 x.items[k].key.kind) := hcell_b 0 (by decide)
      have b_c1 : wr.cell? ⟨b, off + k * 4 + 1, none⟩ = some (.int .i64 x.items[k].key.n) := hcell_b 1 (by decide)
      have b_c2 : wr.cell? ⟨b, off + k * 4 + 2, none⟩ = some (.string x.items[k].key.text) := hcell_b 2 (by decide)
      have b_c3 : wr.cell? ⟨b, off + k * 4 + 3, none⟩ = some (.slice b_a1 x.items[k].record.fields.length b_k1) := hcell_b 3 (by decide)
      clear hcell_b
      obtain ⟨cs2, _, ⟨_, hrd2⟩, hcell2⟩ := slice_at' (q_K1.out.below HB.out) (k - 1) hlt'
      obtain ⟨v2, _, rfl, _, s2, _⟩ := DItem.rd.1 hrd2
      have c_c0 : wr.cell? ⟨b, off + (k - 1) * 4, none⟩ = some (.int .i64 x.items[k - 1].key.kind) := hcell2 0 (by decide)
      have c_c1 : wr.cell? ⟨b, off + (k - 1) * 4 + 1, none⟩ = some (.int .i64 x.items[k - 1].key.n) := hcell2 1 (by decide)
      have c_c2 : wr.cell? ⟨b, off + (k - 1) * 4 + 2, none⟩ = some (.string x.items[k - 1].key.text) := hcell2 2 (by decide)
      clear hcell2 hrd2
      have HKk : Hid (∀ W, Reads DKey.rep W [.int .i64 x.items[k].key.kind, .int .i64 x.items[k].key.n, .string x.items[k].key.text] x.items[k].key) := Lib.hid fun W => ⟨[], DKey.rd.2 ⟨rfl, rfl, b_s0⟩⟩
      have HKj : Hid (∀ W, Reads DKey.rep W [.int .i64 x.items[k - 1].key.kind, .int .i64 x.items[k - 1].key.n, .string x.items[k - 1].key.text] x.items[k - 1].key) := Lib.hid fun W => ⟨[], DKey.rd.2 ⟨rfl, rfl, s2⟩⟩
      have HRr : Hid (∀ W, Below wr.heap.size wr W → Reads DRecord.rep W [.slice b_a1 x.items[k].record.fields.length b_k1] x.items[k].record) := Lib.hid fun W hW => Reads.below (R := DRecord.rep) b_R1.out hW
      clear HR_b
      have j1 : (0 : Int) ≤ (k : Int) := by omega
      have j3 : (k : Int) < (x.items.length : Int) := by omega
      cases n1 : isKeyF x.items[k].key
      case' true => cases n2 : isRecordF x.items[k].record
      case' true.true => cases n3 : decide (0 < k)
      case' true.true.true => cases n4 : itemBad x.items k
      all_goals
        first | (have hk0 := of_decide_eq_true n3; have hw : IntKind.i64.wrap ((k : Int) - 1) = ((k - 1 : Nat) : Int) := by rw [Go.IntWalk.i64_in _ (by omega)]; omega) | (have hw : True := trivial)
        have j4 : (0 : Int) ≤ ((k - 1 : Nat) : Int) := by omega
        have j5 : ((k - 1 : Nat) : Int) < (x.items.length : Int) := by omega
        first | (have n5 := (itemBad_at hlt).symm.trans n4) | (have n5 : True := trivial)
        go_wp2_with fail
        refine settle (fun W => WB W wr.heap.size #[.int .i64 x.items[k].key.kind, .int .i64 x.items[k].key.n, .string x.items[k].key.text, .slice b_a1 x.items[k].record.fields.length b_k1] ∧ WB W w.heap.size #[.string x.name, .slice (some ⟨b, off, none⟩) x.items.length q_c1, .int .i64 x.auto] ∧ Below wr.heap.size wr W) ⟨WB.at rfl, HX.out.growA, bEl⟩ ?_
        rintro w0 ⟨hy, hx0, hb0⟩
        have K0 := rg_var hx0
        have K1 := rg_var hy
        have C2 := rg_cell ((hb0.cell (block_lt_of_cell c_c0)).trans c_c0)
        have C7 := rg_cell ((hb0.cell (block_lt_of_cell c_c1)).trans c_c1)
        have C8 := rg_cell ((hb0.cell (block_lt_of_cell c_c2)).trans c_c2)
        have HQ : Hid (∀ p, Below wr.heap.size wr (rg w0 p)) := Lib.hid fun p => hb0.trans ((rg_below w0 p).mono hb0.size)
        refine wp_region_rg (by kernel_rfl) (by kernel_rfl) ?_
        repeat (go_big_quiet_step ((first | (go_at_call 92; exact calls_rg (implIsKey _ x.items[k].key _ (HKk.out _))) | (go_at_call 106; exact calls_rg (implIsRecord _ x.items[k].record _ (HRr.out _ (HQ.out _)))) | (go_at_call 110; exact calls_rg (implCompareKeys _ _ x.items[k - 1].key x.items[k].key _ (HKj.out _) (HKk.out _))))))
        refine wpQuiet_nil ?_
        rintro _ ⟨pq, rfl⟩
        clear K0 K1 C2 C7 C8 hw n5 HQ
        have HB1 := Lib.hid (hb0.trans ((rg_below w0 pq).mono hb0.size))
        clear hb0 hy hx0
      all_goals
        first
          | (go_wp2
             go_ret
             refine ⟨ret_bool (store_no hlt ?_).symm, below_call HB.out HB.out.size HB1.out⟩
             rw [eo.out]
             first
               | (rw [n1]; rfl)
               | (rw [n1, n2]; rfl)
               | (rw [n1, n2, n3, n4]; rfl))
          | (have HK : Hid (itemOk x k = true) := Lib.hid (by
               rw [eo.out]
               first
                 | (rw [n1, n2, n3, n4]; rfl)
                 | (rw [n1, n2, n3]; rfl))
             go_wp2
             go_light
             exact ⟨⟨k + 1, by omega, by go_num, Lib.hid (all_snoc HA.out HK.out), HX.out.keep HB1.out, below_call HB.out HB.out.size HB1.out⟩, by simp [intOf]; omega⟩)
    · have he := Lib.hid (store_yes hlt HA.out)
      cases m1 : isWordF x.name 8 false
      case' true => cases m2 : decide (x.items.length ≤ 16)
      all_goals
        first | (have m3 := of_decide_eq_true m2) | (have m3 := of_decide_eq_false m2) | skip
        go_wp2_with (first | (go_at_call 93; refine (implIsName _ q_s0 _).mono ?_; rintro e w' ⟨rfl, rfl⟩) | (go_at_call 60; refine (implInRange _ _ _ _).mono ?_; rintro e w' ⟨rfl, rfl⟩))
        go_ret
        refine ⟨ret_bool ?_, HB.out⟩
        rw [he.out]
        first
          | (rw [m1]; rfl)
          | (rw [m1, m2]; rfl)

set_option maxRecDepth 100000 in
set_option maxHeartbeats 6400000 in
theorem specIsStore (cs : List Value) (x : DStore) (w : World) (h : Reads DStore.rep w cs x) :
    Calls Tryz.prog 77 #[.agg cs.toArray] w fun e w' => e = .returned (.bool (isStoreF x)) ∧ Below w.heap.size w w' := by
  obtain ⟨fp_q, h⟩ := h
  obtain ⟨q_v1, q_f1, rfl, _, q_s0, q_r1⟩ := DStore.rd.1 h
  obtain ⟨q_a1, q_c1, rfl, q_hm1, q_lc1, q_hu1⟩ := slice_open q_r1; clear q_hu1
  have q_K1 : Hid (Reads (Rep.slice 71 DItem.rep) w [.slice q_a1 x.items.length q_c1] x.items) := ⟨_, q_r1⟩
  clear q_r1 h
  go_enter Tryz.func77, Tryz.ntmps77
  go_wp2
  go_loopw [3] (fun i wr => ∃ k : Nat, k ≤ x.items.length ∧ i = .int .i64 k ∧ Hid (∀ i, i < k → itemOk x i = true) ∧ WB wr w.heap.size #[.string x.name, .slice q_a1 x.items.length q_c1, .int .i64 x.auto] ∧ Below w.heap.size w wr) (fun i _ => x.items.length - (intOf i).toNat)
  case atStart => exact ⟨0, by omega, rfl, Lib.hid (by intro i hi; omega), WB.at rfl, bEl⟩
  case round =>
    obtain ⟨k, hk, rfl, HA, hx, hb⟩ := hrel
    have HB := Lib.hid hb; clear hb
    have HX := Lib.hid hx
    clear hx
    have ⟨c_HX, z_HX, f_HX⟩ := HX.out
    by_cases hlt : k < x.items.length
    · have eo := Lib.hid (itemOk_at hlt)
      have hlt' : k - 1 < x.items.length := by omega
      obtain ⟨b, off, cs_b, rfl, hw_b, hr_b, hcell_b⟩ := slice_at (q_K1.out.below HB.out) k hlt
      obtain ⟨fe_b, hrd_b⟩ := hr_b
      have HR_b : Hid (Reads DItem.rep wr cs_b x.items[k]) := ⟨_, hrd_b⟩
      obtain ⟨b_v1, b_f1, rfl, _, b_s0, b_r1⟩ := DItem.rd.1 hrd_b
      obtain ⟨b_a1, b_k1, rfl, _⟩ := slice_open b_r1
      have b_R1 : Hid (Reads (Rep.slice 112 DField.rep) wr [.slice b_a1 x.items[k].record.fields.length b_k1] x.items[k].record.fields) := ⟨_, b_r1⟩
      clear b_r1
      clear hrd_b
      have b_c0 : wr.cell? ⟨b, off + k * 4, none⟩ = some (.int .i64 x.items[k].key.kind) := hcell_b 0 (by decide)
      have b_c1 : wr.cell? ⟨b, off + k * 4 + 1, none⟩ = some (.int .i64 x.items[k].key.n) := hcell_b 1 (by decide)
      have b_c2 : wr.cell? ⟨b, off + k * 4 + 2, none⟩ = some (.string x.items[k].key.text) := hcell_b 2 (by decide)
      have b_c3 : wr.cell? ⟨b, off + k * 4 + 3, none⟩ = some (.slice b_a1 x.items[k].record.fields.length b_k1) := hcell_b 3 (by decide)
      clear hcell_b
      obtain ⟨cs2, _, ⟨_, hrd2⟩, hcell2⟩ := slice_at' (q_K1.out.below HB.out) (k - 1) hlt'
      obtain ⟨v2, _, rfl, _, s2, _⟩ := DItem.rd.1 hrd2
      have c_c0 : wr.cell? ⟨b, off + (k - 1) * 4, none⟩ = some (.int .i64 x.items[k - 1].key.kind) := hcell2 0 (by decide)
      have c_c1 : wr.cell? ⟨b, off + (k - 1) * 4 + 1, none⟩ = some (.int .i64 x.items[k - 1].key.n) := hcell2 1 (by decide)
      have c_c2 : wr.cell? ⟨b, off + (k - 1) * 4 + 2, none⟩ = some (.string x.items[k - 1].key.text) := hcell2 2 (by decide)
      clear hcell2 hrd2
      have HKk : Hid (∀ W, Reads DKey.rep W [.int .i64 x.items[k].key.kind, .int .i64 x.items[k].key.n, .string x.items[k].key.text] x.items[k].key) := Lib.hid fun W => ⟨[], DKey.rd.2 ⟨rfl, rfl, b_s0⟩⟩
      have HKj : Hid (∀ W, Reads DKey.rep W [.int .i64 x.items[k - 1].key.kind, .int .i64 x.items[k - 1].key.n, .string x.items[k - 1].key.text] x.items[k - 1].key) := Lib.hid fun W => ⟨[], DKey.rd.2 ⟨rfl, rfl, s2⟩⟩
      have HRr : Hid (∀ W, Below wr.heap.size wr W → Reads DRecord.rep W [.slice b_a1 x.items[k].record.fields.length b_k1] x.items[k].record) := Lib.hid fun W hW => Reads.below (R := DRecord.rep) b_R1.out hW
      clear HR_b
      have j1 : (0 : Int) ≤ (k : Int) := by omega
      have j3 : (k : Int) < (x.items.length : Int) := by omega
      cases n1 : isKeyF x.items[k].key
      case' true => cases n2 : isRecordF x.items[k].record
      case' true.true => cases n3 : decide (0 < k)
      case' true.true.true => cases n4 : itemBad x.items k
      all_goals
        first | (have hk0 := of_decide_eq_true n3; have hw : IntKind.i64.wrap ((k : Int) - 1) = ((k - 1 : Nat) : Int) := by rw [Go.IntWalk.i64_in _ (by omega)]; omega) | (have hw : True := trivial)
        have j4 : (0 : Int) ≤ ((k - 1 : Nat) : Int) := by omega
        have j5 : ((k - 1 : Nat) : Int) < (x.items.length : Int) := by omega
        first | (have n5 := (itemBad_at hlt).symm.trans n4) | (have n5 : True := trivial)
        go_wp2_with fail
        have K0 := rg_var HX.out
        have C3 := rg_cell b_c0
        have C4 := rg_cell b_c1
        have C5 := rg_cell b_c2
        have C6 := rg_cell b_c3
        have C2 := rg_cell c_c0
        have C7 := rg_cell c_c1
        have C8 := rg_cell c_c2
        have HQ : Hid (∀ p, Below wr.heap.size wr (rg wr p)) := Lib.hid fun p => rg_below wr p
        refine wp_region_rg (by kernel_rfl) (by kernel_rfl) ?_
        repeat (go_big_quiet_step ((first | (go_at_call 100; exact calls_rg (specIsKey _ x.items[k].key _ (HKk.out _))) | (go_at_call 124; exact calls_rg (specIsRecord _ x.items[k].record _ (HRr.out _ (HQ.out _)))) | (go_at_call 125; exact calls_rg (specCompareKeys _ _ x.items[k - 1].key x.items[k].key _ (HKj.out _) (HKk.out _))))))
        refine wpQuiet_nil ?_
        rintro _ ⟨pq, rfl⟩
        clear K0 C3 C4 C5 C6 C2 C7 C8 hw n5 HQ
        have HB1 := Lib.hid (rg_below wr pq)
      all_goals
        first
          | (go_wp2
             go_ret
             refine ⟨ret_bool (store_no hlt ?_).symm, below_call HB.out HB.out.size HB1.out⟩
             rw [eo.out]
             first
               | (rw [n1]; rfl)
               | (rw [n1, n2]; rfl)
               | (rw [n1, n2, n3, n4]; rfl))
          | (have HK : Hid (itemOk x k = true) := Lib.hid (by
               rw [eo.out]
               first
                 | (rw [n1, n2, n3, n4]; rfl)
                 | (rw [n1, n2, n3]; rfl))
             go_wp2
             go_light
             exact ⟨⟨k + 1, by omega, by go_num, Lib.hid (all_snoc HA.out HK.out), HX.out.keep HB1.out, below_call HB.out HB.out.size HB1.out⟩, by simp [intOf]; omega⟩)
    · have he := Lib.hid (store_yes hlt HA.out)
      cases m1 : isWordF x.name 8 false
      case' true => cases m2 : decide (x.items.length ≤ 16)
      all_goals
        first | (have m3 := of_decide_eq_true m2) | (have m3 := of_decide_eq_false m2) | skip
        go_wp2_with (first | (go_at_call 101; refine (specIsName _ q_s0 _).mono ?_; rintro e w' ⟨rfl, rfl⟩) | (go_at_call 78; refine (specIn _ _ _ _).mono ?_; rintro e w' ⟨rfl, rfl⟩))
        go_ret
        refine ⟨ret_bool ?_, HB.out⟩
        rw [he.out]
        first
          | (rw [m1]; rfl)
          | (rw [m1, m2]; rfl)

end Go.Proofs.YtlfebehpmefioaaGreat

/-
  Plain laws of records and stores: a field set, an item put, by the program's road and by the reference's. No function of the program is named here.
-/
namespace Go.Proofs.YtlfebehpmefioaaGreat
open Go.RowKit

def lead {α : Type} (p : α → Bool) : List α → Nat
  | [] => 0
  | x :: l => if p x then lead p l + 1 else 0
def insAt {α : Type} (l : List α) (k : Nat) (x : α) : List α := l.take k ++ x :: l.drop k
theorem lead_le {α : Type} (p : α → Bool) : ∀ (l : List α), lead p l ≤ l.length
  | [] => Nat.le_refl _
  | x :: l => by have := lead_le p l; unfold lead; split <;> simp <;> omega
theorem lead_lo {α : Type} (p : α → Bool) : ∀ (l : List α) (j : Nat) (hj : j < l.length), j < lead p l → p l[j] = true
  | [], _, hj, _ => by simp at hj
  | x :: l, 0, _, h => by
    unfold lead at h
    split at h
    · assumption
    · omega
  | x :: l, j + 1, hj, h => by
    unfold lead at h
    split at h
    · exact lead_lo p l j (by simpa using hj) (by omega)
    · omega
theorem lead_hi {α : Type} (p : α → Bool) : ∀ (l : List α) (h : lead p l < l.length), p l[lead p l] = false
  | [], h => by simp at h
  | x :: l, h => by
    by_cases hx : p x = true
    · have e : lead p (x :: l) = lead p l + 1 := by rw [lead, if_pos hx]
      have h' : lead p l < l.length := by rw [e] at h; simpa using h
      have := lead_hi p l h'
      simp only [e, List.getElem_cons_succ]; exact this
    · have e : lead p (x :: l) = 0 := by rw [lead, if_neg hx]
      simp only [e, List.getElem_cons_zero]; simpa using hx
theorem lead_eq {α : Type} {p : α → Bool} {l : List α} {k : Nat} (hk : k ≤ l.length) (hlo : ∀ j, (hj : j < l.length) → j < k → p l[j] = true) (hhi : ∀ h : k < l.length, p l[k] = false) : lead p l = k := by
  rcases Nat.lt_trichotomy (lead p l) k with h | h | h
  · have h1 := lead_hi p l (by omega)
    rw [hlo _ (by omega) h] at h1; cases h1
  · exact h
  · have hl := lead_le p l
    have h1 := lead_lo p l k (by omega) h
    rw [hhi (by omega)] at h1; cases h1
theorem insAt_length {α : Type} {l : List α} {k : Nat} (hk : k ≤ l.length) (x : α) : (insAt l k x).length = l.length + 1 := by
  unfold insAt; simp; omega
theorem insAt_lo {α : Type} {l : List α} {k j : Nat} (x : α) (hk : k ≤ l.length) (hj : j < k) : (insAt l k x)[j]? = l[j]? := by
  unfold insAt
  rw [List.getElem?_append_left (by simp; omega), List.getElem?_take_of_lt hj]
theorem insAt_at {α : Type} {l : List α} {k : Nat} (x : α) (hk : k ≤ l.length) : (insAt l k x)[k]? = some x := by
  unfold insAt
  rw [List.getElem?_append_right (by simp; omega)]
  simp [Nat.min_eq_left hk]
theorem insAt_hi {α : Type} {l : List α} {k j : Nat} (x : α) (hk : k ≤ l.length) (hj : k < j) : (insAt l k x)[j]? = l[j - 1]? := by
  unfold insAt
  rw [List.getElem?_append_right (by simp; omega)]
  have e : j - (l.take k).length = (j - k - 1) + 1 := by simp [Nat.min_eq_left hk]; omega
  rw [e, List.getElem?_cons_succ, List.getElem?_drop]
  congr 1; omega

theorem bl_irr (x : List UInt8) : Op.bytesLess x x = false := by
  have h := bl_total x x
  have e : (x == x) = true := by simp
  rw [e, Bool.or_true] at h
  cases hx : Op.bytesLess x x
  · rfl
  · rw [hx] at h; cases h
theorem bl_trans : ∀ (x y z : List UInt8), Op.bytesLess x y = true → Op.bytesLess y z = true → Op.bytesLess x z = true
  | [], [], _, h, _ => by simp [Op.bytesLess] at h
  | [], _ :: _, [], _, h => by simp [Op.bytesLess] at h
  | [], _ :: _, _ :: _, _, _ => rfl
  | _ :: _, [], _, h, _ => by simp [Op.bytesLess] at h
  | _ :: _, _ :: _, [], _, h => by simp [Op.bytesLess] at h
  | a :: x, b :: y, c :: z, h1, h2 => by
    have ih := bl_trans x y z
    simp only [Op.bytesLess, Bool.or_eq_true, decide_eq_true_eq, Bool.and_eq_true, beq_iff_eq] at h1 h2 ⊢
    rcases h1 with h1 | ⟨rfl, h1⟩
    · rcases h2 with h2 | ⟨rfl, h2⟩
      · exact .inl (UInt8.lt_trans h1 h2)
      · exact .inl h1
    · rcases h2 with h2 | ⟨rfl, h2⟩
      · exact .inl h2
      · exact .inr ⟨rfl, ih h1 h2⟩

/-! ### Records -/

def namedAs (name : ByteArray) (f : DField) : Bool := f.name.toList == name.toList
def fieldLess (name : ByteArray) (f : DField) : Bool := Op.bytesLess f.name.toList name.toList
def putField (r : DRecord) (n : Int) (i : Nat) : DRecord := match r.fields[i]? with | some f => ⟨r.fields.set i ⟨f.name, n⟩⟩ | none => r
def insField (r : DRecord) (name : ByteArray) (n : Int) : DRecord := ⟨insAt r.fields (lead (fieldLess name) r.fields) ⟨name, n⟩⟩
def setFieldI (r : DRecord) (name : ByteArray) (n : Int) : DRecord := match r.fields.findIdx? (namedAs name) with | some i => putField r n i | none => insField r name n
def setFieldS (r : DRecord) (name : ByteArray) (n : Int) : DRecord := match r.fields[lead (fieldLess name) r.fields]? with | some f => if namedAs name f then putField r n (lead (fieldLess name) r.fields) else insField r name n | none => insField r name n
def setFieldB (r : DRecord) (name : ByteArray) (n : Int) : Bool := isRecordF r && isRecordF (setFieldI r name n)
def setFieldF (r : DRecord) (name : ByteArray) (n : Int) : DRecord := if setFieldB r name n then setFieldI r name n else r

theorem record_sorted {r : DRecord} (h : isRecordF r = true) : ∀ (i j : Nat) (hj : j < r.fields.length) (hij : i < j), Op.bytesLess (r.fields[i]'(by omega)).name.toList r.fields[j].name.toList = true := by
  rw [isRecordF, Bool.and_eq_true, List.all_eq_true] at h
  have hn : ∀ j, (hj : j + 1 < r.fields.length) → Op.bytesLess (r.fields[j]'(by omega)).name.toList r.fields[j + 1].name.toList = true := by
    intro j hj
    have h1 := h.1 (j + 1) (List.mem_range.2 hj)
    rw [recOk_at hj] at h1
    simp only [Bool.and_eq_true, Bool.not_eq_true', Bool.and_eq_false_iff, decide_eq_false_iff_not] at h1
    rcases h1.2.2 with h2 | h2
    · omega
    · rw [recBad_at hj] at h2
      simpa using h2
  intro i j hj hij
  obtain ⟨d, rfl⟩ : ∃ d, j = i + d + 1 := ⟨j - i - 1, by omega⟩
  induction d with
  | zero => exact hn i hj
  | succ d ih => exact bl_trans _ _ _ (ih (by omega) (by omega)) (hn (i + d + 1) hj)

theorem setField_same {r : DRecord} (name : ByteArray) (n : Int) (h : isRecordF r = true) : setFieldS r name n = setFieldI r name n := by
  unfold setFieldS setFieldI
  rcases hf : r.fields.findIdx? (namedAs name) with _ | i
  · rw [List.findIdx?_eq_none_iff] at hf
    rcases hg : r.fields[lead (fieldLess name) r.fields]? with _ | f
    · rfl
    · have hm := List.mem_of_getElem? hg
      simp only [hf f hm, Bool.false_eq_true, if_false]
  · obtain ⟨hi, h1, h2⟩ := List.findIdx?_eq_some_iff_getElem.1 hf
    have e : lead (fieldLess name) r.fields = i := by
      refine lead_eq (by omega) (fun j hj hji => ?_) fun hi' => ?_
      · have h3 := record_sorted h j i hi hji
        unfold namedAs at h1
        rw [beq_iff_eq.1 h1] at h3
        exact h3
      · unfold namedAs at h1
        unfold fieldLess
        rw [beq_iff_eq.1 h1]
        exact bl_irr _
    rw [e, List.getElem?_eq_getElem hi]
    simp only [h1, if_true]

/-! ### Stores -/

def keyIs (k : DKey) (x : DItem) : Bool := decide (x.key = k)
def itemLess (k : DKey) (x : DItem) : Bool := decide (cmpKeysF x.key k < 0)
def autoOf (a : Int) (k : DKey) : Int := if k.kind = 1 ∧ a < k.n ∧ k.n ≤ 1000000 then k.n else a
def putAt (s : DStore) (r : DRecord) (i : Nat) : DStore := match s.items[i]? with | some x => ⟨s.name, s.items.set i ⟨x.key, r⟩, s.auto⟩ | none => s
def putNew (s : DStore) (k : DKey) (r : DRecord) : DStore := ⟨s.name, insAt s.items (lead (itemLess k) s.items) ⟨k, r⟩, autoOf s.auto k⟩
def putOut (s : DStore) (k : DKey) (r : DRecord) : DStore := match s.items.findIdx? (keyIs k) with | some i => putAt s r i | none => putNew s k r
def putItemB (s : DStore) (k : DKey) (r : DRecord) : Bool := isStoreF s && (isKeyF k && isStoreF (putOut s k r))
def putItemF (s : DStore) (k : DKey) (r : DRecord) : DStore := if putItemB s k r then putOut s k r else s
def putItemS (s : DStore) (k : DKey) (r : DRecord) : Bool := isStoreF s && (isKeyF k && (isRecordF r && ((s.items.findIdx? (keyIs k)).isSome || decide (s.items.length < 16))))

theorem store_iff {x : DStore} : isStoreF x = true ↔ (∀ i, (hi : i < x.items.length) → isKeyF x.items[i].key = true ∧ isRecordF x.items[i].record = true) ∧ (∀ i, (hi : i + 1 < x.items.length) → cmpKeysF (x.items[i]'(by omega)).key x.items[i + 1].key < 0) ∧ isWordF x.name 8 false = true ∧ x.items.length ≤ 16 ∧ within x.auto 0 1000000 = true := by
  rw [isStoreF, Bool.and_eq_true, List.all_eq_true, Bool.and_eq_true, Bool.and_eq_true, decide_eq_true_eq]
  constructor
  · rintro ⟨h1, h2, h3, h4⟩
    refine ⟨fun i hi => ?_, fun i hi => ?_, h2, h3, h4⟩
    · have := h1 i (List.mem_range.2 hi)
      rw [itemOk_at hi] at this
      simp only [Bool.and_eq_true] at this
      exact ⟨this.1, this.2.1⟩
    · have := h1 (i + 1) (List.mem_range.2 hi)
      rw [itemOk_at hi, itemBad_at hi] at this
      simp only [Bool.and_eq_true, Bool.not_eq_true', Bool.and_eq_false_iff, decide_eq_false_iff_not, Nat.add_sub_cancel] at this
      rcases this.2.2 with h | h <;> omega
  · rintro ⟨h1, h2, h3, h4, h5⟩
    refine ⟨fun i hi => ?_, h3, h4, h5⟩
    have hi := List.mem_range.1 hi
    rw [itemOk_at hi, itemBad_at hi]
    obtain ⟨k1, k2⟩ := h1 i hi
    rw [k1, k2, Bool.true_and, Bool.true_and]
    rcases i with _ | i
    · rfl
    · have := h2 i hi
      simp only [Nat.add_sub_cancel, Bool.not_eq_true', Bool.and_eq_false_iff, decide_eq_false_iff_not]
      right; omega

theorem cmpI_turn {a b : Int} (h : a ≠ b) (h1 : ¬ cmpI a b < 0) : cmpI b a < 0 := by
  unfold cmpI at *
  split at h1 <;> split <;> omega
theorem cmpL_turn {a b : List UInt8} (h : a ≠ b) (h1 : ¬ cmpL a b < 0) : cmpL b a < 0 := by
  unfold cmpL at *
  have ht := bl_total a b
  cases ha : Op.bytesLess a b
  · have e : (a == b) = false := beq_eq_false_iff_ne.2 h
    rw [ha, e] at ht
    have hb : Op.bytesLess b a = true := by
      cases hb : Op.bytesLess b a
      · rw [hb] at ht; cases ht
      · rfl
    rw [if_pos hb]; decide
  · rw [ha, if_pos rfl] at h1
    exact absurd (show (-1 : Int) < 0 by decide) h1
theorem key_turn {a b : DKey} (ha : isKeyF a = true) (hb : isKeyF b = true) (h : a ≠ b) (h1 : ¬ cmpKeysF a b < 0) : cmpKeysF b a < 0 := by
  unfold cmpKeysF at *
  simp only [ha, hb, Bool.and_self, if_true] at h1 ⊢
  by_cases e1 : a.kind = b.kind
  · by_cases e2 : a.n = b.n
    · have e3 : a.text.toList ≠ b.text.toList := fun e => h (DKey.eq_iff a b |>.2 ⟨e1, e2, e⟩)
      simp only [e1, e2, bne_self_eq_false, Bool.false_eq_true, if_false] at h1 ⊢
      exact cmpL_turn e3 h1
    · have e2' : (a.n != b.n) = true := bne_iff_ne.2 e2
      have e2'' : (b.n != a.n) = true := bne_iff_ne.2 (Ne.symm e2)
      simp only [e1, e2', e2'', bne_self_eq_false, Bool.false_eq_true, if_false, if_true] at h1 ⊢
      exact cmpI_turn e2 h1
  · have e1' : (a.kind != b.kind) = true := bne_iff_ne.2 e1
    have e1'' : (b.kind != a.kind) = true := bne_iff_ne.2 (Ne.symm e1)
    simp only [e1', e1'', if_true] at h1 ⊢
    exact cmpI_turn e1 h1

theorem putAt_store {s : DStore} {r : DRecord} {i : Nat} (hs : isStoreF s = true) (hi : i < s.items.length) : isStoreF (putAt s r i) = isRecordF r := by
  obtain ⟨h1, h2, h3, h4, h5⟩ := store_iff.1 hs
  have e : putAt s r i = ⟨s.name, s.items.set i ⟨s.items[i].key, r⟩, s.auto⟩ := by unfold putAt; rw [List.getElem?_eq_getElem hi]
  have hk : ∀ j, (hj : j < s.items.length) → ((s.items.set i ⟨s.items[i].key, r⟩)[j]'(by simpa using hj)).key = s.items[j].key := by
    intro j hj
    rw [List.getElem_set]
    by_cases hij : i = j
    · subst hij; simp
    · simp [hij]
  rw [e, Bool.eq_iff_iff, store_iff]
  constructor
  · rintro ⟨k1, _⟩
    have := (k1 i (by simpa using hi)).2
    simpa using this
  · intro hr
    refine ⟨fun j hj => ?_, fun j hj => ?_, h3, by simpa using h4, h5⟩
    · have hj' : j < s.items.length := by simpa using hj
      refine ⟨by rw [hk j hj']; exact (h1 j hj').1, ?_⟩
      simp only [List.getElem_set]
      by_cases hij : i = j
      · subst hij; simpa using hr
      · simpa [hij] using (h1 j hj').2
    · have hj' : j + 1 < s.items.length := by simpa using hj
      rw [hk j (by omega), hk (j + 1) hj']
      exact h2 j hj'

theorem putNew_store {s : DStore} {k : DKey} {r : DRecord} (hs : isStoreF s = true) (hk : isKeyF k = true) (hno : ∀ x ∈ s.items, keyIs k x = false) : isStoreF (putNew s k r) = (isRecordF r && decide (s.items.length < 16)) := by
  obtain ⟨h1, h2, h3, h4, h5⟩ := store_iff.1 hs
  have hle := lead_le (itemLess k) s.items
  have hlo := lead_lo (itemLess k) s.items
  have hhi := lead_hi (itemLess k) s.items
  unfold putNew
  generalize lead (itemLess k) s.items = t at hle hlo hhi
  have hlen := insAt_length hle (⟨k, r⟩ : DItem)
  have g1 : ∀ j, (hj : j < t) → (insAt s.items t (⟨k, r⟩ : DItem))[j]'(by omega) = s.items[j]'(by omega) := by
    intro j hj
    have := insAt_lo (⟨k, r⟩ : DItem) hle hj
    rw [List.getElem?_eq_getElem (by omega), List.getElem?_eq_getElem (by omega)] at this
    exact Option.some.inj this
  have g2 : (insAt s.items t (⟨k, r⟩ : DItem))[t]'(by omega) = ⟨k, r⟩ := by
    have := insAt_at (⟨k, r⟩ : DItem) hle
    rw [List.getElem?_eq_getElem (by omega)] at this
    exact Option.some.inj this
  have g3 : ∀ j, (hj : t ≤ j) → (h : j < s.items.length) → (insAt s.items t (⟨k, r⟩ : DItem))[j + 1]'(by omega) = s.items[j]'h := by
    intro j hj h
    have := insAt_hi (j := j + 1) (⟨k, r⟩ : DItem) hle (by omega)
    rw [List.getElem?_eq_getElem (by omega), List.getElem?_eq_getElem (by omega)] at this
    exact Option.some.inj this
  rw [Bool.eq_iff_iff, store_iff, Bool.and_eq_true, decide_eq_true_eq]
  simp only
  constructor
  · rintro ⟨k1, _, _, k4, _⟩
    refine ⟨?_, by omega⟩
    have := (k1 t (by omega)).2
    rw [g2] at this; exact this
  · rintro ⟨hr, h16⟩
    refine ⟨fun j hj => ?_, fun j hj => ?_, h3, by omega, ?_⟩
    · rcases Nat.lt_trichotomy j t with h | rfl | h
      · rw [g1 j h]; exact h1 j (by omega)
      · rw [g2]; exact ⟨hk, hr⟩
      · obtain ⟨j, rfl⟩ : ∃ i, j = i + 1 := ⟨j - 1, by omega⟩
        rw [g3 j (by omega) (by omega)]; exact h1 j (by omega)
    · rcases Nat.lt_trichotomy (j + 1) t with h | h | h
      · rw [g1 j (by omega), g1 (j + 1) h]; exact h2 j (by omega)
      · subst h
        rw [g1 j (by omega), g2]
        have := hlo j (by omega) (by omega)
        unfold itemLess at this
        exact of_decide_eq_true this
      · rcases Nat.lt_or_eq_of_le (show t ≤ j by omega) with h' | rfl
        · obtain ⟨j, rfl⟩ : ∃ i, j = i + 1 := ⟨j - 1, by omega⟩
          rw [g3 j (by omega) (by omega), g3 (j + 1) (by omega) (by omega)]; exact h2 j (by omega)
        · rw [g2, g3 t (Nat.le_refl _) (by omega)]
          have hx := hhi (by omega)
          have hn := hno _ (List.getElem_mem (show t < s.items.length by omega))
          unfold itemLess at hx
          unfold keyIs at hn
          exact key_turn (h1 t (by omega)).1 hk (of_decide_eq_false hn) (of_decide_eq_false hx)
    · unfold autoOf
      unfold within at *
      simp only [Bool.and_eq_true, decide_eq_true_eq] at *
      split <;> omega

theorem putItem_same (s : DStore) (k : DKey) (r : DRecord) : putItemS s k r = putItemB s k r := by
  unfold putItemS putItemB
  cases hs : isStoreF s
  · rfl
  cases hk : isKeyF k
  · rfl
  simp only [Bool.true_and]
  unfold putOut
  rcases hf : s.items.findIdx? (keyIs k) with _ | i
  · rw [List.findIdx?_eq_none_iff] at hf
    rw [putNew_store hs hk hf]; rfl
  · obtain ⟨hi, _, _⟩ := List.findIdx?_eq_some_iff_getElem.1 hf
    simp only [putAt_store hs hi, Option.isSome_some, Bool.true_or, Bool.and_true]

end Go.Proofs.YtlfebehpmefioaaGreat

/-
  Plain laws of an item's field, of a list of writes applied to a store. No function of the program is named here.
-/
namespace Go.Proofs.YtlfebehpmefioaaGreat
open Go.RowKit

def noRecord : DRecord := ⟨[]⟩
def itemRec (s : DStore) (k : DKey) : DRecord := ((s.items.find? (keyIs k)).map (·.record)).getD noRecord
theorem itemRec_none {s : DStore} {k : DKey} (h : ∀ j, (hj : j < s.items.length) → keyIs k s.items[j] = false) : itemRec s k = noRecord := by
  unfold itemRec
  rw [List.find?_eq_none.2 (fun y hy => by obtain ⟨j, hj, rfl⟩ := List.getElem_of_mem hy; rw [h j hj]; simp)]
  rfl
theorem itemRec_hit {s : DStore} {k : DKey} {i : Nat} (hi : i < s.items.length) (hp : keyIs k s.items[i] = true) (h : ∀ j, (hj : j < s.items.length) → j < i → keyIs k s.items[j] = false) : itemRec s k = s.items[i].record := by
  unfold itemRec
  have : s.items.find? (keyIs k) = some s.items[i] := List.find?_eq_some_iff_getElem.2 ⟨hp, i, hi, rfl, fun j hj => by rw [h j (by omega) hj]; rfl⟩
  rw [this]; rfl
def setItemR (s : DStore) (x : DWrite) : DRecord := setFieldI (itemRec s x.key) x.field x.n
def setItemB (s : DStore) (x : DWrite) : Bool := setFieldB (itemRec s x.key) x.field x.n && putItemB s x.key (setItemR s x)
def setItemF (s : DStore) (x : DWrite) : DStore := if setItemB s x then putOut s x.key (setItemR s x) else s
def appliedF (s : DStore) (l : List DWrite) : DStore := l.foldl setItemF s
theorem appliedF_succ {s : DStore} {l : List DWrite} {k : Nat} (h : k < l.length) : appliedF s (l.take (k + 1)) = setItemF (appliedF s (l.take k)) l[k] := by
  unfold appliedF; rw [List.take_succ_eq_append_getElem h, List.foldl_append]; rfl
theorem appliedF_all {s : DStore} {l : List DWrite} {k : Nat} (h : ¬ k < l.length) : appliedF s (l.take k) = appliedF s l := by
  rw [List.take_of_length_le (by omega)]

structure SmallStore (s : DStore) : Prop where
  items : s.items.length ≤ 1048600
  fields : ∀ x ∈ s.items, x.record.fields.length ≤ 1048600
  total : (s.items.map fun x => x.record.fields.length).sum ≤ 1048600

theorem isRecord_len {r : DRecord} (h : isRecordF r = true) : r.fields.length ≤ 6 := by
  rw [isRecordF, Bool.and_eq_true, decide_eq_true_eq] at h
  exact h.2
theorem sum_le_mul {α : Type} (f : α → Nat) (c : Nat) : ∀ (l : List α), (∀ x ∈ l, f x ≤ c) → (l.map f).sum ≤ c * l.length
  | [], _ => by simp
  | x :: l, h => by
    have h1 := sum_le_mul f c l fun y hy => h y (by simp [hy])
    have h2 := h x (by simp)
    simp only [List.map_cons, List.sum_cons, List.length_cons, Nat.mul_add, Nat.mul_one]
    omega
theorem SmallStore.of_store {s : DStore} (h : isStoreF s = true) : SmallStore s := by
  obtain ⟨h1, _, _, h4, _⟩ := store_iff.1 h
  have hf : ∀ x ∈ s.items, x.record.fields.length ≤ 6 := fun x hx => by
    obtain ⟨j, hj, rfl⟩ := List.getElem_of_mem hx
    exact isRecord_len (h1 j hj).2
  have := sum_le_mul (fun x : DItem => x.record.fields.length) 6 s.items hf
  exact ⟨by omega, fun x hx => by have := hf x hx; omega, by omega⟩
theorem SmallStore.setItem {s : DStore} {x : DWrite} (h : SmallStore s) : SmallStore (setItemF s x) := by
  unfold setItemF
  split
  · rename_i hb
    unfold setItemB putItemB at hb
    simp only [Bool.and_eq_true] at hb
    exact SmallStore.of_store hb.2.2.2
  · exact h
theorem SmallStore.applied {s : DStore} (h : SmallStore s) (l : List DWrite) : SmallStore (appliedF s l) := by
  unfold appliedF
  induction l generalizing s with
  | nil => exact h
  | cons x l ih => exact ih h.setItem
theorem setItemF_eq (s : DStore) (x : DWrite) : setItemF s x = if setFieldB (itemRec s x.key) x.field x.n then putItemF s x.key (setFieldF (itemRec s x.key) x.field x.n) else s := by
  unfold setItemF setItemB setItemR putItemF setFieldF
  cases h1 : setFieldB (itemRec s x.key) x.field x.n
  · simp
  · simp only [Bool.true_and, if_true]
theorem itemRec_small {s : DStore} (h : SmallStore s) (k : DKey) : (itemRec s k).fields.length ≤ 1048600 := by
  unfold itemRec
  rcases hf : s.items.find? (keyIs k) with _ | x
  · simp [noRecord]
  · exact h.fields x (List.mem_of_find?_eq_some hf)

end Go.Proofs.YtlfebehpmefioaaGreat
