/-
  EqFam: EqKey, EqField, EqApplied, EqWrite, in one text.
-/
import Derived.Laws.StructEq
import Derived.Test.YtlfebehpmefioaaGreatBase
import Derived.Test.YtlfebehpmefioaaGreatTFam

/-
  '==' at the type Key; slices.Equal at its slices.
-/
namespace Go.Proofs.YtlfebehpmefioaaGreat
open Go.RowKit

theorem DKey.eq_iff (x y : DKey) : x = y ↔ x.kind = y.kind ∧ x.n = y.n ∧ x.text.toList = y.text.toList := by
  constructor
  · rintro rfl
    exact ⟨rfl, rfl, rfl⟩
  · rintro ⟨h0, h1, h2⟩
    obtain ⟨xKind, xN, xText⟩ := x
    obtain ⟨yKind, yN, yText⟩ := y
    simp only at h0 h1 h2
    replace h2 := bytes_ext h2
    subst h0 h1 h2
    rfl

theorem equalInAtKey (d : Nat) (x y : DKey) (w : World) : (Op.equalIn (d + 2) 32 (.agg #[.int .i64 x.kind, .int .i64 x.n, .string x.text]) (.agg #[.int .i64 y.kind, .int .i64 y.n, .string y.text])).run Tryz.prog w = .ok (decide (x = y)) w := by
  have e := run_equalIn_agg (P := Tryz.prog) w (d + 1) 32 #[.int .i64 x.kind, .int .i64 x.n, .string x.text] #[.int .i64 y.kind, .int .i64 y.n, .string y.text] (by kernel_rfl) (by kernel_rfl)
  rw [show d + 2 = (d + 1) + 1 from rfl, e]
  clear e
  simp only [Program.fieldsOf, Tryz.underlying32]
  go_simp
  rw [show decide (x = y) = decide (x.kind = y.kind ∧ x.n = y.n ∧ x.text.toList = y.text.toList) from by rw [decide_eq_decide]; exact DKey.eq_iff x y]
  by_cases h0 : x.kind = y.kind <;> by_cases h1 : x.n = y.n <;> by_cases h2 : x.text.toList = y.text.toList <;> simp [h0, h1, h2]

theorem equalInKey (x y : DKey) (w : World) : (Op.equalIn 10000 32 (.agg #[.int .i64 x.kind, .int .i64 x.n, .string x.text]) (.agg #[.int .i64 y.kind, .int .i64 y.n, .string y.text])).run Tryz.prog w = .ok (decide (x = y)) w := equalInAtKey 9998 x y w

end Go.Proofs.YtlfebehpmefioaaGreat

/-
  '==' at the type Field; slices.Equal at its slices.
-/
namespace Go.Proofs.YtlfebehpmefioaaGreat
open Go.RowKit

theorem DField.eq_iff (x y : DField) : x = y ↔ x.name.toList = y.name.toList ∧ x.n = y.n := by
  constructor
  · rintro rfl
    exact ⟨rfl, rfl⟩
  · rintro ⟨h0, h1⟩
    obtain ⟨xName, xN⟩ := x
    obtain ⟨yName, yN⟩ := y
    simp only at h0 h1
    replace h0 := bytes_ext h0
    subst h0 h1
    rfl

theorem equalInAtField (d : Nat) (x y : DField) (w : World) : (Op.equalIn (d + 2) 112 (.agg #[.string x.name, .int .i64 x.n]) (.agg #[.string y.name, .int .i64 y.n])).run Tryz.prog w = .ok (decide (x = y)) w := by
  have e := run_equalIn_agg (P := Tryz.prog) w (d + 1) 112 #[.string x.name, .int .i64 x.n] #[.string y.name, .int .i64 y.n] (by kernel_rfl) (by kernel_rfl)
  rw [show d + 2 = (d + 1) + 1 from rfl, e]
  clear e
  simp only [Program.fieldsOf, Tryz.underlying112]
  go_simp
  rw [show decide (x = y) = decide (x.name.toList = y.name.toList ∧ x.n = y.n) from by rw [decide_eq_decide]; exact DField.eq_iff x y]
  by_cases h0 : x.name.toList = y.name.toList <;> by_cases h1 : x.n = y.n <;> simp [h0, h1]

theorem equalInField (x y : DField) (w : World) : (Op.equalIn 10000 112 (.agg #[.string x.name, .int .i64 x.n]) (.agg #[.string y.name, .int .i64 y.n])).run Tryz.prog w = .ok (decide (x = y)) w := equalInAtField 9998 x y w

set_option maxRecDepth 100000 in
set_option maxHeartbeats 800000 in
theorem slicesEqualField (u v : Value) (l m : List DField) (w : World) (hu : Reads (Rep.slice 112 DField.rep) w [u] l) (hv : Reads (Rep.slice 112 DField.rep) w [v] m) :
    Calls Tryz.prog 164 #[u, v] w fun e w' => e = .returned (.bool (decide (l = m))) ∧ Below w.heap.size w w' := by
  have HU := Lib.hid hu
  have HV := Lib.hid hv
  obtain ⟨_, hu⟩ := hu
  obtain ⟨_, hv⟩ := hv
  obtain ⟨ao, c1, rfl, hm, _, hu⟩ := slice_open hu
  obtain ⟨bo, c2, rfl, hm2, _, hv⟩ := slice_open hv
  clear hu hv
  have hEQ := equalInField
  by_cases hlen : l.length = m.length
  · have hl0 : ((l.length : Int) != m.length) = false := by simp; omega
    have HL := Lib.hid hlen; clear hlen
    go_enter Tryz.func164, Tryz.ntmps164
    go_wp2
    go_loopw [5, 13] (fun _ i wr => ∃ k : Nat, k ≤ l.length ∧ i = .int .i64 k ∧ Hid (∀ j, j < k → l[j]? = m[j]?) ∧ Below w.heap.size w wr) (fun _ i _ => l.length - (intOf i).toNat)
    case atStart => exact ⟨0, by omega, rfl, Lib.hid (by intro j hj; omega), bEl⟩
    case round =>
      obtain ⟨k, hk, rfl, HA, hb⟩ := hrel
      have HB := Lib.hid hb; clear hb
      by_cases hlt : k < l.length
      · have hlt' : k < m.length := by have := HL.out; omega
        obtain ⟨b, off, cs_b, rfl, hw_b, hr_b, hcell_b⟩ := slice_at (HU.out.below HB.out) k hlt
        obtain ⟨fe_b, hrd_b⟩ := hr_b
        have HR_b : Hid (Reads DField.rep wr cs_b l[k]) := ⟨_, hrd_b⟩
        obtain ⟨rfl, _, b_s0⟩ := DField.rd.1 hrd_b
        clear hrd_b
        have b_c0 : wr.cell? ⟨b, off + k * 2, none⟩ = some (.string l[k].name) := hcell_b 0 (by decide)
        have b_c1 : wr.cell? ⟨b, off + k * 2 + 1, none⟩ = some (.int .i64 l[k].n) := hcell_b 1 (by decide)
        clear hcell_b
        obtain ⟨d, off', cs_d, rfl, hw_d, hr_d, hcell_d⟩ := slice_at (HV.out.below HB.out) k hlt'
        obtain ⟨fe_d, hrd_d⟩ := hr_d
        have HR_d : Hid (Reads DField.rep wr cs_d m[k]) := ⟨_, hrd_d⟩
        obtain ⟨rfl, _, d_s0⟩ := DField.rd.1 hrd_d
        clear hrd_d
        have d_c0 : wr.cell? ⟨d, off' + k * 2, none⟩ = some (.string m[k].name) := hcell_d 0 (by decide)
        have d_c1 : wr.cell? ⟨d, off' + k * 2 + 1, none⟩ = some (.int .i64 m[k].n) := hcell_d 1 (by decide)
        clear hcell_d
        have i1 : (0 : Int) ≤ (k : Int) := by omega
        have i2 : (k : Int) < (l.length : Int) := by omega
        have i3 : (k : Int) < (m.length : Int) := by omega
        by_cases he : l[k] = m[k]
        · have hd : decide (l[k] = m[k]) = true := decide_eq_true he
          have HE := Lib.hid he; clear he
          go_wp2
          go_quiet (fail)
          go_wp2
          go_light
          have y := HB.out
          exact ⟨⟨k + 1, by omega, by go_num, Lib.hid (agree_snoc HA.out (by rw [List.getElem?_eq_getElem hlt, List.getElem?_eq_getElem hlt', HE.out])), bEl⟩, by simp [intOf]; omega⟩
        · have hd : decide (l[k] = m[k]) = false := decide_eq_false he
          have HE := Lib.hid he; clear he
          go_wp2
          go_quiet (fail)
          go_wp2
          go_ret
          have y := HB.out
          refine ⟨ret_bool ?_, bEl⟩
          go_light
          symm
          rw [decide_eq_false_iff_not]
          intro e
          subst e
          exact HE.out rfl
      · go_wp2
        go_ret
        have y := HB.out
        refine ⟨ret_bool ?_, bEl⟩
        go_light
        have := agree_all HA.out (by omega) HL.out.symm
        simp [this]
  · have hl0 : ((l.length : Int) != m.length) = true := by simp; omega
    have HL := Lib.hid hlen; clear hlen
    go_enter Tryz.func164, Tryz.ntmps164
    go_wp2
    go_ret
    refine ⟨ret_bool ?_, bEl⟩
    symm
    rw [decide_eq_false_iff_not]
    intro e
    exact HL.out (by rw [e])

end Go.Proofs.YtlfebehpmefioaaGreat

/-
  '==' at the type Applied; slices.Equal at its slices.
-/
namespace Go.Proofs.YtlfebehpmefioaaGreat
open Go.RowKit

theorem DApplied.eq_iff (x y : DApplied) : x = y ↔ x.device = y.device ∧ x.seq = y.seq := by
  constructor
  · rintro rfl
    exact ⟨rfl, rfl⟩
  · rintro ⟨h0, h1⟩
    obtain ⟨xDevice, xSeq⟩ := x
    obtain ⟨yDevice, ySeq⟩ := y
    simp only at h0 h1
    subst h0 h1
    rfl

end Go.Proofs.YtlfebehpmefioaaGreat

/-
  '==' at the type Write; slices.Equal at its slices.
-/
namespace Go.Proofs.YtlfebehpmefioaaGreat
open Go.RowKit

theorem DWrite.eq_iff (x y : DWrite) : x = y ↔ x.device = y.device ∧ x.seq = y.seq ∧ x.key.kind = y.key.kind ∧ x.key.n = y.key.n ∧ x.key.text.toList = y.key.text.toList ∧ x.field.toList = y.field.toList ∧ x.n = y.n := by
  constructor
  · rintro rfl
    exact ⟨rfl, rfl, rfl, rfl, rfl, rfl, rfl⟩
  · rintro ⟨h0, h1, h2, h3, h4, h5, h6⟩
    obtain ⟨xDevice, xSeq, ⟨xKeyKind, xKeyN, xKeyText⟩, xField, xN⟩ := x
    obtain ⟨yDevice, ySeq, ⟨yKeyKind, yKeyN, yKeyText⟩, yField, yN⟩ := y
    simp only at h0 h1 h2 h3 h4 h5 h6
    replace h4 := bytes_ext h4
    replace h5 := bytes_ext h5
    subst h0 h1 h2 h3 h4 h5 h6
    rfl

theorem equalInAtWrite (d : Nat) (x y : DWrite) (w : World) : (Op.equalIn (d + 3) 34 (.agg #[.int .i64 x.device, .int .i64 x.seq, .int .i64 x.key.kind, .int .i64 x.key.n, .string x.key.text, .string x.field, .int .i64 x.n]) (.agg #[.int .i64 y.device, .int .i64 y.seq, .int .i64 y.key.kind, .int .i64 y.key.n, .string y.key.text, .string y.field, .int .i64 y.n])).run Tryz.prog w = .ok (decide (x = y)) w := by
  have hn2 := fun w => equalInAtKey (d + 0) x.key y.key w
  have e := run_equalIn_agg (P := Tryz.prog) w (d + 2) 34 #[.int .i64 x.device, .int .i64 x.seq, .int .i64 x.key.kind, .int .i64 x.key.n, .string x.key.text, .string x.field, .int .i64 x.n] #[.int .i64 y.device, .int .i64 y.seq, .int .i64 y.key.kind, .int .i64 y.key.n, .string y.key.text, .string y.field, .int .i64 y.n] (by kernel_rfl) (by kernel_rfl)
  rw [show d + 3 = (d + 2) + 1 from rfl, e]
  clear e
  simp only [Program.fieldsOf, Tryz.underlying34]
  go_simp
  rw [show decide (x = y) = decide (x.device = y.device ∧ x.seq = y.seq ∧ x.key.kind = y.key.kind ∧ x.key.n = y.key.n ∧ x.key.text.toList = y.key.text.toList ∧ x.field.toList = y.field.toList ∧ x.n = y.n) from by rw [decide_eq_decide]; exact DWrite.eq_iff x y]
  by_cases h0 : x.device = y.device <;> by_cases h1 : x.seq = y.seq <;> by_cases h2 : x.key.kind = y.key.kind <;> by_cases h3 : x.key.n = y.key.n <;> by_cases h4 : x.key.text.toList = y.key.text.toList <;> by_cases h5 : x.field.toList = y.field.toList <;> by_cases h6 : x.n = y.n <;> simp [h0, h1, h2, h3, h4, h5, h6, DKey.eq_iff]

theorem equalInWrite (x y : DWrite) (w : World) : (Op.equalIn 10000 34 (.agg #[.int .i64 x.device, .int .i64 x.seq, .int .i64 x.key.kind, .int .i64 x.key.n, .string x.key.text, .string x.field, .int .i64 x.n]) (.agg #[.int .i64 y.device, .int .i64 y.seq, .int .i64 y.key.kind, .int .i64 y.key.n, .string y.key.text, .string y.field, .int .i64 y.n])).run Tryz.prog w = .ok (decide (x = y)) w := equalInAtWrite 9997 x y w

set_option maxRecDepth 100000 in
set_option maxHeartbeats 800000 in
theorem slicesEqualWrite (u v : Value) (l m : List DWrite) (w : World) (hu : Reads (Rep.slice 34 DWrite.rep) w [u] l) (hv : Reads (Rep.slice 34 DWrite.rep) w [v] m) :
    Calls Tryz.prog 55 #[u, v] w fun e w' => e = .returned (.bool (decide (l = m))) ∧ Below w.heap.size w w' := by
  have HU := Lib.hid hu
  have HV := Lib.hid hv
  obtain ⟨_, hu⟩ := hu
  obtain ⟨_, hv⟩ := hv
  obtain ⟨ao, c1, rfl, hm, _, hu⟩ := slice_open hu
  obtain ⟨bo, c2, rfl, hm2, _, hv⟩ := slice_open hv
  clear hu hv
  have hEQ := equalInWrite
  by_cases hlen : l.length = m.length
  · have hl0 : ((l.length : Int) != m.length) = false := by simp; omega
    have HL := Lib.hid hlen; clear hlen
    go_enter Tryz.func55, Tryz.ntmps55
    go_wp2
    go_loopw [5, 13] (fun _ i wr => ∃ k : Nat, k ≤ l.length ∧ i = .int .i64 k ∧ Hid (∀ j, j < k → l[j]? = m[j]?) ∧ Below w.heap.size w wr) (fun _ i _ => l.length - (intOf i).toNat)
    case atStart => exact ⟨0, by omega, rfl, Lib.hid (by intro j hj; omega), bEl⟩
    case round =>
      obtain ⟨k, hk, rfl, HA, hb⟩ := hrel
      have HB := Lib.hid hb; clear hb
      by_cases hlt : k < l.length
      · have hlt' : k < m.length := by have := HL.out; omega
        obtain ⟨b, off, cs_b, rfl, hw_b, hr_b, hcell_b⟩ := slice_at (HU.out.below HB.out) k hlt
        obtain ⟨fe_b, hrd_b⟩ := hr_b
        have HR_b : Hid (Reads DWrite.rep wr cs_b l[k]) := ⟨_, hrd_b⟩
        obtain ⟨rfl, _, b_s0, b_s1⟩ := DWrite.rd.1 hrd_b
        clear hrd_b
        have b_c0 : wr.cell? ⟨b, off + k * 7, none⟩ = some (.int .i64 l[k].device) := hcell_b 0 (by decide)
        have b_c1 : wr.cell? ⟨b, off + k * 7 + 1, none⟩ = some (.int .i64 l[k].seq) := hcell_b 1 (by decide)
        have b_c2 : wr.cell? ⟨b, off + k * 7 + 2, none⟩ = some (.int .i64 l[k].key.kind) := hcell_b 2 (by decide)
        have b_c3 : wr.cell? ⟨b, off + k * 7 + 3, none⟩ = some (.int .i64 l[k].key.n) := hcell_b 3 (by decide)
        have b_c4 : wr.cell? ⟨b, off + k * 7 + 4, none⟩ = some (.string l[k].key.text) := hcell_b 4 (by decide)
        have b_c5 : wr.cell? ⟨b, off + k * 7 + 5, none⟩ = some (.string l[k].field) := hcell_b 5 (by decide)
        have b_c6 : wr.cell? ⟨b, off + k * 7 + 6, none⟩ = some (.int .i64 l[k].n) := hcell_b 6 (by decide)
        clear hcell_b
        obtain ⟨d, off', cs_d, rfl, hw_d, hr_d, hcell_d⟩ := slice_at (HV.out.below HB.out) k hlt'
        obtain ⟨fe_d, hrd_d⟩ := hr_d
        have HR_d : Hid (Reads DWrite.rep wr cs_d m[k]) := ⟨_, hrd_d⟩
        obtain ⟨rfl, _, d_s0, d_s1⟩ := DWrite.rd.1 hrd_d
        clear hrd_d
        have d_c0 : wr.cell? ⟨d, off' + k * 7, none⟩ = some (.int .i64 m[k].device) := hcell_d 0 (by decide)
        have d_c1 : wr.cell? ⟨d, off' + k * 7 + 1, none⟩ = some (.int .i64 m[k].seq) := hcell_d 1 (by decide)
        have d_c2 : wr.cell? ⟨d, off' + k * 7 + 2, none⟩ = some (.int .i64 m[k].key.kind) := hcell_d 2 (by decide)
        have d_c3 : wr.cell? ⟨d, off' + k * 7 + 3, none⟩ = some (.int .i64 m[k].key.n) := hcell_d 3 (by decide)
        have d_c4 : wr.cell? ⟨d, off' + k * 7 + 4, none⟩ = some (.string m[k].key.text) := hcell_d 4 (by decide)
        have d_c5 : wr.cell? ⟨d, off' + k * 7 + 5, none⟩ = some (.string m[k].field) := hcell_d 5 (by decide)
        have d_c6 : wr.cell? ⟨d, off' + k * 7 + 6, none⟩ = some (.int .i64 m[k].n) := hcell_d 6 (by decide)
        clear hcell_d
        have i1 : (0 : Int) ≤ (k : Int) := by omega
        have i2 : (k : Int) < (l.length : Int) := by omega
        have i3 : (k : Int) < (m.length : Int) := by omega
        by_cases he : l[k] = m[k]
        · have hd : decide (l[k] = m[k]) = true := decide_eq_true he
          have HE := Lib.hid he; clear he
          go_wp2
          go_quiet (fail)
          go_wp2
          go_light
          have y := HB.out
          exact ⟨⟨k + 1, by omega, by go_num, Lib.hid (agree_snoc HA.out (by rw [List.getElem?_eq_getElem hlt, List.getElem?_eq_getElem hlt', HE.out])), bEl⟩, by simp [intOf]; omega⟩
        · have hd : decide (l[k] = m[k]) = false := decide_eq_false he
          have HE := Lib.hid he; clear he
          go_wp2
          go_quiet (fail)
          go_wp2
          go_ret
          have y := HB.out
          refine ⟨ret_bool ?_, bEl⟩
          go_light
          symm
          rw [decide_eq_false_iff_not]
          intro e
          subst e
          exact HE.out rfl
      · go_wp2
        go_ret
        have y := HB.out
        refine ⟨ret_bool ?_, bEl⟩
        go_light
        have := agree_all HA.out (by omega) HL.out.symm
        simp [this]
  · have hl0 : ((l.length : Int) != m.length) = true := by simp; omega
    have HL := Lib.hid hlen; clear hlen
    go_enter Tryz.func55, Tryz.ntmps55
    go_wp2
    go_ret
    refine ⟨ret_bool ?_, bEl⟩
    symm
    rw [decide_eq_false_iff_not]
    intro e
    exact HL.out (by rw [e])

end Go.Proofs.YtlfebehpmefioaaGreat
