/-
  EqFam: EqKey, EqField, EqApplied, EqWrite, in one text.
-/
import Derived.Laws.StructEq
import Derived.Test.YtgicglmcapnogaaGreatBase
import Derived.Test.YtgicglmcapnogaaGreatTFam

/-
  '==' at the type Key; slices.Equal at its slices.
-/
namespace Go.Proofs.YtgicglmcapnogaaGreat
open Go.RowKit

theorem DKey.eq_iff (x y : DKey) : x = y ↔ x.kind = y.kind ∧ x.n = y.n ∧ x.text.toList = y.text.toList := by
  constructor
  · rintro rfl
    exact ⟨rfl, rfl, rfl⟩
  · rintro ⟨h0, h1, h2⟩
    obtain ⟨xKind, xN, xText⟩ := x
    obtain ⟨yKind, yN, yText⟩ := y
    simp only at h0 h1 h2
    replace h2 := bytes_ext h2
    subst h0 h1 h2
    rfl

theorem equalInAtKey (d : Nat) (x y : DKey) (w : World) : (Op.equalIn (d + 2) 70 (.agg #[.int .i64 x.kind, .int .i64 x.n, .string x.text]) (.agg #[.int .i64 y.kind, .int .i64 y.n, .string y.text])).run Tryz.prog w = .ok (decide (x = y)) w := by
  have e := run_equalIn_agg (P := Tryz.prog) w (d + 1) 70 #[.int .i64 x.kind, .int .i64 x.n, .string x.text] #[.int .i64 y.kind, .int .i64 y.n, .string y.text] (by kernel_rfl) (by kernel_rfl)
  rw [show d + 2 = (d + 1) + 1 from rfl, e]
  clear e
  simp only [Program.fieldsOf, Tryz.underlying70]
  go_simp
  rw [show decide (x = y) = decide (x.kind = y.kind ∧ x.n = y.n ∧ x.text.toList = y.text.toList) from by rw [decide_eq_decide]; exact DKey.eq_iff x y]
  by_cases h0 : x.kind = y.kind <;> by_cases h1 : x.n = y.n <;> by_cases h2 : x.text.toList = y.text.toList <;> simp [h0, h1, h2]

theorem equalInKey (x y : DKey) (w : World) : (Op.equalIn 10000 70 (.agg #[.int .i64 x.kind, .int .i64 x.n, .string x.text]) (.agg #[.int .i64 y.kind, .int .i64 y.n, .string y.text])).run Tryz.prog w = .ok (decide (x = y)) w := equalInAtKey 9998 x y w

end Go.Proofs.YtgicglmcapnogaaGreat


/-
  '==' at the type Field; slices.Equal at its slices.
-/
namespace Go.Proofs.YtgicglmcapnogaaGreat
open Go.RowKit

theorem DField.eq_iff (x y : DField) : x = y ↔ x.name.toList = y.name.toList ∧ x.n = y.n := by
  constructor
  · rintro rfl
    exact ⟨rfl, rfl⟩
  · rintro ⟨h0, h1⟩
    obtain ⟨xName, xN⟩ := x
    obtain ⟨yName, yN⟩ := y
    simp only at h0 h1
    replace h0 := bytes_ext h0
    subst h0 h1
    rfl

theorem equalInAtField (d : Nat) (x y : DField) (w : World) : (Op.equalIn (d + 2) 156 (.agg #[.string x.name, .int .i64 x.n]) (.agg #[.string y.name, .int .i64 y.n])).run Tryz.prog w = .ok (decide (x = y)) w := by
  have e := run_equalIn_agg (P := Tryz.prog) w (d + 1) 156 #[.string x.name, .int .i64 x.n] #[.string y.name, .int .i64 y.n] (by kernel_rfl) (by kernel_rfl)
  rw [show d + 2 = (d + 1) + 1 from rfl, e]
  clear e
  simp only [Program.fieldsOf, Tryz.underlying156]
  go_simp
  rw [show decide (x = y) = decide (x.name.toList = y.name.toList ∧ x.n = y.n) from by rw [decide_eq_decide]; exact DField.eq_iff x y]
  by_cases h0 : x.name.toList = y.name.toList <;> by_cases h1 : x.n = y.n <;> simp [h0, h1]

theorem equalInField (x y : DField) (w : World) : (Op.equalIn 10000 156 (.agg #[.string x.name, .int .i64 x.n]) (.agg #[.string y.name, .int .i64 y.n])).run Tryz.prog w = .ok (decide (x = y)) w := equalInAtField 9998 x y w

end Go.Proofs.YtgicglmcapnogaaGreat


/-
  '==' at the type Applied; slices.Equal at its slices.
-/
namespace Go.Proofs.YtgicglmcapnogaaGreat
open Go.RowKit

theorem DApplied.eq_iff (x y : DApplied) : x = y ↔ x.device = y.device ∧ x.seq = y.seq := by
  constructor
  · rintro rfl
    exact ⟨rfl, rfl⟩
  · rintro ⟨h0, h1⟩
    obtain ⟨xDevice, xSeq⟩ := x
    obtain ⟨yDevice, ySeq⟩ := y
    simp only at h0 h1
    subst h0 h1
    rfl

theorem equalInAtApplied (d : Nat) (x y : DApplied) (w : World) : (Op.equalIn (d + 2) 110 (.agg #[.int .i64 x.device, .int .i64 x.seq]) (.agg #[.int .i64 y.device, .int .i64 y.seq])).run Tryz.prog w = .ok (decide (x = y)) w := by
  have e := run_equalIn_agg (P := Tryz.prog) w (d + 1) 110 #[.int .i64 x.device, .int .i64 x.seq] #[.int .i64 y.device, .int .i64 y.seq] (by kernel_rfl) (by kernel_rfl)
  rw [show d + 2 = (d + 1) + 1 from rfl, e]
  clear e
  simp only [Program.fieldsOf, Tryz.underlying110]
  go_simp
  rw [show decide (x = y) = decide (x.device = y.device ∧ x.seq = y.seq) from by rw [decide_eq_decide]; exact DApplied.eq_iff x y]
  by_cases h0 : x.device = y.device <;> by_cases h1 : x.seq = y.seq <;> simp [h0, h1]

theorem equalInApplied (x y : DApplied) (w : World) : (Op.equalIn 10000 110 (.agg #[.int .i64 x.device, .int .i64 x.seq]) (.agg #[.int .i64 y.device, .int .i64 y.seq])).run Tryz.prog w = .ok (decide (x = y)) w := equalInAtApplied 9998 x y w

end Go.Proofs.YtgicglmcapnogaaGreat


/-
  '==' at the type Write; slices.Equal at its slices.
-/
namespace Go.Proofs.YtgicglmcapnogaaGreat
open Go.RowKit

theorem DWrite.eq_iff (x y : DWrite) : x = y ↔ x.device = y.device ∧ x.seq = y.seq ∧ x.key.kind = y.key.kind ∧ x.key.n = y.key.n ∧ x.key.text.toList = y.key.text.toList ∧ x.field.toList = y.field.toList ∧ x.n = y.n := by
  constructor
  · rintro rfl
    exact ⟨rfl, rfl, rfl, rfl, rfl, rfl, rfl⟩
  · rintro ⟨h0, h1, h2, h3, h4, h5, h6⟩
    obtain ⟨xDevice, xSeq, ⟨xKeyKind, xKeyN, xKeyText⟩, xField, xN⟩ := x
    obtain ⟨yDevice, ySeq, ⟨yKeyKind, yKeyN, yKeyText⟩, yField, yN⟩ := y
    simp only at h0 h1 h2 h3 h4 h5 h6
    replace h4 := bytes_ext h4
    replace h5 := bytes_ext h5
    subst h0 h1 h2 h3 h4 h5 h6
    rfl

theorem equalInAtWrite (d : Nat) (x y : DWrite) (w : World) : (Op.equalIn (d + 3) 72 (.agg #[.int .i64 x.device, .int .i64 x.seq, .int .i64 x.key.kind, .int .i64 x.key.n, .string x.key.text, .string x.field, .int .i64 x.n]) (.agg #[.int .i64 y.device, .int .i64 y.seq, .int .i64 y.key.kind, .int .i64 y.key.n, .string y.key.text, .string y.field, .int .i64 y.n])).run Tryz.prog w = .ok (decide (x = y)) w := by
  have hn2 := fun w => equalInAtKey (d + 0) x.key y.key w
  have e := run_equalIn_agg (P := Tryz.prog) w (d + 2) 72 #[.int .i64 x.device, .int .i64 x.seq, .int .i64 x.key.kind, .int .i64 x.key.n, .string x.key.text, .string x.field, .int .i64 x.n] #[.int .i64 y.device, .int .i64 y.seq, .int .i64 y.key.kind, .int .i64 y.key.n, .string y.key.text, .string y.field, .int .i64 y.n] (by kernel_rfl) (by kernel_rfl)
  rw [show d + 3 = (d + 2) + 1 from rfl, e]
  clear e
  simp only [Program.fieldsOf, Tryz.underlying72]
  go_simp
  rw [show decide (x = y) = decide (x.device = y.device ∧ x.seq = y.seq ∧ x.key.kind = y.key.kind ∧ x.key.n = y.key.n ∧ x.key.text.toList = y.key.text.toList ∧ x.field.toList = y.field.toList ∧ x.n = y.n) from by rw [decide_eq_decide]; exact DWrite.eq_iff x y]
  by_cases h0 : x.device = y.device <;> by_cases h1 : x.seq = y.seq <;> by_cases h2 : x.key.kind = y.key.kind <;> by_cases h3 : x.key.n = y.key.n <;> by_cases h4 : x.key.text.toList = y.key.text.toList <;> by_cases h5 : x.field.toList = y.field.toList <;> by_cases h6 : x.n = y.n <;> simp [h0, h1, h2, h3, h4, h5, h6, DKey.eq_iff]

theorem equalInWrite (x y : DWrite) (w : World) : (Op.equalIn 10000 72 (.agg #[.int .i64 x.device, .int .i64 x.seq, .int .i64 x.key.kind, .int .i64 x.key.n, .string x.key.text, .string x.field, .int .i64 x.n]) (.agg #[.int .i64 y.device, .int .i64 y.seq, .int .i64 y.key.kind, .int .i64 y.key.n, .string y.key.text, .string y.field, .int .i64 y.n])).run Tryz.prog w = .ok (decide (x = y)) w := equalInAtWrite 9997 x y w

end Go.Proofs.YtgicglmcapnogaaGreat
