/-
  '==' at the type Key; slices.Equal at its slices.
-/
import Derived.Test.YtjdoofekohjjlaaIdx
import Derived.Test.YtjdoofekohjjlaaBytes
import Derived.Test.YtjdoofekohjjlaaTKey
import Derived.Laws.StructEq
namespace Go.Proofs.Ytjdoofekohjjlaa
open Go.RowKit

theorem DKey.eq_iff (x y : DKey) : x = y ↔ x.kind = y.kind ∧ x.n = y.n ∧ x.text.toList = y.text.toList := by
  constructor
  · rintro rfl
    exact ⟨rfl, rfl, rfl⟩
  · rintro ⟨h0, h1, h2⟩
    obtain ⟨xKind, xN, xText⟩ := x
    obtain ⟨yKind, yN, yText⟩ := y
    simp only at h0 h1 h2
    replace h2 := bytes_ext h2
    subst h0 h1 h2
    rfl

theorem equalInAtKey (d : Nat) (x y : DKey) (w : World) : (Op.equalIn (d + 2) 70 (.agg #[.int .i64 x.kind, .int .i64 x.n, .string x.text]) (.agg #[.int .i64 y.kind, .int .i64 y.n, .string y.text])).run Try.prog w = .ok (decide (x = y)) w := by
  have e := run_equalIn_agg (P := Try.prog) w (d + 1) 70 #[.int .i64 x.kind, .int .i64 x.n, .string x.text] #[.int .i64 y.kind, .int .i64 y.n, .string y.text] (by kernel_rfl) (by kernel_rfl)
  rw [show d + 2 = (d + 1) + 1 from rfl, e]
  clear e
  simp only [Program.fieldsOf, Try.underlying70]
  go_simp
  rw [show decide (x = y) = decide (x.kind = y.kind ∧ x.n = y.n ∧ x.text.toList = y.text.toList) from by rw [decide_eq_decide]; exact DKey.eq_iff x y]
  by_cases h0 : x.kind = y.kind <;> by_cases h1 : x.n = y.n <;> by_cases h2 : x.text.toList = y.text.toList <;> simp [h0, h1, h2]

theorem equalInKey (x y : DKey) (w : World) : (Op.equalIn 10000 70 (.agg #[.int .i64 x.kind, .int .i64 x.n, .string x.text]) (.agg #[.int .i64 y.kind, .int .i64 y.n, .string y.text])).run Try.prog w = .ok (decide (x = y)) w := equalInAtKey 9998 x y w

end Go.Proofs.Ytjdoofekohjjlaa
