/-
  An int among the cells of a told struct lies in its range.
-/
import Derived.Test.YtgicglmcapnogaaGreatLFamB
import Derived.Test.YtgicglmcapnogaaGreatBase
namespace Go.Proofs.YtgicglmcapnogaaGreat
open Go.RowKit

theorem okWide_cell_int {P : Program} {W : World} {base : Nat} {t u : TypeId} {cs : Array Value} {i : Nat} {n : Int} {fs : Array Field} (ht : P.underlying t = some (.struct fs)) (hval : Value.okWide P W .any base t (.agg cs)) (hts : (P.cellTypes P.depth t).bind (fun ts => ts[i % ts.length]?) = some u) (hi : cs[i]? = some (.int .i64 n)) (hui : P.underlying u = some (.int .i64)) : -9223372036854775808 ≤ n := by
  simp only [Value.okWide, ht] at hval
  obtain ⟨cs', h1, _, ts', h3, _, h4⟩ := hval
  cases h1
  obtain ⟨u', h5, h6⟩ := h4 i _ hi
  rw [h3, Option.bind_some, h5] at hts
  cases hts
  simp [Cell.okWide, hui, Cell.ok, IntKind.has] at h6
  have h7 : IntKind.i64.min = -9223372036854775808 := by decide
  omega

set_option maxRecDepth 100000 in
theorem sync_tries_lo {W : World} {base : Nat} {cs : Array Value} {x : DSync} (hval : Value.okWide Tryz.prog W .any base 26 (.agg cs)) (h : Reads DSync.rep W cs.toList x) : -9223372036854775808 ≤ x.tries := by
  obtain ⟨fp, h⟩ := h
  obtain ⟨a1, c1, hc⟩ := DSync.shape h
  refine okWide_cell_int (i := 3) (u := 3) Tryz.underlying26 hval (by kernel_rfl) (by rw [← Array.getElem?_toList, hc]; rfl) Tryz.underlying3

end Go.Proofs.YtgicglmcapnogaaGreat
