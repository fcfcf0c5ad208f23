/-
  s[k:], s[:k] of a slice that reads. No function of the program is named here.
-/
import Derived.Test.YtglgjcdnfmlijaaGrow
namespace Go.Proofs.Ytglgjcdnfmlijaa
open Go.RowKit

/-- What s[k:] is. -/
def tailV (ao : Option Addr) (k len cap s : Nat) : Value := sliced ao k len cap s
theorem tailV_eq (ao : Option Addr) (k len cap s : Nat) : ∃ a c, tailV ao k len cap s = .slice a (len - k) c := ⟨_, _, rfl⟩
theorem run_tail {P : Program} {t : TypeId} {n : Nat} (ht : P.underlying t = some (.slice (P.elem t))) (hs : ∀ w, (sizeOf (P.elem t)).run P w = .ok n w) (ao : Option Addr) (k len cap : Nat) (hk : k ≤ len) (w : World) :
    (Instr.slice t (.slice ao len cap) (some (.int .i64 (k : Int))) none none).run P w = .ok (tailV ao k len cap n) w := by
  rw [run_slice_l w t ao len cap ht .i64 k (by omega) (by omega), hs]
  rfl
attribute [irreducible] tailV

theorem cellsOf_drop {α : Type} {n : Nat} : ∀ (ts : List (El α)) (k : Nat), (∀ t ∈ ts, t.1.length = n) → cellsOf (ts.drop k) = (cellsOf ts).drop (k * n)
  | ts, 0, _ => by simp
  | [], k + 1, _ => by simp [cellsOf]
  | t :: ts, k + 1, h => by
    have h1 := h t (by simp)
    have e : cellsOf (t :: ts) = t.1 ++ cellsOf ts := by simp [cellsOf]
    have e1 : t.1.drop ((k + 1) * n) = [] := List.drop_of_length_le (by rw [h1, Nat.add_mul]; omega)
    have e2 : (k + 1) * n - n = k * n := by rw [Nat.add_mul]; omega
    rw [List.drop_succ_cons, cellsOf_drop ts k fun u hu => h u (by simp [hu]), e, List.drop_append, h1, e1, e2, List.nil_append]
theorem vals_drop {α : Type} (ts : List (El α)) (k : Nat) : vals (ts.drop k) = (vals ts).drop k := by simp [vals, List.map_drop]

theorem Reads.tail {α : Type} {E : TypeId} {R : Rep α} {w : World} {ao : Option Addr} {len cap : Nat} {l : List α} (h : Reads (Rep.slice E R) w [.slice ao len cap] l) (k : Nat) (hk : k ≤ len) :
    Reads (Rep.slice E R) w [tailV ao k len cap R.n] (l.drop k) := by
  obtain ⟨fp, v, ts, hv, rfl, rfl, h1, h2, _⟩ := h
  simp only [List.cons.injEq, and_true] at hv
  subst hv
  obtain ⟨ao', cap', hv, hc1, hc2, hrow⟩ := h2
  simp only [Value.slice.injEq] at hv
  obtain ⟨rfl, rfl, rfl⟩ := hv
  refine ⟨_, _, ts.drop k, rfl, (vals_drop ts k).symm, rfl, fun t ht => h1 t (List.mem_of_mem_drop ht), ?_, fun ho => by cases ho⟩
  unfold tailV sliced
  refine ⟨_, _, by rw [List.length_drop], by rw [List.length_drop]; omega, by omega, ?_⟩
  by_cases h0 : (ts.drop k).length = 0
  · exact .inl h0
  · rw [List.length_drop] at h0
    rcases hrow with h3 | ⟨b, off, rfl, hb, hcell⟩
    · omega
    · rw [if_neg (by omega)]
      refine .inr ⟨b, off + k * R.n, by rw [Option.map_some, Addr.add_lit], hb, fun j u hu => ?_⟩
      rw [cellsOf_drop (n := R.n) ts k fun t ht => R.len (h1 t ht), List.getElem?_drop] at hu
      rw [Nat.add_assoc]
      exact hcell _ _ hu

end Go.Proofs.Ytglgjcdnfmlijaa
