/-
  Hash and its kin: what the program and the reference both compute.
-/
import Derived.Test.YteajhmpppciicaaBase
namespace Go.Proofs.Yteajhmpppciicaa
open Go.RowKit

theorem tmod_M (p : Int) : (0 ≤ p → p.tmod 2147483647 = p % 2147483647) ∧ (p < 0 → p.tmod 2147483647 = -((-p) % 2147483647)) := by
  constructor
  · intro h; exact Int.tmod_eq_emod_of_nonneg h
  · intro h
    have e := Int.neg_tmod (-p) 2147483647
    rw [Int.neg_neg, Int.tmod_eq_emod_of_nonneg (a := -p) (by omega)] at e
    exact e
theorem mod_i (p : Int) (h : p.tmod 2147483647 < 0) : wrap64 (p.tmod 2147483647 + 2147483647) = p % 2147483647 := by
  have := tmod_M p
  rw [Go.IntWalk.wrap64_in _ (by omega)]; omega
theorem mod_j (p : Int) (h : 0 ≤ p.tmod 2147483647) : p.tmod 2147483647 = p % 2147483647 := by
  have := tmod_M p
  omega
theorem mod_k (p : Int) : (wrap64 (p.tmod 2147483647 + 2147483647)).tmod 2147483647 = p % 2147483647 := by
  have h1 := tmod_M p
  rw [Go.IntWalk.wrap64_in _ (by omega)]
  have h2 := tmod_M (p.tmod 2147483647 + 2147483647)
  omega

set_option maxHeartbeats 400000 in
theorem implMod (p : Int) (w : World) :
    Calls Try.prog 109 #[.int .i64 p, .int .i64 2147483647] w fun e w' => e = .returned (.int .i64 (p % 2147483647)) ∧ w = w' := by
  go_enter Try.func109, Try.ntmps109
  go_wp2_with (go_at_call 29; refine (implInRange _ _ _ _).mono ?_; rintro e w' ⟨rfl, rfl⟩)
  all_goals go_ret
  · exact ⟨ret_int (mod_i p ‹_›), rfl⟩
  · exact ⟨ret_int (mod_j p ‹_›), rfl⟩

set_option maxHeartbeats 400000 in
theorem specMod (p : Int) (w : World) :
    Calls Try.prog 110 #[.int .i64 p, .int .i64 2147483647] w fun e w' => e = .returned (.int .i64 (p % 2147483647)) ∧ w = w' := by
  go_enter Try.func110, Try.ntmps110
  go_wp2_with (go_at_call 55; refine (specIn _ _ _ _).mono ?_; rintro e w' ⟨rfl, rfl⟩)
  go_ret
  exact ⟨ret_int (mod_k p), rfl⟩

def hashStep (d v : Int) : Int := (d * 1000003 + v % 2147483647 + 13) % 2147483647
def hashF (l : List Int) : Int := l.foldl hashStep 11
theorem hashStep_ge (d v : Int) : 0 ≤ hashStep d v ∧ hashStep d v < 2147483647 := by unfold hashStep; omega
def hashN (l : List Int) (k : Nat) : Int := (l.take k).foldl hashStep 11
theorem hashN_ge (l : List Int) (k : Nat) : 0 ≤ hashN l k ∧ hashN l k < 2147483647 := by
  unfold hashN
  cases h : (l.take k).reverse with
  | nil => rw [List.reverse_eq_nil_iff] at h; rw [h]; decide
  | cons x xs =>
    have e : l.take k = xs.reverse ++ [x] := by rw [← List.reverse_reverse (l.take k), h]; simp
    rw [e, List.foldl_append]; exact hashStep_ge _ _
theorem hashN_succ (l : List Int) (k : Nat) (h : k < l.length) : hashN l (k + 1) = hashStep (hashN l k) l[k] := by
  unfold hashN; rw [List.take_succ_eq_append_getElem h, List.foldl_append]; rfl
theorem hashN_all (l : List Int) {k : Nat} (h : l.length ≤ k) : hashN l k = hashF l := by unfold hashN hashF; rw [List.take_of_length_le h]
theorem hash_step (d v : Int) (h : 0 ≤ d ∧ d < 2147483647) : (wrap64 (wrap64 (wrap64 (d * 1000003) + v % 2147483647) + 13)).tmod 2147483647 = hashStep d v := by
  rw [Go.IntWalk.wrap64_in (d * 1000003) (by omega), Go.IntWalk.wrap64_in (d * 1000003 + v % 2147483647) (by omega), Go.IntWalk.wrap64_in _ (by omega)]
  unfold hashStep; exact Int.tmod_eq_emod_of_nonneg (by omega)

set_option maxHeartbeats 800000 in
theorem implHash (v : Value) (l : List Int) (w : World) (h : Reads (Rep.slice 3 Rep.int) w [v] l) :
    Calls Try.prog 104 #[v] w fun e w' => e = .returned (.int .i64 (hashF l)) ∧ Below w.heap.size w w' := by
  have HK := Lib.hid h
  obtain ⟨fp, h⟩ := h
  obtain ⟨ao, c1, rfl, hm, _, hu⟩ := slice_open h
  clear hu h
  go_enter Try.func104, Try.ntmps104
  go_wp2
  go_loopw [3, 8] (fun d i wr => ∃ k : Nat, k ≤ l.length ∧ i = .int .i64 k ∧ d = .int .i64 (hashN l k) ∧ wr = w) (fun _ i _ => l.length - (intOf i).toNat)
  case atStart => exact ⟨0, by omega, rfl, rfl, rfl⟩
  case round =>
    obtain ⟨k, hk, rfl, rfl, rfl⟩ := hrel
    by_cases hlt : k < l.length
    · obtain ⟨b, off, cs, rfl, bw, ⟨fe, hr⟩, hcell⟩ := slice_at HK.out k hlt
      obtain ⟨rfl, _, _⟩ := hr
      have hc0 : wr.cell? ⟨b, off + k, none⟩ = some (.int .i64 l[k]) := by have := hcell 0 (by decide); simpa [Rep.int, Rep.flat] using this
      clear hcell
      go_wp2_with (go_at_call 109; refine (implMod _ _).mono ?_; rintro e w' ⟨rfl, rfl⟩)
      refine ⟨⟨k + 1, by omega, by go_num, ?_, by first | trivial | rfl⟩, by simp [intOf]; omega⟩
      go_light
      rw [hashN_succ l k hlt, ← hash_step _ _ (hashN_ge l k)]
    · go_wp2
      go_ret
      exact ⟨ret_int (hashN_all l (by omega)), belR⟩

set_option maxHeartbeats 800000 in
theorem specHash (v : Value) (l : List Int) (w : World) (h : Reads (Rep.slice 3 Rep.int) w [v] l) :
    Calls Try.prog 106 #[v] w fun e w' => e = .returned (.int .i64 (hashF l)) ∧ Below w.heap.size w w' := by
  have HK := Lib.hid h
  obtain ⟨fp, h⟩ := h
  obtain ⟨ao, c1, rfl, hm, _, hu⟩ := slice_open h
  clear hu h
  go_enter Try.func106, Try.ntmps106
  go_wp2
  go_loopw [3, 4] (fun d i wr => ∃ k : Nat, k ≤ l.length ∧ i = .int .i64 k ∧ d = .int .i64 (hashN l k) ∧ wr = w) (fun _ i _ => l.length - (intOf i).toNat)
  case atStart => exact ⟨0, by omega, rfl, rfl, rfl⟩
  case round =>
    obtain ⟨k, hk, rfl, rfl, rfl⟩ := hrel
    by_cases hlt : k < l.length
    · obtain ⟨b, off, cs, rfl, bw, ⟨fe, hr⟩, hcell⟩ := slice_at HK.out k hlt
      obtain ⟨rfl, _, _⟩ := hr
      have hc0 : wr.cell? ⟨b, off + k, none⟩ = some (.int .i64 l[k]) := by have := hcell 0 (by decide); simpa [Rep.int, Rep.flat] using this
      clear hcell
      go_wp2_with (go_at_call 110; refine (specMod _ _).mono ?_; rintro e w' ⟨rfl, rfl⟩)
      refine ⟨⟨k + 1, by omega, by go_num, ?_, by first | trivial | rfl⟩, by simp [intOf]; omega⟩
      go_light
      rw [hashN_succ l k hlt, ← hash_step _ _ (hashN_ge l k)]
    · go_wp2
      go_ret
      exact ⟨ret_int (hashN_all l (by omega)), belR⟩

attribute [irreducible] hashF hashN hashStep

end Go.Proofs.Yteajhmpppciicaa
