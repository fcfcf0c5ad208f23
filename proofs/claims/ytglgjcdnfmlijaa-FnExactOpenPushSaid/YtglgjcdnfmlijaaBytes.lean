/-
  Slices of bytes.
-/
import Derived.Test.YtglgjcdnfmlijaaSeat
namespace Go.Proofs.Ytglgjcdnfmlijaa
open Go.RowKit

abbrev Rep.bytes : Rep (List UInt8) := Rep.slice 5 Rep.byte
/-- The first k of two lists agree. -/
theorem agree_snoc {α : Type} {l m : List α} {k : Nat} (h : ∀ j, j < k → l[j]? = m[j]?) (hk : l[k]? = m[k]?) : ∀ j, j < k + 1 → l[j]? = m[j]? := by
  intro j hj
  by_cases e : j = k
  · subst e; exact hk
  · exact h j (by omega)
theorem agree_all {α : Type} {l m : List α} {k : Nat} (h : ∀ j, j < k → l[j]? = m[j]?) (h1 : l.length ≤ k) (h2 : m.length = l.length) : l = m := by
  apply List.ext_getElem?
  intro j
  by_cases hj : j < k
  · exact h j hj
  · rw [List.getElem?_eq_none (by omega), List.getElem?_eq_none (by omega)]
theorem u8_ne {x y : UInt8} (h : ¬ ((x.toNat : Int) = y.toNat)) : x ≠ y := fun e => h (by rw [e])
theorem u8_eq {x y : UInt8} (h : (x.toNat : Int) = y.toNat) : x = y := UInt8.toNat_inj.1 (by omega)

set_option maxHeartbeats 400000 in
theorem slicesEqualBytes (u v : Value) (l m : List UInt8) (w : World) (hu : Reads Rep.bytes w [u] l) (hv : Reads Rep.bytes w [v] m) :
    Calls Try.prog 153 #[u, v] w fun e w' => e = .returned (.bool (decide (l = m))) ∧ ∃ n, w' = w.drewN n := by
  obtain ⟨_, hu⟩ := hu
  obtain ⟨_, hv⟩ := hv
  obtain ⟨ao, c1, rfl, hm, _, hu⟩ := slice_flat hu
  obtain ⟨bo, c2, rfl, hm2, _, hv⟩ := slice_flat hv
  have HU := Lib.hid hu; clear hu
  have HV := Lib.hid hv; clear hv
  by_cases hlen : l.length = m.length
  · have hl0 : ((l.length : Int) != m.length) = false := by simp; omega
    have HL := Lib.hid hlen; clear hlen
    go_enter Try.func153, Try.ntmps153
    go_wp2
    go_loopw [5, 13] (fun _ i wr => ∃ k : Nat, k ≤ l.length ∧ i = .int .i64 k ∧ (∀ j, j < k → l[j]? = m[j]?) ∧ ∃ n, wr = w.drewN n) (fun _ i _ => l.length - (intOf i).toNat)
    case atStart => exact ⟨0, by omega, rfl, by intro j hj; omega, 0, rfl⟩
    case round =>
      obtain ⟨k, hk, rfl, hall, nq, rfl⟩ := hrel
      have HA := Lib.hid hall; clear hall
      by_cases hlt : k < l.length
      · have hlt' : k < m.length := by have := HL.out; omega
        obtain ⟨b, off, rfl, _, hcell⟩ := HU.out k hlt
        obtain ⟨b', off', rfl, _, hcell'⟩ := HV.out k hlt'
        by_cases he : l[k] = m[k]
        · have h1 : ((l[k].toNat : Int) != m[k].toNat) = false := by simp [he]
          have HE := Lib.hid he; clear he
          go_wp2
          go_quiet (fail)
          go_wp2
          go_light
          exact ⟨⟨k + 1, by omega, by go_num, agree_snoc HA.out (by rw [List.getElem?_eq_getElem hlt, List.getElem?_eq_getElem hlt', HE.out]), _, rfl⟩, by simp [intOf]; omega⟩
        · have h1 : ((l[k].toNat : Int) != m[k].toNat) = true := by simpa using fun h => he (u8_eq (by omega))
          have HE := Lib.hid he; clear he
          go_wp2
          go_quiet (fail)
          go_wp2
          go_ret
          refine ⟨ret_bool ?_, _, World.drewN_drewN _ _ _⟩
          go_light
          symm
          rw [decide_eq_false_iff_not]
          intro e
          subst e
          exact HE.out rfl
      · go_wp2
        go_ret
        refine ⟨ret_bool ?_, _, rfl⟩
        go_light
        have := agree_all HA.out (by omega) HL.out.symm
        simp [this]
  · have hl0 : ((l.length : Int) != m.length) = true := by simp; omega
    have HL := Lib.hid hlen; clear hlen
    go_enter Try.func153, Try.ntmps153
    go_wp2
    go_ret
    refine ⟨ret_bool ?_, 0, rfl⟩
    symm
    rw [decide_eq_false_iff_not]
    intro e
    exact HL.out (by rw [e])

set_option maxHeartbeats 400000 in
theorem implEqualBytes (u v : Value) (l m : List UInt8) (w : World) (hu : Reads Rep.bytes w [u] l) (hv : Reads Rep.bytes w [v] m) :
    Calls Try.prog 112 #[u, v] w fun e w' => e = .returned (.bool (decide (l = m))) ∧ ∃ n, w' = w.drewN n := by
  go_enter Try.func112, Try.ntmps112
  go_wp2_with (go_at_call 153; refine (slicesEqualBytes _ _ _ _ _ hu hv).mono ?_; rintro e w' ⟨rfl, n, rfl⟩)
  go_ret
  exact ⟨rfl, _, rfl⟩

end Go.Proofs.Ytglgjcdnfmlijaa
