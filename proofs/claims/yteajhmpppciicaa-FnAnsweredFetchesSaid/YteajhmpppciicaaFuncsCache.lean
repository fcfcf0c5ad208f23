/-
  slices.IndexFunc, ContainsFunc, DeleteFunc at []Cache.
-/
import Derived.Test.YteajhmpppciicaaBase
import Derived.Test.YteajhmpppciicaaTCache
namespace Go.Proofs.Yteajhmpppciicaa
open Go.RowKit

set_option maxRecDepth 100000 in
set_option maxHeartbeats 800000 in
theorem indexFuncCache (g : FuncId) (cap : Array Value) (p : DCache → Bool) (B : Nat) (v : Value) (l : List DCache) (w : World) (eg : Enters Try.prog g) (h : Reads (Rep.slice 85 DCache.rep) w [v] l) (hp : PredOn Try.prog DCache.rep g cap p B w) (hB : B ≤ w.heap.size) :
    Calls Try.prog 90 #[v, .func (.func g) #[] cap] w fun e w' => e = .returned (.int .i64 (idxF p l)) ∧ Below w.heap.size w w' := by
  obtain ⟨fp, h⟩ := h
  obtain ⟨ao, c1, rfl, hm, _, hu⟩ := slice_open h
  have HK : Hid (Reads (Rep.slice 85 DCache.rep) w [.slice ao l.length c1] l) := ⟨_, h⟩
  have HP := Lib.hid hp
  clear h hp hu
  unfold Enters at eg
  go_enter Try.func90, Try.ntmps90
  go_wp2
  go_loopw [8] (fun i wr => ∃ k : Nat, k ≤ l.length ∧ i = .int .i64 k ∧ Hid (∀ j, (hj : j < l.length) → j < k → p l[j] = false) ∧ Below w.heap.size w wr) (fun i _ => l.length - (intOf i).toNat)
  case atStart => exact ⟨0, by omega, rfl, Lib.hid (by intro j hj h; omega), (by repeat (first | with_reducible exact belR | with_reducible apply belA | (with_reducible refine belS ?_ ?_; focus (first | omega | (simp; done) | (simp; omega))) | with_reducible apply belN | with_reducible apply belD | with_reducible assumption))⟩
  case round =>
    obtain ⟨k, hk, rfl, HA, hb⟩ := hrel
    have HB := Lib.hid hb; clear hb
    by_cases hlt : k < l.length
    · obtain ⟨b, off, cs_b, rfl, hw_b, hr_b, hcell_b⟩ := slice_at (HK.out.below HB.out) k hlt
      obtain ⟨fe_b, hrd_b⟩ := hr_b
      have HR_b : Hid (Reads DCache.rep wr cs_b l[k]) := ⟨_, hrd_b⟩
      obtain ⟨b_v1, b_f1, rfl, _, b_r1⟩ := DCache.rd.1 hrd_b
      obtain ⟨b_a1, b_k1, rfl, _⟩ := slice_open b_r1
      have b_R1 : Hid (Reads (Rep.slice 88 DCached.rep) wr [.slice b_a1 l[k].entries.length b_k1] l[k].entries) := ⟨_, b_r1⟩
      clear b_r1
      clear hrd_b
      have b_c0 : wr.cell? ⟨b, off + k * 2, none⟩ = some (.int .i64 l[k].version) := hcell_b 0 (by decide)
      have b_c1 : wr.cell? ⟨b, off + k * 2 + 1, none⟩ = some (.slice b_a1 l[k].entries.length b_k1) := hcell_b 1 (by decide)
      clear hcell_b
      cases hq : p l[k] with
      | true =>
        have HQ := Lib.hid hq; clear hq
        have e := Lib.hid (idxF_hit hlt HQ.out HA.out)
        go_wp2_with fail
        refine (HP.out wr _ _ (HB.out.mono hB) HR_b.out).mono ?_
        rw [HQ.out]
        rintro e' w1 ⟨rfl, hb1⟩
        have HB1 := Lib.hid (HB.out.trans (hb1.mono HB.out.size)); clear hb1
        go_wp2
        go_ret
        exact ⟨ret_int e.out.symm, HB1.out⟩
      | false =>
        have HQ := Lib.hid hq; clear hq
        go_wp2_with fail
        refine (HP.out wr _ _ (HB.out.mono hB) HR_b.out).mono ?_
        rw [HQ.out]
        rintro e' w1 ⟨rfl, hb1⟩
        have HB1 := Lib.hid (HB.out.trans (hb1.mono HB.out.size)); clear hb1
        go_wp2
        go_light
        exact ⟨⟨k + 1, by omega, by go_num, Lib.hid (none_snoc hlt HA.out HQ.out), HB1.out⟩, by simp [intOf]; omega⟩
    · have e := Lib.hid (idxF_miss (p := p) (l := l) (fun j hj => HA.out j hj (by omega)))
      go_wp2
      go_ret
      exact ⟨ret_int e.out.symm, HB.out⟩

end Go.Proofs.Yteajhmpppciicaa
