/-
  IsPage, BeginPage.
-/
import Derived.Test.YtamdjeajmfjfmaaMachine
import Derived.Test.YtamdjeajmfjfmaaTPage
import Derived.Test.YtamdjeajmfjfmaaBase
namespace Go.Proofs.Ytamdjeajmfjfmaa
open Go.RowKit

theorem sets11 {w : World} {k : Nat} {a0 a1 a2 a3 a4 a5 a6 a7 a8 a9 a10 b0 b1 b2 b3 b4 b5 b6 b7 b8 b9 b10 : Value} (h : WB w k #[a0, a1, a2, a3, a4, a5, a6, a7, a8, a9, a10]) : WB (((((((((((w.setCell ⟨k, 0, none⟩ b0).setCell ⟨k, 1, none⟩ b1).setCell ⟨k, 2, none⟩ b2).setCell ⟨k, 3, none⟩ b3).setCell ⟨k, 4, none⟩ b4).setCell ⟨k, 5, none⟩ b5).setCell ⟨k, 6, none⟩ b6).setCell ⟨k, 7, none⟩ b7).setCell ⟨k, 8, none⟩ b8).setCell ⟨k, 9, none⟩ b9).setCell ⟨k, 10, none⟩ b10) k #[b0, b1, b2, b3, b4, b5, b6, b7, b8, b9, b10] :=
  (((((((((((h.setAt (i := 0) (cs' := #[b0, a1, a2, a3, a4, a5, a6, a7, a8, a9, a10]) (by simp) rfl).setAt (i := 1) (cs' := #[b0, b1, a2, a3, a4, a5, a6, a7, a8, a9, a10]) (by simp) rfl).setAt (i := 2) (cs' := #[b0, b1, b2, a3, a4, a5, a6, a7, a8, a9, a10]) (by simp) rfl).setAt (i := 3) (cs' := #[b0, b1, b2, b3, a4, a5, a6, a7, a8, a9, a10]) (by simp) rfl).setAt (i := 4) (cs' := #[b0, b1, b2, b3, b4, a5, a6, a7, a8, a9, a10]) (by simp) rfl).setAt (i := 5) (cs' := #[b0, b1, b2, b3, b4, b5, a6, a7, a8, a9, a10]) (by simp) rfl).setAt (i := 6) (cs' := #[b0, b1, b2, b3, b4, b5, b6, a7, a8, a9, a10]) (by simp) rfl).setAt (i := 7) (cs' := #[b0, b1, b2, b3, b4, b5, b6, b7, a8, a9, a10]) (by simp) rfl).setAt (i := 8) (cs' := #[b0, b1, b2, b3, b4, b5, b6, b7, b8, a9, a10]) (by simp) rfl).setAt (i := 9) (cs' := #[b0, b1, b2, b3, b4, b5, b6, b7, b8, b9, a10]) (by simp) rfl).setAt (i := 10) (cs' := #[b0, b1, b2, b3, b4, b5, b6, b7, b8, b9, b10]) (by simp) rfl)

def pageRow (x : DPage) (y : DLoaded) : Bool := isWordF y.path 8 false && !(y.version != x.version)
def isPageF (x : DPage) : Bool := x.loaded.all (pageRow x) && (within x.id 1 1000000000000 && (isWordF x.site 8 false && (isWordF x.top 8 false && (within x.version 1 1000000000000 && decide (x.loaded.length ≤ 8)))))
theorem page_no {x : DPage} {k : Nat} (hk : k < x.loaded.length) (h : pageRow x x.loaded[k] = false) : isPageF x = false := by
  have : x.loaded.all (pageRow x) = false := List.all_eq_false.2 ⟨x.loaded[k], List.getElem_mem _, by rw [h]; simp⟩
  rw [isPageF, this, Bool.false_and]
theorem page_yes {x : DPage} {k : Nat} (hk : ¬ k < x.loaded.length) (h : ∀ i, i < k → (hi : i < x.loaded.length) → pageRow x x.loaded[i] = true) : isPageF x = (within x.id 1 1000000000000 && (isWordF x.site 8 false && (isWordF x.top 8 false && (within x.version 1 1000000000000 && decide (x.loaded.length ≤ 8))))) := by
  have : x.loaded.all (pageRow x) = true := List.all_eq_true.2 fun y hy => by
    obtain ⟨i, hi, rfl⟩ := List.getElem_of_mem hy
    exact h i (by omega) hi
  rw [isPageF, this, Bool.true_and]

set_option maxRecDepth 100000 in
set_option maxHeartbeats 3200000 in
theorem implIsPage (cs : List Value) (x : DPage) (w : World) (h : Reads DPage.rep w cs x) :
    Calls Try.prog 68 #[.agg cs.toArray] w fun e w' => e = .returned (.bool (isPageF x)) ∧ Below w.heap.size w w' := by
  obtain ⟨fp_q, h⟩ := h
  obtain ⟨q_v1, q_v2, q_v3, q_f1, q_f2, q_f3, rfl, _, q_s0, q_s1, q_r1, q_r2, q_r3⟩ := DPage.rd.1 h
  obtain ⟨q_a1, q_c1, rfl, q_hm1, q_lc1, q_hu1⟩ := slice_open q_r1; clear q_hu1
  have q_K1 : Hid (Reads (Rep.slice 123 DLoaded.rep) w [.slice q_a1 x.loaded.length q_c1] x.loaded) := ⟨_, q_r1⟩
  obtain ⟨q_a2, q_c2, rfl, q_hm2, q_lc2, q_hu2⟩ := slice_open q_r2; clear q_hu2
  have q_K2 : Hid (Reads (Rep.slice 113 DInstr.rep) w [.slice q_a2 x.machine.script.length q_c2] x.machine.script) := ⟨_, q_r2⟩
  obtain ⟨q_a3, q_c3, rfl, q_hm3, q_lc3, q_hu3⟩ := slice_open q_r3; clear q_hu3
  have q_K3 : Hid (Reads (Rep.slice 3 Rep.int) w [.slice q_a3 x.machine.regs.length q_c3] x.machine.regs) := ⟨_, q_r3⟩
  clear q_r1 q_r2 q_r3 h
  go_enter Try.func68, Try.ntmps68
  go_wp2
  go_loopw [8] (fun i wr => ∃ k : Nat, k ≤ x.loaded.length ∧ i = .int .i64 k ∧ Hid (∀ i, i < k → (hi : i < x.loaded.length) → pageRow x x.loaded[i] = true) ∧ WB wr w.heap.size #[.int .i64 x.id, .string x.site, .string x.top, .int .i64 x.version, .slice q_a1 x.loaded.length q_c1, .slice q_a2 x.machine.script.length q_c2, .int .i64 x.machine.pc, .slice q_a3 x.machine.regs.length q_c3, .int .i64 x.machine.steps, .bool x.machine.done, .bool x.machine.wait] ∧ Below w.heap.size w wr) (fun i _ => x.loaded.length - (intOf i).toNat)
  case atStart => exact ⟨0, by omega, rfl, Lib.hid (by intro i hi; omega), WB.at rfl, (by repeat (first | with_reducible exact belR | with_reducible apply belA | (with_reducible refine belS ?_ ?_; focus (first | omega | (simp; done) | (simp; omega))) | with_reducible apply belN | with_reducible apply belD | with_reducible assumption))⟩
  case round =>
    obtain ⟨k, hk, rfl, HA, hx, hb⟩ := hrel
    have HB := Lib.hid hb; clear hb
    have HX := Lib.hid hx; clear hx
    have ⟨c_HX, z_HX, f_HX⟩ := HX.out
    by_cases hlt : k < x.loaded.length
    · obtain ⟨b, off, cs_b, rfl, hw_b, hr_b, hcell_b⟩ := slice_at (q_K1.out.below HB.out) k hlt
      obtain ⟨fe_b, hrd_b⟩ := hr_b
      have HR_b : Hid (Reads DLoaded.rep wr cs_b x.loaded[k]) := ⟨_, hrd_b⟩
      obtain ⟨rfl, _, b_s0⟩ := DLoaded.rd.1 hrd_b
      clear hrd_b
      have b_c0 : wr.cell? ⟨b, off + k * 2, none⟩ = some (.string x.loaded[k].path) := hcell_b 0 (by decide)
      have b_c1 : wr.cell? ⟨b, off + k * 2 + 1, none⟩ = some (.int .i64 x.loaded[k].version) := hcell_b 1 (by decide)
      clear hcell_b
      have j1 : (0 : Int) ≤ (k : Int) := by omega
      have j3 : (k : Int) < (x.loaded.length : Int) := by omega
      cases n1 : isWordF x.loaded[k].path 8 false
      case' true => cases n2 : (x.loaded[k].version != x.version)
      all_goals
        have HB1 : Hid (Below w.heap.size w (wr.alloc (.cells #[.string x.loaded[k].path, .int .i64 x.loaded[k].version] 123))) := Lib.hid (belAB HB.out.size HB.out)
        have HX1 := Lib.hid (HX.out.growA (o := .cells #[.string x.loaded[k].path, .int .i64 x.loaded[k].version] 123))
      all_goals
        first
          | (go_wp2_with (go_at_call 107; refine (implIsName _ b_s0 _).mono ?_; rintro e w' ⟨rfl, rfl⟩)
             go_ret
             refine ⟨ret_bool (page_no hlt ?_).symm, HB1.out⟩
             unfold pageRow
             first
               | (rw [n1]; rfl)
               | (rw [n1, n2]; rfl))
          | (have HK : Hid (pageRow x x.loaded[k] = true) := Lib.hid (by unfold pageRow; rw [n1, n2]; rfl)
             go_wp2_with (go_at_call 107; refine (implIsName _ b_s0 _).mono ?_; rintro e w' ⟨rfl, rfl⟩)
             go_light
             exact ⟨⟨k + 1, by omega, by go_num, Lib.hid (fun i hi hi2 => by by_cases e : i = k; (subst e; exact HK.out); (exact HA.out i (by omega) hi2)), HX1.out, HB1.out⟩, by simp [intOf]; omega⟩)
    · have he := Lib.hid (page_yes hlt HA.out)
      go_wp2_with (first | (go_at_call 58; refine (implInRange _ _ _ _).mono ?_; rintro e w' ⟨rfl, rfl⟩) | (go_at_call 107; refine (implIsName _ (by assumption) _).mono ?_; rintro e w' ⟨rfl, rfl⟩))
      all_goals
        go_ret
        refine ⟨ret_bool ?_, HB.out⟩
        rw [he.out]
        go_light
        simp_all
        try omega

set_option maxRecDepth 100000 in
set_option maxHeartbeats 3200000 in
theorem specIsPage (cs : List Value) (x : DPage) (w : World) (h : Reads DPage.rep w cs x) :
    Calls Try.prog 65 #[.agg cs.toArray] w fun e w' => e = .returned (.bool (isPageF x)) ∧ Below w.heap.size w w' := by
  obtain ⟨fp_q, h⟩ := h
  obtain ⟨q_v1, q_v2, q_v3, q_f1, q_f2, q_f3, rfl, _, q_s0, q_s1, q_r1, q_r2, q_r3⟩ := DPage.rd.1 h
  obtain ⟨q_a1, q_c1, rfl, q_hm1, q_lc1, q_hu1⟩ := slice_open q_r1; clear q_hu1
  have q_K1 : Hid (Reads (Rep.slice 123 DLoaded.rep) w [.slice q_a1 x.loaded.length q_c1] x.loaded) := ⟨_, q_r1⟩
  obtain ⟨q_a2, q_c2, rfl, q_hm2, q_lc2, q_hu2⟩ := slice_open q_r2; clear q_hu2
  have q_K2 : Hid (Reads (Rep.slice 113 DInstr.rep) w [.slice q_a2 x.machine.script.length q_c2] x.machine.script) := ⟨_, q_r2⟩
  obtain ⟨q_a3, q_c3, rfl, q_hm3, q_lc3, q_hu3⟩ := slice_open q_r3; clear q_hu3
  have q_K3 : Hid (Reads (Rep.slice 3 Rep.int) w [.slice q_a3 x.machine.regs.length q_c3] x.machine.regs) := ⟨_, q_r3⟩
  clear q_r1 q_r2 q_r3 h
  go_enter Try.func65, Try.ntmps65
  go_wp2
  go_loopw [3] (fun i wr => ∃ k : Nat, k ≤ x.loaded.length ∧ i = .int .i64 k ∧ Hid (∀ i, i < k → (hi : i < x.loaded.length) → pageRow x x.loaded[i] = true) ∧ WB wr w.heap.size #[.int .i64 x.id, .string x.site, .string x.top, .int .i64 x.version, .slice q_a1 x.loaded.length q_c1, .slice q_a2 x.machine.script.length q_c2, .int .i64 x.machine.pc, .slice q_a3 x.machine.regs.length q_c3, .int .i64 x.machine.steps, .bool x.machine.done, .bool x.machine.wait] ∧ Below w.heap.size w wr) (fun i _ => x.loaded.length - (intOf i).toNat)
  case atStart => exact ⟨0, by omega, rfl, Lib.hid (by intro i hi; omega), WB.at rfl, (by repeat (first | with_reducible exact belR | with_reducible apply belA | (with_reducible refine belS ?_ ?_; focus (first | omega | (simp; done) | (simp; omega))) | with_reducible apply belN | with_reducible apply belD | with_reducible assumption))⟩
  case round =>
    obtain ⟨k, hk, rfl, HA, hx, hb⟩ := hrel
    have HB := Lib.hid hb; clear hb
    have HX := Lib.hid hx; clear hx
    have ⟨c_HX, z_HX, f_HX⟩ := HX.out
    by_cases hlt : k < x.loaded.length
    · obtain ⟨b, off, cs_b, rfl, hw_b, hr_b, hcell_b⟩ := slice_at (q_K1.out.below HB.out) k hlt
      obtain ⟨fe_b, hrd_b⟩ := hr_b
      have HR_b : Hid (Reads DLoaded.rep wr cs_b x.loaded[k]) := ⟨_, hrd_b⟩
      obtain ⟨rfl, _, b_s0⟩ := DLoaded.rd.1 hrd_b
      clear hrd_b
      have b_c0 : wr.cell? ⟨b, off + k * 2, none⟩ = some (.string x.loaded[k].path) := hcell_b 0 (by decide)
      have b_c1 : wr.cell? ⟨b, off + k * 2 + 1, none⟩ = some (.int .i64 x.loaded[k].version) := hcell_b 1 (by decide)
      clear hcell_b
      have j1 : (0 : Int) ≤ (k : Int) := by omega
      have j3 : (k : Int) < (x.loaded.length : Int) := by omega
      cases n1 : isWordF x.loaded[k].path 8 false
      case' true => cases n2 : (x.loaded[k].version != x.version)
      all_goals
        go_wp2_with fail
        have K0 := rg_var HX.out
        have C0 := rg_cell b_c0
        have C1 := rg_cell b_c1
        refine wp_region_rg (by kernel_rfl) (by kernel_rfl) ?_
        repeat (go_big_quiet_step ((first | (go_at_call 104; exact calls_rgSame (specIsName _ b_s0 _)))))
        refine wpQuiet_nil ?_
        rintro _ ⟨pq, rfl⟩
        clear K0 C0 C1
        have HB1 : Hid (Below w.heap.size w (rg wr pq)) := Lib.hid (HB.out.trans ((rg_below wr pq).mono HB.out.size))
        have HX1 := Lib.hid (HX.out.keep (rg_below wr pq))
      all_goals
        first
          | (go_wp2
             go_ret
             refine ⟨ret_bool (page_no hlt ?_).symm, HB1.out⟩
             unfold pageRow
             first
               | (rw [n1]; rfl)
               | (rw [n1, n2]; rfl))
          | (have HK : Hid (pageRow x x.loaded[k] = true) := Lib.hid (by unfold pageRow; rw [n1, n2]; rfl)
             go_wp2
             go_light
             exact ⟨⟨k + 1, by omega, by go_num, Lib.hid (fun i hi hi2 => by by_cases e : i = k; (subst e; exact HK.out); (exact HA.out i (by omega) hi2)), HX1.out, HB1.out⟩, by simp [intOf]; omega⟩)
    · have he := Lib.hid (page_yes hlt HA.out)
      go_wp2_with (first | (go_at_call 105; refine (specIn _ _ _ _).mono ?_; rintro e w' ⟨rfl, rfl⟩) | (go_at_call 104; refine (specIsName _ (by assumption) _).mono ?_; rintro e w' ⟨rfl, rfl⟩))
      all_goals
        go_ret
        refine ⟨ret_bool ?_, HB.out⟩
        rw [he.out]
        go_light
        simp_all
        try omega

end Go.Proofs.Ytamdjeajmfjfmaa
