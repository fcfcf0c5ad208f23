/-
  IsOutbox.
-/
import Derived.Test.YteajhmpppciicaaKeys
import Derived.Test.YteajhmpppciicaaBase
import Derived.Test.YteajhmpppciicaaTFam
namespace Go.Proofs.Yteajhmpppciicaa
open Go.RowKit

def outOk (x : DOutbox) (i : Nat) : Bool := match x.writes[i]? with | none => true | some y => isWriteF y && (!(y.device != x.device) && !(y.seq != wrap64 (wrap64 (x.next - (x.writes.length : Int)) + (i : Int))))
def isOutboxF (x : DOutbox) : Bool := (List.range x.writes.length).all (outOk x) && (within x.device 1 1000000 && within x.next 1 1000000 && decide (x.writes.length ≤ 20))
theorem outbox_no {x : DOutbox} {i : Nat} (hi : i < x.writes.length) (h : outOk x i = false) : isOutboxF x = false := by
  have : (List.range x.writes.length).all (outOk x) = false := List.all_eq_false.2 ⟨i, List.mem_range.2 hi, by rw [h]; simp⟩
  rw [isOutboxF, this, Bool.false_and]
theorem outbox_yes {x : DOutbox} {k : Nat} (hk : ¬ k < x.writes.length) (h : ∀ i, i < k → outOk x i = true) : isOutboxF x = (within x.device 1 1000000 && within x.next 1 1000000 && decide (x.writes.length ≤ 20)) := by
  have : (List.range x.writes.length).all (outOk x) = true := List.all_eq_true.2 fun i hi => h i (by have := List.mem_range.1 hi; omega)
  rw [isOutboxF, this, Bool.true_and]
theorem outbox_out {x : DOutbox} (h : (within x.device 1 1000000 && within x.next 1 1000000 && decide (x.writes.length ≤ 20)) = false) : isOutboxF x = false := by
  rw [isOutboxF, h, Bool.and_false]
theorem out_at {x : DOutbox} {i : Nat} (hi : i < x.writes.length) : outOk x i = (isWriteF x.writes[i] && (!(x.writes[i].device != x.device) && !(x.writes[i].seq != wrap64 (wrap64 (x.next - (x.writes.length : Int)) + (i : Int))))) := by
  unfold outOk; rw [List.getElem?_eq_getElem hi]
theorem out_snoc {x : DOutbox} {k : Nat} (h : ∀ i, i < k → outOk x i = true) (hk : outOk x k = true) : ∀ i, i < k + 1 → outOk x i = true := by
  intro i hi
  by_cases e : i = k
  · subst e; exact hk
  · exact h i (by omega)
attribute [irreducible] outOk

set_option maxRecDepth 100000 in
set_option maxHeartbeats 1600000 in
theorem implIsOutbox (cs : List Value) (x : DOutbox) (w : World) (h : Reads DOutbox.rep w cs x) :
    Calls Try.prog 11 #[.agg cs.toArray] w fun e w' => e = .returned (.bool (isOutboxF x)) ∧ Below w.heap.size w w' := by
  obtain ⟨fp_q, h⟩ := h
  obtain ⟨q_v1, q_f1, rfl, _, q_r1⟩ := DOutbox.rd.1 h
  obtain ⟨q_a1, q_c1, rfl, q_hm1, q_lc1, q_hu1⟩ := slice_open q_r1; clear q_hu1
  have q_K1 : Hid (Reads (Rep.slice 35 DWrite.rep) w [.slice q_a1 x.writes.length q_c1] x.writes) := ⟨_, q_r1⟩
  clear q_r1 h
  go_enter Try.func11, Try.ntmps11
  go_wp2
  go_loopw [12] (fun i wr => ∃ k : Nat, k ≤ x.writes.length ∧ i = .int .i64 k ∧ Hid (∀ i, i < k → outOk x i = true) ∧ WB wr w.heap.size #[.int .i64 x.device, .int .i64 x.next, .slice q_a1 x.writes.length q_c1] ∧ Below w.heap.size w wr) (fun i _ => x.writes.length - (intOf i).toNat)
  case atStart => exact ⟨0, by omega, rfl, Lib.hid (by intro i hi; omega), WB.at rfl, (by repeat (first | with_reducible exact belR | with_reducible apply belA | (with_reducible refine belS ?_ ?_; focus (first | omega | (simp; done) | (simp; omega))) | with_reducible apply belN | with_reducible apply belD | with_reducible assumption))⟩
  case round =>
    obtain ⟨k, hk, rfl, HA, hx, hb⟩ := hrel
    have HB := Lib.hid hb; clear hb
    have HX := Lib.hid hx
    have ⟨cx, zx, fx⟩ := hx
    clear hx
    by_cases hlt : k < x.writes.length
    · obtain ⟨b, off, cs_b, rfl, hw_b, hr_b, hcell_b⟩ := slice_at (q_K1.out.below HB.out) k hlt
      obtain ⟨fe_b, hrd_b⟩ := hr_b
      have HR_b : Hid (Reads DWrite.rep wr cs_b x.writes[k]) := ⟨_, hrd_b⟩
      obtain ⟨rfl, _, b_s0, b_s1⟩ := DWrite.rd.1 hrd_b
      clear hrd_b
      have b_c0 : wr.cell? ⟨b, off + k * 7, none⟩ = some (.int .i64 x.writes[k].device) := hcell_b 0 (by decide)
      have b_c1 : wr.cell? ⟨b, off + k * 7 + 1, none⟩ = some (.int .i64 x.writes[k].seq) := hcell_b 1 (by decide)
      have b_c2 : wr.cell? ⟨b, off + k * 7 + 2, none⟩ = some (.int .i64 x.writes[k].key.kind) := hcell_b 2 (by decide)
      have b_c3 : wr.cell? ⟨b, off + k * 7 + 3, none⟩ = some (.int .i64 x.writes[k].key.n) := hcell_b 3 (by decide)
      have b_c4 : wr.cell? ⟨b, off + k * 7 + 4, none⟩ = some (.string x.writes[k].key.text) := hcell_b 4 (by decide)
      have b_c5 : wr.cell? ⟨b, off + k * 7 + 5, none⟩ = some (.string x.writes[k].field) := hcell_b 5 (by decide)
      have b_c6 : wr.cell? ⟨b, off + k * 7 + 6, none⟩ = some (.int .i64 x.writes[k].n) := hcell_b 6 (by decide)
      clear hcell_b
      have HW : Hid (∀ W, Reads DWrite.rep W [.int .i64 x.writes[k].device, .int .i64 x.writes[k].seq, .int .i64 x.writes[k].key.kind, .int .i64 x.writes[k].key.n, .string x.writes[k].key.text, .string x.writes[k].field, .int .i64 x.writes[k].n] x.writes[k]) := fun W => ⟨[], DWrite.rd.2 ⟨rfl, rfl, b_s0, b_s1⟩⟩
      clear HR_b
      have j1 : (0 : Int) ≤ (k : Int) := by omega
      have j2 : (k : Int) ≤ (q_c1 : Int) := by omega
      have j3 : (k : Int) < (x.writes.length : Int) := by omega
      have eo := Lib.hid (out_at hlt)
      cases n1 : isWriteF x.writes[k]
      case' true => cases n2 : (x.writes[k].device != x.device)
      case' true.false => cases n3 : (x.writes[k].seq != wrap64 (wrap64 (x.next - (x.writes.length : Int)) + (k : Int)))
      all_goals
        go_wp2_with (go_at_call 13; refine (implIsQueuedWrite _ _ _ (HW.out _)).mono ?_; rintro e w1 ⟨rfl, hb⟩; obtain ⟨hc, hfz⟩ := bcell hb; have HB1_0 := Lib.hid hb; have HB1 := Lib.hid (below_call (w := wr) (by repeat (first | with_reducible exact belR | with_reducible apply belA | (with_reducible refine belS ?_ ?_; focus (first | omega | (simp; done) | (simp; omega))) | with_reducible apply belN | with_reducible apply belD | with_reducible assumption)) (by first | omega | (simp; done) | (simp; omega)) hb); clear hb)
      all_goals
        first
          | (go_ret
             refine ⟨ret_bool (outbox_no hlt ?_).symm, below_call HB.out HB.out.size HB1.out⟩
             rw [eo.out]
             first
               | (rw [n1]; rfl)
               | (rw [n1, n2]; rfl)
               | (rw [n1, n2, n3]; rfl))
          | (have HK : Hid (outOk x k = true) := Lib.hid (by rw [eo.out, n1, n2, n3]; rfl)
             go_light
             exact ⟨⟨k + 1, by omega, by go_num, Lib.hid (out_snoc HA.out HK.out), HX.out.growA.grow (HB1_0.out) (by simp; omega), below_call HB.out HB.out.size HB1.out⟩, by simp [intOf]; omega⟩)
    · have he := Lib.hid (outbox_yes hlt HA.out)
      cases m1 : within x.device 1 1000000
      case' true => cases m2 : within x.next 1 1000000
      all_goals
        go_wp2_with (go_at_call 29; refine (implInRange _ _ _ _).mono ?_; rintro e w' ⟨rfl, rfl⟩)
        go_ret
        refine ⟨ret_bool ?_, HB.out⟩
        rw [he.out]
        first
          | (rw [m1]; rfl)
          | (rw [m1, m2]; rfl)
          | (rw [m1, m2]; simp; omega)

set_option maxRecDepth 100000 in
set_option maxHeartbeats 1600000 in
theorem specIsOutbox (cs : List Value) (x : DOutbox) (w : World) (h : Reads DOutbox.rep w cs x) :
    Calls Try.prog 27 #[.agg cs.toArray] w fun e w' => e = .returned (.bool (isOutboxF x)) ∧ Below w.heap.size w w' := by
  obtain ⟨fp_q, h⟩ := h
  obtain ⟨q_v1, q_f1, rfl, _, q_r1⟩ := DOutbox.rd.1 h
  obtain ⟨q_a1, q_c1, rfl, q_hm1, q_lc1, q_hu1⟩ := slice_open q_r1; clear q_hu1
  have q_K1 : Hid (Reads (Rep.slice 35 DWrite.rep) w [.slice q_a1 x.writes.length q_c1] x.writes) := ⟨_, q_r1⟩
  clear q_r1 h
  have hm : (within x.device 1 1000000 && within x.next 1 1000000 && decide (x.writes.length ≤ 20)) = true ∨ (within x.device 1 1000000 && within x.next 1 1000000 && decide (x.writes.length ≤ 20)) = false := by
    cases (within x.device 1 1000000 && within x.next 1 1000000 && decide (x.writes.length ≤ 20)) <;> simp
  rcases hm with hm | hm
  · simp only [Bool.and_eq_true, decide_eq_true_eq] at hm
    obtain ⟨⟨m1, m2⟩, m3⟩ := hm
    go_enter Try.func27, Try.ntmps27
    go_wp2_with (go_at_call 55; refine (specIn _ _ _ _).mono ?_; rintro e w' ⟨rfl, rfl⟩)
    have HM1 := Lib.hid m1
    have HM2 := Lib.hid m2
    have HM3 := Lib.hid m3
    clear m1 m2 m3
    go_loopw [4] (fun i wr => ∃ k : Nat, k ≤ x.writes.length ∧ i = .int .i64 k ∧ Hid (∀ i, i < k → outOk x i = true) ∧ WB wr w.heap.size #[.int .i64 x.device, .int .i64 x.next, .slice q_a1 x.writes.length q_c1] ∧ Below w.heap.size w wr) (fun i _ => x.writes.length - (intOf i).toNat)
    case atStart => exact ⟨0, by omega, rfl, Lib.hid (by intro i hi; omega), WB.at rfl, (by repeat (first | with_reducible exact belR | with_reducible apply belA | (with_reducible refine belS ?_ ?_; focus (first | omega | (simp; done) | (simp; omega))) | with_reducible apply belN | with_reducible apply belD | with_reducible assumption))⟩
    case round =>
      obtain ⟨k, hk, rfl, HA, hx, hb⟩ := hrel
      have HB := Lib.hid hb; clear hb
      have HX := Lib.hid hx
      have ⟨cx, zx, fx⟩ := hx
      clear hx
      by_cases hlt : k < x.writes.length
      · obtain ⟨b, off, cs_b, rfl, hw_b, hr_b, hcell_b⟩ := slice_at (q_K1.out.below HB.out) k hlt
        obtain ⟨fe_b, hrd_b⟩ := hr_b
        have HR_b : Hid (Reads DWrite.rep wr cs_b x.writes[k]) := ⟨_, hrd_b⟩
        obtain ⟨rfl, _, b_s0, b_s1⟩ := DWrite.rd.1 hrd_b
        clear hrd_b
        have b_c0 : wr.cell? ⟨b, off + k * 7, none⟩ = some (.int .i64 x.writes[k].device) := hcell_b 0 (by decide)
        have b_c1 : wr.cell? ⟨b, off + k * 7 + 1, none⟩ = some (.int .i64 x.writes[k].seq) := hcell_b 1 (by decide)
        have b_c2 : wr.cell? ⟨b, off + k * 7 + 2, none⟩ = some (.int .i64 x.writes[k].key.kind) := hcell_b 2 (by decide)
        have b_c3 : wr.cell? ⟨b, off + k * 7 + 3, none⟩ = some (.int .i64 x.writes[k].key.n) := hcell_b 3 (by decide)
        have b_c4 : wr.cell? ⟨b, off + k * 7 + 4, none⟩ = some (.string x.writes[k].key.text) := hcell_b 4 (by decide)
        have b_c5 : wr.cell? ⟨b, off + k * 7 + 5, none⟩ = some (.string x.writes[k].field) := hcell_b 5 (by decide)
        have b_c6 : wr.cell? ⟨b, off + k * 7 + 6, none⟩ = some (.int .i64 x.writes[k].n) := hcell_b 6 (by decide)
        clear hcell_b
        have HW : Hid (∀ W, Reads DWrite.rep W [.int .i64 x.writes[k].device, .int .i64 x.writes[k].seq, .int .i64 x.writes[k].key.kind, .int .i64 x.writes[k].key.n, .string x.writes[k].key.text, .string x.writes[k].field, .int .i64 x.writes[k].n] x.writes[k]) := fun W => ⟨[], DWrite.rd.2 ⟨rfl, rfl, b_s0, b_s1⟩⟩
        clear HR_b
        have j1 : (0 : Int) ≤ (k : Int) := by omega
        have j2 : (k : Int) ≤ (q_c1 : Int) := by omega
        have j3 : (k : Int) < (x.writes.length : Int) := by omega
        have eo := Lib.hid (out_at hlt)
        have K0 := rg_var HX.out
        have C0 := rg_cell b_c0
        have C1 := rg_cell b_c1
        have C2 := rg_cell b_c2
        have C3 := rg_cell b_c3
        have C4 := rg_cell b_c4
        have C5 := rg_cell b_c5
        have C6 := rg_cell b_c6
        cases n1 : isWriteF x.writes[k]
        case' true => cases n2 : (x.writes[k].device != x.device)
        case' true.false => cases n3 : (x.writes[k].seq != wrap64 (wrap64 (x.next - (x.writes.length : Int)) + (k : Int)))
        all_goals
          go_wp2
          refine wp_region_rg (by kernel_rfl) (by kernel_rfl) ?_
          repeat (go_big_quiet_step ((go_at_call 56; exact calls_rg (specIsQueuedWrite _ _ _ (HW.out _)))))
          refine wpQuiet_nil ?_
          rintro _ ⟨pq, rfl⟩
          clear K0 C0 C1 C2 C3 C4 C5 C6
          have HB1 := Lib.hid (rg_below wr pq)
        all_goals
          first
            | (go_wp2
               go_ret
               refine ⟨ret_bool (outbox_no hlt ?_).symm, below_call HB.out HB.out.size HB1.out⟩
               rw [eo.out]
               first
                 | (rw [n1]; rfl)
                 | (rw [n1, n2]; rfl)
                 | (rw [n1, n2, n3]; rfl))
            | (have HK : Hid (outOk x k = true) := Lib.hid (by rw [eo.out, n1, n2, n3]; rfl)
               go_wp2
               go_light
               exact ⟨⟨k + 1, by omega, by go_num, Lib.hid (out_snoc HA.out HK.out), HX.out.keep HB1.out, below_call HB.out HB.out.size HB1.out⟩, by simp [intOf]; omega⟩)
      · have he := Lib.hid (outbox_yes hlt HA.out)
        go_wp2
        go_ret
        refine ⟨ret_bool ?_, HB.out⟩
        rw [he.out, HM1.out, HM2.out, decide_eq_true HM3.out]; rfl
  · have he := Lib.hid (outbox_out hm)
    cases m1 : within x.device 1 1000000
    case' true => cases m2 : within x.next 1 1000000
    all_goals
      have hn : Hid True := trivial
      rw [m1] at hm
      first | (rw [m2] at hm) | skip
      try simp only [Bool.true_and, decide_eq_false_iff_not] at hm
      go_enter Try.func27, Try.ntmps27
      go_wp2_with (go_at_call 55; refine (specIn _ _ _ _).mono ?_; rintro e w' ⟨rfl, rfl⟩)
      go_ret
      exact ⟨ret_bool he.out.symm, (by repeat (first | with_reducible exact belR | with_reducible apply belA | (with_reducible refine belS ?_ ?_; focus (first | omega | (simp; done) | (simp; omega))) | with_reducible apply belN | with_reducible apply belD | with_reducible assumption))⟩

end Go.Proofs.Yteajhmpppciicaa
