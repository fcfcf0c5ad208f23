/-
  BoxFam: IsOutbox, Outboxes, Enqueue, Ack, FirstWrite, EqualOutboxes, OutLaw, in one text.
-/
import Derived.Deep.RegionLaw
import Derived.BigRegion
import Derived.Test.YtlfebehpmefioaaGreatKeys
import Derived.Test.YtlfebehpmefioaaGreatBase
import Derived.Test.YtlfebehpmefioaaGreatTFam
import Derived.Test.YtlfebehpmefioaaGreatLFamB
import Derived.Test.YtlfebehpmefioaaGreatFuncsFam
import Derived.Test.YtlfebehpmefioaaGreatEqFam

/-
  IsOutbox.
-/
namespace Go.Proofs.YtlfebehpmefioaaGreat
open Go.RowKit

def outOk (x : DOutbox) (i : Nat) : Bool := match x.writes[i]? with | none => true | some y => isWriteF y && (!(y.device != x.device) && !(y.seq != wrap64 (wrap64 (x.next - (x.writes.length : Int)) + (i : Int))))
def isOutboxF (x : DOutbox) : Bool := (List.range x.writes.length).all (outOk x) && (within x.device 1 1000000 && within x.next 1 1000000 && decide (x.writes.length ≤ 20))
theorem outbox_no {x : DOutbox} {i : Nat} (hi : i < x.writes.length) (h : outOk x i = false) : isOutboxF x = false := by
  have : (List.range x.writes.length).all (outOk x) = false := List.all_eq_false.2 ⟨i, List.mem_range.2 hi, by rw [h]; simp⟩
  rw [isOutboxF, this, Bool.false_and]
theorem outbox_yes {x : DOutbox} {k : Nat} (hk : ¬ k < x.writes.length) (h : ∀ i, i < k → outOk x i = true) : isOutboxF x = (within x.device 1 1000000 && within x.next 1 1000000 && decide (x.writes.length ≤ 20)) := by
  have : (List.range x.writes.length).all (outOk x) = true := List.all_eq_true.2 fun i hi => h i (by have := List.mem_range.1 hi; omega)
  rw [isOutboxF, this, Bool.true_and]
theorem outbox_out {x : DOutbox} (h : (within x.device 1 1000000 && within x.next 1 1000000 && decide (x.writes.length ≤ 20)) = false) : isOutboxF x = false := by
  rw [isOutboxF, h, Bool.and_false]
theorem out_at {x : DOutbox} {i : Nat} (hi : i < x.writes.length) : outOk x i = (isWriteF x.writes[i] && (!(x.writes[i].device != x.device) && !(x.writes[i].seq != wrap64 (wrap64 (x.next - (x.writes.length : Int)) + (i : Int))))) := by
  unfold outOk; rw [List.getElem?_eq_getElem hi]
theorem out_snoc {x : DOutbox} {k : Nat} (h : ∀ i, i < k → outOk x i = true) (hk : outOk x k = true) : ∀ i, i < k + 1 → outOk x i = true := by
  intro i hi
  by_cases e : i = k
  · subst e; exact hk
  · exact h i (by omega)
attribute [irreducible] outOk

set_option maxRecDepth 100000 in
set_option maxHeartbeats 1600000 in
theorem implIsOutbox (cs : List Value) (x : DOutbox) (w : World) (h : Reads DOutbox.rep w cs x) :
    Calls Tryz.prog 82 #[.agg cs.toArray] w fun e w' => e = .returned (.bool (isOutboxF x)) ∧ Below w.heap.size w w' := by
  obtain ⟨fp_q, h⟩ := h
  obtain ⟨q_v1, q_f1, rfl, _, q_r1⟩ := DOutbox.rd.1 h
  obtain ⟨q_a1, q_c1, rfl, q_hm1, q_lc1, q_hu1⟩ := slice_open q_r1; clear q_hu1
  have q_K1 : Hid (Reads (Rep.slice 34 DWrite.rep) w [.slice q_a1 x.writes.length q_c1] x.writes) := ⟨_, q_r1⟩
  clear q_r1 h
  go_enter Tryz.func82, Tryz.ntmps82
  go_wp2
  go_loopw [12] (fun i wr => ∃ k : Nat, k ≤ x.writes.length ∧ i = .int .i64 k ∧ Hid (∀ i, i < k → outOk x i = true) ∧ WB wr w.heap.size #[.int .i64 x.device, .int .i64 x.next, .slice q_a1 x.writes.length q_c1] ∧ Below w.heap.size w wr) (fun i _ => x.writes.length - (intOf i).toNat)
  case atStart => exact ⟨0, by omega, rfl, Lib.hid (by intro i hi; omega), WB.at rfl, bEl⟩
  case round =>
    obtain ⟨k, hk, rfl, HA, hx, hb⟩ := hrel
    have HB := Lib.hid hb; clear hb
    have HX := Lib.hid hx
    have ⟨cx, zx, fx⟩ := hx
    clear hx
    by_cases hlt : k < x.writes.length
    · obtain ⟨b, off, cs_b, rfl, hw_b, hr_b, hcell_b⟩ := slice_at (q_K1.out.below HB.out) k hlt
      obtain ⟨fe_b, hrd_b⟩ := hr_b
      have HR_b : Hid (Reads DWrite.rep wr cs_b x.writes[k]) := ⟨_, hrd_b⟩
      obtain ⟨rfl, _, b_s0, b_s1⟩ := DWrite.rd.1 hrd_b
      clear hrd_b
      have b_c0 : wr.cell? ⟨b, off + k * 7, none⟩ = some (.int .i64 x.writes[k].device) := hcell_b 0 (by decide)
      have b_c1 : wr.cell? ⟨b, off + k * 7 + 1, none⟩ = some (.int .i64 x.writes[k].seq) := hcell_b 1 (by decide)
      have b_c2 : wr.cell? ⟨b, off + k * 7 + 2, none⟩ = some (.int .i64 x.writes[k].key.kind) := hcell_b 2 (by decide)
      have b_c3 : wr.cell? ⟨b, off + k * 7 + 3, none⟩ = some (.int .i64 x.writes[k].key.n) := hcell_b 3 (by decide)
      have b_c4 : wr.cell? ⟨b, off + k * 7 + 4, none⟩ = some (.string x.writes[k].key.text) := hcell_b 4 (by decide)
      have b_c5 : wr.cell? ⟨b, off + k * 7 + 5, none⟩ = some (.string x.writes[k].field) := hcell_b 5 (by decide)
      have b_c6 : wr.cell? ⟨b, off + k * 7 + 6, none⟩ = some (.int .i64 x.writes[k].n) := hcell_b 6 (by decide)
      clear hcell_b
      have HW : Hid (∀ W, Reads DWrite.rep W [.int .i64 x.writes[k].device, .int .i64 x.writes[k].seq, .int .i64 x.writes[k].key.kind, .int .i64 x.writes[k].key.n, .string x.writes[k].key.text, .string x.writes[k].field, .int .i64 x.writes[k].n] x.writes[k]) := fun W => ⟨[], DWrite.rd.2 ⟨rfl, rfl, b_s0, b_s1⟩⟩
      clear HR_b
      have j1 : (0 : Int) ≤ (k : Int) := by omega
      have j2 : (k : Int) ≤ (q_c1 : Int) := by omega
      have j3 : (k : Int) < (x.writes.length : Int) := by omega
      have eo := Lib.hid (out_at hlt)
      cases n1 : isWriteF x.writes[k]
      case' true => cases n2 : (x.writes[k].device != x.device)
      case' true.false => cases n3 : (x.writes[k].seq != wrap64 (wrap64 (x.next - (x.writes.length : Int)) + (k : Int)))
      all_goals
        go_wp2_with (go_at_call 46; refine (implIsQueuedWrite _ _ _ (HW.out _)).mono ?_; rintro e w1 ⟨rfl, hb⟩; obtain ⟨hc, hfz⟩ := bcell hb; have HB1_0 := Lib.hid hb; have HB1 := Lib.hid (below_call (w := wr) bEl bSz hb); clear hb)
      all_goals
        first
          | (go_ret
             refine ⟨ret_bool (outbox_no hlt ?_).symm, below_call HB.out HB.out.size HB1.out⟩
             rw [eo.out]
             first
               | (rw [n1]; rfl)
               | (rw [n1, n2]; rfl)
               | (rw [n1, n2, n3]; rfl))
          | (have HK : Hid (outOk x k = true) := Lib.hid (by rw [eo.out, n1, n2, n3]; rfl)
             go_light
             exact ⟨⟨k + 1, by omega, by go_num, Lib.hid (out_snoc HA.out HK.out), HX.out.growA.grow (HB1_0.out) (by simp; omega), below_call HB.out HB.out.size HB1.out⟩, by simp [intOf]; omega⟩)
    · have he := Lib.hid (outbox_yes hlt HA.out)
      cases m1 : within x.device 1 1000000
      case' true => cases m2 : within x.next 1 1000000
      all_goals
        go_wp2_with (go_at_call 60; refine (implInRange _ _ _ _).mono ?_; rintro e w' ⟨rfl, rfl⟩)
        go_ret
        refine ⟨ret_bool ?_, HB.out⟩
        rw [he.out]
        first
          | (rw [m1]; rfl)
          | (rw [m1, m2]; rfl)
          | (rw [m1, m2]; simp; omega)

set_option maxRecDepth 100000 in
set_option maxHeartbeats 1600000 in
theorem specIsOutbox (cs : List Value) (x : DOutbox) (w : World) (h : Reads DOutbox.rep w cs x) :
    Calls Tryz.prog 79 #[.agg cs.toArray] w fun e w' => e = .returned (.bool (isOutboxF x)) ∧ Below w.heap.size w w' := by
  obtain ⟨fp_q, h⟩ := h
  obtain ⟨q_v1, q_f1, rfl, _, q_r1⟩ := DOutbox.rd.1 h
  obtain ⟨q_a1, q_c1, rfl, q_hm1, q_lc1, q_hu1⟩ := slice_open q_r1; clear q_hu1
  have q_K1 : Hid (Reads (Rep.slice 34 DWrite.rep) w [.slice q_a1 x.writes.length q_c1] x.writes) := ⟨_, q_r1⟩
  clear q_r1 h
  have hm : (within x.device 1 1000000 && within x.next 1 1000000 && decide (x.writes.length ≤ 20)) = true ∨ (within x.device 1 1000000 && within x.next 1 1000000 && decide (x.writes.length ≤ 20)) = false := by
    cases (within x.device 1 1000000 && within x.next 1 1000000 && decide (x.writes.length ≤ 20)) <;> simp
  rcases hm with hm | hm
  · simp only [Bool.and_eq_true, decide_eq_true_eq] at hm
    obtain ⟨⟨m1, m2⟩, m3⟩ := hm
    go_enter Tryz.func79, Tryz.ntmps79
    go_wp2_with (go_at_call 78; refine (specIn _ _ _ _).mono ?_; rintro e w' ⟨rfl, rfl⟩)
    have HM1 := Lib.hid m1
    have HM2 := Lib.hid m2
    have HM3 := Lib.hid m3
    clear m1 m2 m3
    go_loopw [4] (fun i wr => ∃ k : Nat, k ≤ x.writes.length ∧ i = .int .i64 k ∧ Hid (∀ i, i < k → outOk x i = true) ∧ WB wr w.heap.size #[.int .i64 x.device, .int .i64 x.next, .slice q_a1 x.writes.length q_c1] ∧ Below w.heap.size w wr) (fun i _ => x.writes.length - (intOf i).toNat)
    case atStart => exact ⟨0, by omega, rfl, Lib.hid (by intro i hi; omega), WB.at rfl, bEl⟩
    case round =>
      obtain ⟨k, hk, rfl, HA, hx, hb⟩ := hrel
      have HB := Lib.hid hb; clear hb
      have HX := Lib.hid hx
      have ⟨cx, zx, fx⟩ := hx
      clear hx
      by_cases hlt : k < x.writes.length
      · obtain ⟨b, off, cs_b, rfl, hw_b, hr_b, hcell_b⟩ := slice_at (q_K1.out.below HB.out) k hlt
        obtain ⟨fe_b, hrd_b⟩ := hr_b
        have HR_b : Hid (Reads DWrite.rep wr cs_b x.writes[k]) := ⟨_, hrd_b⟩
        obtain ⟨rfl, _, b_s0, b_s1⟩ := DWrite.rd.1 hrd_b
        clear hrd_b
        have b_c0 : wr.cell? ⟨b, off + k * 7, none⟩ = some (.int .i64 x.writes[k].device) := hcell_b 0 (by decide)
        have b_c1 : wr.cell? ⟨b, off + k * 7 + 1, none⟩ = some (.int .i64 x.writes[k].seq) := hcell_b 1 (by decide)
        have b_c2 : wr.cell? ⟨b, off + k * 7 + 2, none⟩ = some (.int .i64 x.writes[k].key.kind) := hcell_b 2 (by decide)
        have b_c3 : wr.cell? ⟨b, off + k * 7 + 3, none⟩ = some (.int .i64 x.writes[k].key.n) := hcell_b 3 (by decide)
        have b_c4 : wr.cell? ⟨b, off + k * 7 + 4, none⟩ = some (.string x.writes[k].key.text) := hcell_b 4 (by decide)
        have b_c5 : wr.cell? ⟨b, off + k * 7 + 5, none⟩ = some (.string x.writes[k].field) := hcell_b 5 (by decide)
        have b_c6 : wr.cell? ⟨b, off + k * 7 + 6, none⟩ = some (.int .i64 x.writes[k].n) := hcell_b 6 (by decide)
        clear hcell_b
        have HW : Hid (∀ W, Reads DWrite.rep W [.int .i64 x.writes[k].device, .int .i64 x.writes[k].seq, .int .i64 x.writes[k].key.kind, .int .i64 x.writes[k].key.n, .string x.writes[k].key.text, .string x.writes[k].field, .int .i64 x.writes[k].n] x.writes[k]) := fun W => ⟨[], DWrite.rd.2 ⟨rfl, rfl, b_s0, b_s1⟩⟩
        clear HR_b
        have j1 : (0 : Int) ≤ (k : Int) := by omega
        have j2 : (k : Int) ≤ (q_c1 : Int) := by omega
        have j3 : (k : Int) < (x.writes.length : Int) := by omega
        have eo := Lib.hid (out_at hlt)
        have K0 := rg_var HX.out
        have C0 := rg_cell b_c0
        have C1 := rg_cell b_c1
        have C2 := rg_cell b_c2
        have C3 := rg_cell b_c3
        have C4 := rg_cell b_c4
        have C5 := rg_cell b_c5
        have C6 := rg_cell b_c6
        cases n1 : isWriteF x.writes[k]
        case' true => cases n2 : (x.writes[k].device != x.device)
        case' true.false => cases n3 : (x.writes[k].seq != wrap64 (wrap64 (x.next - (x.writes.length : Int)) + (k : Int)))
        all_goals
          go_wp2
          refine wp_region_rg (by kernel_rfl) (by kernel_rfl) ?_
          repeat (go_big_quiet_step ((go_at_call 50; exact calls_rg (specIsQueuedWrite _ _ _ (HW.out _)))))
          refine wpQuiet_nil ?_
          rintro _ ⟨pq, rfl⟩
          clear K0 C0 C1 C2 C3 C4 C5 C6
          have HB1 := Lib.hid (rg_below wr pq)
        all_goals
          first
            | (go_wp2
               go_ret
               refine ⟨ret_bool (outbox_no hlt ?_).symm, below_call HB.out HB.out.size HB1.out⟩
               rw [eo.out]
               first
                 | (rw [n1]; rfl)
                 | (rw [n1, n2]; rfl)
                 | (rw [n1, n2, n3]; rfl))
            | (have HK : Hid (outOk x k = true) := Lib.hid (by rw [eo.out, n1, n2, n3]; rfl)
               go_wp2
               go_light
               exact ⟨⟨k + 1, by omega, by go_num, Lib.hid (out_snoc HA.out HK.out), HX.out.keep HB1.out, below_call HB.out HB.out.size HB1.out⟩, by simp [intOf]; omega⟩)
      · have he := Lib.hid (outbox_yes hlt HA.out)
        go_wp2
        go_ret
        refine ⟨ret_bool ?_, HB.out⟩
        rw [he.out, HM1.out, HM2.out, decide_eq_true HM3.out]; rfl
  · have he := Lib.hid (outbox_out hm)
    cases m1 : within x.device 1 1000000
    case' true => cases m2 : within x.next 1 1000000
    all_goals
      have hn : Hid True := trivial
      rw [m1] at hm
      first | (rw [m2] at hm) | skip
      try simp only [Bool.true_and, decide_eq_false_iff_not] at hm
      go_enter Tryz.func79, Tryz.ntmps79
      go_wp2_with (go_at_call 78; refine (specIn _ _ _ _).mono ?_; rintro e w' ⟨rfl, rfl⟩)
      go_ret
      exact ⟨ret_bool he.out.symm, bEl⟩

end Go.Proofs.YtlfebehpmefioaaGreat

/-
  copyOutbox, NewOutbox, EnqueueWrite.
-/
namespace Go.Proofs.YtlfebehpmefioaaGreat
open Go.RowKit

theorem DOutbox.fopen {B : Nat} {w : World} {cs : List Value} {x : DOutbox} (h : Fresh DOutbox.rep B w cs x) :
    ∃ a1 c1, cs = [.int .i64 x.device, .int .i64 x.next, .slice a1 x.writes.length c1] ∧ Fresh (Rep.slice 34 DWrite.rep) B w [.slice a1 x.writes.length c1] x.writes := by
  obtain ⟨fp, h, hn, hg⟩ := h
  obtain ⟨v1, f1, rfl, rfl, r1⟩ := DOutbox.parts h
  obtain ⟨a1, c1, rfl, _⟩ := slice_open r1
  exact ⟨a1, c1, rfl, fp, r1, hn, hg⟩
theorem DOutbox.fmk {B : Nat} {w : World} {v : Value} {x : DOutbox} (h : Fresh (Rep.slice 34 DWrite.rep) B w [v] x.writes) : Fresh DOutbox.rep B w [.int .i64 x.device, .int .i64 x.next, v] x :=
  DOutbox.fresh (h.partAt (Nat.le_refl _)) (Nat.le_refl _)

set_option maxRecDepth 100000 in
set_option maxHeartbeats 800000 in
theorem implCopyOutbox (cs : List Value) (x : DOutbox) (w : World) (h : Reads DOutbox.rep w cs x) (hs : x.writes.length ≤ 1048600) :
    Calls Tryz.prog 115 #[.agg cs.toArray] w fun e w' => ∃ ds, e = .returned (.agg ds.toArray) ∧ Fresh DOutbox.rep w.heap.size w' ds x ∧ Below w.heap.size w w' := by
  obtain ⟨fp_q, h⟩ := h
  obtain ⟨q_v1, q_f1, rfl, _, q_r1⟩ := DOutbox.rd.1 h
  obtain ⟨q_a1, q_c1, rfl, q_hm1, q_lc1, q_hu1⟩ := slice_open q_r1; clear q_hu1
  have q_K1 : Hid (Reads (Rep.slice 34 DWrite.rep) w [.slice q_a1 x.writes.length q_c1] x.writes) := ⟨_, q_r1⟩
  clear q_r1 h
  obtain ⟨i0, hi, hz0, hz1, hz2⟩ := info_parts infoWrite
  go_enter Tryz.func115, Tryz.ntmps115
  go_wp2_with (at_builtin; refine wpList_grow _ rfl _ _ 28 28 rfl DWrite.flat (w.heap.size + 2) 34 i0 _ _ Tryz.underlying28 hi hz0 hz1 hz2 rfl _ [] rfl (lit_fresh DWrite.flat (w := _) (xs := #[]) (us := []) rfl rfl (by decide) (by simp) (by simp)) _ x.writes rfl (DWrite.flat.src Tryz.underlying28 (q_K1.out.below bEl)) ?c1a ?c2a ?c3a ?c4a ?_)
  case c1a => exact (DWrite.flat.row q_K1.out).2
  case c2a => (try simp only [List.length_nil, Nat.zero_add]); omega
  case c3a => (try simp only [List.length_nil, Nat.zero_add]); unfold maxLen; omega
  try (case c4a => simp; try omega)
  intro ao1 cap1 w1 hf1 hb1
  have HF1 := Lib.hid hf1
  have HB1 := Lib.hid (Below.trans bEb (hb1.mono (by omega)) : Below w.heap.size w w1)
  have ⟨cr, zr, fr⟩ : WB w1 (w.heap.size + 1) #[.int .i64 0, .int .i64 0, .slice none 0 0] := ((WB.at (by simp)).growA).grow hb1 (by omega)
  have ⟨cx, zx, fx⟩ : WB w1 w.heap.size #[.int .i64 x.device, .int .i64 x.next, .slice q_a1 x.writes.length q_c1] := ((WB.at (by simp)).growA.growA).grow hb1 (by omega)
  clear hf1 hb1
  go_wp2
  refine bodyPost_ret (v := .agg #[.int .i64 x.device, .int .i64 x.next, .slice ao1 x.writes.length cap1]) (by simp [results, Tryz.results115, go_sem, cr]) rfl ⟨_, rfl, ?_, ?_⟩
  · exact DOutbox.fmk (Fresh.mono (B := (w.heap.size + 2)) (by repeat (first | exact HF1.out | refine Fresh.setLow ?_ (by omega) | refine Fresh.drew ?_)) (by omega))
  · have y := HB1.out
    exact bEb

set_option maxRecDepth 100000 in
set_option maxHeartbeats 800000 in
theorem specCopyOutbox (cs : List Value) (x : DOutbox) (w : World) (h : Reads DOutbox.rep w cs x) (hs : x.writes.length ≤ 1048600) :
    Calls Tryz.prog 123 #[.agg cs.toArray] w fun e w' => ∃ ds, e = .returned (.agg ds.toArray) ∧ Fresh DOutbox.rep w.heap.size w' ds x ∧ Below w.heap.size w w' := by
  obtain ⟨fp_q, h⟩ := h
  obtain ⟨q_v1, q_f1, rfl, _, q_r1⟩ := DOutbox.rd.1 h
  obtain ⟨q_a1, q_c1, rfl, q_hm1, q_lc1, q_hu1⟩ := slice_open q_r1; clear q_hu1
  have q_K1 : Hid (Reads (Rep.slice 34 DWrite.rep) w [.slice q_a1 x.writes.length q_c1] x.writes) := ⟨_, q_r1⟩
  clear q_r1 h
  obtain ⟨i0, hi, hz0, hz1, hz2⟩ := info_parts infoWrite
  go_enter Tryz.func123, Tryz.ntmps123
  go_wp2_with (at_builtin; refine wpList_grow _ rfl _ _ 28 28 rfl DWrite.flat (w.heap.size + 3) 34 i0 _ _ Tryz.underlying28 hi hz0 hz1 hz2 rfl _ [] rfl (lit_fresh DWrite.flat (w := _) (xs := #[]) (us := []) rfl rfl (by decide) (by simp) (by simp)) _ x.writes rfl (DWrite.flat.src Tryz.underlying28 (q_K1.out.below bEl)) ?c1a ?c2a ?c3a ?c4a ?_)
  case c1a => exact (DWrite.flat.row q_K1.out).2
  case c2a => (try simp only [List.length_nil, Nat.zero_add]); omega
  case c3a => (try simp only [List.length_nil, Nat.zero_add]); unfold maxLen; omega
  try (case c4a => simp; try omega)
  intro ao1 cap1 w1 hf1 hb1
  have HF1 := Lib.hid hf1
  have HB1 := Lib.hid (Below.trans bEb (hb1.mono (by omega)) : Below w.heap.size w w1)
  have ⟨cr, zr, fr⟩ : WB w1 (w.heap.size + 1) #[.int .i64 0, .int .i64 0, .slice none 0 0] := ((WB.at (by simp)).growA.growA).grow hb1 (by omega)
  have ⟨cx, zx, fx⟩ : WB w1 (w.heap.size + 2) #[.int .i64 x.device, .int .i64 x.next, .slice q_a1 x.writes.length q_c1] := ((WB.at (by simp)).growA).grow hb1 (by omega)
  clear hf1 hb1
  go_wp2
  refine bodyPost_ret (v := .agg #[.int .i64 x.device, .int .i64 x.next, .slice ao1 x.writes.length cap1]) (by simp [results, Tryz.results123, go_sem, cr]) rfl ⟨_, rfl, ?_, ?_⟩
  · exact DOutbox.fmk (Fresh.mono (B := (w.heap.size + 3)) (by repeat (first | exact HF1.out | refine Fresh.setLow ?_ (by omega) | refine Fresh.drew ?_)) (by omega))
  · have y := HB1.out
    exact bEb

def newBox (d : Int) : DOutbox := ⟨d, 1, []⟩
def newOutboxB (d : Int) : Bool := isOutboxF (newBox d)
def newOutboxF (d : Int) : DOutbox := if newOutboxB d then newBox d else ⟨0, 0, []⟩

set_option maxRecDepth 100000 in
set_option maxHeartbeats 800000 in
theorem specNewOutbox (d : Int) (w : World) :
    Calls Tryz.prog 112 #[.int .i64 d] w fun e w' => ∃ ds, e = .returned (.tuple #[.agg ds.toArray, .bool (newOutboxB d)]) ∧ Fresh DOutbox.rep w.heap.size w' ds (newOutboxF d) ∧ Below w.heap.size w w' := by
  have hRd : ∀ W, Reads DOutbox.rep W [.int .i64 d, .int .i64 1, .slice none 0 0] (newBox d) := fun W => (DOutbox.fmk (x := newBox d) (B := 0) (w := W) Fresh.nil).reads
  go_enter Tryz.func112, Tryz.ntmps112
  go_wp2_with fail
  refine (specIsOutbox _ (newBox d) _ (hRd _)).mono ?_
  rintro e w1 ⟨rfl, hb⟩
  have HR : Hid (WB w1 w.heap.size #[.int .i64 0, .int .i64 0, .slice none 0 0]) := Lib.hid ((WB.at rfl).growA.keep hb)
  have HO : Hid (WB w1 (w.heap.size + 1) #[.int .i64 d, .int .i64 1, .slice none 0 0]) := Lib.hid ((WB.at (by simp)).keep hb)
  have HB : Hid (Below w.heap.size w w1) := Lib.hid (below_call bEl bSz hb)
  have hz : w.heap.size + 2 ≤ w1.heap.size := by have y := hb.size; simp at y; omega
  clear hb hRd
  have ⟨c_HR, z_HR, f_HR⟩ := HR.out
  have ⟨c_HO, z_HO, f_HO⟩ := HO.out
  cases hB : isOutboxF (newBox d)
  · have H1 : Hid (newOutboxB d = false) := Lib.hid hB
    go_wp2
    refine bodyPost_ret (v := .tuple #[.agg #[.int .i64 0, .int .i64 0, .slice none 0 0], .bool false]) (by simp [results, Tryz.results112, go_sem, c_HR]) rfl ⟨_, by rw [H1.out], ?_, ?_⟩
    · rw [newOutboxF, H1.out]
      exact DOutbox.fmk (x := ⟨0, 0, []⟩) Fresh.nil
    · have y := HB.out
      exact bEb
  · have H1 : Hid (newOutboxB d = true) := Lib.hid hB
    go_wp2
    refine bodyPost_ret (v := .tuple #[.agg #[.int .i64 d, .int .i64 1, .slice none 0 0], .bool true]) (by simp [results, Tryz.results112, go_sem, c_HR]) rfl ⟨_, by rw [H1.out], ?_, ?_⟩
    · rw [newOutboxF, H1.out]
      exact DOutbox.fmk (x := newBox d) Fresh.nil
    · have y := HB.out
      exact bEb

end Go.Proofs.YtlfebehpmefioaaGreat

/-
  EnqueueWrite.
-/
namespace Go.Proofs.YtlfebehpmefioaaGreat
open Go.RowKit

def newWrite (x : DOutbox) (k : DKey) (field : ByteArray) (n : Int) : DWrite := ⟨x.device, x.next, k, field, n⟩
def enqOut (x : DOutbox) (k : DKey) (field : ByteArray) (n : Int) : DOutbox := ⟨x.device, wrap64 (x.next + 1), x.writes ++ [newWrite x k field n]⟩
def enqueueB (x : DOutbox) (k : DKey) (field : ByteArray) (n : Int) : Bool := isOutboxF x && isOutboxF (enqOut x k field n)
def enqueueF (x : DOutbox) (k : DKey) (field : ByteArray) (n : Int) : DOutbox := if enqueueB x k field n then enqOut x k field n else x

set_option maxRecDepth 100000 in
set_option maxHeartbeats 8000000 in
theorem implEnqueueWrite (cs ck : List Value) (x : DOutbox) (k : DKey) (field : ByteArray) (n : Int) (w : World) (h : Reads DOutbox.rep w cs x) (h' : Reads DKey.rep w ck k) (hs : x.writes.length ≤ 1048576) (hn : field.size ≤ maxLen) :
    Calls Tryz.prog 69 #[.agg cs.toArray, .agg ck.toArray, .string field, .int .i64 n] w fun e w' => ∃ ds, e = .returned (.tuple #[.agg ds.toArray, .bool (enqueueB x k field n)]) ∧ Fresh DOutbox.rep w.heap.size w' ds (enqueueF x k field n) ∧ Below w.heap.size w w' := by
  have HH := Lib.hid h
  obtain ⟨fp_q, h⟩ := h
  obtain ⟨q_v1, q_f1, rfl, _, q_r1⟩ := DOutbox.rd.1 h
  obtain ⟨q_a1, q_c1, rfl, q_hm1, q_lc1, q_hu1⟩ := slice_open q_r1; clear q_hu1
  have q_K1 : Hid (Reads (Rep.slice 34 DWrite.rep) w [.slice q_a1 x.writes.length q_c1] x.writes) := ⟨_, q_r1⟩
  clear q_r1 h
  obtain ⟨fk, hk⟩ := h'
  obtain ⟨rfl, _, hkt⟩ := DKey.rd.1 hk
  clear hk
  obtain ⟨i0, hi, hz0, hz1, hz2⟩ := info_parts infoWrite
  go_enter Tryz.func69, Tryz.ntmps69
  go_wp2_with fail
  refine (implCopyOutbox _ x _ (HH.out.below bEl) (by omega)).mono ?_
  rintro e w1 ⟨ds, rfl, hf, hb⟩
  obtain ⟨ao, cap, rfl, hfw⟩ := DOutbox.fopen hf
  have HF : Hid (Fresh (Rep.slice 34 DWrite.rep) (w.heap.size + 3) w1 [.slice ao x.writes.length cap] x.writes) := Lib.hid (hfw.mono (by simp))
  have hb3 := hb.mono (B' := w.heap.size + 3) (by simp)
  have HX : Hid (WB w1 w.heap.size #[.int .i64 x.device, .int .i64 x.next, .slice q_a1 x.writes.length q_c1]) := Lib.hid (((WB.at rfl).growA.growA).grow hb3 (by omega))
  have HK : Hid (WB w1 (w.heap.size + 1) #[.int .i64 k.kind, .int .i64 k.n, .string k.text]) := Lib.hid (((WB.at (by simp)).growA).grow hb3 (by omega))
  have HR : Hid (WB w1 (w.heap.size + 2) #[.int .i64 0, .int .i64 0, .slice none 0 0]) := Lib.hid ((WB.at (by simp)).grow hb3 (by omega))
  have HB : Hid (Below w.heap.size w w1) := Lib.hid (Below.trans bEb (hb3.mono (by omega)))
  have hz : w.heap.size + 3 ≤ w1.heap.size := by have y := hb3.size; simp at y; omega
  have hlt : Hid (∀ b, (Value.slice ao x.writes.length cap).ownBlock = some b → w.heap.size + 3 ≤ b ∧ b < w1.heap.size) := Lib.hid fun b hb => HF.out.ownlt b (by rw [hb]; simp)
  clear hf hfw hb hb3
  have ⟨cx, zx, fx⟩ := HX.out
  have ⟨ck, zk, fk⟩ := HK.out
  go_wp2_with (at_builtin; refine DWrite.flat.grow2 _ rfl _ _ 28 28 rfl (w.heap.size + 3) 34 i0 _ _ Tryz.underlying28 Tryz.underlying28 hi hz0 hz1 hz2 rfl _ x.writes rfl ((HF.out.below (belA belR)).below (belA belR)) _ [newWrite x k field n] rfl (DWrite.flat.one_reads ?c0 rfl ⟨hkt, hn⟩) ?c1 (by decide) ?c2 ?_)
  case c0 => simp
  case c1 => simp; omega
  case c2 => simp; omega
  intro ao3 cap3 w2 hf2 hc2 hv2
  have HF2 := Lib.hid hf2
  have hno : ∀ b, w1.heap.size ≤ b ∨ b < w.heap.size + 3 → b ∉ (Value.slice ao x.writes.length cap).ownBlock.toList := fun b hb hm => by
    have := hlt.out b (by simpa using hm); omega
  have HO2 : Hid (WB w2 w1.heap.size #[.int .i64 x.device, .int .i64 x.next, .slice ao x.writes.length cap]) := Lib.hid ((WB.at rfl).growA.chg hc2 (hno _ (by omega)))
  have HX2 := Lib.hid (HX.out.growA.growA.chg hc2 (hno _ (by omega)))
  have HK2 := Lib.hid (HK.out.growA.growA.chg hc2 (hno _ (by omega)))
  have HR2 := Lib.hid (HR.out.growA.growA.chg hc2 (hno _ (by omega)))
  have HB2 : Hid (Below w.heap.size w w2) := Lib.hid (by have y := HB.out; exact Below.trans bEl (hc2.below (fun b hm => by have := hlt.out b (by simpa using hm); omega) (by simp; omega)))
  have hap : Hid (w1.heap.size ∉ (Value.slice ao3 (x.writes.length + 1) cap3).ownBlock.toList) := Lib.hid fun hm => by
    rcases hv2 _ (by simpa using hm) with hq | hq
    · have := hlt.out _ hq; omega
    · omega
  have hz2' : w1.heap.size + 2 ≤ w2.heap.size := by have := hc2.size; simp at this; omega
  clear hf2 hc2 hv2 cx zx fx ck zk fk
  have ⟨co2, zo2, fo2⟩ := HO2.out
  have ⟨cx2, zx2, fx2⟩ := HX2.out
  go_wp2_with fail
  refine settleC (fun W => WB W w.heap.size #[.int .i64 x.device, .int .i64 x.next, .slice q_a1 x.writes.length q_c1] ∧ WB W (w.heap.size + 2) #[.int .i64 0, .int .i64 0, .slice none 0 0] ∧ WB W w1.heap.size #[.int .i64 x.device, .int .i64 (wrap64 (x.next + 1)), .slice ao3 (x.writes.length + 1) cap3] ∧ Fresh (Rep.slice 34 DWrite.rep) (w.heap.size + 3) W [.slice ao3 (x.writes.length + 1) cap3] (x.writes ++ [newWrite x k field n]) ∧ Below w.heap.size w W) ?hE ?_
  case hE => exact ⟨(HX2.out.setOther (by omega)).setOther (by omega), (HR2.out.setOther (by omega)).setOther (by omega), (HO2.out.setAt (i := 2) (by simp) rfl).setAt (i := 1) (by simp) rfl, DWrite.flat.setApart (DWrite.flat.setApart HF2.out hap.out) hap.out, by have y := HB2.out; exact bEb⟩
  rintro w3 ⟨hx, hr, ho, hf, hb⟩
  have HX3 := Lib.hid hx
  have HR3 := Lib.hid hr
  have HO3 := Lib.hid ho
  have HF3 := Lib.hid hf
  have HB3 := Lib.hid hb
  have ⟨cx, zx, fx⟩ := hx
  clear hx hr ho hf hb co2 zo2 fo2 cx2 zx2 fx2 HX2 HR2 HO2 HF2 HB2 HK2 hno
  clear HX HR HB HF HK
  refine (implIsOutbox _ x _ (HH.out.below HB3.out)).mono ?_
  rintro e w4 ⟨rfl, hb4⟩
  have hbx : Below w.heap.size w w4 := HB3.out.trans (hb4.mono HB3.out.size)
  have HXy := Lib.hid (HX3.out.keep hb4)
  have HRy := Lib.hid (HR3.out.keep hb4)
  have HOy := Lib.hid (HO3.out.keep hb4)
  have HFy := Lib.hid (HF3.out.below hb4)
  have ⟨cx4, zx4, fx4⟩ := HXy.out
  have ⟨co4, zo4, fo4⟩ := HOy.out
  have ⟨cr4, zr4, fr4⟩ := HRy.out
  clear hb4 cx zx fx
  cases a1 : isOutboxF x
  · have hB : Hid (enqueueB x k field n = false) := Lib.hid (by rw [enqueueB, a1]; rfl)
    go_wp2_with fail
    refine (implCopyOutbox _ x _ (HH.out.below hbx) (by omega)).mono ?_
    rintro e w6 ⟨ds, rfl, hf6, hb6⟩
    obtain ⟨ao6, cap6, rfl, hfw6⟩ := DOutbox.fopen hf6
    have HF6 := Lib.hid hfw6
    have HB6 := Lib.hid (hbx.trans (hb6.mono hbx.size))
    have ⟨cr6, zr6, fr6⟩ := HRy.out.keep hb6
    have hz6 := hbx.size
    clear hf6 hfw6 hb6
    go_wp2
    refine bodyPost_ret (v := .tuple #[.agg #[.int .i64 x.device, .int .i64 x.next, .slice ao6 x.writes.length cap6], .bool false]) (by simp [results, Tryz.results69, go_sem, cr6]) rfl ⟨_, by rw [hB.out], ?_, ?_⟩
    · have e : enqueueF x k field n = x := by rw [enqueueF, hB.out]; rfl
      rw [e]
      exact DOutbox.fmk (Fresh.mono (B := w4.heap.size) (by repeat (first | exact HF6.out | refine Fresh.setLow ?_ (by omega) | refine Fresh.drew ?_)) (by omega))
    · have y := HB6.out
      exact bEb
  · go_wp2_with fail
    refine (implIsOutbox _ (enqOut x k field n) _ (DOutbox.fmk (x := enqOut x k field n) HFy.out).reads).mono ?_
    rintro e w5 ⟨rfl, hb5⟩
    have hbx : Below w.heap.size w w5 := hbx.trans (hb5.mono hbx.size)
    have HXy := Lib.hid (HXy.out.keep hb5)
    have HRy := Lib.hid (HRy.out.keep hb5)
    have HOy := Lib.hid (HOy.out.keep hb5)
    have HFy := Lib.hid (HFy.out.below hb5)
    clear cx4 zx4 fx4 co4 zo4 fo4 cr4 zr4 fr4 hb5
    have ⟨cx4, zx4, fx4⟩ := HXy.out
    have ⟨co4, zo4, fo4⟩ := HOy.out
    have ⟨cr4, zr4, fr4⟩ := HRy.out
    cases a2 : isOutboxF (enqOut x k field n)
    · have hB : Hid (enqueueB x k field n = false) := Lib.hid (by rw [enqueueB, a2, Bool.and_false])
      go_wp2_with fail
      refine (implCopyOutbox _ x _ (HH.out.below hbx) (by omega)).mono ?_
      rintro e w6 ⟨ds, rfl, hf6, hb6⟩
      obtain ⟨ao6, cap6, rfl, hfw6⟩ := DOutbox.fopen hf6
      have HF6 := Lib.hid hfw6
      have HB6 := Lib.hid (hbx.trans (hb6.mono hbx.size))
      have ⟨cr6, zr6, fr6⟩ := HRy.out.keep hb6
      have hz6 := hbx.size
      clear hf6 hfw6 hb6
      go_wp2
      refine bodyPost_ret (v := .tuple #[.agg #[.int .i64 x.device, .int .i64 x.next, .slice ao6 x.writes.length cap6], .bool false]) (by simp [results, Tryz.results69, go_sem, cr6]) rfl ⟨_, by rw [hB.out], ?_, ?_⟩
      · have e : enqueueF x k field n = x := by rw [enqueueF, hB.out]; rfl
        rw [e]
        exact DOutbox.fmk (Fresh.mono (B := w5.heap.size) (by repeat (first | exact HF6.out | refine Fresh.setLow ?_ (by omega) | refine Fresh.drew ?_)) (by omega))
      · have y := HB6.out
        exact bEb
    · have hB : Hid (enqueueB x k field n = true) := Lib.hid (by rw [enqueueB, a1, a2]; rfl)
      go_wp2
      refine bodyPost_ret (v := .tuple #[.agg #[.int .i64 x.device, .int .i64 (wrap64 (x.next + 1)), .slice ao3 (x.writes.length + 1) cap3], .bool true]) (by simp [results, Tryz.results69, go_sem, cr4]) rfl ⟨_, by rw [hB.out], ?_, ?_⟩
      · have e : enqueueF x k field n = enqOut x k field n := by rw [enqueueF, hB.out]; rfl
        rw [e]
        exact DOutbox.fmk (x := enqOut x k field n) (Fresh.mono (B := (w.heap.size + 3)) (by repeat (first | exact HFy.out | refine Fresh.setLow ?_ (by omega) | refine Fresh.drew ?_)) (by omega))
      · exact bEb

set_option maxRecDepth 100000 in
set_option maxHeartbeats 8000000 in
theorem specEnqueueWrite (cs ck : List Value) (x : DOutbox) (k : DKey) (field : ByteArray) (n : Int) (w : World) (h : Reads DOutbox.rep w cs x) (h' : Reads DKey.rep w ck k) (hs : x.writes.length ≤ 1048576) (hn : field.size ≤ maxLen) :
    Calls Tryz.prog 113 #[.agg cs.toArray, .agg ck.toArray, .string field, .int .i64 n] w fun e w' => ∃ ds, e = .returned (.tuple #[.agg ds.toArray, .bool (enqueueB x k field n)]) ∧ Fresh DOutbox.rep w.heap.size w' ds (enqueueF x k field n) ∧ Below w.heap.size w w' := by
  have HH := Lib.hid h
  obtain ⟨fp_q, h⟩ := h
  obtain ⟨q_v1, q_f1, rfl, _, q_r1⟩ := DOutbox.rd.1 h
  obtain ⟨q_a1, q_c1, rfl, q_hm1, q_lc1, q_hu1⟩ := slice_open q_r1; clear q_hu1
  have q_K1 : Hid (Reads (Rep.slice 34 DWrite.rep) w [.slice q_a1 x.writes.length q_c1] x.writes) := ⟨_, q_r1⟩
  clear q_r1 h
  obtain ⟨fk, hk⟩ := h'
  obtain ⟨rfl, _, hkt⟩ := DKey.rd.1 hk
  clear hk
  obtain ⟨i0, hi, hz0, hz1, hz2⟩ := info_parts infoWrite
  go_enter Tryz.func113, Tryz.ntmps113
  go_wp2_with fail
  refine (specCopyOutbox _ x _ (HH.out.below bEl) (by omega)).mono ?_
  rintro e w1 ⟨ds, rfl, hf, hb⟩
  obtain ⟨ao, cap, rfl, hfw⟩ := DOutbox.fopen hf
  have HF : Hid (Fresh (Rep.slice 34 DWrite.rep) (w.heap.size + 3) w1 [.slice ao x.writes.length cap] x.writes) := Lib.hid (hfw.mono (by simp))
  have hb3 := hb.mono (B' := w.heap.size + 3) (by simp)
  have HX : Hid (WB w1 w.heap.size #[.int .i64 x.device, .int .i64 x.next, .slice q_a1 x.writes.length q_c1]) := Lib.hid (((WB.at rfl).growA.growA).grow hb3 (by omega))
  have HK : Hid (WB w1 (w.heap.size + 1) #[.int .i64 k.kind, .int .i64 k.n, .string k.text]) := Lib.hid (((WB.at (by simp)).growA).grow hb3 (by omega))
  have HR : Hid (WB w1 (w.heap.size + 2) #[.int .i64 0, .int .i64 0, .slice none 0 0]) := Lib.hid ((WB.at (by simp)).grow hb3 (by omega))
  have HB : Hid (Below w.heap.size w w1) := Lib.hid (Below.trans bEb (hb3.mono (by omega)))
  have hz : w.heap.size + 3 ≤ w1.heap.size := by have y := hb3.size; simp at y; omega
  have hlt : Hid (∀ b, (Value.slice ao x.writes.length cap).ownBlock = some b → w.heap.size + 3 ≤ b ∧ b < w1.heap.size) := Lib.hid fun b hb => HF.out.ownlt b (by rw [hb]; simp)
  clear hf hfw hb hb3
  have ⟨c_HX, z_HX, f_HX⟩ := HX.out
  go_wp2_with fail
  refine (specIsOutbox _ x _ (HH.out.below (by have y := HB.out; exact bEl))).mono ?_
  rintro e w2 ⟨rfl, hb⟩
  have hq : Below w1.heap.size w1 w2 := below_call bEl bSz hb
  have HO : Hid (WB w2 w1.heap.size #[.int .i64 x.device, .int .i64 x.next, .slice ao x.writes.length cap]) := Lib.hid ((WB.at rfl).keep hb)
  have hsz2 : w1.heap.size + 1 ≤ w2.heap.size := by have y := hb.size; simp at y; omega
  clear c_HX z_HX f_HX
  replace HX := Lib.hid (HX.out.keep hq)
  replace HK := Lib.hid (HK.out.keep hq)
  replace HR := Lib.hid (HR.out.keep hq)
  replace HF := Lib.hid (HF.out.below hq)
  replace HB := Lib.hid (HB.out.trans (hq.mono HB.out.size))
  clear hb hq
  have ⟨c_HX, z_HX, f_HX⟩ := HX.out
  have ⟨c_HK, z_HK, f_HK⟩ := HK.out
  have ⟨c_HR, z_HR, f_HR⟩ := HR.out
  have ⟨c_HO, z_HO, f_HO⟩ := HO.out
  cases a1 : isOutboxF x
  · have hB : Hid (enqueueB x k field n = false) := Lib.hid (by rw [enqueueB, a1]; rfl)
    go_wp2
    refine bodyPost_ret (v := .tuple #[.agg #[.int .i64 x.device, .int .i64 x.next, .slice ao x.writes.length cap], .bool false]) (by simp [results, Tryz.results113, go_sem, c_HR]) rfl ⟨_, by rw [hB.out], ?_, ?_⟩
    · have e : enqueueF x k field n = x := by rw [enqueueF, hB.out]; rfl
      rw [e]
      exact DOutbox.fmk (Fresh.mono (B := (w.heap.size + 3)) (by repeat (first | exact HF.out | refine Fresh.setLow ?_ (by omega) | refine Fresh.drew ?_)) (by omega))
    · have y := HB.out
      exact bEb
  · go_wp2_with (at_builtin; (refine DWrite.flat.grow2 _ rfl _ _ 28 28 rfl (w.heap.size + 3) 34 i0 _ _ Tryz.underlying28 Tryz.underlying28 hi hz0 hz1 hz2 rfl _ x.writes rfl (HF.out.below (belA belR)) _ [newWrite x k field n] rfl (DWrite.flat.one_reads ?c0 rfl ⟨hkt, hn⟩) ?c1 (by decide) ?c2 ?_))
    case c0 => simp
    case c1 => simp; omega
    case c2 => simp; omega
    intro ao3 cap3 w3 hf2 hc2 hv2
    clear c_HX z_HX f_HX c_HK z_HK f_HK c_HR z_HR f_HR c_HO z_HO f_HO
    have hno : ∀ b, b < w.heap.size + 3 ∨ b = w1.heap.size → b ∉ (Value.slice ao x.writes.length cap).ownBlock.toList := fun b hb hm => by
      have := hlt.out b (by simpa using hm); omega
    replace HO := Lib.hid (HO.out.growA.chg hc2 (hno _ (by omega)))
    replace HX := Lib.hid (HX.out.growA.chg hc2 (hno _ (by omega)))
    replace HR := Lib.hid (HR.out.growA.chg hc2 (hno _ (by omega)))
    replace HB : Hid (Below w.heap.size w w3) := Lib.hid (by have y := HB.out; exact Below.trans bEl (hc2.below (fun b hm => by have := hlt.out b (by simpa using hm); omega) (by simp; omega)))
    have hap : Hid (w1.heap.size ∉ (Value.slice ao3 (x.writes.length + 1) cap3).ownBlock.toList) := Lib.hid fun hm => by
      rcases hv2 _ (by simpa using hm) with hq | hq
      · have := hlt.out _ hq; omega
      · omega
    have hz3 : w1.heap.size + 1 ≤ w3.heap.size := by have := hc2.size; simp at this; omega
    replace HF := Lib.hid hf2
    clear hf2 hc2 hv2 hno
    have ⟨c_HX, z_HX, f_HX⟩ := HX.out
    have ⟨c_HO, z_HO, f_HO⟩ := HO.out
    go_wp2_with fail
    refine settleC (fun W => WB W w.heap.size #[.int .i64 x.device, .int .i64 x.next, .slice q_a1 x.writes.length q_c1] ∧ WB W (w.heap.size + 2) #[.int .i64 0, .int .i64 0, .slice none 0 0] ∧ WB W w1.heap.size #[.int .i64 x.device, .int .i64 (wrap64 (x.next + 1)), .slice ao3 (x.writes.length + 1) cap3] ∧ Fresh (Rep.slice 34 DWrite.rep) (w.heap.size + 3) W [.slice ao3 (x.writes.length + 1) cap3] (x.writes ++ [newWrite x k field n]) ∧ Below w.heap.size w W) ?hE ?_
    case hE => exact ⟨(HX.out.setOther (by omega)).setOther (by omega), (HR.out.setOther (by omega)).setOther (by omega), (HO.out.setAt (i := 2) (by simp) rfl).setAt (i := 1) (by simp) rfl, DWrite.flat.setApart (DWrite.flat.setApart HF.out hap.out) hap.out, by have y := HB.out; exact bEb⟩
    clear c_HX z_HX f_HX c_HO z_HO f_HO
    clear HX HR HO HF HB HK
    rintro w4 ⟨hx, hr, ho, hf, hb⟩
    have HX := Lib.hid hx
    have HR := Lib.hid hr
    have HO := Lib.hid ho
    have HF := Lib.hid hf
    have HB := Lib.hid hb
    clear hx hr ho hf hb
    refine (specIsOutbox _ (enqOut x k field n) _ (DOutbox.fmk (x := enqOut x k field n) HF.out).reads).mono ?_
    rintro e w5 ⟨rfl, hq⟩
    have hz5 := hq.size
    replace HX := Lib.hid (HX.out.keep hq)
    replace HR := Lib.hid (HR.out.keep hq)
    replace HO := Lib.hid (HO.out.keep hq)
    replace HF := Lib.hid (HF.out.below hq)
    replace HB := Lib.hid (HB.out.trans (hq.mono HB.out.size))
    clear hq
    have ⟨c_HX, z_HX, f_HX⟩ := HX.out
    have ⟨c_HR, z_HR, f_HR⟩ := HR.out
    have ⟨c_HO, z_HO, f_HO⟩ := HO.out
    cases a2 : isOutboxF (enqOut x k field n)
    · have hB : Hid (enqueueB x k field n = false) := Lib.hid (by rw [enqueueB, a2, Bool.and_false])
      go_wp2_with fail
      refine (specCopyOutbox _ x _ (HH.out.below HB.out) (by omega)).mono ?_
      rintro e w6 ⟨ds, rfl, hf6, hq⟩
      obtain ⟨ao6, cap6, rfl, hfw6⟩ := DOutbox.fopen hf6
      have HF6 := Lib.hid hfw6
      have hz6 : w.heap.size + 2 < w5.heap.size := z_HR
      clear c_HX z_HX f_HX c_HR z_HR f_HR c_HO z_HO f_HO
      replace HR := Lib.hid (HR.out.keep hq)
      replace HB := Lib.hid (HB.out.trans (hq.mono HB.out.size))
      clear hf6 hfw6 hq
      have ⟨c_HR, z_HR, f_HR⟩ := HR.out
      go_wp2
      refine bodyPost_ret (v := .tuple #[.agg #[.int .i64 x.device, .int .i64 x.next, .slice ao6 x.writes.length cap6], .bool false]) (by simp [results, Tryz.results113, go_sem, c_HR]) rfl ⟨_, by rw [hB.out], ?_, ?_⟩
      · have e : enqueueF x k field n = x := by rw [enqueueF, hB.out]; rfl
        rw [e]
        exact DOutbox.fmk (Fresh.mono (B := w5.heap.size) (by repeat (first | exact HF6.out | refine Fresh.setLow ?_ (by omega) | refine Fresh.drew ?_)) (by omega))
      · have y := HB.out
        exact bEb
    · have hB : Hid (enqueueB x k field n = true) := Lib.hid (by rw [enqueueB, a1, a2]; rfl)
      go_wp2
      refine bodyPost_ret (v := .tuple #[.agg #[.int .i64 x.device, .int .i64 (wrap64 (x.next + 1)), .slice ao3 (x.writes.length + 1) cap3], .bool true]) (by simp [results, Tryz.results113, go_sem, c_HR]) rfl ⟨_, by rw [hB.out], ?_, ?_⟩
      · have e : enqueueF x k field n = enqOut x k field n := by rw [enqueueF, hB.out]; rfl
        rw [e]
        exact DOutbox.fmk (x := enqOut x k field n) (Fresh.mono (B := (w.heap.size + 3)) (by repeat (first | exact HF.out | refine Fresh.setLow ?_ (by omega) | refine Fresh.drew ?_)) (by omega))
      · have y := HB.out
        exact bEb

end Go.Proofs.YtlfebehpmefioaaGreat

/-
  AckWrites.
-/
namespace Go.Proofs.YtlfebehpmefioaaGreat
open Go.RowKit

def ackKept (l : List DWrite) (seq : Int) : List DWrite := l.filter fun m => !decide (m.seq ≤ seq)
def ackOut (x : DOutbox) (seq : Int) : DOutbox := ⟨x.device, x.next, ackKept x.writes seq⟩
def ackWritesF (x : DOutbox) (seq : Int) : DOutbox := if isOutboxF x then ackOut x seq else x
def ackWritesN (x : DOutbox) (seq : Int) : Int := if isOutboxF x then (x.writes.length : Int) - ((ackKept x.writes seq).length : Int) else 0
theorem ackKept_le (l : List DWrite) (seq : Int) : (ackKept l seq).length ≤ l.length := List.length_filter_le _ _

theorem outbox_seq {x : DOutbox} (h : isOutboxF x = true) {i : Nat} (hi : i < x.writes.length) : x.writes[i].seq = x.next - x.writes.length + i := by
  rw [isOutboxF, Bool.and_eq_true, List.all_eq_true] at h
  obtain ⟨h1, h2⟩ := h
  have h3 := h1 i (List.mem_range.2 hi)
  rw [out_at hi] at h3
  simp only [Bool.and_eq_true, within, decide_eq_true_eq, Bool.not_eq_true', bne_eq_false_iff_eq] at h3 h2
  rw [h3.2.2, Go.IntWalk.wrap64_in _ (by rw [Go.IntWalk.wrap64_in _ (by omega)]; omega), Go.IntWalk.wrap64_in _ (by omega)]
theorem ack_drop {x : DOutbox} {seq : Int} (h : isOutboxF x = true) : ∀ (n k : Nat), x.writes.length - k = n → k ≤ x.writes.length → (∀ i, (hi : i < x.writes.length) → i < k → x.writes[i].seq ≤ seq) → (∀ hk : k < x.writes.length, ¬ x.writes[k].seq ≤ seq) → ackKept x.writes seq = x.writes.drop k := by
  intro n k _ hk hlo hhi
  have e : x.writes = x.writes.take k ++ x.writes.drop k := (List.take_append_drop _ _).symm
  have e1 : ackKept (x.writes.take k) seq = [] := by
    unfold ackKept
    rw [List.filter_eq_nil_iff]
    intro m hm
    obtain ⟨j, hj, rfl⟩ := List.mem_take_iff_getElem.1 hm
    have := hlo j (by omega) (by omega)
    simp [this]
  have e2 : ackKept (x.writes.drop k) seq = x.writes.drop k := by
    unfold ackKept
    rw [List.filter_eq_self]
    intro m hm
    obtain ⟨j, hj, rfl⟩ := List.mem_drop_iff_getElem.1 hm
    have h0 := hhi (by omega)
    have h1 := outbox_seq h (i := k) (by omega)
    have h2 := outbox_seq h (i := j + k) (by omega)
    have e3 : x.writes[k + j] = x.writes[j + k] := by congr 1; omega
    simp only [e3, Bool.not_eq_true', decide_eq_false_iff_not]
    omega
  have e4 : ackKept x.writes seq = ackKept (x.writes.take k) seq ++ ackKept (x.writes.drop k) seq := by
    unfold ackKept
    rw [← List.filter_append, List.take_append_drop]
  rw [e4, e1, e2, List.nil_append]

theorem ackPred (seq : Int) (B k : Nat) (w : World) (hk : k < B) (hc : w.cell? ⟨k, 0, none⟩ = some (.int .i64 seq)) : PredOn Tryz.prog DWrite.rep 120 #[.pointer (some ⟨k, 0, none⟩)] (fun m => decide (m.seq ≤ seq)) B w := by
  intro W cs x hb hr
  obtain ⟨fp, hr⟩ := hr
  obtain ⟨rfl, _, _, _⟩ := DWrite.rd.1 hr
  have hc' := (hb.cell (p := ⟨k, 0, none⟩) hk).trans hc
  have hkW := block_lt_of_cell hc'
  clear hr hb hc
  change Calls Tryz.prog 120 #[.agg #[.int .i64 x.device, .int .i64 x.seq, .int .i64 x.key.kind, .int .i64 x.key.n, .string x.key.text, .string x.field, .int .i64 x.n], .pointer (some ⟨k, 0, none⟩)] W _
  go_enter Tryz.func120, Tryz.ntmps120
  go_wp2
  go_ret
  exact ⟨rfl, bEl⟩

set_option maxRecDepth 100000 in
set_option maxHeartbeats 4000000 in
theorem implAckWrites (cs : List Value) (x : DOutbox) (seq : Int) (w : World) (h : Reads DOutbox.rep w cs x) (hs : x.writes.length ≤ 1048600) :
    Calls Tryz.prog 71 #[.agg cs.toArray, .int .i64 seq] w fun e w' => ∃ ds, e = .returned (.tuple #[.agg ds.toArray, .int .i64 (ackWritesN x seq)]) ∧ Fresh DOutbox.rep w.heap.size w' ds (ackWritesF x seq) ∧ Below w.heap.size w w' := by
  have HH := Lib.hid h
  obtain ⟨fp_q, h⟩ := h
  obtain ⟨q_v1, q_f1, rfl, _, q_r1⟩ := DOutbox.rd.1 h
  obtain ⟨q_a1, q_c1, rfl, q_hm1, q_lc1, q_hu1⟩ := slice_open q_r1; clear q_hu1
  have q_K1 : Hid (Reads (Rep.slice 34 DWrite.rep) w [.slice q_a1 x.writes.length q_c1] x.writes) := ⟨_, q_r1⟩
  clear q_r1 h
  go_enter Tryz.func71, Tryz.ntmps71
  go_wp2_with fail
  refine (implCopyOutbox _ x _ (HH.out.below bEl) (by omega)).mono ?_
  rintro e w1 ⟨ds, rfl, hf, hb⟩
  obtain ⟨ao, cap, rfl, hfw⟩ := DOutbox.fopen hf
  have HF : Hid (Fresh (Rep.slice 34 DWrite.rep) (w.heap.size + 3) w1 [.slice ao x.writes.length cap] x.writes) := Lib.hid (hfw.mono (by simp))
  have hb3 := hb.mono (B' := w.heap.size + 3) (by simp)
  have HX : Hid (WB w1 w.heap.size #[.int .i64 x.device, .int .i64 x.next, .slice q_a1 x.writes.length q_c1]) := Lib.hid (((WB.at rfl).growA.growA).grow hb3 (by omega))
  have HP : Hid (WB w1 (w.heap.size + 1) #[.int .i64 seq]) := Lib.hid (((WB.at (by simp)).growA).grow hb3 (by omega))
  have HR : Hid (WB w1 (w.heap.size + 2) #[.int .i64 0, .int .i64 0, .slice none 0 0]) := Lib.hid ((WB.at (by simp)).grow hb3 (by omega))
  have HB : Hid (Below w.heap.size w w1) := Lib.hid (Below.trans bEb (hb3.mono (by omega)))
  have hz : w.heap.size + 3 ≤ w1.heap.size := by have y := hb3.size; simp at y; omega
  have hlt : Hid (∀ b, (Value.slice ao x.writes.length cap).ownBlock = some b → w.heap.size + 3 ≤ b ∧ b < w1.heap.size) := Lib.hid fun b hb => HF.out.ownlt b (by rw [hb]; simp)
  clear hf hfw hb hb3
  have ⟨c_HX, z_HX, f_HX⟩ := HX.out
  go_wp2_with fail
  refine (implIsOutbox _ x _ (HH.out.below (by have y := HB.out; exact bEl))).mono ?_
  rintro e w2 ⟨rfl, hb⟩
  have hq : Below w1.heap.size w1 w2 := below_call bEl bSz hb
  have HO : Hid (WB w2 w1.heap.size #[.int .i64 x.device, .int .i64 x.next, .slice ao x.writes.length cap]) := Lib.hid ((WB.at rfl).keep hb)
  have hsz2 : w1.heap.size + 1 ≤ w2.heap.size := by have y := hb.size; simp at y; omega
  clear c_HX z_HX f_HX
  replace HX := Lib.hid (HX.out.keep hq)
  replace HP := Lib.hid (HP.out.keep hq)
  replace HR := Lib.hid (HR.out.keep hq)
  replace HF := Lib.hid (HF.out.below hq)
  replace HB := Lib.hid (HB.out.trans (hq.mono HB.out.size))
  clear hb hq
  have ⟨c_HR, z_HR, f_HR⟩ := HR.out
  have ⟨c_HO, z_HO, f_HO⟩ := HO.out
  cases a1 : isOutboxF x
  · have hF : Hid (ackWritesF x seq = x) := Lib.hid (by rw [ackWritesF, a1]; rfl)
    have hN : Hid (ackWritesN x seq = 0) := Lib.hid (by rw [ackWritesN, a1]; rfl)
    go_wp2
    refine bodyPost_ret (v := .tuple #[.agg #[.int .i64 x.device, .int .i64 x.next, .slice ao x.writes.length cap], .int .i64 0]) (by simp [results, Tryz.results71, go_sem, c_HR]) rfl ⟨_, by rw [hN.out], ?_, ?_⟩
    · rw [hF.out]
      exact DOutbox.fmk (Fresh.mono (B := (w.heap.size + 3)) (by repeat (first | exact HF.out | refine Fresh.setLow ?_ (by omega) | refine Fresh.drew ?_)) (by omega))
    · have y := HB.out
      exact bEb
  · have hF : Hid (ackWritesF x seq = ackOut x seq) := Lib.hid (by rw [ackWritesF, a1]; rfl)
    have hN : Hid (ackWritesN x seq = (x.writes.length : Int) - ((ackKept x.writes seq).length : Int)) := Lib.hid (by rw [ackWritesN, a1]; rfl)
    have hle := ackKept_le x.writes seq
    go_wp2_with fail
    refine (deleteFuncWrite _ _ (fun m => decide (m.seq ≤ seq)) (w.heap.size + 3) _ _ _ (enters_at Tryz.func120 (by kernel_rfl) rfl) HF.out (ackPred seq _ _ _ (by omega) (HP.out.cell 0)) (by omega)).mono ?_
    rintro e w3 ⟨v', rfl, hf', hc, hv'⟩
    have hf : Fresh (Rep.slice 34 DWrite.rep) (w.heap.size + 3) w3 [v'] (ackKept x.writes seq) := hf'
    clear hf'
    obtain ⟨bo, cap2, rfl⟩ := hf.slice
    clear c_HR z_HR f_HR c_HO z_HO f_HO
    have hno : ∀ b, b < w.heap.size + 3 ∨ b = w1.heap.size → b ∉ (Value.slice ao x.writes.length cap).ownBlock.toList := fun b hb hm => by
      have := hlt.out b (by simpa using hm); omega
    have hap := Lib.hid (show w1.heap.size ∉ (Value.slice bo (ackKept x.writes seq).length cap2).ownBlock.toList from fun hm => hno _ (.inr rfl) (hv' _ hm))
    replace HO := Lib.hid (HO.out.chg hc (hno _ (by omega)))
    replace HX := Lib.hid (HX.out.chg hc (hno _ (by omega)))
    replace HR := Lib.hid (HR.out.chg hc (hno _ (by omega)))
    replace HB : Hid (Below w.heap.size w w3) := Lib.hid (by have y := HB.out; exact Below.trans bEl (hc.below (fun b hm => by have := hlt.out b (by simpa using hm); omega) (by omega)))
    replace HF := Lib.hid hf
    have hz3 : w2.heap.size ≤ w3.heap.size := hc.size
    clear hf hc hv' hno HP
    have ⟨c_HX, z_HX, f_HX⟩ := HX.out
    have ⟨c_HO, z_HO, f_HO⟩ := HO.out
    have ⟨c_HR, z_HR, f_HR⟩ := HR.out
    go_wp2_with fail
    refine settle (fun W => WB W w.heap.size #[.int .i64 x.device, .int .i64 x.next, .slice q_a1 x.writes.length q_c1] ∧ WB W (w.heap.size + 2) #[.int .i64 0, .int .i64 0, .slice none 0 0] ∧ WB W w1.heap.size #[.int .i64 x.device, .int .i64 x.next, .slice bo (ackKept x.writes seq).length cap2] ∧ Fresh (Rep.slice 34 DWrite.rep) (w.heap.size + 3) W [.slice bo (ackKept x.writes seq).length cap2] (ackKept x.writes seq) ∧ Below w.heap.size w W) ⟨HX.out.setOther (by omega), HR.out.setOther (by omega), HO.out.setAt (by simp) rfl, DWrite.flat.setApart HF.out hap.out, by have y := HB.out; exact bEb⟩ ?_
    clear c_HX z_HX f_HX c_HO z_HO f_HO c_HR z_HR f_HR
    clear HX HR HO HF HB
    rintro w4 ⟨hx, hr, ho, hf, hb⟩
    have HX := Lib.hid hx
    have HR := Lib.hid hr
    have HO := Lib.hid ho
    have HF := Lib.hid hf
    have HB := Lib.hid hb
    clear hx hr ho hf hb
    have ⟨c_HX, z_HX, f_HX⟩ := HX.out
    have ⟨c_HO, z_HO, f_HO⟩ := HO.out
    have ⟨c_HR, z_HR, f_HR⟩ := HR.out
    have hw : IntKind.i64.wrap ((x.writes.length : Int) - ((ackKept x.writes seq).length : Int)) = (x.writes.length : Int) - ((ackKept x.writes seq).length : Int) := Go.IntWalk.i64_in _ (by omega)
    go_region
    all_goals
      clear hw
      go_wp2
      refine bodyPost_ret (v := .tuple #[.agg #[.int .i64 x.device, .int .i64 x.next, .slice bo (ackKept x.writes seq).length cap2], .int .i64 ((x.writes.length : Int) - ((ackKept x.writes seq).length : Int))]) (by simp [results, Tryz.results71, go_sem, c_HR]) rfl ⟨_, by rw [hN.out], ?_, ?_⟩
      · rw [hF.out]
        exact DOutbox.fmk (x := ackOut x seq) (Fresh.mono (B := (w.heap.size + 3)) (by repeat (first | exact HF.out | refine Fresh.setLow ?_ (by omega) | refine Fresh.drew ?_)) (by omega))
      · have y := HB.out
        exact bEb

set_option maxRecDepth 100000 in
set_option maxHeartbeats 4000000 in
theorem specAckWrites (cs : List Value) (x : DOutbox) (seq : Int) (w : World) (h : Reads DOutbox.rep w cs x) (hs : x.writes.length ≤ 1048600) :
    Calls Tryz.prog 76 #[.agg cs.toArray, .int .i64 seq] w fun e w' => ∃ ds, e = .returned (.tuple #[.agg ds.toArray, .int .i64 (ackWritesN x seq)]) ∧ Fresh DOutbox.rep w.heap.size w' ds (ackWritesF x seq) ∧ Below w.heap.size w w' := by
  have HH := Lib.hid h
  obtain ⟨fp_q, h⟩ := h
  obtain ⟨q_v1, q_f1, rfl, _, q_r1⟩ := DOutbox.rd.1 h
  obtain ⟨q_a1, q_c1, rfl, q_hm1, q_lc1, q_hu1⟩ := slice_open q_r1; clear q_hu1
  have q_K1 : Hid (Reads (Rep.slice 34 DWrite.rep) w [.slice q_a1 x.writes.length q_c1] x.writes) := ⟨_, q_r1⟩
  clear q_r1 h
  obtain ⟨i0, hi, hz0, hz1, hz2⟩ := info_parts infoWrite
  go_enter Tryz.func76, Tryz.ntmps76
  go_wp2_with fail
  refine (specCopyOutbox _ x _ (HH.out.below bEl) (by omega)).mono ?_
  rintro e w1 ⟨ds, rfl, hf, hb⟩
  obtain ⟨ao, cap, rfl, hfw⟩ := DOutbox.fopen hf
  have HF : Hid (Fresh (Rep.slice 34 DWrite.rep) (w.heap.size + 2) w1 [.slice ao x.writes.length cap] x.writes) := Lib.hid (hfw.mono (by simp))
  have hb3 := hb.mono (B' := w.heap.size + 2) (by simp)
  have HX : Hid (WB w1 w.heap.size #[.int .i64 x.device, .int .i64 x.next, .slice q_a1 x.writes.length q_c1]) := Lib.hid (((WB.at rfl).growA).grow hb3 (by omega))
  have HR : Hid (WB w1 (w.heap.size + 1) #[.int .i64 0, .int .i64 0, .slice none 0 0]) := Lib.hid ((WB.at (by simp)).grow hb3 (by omega))
  have HB : Hid (Below w.heap.size w w1) := Lib.hid (Below.trans bEb (hb3.mono (by omega)))
  have hz : w.heap.size + 2 ≤ w1.heap.size := by have y := hb3.size; simp at y; omega
  clear hf hfw hb hb3
  have ⟨c_HX, z_HX, f_HX⟩ := HX.out
  go_wp2_with fail
  refine (specIsOutbox _ x _ (HH.out.below (by have y := HB.out; exact bEl))).mono ?_
  rintro e w2 ⟨rfl, hb⟩
  have hq : Below w1.heap.size w1 w2 := below_call bEl bSz hb
  have HO : Hid (WB w2 w1.heap.size #[.int .i64 x.device, .int .i64 x.next, .slice ao x.writes.length cap]) := Lib.hid ((WB.at rfl).keep hb)
  have hsz2 : w1.heap.size + 1 ≤ w2.heap.size := by have y := hb.size; simp at y; omega
  clear c_HX z_HX f_HX
  replace HX := Lib.hid (HX.out.keep hq)
  replace HR := Lib.hid (HR.out.keep hq)
  replace HF := Lib.hid (HF.out.below hq)
  replace HB := Lib.hid (HB.out.trans (hq.mono HB.out.size))
  clear hb hq
  have ⟨c_HX, z_HX, f_HX⟩ := HX.out
  have ⟨c_HR, z_HR, f_HR⟩ := HR.out
  have ⟨c_HO, z_HO, f_HO⟩ := HO.out
  cases a1 : isOutboxF x
  · have hF : Hid (ackWritesF x seq = x) := Lib.hid (by rw [ackWritesF, a1]; rfl)
    have hN : Hid (ackWritesN x seq = 0) := Lib.hid (by rw [ackWritesN, a1]; rfl)
    go_wp2
    refine bodyPost_ret (v := .tuple #[.agg #[.int .i64 x.device, .int .i64 x.next, .slice ao x.writes.length cap], .int .i64 0]) (by simp [results, Tryz.results76, go_sem, c_HR]) rfl ⟨_, by rw [hN.out], ?_, ?_⟩
    · rw [hF.out]
      exact DOutbox.fmk (Fresh.mono (B := (w.heap.size + 2)) (by repeat (first | exact HF.out | refine Fresh.setLow ?_ (by omega) | refine Fresh.drew ?_)) (by omega))
    · have y := HB.out
      exact bEb
  · have hF : Hid (ackWritesF x seq = ackOut x seq) := Lib.hid (by rw [ackWritesF, a1]; rfl)
    have hN : Hid (ackWritesN x seq = (x.writes.length : Int) - ((ackKept x.writes seq).length : Int)) := Lib.hid (by rw [ackWritesN, a1]; rfl)
    have HA := Lib.hid a1
    clear HF
    go_wp2
    go_loop [7] (fun i => ∃ k : Nat, k ≤ x.writes.length ∧ i = .int .i64 k ∧ Hid (∀ i, (hi : i < x.writes.length) → i < k → x.writes[i].seq ≤ seq)) (fun i => x.writes.length - (intOf i).toNat)
    case atStart => exact ⟨0, by omega, rfl, Lib.hid (by intro i hi hk; omega)⟩
    case round =>
      obtain ⟨k, hk, rfl, HL⟩ := hrel
      have hstop : (Hid (∀ hk : k < x.writes.length, ¬ x.writes[k].seq ≤ seq)) ∨ ∃ hk : k < x.writes.length, x.writes[k].seq ≤ seq := by
        by_cases h1 : k < x.writes.length
        · by_cases h2 : x.writes[k].seq ≤ seq
          · exact .inr ⟨h1, h2⟩
          · exact .inl (Lib.hid fun _ => h2)
        · exact .inl (Lib.hid fun h => absurd h h1)
      rcases hstop with HS | ⟨hlt, hle⟩
      · have hsl := fun W => run_tail (P := Tryz.prog) (t := 28) (n := 7) (by kernel_rfl) (fun _ => by kernel_rfl) q_a1 k x.writes.length q_c1 hk W
        have HT := Lib.hid (Reads.tail (q_K1.out.below HB.out) k hk)
        have HE := Lib.hid (ack_drop HA.out _ k rfl hk HL.out HS.out)
        have hlen : (x.writes.drop k).length ≤ 1048600 := by rw [List.length_drop]; omega
        have j1 : (0 : Int) ≤ (k : Int) := by omega
        have j2 : (k : Int) ≤ (x.writes.length : Int) := by omega
        have hR : ((x.writes.length : Int) - ((ackKept x.writes seq).length : Int)) = (k : Int) := by rw [HE.out, List.length_drop]; omega
        have HN : Hid (ackWritesN x seq = (k : Int)) := Lib.hid (hN.out.trans hR)
        clear hR
        by_cases hlt : k < x.writes.length
        case' pos =>
          have hns := HS.out hlt
          obtain ⟨b, off, cs_b, rfl, hw_b, hr_b, hcell_b⟩ := slice_at (q_K1.out.below HB.out) k hlt
          obtain ⟨fe_b, hrd_b⟩ := hr_b
          have HR_b : Hid (Reads DWrite.rep w2 cs_b x.writes[k]) := ⟨_, hrd_b⟩
          obtain ⟨rfl, _, b_s0, b_s1⟩ := DWrite.rd.1 hrd_b
          clear hrd_b
          have b_c0 : w2.cell? ⟨b, off + k * 7, none⟩ = some (.int .i64 x.writes[k].device) := hcell_b 0 (by decide)
          have b_c1 : w2.cell? ⟨b, off + k * 7 + 1, none⟩ = some (.int .i64 x.writes[k].seq) := hcell_b 1 (by decide)
          have b_c2 : w2.cell? ⟨b, off + k * 7 + 2, none⟩ = some (.int .i64 x.writes[k].key.kind) := hcell_b 2 (by decide)
          have b_c3 : w2.cell? ⟨b, off + k * 7 + 3, none⟩ = some (.int .i64 x.writes[k].key.n) := hcell_b 3 (by decide)
          have b_c4 : w2.cell? ⟨b, off + k * 7 + 4, none⟩ = some (.string x.writes[k].key.text) := hcell_b 4 (by decide)
          have b_c5 : w2.cell? ⟨b, off + k * 7 + 5, none⟩ = some (.string x.writes[k].field) := hcell_b 5 (by decide)
          have b_c6 : w2.cell? ⟨b, off + k * 7 + 6, none⟩ = some (.int .i64 x.writes[k].n) := hcell_b 6 (by decide)
          clear hcell_b
          have i2 : (k : Int) < (x.writes.length : Int) := by omega
        all_goals
          go_wp2_with (at_builtin; refine wpList_grow _ rfl _ _ 28 28 rfl DWrite.flat w2.heap.size 34 i0 _ _ Tryz.underlying28 hi hz0 hz1 hz2 rfl _ [] rfl (lit_fresh DWrite.flat (w := _) (xs := #[]) (us := []) rfl rfl (by decide) (by simp) (by simp)) _ (x.writes.drop k) rfl (DWrite.flat.src Tryz.underlying28 (HT.out.below bEl)) ?c1a ?c2a ?c3a ?c4a ?_)
          case c1a => exact (DWrite.flat.row HT.out).2
          case c2a => (try simp only [List.length_nil, Nat.zero_add]); omega
          case c3a => (try simp only [List.length_nil, Nat.zero_add]); unfold maxLen; omega
          try (case c4a => simp; try omega)
          intro ao1 cap1 w3 hf1 hb1
          have HF1 := Lib.hid hf1
          have hq : Below w2.heap.size w2 w3 := Below.trans bEb hb1
          clear hf1 hb1
          clear c_HX z_HX f_HX c_HR z_HR f_HR c_HO z_HO f_HO
          replace HO := Lib.hid (HO.out.keep hq)
          replace HR := Lib.hid (HR.out.keep hq)
          replace HB := Lib.hid (HB.out.trans (hq.mono HB.out.size))
          have hsz3 := hq.size
          clear hq
          have ⟨c_HR, z_HR, f_HR⟩ := HR.out
          have ⟨c_HO, z_HO, f_HO⟩ := HO.out
          have HF2 : Hid (Fresh (Rep.slice 34 DWrite.rep) w2.heap.size w3 [.slice ao1 (x.writes.length - k) cap1] (ackOut x seq).writes) := Lib.hid (by
            have y := HF1.out
            try simp only [List.length_nil, Nat.zero_add, List.nil_append, List.length_drop] at y
            show Fresh _ _ _ _ (ackKept x.writes seq)
            rw [HE.out]
            exact y)
          go_wp2
          refine bodyPost_ret (v := .tuple #[.agg #[.int .i64 x.device, .int .i64 x.next, .slice ao1 (x.writes.length - k) cap1], .int .i64 (k : Int)]) (by simp [results, Tryz.results76, go_sem, c_HR]) rfl ⟨_, by rw [HN.out], ?_, ?_⟩
          · rw [hF.out]
            exact DOutbox.fmk (x := ackOut x seq) (Fresh.mono (B := w2.heap.size) (by repeat (first | exact HF2.out | refine Fresh.setLow ?_ (by omega) | refine Fresh.drew ?_)) (by omega))
          · have y := HB.out
            exact bEb
      · obtain ⟨b, off, cs_b, rfl, hw_b, hr_b, hcell_b⟩ := slice_at (q_K1.out.below HB.out) k hlt
        obtain ⟨fe_b, hrd_b⟩ := hr_b
        have HR_b : Hid (Reads DWrite.rep w2 cs_b x.writes[k]) := ⟨_, hrd_b⟩
        obtain ⟨rfl, _, b_s0, b_s1⟩ := DWrite.rd.1 hrd_b
        clear hrd_b
        have b_c0 : w2.cell? ⟨b, off + k * 7, none⟩ = some (.int .i64 x.writes[k].device) := hcell_b 0 (by decide)
        have b_c1 : w2.cell? ⟨b, off + k * 7 + 1, none⟩ = some (.int .i64 x.writes[k].seq) := hcell_b 1 (by decide)
        have b_c2 : w2.cell? ⟨b, off + k * 7 + 2, none⟩ = some (.int .i64 x.writes[k].key.kind) := hcell_b 2 (by decide)
        have b_c3 : w2.cell? ⟨b, off + k * 7 + 3, none⟩ = some (.int .i64 x.writes[k].key.n) := hcell_b 3 (by decide)
        have b_c4 : w2.cell? ⟨b, off + k * 7 + 4, none⟩ = some (.string x.writes[k].key.text) := hcell_b 4 (by decide)
        have b_c5 : w2.cell? ⟨b, off + k * 7 + 5, none⟩ = some (.string x.writes[k].field) := hcell_b 5 (by decide)
        have b_c6 : w2.cell? ⟨b, off + k * 7 + 6, none⟩ = some (.int .i64 x.writes[k].n) := hcell_b 6 (by decide)
        clear hcell_b
        have i1 : (0 : Int) ≤ (k : Int) := by omega
        have i2 : (k : Int) < (x.writes.length : Int) := by omega
        go_wp2
        go_light
        exact ⟨⟨k + 1, by omega, by go_num, Lib.hid (by
          intro i hi hk'
          by_cases e : i = k
          · subst e; exact hle
          · exact HL.out i hi (by omega))⟩, by simp [intOf]; omega⟩

end Go.Proofs.YtlfebehpmefioaaGreat

/-
  FirstWrite.
-/
namespace Go.Proofs.YtlfebehpmefioaaGreat
open Go.RowKit

def zeroWrite : DWrite := ⟨0, 0, ⟨0, 0, ⟨#[]⟩⟩, ⟨#[]⟩, 0⟩
def firstWriteF (x : DOutbox) : DWrite := x.writes.headD zeroWrite
def firstWriteB (x : DOutbox) : Bool := decide (0 < x.writes.length)

set_option maxHeartbeats 800000 in
theorem implFirstWrite (cs : List Value) (x : DOutbox) (w : World) (h : Reads DOutbox.rep w cs x) :
    Calls Tryz.prog 116 #[.agg cs.toArray] w fun e w' => ∃ ds, e = .returned (.tuple #[.agg ds.toArray, .bool (firstWriteB x)]) ∧ Fresh DWrite.rep w.heap.size w' ds (firstWriteF x) ∧ Below w.heap.size w w' := by
  obtain ⟨fp, h⟩ := h
  obtain ⟨v1, f1, rfl, _, r1⟩ := DOutbox.rd.1 h
  obtain ⟨ao, c1, rfl, hm, _, hu⟩ := slice_open r1
  have HK : Hid (Reads (Rep.slice 34 DWrite.rep) w [.slice ao x.writes.length c1] x.writes) := ⟨_, r1⟩
  clear hu h r1
  by_cases h0 : 0 < x.writes.length
  · obtain ⟨b, off, cs, rfl, bw, ⟨fe, hr⟩, hcell⟩ := slice_at HK.out 0 h0
    obtain ⟨rfl, _, s0, s1⟩ := DWrite.rd.1 hr
    clear hr
    have q0 : w.cell? ⟨b, off, none⟩ = some (.int .i64 x.writes[0].device) := hcell 0 (by decide)
    have q1 : w.cell? ⟨b, off + 1, none⟩ = some (.int .i64 x.writes[0].seq) := hcell 1 (by decide)
    have q2 : w.cell? ⟨b, off + 2, none⟩ = some (.int .i64 x.writes[0].key.kind) := hcell 2 (by decide)
    have q3 : w.cell? ⟨b, off + 3, none⟩ = some (.int .i64 x.writes[0].key.n) := hcell 3 (by decide)
    have q4 : w.cell? ⟨b, off + 4, none⟩ = some (.string x.writes[0].key.text) := hcell 4 (by decide)
    have q5 : w.cell? ⟨b, off + 5, none⟩ = some (.string x.writes[0].field) := hcell 5 (by decide)
    have q6 : w.cell? ⟨b, off + 6, none⟩ = some (.int .i64 x.writes[0].n) := hcell 6 (by decide)
    clear hcell
    have e1 : firstWriteB x = true := by simp [firstWriteB]; omega
    have e2 : firstWriteF x = x.writes[0] := by unfold firstWriteF; rw [List.headD_eq_head?_getD, List.head?_eq_getElem?, List.getElem?_eq_getElem h0]; rfl
    rw [e1, e2]
    go_enter Tryz.func116, Tryz.ntmps116
    go_wp2
    refine bodyPost_ret (v := .tuple #[.agg #[.int .i64 x.writes[0].device, .int .i64 x.writes[0].seq, .int .i64 x.writes[0].key.kind, .int .i64 x.writes[0].key.n, .string x.writes[0].key.text, .string x.writes[0].field, .int .i64 x.writes[0].n], .bool true]) (by simp [results, Tryz.results116, go_sem]) rfl ⟨_, rfl, ⟨[], DWrite.rd.2 ⟨rfl, rfl, s0, s1⟩, by simp, by simp⟩, bEl⟩
  · have hx : x.writes = [] := List.eq_nil_of_length_eq_zero (by omega)
    have e1 : firstWriteB x = false := by simp [firstWriteB, hx]
    have e2 : firstWriteF x = zeroWrite := by simp [firstWriteF, hx]
    rw [e1, e2]
    go_enter Tryz.func116, Tryz.ntmps116
    go_wp2
    refine bodyPost_ret (v := .tuple #[.agg #[.int .i64 0, .int .i64 0, .int .i64 0, .int .i64 0, .string ⟨#[]⟩, .string ⟨#[]⟩, .int .i64 0], .bool false]) (by simp [results, Tryz.results116, go_sem]) rfl ⟨_, rfl, ⟨[], DWrite.rd.2 ⟨rfl, rfl, by decide, by decide⟩, by simp, by simp⟩, bEl⟩

set_option maxHeartbeats 800000 in
theorem specFirstWrite (cs : List Value) (x : DOutbox) (w : World) (h : Reads DOutbox.rep w cs x) :
    Calls Tryz.prog 148 #[.agg cs.toArray] w fun e w' => ∃ ds, e = .returned (.tuple #[.agg ds.toArray, .bool (firstWriteB x)]) ∧ Fresh DWrite.rep w.heap.size w' ds (firstWriteF x) ∧ Below w.heap.size w w' := by
  obtain ⟨fp, h⟩ := h
  obtain ⟨v1, f1, rfl, _, r1⟩ := DOutbox.rd.1 h
  obtain ⟨ao, c1, rfl, hm, _, hu⟩ := slice_open r1
  have HK : Hid (Reads (Rep.slice 34 DWrite.rep) w [.slice ao x.writes.length c1] x.writes) := ⟨_, r1⟩
  clear hu h r1
  by_cases h0 : 0 < x.writes.length
  · obtain ⟨b, off, cs, rfl, bw, ⟨fe, hr⟩, hcell⟩ := slice_at HK.out 0 h0
    obtain ⟨rfl, _, s0, s1⟩ := DWrite.rd.1 hr
    clear hr
    have q0 : w.cell? ⟨b, off, none⟩ = some (.int .i64 x.writes[0].device) := hcell 0 (by decide)
    have q1 : w.cell? ⟨b, off + 1, none⟩ = some (.int .i64 x.writes[0].seq) := hcell 1 (by decide)
    have q2 : w.cell? ⟨b, off + 2, none⟩ = some (.int .i64 x.writes[0].key.kind) := hcell 2 (by decide)
    have q3 : w.cell? ⟨b, off + 3, none⟩ = some (.int .i64 x.writes[0].key.n) := hcell 3 (by decide)
    have q4 : w.cell? ⟨b, off + 4, none⟩ = some (.string x.writes[0].key.text) := hcell 4 (by decide)
    have q5 : w.cell? ⟨b, off + 5, none⟩ = some (.string x.writes[0].field) := hcell 5 (by decide)
    have q6 : w.cell? ⟨b, off + 6, none⟩ = some (.int .i64 x.writes[0].n) := hcell 6 (by decide)
    clear hcell
    have e1 : firstWriteB x = true := by simp [firstWriteB]; omega
    have e2 : firstWriteF x = x.writes[0] := by unfold firstWriteF; rw [List.headD_eq_head?_getD, List.head?_eq_getElem?, List.getElem?_eq_getElem h0]; rfl
    rw [e1, e2]
    go_enter Tryz.func148, Tryz.ntmps148
    go_wp2
    refine bodyPost_ret (v := .tuple #[.agg #[.int .i64 x.writes[0].device, .int .i64 x.writes[0].seq, .int .i64 x.writes[0].key.kind, .int .i64 x.writes[0].key.n, .string x.writes[0].key.text, .string x.writes[0].field, .int .i64 x.writes[0].n], .bool true]) (by simp [results, Tryz.results148, go_sem]) rfl ⟨_, rfl, ⟨[], DWrite.rd.2 ⟨rfl, rfl, s0, s1⟩, by simp, by simp⟩, bEl⟩
  · have hx : x.writes = [] := List.eq_nil_of_length_eq_zero (by omega)
    have e1 : firstWriteB x = false := by simp [firstWriteB, hx]
    have e2 : firstWriteF x = zeroWrite := by simp [firstWriteF, hx]
    rw [e1, e2]
    go_enter Tryz.func148, Tryz.ntmps148
    go_wp2
    refine bodyPost_ret (v := .tuple #[.agg #[.int .i64 0, .int .i64 0, .int .i64 0, .int .i64 0, .string ⟨#[]⟩, .string ⟨#[]⟩, .int .i64 0], .bool false]) (by simp [results, Tryz.results148, go_sem]) rfl ⟨_, rfl, ⟨[], DWrite.rd.2 ⟨rfl, rfl, by decide, by decide⟩, by simp, by simp⟩, bEl⟩

end Go.Proofs.YtlfebehpmefioaaGreat

/-
  EqualOutboxes, EqualSyncs.
-/
namespace Go.Proofs.YtlfebehpmefioaaGreat
open Go.RowKit

def equalOutboxesF (x y : DOutbox) : Bool := (x.device == y.device) && ((x.next == y.next) && decide (x.writes = y.writes))
def equalSyncsF (x y : DSync) : Bool := equalOutboxesF x.outbox y.outbox && ((x.tries == y.tries) && (x.waitUntil == y.waitUntil))

set_option maxHeartbeats 800000 in
theorem implEqualOutboxes (cs ds : List Value) (x y : DOutbox) (w : World) (h : Reads DOutbox.rep w cs x) (h' : Reads DOutbox.rep w ds y) :
    Calls Tryz.prog 66 #[.agg cs.toArray, .agg ds.toArray] w fun e w' => e = .returned (.bool (equalOutboxesF x y)) ∧ Below w.heap.size w w' := by
  obtain ⟨fp_q, h⟩ := h
  obtain ⟨q_v1, q_f1, rfl, _, q_r1⟩ := DOutbox.rd.1 h
  obtain ⟨q_a1, q_c1, rfl, q_hm1, q_lc1, q_hu1⟩ := slice_open q_r1; clear q_hu1
  have q_K1 : Hid (Reads (Rep.slice 34 DWrite.rep) w [.slice q_a1 x.writes.length q_c1] x.writes) := ⟨_, q_r1⟩
  clear q_r1 h
  obtain ⟨fp_r, h'⟩ := h'
  obtain ⟨r_v1, r_f1, rfl, _, r_r1⟩ := DOutbox.rd.1 h'
  obtain ⟨r_a1, r_c1, rfl, r_hm1, r_lc1, r_hu1⟩ := slice_open r_r1; clear r_hu1
  have r_K1 : Hid (Reads (Rep.slice 34 DWrite.rep) w [.slice r_a1 y.writes.length r_c1] y.writes) := ⟨_, r_r1⟩
  clear r_r1 h'
  cases h1 : (x.device == y.device)
  · go_enter Tryz.func66, Tryz.ntmps66
    go_wp2
    go_ret
    exact ⟨ret_bool (by simp only [equalOutboxesF, h1, Bool.false_and]), bEl⟩
  · cases h2 : (x.next == y.next)
    · go_enter Tryz.func66, Tryz.ntmps66
      go_wp2
      go_ret
      exact ⟨ret_bool (by simp only [equalOutboxesF, h2, Bool.and_false, Bool.false_and]), bEl⟩
    · go_enter Tryz.func66, Tryz.ntmps66
      go_wp2_with fail
      refine (slicesEqualWrite _ _ x.writes y.writes _ (q_K1.out.below bEl) (r_K1.out.below bEl)).mono ?_
      rintro e w1 ⟨rfl, hb⟩
      have HB := Lib.hid (Below.trans bEl (hb.mono bSz) : Below w.heap.size w w1)
      go_wp2
      go_ret
      exact ⟨ret_bool (by simp only [equalOutboxesF, h1, h2, Bool.true_and]), HB.out⟩

set_option maxHeartbeats 800000 in
theorem implEqualSyncs (cs ds : List Value) (x y : DSync) (w : World) (h : Reads DSync.rep w cs x) (h' : Reads DSync.rep w ds y) :
    Calls Tryz.prog 22 #[.agg cs.toArray, .agg ds.toArray] w fun e w' => e = .returned (.bool (equalSyncsF x y)) ∧ Below w.heap.size w w' := by
  obtain ⟨fp_q, h⟩ := h
  obtain ⟨q_v1, q_f1, rfl, _, q_r1⟩ := DSync.rd.1 h
  obtain ⟨q_a1, q_c1, rfl, q_hm1, q_lc1, q_hu1⟩ := slice_open q_r1; clear q_hu1
  have q_K1 : Hid (Reads (Rep.slice 34 DWrite.rep) w [.slice q_a1 x.outbox.writes.length q_c1] x.outbox.writes) := ⟨_, q_r1⟩
  clear q_r1 h
  obtain ⟨fp_r, h'⟩ := h'
  obtain ⟨r_v1, r_f1, rfl, _, r_r1⟩ := DSync.rd.1 h'
  obtain ⟨r_a1, r_c1, rfl, r_hm1, r_lc1, r_hu1⟩ := slice_open r_r1; clear r_hu1
  have r_K1 : Hid (Reads (Rep.slice 34 DWrite.rep) w [.slice r_a1 y.outbox.writes.length r_c1] y.outbox.writes) := ⟨_, r_r1⟩
  clear r_r1 h'
  have HR : ∀ W, Below w.heap.size w W → Reads DOutbox.rep W [.int .i64 x.outbox.device, .int .i64 x.outbox.next, .slice q_a1 x.outbox.writes.length q_c1] x.outbox := fun W hW => by
    obtain ⟨f, hf⟩ := q_K1.out.below hW
    exact ⟨_, DOutbox.rd.2 ⟨_, _, rfl, rfl, hf⟩⟩
  have HS : ∀ W, Below w.heap.size w W → Reads DOutbox.rep W [.int .i64 y.outbox.device, .int .i64 y.outbox.next, .slice r_a1 y.outbox.writes.length r_c1] y.outbox := fun W hW => by
    obtain ⟨f, hf⟩ := r_K1.out.below hW
    exact ⟨_, DOutbox.rd.2 ⟨_, _, rfl, rfl, hf⟩⟩
  have HR := Lib.hid HR
  have HS := Lib.hid HS
  cases h1 : (x.tries == y.tries) <;> cases h2 : (x.waitUntil == y.waitUntil) <;> cases h3 : equalOutboxesF x.outbox y.outbox
  all_goals
    go_enter Tryz.func22, Tryz.ntmps22
    go_wp2_with fail
    refine (implEqualOutboxes _ _ x.outbox y.outbox _ (HR.out _ bEl) (HS.out _ bEl)).mono ?_
    rintro e w1 ⟨rfl, hb⟩
    have ⟨cx, zx, _⟩ : WB w1 w.heap.size #[.int .i64 x.outbox.device, .int .i64 x.outbox.next, .slice q_a1 x.outbox.writes.length q_c1, .int .i64 x.tries, .int .i64 x.waitUntil] := ((WB.at rfl).growA).keep hb
    have ⟨cy, zy, _⟩ : WB w1 (w.heap.size + 1) #[.int .i64 y.outbox.device, .int .i64 y.outbox.next, .slice r_a1 y.outbox.writes.length r_c1, .int .i64 y.tries, .int .i64 y.waitUntil] := (WB.at (by simp)).keep hb
    have HB := Lib.hid (Below.trans bEl (hb.mono bSz) : Below w.heap.size w w1)
    clear hb
    rw [h3]
    go_wp2
    go_ret
    exact ⟨ret_bool (by simp only [equalSyncsF, h1, h2, h3, Bool.and_false, Bool.false_and, Bool.and_self]), HB.out⟩

end Go.Proofs.YtlfebehpmefioaaGreat

/-
  The plain law of FnOutboxes. No function of the program is named here.
-/
namespace Go.Proofs.YtlfebehpmefioaaGreat
open Go.RowKit

theorem outbox_iff {x : DOutbox} : isOutboxF x = true ↔ ((∀ i, (hi : i < x.writes.length) → isWriteF x.writes[i] = true ∧ x.writes[i].device = x.device ∧ x.writes[i].seq = x.next - x.writes.length + i) ∧ (1 ≤ x.device ∧ x.device ≤ 1000000) ∧ (1 ≤ x.next ∧ x.next ≤ 1000000) ∧ x.writes.length ≤ 20) := by
  constructor
  · intro h
    have hs := fun i hi => outbox_seq h (i := i) hi
    rw [isOutboxF, Bool.and_eq_true, List.all_eq_true] at h
    obtain ⟨h1, h2⟩ := h
    simp only [Bool.and_eq_true, within, decide_eq_true_eq] at h2
    refine ⟨fun i hi => ?_, h2.1.1, h2.1.2, h2.2⟩
    have h3 := h1 i (List.mem_range.2 hi)
    rw [out_at hi] at h3
    simp only [Bool.and_eq_true, Bool.not_eq_true', bne_eq_false_iff_eq] at h3
    exact ⟨h3.1, h3.2.1, hs i hi⟩
  · rintro ⟨h1, h2, h3, h4⟩
    rw [isOutboxF, Bool.and_eq_true, List.all_eq_true]
    refine ⟨fun i hi => ?_, by simp only [Bool.and_eq_true, within, decide_eq_true_eq]; exact ⟨⟨h2, h3⟩, h4⟩⟩
    have hi' := List.mem_range.1 hi
    rw [out_at hi']
    obtain ⟨e1, e2, e3⟩ := h1 i hi'
    simp only [Bool.and_eq_true, Bool.not_eq_true', bne_eq_false_iff_eq]
    refine ⟨e1, e2, ?_⟩
    rw [e3, Go.IntWalk.wrap64_in (x.next - (x.writes.length : Int)) (by omega), Go.IntWalk.wrap64_in _ (by omega)]

theorem outbox_tail {x : DOutbox} (h : isOutboxF x = true) (hl : 0 < x.writes.length) : isOutboxF ⟨x.device, x.next, x.writes.drop 1⟩ = true := by
  obtain ⟨h1, h2, h3, h4⟩ := outbox_iff.1 h
  refine outbox_iff.2 ⟨fun i hi => ?_, h2, h3, by show (x.writes.drop 1).length ≤ 20; rw [List.length_drop]; omega⟩
  have hi0 : i < (x.writes.drop 1).length := hi
  have hi2 : 1 + i < x.writes.length := by rw [List.length_drop] at hi0; omega
  obtain ⟨e1, e2, e3⟩ := h1 (1 + i) hi2
  have e : (x.writes.drop 1)[i] = x.writes[1 + i] := List.getElem_drop
  show isWriteF (x.writes.drop 1)[i] = true ∧ (x.writes.drop 1)[i].device = x.device ∧ (x.writes.drop 1)[i].seq = x.next - ((x.writes.drop 1).length : Int) + i
  rw [e]
  refine ⟨e1, e2, ?_⟩
  rw [e3, List.length_drop]
  omega

theorem write_seq {y : DWrite} (h : isWriteF y = true) : 1 ≤ y.seq ∧ y.seq ≤ 1000000 := by
  unfold isWriteF at h
  simp only [Bool.and_eq_true, within, decide_eq_true_eq] at h
  omega

theorem outbox_law {x : DOutbox} (h : isOutboxF x = true) (hl : 0 < x.writes.length) :
    ackWritesN x (firstWriteF x).seq = 1 ∧ ackWritesF x (firstWriteF x).seq = ⟨x.device, x.next, x.writes.drop 1⟩ ∧ ackWritesN x x.next = x.writes.length ∧ ackWritesF x x.next = ⟨x.device, x.next, []⟩ ∧ ackWritesN x ((firstWriteF x).seq - 1) = 0 ∧ ackWritesF x ((firstWriteF x).seq - 1) = x ∧ isWriteF (firstWriteF x) = true ∧ 0 ≤ (firstWriteF x).seq ∧ (firstWriteF x).seq ≤ 1000000 := by
  obtain ⟨h1, h2, h3, h4⟩ := outbox_iff.1 h
  have hf : firstWriteF x = x.writes[0] := by
    unfold firstWriteF
    rw [List.headD_eq_head?_getD, List.head?_eq_getElem?, List.getElem?_eq_getElem hl]; rfl
  obtain ⟨f1, _, f3⟩ := h1 0 hl
  have hsq := write_seq f1
  rw [hf]
  have z0 : ∀ i, (hi : i < x.writes.length) → i < 1 → x.writes[i].seq ≤ x.writes[0].seq := fun i hi hi1 => by
    have e : i = 0 := by omega
    subst e
    exact Int.le_refl _
  have a1 := ack_drop (seq := x.writes[0].seq) h (x.writes.length - 1) 1 rfl (by omega) z0 (fun hk => by have := (h1 1 hk).2.2; omega)
  have a2 := ack_drop (seq := x.next) h (x.writes.length - x.writes.length) x.writes.length rfl (Nat.le_refl _) (fun i hi _ => by have := (h1 i hi).2.2; omega) (fun hk => absurd hk (by omega))
  have a3 := ack_drop (seq := x.writes[0].seq - 1) h (x.writes.length - 0) 0 rfl (by omega) (fun i hi hi1 => absurd hi1 (by omega)) (fun hk => by omega)
  rw [List.drop_length] at a2
  rw [List.drop_zero] at a3
  unfold ackWritesN ackWritesF ackOut
  rw [h, a1, a2, a3, if_pos rfl, if_pos rfl, if_pos rfl, if_pos rfl, if_pos rfl, if_pos rfl]
  refine ⟨by rw [List.length_drop]; omega, rfl, by simp, rfl, by omega, rfl, f1, by omega, by omega⟩
end Go.Proofs.YtlfebehpmefioaaGreat
