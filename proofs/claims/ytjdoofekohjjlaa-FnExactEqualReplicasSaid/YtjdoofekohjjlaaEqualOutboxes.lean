/-
  EqualOutboxes, EqualSyncs.
-/
import Derived.Test.YtjdoofekohjjlaaEqFam
import Derived.Test.YtjdoofekohjjlaaTFam
namespace Go.Proofs.Ytjdoofekohjjlaa
open Go.RowKit

def equalOutboxesF (x y : DOutbox) : Bool := (x.device == y.device) && ((x.next == y.next) && decide (x.writes = y.writes))
def equalSyncsF (x y : DSync) : Bool := equalOutboxesF x.outbox y.outbox && ((x.tries == y.tries) && (x.waitUntil == y.waitUntil))

set_option maxHeartbeats 800000 in
theorem implEqualOutboxes (cs ds : List Value) (x y : DOutbox) (w : World) (h : Reads DOutbox.rep w cs x) (h' : Reads DOutbox.rep w ds y) :
    Calls Try.prog 106 #[.agg cs.toArray, .agg ds.toArray] w fun e w' => e = .returned (.bool (equalOutboxesF x y)) ∧ Below w.heap.size w w' := by
  obtain ⟨fp_q, h⟩ := h
  obtain ⟨q_v1, q_f1, rfl, _, q_r1⟩ := DOutbox.rd.1 h
  obtain ⟨q_a1, q_c1, rfl, q_hm1, q_lc1, q_hu1⟩ := slice_open q_r1; clear q_hu1
  have q_K1 : Hid (Reads (Rep.slice 72 DWrite.rep) w [.slice q_a1 x.writes.length q_c1] x.writes) := ⟨_, q_r1⟩
  clear q_r1 h
  obtain ⟨fp_r, h'⟩ := h'
  obtain ⟨r_v1, r_f1, rfl, _, r_r1⟩ := DOutbox.rd.1 h'
  obtain ⟨r_a1, r_c1, rfl, r_hm1, r_lc1, r_hu1⟩ := slice_open r_r1; clear r_hu1
  have r_K1 : Hid (Reads (Rep.slice 72 DWrite.rep) w [.slice r_a1 y.writes.length r_c1] y.writes) := ⟨_, r_r1⟩
  clear r_r1 h'
  cases h1 : (x.device == y.device)
  · go_enter Try.func106, Try.ntmps106
    go_wp2
    go_ret
    exact ⟨ret_bool (by simp only [equalOutboxesF, h1, Bool.false_and]), (by repeat (first | with_reducible exact belR | with_reducible apply belA | (with_reducible refine belS ?_ ?_; focus (first | omega | (simp; done) | (simp; omega))) | with_reducible apply belN | with_reducible apply belD | with_reducible assumption))⟩
  · cases h2 : (x.next == y.next)
    · go_enter Try.func106, Try.ntmps106
      go_wp2
      go_ret
      exact ⟨ret_bool (by simp only [equalOutboxesF, h2, Bool.and_false, Bool.false_and]), (by repeat (first | with_reducible exact belR | with_reducible apply belA | (with_reducible refine belS ?_ ?_; focus (first | omega | (simp; done) | (simp; omega))) | with_reducible apply belN | with_reducible apply belD | with_reducible assumption))⟩
    · go_enter Try.func106, Try.ntmps106
      go_wp2_with fail
      refine (slicesEqualWrite _ _ x.writes y.writes _ (q_K1.out.below (by repeat (first | with_reducible exact belR | with_reducible apply belA | (with_reducible refine belS ?_ ?_; focus (first | omega | (simp; done) | (simp; omega))) | with_reducible apply belN | with_reducible apply belD | with_reducible assumption))) (r_K1.out.below (by repeat (first | with_reducible exact belR | with_reducible apply belA | (with_reducible refine belS ?_ ?_; focus (first | omega | (simp; done) | (simp; omega))) | with_reducible apply belN | with_reducible apply belD | with_reducible assumption)))).mono ?_
      rintro e w1 ⟨rfl, hb⟩
      have HB := Lib.hid (Below.trans (by repeat (first | with_reducible exact belR | with_reducible apply belA | (with_reducible refine belS ?_ ?_; focus (first | omega | (simp; done) | (simp; omega))) | with_reducible apply belN | with_reducible apply belD | with_reducible assumption)) (hb.mono (by first | omega | (simp; done) | (simp; omega))) : Below w.heap.size w w1)
      go_wp2
      go_ret
      exact ⟨ret_bool (by simp only [equalOutboxesF, h1, h2, Bool.true_and]), HB.out⟩

set_option maxRecDepth 100000 in
set_option maxHeartbeats 1600000 in
theorem specEqualOutboxes (cs ds : List Value) (x y : DOutbox) (w : World) (h : Reads DOutbox.rep w cs x) (h' : Reads DOutbox.rep w ds y) :
    Calls Try.prog 104 #[.agg cs.toArray, .agg ds.toArray] w fun e w' => e = .returned (.bool (equalOutboxesF x y)) ∧ Below w.heap.size w w' := by
  obtain ⟨fp_q, h⟩ := h
  obtain ⟨q_v1, q_f1, rfl, _, q_r1⟩ := DOutbox.rd.1 h
  obtain ⟨q_a1, q_c1, rfl, q_hm1, q_lc1, q_hu1⟩ := slice_open q_r1; clear q_hu1
  have q_K1 : Hid (Reads (Rep.slice 72 DWrite.rep) w [.slice q_a1 x.writes.length q_c1] x.writes) := ⟨_, q_r1⟩
  clear q_r1 h
  obtain ⟨fp_r, h'⟩ := h'
  obtain ⟨r_v1, r_f1, rfl, _, r_r1⟩ := DOutbox.rd.1 h'
  obtain ⟨r_a1, r_c1, rfl, r_hm1, r_lc1, r_hu1⟩ := slice_open r_r1; clear r_hu1
  have r_K1 : Hid (Reads (Rep.slice 72 DWrite.rep) w [.slice r_a1 y.writes.length r_c1] y.writes) := ⟨_, r_r1⟩
  clear r_r1 h'
  have hEQ := equalInWrite
  cases h1 : (x.device == y.device)
  · have h1' : (x.device != y.device) = true := by simp only [bne, h1, Bool.not_false]
    go_enter Try.func104, Try.ntmps104
    go_wp2
    go_ret
    exact ⟨ret_bool (by simp only [equalOutboxesF, h1, Bool.false_and]), (by repeat (first | with_reducible exact belR | with_reducible apply belA | (with_reducible refine belS ?_ ?_; focus (first | omega | (simp; done) | (simp; omega))) | with_reducible apply belN | with_reducible apply belD | with_reducible assumption))⟩
  have h1' : (x.device != y.device) = false := by simp only [bne, h1, Bool.not_true]
  cases h2 : (x.next == y.next)
  · have h2' : (x.next != y.next) = true := by simp only [bne, h2, Bool.not_false]
    go_enter Try.func104, Try.ntmps104
    go_wp2
    go_ret
    exact ⟨ret_bool (by simp only [equalOutboxesF, h2, Bool.and_false, Bool.false_and]), (by repeat (first | with_reducible exact belR | with_reducible apply belA | (with_reducible refine belS ?_ ?_; focus (first | omega | (simp; done) | (simp; omega))) | with_reducible apply belN | with_reducible apply belD | with_reducible assumption))⟩
  have h2' : (x.next != y.next) = false := by simp only [bne, h2, Bool.not_true]
  have H1 := Lib.hid h1; clear h1
  have H2 := Lib.hid h2; clear h2
  by_cases hlen : x.writes.length = y.writes.length
  · have hl0 : ((x.writes.length : Int) != y.writes.length) = false := by simp; omega
    have HL := Lib.hid hlen; clear hlen
    go_enter Try.func104, Try.ntmps104
    go_wp2
    go_loopw [5] (fun i wr => ∃ k : Nat, k ≤ x.writes.length ∧ i = .int .i64 k ∧ Hid (∀ j, j < k → x.writes[j]? = y.writes[j]?) ∧ WB wr w.heap.size #[.int .i64 x.device, .int .i64 x.next, .slice q_a1 x.writes.length q_c1] ∧ WB wr (w.heap.size + 1) #[.int .i64 y.device, .int .i64 y.next, .slice r_a1 y.writes.length r_c1] ∧ Below w.heap.size w wr) (fun i _ => x.writes.length - (intOf i).toNat)
    case atStart => exact ⟨0, by omega, rfl, Lib.hid (by intro j hj; omega), (WB.at rfl).growA, WB.at (by simp), (by repeat (first | with_reducible exact belR | with_reducible apply belA | (with_reducible refine belS ?_ ?_; focus (first | omega | (simp; done) | (simp; omega))) | with_reducible apply belN | with_reducible apply belD | with_reducible assumption))⟩
    case round =>
      obtain ⟨k, hk, rfl, HA, hx, hy, hb⟩ := hrel
      have HB := Lib.hid hb; clear hb
      have HX := Lib.hid hx
      have HY := Lib.hid hy
      have ⟨cx, zx, fx⟩ := hx
      have ⟨cy, zy, fy⟩ := hy
      clear hx hy
      by_cases hlt : k < x.writes.length
      · have hlt' : k < y.writes.length := by have := HL.out; omega
        obtain ⟨b, off, cs_b, rfl, hw_b, hr_b, hcell_b⟩ := slice_at (q_K1.out.below HB.out) k hlt
        obtain ⟨fe_b, hrd_b⟩ := hr_b
        have HR_b : Hid (Reads DWrite.rep wr cs_b x.writes[k]) := ⟨_, hrd_b⟩
        obtain ⟨rfl, _, b_s0, b_s1⟩ := DWrite.rd.1 hrd_b
        clear hrd_b
        have b_c0 : wr.cell? ⟨b, off + k * 7, none⟩ = some (.int .i64 x.writes[k].device) := hcell_b 0 (by decide)
        have b_c1 : wr.cell? ⟨b, off + k * 7 + 1, none⟩ = some (.int .i64 x.writes[k].seq) := hcell_b 1 (by decide)
        have b_c2 : wr.cell? ⟨b, off + k * 7 + 2, none⟩ = some (.int .i64 x.writes[k].key.kind) := hcell_b 2 (by decide)
        have b_c3 : wr.cell? ⟨b, off + k * 7 + 3, none⟩ = some (.int .i64 x.writes[k].key.n) := hcell_b 3 (by decide)
        have b_c4 : wr.cell? ⟨b, off + k * 7 + 4, none⟩ = some (.string x.writes[k].key.text) := hcell_b 4 (by decide)
        have b_c5 : wr.cell? ⟨b, off + k * 7 + 5, none⟩ = some (.string x.writes[k].field) := hcell_b 5 (by decide)
        have b_c6 : wr.cell? ⟨b, off + k * 7 + 6, none⟩ = some (.int .i64 x.writes[k].n) := hcell_b 6 (by decide)
        clear hcell_b
        obtain ⟨d, off', cs_d, rfl, hw_d, hr_d, hcell_d⟩ := slice_at (r_K1.out.below HB.out) k hlt'
        obtain ⟨fe_d, hrd_d⟩ := hr_d
        have HR_d : Hid (Reads DWrite.rep wr cs_d y.writes[k]) := ⟨_, hrd_d⟩
        obtain ⟨rfl, _, d_s0, d_s1⟩ := DWrite.rd.1 hrd_d
        clear hrd_d
        have d_c0 : wr.cell? ⟨d, off' + k * 7, none⟩ = some (.int .i64 y.writes[k].device) := hcell_d 0 (by decide)
        have d_c1 : wr.cell? ⟨d, off' + k * 7 + 1, none⟩ = some (.int .i64 y.writes[k].seq) := hcell_d 1 (by decide)
        have d_c2 : wr.cell? ⟨d, off' + k * 7 + 2, none⟩ = some (.int .i64 y.writes[k].key.kind) := hcell_d 2 (by decide)
        have d_c3 : wr.cell? ⟨d, off' + k * 7 + 3, none⟩ = some (.int .i64 y.writes[k].key.n) := hcell_d 3 (by decide)
        have d_c4 : wr.cell? ⟨d, off' + k * 7 + 4, none⟩ = some (.string y.writes[k].key.text) := hcell_d 4 (by decide)
        have d_c5 : wr.cell? ⟨d, off' + k * 7 + 5, none⟩ = some (.string y.writes[k].field) := hcell_d 5 (by decide)
        have d_c6 : wr.cell? ⟨d, off' + k * 7 + 6, none⟩ = some (.int .i64 y.writes[k].n) := hcell_d 6 (by decide)
        clear hcell_d
        have i1 : (0 : Int) ≤ (k : Int) := by omega
        have i2 : (k : Int) < (x.writes.length : Int) := by omega
        have i3 : (k : Int) < (y.writes.length : Int) := by omega
        by_cases he : x.writes[k] = y.writes[k]
        · have hd : decide (x.writes[k] = y.writes[k]) = true := decide_eq_true he
          have HE := Lib.hid he; clear he
          go_wp2
          go_quiet (fail)
          go_wp2
          go_light
          have y := HB.out
          exact ⟨⟨k + 1, by omega, by go_num, Lib.hid (agree_snoc HA.out (by rw [List.getElem?_eq_getElem hlt, List.getElem?_eq_getElem hlt', HE.out])), HX.out.keep (belN belR), HY.out.keep (belN belR), (by repeat (first | with_reducible exact belR | with_reducible apply belA | (with_reducible refine belS ?_ ?_; focus (first | omega | (simp; done) | (simp; omega))) | with_reducible apply belN | with_reducible apply belD | with_reducible assumption))⟩, by simp [intOf]; omega⟩
        · have hd : decide (x.writes[k] = y.writes[k]) = false := decide_eq_false he
          have HE := Lib.hid he; clear he
          go_wp2
          go_quiet (fail)
          go_wp2
          go_ret
          have y' := HB.out
          refine ⟨ret_bool ?_, (by repeat (first | with_reducible exact belR | with_reducible apply belA | (with_reducible refine belS ?_ ?_; focus (first | omega | (simp; done) | (simp; omega))) | with_reducible apply belN | with_reducible apply belD | with_reducible assumption))⟩
          go_light
          have : decide (x.writes = y.writes) = false := by
            rw [decide_eq_false_iff_not]
            intro e
            exact HE.out (List.getElem_of_eq e hlt)
          rw [equalOutboxesF, this, Bool.and_false, Bool.and_false]
      · go_wp2
        go_ret
        have y' := HB.out
        refine ⟨ret_bool ?_, (by repeat (first | with_reducible exact belR | with_reducible apply belA | (with_reducible refine belS ?_ ?_; focus (first | omega | (simp; done) | (simp; omega))) | with_reducible apply belN | with_reducible apply belD | with_reducible assumption))⟩
        go_light
        have := agree_all HA.out (by omega) HL.out.symm
        rw [equalOutboxesF, H1.out, H2.out, this]; simp
  · have hl0 : ((x.writes.length : Int) != y.writes.length) = true := by simp; omega
    have HL := Lib.hid hlen; clear hlen
    go_enter Try.func104, Try.ntmps104
    go_wp2
    go_ret
    refine ⟨ret_bool ?_, (by repeat (first | with_reducible exact belR | with_reducible apply belA | (with_reducible refine belS ?_ ?_; focus (first | omega | (simp; done) | (simp; omega))) | with_reducible apply belN | with_reducible apply belD | with_reducible assumption))⟩
    go_light
    have : decide (x.writes = y.writes) = false := by
      rw [decide_eq_false_iff_not]
      intro e
      exact HL.out (by rw [e])
    rw [equalOutboxesF, this, Bool.and_false, Bool.and_false]

set_option maxHeartbeats 800000 in
theorem implEqualSyncs (cs ds : List Value) (x y : DSync) (w : World) (h : Reads DSync.rep w cs x) (h' : Reads DSync.rep w ds y) :
    Calls Try.prog 56 #[.agg cs.toArray, .agg ds.toArray] w fun e w' => e = .returned (.bool (equalSyncsF x y)) ∧ Below w.heap.size w w' := by
  obtain ⟨fp_q, h⟩ := h
  obtain ⟨q_v1, q_f1, rfl, _, q_r1⟩ := DSync.rd.1 h
  obtain ⟨q_a1, q_c1, rfl, q_hm1, q_lc1, q_hu1⟩ := slice_open q_r1; clear q_hu1
  have q_K1 : Hid (Reads (Rep.slice 72 DWrite.rep) w [.slice q_a1 x.outbox.writes.length q_c1] x.outbox.writes) := ⟨_, q_r1⟩
  clear q_r1 h
  obtain ⟨fp_r, h'⟩ := h'
  obtain ⟨r_v1, r_f1, rfl, _, r_r1⟩ := DSync.rd.1 h'
  obtain ⟨r_a1, r_c1, rfl, r_hm1, r_lc1, r_hu1⟩ := slice_open r_r1; clear r_hu1
  have r_K1 : Hid (Reads (Rep.slice 72 DWrite.rep) w [.slice r_a1 y.outbox.writes.length r_c1] y.outbox.writes) := ⟨_, r_r1⟩
  clear r_r1 h'
  have HR : ∀ W, Below w.heap.size w W → Reads DOutbox.rep W [.int .i64 x.outbox.device, .int .i64 x.outbox.next, .slice q_a1 x.outbox.writes.length q_c1] x.outbox := fun W hW => by
    obtain ⟨f, hf⟩ := q_K1.out.below hW
    exact ⟨_, DOutbox.rd.2 ⟨_, _, rfl, rfl, hf⟩⟩
  have HS : ∀ W, Below w.heap.size w W → Reads DOutbox.rep W [.int .i64 y.outbox.device, .int .i64 y.outbox.next, .slice r_a1 y.outbox.writes.length r_c1] y.outbox := fun W hW => by
    obtain ⟨f, hf⟩ := r_K1.out.below hW
    exact ⟨_, DOutbox.rd.2 ⟨_, _, rfl, rfl, hf⟩⟩
  have HR := Lib.hid HR
  have HS := Lib.hid HS
  cases h1 : (x.tries == y.tries) <;> cases h2 : (x.waitUntil == y.waitUntil) <;> cases h3 : equalOutboxesF x.outbox y.outbox
  all_goals
    go_enter Try.func56, Try.ntmps56
    go_wp2_with fail
    refine (implEqualOutboxes _ _ x.outbox y.outbox _ (HR.out _ (by repeat (first | with_reducible exact belR | with_reducible apply belA | (with_reducible refine belS ?_ ?_; focus (first | omega | (simp; done) | (simp; omega))) | with_reducible apply belN | with_reducible apply belD | with_reducible assumption))) (HS.out _ (by repeat (first | with_reducible exact belR | with_reducible apply belA | (with_reducible refine belS ?_ ?_; focus (first | omega | (simp; done) | (simp; omega))) | with_reducible apply belN | with_reducible apply belD | with_reducible assumption)))).mono ?_
    rintro e w1 ⟨rfl, hb⟩
    have ⟨cx, zx, _⟩ : WB w1 w.heap.size #[.int .i64 x.outbox.device, .int .i64 x.outbox.next, .slice q_a1 x.outbox.writes.length q_c1, .int .i64 x.tries, .int .i64 x.waitUntil] := ((WB.at rfl).growA).keep hb
    have ⟨cy, zy, _⟩ : WB w1 (w.heap.size + 1) #[.int .i64 y.outbox.device, .int .i64 y.outbox.next, .slice r_a1 y.outbox.writes.length r_c1, .int .i64 y.tries, .int .i64 y.waitUntil] := (WB.at (by simp)).keep hb
    have HB := Lib.hid (Below.trans (by repeat (first | with_reducible exact belR | with_reducible apply belA | (with_reducible refine belS ?_ ?_; focus (first | omega | (simp; done) | (simp; omega))) | with_reducible apply belN | with_reducible apply belD | with_reducible assumption)) (hb.mono (by first | omega | (simp; done) | (simp; omega))) : Below w.heap.size w w1)
    clear hb
    rw [h3]
    go_wp2
    go_ret
    exact ⟨ret_bool (by simp only [equalSyncsF, h1, h2, h3, Bool.and_false, Bool.false_and, Bool.and_self]), HB.out⟩


set_option maxHeartbeats 800000 in
theorem specEqualSyncs (cs ds : List Value) (x y : DSync) (w : World) (h : Reads DSync.rep w cs x) (h' : Reads DSync.rep w ds y) :
    Calls Try.prog 54 #[.agg cs.toArray, .agg ds.toArray] w fun e w' => e = .returned (.bool (equalSyncsF x y)) ∧ Below w.heap.size w w' := by
  obtain ⟨fp_q, h⟩ := h
  obtain ⟨q_v1, q_f1, rfl, _, q_r1⟩ := DSync.rd.1 h
  obtain ⟨q_a1, q_c1, rfl, q_hm1, q_lc1, q_hu1⟩ := slice_open q_r1; clear q_hu1
  have q_K1 : Hid (Reads (Rep.slice 72 DWrite.rep) w [.slice q_a1 x.outbox.writes.length q_c1] x.outbox.writes) := ⟨_, q_r1⟩
  clear q_r1 h
  obtain ⟨fp_r, h'⟩ := h'
  obtain ⟨r_v1, r_f1, rfl, _, r_r1⟩ := DSync.rd.1 h'
  obtain ⟨r_a1, r_c1, rfl, r_hm1, r_lc1, r_hu1⟩ := slice_open r_r1; clear r_hu1
  have r_K1 : Hid (Reads (Rep.slice 72 DWrite.rep) w [.slice r_a1 y.outbox.writes.length r_c1] y.outbox.writes) := ⟨_, r_r1⟩
  clear r_r1 h'
  have HR : ∀ W, Below w.heap.size w W → Reads DOutbox.rep W [.int .i64 x.outbox.device, .int .i64 x.outbox.next, .slice q_a1 x.outbox.writes.length q_c1] x.outbox := fun W hW => by
    obtain ⟨f, hf⟩ := q_K1.out.below hW
    exact ⟨_, DOutbox.rd.2 ⟨_, _, rfl, rfl, hf⟩⟩
  have HS : ∀ W, Below w.heap.size w W → Reads DOutbox.rep W [.int .i64 y.outbox.device, .int .i64 y.outbox.next, .slice r_a1 y.outbox.writes.length r_c1] y.outbox := fun W hW => by
    obtain ⟨f, hf⟩ := r_K1.out.below hW
    exact ⟨_, DOutbox.rd.2 ⟨_, _, rfl, rfl, hf⟩⟩
  have HR := Lib.hid HR
  have HS := Lib.hid HS
  cases h1 : (x.tries == y.tries) <;> cases h2 : (x.waitUntil == y.waitUntil) <;> cases h3 : equalOutboxesF x.outbox y.outbox
  all_goals
    go_enter Try.func54, Try.ntmps54
    go_wp2_with fail
    refine (specEqualOutboxes _ _ x.outbox y.outbox _ (HR.out _ (by repeat (first | with_reducible exact belR | with_reducible apply belA | (with_reducible refine belS ?_ ?_; focus (first | omega | (simp; done) | (simp; omega))) | with_reducible apply belN | with_reducible apply belD | with_reducible assumption))) (HS.out _ (by repeat (first | with_reducible exact belR | with_reducible apply belA | (with_reducible refine belS ?_ ?_; focus (first | omega | (simp; done) | (simp; omega))) | with_reducible apply belN | with_reducible apply belD | with_reducible assumption)))).mono ?_
    rintro e w1 ⟨rfl, hb⟩
    have ⟨cx, zx, _⟩ : WB w1 w.heap.size #[.int .i64 x.outbox.device, .int .i64 x.outbox.next, .slice q_a1 x.outbox.writes.length q_c1, .int .i64 x.tries, .int .i64 x.waitUntil] := ((WB.at rfl).growA).keep hb
    have ⟨cy, zy, _⟩ : WB w1 (w.heap.size + 1) #[.int .i64 y.outbox.device, .int .i64 y.outbox.next, .slice r_a1 y.outbox.writes.length r_c1, .int .i64 y.tries, .int .i64 y.waitUntil] := (WB.at (by simp)).keep hb
    have HB := Lib.hid (Below.trans (by repeat (first | with_reducible exact belR | with_reducible apply belA | (with_reducible refine belS ?_ ?_; focus (first | omega | (simp; done) | (simp; omega))) | with_reducible apply belN | with_reducible apply belD | with_reducible assumption)) (hb.mono (by first | omega | (simp; done) | (simp; omega))) : Below w.heap.size w w1)
    clear hb
    rw [h3]
    go_wp2
    go_ret
    exact ⟨ret_bool (by simp only [equalSyncsF, h1, h2, h3, Bool.and_false, Bool.false_and, Bool.and_self]), HB.out⟩

end Go.Proofs.Ytjdoofekohjjlaa
