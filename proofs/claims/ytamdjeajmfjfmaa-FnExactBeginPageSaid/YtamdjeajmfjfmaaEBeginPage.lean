/-
  FnExactBeginPage: the law's walk, and its row, off the contracts of impl.BeginPage and spec.BeginPage.
-/
import Derived.Test.YtamdjeajmfjfmaaLInstr
import Derived.Test.YtamdjeajmfjfmaaLPage
import Derived.Test.YtamdjeajmfjfmaaBase
import Derived.Test.YtamdjeajmfjfmaaTrod5
namespace Go.Proofs.Ytamdjeajmfjfmaa
open Go.RowKit Go.ChangeShapes

/-- What impl.BeginPage and spec.BeginPage are both shown to compute. -/
def SaidBeginPage (f0 : Int → ByteArray → ByteArray → Int → (List DInstr) → DPage) (f1 : Int → ByteArray → ByteArray → Int → (List DInstr) → Bool) (f : FuncId) : Prop :=
  ∀ (a0 : Int) (a1 : ByteArray) (a2 : ByteArray) (a3 : Int) (c4 : Value) (a4 : List DInstr) (w : World) (_h4 : Reads (Rep.slice 113 DInstr.rep) w [c4] a4)(_s0 : a1.size ≤ 1048576) (_s1 : a2.size ≤ 1048576) (_s2 : wtS DInstr.wt a4 ≤ 1048576), Calls Try.prog f #[.int .i64 a0, .string a1, .string a2, .int .i64 a3, c4] w fun e w' => ∃ (d0 : List Value), e = .returned (.tuple #[.agg d0.toArray, .bool (f1 a0 a1 a2 a3 a4)]) ∧ Fresh DPage.rep w.heap.size w' d0 (f0 a0 a1 a2 a3 a4) ∧ Below w.heap.size w w'

set_option maxRecDepth 100000 in
set_option maxHeartbeats 16000000 in
theorem lawBeginPage (f0 : Int → ByteArray → ByteArray → Int → (List DInstr) → DPage) (f1 : Int → ByteArray → ByteArray → Int → (List DInstr) → Bool) (hS : SaidBeginPage f0 f1 26) (hI : SaidBeginPage f0 f1 28) (hm_g0 : ∀ (a0 : Int) (a1 : ByteArray) (a2 : ByteArray) (a3 : Int) (a4 : List DInstr), a1.size ≤ 1048576 → a2.size ≤ 1048576 → wtS DInstr.wt a4 ≤ 1048576 → ((f0 a0 a1 a2 a3 a4)).mcnt ≤ 400000000) (hm_x4 : ∀ (a4 : List DInstr), wtS DInstr.wt a4 ≤ 1048576 → wtT DInstr.cnt a4 (a4).length ≤ 400000000) (a0 : Int) (a1 : ByteArray) (a2 : ByteArray) (a3 : Int) (c4 : Value) (a4 : List DInstr) (w : World) (h4 : Reads (Rep.slice 113 DInstr.rep) w [c4] a4) (hz1 : a1.size ≤ maxLen) (hz2 : a2.size ≤ maxLen) :
    Calls Try.prog 5 #[.int .i64 a0, .string a1, .string a2, .int .i64 a3, c4] w fun e w' => e = .returned (.bool true) ∧ Below w.heap.size w w' := by
  have HA4 := Lib.hid (Low.start h4)
  obtain ⟨fp, hr⟩ := h4
  obtain ⟨ao4, cap4, rfl, hl4, _, _⟩ := slice_open hr
  clear hr
  unfold maxLen at hz1
  unfold maxLen at hz2
  have HB : Hid (Below w.heap.size w w) := Lib.hid belR
  by_cases hg_aSite : ¬ a1.size ≤ 1048576
  · go_enter Try.func5, Try.ntmps5
    go_wp2
    all_goals first | (go_ret; exact ⟨rfl, (by repeat (first | with_reducible exact belR | with_reducible apply belA | (with_reducible refine belS ?_ ?_; focus (first | omega | (simp; done) | (simp; omega))) | with_reducible apply belN | with_reducible apply belD | with_reducible assumption))⟩) | (exfalso; omega)
  rw [Decidable.not_not] at hg_aSite
  by_cases hg_aTop : ¬ a2.size ≤ 1048576
  · go_enter Try.func5, Try.ntmps5
    go_wp2
    all_goals first | (go_ret; exact ⟨rfl, (by repeat (first | with_reducible exact belR | with_reducible apply belA | (with_reducible refine belS ?_ ?_; focus (first | omega | (simp; done) | (simp; omega))) | with_reducible apply belN | with_reducible apply belD | with_reducible assumption))⟩) | (exfalso; omega)
  rw [Decidable.not_not] at hg_aTop
  go_enter Try.func5, Try.ntmps5
  go_wp2_with fail
  refine (szInstrS _ a4 (1048576) _ (HA4.out.reads.below (by repeat (first | with_reducible exact belR | with_reducible apply belA | (with_reducible refine belS ?_ ?_; focus (first | omega | (simp; done) | (simp; omega))) | with_reducible apply belN | with_reducible apply belD | with_reducible assumption))) (by omega) (by omega)).mono ?_
  rintro e w1 ⟨rfl, hb⟩
  have hw : Below w.heap.size w w1 := below_call (by repeat (first | with_reducible exact belR | with_reducible apply belA | (with_reducible refine belS ?_ ?_; focus (first | omega | (simp; done) | (simp; omega))) | with_reducible apply belN | with_reducible apply belD | with_reducible assumption)) (by first | omega | (simp; done) | (simp; omega)) hb
  have hsw1 : w.heap.size ≤ w1.heap.size := by have y := hb.size; (try simp at y); omega
  replace HA4 := Lib.hid (HA4.out.below hw)
  replace HB := Lib.hid (below_call HB.out HB.out.size hw)
  clear hw
  clear hb
  have hz := szOf_spec (wtS DInstr.wt a4) (1048576)
  by_cases hv_aScript : ¬ ((wtS DInstr.wt a4 : Nat) : Int) ≤ 1048576
  · rw [hz.2 hv_aScript]; clear hz
    go_wp2
    all_goals go_ret
    have y := HB.out
    exact ⟨rfl, (by repeat (first | with_reducible exact belR | with_reducible apply belA | (with_reducible refine belS ?_ ?_; focus (first | omega | (simp; done) | (simp; omega))) | with_reducible apply belN | with_reducible apply belD | with_reducible assumption))⟩
  rw [Decidable.not_not] at hv_aScript
  rw [hz.1 hv_aScript]; clear hz
  go_wp2_with fail
  refine (toInstrS _ a4 _ (HA4.out.reads.below (by repeat (first | with_reducible exact belR | with_reducible apply belA | (with_reducible refine belS ?_ ?_; focus (first | omega | (simp; done) | (simp; omega))) | with_reducible apply belN | with_reducible apply belD | with_reducible assumption))) (by first | omega | exact hv_aScript)).mono ?_
  rintro e w2 ⟨d_w0_aScript, rfl, hf, hb⟩
  obtain ⟨ao_w0_aScript, cap_w0_aScript, rfl⟩ := Fresh.slice hf
  obtain ⟨fp__w0_aScript, o__w0_aScript⟩ := Fresh.own hf (lo := w1.heap.size) (by first | omega | (simp; done) | (simp; omega))
  have H__w0_aScript := Lib.hid o__w0_aScript; clear o__w0_aScript
  have hw : Below w1.heap.size w1 w2 := below_call (by repeat (first | with_reducible exact belR | with_reducible apply belA | (with_reducible refine belS ?_ ?_; focus (first | omega | (simp; done) | (simp; omega))) | with_reducible apply belN | with_reducible apply belD | with_reducible assumption)) (by first | omega | (simp; done) | (simp; omega)) hb
  have hsw2 : w1.heap.size ≤ w2.heap.size := by have y := hb.size; (try simp at y); omega
  replace HA4 := Lib.hid (HA4.out.below hw)
  replace HB := Lib.hid (below_call HB.out HB.out.size hw)
  clear hw
  clear hb hf
  go_wp2_with fail
  refine (hS a0 a1 a2 a3 _ a4 _ (H__w0_aScript.out.reads.below (by repeat (first | with_reducible exact belR | with_reducible apply belA | (with_reducible refine belS ?_ ?_; focus (first | omega | (simp; done) | (simp; omega))) | with_reducible apply belN | with_reducible apply belD | with_reducible assumption))) (by first | omega | exact hg_aSite) (by first | omega | exact hg_aTop) (by first | omega | exact hv_aScript)).mono ?_
  rintro e w3 ⟨d_w_0, rfl, hf0, hb⟩
  obtain ⟨ao_w0_0, cap_w0_0, ao_w0_1, cap_w0_1, ao_w0_2, cap_w0_2, rfl⟩ := DPage.fshape hf0
  obtain ⟨fp_w0, o_w0⟩ := Fresh.own hf0 (lo := w2.heap.size) (by first | omega | (simp; done) | (simp; omega))
  have H_w0 := Lib.hid o_w0; clear o_w0
  have hw : Below w2.heap.size w2 w3 := below_call (by repeat (first | with_reducible exact belR | with_reducible apply belA | (with_reducible refine belS ?_ ?_; focus (first | omega | (simp; done) | (simp; omega))) | with_reducible apply belN | with_reducible apply belD | with_reducible assumption)) (by first | omega | (simp; done) | (simp; omega)) hb
  have hsw3 : w2.heap.size ≤ w3.heap.size := by have y := hb.size; (try simp at y); omega
  replace HA4 := Lib.hid (HA4.out.below hw)
  replace H__w0_aScript := Lib.hid (H__w0_aScript.out.below hw)
  replace HB := Lib.hid (below_call HB.out HB.out.size hw)
  clear hw
  clear hb
  clear H__w0_aScript
  go_wp2_with fail
  refine (toInstrS _ a4 _ (HA4.out.reads.below (by repeat (first | with_reducible exact belR | with_reducible apply belA | (with_reducible refine belS ?_ ?_; focus (first | omega | (simp; done) | (simp; omega))) | with_reducible apply belN | with_reducible apply belD | with_reducible assumption))) (by first | omega | exact hv_aScript)).mono ?_
  rintro e w4 ⟨d_x4, rfl, hf, hb⟩
  obtain ⟨ao_x4, cap_x4, rfl⟩ := Fresh.slice hf
  obtain ⟨fp_x4, o_x4⟩ := Fresh.own hf (lo := w3.heap.size + 1) (by first | omega | (simp; done) | (simp; omega))
  have H_x4 := Lib.hid o_x4; clear o_x4
  have hw : Below w3.heap.size w3 w4 := below_call (by repeat (first | with_reducible exact belR | with_reducible apply belA | (with_reducible refine belS ?_ ?_; focus (first | omega | (simp; done) | (simp; omega))) | with_reducible apply belN | with_reducible apply belD | with_reducible assumption)) (by first | omega | (simp; done) | (simp; omega)) hb
  have hsw4 : w3.heap.size + 1 ≤ w4.heap.size := by have y := hb.size; (try simp at y); omega
  have HX_w0 : Hid (Box w4 (w3.heap.size) #[.int .i64 ((f0 a0 a1 a2 a3 a4)).id, .string ((f0 a0 a1 a2 a3 a4)).site, .string ((f0 a0 a1 a2 a3 a4)).top, .int .i64 ((f0 a0 a1 a2 a3 a4)).version, .slice ao_w0_0 ((f0 a0 a1 a2 a3 a4)).loaded.length cap_w0_0, .slice ao_w0_1 ((f0 a0 a1 a2 a3 a4)).machine.script.length cap_w0_1, .int .i64 ((f0 a0 a1 a2 a3 a4)).machine.pc, .slice ao_w0_2 ((f0 a0 a1 a2 a3 a4)).machine.regs.length cap_w0_2, .int .i64 ((f0 a0 a1 a2 a3 a4)).machine.steps, .bool ((f0 a0 a1 a2 a3 a4)).machine.done, .bool ((f0 a0 a1 a2 a3 a4)).machine.wait]) := Lib.hid (Box.below (Box.at (by first | rfl | simp)) hb)
  have ⟨cx_w0, zx_w0⟩ := HX_w0.out
  replace HA4 := Lib.hid (HA4.out.below hw)
  replace H_w0 := Lib.hid (H_w0.out.below hw)
  replace HB := Lib.hid (below_call HB.out HB.out.size hw)
  clear hw
  clear hb hf
  go_wp2_with fail
  refine (hI a0 a1 a2 a3 _ a4 _ (H_x4.out.reads.below (by repeat (first | with_reducible exact belR | with_reducible apply belA | (with_reducible refine belS ?_ ?_; focus (first | omega | (simp; done) | (simp; omega))) | with_reducible apply belN | with_reducible apply belD | with_reducible assumption))) (by first | omega | exact hg_aSite) (by first | omega | exact hg_aTop) (by first | omega | exact hv_aScript)).mono ?_
  rintro e w5 ⟨d_g_0, rfl, hf0, hb⟩
  obtain ⟨ao_g0_0, cap_g0_0, ao_g0_1, cap_g0_1, ao_g0_2, cap_g0_2, rfl⟩ := DPage.fshape hf0
  obtain ⟨fp_g0, o_g0⟩ := Fresh.own hf0 (lo := w4.heap.size) (by first | omega | (simp; done) | (simp; omega))
  have H_g0 := Lib.hid o_g0; clear o_g0
  have hw : Below w4.heap.size w4 w5 := below_call (by repeat (first | with_reducible exact belR | with_reducible apply belA | (with_reducible refine belS ?_ ?_; focus (first | omega | (simp; done) | (simp; omega))) | with_reducible apply belN | with_reducible apply belD | with_reducible assumption)) (by first | omega | (simp; done) | (simp; omega)) hb
  have hsw5 : w4.heap.size ≤ w5.heap.size := by have y := hb.size; (try simp at y); omega
  clear cx_w0 zx_w0
  replace HX_w0 := Lib.hid (HX_w0.out.below hw)
  have ⟨cx_w0, zx_w0⟩ := HX_w0.out
  replace HA4 := Lib.hid (HA4.out.below hw)
  replace H_w0 := Lib.hid (H_w0.out.below hw)
  replace H_x4 := Lib.hid (H_x4.out.below hw)
  replace HB := Lib.hid (below_call HB.out HB.out.size hw)
  clear hw
  clear hb
  go_wp2_with fail
  refine (eqPage _ _ (f0 a0 a1 a2 a3 a4) _ (H_g0.out.reads.below (by repeat (first | with_reducible exact belR | with_reducible apply belA | (with_reducible refine belS ?_ ?_; focus (first | omega | (simp; done) | (simp; omega))) | with_reducible apply belN | with_reducible apply belD | with_reducible assumption))) (H_w0.out.reads.below (by repeat (first | with_reducible exact belR | with_reducible apply belA | (with_reducible refine belS ?_ ?_; focus (first | omega | (simp; done) | (simp; omega))) | with_reducible apply belN | with_reducible apply belD | with_reducible assumption)))).mono ?_
  rintro e w6 ⟨rfl, hb⟩
  have hw : Below w5.heap.size w5 w6 := below_call (by repeat (first | with_reducible exact belR | with_reducible apply belA | (with_reducible refine belS ?_ ?_; focus (first | omega | (simp; done) | (simp; omega))) | with_reducible apply belN | with_reducible apply belD | with_reducible assumption)) (by first | omega | (simp; done) | (simp; omega)) hb
  have hsw6 : w5.heap.size + 1 ≤ w6.heap.size := by have y := hb.size; (try simp at y); omega
  clear cx_w0 zx_w0
  replace HX_w0 := Lib.hid (HX_w0.out.below hw)
  have HX_g0 : Hid (Box w6 (w5.heap.size) #[.int .i64 ((f0 a0 a1 a2 a3 a4)).id, .string ((f0 a0 a1 a2 a3 a4)).site, .string ((f0 a0 a1 a2 a3 a4)).top, .int .i64 ((f0 a0 a1 a2 a3 a4)).version, .slice ao_g0_0 ((f0 a0 a1 a2 a3 a4)).loaded.length cap_g0_0, .slice ao_g0_1 ((f0 a0 a1 a2 a3 a4)).machine.script.length cap_g0_1, .int .i64 ((f0 a0 a1 a2 a3 a4)).machine.pc, .slice ao_g0_2 ((f0 a0 a1 a2 a3 a4)).machine.regs.length cap_g0_2, .int .i64 ((f0 a0 a1 a2 a3 a4)).machine.steps, .bool ((f0 a0 a1 a2 a3 a4)).machine.done, .bool ((f0 a0 a1 a2 a3 a4)).machine.wait]) := Lib.hid (Box.below (Box.at (by first | rfl | simp)) hb)
  have ⟨cx_w0, zx_w0⟩ := HX_w0.out
  have ⟨cx_g0, zx_g0⟩ := HX_g0.out
  replace HA4 := Lib.hid (HA4.out.below hw)
  replace H_w0 := Lib.hid (H_w0.out.below hw)
  replace H_x4 := Lib.hid (H_x4.out.below hw)
  replace H_g0 := Lib.hid (H_g0.out.below hw)
  replace HB := Lib.hid (below_call HB.out HB.out.size hw)
  clear hw
  clear hb
  go_wp2_with fail
  refine (toInstrS _ a4 _ (HA4.out.reads.below (by repeat (first | with_reducible exact belR | with_reducible apply belA | (with_reducible refine belS ?_ ?_; focus (first | omega | (simp; done) | (simp; omega))) | with_reducible apply belN | with_reducible apply belD | with_reducible assumption))) (by first | omega | exact hv_aScript)).mono ?_
  rintro e w7 ⟨d_x4_17, rfl, hf, hb⟩
  obtain ⟨ao_x4_17, cap_x4_17, rfl⟩ := Fresh.slice hf
  obtain ⟨fp__x4_17, o__x4_17⟩ := Fresh.own hf (lo := w6.heap.size) (by first | omega | (simp; done) | (simp; omega))
  have H__x4_17 := Lib.hid o__x4_17; clear o__x4_17
  have hw : Below w6.heap.size w6 w7 := below_call (by repeat (first | with_reducible exact belR | with_reducible apply belA | (with_reducible refine belS ?_ ?_; focus (first | omega | (simp; done) | (simp; omega))) | with_reducible apply belN | with_reducible apply belD | with_reducible assumption)) (by first | omega | (simp; done) | (simp; omega)) hb
  have hsw7 : w6.heap.size ≤ w7.heap.size := by have y := hb.size; (try simp at y); omega
  clear cx_w0 zx_w0
  replace HX_w0 := Lib.hid (HX_w0.out.below hw)
  clear cx_g0 zx_g0
  replace HX_g0 := Lib.hid (HX_g0.out.below hw)
  have ⟨cx_w0, zx_w0⟩ := HX_w0.out
  have ⟨cx_g0, zx_g0⟩ := HX_g0.out
  replace HA4 := Lib.hid (HA4.out.below hw)
  replace H_w0 := Lib.hid (H_w0.out.below hw)
  replace H_x4 := Lib.hid (H_x4.out.below hw)
  replace H_g0 := Lib.hid (H_g0.out.below hw)
  replace HB := Lib.hid (below_call HB.out HB.out.size hw)
  clear hw
  clear hb hf
  go_wp2_with fail
  refine (eqInstrS _ _ a4 _ (H_x4.out.reads.below (by repeat (first | with_reducible exact belR | with_reducible apply belA | (with_reducible refine belS ?_ ?_; focus (first | omega | (simp; done) | (simp; omega))) | with_reducible apply belN | with_reducible apply belD | with_reducible assumption))) (H__x4_17.out.reads.below (by repeat (first | with_reducible exact belR | with_reducible apply belA | (with_reducible refine belS ?_ ?_; focus (first | omega | (simp; done) | (simp; omega))) | with_reducible apply belN | with_reducible apply belD | with_reducible assumption)))).mono ?_
  rintro e w8 ⟨rfl, hb⟩
  have hw : Below w7.heap.size w7 w8 := below_call (by repeat (first | with_reducible exact belR | with_reducible apply belA | (with_reducible refine belS ?_ ?_; focus (first | omega | (simp; done) | (simp; omega))) | with_reducible apply belN | with_reducible apply belD | with_reducible assumption)) (by first | omega | (simp; done) | (simp; omega)) hb
  have hsw8 : w7.heap.size ≤ w8.heap.size := by have y := hb.size; (try simp at y); omega
  clear cx_w0 zx_w0
  replace HX_w0 := Lib.hid (HX_w0.out.below hw)
  clear cx_g0 zx_g0
  replace HX_g0 := Lib.hid (HX_g0.out.below hw)
  have ⟨cx_w0, zx_w0⟩ := HX_w0.out
  have ⟨cx_g0, zx_g0⟩ := HX_g0.out
  replace HA4 := Lib.hid (HA4.out.below hw)
  replace H_w0 := Lib.hid (H_w0.out.below hw)
  replace H_x4 := Lib.hid (H_x4.out.below hw)
  replace H_g0 := Lib.hid (H_g0.out.below hw)
  replace H__x4_17 := Lib.hid (H__x4_17.out.below hw)
  replace HB := Lib.hid (below_call HB.out HB.out.size hw)
  clear hw
  clear hb
  clear H__x4_17
  go_wp2_with fail
  have hk_x4 := (hm_x4 a4 (by first | omega | exact hv_aScript))
  refine (markInstrS _ a4 fp_x4 (1) _ H_x4.out.rd H_x4.out.nodup (by omega)).mono ?_
  rintro e w9 ⟨rfl, hrd, hc⟩
  have hnew := Own.mk hrd H_x4.out.nodup (H_x4.out.ivl)
  have hq := H_x4.out.ivl
  have hsw9 : w8.heap.size ≤ w9.heap.size := hc.size
  clear cx_w0 zx_w0
  replace HX_w0 := Lib.hid (HX_w0.out.chg hc hq (by omega))
  clear cx_g0 zx_g0
  replace HX_g0 := Lib.hid (HX_g0.out.chg hc hq (by omega))
  have ⟨cx_w0, zx_w0⟩ := HX_w0.out
  have ⟨cx_g0, zx_g0⟩ := HX_g0.out
  replace HA4 := Lib.hid (HA4.out.chg hc hq (by omega))
  replace H_w0 := Lib.hid (H_w0.out.chg hc (Own.apart H_w0.out H_x4.out (by omega)))
  replace H_g0 := Lib.hid (H_g0.out.chg hc (Own.apart H_g0.out H_x4.out (by omega)))
  replace HB := Lib.hid (Below.chg HB.out hc hq (by omega) HB.out.size)
  clear hq
  replace H_x4 := Lib.hid hnew; clear hnew hrd hc
  go_wp2_with fail
  refine (eqPage _ _ (f0 a0 a1 a2 a3 a4) _ (H_g0.out.reads.below (by repeat (first | with_reducible exact belR | with_reducible apply belA | (with_reducible refine belS ?_ ?_; focus (first | omega | (simp; done) | (simp; omega))) | with_reducible apply belN | with_reducible apply belD | with_reducible assumption))) (H_w0.out.reads.below (by repeat (first | with_reducible exact belR | with_reducible apply belA | (with_reducible refine belS ?_ ?_; focus (first | omega | (simp; done) | (simp; omega))) | with_reducible apply belN | with_reducible apply belD | with_reducible assumption)))).mono ?_
  rintro e w10 ⟨rfl, hb⟩
  have hw : Below w9.heap.size w9 w10 := below_call (by repeat (first | with_reducible exact belR | with_reducible apply belA | (with_reducible refine belS ?_ ?_; focus (first | omega | (simp; done) | (simp; omega))) | with_reducible apply belN | with_reducible apply belD | with_reducible assumption)) (by first | omega | (simp; done) | (simp; omega)) hb
  have hsw10 : w9.heap.size ≤ w10.heap.size := by have y := hb.size; (try simp at y); omega
  clear cx_w0 zx_w0
  replace HX_w0 := Lib.hid (HX_w0.out.below hw)
  clear cx_g0 zx_g0
  replace HX_g0 := Lib.hid (HX_g0.out.below hw)
  have ⟨cx_w0, zx_w0⟩ := HX_w0.out
  have ⟨cx_g0, zx_g0⟩ := HX_g0.out
  replace HA4 := Lib.hid (HA4.out.below hw)
  replace H_w0 := Lib.hid (H_w0.out.below hw)
  replace H_x4 := Lib.hid (H_x4.out.below hw)
  replace H_g0 := Lib.hid (H_g0.out.below hw)
  replace HB := Lib.hid (below_call HB.out HB.out.size hw)
  clear hw
  clear hb
  go_wp2_with fail
  have hk_g0 := (hm_g0 a0 a1 a2 a3 a4 (by first | omega | exact hg_aSite) (by first | omega | exact hg_aTop) (by first | omega | exact hv_aScript))
  refine (markPage _ (f0 a0 a1 a2 a3 a4) fp_g0 (1) _ H_g0.out.rd H_g0.out.nodup (by omega)).mono ?_
  rintro e w11 ⟨rfl, hrd, hc⟩
  have hnew := Own.mk hrd H_g0.out.nodup (H_g0.out.ivl)
  have hq := H_g0.out.ivl
  have hsw11 : w10.heap.size ≤ w11.heap.size := hc.size
  clear cx_w0 zx_w0
  replace HX_w0 := Lib.hid (HX_w0.out.chg hc hq (by omega))
  clear cx_g0 zx_g0
  replace HX_g0 := Lib.hid (HX_g0.out.chg hc hq (by omega))
  have ⟨cx_w0, zx_w0⟩ := HX_w0.out
  have ⟨cx_g0, zx_g0⟩ := HX_g0.out
  replace HA4 := Lib.hid (HA4.out.chg hc hq (by omega))
  replace H_w0 := Lib.hid (H_w0.out.chg hc (Own.apart H_w0.out H_g0.out (by omega)))
  replace H_x4 := Lib.hid (H_x4.out.chg hc (Own.apart H_x4.out H_g0.out (by omega)))
  replace HB := Lib.hid (Below.chg HB.out hc hq (by omega) HB.out.size)
  clear hq
  replace H_g0 := Lib.hid hnew; clear hnew hrd hc
  go_wp2_with fail
  refine (heldPage _ (f0 a0 a1 a2 a3 a4) (1) _ (H_g0.out.reads.below (by repeat (first | with_reducible exact belR | with_reducible apply belA | (with_reducible refine belS ?_ ?_; focus (first | omega | (simp; done) | (simp; omega))) | with_reducible apply belN | with_reducible apply belD | with_reducible assumption))) (by omega)).mono ?_
  rintro e w12 ⟨rfl, hb⟩
  have hw : Below w11.heap.size w11 w12 := below_call (by repeat (first | with_reducible exact belR | with_reducible apply belA | (with_reducible refine belS ?_ ?_; focus (first | omega | (simp; done) | (simp; omega))) | with_reducible apply belN | with_reducible apply belD | with_reducible assumption)) (by first | omega | (simp; done) | (simp; omega)) hb
  have hsw12 : w11.heap.size ≤ w12.heap.size := by have y := hb.size; (try simp at y); omega
  clear cx_w0 zx_w0
  replace HX_w0 := Lib.hid (HX_w0.out.below hw)
  clear cx_g0 zx_g0
  replace HX_g0 := Lib.hid (HX_g0.out.below hw)
  have ⟨cx_w0, zx_w0⟩ := HX_w0.out
  have ⟨cx_g0, zx_g0⟩ := HX_g0.out
  replace HA4 := Lib.hid (HA4.out.below hw)
  replace H_w0 := Lib.hid (H_w0.out.below hw)
  replace H_x4 := Lib.hid (H_x4.out.below hw)
  replace H_g0 := Lib.hid (H_g0.out.below hw)
  replace HB := Lib.hid (below_call HB.out HB.out.size hw)
  clear hw
  clear hb
  go_wp2_with fail
  refine (toInstrS _ a4 _ (HA4.out.reads.below (by repeat (first | with_reducible exact belR | with_reducible apply belA | (with_reducible refine belS ?_ ?_; focus (first | omega | (simp; done) | (simp; omega))) | with_reducible apply belN | with_reducible apply belD | with_reducible assumption))) (by first | omega | exact hv_aScript)).mono ?_
  rintro e w13 ⟨d_h0_aScript, rfl, hf, hb⟩
  obtain ⟨ao_h0_aScript, cap_h0_aScript, rfl⟩ := Fresh.slice hf
  obtain ⟨fp__h0_aScript, o__h0_aScript⟩ := Fresh.own hf (lo := w12.heap.size) (by first | omega | (simp; done) | (simp; omega))
  have H__h0_aScript := Lib.hid o__h0_aScript; clear o__h0_aScript
  have hw : Below w12.heap.size w12 w13 := below_call (by repeat (first | with_reducible exact belR | with_reducible apply belA | (with_reducible refine belS ?_ ?_; focus (first | omega | (simp; done) | (simp; omega))) | with_reducible apply belN | with_reducible apply belD | with_reducible assumption)) (by first | omega | (simp; done) | (simp; omega)) hb
  have hsw13 : w12.heap.size ≤ w13.heap.size := by have y := hb.size; (try simp at y); omega
  clear cx_w0 zx_w0
  replace HX_w0 := Lib.hid (HX_w0.out.below hw)
  clear cx_g0 zx_g0
  replace HX_g0 := Lib.hid (HX_g0.out.below hw)
  have ⟨cx_w0, zx_w0⟩ := HX_w0.out
  have ⟨cx_g0, zx_g0⟩ := HX_g0.out
  replace HA4 := Lib.hid (HA4.out.below hw)
  replace H_w0 := Lib.hid (H_w0.out.below hw)
  replace H_x4 := Lib.hid (H_x4.out.below hw)
  replace H_g0 := Lib.hid (H_g0.out.below hw)
  replace HB := Lib.hid (below_call HB.out HB.out.size hw)
  clear hw
  clear hb hf
  go_wp2_with fail
  refine (hI a0 a1 a2 a3 _ a4 _ (H__h0_aScript.out.reads.below (by repeat (first | with_reducible exact belR | with_reducible apply belA | (with_reducible refine belS ?_ ?_; focus (first | omega | (simp; done) | (simp; omega))) | with_reducible apply belN | with_reducible apply belD | with_reducible assumption))) (by first | omega | exact hg_aSite) (by first | omega | exact hg_aTop) (by first | omega | exact hv_aScript)).mono ?_
  rintro e w14 ⟨d_h_0, rfl, hf0, hb⟩
  obtain ⟨ao_h0_0, cap_h0_0, ao_h0_1, cap_h0_1, ao_h0_2, cap_h0_2, rfl⟩ := DPage.fshape hf0
  obtain ⟨fp_h0, o_h0⟩ := Fresh.own hf0 (lo := w13.heap.size) (by first | omega | (simp; done) | (simp; omega))
  have H_h0 := Lib.hid o_h0; clear o_h0
  have hw : Below w13.heap.size w13 w14 := below_call (by repeat (first | with_reducible exact belR | with_reducible apply belA | (with_reducible refine belS ?_ ?_; focus (first | omega | (simp; done) | (simp; omega))) | with_reducible apply belN | with_reducible apply belD | with_reducible assumption)) (by first | omega | (simp; done) | (simp; omega)) hb
  have hsw14 : w13.heap.size ≤ w14.heap.size := by have y := hb.size; (try simp at y); omega
  clear cx_w0 zx_w0
  replace HX_w0 := Lib.hid (HX_w0.out.below hw)
  clear cx_g0 zx_g0
  replace HX_g0 := Lib.hid (HX_g0.out.below hw)
  have ⟨cx_w0, zx_w0⟩ := HX_w0.out
  have ⟨cx_g0, zx_g0⟩ := HX_g0.out
  replace HA4 := Lib.hid (HA4.out.below hw)
  replace H_w0 := Lib.hid (H_w0.out.below hw)
  replace H_x4 := Lib.hid (H_x4.out.below hw)
  replace H_g0 := Lib.hid (H_g0.out.below hw)
  replace H__h0_aScript := Lib.hid (H__h0_aScript.out.below hw)
  replace HB := Lib.hid (below_call HB.out HB.out.size hw)
  clear hw
  clear hb
  clear H__h0_aScript
  go_wp2_with fail
  refine (eqPage _ _ (f0 a0 a1 a2 a3 a4) _ (H_h0.out.reads.below (by repeat (first | with_reducible exact belR | with_reducible apply belA | (with_reducible refine belS ?_ ?_; focus (first | omega | (simp; done) | (simp; omega))) | with_reducible apply belN | with_reducible apply belD | with_reducible assumption))) (H_w0.out.reads.below (by repeat (first | with_reducible exact belR | with_reducible apply belA | (with_reducible refine belS ?_ ?_; focus (first | omega | (simp; done) | (simp; omega))) | with_reducible apply belN | with_reducible apply belD | with_reducible assumption)))).mono ?_
  rintro e w15 ⟨rfl, hb⟩
  have hw : Below w14.heap.size w14 w15 := below_call (by repeat (first | with_reducible exact belR | with_reducible apply belA | (with_reducible refine belS ?_ ?_; focus (first | omega | (simp; done) | (simp; omega))) | with_reducible apply belN | with_reducible apply belD | with_reducible assumption)) (by first | omega | (simp; done) | (simp; omega)) hb
  have hsw15 : w14.heap.size + 1 ≤ w15.heap.size := by have y := hb.size; (try simp at y); omega
  clear cx_w0 zx_w0
  replace HX_w0 := Lib.hid (HX_w0.out.below hw)
  clear cx_g0 zx_g0
  replace HX_g0 := Lib.hid (HX_g0.out.below hw)
  have HX_h0 : Hid (Box w15 (w14.heap.size) #[.int .i64 ((f0 a0 a1 a2 a3 a4)).id, .string ((f0 a0 a1 a2 a3 a4)).site, .string ((f0 a0 a1 a2 a3 a4)).top, .int .i64 ((f0 a0 a1 a2 a3 a4)).version, .slice ao_h0_0 ((f0 a0 a1 a2 a3 a4)).loaded.length cap_h0_0, .slice ao_h0_1 ((f0 a0 a1 a2 a3 a4)).machine.script.length cap_h0_1, .int .i64 ((f0 a0 a1 a2 a3 a4)).machine.pc, .slice ao_h0_2 ((f0 a0 a1 a2 a3 a4)).machine.regs.length cap_h0_2, .int .i64 ((f0 a0 a1 a2 a3 a4)).machine.steps, .bool ((f0 a0 a1 a2 a3 a4)).machine.done, .bool ((f0 a0 a1 a2 a3 a4)).machine.wait]) := Lib.hid (Box.below (Box.at (by first | rfl | simp)) hb)
  have ⟨cx_w0, zx_w0⟩ := HX_w0.out
  have ⟨cx_g0, zx_g0⟩ := HX_g0.out
  have ⟨cx_h0, zx_h0⟩ := HX_h0.out
  replace HA4 := Lib.hid (HA4.out.below hw)
  replace H_w0 := Lib.hid (H_w0.out.below hw)
  replace H_x4 := Lib.hid (H_x4.out.below hw)
  replace H_g0 := Lib.hid (H_g0.out.below hw)
  replace H_h0 := Lib.hid (H_h0.out.below hw)
  replace HB := Lib.hid (below_call HB.out HB.out.size hw)
  clear hw
  clear hb
  go_wp2_with fail
  refine (heldPage _ (f0 a0 a1 a2 a3 a4) (1) _ (H_g0.out.reads.below (by repeat (first | with_reducible exact belR | with_reducible apply belA | (with_reducible refine belS ?_ ?_; focus (first | omega | (simp; done) | (simp; omega))) | with_reducible apply belN | with_reducible apply belD | with_reducible assumption))) (by omega)).mono ?_
  rintro e w16 ⟨rfl, hb⟩
  have hw : Below w15.heap.size w15 w16 := below_call (by repeat (first | with_reducible exact belR | with_reducible apply belA | (with_reducible refine belS ?_ ?_; focus (first | omega | (simp; done) | (simp; omega))) | with_reducible apply belN | with_reducible apply belD | with_reducible assumption)) (by first | omega | (simp; done) | (simp; omega)) hb
  have hsw16 : w15.heap.size ≤ w16.heap.size := by have y := hb.size; (try simp at y); omega
  clear cx_w0 zx_w0
  replace HX_w0 := Lib.hid (HX_w0.out.below hw)
  clear cx_g0 zx_g0
  replace HX_g0 := Lib.hid (HX_g0.out.below hw)
  clear cx_h0 zx_h0
  replace HX_h0 := Lib.hid (HX_h0.out.below hw)
  have ⟨cx_w0, zx_w0⟩ := HX_w0.out
  have ⟨cx_g0, zx_g0⟩ := HX_g0.out
  have ⟨cx_h0, zx_h0⟩ := HX_h0.out
  replace HA4 := Lib.hid (HA4.out.below hw)
  replace H_w0 := Lib.hid (H_w0.out.below hw)
  replace H_x4 := Lib.hid (H_x4.out.below hw)
  replace H_g0 := Lib.hid (H_g0.out.below hw)
  replace H_h0 := Lib.hid (H_h0.out.below hw)
  replace HB := Lib.hid (below_call HB.out HB.out.size hw)
  clear hw
  clear hb
  go_wp2_with fail
  go_ret
  have y := HB.out
  exact ⟨rfl, (by repeat (first | with_reducible exact belR | with_reducible apply belA | (with_reducible refine belS ?_ ?_; focus (first | omega | (simp; done) | (simp; omega))) | with_reducible apply belN | with_reducible apply belD | with_reducible assumption))⟩

set_option maxRecDepth 100000 in
set_option maxHeartbeats 1000000 in
theorem beginPage_lifted (f0 : Int → ByteArray → ByteArray → Int → (List DInstr) → DPage) (f1 : Int → ByteArray → ByteArray → Int → (List DInstr) → Bool) (hS : SaidBeginPage f0 f1 26) (hI : SaidBeginPage f0 f1 28) (hm_g0 : ∀ (a0 : Int) (a1 : ByteArray) (a2 : ByteArray) (a3 : Int) (a4 : List DInstr), a1.size ≤ 1048576 → a2.size ≤ 1048576 → wtS DInstr.wt a4 ≤ 1048576 → ((f0 a0 a1 a2 a3 a4)).mcnt ≤ 400000000) (hm_x4 : ∀ (a4 : List DInstr), wtS DInstr.wt a4 ≤ 1048576 → wtT DInstr.cnt a4 (a4).length ≤ 400000000) (os : Os) (started : os.Started) (H : Type) (enc : TypeId × Value → H) :
    ReturnsInHanded {} Try.checked os 5 .any (Rows.fnExactBeginPageSpec.pre6 enc Try.prog Try.f5 Rows.fnExactBeginPageRow.domain false) (Rows.fnExactBeginPageSpec.post enc Try.prog Try.f5 false true false false) := by
  refine law_lift (C := Try.checked) Try.own started (by kernel_rfl) Try.func5 Try.laidOut (by kernel_rfl) rfl Try.underlying4 rfl ?_
    (ChangeSpec.witness6 (enc := enc) (C := Try.checked) false ⟨#[], #[.int .i64 0, .string ByteArray.empty, .string ByteArray.empty, .int .i64 0, .slice none 0 0], []⟩ 8 (by kernel_rfl) (by kernel_rfl) (by kernel_rfl) (by kernel_rfl)) ?_
  · intro ds h
    match ds, h with
    | [_, _, _, _, _], _ => rfl
  · intro W base args ds ps hval hA0
    have hA : DataW.TrodAll enc Try.prog W 0 (fun _ => true) true Try.f5.params.toList args.toList ds ps := hA0
    rw [Try.params5] at hA hval
    obtain ⟨v0, v1, v2, v3, v4, _, _, _, _, _, _, _, _, _, _, rfl, t0, t1, t2, t3, t4⟩ := trodAll_open5 hA
    obtain ⟨a0, rfl⟩ := arg_int Try.underlying3 (hval 0 3 v0 rfl rfl) t0
    obtain ⟨a1, rfl, z1⟩ := arg_str Try.underlying9 (hval 1 9 v1 rfl rfl) t1
    obtain ⟨a2, rfl, z2⟩ := arg_str Try.underlying9 (hval 2 9 v2 rfl rfl) t2
    obtain ⟨a3, rfl⟩ := arg_int Try.underlying3 (hval 3 3 v3 rfl rfl) t3
    obtain ⟨a4, r4⟩ := arg_slice (R := DInstr.rep) (E := 113) Try.underlying48 (opens_slice Try.underlying48 (by kernel_rfl) (by decide) DInstr.opens_laws) (hval 4 48 v4 rfl rfl) t4
    exact lawBeginPage f0 f1 hS hI hm_g0 hm_x4 a0 a1 a2 a3 v4 a4 W r4 z1 z2

theorem beginPage_of (f0 : Int → ByteArray → ByteArray → Int → (List DInstr) → DPage) (f1 : Int → ByteArray → ByteArray → Int → (List DInstr) → Bool) (hS : SaidBeginPage f0 f1 26) (hI : SaidBeginPage f0 f1 28) (hm_g0 : ∀ (a0 : Int) (a1 : ByteArray) (a2 : ByteArray) (a3 : Int) (a4 : List DInstr), a1.size ≤ 1048576 → a2.size ≤ 1048576 → wtS DInstr.wt a4 ≤ 1048576 → ((f0 a0 a1 a2 a3 a4)).mcnt ≤ 400000000) (hm_x4 : ∀ (a4 : List DInstr), wtS DInstr.wt a4 ≤ 1048576 → wtT DInstr.cnt a4 (a4).length ≤ 400000000) : Rows.FnExactBeginPageSaid :=
  OpenClaim.holds_of_wide 5 Try.f5 rfl rfl rfl rfl rfl rfl rfl ⟨rfl, rfl, rfl, rfl, rfl⟩ rfl rfl rfl rfl rfl (by kernel_rfl) Try.func5 (by kernel_rfl)
    (of_decide_eq_true (by kernel_rfl)) (by unfold Func.isWrapper; rw [if_neg (by decide +kernel)]; exact ⟨rfl, rfl⟩)
    (fun os started H enc _ => beginPage_lifted f0 f1 hS hI hm_g0 hm_x4 os started H enc)

end Go.Proofs.Ytamdjeajmfjfmaa
