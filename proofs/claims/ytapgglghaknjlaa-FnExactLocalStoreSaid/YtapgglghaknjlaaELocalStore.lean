/-
  FnExactLocalStore: the law's walk, and its row, off the contracts of impl.LocalStore and spec.LocalStore.
-/
import Derived.Test.YtapgglghaknjlaaLFamB
import Derived.Test.YtapgglghaknjlaaLFamA
import Derived.Test.YtapgglghaknjlaaBase
namespace Go.Proofs.Ytapgglghaknjlaa
open Go.RowKit Go.ChangeShapes

/-- What impl.LocalStore and spec.LocalStore are both shown to compute. -/
def SaidLocalStore (f0 : DReplica → DStore) (f : FuncId) : Prop :=
  ∀ (c0 : List Value) (a0 : DReplica) (w : World) (_h0 : Reads DReplica.rep w c0 a0)(_s0 : (a0).wt ≤ 1048576), Calls Try.prog f #[.agg c0.toArray] w fun e w' => ∃ (d0 : List Value), e = .returned (.agg d0.toArray) ∧ Fresh DStore.rep w.heap.size w' d0 (f0 a0) ∧ Below w.heap.size w w'

set_option maxRecDepth 100000 in
set_option maxHeartbeats 16000000 in
theorem lawLocalStore (f0 : DReplica → DStore) (hS : SaidLocalStore f0 21) (hI : SaidLocalStore f0 23) (hm_g0 : ∀ (a0 : DReplica), (a0).wt ≤ 1048576 → ((f0 a0)).mcnt ≤ 400000000) (hm_x0 : ∀ (a0 : DReplica), (a0).wt ≤ 1048576 → (a0).mcnt ≤ 400000000) (c0 : List Value) (a0 : DReplica) (w : World) (h0 : Reads DReplica.rep w c0 a0)  :
    Calls Try.prog 5 #[.agg c0.toArray] w fun e w' => e = .returned (.bool true) ∧ Below w.heap.size w w' := by
  have HA0 := Lib.hid (Low.start h0)
  obtain ⟨fp, hr⟩ := h0
  obtain ⟨ao0_0, cap0_0, ao0_1, cap0_1, rfl⟩ := DReplica.shape hr
  clear hr
  have HB : Hid (Below w.heap.size w w) := Lib.hid belR
  go_enter Try.func5, Try.ntmps5
  go_wp2_with fail
  refine (szReplica _ a0 (1048576) _ (HA0.out.reads.below (by repeat (first | with_reducible exact belR | with_reducible apply belA | (with_reducible refine belS ?_ ?_; focus (first | omega | (simp; done) | (simp; omega))) | with_reducible apply belN | with_reducible apply belD | with_reducible assumption))) (by omega) (by omega)).mono ?_
  rintro e w1 ⟨rfl, hb⟩
  have hw : Below w.heap.size w w1 := below_call (by repeat (first | with_reducible exact belR | with_reducible apply belA | (with_reducible refine belS ?_ ?_; focus (first | omega | (simp; done) | (simp; omega))) | with_reducible apply belN | with_reducible apply belD | with_reducible assumption)) (by first | omega | (simp; done) | (simp; omega)) hb
  have hsw1 : w.heap.size + 1 ≤ w1.heap.size := by have y := hb.size; (try simp at y); omega
  have HX_aR : Hid (Box w1 (w.heap.size) #[.string a0.base.name, .slice ao0_0 a0.base.items.length cap0_0, .int .i64 a0.base.auto, .int .i64 a0.seen, .int .i64 a0.sync.outbox.device, .int .i64 a0.sync.outbox.next, .slice ao0_1 a0.sync.outbox.writes.length cap0_1, .int .i64 a0.sync.tries, .int .i64 a0.sync.waitUntil]) := Lib.hid (Box.below (Box.at (by first | rfl | simp)) hb)
  have ⟨cx_aR, zx_aR⟩ := HX_aR.out
  replace HA0 := Lib.hid (HA0.out.below hw)
  replace HB := Lib.hid (below_call HB.out HB.out.size hw)
  clear hw
  clear hb
  have hz := szOf_spec ((a0).wt) (1048576)
  by_cases hv_aR : ¬ (((a0).wt : Nat) : Int) ≤ 1048576
  · rw [hz.2 hv_aR]; clear hz
    go_wp2
    all_goals go_ret
    have y := HB.out
    exact ⟨rfl, (by repeat (first | with_reducible exact belR | with_reducible apply belA | (with_reducible refine belS ?_ ?_; focus (first | omega | (simp; done) | (simp; omega))) | with_reducible apply belN | with_reducible apply belD | with_reducible assumption))⟩
  rw [Decidable.not_not] at hv_aR
  rw [hz.1 hv_aR]; clear hz
  go_wp2_with fail
  refine (toReplica _ a0 _ (HA0.out.reads.below (by repeat (first | with_reducible exact belR | with_reducible apply belA | (with_reducible refine belS ?_ ?_; focus (first | omega | (simp; done) | (simp; omega))) | with_reducible apply belN | with_reducible apply belD | with_reducible assumption))) (by first | omega | (simp [DReplica.wt]))).mono ?_
  rintro e w2 ⟨d_w0_aR, rfl, hf, hb⟩
  obtain ⟨ao_w0_aR_0, cap_w0_aR_0, ao_w0_aR_1, cap_w0_aR_1, rfl⟩ := DReplica.fshape hf
  obtain ⟨fp__w0_aR, o__w0_aR⟩ := Fresh.own hf (lo := w1.heap.size) (by first | omega | (simp; done) | (simp; omega))
  have H__w0_aR := Lib.hid o__w0_aR; clear o__w0_aR
  have hw : Below w1.heap.size w1 w2 := below_call (by repeat (first | with_reducible exact belR | with_reducible apply belA | (with_reducible refine belS ?_ ?_; focus (first | omega | (simp; done) | (simp; omega))) | with_reducible apply belN | with_reducible apply belD | with_reducible assumption)) (by first | omega | (simp; done) | (simp; omega)) hb
  have hsw2 : w1.heap.size ≤ w2.heap.size := by have y := hb.size; (try simp at y); omega
  clear cx_aR zx_aR
  replace HX_aR := Lib.hid (HX_aR.out.below hw)
  have ⟨cx_aR, zx_aR⟩ := HX_aR.out
  replace HA0 := Lib.hid (HA0.out.below hw)
  replace HB := Lib.hid (below_call HB.out HB.out.size hw)
  clear hw
  clear hb hf
  go_wp2_with fail
  refine (hS _ a0 _ (H__w0_aR.out.reads.below (by repeat (first | with_reducible exact belR | with_reducible apply belA | (with_reducible refine belS ?_ ?_; focus (first | omega | (simp; done) | (simp; omega))) | with_reducible apply belN | with_reducible apply belD | with_reducible assumption))) (by first | omega | exact hv_aR)).mono ?_
  rintro e w3 ⟨d_w_0, rfl, hf0, hb⟩
  obtain ⟨ao_w0_0, cap_w0_0, rfl⟩ := DStore.fshape hf0
  obtain ⟨fp_w0, o_w0⟩ := Fresh.own hf0 (lo := w2.heap.size) (by first | omega | (simp; done) | (simp; omega))
  have H_w0 := Lib.hid o_w0; clear o_w0
  have hw : Below w2.heap.size w2 w3 := below_call (by repeat (first | with_reducible exact belR | with_reducible apply belA | (with_reducible refine belS ?_ ?_; focus (first | omega | (simp; done) | (simp; omega))) | with_reducible apply belN | with_reducible apply belD | with_reducible assumption)) (by first | omega | (simp; done) | (simp; omega)) hb
  have hsw3 : w2.heap.size ≤ w3.heap.size := by have y := hb.size; (try simp at y); omega
  clear cx_aR zx_aR
  replace HX_aR := Lib.hid (HX_aR.out.below hw)
  have ⟨cx_aR, zx_aR⟩ := HX_aR.out
  replace HA0 := Lib.hid (HA0.out.below hw)
  replace H__w0_aR := Lib.hid (H__w0_aR.out.below hw)
  replace HB := Lib.hid (below_call HB.out HB.out.size hw)
  clear hw
  clear hb
  clear H__w0_aR
  go_wp2_with fail
  refine (toReplica _ a0 _ (HA0.out.reads.below (by repeat (first | with_reducible exact belR | with_reducible apply belA | (with_reducible refine belS ?_ ?_; focus (first | omega | (simp; done) | (simp; omega))) | with_reducible apply belN | with_reducible apply belD | with_reducible assumption))) (by first | omega | (simp [DReplica.wt]))).mono ?_
  rintro e w4 ⟨d_x0, rfl, hf, hb⟩
  obtain ⟨ao_x0_0, cap_x0_0, ao_x0_1, cap_x0_1, rfl⟩ := DReplica.fshape hf
  obtain ⟨fp_x0, o_x0⟩ := Fresh.own hf (lo := w3.heap.size + 1) (by first | omega | (simp; done) | (simp; omega))
  have H_x0 := Lib.hid o_x0; clear o_x0
  have hw : Below w3.heap.size w3 w4 := below_call (by repeat (first | with_reducible exact belR | with_reducible apply belA | (with_reducible refine belS ?_ ?_; focus (first | omega | (simp; done) | (simp; omega))) | with_reducible apply belN | with_reducible apply belD | with_reducible assumption)) (by first | omega | (simp; done) | (simp; omega)) hb
  have hsw4 : w3.heap.size + 1 ≤ w4.heap.size := by have y := hb.size; (try simp at y); omega
  clear cx_aR zx_aR
  replace HX_aR := Lib.hid (HX_aR.out.below hw)
  have HX_w0 : Hid (Box w4 (w3.heap.size) #[.string ((f0 a0)).name, .slice ao_w0_0 ((f0 a0)).items.length cap_w0_0, .int .i64 ((f0 a0)).auto]) := Lib.hid (Box.below (Box.at (by first | rfl | simp)) hb)
  have ⟨cx_aR, zx_aR⟩ := HX_aR.out
  have ⟨cx_w0, zx_w0⟩ := HX_w0.out
  replace HA0 := Lib.hid (HA0.out.below hw)
  replace H_w0 := Lib.hid (H_w0.out.below hw)
  replace HB := Lib.hid (below_call HB.out HB.out.size hw)
  clear hw
  clear hb hf
  go_wp2_with fail
  refine (hI _ a0 _ (H_x0.out.reads.below (by repeat (first | with_reducible exact belR | with_reducible apply belA | (with_reducible refine belS ?_ ?_; focus (first | omega | (simp; done) | (simp; omega))) | with_reducible apply belN | with_reducible apply belD | with_reducible assumption))) (by first | omega | exact hv_aR)).mono ?_
  rintro e w5 ⟨d_g_0, rfl, hf0, hb⟩
  obtain ⟨ao_g0_0, cap_g0_0, rfl⟩ := DStore.fshape hf0
  obtain ⟨fp_g0, o_g0⟩ := Fresh.own hf0 (lo := w4.heap.size + 1) (by first | omega | (simp; done) | (simp; omega))
  have H_g0 := Lib.hid o_g0; clear o_g0
  have hw : Below w4.heap.size w4 w5 := below_call (by repeat (first | with_reducible exact belR | with_reducible apply belA | (with_reducible refine belS ?_ ?_; focus (first | omega | (simp; done) | (simp; omega))) | with_reducible apply belN | with_reducible apply belD | with_reducible assumption)) (by first | omega | (simp; done) | (simp; omega)) hb
  have hsw5 : w4.heap.size + 1 ≤ w5.heap.size := by have y := hb.size; (try simp at y); omega
  clear cx_aR zx_aR
  replace HX_aR := Lib.hid (HX_aR.out.below hw)
  clear cx_w0 zx_w0
  replace HX_w0 := Lib.hid (HX_w0.out.below hw)
  have HX_x0 : Hid (Box w5 (w4.heap.size) #[.string (a0).base.name, .slice ao_x0_0 (a0).base.items.length cap_x0_0, .int .i64 (a0).base.auto, .int .i64 (a0).seen, .int .i64 (a0).sync.outbox.device, .int .i64 (a0).sync.outbox.next, .slice ao_x0_1 (a0).sync.outbox.writes.length cap_x0_1, .int .i64 (a0).sync.tries, .int .i64 (a0).sync.waitUntil]) := Lib.hid (Box.below (Box.at (by first | rfl | simp)) hb)
  have ⟨cx_aR, zx_aR⟩ := HX_aR.out
  have ⟨cx_w0, zx_w0⟩ := HX_w0.out
  have ⟨cx_x0, zx_x0⟩ := HX_x0.out
  replace HA0 := Lib.hid (HA0.out.below hw)
  replace H_w0 := Lib.hid (H_w0.out.below hw)
  replace H_x0 := Lib.hid (H_x0.out.below hw)
  replace HB := Lib.hid (below_call HB.out HB.out.size hw)
  clear hw
  clear hb
  go_wp2_with fail
  refine (eqStore _ _ (f0 a0) _ (H_g0.out.reads.below (by repeat (first | with_reducible exact belR | with_reducible apply belA | (with_reducible refine belS ?_ ?_; focus (first | omega | (simp; done) | (simp; omega))) | with_reducible apply belN | with_reducible apply belD | with_reducible assumption))) (H_w0.out.reads.below (by repeat (first | with_reducible exact belR | with_reducible apply belA | (with_reducible refine belS ?_ ?_; focus (first | omega | (simp; done) | (simp; omega))) | with_reducible apply belN | with_reducible apply belD | with_reducible assumption)))).mono ?_
  rintro e w6 ⟨rfl, hb⟩
  have hw : Below w5.heap.size w5 w6 := below_call (by repeat (first | with_reducible exact belR | with_reducible apply belA | (with_reducible refine belS ?_ ?_; focus (first | omega | (simp; done) | (simp; omega))) | with_reducible apply belN | with_reducible apply belD | with_reducible assumption)) (by first | omega | (simp; done) | (simp; omega)) hb
  have hsw6 : w5.heap.size + 1 ≤ w6.heap.size := by have y := hb.size; (try simp at y); omega
  clear cx_aR zx_aR
  replace HX_aR := Lib.hid (HX_aR.out.below hw)
  clear cx_w0 zx_w0
  replace HX_w0 := Lib.hid (HX_w0.out.below hw)
  clear cx_x0 zx_x0
  replace HX_x0 := Lib.hid (HX_x0.out.below hw)
  have HX_g0 : Hid (Box w6 (w5.heap.size) #[.string ((f0 a0)).name, .slice ao_g0_0 ((f0 a0)).items.length cap_g0_0, .int .i64 ((f0 a0)).auto]) := Lib.hid (Box.below (Box.at (by first | rfl | simp)) hb)
  have ⟨cx_aR, zx_aR⟩ := HX_aR.out
  have ⟨cx_w0, zx_w0⟩ := HX_w0.out
  have ⟨cx_x0, zx_x0⟩ := HX_x0.out
  have ⟨cx_g0, zx_g0⟩ := HX_g0.out
  replace HA0 := Lib.hid (HA0.out.below hw)
  replace H_w0 := Lib.hid (H_w0.out.below hw)
  replace H_x0 := Lib.hid (H_x0.out.below hw)
  replace H_g0 := Lib.hid (H_g0.out.below hw)
  replace HB := Lib.hid (below_call HB.out HB.out.size hw)
  clear hw
  clear hb
  go_wp2_with fail
  refine settle (fun W' => Below w6.heap.size w6 W' ∧ w6.heap.size ≤ W'.heap.size) ⟨(by repeat (first | with_reducible exact belR | with_reducible apply belA | (with_reducible refine belS ?_ ?_; focus (first | omega | (simp; done) | (simp; omega))) | with_reducible apply belN | with_reducible apply belD | with_reducible assumption)), (by first | omega | (simp; done) | (simp; omega))⟩ ?_
  rintro w7 ⟨hw, hsw7⟩
  clear cx_aR zx_aR
  replace HX_aR := Lib.hid (HX_aR.out.below hw)
  clear cx_w0 zx_w0
  replace HX_w0 := Lib.hid (HX_w0.out.below hw)
  clear cx_x0 zx_x0
  replace HX_x0 := Lib.hid (HX_x0.out.below hw)
  clear cx_g0 zx_g0
  replace HX_g0 := Lib.hid (HX_g0.out.below hw)
  have ⟨cx_aR, zx_aR⟩ := HX_aR.out
  have ⟨cx_w0, zx_w0⟩ := HX_w0.out
  have ⟨cx_x0, zx_x0⟩ := HX_x0.out
  have ⟨cx_g0, zx_g0⟩ := HX_g0.out
  replace HA0 := Lib.hid (HA0.out.below hw)
  replace H_w0 := Lib.hid (H_w0.out.below hw)
  replace H_x0 := Lib.hid (H_x0.out.below hw)
  replace H_g0 := Lib.hid (H_g0.out.below hw)
  replace HB := Lib.hid (below_call HB.out HB.out.size hw)
  clear hw
  go_region_held3 (fun w' => (∀ o, w'.cell? ⟨w4.heap.size, o, none⟩ = #[.string (a0).base.name, .slice ao_x0_0 (a0).base.items.length cap_x0_0, .int .i64 (a0).base.auto, .int .i64 (a0).seen, .int .i64 (a0).sync.outbox.device, .int .i64 (a0).sync.outbox.next, .slice ao_x0_1 (a0).sync.outbox.writes.length cap_x0_1, .int .i64 (a0).sync.tries, .int .i64 (a0).sync.waitUntil][o]?) ∧ (∀ o, w'.cell? ⟨w.heap.size, o, none⟩ = #[.string a0.base.name, .slice ao0_0 a0.base.items.length cap0_0, .int .i64 a0.base.auto, .int .i64 a0.seen, .int .i64 a0.sync.outbox.device, .int .i64 a0.sync.outbox.next, .slice ao0_1 a0.sync.outbox.writes.length cap0_1, .int .i64 a0.sync.tries, .int .i64 a0.sync.waitUntil][o]?) ∧ Below w7.heap.size w7 w')
    (first | exact ⟨fun o => (World.cell?_drew _ _ |>.trans <| hq_E9.cell (p := ⟨w4.heap.size, o, none⟩) zx_x0).trans (cx_x0 o), fun o => (World.cell?_drew _ _ |>.trans <| hq_E9.cell (p := ⟨w.heap.size, o, none⟩) zx_aR).trans (cx_aR o), belD hq_E9⟩ | exact ⟨fun o => (hq_E9.cell (p := ⟨w4.heap.size, o, none⟩) zx_x0).trans (cx_x0 o), fun o => (hq_E9.cell (p := ⟨w.heap.size, o, none⟩) zx_aR).trans (cx_aR o), hq_E9⟩ | exact ⟨fun o => (World.cell?_drew _ _ |>.trans <| hq_x0_e7.cell (p := ⟨w4.heap.size, o, none⟩) zx_x0).trans (cx_x0 o), fun o => (World.cell?_drew _ _ |>.trans <| hq_x0_e7.cell (p := ⟨w.heap.size, o, none⟩) zx_aR).trans (cx_aR o), belD hq_x0_e7⟩ | exact ⟨fun o => (hq_x0_e7.cell (p := ⟨w4.heap.size, o, none⟩) zx_x0).trans (cx_x0 o), fun o => (hq_x0_e7.cell (p := ⟨w.heap.size, o, none⟩) zx_aR).trans (cx_aR o), hq_x0_e7⟩ | exact ⟨cx_x0, cx_aR, belR⟩ | exact ⟨cx_x0, cx_aR, belD belR⟩)
    (first | (go_at_call 24; have hx := hq_x0_e7; clear hx; have hS_E9 := ‹_ ∧ _ ∧ Below w7.heap.size w7 _›; refine (eqReplica _ _ a0 _ (H_x0.out.reads.below hS_E9.2.2) (hr_x0_e7.below (by first | exact belR | exact belD belR | exact belN (belD belR)))).mono ?_; rintro e w9 ⟨rfl, hb_E9⟩; have hq_E9 : Below w7.heap.size w7 w9 := below_call hS_E9.2.2 hS_E9.2.2.size hb_E9; clear hS_E9) | (go_at_call 22; have hS_x0_e7 := ‹_ ∧ _ ∧ Below w7.heap.size w7 _›; refine (toReplica _ a0 _ (HA0.out.reads.below hS_x0_e7.2.2) (by first | omega | (simp [DReplica.wt]))).mono ?_; rintro e w8 ⟨d_x0_e7, rfl, hf_x0_e7, hb_x0_e7⟩; have hq_x0_e7 : Below w7.heap.size w7 w8 := below_call hS_x0_e7.2.2 hS_x0_e7.2.2.size hb_x0_e7; clear hS_x0_e7; obtain ⟨ao_x0_e7_0, cap_x0_e7_0, ao_x0_e7_1, cap_x0_e7_1, rfl⟩ := DReplica.fshape hf_x0_e7; have hr_x0_e7 := hf_x0_e7.reads))
  have hw := hq_E9
  have hsw9 : w7.heap.size ≤ w9.heap.size := hq_E9.size
  clear cx_aR zx_aR
  replace HX_aR := Lib.hid (HX_aR.out.below hw)
  clear cx_w0 zx_w0
  replace HX_w0 := Lib.hid (HX_w0.out.below hw)
  clear cx_x0 zx_x0
  replace HX_x0 := Lib.hid (HX_x0.out.below hw)
  clear cx_g0 zx_g0
  replace HX_g0 := Lib.hid (HX_g0.out.below hw)
  have ⟨cx_aR, zx_aR⟩ := HX_aR.out
  have ⟨cx_w0, zx_w0⟩ := HX_w0.out
  have ⟨cx_x0, zx_x0⟩ := HX_x0.out
  have ⟨cx_g0, zx_g0⟩ := HX_g0.out
  replace HA0 := Lib.hid (HA0.out.below hw)
  replace H_w0 := Lib.hid (H_w0.out.below hw)
  replace H_x0 := Lib.hid (H_x0.out.below hw)
  replace H_g0 := Lib.hid (H_g0.out.below hw)
  replace HB := Lib.hid (below_call HB.out HB.out.size hw)
  clear hw
  go_wp2_with fail
  have hk_x0 := (hm_x0 a0 (by first | omega | exact hv_aR))
  refine (markReplica _ a0 fp_x0 (1) _ H_x0.out.rd H_x0.out.nodup (by omega)).mono ?_
  rintro e w10 ⟨rfl, hrd, hc⟩
  have hnew := Own.mk hrd H_x0.out.nodup (H_x0.out.ivl)
  have hq := H_x0.out.ivl
  have hsw10 : w9.heap.size ≤ w10.heap.size := hc.size
  clear cx_aR zx_aR
  replace HX_aR := Lib.hid (HX_aR.out.chg hc hq (by omega))
  clear cx_w0 zx_w0
  replace HX_w0 := Lib.hid (HX_w0.out.chg hc hq (by omega))
  clear cx_x0 zx_x0
  replace HX_x0 := Lib.hid (HX_x0.out.chg hc hq (by omega))
  clear cx_g0 zx_g0
  replace HX_g0 := Lib.hid (HX_g0.out.chg hc hq (by omega))
  have ⟨cx_aR, zx_aR⟩ := HX_aR.out
  have ⟨cx_w0, zx_w0⟩ := HX_w0.out
  have ⟨cx_x0, zx_x0⟩ := HX_x0.out
  have ⟨cx_g0, zx_g0⟩ := HX_g0.out
  replace HA0 := Lib.hid (HA0.out.chg hc hq (by omega))
  replace H_w0 := Lib.hid (H_w0.out.chg hc (Own.apart H_w0.out H_x0.out (by omega)))
  replace H_g0 := Lib.hid (H_g0.out.chg hc (Own.apart H_g0.out H_x0.out (by omega)))
  replace HB := Lib.hid (Below.chg HB.out hc hq (by omega) HB.out.size)
  clear hq
  replace H_x0 := Lib.hid hnew; clear hnew hrd hc
  go_wp2_with fail
  refine (eqStore _ _ (f0 a0) _ (H_g0.out.reads.below (by repeat (first | with_reducible exact belR | with_reducible apply belA | (with_reducible refine belS ?_ ?_; focus (first | omega | (simp; done) | (simp; omega))) | with_reducible apply belN | with_reducible apply belD | with_reducible assumption))) (H_w0.out.reads.below (by repeat (first | with_reducible exact belR | with_reducible apply belA | (with_reducible refine belS ?_ ?_; focus (first | omega | (simp; done) | (simp; omega))) | with_reducible apply belN | with_reducible apply belD | with_reducible assumption)))).mono ?_
  rintro e w11 ⟨rfl, hb⟩
  have hw : Below w10.heap.size w10 w11 := below_call (by repeat (first | with_reducible exact belR | with_reducible apply belA | (with_reducible refine belS ?_ ?_; focus (first | omega | (simp; done) | (simp; omega))) | with_reducible apply belN | with_reducible apply belD | with_reducible assumption)) (by first | omega | (simp; done) | (simp; omega)) hb
  have hsw11 : w10.heap.size ≤ w11.heap.size := by have y := hb.size; (try simp at y); omega
  clear cx_aR zx_aR
  replace HX_aR := Lib.hid (HX_aR.out.below hw)
  clear cx_w0 zx_w0
  replace HX_w0 := Lib.hid (HX_w0.out.below hw)
  clear cx_x0 zx_x0
  replace HX_x0 := Lib.hid (HX_x0.out.below hw)
  clear cx_g0 zx_g0
  replace HX_g0 := Lib.hid (HX_g0.out.below hw)
  have ⟨cx_aR, zx_aR⟩ := HX_aR.out
  have ⟨cx_w0, zx_w0⟩ := HX_w0.out
  have ⟨cx_x0, zx_x0⟩ := HX_x0.out
  have ⟨cx_g0, zx_g0⟩ := HX_g0.out
  replace HA0 := Lib.hid (HA0.out.below hw)
  replace H_w0 := Lib.hid (H_w0.out.below hw)
  replace H_x0 := Lib.hid (H_x0.out.below hw)
  replace H_g0 := Lib.hid (H_g0.out.below hw)
  replace HB := Lib.hid (below_call HB.out HB.out.size hw)
  clear hw
  clear hb
  go_wp2_with fail
  have hk_g0 := (hm_g0 a0 (by first | omega | exact hv_aR))
  refine (markStore _ (f0 a0) fp_g0 (1) _ H_g0.out.rd H_g0.out.nodup (by omega)).mono ?_
  rintro e w12 ⟨rfl, hrd, hc⟩
  have hnew := Own.mk hrd H_g0.out.nodup (H_g0.out.ivl)
  have hq := H_g0.out.ivl
  have hsw12 : w11.heap.size ≤ w12.heap.size := hc.size
  clear cx_aR zx_aR
  replace HX_aR := Lib.hid (HX_aR.out.chg hc hq (by omega))
  clear cx_w0 zx_w0
  replace HX_w0 := Lib.hid (HX_w0.out.chg hc hq (by omega))
  clear cx_x0 zx_x0
  replace HX_x0 := Lib.hid (HX_x0.out.chg hc hq (by omega))
  clear cx_g0 zx_g0
  replace HX_g0 := Lib.hid (HX_g0.out.chg hc hq (by omega))
  have ⟨cx_aR, zx_aR⟩ := HX_aR.out
  have ⟨cx_w0, zx_w0⟩ := HX_w0.out
  have ⟨cx_x0, zx_x0⟩ := HX_x0.out
  have ⟨cx_g0, zx_g0⟩ := HX_g0.out
  replace HA0 := Lib.hid (HA0.out.chg hc hq (by omega))
  replace H_w0 := Lib.hid (H_w0.out.chg hc (Own.apart H_w0.out H_g0.out (by omega)))
  replace H_x0 := Lib.hid (H_x0.out.chg hc (Own.apart H_x0.out H_g0.out (by omega)))
  replace HB := Lib.hid (Below.chg HB.out hc hq (by omega) HB.out.size)
  clear hq
  replace H_g0 := Lib.hid hnew; clear hnew hrd hc
  go_wp2_with fail
  refine (heldStore _ (f0 a0) (1) _ (H_g0.out.reads.below (by repeat (first | with_reducible exact belR | with_reducible apply belA | (with_reducible refine belS ?_ ?_; focus (first | omega | (simp; done) | (simp; omega))) | with_reducible apply belN | with_reducible apply belD | with_reducible assumption))) (by omega)).mono ?_
  rintro e w13 ⟨rfl, hb⟩
  have hw : Below w12.heap.size w12 w13 := below_call (by repeat (first | with_reducible exact belR | with_reducible apply belA | (with_reducible refine belS ?_ ?_; focus (first | omega | (simp; done) | (simp; omega))) | with_reducible apply belN | with_reducible apply belD | with_reducible assumption)) (by first | omega | (simp; done) | (simp; omega)) hb
  have hsw13 : w12.heap.size ≤ w13.heap.size := by have y := hb.size; (try simp at y); omega
  clear cx_aR zx_aR
  replace HX_aR := Lib.hid (HX_aR.out.below hw)
  clear cx_w0 zx_w0
  replace HX_w0 := Lib.hid (HX_w0.out.below hw)
  clear cx_x0 zx_x0
  replace HX_x0 := Lib.hid (HX_x0.out.below hw)
  clear cx_g0 zx_g0
  replace HX_g0 := Lib.hid (HX_g0.out.below hw)
  have ⟨cx_aR, zx_aR⟩ := HX_aR.out
  have ⟨cx_w0, zx_w0⟩ := HX_w0.out
  have ⟨cx_x0, zx_x0⟩ := HX_x0.out
  have ⟨cx_g0, zx_g0⟩ := HX_g0.out
  replace HA0 := Lib.hid (HA0.out.below hw)
  replace H_w0 := Lib.hid (H_w0.out.below hw)
  replace H_x0 := Lib.hid (H_x0.out.below hw)
  replace H_g0 := Lib.hid (H_g0.out.below hw)
  replace HB := Lib.hid (below_call HB.out HB.out.size hw)
  clear hw
  clear hb
  go_wp2_with fail
  refine (toReplica _ a0 _ (HA0.out.reads.below (by repeat (first | with_reducible exact belR | with_reducible apply belA | (with_reducible refine belS ?_ ?_; focus (first | omega | (simp; done) | (simp; omega))) | with_reducible apply belN | with_reducible apply belD | with_reducible assumption))) (by first | omega | (simp [DReplica.wt]))).mono ?_
  rintro e w14 ⟨d_h0_aR, rfl, hf, hb⟩
  obtain ⟨ao_h0_aR_0, cap_h0_aR_0, ao_h0_aR_1, cap_h0_aR_1, rfl⟩ := DReplica.fshape hf
  obtain ⟨fp__h0_aR, o__h0_aR⟩ := Fresh.own hf (lo := w13.heap.size) (by first | omega | (simp; done) | (simp; omega))
  have H__h0_aR := Lib.hid o__h0_aR; clear o__h0_aR
  have hw : Below w13.heap.size w13 w14 := below_call (by repeat (first | with_reducible exact belR | with_reducible apply belA | (with_reducible refine belS ?_ ?_; focus (first | omega | (simp; done) | (simp; omega))) | with_reducible apply belN | with_reducible apply belD | with_reducible assumption)) (by first | omega | (simp; done) | (simp; omega)) hb
  have hsw14 : w13.heap.size ≤ w14.heap.size := by have y := hb.size; (try simp at y); omega
  clear cx_aR zx_aR
  replace HX_aR := Lib.hid (HX_aR.out.below hw)
  clear cx_w0 zx_w0
  replace HX_w0 := Lib.hid (HX_w0.out.below hw)
  clear cx_x0 zx_x0
  replace HX_x0 := Lib.hid (HX_x0.out.below hw)
  clear cx_g0 zx_g0
  replace HX_g0 := Lib.hid (HX_g0.out.below hw)
  have ⟨cx_aR, zx_aR⟩ := HX_aR.out
  have ⟨cx_w0, zx_w0⟩ := HX_w0.out
  have ⟨cx_x0, zx_x0⟩ := HX_x0.out
  have ⟨cx_g0, zx_g0⟩ := HX_g0.out
  replace HA0 := Lib.hid (HA0.out.below hw)
  replace H_w0 := Lib.hid (H_w0.out.below hw)
  replace H_x0 := Lib.hid (H_x0.out.below hw)
  replace H_g0 := Lib.hid (H_g0.out.below hw)
  replace HB := Lib.hid (below_call HB.out HB.out.size hw)
  clear hw
  clear hb hf
  go_wp2_with fail
  refine (hI _ a0 _ (H__h0_aR.out.reads.below (by repeat (first | with_reducible exact belR | with_reducible apply belA | (with_reducible refine belS ?_ ?_; focus (first | omega | (simp; done) | (simp; omega))) | with_reducible apply belN | with_reducible apply belD | with_reducible assumption))) (by first | omega | exact hv_aR)).mono ?_
  rintro e w15 ⟨d_h_0, rfl, hf0, hb⟩
  obtain ⟨ao_h0_0, cap_h0_0, rfl⟩ := DStore.fshape hf0
  obtain ⟨fp_h0, o_h0⟩ := Fresh.own hf0 (lo := w14.heap.size) (by first | omega | (simp; done) | (simp; omega))
  have H_h0 := Lib.hid o_h0; clear o_h0
  have hw : Below w14.heap.size w14 w15 := below_call (by repeat (first | with_reducible exact belR | with_reducible apply belA | (with_reducible refine belS ?_ ?_; focus (first | omega | (simp; done) | (simp; omega))) | with_reducible apply belN | with_reducible apply belD | with_reducible assumption)) (by first | omega | (simp; done) | (simp; omega)) hb
  have hsw15 : w14.heap.size ≤ w15.heap.size := by have y := hb.size; (try simp at y); omega
  clear cx_aR zx_aR
  replace HX_aR := Lib.hid (HX_aR.out.below hw)
  clear cx_w0 zx_w0
  replace HX_w0 := Lib.hid (HX_w0.out.below hw)
  clear cx_x0 zx_x0
  replace HX_x0 := Lib.hid (HX_x0.out.below hw)
  clear cx_g0 zx_g0
  replace HX_g0 := Lib.hid (HX_g0.out.below hw)
  have ⟨cx_aR, zx_aR⟩ := HX_aR.out
  have ⟨cx_w0, zx_w0⟩ := HX_w0.out
  have ⟨cx_x0, zx_x0⟩ := HX_x0.out
  have ⟨cx_g0, zx_g0⟩ := HX_g0.out
  replace HA0 := Lib.hid (HA0.out.below hw)
  replace H_w0 := Lib.hid (H_w0.out.below hw)
  replace H_x0 := Lib.hid (H_x0.out.below hw)
  replace H_g0 := Lib.hid (H_g0.out.below hw)
  replace H__h0_aR := Lib.hid (H__h0_aR.out.below hw)
  replace HB := Lib.hid (below_call HB.out HB.out.size hw)
  clear hw
  clear hb
  clear H__h0_aR
  go_wp2_with fail
  refine (eqStore _ _ (f0 a0) _ (H_h0.out.reads.below (by repeat (first | with_reducible exact belR | with_reducible apply belA | (with_reducible refine belS ?_ ?_; focus (first | omega | (simp; done) | (simp; omega))) | with_reducible apply belN | with_reducible apply belD | with_reducible assumption))) (H_w0.out.reads.below (by repeat (first | with_reducible exact belR | with_reducible apply belA | (with_reducible refine belS ?_ ?_; focus (first | omega | (simp; done) | (simp; omega))) | with_reducible apply belN | with_reducible apply belD | with_reducible assumption)))).mono ?_
  rintro e w16 ⟨rfl, hb⟩
  have hw : Below w15.heap.size w15 w16 := below_call (by repeat (first | with_reducible exact belR | with_reducible apply belA | (with_reducible refine belS ?_ ?_; focus (first | omega | (simp; done) | (simp; omega))) | with_reducible apply belN | with_reducible apply belD | with_reducible assumption)) (by first | omega | (simp; done) | (simp; omega)) hb
  have hsw16 : w15.heap.size + 1 ≤ w16.heap.size := by have y := hb.size; (try simp at y); omega
  clear cx_aR zx_aR
  replace HX_aR := Lib.hid (HX_aR.out.below hw)
  clear cx_w0 zx_w0
  replace HX_w0 := Lib.hid (HX_w0.out.below hw)
  clear cx_x0 zx_x0
  replace HX_x0 := Lib.hid (HX_x0.out.below hw)
  clear cx_g0 zx_g0
  replace HX_g0 := Lib.hid (HX_g0.out.below hw)
  have HX_h0 : Hid (Box w16 (w15.heap.size) #[.string ((f0 a0)).name, .slice ao_h0_0 ((f0 a0)).items.length cap_h0_0, .int .i64 ((f0 a0)).auto]) := Lib.hid (Box.below (Box.at (by first | rfl | simp)) hb)
  have ⟨cx_aR, zx_aR⟩ := HX_aR.out
  have ⟨cx_w0, zx_w0⟩ := HX_w0.out
  have ⟨cx_x0, zx_x0⟩ := HX_x0.out
  have ⟨cx_g0, zx_g0⟩ := HX_g0.out
  have ⟨cx_h0, zx_h0⟩ := HX_h0.out
  replace HA0 := Lib.hid (HA0.out.below hw)
  replace H_w0 := Lib.hid (H_w0.out.below hw)
  replace H_x0 := Lib.hid (H_x0.out.below hw)
  replace H_g0 := Lib.hid (H_g0.out.below hw)
  replace H_h0 := Lib.hid (H_h0.out.below hw)
  replace HB := Lib.hid (below_call HB.out HB.out.size hw)
  clear hw
  clear hb
  go_wp2_with fail
  refine (heldStore _ (f0 a0) (1) _ (H_g0.out.reads.below (by repeat (first | with_reducible exact belR | with_reducible apply belA | (with_reducible refine belS ?_ ?_; focus (first | omega | (simp; done) | (simp; omega))) | with_reducible apply belN | with_reducible apply belD | with_reducible assumption))) (by omega)).mono ?_
  rintro e w17 ⟨rfl, hb⟩
  have hw : Below w16.heap.size w16 w17 := below_call (by repeat (first | with_reducible exact belR | with_reducible apply belA | (with_reducible refine belS ?_ ?_; focus (first | omega | (simp; done) | (simp; omega))) | with_reducible apply belN | with_reducible apply belD | with_reducible assumption)) (by first | omega | (simp; done) | (simp; omega)) hb
  have hsw17 : w16.heap.size ≤ w17.heap.size := by have y := hb.size; (try simp at y); omega
  clear cx_aR zx_aR
  replace HX_aR := Lib.hid (HX_aR.out.below hw)
  clear cx_w0 zx_w0
  replace HX_w0 := Lib.hid (HX_w0.out.below hw)
  clear cx_x0 zx_x0
  replace HX_x0 := Lib.hid (HX_x0.out.below hw)
  clear cx_g0 zx_g0
  replace HX_g0 := Lib.hid (HX_g0.out.below hw)
  clear cx_h0 zx_h0
  replace HX_h0 := Lib.hid (HX_h0.out.below hw)
  have ⟨cx_aR, zx_aR⟩ := HX_aR.out
  have ⟨cx_w0, zx_w0⟩ := HX_w0.out
  have ⟨cx_x0, zx_x0⟩ := HX_x0.out
  have ⟨cx_g0, zx_g0⟩ := HX_g0.out
  have ⟨cx_h0, zx_h0⟩ := HX_h0.out
  replace HA0 := Lib.hid (HA0.out.below hw)
  replace H_w0 := Lib.hid (H_w0.out.below hw)
  replace H_x0 := Lib.hid (H_x0.out.below hw)
  replace H_g0 := Lib.hid (H_g0.out.below hw)
  replace H_h0 := Lib.hid (H_h0.out.below hw)
  replace HB := Lib.hid (below_call HB.out HB.out.size hw)
  clear hw
  clear hb
  go_wp2_with fail
  go_ret
  have y := HB.out
  exact ⟨rfl, (by repeat (first | with_reducible exact belR | with_reducible apply belA | (with_reducible refine belS ?_ ?_; focus (first | omega | (simp; done) | (simp; omega))) | with_reducible apply belN | with_reducible apply belD | with_reducible assumption))⟩

set_option maxRecDepth 100000 in
set_option maxHeartbeats 1000000 in
theorem localStore_lifted (f0 : DReplica → DStore) (hS : SaidLocalStore f0 21) (hI : SaidLocalStore f0 23) (hm_g0 : ∀ (a0 : DReplica), (a0).wt ≤ 1048576 → ((f0 a0)).mcnt ≤ 400000000) (hm_x0 : ∀ (a0 : DReplica), (a0).wt ≤ 1048576 → (a0).mcnt ≤ 400000000) (os : Os) (started : os.Started) (H : Type) (enc : TypeId × Value → H) :
    ReturnsInHanded {} Try.checked os 5 .any (Rows.fnExactLocalStoreSpec.pre6 enc Try.prog Try.f5 Rows.fnExactLocalStoreRow.domain false) (Rows.fnExactLocalStoreSpec.post enc Try.prog Try.f5 false true false false) := by
  refine law_lift (C := Try.checked) Try.own started (by kernel_rfl) Try.func5 Try.laidOut (by kernel_rfl) rfl Try.underlying4 rfl ?_
    (ChangeSpec.witness6 (enc := enc) (C := Try.checked) false ⟨#[], #[.agg #[.string ByteArray.empty, .slice none 0 0, .int .i64 0, .int .i64 0, .int .i64 0, .int .i64 0, .slice none 0 0, .int .i64 0, .int .i64 0]], []⟩ 8 (by kernel_rfl) (by kernel_rfl) (by kernel_rfl) (by kernel_rfl)) ?_
  · intro ds h
    match ds, h with
    | [_], _ => rfl
  · intro W base args ds ps hval hA0
    have hA : DataW.TrodAll enc Try.prog W 0 (fun _ => true) true Try.f5.params.toList args.toList ds ps := hA0
    rw [Try.params5] at hA hval
    obtain ⟨v0, _, _, rfl, t0⟩ := trodAll_open1 hA
    obtain ⟨c0, a0, rfl, r0⟩ := arg_struct Try.underlying62 DReplica.opens_laws (hval 0 62 v0 rfl rfl) t0
    exact lawLocalStore f0 hS hI hm_g0 hm_x0 c0.toList a0 W r0

theorem localStore_of (f0 : DReplica → DStore) (hS : SaidLocalStore f0 21) (hI : SaidLocalStore f0 23) (hm_g0 : ∀ (a0 : DReplica), (a0).wt ≤ 1048576 → ((f0 a0)).mcnt ≤ 400000000) (hm_x0 : ∀ (a0 : DReplica), (a0).wt ≤ 1048576 → (a0).mcnt ≤ 400000000) : Rows.FnExactLocalStoreSaid :=
  OpenClaim.holds_of_wide 5 Try.f5 rfl rfl rfl rfl rfl rfl rfl ⟨rfl, rfl, rfl, rfl, rfl⟩ rfl rfl rfl rfl rfl (by kernel_rfl) Try.func5 (by kernel_rfl)
    (of_decide_eq_true (by kernel_rfl)) (by unfold Func.isWrapper; rw [if_neg (by decide +kernel)]; exact ⟨rfl, rfl⟩)
    (fun os started H enc _ => localStore_lifted f0 hS hI hm_g0 hm_x0 os started H enc)

end Go.Proofs.Ytapgglghaknjlaa
