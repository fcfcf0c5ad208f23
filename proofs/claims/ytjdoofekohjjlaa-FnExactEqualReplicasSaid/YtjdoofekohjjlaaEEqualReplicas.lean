/-
  FnExactEqualReplicas: the law's walk, and its row, off the contracts of impl.EqualReplicas and spec.EqualReplicas.
-/
import Derived.Test.YtjdoofekohjjlaaLFamB
import Derived.Test.YtjdoofekohjjlaaBase
namespace Go.Proofs.Ytjdoofekohjjlaa
open Go.RowKit Go.ChangeShapes

/-- What impl.EqualReplicas and spec.EqualReplicas are both shown to compute. -/
def SaidEqualReplicas (f0 : DReplica → DReplica → Bool) (f : FuncId) : Prop :=
  ∀ (c0 : List Value) (a0 : DReplica) (c1 : List Value) (a1 : DReplica) (w : World) (_h0 : Reads DReplica.rep w c0 a0) (_h1 : Reads DReplica.rep w c1 a1)(_s0 : (a0).wt ≤ 1048576) (_s1 : (a1).wt ≤ 1048576), Calls Try.prog f #[.agg c0.toArray, .agg c1.toArray] w fun e w' => e = .returned (.bool (f0 a0 a1)) ∧ Below w.heap.size w w'

set_option maxRecDepth 100000 in
set_option maxHeartbeats 16000000 in
theorem lawEqualReplicas (f0 : DReplica → DReplica → Bool) (hS : SaidEqualReplicas f0 17) (hI : SaidEqualReplicas f0 19) (c0 : List Value) (a0 : DReplica) (c1 : List Value) (a1 : DReplica) (w : World) (h0 : Reads DReplica.rep w c0 a0) (h1 : Reads DReplica.rep w c1 a1)  :
    Calls Try.prog 4 #[.agg c0.toArray, .agg c1.toArray] w fun e w' => e = .returned (.bool true) ∧ Below w.heap.size w w' := by
  have HA0 := Lib.hid (Low.start h0)
  obtain ⟨fp, hr⟩ := h0
  obtain ⟨ao0_0, cap0_0, ao0_1, cap0_1, rfl⟩ := DReplica.shape hr
  clear hr
  have HA1 := Lib.hid (Low.start h1)
  obtain ⟨fp, hr⟩ := h1
  obtain ⟨ao1_0, cap1_0, ao1_1, cap1_1, rfl⟩ := DReplica.shape hr
  clear hr
  have HB : Hid (Below w.heap.size w w) := Lib.hid belR
  go_enter Try.func4, Try.ntmps4
  go_wp2_with fail
  refine (szReplica _ a0 (1048576) _ (HA0.out.reads.below (by repeat (first | with_reducible exact belR | with_reducible apply belA | (with_reducible refine belS ?_ ?_; focus (first | omega | (simp; done) | (simp; omega))) | with_reducible apply belN | with_reducible apply belD | with_reducible assumption))) (by omega) (by omega)).mono ?_
  rintro e w1 ⟨rfl, hb⟩
  have hw : Below w.heap.size w w1 := below_call (by repeat (first | with_reducible exact belR | with_reducible apply belA | (with_reducible refine belS ?_ ?_; focus (first | omega | (simp; done) | (simp; omega))) | with_reducible apply belN | with_reducible apply belD | with_reducible assumption)) (by first | omega | (simp; done) | (simp; omega)) hb
  have hsw1 : w.heap.size + 1 + 1 ≤ w1.heap.size := by have y := hb.size; (try simp at y); omega
  have HX_aA : Hid (Box w1 (w.heap.size) #[.string a0.base.name, .slice ao0_0 a0.base.items.length cap0_0, .int .i64 a0.base.auto, .int .i64 a0.seen, .int .i64 a0.sync.outbox.device, .int .i64 a0.sync.outbox.next, .slice ao0_1 a0.sync.outbox.writes.length cap0_1, .int .i64 a0.sync.tries, .int .i64 a0.sync.waitUntil]) := Lib.hid (Box.below (Box.growA (Box.at (by first | rfl | simp))) hb)
  have HX_aB : Hid (Box w1 (w.heap.size + 1) #[.string a1.base.name, .slice ao1_0 a1.base.items.length cap1_0, .int .i64 a1.base.auto, .int .i64 a1.seen, .int .i64 a1.sync.outbox.device, .int .i64 a1.sync.outbox.next, .slice ao1_1 a1.sync.outbox.writes.length cap1_1, .int .i64 a1.sync.tries, .int .i64 a1.sync.waitUntil]) := Lib.hid (Box.below (Box.at (by first | rfl | simp)) hb)
  have ⟨cx_aA, zx_aA⟩ := HX_aA.out
  have ⟨cx_aB, zx_aB⟩ := HX_aB.out
  replace HA0 := Lib.hid (HA0.out.below hw)
  replace HA1 := Lib.hid (HA1.out.below hw)
  replace HB := Lib.hid (below_call HB.out HB.out.size hw)
  clear hw
  clear hb
  have hz := szOf_spec ((a0).wt) (1048576)
  by_cases hv_aA : ¬ (((a0).wt : Nat) : Int) ≤ 1048576
  · rw [hz.2 hv_aA]; clear hz
    go_wp2
    all_goals go_ret
    have y := HB.out
    exact ⟨rfl, (by repeat (first | with_reducible exact belR | with_reducible apply belA | (with_reducible refine belS ?_ ?_; focus (first | omega | (simp; done) | (simp; omega))) | with_reducible apply belN | with_reducible apply belD | with_reducible assumption))⟩
  rw [Decidable.not_not] at hv_aA
  rw [hz.1 hv_aA]; clear hz
  go_wp2_with fail
  refine (szReplica _ a1 (1048576 - (((a0).wt : Nat) : Int)) _ (HA1.out.reads.below (by repeat (first | with_reducible exact belR | with_reducible apply belA | (with_reducible refine belS ?_ ?_; focus (first | omega | (simp; done) | (simp; omega))) | with_reducible apply belN | with_reducible apply belD | with_reducible assumption))) (by omega) (by omega)).mono ?_
  rintro e w2 ⟨rfl, hb⟩
  have hw : Below w1.heap.size w1 w2 := below_call (by repeat (first | with_reducible exact belR | with_reducible apply belA | (with_reducible refine belS ?_ ?_; focus (first | omega | (simp; done) | (simp; omega))) | with_reducible apply belN | with_reducible apply belD | with_reducible assumption)) (by first | omega | (simp; done) | (simp; omega)) hb
  have hsw2 : w1.heap.size ≤ w2.heap.size := by have y := hb.size; (try simp at y); omega
  clear cx_aA zx_aA
  replace HX_aA := Lib.hid (HX_aA.out.below hw)
  clear cx_aB zx_aB
  replace HX_aB := Lib.hid (HX_aB.out.below hw)
  have ⟨cx_aA, zx_aA⟩ := HX_aA.out
  have ⟨cx_aB, zx_aB⟩ := HX_aB.out
  replace HA0 := Lib.hid (HA0.out.below hw)
  replace HA1 := Lib.hid (HA1.out.below hw)
  replace HB := Lib.hid (below_call HB.out HB.out.size hw)
  clear hw
  clear hb
  have hz := szOf_spec ((a1).wt) (1048576 - (((a0).wt : Nat) : Int))
  by_cases hv_aB : ¬ (((a1).wt : Nat) : Int) ≤ 1048576 - (((a0).wt : Nat) : Int)
  · rw [hz.2 hv_aB]; clear hz
    go_wp2
    all_goals go_ret
    have y := HB.out
    exact ⟨rfl, (by repeat (first | with_reducible exact belR | with_reducible apply belA | (with_reducible refine belS ?_ ?_; focus (first | omega | (simp; done) | (simp; omega))) | with_reducible apply belN | with_reducible apply belD | with_reducible assumption))⟩
  rw [Decidable.not_not] at hv_aB
  rw [hz.1 hv_aB]; clear hz
  go_wp2_with fail
  refine settle (fun W' => Below w2.heap.size w2 W' ∧ w2.heap.size ≤ W'.heap.size) ⟨(by repeat (first | with_reducible exact belR | with_reducible apply belA | (with_reducible refine belS ?_ ?_; focus (first | omega | (simp; done) | (simp; omega))) | with_reducible apply belN | with_reducible apply belD | with_reducible assumption)), (by first | omega | (simp; done) | (simp; omega))⟩ ?_
  rintro w3 ⟨hw, hsw3⟩
  clear cx_aA zx_aA
  replace HX_aA := Lib.hid (HX_aA.out.below hw)
  clear cx_aB zx_aB
  replace HX_aB := Lib.hid (HX_aB.out.below hw)
  have ⟨cx_aA, zx_aA⟩ := HX_aA.out
  have ⟨cx_aB, zx_aB⟩ := HX_aB.out
  replace HA0 := Lib.hid (HA0.out.below hw)
  replace HA1 := Lib.hid (HA1.out.below hw)
  replace HB := Lib.hid (below_call HB.out HB.out.size hw)
  clear hw
  go_region_held3 (fun w' => (∀ o, w'.cell? ⟨w.heap.size, o, none⟩ = #[.string a0.base.name, .slice ao0_0 a0.base.items.length cap0_0, .int .i64 a0.base.auto, .int .i64 a0.seen, .int .i64 a0.sync.outbox.device, .int .i64 a0.sync.outbox.next, .slice ao0_1 a0.sync.outbox.writes.length cap0_1, .int .i64 a0.sync.tries, .int .i64 a0.sync.waitUntil][o]?) ∧ (∀ o, w'.cell? ⟨w.heap.size + 1, o, none⟩ = #[.string a1.base.name, .slice ao1_0 a1.base.items.length cap1_0, .int .i64 a1.base.auto, .int .i64 a1.seen, .int .i64 a1.sync.outbox.device, .int .i64 a1.sync.outbox.next, .slice ao1_1 a1.sync.outbox.writes.length cap1_1, .int .i64 a1.sync.tries, .int .i64 a1.sync.waitUntil][o]?) ∧ Below w3.heap.size w3 w')
    (first | exact ⟨fun o => (World.cell?_drew _ _ |>.trans <| hq_F6.cell (p := ⟨w.heap.size, o, none⟩) zx_aA).trans (cx_aA o), fun o => (World.cell?_drew _ _ |>.trans <| hq_F6.cell (p := ⟨w.heap.size + 1, o, none⟩) zx_aB).trans (cx_aB o), belD hq_F6⟩ | exact ⟨fun o => (hq_F6.cell (p := ⟨w.heap.size, o, none⟩) zx_aA).trans (cx_aA o), fun o => (hq_F6.cell (p := ⟨w.heap.size + 1, o, none⟩) zx_aB).trans (cx_aB o), hq_F6⟩ | exact ⟨fun o => (World.cell?_drew _ _ |>.trans <| hq_w0_aB.cell (p := ⟨w.heap.size, o, none⟩) zx_aA).trans (cx_aA o), fun o => (World.cell?_drew _ _ |>.trans <| hq_w0_aB.cell (p := ⟨w.heap.size + 1, o, none⟩) zx_aB).trans (cx_aB o), belD hq_w0_aB⟩ | exact ⟨fun o => (hq_w0_aB.cell (p := ⟨w.heap.size, o, none⟩) zx_aA).trans (cx_aA o), fun o => (hq_w0_aB.cell (p := ⟨w.heap.size + 1, o, none⟩) zx_aB).trans (cx_aB o), hq_w0_aB⟩ | exact ⟨fun o => (World.cell?_drew _ _ |>.trans <| hq_w0_aA.cell (p := ⟨w.heap.size, o, none⟩) zx_aA).trans (cx_aA o), fun o => (World.cell?_drew _ _ |>.trans <| hq_w0_aA.cell (p := ⟨w.heap.size + 1, o, none⟩) zx_aB).trans (cx_aB o), belD hq_w0_aA⟩ | exact ⟨fun o => (hq_w0_aA.cell (p := ⟨w.heap.size, o, none⟩) zx_aA).trans (cx_aA o), fun o => (hq_w0_aA.cell (p := ⟨w.heap.size + 1, o, none⟩) zx_aB).trans (cx_aB o), hq_w0_aA⟩ | exact ⟨cx_aA, cx_aB, belR⟩ | exact ⟨cx_aA, cx_aB, belD belR⟩)
    (first | (go_at_call 17; have hx := hq_w0_aB; clear hx; have hS_F6 := ‹_ ∧ _ ∧ Below w3.heap.size w3 _›; refine (hS _ a0 _ a1 _ (hr_w0_aA.below (by first | exact belR | exact belD belR | exact belN (belD belR))) (hr_w0_aB.below (by first | exact belR | exact belD belR | exact belN (belD belR))) (by first | omega | exact hv_aA) (by first | omega | exact hv_aB)).mono ?_; rintro e w6 ⟨rfl, hb_F6⟩; have hq_F6 : Below w3.heap.size w3 w6 := below_call hS_F6.2.2 hS_F6.2.2.size hb_F6; clear hS_F6) | (go_at_call 18; have hx := hq_w0_aA; clear hx; have hS_w0_aB := ‹_ ∧ _ ∧ Below w3.heap.size w3 _›; refine (toReplica _ a1 _ (HA1.out.reads.below hS_w0_aB.2.2) (by first | omega | (simp [DReplica.wt]))).mono ?_; rintro e w5 ⟨d_w0_aB, rfl, hf_w0_aB, hb_w0_aB⟩; have hq_w0_aB : Below w3.heap.size w3 w5 := below_call hS_w0_aB.2.2 hS_w0_aB.2.2.size hb_w0_aB; clear hS_w0_aB; obtain ⟨ao_w0_aB_0, cap_w0_aB_0, ao_w0_aB_1, cap_w0_aB_1, rfl⟩ := DReplica.fshape hf_w0_aB; have hr_w0_aB := hf_w0_aB.reads; replace hr_w0_aA := hr_w0_aA.below (by first | exact hb_w0_aB | exact (belD belR).trans hb_w0_aB | exact below_call (by repeat (first | with_reducible exact belR | with_reducible apply belA | (with_reducible refine belS ?_ ?_; focus (first | omega | (simp; done) | (simp; omega))) | with_reducible apply belN | with_reducible apply belD | with_reducible assumption)) (by first | omega | (simp; done) | (simp; omega)) hb_w0_aB)) | (go_at_call 18; have hS_w0_aA := ‹_ ∧ _ ∧ Below w3.heap.size w3 _›; refine (toReplica _ a0 _ (HA0.out.reads.below hS_w0_aA.2.2) (by first | omega | (simp [DReplica.wt]))).mono ?_; rintro e w4 ⟨d_w0_aA, rfl, hf_w0_aA, hb_w0_aA⟩; have hq_w0_aA : Below w3.heap.size w3 w4 := below_call hS_w0_aA.2.2 hS_w0_aA.2.2.size hb_w0_aA; clear hS_w0_aA; obtain ⟨ao_w0_aA_0, cap_w0_aA_0, ao_w0_aA_1, cap_w0_aA_1, rfl⟩ := DReplica.fshape hf_w0_aA; have hr_w0_aA := hf_w0_aA.reads))
  have hw := hq_F6
  have hsw6 : w3.heap.size ≤ w6.heap.size := hq_F6.size
  clear cx_aA zx_aA
  replace HX_aA := Lib.hid (HX_aA.out.below hw)
  clear cx_aB zx_aB
  replace HX_aB := Lib.hid (HX_aB.out.below hw)
  have ⟨cx_aA, zx_aA⟩ := HX_aA.out
  have ⟨cx_aB, zx_aB⟩ := HX_aB.out
  replace HA0 := Lib.hid (HA0.out.below hw)
  replace HA1 := Lib.hid (HA1.out.below hw)
  replace HB := Lib.hid (below_call HB.out HB.out.size hw)
  clear hw
  go_wp2_with fail
  refine (toReplica _ a0 _ (HA0.out.reads.below (by repeat (first | with_reducible exact belR | with_reducible apply belA | (with_reducible refine belS ?_ ?_; focus (first | omega | (simp; done) | (simp; omega))) | with_reducible apply belN | with_reducible apply belD | with_reducible assumption))) (by first | omega | (simp [DReplica.wt]))).mono ?_
  rintro e w7 ⟨d_x0, rfl, hf, hb⟩
  obtain ⟨ao_x0_0, cap_x0_0, ao_x0_1, cap_x0_1, rfl⟩ := DReplica.fshape hf
  obtain ⟨fp_x0, o_x0⟩ := Fresh.own hf (lo := w6.heap.size) (by first | omega | (simp; done) | (simp; omega))
  have H_x0 := Lib.hid o_x0; clear o_x0
  have hw : Below w6.heap.size w6 w7 := below_call (by repeat (first | with_reducible exact belR | with_reducible apply belA | (with_reducible refine belS ?_ ?_; focus (first | omega | (simp; done) | (simp; omega))) | with_reducible apply belN | with_reducible apply belD | with_reducible assumption)) (by first | omega | (simp; done) | (simp; omega)) hb
  have hsw7 : w6.heap.size ≤ w7.heap.size := by have y := hb.size; (try simp at y); omega
  clear cx_aA zx_aA
  replace HX_aA := Lib.hid (HX_aA.out.below hw)
  clear cx_aB zx_aB
  replace HX_aB := Lib.hid (HX_aB.out.below hw)
  have ⟨cx_aA, zx_aA⟩ := HX_aA.out
  have ⟨cx_aB, zx_aB⟩ := HX_aB.out
  replace HA0 := Lib.hid (HA0.out.below hw)
  replace HA1 := Lib.hid (HA1.out.below hw)
  replace HB := Lib.hid (below_call HB.out HB.out.size hw)
  clear hw
  clear hb hf
  go_wp2_with fail
  refine (toReplica _ a1 _ (HA1.out.reads.below (by repeat (first | with_reducible exact belR | with_reducible apply belA | (with_reducible refine belS ?_ ?_; focus (first | omega | (simp; done) | (simp; omega))) | with_reducible apply belN | with_reducible apply belD | with_reducible assumption))) (by first | omega | (simp [DReplica.wt]))).mono ?_
  rintro e w8 ⟨d_x1, rfl, hf, hb⟩
  obtain ⟨ao_x1_0, cap_x1_0, ao_x1_1, cap_x1_1, rfl⟩ := DReplica.fshape hf
  obtain ⟨fp_x1, o_x1⟩ := Fresh.own hf (lo := w7.heap.size + 1) (by first | omega | (simp; done) | (simp; omega))
  have H_x1 := Lib.hid o_x1; clear o_x1
  have hw : Below w7.heap.size w7 w8 := below_call (by repeat (first | with_reducible exact belR | with_reducible apply belA | (with_reducible refine belS ?_ ?_; focus (first | omega | (simp; done) | (simp; omega))) | with_reducible apply belN | with_reducible apply belD | with_reducible assumption)) (by first | omega | (simp; done) | (simp; omega)) hb
  have hsw8 : w7.heap.size + 1 ≤ w8.heap.size := by have y := hb.size; (try simp at y); omega
  clear cx_aA zx_aA
  replace HX_aA := Lib.hid (HX_aA.out.below hw)
  clear cx_aB zx_aB
  replace HX_aB := Lib.hid (HX_aB.out.below hw)
  have HX_x0 : Hid (Box w8 (w7.heap.size) #[.string (a0).base.name, .slice ao_x0_0 (a0).base.items.length cap_x0_0, .int .i64 (a0).base.auto, .int .i64 (a0).seen, .int .i64 (a0).sync.outbox.device, .int .i64 (a0).sync.outbox.next, .slice ao_x0_1 (a0).sync.outbox.writes.length cap_x0_1, .int .i64 (a0).sync.tries, .int .i64 (a0).sync.waitUntil]) := Lib.hid (Box.below (Box.at (by first | rfl | simp)) hb)
  have ⟨cx_aA, zx_aA⟩ := HX_aA.out
  have ⟨cx_aB, zx_aB⟩ := HX_aB.out
  have ⟨cx_x0, zx_x0⟩ := HX_x0.out
  replace HA0 := Lib.hid (HA0.out.below hw)
  replace HA1 := Lib.hid (HA1.out.below hw)
  replace H_x0 := Lib.hid (H_x0.out.below hw)
  replace HB := Lib.hid (below_call HB.out HB.out.size hw)
  clear hw
  clear hb hf
  go_wp2_with fail
  refine (hI _ a0 _ a1 _ (H_x0.out.reads.below (by repeat (first | with_reducible exact belR | with_reducible apply belA | (with_reducible refine belS ?_ ?_; focus (first | omega | (simp; done) | (simp; omega))) | with_reducible apply belN | with_reducible apply belD | with_reducible assumption))) (H_x1.out.reads.below (by repeat (first | with_reducible exact belR | with_reducible apply belA | (with_reducible refine belS ?_ ?_; focus (first | omega | (simp; done) | (simp; omega))) | with_reducible apply belN | with_reducible apply belD | with_reducible assumption))) (by first | omega | exact hv_aA) (by first | omega | exact hv_aB)).mono ?_
  rintro e w9 ⟨rfl, hb⟩
  have hw : Below w8.heap.size w8 w9 := below_call (by repeat (first | with_reducible exact belR | with_reducible apply belA | (with_reducible refine belS ?_ ?_; focus (first | omega | (simp; done) | (simp; omega))) | with_reducible apply belN | with_reducible apply belD | with_reducible assumption)) (by first | omega | (simp; done) | (simp; omega)) hb
  have hsw9 : w8.heap.size + 1 ≤ w9.heap.size := by have y := hb.size; (try simp at y); omega
  clear cx_aA zx_aA
  replace HX_aA := Lib.hid (HX_aA.out.below hw)
  clear cx_aB zx_aB
  replace HX_aB := Lib.hid (HX_aB.out.below hw)
  clear cx_x0 zx_x0
  replace HX_x0 := Lib.hid (HX_x0.out.below hw)
  have HX_x1 : Hid (Box w9 (w8.heap.size) #[.string (a1).base.name, .slice ao_x1_0 (a1).base.items.length cap_x1_0, .int .i64 (a1).base.auto, .int .i64 (a1).seen, .int .i64 (a1).sync.outbox.device, .int .i64 (a1).sync.outbox.next, .slice ao_x1_1 (a1).sync.outbox.writes.length cap_x1_1, .int .i64 (a1).sync.tries, .int .i64 (a1).sync.waitUntil]) := Lib.hid (Box.below (Box.at (by first | rfl | simp)) hb)
  have ⟨cx_aA, zx_aA⟩ := HX_aA.out
  have ⟨cx_aB, zx_aB⟩ := HX_aB.out
  have ⟨cx_x0, zx_x0⟩ := HX_x0.out
  have ⟨cx_x1, zx_x1⟩ := HX_x1.out
  replace HA0 := Lib.hid (HA0.out.below hw)
  replace HA1 := Lib.hid (HA1.out.below hw)
  replace H_x0 := Lib.hid (H_x0.out.below hw)
  replace H_x1 := Lib.hid (H_x1.out.below hw)
  replace HB := Lib.hid (below_call HB.out HB.out.size hw)
  clear hw
  clear hb
  go_wp2_with fail
  refine settle (fun W' => Below w9.heap.size w9 W' ∧ w9.heap.size ≤ W'.heap.size) ⟨(by repeat (first | with_reducible exact belR | with_reducible apply belA | (with_reducible refine belS ?_ ?_; focus (first | omega | (simp; done) | (simp; omega))) | with_reducible apply belN | with_reducible apply belD | with_reducible assumption)), (by first | omega | (simp; done) | (simp; omega))⟩ ?_
  rintro w10 ⟨hw, hsw10⟩
  clear cx_aA zx_aA
  replace HX_aA := Lib.hid (HX_aA.out.below hw)
  clear cx_aB zx_aB
  replace HX_aB := Lib.hid (HX_aB.out.below hw)
  clear cx_x0 zx_x0
  replace HX_x0 := Lib.hid (HX_x0.out.below hw)
  clear cx_x1 zx_x1
  replace HX_x1 := Lib.hid (HX_x1.out.below hw)
  have ⟨cx_aA, zx_aA⟩ := HX_aA.out
  have ⟨cx_aB, zx_aB⟩ := HX_aB.out
  have ⟨cx_x0, zx_x0⟩ := HX_x0.out
  have ⟨cx_x1, zx_x1⟩ := HX_x1.out
  replace HA0 := Lib.hid (HA0.out.below hw)
  replace HA1 := Lib.hid (HA1.out.below hw)
  replace H_x0 := Lib.hid (H_x0.out.below hw)
  replace H_x1 := Lib.hid (H_x1.out.below hw)
  replace HB := Lib.hid (below_call HB.out HB.out.size hw)
  clear hw
  go_region_held3 (fun w' => (∀ o, w'.cell? ⟨w7.heap.size, o, none⟩ = #[.string (a0).base.name, .slice ao_x0_0 (a0).base.items.length cap_x0_0, .int .i64 (a0).base.auto, .int .i64 (a0).seen, .int .i64 (a0).sync.outbox.device, .int .i64 (a0).sync.outbox.next, .slice ao_x0_1 (a0).sync.outbox.writes.length cap_x0_1, .int .i64 (a0).sync.tries, .int .i64 (a0).sync.waitUntil][o]?) ∧ (∀ o, w'.cell? ⟨w.heap.size, o, none⟩ = #[.string a0.base.name, .slice ao0_0 a0.base.items.length cap0_0, .int .i64 a0.base.auto, .int .i64 a0.seen, .int .i64 a0.sync.outbox.device, .int .i64 a0.sync.outbox.next, .slice ao0_1 a0.sync.outbox.writes.length cap0_1, .int .i64 a0.sync.tries, .int .i64 a0.sync.waitUntil][o]?) ∧ Below w10.heap.size w10 w')
    (first | exact ⟨fun o => (World.cell?_drew _ _ |>.trans <| hq_E12.cell (p := ⟨w7.heap.size, o, none⟩) zx_x0).trans (cx_x0 o), fun o => (World.cell?_drew _ _ |>.trans <| hq_E12.cell (p := ⟨w.heap.size, o, none⟩) zx_aA).trans (cx_aA o), belD hq_E12⟩ | exact ⟨fun o => (hq_E12.cell (p := ⟨w7.heap.size, o, none⟩) zx_x0).trans (cx_x0 o), fun o => (hq_E12.cell (p := ⟨w.heap.size, o, none⟩) zx_aA).trans (cx_aA o), hq_E12⟩ | exact ⟨fun o => (World.cell?_drew _ _ |>.trans <| hq_x0_e10.cell (p := ⟨w7.heap.size, o, none⟩) zx_x0).trans (cx_x0 o), fun o => (World.cell?_drew _ _ |>.trans <| hq_x0_e10.cell (p := ⟨w.heap.size, o, none⟩) zx_aA).trans (cx_aA o), belD hq_x0_e10⟩ | exact ⟨fun o => (hq_x0_e10.cell (p := ⟨w7.heap.size, o, none⟩) zx_x0).trans (cx_x0 o), fun o => (hq_x0_e10.cell (p := ⟨w.heap.size, o, none⟩) zx_aA).trans (cx_aA o), hq_x0_e10⟩ | exact ⟨cx_x0, cx_aA, belR⟩ | exact ⟨cx_x0, cx_aA, belD belR⟩)
    (first | (go_at_call 20; have hx := hq_x0_e10; clear hx; have hS_E12 := ‹_ ∧ _ ∧ Below w10.heap.size w10 _›; refine (eqReplica _ _ a0 _ (H_x0.out.reads.below hS_E12.2.2) (hr_x0_e10.below (by first | exact belR | exact belD belR | exact belN (belD belR)))).mono ?_; rintro e w12 ⟨rfl, hb_E12⟩; have hq_E12 : Below w10.heap.size w10 w12 := below_call hS_E12.2.2 hS_E12.2.2.size hb_E12; clear hS_E12) | (go_at_call 18; have hS_x0_e10 := ‹_ ∧ _ ∧ Below w10.heap.size w10 _›; refine (toReplica _ a0 _ (HA0.out.reads.below hS_x0_e10.2.2) (by first | omega | (simp [DReplica.wt]))).mono ?_; rintro e w11 ⟨d_x0_e10, rfl, hf_x0_e10, hb_x0_e10⟩; have hq_x0_e10 : Below w10.heap.size w10 w11 := below_call hS_x0_e10.2.2 hS_x0_e10.2.2.size hb_x0_e10; clear hS_x0_e10; obtain ⟨ao_x0_e10_0, cap_x0_e10_0, ao_x0_e10_1, cap_x0_e10_1, rfl⟩ := DReplica.fshape hf_x0_e10; have hr_x0_e10 := hf_x0_e10.reads))
  have hw := hq_E12
  have hsw12 : w10.heap.size ≤ w12.heap.size := hq_E12.size
  clear cx_aA zx_aA
  replace HX_aA := Lib.hid (HX_aA.out.below hw)
  clear cx_aB zx_aB
  replace HX_aB := Lib.hid (HX_aB.out.below hw)
  clear cx_x0 zx_x0
  replace HX_x0 := Lib.hid (HX_x0.out.below hw)
  clear cx_x1 zx_x1
  replace HX_x1 := Lib.hid (HX_x1.out.below hw)
  have ⟨cx_aA, zx_aA⟩ := HX_aA.out
  have ⟨cx_aB, zx_aB⟩ := HX_aB.out
  have ⟨cx_x0, zx_x0⟩ := HX_x0.out
  have ⟨cx_x1, zx_x1⟩ := HX_x1.out
  replace HA0 := Lib.hid (HA0.out.below hw)
  replace HA1 := Lib.hid (HA1.out.below hw)
  replace H_x0 := Lib.hid (H_x0.out.below hw)
  replace H_x1 := Lib.hid (H_x1.out.below hw)
  replace HB := Lib.hid (below_call HB.out HB.out.size hw)
  clear hw
  go_wp2_with fail
  refine settle (fun W' => Below w12.heap.size w12 W' ∧ w12.heap.size ≤ W'.heap.size) ⟨(by repeat (first | with_reducible exact belR | with_reducible apply belA | (with_reducible refine belS ?_ ?_; focus (first | omega | (simp; done) | (simp; omega))) | with_reducible apply belN | with_reducible apply belD | with_reducible assumption)), (by first | omega | (simp; done) | (simp; omega))⟩ ?_
  rintro w13 ⟨hw, hsw13⟩
  clear cx_aA zx_aA
  replace HX_aA := Lib.hid (HX_aA.out.below hw)
  clear cx_aB zx_aB
  replace HX_aB := Lib.hid (HX_aB.out.below hw)
  clear cx_x0 zx_x0
  replace HX_x0 := Lib.hid (HX_x0.out.below hw)
  clear cx_x1 zx_x1
  replace HX_x1 := Lib.hid (HX_x1.out.below hw)
  have ⟨cx_aA, zx_aA⟩ := HX_aA.out
  have ⟨cx_aB, zx_aB⟩ := HX_aB.out
  have ⟨cx_x0, zx_x0⟩ := HX_x0.out
  have ⟨cx_x1, zx_x1⟩ := HX_x1.out
  replace HA0 := Lib.hid (HA0.out.below hw)
  replace HA1 := Lib.hid (HA1.out.below hw)
  replace H_x0 := Lib.hid (H_x0.out.below hw)
  replace H_x1 := Lib.hid (H_x1.out.below hw)
  replace HB := Lib.hid (below_call HB.out HB.out.size hw)
  clear hw
  go_region_held3 (fun w' => (∀ o, w'.cell? ⟨w8.heap.size, o, none⟩ = #[.string (a1).base.name, .slice ao_x1_0 (a1).base.items.length cap_x1_0, .int .i64 (a1).base.auto, .int .i64 (a1).seen, .int .i64 (a1).sync.outbox.device, .int .i64 (a1).sync.outbox.next, .slice ao_x1_1 (a1).sync.outbox.writes.length cap_x1_1, .int .i64 (a1).sync.tries, .int .i64 (a1).sync.waitUntil][o]?) ∧ (∀ o, w'.cell? ⟨w.heap.size + 1, o, none⟩ = #[.string a1.base.name, .slice ao1_0 a1.base.items.length cap1_0, .int .i64 a1.base.auto, .int .i64 a1.seen, .int .i64 a1.sync.outbox.device, .int .i64 a1.sync.outbox.next, .slice ao1_1 a1.sync.outbox.writes.length cap1_1, .int .i64 a1.sync.tries, .int .i64 a1.sync.waitUntil][o]?) ∧ Below w13.heap.size w13 w')
    (first | exact ⟨fun o => (World.cell?_drew _ _ |>.trans <| hq_E15.cell (p := ⟨w8.heap.size, o, none⟩) zx_x1).trans (cx_x1 o), fun o => (World.cell?_drew _ _ |>.trans <| hq_E15.cell (p := ⟨w.heap.size + 1, o, none⟩) zx_aB).trans (cx_aB o), belD hq_E15⟩ | exact ⟨fun o => (hq_E15.cell (p := ⟨w8.heap.size, o, none⟩) zx_x1).trans (cx_x1 o), fun o => (hq_E15.cell (p := ⟨w.heap.size + 1, o, none⟩) zx_aB).trans (cx_aB o), hq_E15⟩ | exact ⟨fun o => (World.cell?_drew _ _ |>.trans <| hq_x1_e13.cell (p := ⟨w8.heap.size, o, none⟩) zx_x1).trans (cx_x1 o), fun o => (World.cell?_drew _ _ |>.trans <| hq_x1_e13.cell (p := ⟨w.heap.size + 1, o, none⟩) zx_aB).trans (cx_aB o), belD hq_x1_e13⟩ | exact ⟨fun o => (hq_x1_e13.cell (p := ⟨w8.heap.size, o, none⟩) zx_x1).trans (cx_x1 o), fun o => (hq_x1_e13.cell (p := ⟨w.heap.size + 1, o, none⟩) zx_aB).trans (cx_aB o), hq_x1_e13⟩ | exact ⟨cx_x1, cx_aB, belR⟩ | exact ⟨cx_x1, cx_aB, belD belR⟩)
    (first | (go_at_call 20; have hx := hq_x1_e13; clear hx; have hS_E15 := ‹_ ∧ _ ∧ Below w13.heap.size w13 _›; refine (eqReplica _ _ a1 _ (H_x1.out.reads.below hS_E15.2.2) (hr_x1_e13.below (by first | exact belR | exact belD belR | exact belN (belD belR)))).mono ?_; rintro e w15 ⟨rfl, hb_E15⟩; have hq_E15 : Below w13.heap.size w13 w15 := below_call hS_E15.2.2 hS_E15.2.2.size hb_E15; clear hS_E15) | (go_at_call 18; have hS_x1_e13 := ‹_ ∧ _ ∧ Below w13.heap.size w13 _›; refine (toReplica _ a1 _ (HA1.out.reads.below hS_x1_e13.2.2) (by first | omega | (simp [DReplica.wt]))).mono ?_; rintro e w14 ⟨d_x1_e13, rfl, hf_x1_e13, hb_x1_e13⟩; have hq_x1_e13 : Below w13.heap.size w13 w14 := below_call hS_x1_e13.2.2 hS_x1_e13.2.2.size hb_x1_e13; clear hS_x1_e13; obtain ⟨ao_x1_e13_0, cap_x1_e13_0, ao_x1_e13_1, cap_x1_e13_1, rfl⟩ := DReplica.fshape hf_x1_e13; have hr_x1_e13 := hf_x1_e13.reads))
  have hw := hq_E15
  have hsw15 : w13.heap.size ≤ w15.heap.size := hq_E15.size
  clear cx_aA zx_aA
  replace HX_aA := Lib.hid (HX_aA.out.below hw)
  clear cx_aB zx_aB
  replace HX_aB := Lib.hid (HX_aB.out.below hw)
  clear cx_x0 zx_x0
  replace HX_x0 := Lib.hid (HX_x0.out.below hw)
  clear cx_x1 zx_x1
  replace HX_x1 := Lib.hid (HX_x1.out.below hw)
  have ⟨cx_aA, zx_aA⟩ := HX_aA.out
  have ⟨cx_aB, zx_aB⟩ := HX_aB.out
  have ⟨cx_x0, zx_x0⟩ := HX_x0.out
  have ⟨cx_x1, zx_x1⟩ := HX_x1.out
  replace HA0 := Lib.hid (HA0.out.below hw)
  replace HA1 := Lib.hid (HA1.out.below hw)
  replace H_x0 := Lib.hid (H_x0.out.below hw)
  replace H_x1 := Lib.hid (H_x1.out.below hw)
  replace HB := Lib.hid (below_call HB.out HB.out.size hw)
  clear hw
  go_wp2_with fail
  go_ret
  have y := HB.out
  exact ⟨rfl, (by repeat (first | with_reducible exact belR | with_reducible apply belA | (with_reducible refine belS ?_ ?_; focus (first | omega | (simp; done) | (simp; omega))) | with_reducible apply belN | with_reducible apply belD | with_reducible assumption))⟩

set_option maxRecDepth 100000 in
set_option maxHeartbeats 1000000 in
theorem equalReplicas_lifted (f0 : DReplica → DReplica → Bool) (hS : SaidEqualReplicas f0 17) (hI : SaidEqualReplicas f0 19) (os : Os) (started : os.Started) (H : Type) (enc : TypeId × Value → H) :
    ReturnsInHanded {} Try.checked os 4 .any (Rows.fnExactEqualReplicasSpec.pre6 enc Try.prog Try.f4 Rows.fnExactEqualReplicasRow.domain false) (Rows.fnExactEqualReplicasSpec.post enc Try.prog Try.f4 false true false false) := by
  refine law_lift (C := Try.checked) Try.own started (by kernel_rfl) Try.func4 Try.laidOut (by kernel_rfl) rfl Try.underlying4 rfl ?_
    (ChangeSpec.witness6 (enc := enc) (C := Try.checked) false ⟨#[], #[.agg #[.string ByteArray.empty, .slice none 0 0, .int .i64 0, .int .i64 0, .int .i64 0, .int .i64 0, .slice none 0 0, .int .i64 0, .int .i64 0], .agg #[.string ByteArray.empty, .slice none 0 0, .int .i64 0, .int .i64 0, .int .i64 0, .int .i64 0, .slice none 0 0, .int .i64 0, .int .i64 0]], []⟩ 8 (by kernel_rfl) (by kernel_rfl) (by kernel_rfl) (by kernel_rfl)) ?_
  · intro ds h
    match ds, h with
    | [_, _], _ => rfl
  · intro W base args ds ps hval hA0
    have hA : DataW.TrodAll enc Try.prog W 0 (fun _ => true) true Try.f4.params.toList args.toList ds ps := hA0
    rw [Try.params4] at hA hval
    obtain ⟨v0, v1, _, _, _, _, rfl, t0, t1⟩ := trodAll_open2 hA
    obtain ⟨c0, a0, rfl, r0⟩ := arg_struct Try.underlying45 DReplica.opens_laws (hval 0 45 v0 rfl rfl) t0
    obtain ⟨c1, a1, rfl, r1⟩ := arg_struct Try.underlying45 DReplica.opens_laws (hval 1 45 v1 rfl rfl) t1
    exact lawEqualReplicas f0 hS hI c0.toList a0 c1.toList a1 W r0 r1

theorem equalReplicas_of (f0 : DReplica → DReplica → Bool) (hS : SaidEqualReplicas f0 17) (hI : SaidEqualReplicas f0 19) : Rows.FnExactEqualReplicasSaid :=
  OpenClaim.holds_of_wide 4 Try.f4 rfl rfl rfl rfl rfl rfl rfl ⟨rfl, rfl, rfl, rfl, rfl⟩ rfl rfl rfl rfl rfl (by kernel_rfl) Try.func4 (by kernel_rfl)
    (of_decide_eq_true (by kernel_rfl)) (by unfold Func.isWrapper; rw [if_neg (by decide +kernel)]; exact ⟨rfl, rfl⟩)
    (fun os started H enc _ => equalReplicas_lifted f0 hS hI os started H enc)

end Go.Proofs.Ytjdoofekohjjlaa
