/-
  FnExactNewOutbox: the law's walk, and its row, off the contracts of impl.NewOutbox and spec.NewOutbox.
-/
import Derived.Test.YtglgjcdnfmlijaaLOutbox
import Derived.Test.YtglgjcdnfmlijaaMarkSl
import Derived.Test.YtglgjcdnfmlijaaSlices
import Derived.Test.YtglgjcdnfmlijaaLaw
import Derived.Test.YtglgjcdnfmlijaaEnv
namespace Go.Proofs.Ytglgjcdnfmlijaa
open Go.RowKit Go.ChangeShapes

/-- What impl.NewOutbox and spec.NewOutbox are both shown to compute. -/
def SaidNewOutbox (f0 : Int → DOutbox) (f1 : Int → Bool) (f : FuncId) : Prop :=
  ∀ (a0 : Int) (w : World) , Calls Try.prog f #[.int .i64 a0] w fun e w' => ∃ (d0 : List Value), e = .returned (.tuple #[.agg d0.toArray, .bool (f1 a0)]) ∧ Fresh DOutbox.rep w.heap.size w' d0 (f0 a0) ∧ Below w.heap.size w w'

set_option maxRecDepth 100000 in
set_option maxHeartbeats 16000000 in
theorem lawNewOutbox (f0 : Int → DOutbox) (f1 : Int → Bool) (hS : SaidNewOutbox f0 f1 37) (hI : SaidNewOutbox f0 f1 38) (hm_g0 : ∀ (a0 : Int), ((f0 a0)).mcnt ≤ 400000000) (a0 : Int) (w : World)   :
    Calls Try.prog 6 #[.int .i64 a0] w fun e w' => e = .returned (.bool true) ∧ Below w.heap.size w w' := by
  have HB : Hid (Below w.heap.size w w) := Lib.hid belR
  go_enter Try.func6, Try.ntmps6
  go_wp2_with fail
  refine (hS a0 _  ).mono ?_
  rintro e w1 ⟨d_w_0, rfl, hf0, hb⟩
  obtain ⟨ao_w0_0, cap_w0_0, rfl⟩ := DOutbox.fshape hf0
  obtain ⟨fp_w0, o_w0⟩ := Fresh.own hf0 (lo := w.heap.size) (by first | omega | (simp; done) | (simp; omega))
  have H_w0 := Lib.hid o_w0; clear o_w0
  have hw : Below w.heap.size w w1 := below_call (by repeat (first | with_reducible exact belR | with_reducible apply belA | (with_reducible refine belS ?_ ?_; focus (first | omega | (simp; done) | (simp; omega))) | with_reducible apply belN | with_reducible apply belD | with_reducible assumption)) (by first | omega | (simp; done) | (simp; omega)) hb
  have hsw1 : w.heap.size ≤ w1.heap.size := by have y := hb.size; (try simp at y); omega
  replace HB := Lib.hid (below_call HB.out HB.out.size hw)
  clear hw
  clear hb
  go_wp2_with fail
  refine (hI a0 _  ).mono ?_
  rintro e w2 ⟨d_g_0, rfl, hf0, hb⟩
  obtain ⟨ao_g0_0, cap_g0_0, rfl⟩ := DOutbox.fshape hf0
  obtain ⟨fp_g0, o_g0⟩ := Fresh.own hf0 (lo := w1.heap.size + 1) (by first | omega | (simp; done) | (simp; omega))
  have H_g0 := Lib.hid o_g0; clear o_g0
  have hw : Below w1.heap.size w1 w2 := below_call (by repeat (first | with_reducible exact belR | with_reducible apply belA | (with_reducible refine belS ?_ ?_; focus (first | omega | (simp; done) | (simp; omega))) | with_reducible apply belN | with_reducible apply belD | with_reducible assumption)) (by first | omega | (simp; done) | (simp; omega)) hb
  have hsw2 : w1.heap.size + 1 ≤ w2.heap.size := by have y := hb.size; (try simp at y); omega
  have HX_w0 : Hid (Box w2 (w1.heap.size) #[.int .i64 ((f0 a0)).device, .int .i64 ((f0 a0)).next, .slice ao_w0_0 ((f0 a0)).writes.length cap_w0_0]) := Lib.hid (Box.below (Box.at (by first | rfl | simp)) hb)
  have ⟨cx_w0, zx_w0⟩ := HX_w0.out
  replace H_w0 := Lib.hid (H_w0.out.below hw)
  replace HB := Lib.hid (below_call HB.out HB.out.size hw)
  clear hw
  clear hb
  go_wp2_with fail
  refine (eqOutbox _ _ (f0 a0) _ (H_g0.out.reads.below (by repeat (first | with_reducible exact belR | with_reducible apply belA | (with_reducible refine belS ?_ ?_; focus (first | omega | (simp; done) | (simp; omega))) | with_reducible apply belN | with_reducible apply belD | with_reducible assumption))) (H_w0.out.reads.below (by repeat (first | with_reducible exact belR | with_reducible apply belA | (with_reducible refine belS ?_ ?_; focus (first | omega | (simp; done) | (simp; omega))) | with_reducible apply belN | with_reducible apply belD | with_reducible assumption)))).mono ?_
  rintro e w3 ⟨rfl, hb⟩
  have hw : Below w2.heap.size w2 w3 := below_call (by repeat (first | with_reducible exact belR | with_reducible apply belA | (with_reducible refine belS ?_ ?_; focus (first | omega | (simp; done) | (simp; omega))) | with_reducible apply belN | with_reducible apply belD | with_reducible assumption)) (by first | omega | (simp; done) | (simp; omega)) hb
  have hsw3 : w2.heap.size + 1 ≤ w3.heap.size := by have y := hb.size; (try simp at y); omega
  clear cx_w0 zx_w0
  replace HX_w0 := Lib.hid (HX_w0.out.below hw)
  have HX_g0 : Hid (Box w3 (w2.heap.size) #[.int .i64 ((f0 a0)).device, .int .i64 ((f0 a0)).next, .slice ao_g0_0 ((f0 a0)).writes.length cap_g0_0]) := Lib.hid (Box.below (Box.at (by first | rfl | simp)) hb)
  have ⟨cx_w0, zx_w0⟩ := HX_w0.out
  have ⟨cx_g0, zx_g0⟩ := HX_g0.out
  replace H_w0 := Lib.hid (H_w0.out.below hw)
  replace H_g0 := Lib.hid (H_g0.out.below hw)
  replace HB := Lib.hid (below_call HB.out HB.out.size hw)
  clear hw
  clear hb
  go_wp2_with fail
  have hk_g0 := (hm_g0 a0 )
  refine (markOutbox _ (f0 a0) fp_g0 (1) _ H_g0.out.rd H_g0.out.nodup (by omega)).mono ?_
  rintro e w4 ⟨rfl, hrd, hc⟩
  have hnew := Own.mk hrd H_g0.out.nodup (H_g0.out.ivl)
  have hq := H_g0.out.ivl
  have hsw4 : w3.heap.size ≤ w4.heap.size := hc.size
  clear cx_w0 zx_w0
  replace HX_w0 := Lib.hid (HX_w0.out.chg hc hq (by omega))
  clear cx_g0 zx_g0
  replace HX_g0 := Lib.hid (HX_g0.out.chg hc hq (by omega))
  have ⟨cx_w0, zx_w0⟩ := HX_w0.out
  have ⟨cx_g0, zx_g0⟩ := HX_g0.out
  replace H_w0 := Lib.hid (H_w0.out.chg hc (Own.apart H_w0.out H_g0.out (by omega)))
  replace HB := Lib.hid (Below.chg HB.out hc hq (by omega) HB.out.size)
  clear hq
  replace H_g0 := Lib.hid hnew; clear hnew hrd hc
  go_wp2_with fail
  refine (heldOutbox _ (f0 a0) (1) _ (H_g0.out.reads.below (by repeat (first | with_reducible exact belR | with_reducible apply belA | (with_reducible refine belS ?_ ?_; focus (first | omega | (simp; done) | (simp; omega))) | with_reducible apply belN | with_reducible apply belD | with_reducible assumption))) (by omega)).mono ?_
  rintro e w5 ⟨rfl, hb⟩
  have hw : Below w4.heap.size w4 w5 := below_call (by repeat (first | with_reducible exact belR | with_reducible apply belA | (with_reducible refine belS ?_ ?_; focus (first | omega | (simp; done) | (simp; omega))) | with_reducible apply belN | with_reducible apply belD | with_reducible assumption)) (by first | omega | (simp; done) | (simp; omega)) hb
  have hsw5 : w4.heap.size ≤ w5.heap.size := by have y := hb.size; (try simp at y); omega
  clear cx_w0 zx_w0
  replace HX_w0 := Lib.hid (HX_w0.out.below hw)
  clear cx_g0 zx_g0
  replace HX_g0 := Lib.hid (HX_g0.out.below hw)
  have ⟨cx_w0, zx_w0⟩ := HX_w0.out
  have ⟨cx_g0, zx_g0⟩ := HX_g0.out
  replace H_w0 := Lib.hid (H_w0.out.below hw)
  replace H_g0 := Lib.hid (H_g0.out.below hw)
  replace HB := Lib.hid (below_call HB.out HB.out.size hw)
  clear hw
  clear hb
  go_wp2_with fail
  refine (hI a0 _  ).mono ?_
  rintro e w6 ⟨d_h_0, rfl, hf0, hb⟩
  obtain ⟨ao_h0_0, cap_h0_0, rfl⟩ := DOutbox.fshape hf0
  obtain ⟨fp_h0, o_h0⟩ := Fresh.own hf0 (lo := w5.heap.size) (by first | omega | (simp; done) | (simp; omega))
  have H_h0 := Lib.hid o_h0; clear o_h0
  have hw : Below w5.heap.size w5 w6 := below_call (by repeat (first | with_reducible exact belR | with_reducible apply belA | (with_reducible refine belS ?_ ?_; focus (first | omega | (simp; done) | (simp; omega))) | with_reducible apply belN | with_reducible apply belD | with_reducible assumption)) (by first | omega | (simp; done) | (simp; omega)) hb
  have hsw6 : w5.heap.size ≤ w6.heap.size := by have y := hb.size; (try simp at y); omega
  clear cx_w0 zx_w0
  replace HX_w0 := Lib.hid (HX_w0.out.below hw)
  clear cx_g0 zx_g0
  replace HX_g0 := Lib.hid (HX_g0.out.below hw)
  have ⟨cx_w0, zx_w0⟩ := HX_w0.out
  have ⟨cx_g0, zx_g0⟩ := HX_g0.out
  replace H_w0 := Lib.hid (H_w0.out.below hw)
  replace H_g0 := Lib.hid (H_g0.out.below hw)
  replace HB := Lib.hid (below_call HB.out HB.out.size hw)
  clear hw
  clear hb
  go_wp2_with fail
  refine (eqOutbox _ _ (f0 a0) _ (H_h0.out.reads.below (by repeat (first | with_reducible exact belR | with_reducible apply belA | (with_reducible refine belS ?_ ?_; focus (first | omega | (simp; done) | (simp; omega))) | with_reducible apply belN | with_reducible apply belD | with_reducible assumption))) (H_w0.out.reads.below (by repeat (first | with_reducible exact belR | with_reducible apply belA | (with_reducible refine belS ?_ ?_; focus (first | omega | (simp; done) | (simp; omega))) | with_reducible apply belN | with_reducible apply belD | with_reducible assumption)))).mono ?_
  rintro e w7 ⟨rfl, hb⟩
  have hw : Below w6.heap.size w6 w7 := below_call (by repeat (first | with_reducible exact belR | with_reducible apply belA | (with_reducible refine belS ?_ ?_; focus (first | omega | (simp; done) | (simp; omega))) | with_reducible apply belN | with_reducible apply belD | with_reducible assumption)) (by first | omega | (simp; done) | (simp; omega)) hb
  have hsw7 : w6.heap.size + 1 ≤ w7.heap.size := by have y := hb.size; (try simp at y); omega
  clear cx_w0 zx_w0
  replace HX_w0 := Lib.hid (HX_w0.out.below hw)
  clear cx_g0 zx_g0
  replace HX_g0 := Lib.hid (HX_g0.out.below hw)
  have HX_h0 : Hid (Box w7 (w6.heap.size) #[.int .i64 ((f0 a0)).device, .int .i64 ((f0 a0)).next, .slice ao_h0_0 ((f0 a0)).writes.length cap_h0_0]) := Lib.hid (Box.below (Box.at (by first | rfl | simp)) hb)
  have ⟨cx_w0, zx_w0⟩ := HX_w0.out
  have ⟨cx_g0, zx_g0⟩ := HX_g0.out
  have ⟨cx_h0, zx_h0⟩ := HX_h0.out
  replace H_w0 := Lib.hid (H_w0.out.below hw)
  replace H_g0 := Lib.hid (H_g0.out.below hw)
  replace H_h0 := Lib.hid (H_h0.out.below hw)
  replace HB := Lib.hid (below_call HB.out HB.out.size hw)
  clear hw
  clear hb
  go_wp2_with fail
  refine (heldOutbox _ (f0 a0) (1) _ (H_g0.out.reads.below (by repeat (first | with_reducible exact belR | with_reducible apply belA | (with_reducible refine belS ?_ ?_; focus (first | omega | (simp; done) | (simp; omega))) | with_reducible apply belN | with_reducible apply belD | with_reducible assumption))) (by omega)).mono ?_
  rintro e w8 ⟨rfl, hb⟩
  have hw : Below w7.heap.size w7 w8 := below_call (by repeat (first | with_reducible exact belR | with_reducible apply belA | (with_reducible refine belS ?_ ?_; focus (first | omega | (simp; done) | (simp; omega))) | with_reducible apply belN | with_reducible apply belD | with_reducible assumption)) (by first | omega | (simp; done) | (simp; omega)) hb
  have hsw8 : w7.heap.size ≤ w8.heap.size := by have y := hb.size; (try simp at y); omega
  clear cx_w0 zx_w0
  replace HX_w0 := Lib.hid (HX_w0.out.below hw)
  clear cx_g0 zx_g0
  replace HX_g0 := Lib.hid (HX_g0.out.below hw)
  clear cx_h0 zx_h0
  replace HX_h0 := Lib.hid (HX_h0.out.below hw)
  have ⟨cx_w0, zx_w0⟩ := HX_w0.out
  have ⟨cx_g0, zx_g0⟩ := HX_g0.out
  have ⟨cx_h0, zx_h0⟩ := HX_h0.out
  replace H_w0 := Lib.hid (H_w0.out.below hw)
  replace H_g0 := Lib.hid (H_g0.out.below hw)
  replace H_h0 := Lib.hid (H_h0.out.below hw)
  replace HB := Lib.hid (below_call HB.out HB.out.size hw)
  clear hw
  clear hb
  go_wp2_with fail
  go_ret
  have y := HB.out
  exact ⟨rfl, (by repeat (first | with_reducible exact belR | with_reducible apply belA | (with_reducible refine belS ?_ ?_; focus (first | omega | (simp; done) | (simp; omega))) | with_reducible apply belN | with_reducible apply belD | with_reducible assumption))⟩

set_option maxRecDepth 100000 in
set_option maxHeartbeats 1000000 in
theorem newOutbox_lifted (f0 : Int → DOutbox) (f1 : Int → Bool) (hS : SaidNewOutbox f0 f1 37) (hI : SaidNewOutbox f0 f1 38) (hm_g0 : ∀ (a0 : Int), ((f0 a0)).mcnt ≤ 400000000) (os : Os) (started : os.Started) (H : Type) (enc : TypeId × Value → H) :
    ReturnsInHanded {} Try.checked os 6 .any (Rows.fnExactNewOutboxSpec.pre6 enc Try.prog Try.f6 Rows.fnExactNewOutboxRow.domain false) (Rows.fnExactNewOutboxSpec.post enc Try.prog Try.f6 false true false false) := by
  refine law_lift (C := Try.checked) Try.own started (by kernel_rfl) Try.func6 Try.laidOut (by kernel_rfl) rfl Try.underlying4 rfl ?_
    (ChangeSpec.witness6 (enc := enc) (C := Try.checked) false ⟨#[], #[.int .i64 0], []⟩ 8 (by kernel_rfl) (by kernel_rfl) (by kernel_rfl) (by kernel_rfl)) ?_
  · intro ds h
    match ds, h with
    | [_], _ => rfl
  · intro W base args ds ps hval hA0
    have hA : DataW.TrodAll enc Try.prog W 0 (fun _ => true) true Try.f6.params.toList args.toList ds ps := hA0
    rw [Try.params6] at hA hval
    obtain ⟨v0, _, _, rfl, t0⟩ := trodAll_open1 hA
    obtain ⟨a0, rfl⟩ := arg_int Try.underlying3 (hval 0 3 v0 rfl rfl) t0
    exact lawNewOutbox f0 f1 hS hI hm_g0 a0 W 

theorem newOutbox_of (f0 : Int → DOutbox) (f1 : Int → Bool) (hS : SaidNewOutbox f0 f1 37) (hI : SaidNewOutbox f0 f1 38) (hm_g0 : ∀ (a0 : Int), ((f0 a0)).mcnt ≤ 400000000) : Rows.FnExactNewOutboxSaid :=
  OpenClaim.holds_of_wide 6 Try.f6 rfl rfl rfl rfl rfl rfl rfl ⟨rfl, rfl, rfl, rfl, rfl⟩ rfl rfl rfl rfl rfl (by kernel_rfl) Try.func6 (by kernel_rfl)
    (of_decide_eq_true (by kernel_rfl)) (by unfold Func.isWrapper; rw [if_neg (by decide +kernel)]; exact ⟨rfl, rfl⟩)
    (fun os started H enc _ => newOutbox_lifted f0 f1 hS hI hm_g0 os started H enc)

end Go.Proofs.Ytglgjcdnfmlijaa
