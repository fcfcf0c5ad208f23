/-
  FnExactLoadFile: the law's walk, and its row, off the contracts of impl.LoadFile and spec.LoadFile.
-/
import Derived.Test.YtamdjeajmfjfmaaLPage
import Derived.Test.YtamdjeajmfjfmaaLResponse
import Derived.Test.YtamdjeajmfjfmaaBase
namespace Go.Proofs.Ytamdjeajmfjfmaa
open Go.RowKit Go.ChangeShapes

theorem sets11_LoadFile {w : World} {k : Nat} {a0 a1 a2 a3 a4 a5 a6 a7 a8 a9 a10 b0 b1 b2 b3 b4 b5 b6 b7 b8 b9 b10 : Value} (h : WB w k #[a0, a1, a2, a3, a4, a5, a6, a7, a8, a9, a10]) : WB (((((((((((w.setCell ⟨k, 0, none⟩ b0).setCell ⟨k, 1, none⟩ b1).setCell ⟨k, 2, none⟩ b2).setCell ⟨k, 3, none⟩ b3).setCell ⟨k, 4, none⟩ b4).setCell ⟨k, 5, none⟩ b5).setCell ⟨k, 6, none⟩ b6).setCell ⟨k, 7, none⟩ b7).setCell ⟨k, 8, none⟩ b8).setCell ⟨k, 9, none⟩ b9).setCell ⟨k, 10, none⟩ b10) k #[b0, b1, b2, b3, b4, b5, b6, b7, b8, b9, b10] :=
  (((((((((((h.setAt (i := 0) (cs' := #[b0, a1, a2, a3, a4, a5, a6, a7, a8, a9, a10]) (by simp) rfl).setAt (i := 1) (cs' := #[b0, b1, a2, a3, a4, a5, a6, a7, a8, a9, a10]) (by simp) rfl).setAt (i := 2) (cs' := #[b0, b1, b2, a3, a4, a5, a6, a7, a8, a9, a10]) (by simp) rfl).setAt (i := 3) (cs' := #[b0, b1, b2, b3, a4, a5, a6, a7, a8, a9, a10]) (by simp) rfl).setAt (i := 4) (cs' := #[b0, b1, b2, b3, b4, a5, a6, a7, a8, a9, a10]) (by simp) rfl).setAt (i := 5) (cs' := #[b0, b1, b2, b3, b4, b5, a6, a7, a8, a9, a10]) (by simp) rfl).setAt (i := 6) (cs' := #[b0, b1, b2, b3, b4, b5, b6, a7, a8, a9, a10]) (by simp) rfl).setAt (i := 7) (cs' := #[b0, b1, b2, b3, b4, b5, b6, b7, a8, a9, a10]) (by simp) rfl).setAt (i := 8) (cs' := #[b0, b1, b2, b3, b4, b5, b6, b7, b8, a9, a10]) (by simp) rfl).setAt (i := 9) (cs' := #[b0, b1, b2, b3, b4, b5, b6, b7, b8, b9, a10]) (by simp) rfl).setAt (i := 10) (cs' := #[b0, b1, b2, b3, b4, b5, b6, b7, b8, b9, b10]) (by simp) rfl)
/-- What impl.LoadFile and spec.LoadFile are both shown to compute. -/
def SaidLoadFile (f0 : DPage → ByteArray → DResponse → DPage) (f1 : DPage → ByteArray → DResponse → Bool) (f : FuncId) : Prop :=
  ∀ (c0 : List Value) (a0 : DPage) (a1 : ByteArray) (c2 : List Value) (a2 : DResponse) (w : World) (_h0 : Reads DPage.rep w c0 a0) (_h2 : Reads DResponse.rep w c2 a2)(_s0 : (a0).wt ≤ 1048576) (_s1 : a1.size ≤ 1048576) (_s2 : (a2).wt ≤ 1048576), Calls Try.prog f #[.agg c0.toArray, .string a1, .agg c2.toArray] w fun e w' => ∃ (d0 : List Value), e = .returned (.tuple #[.agg d0.toArray, .bool (f1 a0 a1 a2)]) ∧ Fresh DPage.rep w.heap.size w' d0 (f0 a0 a1 a2) ∧ Below w.heap.size w w'

set_option maxRecDepth 100000 in
set_option maxHeartbeats 16000000 in
theorem lawLoadFile (f0 : DPage → ByteArray → DResponse → DPage) (f1 : DPage → ByteArray → DResponse → Bool) (hS : SaidLoadFile f0 f1 36) (hI : SaidLoadFile f0 f1 39) (hm_g0 : ∀ (a0 : DPage) (a1 : ByteArray) (a2 : DResponse), (a0).wt ≤ 1048576 → a1.size ≤ 1048576 → (a2).wt ≤ 1048576 → ((f0 a0 a1 a2)).mcnt ≤ 400000000) (hm_x0 : ∀ (a0 : DPage), (a0).wt ≤ 1048576 → (a0).mcnt ≤ 400000000) (hm_x2 : ∀ (a2 : DResponse), (a2).wt ≤ 1048576 → (a2).mcnt ≤ 400000000) (c0 : List Value) (a0 : DPage) (a1 : ByteArray) (c2 : List Value) (a2 : DResponse) (w : World) (h0 : Reads DPage.rep w c0 a0) (h2 : Reads DResponse.rep w c2 a2) (hz1 : a1.size ≤ maxLen) :
    Calls Try.prog 6 #[.agg c0.toArray, .string a1, .agg c2.toArray] w fun e w' => e = .returned (.bool true) ∧ Below w.heap.size w w' := by
  have HA0 := Lib.hid (Low.start h0)
  obtain ⟨fp, hr⟩ := h0
  obtain ⟨ao0_0, cap0_0, ao0_1, cap0_1, ao0_2, cap0_2, rfl⟩ := DPage.shape hr
  clear hr
  have HA2 := Lib.hid (Low.start h2)
  obtain ⟨fp, hr⟩ := h2
  obtain ⟨ao2_0, cap2_0, rfl⟩ := DResponse.shape hr
  clear hr
  unfold maxLen at hz1
  have HB : Hid (Below w.heap.size w w) := Lib.hid belR
  by_cases hg_aPath : ¬ a1.size ≤ 1048576
  · go_enter Try.func6, Try.ntmps6
    go_wp2
    all_goals first | (go_ret; exact ⟨rfl, (by repeat (first | with_reducible exact belR | with_reducible apply belA | (with_reducible refine belS ?_ ?_; focus (first | omega | (simp; done) | (simp; omega))) | with_reducible apply belN | with_reducible apply belD | with_reducible assumption))⟩) | (exfalso; omega)
  rw [Decidable.not_not] at hg_aPath
  go_enter Try.func6, Try.ntmps6
  go_wp2_with fail
  refine (szPage _ a0 (1048576) _ (HA0.out.reads.below (by repeat (first | with_reducible exact belR | with_reducible apply belA | (with_reducible refine belS ?_ ?_; focus (first | omega | (simp; done) | (simp; omega))) | with_reducible apply belN | with_reducible apply belD | with_reducible assumption))) (by omega) (by omega)).mono ?_
  rintro e w1 ⟨rfl, hb⟩
  have hw : Below w.heap.size w w1 := below_call (by repeat (first | with_reducible exact belR | with_reducible apply belA | (with_reducible refine belS ?_ ?_; focus (first | omega | (simp; done) | (simp; omega))) | with_reducible apply belN | with_reducible apply belD | with_reducible assumption)) (by first | omega | (simp; done) | (simp; omega)) hb
  have hsw1 : w.heap.size + 1 + 1 ≤ w1.heap.size := by have y := hb.size; (try simp at y); omega
  have HX_aP : Hid (Box w1 (w.heap.size) #[.int .i64 a0.id, .string a0.site, .string a0.top, .int .i64 a0.version, .slice ao0_0 a0.loaded.length cap0_0, .slice ao0_1 a0.machine.script.length cap0_1, .int .i64 a0.machine.pc, .slice ao0_2 a0.machine.regs.length cap0_2, .int .i64 a0.machine.steps, .bool a0.machine.done, .bool a0.machine.wait]) := Lib.hid (Box.below (Box.growA (Box.at (by first | rfl | simp))) hb)
  have HX_aX : Hid (Box w1 (w.heap.size + 1) #[.int .i64 a2.type_, .int .i64 a2.status, .int .i64 a2.version, .slice ao2_0 a2.body.length cap2_0, .bool a2.shares]) := Lib.hid (Box.below (Box.at (by first | rfl | simp)) hb)
  have ⟨cx_aP, zx_aP⟩ := HX_aP.out
  have ⟨cx_aX, zx_aX⟩ := HX_aX.out
  replace HA0 := Lib.hid (HA0.out.below hw)
  replace HA2 := Lib.hid (HA2.out.below hw)
  replace HB := Lib.hid (below_call HB.out HB.out.size hw)
  clear hw
  clear hb
  have hz := szOf_spec ((a0).wt) (1048576)
  by_cases hv_aP : ¬ (((a0).wt : Nat) : Int) ≤ 1048576
  · rw [hz.2 hv_aP]; clear hz
    go_wp2
    all_goals go_ret
    have y := HB.out
    exact ⟨rfl, (by repeat (first | with_reducible exact belR | with_reducible apply belA | (with_reducible refine belS ?_ ?_; focus (first | omega | (simp; done) | (simp; omega))) | with_reducible apply belN | with_reducible apply belD | with_reducible assumption))⟩
  rw [Decidable.not_not] at hv_aP
  rw [hz.1 hv_aP]; clear hz
  go_wp2_with fail
  refine (szResponse _ a2 (1048576 - (((a0).wt : Nat) : Int)) _ (HA2.out.reads.below (by repeat (first | with_reducible exact belR | with_reducible apply belA | (with_reducible refine belS ?_ ?_; focus (first | omega | (simp; done) | (simp; omega))) | with_reducible apply belN | with_reducible apply belD | with_reducible assumption))) (by omega) (by omega)).mono ?_
  rintro e w2 ⟨rfl, hb⟩
  have hw : Below w1.heap.size w1 w2 := below_call (by repeat (first | with_reducible exact belR | with_reducible apply belA | (with_reducible refine belS ?_ ?_; focus (first | omega | (simp; done) | (simp; omega))) | with_reducible apply belN | with_reducible apply belD | with_reducible assumption)) (by first | omega | (simp; done) | (simp; omega)) hb
  have hsw2 : w1.heap.size ≤ w2.heap.size := by have y := hb.size; (try simp at y); omega
  clear cx_aP zx_aP
  replace HX_aP := Lib.hid (HX_aP.out.below hw)
  clear cx_aX zx_aX
  replace HX_aX := Lib.hid (HX_aX.out.below hw)
  have ⟨cx_aP, zx_aP⟩ := HX_aP.out
  have ⟨cx_aX, zx_aX⟩ := HX_aX.out
  replace HA0 := Lib.hid (HA0.out.below hw)
  replace HA2 := Lib.hid (HA2.out.below hw)
  replace HB := Lib.hid (below_call HB.out HB.out.size hw)
  clear hw
  clear hb
  have hz := szOf_spec ((a2).wt) (1048576 - (((a0).wt : Nat) : Int))
  by_cases hv_aX : ¬ (((a2).wt : Nat) : Int) ≤ 1048576 - (((a0).wt : Nat) : Int)
  · rw [hz.2 hv_aX]; clear hz
    go_wp2
    all_goals go_ret
    have y := HB.out
    exact ⟨rfl, (by repeat (first | with_reducible exact belR | with_reducible apply belA | (with_reducible refine belS ?_ ?_; focus (first | omega | (simp; done) | (simp; omega))) | with_reducible apply belN | with_reducible apply belD | with_reducible assumption))⟩
  rw [Decidable.not_not] at hv_aX
  rw [hz.1 hv_aX]; clear hz
  go_upto_region 10 with fail
  refine settle (fun W' => Below w2.heap.size w2 W' ∧ w2.heap.size ≤ W'.heap.size) ⟨(by repeat (first | with_reducible exact belR | with_reducible apply belA | (with_reducible refine belS ?_ ?_; focus (first | omega | (simp; done) | (simp; omega))) | with_reducible apply belN | with_reducible apply belD | with_reducible assumption)), (by first | omega | (simp; done) | (simp; omega))⟩ ?_
  rintro w3 ⟨hw, hsw3⟩
  clear cx_aP zx_aP
  replace HX_aP := Lib.hid (HX_aP.out.below hw)
  clear cx_aX zx_aX
  replace HX_aX := Lib.hid (HX_aX.out.below hw)
  have ⟨cx_aP, zx_aP⟩ := HX_aP.out
  have ⟨cx_aX, zx_aX⟩ := HX_aX.out
  replace HA0 := Lib.hid (HA0.out.below hw)
  replace HA2 := Lib.hid (HA2.out.below hw)
  replace HB := Lib.hid (below_call HB.out HB.out.size hw)
  clear hw
  go_cut [8, 9] (fun p_w0 p_w1 wx => ∃ (lo hi : Nat) (kb_w0 : Nat) (ao_w0_0 : Option Addr) (cap_w0_0 : Nat) (ao_w0_1 : Option Addr) (cap_w0_1 : Nat) (ao_w0_2 : Option Addr) (cap_w0_2 : Nat) (fp_w0 : List Nat), p_w0 = .pointer (some ⟨kb_w0, 0, none⟩) ∧ p_w1 = .bool (f1 a0 a1 a2) ∧ Box wx kb_w0 #[.int .i64 ((f0 a0 a1 a2)).id, .string ((f0 a0 a1 a2)).site, .string ((f0 a0 a1 a2)).top, .int .i64 ((f0 a0 a1 a2)).version, .slice ao_w0_0 ((f0 a0 a1 a2)).loaded.length cap_w0_0, .slice ao_w0_1 ((f0 a0 a1 a2)).machine.script.length cap_w0_1, .int .i64 ((f0 a0 a1 a2)).machine.pc, .slice ao_w0_2 ((f0 a0 a1 a2)).machine.regs.length cap_w0_2, .int .i64 ((f0 a0 a1 a2)).machine.steps, .bool ((f0 a0 a1 a2)).machine.done, .bool ((f0 a0 a1 a2)).machine.wait] ∧ w3.heap.size ≤ kb_w0 ∧ (kb_w0 < lo ∨ hi ≤ kb_w0) ∧ w3.heap.size ≤ lo ∧ hi ≤ wx.heap.size ∧ Own DPage.rep lo hi wx [.int .i64 ((f0 a0 a1 a2)).id, .string ((f0 a0 a1 a2)).site, .string ((f0 a0 a1 a2)).top, .int .i64 ((f0 a0 a1 a2)).version, .slice ao_w0_0 ((f0 a0 a1 a2)).loaded.length cap_w0_0, .slice ao_w0_1 ((f0 a0 a1 a2)).machine.script.length cap_w0_1, .int .i64 ((f0 a0 a1 a2)).machine.pc, .slice ao_w0_2 ((f0 a0 a1 a2)).machine.regs.length cap_w0_2, .int .i64 ((f0 a0 a1 a2)).machine.steps, .bool ((f0 a0 a1 a2)).machine.done, .bool ((f0 a0 a1 a2)).machine.wait] (f0 a0 a1 a2) fp_w0 ∧ Below w3.heap.size w3 wx)
  case first =>
    have HSr : Hid (∀ w', Below w3.heap.size w3 w' → (∀ o, w'.cell? ⟨w.heap.size, o, none⟩ = #[.int .i64 a0.id, .string a0.site, .string a0.top, .int .i64 a0.version, .slice ao0_0 a0.loaded.length cap0_0, .slice ao0_1 a0.machine.script.length cap0_1, .int .i64 a0.machine.pc, .slice ao0_2 a0.machine.regs.length cap0_2, .int .i64 a0.machine.steps, .bool a0.machine.done, .bool a0.machine.wait][o]?) ∧ (∀ o, w'.cell? ⟨w.heap.size + 1, o, none⟩ = #[.int .i64 a2.type_, .int .i64 a2.status, .int .i64 a2.version, .slice ao2_0 a2.body.length cap2_0, .bool a2.shares][o]?) ∧ Below w3.heap.size w3 w') := Lib.hid fun w' hw' => ⟨fun o => (hw'.cell (p := ⟨w.heap.size, o, none⟩) zx_aP).trans (cx_aP o), fun o => (hw'.cell (p := ⟨w.heap.size + 1, o, none⟩) zx_aX).trans (cx_aX o), hw'⟩
    go_region_held3 (fun w' => (∀ o, w'.cell? ⟨w.heap.size, o, none⟩ = #[.int .i64 a0.id, .string a0.site, .string a0.top, .int .i64 a0.version, .slice ao0_0 a0.loaded.length cap0_0, .slice ao0_1 a0.machine.script.length cap0_1, .int .i64 a0.machine.pc, .slice ao0_2 a0.machine.regs.length cap0_2, .int .i64 a0.machine.steps, .bool a0.machine.done, .bool a0.machine.wait][o]?) ∧ (∀ o, w'.cell? ⟨w.heap.size + 1, o, none⟩ = #[.int .i64 a2.type_, .int .i64 a2.status, .int .i64 a2.version, .slice ao2_0 a2.body.length cap2_0, .bool a2.shares][o]?) ∧ Below w3.heap.size w3 w')
      (first | exact HSr.out _ (by repeat (first | with_reducible exact belR | (with_reducible refine belAB ?_ ?_; focus (first | omega | (simp; done) | (simp; omega))) | (with_reducible refine belS ?_ ?_; focus (first | omega | (simp; done) | (simp; omega))) | with_reducible apply belN | with_reducible apply belD | with_reducible assumption)))
      (first | (go_at_call 36; have hx := hq_w0_aX; clear hx; have hS_F6 := ‹_ ∧ _ ∧ Below w3.heap.size w3 _›; refine (hS _ a0 a1 _ a2 _ (hr_w0_aP.below (by repeat (first | with_reducible exact belR | with_reducible apply belA | (with_reducible refine belS ?_ ?_; focus (first | omega | (simp; done) | (simp; omega))) | with_reducible apply belN | with_reducible apply belD | with_reducible assumption))) (hr_w0_aX.below (by repeat (first | with_reducible exact belR | with_reducible apply belA | (with_reducible refine belS ?_ ?_; focus (first | omega | (simp; done) | (simp; omega))) | with_reducible apply belN | with_reducible apply belD | with_reducible assumption))) (by first | omega | exact hv_aP) (by first | omega | exact hg_aPath) (by first | omega | exact hv_aX)).mono ?_; rintro e w6 ⟨d_w_0, rfl, hf0, hb_F6⟩; have hq_F6 : Below w3.heap.size w3 w6 := below_call hS_F6.2.2 hS_F6.2.2.size hb_F6; clear hS_F6; have hz_F6 := hq_F6.size; (first | (have hwb_F6 : WB w6 _ #[.int .i64 0, .string ⟨#[]⟩, .string ⟨#[]⟩, .int .i64 0, .slice none 0 0, .slice none 0 0, .int .i64 0, .slice none 0 0, .int .i64 0, .bool false, .bool false] := (WB.at rfl).keep hb_F6; have ⟨we_F6, wl_F6, wf_F6⟩ := hwb_F6) | (have hwb_F6 := hwb_w0_aX.keep hb_F6; have ⟨we_F6, wl_F6, wf_F6⟩ := hwb_F6) | skip); obtain ⟨ao_w0_0, cap_w0_0, ao_w0_1, cap_w0_1, ao_w0_2, cap_w0_2, rfl⟩ := DPage.fshape hf0) | (go_at_call 38; have hx := hq_w0_aP; clear hx; have hS_w0_aX := ‹_ ∧ _ ∧ Below w3.heap.size w3 _›; refine (toResponse _ a2 _ (HA2.out.reads.below hS_w0_aX.2.2) (by first | omega | (simp [DResponse.wt]))).mono ?_; rintro e w5 ⟨d_w0_aX, rfl, hf_w0_aX, hb_w0_aX⟩; have hq_w0_aX : Below w3.heap.size w3 w5 := below_call hS_w0_aX.2.2 hS_w0_aX.2.2.size hb_w0_aX; clear hS_w0_aX; have hz_w0_aX := hq_w0_aX.size; (first | (have hwb_w0_aX : WB w5 _ #[.int .i64 0, .string ⟨#[]⟩, .string ⟨#[]⟩, .int .i64 0, .slice none 0 0, .slice none 0 0, .int .i64 0, .slice none 0 0, .int .i64 0, .bool false, .bool false] := (WB.at rfl).keep hb_w0_aX; have ⟨we_w0_aX, wl_w0_aX, wf_w0_aX⟩ := hwb_w0_aX) | (have hwb_w0_aX := hwb_w0_aP.keep hb_w0_aX; have ⟨we_w0_aX, wl_w0_aX, wf_w0_aX⟩ := hwb_w0_aX) | skip); obtain ⟨ao_w0_aX_0, cap_w0_aX_0, rfl⟩ := DResponse.fshape hf_w0_aX; have hr_w0_aX := hf_w0_aX.reads; replace hr_w0_aP := hr_w0_aP.below (by first | exact hb_w0_aX | exact (belD belR).trans hb_w0_aX | exact below_call (by repeat (first | with_reducible exact belR | with_reducible apply belA | (with_reducible refine belS ?_ ?_; focus (first | omega | (simp; done) | (simp; omega))) | with_reducible apply belN | with_reducible apply belD | with_reducible assumption)) (by first | omega | (simp; done) | (simp; omega)) hb_w0_aX)) | (go_at_call 37; have hS_w0_aP := ‹_ ∧ _ ∧ Below w3.heap.size w3 _›; refine (toPage _ a0 _ (HA0.out.reads.below hS_w0_aP.2.2) (by first | omega | (simp [DPage.wt]))).mono ?_; rintro e w4 ⟨d_w0_aP, rfl, hf_w0_aP, hb_w0_aP⟩; have hq_w0_aP : Below w3.heap.size w3 w4 := below_call hS_w0_aP.2.2 hS_w0_aP.2.2.size hb_w0_aP; clear hS_w0_aP; have hz_w0_aP := hq_w0_aP.size; (first | (have hwb_w0_aP : WB w4 _ #[.int .i64 0, .string ⟨#[]⟩, .string ⟨#[]⟩, .int .i64 0, .slice none 0 0, .slice none 0 0, .int .i64 0, .slice none 0 0, .int .i64 0, .bool false, .bool false] := (WB.at rfl).growD.keep hb_w0_aP; have ⟨we_w0_aP, wl_w0_aP, wf_w0_aP⟩ := hwb_w0_aP) | skip); obtain ⟨ao_w0_aP_0, cap_w0_aP_0, ao_w0_aP_1, cap_w0_aP_1, ao_w0_aP_2, cap_w0_aP_2, rfl⟩ := DPage.fshape hf_w0_aP; have hr_w0_aP := hf_w0_aP.reads))
    all_goals
      go_wp2_with fail
      go_meet
      obtain ⟨lo0, fp_w0, hlo0, o_w0⟩ := Fresh.ownAtL hf0
      (try simp at hlo0)
      first
        | exact ⟨lo0, w6.heap.size, _, ao_w0_0, cap_w0_0, ao_w0_1, cap_w0_1, ao_w0_2, cap_w0_2, fp_w0, rfl, rfl, (sets11_LoadFile hwb_F6).box, (by omega), .inl (by omega), (by omega), (Nat.le_of_eq (by simp only [World.size_setCell])), (by repeat (first | with_reducible exact o_w0 | with_reducible refine Own.setOut ?_ (.inl (by omega)))), (by have y := hq_F6; exact (by repeat (first | with_reducible exact belR | with_reducible apply belA | (with_reducible refine belS ?_ ?_; focus (first | omega | (simp; done) | (simp; omega))) | with_reducible apply belN | with_reducible apply belD | with_reducible assumption)))⟩
        | exact ⟨lo0, w6.heap.size, w6.heap.size, ao_w0_0, cap_w0_0, ao_w0_1, cap_w0_1, ao_w0_2, cap_w0_2, fp_w0, rfl, rfl, Box.at rfl, (by omega), .inr (by omega), (by omega), (by rw [World.size_alloc]; omega), o_w0.allocA, (by have y := hq_F6; exact (by repeat (first | with_reducible exact belR | with_reducible apply belA | (with_reducible refine belS ?_ ?_; focus (first | omega | (simp; done) | (simp; omega))) | with_reducible apply belN | with_reducible apply belD | with_reducible assumption)))⟩
  obtain ⟨lo_w0, hi_w0, kb_w0, ao_w0_0, cap_w0_0, ao_w0_1, cap_w0_1, ao_w0_2, cap_w0_2, fp_w0, rfl, rfl, hbx_w0, hk1_w0, hk2_w0, hl1_w0, hl2_w0, ho_w0, hw⟩ := hcut
  rename World => w6
  have hsw6 : w3.heap.size ≤ w6.heap.size := hw.size
  clear cx_aP zx_aP
  replace HX_aP := Lib.hid (HX_aP.out.below hw)
  clear cx_aX zx_aX
  replace HX_aX := Lib.hid (HX_aX.out.below hw)
  have HX_w0 := Lib.hid hbx_w0; clear hbx_w0
  have hkz_w0 := HX_w0.out.2
  have H_w0 := Lib.hid ho_w0; clear ho_w0
  have ⟨cx_aP, zx_aP⟩ := HX_aP.out
  have ⟨cx_aX, zx_aX⟩ := HX_aX.out
  have ⟨cx_w0, zx_w0⟩ := HX_w0.out
  replace HA0 := Lib.hid (HA0.out.below hw)
  replace HA2 := Lib.hid (HA2.out.below hw)
  replace HB := Lib.hid (below_call HB.out HB.out.size hw)
  clear hw
  go_wp2_with fail
  refine (toPage _ a0 _ (HA0.out.reads.below (by repeat (first | with_reducible exact belR | with_reducible apply belA | (with_reducible refine belS ?_ ?_; focus (first | omega | (simp; done) | (simp; omega))) | with_reducible apply belN | with_reducible apply belD | with_reducible assumption))) (by first | omega | (simp [DPage.wt]))).mono ?_
  rintro e w7 ⟨d_x0, rfl, hf, hb⟩
  obtain ⟨ao_x0_0, cap_x0_0, ao_x0_1, cap_x0_1, ao_x0_2, cap_x0_2, rfl⟩ := DPage.fshape hf
  obtain ⟨fp_x0, o_x0⟩ := Fresh.own hf (lo := w6.heap.size) (by first | omega | (simp; done) | (simp; omega))
  have H_x0 := Lib.hid o_x0; clear o_x0
  have hw : Below w6.heap.size w6 w7 := below_call (by repeat (first | with_reducible exact belR | with_reducible apply belA | (with_reducible refine belS ?_ ?_; focus (first | omega | (simp; done) | (simp; omega))) | with_reducible apply belN | with_reducible apply belD | with_reducible assumption)) (by first | omega | (simp; done) | (simp; omega)) hb
  have hsw7 : w6.heap.size ≤ w7.heap.size := by have y := hb.size; (try simp at y); omega
  clear cx_aP zx_aP
  replace HX_aP := Lib.hid (HX_aP.out.below hw)
  clear cx_aX zx_aX
  replace HX_aX := Lib.hid (HX_aX.out.below hw)
  clear cx_w0 zx_w0
  replace HX_w0 := Lib.hid (HX_w0.out.below hw)
  have ⟨cx_aP, zx_aP⟩ := HX_aP.out
  have ⟨cx_aX, zx_aX⟩ := HX_aX.out
  have ⟨cx_w0, zx_w0⟩ := HX_w0.out
  replace HA0 := Lib.hid (HA0.out.below hw)
  replace HA2 := Lib.hid (HA2.out.below hw)
  replace H_w0 := Lib.hid (H_w0.out.below hw)
  replace HB := Lib.hid (below_call HB.out HB.out.size hw)
  clear hw
  clear hb hf
  go_wp2_with fail
  refine (toResponse _ a2 _ (HA2.out.reads.below (by repeat (first | with_reducible exact belR | with_reducible apply belA | (with_reducible refine belS ?_ ?_; focus (first | omega | (simp; done) | (simp; omega))) | with_reducible apply belN | with_reducible apply belD | with_reducible assumption))) (by first | omega | (simp [DResponse.wt]))).mono ?_
  rintro e w8 ⟨d_x2, rfl, hf, hb⟩
  obtain ⟨ao_x2_0, cap_x2_0, rfl⟩ := DResponse.fshape hf
  obtain ⟨fp_x2, o_x2⟩ := Fresh.own hf (lo := w7.heap.size + 1) (by first | omega | (simp; done) | (simp; omega))
  have H_x2 := Lib.hid o_x2; clear o_x2
  have hw : Below w7.heap.size w7 w8 := below_call (by repeat (first | with_reducible exact belR | with_reducible apply belA | (with_reducible refine belS ?_ ?_; focus (first | omega | (simp; done) | (simp; omega))) | with_reducible apply belN | with_reducible apply belD | with_reducible assumption)) (by first | omega | (simp; done) | (simp; omega)) hb
  have hsw8 : w7.heap.size + 1 ≤ w8.heap.size := by have y := hb.size; (try simp at y); omega
  clear cx_aP zx_aP
  replace HX_aP := Lib.hid (HX_aP.out.below hw)
  clear cx_aX zx_aX
  replace HX_aX := Lib.hid (HX_aX.out.below hw)
  clear cx_w0 zx_w0
  replace HX_w0 := Lib.hid (HX_w0.out.below hw)
  have HX_x0 : Hid (Box w8 (w7.heap.size) #[.int .i64 (a0).id, .string (a0).site, .string (a0).top, .int .i64 (a0).version, .slice ao_x0_0 (a0).loaded.length cap_x0_0, .slice ao_x0_1 (a0).machine.script.length cap_x0_1, .int .i64 (a0).machine.pc, .slice ao_x0_2 (a0).machine.regs.length cap_x0_2, .int .i64 (a0).machine.steps, .bool (a0).machine.done, .bool (a0).machine.wait]) := Lib.hid (Box.below (Box.at (by first | rfl | simp)) hb)
  have ⟨cx_aP, zx_aP⟩ := HX_aP.out
  have ⟨cx_aX, zx_aX⟩ := HX_aX.out
  have ⟨cx_w0, zx_w0⟩ := HX_w0.out
  have ⟨cx_x0, zx_x0⟩ := HX_x0.out
  replace HA0 := Lib.hid (HA0.out.below hw)
  replace HA2 := Lib.hid (HA2.out.below hw)
  replace H_w0 := Lib.hid (H_w0.out.below hw)
  replace H_x0 := Lib.hid (H_x0.out.below hw)
  replace HB := Lib.hid (below_call HB.out HB.out.size hw)
  clear hw
  clear hb hf
  go_wp2_with fail
  refine (hI _ a0 a1 _ a2 _ (H_x0.out.reads.below (by repeat (first | with_reducible exact belR | with_reducible apply belA | (with_reducible refine belS ?_ ?_; focus (first | omega | (simp; done) | (simp; omega))) | with_reducible apply belN | with_reducible apply belD | with_reducible assumption))) (H_x2.out.reads.below (by repeat (first | with_reducible exact belR | with_reducible apply belA | (with_reducible refine belS ?_ ?_; focus (first | omega | (simp; done) | (simp; omega))) | with_reducible apply belN | with_reducible apply belD | with_reducible assumption))) (by first | omega | exact hv_aP) (by first | omega | exact hg_aPath) (by first | omega | exact hv_aX)).mono ?_
  rintro e w9 ⟨d_g_0, rfl, hf0, hb⟩
  obtain ⟨ao_g0_0, cap_g0_0, ao_g0_1, cap_g0_1, ao_g0_2, cap_g0_2, rfl⟩ := DPage.fshape hf0
  obtain ⟨fp_g0, o_g0⟩ := Fresh.own hf0 (lo := w8.heap.size + 1) (by first | omega | (simp; done) | (simp; omega))
  have H_g0 := Lib.hid o_g0; clear o_g0
  have hw : Below w8.heap.size w8 w9 := below_call (by repeat (first | with_reducible exact belR | with_reducible apply belA | (with_reducible refine belS ?_ ?_; focus (first | omega | (simp; done) | (simp; omega))) | with_reducible apply belN | with_reducible apply belD | with_reducible assumption)) (by first | omega | (simp; done) | (simp; omega)) hb
  have hsw9 : w8.heap.size + 1 ≤ w9.heap.size := by have y := hb.size; (try simp at y); omega
  clear cx_aP zx_aP
  replace HX_aP := Lib.hid (HX_aP.out.below hw)
  clear cx_aX zx_aX
  replace HX_aX := Lib.hid (HX_aX.out.below hw)
  clear cx_w0 zx_w0
  replace HX_w0 := Lib.hid (HX_w0.out.below hw)
  clear cx_x0 zx_x0
  replace HX_x0 := Lib.hid (HX_x0.out.below hw)
  have HX_x2 : Hid (Box w9 (w8.heap.size) #[.int .i64 (a2).type_, .int .i64 (a2).status, .int .i64 (a2).version, .slice ao_x2_0 (a2).body.length cap_x2_0, .bool (a2).shares]) := Lib.hid (Box.below (Box.at (by first | rfl | simp)) hb)
  have ⟨cx_aP, zx_aP⟩ := HX_aP.out
  have ⟨cx_aX, zx_aX⟩ := HX_aX.out
  have ⟨cx_w0, zx_w0⟩ := HX_w0.out
  have ⟨cx_x0, zx_x0⟩ := HX_x0.out
  have ⟨cx_x2, zx_x2⟩ := HX_x2.out
  replace HA0 := Lib.hid (HA0.out.below hw)
  replace HA2 := Lib.hid (HA2.out.below hw)
  replace H_w0 := Lib.hid (H_w0.out.below hw)
  replace H_x0 := Lib.hid (H_x0.out.below hw)
  replace H_x2 := Lib.hid (H_x2.out.below hw)
  replace HB := Lib.hid (below_call HB.out HB.out.size hw)
  clear hw
  clear hb
  go_wp2_with fail
  refine (eqPage _ _ (f0 a0 a1 a2) _ (H_g0.out.reads.below (by repeat (first | with_reducible exact belR | with_reducible apply belA | (with_reducible refine belS ?_ ?_; focus (first | omega | (simp; done) | (simp; omega))) | with_reducible apply belN | with_reducible apply belD | with_reducible assumption))) (H_w0.out.reads.below (by repeat (first | with_reducible exact belR | with_reducible apply belA | (with_reducible refine belS ?_ ?_; focus (first | omega | (simp; done) | (simp; omega))) | with_reducible apply belN | with_reducible apply belD | with_reducible assumption)))).mono ?_
  rintro e w10 ⟨rfl, hb⟩
  have hw : Below w9.heap.size w9 w10 := below_call (by repeat (first | with_reducible exact belR | with_reducible apply belA | (with_reducible refine belS ?_ ?_; focus (first | omega | (simp; done) | (simp; omega))) | with_reducible apply belN | with_reducible apply belD | with_reducible assumption)) (by first | omega | (simp; done) | (simp; omega)) hb
  have hsw10 : w9.heap.size + 1 ≤ w10.heap.size := by have y := hb.size; (try simp at y); omega
  clear cx_aP zx_aP
  replace HX_aP := Lib.hid (HX_aP.out.below hw)
  clear cx_aX zx_aX
  replace HX_aX := Lib.hid (HX_aX.out.below hw)
  clear cx_w0 zx_w0
  replace HX_w0 := Lib.hid (HX_w0.out.below hw)
  clear cx_x0 zx_x0
  replace HX_x0 := Lib.hid (HX_x0.out.below hw)
  clear cx_x2 zx_x2
  replace HX_x2 := Lib.hid (HX_x2.out.below hw)
  have HX_g0 : Hid (Box w10 (w9.heap.size) #[.int .i64 ((f0 a0 a1 a2)).id, .string ((f0 a0 a1 a2)).site, .string ((f0 a0 a1 a2)).top, .int .i64 ((f0 a0 a1 a2)).version, .slice ao_g0_0 ((f0 a0 a1 a2)).loaded.length cap_g0_0, .slice ao_g0_1 ((f0 a0 a1 a2)).machine.script.length cap_g0_1, .int .i64 ((f0 a0 a1 a2)).machine.pc, .slice ao_g0_2 ((f0 a0 a1 a2)).machine.regs.length cap_g0_2, .int .i64 ((f0 a0 a1 a2)).machine.steps, .bool ((f0 a0 a1 a2)).machine.done, .bool ((f0 a0 a1 a2)).machine.wait]) := Lib.hid (Box.below (Box.at (by first | rfl | simp)) hb)
  have ⟨cx_aP, zx_aP⟩ := HX_aP.out
  have ⟨cx_aX, zx_aX⟩ := HX_aX.out
  have ⟨cx_w0, zx_w0⟩ := HX_w0.out
  have ⟨cx_x0, zx_x0⟩ := HX_x0.out
  have ⟨cx_x2, zx_x2⟩ := HX_x2.out
  have ⟨cx_g0, zx_g0⟩ := HX_g0.out
  replace HA0 := Lib.hid (HA0.out.below hw)
  replace HA2 := Lib.hid (HA2.out.below hw)
  replace H_w0 := Lib.hid (H_w0.out.below hw)
  replace H_x0 := Lib.hid (H_x0.out.below hw)
  replace H_x2 := Lib.hid (H_x2.out.below hw)
  replace H_g0 := Lib.hid (H_g0.out.below hw)
  replace HB := Lib.hid (below_call HB.out HB.out.size hw)
  clear hw
  clear hb
  go_wp2_with fail
  refine settle (fun W' => Below w10.heap.size w10 W' ∧ w10.heap.size ≤ W'.heap.size) ⟨(by repeat (first | with_reducible exact belR | with_reducible apply belA | (with_reducible refine belS ?_ ?_; focus (first | omega | (simp; done) | (simp; omega))) | with_reducible apply belN | with_reducible apply belD | with_reducible assumption)), (by first | omega | (simp; done) | (simp; omega))⟩ ?_
  rintro w11 ⟨hw, hsw11⟩
  clear cx_aP zx_aP
  replace HX_aP := Lib.hid (HX_aP.out.below hw)
  clear cx_aX zx_aX
  replace HX_aX := Lib.hid (HX_aX.out.below hw)
  clear cx_w0 zx_w0
  replace HX_w0 := Lib.hid (HX_w0.out.below hw)
  clear cx_x0 zx_x0
  replace HX_x0 := Lib.hid (HX_x0.out.below hw)
  clear cx_x2 zx_x2
  replace HX_x2 := Lib.hid (HX_x2.out.below hw)
  clear cx_g0 zx_g0
  replace HX_g0 := Lib.hid (HX_g0.out.below hw)
  have ⟨cx_aP, zx_aP⟩ := HX_aP.out
  have ⟨cx_aX, zx_aX⟩ := HX_aX.out
  have ⟨cx_w0, zx_w0⟩ := HX_w0.out
  have ⟨cx_x0, zx_x0⟩ := HX_x0.out
  have ⟨cx_x2, zx_x2⟩ := HX_x2.out
  have ⟨cx_g0, zx_g0⟩ := HX_g0.out
  replace HA0 := Lib.hid (HA0.out.below hw)
  replace HA2 := Lib.hid (HA2.out.below hw)
  replace H_w0 := Lib.hid (H_w0.out.below hw)
  replace H_x0 := Lib.hid (H_x0.out.below hw)
  replace H_x2 := Lib.hid (H_x2.out.below hw)
  replace H_g0 := Lib.hid (H_g0.out.below hw)
  replace HB := Lib.hid (below_call HB.out HB.out.size hw)
  clear hw
  go_region_held3 (fun w' => (∀ o, w'.cell? ⟨w7.heap.size, o, none⟩ = #[.int .i64 (a0).id, .string (a0).site, .string (a0).top, .int .i64 (a0).version, .slice ao_x0_0 (a0).loaded.length cap_x0_0, .slice ao_x0_1 (a0).machine.script.length cap_x0_1, .int .i64 (a0).machine.pc, .slice ao_x0_2 (a0).machine.regs.length cap_x0_2, .int .i64 (a0).machine.steps, .bool (a0).machine.done, .bool (a0).machine.wait][o]?) ∧ (∀ o, w'.cell? ⟨w.heap.size, o, none⟩ = #[.int .i64 a0.id, .string a0.site, .string a0.top, .int .i64 a0.version, .slice ao0_0 a0.loaded.length cap0_0, .slice ao0_1 a0.machine.script.length cap0_1, .int .i64 a0.machine.pc, .slice ao0_2 a0.machine.regs.length cap0_2, .int .i64 a0.machine.steps, .bool a0.machine.done, .bool a0.machine.wait][o]?) ∧ Below w11.heap.size w11 w')
    (first | exact ⟨fun o => (World.cell?_drew _ _ |>.trans <| hq_E13.cell (p := ⟨w7.heap.size, o, none⟩) zx_x0).trans (cx_x0 o), fun o => (World.cell?_drew _ _ |>.trans <| hq_E13.cell (p := ⟨w.heap.size, o, none⟩) zx_aP).trans (cx_aP o), belD hq_E13⟩ | exact ⟨fun o => (hq_E13.cell (p := ⟨w7.heap.size, o, none⟩) zx_x0).trans (cx_x0 o), fun o => (hq_E13.cell (p := ⟨w.heap.size, o, none⟩) zx_aP).trans (cx_aP o), hq_E13⟩ | exact ⟨fun o => (World.cell?_drew _ _ |>.trans <| hq_x0_e11.cell (p := ⟨w7.heap.size, o, none⟩) zx_x0).trans (cx_x0 o), fun o => (World.cell?_drew _ _ |>.trans <| hq_x0_e11.cell (p := ⟨w.heap.size, o, none⟩) zx_aP).trans (cx_aP o), belD hq_x0_e11⟩ | exact ⟨fun o => (hq_x0_e11.cell (p := ⟨w7.heap.size, o, none⟩) zx_x0).trans (cx_x0 o), fun o => (hq_x0_e11.cell (p := ⟨w.heap.size, o, none⟩) zx_aP).trans (cx_aP o), hq_x0_e11⟩ | exact ⟨cx_x0, cx_aP, belR⟩ | exact ⟨cx_x0, cx_aP, belD belR⟩)
    (first | (go_at_call 29; have hx := hq_x0_e11; clear hx; have hS_E13 := ‹_ ∧ _ ∧ Below w11.heap.size w11 _›; refine (eqPage _ _ a0 _ (H_x0.out.reads.below hS_E13.2.2) (hr_x0_e11.below (by first | exact belR | exact belD belR | exact belN (belD belR)))).mono ?_; rintro e w13 ⟨rfl, hb_E13⟩; have hq_E13 : Below w11.heap.size w11 w13 := below_call hS_E13.2.2 hS_E13.2.2.size hb_E13; clear hS_E13) | (go_at_call 37; have hS_x0_e11 := ‹_ ∧ _ ∧ Below w11.heap.size w11 _›; refine (toPage _ a0 _ (HA0.out.reads.below hS_x0_e11.2.2) (by first | omega | (simp [DPage.wt]))).mono ?_; rintro e w12 ⟨d_x0_e11, rfl, hf_x0_e11, hb_x0_e11⟩; have hq_x0_e11 : Below w11.heap.size w11 w12 := below_call hS_x0_e11.2.2 hS_x0_e11.2.2.size hb_x0_e11; clear hS_x0_e11; obtain ⟨ao_x0_e11_0, cap_x0_e11_0, ao_x0_e11_1, cap_x0_e11_1, ao_x0_e11_2, cap_x0_e11_2, rfl⟩ := DPage.fshape hf_x0_e11; have hr_x0_e11 := hf_x0_e11.reads))
  have hw := hq_E13
  have hsw13 : w11.heap.size ≤ w13.heap.size := hq_E13.size
  clear cx_aP zx_aP
  replace HX_aP := Lib.hid (HX_aP.out.below hw)
  clear cx_aX zx_aX
  replace HX_aX := Lib.hid (HX_aX.out.below hw)
  clear cx_w0 zx_w0
  replace HX_w0 := Lib.hid (HX_w0.out.below hw)
  clear cx_x0 zx_x0
  replace HX_x0 := Lib.hid (HX_x0.out.below hw)
  clear cx_x2 zx_x2
  replace HX_x2 := Lib.hid (HX_x2.out.below hw)
  clear cx_g0 zx_g0
  replace HX_g0 := Lib.hid (HX_g0.out.below hw)
  have ⟨cx_aP, zx_aP⟩ := HX_aP.out
  have ⟨cx_aX, zx_aX⟩ := HX_aX.out
  have ⟨cx_w0, zx_w0⟩ := HX_w0.out
  have ⟨cx_x0, zx_x0⟩ := HX_x0.out
  have ⟨cx_x2, zx_x2⟩ := HX_x2.out
  have ⟨cx_g0, zx_g0⟩ := HX_g0.out
  replace HA0 := Lib.hid (HA0.out.below hw)
  replace HA2 := Lib.hid (HA2.out.below hw)
  replace H_w0 := Lib.hid (H_w0.out.below hw)
  replace H_x0 := Lib.hid (H_x0.out.below hw)
  replace H_x2 := Lib.hid (H_x2.out.below hw)
  replace H_g0 := Lib.hid (H_g0.out.below hw)
  replace HB := Lib.hid (below_call HB.out HB.out.size hw)
  clear hw
  go_wp2_with fail
  refine settle (fun W' => Below w13.heap.size w13 W' ∧ w13.heap.size ≤ W'.heap.size) ⟨(by repeat (first | with_reducible exact belR | with_reducible apply belA | (with_reducible refine belS ?_ ?_; focus (first | omega | (simp; done) | (simp; omega))) | with_reducible apply belN | with_reducible apply belD | with_reducible assumption)), (by first | omega | (simp; done) | (simp; omega))⟩ ?_
  rintro w14 ⟨hw, hsw14⟩
  clear cx_aP zx_aP
  replace HX_aP := Lib.hid (HX_aP.out.below hw)
  clear cx_aX zx_aX
  replace HX_aX := Lib.hid (HX_aX.out.below hw)
  clear cx_w0 zx_w0
  replace HX_w0 := Lib.hid (HX_w0.out.below hw)
  clear cx_x0 zx_x0
  replace HX_x0 := Lib.hid (HX_x0.out.below hw)
  clear cx_x2 zx_x2
  replace HX_x2 := Lib.hid (HX_x2.out.below hw)
  clear cx_g0 zx_g0
  replace HX_g0 := Lib.hid (HX_g0.out.below hw)
  have ⟨cx_aP, zx_aP⟩ := HX_aP.out
  have ⟨cx_aX, zx_aX⟩ := HX_aX.out
  have ⟨cx_w0, zx_w0⟩ := HX_w0.out
  have ⟨cx_x0, zx_x0⟩ := HX_x0.out
  have ⟨cx_x2, zx_x2⟩ := HX_x2.out
  have ⟨cx_g0, zx_g0⟩ := HX_g0.out
  replace HA0 := Lib.hid (HA0.out.below hw)
  replace HA2 := Lib.hid (HA2.out.below hw)
  replace H_w0 := Lib.hid (H_w0.out.below hw)
  replace H_x0 := Lib.hid (H_x0.out.below hw)
  replace H_x2 := Lib.hid (H_x2.out.below hw)
  replace H_g0 := Lib.hid (H_g0.out.below hw)
  replace HB := Lib.hid (below_call HB.out HB.out.size hw)
  clear hw
  go_region_held3 (fun w' => (∀ o, w'.cell? ⟨w8.heap.size, o, none⟩ = #[.int .i64 (a2).type_, .int .i64 (a2).status, .int .i64 (a2).version, .slice ao_x2_0 (a2).body.length cap_x2_0, .bool (a2).shares][o]?) ∧ (∀ o, w'.cell? ⟨w.heap.size + 1, o, none⟩ = #[.int .i64 a2.type_, .int .i64 a2.status, .int .i64 a2.version, .slice ao2_0 a2.body.length cap2_0, .bool a2.shares][o]?) ∧ Below w14.heap.size w14 w')
    (first | exact ⟨fun o => (World.cell?_drew _ _ |>.trans <| hq_E16.cell (p := ⟨w8.heap.size, o, none⟩) zx_x2).trans (cx_x2 o), fun o => (World.cell?_drew _ _ |>.trans <| hq_E16.cell (p := ⟨w.heap.size + 1, o, none⟩) zx_aX).trans (cx_aX o), belD hq_E16⟩ | exact ⟨fun o => (hq_E16.cell (p := ⟨w8.heap.size, o, none⟩) zx_x2).trans (cx_x2 o), fun o => (hq_E16.cell (p := ⟨w.heap.size + 1, o, none⟩) zx_aX).trans (cx_aX o), hq_E16⟩ | exact ⟨fun o => (World.cell?_drew _ _ |>.trans <| hq_x2_e14.cell (p := ⟨w8.heap.size, o, none⟩) zx_x2).trans (cx_x2 o), fun o => (World.cell?_drew _ _ |>.trans <| hq_x2_e14.cell (p := ⟨w.heap.size + 1, o, none⟩) zx_aX).trans (cx_aX o), belD hq_x2_e14⟩ | exact ⟨fun o => (hq_x2_e14.cell (p := ⟨w8.heap.size, o, none⟩) zx_x2).trans (cx_x2 o), fun o => (hq_x2_e14.cell (p := ⟨w.heap.size + 1, o, none⟩) zx_aX).trans (cx_aX o), hq_x2_e14⟩ | exact ⟨cx_x2, cx_aX, belR⟩ | exact ⟨cx_x2, cx_aX, belD belR⟩)
    (first | (go_at_call 40; have hx := hq_x2_e14; clear hx; have hS_E16 := ‹_ ∧ _ ∧ Below w14.heap.size w14 _›; refine (eqResponse _ _ a2 _ (H_x2.out.reads.below hS_E16.2.2) (hr_x2_e14.below (by first | exact belR | exact belD belR | exact belN (belD belR)))).mono ?_; rintro e w16 ⟨rfl, hb_E16⟩; have hq_E16 : Below w14.heap.size w14 w16 := below_call hS_E16.2.2 hS_E16.2.2.size hb_E16; clear hS_E16) | (go_at_call 38; have hS_x2_e14 := ‹_ ∧ _ ∧ Below w14.heap.size w14 _›; refine (toResponse _ a2 _ (HA2.out.reads.below hS_x2_e14.2.2) (by first | omega | (simp [DResponse.wt]))).mono ?_; rintro e w15 ⟨d_x2_e14, rfl, hf_x2_e14, hb_x2_e14⟩; have hq_x2_e14 : Below w14.heap.size w14 w15 := below_call hS_x2_e14.2.2 hS_x2_e14.2.2.size hb_x2_e14; clear hS_x2_e14; obtain ⟨ao_x2_e14_0, cap_x2_e14_0, rfl⟩ := DResponse.fshape hf_x2_e14; have hr_x2_e14 := hf_x2_e14.reads))
  have hw := hq_E16
  have hsw16 : w14.heap.size ≤ w16.heap.size := hq_E16.size
  clear cx_aP zx_aP
  replace HX_aP := Lib.hid (HX_aP.out.below hw)
  clear cx_aX zx_aX
  replace HX_aX := Lib.hid (HX_aX.out.below hw)
  clear cx_w0 zx_w0
  replace HX_w0 := Lib.hid (HX_w0.out.below hw)
  clear cx_x0 zx_x0
  replace HX_x0 := Lib.hid (HX_x0.out.below hw)
  clear cx_x2 zx_x2
  replace HX_x2 := Lib.hid (HX_x2.out.below hw)
  clear cx_g0 zx_g0
  replace HX_g0 := Lib.hid (HX_g0.out.below hw)
  have ⟨cx_aP, zx_aP⟩ := HX_aP.out
  have ⟨cx_aX, zx_aX⟩ := HX_aX.out
  have ⟨cx_w0, zx_w0⟩ := HX_w0.out
  have ⟨cx_x0, zx_x0⟩ := HX_x0.out
  have ⟨cx_x2, zx_x2⟩ := HX_x2.out
  have ⟨cx_g0, zx_g0⟩ := HX_g0.out
  replace HA0 := Lib.hid (HA0.out.below hw)
  replace HA2 := Lib.hid (HA2.out.below hw)
  replace H_w0 := Lib.hid (H_w0.out.below hw)
  replace H_x0 := Lib.hid (H_x0.out.below hw)
  replace H_x2 := Lib.hid (H_x2.out.below hw)
  replace H_g0 := Lib.hid (H_g0.out.below hw)
  replace HB := Lib.hid (below_call HB.out HB.out.size hw)
  clear hw
  go_wp2_with fail
  have hk_x0 := (hm_x0 a0 (by first | omega | exact hv_aP))
  refine (markPage _ a0 fp_x0 (1) _ H_x0.out.rd H_x0.out.nodup (by omega)).mono ?_
  rintro e w17 ⟨rfl, hrd, hc⟩
  have hnew := Own.mk hrd H_x0.out.nodup (H_x0.out.ivl)
  have hq := H_x0.out.ivl
  have hsw17 : w16.heap.size ≤ w17.heap.size := hc.size
  clear cx_aP zx_aP
  replace HX_aP := Lib.hid (HX_aP.out.chg hc hq (by omega))
  clear cx_aX zx_aX
  replace HX_aX := Lib.hid (HX_aX.out.chg hc hq (by omega))
  clear cx_w0 zx_w0
  replace HX_w0 := Lib.hid (HX_w0.out.chg hc hq (by omega))
  clear cx_x0 zx_x0
  replace HX_x0 := Lib.hid (HX_x0.out.chg hc hq (by omega))
  clear cx_x2 zx_x2
  replace HX_x2 := Lib.hid (HX_x2.out.chg hc hq (by omega))
  clear cx_g0 zx_g0
  replace HX_g0 := Lib.hid (HX_g0.out.chg hc hq (by omega))
  have ⟨cx_aP, zx_aP⟩ := HX_aP.out
  have ⟨cx_aX, zx_aX⟩ := HX_aX.out
  have ⟨cx_w0, zx_w0⟩ := HX_w0.out
  have ⟨cx_x0, zx_x0⟩ := HX_x0.out
  have ⟨cx_x2, zx_x2⟩ := HX_x2.out
  have ⟨cx_g0, zx_g0⟩ := HX_g0.out
  replace HA0 := Lib.hid (HA0.out.chg hc hq (by omega))
  replace HA2 := Lib.hid (HA2.out.chg hc hq (by omega))
  replace H_w0 := Lib.hid (H_w0.out.chg hc (Own.apart H_w0.out H_x0.out (by omega)))
  replace H_x2 := Lib.hid (H_x2.out.chg hc (Own.apart H_x2.out H_x0.out (by omega)))
  replace H_g0 := Lib.hid (H_g0.out.chg hc (Own.apart H_g0.out H_x0.out (by omega)))
  replace HB := Lib.hid (Below.chg HB.out hc hq (by omega) HB.out.size)
  clear hq
  replace H_x0 := Lib.hid hnew; clear hnew hrd hc
  go_wp2_with fail
  have hk_x2 := (hm_x2 a2 (by first | omega | exact hv_aX))
  refine (markResponse _ a2 fp_x2 (1 + (a0).mcnt) _ H_x2.out.rd H_x2.out.nodup (by omega)).mono ?_
  rintro e w18 ⟨rfl, hrd, hc⟩
  have hnew := Own.mk hrd H_x2.out.nodup (H_x2.out.ivl)
  have hq := H_x2.out.ivl
  have hsw18 : w17.heap.size ≤ w18.heap.size := hc.size
  clear cx_aP zx_aP
  replace HX_aP := Lib.hid (HX_aP.out.chg hc hq (by omega))
  clear cx_aX zx_aX
  replace HX_aX := Lib.hid (HX_aX.out.chg hc hq (by omega))
  clear cx_w0 zx_w0
  replace HX_w0 := Lib.hid (HX_w0.out.chg hc hq (by omega))
  clear cx_x0 zx_x0
  replace HX_x0 := Lib.hid (HX_x0.out.chg hc hq (by omega))
  clear cx_x2 zx_x2
  replace HX_x2 := Lib.hid (HX_x2.out.chg hc hq (by omega))
  clear cx_g0 zx_g0
  replace HX_g0 := Lib.hid (HX_g0.out.chg hc hq (by omega))
  have ⟨cx_aP, zx_aP⟩ := HX_aP.out
  have ⟨cx_aX, zx_aX⟩ := HX_aX.out
  have ⟨cx_w0, zx_w0⟩ := HX_w0.out
  have ⟨cx_x0, zx_x0⟩ := HX_x0.out
  have ⟨cx_x2, zx_x2⟩ := HX_x2.out
  have ⟨cx_g0, zx_g0⟩ := HX_g0.out
  replace HA0 := Lib.hid (HA0.out.chg hc hq (by omega))
  replace HA2 := Lib.hid (HA2.out.chg hc hq (by omega))
  replace H_w0 := Lib.hid (H_w0.out.chg hc (Own.apart H_w0.out H_x2.out (by omega)))
  replace H_x0 := Lib.hid (H_x0.out.chg hc (Own.apart H_x0.out H_x2.out (by omega)))
  replace H_g0 := Lib.hid (H_g0.out.chg hc (Own.apart H_g0.out H_x2.out (by omega)))
  replace HB := Lib.hid (Below.chg HB.out hc hq (by omega) HB.out.size)
  clear hq
  replace H_x2 := Lib.hid hnew; clear hnew hrd hc
  go_wp2_with fail
  refine (eqPage _ _ (f0 a0 a1 a2) _ (H_g0.out.reads.below (by repeat (first | with_reducible exact belR | with_reducible apply belA | (with_reducible refine belS ?_ ?_; focus (first | omega | (simp; done) | (simp; omega))) | with_reducible apply belN | with_reducible apply belD | with_reducible assumption))) (H_w0.out.reads.below (by repeat (first | with_reducible exact belR | with_reducible apply belA | (with_reducible refine belS ?_ ?_; focus (first | omega | (simp; done) | (simp; omega))) | with_reducible apply belN | with_reducible apply belD | with_reducible assumption)))).mono ?_
  rintro e w19 ⟨rfl, hb⟩
  have hw : Below w18.heap.size w18 w19 := below_call (by repeat (first | with_reducible exact belR | with_reducible apply belA | (with_reducible refine belS ?_ ?_; focus (first | omega | (simp; done) | (simp; omega))) | with_reducible apply belN | with_reducible apply belD | with_reducible assumption)) (by first | omega | (simp; done) | (simp; omega)) hb
  have hsw19 : w18.heap.size ≤ w19.heap.size := by have y := hb.size; (try simp at y); omega
  clear cx_aP zx_aP
  replace HX_aP := Lib.hid (HX_aP.out.below hw)
  clear cx_aX zx_aX
  replace HX_aX := Lib.hid (HX_aX.out.below hw)
  clear cx_w0 zx_w0
  replace HX_w0 := Lib.hid (HX_w0.out.below hw)
  clear cx_x0 zx_x0
  replace HX_x0 := Lib.hid (HX_x0.out.below hw)
  clear cx_x2 zx_x2
  replace HX_x2 := Lib.hid (HX_x2.out.below hw)
  clear cx_g0 zx_g0
  replace HX_g0 := Lib.hid (HX_g0.out.below hw)
  have ⟨cx_aP, zx_aP⟩ := HX_aP.out
  have ⟨cx_aX, zx_aX⟩ := HX_aX.out
  have ⟨cx_w0, zx_w0⟩ := HX_w0.out
  have ⟨cx_x0, zx_x0⟩ := HX_x0.out
  have ⟨cx_x2, zx_x2⟩ := HX_x2.out
  have ⟨cx_g0, zx_g0⟩ := HX_g0.out
  replace HA0 := Lib.hid (HA0.out.below hw)
  replace HA2 := Lib.hid (HA2.out.below hw)
  replace H_w0 := Lib.hid (H_w0.out.below hw)
  replace H_x0 := Lib.hid (H_x0.out.below hw)
  replace H_x2 := Lib.hid (H_x2.out.below hw)
  replace H_g0 := Lib.hid (H_g0.out.below hw)
  replace HB := Lib.hid (below_call HB.out HB.out.size hw)
  clear hw
  clear hb
  go_wp2_with fail
  have hk_g0 := (hm_g0 a0 a1 a2 (by first | omega | exact hv_aP) (by first | omega | exact hg_aPath) (by first | omega | exact hv_aX))
  refine (markPage _ (f0 a0 a1 a2) fp_g0 (1) _ H_g0.out.rd H_g0.out.nodup (by omega)).mono ?_
  rintro e w20 ⟨rfl, hrd, hc⟩
  have hnew := Own.mk hrd H_g0.out.nodup (H_g0.out.ivl)
  have hq := H_g0.out.ivl
  have hsw20 : w19.heap.size ≤ w20.heap.size := hc.size
  clear cx_aP zx_aP
  replace HX_aP := Lib.hid (HX_aP.out.chg hc hq (by omega))
  clear cx_aX zx_aX
  replace HX_aX := Lib.hid (HX_aX.out.chg hc hq (by omega))
  clear cx_w0 zx_w0
  replace HX_w0 := Lib.hid (HX_w0.out.chg hc hq (by omega))
  clear cx_x0 zx_x0
  replace HX_x0 := Lib.hid (HX_x0.out.chg hc hq (by omega))
  clear cx_x2 zx_x2
  replace HX_x2 := Lib.hid (HX_x2.out.chg hc hq (by omega))
  clear cx_g0 zx_g0
  replace HX_g0 := Lib.hid (HX_g0.out.chg hc hq (by omega))
  have ⟨cx_aP, zx_aP⟩ := HX_aP.out
  have ⟨cx_aX, zx_aX⟩ := HX_aX.out
  have ⟨cx_w0, zx_w0⟩ := HX_w0.out
  have ⟨cx_x0, zx_x0⟩ := HX_x0.out
  have ⟨cx_x2, zx_x2⟩ := HX_x2.out
  have ⟨cx_g0, zx_g0⟩ := HX_g0.out
  replace HA0 := Lib.hid (HA0.out.chg hc hq (by omega))
  replace HA2 := Lib.hid (HA2.out.chg hc hq (by omega))
  replace H_w0 := Lib.hid (H_w0.out.chg hc (Own.apart H_w0.out H_g0.out (by omega)))
  replace H_x0 := Lib.hid (H_x0.out.chg hc (Own.apart H_x0.out H_g0.out (by omega)))
  replace H_x2 := Lib.hid (H_x2.out.chg hc (Own.apart H_x2.out H_g0.out (by omega)))
  replace HB := Lib.hid (Below.chg HB.out hc hq (by omega) HB.out.size)
  clear hq
  replace H_g0 := Lib.hid hnew; clear hnew hrd hc
  go_wp2_with fail
  refine (heldPage _ (f0 a0 a1 a2) (1) _ (H_g0.out.reads.below (by repeat (first | with_reducible exact belR | with_reducible apply belA | (with_reducible refine belS ?_ ?_; focus (first | omega | (simp; done) | (simp; omega))) | with_reducible apply belN | with_reducible apply belD | with_reducible assumption))) (by omega)).mono ?_
  rintro e w21 ⟨rfl, hb⟩
  have hw : Below w20.heap.size w20 w21 := below_call (by repeat (first | with_reducible exact belR | with_reducible apply belA | (with_reducible refine belS ?_ ?_; focus (first | omega | (simp; done) | (simp; omega))) | with_reducible apply belN | with_reducible apply belD | with_reducible assumption)) (by first | omega | (simp; done) | (simp; omega)) hb
  have hsw21 : w20.heap.size ≤ w21.heap.size := by have y := hb.size; (try simp at y); omega
  clear cx_aP zx_aP
  replace HX_aP := Lib.hid (HX_aP.out.below hw)
  clear cx_aX zx_aX
  replace HX_aX := Lib.hid (HX_aX.out.below hw)
  clear cx_w0 zx_w0
  replace HX_w0 := Lib.hid (HX_w0.out.below hw)
  clear cx_x0 zx_x0
  replace HX_x0 := Lib.hid (HX_x0.out.below hw)
  clear cx_x2 zx_x2
  replace HX_x2 := Lib.hid (HX_x2.out.below hw)
  clear cx_g0 zx_g0
  replace HX_g0 := Lib.hid (HX_g0.out.below hw)
  have ⟨cx_aP, zx_aP⟩ := HX_aP.out
  have ⟨cx_aX, zx_aX⟩ := HX_aX.out
  have ⟨cx_w0, zx_w0⟩ := HX_w0.out
  have ⟨cx_x0, zx_x0⟩ := HX_x0.out
  have ⟨cx_x2, zx_x2⟩ := HX_x2.out
  have ⟨cx_g0, zx_g0⟩ := HX_g0.out
  replace HA0 := Lib.hid (HA0.out.below hw)
  replace HA2 := Lib.hid (HA2.out.below hw)
  replace H_w0 := Lib.hid (H_w0.out.below hw)
  replace H_x0 := Lib.hid (H_x0.out.below hw)
  replace H_x2 := Lib.hid (H_x2.out.below hw)
  replace H_g0 := Lib.hid (H_g0.out.below hw)
  replace HB := Lib.hid (below_call HB.out HB.out.size hw)
  clear hw
  clear hb
  go_upto_region 33 with fail
  refine settle (fun W' => Below w21.heap.size w21 W' ∧ w21.heap.size ≤ W'.heap.size) ⟨(by repeat (first | with_reducible exact belR | with_reducible apply belA | (with_reducible refine belS ?_ ?_; focus (first | omega | (simp; done) | (simp; omega))) | with_reducible apply belN | with_reducible apply belD | with_reducible assumption)), (by first | omega | (simp; done) | (simp; omega))⟩ ?_
  rintro w22 ⟨hw, hsw22⟩
  clear cx_aP zx_aP
  replace HX_aP := Lib.hid (HX_aP.out.below hw)
  clear cx_aX zx_aX
  replace HX_aX := Lib.hid (HX_aX.out.below hw)
  clear cx_w0 zx_w0
  replace HX_w0 := Lib.hid (HX_w0.out.below hw)
  clear cx_x0 zx_x0
  replace HX_x0 := Lib.hid (HX_x0.out.below hw)
  clear cx_x2 zx_x2
  replace HX_x2 := Lib.hid (HX_x2.out.below hw)
  clear cx_g0 zx_g0
  replace HX_g0 := Lib.hid (HX_g0.out.below hw)
  have ⟨cx_aP, zx_aP⟩ := HX_aP.out
  have ⟨cx_aX, zx_aX⟩ := HX_aX.out
  have ⟨cx_w0, zx_w0⟩ := HX_w0.out
  have ⟨cx_x0, zx_x0⟩ := HX_x0.out
  have ⟨cx_x2, zx_x2⟩ := HX_x2.out
  have ⟨cx_g0, zx_g0⟩ := HX_g0.out
  replace HA0 := Lib.hid (HA0.out.below hw)
  replace HA2 := Lib.hid (HA2.out.below hw)
  replace H_w0 := Lib.hid (H_w0.out.below hw)
  replace H_x0 := Lib.hid (H_x0.out.below hw)
  replace H_x2 := Lib.hid (H_x2.out.below hw)
  replace H_g0 := Lib.hid (H_g0.out.below hw)
  replace HB := Lib.hid (below_call HB.out HB.out.size hw)
  clear hw
  go_cut [17, 18] (fun p_h0 p_h1 wx => ∃ (lo hi : Nat) (kb_h0 : Nat) (ao_h0_0 : Option Addr) (cap_h0_0 : Nat) (ao_h0_1 : Option Addr) (cap_h0_1 : Nat) (ao_h0_2 : Option Addr) (cap_h0_2 : Nat) (fp_h0 : List Nat), p_h0 = .pointer (some ⟨kb_h0, 0, none⟩) ∧ p_h1 = .bool (f1 a0 a1 a2) ∧ Box wx kb_h0 #[.int .i64 ((f0 a0 a1 a2)).id, .string ((f0 a0 a1 a2)).site, .string ((f0 a0 a1 a2)).top, .int .i64 ((f0 a0 a1 a2)).version, .slice ao_h0_0 ((f0 a0 a1 a2)).loaded.length cap_h0_0, .slice ao_h0_1 ((f0 a0 a1 a2)).machine.script.length cap_h0_1, .int .i64 ((f0 a0 a1 a2)).machine.pc, .slice ao_h0_2 ((f0 a0 a1 a2)).machine.regs.length cap_h0_2, .int .i64 ((f0 a0 a1 a2)).machine.steps, .bool ((f0 a0 a1 a2)).machine.done, .bool ((f0 a0 a1 a2)).machine.wait] ∧ w22.heap.size ≤ kb_h0 ∧ (kb_h0 < lo ∨ hi ≤ kb_h0) ∧ w22.heap.size ≤ lo ∧ hi ≤ wx.heap.size ∧ Own DPage.rep lo hi wx [.int .i64 ((f0 a0 a1 a2)).id, .string ((f0 a0 a1 a2)).site, .string ((f0 a0 a1 a2)).top, .int .i64 ((f0 a0 a1 a2)).version, .slice ao_h0_0 ((f0 a0 a1 a2)).loaded.length cap_h0_0, .slice ao_h0_1 ((f0 a0 a1 a2)).machine.script.length cap_h0_1, .int .i64 ((f0 a0 a1 a2)).machine.pc, .slice ao_h0_2 ((f0 a0 a1 a2)).machine.regs.length cap_h0_2, .int .i64 ((f0 a0 a1 a2)).machine.steps, .bool ((f0 a0 a1 a2)).machine.done, .bool ((f0 a0 a1 a2)).machine.wait] (f0 a0 a1 a2) fp_h0 ∧ Below w22.heap.size w22 wx)
  case first =>
    have HSr : Hid (∀ w', Below w22.heap.size w22 w' → (∀ o, w'.cell? ⟨w.heap.size, o, none⟩ = #[.int .i64 a0.id, .string a0.site, .string a0.top, .int .i64 a0.version, .slice ao0_0 a0.loaded.length cap0_0, .slice ao0_1 a0.machine.script.length cap0_1, .int .i64 a0.machine.pc, .slice ao0_2 a0.machine.regs.length cap0_2, .int .i64 a0.machine.steps, .bool a0.machine.done, .bool a0.machine.wait][o]?) ∧ (∀ o, w'.cell? ⟨w.heap.size + 1, o, none⟩ = #[.int .i64 a2.type_, .int .i64 a2.status, .int .i64 a2.version, .slice ao2_0 a2.body.length cap2_0, .bool a2.shares][o]?) ∧ Below w22.heap.size w22 w') := Lib.hid fun w' hw' => ⟨fun o => (hw'.cell (p := ⟨w.heap.size, o, none⟩) zx_aP).trans (cx_aP o), fun o => (hw'.cell (p := ⟨w.heap.size + 1, o, none⟩) zx_aX).trans (cx_aX o), hw'⟩
    go_region_held3 (fun w' => (∀ o, w'.cell? ⟨w.heap.size, o, none⟩ = #[.int .i64 a0.id, .string a0.site, .string a0.top, .int .i64 a0.version, .slice ao0_0 a0.loaded.length cap0_0, .slice ao0_1 a0.machine.script.length cap0_1, .int .i64 a0.machine.pc, .slice ao0_2 a0.machine.regs.length cap0_2, .int .i64 a0.machine.steps, .bool a0.machine.done, .bool a0.machine.wait][o]?) ∧ (∀ o, w'.cell? ⟨w.heap.size + 1, o, none⟩ = #[.int .i64 a2.type_, .int .i64 a2.status, .int .i64 a2.version, .slice ao2_0 a2.body.length cap2_0, .bool a2.shares][o]?) ∧ Below w22.heap.size w22 w')
      (first | exact HSr.out _ (by repeat (first | with_reducible exact belR | (with_reducible refine belAB ?_ ?_; focus (first | omega | (simp; done) | (simp; omega))) | (with_reducible refine belS ?_ ?_; focus (first | omega | (simp; done) | (simp; omega))) | with_reducible apply belN | with_reducible apply belD | with_reducible assumption)))
      (first | (go_at_call 39; have hx := hq_h0_aX; clear hx; have hS_F25 := ‹_ ∧ _ ∧ Below w22.heap.size w22 _›; refine (hI _ a0 a1 _ a2 _ (hr_h0_aP.below (by repeat (first | with_reducible exact belR | with_reducible apply belA | (with_reducible refine belS ?_ ?_; focus (first | omega | (simp; done) | (simp; omega))) | with_reducible apply belN | with_reducible apply belD | with_reducible assumption))) (hr_h0_aX.below (by repeat (first | with_reducible exact belR | with_reducible apply belA | (with_reducible refine belS ?_ ?_; focus (first | omega | (simp; done) | (simp; omega))) | with_reducible apply belN | with_reducible apply belD | with_reducible assumption))) (by first | omega | exact hv_aP) (by first | omega | exact hg_aPath) (by first | omega | exact hv_aX)).mono ?_; rintro e w25 ⟨d_h_0, rfl, hf0, hb_F25⟩; have hq_F25 : Below w22.heap.size w22 w25 := below_call hS_F25.2.2 hS_F25.2.2.size hb_F25; clear hS_F25; have hz_F25 := hq_F25.size; (first | (have hwb_F25 : WB w25 _ #[.int .i64 0, .string ⟨#[]⟩, .string ⟨#[]⟩, .int .i64 0, .slice none 0 0, .slice none 0 0, .int .i64 0, .slice none 0 0, .int .i64 0, .bool false, .bool false] := (WB.at rfl).keep hb_F25; have ⟨we_F25, wl_F25, wf_F25⟩ := hwb_F25) | (have hwb_F25 := hwb_h0_aX.keep hb_F25; have ⟨we_F25, wl_F25, wf_F25⟩ := hwb_F25) | skip); obtain ⟨ao_h0_0, cap_h0_0, ao_h0_1, cap_h0_1, ao_h0_2, cap_h0_2, rfl⟩ := DPage.fshape hf0) | (go_at_call 38; have hx := hq_h0_aP; clear hx; have hS_h0_aX := ‹_ ∧ _ ∧ Below w22.heap.size w22 _›; refine (toResponse _ a2 _ (HA2.out.reads.below hS_h0_aX.2.2) (by first | omega | (simp [DResponse.wt]))).mono ?_; rintro e w24 ⟨d_h0_aX, rfl, hf_h0_aX, hb_h0_aX⟩; have hq_h0_aX : Below w22.heap.size w22 w24 := below_call hS_h0_aX.2.2 hS_h0_aX.2.2.size hb_h0_aX; clear hS_h0_aX; have hz_h0_aX := hq_h0_aX.size; (first | (have hwb_h0_aX : WB w24 _ #[.int .i64 0, .string ⟨#[]⟩, .string ⟨#[]⟩, .int .i64 0, .slice none 0 0, .slice none 0 0, .int .i64 0, .slice none 0 0, .int .i64 0, .bool false, .bool false] := (WB.at rfl).keep hb_h0_aX; have ⟨we_h0_aX, wl_h0_aX, wf_h0_aX⟩ := hwb_h0_aX) | (have hwb_h0_aX := hwb_h0_aP.keep hb_h0_aX; have ⟨we_h0_aX, wl_h0_aX, wf_h0_aX⟩ := hwb_h0_aX) | skip); obtain ⟨ao_h0_aX_0, cap_h0_aX_0, rfl⟩ := DResponse.fshape hf_h0_aX; have hr_h0_aX := hf_h0_aX.reads; replace hr_h0_aP := hr_h0_aP.below (by first | exact hb_h0_aX | exact (belD belR).trans hb_h0_aX | exact below_call (by repeat (first | with_reducible exact belR | with_reducible apply belA | (with_reducible refine belS ?_ ?_; focus (first | omega | (simp; done) | (simp; omega))) | with_reducible apply belN | with_reducible apply belD | with_reducible assumption)) (by first | omega | (simp; done) | (simp; omega)) hb_h0_aX)) | (go_at_call 37; have hS_h0_aP := ‹_ ∧ _ ∧ Below w22.heap.size w22 _›; refine (toPage _ a0 _ (HA0.out.reads.below hS_h0_aP.2.2) (by first | omega | (simp [DPage.wt]))).mono ?_; rintro e w23 ⟨d_h0_aP, rfl, hf_h0_aP, hb_h0_aP⟩; have hq_h0_aP : Below w22.heap.size w22 w23 := below_call hS_h0_aP.2.2 hS_h0_aP.2.2.size hb_h0_aP; clear hS_h0_aP; have hz_h0_aP := hq_h0_aP.size; (first | (have hwb_h0_aP : WB w23 _ #[.int .i64 0, .string ⟨#[]⟩, .string ⟨#[]⟩, .int .i64 0, .slice none 0 0, .slice none 0 0, .int .i64 0, .slice none 0 0, .int .i64 0, .bool false, .bool false] := (WB.at rfl).growD.keep hb_h0_aP; have ⟨we_h0_aP, wl_h0_aP, wf_h0_aP⟩ := hwb_h0_aP) | skip); obtain ⟨ao_h0_aP_0, cap_h0_aP_0, ao_h0_aP_1, cap_h0_aP_1, ao_h0_aP_2, cap_h0_aP_2, rfl⟩ := DPage.fshape hf_h0_aP; have hr_h0_aP := hf_h0_aP.reads))
    all_goals
      go_wp2_with fail
      go_meet
      obtain ⟨lo0, fp_h0, hlo0, o_h0⟩ := Fresh.ownAtL hf0
      (try simp at hlo0)
      first
        | exact ⟨lo0, w25.heap.size, _, ao_h0_0, cap_h0_0, ao_h0_1, cap_h0_1, ao_h0_2, cap_h0_2, fp_h0, rfl, rfl, (sets11_LoadFile hwb_F25).box, (by omega), .inl (by omega), (by omega), (Nat.le_of_eq (by simp only [World.size_setCell])), (by repeat (first | with_reducible exact o_h0 | with_reducible refine Own.setOut ?_ (.inl (by omega)))), (by have y := hq_F25; exact (by repeat (first | with_reducible exact belR | with_reducible apply belA | (with_reducible refine belS ?_ ?_; focus (first | omega | (simp; done) | (simp; omega))) | with_reducible apply belN | with_reducible apply belD | with_reducible assumption)))⟩
        | exact ⟨lo0, w25.heap.size, w25.heap.size, ao_h0_0, cap_h0_0, ao_h0_1, cap_h0_1, ao_h0_2, cap_h0_2, fp_h0, rfl, rfl, Box.at rfl, (by omega), .inr (by omega), (by omega), (by rw [World.size_alloc]; omega), o_h0.allocA, (by have y := hq_F25; exact (by repeat (first | with_reducible exact belR | with_reducible apply belA | (with_reducible refine belS ?_ ?_; focus (first | omega | (simp; done) | (simp; omega))) | with_reducible apply belN | with_reducible apply belD | with_reducible assumption)))⟩
  obtain ⟨lo_h0, hi_h0, kb_h0, ao_h0_0, cap_h0_0, ao_h0_1, cap_h0_1, ao_h0_2, cap_h0_2, fp_h0, rfl, rfl, hbx_h0, hk1_h0, hk2_h0, hl1_h0, hl2_h0, ho_h0, hw⟩ := hcut
  rename World => w25
  have hsw25 : w22.heap.size ≤ w25.heap.size := hw.size
  clear cx_aP zx_aP
  replace HX_aP := Lib.hid (HX_aP.out.below hw)
  clear cx_aX zx_aX
  replace HX_aX := Lib.hid (HX_aX.out.below hw)
  clear cx_w0 zx_w0
  replace HX_w0 := Lib.hid (HX_w0.out.below hw)
  clear cx_x0 zx_x0
  replace HX_x0 := Lib.hid (HX_x0.out.below hw)
  clear cx_x2 zx_x2
  replace HX_x2 := Lib.hid (HX_x2.out.below hw)
  clear cx_g0 zx_g0
  replace HX_g0 := Lib.hid (HX_g0.out.below hw)
  have HX_h0 := Lib.hid hbx_h0; clear hbx_h0
  have hkz_h0 := HX_h0.out.2
  have H_h0 := Lib.hid ho_h0; clear ho_h0
  have ⟨cx_aP, zx_aP⟩ := HX_aP.out
  have ⟨cx_aX, zx_aX⟩ := HX_aX.out
  have ⟨cx_w0, zx_w0⟩ := HX_w0.out
  have ⟨cx_x0, zx_x0⟩ := HX_x0.out
  have ⟨cx_x2, zx_x2⟩ := HX_x2.out
  have ⟨cx_g0, zx_g0⟩ := HX_g0.out
  have ⟨cx_h0, zx_h0⟩ := HX_h0.out
  replace HA0 := Lib.hid (HA0.out.below hw)
  replace HA2 := Lib.hid (HA2.out.below hw)
  replace H_w0 := Lib.hid (H_w0.out.below hw)
  replace H_x0 := Lib.hid (H_x0.out.below hw)
  replace H_x2 := Lib.hid (H_x2.out.below hw)
  replace H_g0 := Lib.hid (H_g0.out.below hw)
  replace HB := Lib.hid (below_call HB.out HB.out.size hw)
  clear hw
  go_wp2_with fail
  refine (eqPage _ _ (f0 a0 a1 a2) _ (H_h0.out.reads.below (by repeat (first | with_reducible exact belR | with_reducible apply belA | (with_reducible refine belS ?_ ?_; focus (first | omega | (simp; done) | (simp; omega))) | with_reducible apply belN | with_reducible apply belD | with_reducible assumption))) (H_w0.out.reads.below (by repeat (first | with_reducible exact belR | with_reducible apply belA | (with_reducible refine belS ?_ ?_; focus (first | omega | (simp; done) | (simp; omega))) | with_reducible apply belN | with_reducible apply belD | with_reducible assumption)))).mono ?_
  rintro e w26 ⟨rfl, hb⟩
  have hw : Below w25.heap.size w25 w26 := below_call (by repeat (first | with_reducible exact belR | with_reducible apply belA | (with_reducible refine belS ?_ ?_; focus (first | omega | (simp; done) | (simp; omega))) | with_reducible apply belN | with_reducible apply belD | with_reducible assumption)) (by first | omega | (simp; done) | (simp; omega)) hb
  have hsw26 : w25.heap.size ≤ w26.heap.size := by have y := hb.size; (try simp at y); omega
  clear cx_aP zx_aP
  replace HX_aP := Lib.hid (HX_aP.out.below hw)
  clear cx_aX zx_aX
  replace HX_aX := Lib.hid (HX_aX.out.below hw)
  clear cx_w0 zx_w0
  replace HX_w0 := Lib.hid (HX_w0.out.below hw)
  clear cx_x0 zx_x0
  replace HX_x0 := Lib.hid (HX_x0.out.below hw)
  clear cx_x2 zx_x2
  replace HX_x2 := Lib.hid (HX_x2.out.below hw)
  clear cx_g0 zx_g0
  replace HX_g0 := Lib.hid (HX_g0.out.below hw)
  clear cx_h0 zx_h0
  replace HX_h0 := Lib.hid (HX_h0.out.below hw)
  have ⟨cx_aP, zx_aP⟩ := HX_aP.out
  have ⟨cx_aX, zx_aX⟩ := HX_aX.out
  have ⟨cx_w0, zx_w0⟩ := HX_w0.out
  have ⟨cx_x0, zx_x0⟩ := HX_x0.out
  have ⟨cx_x2, zx_x2⟩ := HX_x2.out
  have ⟨cx_g0, zx_g0⟩ := HX_g0.out
  have ⟨cx_h0, zx_h0⟩ := HX_h0.out
  replace HA0 := Lib.hid (HA0.out.below hw)
  replace HA2 := Lib.hid (HA2.out.below hw)
  replace H_w0 := Lib.hid (H_w0.out.below hw)
  replace H_x0 := Lib.hid (H_x0.out.below hw)
  replace H_x2 := Lib.hid (H_x2.out.below hw)
  replace H_g0 := Lib.hid (H_g0.out.below hw)
  replace H_h0 := Lib.hid (H_h0.out.below hw)
  replace HB := Lib.hid (below_call HB.out HB.out.size hw)
  clear hw
  clear hb
  go_wp2_with fail
  refine (heldPage _ (f0 a0 a1 a2) (1) _ (H_g0.out.reads.below (by repeat (first | with_reducible exact belR | with_reducible apply belA | (with_reducible refine belS ?_ ?_; focus (first | omega | (simp; done) | (simp; omega))) | with_reducible apply belN | with_reducible apply belD | with_reducible assumption))) (by omega)).mono ?_
  rintro e w27 ⟨rfl, hb⟩
  have hw : Below w26.heap.size w26 w27 := below_call (by repeat (first | with_reducible exact belR | with_reducible apply belA | (with_reducible refine belS ?_ ?_; focus (first | omega | (simp; done) | (simp; omega))) | with_reducible apply belN | with_reducible apply belD | with_reducible assumption)) (by first | omega | (simp; done) | (simp; omega)) hb
  have hsw27 : w26.heap.size ≤ w27.heap.size := by have y := hb.size; (try simp at y); omega
  clear cx_aP zx_aP
  replace HX_aP := Lib.hid (HX_aP.out.below hw)
  clear cx_aX zx_aX
  replace HX_aX := Lib.hid (HX_aX.out.below hw)
  clear cx_w0 zx_w0
  replace HX_w0 := Lib.hid (HX_w0.out.below hw)
  clear cx_x0 zx_x0
  replace HX_x0 := Lib.hid (HX_x0.out.below hw)
  clear cx_x2 zx_x2
  replace HX_x2 := Lib.hid (HX_x2.out.below hw)
  clear cx_g0 zx_g0
  replace HX_g0 := Lib.hid (HX_g0.out.below hw)
  clear cx_h0 zx_h0
  replace HX_h0 := Lib.hid (HX_h0.out.below hw)
  have ⟨cx_aP, zx_aP⟩ := HX_aP.out
  have ⟨cx_aX, zx_aX⟩ := HX_aX.out
  have ⟨cx_w0, zx_w0⟩ := HX_w0.out
  have ⟨cx_x0, zx_x0⟩ := HX_x0.out
  have ⟨cx_x2, zx_x2⟩ := HX_x2.out
  have ⟨cx_g0, zx_g0⟩ := HX_g0.out
  have ⟨cx_h0, zx_h0⟩ := HX_h0.out
  replace HA0 := Lib.hid (HA0.out.below hw)
  replace HA2 := Lib.hid (HA2.out.below hw)
  replace H_w0 := Lib.hid (H_w0.out.below hw)
  replace H_x0 := Lib.hid (H_x0.out.below hw)
  replace H_x2 := Lib.hid (H_x2.out.below hw)
  replace H_g0 := Lib.hid (H_g0.out.below hw)
  replace H_h0 := Lib.hid (H_h0.out.below hw)
  replace HB := Lib.hid (below_call HB.out HB.out.size hw)
  clear hw
  clear hb
  go_wp2_with fail
  go_ret
  have y := HB.out
  exact ⟨rfl, (by repeat (first | with_reducible exact belR | with_reducible apply belA | (with_reducible refine belS ?_ ?_; focus (first | omega | (simp; done) | (simp; omega))) | with_reducible apply belN | with_reducible apply belD | with_reducible assumption))⟩

set_option maxRecDepth 100000 in
set_option maxHeartbeats 1000000 in
theorem loadFile_lifted (f0 : DPage → ByteArray → DResponse → DPage) (f1 : DPage → ByteArray → DResponse → Bool) (hS : SaidLoadFile f0 f1 36) (hI : SaidLoadFile f0 f1 39) (hm_g0 : ∀ (a0 : DPage) (a1 : ByteArray) (a2 : DResponse), (a0).wt ≤ 1048576 → a1.size ≤ 1048576 → (a2).wt ≤ 1048576 → ((f0 a0 a1 a2)).mcnt ≤ 400000000) (hm_x0 : ∀ (a0 : DPage), (a0).wt ≤ 1048576 → (a0).mcnt ≤ 400000000) (hm_x2 : ∀ (a2 : DResponse), (a2).wt ≤ 1048576 → (a2).mcnt ≤ 400000000) (os : Os) (started : os.Started) (H : Type) (enc : TypeId × Value → H) :
    ReturnsInHanded {} Try.checked os 6 .any (Rows.fnExactLoadFileSpec.pre6 enc Try.prog Try.f6 Rows.fnExactLoadFileRow.domain false) (Rows.fnExactLoadFileSpec.post enc Try.prog Try.f6 false true false false) := by
  refine law_lift (C := Try.checked) Try.own started (by kernel_rfl) Try.func6 Try.laidOut (by kernel_rfl) rfl Try.underlying4 rfl ?_
    (ChangeSpec.witness6 (enc := enc) (C := Try.checked) false ⟨#[], #[.agg #[.int .i64 0, .string ByteArray.empty, .string ByteArray.empty, .int .i64 0, .slice none 0 0, .slice none 0 0, .int .i64 0, .slice none 0 0, .int .i64 0, .bool false, .bool false], .string ByteArray.empty, .agg #[.int .i64 0, .int .i64 0, .int .i64 0, .slice none 0 0, .bool false]], []⟩ 8 (by kernel_rfl) (by kernel_rfl) (by kernel_rfl) (by kernel_rfl)) ?_
  · intro ds h
    match ds, h with
    | [_, _, _], _ => rfl
  · intro W base args ds ps hval hA0
    have hA : DataW.TrodAll enc Try.prog W 0 (fun _ => true) true Try.f6.params.toList args.toList ds ps := hA0
    rw [Try.params6] at hA hval
    obtain ⟨v0, v1, v2, _, _, _, _, _, _, rfl, t0, t1, t2⟩ := trodAll_open3 hA
    obtain ⟨c0, a0, rfl, r0⟩ := arg_struct Try.underlying68 DPage.opens_laws (hval 0 68 v0 rfl rfl) t0
    obtain ⟨a1, rfl, z1⟩ := arg_str Try.underlying9 (hval 1 9 v1 rfl rfl) t1
    obtain ⟨c2, a2, rfl, r2⟩ := arg_struct Try.underlying70 DResponse.opens_laws (hval 2 70 v2 rfl rfl) t2
    exact lawLoadFile f0 f1 hS hI hm_g0 hm_x0 hm_x2 c0.toList a0 a1 c2.toList a2 W r0 r2 z1

theorem loadFile_of (f0 : DPage → ByteArray → DResponse → DPage) (f1 : DPage → ByteArray → DResponse → Bool) (hS : SaidLoadFile f0 f1 36) (hI : SaidLoadFile f0 f1 39) (hm_g0 : ∀ (a0 : DPage) (a1 : ByteArray) (a2 : DResponse), (a0).wt ≤ 1048576 → a1.size ≤ 1048576 → (a2).wt ≤ 1048576 → ((f0 a0 a1 a2)).mcnt ≤ 400000000) (hm_x0 : ∀ (a0 : DPage), (a0).wt ≤ 1048576 → (a0).mcnt ≤ 400000000) (hm_x2 : ∀ (a2 : DResponse), (a2).wt ≤ 1048576 → (a2).mcnt ≤ 400000000) : Rows.FnExactLoadFileSaid :=
  OpenClaim.holds_of_wide 6 Try.f6 rfl rfl rfl rfl rfl rfl rfl ⟨rfl, rfl, rfl, rfl, rfl⟩ rfl rfl rfl rfl rfl (by kernel_rfl) Try.func6 (by kernel_rfl)
    (of_decide_eq_true (by kernel_rfl)) (by unfold Func.isWrapper; rw [if_neg (by decide +kernel)]; exact ⟨rfl, rfl⟩)
    (fun os started H enc _ => loadFile_lifted f0 f1 hS hI hm_g0 hm_x0 hm_x2 os started H enc)

end Go.Proofs.Ytamdjeajmfjfmaa
