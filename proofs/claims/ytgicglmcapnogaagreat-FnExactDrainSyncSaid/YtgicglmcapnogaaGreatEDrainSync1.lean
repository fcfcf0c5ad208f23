/-
  FnExactDrainSync: part 1 of the law's walk.
-/
import Derived.Test.YtgicglmcapnogaaGreatEDrainSync0
namespace Go.Proofs.YtgicglmcapnogaaGreat
open Go.RowKit Go.ChangeShapes

set_option maxRecDepth 100000 in
set_option maxHeartbeats 16000000 in
def lawDrainSync1 :=
  fun (H : Rest _) => PLift.up (show ∀ (f0 : DSync → DServer → Int → DSync) (f1 : DSync → DServer → Int → DServer) (hS : SaidDrainSync f0 f1 18) (hI : SaidDrainSync f0 f1 19) (hm_g0 : ∀ (a0 : DSync) (a1 : DServer) (a2 : Int), (a0).wt ≤ 1048576 → (a1).wt ≤ 1048576 → -9223372036854775808 ≤ a0.tries → ((f0 a0 a1 a2)).mcnt ≤ 400000000) (hm_g1 : ∀ (a0 : DSync) (a1 : DServer) (a2 : Int), (a0).wt ≤ 1048576 → (a1).wt ≤ 1048576 → -9223372036854775808 ≤ a0.tries → ((f1 a0 a1 a2)).mcnt ≤ 400000000) (hm_x0 : ∀ (a0 : DSync), (a0).wt ≤ 1048576 → (a0).mcnt ≤ 400000000) (hm_x1 : ∀ (a1 : DServer), (a1).wt ≤ 1048576 → (a1).mcnt ≤ 400000000) (c0 : List Value) (a0 : DSync) (c1 : List Value) (a1 : DServer) (a2 : Int) (w : World) (h0 : Reads DSync.rep w c0 a0) (h1 : Reads DServer.rep w c1 a1) (ht0 : -9223372036854775808 ≤ a0.tries), Calls Tryz.prog 4 #[.agg c0.toArray, .agg c1.toArray, .int .i64 a2] w fun e w' => e = .returned (.bool true) ∧ Below w.heap.size w w' from by
    intro f0 f1 hS hI hm_g0 hm_g1 hm_x0 hm_x1 c0 a0 c1 a1 a2 w h0 h1 ht0
    have HA0 := Lib.hid (Low.start h0)
    obtain ⟨fp, hr⟩ := h0
    obtain ⟨ao0_0, cap0_0, rfl⟩ := DSync.shape hr
    clear hr
    have HA1 := Lib.hid (Low.start h1)
    obtain ⟨fp, hr⟩ := h1
    obtain ⟨ao1_0, cap1_0, ao1_1, cap1_1, ao1_2, cap1_2, rfl⟩ := DServer.shape hr
    clear hr
    have HB : Hid (Below w.heap.size w w) := Lib.hid belR
    go_enter Tryz.func4, Tryz.ntmps4
    go_wp2_with fail
    refine (szSync _ a0 (1048576) _ (HA0.out.reads.below (by repeat (first | with_reducible exact belR | with_reducible apply belA | (with_reducible refine belS ?_ ?_; focus (first | omega | (simp; done) | (simp; omega))) | with_reducible apply belN | with_reducible apply belD | with_reducible assumption))) (by omega) (by omega)).mono ?_
    rintro e w1 ⟨rfl, hb⟩
    have hw : Below w.heap.size w w1 := below_call (by repeat (first | with_reducible exact belR | with_reducible apply belA | (with_reducible refine belS ?_ ?_; focus (first | omega | (simp; done) | (simp; omega))) | with_reducible apply belN | with_reducible apply belD | with_reducible assumption)) (by first | omega | (simp; done) | (simp; omega)) hb
    have hsw1 : w.heap.size + 1 + 1 ≤ w1.heap.size := by have y := hb.size; (try simp at y); omega
    have HX_aY : Hid (Box w1 (w.heap.size) #[.int .i64 a0.outbox.device, .int .i64 a0.outbox.next, .slice ao0_0 a0.outbox.writes.length cap0_0, .int .i64 a0.tries, .int .i64 a0.waitUntil]) := Lib.hid (Box.below (Box.growA (Box.at (by first | rfl | simp))) hb)
    have HX_aS : Hid (Box w1 (w.heap.size + 1) #[.string a1.store.name, .slice ao1_0 a1.store.items.length cap1_0, .int .i64 a1.store.auto, .slice ao1_1 a1.applied.length cap1_1, .slice ao1_2 a1.changes.length cap1_2]) := Lib.hid (Box.below (Box.at (by first | rfl | simp)) hb)
    have ⟨cx_aY, zx_aY⟩ := HX_aY.out
    have ⟨cx_aS, zx_aS⟩ := HX_aS.out
    replace HA0 := Lib.hid (HA0.out.below hw)
    replace HA1 := Lib.hid (HA1.out.below hw)
    replace HB := Lib.hid (below_call HB.out HB.out.size hw)
    clear hw
    clear hb
    have hz := szOf_spec ((a0).wt) (1048576)
    by_cases hv_aY : ¬ (((a0).wt : Nat) : Int) ≤ 1048576
    · rw [hz.2 hv_aY]; clear hz
      go_wp2
      all_goals go_ret
      have y := HB.out
      exact ⟨rfl, (by repeat (first | with_reducible exact belR | with_reducible apply belA | (with_reducible refine belS ?_ ?_; focus (first | omega | (simp; done) | (simp; omega))) | with_reducible apply belN | with_reducible apply belD | with_reducible assumption))⟩
    rw [Decidable.not_not] at hv_aY
    rw [hz.1 hv_aY]; clear hz
    go_wp2_with fail
    refine (szServer _ a1 (1048576 - (((a0).wt : Nat) : Int)) _ (HA1.out.reads.below (by repeat (first | with_reducible exact belR | with_reducible apply belA | (with_reducible refine belS ?_ ?_; focus (first | omega | (simp; done) | (simp; omega))) | with_reducible apply belN | with_reducible apply belD | with_reducible assumption))) (by omega) (by omega)).mono ?_
    rintro e w2 ⟨rfl, hb⟩
    have hw : Below w1.heap.size w1 w2 := below_call (by repeat (first | with_reducible exact belR | with_reducible apply belA | (with_reducible refine belS ?_ ?_; focus (first | omega | (simp; done) | (simp; omega))) | with_reducible apply belN | with_reducible apply belD | with_reducible assumption)) (by first | omega | (simp; done) | (simp; omega)) hb
    have hsw2 : w1.heap.size ≤ w2.heap.size := by have y := hb.size; (try simp at y); omega
    clear cx_aY zx_aY
    replace HX_aY := Lib.hid (HX_aY.out.below hw)
    clear cx_aS zx_aS
    replace HX_aS := Lib.hid (HX_aS.out.below hw)
    have ⟨cx_aY, zx_aY⟩ := HX_aY.out
    have ⟨cx_aS, zx_aS⟩ := HX_aS.out
    replace HA0 := Lib.hid (HA0.out.below hw)
    replace HA1 := Lib.hid (HA1.out.below hw)
    replace HB := Lib.hid (below_call HB.out HB.out.size hw)
    clear hw
    clear hb
    have hz := szOf_spec ((a1).wt) (1048576 - (((a0).wt : Nat) : Int))
    by_cases hv_aS : ¬ (((a1).wt : Nat) : Int) ≤ 1048576 - (((a0).wt : Nat) : Int)
    · rw [hz.2 hv_aS]; clear hz
      go_wp2
      all_goals go_ret
      have y := HB.out
      exact ⟨rfl, (by repeat (first | with_reducible exact belR | with_reducible apply belA | (with_reducible refine belS ?_ ?_; focus (first | omega | (simp; done) | (simp; omega))) | with_reducible apply belN | with_reducible apply belD | with_reducible assumption))⟩
    rw [Decidable.not_not] at hv_aS
    rw [hz.1 hv_aS]; clear hz
    go_upto_region 8 with fail
    refine settle (fun W' => Below w2.heap.size w2 W' ∧ w2.heap.size ≤ W'.heap.size) ⟨(by repeat (first | with_reducible exact belR | with_reducible apply belA | (with_reducible refine belS ?_ ?_; focus (first | omega | (simp; done) | (simp; omega))) | with_reducible apply belN | with_reducible apply belD | with_reducible assumption)), (by first | omega | (simp; done) | (simp; omega))⟩ ?_
    rintro w3 ⟨hw, hsw3⟩
    clear cx_aY zx_aY
    replace HX_aY := Lib.hid (HX_aY.out.below hw)
    clear cx_aS zx_aS
    replace HX_aS := Lib.hid (HX_aS.out.below hw)
    have ⟨cx_aY, zx_aY⟩ := HX_aY.out
    have ⟨cx_aS, zx_aS⟩ := HX_aS.out
    replace HA0 := Lib.hid (HA0.out.below hw)
    replace HA1 := Lib.hid (HA1.out.below hw)
    replace HB := Lib.hid (below_call HB.out HB.out.size hw)
    clear hw
    go_cut [8, 9] (fun p_w0 p_w1 wx => ∃ (kb_w0 : Nat) (kb_w1 : Nat) (ao_w0_0 : Option Addr) (cap_w0_0 : Nat) (ao_w1_0 : Option Addr) (cap_w1_0 : Nat) (ao_w1_1 : Option Addr) (cap_w1_1 : Nat) (ao_w1_2 : Option Addr) (cap_w1_2 : Nat), p_w0 = .pointer (some ⟨kb_w0, 0, none⟩) ∧ p_w1 = .pointer (some ⟨kb_w1, 0, none⟩) ∧ Two DSync.rep DServer.rep w3 wx kb_w0 kb_w1 [.int .i64 ((f0 a0 a1 a2)).outbox.device, .int .i64 ((f0 a0 a1 a2)).outbox.next, .slice ao_w0_0 ((f0 a0 a1 a2)).outbox.writes.length cap_w0_0, .int .i64 ((f0 a0 a1 a2)).tries, .int .i64 ((f0 a0 a1 a2)).waitUntil] [.string ((f1 a0 a1 a2)).store.name, .slice ao_w1_0 ((f1 a0 a1 a2)).store.items.length cap_w1_0, .int .i64 ((f1 a0 a1 a2)).store.auto, .slice ao_w1_1 ((f1 a0 a1 a2)).applied.length cap_w1_1, .slice ao_w1_2 ((f1 a0 a1 a2)).changes.length cap_w1_2] (f0 a0 a1 a2) (f1 a0 a1 a2))
    case first =>
      have HSr : Hid (∀ w', Below w3.heap.size w3 w' → (∀ o, w'.cell? ⟨w.heap.size, o, none⟩ = #[.int .i64 a0.outbox.device, .int .i64 a0.outbox.next, .slice ao0_0 a0.outbox.writes.length cap0_0, .int .i64 a0.tries, .int .i64 a0.waitUntil][o]?) ∧ (∀ o, w'.cell? ⟨w.heap.size + 1, o, none⟩ = #[.string a1.store.name, .slice ao1_0 a1.store.items.length cap1_0, .int .i64 a1.store.auto, .slice ao1_1 a1.applied.length cap1_1, .slice ao1_2 a1.changes.length cap1_2][o]?) ∧ Below w3.heap.size w3 w') := Lib.hid fun w' hw' => ⟨fun o => (hw'.cell (p := ⟨w.heap.size, o, none⟩) zx_aY).trans (cx_aY o), fun o => (hw'.cell (p := ⟨w.heap.size + 1, o, none⟩) zx_aS).trans (cx_aS o), hw'⟩
      go_region_held3 (fun w' => (∀ o, w'.cell? ⟨w.heap.size, o, none⟩ = #[.int .i64 a0.outbox.device, .int .i64 a0.outbox.next, .slice ao0_0 a0.outbox.writes.length cap0_0, .int .i64 a0.tries, .int .i64 a0.waitUntil][o]?) ∧ (∀ o, w'.cell? ⟨w.heap.size + 1, o, none⟩ = #[.string a1.store.name, .slice ao1_0 a1.store.items.length cap1_0, .int .i64 a1.store.auto, .slice ao1_1 a1.applied.length cap1_1, .slice ao1_2 a1.changes.length cap1_2][o]?) ∧ Below w3.heap.size w3 w')
        (first | exact HSr.out _ (by repeat (first | with_reducible exact belR | (with_reducible refine belAB ?_ ?_; focus (first | omega | (simp; done) | (simp; omega))) | (with_reducible refine belS ?_ ?_; focus (first | omega | (simp; done) | (simp; omega))) | with_reducible apply belN | with_reducible apply belD | with_reducible assumption)))
        (first | (go_at_call 18; have hx := hq_w0_aS; clear hx; have hS_F6 := ‹_ ∧ _ ∧ Below w3.heap.size w3 _›; refine (hS _ a0 _ a1 a2 _ (hr_w0_aY.below (by repeat (first | with_reducible exact belR | with_reducible apply belA | (with_reducible refine belS ?_ ?_; focus (first | omega | (simp; done) | (simp; omega))) | with_reducible apply belN | with_reducible apply belD | with_reducible assumption))) (hr_w0_aS.below (by repeat (first | with_reducible exact belR | with_reducible apply belA | (with_reducible refine belS ?_ ?_; focus (first | omega | (simp; done) | (simp; omega))) | with_reducible apply belN | with_reducible apply belD | with_reducible assumption))) (by first | omega | exact hv_aY) (by first | omega | exact hv_aS) (by first | omega | exact ht0)).mono ?_; rintro e w6 ⟨d_w_0, d_w_1, rfl, hf0, hb_F6⟩; have hq_F6 : Below w3.heap.size w3 w6 := below_call hS_F6.2.2 hS_F6.2.2.size hb_F6; clear hS_F6; have hz_F6 := hq_F6.size; (first | (have hq := hwb_w0_w0_aS; clear hq; have hwb_w0_F6 : WB w6 _ #[.int .i64 0, .int .i64 0, .slice none 0 0, .int .i64 0, .int .i64 0] := (by with_reducible exact WB.keep hwb_w0_w0_aS hb_F6); have ⟨we_w0_F6, wl_w0_F6, wf_w0_F6⟩ := hwb_w0_F6) | (have hq := hwb_w0_w0_aS; clear hq; have hwb_w0_F6 : WB w6 _ #[.int .i64 0, .int .i64 0, .slice none 0 0, .int .i64 0, .int .i64 0] := (by with_reducible exact WB.keep (WB.growA hwb_w0_w0_aS) hb_F6); have ⟨we_w0_F6, wl_w0_F6, wf_w0_F6⟩ := hwb_w0_F6) | (have hwb_w0_F6 : WB w6 w5.heap.size #[.int .i64 0, .int .i64 0, .slice none 0 0, .int .i64 0, .int .i64 0] := (by with_reducible exact WB.keep (WB.at (Eq.refl _)) hb_F6); have ⟨we_w0_F6, wl_w0_F6, wf_w0_F6⟩ := hwb_w0_F6) | (have hwb_w0_F6 : WB w6 w5.heap.size #[.int .i64 0, .int .i64 0, .slice none 0 0, .int .i64 0, .int .i64 0] := (by with_reducible exact WB.keep (WB.growA (WB.at (Eq.refl _))) hb_F6); have ⟨we_w0_F6, wl_w0_F6, wf_w0_F6⟩ := hwb_w0_F6) | (have hwb_w0_F6 : WB w6 (w5.heap.size + 1) #[.int .i64 0, .int .i64 0, .slice none 0 0, .int .i64 0, .int .i64 0] := (by with_reducible exact WB.keep (WB.at (World.size_alloc _ _).symm) hb_F6); have ⟨we_w0_F6, wl_w0_F6, wf_w0_F6⟩ := hwb_w0_F6) | skip); (first | (have hq := hwb_w1_w0_aS; clear hq; have hwb_w1_F6 : WB w6 _ #[.string ⟨#[]⟩, .slice none 0 0, .int .i64 0, .slice none 0 0, .slice none 0 0] := (by with_reducible exact WB.keep hwb_w1_w0_aS hb_F6); have ⟨we_w1_F6, wl_w1_F6, wf_w1_F6⟩ := hwb_w1_F6) | (have hq := hwb_w1_w0_aS; clear hq; have hwb_w1_F6 : WB w6 _ #[.string ⟨#[]⟩, .slice none 0 0, .int .i64 0, .slice none 0 0, .slice none 0 0] := (by with_reducible exact WB.keep (WB.growA hwb_w1_w0_aS) hb_F6); have ⟨we_w1_F6, wl_w1_F6, wf_w1_F6⟩ := hwb_w1_F6) | (have hwb_w1_F6 : WB w6 w5.heap.size #[.string ⟨#[]⟩, .slice none 0 0, .int .i64 0, .slice none 0 0, .slice none 0 0] := (by with_reducible exact WB.keep (WB.at (Eq.refl _)) hb_F6); have ⟨we_w1_F6, wl_w1_F6, wf_w1_F6⟩ := hwb_w1_F6) | (have hwb_w1_F6 : WB w6 w5.heap.size #[.string ⟨#[]⟩, .slice none 0 0, .int .i64 0, .slice none 0 0, .slice none 0 0] := (by with_reducible exact WB.keep (WB.growA (WB.at (Eq.refl _))) hb_F6); have ⟨we_w1_F6, wl_w1_F6, wf_w1_F6⟩ := hwb_w1_F6) | (have hwb_w1_F6 : WB w6 (w5.heap.size + 1) #[.string ⟨#[]⟩, .slice none 0 0, .int .i64 0, .slice none 0 0, .slice none 0 0] := (by with_reducible exact WB.keep (WB.at (World.size_alloc _ _).symm) hb_F6); have ⟨we_w1_F6, wl_w1_F6, wf_w1_F6⟩ := hwb_w1_F6) | skip); have hp0 := hf0.left; have hp1 := hf0.right; obtain ⟨ao_w0_0, cap_w0_0, rfl⟩ := DSync.fshape hp0; obtain ⟨ao_w1_0, cap_w1_0, ao_w1_1, cap_w1_1, ao_w1_2, cap_w1_2, rfl⟩ := DServer.fshape hp1) | (go_at_call 10; have hx := hq_w0_aY; clear hx; have hS_w0_aS := ‹_ ∧ _ ∧ Below w3.heap.size w3 _›; refine (toServer _ a1 _ (HA1.out.reads.below hS_w0_aS.2.2) (by first | omega | (simp [DServer.wt]))).mono ?_; rintro e w5 ⟨d_w0_aS, rfl, hf_w0_aS, hb_w0_aS⟩; have hq_w0_aS : Below w3.heap.size w3 w5 := below_call hS_w0_aS.2.2 hS_w0_aS.2.2.size hb_w0_aS; clear hS_w0_aS; have hz_w0_aS := hq_w0_aS.size; (first | (have hq := hwb_w0_w0_aY; clear hq; have hwb_w0_w0_aS : WB w5 _ #[.int .i64 0, .int .i64 0, .slice none 0 0, .int .i64 0, .int .i64 0] := (by with_reducible exact WB.keep hwb_w0_w0_aY hb_w0_aS); have ⟨we_w0_w0_aS, wl_w0_w0_aS, wf_w0_w0_aS⟩ := hwb_w0_w0_aS) | (have hq := hwb_w0_w0_aY; clear hq; have hwb_w0_w0_aS : WB w5 _ #[.int .i64 0, .int .i64 0, .slice none 0 0, .int .i64 0, .int .i64 0] := (by with_reducible exact WB.keep (WB.growA hwb_w0_w0_aY) hb_w0_aS); have ⟨we_w0_w0_aS, wl_w0_w0_aS, wf_w0_w0_aS⟩ := hwb_w0_w0_aS) | (have hwb_w0_w0_aS : WB w5 w4.heap.size #[.int .i64 0, .int .i64 0, .slice none 0 0, .int .i64 0, .int .i64 0] := (by with_reducible exact WB.keep (WB.at (Eq.refl _)) hb_w0_aS); have ⟨we_w0_w0_aS, wl_w0_w0_aS, wf_w0_w0_aS⟩ := hwb_w0_w0_aS) | (have hwb_w0_w0_aS : WB w5 w4.heap.size #[.int .i64 0, .int .i64 0, .slice none 0 0, .int .i64 0, .int .i64 0] := (by with_reducible exact WB.keep (WB.growA (WB.at (Eq.refl _))) hb_w0_aS); have ⟨we_w0_w0_aS, wl_w0_w0_aS, wf_w0_w0_aS⟩ := hwb_w0_w0_aS) | (have hwb_w0_w0_aS : WB w5 (w4.heap.size + 1) #[.int .i64 0, .int .i64 0, .slice none 0 0, .int .i64 0, .int .i64 0] := (by with_reducible exact WB.keep (WB.at (World.size_alloc _ _).symm) hb_w0_aS); have ⟨we_w0_w0_aS, wl_w0_w0_aS, wf_w0_w0_aS⟩ := hwb_w0_w0_aS) | skip); (first | (have hq := hwb_w1_w0_aY; clear hq; have hwb_w1_w0_aS : WB w5 _ #[.string ⟨#[]⟩, .slice none 0 0, .int .i64 0, .slice none 0 0, .slice none 0 0] := (by with_reducible exact WB.keep hwb_w1_w0_aY hb_w0_aS); have ⟨we_w1_w0_aS, wl_w1_w0_aS, wf_w1_w0_aS⟩ := hwb_w1_w0_aS) | (have hq := hwb_w1_w0_aY; clear hq; have hwb_w1_w0_aS : WB w5 _ #[.string ⟨#[]⟩, .slice none 0 0, .int .i64 0, .slice none 0 0, .slice none 0 0] := (by with_reducible exact WB.keep (WB.growA hwb_w1_w0_aY) hb_w0_aS); have ⟨we_w1_w0_aS, wl_w1_w0_aS, wf_w1_w0_aS⟩ := hwb_w1_w0_aS) | (have hwb_w1_w0_aS : WB w5 w4.heap.size #[.string ⟨#[]⟩, .slice none 0 0, .int .i64 0, .slice none 0 0, .slice none 0 0] := (by with_reducible exact WB.keep (WB.at (Eq.refl _)) hb_w0_aS); have ⟨we_w1_w0_aS, wl_w1_w0_aS, wf_w1_w0_aS⟩ := hwb_w1_w0_aS) | (have hwb_w1_w0_aS : WB w5 w4.heap.size #[.string ⟨#[]⟩, .slice none 0 0, .int .i64 0, .slice none 0 0, .slice none 0 0] := (by with_reducible exact WB.keep (WB.growA (WB.at (Eq.refl _))) hb_w0_aS); have ⟨we_w1_w0_aS, wl_w1_w0_aS, wf_w1_w0_aS⟩ := hwb_w1_w0_aS) | (have hwb_w1_w0_aS : WB w5 (w4.heap.size + 1) #[.string ⟨#[]⟩, .slice none 0 0, .int .i64 0, .slice none 0 0, .slice none 0 0] := (by with_reducible exact WB.keep (WB.at (World.size_alloc _ _).symm) hb_w0_aS); have ⟨we_w1_w0_aS, wl_w1_w0_aS, wf_w1_w0_aS⟩ := hwb_w1_w0_aS) | skip); obtain ⟨ao_w0_aS_0, cap_w0_aS_0, ao_w0_aS_1, cap_w0_aS_1, ao_w0_aS_2, cap_w0_aS_2, rfl⟩ := DServer.fshape hf_w0_aS; have hr_w0_aS := hf_w0_aS.reads; replace hr_w0_aY := hr_w0_aY.below (by first | exact hb_w0_aS | exact (belD belR).trans hb_w0_aS | exact below_call (by repeat (first | with_reducible exact belR | with_reducible apply belA | (with_reducible refine belS ?_ ?_; focus (first | omega | (simp; done) | (simp; omega))) | with_reducible apply belN | with_reducible apply belD | with_reducible assumption)) (by first | omega | (simp; done) | (simp; omega)) hb_w0_aS)) | (go_at_call 9; have hS_w0_aY := ‹_ ∧ _ ∧ Below w3.heap.size w3 _›; refine (toSync _ a0 _ (HA0.out.reads.below hS_w0_aY.2.2) (by first | omega | (simp [DSync.wt]))).mono ?_; rintro e w4 ⟨d_w0_aY, rfl, hf_w0_aY, hb_w0_aY⟩; have hq_w0_aY : Below w3.heap.size w3 w4 := below_call hS_w0_aY.2.2 hS_w0_aY.2.2.size hb_w0_aY; clear hS_w0_aY; have hz_w0_aY := hq_w0_aY.size; (first | (have hwb_w0_w0_aY : WB w4 w3.heap.size #[.int .i64 0, .int .i64 0, .slice none 0 0, .int .i64 0, .int .i64 0] := (by with_reducible exact WB.keep (WB.growD (WB.at (Eq.refl _))) hb_w0_aY); have ⟨we_w0_w0_aY, wl_w0_w0_aY, wf_w0_w0_aY⟩ := hwb_w0_w0_aY) | (have hwb_w0_w0_aY : WB w4 w3.heap.size #[.int .i64 0, .int .i64 0, .slice none 0 0, .int .i64 0, .int .i64 0] := (by with_reducible exact WB.keep (WB.growD (WB.growA (WB.at (Eq.refl _)))) hb_w0_aY); have ⟨we_w0_w0_aY, wl_w0_w0_aY, wf_w0_w0_aY⟩ := hwb_w0_w0_aY) | (have hwb_w0_w0_aY : WB w4 (w3.heap.size + 1) #[.int .i64 0, .int .i64 0, .slice none 0 0, .int .i64 0, .int .i64 0] := (by with_reducible exact WB.keep (WB.growD (WB.at (World.size_alloc _ _).symm)) hb_w0_aY); have ⟨we_w0_w0_aY, wl_w0_w0_aY, wf_w0_w0_aY⟩ := hwb_w0_w0_aY) | skip); (first | (have hwb_w1_w0_aY : WB w4 w3.heap.size #[.string ⟨#[]⟩, .slice none 0 0, .int .i64 0, .slice none 0 0, .slice none 0 0] := (by with_reducible exact WB.keep (WB.growD (WB.at (Eq.refl _))) hb_w0_aY); have ⟨we_w1_w0_aY, wl_w1_w0_aY, wf_w1_w0_aY⟩ := hwb_w1_w0_aY) | (have hwb_w1_w0_aY : WB w4 w3.heap.size #[.string ⟨#[]⟩, .slice none 0 0, .int .i64 0, .slice none 0 0, .slice none 0 0] := (by with_reducible exact WB.keep (WB.growD (WB.growA (WB.at (Eq.refl _)))) hb_w0_aY); have ⟨we_w1_w0_aY, wl_w1_w0_aY, wf_w1_w0_aY⟩ := hwb_w1_w0_aY) | (have hwb_w1_w0_aY : WB w4 (w3.heap.size + 1) #[.string ⟨#[]⟩, .slice none 0 0, .int .i64 0, .slice none 0 0, .slice none 0 0] := (by with_reducible exact WB.keep (WB.growD (WB.at (World.size_alloc _ _).symm)) hb_w0_aY); have ⟨we_w1_w0_aY, wl_w1_w0_aY, wf_w1_w0_aY⟩ := hwb_w1_w0_aY) | skip); obtain ⟨ao_w0_aY_0, cap_w0_aY_0, rfl⟩ := DSync.fshape hf_w0_aY; have hr_w0_aY := hf_w0_aY.reads))
      all_goals
        go_wp2_with fail
        go_meet
        obtain ⟨lo0, hlo0, hf9⟩ := Fresh2.base hf0
        (try simp at hlo0)
        first
          | (have hx0 := hwb_w0_F6; clear hx0; have hx1 := hwb_w1_F6; clear hx1; with_reducible exact ⟨_, _, ao_w0_0, cap_w0_0, ao_w1_0, cap_w1_0, ao_w1_1, cap_w1_1, ao_w1_2, cap_w1_2, rfl, rfl, two_w1 hf9 hwb_w0_F6 hwb_w1_F6 (by omega) (by omega) (by omega) (by omega) (by omega) hq_F6⟩)
          | (have hx0 := hwb_w0_F6; clear hx0; have hx1 := hwb_w1_F6; clear hx1; with_reducible exact ⟨_, _, ao_w0_0, cap_w0_0, ao_w1_0, cap_w1_0, ao_w1_1, cap_w1_1, ao_w1_2, cap_w1_2, rfl, rfl, two_w6 hf9 hwb_w0_F6 hwb_w1_F6 (by omega) (by omega) (by omega) (by omega) (by omega) hq_F6⟩)
          | (have hx0 := hwb_w0_F6; clear hx0; with_reducible exact ⟨_, _, ao_w0_0, cap_w0_0, ao_w1_0, cap_w1_0, ao_w1_1, cap_w1_1, ao_w1_2, cap_w1_2, rfl, rfl, two_w2 hf9 hwb_w0_F6 (by with_reducible rfl) (by omega) (by omega) (by omega) hq_F6⟩)
          | (have hx0 := hwb_w1_F6; clear hx0; with_reducible exact ⟨_, _, ao_w0_0, cap_w0_0, ao_w1_0, cap_w1_0, ao_w1_1, cap_w1_1, ao_w1_2, cap_w1_2, rfl, rfl, two_w3 hf9 hwb_w1_F6 (by with_reducible rfl) (by omega) (by omega) (by omega) hq_F6⟩)
          | (with_reducible exact ⟨_, _, ao_w0_0, cap_w0_0, ao_w1_0, cap_w1_0, ao_w1_1, cap_w1_1, ao_w1_2, cap_w1_2, rfl, rfl, two_w4 hf9 (by with_reducible rfl) (by with_reducible rfl) (by omega) hq_F6⟩)
          | (with_reducible exact ⟨_, _, ao_w0_0, cap_w0_0, ao_w1_0, cap_w1_0, ao_w1_1, cap_w1_1, ao_w1_2, cap_w1_2, rfl, rfl, two_w5 hf9 (by with_reducible rfl) (by with_reducible rfl) (by omega) hq_F6⟩)
    obtain ⟨kb_w0, kb_w1, ao_w0_0, cap_w0_0, ao_w1_0, cap_w1_0, ao_w1_1, cap_w1_1, ao_w1_2, cap_w1_2, rfl, rfl, htw⟩ := hcut
    obtain ⟨lo_w0, hi_w0, fp_w0, fp_w1, hbx_w0, hk1_w0, hk2_w0, hbx_w1, hk1_w1, hk2_w1, hl1_w0, hl2_w0, ho_w0, ho_w1, hd_w0, hw⟩ := htw
    rename_i i1_0 i1_1 i1_2 i1_3 i1_4 i1_5
    revert f0 f1 hS hI hm_g0 hm_g1 hm_x0 hm_x1 a0 a1 a2 w ht0 i1_0 ao0_0 cap0_0 fp ao1_0 cap1_0 ao1_1 cap1_1 ao1_2 cap1_2 i1_1 w1 hsw1 hv_aY i1_2 w2 hsw2 hv_aS i1_3 i1_4 i1_5 w3 hsw3 HX_aY HX_aS cx_aY zx_aY cx_aS zx_aS HA0 HA1 HB wc u19 u20 u21 u22 u23 u24 u25 u26 u27 u28 u29 u30 u31 u32 u33 u34 u35 u36 u37 u38 u39 u40 u41 u42 u43 u44 u45 u46 u47 u48 u49 u50 u51 u52 u53 u54 u55 u56 u57 u58 u59 u60 u61 u62 u63 u64 u65 u66 u67 u68 u69 u70 u71 u72 u73 u74 u75 u76 u77 u78 u79 u80 u81 u82 u83 u84 u85 u86 u87 u88 u89 u90 u91 u92 u93 u94 u95 u96 u97 u98 u99 u100 u101 u102 u103 u104 u105 u106 u107 u108 u109 u110 u111 u112 u113 u114 u115 u116 u117 u118 u119 u120 u121 u122 u123 u124 u125 u126 u127 u128 u129 u130 u131 u132 u133 u134 u135 u136 u137 u138 u139 kb_w0 kb_w1 ao_w0_0 cap_w0_0 ao_w1_0 cap_w1_0 ao_w1_1 cap_w1_1 ao_w1_2 cap_w1_2 lo_w0 hi_w0 fp_w0 fp_w1 hbx_w0 hk1_w0 hk2_w0 hbx_w1 hk1_w1 hk2_w1 hl1_w0 hl2_w0 ho_w0 ho_w1 hd_w0 hw
    exact H.out)

end Go.Proofs.YtgicglmcapnogaaGreat
