/-
 spec.l21Mark.
-/
import Derived.Test.YtlfebehpmefioaaGreatReceive
namespace Go.Proofs.YtlfebehpmefioaaGreat
open Go.RowKit

theorem markS_new {l : List DApplied} {d : Int} (q : Int) {k : Nat} (hk : lead (deviceLess d) l = k) (h : ∀ h : k < l.length, (l[k].device == d) = false) : markS l d q = insAt l k ⟨d, q⟩ := by
 unfold markS markNew
 rw [hk]
 by_cases hlt : k < l.length
 ·rw [List.getElem?_eq_getElem hlt]
  have h1 : atDevice d l[k] = false := h hlt
  simp only [h1, Bool.false_eq_true, if_false]
 ·rw [List.getElem?_eq_none (by omega)]
theorem markS_old {l : List DApplied} {d : Int} (q : Int) {k : Nat} (hlt : k < l.length) (hk : lead (deviceLess d) l = k) (h : (l[k].device == d) = true) : markS l d q = l.set k ⟨l[k].device, q⟩ := by
 unfold markS markAt
 rw [hk, List.getElem?_eq_getElem hlt]
 have h1 : atDevice d l[k] = true := h
 simp only [h1, if_true]
attribute [local irreducible] markS

set_option maxRecDepth 100000 in
set_option maxHeartbeats 8000000 in
theorem specMark (v : Value) (l : List DApplied) (d q : Int) (w : World) (h : Reads (Rep.slice 89 DApplied.rep) w [v] l) (hs : l.length ≤ 1049000) :
  Calls Tryz.prog 51 #[v, .int .i64 d, .int .i64 q] w fun e w' => ∃ ao cap, e = .returned (.slice ao (markS l d q).length cap) ∧ Fresh (Rep.slice 89 DApplied.rep) w.heap.size w' [.slice ao (markS l d q).length cap] (markS l d q) ∧ Below w.heap.size w w' := by
 have HL := Lib.hid h
 obtain ⟨f', h'⟩ := h
 obtain ⟨ao, cap, rfl, hlm, hlc, _⟩ := slice_open h'
 clear h'
 obtain ⟨i0, hi, hz0, hz1, hz2⟩ := info_parts infoApplied
 go_enter Tryz.func51, Tryz.ntmps51
 go_wp2_with (at_builtin; refine wpList_grow _ rfl _ _ 27 27 rfl DApplied.flat w.heap.size 89 i0 _ _ Tryz.underlying27 hi hz0 hz1 hz2 rfl _ [] rfl (lit_fresh DApplied.flat (w := _) (xs := #[]) (us := []) rfl rfl (by decide) (by simp) (by simp)) _ l rfl (DApplied.flat.src Tryz.underlying27 (HL.out.below bEl)) ?c1a ?c2a ?c3a ?c4a ?_)
 case c1a => exact (DApplied.flat.row HL.out).2
 case c2a => (try simp only [List.length_nil, Nat.zero_add]); omega
 case c3a => (try simp only [List.length_nil, Nat.zero_add]); unfold maxLen; omega
 try (case c4a => simp; try omega)
 intro ao1 cap1 w1 hf1 hb1
 have HF : Hid (Fresh (Rep.slice 89 DApplied.rep) w.heap.size w1 [.slice ao1 l.length cap1] l) := Lib.hid (by simpa using hf1)
 have HB : Hid (Below w.heap.size w w1) := Lib.hid (Below.trans bEb hb1)
 have hsz1 := HB.out.size
 clear hf1 hb1
 go_wp2
 go_loop [8] (fun i => ∃ k : Nat, k ≤ l.length ∧ i = .int .i64 k ∧ Hid (∀ j, (hj : j < l.length) → j < k → deviceLess d l[j] = true)) (fun i => l.length - (intOf i).toNat)
 case atStart => exact ⟨0, by omega, rfl, Lib.hid (by intro j hj h; omega)⟩
 case round =>
  obtain ⟨k, hk, rfl, HA⟩ := hrel
  have hstop : (Hid (∀ h : k < l.length, deviceLess d l[k] = false)) ∨ ∃ h : k < l.length, deviceLess d l[k] = true := by
   by_cases h1 : k < l.length
   ·cases h2 : deviceLess d l[k]
    ·exact .inl (Lib.hid fun _ => h2)
    ·exact .inr ⟨h1, h2⟩
   ·exact .inl (Lib.hid fun h => absurd h h1)
  have j1 : (0 : Int) ≤ (k : Int) := by omega
  rcases hstop with HS | ⟨hlt', hle⟩
  ·have HLd := Lib.hid (lead_eq hk HA.out HS.out)
   by_cases hkl : k < l.length
   ·have n5 : ¬ l[k].device < d := of_decide_eq_false (HS.out hkl)
    obtain ⟨b, off, cs_b, rfl, hw_b, hr_b, hcell_b⟩ := slice_at (HL.out.below HB.out) k hkl
    obtain ⟨fe_b, hrd_b⟩ := hr_b
    have HR_b : Hid (Reads DApplied.rep w1 cs_b l[k]) := ⟨_, hrd_b⟩
    obtain ⟨rfl, _⟩ := DApplied.rd.1 hrd_b
    clear hrd_b
    have b_c0 : w1.cell? ⟨b, off + k * 2, none⟩ = some (.int .i64 l[k].device) := hcell_b 0 (by decide)
    have b_c1 : w1.cell? ⟨b, off + k * 2 + 1, none⟩ = some (.int .i64 l[k].seq) := hcell_b 1 (by decide)
    clear hcell_b
    clear HR_b
    have i2 : (k : Int) < (l.length : Int) := by omega
    cases n7 : (l[k].device == d)
    ·have HE2 := Lib.hid (markS_new q HLd.out (fun _ => n7))
     have HPre := Lib.hid (HL.out.pre k hk)
     have HTl := Lib.hid (Reads.tail HL.out k hk)
     have hsl := fun W => run_tail (P := Tryz.prog) (t := 27) (n := 2) (by kernel_rfl) (fun _ => by kernel_rfl) (some ⟨b, off, none⟩) k l.length cap hk W
     have j2 : (k : Int) ≤ (l.length : Int) := by omega
     have j3 : (k : Int) ≤ (cap : Int) := by omega
     have j4 : k ≤ cap := by omega
     have hlen : (markS l d q).length = l.length + 1 := by rw [HE2.out]; exact insAt_length hk _
     have HLn := Lib.hid hlen
     clear hlen HF
     go_upto_region 8 with fail
     go_region_held3 (fun w' => Below w1.heap.size w1 w')
      (first | exact (by (repeat (first | with_reducible exact belR | with_reducible apply belA | with_reducible apply belN | with_reducible apply belD | with_reducible assumption)); done) | fail)
      (first
       | ((refine DApplied.flat.step_growC _ (by rfl) (.tmp 46) (.tmp 49) 27 27 (by rfl) w1.heap.size 89 i0 _ _ Tryz.underlying27 Tryz.underlying27 hi hz0 hz1 hz2 rfl _ [] (by rfl) ?ownA _ (l.take k) (by rfl) ?rdA k ?lmA ?lnA (by decide) ?bsA ?_); (case ownA => (first | exact (Fresh.mono (Fresh.lit0 (w := w1) rfl) (Nat.le_refl _)).below (by (repeat (first | with_reducible exact belR | with_reducible apply belA | with_reducible apply belN | with_reducible apply belD | with_reducible assumption)); done) | exact (Fresh.mono (Fresh.lit0 (k := w1.heap.size + 1) (w := w1.alloc (.cells #[.int .i64 d, .int .i64 q] 89)) (by simp)) (by omega)).below (by (repeat (first | with_reducible exact belR | with_reducible apply belA | with_reducible apply belN | with_reducible apply belD | with_reducible assumption)); done) | fail)); (case rdA => (exact HPre.out.below (by have y := HB.out; exact bEb))); (case lmA => (first | (simp; done) | (simp; omega))); (case lnA => omega); (case bsA => (first | exact Nat.le_refl _ | (simp; done) | omega | (simp; omega))); (intro aoA capA wA hfA hcA hgA); have hbA : Below w1.heap.size w1 wA := Below.trans bEl hgA; have hzA := hbA.size; have HFA := Lib.hid hfA; simp [Act.eval, Value.ownBlock] at hcA; (first | (have hLit := (DApplied.flat.reads_chg ((DApplied.flat.one_reads (E := 89) (u := (⟨d, q⟩ : DApplied)) (xs := #[.int .i64 d, .int .i64 q]) (t := 89) rfl rfl trivial).below (by (repeat (first | with_reducible exact belR | with_reducible apply belA | with_reducible apply belN | with_reducible apply belD | with_reducible assumption)); done)) hcA (by simp; done)); (try simp at hLit); have HLit := Lib.hid hLit; clear hLit) | skip); clear hfA hcA hgA)
       | ((refine DApplied.flat.step_growC _ (by rfl) (.tmp 50) (.tmp 54) 27 27 (by rfl) w1.heap.size 89 i0 _ _ Tryz.underlying27 Tryz.underlying27 hi hz0 hz1 hz2 rfl (.slice aoA k capA) ([] ++ l.take k) (by rfl) ?ownB _ [(⟨d, q⟩ : DApplied)] (by rfl) ?rdB (k + 1) ?lmB ?lnB (by decide) ?bsB ?_); (case ownB => (exact HFA.out.below bEl)); (case rdB => (first | exact HLit.out.below (by (repeat (first | with_reducible exact belR | with_reducible apply belA | with_reducible apply belN | with_reducible apply belD | with_reducible assumption)); done) | exact (DApplied.flat.one_reads (u := (⟨d, q⟩ : DApplied)) (xs := #[.int .i64 d, .int .i64 q]) rfl rfl trivial).below (by (repeat (first | with_reducible exact belR | with_reducible apply belA | with_reducible apply belN | with_reducible apply belD | with_reducible assumption)); done) | fail)); (case lmB => (first | (simp; done) | (simp; omega))); (case lnB => omega); (case bsB => (first | exact Nat.le_refl _ | (simp; done) | omega | (simp; omega))); (intro aoB capB wB hfB hcB hgB); have hbB : Below w1.heap.size w1 wB := Below.trans (by have y := hbA; exact bEl) hgB; have hzB := hbB.size; have HFB := Lib.hid hfB; clear hfB hcB hgB)
       | ((refine DApplied.flat.step_growC _ (by rfl) (.tmp 55) (.tmp 58) 27 27 (by rfl) w1.heap.size 89 i0 _ _ Tryz.underlying27 Tryz.underlying27 hi hz0 hz1 hz2 rfl (.slice aoB (k + 1) capB) ([] ++ l.take k ++ [(⟨d, q⟩ : DApplied)]) (by rfl) ?ownC _ (l.drop k) (by rfl) ?rdC (l.length + 1) ?lmC ?lnC (by decide) ?bsC ?_); (case ownC => (exact HFB.out.below bEl)); (case rdC => (exact HTl.out.below (by have y := HB.out.trans (hbB.mono HB.out.size); exact bEb))); (case lmC => (first | (simp; done) | (simp; omega))); (case lnC => omega); (case bsC => (first | exact Nat.le_refl _ | (simp; done) | omega | (simp; omega))); (intro aoC capC wC hfC hcC hgC); have hbC : Below w1.heap.size w1 wC := Below.trans (by have y := hbB; exact bEl) hgC; have hzC := hbC.size; have HFC := Lib.hid hfC; clear hfC hcC hgC)
       | fail)
     all_goals
      have HI : Hid (([] ++ l.take k ++ [(⟨d, q⟩ : DApplied)] ++ l.drop k) = insAt l k ⟨d, q⟩) := Lib.hid (by simp [insAt])
      have HR : Hid (Fresh (Rep.slice 89 DApplied.rep) w.heap.size wC [.slice aoC (l.length + 1) capC] (markS l d q)) := Lib.hid (by rw [HE2.out, ← HI.out]; exact HFC.out.mono (by omega))
      have HBC := Lib.hid (HB.out.trans (hbC.mono HB.out.size))
      clear HFA HFB HFC HI HPre HTl hsl hbA hbB hbC
      go_wp2
      go_ret
      exact ⟨aoC, capC, by rw [HLn.out]; first | done | rfl, by rw [HLn.out]; exact HR.out.below (by first | exact belR | exact belD belR), by have y := HBC.out; exact bEb⟩
    ·have HE2 := Lib.hid (markS_old q hkl HLd.out n7)
     obtain ⟨g0, vc, hv, hc1, _, hg1, hg2, hci, hfz⟩ := DApplied.flat.at HF.out k hkl
     simp only [Value.slice.injEq] at hv
     obtain ⟨rfl, hq0, rfl⟩ := hv
     clear hq0 hc1
     have e1 : w1.cell? ⟨g0, k * 2 + 1, none⟩ = some (.int .i64 l[k].seq) := hci 1 (by decide)
     clear hci
     have hset := DApplied.flat.setAt HF.out k hkl 1 [.int .i64 q] ⟨l[k].device, q⟩ (by simp [DApplied.enc]) (Nat.le_refl 2) trivial
     have HLn : Hid ((markS l d q).length = l.length) := Lib.hid (by rw [HE2.out]; simp)
     have HR := Lib.hid hset
     have hg0 := (HF.out.ownlt g0 (by simp [Value.ownBlock])).1
     clear hset HF
     go_wp2
     go_ret
     exact ⟨some ⟨g0, 0, none⟩, cap1, by rw [HLn.out]; first | done | rfl, by rw [HLn.out, HE2.out]; exact HR.out, by have y := HB.out; exact bEb⟩
   ·have HE2 := Lib.hid (markS_new q HLd.out (fun h => absurd h hkl))
    have HPre := Lib.hid (HL.out.pre k hk)
    have HTl := Lib.hid (Reads.tail HL.out k hk)
    have hsl := fun W => run_tail (P := Tryz.prog) (t := 27) (n := 2) (by kernel_rfl) (fun _ => by kernel_rfl) ao k l.length cap hk W
    have j2 : (k : Int) ≤ (l.length : Int) := by omega
    have j3 : (k : Int) ≤ (cap : Int) := by omega
    have j4 : k ≤ cap := by omega
    have hlen : (markS l d q).length = l.length + 1 := by rw [HE2.out]; exact insAt_length hk _
    have HLn := Lib.hid hlen
    clear hlen HF
    go_upto_region 8 with fail
    go_region_held3 (fun w' => Below w1.heap.size w1 w')
     (first | exact (by (repeat (first | with_reducible exact belR | with_reducible apply belA | with_reducible apply belN | with_reducible apply belD | with_reducible assumption)); done) | fail)
     (first
      | ((refine DApplied.flat.step_growC _ (by rfl) (.tmp 46) (.tmp 49) 27 27 (by rfl) w1.heap.size 89 i0 _ _ Tryz.underlying27 Tryz.underlying27 hi hz0 hz1 hz2 rfl _ [] (by rfl) ?ownA _ (l.take k) (by rfl) ?rdA k ?lmA ?lnA (by decide) ?bsA ?_); (case ownA => (first | exact (Fresh.mono (Fresh.lit0 (w := w1) rfl) (Nat.le_refl _)).below (by (repeat (first | with_reducible exact belR | with_reducible apply belA | with_reducible apply belN | with_reducible apply belD | with_reducible assumption)); done) | exact (Fresh.mono (Fresh.lit0 (k := w1.heap.size + 1) (w := w1.alloc (.cells #[.int .i64 d, .int .i64 q] 89)) (by simp)) (by omega)).below (by (repeat (first | with_reducible exact belR | with_reducible apply belA | with_reducible apply belN | with_reducible apply belD | with_reducible assumption)); done) | fail)); (case rdA => (exact HPre.out.below (by have y := HB.out; exact bEb))); (case lmA => (first | (simp; done) | (simp; omega))); (case lnA => omega); (case bsA => (first | exact Nat.le_refl _ | (simp; done) | omega | (simp; omega))); (intro aoA capA wA hfA hcA hgA); have hbA : Below w1.heap.size w1 wA := Below.trans bEl hgA; have hzA := hbA.size; have HFA := Lib.hid hfA; simp [Act.eval, Value.ownBlock] at hcA; (first | (have hLit := (DApplied.flat.reads_chg ((DApplied.flat.one_reads (E := 89) (u := (⟨d, q⟩ : DApplied)) (xs := #[.int .i64 d, .int .i64 q]) (t := 89) rfl rfl trivial).below (by (repeat (first | with_reducible exact belR | with_reducible apply belA | with_reducible apply belN | with_reducible apply belD | with_reducible assumption)); done)) hcA (by simp; done)); (try simp at hLit); have HLit := Lib.hid hLit; clear hLit) | skip); clear hfA hcA hgA)
      | ((refine DApplied.flat.step_growC _ (by rfl) (.tmp 50) (.tmp 54) 27 27 (by rfl) w1.heap.size 89 i0 _ _ Tryz.underlying27 Tryz.underlying27 hi hz0 hz1 hz2 rfl (.slice aoA k capA) ([] ++ l.take k) (by rfl) ?ownB _ [(⟨d, q⟩ : DApplied)] (by rfl) ?rdB (k + 1) ?lmB ?lnB (by decide) ?bsB ?_); (case ownB => (exact HFA.out.below bEl)); (case rdB => (first | exact HLit.out.below (by (repeat (first | with_reducible exact belR | with_reducible apply belA | with_reducible apply belN | with_reducible apply belD | with_reducible assumption)); done) | exact (DApplied.flat.one_reads (u := (⟨d, q⟩ : DApplied)) (xs := #[.int .i64 d, .int .i64 q]) rfl rfl trivial).below (by (repeat (first | with_reducible exact belR | with_reducible apply belA | with_reducible apply belN | with_reducible apply belD | with_reducible assumption)); done) | fail)); (case lmB => (first | (simp; done) | (simp; omega))); (case lnB => omega); (case bsB => (first | exact Nat.le_refl _ | (simp; done) | omega | (simp; omega))); (intro aoB capB wB hfB hcB hgB); have hbB : Below w1.heap.size w1 wB := Below.trans (by have y := hbA; exact bEl) hgB; have hzB := hbB.size; have HFB := Lib.hid hfB; clear hfB hcB hgB)
      | ((refine DApplied.flat.step_growC _ (by rfl) (.tmp 55) (.tmp 58) 27 27 (by rfl) w1.heap.size 89 i0 _ _ Tryz.underlying27 Tryz.underlying27 hi hz0 hz1 hz2 rfl (.slice aoB (k + 1) capB) ([] ++ l.take k ++ [(⟨d, q⟩ : DApplied)]) (by rfl) ?ownC _ (l.drop k) (by rfl) ?rdC (l.length + 1) ?lmC ?lnC (by decide) ?bsC ?_); (case ownC => (exact HFB.out.below bEl)); (case rdC => (exact HTl.out.below (by have y := HB.out.trans (hbB.mono HB.out.size); exact bEb))); (case lmC => (first | (simp; done) | (simp; omega))); (case lnC => omega); (case bsC => (first | exact Nat.le_refl _ | (simp; done) | omega | (simp; omega))); (intro aoC capC wC hfC hcC hgC); have hbC : Below w1.heap.size w1 wC := Below.trans (by have y := hbB; exact bEl) hgC; have hzC := hbC.size; have HFC := Lib.hid hfC; clear hfC hcC hgC)
      | fail)
    all_goals
     have HI : Hid (([] ++ l.take k ++ [(⟨d, q⟩ : DApplied)] ++ l.drop k) = insAt l k ⟨d, q⟩) := Lib.hid (by simp [insAt])
     have HR : Hid (Fresh (Rep.slice 89 DApplied.rep) w.heap.size wC [.slice aoC (l.length + 1) capC] (markS l d q)) := Lib.hid (by rw [HE2.out, ← HI.out]; exact HFC.out.mono (by omega))
     have HBC := Lib.hid (HB.out.trans (hbC.mono HB.out.size))
     clear HFA HFB HFC HI HPre HTl hsl hbA hbB hbC
     go_wp2
     go_ret
     exact ⟨aoC, capC, by rw [HLn.out]; first | done | rfl, by rw [HLn.out]; exact HR.out.below (by first | exact belR | exact belD belR), by have y := HBC.out; exact bEb⟩
  ·have n5 : l[k].device < d := of_decide_eq_true hle
   obtain ⟨b, off, cs_b, rfl, hw_b, hr_b, hcell_b⟩ := slice_at (HL.out.below HB.out) k hlt'
   obtain ⟨fe_b, hrd_b⟩ := hr_b
   have HR_b : Hid (Reads DApplied.rep w1 cs_b l[k]) := ⟨_, hrd_b⟩
   obtain ⟨rfl, _⟩ := DApplied.rd.1 hrd_b
   clear hrd_b
   have b_c0 : w1.cell? ⟨b, off + k * 2, none⟩ = some (.int .i64 l[k].device) := hcell_b 0 (by decide)
   have b_c1 : w1.cell? ⟨b, off + k * 2 + 1, none⟩ = some (.int .i64 l[k].seq) := hcell_b 1 (by decide)
   clear hcell_b
   clear HR_b
   have i2 : (k : Int) < (l.length : Int) := by omega
   go_wp2
   go_light
   exact ⟨⟨k + 1, by omega, by go_num, Lib.hid (by
    intro j hj hjk
    by_cases e : j = k
    ·subst e; exact hle
    ·exact HA.out j hj (by omega))⟩, by simp [intOf]; omega⟩

end Go.Proofs.YtlfebehpmefioaaGreat
