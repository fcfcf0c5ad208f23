/-
  The laws' helpers for Page.
-/
import Derived.Test.YtamdjeajmfjfmaaLLoaded
import Derived.Test.YtamdjeajmfjfmaaLMachine
import Derived.Test.YtamdjeajmfjfmaaTPage
namespace Go.Proofs.Ytamdjeajmfjfmaa
open Go.RowKit

def DPage.wt (x : DPage) : Nat := x.site.size + x.top.size + wtS DLoaded.wt x.loaded + x.machine.wt

set_option maxHeartbeats 400000 in
theorem szPage (cs : List Value) (x : DPage) (left : Int) (w : World) (h : Reads DPage.rep w cs x) (h0 : 0 ≤ left) (h1 : left ≤ 1048576) :
    Calls Try.prog 34 #[.agg cs.toArray, .int .i64 left] w fun e w' => e = .returned (.int .i64 (szOf x.wt left)) ∧ Below w.heap.size w w' := by
  obtain ⟨fp, h⟩ := h
  obtain ⟨v1, v2, v3, f1, f2, f3, rfl, _, s0, s1, r1, r2, r3⟩ := DPage.rd.1 h
  have HV1 : Hid (Reads (Rep.slice 123 DLoaded.rep) w [v1] x.loaded) := ⟨_, r1⟩
  have HV2 : Hid (Reads DMachine.rep w [v2, .int .i64 x.machine.pc, v3, .int .i64 x.machine.steps, .bool x.machine.done, .bool x.machine.wait] x.machine) := ⟨_, DMachine.rd.2 ⟨_, _, _, _, rfl, rfl, r2, r3⟩⟩
  clear h r1 r2 r3
  unfold maxLen at s0 s1
  go_enter Try.func34, Try.ntmps34
  go_wp2_with fail
  · go_ret
    refine ⟨ret_int ?_, (by repeat (first | with_reducible exact belR | with_reducible apply belA | (with_reducible refine belS ?_ ?_; focus (first | omega | (simp; done) | (simp; omega))) | with_reducible apply belN | with_reducible apply belD | with_reducible assumption))⟩
    go_light
    have a0 := szOf_spec x.wt left
    unfold DPage.wt at *
    omega
  · go_ret
    refine ⟨ret_int ?_, (by repeat (first | with_reducible exact belR | with_reducible apply belA | (with_reducible refine belS ?_ ?_; focus (first | omega | (simp; done) | (simp; omega))) | with_reducible apply belN | with_reducible apply belD | with_reducible assumption))⟩
    go_light
    have a0 := szOf_spec x.wt left
    unfold DPage.wt at *
    omega
  have q1 : 0 ≤ ((left - (x.site.size : Int)) - (x.top.size : Int)) ∧ ((left - (x.site.size : Int)) - (x.top.size : Int)) ≤ 1048576 := by
    omega
  refine (szLoadedS _ _ _ _ (HV1.out.below (by repeat (first | with_reducible exact belR | with_reducible apply belA | (with_reducible refine belS ?_ ?_; focus (first | omega | (simp; done) | (simp; omega))) | with_reducible apply belN | with_reducible apply belD | with_reducible assumption))) q1.1 q1.2).mono ?_
  rintro e w1 ⟨rfl, hb1⟩
  obtain ⟨hc1, hfz1⟩ := bcell hb1
  have hz1 : w.heap.size < w1.heap.size := by have y := hb1.size; (try simp at y); omega
  have HB1 := Lib.hid (below_call (B := w.heap.size) (w := w) (by repeat (first | with_reducible exact belR | with_reducible apply belA | (with_reducible refine belS ?_ ?_; focus (first | omega | (simp; done) | (simp; omega))) | with_reducible apply belN | with_reducible apply belD | with_reducible assumption)) (by first | omega | (simp; done) | (simp; omega)) hb1); clear hb1
  have bl1 : -1 ≤ szOf (wtS DLoaded.wt x.loaded) (((left - (x.site.size : Int)) - (x.top.size : Int))) ∧ szOf (wtS DLoaded.wt x.loaded) (((left - (x.site.size : Int)) - (x.top.size : Int))) ≤ 1048576 := by
    have a0 := szOf_spec (wtS DLoaded.wt x.loaded) (((left - (x.site.size : Int)) - (x.top.size : Int)))
    omega
  obtain ⟨bl1, bu1⟩ := bl1
  go_wp2_with fail
  · go_ret
    have y0 := HB1.out
    refine ⟨ret_int ?_, (by repeat (first | with_reducible exact belR | with_reducible apply belA | (with_reducible refine belS ?_ ?_; focus (first | omega | (simp; done) | (simp; omega))) | with_reducible apply belN | with_reducible apply belD | with_reducible assumption))⟩
    go_light
    have a0 := szOf_spec x.wt left
    have a1 := szOf_spec (wtS DLoaded.wt x.loaded) (((left - (x.site.size : Int)) - (x.top.size : Int)))
    unfold DPage.wt at *
    omega
  have q2 : 0 ≤ szOf (wtS DLoaded.wt x.loaded) (((left - (x.site.size : Int)) - (x.top.size : Int))) ∧ szOf (wtS DLoaded.wt x.loaded) (((left - (x.site.size : Int)) - (x.top.size : Int))) ≤ 1048576 := by
    have a0 := szOf_spec (wtS DLoaded.wt x.loaded) (((left - (x.site.size : Int)) - (x.top.size : Int)))
    omega
  refine (szMachine _ _ _ _ (HV2.out.below (by have y := HB1.out; exact (by repeat (first | with_reducible exact belR | with_reducible apply belA | (with_reducible refine belS ?_ ?_; focus (first | omega | (simp; done) | (simp; omega))) | with_reducible apply belN | with_reducible apply belD | with_reducible assumption)))) q2.1 q2.2).mono ?_
  rintro e w2 ⟨rfl, hb2⟩
  obtain ⟨hc2, hfz2⟩ := bcell hb2
  have hz2 : w.heap.size < w2.heap.size := by have y := hb2.size; (try simp at y); omega
  have HB2 := Lib.hid (below_call (B := w.heap.size) (w := w) (by have y := HB1.out; exact (by repeat (first | with_reducible exact belR | with_reducible apply belA | (with_reducible refine belS ?_ ?_; focus (first | omega | (simp; done) | (simp; omega))) | with_reducible apply belN | with_reducible apply belD | with_reducible assumption))) (by first | omega | (simp; done) | (simp; omega)) hb2); clear hb2
  have bl2 : -1 ≤ szOf (x.machine.wt) (szOf (wtS DLoaded.wt x.loaded) (((left - (x.site.size : Int)) - (x.top.size : Int)))) ∧ szOf (x.machine.wt) (szOf (wtS DLoaded.wt x.loaded) (((left - (x.site.size : Int)) - (x.top.size : Int)))) ≤ 1048576 := by
    have a0 := szOf_spec (x.machine.wt) (szOf (wtS DLoaded.wt x.loaded) (((left - (x.site.size : Int)) - (x.top.size : Int))))
    omega
  obtain ⟨bl2, bu2⟩ := bl2
  go_wp2_with fail
  · go_ret
    have y0 := HB1.out
    have y1 := HB2.out
    refine ⟨ret_int ?_, (by repeat (first | with_reducible exact belR | with_reducible apply belA | (with_reducible refine belS ?_ ?_; focus (first | omega | (simp; done) | (simp; omega))) | with_reducible apply belN | with_reducible apply belD | with_reducible assumption))⟩
    go_light
    have a0 := szOf_spec x.wt left
    have a1 := szOf_spec (wtS DLoaded.wt x.loaded) (((left - (x.site.size : Int)) - (x.top.size : Int)))
    have a2 := szOf_spec (x.machine.wt) (szOf (wtS DLoaded.wt x.loaded) (((left - (x.site.size : Int)) - (x.top.size : Int))))
    unfold DPage.wt at *
    omega
  · go_ret
    have y0 := HB1.out
    have y1 := HB2.out
    refine ⟨ret_int ?_, (by repeat (first | with_reducible exact belR | with_reducible apply belA | (with_reducible refine belS ?_ ?_; focus (first | omega | (simp; done) | (simp; omega))) | with_reducible apply belN | with_reducible apply belD | with_reducible assumption))⟩
    go_light
    have a0 := szOf_spec x.wt left
    have a1 := szOf_spec (wtS DLoaded.wt x.loaded) (((left - (x.site.size : Int)) - (x.top.size : Int)))
    have a2 := szOf_spec (x.machine.wt) (szOf (wtS DLoaded.wt x.loaded) (((left - (x.site.size : Int)) - (x.top.size : Int))))
    unfold DPage.wt at *
    omega

set_option maxHeartbeats 800000 in
theorem toPage (cs : List Value) (x : DPage) (w : World) (h : Reads DPage.rep w cs x) (_hsmall : x.wt ≤ 1048576) :
    Calls Try.prog 37 #[.agg cs.toArray] w fun e w' => ∃ ds, e = .returned (.agg ds.toArray) ∧ Fresh DPage.rep w.heap.size w' ds x ∧ Below w.heap.size w w' := by
  obtain ⟨fp, h⟩ := h
  obtain ⟨v1, v2, v3, f1, f2, f3, rfl, _, s0, s1, r1, r2, r3⟩ := DPage.rd.1 h
  have HV1 : Hid (Reads (Rep.slice 123 DLoaded.rep) w [v1] x.loaded) := ⟨_, r1⟩
  have d1 : wtS DLoaded.wt x.loaded ≤ 1048576 := by unfold DPage.wt at _hsmall; omega
  have HV2 : Hid (Reads DMachine.rep w [v2, .int .i64 x.machine.pc, v3, .int .i64 x.machine.steps, .bool x.machine.done, .bool x.machine.wait] x.machine) := ⟨_, DMachine.rd.2 ⟨_, _, _, _, rfl, rfl, r2, r3⟩⟩
  have d2 : x.machine.wt ≤ 1048576 := by unfold DPage.wt at _hsmall; omega
  clear h r1 r2 r3
  go_enter Try.func37, Try.ntmps37
  go_wp2_with fail
  refine (toLoadedS _ _ _ (HV1.out.below (by repeat (first | with_reducible exact belR | with_reducible apply belA | (with_reducible refine belS ?_ ?_; focus (first | omega | (simp; done) | (simp; omega))) | with_reducible apply belN | with_reducible apply belD | with_reducible assumption))) d1).mono ?_
  rintro e w1 ⟨t1, rfl, hf1, hb1⟩
  obtain ⟨ao1, cap1, rfl⟩ := hf1.slice
  obtain ⟨hc1, hfz1⟩ := bcell hb1
  have hs1 : w.heap.size + 1 + 1 + 1 ≤ w1.heap.size := by have y := hb1.size; (try simp at y); omega
  have hz10 : w.heap.size < w1.heap.size := by omega
  have hz11 : w.heap.size + 1 < w1.heap.size := by omega
  have hz12 : w.heap.size + 1 + 1 < w1.heap.size := by omega
  have HF1 := Lib.hid (hf1.mono (B' := w.heap.size + 1 + 1 + 1) (by first | omega | (simp; done) | (simp; omega)))
  have HB1 := Lib.hid (below_call (B := w.heap.size) (w := w) (by repeat (first | with_reducible exact belR | with_reducible apply belA | (with_reducible refine belS ?_ ?_; focus (first | omega | (simp; done) | (simp; omega))) | with_reducible apply belN | with_reducible apply belD | with_reducible assumption)) (by first | omega | (simp; done) | (simp; omega)) hb1)
  clear hb1 hf1
  go_wp2_with fail
  refine (toMachine _ _ _ (HV2.out.below (by have y := HB1.out; exact (by repeat (first | with_reducible exact belR | with_reducible apply belA | (with_reducible refine belS ?_ ?_; focus (first | omega | (simp; done) | (simp; omega))) | with_reducible apply belN | with_reducible apply belD | with_reducible assumption)))) d2).mono ?_
  rintro e w2 ⟨t2, rfl, hf2, hb2⟩
  obtain ⟨ao2, cap2, ao3, cap3, rfl⟩ := DMachine.fshape hf2
  obtain ⟨hc2, hfz2⟩ := bcell hb2
  have hs2 : w1.heap.size ≤ w2.heap.size := by have y := hb2.size; (try simp at y); omega
  have hz20 : w.heap.size < w2.heap.size := by omega
  have hz21 : w.heap.size + 1 < w2.heap.size := by omega
  have hz22 : w.heap.size + 1 + 1 < w2.heap.size := by omega
  have HA1_2 : Hid (Abv (w.heap.size + 1 + 1 + 1) w1 w2) := abB (by repeat (first | with_reducible exact abR | with_reducible apply abA | (with_reducible refine abS ?_ ?_; focus (first | omega | (simp; done) | (simp; omega))) | with_reducible apply abN | with_reducible apply abD | with_reducible assumption)) hb2 (by first | omega | (simp; done) | (simp; omega))
  have HF2 := Lib.hid (hf2.mono (B' := w1.heap.size) (by first | omega | (simp; done) | (simp; omega)))
  have HB2 := Lib.hid (below_call (B := w.heap.size) (w := w) (by have y := HB1.out; exact (by repeat (first | with_reducible exact belR | with_reducible apply belA | (with_reducible refine belS ?_ ?_; focus (first | omega | (simp; done) | (simp; omega))) | with_reducible apply belN | with_reducible apply belD | with_reducible assumption))) (by first | omega | (simp; done) | (simp; omega)) hb2)
  clear hb2 hf2
  go_wp2
  refine bodyPost_ret (v := .agg #[.int .i64 x.id, .string x.site, .string x.top, .int .i64 x.version, .slice ao1 x.loaded.length cap1, .slice ao2 x.machine.script.length cap2, .int .i64 x.machine.pc, .slice ao3 x.machine.regs.length cap3, .int .i64 x.machine.steps, .bool x.machine.done, .bool x.machine.wait]) (by first | (simp [results, Try.results37, go_sem, hc1, hc2, hz11]; done)) rfl ⟨_, rfl, ?_, ?_⟩
  · exact DPage.fresh (HF1.out.part (by have y := HA1_2.out; exact (by repeat (first | with_reducible exact abR | with_reducible apply abA | (with_reducible refine abS ?_ ?_; focus (first | omega | (simp; done) | (simp; omega))) | with_reducible apply abN | with_reducible apply abD | with_reducible assumption)))) (HF2.out.part (by repeat (first | with_reducible exact abR | with_reducible apply abA | (with_reducible refine abS ?_ ?_; focus (first | omega | (simp; done) | (simp; omega))) | with_reducible apply abN | with_reducible apply abD | with_reducible assumption))) (by first | omega | (simp; done) | (simp; omega)) (by first | omega | (simp; done) | (simp; omega)) (by first | omega | (simp; done) | (simp; omega)) s0 s1
  · have y := HB2.out
    exact (by repeat (first | with_reducible exact belR | with_reducible apply belA | (with_reducible refine belS ?_ ?_; focus (first | omega | (simp; done) | (simp; omega))) | with_reducible apply belN | with_reducible apply belD | with_reducible assumption))

set_option maxHeartbeats 800000 in
theorem eqPage (cs ds : List Value) (x : DPage) (w : World) (h : Reads DPage.rep w cs x) (h' : Reads DPage.rep w ds x) :
    Calls Try.prog 29 #[.agg cs.toArray, .agg ds.toArray] w fun e w' => e = .returned (.bool true) ∧ Below w.heap.size w w' := by
  obtain ⟨fp, h0⟩ := h
  obtain ⟨vv1, vv2, vv3, vf1, vf2, vf3, rfl, _, vs0, vs1, vr1, vr2, vr3⟩ := DPage.rd.1 h0
  have HV1 : Hid (Reads (Rep.slice 123 DLoaded.rep) w [vv1] x.loaded) := ⟨_, vr1⟩
  have HV2 : Hid (Reads DMachine.rep w [vv2, .int .i64 x.machine.pc, vv3, .int .i64 x.machine.steps, .bool x.machine.done, .bool x.machine.wait] x.machine) := ⟨_, DMachine.rd.2 ⟨_, _, _, _, rfl, rfl, vr2, vr3⟩⟩
  clear h0 vr1 vr2 vr3
  obtain ⟨fp, h0⟩ := h'
  obtain ⟨uv1, uv2, uv3, uf1, uf2, uf3, rfl, _, us0, us1, ur1, ur2, ur3⟩ := DPage.rd.1 h0
  have HU1 : Hid (Reads (Rep.slice 123 DLoaded.rep) w [uv1] x.loaded) := ⟨_, ur1⟩
  have HU2 : Hid (Reads DMachine.rep w [uv2, .int .i64 x.machine.pc, uv3, .int .i64 x.machine.steps, .bool x.machine.done, .bool x.machine.wait] x.machine) := ⟨_, DMachine.rd.2 ⟨_, _, _, _, rfl, rfl, ur2, ur3⟩⟩
  clear h0 ur1 ur2 ur3
  go_enter Try.func29, Try.ntmps29
  go_wp2_with fail
  refine (eqLoadedS _ _ _ _ (HV1.out.below (by repeat (first | with_reducible exact belR | with_reducible apply belA | (with_reducible refine belS ?_ ?_; focus (first | omega | (simp; done) | (simp; omega))) | with_reducible apply belN | with_reducible apply belD | with_reducible assumption))) (HU1.out.below (by repeat (first | with_reducible exact belR | with_reducible apply belA | (with_reducible refine belS ?_ ?_; focus (first | omega | (simp; done) | (simp; omega))) | with_reducible apply belN | with_reducible apply belD | with_reducible assumption)))).mono ?_
  rintro e w1 ⟨rfl, hb1⟩
  obtain ⟨hc1, hfz1⟩ := bcell hb1
  have hs1 : w.heap.size + 1 + 1 ≤ w1.heap.size := by have y := hb1.size; (try simp at y); omega
  have hz10 : w.heap.size < w1.heap.size := by omega
  have hz11 : w.heap.size + 1 < w1.heap.size := by omega
  have HB1 := Lib.hid (below_call (B := w.heap.size) (w := w) (by repeat (first | with_reducible exact belR | with_reducible apply belA | (with_reducible refine belS ?_ ?_; focus (first | omega | (simp; done) | (simp; omega))) | with_reducible apply belN | with_reducible apply belD | with_reducible assumption)) (by first | omega | (simp; done) | (simp; omega)) hb1)
  clear hb1
  go_wp2_with fail
  refine (eqMachine _ _ _ _ (HV2.out.below (by have y := HB1.out; exact (by repeat (first | with_reducible exact belR | with_reducible apply belA | (with_reducible refine belS ?_ ?_; focus (first | omega | (simp; done) | (simp; omega))) | with_reducible apply belN | with_reducible apply belD | with_reducible assumption)))) (HU2.out.below (by have y := HB1.out; exact (by repeat (first | with_reducible exact belR | with_reducible apply belA | (with_reducible refine belS ?_ ?_; focus (first | omega | (simp; done) | (simp; omega))) | with_reducible apply belN | with_reducible apply belD | with_reducible assumption))))).mono ?_
  rintro e w2 ⟨rfl, hb2⟩
  obtain ⟨hc2, hfz2⟩ := bcell hb2
  have hs2 : w1.heap.size ≤ w2.heap.size := by have y := hb2.size; (try simp at y); omega
  have hz20 : w.heap.size < w2.heap.size := by omega
  have hz21 : w.heap.size + 1 < w2.heap.size := by omega
  have HB2 := Lib.hid (below_call (B := w.heap.size) (w := w) (by have y := HB1.out; exact (by repeat (first | with_reducible exact belR | with_reducible apply belA | (with_reducible refine belS ?_ ?_; focus (first | omega | (simp; done) | (simp; omega))) | with_reducible apply belN | with_reducible apply belD | with_reducible assumption))) (by first | omega | (simp; done) | (simp; omega)) hb2)
  clear hb2
  go_wp2
  go_ret
  have y := HB2.out
  exact ⟨rfl, (by repeat (first | with_reducible exact belR | with_reducible apply belA | (with_reducible refine belS ?_ ?_; focus (first | omega | (simp; done) | (simp; omega))) | with_reducible apply belN | with_reducible apply belD | with_reducible assumption))⟩

set_option maxHeartbeats 400000 in
theorem szPageS (v : Value) (l : List DPage) (left : Int) (w : World) (h : Reads (Rep.slice 55 DPage.rep) w [v] l) (h0 : 0 ≤ left) (h1 : left ≤ 1048576) :
    Calls Try.prog 16 #[v, .int .i64 left] w fun e w' => e = .returned (.int .i64 (szOf (wtS DPage.wt l) left)) ∧ Below w.heap.size w w' := by
  have HK := Lib.hid h
  obtain ⟨fp, h⟩ := h
  obtain ⟨ao, c1, rfl, hm, _, hu⟩ := slice_open h
  clear hu h
  go_enter Try.func16, Try.ntmps16
  go_wp2
  · go_ret
    refine ⟨ret_int ?_, (by repeat (first | with_reducible exact belR | with_reducible apply belA | (with_reducible refine belS ?_ ?_; focus (first | omega | (simp; done) | (simp; omega))) | with_reducible apply belN | with_reducible apply belD | with_reducible assumption))⟩
    go_light
    have a0 := szOf_spec (wtS DPage.wt l) left
    have a1 := wtS_ge DPage.wt l
    omega
  · go_loopw [1, 5] (fun a i wr => ∃ k : Nat, k ≤ l.length ∧ i = .int .i64 k ∧ a = .int .i64 (left - l.length - wtT DPage.wt l k) ∧ 0 ≤ left - l.length - wtT DPage.wt l k ∧ Below w.heap.size w wr) (fun _ i _ => l.length - (intOf i).toNat)
    case atStart => exact ⟨0, by omega, rfl, by simp [wtT], by simp [wtT]; omega, (by repeat (first | with_reducible exact belR | with_reducible apply belA | (with_reducible refine belS ?_ ?_; focus (first | omega | (simp; done) | (simp; omega))) | with_reducible apply belN | with_reducible apply belD | with_reducible assumption))⟩
    case round =>
      obtain ⟨k, hk, rfl, rfl, hpos, hb⟩ := hrel
      have HB := Lib.hid hb; clear hb
      by_cases hlt : k < l.length
      · obtain ⟨b, off, cs, rfl, bw, hr, hcell⟩ := slice_at (HK.out.below HB.out) k hlt
        obtain ⟨fe, hrd⟩ := hr
        obtain ⟨v1, v2, v3, _, _, _, rfl, _, _, _, _, _, _⟩ := DPage.rd.1 hrd
        have HR : Hid (Reads DPage.rep wr _ l[k]) := ⟨_, hrd⟩
        clear hrd
        have hc0 : wr.cell? ⟨b, off + k * 11, none⟩ = some (.int .i64 l[k].id) := hcell 0 (by decide)
        have hc1 : wr.cell? ⟨b, off + k * 11 + 1, none⟩ = some (.string l[k].site) := hcell 1 (by decide)
        have hc2 : wr.cell? ⟨b, off + k * 11 + 2, none⟩ = some (.string l[k].top) := hcell 2 (by decide)
        have hc3 : wr.cell? ⟨b, off + k * 11 + 3, none⟩ = some (.int .i64 l[k].version) := hcell 3 (by decide)
        have hc4 : wr.cell? ⟨b, off + k * 11 + 4, none⟩ = some (v1) := hcell 4 (by decide)
        have hc5 : wr.cell? ⟨b, off + k * 11 + 5, none⟩ = some (v2) := hcell 5 (by decide)
        have hc6 : wr.cell? ⟨b, off + k * 11 + 6, none⟩ = some (.int .i64 l[k].machine.pc) := hcell 6 (by decide)
        have hc7 : wr.cell? ⟨b, off + k * 11 + 7, none⟩ = some (v3) := hcell 7 (by decide)
        have hc8 : wr.cell? ⟨b, off + k * 11 + 8, none⟩ = some (.int .i64 l[k].machine.steps) := hcell 8 (by decide)
        have hc9 : wr.cell? ⟨b, off + k * 11 + 9, none⟩ = some (.bool l[k].machine.done) := hcell 9 (by decide)
        have hc10 : wr.cell? ⟨b, off + k * 11 + 10, none⟩ = some (.bool l[k].machine.wait) := hcell 10 (by decide)
        clear hcell
        go_wp2_with fail
        refine (szPage _ _ _ _ HR.out (by omega) (by omega)).mono ?_
        rintro e w1 ⟨rfl, hb1⟩
        have HB1 := Lib.hid (below_call HB.out HB.out.size hb1); clear hb1
        go_wp2
        · go_ret
          refine ⟨ret_int ?_, HB1.out⟩
          go_light
          have a0 := szOf_spec (DPage.wt l[k]) (left - l.length - wtT DPage.wt l k)
          have a1 := szOf_spec (wtS DPage.wt l) left
          have a2 := wtT_le DPage.wt l (k + 1)
          rw [wtT_succ _ _ _ hlt] at a2
          unfold wtS at a1 ⊢
          omega
        · go_light
          have a0 := szOf_spec (DPage.wt l[k]) (left - l.length - wtT DPage.wt l k)
          have a2 := wtT_succ DPage.wt l k hlt
          have e : szOf (DPage.wt l[k]) (left - l.length - wtT DPage.wt l k) = left - l.length - wtT DPage.wt l (k + 1) := by omega
          refine ⟨⟨k + 1, by omega, by go_num, by rw [e], by omega, HB1.out⟩, by simp [intOf]; omega⟩
      · go_wp2
        go_ret
        refine ⟨ret_int ?_, HB.out⟩
        go_light
        obtain rfl : k = l.length := by omega
        have a1 := szOf_spec (wtS DPage.wt l) left
        have a2 := wtT_all DPage.wt l
        unfold wtS at a1 ⊢
        omega

theorem infoPage : (Try.prog.info? 55).map (fun i => (i.zero, i.size, i.bytes)) = some (some (.agg #[.int .i64 0, .string ⟨#[]⟩, .string ⟨#[]⟩, .int .i64 0, .slice none 0 0, .slice none 0 0, .int .i64 0, .slice none 0 0, .int .i64 0, .bool false, .bool false]), 11, 144) := by kernel_rfl

set_option maxRecDepth 100000 in
set_option maxHeartbeats 800000 in
theorem toPageS (u : Value) (l : List DPage) (w : World) (hu : Reads (Rep.slice 55 DPage.rep) w [u] l) (hsmall : wtS DPage.wt l ≤ 1048576) :
    Calls Try.prog 18 #[u] w fun e w' => ∃ v, e = .returned v ∧ Fresh (Rep.slice 55 DPage.rep) w.heap.size w' [v] l ∧ Below w.heap.size w w' := by
  have HK := Lib.hid hu
  obtain ⟨fp, hu⟩ := hu
  obtain ⟨ao, c1, rfl, hm, _, hu⟩ := slice_open hu
  clear hu
  have hlen := wtS_ge DPage.wt l
  have HW := Lib.hid hsmall
  obtain ⟨i0, hi, hz0, hz1, hz2⟩ := info_parts infoPage
  go_enter Try.func18, Try.ntmps18
  go_wp2_with (at_make; refine wpList_make_full _ rfl _ _ 41 rfl w.heap.size 55 i0 _ 11 Try.underlying41 hi hz0 hz1 _ _ _ _ l.length rfl rfl rfl rfl ?c1 ?c2 (Nat.le_refl _) ?_)
  case c1 => rw [hz2]; omega
  case c2 => unfold maxLen; omega
  intro w1 hown hgrow
  have hf : Filling DPage.rep 55 w.heap.size w.heap.size l.length l 0 w1 := Filling.start hown (Nat.le_refl _)
  have hb1 : Below w.heap.size w w1 := (Below.refl _ _).grown hgrow (Nat.le_refl _) (by intro k hk; cases hk)
  have HF := Lib.hid hf; clear hf hown
  have HB := Lib.hid hb1; clear hb1 hgrow
  go_wp2
  go_loopw [4] (fun i wr => ∃ k : Nat, k ≤ l.length ∧ i = .int .i64 k ∧ Filling DPage.rep 55 w.heap.size w.heap.size l.length l k wr ∧ Below w.heap.size w wr) (fun i _ => l.length - (intOf i).toNat)
  case atStart => exact ⟨0, by omega, rfl, HF.out, HB.out⟩
  case round =>
    obtain ⟨k, hk, rfl, hf, hb⟩ := hrel
    have HB := Lib.hid hb; clear hb
    have HF := Lib.hid hf; clear hf
    by_cases hlt : k < l.length
    · obtain ⟨b, off, cs, rfl, bw, hr, hcell⟩ := slice_at (HK.out.below HB.out) k hlt
      obtain ⟨fe, hrd⟩ := hr
      obtain ⟨v1, v2, v3, _, _, _, rfl, _, _, _, _, _, _⟩ := DPage.rd.1 hrd
      have HR : Hid (Reads DPage.rep wr _ l[k]) := ⟨_, hrd⟩
      clear hrd
      have hc0 : wr.cell? ⟨b, off + k * 11, none⟩ = some (.int .i64 l[k].id) := hcell 0 (by decide)
      have hc1 : wr.cell? ⟨b, off + k * 11 + 1, none⟩ = some (.string l[k].site) := hcell 1 (by decide)
      have hc2 : wr.cell? ⟨b, off + k * 11 + 2, none⟩ = some (.string l[k].top) := hcell 2 (by decide)
      have hc3 : wr.cell? ⟨b, off + k * 11 + 3, none⟩ = some (.int .i64 l[k].version) := hcell 3 (by decide)
      have hc4 : wr.cell? ⟨b, off + k * 11 + 4, none⟩ = some (v1) := hcell 4 (by decide)
      have hc5 : wr.cell? ⟨b, off + k * 11 + 5, none⟩ = some (v2) := hcell 5 (by decide)
      have hc6 : wr.cell? ⟨b, off + k * 11 + 6, none⟩ = some (.int .i64 l[k].machine.pc) := hcell 6 (by decide)
      have hc7 : wr.cell? ⟨b, off + k * 11 + 7, none⟩ = some (v3) := hcell 7 (by decide)
      have hc8 : wr.cell? ⟨b, off + k * 11 + 8, none⟩ = some (.int .i64 l[k].machine.steps) := hcell 8 (by decide)
      have hc9 : wr.cell? ⟨b, off + k * 11 + 9, none⟩ = some (.bool l[k].machine.done) := hcell 9 (by decide)
      have hc10 : wr.cell? ⟨b, off + k * 11 + 10, none⟩ = some (.bool l[k].machine.wait) := hcell 10 (by decide)
      clear hcell
      go_wp2_with fail
      refine (toPage _ _ _ HR.out (Nat.le_trans (wtS_elem DPage.wt l k hlt) HW.out)).mono ?_
      rintro e w1 ⟨ds, rfl, hfr, hb1⟩
      have HF1 := Lib.hid (Filling.step hlt rfl HF.out hb1 hfr)
      have HB1 := Lib.hid (setCells_below (Nat.le_refl _) ds (k * 11) _ (below_call HB.out HB.out.size hb1))
      obtain ⟨hcs, hfz⟩ := (HF.out.below hb1).cells hlt
      obtain ⟨fd, hrd, _⟩ := hfr
      obtain ⟨p1, q1, p2, q2, p3, q3, rfl⟩ := DPage.shape hrd
      obtain ⟨z0, hy0⟩ : ∃ u, w1.cell? ⟨w.heap.size, k * 11, none⟩ = some u := hcs 0 (by decide)
      obtain ⟨z1, hy1⟩ : ∃ u, w1.cell? ⟨w.heap.size, k * 11 + 1, none⟩ = some u := hcs 1 (by decide)
      obtain ⟨z2, hy2⟩ : ∃ u, w1.cell? ⟨w.heap.size, k * 11 + 2, none⟩ = some u := hcs 2 (by decide)
      obtain ⟨z3, hy3⟩ : ∃ u, w1.cell? ⟨w.heap.size, k * 11 + 3, none⟩ = some u := hcs 3 (by decide)
      obtain ⟨z4, hy4⟩ : ∃ u, w1.cell? ⟨w.heap.size, k * 11 + 4, none⟩ = some u := hcs 4 (by decide)
      obtain ⟨z5, hy5⟩ : ∃ u, w1.cell? ⟨w.heap.size, k * 11 + 5, none⟩ = some u := hcs 5 (by decide)
      obtain ⟨z6, hy6⟩ : ∃ u, w1.cell? ⟨w.heap.size, k * 11 + 6, none⟩ = some u := hcs 6 (by decide)
      obtain ⟨z7, hy7⟩ : ∃ u, w1.cell? ⟨w.heap.size, k * 11 + 7, none⟩ = some u := hcs 7 (by decide)
      obtain ⟨z8, hy8⟩ : ∃ u, w1.cell? ⟨w.heap.size, k * 11 + 8, none⟩ = some u := hcs 8 (by decide)
      obtain ⟨z9, hy9⟩ : ∃ u, w1.cell? ⟨w.heap.size, k * 11 + 9, none⟩ = some u := hcs 9 (by decide)
      obtain ⟨z10, hy10⟩ : ∃ u, w1.cell? ⟨w.heap.size, k * 11 + 10, none⟩ = some u := hcs 10 (by decide)
      clear hcs hb1 hrd hc0 hc1 hc2 hc3 hc4 hc5 hc6 hc7 hc8 hc9 hc10
      go_wp2
      go_light
      exact ⟨⟨k + 1, by omega, by go_num, HF1.out, HB1.out⟩, by simp [intOf]; omega⟩
    · have HW : Hid (Fresh (Rep.slice 55 DPage.rep) w.heap.size wr [.slice (some ⟨w.heap.size, 0, none⟩) l.length l.length] l) := by
        have e : k = l.length := by omega
        have hf := HF.out
        rw [e] at hf
        exact hf.done rfl
      go_wp2
      go_ret
      exact ⟨_, rfl, HW.out, HB.out⟩

set_option maxRecDepth 100000 in
set_option maxHeartbeats 800000 in
theorem eqPageS (u v : Value) (l : List DPage) (w : World) (h : Reads (Rep.slice 55 DPage.rep) w [u] l) (h' : Reads (Rep.slice 55 DPage.rep) w [v] l) :
    Calls Try.prog 21 #[u, v] w fun e w' => e = .returned (.bool true) ∧ Below w.heap.size w w' := by
  have HK := Lib.hid h
  obtain ⟨fp, h⟩ := h
  obtain ⟨ao, c1, rfl, hm, _, hu⟩ := slice_open h
  clear hu h
  have HK' := Lib.hid h'
  obtain ⟨fp, h⟩ := h'
  obtain ⟨bo, c2, rfl, _, _, hu⟩ := slice_open h
  clear hu h
  go_enter Try.func21, Try.ntmps21
  go_wp2
  go_loopw [5] (fun i wr => ∃ k : Nat, k ≤ l.length ∧ i = .int .i64 k ∧ Below w.heap.size w wr) (fun i _ => l.length - (intOf i).toNat)
  case atStart => exact ⟨0, by omega, rfl, (by repeat (first | with_reducible exact belR | with_reducible apply belA | (with_reducible refine belS ?_ ?_; focus (first | omega | (simp; done) | (simp; omega))) | with_reducible apply belN | with_reducible apply belD | with_reducible assumption))⟩
  case round =>
    obtain ⟨k, hk, rfl, hb⟩ := hrel
    have HB := Lib.hid hb; clear hb
    by_cases hlt : k < l.length
    · obtain ⟨b, off, cs, rfl, bw, hr, hcell⟩ := slice_at (HK.out.below HB.out) k hlt
      obtain ⟨fe, hrd⟩ := hr
      obtain ⟨v1, v2, v3, _, _, _, rfl, _, _, _, _, _, _⟩ := DPage.rd.1 hrd
      have HR : Hid (Reads DPage.rep wr _ l[k]) := ⟨_, hrd⟩
      clear hrd
      have hc0 : wr.cell? ⟨b, off + k * 11, none⟩ = some (.int .i64 l[k].id) := hcell 0 (by decide)
      have hc1 : wr.cell? ⟨b, off + k * 11 + 1, none⟩ = some (.string l[k].site) := hcell 1 (by decide)
      have hc2 : wr.cell? ⟨b, off + k * 11 + 2, none⟩ = some (.string l[k].top) := hcell 2 (by decide)
      have hc3 : wr.cell? ⟨b, off + k * 11 + 3, none⟩ = some (.int .i64 l[k].version) := hcell 3 (by decide)
      have hc4 : wr.cell? ⟨b, off + k * 11 + 4, none⟩ = some (v1) := hcell 4 (by decide)
      have hc5 : wr.cell? ⟨b, off + k * 11 + 5, none⟩ = some (v2) := hcell 5 (by decide)
      have hc6 : wr.cell? ⟨b, off + k * 11 + 6, none⟩ = some (.int .i64 l[k].machine.pc) := hcell 6 (by decide)
      have hc7 : wr.cell? ⟨b, off + k * 11 + 7, none⟩ = some (v3) := hcell 7 (by decide)
      have hc8 : wr.cell? ⟨b, off + k * 11 + 8, none⟩ = some (.int .i64 l[k].machine.steps) := hcell 8 (by decide)
      have hc9 : wr.cell? ⟨b, off + k * 11 + 9, none⟩ = some (.bool l[k].machine.done) := hcell 9 (by decide)
      have hc10 : wr.cell? ⟨b, off + k * 11 + 10, none⟩ = some (.bool l[k].machine.wait) := hcell 10 (by decide)
      clear hcell
      obtain ⟨b', off', cs, rfl, b'w, hr, hcell⟩ := slice_at (HK'.out.below HB.out) k hlt
      obtain ⟨fe, hrd⟩ := hr
      obtain ⟨uv1, uv2, uv3, _, _, _, rfl, _, _, _, _, _, _⟩ := DPage.rd.1 hrd
      have HR' : Hid (Reads DPage.rep wr _ l[k]) := ⟨_, hrd⟩
      clear hrd
      have hd0 : wr.cell? ⟨b', off' + k * 11, none⟩ = some (.int .i64 l[k].id) := hcell 0 (by decide)
      have hd1 : wr.cell? ⟨b', off' + k * 11 + 1, none⟩ = some (.string l[k].site) := hcell 1 (by decide)
      have hd2 : wr.cell? ⟨b', off' + k * 11 + 2, none⟩ = some (.string l[k].top) := hcell 2 (by decide)
      have hd3 : wr.cell? ⟨b', off' + k * 11 + 3, none⟩ = some (.int .i64 l[k].version) := hcell 3 (by decide)
      have hd4 : wr.cell? ⟨b', off' + k * 11 + 4, none⟩ = some (uv1) := hcell 4 (by decide)
      have hd5 : wr.cell? ⟨b', off' + k * 11 + 5, none⟩ = some (uv2) := hcell 5 (by decide)
      have hd6 : wr.cell? ⟨b', off' + k * 11 + 6, none⟩ = some (.int .i64 l[k].machine.pc) := hcell 6 (by decide)
      have hd7 : wr.cell? ⟨b', off' + k * 11 + 7, none⟩ = some (uv3) := hcell 7 (by decide)
      have hd8 : wr.cell? ⟨b', off' + k * 11 + 8, none⟩ = some (.int .i64 l[k].machine.steps) := hcell 8 (by decide)
      have hd9 : wr.cell? ⟨b', off' + k * 11 + 9, none⟩ = some (.bool l[k].machine.done) := hcell 9 (by decide)
      have hd10 : wr.cell? ⟨b', off' + k * 11 + 10, none⟩ = some (.bool l[k].machine.wait) := hcell 10 (by decide)
      clear hcell
      go_wp2_with fail
      go_still_tail 8, (by kernel_rfl)
      change wpList _ _ _ _ _ wr.drew
      go_wp2_with fail
      refine (eqPage _ _ _ _ (HR.out.below (by repeat (first | with_reducible exact belR | with_reducible apply belA | (with_reducible refine belS ?_ ?_; focus (first | omega | (simp; done) | (simp; omega))) | with_reducible apply belN | with_reducible apply belD | with_reducible assumption))) (HR'.out.below (by repeat (first | with_reducible exact belR | with_reducible apply belA | (with_reducible refine belS ?_ ?_; focus (first | omega | (simp; done) | (simp; omega))) | with_reducible apply belN | with_reducible apply belD | with_reducible assumption)))).mono ?_
      rintro e w1 ⟨rfl, hb1⟩
      have HB1 := Lib.hid (below_call (belD HB.out) (belD HB.out).size hb1); clear hb1
      go_wp2
      go_light
      exact ⟨⟨k + 1, by omega, by go_num, HB1.out⟩, by simp [intOf]; omega⟩
    · go_wp2
      go_ret
      exact ⟨rfl, HB.out⟩

def DPage.cnt (x : DPage) : Nat := 8 + wtT DLoaded.cnt x.loaded x.loaded.length + wtT DInstr.cnt x.machine.script x.machine.script.length + wtT cnt1 x.machine.regs x.machine.regs.length
def DPage.mk3 (k : Nat) (x : DPage) : DPage := ⟨((k : Int)), markT (k + 1), markT (k + 2), ((k : Int) + 1 + 1 + 1), marks DLoaded.mk3 DLoaded.cnt (k + 4) x.loaded, ⟨marks DInstr.mk3 DInstr.cnt (k + 4 + wtT DLoaded.cnt x.loaded x.loaded.length) x.machine.script, (((k + 4 + wtT DLoaded.cnt x.loaded x.loaded.length + wtT DInstr.cnt x.machine.script x.machine.script.length : Nat) : Int)), marks mkInt cnt1 (k + 4 + wtT DLoaded.cnt x.loaded x.loaded.length + wtT DInstr.cnt x.machine.script x.machine.script.length + 1) x.machine.regs, (((k + 4 + wtT DLoaded.cnt x.loaded x.loaded.length + wtT DInstr.cnt x.machine.script x.machine.script.length + 1 + wtT cnt1 x.machine.regs x.machine.regs.length : Nat) : Int)), ((((k + 4 + wtT DLoaded.cnt x.loaded x.loaded.length + wtT DInstr.cnt x.machine.script x.machine.script.length + 1 + wtT cnt1 x.machine.regs x.machine.regs.length : Nat) : Int) + 1) % 3 == 0), ((((k + 4 + wtT DLoaded.cnt x.loaded x.loaded.length + wtT DInstr.cnt x.machine.script x.machine.script.length + 1 + wtT cnt1 x.machine.regs x.machine.regs.length : Nat) : Int) + 1 + 1) % 3 == 0)⟩⟩

def DPage.mcnt (x : DPage) : Nat := wtT DLoaded.cnt x.loaded x.loaded.length + x.machine.mcnt
def DPage.mks (x : DPage) (k : Nat) : DPage := { x with loaded := marks DLoaded.mk3 DLoaded.cnt (k) x.loaded, machine := x.machine.mks (k + wtT DLoaded.cnt x.loaded x.loaded.length) }

set_option maxRecDepth 100000 in
set_option maxHeartbeats 800000 in
theorem markPage (cs : List Value) (x : DPage) (fp : List Nat) (k : Nat) (w : World) (h : DPage.rep.rd true w cs x fp) (hnd : fp.Nodup) (hk : k + x.mcnt ≤ 1000000000) :
    Calls Try.prog 32 #[.agg cs.toArray, .int .i64 k] w fun e w' => e = .returned (.int .i64 ((k + x.mcnt : Nat) : Int)) ∧ DPage.rep.rd true w' cs (x.mks k) fp ∧ Chg fp w w' := by
  have HL := Lib.hid (DPage.rep.lt h)
  obtain ⟨v1, v2, v3, f4, f5, rfl, rfl, s0, s1, r0, r1⟩ := DPage.parts h
  have n0 : (f4).Nodup := (List.nodup_append.1 hnd).1
  have J0 := Lib.hid (fun b (h1 : b ∈ f4) (h2 : b ∈ f5) => (List.nodup_append.1 hnd).2.2 b h1 b h2 rfl)
  replace hnd := (List.nodup_append.1 hnd).2.1
  have n1 := hnd
  have R0 := Lib.hid r0
  have R1 := Lib.hid r1
  clear h r0 r1
  unfold DPage.mcnt at hk
  go_enter Try.func32, Try.ntmps32
  go_wp2_with fail
  refine (markLoadedS _ x.loaded f4 (k) _ (Rep.frame (Rep.slice 123 DLoaded.rep) (w' := w.alloc _) R0.out fun b hb => Below.heap_alloc _ _ _ (HL.out b (List.mem_append.2 (.inl hb)))) n0 (by omega)).mono ?_
  rintro e w1 ⟨rfl, rd0, ch0⟩
  replace R1 := Lib.hid (ch0.keeps (Rep.frame DMachine.rep (w' := w.alloc _) R1.out fun b hb => Below.heap_alloc _ _ _ (HL.out b (List.mem_append.2 (.inr hb)))) (fun b h1 h2 => J0.out b h2 h1))
  replace R0 := Lib.hid rd0
  have hx0 : w.heap.size ∉ f4 := fun hx => Nat.lt_irrefl _ (HL.out _ (List.mem_append.2 (.inl hx)))
  have hz1 : w.heap.size < w1.heap.size := by have y := ch0.size; (try simp at y); omega
  have hc1 : ∀ o, w1.cell? ⟨w.heap.size, o, none⟩ = _ := fun o => World.cell?_of_block (a := ⟨w.heap.size, o, none⟩) (ch0.block w.heap.size (by first | omega | (simp; done) | (simp; omega)) hx0)
  have C0 := Lib.hid ch0
  clear rd0 ch0 hx0
  go_wp2_with fail
  refine (markMachine _ x.machine f5 (k + wtT DLoaded.cnt x.loaded x.loaded.length) _ R1.out n1 (by omega)).mono ?_
  rintro e w2 ⟨rfl, rd1, ch1⟩
  replace R0 := Lib.hid (ch1.keeps R0.out (fun b h1 h2 => J0.out b h1 h2))
  replace R1 := Lib.hid rd1
  have hx1 : w.heap.size ∉ f5 := fun hx => Nat.lt_irrefl _ (HL.out _ (List.mem_append.2 (.inr hx)))
  have hz2 : w.heap.size < w2.heap.size := by have y := ch1.size; (try simp at y); omega
  have hc2 : ∀ o, w2.cell? ⟨w.heap.size, o, none⟩ = _ := fun o => World.cell?_of_block (a := ⟨w.heap.size, o, none⟩) (ch1.block w.heap.size (by first | omega | (simp; done) | (simp; omega)) hx1)
  have C1 := Lib.hid ch1
  clear rd1 ch1 hx1
  go_wp2
  go_ret
  refine ⟨ret_int (by unfold DPage.mcnt; omega), ?_, ?_⟩
  · exact DPage.join (x := x.mks k) _ _ R0.out _ _ R1.out s0 s1
  · have z := Chg.trans (a := w) (Chg.of_below (fp := f4 ++ (f5)) (B := w.heap.size) (belA belR) (Nat.le_refl _)) (C0.out.mono (fq := f4 ++ (f5)) fun b hb => (List.mem_append.2 (.inl hb)))
    replace z := z.trans (C1.out.mono (fq := f4 ++ (f5)) fun b hb => (List.mem_append.2 (.inr hb)))
    exact z

set_option maxRecDepth 100000 in
set_option maxHeartbeats 800000 in
theorem heldPage (cs : List Value) (x : DPage) (k : Nat) (w : World) (h : Reads DPage.rep w cs (x.mks k)) (hk : k + x.mcnt ≤ 1000000000) :
    Calls Try.prog 33 #[.agg cs.toArray, .int .i64 k] w fun e w' => e = .returned (.int .i64 ((k + x.mcnt : Nat) : Int)) ∧ Below w.heap.size w w' := by
  obtain ⟨fp, h⟩ := h
  obtain ⟨v1, v2, v3, f4, f5, rfl, _, s0, s1, r0, r1⟩ := DPage.parts h
  have HV0 : Hid (Reads (Rep.slice 123 DLoaded.rep) w [v1] (x.mks k).loaded) := ⟨_, r0⟩
  have HV1 : Hid (Reads DMachine.rep w [v2, .int .i64 (x.mks k).machine.pc, v3, .int .i64 (x.mks k).machine.steps, .bool (x.mks k).machine.done, .bool (x.mks k).machine.wait] (x.mks k).machine) := ⟨_, r1⟩
  clear h r0 r1
  unfold DPage.mcnt at hk
  go_enter Try.func33, Try.ntmps33
  go_wp2_with fail
  refine (heldLoadedS _ x.loaded (k) _ (HV0.out.below (by repeat (first | with_reducible exact belR | with_reducible apply belA | (with_reducible refine belS ?_ ?_; focus (first | omega | (simp; done) | (simp; omega))) | with_reducible apply belN | with_reducible apply belD | with_reducible assumption))) (by omega)).mono ?_
  rintro e w1 ⟨rfl, hb1⟩
  obtain ⟨hc1, hfz1⟩ := bcell hb1
  have hz1 : w.heap.size < w1.heap.size := by have y := hb1.size; (try simp at y); omega
  have HB1 := Lib.hid (below_call (w := w) (by repeat (first | with_reducible exact belR | with_reducible apply belA | (with_reducible refine belS ?_ ?_; focus (first | omega | (simp; done) | (simp; omega))) | with_reducible apply belN | with_reducible apply belD | with_reducible assumption)) (by first | omega | (simp; done) | (simp; omega)) hb1); clear hb1
  go_wp2_with fail
  refine (heldMachine _ x.machine (k + wtT DLoaded.cnt x.loaded x.loaded.length) _ (HV1.out.below (by have y := HB1.out; exact (by repeat (first | with_reducible exact belR | with_reducible apply belA | (with_reducible refine belS ?_ ?_; focus (first | omega | (simp; done) | (simp; omega))) | with_reducible apply belN | with_reducible apply belD | with_reducible assumption)))) (by omega)).mono ?_
  rintro e w2 ⟨rfl, hb2⟩
  obtain ⟨hc2, hfz2⟩ := bcell hb2
  have hz2 : w.heap.size < w2.heap.size := by have y := hb2.size; (try simp at y); omega
  have HB2 := Lib.hid (below_call (w := w) (by have y := HB1.out; exact (by repeat (first | with_reducible exact belR | with_reducible apply belA | (with_reducible refine belS ?_ ?_; focus (first | omega | (simp; done) | (simp; omega))) | with_reducible apply belN | with_reducible apply belD | with_reducible assumption))) (by first | omega | (simp; done) | (simp; omega)) hb2); clear hb2
  go_wp2
  go_ret
  have y := HB2.out
  exact ⟨ret_int (by unfold DPage.mcnt; omega), (by repeat (first | with_reducible exact belR | with_reducible apply belA | (with_reducible refine belS ?_ ?_; focus (first | omega | (simp; done) | (simp; omega))) | with_reducible apply belN | with_reducible apply belD | with_reducible assumption))⟩

set_option maxRecDepth 100000 in
set_option maxHeartbeats 1600000 in
theorem markPageS (v : Value) (l : List DPage) (fp : List Nat) (k : Nat) (w : World) (h : (Rep.slice 55 DPage.rep).rd true w [v] l fp) (hnd : fp.Nodup) (hk : k + wtT DPage.cnt l l.length ≤ 1000000000) :
    Calls Try.prog 22 #[v, .int .i64 k] w fun e w' => e = .returned (.int .i64 ((k + wtT DPage.cnt l l.length : Nat) : Int)) ∧ (Rep.slice 55 DPage.rep).rd true w' [v] (marks DPage.mk3 DPage.cnt k l) fp ∧ Chg fp w w' := by
  have HM : Hid (Marking DPage.rep 55 DPage.mk3 DPage.cnt k l v fp w 0 w) := ⟨by rw [marked_zero]; exact h, Chg.refl⟩
  obtain ⟨ao, c1, rfl, hm, _, hu⟩ := slice_open h
  clear hu h
  go_enter Try.func22, Try.ntmps22
  go_wp2
  go_loopw [1, 5] (fun a i wr => ∃ j : Nat, j ≤ l.length ∧ i = .int .i64 j ∧ a = .int .i64 ((k + wtT DPage.cnt l j : Nat) : Int) ∧ Marking DPage.rep 55 DPage.mk3 DPage.cnt k l (.slice ao l.length c1) fp w j wr) (fun _ i _ => l.length - (intOf i).toNat)
  case atStart => exact ⟨0, by omega, rfl, by simp [wtT], HM.out⟩
  case round =>
    obtain ⟨j, hj, rfl, rfl, hma⟩ := hrel
    have HM := Lib.hid hma; clear hma
    by_cases hlt : j < l.length
    · have hw1 := wtT_succ DPage.cnt l j hlt
      have hw2 := wtT_mono DPage.cnt l (j + 1) l.length hlt
      generalize hq : k + wtT DPage.cnt l j = q at *
      have hqc : q + DPage.cnt l[j] ≤ 1000000000 := by omega
      unfold DPage.cnt at hqc
      have HQ := Lib.hid hq; clear hq hw1 hw2
      have hlt' : j < (marked DPage.mk3 DPage.cnt k l j).length := by rw [marked_length]; exact hlt
      obtain ⟨g, cap, xs, cs, fe, hv, hg, hgfe, hfesub, hfend, hown, hrd, hcs, hshut⟩ := own_open HM.out.1 hnd j hlt'
      rw [marked_length] at hv hown
      simp only [Value.slice.injEq] at hv
      obtain ⟨rfl, _, rfl⟩ := hv
      have HG := Lib.hid hg; clear hg
      have HS := Lib.hid hshut; clear hshut
      have HFE := Lib.hid hfesub; clear hfesub
      have hval := marked_get DPage.mk3 DPage.cnt k l j hlt
      rw [List.getElem?_eq_getElem hlt'] at hval
      rw [Option.some.inj hval] at hrd
      clear hval
      have HO := Lib.hid hown; clear hown
      obtain ⟨v1, v2, v3, f1, f2, f3, rfl, hfe, _, _, r1, r2, r3⟩ := DPage.rd.1 hrd
      subst hfe
      have n0 : (f1).Nodup := (List.nodup_append.1 hfend).1
      have J0 := Lib.hid (fun b (h1 : b ∈ f1) (h2 : b ∈ f2 ++ (f3)) => (List.nodup_append.1 hfend).2.2 b h1 b h2 rfl)
      replace hfend := (List.nodup_append.1 hfend).2.1
      have n1 : (f2).Nodup := (List.nodup_append.1 hfend).1
      have J1 := Lib.hid (fun b (h1 : b ∈ f2) (h2 : b ∈ f3) => (List.nodup_append.1 hfend).2.2 b h1 b h2 rfl)
      replace hfend := (List.nodup_append.1 hfend).2.1
      have n2 := hfend
      have R0 := Lib.hid r1
      have R1 := Lib.hid r2
      have R2 := Lib.hid r3
      have HC : Hid (Chg (g :: (f1 ++ (f2 ++ (f3)))) wr wr) := Chg.refl
      have X0 : Hid (xs[j * 11 + 4]? = some v1) := hcs 4 (by decide)
      have X1 : Hid (xs[j * 11 + 5]? = some v2) := hcs 5 (by decide)
      have X2 : Hid (xs[j * 11 + 7]? = some v3) := hcs 7 (by decide)
      have X9_0 : Hid (xs[j * 11 + 4]? = some v1) := Lib.hid X0.out
      have X9_1 : Hid (xs[j * 11 + 5]? = some v2) := Lib.hid X1.out
      have X9_2 : Hid (xs[j * 11 + 7]? = some v3) := Lib.hid X2.out
      clear hrd hcs r1 r2 r3
      obtain ⟨hcs, hfzwr⟩ := own_cells HO.out hlt
      obtain ⟨zwr_0, hzwr_0⟩ : ∃ u, wr.cell? ⟨g, j * 11, none⟩ = some u := hcs 0 (by decide)
      obtain ⟨zwr_1, hzwr_1⟩ : ∃ u, wr.cell? ⟨g, j * 11 + 1, none⟩ = some u := hcs 1 (by decide)
      obtain ⟨zwr_2, hzwr_2⟩ : ∃ u, wr.cell? ⟨g, j * 11 + 2, none⟩ = some u := hcs 2 (by decide)
      obtain ⟨zwr_3, hzwr_3⟩ : ∃ u, wr.cell? ⟨g, j * 11 + 3, none⟩ = some u := hcs 3 (by decide)
      have hzwr_4 : wr.cell? ⟨g, j * 11 + 4, none⟩ = some v1 := (World.ownsRow.cellAt HO.out _ (own_lt hlt 4 (by decide))).trans X0.out
      have hzwr_5 : wr.cell? ⟨g, j * 11 + 5, none⟩ = some v2 := (World.ownsRow.cellAt HO.out _ (own_lt hlt 5 (by decide))).trans X1.out
      obtain ⟨zwr_6, hzwr_6⟩ : ∃ u, wr.cell? ⟨g, j * 11 + 6, none⟩ = some u := hcs 6 (by decide)
      have hzwr_7 : wr.cell? ⟨g, j * 11 + 7, none⟩ = some v3 := (World.ownsRow.cellAt HO.out _ (own_lt hlt 7 (by decide))).trans X2.out
      obtain ⟨zwr_8, hzwr_8⟩ : ∃ u, wr.cell? ⟨g, j * 11 + 8, none⟩ = some u := hcs 8 (by decide)
      obtain ⟨zwr_9, hzwr_9⟩ : ∃ u, wr.cell? ⟨g, j * 11 + 9, none⟩ = some u := hcs 9 (by decide)
      obtain ⟨zwr_10, hzwr_10⟩ : ∃ u, wr.cell? ⟨g, j * 11 + 10, none⟩ = some u := hcs 10 (by decide)
      clear hcs
      go_wp2_with fail
      replace HO := Lib.hid (setCells_owns [.int .i64 ((q : Int))] (j * 11) _ _ HO.out)
      replace R0 := Lib.hid (rd_sets (R := (Rep.slice 123 DLoaded.rep)) [.int .i64 ((q : Int))] (j * 11) R0.out (fun hx => hgfe (List.mem_append.2 (.inl hx))))
      replace R1 := Lib.hid (rd_sets (R := (Rep.slice 113 DInstr.rep)) [.int .i64 ((q : Int))] (j * 11) R1.out (fun hx => hgfe (List.mem_append.2 (.inr (List.mem_append.2 (.inl hx))))))
      replace R2 := Lib.hid (rd_sets (R := (Rep.slice 3 Rep.int)) [.int .i64 ((q : Int))] (j * 11) R2.out (fun hx => hgfe (List.mem_append.2 (.inr (List.mem_append.2 (.inr hx))))))
      replace HC := Lib.hid (Chg.sets (g := g) (by simp) [.int .i64 ((q : Int))] (j * 11) _ HC.out)
      replace X0 := Lib.hid ((setL_ge [.int .i64 ((q : Int))] (j * 11) _ _ (by simp only [List.length_cons, List.length_nil]; omega)).trans X0.out)
      replace X1 := Lib.hid ((setL_ge [.int .i64 ((q : Int))] (j * 11) _ _ (by simp only [List.length_cons, List.length_nil]; omega)).trans X1.out)
      replace X2 := Lib.hid ((setL_ge [.int .i64 ((q : Int))] (j * 11) _ _ (by simp only [List.length_cons, List.length_nil]; omega)).trans X2.out)
      refine (markTextI (q + 1) _ (by omega) (by omega) _).mono ?_
      rintro e m1 ⟨rfl, hb⟩
      replace HO := Lib.hid (own_below HO.out hb (Nat.le_refl _))
      replace R0 := Lib.hid (rd_below hb R0.out)
      replace R1 := Lib.hid (rd_below hb R1.out)
      replace R2 := Lib.hid (rd_below hb R2.out)
      replace HC := Lib.hid (HC.out.trans (Chg.of_below hb (Nat.le_refl _)))
      clear hb
      clear hfzwr hzwr_0 hzwr_1 hzwr_2 hzwr_3 hzwr_4 hzwr_5 hzwr_6 hzwr_7 hzwr_8 hzwr_9 hzwr_10
      obtain ⟨hcs, hfzm1⟩ := own_cells HO.out hlt
      obtain ⟨zm1_1, hzm1_1⟩ : ∃ u, m1.cell? ⟨g, j * 11 + 1, none⟩ = some u := hcs 1 (by decide)
      obtain ⟨zm1_2, hzm1_2⟩ : ∃ u, m1.cell? ⟨g, j * 11 + 2, none⟩ = some u := hcs 2 (by decide)
      obtain ⟨zm1_3, hzm1_3⟩ : ∃ u, m1.cell? ⟨g, j * 11 + 3, none⟩ = some u := hcs 3 (by decide)
      have hzm1_4 : m1.cell? ⟨g, j * 11 + 4, none⟩ = some v1 := (World.ownsRow.cellAt HO.out _ (own_lt hlt 4 (by decide))).trans X0.out
      have hzm1_5 : m1.cell? ⟨g, j * 11 + 5, none⟩ = some v2 := (World.ownsRow.cellAt HO.out _ (own_lt hlt 5 (by decide))).trans X1.out
      obtain ⟨zm1_6, hzm1_6⟩ : ∃ u, m1.cell? ⟨g, j * 11 + 6, none⟩ = some u := hcs 6 (by decide)
      have hzm1_7 : m1.cell? ⟨g, j * 11 + 7, none⟩ = some v3 := (World.ownsRow.cellAt HO.out _ (own_lt hlt 7 (by decide))).trans X2.out
      obtain ⟨zm1_8, hzm1_8⟩ : ∃ u, m1.cell? ⟨g, j * 11 + 8, none⟩ = some u := hcs 8 (by decide)
      obtain ⟨zm1_9, hzm1_9⟩ : ∃ u, m1.cell? ⟨g, j * 11 + 9, none⟩ = some u := hcs 9 (by decide)
      obtain ⟨zm1_10, hzm1_10⟩ : ∃ u, m1.cell? ⟨g, j * 11 + 10, none⟩ = some u := hcs 10 (by decide)
      clear hcs
      go_wp2_with fail
      replace HO := Lib.hid (setCells_owns [.string (markT (q + 1))] (j * 11 + 1) _ _ HO.out)
      replace R0 := Lib.hid (rd_sets (R := (Rep.slice 123 DLoaded.rep)) [.string (markT (q + 1))] (j * 11 + 1) R0.out (fun hx => hgfe (List.mem_append.2 (.inl hx))))
      replace R1 := Lib.hid (rd_sets (R := (Rep.slice 113 DInstr.rep)) [.string (markT (q + 1))] (j * 11 + 1) R1.out (fun hx => hgfe (List.mem_append.2 (.inr (List.mem_append.2 (.inl hx))))))
      replace R2 := Lib.hid (rd_sets (R := (Rep.slice 3 Rep.int)) [.string (markT (q + 1))] (j * 11 + 1) R2.out (fun hx => hgfe (List.mem_append.2 (.inr (List.mem_append.2 (.inr hx))))))
      replace HC := Lib.hid (Chg.sets (g := g) (by simp) [.string (markT (q + 1))] (j * 11 + 1) _ HC.out)
      replace X0 := Lib.hid ((setL_ge [.string (markT (q + 1))] (j * 11 + 1) _ _ (by simp only [List.length_cons, List.length_nil]; omega)).trans X0.out)
      replace X1 := Lib.hid ((setL_ge [.string (markT (q + 1))] (j * 11 + 1) _ _ (by simp only [List.length_cons, List.length_nil]; omega)).trans X1.out)
      replace X2 := Lib.hid ((setL_ge [.string (markT (q + 1))] (j * 11 + 1) _ _ (by simp only [List.length_cons, List.length_nil]; omega)).trans X2.out)
      refine (markTextI (q + 2) _ (by omega) (by omega) _).mono ?_
      rintro e m2 ⟨rfl, hb⟩
      replace HO := Lib.hid (own_below HO.out hb (Nat.le_refl _))
      replace R0 := Lib.hid (rd_below hb R0.out)
      replace R1 := Lib.hid (rd_below hb R1.out)
      replace R2 := Lib.hid (rd_below hb R2.out)
      replace HC := Lib.hid (HC.out.trans (Chg.of_below hb (Nat.le_refl _)))
      clear hb
      clear hfzm1 hzm1_1 hzm1_2 hzm1_3 hzm1_4 hzm1_5 hzm1_6 hzm1_7 hzm1_8 hzm1_9 hzm1_10
      obtain ⟨hcs, hfzm2⟩ := own_cells HO.out hlt
      obtain ⟨zm2_2, hzm2_2⟩ : ∃ u, m2.cell? ⟨g, j * 11 + 2, none⟩ = some u := hcs 2 (by decide)
      obtain ⟨zm2_3, hzm2_3⟩ : ∃ u, m2.cell? ⟨g, j * 11 + 3, none⟩ = some u := hcs 3 (by decide)
      have hzm2_4 : m2.cell? ⟨g, j * 11 + 4, none⟩ = some v1 := (World.ownsRow.cellAt HO.out _ (own_lt hlt 4 (by decide))).trans X0.out
      have hzm2_5 : m2.cell? ⟨g, j * 11 + 5, none⟩ = some v2 := (World.ownsRow.cellAt HO.out _ (own_lt hlt 5 (by decide))).trans X1.out
      obtain ⟨zm2_6, hzm2_6⟩ : ∃ u, m2.cell? ⟨g, j * 11 + 6, none⟩ = some u := hcs 6 (by decide)
      have hzm2_7 : m2.cell? ⟨g, j * 11 + 7, none⟩ = some v3 := (World.ownsRow.cellAt HO.out _ (own_lt hlt 7 (by decide))).trans X2.out
      obtain ⟨zm2_8, hzm2_8⟩ : ∃ u, m2.cell? ⟨g, j * 11 + 8, none⟩ = some u := hcs 8 (by decide)
      obtain ⟨zm2_9, hzm2_9⟩ : ∃ u, m2.cell? ⟨g, j * 11 + 9, none⟩ = some u := hcs 9 (by decide)
      obtain ⟨zm2_10, hzm2_10⟩ : ∃ u, m2.cell? ⟨g, j * 11 + 10, none⟩ = some u := hcs 10 (by decide)
      clear hcs
      go_wp2_with fail
      replace HO := Lib.hid (setCells_owns [.string (markT (q + 2)), .int .i64 ((q : Int) + 1 + 1 + 1)] (j * 11 + 2) _ _ HO.out)
      replace R0 := Lib.hid (rd_sets (R := (Rep.slice 123 DLoaded.rep)) [.string (markT (q + 2)), .int .i64 ((q : Int) + 1 + 1 + 1)] (j * 11 + 2) R0.out (fun hx => hgfe (List.mem_append.2 (.inl hx))))
      replace R1 := Lib.hid (rd_sets (R := (Rep.slice 113 DInstr.rep)) [.string (markT (q + 2)), .int .i64 ((q : Int) + 1 + 1 + 1)] (j * 11 + 2) R1.out (fun hx => hgfe (List.mem_append.2 (.inr (List.mem_append.2 (.inl hx))))))
      replace R2 := Lib.hid (rd_sets (R := (Rep.slice 3 Rep.int)) [.string (markT (q + 2)), .int .i64 ((q : Int) + 1 + 1 + 1)] (j * 11 + 2) R2.out (fun hx => hgfe (List.mem_append.2 (.inr (List.mem_append.2 (.inr hx))))))
      replace HC := Lib.hid (Chg.sets (g := g) (by simp) [.string (markT (q + 2)), .int .i64 ((q : Int) + 1 + 1 + 1)] (j * 11 + 2) _ HC.out)
      replace X0 := Lib.hid ((setL_ge [.string (markT (q + 2)), .int .i64 ((q : Int) + 1 + 1 + 1)] (j * 11 + 2) _ _ (by simp only [List.length_cons, List.length_nil]; omega)).trans X0.out)
      replace X1 := Lib.hid ((setL_ge [.string (markT (q + 2)), .int .i64 ((q : Int) + 1 + 1 + 1)] (j * 11 + 2) _ _ (by simp only [List.length_cons, List.length_nil]; omega)).trans X1.out)
      replace X2 := Lib.hid ((setL_ge [.string (markT (q + 2)), .int .i64 ((q : Int) + 1 + 1 + 1)] (j * 11 + 2) _ _ (by simp only [List.length_cons, List.length_nil]; omega)).trans X2.out)
      refine (markLoadedSI _ _ f1 (q + 4) _ (by omega) _ R0.out n0 (by omega)).mono ?_
      rintro e m3 ⟨rfl, rd, ch⟩
      replace HO := Lib.hid (own_chg HO.out ch (fun hx => hgfe (List.mem_append.2 (.inl hx))))
      replace R0 := Lib.hid rd
      replace R1 := Lib.hid (ch.keeps R1.out (fun b h1 h2 => J0.out b h2 (List.mem_append.2 (.inl h1))))
      replace R2 := Lib.hid (ch.keeps R2.out (fun b h1 h2 => J0.out b h2 (List.mem_append.2 (.inr h1))))
      replace HC := Lib.hid (HC.out.trans (ch.mono fun b hb => List.mem_cons_of_mem _ (List.mem_append.2 (.inl hb))))
      clear rd ch
      clear hfzm2 hzm2_2 hzm2_3 hzm2_4 hzm2_5 hzm2_6 hzm2_7 hzm2_8 hzm2_9 hzm2_10
      generalize hq2 : q + 4 + wtT DLoaded.cnt l[j].loaded l[j].loaded.length = q3 at *
      have HQq3 := Lib.hid hq2
      have hqq3 : q3 ≤ 1000000000 := (by omega)
      clear hq2
      obtain ⟨hcs, hfzm3⟩ := own_cells HO.out hlt
      have hzm3_5 : m3.cell? ⟨g, j * 11 + 5, none⟩ = some v2 := (World.ownsRow.cellAt HO.out _ (own_lt hlt 5 (by decide))).trans X1.out
      obtain ⟨zm3_6, hzm3_6⟩ : ∃ u, m3.cell? ⟨g, j * 11 + 6, none⟩ = some u := hcs 6 (by decide)
      have hzm3_7 : m3.cell? ⟨g, j * 11 + 7, none⟩ = some v3 := (World.ownsRow.cellAt HO.out _ (own_lt hlt 7 (by decide))).trans X2.out
      obtain ⟨zm3_8, hzm3_8⟩ : ∃ u, m3.cell? ⟨g, j * 11 + 8, none⟩ = some u := hcs 8 (by decide)
      obtain ⟨zm3_9, hzm3_9⟩ : ∃ u, m3.cell? ⟨g, j * 11 + 9, none⟩ = some u := hcs 9 (by decide)
      obtain ⟨zm3_10, hzm3_10⟩ : ∃ u, m3.cell? ⟨g, j * 11 + 10, none⟩ = some u := hcs 10 (by decide)
      clear hcs
      go_wp2_with fail
      refine (markInstrSI _ _ f2 q3 _ (by omega) _ R1.out n1 (by have yq3 := HQq3.out; omega)).mono ?_
      rintro e m4 ⟨rfl, rd, ch⟩
      replace HO := Lib.hid (own_chg HO.out ch (fun hx => hgfe (List.mem_append.2 (.inr (List.mem_append.2 (.inl hx))))))
      replace R0 := Lib.hid (ch.keeps R0.out (fun b h1 h2 => J0.out b h1 (List.mem_append.2 (.inl h2))))
      replace R1 := Lib.hid rd
      replace R2 := Lib.hid (ch.keeps R2.out (fun b h1 h2 => J1.out b h2 h1))
      replace HC := Lib.hid (HC.out.trans (ch.mono fun b hb => List.mem_cons_of_mem _ (List.mem_append.2 (.inr (List.mem_append.2 (.inl hb))))))
      clear rd ch
      clear hfzm3 hzm3_5 hzm3_6 hzm3_7 hzm3_8 hzm3_9 hzm3_10
      generalize hq2 : q3 + wtT DInstr.cnt l[j].machine.script l[j].machine.script.length = q4 at *
      have HQq4 := Lib.hid hq2
      have hqq4 : q4 ≤ 1000000000 := (by have yq3 := HQq3.out; omega)
      clear hq2
      obtain ⟨hcs, hfzm4⟩ := own_cells HO.out hlt
      obtain ⟨zm4_6, hzm4_6⟩ : ∃ u, m4.cell? ⟨g, j * 11 + 6, none⟩ = some u := hcs 6 (by decide)
      have hzm4_7 : m4.cell? ⟨g, j * 11 + 7, none⟩ = some v3 := (World.ownsRow.cellAt HO.out _ (own_lt hlt 7 (by decide))).trans X2.out
      obtain ⟨zm4_8, hzm4_8⟩ : ∃ u, m4.cell? ⟨g, j * 11 + 8, none⟩ = some u := hcs 8 (by decide)
      obtain ⟨zm4_9, hzm4_9⟩ : ∃ u, m4.cell? ⟨g, j * 11 + 9, none⟩ = some u := hcs 9 (by decide)
      obtain ⟨zm4_10, hzm4_10⟩ : ∃ u, m4.cell? ⟨g, j * 11 + 10, none⟩ = some u := hcs 10 (by decide)
      clear hcs
      go_wp2_with fail
      replace HO := Lib.hid (setCells_owns [.int .i64 ((q4 : Int))] (j * 11 + 6) _ _ HO.out)
      replace R0 := Lib.hid (rd_sets (R := (Rep.slice 123 DLoaded.rep)) [.int .i64 ((q4 : Int))] (j * 11 + 6) R0.out (fun hx => hgfe (List.mem_append.2 (.inl hx))))
      replace R1 := Lib.hid (rd_sets (R := (Rep.slice 113 DInstr.rep)) [.int .i64 ((q4 : Int))] (j * 11 + 6) R1.out (fun hx => hgfe (List.mem_append.2 (.inr (List.mem_append.2 (.inl hx))))))
      replace R2 := Lib.hid (rd_sets (R := (Rep.slice 3 Rep.int)) [.int .i64 ((q4 : Int))] (j * 11 + 6) R2.out (fun hx => hgfe (List.mem_append.2 (.inr (List.mem_append.2 (.inr hx))))))
      replace HC := Lib.hid (Chg.sets (g := g) (by simp) [.int .i64 ((q4 : Int))] (j * 11 + 6) _ HC.out)
      replace X2 := Lib.hid ((setL_ge [.int .i64 ((q4 : Int))] (j * 11 + 6) _ _ (by simp only [List.length_cons, List.length_nil]; omega)).trans X2.out)
      refine (markIntSI _ _ f3 (q4 + 1) _ (by omega) _ R2.out n2 (by have yq3 := HQq3.out; have yq4 := HQq4.out; omega)).mono ?_
      rintro e m5 ⟨rfl, rd, ch⟩
      replace HO := Lib.hid (own_chg HO.out ch (fun hx => hgfe (List.mem_append.2 (.inr (List.mem_append.2 (.inr hx))))))
      replace R0 := Lib.hid (ch.keeps R0.out (fun b h1 h2 => J0.out b h1 (List.mem_append.2 (.inr h2))))
      replace R1 := Lib.hid (ch.keeps R1.out (fun b h1 h2 => J1.out b h1 h2))
      replace R2 := Lib.hid rd
      replace HC := Lib.hid (HC.out.trans (ch.mono fun b hb => List.mem_cons_of_mem _ (List.mem_append.2 (.inr (List.mem_append.2 (.inr hb))))))
      clear rd ch
      clear hfzm4 hzm4_6 hzm4_7 hzm4_8 hzm4_9 hzm4_10
      generalize hq2 : q4 + 1 + wtT cnt1 l[j].machine.regs l[j].machine.regs.length = q5 at *
      have HQq5 := Lib.hid hq2
      have hqq5 : q5 ≤ 1000000000 := (by have yq3 := HQq3.out; have yq4 := HQq4.out; omega)
      clear hq2
      obtain ⟨hcs, hfzm5⟩ := own_cells HO.out hlt
      obtain ⟨zm5_8, hzm5_8⟩ : ∃ u, m5.cell? ⟨g, j * 11 + 8, none⟩ = some u := hcs 8 (by decide)
      obtain ⟨zm5_9, hzm5_9⟩ : ∃ u, m5.cell? ⟨g, j * 11 + 9, none⟩ = some u := hcs 9 (by decide)
      obtain ⟨zm5_10, hzm5_10⟩ : ∃ u, m5.cell? ⟨g, j * 11 + 10, none⟩ = some u := hcs 10 (by decide)
      clear hcs
      go_wp2
      replace HO := Lib.hid (setCells_owns [.int .i64 ((q5 : Int)), .bool (((q5 : Int) + 1) % 3 == 0), .bool (((q5 : Int) + 1 + 1) % 3 == 0)] (j * 11 + 8) _ _ HO.out)
      replace R0 := Lib.hid (rd_sets (R := (Rep.slice 123 DLoaded.rep)) [.int .i64 ((q5 : Int)), .bool (((q5 : Int) + 1) % 3 == 0), .bool (((q5 : Int) + 1 + 1) % 3 == 0)] (j * 11 + 8) R0.out (fun hx => hgfe (List.mem_append.2 (.inl hx))))
      replace R1 := Lib.hid (rd_sets (R := (Rep.slice 113 DInstr.rep)) [.int .i64 ((q5 : Int)), .bool (((q5 : Int) + 1) % 3 == 0), .bool (((q5 : Int) + 1 + 1) % 3 == 0)] (j * 11 + 8) R1.out (fun hx => hgfe (List.mem_append.2 (.inr (List.mem_append.2 (.inl hx))))))
      replace R2 := Lib.hid (rd_sets (R := (Rep.slice 3 Rep.int)) [.int .i64 ((q5 : Int)), .bool (((q5 : Int) + 1) % 3 == 0), .bool (((q5 : Int) + 1 + 1) % 3 == 0)] (j * 11 + 8) R2.out (fun hx => hgfe (List.mem_append.2 (.inr (List.mem_append.2 (.inr hx))))))
      replace HC := Lib.hid (Chg.sets (g := g) (by simp) [.int .i64 ((q5 : Int)), .bool (((q5 : Int) + 1) % 3 == 0), .bool (((q5 : Int) + 1 + 1) % 3 == 0)] (j * 11 + 8) _ HC.out)
      go_light
      have hlt1 := (Rep.slice 55 DPage.rep).lt HM.out.1
      have hm' := marked_succ DPage.mk3 DPage.cnt k l j hlt
      rw [HQ.out] at hm'
      refine ⟨⟨j + 1, by omega, by go_num, ?_, ?_, ?_⟩, by simp [intOf]; omega⟩
      · rw [wtT_succ _ _ _ hlt, ← Nat.add_assoc, HQ.out]
        unfold DPage.cnt
        have yq3 := HQq3.out
        have yq4 := HQq4.out
        have yq5 := HQq5.out
        exact val_int (by omega)
      · rw [← hm']
        have yq3 := HQq3.out
        have yq4 := HQq4.out
        have yq5 := HQq5.out
        unfold DPage.mk3
        try rw [yq3]
        try rw [yq4]
        try rw [yq5]
        refine HS.out _ [.int .i64 ((q : Int)), .string (markT (q + 1)), .string (markT (q + 2)), .int .i64 ((q : Int) + 1 + 1 + 1), v1, v2, .int .i64 ((q4 : Int)), v3, .int .i64 ((q5 : Int)), .bool (((q5 : Int) + 1) % 3 == 0), .bool (((q5 : Int) + 1 + 1) % 3 == 0)] _ (by
          rw [marked_length]
          refine own_eq HO.out ?_
          show _ = setL xs (j * 11) _
          simp only [setL]
          try simp only [Nat.add_assoc]
          try simp only [Nat.reduceAdd]
          rw [set_noop (i := j * 11 + 4) (v := v1) (by simp; exact X9_0.out), set_noop (i := j * 11 + 5) (v := v2) (by simp; exact X9_1.out), set_noop (i := j * 11 + 7) (v := v3) (by simp; exact X9_2.out)]) (DPage.rd.2 ⟨_, _, _, _, _, _, rfl, rfl, (by first | exact markT_le _ | (dsimp only; exact markT_le _) | (unfold DPage.mk3; dsimp only; exact markT_le _)), (by first | exact markT_le _ | (dsimp only; exact markT_le _) | (unfold DPage.mk3; dsimp only; exact markT_le _)), R0.out, R1.out, R2.out⟩) fun b hb hbg hbf => ?_
        exact HC.out.block b (hlt1 b hb) (by rw [List.mem_cons]; exact fun hx => hx.elim hbg hbf)
      · exact HM.out.2.trans (HC.out.mono fun b hb => (List.mem_cons.1 hb).elim (fun hx => by rw [hx]; exact HG.out) (HFE.out b))
    · have e : j = l.length := by omega
      have HE := Lib.hid e; clear e
      go_wp2
      go_ret
      have hm' := HM.out
      rw [HE.out] at hm' ⊢
      rw [Marking, marked_all] at hm'
      exact ⟨rfl, hm'.1, hm'.2⟩
theorem markPageSI (v : Value) (l : List DPage) (fp : List Nat) (k : Nat) (a : Int) (ha : a = k) (w : World) (h : (Rep.slice 55 DPage.rep).rd true w [v] l fp) (hnd : fp.Nodup) (hk : k + wtT DPage.cnt l l.length ≤ 1000000000) :
    Calls Try.prog 22 #[v, .int .i64 a] w fun e w' => e = .returned (.int .i64 ((k + wtT DPage.cnt l l.length : Nat) : Int)) ∧ (Rep.slice 55 DPage.rep).rd true w' [v] (marks DPage.mk3 DPage.cnt k l) fp ∧ Chg fp w w' := by
  subst ha; exact markPageS v l fp k w h hnd hk

end Go.Proofs.Ytamdjeajmfjfmaa
