/-
  The laws' helpers for Site.
-/
import Derived.Test.YtmknfobkfimggaaBase
import Derived.Test.YtmknfobkfimggaaTSite
namespace Go.Proofs.Ytmknfobkfimggaa
open Go.RowKit

def DSite.wt (x : DSite) : Nat := x.name.size + wtS ByteArray.size x.files

set_option maxHeartbeats 400000 in
theorem szSite (cs : List Value) (x : DSite) (left : Int) (w : World) (h : Reads DSite.rep w cs x) (h0 : 0 ≤ left) (h1 : left ≤ 1048576) :
    Calls Try.prog 25 #[.agg cs.toArray, .int .i64 left] w fun e w' => e = .returned (.int .i64 (szOf x.wt left)) ∧ Below w.heap.size w w' := by
  obtain ⟨fp, h⟩ := h
  obtain ⟨v1, f1, rfl, _, s0, r1⟩ := DSite.rd.1 h
  have HV1 : Hid (Reads (Rep.slice 9 Rep.str) w [v1] x.files) := ⟨_, r1⟩
  clear h r1
  unfold maxLen at s0
  go_enter Try.func25, Try.ntmps25
  go_wp2_with fail
  · go_ret
    refine ⟨ret_int ?_, (by repeat (first | with_reducible exact belR | with_reducible apply belA | (with_reducible refine belS ?_ ?_; focus (first | omega | (simp; done) | (simp; omega))) | with_reducible apply belN | with_reducible apply belD | with_reducible assumption))⟩
    go_light
    have a0 := szOf_spec x.wt left
    unfold DSite.wt at *
    omega
  have q1 : 0 ≤ (left - (x.name.size : Int)) ∧ (left - (x.name.size : Int)) ≤ 1048576 := by
    omega
  refine (szStringS _ _ _ _ (HV1.out.below (by repeat (first | with_reducible exact belR | with_reducible apply belA | (with_reducible refine belS ?_ ?_; focus (first | omega | (simp; done) | (simp; omega))) | with_reducible apply belN | with_reducible apply belD | with_reducible assumption))) q1.1 q1.2).mono ?_
  rintro e w1 ⟨rfl, hb1⟩
  obtain ⟨hc1, hfz1⟩ := bcell hb1
  have hz1 : w.heap.size < w1.heap.size := by have y := hb1.size; (try simp at y); omega
  have HB1 := Lib.hid (below_call (B := w.heap.size) (w := w) (by repeat (first | with_reducible exact belR | with_reducible apply belA | (with_reducible refine belS ?_ ?_; focus (first | omega | (simp; done) | (simp; omega))) | with_reducible apply belN | with_reducible apply belD | with_reducible assumption)) (by first | omega | (simp; done) | (simp; omega)) hb1); clear hb1
  have bl1 : -1 ≤ szOf (wtS ByteArray.size x.files) ((left - (x.name.size : Int))) ∧ szOf (wtS ByteArray.size x.files) ((left - (x.name.size : Int))) ≤ 1048576 := by
    have a0 := szOf_spec (wtS ByteArray.size x.files) ((left - (x.name.size : Int)))
    omega
  obtain ⟨bl1, bu1⟩ := bl1
  go_wp2_with fail
  · go_ret
    have y0 := HB1.out
    refine ⟨ret_int ?_, (by repeat (first | with_reducible exact belR | with_reducible apply belA | (with_reducible refine belS ?_ ?_; focus (first | omega | (simp; done) | (simp; omega))) | with_reducible apply belN | with_reducible apply belD | with_reducible assumption))⟩
    go_light
    have a0 := szOf_spec x.wt left
    have a1 := szOf_spec (wtS ByteArray.size x.files) ((left - (x.name.size : Int)))
    unfold DSite.wt at *
    omega
  · go_ret
    have y0 := HB1.out
    refine ⟨ret_int ?_, (by repeat (first | with_reducible exact belR | with_reducible apply belA | (with_reducible refine belS ?_ ?_; focus (first | omega | (simp; done) | (simp; omega))) | with_reducible apply belN | with_reducible apply belD | with_reducible assumption))⟩
    go_light
    have a0 := szOf_spec x.wt left
    have a1 := szOf_spec (wtS ByteArray.size x.files) ((left - (x.name.size : Int)))
    unfold DSite.wt at *
    omega

set_option maxHeartbeats 800000 in
theorem toSite (cs : List Value) (x : DSite) (w : World) (h : Reads DSite.rep w cs x) (_hsmall : x.wt ≤ 1048576) :
    Calls Try.prog 28 #[.agg cs.toArray] w fun e w' => ∃ ds, e = .returned (.agg ds.toArray) ∧ Fresh DSite.rep w.heap.size w' ds x ∧ Below w.heap.size w w' := by
  obtain ⟨fp, h⟩ := h
  obtain ⟨v1, f1, rfl, _, s0, r1⟩ := DSite.rd.1 h
  have HV1 : Hid (Reads (Rep.slice 9 Rep.str) w [v1] x.files) := ⟨_, r1⟩
  have d1 : wtS ByteArray.size x.files ≤ 1048576 := by unfold DSite.wt at _hsmall; omega
  clear h r1
  go_enter Try.func28, Try.ntmps28
  go_wp2_with fail
  refine (toStringS _ _ _ (HV1.out.below (by repeat (first | with_reducible exact belR | with_reducible apply belA | (with_reducible refine belS ?_ ?_; focus (first | omega | (simp; done) | (simp; omega))) | with_reducible apply belN | with_reducible apply belD | with_reducible assumption))) d1).mono ?_
  rintro e w1 ⟨t1, rfl, hf1, hb1⟩
  obtain ⟨ao1, cap1, rfl⟩ := hf1.slice
  obtain ⟨hc1, hfz1⟩ := bcell hb1
  have hs1 : w.heap.size + 1 + 1 + 1 ≤ w1.heap.size := by have y := hb1.size; (try simp at y); omega
  have hz10 : w.heap.size < w1.heap.size := by omega
  have hz11 : w.heap.size + 1 < w1.heap.size := by omega
  have hz12 : w.heap.size + 1 + 1 < w1.heap.size := by omega
  have HF1 := Lib.hid (hf1.mono (B' := w.heap.size + 1 + 1 + 1) (by first | omega | (simp; done) | (simp; omega)))
  have HB1 := Lib.hid (below_call (B := w.heap.size) (w := w) (by repeat (first | with_reducible exact belR | with_reducible apply belA | (with_reducible refine belS ?_ ?_; focus (first | omega | (simp; done) | (simp; omega))) | with_reducible apply belN | with_reducible apply belD | with_reducible assumption)) (by first | omega | (simp; done) | (simp; omega)) hb1)
  clear hb1 hf1
  go_wp2
  refine bodyPost_ret (v := .agg #[.string x.name, .int .i64 x.version, .slice ao1 x.files.length cap1, .bool x.shared]) (by first | (simp [results, Try.results28, go_sem]; done) | (simp [results, Try.results28, go_sem, hc1]; done)) rfl ⟨_, rfl, ?_, ?_⟩
  · exact DSite.fresh (HF1.out.part (by repeat (first | with_reducible exact abR | with_reducible apply abA | (with_reducible refine abS ?_ ?_; focus (first | omega | (simp; done) | (simp; omega))) | with_reducible apply abN | with_reducible apply abD | with_reducible assumption))) (by first | omega | (simp; done) | (simp; omega))  s0
  · have y := HB1.out
    exact (by repeat (first | with_reducible exact belR | with_reducible apply belA | (with_reducible refine belS ?_ ?_; focus (first | omega | (simp; done) | (simp; omega))) | with_reducible apply belN | with_reducible apply belD | with_reducible assumption))

set_option maxHeartbeats 800000 in
theorem eqSite (cs ds : List Value) (x : DSite) (w : World) (h : Reads DSite.rep w cs x) (h' : Reads DSite.rep w ds x) :
    Calls Try.prog 32 #[.agg cs.toArray, .agg ds.toArray] w fun e w' => e = .returned (.bool true) ∧ Below w.heap.size w w' := by
  obtain ⟨fp, h0⟩ := h
  obtain ⟨vv1, vf1, rfl, _, vs0, vr1⟩ := DSite.rd.1 h0
  have HV1 : Hid (Reads (Rep.slice 9 Rep.str) w [vv1] x.files) := ⟨_, vr1⟩
  clear h0 vr1
  obtain ⟨fp, h0⟩ := h'
  obtain ⟨uv1, uf1, rfl, _, us0, ur1⟩ := DSite.rd.1 h0
  have HU1 : Hid (Reads (Rep.slice 9 Rep.str) w [uv1] x.files) := ⟨_, ur1⟩
  clear h0 ur1
  go_enter Try.func32, Try.ntmps32
  go_wp2_with fail
  refine (eqStringS _ _ _ _ (HV1.out.below (by repeat (first | with_reducible exact belR | with_reducible apply belA | (with_reducible refine belS ?_ ?_; focus (first | omega | (simp; done) | (simp; omega))) | with_reducible apply belN | with_reducible apply belD | with_reducible assumption))) (HU1.out.below (by repeat (first | with_reducible exact belR | with_reducible apply belA | (with_reducible refine belS ?_ ?_; focus (first | omega | (simp; done) | (simp; omega))) | with_reducible apply belN | with_reducible apply belD | with_reducible assumption)))).mono ?_
  rintro e w1 ⟨rfl, hb1⟩
  obtain ⟨hc1, hfz1⟩ := bcell hb1
  have hs1 : w.heap.size + 1 + 1 ≤ w1.heap.size := by have y := hb1.size; (try simp at y); omega
  have hz10 : w.heap.size < w1.heap.size := by omega
  have hz11 : w.heap.size + 1 < w1.heap.size := by omega
  have HB1 := Lib.hid (below_call (B := w.heap.size) (w := w) (by repeat (first | with_reducible exact belR | with_reducible apply belA | (with_reducible refine belS ?_ ?_; focus (first | omega | (simp; done) | (simp; omega))) | with_reducible apply belN | with_reducible apply belD | with_reducible assumption)) (by first | omega | (simp; done) | (simp; omega)) hb1)
  clear hb1
  go_wp2
  go_ret
  have y := HB1.out
  exact ⟨rfl, (by repeat (first | with_reducible exact belR | with_reducible apply belA | (with_reducible refine belS ?_ ?_; focus (first | omega | (simp; done) | (simp; omega))) | with_reducible apply belN | with_reducible apply belD | with_reducible assumption))⟩

theorem infoSite : (Try.prog.info? 72).map (fun i => (i.zero, i.size, i.bytes)) = some (some (.agg #[.string ⟨#[]⟩, .int .i64 0, .slice none 0 0, .bool false]), 4, 56) := by kernel_rfl

def DSite.cnt (x : DSite) : Nat := 3 + wtT cnt1 x.files x.files.length
def DSite.mk3 (k : Nat) (x : DSite) : DSite := ⟨markT (k), ((k : Int) + 1), marks mkStr cnt1 (k + 2) x.files, ((((k + 2 + wtT cnt1 x.files x.files.length : Nat) : Int)) % 3 == 0)⟩

def DSite.mcnt (x : DSite) : Nat := wtT cnt1 x.files x.files.length
def DSite.mks (x : DSite) (k : Nat) : DSite := { x with files := marks mkStr cnt1 (k) x.files }

set_option maxRecDepth 100000 in
set_option maxHeartbeats 800000 in
theorem markSite (cs : List Value) (x : DSite) (fp : List Nat) (k : Nat) (w : World) (h : DSite.rep.rd true w cs x fp) (hnd : fp.Nodup) (hk : k + x.mcnt ≤ 1000000000) :
    Calls Try.prog 34 #[.agg cs.toArray, .int .i64 k] w fun e w' => e = .returned (.int .i64 ((k + x.mcnt : Nat) : Int)) ∧ DSite.rep.rd true w' cs (x.mks k) fp ∧ Chg fp w w' := by
  have HL := Lib.hid (DSite.rep.lt h)
  obtain ⟨v1, f2, rfl, rfl, s0, r0⟩ := DSite.parts h
  have n0 := hnd
  have R0 := Lib.hid r0
  clear h r0
  unfold DSite.mcnt at hk
  go_enter Try.func34, Try.ntmps34
  go_wp2_with fail
  refine (markStringS _ x.files fp (k) _ (Rep.frame (Rep.slice 9 Rep.str) (w' := w.alloc _) R0.out fun b hb => Below.heap_alloc _ _ _ (HL.out b hb)) n0 (by omega)).mono ?_
  rintro e w1 ⟨rfl, rd0, ch0⟩
  replace R0 := Lib.hid rd0
  have hx0 : w.heap.size ∉ fp := fun hx => Nat.lt_irrefl _ (HL.out _ hx)
  have hz1 : w.heap.size < w1.heap.size := by have y := ch0.size; (try simp at y); omega
  have hc1 : ∀ o, w1.cell? ⟨w.heap.size, o, none⟩ = _ := fun o => World.cell?_of_block (a := ⟨w.heap.size, o, none⟩) (ch0.block w.heap.size (by first | omega | (simp; done) | (simp; omega)) hx0)
  have C0 := Lib.hid ch0
  clear rd0 ch0 hx0
  go_wp2
  go_ret
  refine ⟨ret_int (by unfold DSite.mcnt; omega), ?_, ?_⟩
  · exact DSite.join (x := x.mks k) _ _ R0.out s0
  · have z := Chg.trans (a := w) (Chg.of_below (fp := fp) (B := w.heap.size) (belA belR) (Nat.le_refl _)) (C0.out.mono (fq := fp) fun b hb => hb)
    exact z

end Go.Proofs.Ytmknfobkfimggaa
