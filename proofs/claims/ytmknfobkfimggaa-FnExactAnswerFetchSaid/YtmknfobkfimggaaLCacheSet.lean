/-
  The laws' helpers for CacheSet.
-/
import Derived.Test.YtmknfobkfimggaaLCache
import Derived.Test.YtmknfobkfimggaaTCacheSet
namespace Go.Proofs.Ytmknfobkfimggaa
open Go.RowKit

def DCacheSet.wt (x : DCacheSet) : Nat := wtS DCache.wt x.caches

set_option maxHeartbeats 400000 in
theorem szCacheSet (cs : List Value) (x : DCacheSet) (left : Int) (w : World) (h : Reads DCacheSet.rep w cs x) (h0 : 0 ≤ left) (h1 : left ≤ 1048576) :
    Calls Try.prog 24 #[.agg cs.toArray, .int .i64 left] w fun e w' => e = .returned (.int .i64 (szOf x.wt left)) ∧ Below w.heap.size w w' := by
  obtain ⟨fp, h⟩ := h
  obtain ⟨v1, f1, rfl, _, r1⟩ := DCacheSet.rd.1 h
  have HV1 : Hid (Reads (Rep.slice 124 DCache.rep) w [v1] x.caches) := ⟨_, r1⟩
  clear h r1
  go_enter Try.func24, Try.ntmps24
  go_wp2_with fail
  have q1 : 0 ≤ left ∧ left ≤ 1048576 := by
    omega
  refine (szCacheS _ _ _ _ (HV1.out.below (by repeat (first | with_reducible exact belR | with_reducible apply belA | (with_reducible refine belS ?_ ?_; focus (first | omega | (simp; done) | (simp; omega))) | with_reducible apply belN | with_reducible apply belD | with_reducible assumption))) q1.1 q1.2).mono ?_
  rintro e w1 ⟨rfl, hb1⟩
  obtain ⟨hc1, hfz1⟩ := bcell hb1
  have hz1 : w.heap.size < w1.heap.size := by have y := hb1.size; (try simp at y); omega
  have HB1 := Lib.hid (below_call (B := w.heap.size) (w := w) (by repeat (first | with_reducible exact belR | with_reducible apply belA | (with_reducible refine belS ?_ ?_; focus (first | omega | (simp; done) | (simp; omega))) | with_reducible apply belN | with_reducible apply belD | with_reducible assumption)) (by first | omega | (simp; done) | (simp; omega)) hb1); clear hb1
  have bl1 : -1 ≤ szOf (wtS DCache.wt x.caches) (left) ∧ szOf (wtS DCache.wt x.caches) (left) ≤ 1048576 := by
    have a0 := szOf_spec (wtS DCache.wt x.caches) (left)
    omega
  obtain ⟨bl1, bu1⟩ := bl1
  go_wp2_with fail
  · go_ret
    have y0 := HB1.out
    refine ⟨ret_int ?_, (by repeat (first | with_reducible exact belR | with_reducible apply belA | (with_reducible refine belS ?_ ?_; focus (first | omega | (simp; done) | (simp; omega))) | with_reducible apply belN | with_reducible apply belD | with_reducible assumption))⟩
    go_light
    have a0 := szOf_spec x.wt left
    have a1 := szOf_spec (wtS DCache.wt x.caches) (left)
    unfold DCacheSet.wt at *
    omega
  · go_ret
    have y0 := HB1.out
    refine ⟨ret_int ?_, (by repeat (first | with_reducible exact belR | with_reducible apply belA | (with_reducible refine belS ?_ ?_; focus (first | omega | (simp; done) | (simp; omega))) | with_reducible apply belN | with_reducible apply belD | with_reducible assumption))⟩
    go_light
    have a0 := szOf_spec x.wt left
    have a1 := szOf_spec (wtS DCache.wt x.caches) (left)
    unfold DCacheSet.wt at *
    omega

set_option maxHeartbeats 800000 in
theorem toCacheSet (cs : List Value) (x : DCacheSet) (w : World) (h : Reads DCacheSet.rep w cs x) (_hsmall : x.wt ≤ 1048576) :
    Calls Try.prog 27 #[.agg cs.toArray] w fun e w' => ∃ ds, e = .returned (.agg ds.toArray) ∧ Fresh DCacheSet.rep w.heap.size w' ds x ∧ Below w.heap.size w w' := by
  obtain ⟨fp, h⟩ := h
  obtain ⟨v1, f1, rfl, _, r1⟩ := DCacheSet.rd.1 h
  have HV1 : Hid (Reads (Rep.slice 124 DCache.rep) w [v1] x.caches) := ⟨_, r1⟩
  have d1 : wtS DCache.wt x.caches ≤ 1048576 := by unfold DCacheSet.wt at _hsmall; omega
  clear h r1
  go_enter Try.func27, Try.ntmps27
  go_wp2_with fail
  refine (toCacheS _ _ _ (HV1.out.below (by repeat (first | with_reducible exact belR | with_reducible apply belA | (with_reducible refine belS ?_ ?_; focus (first | omega | (simp; done) | (simp; omega))) | with_reducible apply belN | with_reducible apply belD | with_reducible assumption))) d1).mono ?_
  rintro e w1 ⟨t1, rfl, hf1, hb1⟩
  obtain ⟨ao1, cap1, rfl⟩ := hf1.slice
  obtain ⟨hc1, hfz1⟩ := bcell hb1
  have hs1 : w.heap.size + 1 + 1 + 1 ≤ w1.heap.size := by have y := hb1.size; (try simp at y); omega
  have hz10 : w.heap.size < w1.heap.size := by omega
  have hz11 : w.heap.size + 1 < w1.heap.size := by omega
  have hz12 : w.heap.size + 1 + 1 < w1.heap.size := by omega
  have HF1 := Lib.hid (hf1.mono (B' := w.heap.size + 1 + 1 + 1) (by first | omega | (simp; done) | (simp; omega)))
  have HB1 := Lib.hid (below_call (B := w.heap.size) (w := w) (by repeat (first | with_reducible exact belR | with_reducible apply belA | (with_reducible refine belS ?_ ?_; focus (first | omega | (simp; done) | (simp; omega))) | with_reducible apply belN | with_reducible apply belD | with_reducible assumption)) (by first | omega | (simp; done) | (simp; omega)) hb1)
  clear hb1 hf1
  go_wp2
  refine bodyPost_ret (v := .agg #[.slice ao1 x.caches.length cap1]) (by first | (simp [results, Try.results27, go_sem]; done) | (simp [results, Try.results27, go_sem, hc1]; done)) rfl ⟨_, rfl, ?_, ?_⟩
  · exact DCacheSet.fresh (HF1.out.part (by repeat (first | with_reducible exact abR | with_reducible apply abA | (with_reducible refine abS ?_ ?_; focus (first | omega | (simp; done) | (simp; omega))) | with_reducible apply abN | with_reducible apply abD | with_reducible assumption))) (by first | omega | (simp; done) | (simp; omega))  
  · have y := HB1.out
    exact (by repeat (first | with_reducible exact belR | with_reducible apply belA | (with_reducible refine belS ?_ ?_; focus (first | omega | (simp; done) | (simp; omega))) | with_reducible apply belN | with_reducible apply belD | with_reducible assumption))

set_option maxHeartbeats 800000 in
theorem eqCacheSet (cs ds : List Value) (x : DCacheSet) (w : World) (h : Reads DCacheSet.rep w cs x) (h' : Reads DCacheSet.rep w ds x) :
    Calls Try.prog 31 #[.agg cs.toArray, .agg ds.toArray] w fun e w' => e = .returned (.bool true) ∧ Below w.heap.size w w' := by
  obtain ⟨fp, h0⟩ := h
  obtain ⟨vv1, vf1, rfl, _, vr1⟩ := DCacheSet.rd.1 h0
  have HV1 : Hid (Reads (Rep.slice 124 DCache.rep) w [vv1] x.caches) := ⟨_, vr1⟩
  clear h0 vr1
  obtain ⟨fp, h0⟩ := h'
  obtain ⟨uv1, uf1, rfl, _, ur1⟩ := DCacheSet.rd.1 h0
  have HU1 : Hid (Reads (Rep.slice 124 DCache.rep) w [uv1] x.caches) := ⟨_, ur1⟩
  clear h0 ur1
  go_enter Try.func31, Try.ntmps31
  go_wp2_with fail
  refine (eqCacheS _ _ _ _ (HV1.out.below (by repeat (first | with_reducible exact belR | with_reducible apply belA | (with_reducible refine belS ?_ ?_; focus (first | omega | (simp; done) | (simp; omega))) | with_reducible apply belN | with_reducible apply belD | with_reducible assumption))) (HU1.out.below (by repeat (first | with_reducible exact belR | with_reducible apply belA | (with_reducible refine belS ?_ ?_; focus (first | omega | (simp; done) | (simp; omega))) | with_reducible apply belN | with_reducible apply belD | with_reducible assumption)))).mono ?_
  rintro e w1 ⟨rfl, hb1⟩
  obtain ⟨hc1, hfz1⟩ := bcell hb1
  have hs1 : w.heap.size + 1 + 1 ≤ w1.heap.size := by have y := hb1.size; (try simp at y); omega
  have hz10 : w.heap.size < w1.heap.size := by omega
  have hz11 : w.heap.size + 1 < w1.heap.size := by omega
  have HB1 := Lib.hid (below_call (B := w.heap.size) (w := w) (by repeat (first | with_reducible exact belR | with_reducible apply belA | (with_reducible refine belS ?_ ?_; focus (first | omega | (simp; done) | (simp; omega))) | with_reducible apply belN | with_reducible apply belD | with_reducible assumption)) (by first | omega | (simp; done) | (simp; omega)) hb1)
  clear hb1
  go_wp2
  go_ret
  have y := HB1.out
  exact ⟨rfl, (by repeat (first | with_reducible exact belR | with_reducible apply belA | (with_reducible refine belS ?_ ?_; focus (first | omega | (simp; done) | (simp; omega))) | with_reducible apply belN | with_reducible apply belD | with_reducible assumption))⟩

theorem infoCacheSet : (Try.prog.info? 70).map (fun i => (i.zero, i.size, i.bytes)) = some (some (.agg #[.slice none 0 0]), 1, 24) := by kernel_rfl

def DCacheSet.cnt (x : DCacheSet) : Nat := 0 + wtT DCache.cnt x.caches x.caches.length
def DCacheSet.mk3 (k : Nat) (x : DCacheSet) : DCacheSet := ⟨marks DCache.mk3 DCache.cnt (k) x.caches⟩

def DCacheSet.mcnt (x : DCacheSet) : Nat := wtT DCache.cnt x.caches x.caches.length
def DCacheSet.mks (x : DCacheSet) (k : Nat) : DCacheSet := { caches := marks DCache.mk3 DCache.cnt (k) x.caches }

set_option maxRecDepth 100000 in
set_option maxHeartbeats 800000 in
theorem markCacheSet (cs : List Value) (x : DCacheSet) (fp : List Nat) (k : Nat) (w : World) (h : DCacheSet.rep.rd true w cs x fp) (hnd : fp.Nodup) (hk : k + x.mcnt ≤ 1000000000) :
    Calls Try.prog 33 #[.agg cs.toArray, .int .i64 k] w fun e w' => e = .returned (.int .i64 ((k + x.mcnt : Nat) : Int)) ∧ DCacheSet.rep.rd true w' cs (x.mks k) fp ∧ Chg fp w w' := by
  have HL := Lib.hid (DCacheSet.rep.lt h)
  obtain ⟨v1, f0, rfl, rfl, r0⟩ := DCacheSet.parts h
  have n0 := hnd
  have R0 := Lib.hid r0
  clear h r0
  unfold DCacheSet.mcnt at hk
  go_enter Try.func33, Try.ntmps33
  go_wp2_with fail
  refine (markCacheS _ x.caches fp (k) _ (Rep.frame (Rep.slice 124 DCache.rep) (w' := w.alloc _) R0.out fun b hb => Below.heap_alloc _ _ _ (HL.out b hb)) n0 (by omega)).mono ?_
  rintro e w1 ⟨rfl, rd0, ch0⟩
  replace R0 := Lib.hid rd0
  have hx0 : w.heap.size ∉ fp := fun hx => Nat.lt_irrefl _ (HL.out _ hx)
  have hz1 : w.heap.size < w1.heap.size := by have y := ch0.size; (try simp at y); omega
  have hc1 : ∀ o, w1.cell? ⟨w.heap.size, o, none⟩ = _ := fun o => World.cell?_of_block (a := ⟨w.heap.size, o, none⟩) (ch0.block w.heap.size (by first | omega | (simp; done) | (simp; omega)) hx0)
  have C0 := Lib.hid ch0
  clear rd0 ch0 hx0
  go_wp2
  go_ret
  refine ⟨ret_int (by unfold DCacheSet.mcnt; omega), ?_, ?_⟩
  · exact DCacheSet.join (x := x.mks k) _ _ R0.out 
  · have z := Chg.trans (a := w) (Chg.of_below (fp := fp) (B := w.heap.size) (belA belR) (Nat.le_refl _)) (C0.out.mono (fq := fp) fun b hb => hb)
    exact z

end Go.Proofs.Ytmknfobkfimggaa
