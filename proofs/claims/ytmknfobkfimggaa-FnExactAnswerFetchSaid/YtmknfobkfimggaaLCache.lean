/-
  The laws' helpers for Cache.
-/
import Derived.Test.YtmknfobkfimggaaLCached
import Derived.Test.YtmknfobkfimggaaTCache
namespace Go.Proofs.Ytmknfobkfimggaa
open Go.RowKit

def DCache.wt (x : DCache) : Nat := wtS DCached.wt x.entries

set_option maxHeartbeats 400000 in
theorem szCache (cs : List Value) (x : DCache) (left : Int) (w : World) (h : Reads DCache.rep w cs x) (h0 : 0 ≤ left) (h1 : left ≤ 1048576) :
    Calls Try.prog 116 #[.agg cs.toArray, .int .i64 left] w fun e w' => e = .returned (.int .i64 (szOf x.wt left)) ∧ Below w.heap.size w w' := by
  obtain ⟨fp, h⟩ := h
  obtain ⟨v1, f1, rfl, _, r1⟩ := DCache.rd.1 h
  have HV1 : Hid (Reads (Rep.slice 127 DCached.rep) w [v1] x.entries) := ⟨_, r1⟩
  clear h r1
  go_enter Try.func116, Try.ntmps116
  go_wp2_with fail
  have q1 : 0 ≤ left ∧ left ≤ 1048576 := by
    omega
  refine (szCachedS _ _ _ _ (HV1.out.below (by repeat (first | with_reducible exact belR | with_reducible apply belA | (with_reducible refine belS ?_ ?_; focus (first | omega | (simp; done) | (simp; omega))) | with_reducible apply belN | with_reducible apply belD | with_reducible assumption))) q1.1 q1.2).mono ?_
  rintro e w1 ⟨rfl, hb1⟩
  obtain ⟨hc1, hfz1⟩ := bcell hb1
  have hz1 : w.heap.size < w1.heap.size := by have y := hb1.size; (try simp at y); omega
  have HB1 := Lib.hid (below_call (B := w.heap.size) (w := w) (by repeat (first | with_reducible exact belR | with_reducible apply belA | (with_reducible refine belS ?_ ?_; focus (first | omega | (simp; done) | (simp; omega))) | with_reducible apply belN | with_reducible apply belD | with_reducible assumption)) (by first | omega | (simp; done) | (simp; omega)) hb1); clear hb1
  have bl1 : -1 ≤ szOf (wtS DCached.wt x.entries) (left) ∧ szOf (wtS DCached.wt x.entries) (left) ≤ 1048576 := by
    have a0 := szOf_spec (wtS DCached.wt x.entries) (left)
    omega
  obtain ⟨bl1, bu1⟩ := bl1
  go_wp2_with fail
  · go_ret
    have y0 := HB1.out
    refine ⟨ret_int ?_, (by repeat (first | with_reducible exact belR | with_reducible apply belA | (with_reducible refine belS ?_ ?_; focus (first | omega | (simp; done) | (simp; omega))) | with_reducible apply belN | with_reducible apply belD | with_reducible assumption))⟩
    go_light
    have a0 := szOf_spec x.wt left
    have a1 := szOf_spec (wtS DCached.wt x.entries) (left)
    unfold DCache.wt at *
    omega
  · go_ret
    have y0 := HB1.out
    refine ⟨ret_int ?_, (by repeat (first | with_reducible exact belR | with_reducible apply belA | (with_reducible refine belS ?_ ?_; focus (first | omega | (simp; done) | (simp; omega))) | with_reducible apply belN | with_reducible apply belD | with_reducible assumption))⟩
    go_light
    have a0 := szOf_spec x.wt left
    have a1 := szOf_spec (wtS DCached.wt x.entries) (left)
    unfold DCache.wt at *
    omega

set_option maxHeartbeats 800000 in
theorem toCache (cs : List Value) (x : DCache) (w : World) (h : Reads DCache.rep w cs x) (_hsmall : x.wt ≤ 1048576) :
    Calls Try.prog 121 #[.agg cs.toArray] w fun e w' => ∃ ds, e = .returned (.agg ds.toArray) ∧ Fresh DCache.rep w.heap.size w' ds x ∧ Below w.heap.size w w' := by
  obtain ⟨fp, h⟩ := h
  obtain ⟨v1, f1, rfl, _, r1⟩ := DCache.rd.1 h
  have HV1 : Hid (Reads (Rep.slice 127 DCached.rep) w [v1] x.entries) := ⟨_, r1⟩
  have d1 : wtS DCached.wt x.entries ≤ 1048576 := by unfold DCache.wt at _hsmall; omega
  clear h r1
  go_enter Try.func121, Try.ntmps121
  go_wp2_with fail
  refine (toCachedS _ _ _ (HV1.out.below (by repeat (first | with_reducible exact belR | with_reducible apply belA | (with_reducible refine belS ?_ ?_; focus (first | omega | (simp; done) | (simp; omega))) | with_reducible apply belN | with_reducible apply belD | with_reducible assumption))) d1).mono ?_
  rintro e w1 ⟨t1, rfl, hf1, hb1⟩
  obtain ⟨ao1, cap1, rfl⟩ := hf1.slice
  obtain ⟨hc1, hfz1⟩ := bcell hb1
  have hs1 : w.heap.size + 1 + 1 + 1 ≤ w1.heap.size := by have y := hb1.size; (try simp at y); omega
  have hz10 : w.heap.size < w1.heap.size := by omega
  have hz11 : w.heap.size + 1 < w1.heap.size := by omega
  have hz12 : w.heap.size + 1 + 1 < w1.heap.size := by omega
  have HF1 := Lib.hid (hf1.mono (B' := w.heap.size + 1 + 1 + 1) (by first | omega | (simp; done) | (simp; omega)))
  have HB1 := Lib.hid (below_call (B := w.heap.size) (w := w) (by repeat (first | with_reducible exact belR | with_reducible apply belA | (with_reducible refine belS ?_ ?_; focus (first | omega | (simp; done) | (simp; omega))) | with_reducible apply belN | with_reducible apply belD | with_reducible assumption)) (by first | omega | (simp; done) | (simp; omega)) hb1)
  clear hb1 hf1
  go_wp2
  refine bodyPost_ret (v := .agg #[.int .i64 x.version, .slice ao1 x.entries.length cap1]) (by first | (simp [results, Try.results121, go_sem]; done) | (simp [results, Try.results121, go_sem, hc1]; done)) rfl ⟨_, rfl, ?_, ?_⟩
  · exact DCache.fresh (HF1.out.part (by repeat (first | with_reducible exact abR | with_reducible apply abA | (with_reducible refine abS ?_ ?_; focus (first | omega | (simp; done) | (simp; omega))) | with_reducible apply abN | with_reducible apply abD | with_reducible assumption))) (by first | omega | (simp; done) | (simp; omega))  
  · have y := HB1.out
    exact (by repeat (first | with_reducible exact belR | with_reducible apply belA | (with_reducible refine belS ?_ ?_; focus (first | omega | (simp; done) | (simp; omega))) | with_reducible apply belN | with_reducible apply belD | with_reducible assumption))

set_option maxHeartbeats 800000 in
theorem eqCache (cs ds : List Value) (x : DCache) (w : World) (h : Reads DCache.rep w cs x) (h' : Reads DCache.rep w ds x) :
    Calls Try.prog 129 #[.agg cs.toArray, .agg ds.toArray] w fun e w' => e = .returned (.bool true) ∧ Below w.heap.size w w' := by
  obtain ⟨fp, h0⟩ := h
  obtain ⟨vv1, vf1, rfl, _, vr1⟩ := DCache.rd.1 h0
  have HV1 : Hid (Reads (Rep.slice 127 DCached.rep) w [vv1] x.entries) := ⟨_, vr1⟩
  clear h0 vr1
  obtain ⟨fp, h0⟩ := h'
  obtain ⟨uv1, uf1, rfl, _, ur1⟩ := DCache.rd.1 h0
  have HU1 : Hid (Reads (Rep.slice 127 DCached.rep) w [uv1] x.entries) := ⟨_, ur1⟩
  clear h0 ur1
  go_enter Try.func129, Try.ntmps129
  go_wp2_with fail
  refine (eqCachedS _ _ _ _ (HV1.out.below (by repeat (first | with_reducible exact belR | with_reducible apply belA | (with_reducible refine belS ?_ ?_; focus (first | omega | (simp; done) | (simp; omega))) | with_reducible apply belN | with_reducible apply belD | with_reducible assumption))) (HU1.out.below (by repeat (first | with_reducible exact belR | with_reducible apply belA | (with_reducible refine belS ?_ ?_; focus (first | omega | (simp; done) | (simp; omega))) | with_reducible apply belN | with_reducible apply belD | with_reducible assumption)))).mono ?_
  rintro e w1 ⟨rfl, hb1⟩
  obtain ⟨hc1, hfz1⟩ := bcell hb1
  have hs1 : w.heap.size + 1 + 1 ≤ w1.heap.size := by have y := hb1.size; (try simp at y); omega
  have hz10 : w.heap.size < w1.heap.size := by omega
  have hz11 : w.heap.size + 1 < w1.heap.size := by omega
  have HB1 := Lib.hid (below_call (B := w.heap.size) (w := w) (by repeat (first | with_reducible exact belR | with_reducible apply belA | (with_reducible refine belS ?_ ?_; focus (first | omega | (simp; done) | (simp; omega))) | with_reducible apply belN | with_reducible apply belD | with_reducible assumption)) (by first | omega | (simp; done) | (simp; omega)) hb1)
  clear hb1
  go_wp2
  go_ret
  have y := HB1.out
  exact ⟨rfl, (by repeat (first | with_reducible exact belR | with_reducible apply belA | (with_reducible refine belS ?_ ?_; focus (first | omega | (simp; done) | (simp; omega))) | with_reducible apply belN | with_reducible apply belD | with_reducible assumption))⟩

set_option maxHeartbeats 400000 in
theorem szCacheS (v : Value) (l : List DCache) (left : Int) (w : World) (h : Reads (Rep.slice 124 DCache.rep) w [v] l) (h0 : 0 ≤ left) (h1 : left ≤ 1048576) :
    Calls Try.prog 68 #[v, .int .i64 left] w fun e w' => e = .returned (.int .i64 (szOf (wtS DCache.wt l) left)) ∧ Below w.heap.size w w' := by
  have HK := Lib.hid h
  obtain ⟨fp, h⟩ := h
  obtain ⟨ao, c1, rfl, hm, _, hu⟩ := slice_open h
  clear hu h
  go_enter Try.func68, Try.ntmps68
  go_wp2
  · go_ret
    refine ⟨ret_int ?_, (by repeat (first | with_reducible exact belR | with_reducible apply belA | (with_reducible refine belS ?_ ?_; focus (first | omega | (simp; done) | (simp; omega))) | with_reducible apply belN | with_reducible apply belD | with_reducible assumption))⟩
    go_light
    have a0 := szOf_spec (wtS DCache.wt l) left
    have a1 := wtS_ge DCache.wt l
    omega
  · go_loopw [1, 5] (fun a i wr => ∃ k : Nat, k ≤ l.length ∧ i = .int .i64 k ∧ a = .int .i64 (left - l.length - wtT DCache.wt l k) ∧ 0 ≤ left - l.length - wtT DCache.wt l k ∧ Below w.heap.size w wr) (fun _ i _ => l.length - (intOf i).toNat)
    case atStart => exact ⟨0, by omega, rfl, by simp [wtT], by simp [wtT]; omega, (by repeat (first | with_reducible exact belR | with_reducible apply belA | (with_reducible refine belS ?_ ?_; focus (first | omega | (simp; done) | (simp; omega))) | with_reducible apply belN | with_reducible apply belD | with_reducible assumption))⟩
    case round =>
      obtain ⟨k, hk, rfl, rfl, hpos, hb⟩ := hrel
      have HB := Lib.hid hb; clear hb
      by_cases hlt : k < l.length
      · obtain ⟨b, off, cs, rfl, bw, hr, hcell⟩ := slice_at (HK.out.below HB.out) k hlt
        obtain ⟨fe, hrd⟩ := hr
        obtain ⟨v1, _, rfl, _, _⟩ := DCache.rd.1 hrd
        have HR : Hid (Reads DCache.rep wr _ l[k]) := ⟨_, hrd⟩
        clear hrd
        have hc0 : wr.cell? ⟨b, off + k * 2, none⟩ = some (.int .i64 l[k].version) := hcell 0 (by decide)
        have hc1 : wr.cell? ⟨b, off + k * 2 + 1, none⟩ = some (v1) := hcell 1 (by decide)
        clear hcell
        go_wp2_with fail
        refine (szCache _ _ _ _ HR.out (by omega) (by omega)).mono ?_
        rintro e w1 ⟨rfl, hb1⟩
        have HB1 := Lib.hid (below_call HB.out HB.out.size hb1); clear hb1
        go_wp2
        · go_ret
          refine ⟨ret_int ?_, HB1.out⟩
          go_light
          have a0 := szOf_spec (DCache.wt l[k]) (left - l.length - wtT DCache.wt l k)
          have a1 := szOf_spec (wtS DCache.wt l) left
          have a2 := wtT_le DCache.wt l (k + 1)
          rw [wtT_succ _ _ _ hlt] at a2
          unfold wtS at a1 ⊢
          omega
        · go_light
          have a0 := szOf_spec (DCache.wt l[k]) (left - l.length - wtT DCache.wt l k)
          have a2 := wtT_succ DCache.wt l k hlt
          have e : szOf (DCache.wt l[k]) (left - l.length - wtT DCache.wt l k) = left - l.length - wtT DCache.wt l (k + 1) := by omega
          refine ⟨⟨k + 1, by omega, by go_num, by rw [e], by omega, HB1.out⟩, by simp [intOf]; omega⟩
      · go_wp2
        go_ret
        refine ⟨ret_int ?_, HB.out⟩
        go_light
        obtain rfl : k = l.length := by omega
        have a1 := szOf_spec (wtS DCache.wt l) left
        have a2 := wtT_all DCache.wt l
        unfold wtS at a1 ⊢
        omega

theorem infoCache : (Try.prog.info? 124).map (fun i => (i.zero, i.size, i.bytes)) = some (some (.agg #[.int .i64 0, .slice none 0 0]), 2, 32) := by kernel_rfl

set_option maxRecDepth 100000 in
set_option maxHeartbeats 800000 in
theorem toCacheS (u : Value) (l : List DCache) (w : World) (hu : Reads (Rep.slice 124 DCache.rep) w [u] l) (hsmall : wtS DCache.wt l ≤ 1048576) :
    Calls Try.prog 72 #[u] w fun e w' => ∃ v, e = .returned v ∧ Fresh (Rep.slice 124 DCache.rep) w.heap.size w' [v] l ∧ Below w.heap.size w w' := by
  have HK := Lib.hid hu
  obtain ⟨fp, hu⟩ := hu
  obtain ⟨ao, c1, rfl, hm, _, hu⟩ := slice_open hu
  clear hu
  have hlen := wtS_ge DCache.wt l
  have HW := Lib.hid hsmall
  obtain ⟨i0, hi, hz0, hz1, hz2⟩ := info_parts infoCache
  go_enter Try.func72, Try.ntmps72
  go_wp2_with (at_make; refine wpList_make_full _ rfl _ _ 68 rfl w.heap.size 124 i0 _ 2 Try.underlying68 hi hz0 hz1 _ _ _ _ l.length rfl rfl rfl rfl ?c1 ?c2 (Nat.le_refl _) ?_)
  case c1 => rw [hz2]; omega
  case c2 => unfold maxLen; omega
  intro w1 hown hgrow
  have hf : Filling DCache.rep 124 w.heap.size w.heap.size l.length l 0 w1 := Filling.start hown (Nat.le_refl _)
  have hb1 : Below w.heap.size w w1 := (Below.refl _ _).grown hgrow (Nat.le_refl _) (by intro k hk; cases hk)
  have HF := Lib.hid hf; clear hf hown
  have HB := Lib.hid hb1; clear hb1 hgrow
  go_wp2
  go_loopw [4] (fun i wr => ∃ k : Nat, k ≤ l.length ∧ i = .int .i64 k ∧ Filling DCache.rep 124 w.heap.size w.heap.size l.length l k wr ∧ Below w.heap.size w wr) (fun i _ => l.length - (intOf i).toNat)
  case atStart => exact ⟨0, by omega, rfl, HF.out, HB.out⟩
  case round =>
    obtain ⟨k, hk, rfl, hf, hb⟩ := hrel
    have HB := Lib.hid hb; clear hb
    have HF := Lib.hid hf; clear hf
    by_cases hlt : k < l.length
    · obtain ⟨b, off, cs, rfl, bw, hr, hcell⟩ := slice_at (HK.out.below HB.out) k hlt
      obtain ⟨fe, hrd⟩ := hr
      obtain ⟨v1, _, rfl, _, _⟩ := DCache.rd.1 hrd
      have HR : Hid (Reads DCache.rep wr _ l[k]) := ⟨_, hrd⟩
      clear hrd
      have hc0 : wr.cell? ⟨b, off + k * 2, none⟩ = some (.int .i64 l[k].version) := hcell 0 (by decide)
      have hc1 : wr.cell? ⟨b, off + k * 2 + 1, none⟩ = some (v1) := hcell 1 (by decide)
      clear hcell
      go_wp2_with fail
      refine (toCache _ _ _ HR.out (Nat.le_trans (wtS_elem DCache.wt l k hlt) HW.out)).mono ?_
      rintro e w1 ⟨ds, rfl, hfr, hb1⟩
      have HF1 := Lib.hid (Filling.step hlt rfl HF.out hb1 hfr)
      have HB1 := Lib.hid (setCells_below (Nat.le_refl _) ds (k * 2) _ (below_call HB.out HB.out.size hb1))
      obtain ⟨hcs, hfz⟩ := (HF.out.below hb1).cells hlt
      obtain ⟨fd, hrd, _⟩ := hfr
      obtain ⟨p1, q1, rfl⟩ := DCache.shape hrd
      obtain ⟨z0, hy0⟩ : ∃ u, w1.cell? ⟨w.heap.size, k * 2, none⟩ = some u := hcs 0 (by decide)
      obtain ⟨z1, hy1⟩ : ∃ u, w1.cell? ⟨w.heap.size, k * 2 + 1, none⟩ = some u := hcs 1 (by decide)
      clear hcs hb1 hrd hc0 hc1
      go_wp2
      go_light
      exact ⟨⟨k + 1, by omega, by go_num, HF1.out, HB1.out⟩, by simp [intOf]; omega⟩
    · have HW : Hid (Fresh (Rep.slice 124 DCache.rep) w.heap.size wr [.slice (some ⟨w.heap.size, 0, none⟩) l.length l.length] l) := by
        have e : k = l.length := by omega
        have hf := HF.out
        rw [e] at hf
        exact hf.done rfl
      go_wp2
      go_ret
      exact ⟨_, rfl, HW.out, HB.out⟩

set_option maxRecDepth 100000 in
set_option maxHeartbeats 800000 in
theorem eqCacheS (u v : Value) (l : List DCache) (w : World) (h : Reads (Rep.slice 124 DCache.rep) w [u] l) (h' : Reads (Rep.slice 124 DCache.rep) w [v] l) :
    Calls Try.prog 78 #[u, v] w fun e w' => e = .returned (.bool true) ∧ Below w.heap.size w w' := by
  have HK := Lib.hid h
  obtain ⟨fp, h⟩ := h
  obtain ⟨ao, c1, rfl, hm, _, hu⟩ := slice_open h
  clear hu h
  have HK' := Lib.hid h'
  obtain ⟨fp, h⟩ := h'
  obtain ⟨bo, c2, rfl, _, _, hu⟩ := slice_open h
  clear hu h
  go_enter Try.func78, Try.ntmps78
  go_wp2
  go_loopw [5] (fun i wr => ∃ k : Nat, k ≤ l.length ∧ i = .int .i64 k ∧ Below w.heap.size w wr) (fun i _ => l.length - (intOf i).toNat)
  case atStart => exact ⟨0, by omega, rfl, (by repeat (first | with_reducible exact belR | with_reducible apply belA | (with_reducible refine belS ?_ ?_; focus (first | omega | (simp; done) | (simp; omega))) | with_reducible apply belN | with_reducible apply belD | with_reducible assumption))⟩
  case round =>
    obtain ⟨k, hk, rfl, hb⟩ := hrel
    have HB := Lib.hid hb; clear hb
    by_cases hlt : k < l.length
    · obtain ⟨b, off, cs, rfl, bw, hr, hcell⟩ := slice_at (HK.out.below HB.out) k hlt
      obtain ⟨fe, hrd⟩ := hr
      obtain ⟨v1, _, rfl, _, _⟩ := DCache.rd.1 hrd
      have HR : Hid (Reads DCache.rep wr _ l[k]) := ⟨_, hrd⟩
      clear hrd
      have hc0 : wr.cell? ⟨b, off + k * 2, none⟩ = some (.int .i64 l[k].version) := hcell 0 (by decide)
      have hc1 : wr.cell? ⟨b, off + k * 2 + 1, none⟩ = some (v1) := hcell 1 (by decide)
      clear hcell
      obtain ⟨b', off', cs, rfl, b'w, hr, hcell⟩ := slice_at (HK'.out.below HB.out) k hlt
      obtain ⟨fe, hrd⟩ := hr
      obtain ⟨uv1, _, rfl, _, _⟩ := DCache.rd.1 hrd
      have HR' : Hid (Reads DCache.rep wr _ l[k]) := ⟨_, hrd⟩
      clear hrd
      have hd0 : wr.cell? ⟨b', off' + k * 2, none⟩ = some (.int .i64 l[k].version) := hcell 0 (by decide)
      have hd1 : wr.cell? ⟨b', off' + k * 2 + 1, none⟩ = some (uv1) := hcell 1 (by decide)
      clear hcell
      go_wp2_with fail
      go_still_tail 8, (by kernel_rfl)
      change wpList _ _ _ _ _ wr.drew
      go_wp2_with fail
      refine (eqCache _ _ _ _ (HR.out.below (by repeat (first | with_reducible exact belR | with_reducible apply belA | (with_reducible refine belS ?_ ?_; focus (first | omega | (simp; done) | (simp; omega))) | with_reducible apply belN | with_reducible apply belD | with_reducible assumption))) (HR'.out.below (by repeat (first | with_reducible exact belR | with_reducible apply belA | (with_reducible refine belS ?_ ?_; focus (first | omega | (simp; done) | (simp; omega))) | with_reducible apply belN | with_reducible apply belD | with_reducible assumption)))).mono ?_
      rintro e w1 ⟨rfl, hb1⟩
      have HB1 := Lib.hid (below_call (belD HB.out) (belD HB.out).size hb1); clear hb1
      go_wp2
      go_light
      exact ⟨⟨k + 1, by omega, by go_num, HB1.out⟩, by simp [intOf]; omega⟩
    · go_wp2
      go_ret
      exact ⟨rfl, HB.out⟩

def DCache.cnt (x : DCache) : Nat := 1 + wtT DCached.cnt x.entries x.entries.length
def DCache.mk3 (k : Nat) (x : DCache) : DCache := ⟨((k : Int)), marks DCached.mk3 DCached.cnt (k + 1) x.entries⟩

def DCache.mcnt (x : DCache) : Nat := wtT DCached.cnt x.entries x.entries.length
def DCache.mks (x : DCache) (k : Nat) : DCache := { x with entries := marks DCached.mk3 DCached.cnt (k) x.entries }

set_option maxRecDepth 100000 in
set_option maxHeartbeats 1600000 in
theorem markCacheS (v : Value) (l : List DCache) (fp : List Nat) (k : Nat) (w : World) (h : (Rep.slice 124 DCache.rep).rd true w [v] l fp) (hnd : fp.Nodup) (hk : k + wtT DCache.cnt l l.length ≤ 1000000000) :
    Calls Try.prog 80 #[v, .int .i64 k] w fun e w' => e = .returned (.int .i64 ((k + wtT DCache.cnt l l.length : Nat) : Int)) ∧ (Rep.slice 124 DCache.rep).rd true w' [v] (marks DCache.mk3 DCache.cnt k l) fp ∧ Chg fp w w' := by
  have HM : Hid (Marking DCache.rep 124 DCache.mk3 DCache.cnt k l v fp w 0 w) := ⟨by rw [marked_zero]; exact h, Chg.refl⟩
  obtain ⟨ao, c1, rfl, hm, _, hu⟩ := slice_open h
  clear hu h
  go_enter Try.func80, Try.ntmps80
  go_wp2
  go_loopw [1, 5] (fun a i wr => ∃ j : Nat, j ≤ l.length ∧ i = .int .i64 j ∧ a = .int .i64 ((k + wtT DCache.cnt l j : Nat) : Int) ∧ Marking DCache.rep 124 DCache.mk3 DCache.cnt k l (.slice ao l.length c1) fp w j wr) (fun _ i _ => l.length - (intOf i).toNat)
  case atStart => exact ⟨0, by omega, rfl, by simp [wtT], HM.out⟩
  case round =>
    obtain ⟨j, hj, rfl, rfl, hma⟩ := hrel
    have HM := Lib.hid hma; clear hma
    by_cases hlt : j < l.length
    · have hw1 := wtT_succ DCache.cnt l j hlt
      have hw2 := wtT_mono DCache.cnt l (j + 1) l.length hlt
      generalize hq : k + wtT DCache.cnt l j = q at *
      have hqc : q + DCache.cnt l[j] ≤ 1000000000 := by omega
      unfold DCache.cnt at hqc
      have HQ := Lib.hid hq; clear hq hw1 hw2
      have hlt' : j < (marked DCache.mk3 DCache.cnt k l j).length := by rw [marked_length]; exact hlt
      obtain ⟨g, cap, xs, cs, fe, hv, hg, hgfe, hfesub, hfend, hown, hrd, hcs, hshut⟩ := own_open HM.out.1 hnd j hlt'
      rw [marked_length] at hv hown
      simp only [Value.slice.injEq] at hv
      obtain ⟨rfl, _, rfl⟩ := hv
      have HG := Lib.hid hg; clear hg
      have HS := Lib.hid hshut; clear hshut
      have HFE := Lib.hid hfesub; clear hfesub
      have hval := marked_get DCache.mk3 DCache.cnt k l j hlt
      rw [List.getElem?_eq_getElem hlt'] at hval
      rw [Option.some.inj hval] at hrd
      clear hval
      have HO := Lib.hid hown; clear hown
      obtain ⟨v1, f1, rfl, hfe, r1⟩ := DCache.rd.1 hrd
      subst hfe
      have n0 := hfend
      have R0 := Lib.hid r1
      have HC : Hid (Chg (g :: (fe)) wr wr) := Chg.refl
      have X0 : Hid (xs[j * 2 + 1]? = some v1) := hcs 1 (by decide)
      have X9_0 : Hid (xs[j * 2 + 1]? = some v1) := Lib.hid X0.out
      clear hrd hcs r1
      obtain ⟨hcs, hfzwr⟩ := own_cells HO.out hlt
      obtain ⟨zwr_0, hzwr_0⟩ : ∃ u, wr.cell? ⟨g, j * 2, none⟩ = some u := hcs 0 (by decide)
      have hzwr_1 : wr.cell? ⟨g, j * 2 + 1, none⟩ = some v1 := (World.ownsRow.cellAt HO.out _ (own_lt hlt 1 (by decide))).trans X0.out
      clear hcs
      go_wp2_with fail
      replace HO := Lib.hid (setCells_owns [.int .i64 ((q : Int))] (j * 2) _ _ HO.out)
      replace R0 := Lib.hid (rd_sets (R := (Rep.slice 127 DCached.rep)) [.int .i64 ((q : Int))] (j * 2) R0.out (fun hx => hgfe hx))
      replace HC := Lib.hid (Chg.sets (g := g) (by simp) [.int .i64 ((q : Int))] (j * 2) _ HC.out)
      replace X0 := Lib.hid ((setL_ge [.int .i64 ((q : Int))] (j * 2) _ _ (by simp only [List.length_cons, List.length_nil]; omega)).trans X0.out)
      refine (markCachedSI _ _ fe (q + 1) _ (by omega) _ R0.out n0 (by omega)).mono ?_
      rintro e m1 ⟨rfl, rd, ch⟩
      replace HO := Lib.hid (own_chg HO.out ch (fun hx => hgfe hx))
      replace R0 := Lib.hid rd
      replace HC := Lib.hid (HC.out.trans (ch.mono fun b hb => List.mem_cons_of_mem _ hb))
      clear rd ch
      clear hfzwr hzwr_0 hzwr_1
      generalize hq2 : q + 1 + wtT DCached.cnt l[j].entries l[j].entries.length = q1 at *
      have HQq1 := Lib.hid hq2
      have hqq1 : q1 ≤ 1000000000 := by omega
      clear hq2
      have hfzm1 : True := trivial
      go_wp2
      go_light
      have hlt1 := (Rep.slice 124 DCache.rep).lt HM.out.1
      have hm' := marked_succ DCache.mk3 DCache.cnt k l j hlt
      rw [HQ.out] at hm'
      refine ⟨⟨j + 1, by omega, by go_num, ?_, ?_, ?_⟩, by simp [intOf]; omega⟩
      · rw [wtT_succ _ _ _ hlt, ← Nat.add_assoc, HQ.out]
        unfold DCache.cnt
        have yq1 := HQq1.out
        exact val_int (by omega)
      · rw [← hm']
        have yq1 := HQq1.out
        unfold DCache.mk3
        try subst yq1
        refine HS.out _ [.int .i64 ((q : Int)), v1] _ (by
          rw [marked_length]
          refine own_eq HO.out ?_
          show _ = setL xs (j * 2) _
          simp only [setL]
          try simp only [Nat.add_assoc]
          try simp only [Nat.reduceAdd]
          rw [set_noop (i := j * 2 + 1) (v := v1) (by simp; exact X9_0.out)]) (DCache.rd.2 ⟨_, _, rfl, rfl, R0.out⟩) fun b hb hbg hbf => ?_
        exact HC.out.block b (hlt1 b hb) (by rw [List.mem_cons]; exact fun hx => hx.elim hbg hbf)
      · exact HM.out.2.trans (HC.out.mono fun b hb => (List.mem_cons.1 hb).elim (fun hx => by rw [hx]; exact HG.out) (HFE.out b))
    · have e : j = l.length := by omega
      have HE := Lib.hid e; clear e
      go_wp2
      go_ret
      have hm' := HM.out
      rw [HE.out] at hm' ⊢
      rw [Marking, marked_all] at hm'
      exact ⟨rfl, hm'.1, hm'.2⟩
theorem markCacheSI (v : Value) (l : List DCache) (fp : List Nat) (k : Nat) (a : Int) (ha : a = k) (w : World) (h : (Rep.slice 124 DCache.rep).rd true w [v] l fp) (hnd : fp.Nodup) (hk : k + wtT DCache.cnt l l.length ≤ 1000000000) :
    Calls Try.prog 80 #[v, .int .i64 a] w fun e w' => e = .returned (.int .i64 ((k + wtT DCache.cnt l l.length : Nat) : Int)) ∧ (Rep.slice 124 DCache.rep).rd true w' [v] (marks DCache.mk3 DCache.cnt k l) fp ∧ Chg fp w w' := by
  subst ha; exact markCacheS v l fp k w h hnd hk

end Go.Proofs.Ytmknfobkfimggaa
