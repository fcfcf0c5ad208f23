/-
  The laws' helpers for Cached.
-/
import Derived.Test.YtmknfobkfimggaaLResponse
import Derived.Test.YtmknfobkfimggaaTCached
namespace Go.Proofs.Ytmknfobkfimggaa
open Go.RowKit

def DCached.wt (x : DCached) : Nat := x.site.size + x.path.size + x.response.wt

set_option maxHeartbeats 400000 in
theorem szCached (cs : List Value) (x : DCached) (left : Int) (w : World) (h : Reads DCached.rep w cs x) (h0 : 0 ≤ left) (h1 : left ≤ 1048576) :
    Calls Try.prog 164 #[.agg cs.toArray, .int .i64 left] w fun e w' => e = .returned (.int .i64 (szOf x.wt left)) ∧ Below w.heap.size w w' := by
  obtain ⟨fp, h⟩ := h
  obtain ⟨v1, f1, rfl, _, s0, s1, r1⟩ := DCached.rd.1 h
  have HV1 : Hid (Reads DResponse.rep w [.int .i64 x.response.type_, .int .i64 x.response.status, .int .i64 x.response.version, v1, .bool x.response.shares] x.response) := ⟨_, DResponse.rd.2 ⟨_, _, rfl, rfl, r1⟩⟩
  clear h r1
  unfold maxLen at s0 s1
  go_enter Try.func164, Try.ntmps164
  go_wp2_with fail
  · go_ret
    refine ⟨ret_int ?_, (by repeat (first | with_reducible exact belR | with_reducible apply belA | (with_reducible refine belS ?_ ?_; focus (first | omega | (simp; done) | (simp; omega))) | with_reducible apply belN | with_reducible apply belD | with_reducible assumption))⟩
    go_light
    have a0 := szOf_spec x.wt left
    unfold DCached.wt at *
    omega
  · go_ret
    refine ⟨ret_int ?_, (by repeat (first | with_reducible exact belR | with_reducible apply belA | (with_reducible refine belS ?_ ?_; focus (first | omega | (simp; done) | (simp; omega))) | with_reducible apply belN | with_reducible apply belD | with_reducible assumption))⟩
    go_light
    have a0 := szOf_spec x.wt left
    unfold DCached.wt at *
    omega
  have q1 : 0 ≤ ((left - (x.site.size : Int)) - (x.path.size : Int)) ∧ ((left - (x.site.size : Int)) - (x.path.size : Int)) ≤ 1048576 := by
    omega
  refine (szResponse _ _ _ _ (HV1.out.below (by repeat (first | with_reducible exact belR | with_reducible apply belA | (with_reducible refine belS ?_ ?_; focus (first | omega | (simp; done) | (simp; omega))) | with_reducible apply belN | with_reducible apply belD | with_reducible assumption))) q1.1 q1.2).mono ?_
  rintro e w1 ⟨rfl, hb1⟩
  obtain ⟨hc1, hfz1⟩ := bcell hb1
  have hz1 : w.heap.size < w1.heap.size := by have y := hb1.size; (try simp at y); omega
  have HB1 := Lib.hid (below_call (B := w.heap.size) (w := w) (by repeat (first | with_reducible exact belR | with_reducible apply belA | (with_reducible refine belS ?_ ?_; focus (first | omega | (simp; done) | (simp; omega))) | with_reducible apply belN | with_reducible apply belD | with_reducible assumption)) (by first | omega | (simp; done) | (simp; omega)) hb1); clear hb1
  have bl1 : -1 ≤ szOf (x.response.wt) (((left - (x.site.size : Int)) - (x.path.size : Int))) ∧ szOf (x.response.wt) (((left - (x.site.size : Int)) - (x.path.size : Int))) ≤ 1048576 := by
    have a0 := szOf_spec (x.response.wt) (((left - (x.site.size : Int)) - (x.path.size : Int)))
    omega
  obtain ⟨bl1, bu1⟩ := bl1
  go_wp2_with fail
  · go_ret
    have y0 := HB1.out
    refine ⟨ret_int ?_, (by repeat (first | with_reducible exact belR | with_reducible apply belA | (with_reducible refine belS ?_ ?_; focus (first | omega | (simp; done) | (simp; omega))) | with_reducible apply belN | with_reducible apply belD | with_reducible assumption))⟩
    go_light
    have a0 := szOf_spec x.wt left
    have a1 := szOf_spec (x.response.wt) (((left - (x.site.size : Int)) - (x.path.size : Int)))
    unfold DCached.wt at *
    omega
  · go_ret
    have y0 := HB1.out
    refine ⟨ret_int ?_, (by repeat (first | with_reducible exact belR | with_reducible apply belA | (with_reducible refine belS ?_ ?_; focus (first | omega | (simp; done) | (simp; omega))) | with_reducible apply belN | with_reducible apply belD | with_reducible assumption))⟩
    go_light
    have a0 := szOf_spec x.wt left
    have a1 := szOf_spec (x.response.wt) (((left - (x.site.size : Int)) - (x.path.size : Int)))
    unfold DCached.wt at *
    omega

set_option maxHeartbeats 800000 in
theorem toCached (cs : List Value) (x : DCached) (w : World) (h : Reads DCached.rep w cs x) (_hsmall : x.wt ≤ 1048576) :
    Calls Try.prog 165 #[.agg cs.toArray] w fun e w' => ∃ ds, e = .returned (.agg ds.toArray) ∧ Fresh DCached.rep w.heap.size w' ds x ∧ Below w.heap.size w w' := by
  obtain ⟨fp, h⟩ := h
  obtain ⟨v1, f1, rfl, _, s0, s1, r1⟩ := DCached.rd.1 h
  have HV1 : Hid (Reads DResponse.rep w [.int .i64 x.response.type_, .int .i64 x.response.status, .int .i64 x.response.version, v1, .bool x.response.shares] x.response) := ⟨_, DResponse.rd.2 ⟨_, _, rfl, rfl, r1⟩⟩
  have d1 : x.response.wt ≤ 1048576 := by unfold DCached.wt at _hsmall; omega
  clear h r1
  go_enter Try.func165, Try.ntmps165
  go_wp2_with fail
  refine (toResponse _ _ _ (HV1.out.below (by repeat (first | with_reducible exact belR | with_reducible apply belA | (with_reducible refine belS ?_ ?_; focus (first | omega | (simp; done) | (simp; omega))) | with_reducible apply belN | with_reducible apply belD | with_reducible assumption))) d1).mono ?_
  rintro e w1 ⟨t1, rfl, hf1, hb1⟩
  obtain ⟨ao1, cap1, rfl⟩ := DResponse.fshape hf1
  obtain ⟨hc1, hfz1⟩ := bcell hb1
  have hs1 : w.heap.size + 1 + 1 + 1 ≤ w1.heap.size := by have y := hb1.size; (try simp at y); omega
  have hz10 : w.heap.size < w1.heap.size := by omega
  have hz11 : w.heap.size + 1 < w1.heap.size := by omega
  have hz12 : w.heap.size + 1 + 1 < w1.heap.size := by omega
  have HF1 := Lib.hid (hf1.mono (B' := w.heap.size + 1 + 1 + 1) (by first | omega | (simp; done) | (simp; omega)))
  have HB1 := Lib.hid (below_call (B := w.heap.size) (w := w) (by repeat (first | with_reducible exact belR | with_reducible apply belA | (with_reducible refine belS ?_ ?_; focus (first | omega | (simp; done) | (simp; omega))) | with_reducible apply belN | with_reducible apply belD | with_reducible assumption)) (by first | omega | (simp; done) | (simp; omega)) hb1)
  clear hb1 hf1
  go_wp2
  refine bodyPost_ret (v := .agg #[.string x.site, .string x.path, .int .i64 x.response.type_, .int .i64 x.response.status, .int .i64 x.response.version, .slice ao1 x.response.body.length cap1, .bool x.response.shares]) (by first | (simp [results, Try.results165, go_sem]; done) | (simp [results, Try.results165, go_sem, hc1]; done)) rfl ⟨_, rfl, ?_, ?_⟩
  · exact DCached.fresh (HF1.out.part (by repeat (first | with_reducible exact abR | with_reducible apply abA | (with_reducible refine abS ?_ ?_; focus (first | omega | (simp; done) | (simp; omega))) | with_reducible apply abN | with_reducible apply abD | with_reducible assumption))) (by first | omega | (simp; done) | (simp; omega))  s0 s1
  · have y := HB1.out
    exact (by repeat (first | with_reducible exact belR | with_reducible apply belA | (with_reducible refine belS ?_ ?_; focus (first | omega | (simp; done) | (simp; omega))) | with_reducible apply belN | with_reducible apply belD | with_reducible assumption))

set_option maxHeartbeats 800000 in
theorem eqCached (cs ds : List Value) (x : DCached) (w : World) (h : Reads DCached.rep w cs x) (h' : Reads DCached.rep w ds x) :
    Calls Try.prog 167 #[.agg cs.toArray, .agg ds.toArray] w fun e w' => e = .returned (.bool true) ∧ Below w.heap.size w w' := by
  obtain ⟨fp, h0⟩ := h
  obtain ⟨vv1, vf1, rfl, _, vs0, vs1, vr1⟩ := DCached.rd.1 h0
  have HV1 : Hid (Reads DResponse.rep w [.int .i64 x.response.type_, .int .i64 x.response.status, .int .i64 x.response.version, vv1, .bool x.response.shares] x.response) := ⟨_, DResponse.rd.2 ⟨_, _, rfl, rfl, vr1⟩⟩
  clear h0 vr1
  obtain ⟨fp, h0⟩ := h'
  obtain ⟨uv1, uf1, rfl, _, us0, us1, ur1⟩ := DCached.rd.1 h0
  have HU1 : Hid (Reads DResponse.rep w [.int .i64 x.response.type_, .int .i64 x.response.status, .int .i64 x.response.version, uv1, .bool x.response.shares] x.response) := ⟨_, DResponse.rd.2 ⟨_, _, rfl, rfl, ur1⟩⟩
  clear h0 ur1
  go_enter Try.func167, Try.ntmps167
  go_wp2_with fail
  refine (eqResponse _ _ _ _ (HV1.out.below (by repeat (first | with_reducible exact belR | with_reducible apply belA | (with_reducible refine belS ?_ ?_; focus (first | omega | (simp; done) | (simp; omega))) | with_reducible apply belN | with_reducible apply belD | with_reducible assumption))) (HU1.out.below (by repeat (first | with_reducible exact belR | with_reducible apply belA | (with_reducible refine belS ?_ ?_; focus (first | omega | (simp; done) | (simp; omega))) | with_reducible apply belN | with_reducible apply belD | with_reducible assumption)))).mono ?_
  rintro e w1 ⟨rfl, hb1⟩
  obtain ⟨hc1, hfz1⟩ := bcell hb1
  have hs1 : w.heap.size + 1 + 1 ≤ w1.heap.size := by have y := hb1.size; (try simp at y); omega
  have hz10 : w.heap.size < w1.heap.size := by omega
  have hz11 : w.heap.size + 1 < w1.heap.size := by omega
  have HB1 := Lib.hid (below_call (B := w.heap.size) (w := w) (by repeat (first | with_reducible exact belR | with_reducible apply belA | (with_reducible refine belS ?_ ?_; focus (first | omega | (simp; done) | (simp; omega))) | with_reducible apply belN | with_reducible apply belD | with_reducible assumption)) (by first | omega | (simp; done) | (simp; omega)) hb1)
  clear hb1
  go_wp2
  go_ret
  have y := HB1.out
  exact ⟨rfl, (by repeat (first | with_reducible exact belR | with_reducible apply belA | (with_reducible refine belS ?_ ?_; focus (first | omega | (simp; done) | (simp; omega))) | with_reducible apply belN | with_reducible apply belD | with_reducible assumption))⟩

set_option maxHeartbeats 400000 in
theorem szCachedS (v : Value) (l : List DCached) (left : Int) (w : World) (h : Reads (Rep.slice 127 DCached.rep) w [v] l) (h0 : 0 ≤ left) (h1 : left ≤ 1048576) :
    Calls Try.prog 150 #[v, .int .i64 left] w fun e w' => e = .returned (.int .i64 (szOf (wtS DCached.wt l) left)) ∧ Below w.heap.size w w' := by
  have HK := Lib.hid h
  obtain ⟨fp, h⟩ := h
  obtain ⟨ao, c1, rfl, hm, _, hu⟩ := slice_open h
  clear hu h
  go_enter Try.func150, Try.ntmps150
  go_wp2
  · go_ret
    refine ⟨ret_int ?_, (by repeat (first | with_reducible exact belR | with_reducible apply belA | (with_reducible refine belS ?_ ?_; focus (first | omega | (simp; done) | (simp; omega))) | with_reducible apply belN | with_reducible apply belD | with_reducible assumption))⟩
    go_light
    have a0 := szOf_spec (wtS DCached.wt l) left
    have a1 := wtS_ge DCached.wt l
    omega
  · go_loopw [1, 5] (fun a i wr => ∃ k : Nat, k ≤ l.length ∧ i = .int .i64 k ∧ a = .int .i64 (left - l.length - wtT DCached.wt l k) ∧ 0 ≤ left - l.length - wtT DCached.wt l k ∧ Below w.heap.size w wr) (fun _ i _ => l.length - (intOf i).toNat)
    case atStart => exact ⟨0, by omega, rfl, by simp [wtT], by simp [wtT]; omega, (by repeat (first | with_reducible exact belR | with_reducible apply belA | (with_reducible refine belS ?_ ?_; focus (first | omega | (simp; done) | (simp; omega))) | with_reducible apply belN | with_reducible apply belD | with_reducible assumption))⟩
    case round =>
      obtain ⟨k, hk, rfl, rfl, hpos, hb⟩ := hrel
      have HB := Lib.hid hb; clear hb
      by_cases hlt : k < l.length
      · obtain ⟨b, off, cs, rfl, bw, hr, hcell⟩ := slice_at (HK.out.below HB.out) k hlt
        obtain ⟨fe, hrd⟩ := hr
        obtain ⟨v1, _, rfl, _, _, _, _⟩ := DCached.rd.1 hrd
        have HR : Hid (Reads DCached.rep wr _ l[k]) := ⟨_, hrd⟩
        clear hrd
        have hc0 : wr.cell? ⟨b, off + k * 7, none⟩ = some (.string l[k].site) := hcell 0 (by decide)
        have hc1 : wr.cell? ⟨b, off + k * 7 + 1, none⟩ = some (.string l[k].path) := hcell 1 (by decide)
        have hc2 : wr.cell? ⟨b, off + k * 7 + 2, none⟩ = some (.int .i64 l[k].response.type_) := hcell 2 (by decide)
        have hc3 : wr.cell? ⟨b, off + k * 7 + 3, none⟩ = some (.int .i64 l[k].response.status) := hcell 3 (by decide)
        have hc4 : wr.cell? ⟨b, off + k * 7 + 4, none⟩ = some (.int .i64 l[k].response.version) := hcell 4 (by decide)
        have hc5 : wr.cell? ⟨b, off + k * 7 + 5, none⟩ = some (v1) := hcell 5 (by decide)
        have hc6 : wr.cell? ⟨b, off + k * 7 + 6, none⟩ = some (.bool l[k].response.shares) := hcell 6 (by decide)
        clear hcell
        go_wp2_with fail
        refine (szCached _ _ _ _ HR.out (by omega) (by omega)).mono ?_
        rintro e w1 ⟨rfl, hb1⟩
        have HB1 := Lib.hid (below_call HB.out HB.out.size hb1); clear hb1
        go_wp2
        · go_ret
          refine ⟨ret_int ?_, HB1.out⟩
          go_light
          have a0 := szOf_spec (DCached.wt l[k]) (left - l.length - wtT DCached.wt l k)
          have a1 := szOf_spec (wtS DCached.wt l) left
          have a2 := wtT_le DCached.wt l (k + 1)
          rw [wtT_succ _ _ _ hlt] at a2
          unfold wtS at a1 ⊢
          omega
        · go_light
          have a0 := szOf_spec (DCached.wt l[k]) (left - l.length - wtT DCached.wt l k)
          have a2 := wtT_succ DCached.wt l k hlt
          have e : szOf (DCached.wt l[k]) (left - l.length - wtT DCached.wt l k) = left - l.length - wtT DCached.wt l (k + 1) := by omega
          refine ⟨⟨k + 1, by omega, by go_num, by rw [e], by omega, HB1.out⟩, by simp [intOf]; omega⟩
      · go_wp2
        go_ret
        refine ⟨ret_int ?_, HB.out⟩
        go_light
        obtain rfl : k = l.length := by omega
        have a1 := szOf_spec (wtS DCached.wt l) left
        have a2 := wtT_all DCached.wt l
        unfold wtS at a1 ⊢
        omega

theorem infoCached : (Try.prog.info? 127).map (fun i => (i.zero, i.size, i.bytes)) = some (some (.agg #[.string ⟨#[]⟩, .string ⟨#[]⟩, .int .i64 0, .int .i64 0, .int .i64 0, .slice none 0 0, .bool false]), 7, 88) := by kernel_rfl

set_option maxRecDepth 100000 in
set_option maxHeartbeats 800000 in
theorem toCachedS (u : Value) (l : List DCached) (w : World) (hu : Reads (Rep.slice 127 DCached.rep) w [u] l) (hsmall : wtS DCached.wt l ≤ 1048576) :
    Calls Try.prog 151 #[u] w fun e w' => ∃ v, e = .returned v ∧ Fresh (Rep.slice 127 DCached.rep) w.heap.size w' [v] l ∧ Below w.heap.size w w' := by
  have HK := Lib.hid hu
  obtain ⟨fp, hu⟩ := hu
  obtain ⟨ao, c1, rfl, hm, _, hu⟩ := slice_open hu
  clear hu
  have hlen := wtS_ge DCached.wt l
  have HW := Lib.hid hsmall
  obtain ⟨i0, hi, hz0, hz1, hz2⟩ := info_parts infoCached
  go_enter Try.func151, Try.ntmps151
  go_wp2_with (at_make; refine wpList_make_full _ rfl _ _ 122 rfl w.heap.size 127 i0 _ 7 Try.underlying122 hi hz0 hz1 _ _ _ _ l.length rfl rfl rfl rfl ?c1 ?c2 (Nat.le_refl _) ?_)
  case c1 => rw [hz2]; omega
  case c2 => unfold maxLen; omega
  intro w1 hown hgrow
  have hf : Filling DCached.rep 127 w.heap.size w.heap.size l.length l 0 w1 := Filling.start hown (Nat.le_refl _)
  have hb1 : Below w.heap.size w w1 := (Below.refl _ _).grown hgrow (Nat.le_refl _) (by intro k hk; cases hk)
  have HF := Lib.hid hf; clear hf hown
  have HB := Lib.hid hb1; clear hb1 hgrow
  go_wp2
  go_loopw [4] (fun i wr => ∃ k : Nat, k ≤ l.length ∧ i = .int .i64 k ∧ Filling DCached.rep 127 w.heap.size w.heap.size l.length l k wr ∧ Below w.heap.size w wr) (fun i _ => l.length - (intOf i).toNat)
  case atStart => exact ⟨0, by omega, rfl, HF.out, HB.out⟩
  case round =>
    obtain ⟨k, hk, rfl, hf, hb⟩ := hrel
    have HB := Lib.hid hb; clear hb
    have HF := Lib.hid hf; clear hf
    by_cases hlt : k < l.length
    · obtain ⟨b, off, cs, rfl, bw, hr, hcell⟩ := slice_at (HK.out.below HB.out) k hlt
      obtain ⟨fe, hrd⟩ := hr
      obtain ⟨v1, _, rfl, _, _, _, _⟩ := DCached.rd.1 hrd
      have HR : Hid (Reads DCached.rep wr _ l[k]) := ⟨_, hrd⟩
      clear hrd
      have hc0 : wr.cell? ⟨b, off + k * 7, none⟩ = some (.string l[k].site) := hcell 0 (by decide)
      have hc1 : wr.cell? ⟨b, off + k * 7 + 1, none⟩ = some (.string l[k].path) := hcell 1 (by decide)
      have hc2 : wr.cell? ⟨b, off + k * 7 + 2, none⟩ = some (.int .i64 l[k].response.type_) := hcell 2 (by decide)
      have hc3 : wr.cell? ⟨b, off + k * 7 + 3, none⟩ = some (.int .i64 l[k].response.status) := hcell 3 (by decide)
      have hc4 : wr.cell? ⟨b, off + k * 7 + 4, none⟩ = some (.int .i64 l[k].response.version) := hcell 4 (by decide)
      have hc5 : wr.cell? ⟨b, off + k * 7 + 5, none⟩ = some (v1) := hcell 5 (by decide)
      have hc6 : wr.cell? ⟨b, off + k * 7 + 6, none⟩ = some (.bool l[k].response.shares) := hcell 6 (by decide)
      clear hcell
      go_wp2_with fail
      refine (toCached _ _ _ HR.out (Nat.le_trans (wtS_elem DCached.wt l k hlt) HW.out)).mono ?_
      rintro e w1 ⟨ds, rfl, hfr, hb1⟩
      have HF1 := Lib.hid (Filling.step hlt rfl HF.out hb1 hfr)
      have HB1 := Lib.hid (setCells_below (Nat.le_refl _) ds (k * 7) _ (below_call HB.out HB.out.size hb1))
      obtain ⟨hcs, hfz⟩ := (HF.out.below hb1).cells hlt
      obtain ⟨fd, hrd, _⟩ := hfr
      obtain ⟨p1, q1, rfl⟩ := DCached.shape hrd
      obtain ⟨z0, hy0⟩ : ∃ u, w1.cell? ⟨w.heap.size, k * 7, none⟩ = some u := hcs 0 (by decide)
      obtain ⟨z1, hy1⟩ : ∃ u, w1.cell? ⟨w.heap.size, k * 7 + 1, none⟩ = some u := hcs 1 (by decide)
      obtain ⟨z2, hy2⟩ : ∃ u, w1.cell? ⟨w.heap.size, k * 7 + 2, none⟩ = some u := hcs 2 (by decide)
      obtain ⟨z3, hy3⟩ : ∃ u, w1.cell? ⟨w.heap.size, k * 7 + 3, none⟩ = some u := hcs 3 (by decide)
      obtain ⟨z4, hy4⟩ : ∃ u, w1.cell? ⟨w.heap.size, k * 7 + 4, none⟩ = some u := hcs 4 (by decide)
      obtain ⟨z5, hy5⟩ : ∃ u, w1.cell? ⟨w.heap.size, k * 7 + 5, none⟩ = some u := hcs 5 (by decide)
      obtain ⟨z6, hy6⟩ : ∃ u, w1.cell? ⟨w.heap.size, k * 7 + 6, none⟩ = some u := hcs 6 (by decide)
      clear hcs hb1 hrd hc0 hc1 hc2 hc3 hc4 hc5 hc6
      go_wp2
      go_light
      exact ⟨⟨k + 1, by omega, by go_num, HF1.out, HB1.out⟩, by simp [intOf]; omega⟩
    · have HW : Hid (Fresh (Rep.slice 127 DCached.rep) w.heap.size wr [.slice (some ⟨w.heap.size, 0, none⟩) l.length l.length] l) := by
        have e : k = l.length := by omega
        have hf := HF.out
        rw [e] at hf
        exact hf.done rfl
      go_wp2
      go_ret
      exact ⟨_, rfl, HW.out, HB.out⟩

set_option maxRecDepth 100000 in
set_option maxHeartbeats 800000 in
theorem eqCachedS (u v : Value) (l : List DCached) (w : World) (h : Reads (Rep.slice 127 DCached.rep) w [u] l) (h' : Reads (Rep.slice 127 DCached.rep) w [v] l) :
    Calls Try.prog 157 #[u, v] w fun e w' => e = .returned (.bool true) ∧ Below w.heap.size w w' := by
  have HK := Lib.hid h
  obtain ⟨fp, h⟩ := h
  obtain ⟨ao, c1, rfl, hm, _, hu⟩ := slice_open h
  clear hu h
  have HK' := Lib.hid h'
  obtain ⟨fp, h⟩ := h'
  obtain ⟨bo, c2, rfl, _, _, hu⟩ := slice_open h
  clear hu h
  go_enter Try.func157, Try.ntmps157
  go_wp2
  go_loopw [5] (fun i wr => ∃ k : Nat, k ≤ l.length ∧ i = .int .i64 k ∧ Below w.heap.size w wr) (fun i _ => l.length - (intOf i).toNat)
  case atStart => exact ⟨0, by omega, rfl, (by repeat (first | with_reducible exact belR | with_reducible apply belA | (with_reducible refine belS ?_ ?_; focus (first | omega | (simp; done) | (simp; omega))) | with_reducible apply belN | with_reducible apply belD | with_reducible assumption))⟩
  case round =>
    obtain ⟨k, hk, rfl, hb⟩ := hrel
    have HB := Lib.hid hb; clear hb
    by_cases hlt : k < l.length
    · obtain ⟨b, off, cs, rfl, bw, hr, hcell⟩ := slice_at (HK.out.below HB.out) k hlt
      obtain ⟨fe, hrd⟩ := hr
      obtain ⟨v1, _, rfl, _, _, _, _⟩ := DCached.rd.1 hrd
      have HR : Hid (Reads DCached.rep wr _ l[k]) := ⟨_, hrd⟩
      clear hrd
      have hc0 : wr.cell? ⟨b, off + k * 7, none⟩ = some (.string l[k].site) := hcell 0 (by decide)
      have hc1 : wr.cell? ⟨b, off + k * 7 + 1, none⟩ = some (.string l[k].path) := hcell 1 (by decide)
      have hc2 : wr.cell? ⟨b, off + k * 7 + 2, none⟩ = some (.int .i64 l[k].response.type_) := hcell 2 (by decide)
      have hc3 : wr.cell? ⟨b, off + k * 7 + 3, none⟩ = some (.int .i64 l[k].response.status) := hcell 3 (by decide)
      have hc4 : wr.cell? ⟨b, off + k * 7 + 4, none⟩ = some (.int .i64 l[k].response.version) := hcell 4 (by decide)
      have hc5 : wr.cell? ⟨b, off + k * 7 + 5, none⟩ = some (v1) := hcell 5 (by decide)
      have hc6 : wr.cell? ⟨b, off + k * 7 + 6, none⟩ = some (.bool l[k].response.shares) := hcell 6 (by decide)
      clear hcell
      obtain ⟨b', off', cs, rfl, b'w, hr, hcell⟩ := slice_at (HK'.out.below HB.out) k hlt
      obtain ⟨fe, hrd⟩ := hr
      obtain ⟨uv1, _, rfl, _, _, _, _⟩ := DCached.rd.1 hrd
      have HR' : Hid (Reads DCached.rep wr _ l[k]) := ⟨_, hrd⟩
      clear hrd
      have hd0 : wr.cell? ⟨b', off' + k * 7, none⟩ = some (.string l[k].site) := hcell 0 (by decide)
      have hd1 : wr.cell? ⟨b', off' + k * 7 + 1, none⟩ = some (.string l[k].path) := hcell 1 (by decide)
      have hd2 : wr.cell? ⟨b', off' + k * 7 + 2, none⟩ = some (.int .i64 l[k].response.type_) := hcell 2 (by decide)
      have hd3 : wr.cell? ⟨b', off' + k * 7 + 3, none⟩ = some (.int .i64 l[k].response.status) := hcell 3 (by decide)
      have hd4 : wr.cell? ⟨b', off' + k * 7 + 4, none⟩ = some (.int .i64 l[k].response.version) := hcell 4 (by decide)
      have hd5 : wr.cell? ⟨b', off' + k * 7 + 5, none⟩ = some (uv1) := hcell 5 (by decide)
      have hd6 : wr.cell? ⟨b', off' + k * 7 + 6, none⟩ = some (.bool l[k].response.shares) := hcell 6 (by decide)
      clear hcell
      go_wp2_with fail
      go_still_tail 8, (by kernel_rfl)
      change wpList _ _ _ _ _ wr.drew
      go_wp2_with fail
      refine (eqCached _ _ _ _ (HR.out.below (by repeat (first | with_reducible exact belR | with_reducible apply belA | (with_reducible refine belS ?_ ?_; focus (first | omega | (simp; done) | (simp; omega))) | with_reducible apply belN | with_reducible apply belD | with_reducible assumption))) (HR'.out.below (by repeat (first | with_reducible exact belR | with_reducible apply belA | (with_reducible refine belS ?_ ?_; focus (first | omega | (simp; done) | (simp; omega))) | with_reducible apply belN | with_reducible apply belD | with_reducible assumption)))).mono ?_
      rintro e w1 ⟨rfl, hb1⟩
      have HB1 := Lib.hid (below_call (belD HB.out) (belD HB.out).size hb1); clear hb1
      go_wp2
      go_light
      exact ⟨⟨k + 1, by omega, by go_num, HB1.out⟩, by simp [intOf]; omega⟩
    · go_wp2
      go_ret
      exact ⟨rfl, HB.out⟩

def DCached.cnt (x : DCached) : Nat := 6 + wtT cnt1 x.response.body x.response.body.length
def DCached.mk3 (k : Nat) (x : DCached) : DCached := ⟨markT (k), markT (k + 1), ⟨((k : Int) + 1 + 1), ((k : Int) + 1 + 1 + 1), ((k : Int) + 1 + 1 + 1 + 1), marks mkByte cnt1 (k + 5) x.response.body, ((((k + 5 + wtT cnt1 x.response.body x.response.body.length : Nat) : Int)) % 3 == 0)⟩⟩

def DCached.mcnt (x : DCached) : Nat := x.response.mcnt
def DCached.mks (x : DCached) (k : Nat) : DCached := { x with response := x.response.mks (k) }

set_option maxRecDepth 100000 in
set_option maxHeartbeats 1600000 in
theorem markCachedS (v : Value) (l : List DCached) (fp : List Nat) (k : Nat) (w : World) (h : (Rep.slice 127 DCached.rep).rd true w [v] l fp) (hnd : fp.Nodup) (hk : k + wtT DCached.cnt l l.length ≤ 1000000000) :
    Calls Try.prog 130 #[v, .int .i64 k] w fun e w' => e = .returned (.int .i64 ((k + wtT DCached.cnt l l.length : Nat) : Int)) ∧ (Rep.slice 127 DCached.rep).rd true w' [v] (marks DCached.mk3 DCached.cnt k l) fp ∧ Chg fp w w' := by
  have HM : Hid (Marking DCached.rep 127 DCached.mk3 DCached.cnt k l v fp w 0 w) := ⟨by rw [marked_zero]; exact h, Chg.refl⟩
  obtain ⟨ao, c1, rfl, hm, _, hu⟩ := slice_open h
  clear hu h
  go_enter Try.func130, Try.ntmps130
  go_wp2
  go_loopw [1, 5] (fun a i wr => ∃ j : Nat, j ≤ l.length ∧ i = .int .i64 j ∧ a = .int .i64 ((k + wtT DCached.cnt l j : Nat) : Int) ∧ Marking DCached.rep 127 DCached.mk3 DCached.cnt k l (.slice ao l.length c1) fp w j wr) (fun _ i _ => l.length - (intOf i).toNat)
  case atStart => exact ⟨0, by omega, rfl, by simp [wtT], HM.out⟩
  case round =>
    obtain ⟨j, hj, rfl, rfl, hma⟩ := hrel
    have HM := Lib.hid hma; clear hma
    by_cases hlt : j < l.length
    · have hw1 := wtT_succ DCached.cnt l j hlt
      have hw2 := wtT_mono DCached.cnt l (j + 1) l.length hlt
      generalize hq : k + wtT DCached.cnt l j = q at *
      have hqc : q + DCached.cnt l[j] ≤ 1000000000 := by omega
      unfold DCached.cnt at hqc
      have HQ := Lib.hid hq; clear hq hw1 hw2
      have hlt' : j < (marked DCached.mk3 DCached.cnt k l j).length := by rw [marked_length]; exact hlt
      obtain ⟨g, cap, xs, cs, fe, hv, hg, hgfe, hfesub, hfend, hown, hrd, hcs, hshut⟩ := own_open HM.out.1 hnd j hlt'
      rw [marked_length] at hv hown
      simp only [Value.slice.injEq] at hv
      obtain ⟨rfl, _, rfl⟩ := hv
      have HG := Lib.hid hg; clear hg
      have HS := Lib.hid hshut; clear hshut
      have HFE := Lib.hid hfesub; clear hfesub
      have hval := marked_get DCached.mk3 DCached.cnt k l j hlt
      rw [List.getElem?_eq_getElem hlt'] at hval
      rw [Option.some.inj hval] at hrd
      clear hval
      have HO := Lib.hid hown; clear hown
      obtain ⟨v1, f1, rfl, hfe, _, _, r1⟩ := DCached.rd.1 hrd
      subst hfe
      have n0 := hfend
      have R0 := Lib.hid r1
      have HC : Hid (Chg (g :: (fe)) wr wr) := Chg.refl
      have X0 : Hid (xs[j * 7 + 5]? = some v1) := hcs 5 (by decide)
      have X9_0 : Hid (xs[j * 7 + 5]? = some v1) := Lib.hid X0.out
      clear hrd hcs r1
      obtain ⟨hcs, hfzwr⟩ := own_cells HO.out hlt
      obtain ⟨zwr_0, hzwr_0⟩ : ∃ u, wr.cell? ⟨g, j * 7, none⟩ = some u := hcs 0 (by decide)
      obtain ⟨zwr_1, hzwr_1⟩ : ∃ u, wr.cell? ⟨g, j * 7 + 1, none⟩ = some u := hcs 1 (by decide)
      obtain ⟨zwr_2, hzwr_2⟩ : ∃ u, wr.cell? ⟨g, j * 7 + 2, none⟩ = some u := hcs 2 (by decide)
      obtain ⟨zwr_3, hzwr_3⟩ : ∃ u, wr.cell? ⟨g, j * 7 + 3, none⟩ = some u := hcs 3 (by decide)
      obtain ⟨zwr_4, hzwr_4⟩ : ∃ u, wr.cell? ⟨g, j * 7 + 4, none⟩ = some u := hcs 4 (by decide)
      have hzwr_5 : wr.cell? ⟨g, j * 7 + 5, none⟩ = some v1 := (World.ownsRow.cellAt HO.out _ (own_lt hlt 5 (by decide))).trans X0.out
      obtain ⟨zwr_6, hzwr_6⟩ : ∃ u, wr.cell? ⟨g, j * 7 + 6, none⟩ = some u := hcs 6 (by decide)
      clear hcs
      go_wp2_with fail
      refine (markTextI q _ (by omega) (by omega) _).mono ?_
      rintro e m1 ⟨rfl, hb⟩
      replace HO := Lib.hid (own_below HO.out hb (Nat.le_refl _))
      replace R0 := Lib.hid (rd_below hb R0.out)
      replace HC := Lib.hid (HC.out.trans (Chg.of_below hb (Nat.le_refl _)))
      clear hb
      clear hfzwr hzwr_0 hzwr_1 hzwr_2 hzwr_3 hzwr_4 hzwr_5 hzwr_6
      obtain ⟨hcs, hfzm1⟩ := own_cells HO.out hlt
      obtain ⟨zm1_0, hzm1_0⟩ : ∃ u, m1.cell? ⟨g, j * 7, none⟩ = some u := hcs 0 (by decide)
      obtain ⟨zm1_1, hzm1_1⟩ : ∃ u, m1.cell? ⟨g, j * 7 + 1, none⟩ = some u := hcs 1 (by decide)
      obtain ⟨zm1_2, hzm1_2⟩ : ∃ u, m1.cell? ⟨g, j * 7 + 2, none⟩ = some u := hcs 2 (by decide)
      obtain ⟨zm1_3, hzm1_3⟩ : ∃ u, m1.cell? ⟨g, j * 7 + 3, none⟩ = some u := hcs 3 (by decide)
      obtain ⟨zm1_4, hzm1_4⟩ : ∃ u, m1.cell? ⟨g, j * 7 + 4, none⟩ = some u := hcs 4 (by decide)
      have hzm1_5 : m1.cell? ⟨g, j * 7 + 5, none⟩ = some v1 := (World.ownsRow.cellAt HO.out _ (own_lt hlt 5 (by decide))).trans X0.out
      obtain ⟨zm1_6, hzm1_6⟩ : ∃ u, m1.cell? ⟨g, j * 7 + 6, none⟩ = some u := hcs 6 (by decide)
      clear hcs
      go_wp2_with fail
      replace HO := Lib.hid (setCells_owns [.string (markT q)] (j * 7) _ _ HO.out)
      replace R0 := Lib.hid (rd_sets (R := (Rep.slice 5 Rep.byte)) [.string (markT q)] (j * 7) R0.out (fun hx => hgfe hx))
      replace HC := Lib.hid (Chg.sets (g := g) (by simp) [.string (markT q)] (j * 7) _ HC.out)
      replace X0 := Lib.hid ((setL_ge [.string (markT q)] (j * 7) _ _ (by simp only [List.length_cons, List.length_nil]; omega)).trans X0.out)
      refine (markTextI (q + 1) _ (by omega) (by omega) _).mono ?_
      rintro e m2 ⟨rfl, hb⟩
      replace HO := Lib.hid (own_below HO.out hb (Nat.le_refl _))
      replace R0 := Lib.hid (rd_below hb R0.out)
      replace HC := Lib.hid (HC.out.trans (Chg.of_below hb (Nat.le_refl _)))
      clear hb
      clear hfzm1 hzm1_0 hzm1_1 hzm1_2 hzm1_3 hzm1_4 hzm1_5 hzm1_6
      obtain ⟨hcs, hfzm2⟩ := own_cells HO.out hlt
      obtain ⟨zm2_1, hzm2_1⟩ : ∃ u, m2.cell? ⟨g, j * 7 + 1, none⟩ = some u := hcs 1 (by decide)
      obtain ⟨zm2_2, hzm2_2⟩ : ∃ u, m2.cell? ⟨g, j * 7 + 2, none⟩ = some u := hcs 2 (by decide)
      obtain ⟨zm2_3, hzm2_3⟩ : ∃ u, m2.cell? ⟨g, j * 7 + 3, none⟩ = some u := hcs 3 (by decide)
      obtain ⟨zm2_4, hzm2_4⟩ : ∃ u, m2.cell? ⟨g, j * 7 + 4, none⟩ = some u := hcs 4 (by decide)
      have hzm2_5 : m2.cell? ⟨g, j * 7 + 5, none⟩ = some v1 := (World.ownsRow.cellAt HO.out _ (own_lt hlt 5 (by decide))).trans X0.out
      obtain ⟨zm2_6, hzm2_6⟩ : ∃ u, m2.cell? ⟨g, j * 7 + 6, none⟩ = some u := hcs 6 (by decide)
      clear hcs
      go_wp2_with fail
      replace HO := Lib.hid (setCells_owns [.string (markT (q + 1)), .int .i64 ((q : Int) + 1 + 1), .int .i64 ((q : Int) + 1 + 1 + 1), .int .i64 ((q : Int) + 1 + 1 + 1 + 1)] (j * 7 + 1) _ _ HO.out)
      replace R0 := Lib.hid (rd_sets (R := (Rep.slice 5 Rep.byte)) [.string (markT (q + 1)), .int .i64 ((q : Int) + 1 + 1), .int .i64 ((q : Int) + 1 + 1 + 1), .int .i64 ((q : Int) + 1 + 1 + 1 + 1)] (j * 7 + 1) R0.out (fun hx => hgfe hx))
      replace HC := Lib.hid (Chg.sets (g := g) (by simp) [.string (markT (q + 1)), .int .i64 ((q : Int) + 1 + 1), .int .i64 ((q : Int) + 1 + 1 + 1), .int .i64 ((q : Int) + 1 + 1 + 1 + 1)] (j * 7 + 1) _ HC.out)
      replace X0 := Lib.hid ((setL_ge [.string (markT (q + 1)), .int .i64 ((q : Int) + 1 + 1), .int .i64 ((q : Int) + 1 + 1 + 1), .int .i64 ((q : Int) + 1 + 1 + 1 + 1)] (j * 7 + 1) _ _ (by simp only [List.length_cons, List.length_nil]; omega)).trans X0.out)
      refine (markByteSI _ _ fe (q + 5) _ (by omega) _ R0.out n0 (by omega)).mono ?_
      rintro e m3 ⟨rfl, rd, ch⟩
      replace HO := Lib.hid (own_chg HO.out ch (fun hx => hgfe hx))
      replace R0 := Lib.hid rd
      replace HC := Lib.hid (HC.out.trans (ch.mono fun b hb => List.mem_cons_of_mem _ hb))
      clear rd ch
      clear hfzm2 hzm2_1 hzm2_2 hzm2_3 hzm2_4 hzm2_5 hzm2_6
      generalize hq2 : q + 5 + wtT cnt1 l[j].response.body l[j].response.body.length = q3 at *
      have HQq3 := Lib.hid hq2
      have hqq3 : q3 ≤ 1000000000 := by omega
      clear hq2
      obtain ⟨hcs, hfzm3⟩ := own_cells HO.out hlt
      obtain ⟨zm3_6, hzm3_6⟩ : ∃ u, m3.cell? ⟨g, j * 7 + 6, none⟩ = some u := hcs 6 (by decide)
      clear hcs
      go_wp2
      replace HO := Lib.hid (setCells_owns [.bool (((q3 : Int)) % 3 == 0)] (j * 7 + 6) _ _ HO.out)
      replace R0 := Lib.hid (rd_sets (R := (Rep.slice 5 Rep.byte)) [.bool (((q3 : Int)) % 3 == 0)] (j * 7 + 6) R0.out (fun hx => hgfe hx))
      replace HC := Lib.hid (Chg.sets (g := g) (by simp) [.bool (((q3 : Int)) % 3 == 0)] (j * 7 + 6) _ HC.out)
      go_light
      have hlt1 := (Rep.slice 127 DCached.rep).lt HM.out.1
      have hm' := marked_succ DCached.mk3 DCached.cnt k l j hlt
      rw [HQ.out] at hm'
      refine ⟨⟨j + 1, by omega, by go_num, ?_, ?_, ?_⟩, by simp [intOf]; omega⟩
      · rw [wtT_succ _ _ _ hlt, ← Nat.add_assoc, HQ.out]
        unfold DCached.cnt
        have yq3 := HQq3.out
        exact val_int (by omega)
      · rw [← hm']
        have yq3 := HQq3.out
        unfold DCached.mk3
        try rw [yq3]
        refine HS.out _ [.string (markT q), .string (markT (q + 1)), .int .i64 ((q : Int) + 1 + 1), .int .i64 ((q : Int) + 1 + 1 + 1), .int .i64 ((q : Int) + 1 + 1 + 1 + 1), v1, .bool (((q3 : Int)) % 3 == 0)] _ (by
          rw [marked_length]
          refine own_eq HO.out ?_
          show _ = setL xs (j * 7) _
          simp only [setL]
          try simp only [Nat.add_assoc]
          try simp only [Nat.reduceAdd]
          rw [set_noop (i := j * 7 + 5) (v := v1) (by simp; exact X9_0.out)]) (DCached.rd.2 ⟨_, _, rfl, rfl, (by first | exact markT_le _ | (dsimp only; exact markT_le _) | (unfold DCached.mk3; dsimp only; exact markT_le _)), (by first | exact markT_le _ | (dsimp only; exact markT_le _) | (unfold DCached.mk3; dsimp only; exact markT_le _)), R0.out⟩) fun b hb hbg hbf => ?_
        exact HC.out.block b (hlt1 b hb) (by rw [List.mem_cons]; exact fun hx => hx.elim hbg hbf)
      · exact HM.out.2.trans (HC.out.mono fun b hb => (List.mem_cons.1 hb).elim (fun hx => by rw [hx]; exact HG.out) (HFE.out b))
    · have e : j = l.length := by omega
      have HE := Lib.hid e; clear e
      go_wp2
      go_ret
      have hm' := HM.out
      rw [HE.out] at hm' ⊢
      rw [Marking, marked_all] at hm'
      exact ⟨rfl, hm'.1, hm'.2⟩
theorem markCachedSI (v : Value) (l : List DCached) (fp : List Nat) (k : Nat) (a : Int) (ha : a = k) (w : World) (h : (Rep.slice 127 DCached.rep).rd true w [v] l fp) (hnd : fp.Nodup) (hk : k + wtT DCached.cnt l l.length ≤ 1000000000) :
    Calls Try.prog 130 #[v, .int .i64 a] w fun e w' => e = .returned (.int .i64 ((k + wtT DCached.cnt l l.length : Nat) : Int)) ∧ (Rep.slice 127 DCached.rep).rd true w' [v] (marks DCached.mk3 DCached.cnt k l) fp ∧ Chg fp w w' := by
  subst ha; exact markCachedS v l fp k w h hnd hk

end Go.Proofs.Ytmknfobkfimggaa
