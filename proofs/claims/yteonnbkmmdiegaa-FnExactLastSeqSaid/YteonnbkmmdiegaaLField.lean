/-
  The laws' helpers for Field.
-/
import Derived.Test.YteonnbkmmdiegaaMarkSl
import Derived.Test.YteonnbkmmdiegaaTField
namespace Go.Proofs.Yteonnbkmmdiegaa
open Go.RowKit

def DField.wt (x : DField) : Nat := x.name.size

set_option maxHeartbeats 400000 in
theorem szField (cs : List Value) (x : DField) (left : Int) (w : World) (h : Reads DField.rep w cs x) (h0 : 0 ≤ left) (h1 : left ≤ 1048576) :
    Calls Try.prog 117 #[.agg cs.toArray, .int .i64 left] w fun e w' => e = .returned (.int .i64 (szOf x.wt left)) ∧ Below w.heap.size w w' := by
  obtain ⟨fp, h⟩ := h
  obtain ⟨rfl, _, s0⟩ := DField.rd.1 h
  clear h
  unfold maxLen at s0
  go_enter Try.func117, Try.ntmps117
  go_wp2_with fail
  · go_ret
    refine ⟨ret_int ?_, (by repeat (first | with_reducible exact belR | with_reducible apply belA | (with_reducible refine belS ?_ ?_; focus (first | omega | (simp; done) | (simp; omega))) | with_reducible apply belN | with_reducible apply belD | with_reducible assumption))⟩
    go_light
    have a0 := szOf_spec x.wt left
    unfold DField.wt at *
    omega
  · go_ret
    refine ⟨ret_int ?_, (by repeat (first | with_reducible exact belR | with_reducible apply belA | (with_reducible refine belS ?_ ?_; focus (first | omega | (simp; done) | (simp; omega))) | with_reducible apply belN | with_reducible apply belD | with_reducible assumption))⟩
    go_light
    have a0 := szOf_spec x.wt left
    unfold DField.wt at *
    omega

set_option maxHeartbeats 800000 in
theorem toField (cs : List Value) (x : DField) (w : World) (h : Reads DField.rep w cs x) (_hsmall : x.wt ≤ 1048576) :
    Calls Try.prog 118 #[.agg cs.toArray] w fun e w' => ∃ ds, e = .returned (.agg ds.toArray) ∧ Fresh DField.rep w.heap.size w' ds x ∧ Below w.heap.size w w' := by
  obtain ⟨fp, h⟩ := h
  obtain ⟨rfl, _, s0⟩ := DField.rd.1 h
  clear h 
  go_enter Try.func118, Try.ntmps118
  go_wp2
  refine bodyPost_ret (v := .agg #[.string x.name, .int .i64 x.n]) (by first | (simp [results, Try.results118, go_sem]; done)) rfl ⟨_, rfl, ?_, ?_⟩
  · exact ⟨[], DField.rd.2 ⟨rfl, rfl, s0⟩, by simp, by simp⟩
  · exact (by repeat (first | with_reducible exact belR | with_reducible apply belA | (with_reducible refine belS ?_ ?_; focus (first | omega | (simp; done) | (simp; omega))) | with_reducible apply belN | with_reducible apply belD | with_reducible assumption))

set_option maxHeartbeats 800000 in
theorem eqField (cs ds : List Value) (x : DField) (w : World) (h : Reads DField.rep w cs x) (h' : Reads DField.rep w ds x) :
    Calls Try.prog 119 #[.agg cs.toArray, .agg ds.toArray] w fun e w' => e = .returned (.bool true) ∧ Below w.heap.size w w' := by
  obtain ⟨fp, h0⟩ := h
  obtain ⟨rfl, _, vs0⟩ := DField.rd.1 h0
  clear h0 
  obtain ⟨fp, h0⟩ := h'
  obtain ⟨rfl, _, us0⟩ := DField.rd.1 h0
  clear h0 
  go_enter Try.func119, Try.ntmps119
  go_wp2
  go_ret
  exact ⟨rfl, (by repeat (first | with_reducible exact belR | with_reducible apply belA | (with_reducible refine belS ?_ ?_; focus (first | omega | (simp; done) | (simp; omega))) | with_reducible apply belN | with_reducible apply belD | with_reducible assumption))⟩

set_option maxHeartbeats 400000 in
theorem szFieldS (v : Value) (l : List DField) (left : Int) (w : World) (h : Reads (Rep.slice 123 DField.rep) w [v] l) (h0 : 0 ≤ left) (h1 : left ≤ 1048576) :
    Calls Try.prog 113 #[v, .int .i64 left] w fun e w' => e = .returned (.int .i64 (szOf (wtS DField.wt l) left)) ∧ Below w.heap.size w w' := by
  have HK := Lib.hid h
  obtain ⟨fp, h⟩ := h
  obtain ⟨ao, c1, rfl, hm, _, hu⟩ := slice_open h
  clear hu h
  go_enter Try.func113, Try.ntmps113
  go_wp2
  · go_ret
    refine ⟨ret_int ?_, (by repeat (first | with_reducible exact belR | with_reducible apply belA | (with_reducible refine belS ?_ ?_; focus (first | omega | (simp; done) | (simp; omega))) | with_reducible apply belN | with_reducible apply belD | with_reducible assumption))⟩
    go_light
    have a0 := szOf_spec (wtS DField.wt l) left
    have a1 := wtS_ge DField.wt l
    omega
  · go_loopw [1, 5] (fun a i wr => ∃ k : Nat, k ≤ l.length ∧ i = .int .i64 k ∧ a = .int .i64 (left - l.length - wtT DField.wt l k) ∧ 0 ≤ left - l.length - wtT DField.wt l k ∧ Below w.heap.size w wr) (fun _ i _ => l.length - (intOf i).toNat)
    case atStart => exact ⟨0, by omega, rfl, by simp [wtT], by simp [wtT]; omega, (by repeat (first | with_reducible exact belR | with_reducible apply belA | (with_reducible refine belS ?_ ?_; focus (first | omega | (simp; done) | (simp; omega))) | with_reducible apply belN | with_reducible apply belD | with_reducible assumption))⟩
    case round =>
      obtain ⟨k, hk, rfl, rfl, hpos, hb⟩ := hrel
      have HB := Lib.hid hb; clear hb
      by_cases hlt : k < l.length
      · obtain ⟨b, off, cs, rfl, bw, hr, hcell⟩ := slice_at (HK.out.below HB.out) k hlt
        obtain ⟨fe, hrd⟩ := hr
        obtain ⟨rfl, _, _⟩ := DField.rd.1 hrd
        have HR : Hid (Reads DField.rep wr _ l[k]) := ⟨_, hrd⟩
        clear hrd
        have hc0 : wr.cell? ⟨b, off + k * 2, none⟩ = some (.string l[k].name) := hcell 0 (by decide)
        have hc1 : wr.cell? ⟨b, off + k * 2 + 1, none⟩ = some (.int .i64 l[k].n) := hcell 1 (by decide)
        clear hcell
        go_wp2_with fail
        refine (szField _ _ _ _ HR.out (by omega) (by omega)).mono ?_
        rintro e w1 ⟨rfl, hb1⟩
        have HB1 := Lib.hid (below_call HB.out HB.out.size hb1); clear hb1
        go_wp2
        · go_ret
          refine ⟨ret_int ?_, HB1.out⟩
          go_light
          have a0 := szOf_spec (DField.wt l[k]) (left - l.length - wtT DField.wt l k)
          have a1 := szOf_spec (wtS DField.wt l) left
          have a2 := wtT_le DField.wt l (k + 1)
          rw [wtT_succ _ _ _ hlt] at a2
          unfold wtS at a1 ⊢
          omega
        · go_light
          have a0 := szOf_spec (DField.wt l[k]) (left - l.length - wtT DField.wt l k)
          have a2 := wtT_succ DField.wt l k hlt
          have e : szOf (DField.wt l[k]) (left - l.length - wtT DField.wt l k) = left - l.length - wtT DField.wt l (k + 1) := by omega
          refine ⟨⟨k + 1, by omega, by go_num, by rw [e], by omega, HB1.out⟩, by simp [intOf]; omega⟩
      · go_wp2
        go_ret
        refine ⟨ret_int ?_, HB.out⟩
        go_light
        obtain rfl : k = l.length := by omega
        have a1 := szOf_spec (wtS DField.wt l) left
        have a2 := wtT_all DField.wt l
        unfold wtS at a1 ⊢
        omega

theorem infoField : (Try.prog.info? 123).map (fun i => (i.zero, i.size, i.bytes)) = some (some (.agg #[.string ⟨#[]⟩, .int .i64 0]), 2, 24) := by kernel_rfl

set_option maxRecDepth 100000 in
set_option maxHeartbeats 800000 in
theorem toFieldS (u : Value) (l : List DField) (w : World) (hu : Reads (Rep.slice 123 DField.rep) w [u] l) (hsmall : wtS DField.wt l ≤ 1048576) :
    Calls Try.prog 114 #[u] w fun e w' => ∃ v, e = .returned v ∧ Fresh (Rep.slice 123 DField.rep) w.heap.size w' [v] l ∧ Below w.heap.size w w' := by
  have HK := Lib.hid hu
  obtain ⟨fp, hu⟩ := hu
  obtain ⟨ao, c1, rfl, hm, _, hu⟩ := slice_open hu
  clear hu
  have hlen := wtS_ge DField.wt l
  have HW := Lib.hid hsmall
  obtain ⟨i0, hi, hz0, hz1, hz2⟩ := info_parts infoField
  go_enter Try.func114, Try.ntmps114
  go_wp2_with (at_make; refine wpList_make_full _ rfl _ _ 89 rfl w.heap.size 123 i0 _ 2 Try.underlying89 hi hz0 hz1 _ _ _ _ l.length rfl rfl rfl rfl ?c1 ?c2 (Nat.le_refl _) ?_)
  case c1 => rw [hz2]; omega
  case c2 => unfold maxLen; omega
  intro w1 hown hgrow
  have hf : Filling DField.rep 123 w.heap.size w.heap.size l.length l 0 w1 := Filling.start hown (Nat.le_refl _)
  have hb1 : Below w.heap.size w w1 := (Below.refl _ _).grown hgrow (Nat.le_refl _) (by intro k hk; cases hk)
  have HF := Lib.hid hf; clear hf hown
  have HB := Lib.hid hb1; clear hb1 hgrow
  go_wp2
  go_loopw [4] (fun i wr => ∃ k : Nat, k ≤ l.length ∧ i = .int .i64 k ∧ Filling DField.rep 123 w.heap.size w.heap.size l.length l k wr ∧ Below w.heap.size w wr) (fun i _ => l.length - (intOf i).toNat)
  case atStart => exact ⟨0, by omega, rfl, HF.out, HB.out⟩
  case round =>
    obtain ⟨k, hk, rfl, hf, hb⟩ := hrel
    have HB := Lib.hid hb; clear hb
    have HF := Lib.hid hf; clear hf
    by_cases hlt : k < l.length
    · obtain ⟨b, off, cs, rfl, bw, hr, hcell⟩ := slice_at (HK.out.below HB.out) k hlt
      obtain ⟨fe, hrd⟩ := hr
      obtain ⟨rfl, _, _⟩ := DField.rd.1 hrd
      have HR : Hid (Reads DField.rep wr _ l[k]) := ⟨_, hrd⟩
      clear hrd
      have hc0 : wr.cell? ⟨b, off + k * 2, none⟩ = some (.string l[k].name) := hcell 0 (by decide)
      have hc1 : wr.cell? ⟨b, off + k * 2 + 1, none⟩ = some (.int .i64 l[k].n) := hcell 1 (by decide)
      clear hcell
      go_wp2_with fail
      refine (toField _ _ _ HR.out (Nat.le_trans (wtS_elem DField.wt l k hlt) HW.out)).mono ?_
      rintro e w1 ⟨ds, rfl, hfr, hb1⟩
      have HF1 := Lib.hid (Filling.step hlt rfl HF.out hb1 hfr)
      have HB1 := Lib.hid (setCells_below (Nat.le_refl _) ds (k * 2) _ (below_call HB.out HB.out.size hb1))
      obtain ⟨hcs, hfz⟩ := (HF.out.below hb1).cells hlt
      obtain ⟨fd, hrd, _⟩ := hfr
      obtain ⟨rfl, _, _⟩ := DField.rd.1 hrd
      obtain ⟨z0, hy0⟩ : ∃ u, w1.cell? ⟨w.heap.size, k * 2, none⟩ = some u := hcs 0 (by decide)
      obtain ⟨z1, hy1⟩ : ∃ u, w1.cell? ⟨w.heap.size, k * 2 + 1, none⟩ = some u := hcs 1 (by decide)
      clear hcs hb1 hrd hc0 hc1
      go_wp2
      go_light
      exact ⟨⟨k + 1, by omega, by go_num, HF1.out, HB1.out⟩, by simp [intOf]; omega⟩
    · have HW : Hid (Fresh (Rep.slice 123 DField.rep) w.heap.size wr [.slice (some ⟨w.heap.size, 0, none⟩) l.length l.length] l) := by
        have e : k = l.length := by omega
        have hf := HF.out
        rw [e] at hf
        exact hf.done rfl
      go_wp2
      go_ret
      exact ⟨_, rfl, HW.out, HB.out⟩

set_option maxRecDepth 100000 in
set_option maxHeartbeats 800000 in
theorem eqFieldS (u v : Value) (l : List DField) (w : World) (h : Reads (Rep.slice 123 DField.rep) w [u] l) (h' : Reads (Rep.slice 123 DField.rep) w [v] l) :
    Calls Try.prog 115 #[u, v] w fun e w' => e = .returned (.bool true) ∧ Below w.heap.size w w' := by
  have HK := Lib.hid h
  obtain ⟨fp, h⟩ := h
  obtain ⟨ao, c1, rfl, hm, _, hu⟩ := slice_open h
  clear hu h
  have HK' := Lib.hid h'
  obtain ⟨fp, h⟩ := h'
  obtain ⟨bo, c2, rfl, _, _, hu⟩ := slice_open h
  clear hu h
  go_enter Try.func115, Try.ntmps115
  go_wp2
  go_loopw [5] (fun i wr => ∃ k : Nat, k ≤ l.length ∧ i = .int .i64 k ∧ Below w.heap.size w wr) (fun i _ => l.length - (intOf i).toNat)
  case atStart => exact ⟨0, by omega, rfl, (by repeat (first | with_reducible exact belR | with_reducible apply belA | (with_reducible refine belS ?_ ?_; focus (first | omega | (simp; done) | (simp; omega))) | with_reducible apply belN | with_reducible apply belD | with_reducible assumption))⟩
  case round =>
    obtain ⟨k, hk, rfl, hb⟩ := hrel
    have HB := Lib.hid hb; clear hb
    by_cases hlt : k < l.length
    · obtain ⟨b, off, cs, rfl, bw, hr, hcell⟩ := slice_at (HK.out.below HB.out) k hlt
      obtain ⟨fe, hrd⟩ := hr
      obtain ⟨rfl, _, _⟩ := DField.rd.1 hrd
      have HR : Hid (Reads DField.rep wr _ l[k]) := ⟨_, hrd⟩
      clear hrd
      have hc0 : wr.cell? ⟨b, off + k * 2, none⟩ = some (.string l[k].name) := hcell 0 (by decide)
      have hc1 : wr.cell? ⟨b, off + k * 2 + 1, none⟩ = some (.int .i64 l[k].n) := hcell 1 (by decide)
      clear hcell
      obtain ⟨b', off', cs, rfl, b'w, hr, hcell⟩ := slice_at (HK'.out.below HB.out) k hlt
      obtain ⟨fe, hrd⟩ := hr
      obtain ⟨rfl, _, _⟩ := DField.rd.1 hrd
      have HR' : Hid (Reads DField.rep wr _ l[k]) := ⟨_, hrd⟩
      clear hrd
      have hd0 : wr.cell? ⟨b', off' + k * 2, none⟩ = some (.string l[k].name) := hcell 0 (by decide)
      have hd1 : wr.cell? ⟨b', off' + k * 2 + 1, none⟩ = some (.int .i64 l[k].n) := hcell 1 (by decide)
      clear hcell
      go_wp2_with fail
      go_still_tail 8, (by kernel_rfl)
      change wpList _ _ _ _ _ wr.drew
      go_wp2_with fail
      refine (eqField _ _ _ _ (HR.out.below (by repeat (first | with_reducible exact belR | with_reducible apply belA | (with_reducible refine belS ?_ ?_; focus (first | omega | (simp; done) | (simp; omega))) | with_reducible apply belN | with_reducible apply belD | with_reducible assumption))) (HR'.out.below (by repeat (first | with_reducible exact belR | with_reducible apply belA | (with_reducible refine belS ?_ ?_; focus (first | omega | (simp; done) | (simp; omega))) | with_reducible apply belN | with_reducible apply belD | with_reducible assumption)))).mono ?_
      rintro e w1 ⟨rfl, hb1⟩
      have HB1 := Lib.hid (below_call (belD HB.out) (belD HB.out).size hb1); clear hb1
      go_wp2
      go_light
      exact ⟨⟨k + 1, by omega, by go_num, HB1.out⟩, by simp [intOf]; omega⟩
    · go_wp2
      go_ret
      exact ⟨rfl, HB.out⟩

def DField.cnt (_ : DField) : Nat := 2
def DField.mk3 (k : Nat) (_ : DField) : DField := ⟨markT (k), ((k : Int) + 1)⟩

end Go.Proofs.Yteonnbkmmdiegaa
