/-
  LFamA: LKey, LField, LRecord, LItem, LStore, in one text.
-/
import Derived.Test.YtgicglmcapnogaaGreatBase
import Derived.Test.YtgicglmcapnogaaGreatTFam

/-
  The laws' helpers for Key.
-/
namespace Go.Proofs.YtgicglmcapnogaaGreat
open Go.RowKit

def DKey.wt (x : DKey) : Nat := x.text.size

set_option maxHeartbeats 400000 in
theorem szKey (cs : List Value) (x : DKey) (left : Int) (w : World) (h : Reads DKey.rep w cs x) (h0 : 0 ≤ left) (h1 : left ≤ 1048576) :
    Calls Tryz.prog 91 #[.agg cs.toArray, .int .i64 left] w fun e w' => e = .returned (.int .i64 (szOf x.wt left)) ∧ Below w.heap.size w w' := by
  obtain ⟨fp, h⟩ := h
  obtain ⟨rfl, _, s0⟩ := DKey.rd.1 h
  clear h
  unfold maxLen at s0
  go_enter Tryz.func91, Tryz.ntmps91
  go_wp2_with fail
  · go_ret
    refine ⟨ret_int ?_, (by repeat (first | with_reducible exact belR | with_reducible apply belA | (with_reducible refine belS ?_ ?_; focus (first | omega | (simp; done) | (simp; omega))) | with_reducible apply belN | with_reducible apply belD | with_reducible assumption))⟩
    go_light
    have a0 := szOf_spec x.wt left
    unfold DKey.wt at *
    omega
  · go_ret
    refine ⟨ret_int ?_, (by repeat (first | with_reducible exact belR | with_reducible apply belA | (with_reducible refine belS ?_ ?_; focus (first | omega | (simp; done) | (simp; omega))) | with_reducible apply belN | with_reducible apply belD | with_reducible assumption))⟩
    go_light
    have a0 := szOf_spec x.wt left
    unfold DKey.wt at *
    omega

set_option maxHeartbeats 800000 in
theorem toKey (cs : List Value) (x : DKey) (w : World) (h : Reads DKey.rep w cs x) (_hsmall : x.wt ≤ 1048576) :
    Calls Tryz.prog 100 #[.agg cs.toArray] w fun e w' => ∃ ds, e = .returned (.agg ds.toArray) ∧ Fresh DKey.rep w.heap.size w' ds x ∧ Below w.heap.size w w' := by
  obtain ⟨fp, h⟩ := h
  obtain ⟨rfl, _, s0⟩ := DKey.rd.1 h
  clear h 
  go_enter Tryz.func100, Tryz.ntmps100
  go_wp2
  refine bodyPost_ret (v := .agg #[.int .i64 x.kind, .int .i64 x.n, .string x.text]) (by first | (simp [results, Tryz.results100, go_sem]; done)) rfl ⟨_, rfl, ?_, ?_⟩
  · exact ⟨[], DKey.rd.2 ⟨rfl, rfl, s0⟩, by simp, by simp⟩
  · exact (by repeat (first | with_reducible exact belR | with_reducible apply belA | (with_reducible refine belS ?_ ?_; focus (first | omega | (simp; done) | (simp; omega))) | with_reducible apply belN | with_reducible apply belD | with_reducible assumption))

set_option maxHeartbeats 800000 in
theorem eqKey (cs ds : List Value) (x : DKey) (w : World) (h : Reads DKey.rep w cs x) (h' : Reads DKey.rep w ds x) :
    Calls Tryz.prog 114 #[.agg cs.toArray, .agg ds.toArray] w fun e w' => e = .returned (.bool true) ∧ Below w.heap.size w w' := by
  obtain ⟨fp, h0⟩ := h
  obtain ⟨rfl, _, vs0⟩ := DKey.rd.1 h0
  clear h0 
  obtain ⟨fp, h0⟩ := h'
  obtain ⟨rfl, _, us0⟩ := DKey.rd.1 h0
  clear h0 
  go_enter Tryz.func114, Tryz.ntmps114
  go_wp2
  go_ret
  exact ⟨rfl, (by repeat (first | with_reducible exact belR | with_reducible apply belA | (with_reducible refine belS ?_ ?_; focus (first | omega | (simp; done) | (simp; omega))) | with_reducible apply belN | with_reducible apply belD | with_reducible assumption))⟩

theorem infoKey : (Tryz.prog.info? 70).map (fun i => (i.zero, i.size, i.bytes)) = some (some (.agg #[.int .i64 0, .int .i64 0, .string ⟨#[]⟩]), 3, 32) := by kernel_rfl

def DKey.cnt (_ : DKey) : Nat := 3
def DKey.mk3 (k : Nat) (_ : DKey) : DKey := ⟨((k : Int)), ((k : Int) + 1), markT (k + 2)⟩

end Go.Proofs.YtgicglmcapnogaaGreat


/-
  The laws' helpers for Field.
-/
namespace Go.Proofs.YtgicglmcapnogaaGreat
open Go.RowKit

def DField.wt (x : DField) : Nat := x.name.size

set_option maxHeartbeats 400000 in
theorem szField (cs : List Value) (x : DField) (left : Int) (w : World) (h : Reads DField.rep w cs x) (h0 : 0 ≤ left) (h1 : left ≤ 1048576) :
    Calls Tryz.prog 148 #[.agg cs.toArray, .int .i64 left] w fun e w' => e = .returned (.int .i64 (szOf x.wt left)) ∧ Below w.heap.size w w' := by
  obtain ⟨fp, h⟩ := h
  obtain ⟨rfl, _, s0⟩ := DField.rd.1 h
  clear h
  unfold maxLen at s0
  go_enter Tryz.func148, Tryz.ntmps148
  go_wp2_with fail
  · go_ret
    refine ⟨ret_int ?_, (by repeat (first | with_reducible exact belR | with_reducible apply belA | (with_reducible refine belS ?_ ?_; focus (first | omega | (simp; done) | (simp; omega))) | with_reducible apply belN | with_reducible apply belD | with_reducible assumption))⟩
    go_light
    have a0 := szOf_spec x.wt left
    unfold DField.wt at *
    omega
  · go_ret
    refine ⟨ret_int ?_, (by repeat (first | with_reducible exact belR | with_reducible apply belA | (with_reducible refine belS ?_ ?_; focus (first | omega | (simp; done) | (simp; omega))) | with_reducible apply belN | with_reducible apply belD | with_reducible assumption))⟩
    go_light
    have a0 := szOf_spec x.wt left
    unfold DField.wt at *
    omega

set_option maxHeartbeats 800000 in
theorem toField (cs : List Value) (x : DField) (w : World) (h : Reads DField.rep w cs x) (_hsmall : x.wt ≤ 1048576) :
    Calls Tryz.prog 149 #[.agg cs.toArray] w fun e w' => ∃ ds, e = .returned (.agg ds.toArray) ∧ Fresh DField.rep w.heap.size w' ds x ∧ Below w.heap.size w w' := by
  obtain ⟨fp, h⟩ := h
  obtain ⟨rfl, _, s0⟩ := DField.rd.1 h
  clear h 
  go_enter Tryz.func149, Tryz.ntmps149
  go_wp2
  refine bodyPost_ret (v := .agg #[.string x.name, .int .i64 x.n]) (by first | (simp [results, Tryz.results149, go_sem]; done)) rfl ⟨_, rfl, ?_, ?_⟩
  · exact ⟨[], DField.rd.2 ⟨rfl, rfl, s0⟩, by simp, by simp⟩
  · exact (by repeat (first | with_reducible exact belR | with_reducible apply belA | (with_reducible refine belS ?_ ?_; focus (first | omega | (simp; done) | (simp; omega))) | with_reducible apply belN | with_reducible apply belD | with_reducible assumption))

set_option maxHeartbeats 800000 in
theorem eqField (cs ds : List Value) (x : DField) (w : World) (h : Reads DField.rep w cs x) (h' : Reads DField.rep w ds x) :
    Calls Tryz.prog 153 #[.agg cs.toArray, .agg ds.toArray] w fun e w' => e = .returned (.bool true) ∧ Below w.heap.size w w' := by
  obtain ⟨fp, h0⟩ := h
  obtain ⟨rfl, _, vs0⟩ := DField.rd.1 h0
  clear h0 
  obtain ⟨fp, h0⟩ := h'
  obtain ⟨rfl, _, us0⟩ := DField.rd.1 h0
  clear h0 
  go_enter Tryz.func153, Tryz.ntmps153
  go_wp2
  go_ret
  exact ⟨rfl, (by repeat (first | with_reducible exact belR | with_reducible apply belA | (with_reducible refine belS ?_ ?_; focus (first | omega | (simp; done) | (simp; omega))) | with_reducible apply belN | with_reducible apply belD | with_reducible assumption))⟩

set_option maxHeartbeats 400000 in
theorem szFieldS (v : Value) (l : List DField) (left : Int) (w : World) (h : Reads (Rep.slice 156 DField.rep) w [v] l) (h0 : 0 ≤ left) (h1 : left ≤ 1048576) :
    Calls Tryz.prog 135 #[v, .int .i64 left] w fun e w' => e = .returned (.int .i64 (szOf (wtS DField.wt l) left)) ∧ Below w.heap.size w w' := by
  have HK := Lib.hid h
  obtain ⟨fp, h⟩ := h
  obtain ⟨ao, c1, rfl, hm, _, hu⟩ := slice_open h
  clear hu h
  go_enter Tryz.func135, Tryz.ntmps135
  go_wp2
  · go_ret
    refine ⟨ret_int ?_, (by repeat (first | with_reducible exact belR | with_reducible apply belA | (with_reducible refine belS ?_ ?_; focus (first | omega | (simp; done) | (simp; omega))) | with_reducible apply belN | with_reducible apply belD | with_reducible assumption))⟩
    go_light
    have a0 := szOf_spec (wtS DField.wt l) left
    have a1 := wtS_ge DField.wt l
    omega
  · go_loopw [1, 5] (fun a i wr => ∃ k : Nat, k ≤ l.length ∧ i = .int .i64 k ∧ a = .int .i64 (left - l.length - wtT DField.wt l k) ∧ 0 ≤ left - l.length - wtT DField.wt l k ∧ Below w.heap.size w wr) (fun _ i _ => l.length - (intOf i).toNat)
    case atStart => exact ⟨0, by omega, rfl, by simp [wtT], by simp [wtT]; omega, (by repeat (first | with_reducible exact belR | with_reducible apply belA | (with_reducible refine belS ?_ ?_; focus (first | omega | (simp; done) | (simp; omega))) | with_reducible apply belN | with_reducible apply belD | with_reducible assumption))⟩
    case round =>
      obtain ⟨k, hk, rfl, rfl, hpos, hb⟩ := hrel
      have HB := Lib.hid hb; clear hb
      by_cases hlt : k < l.length
      · obtain ⟨b, off, cs, rfl, bw, hr, hcell⟩ := slice_at (HK.out.below HB.out) k hlt
        obtain ⟨fe, hrd⟩ := hr
        obtain ⟨rfl, _, _⟩ := DField.rd.1 hrd
        have HR : Hid (Reads DField.rep wr _ l[k]) := ⟨_, hrd⟩
        clear hrd
        have hc0 : wr.cell? ⟨b, off + k * 2, none⟩ = some (.string l[k].name) := hcell 0 (by decide)
        have hc1 : wr.cell? ⟨b, off + k * 2 + 1, none⟩ = some (.int .i64 l[k].n) := hcell 1 (by decide)
        clear hcell
        go_wp2_with fail
        refine (szField _ _ _ _ HR.out (by omega) (by omega)).mono ?_
        rintro e w1 ⟨rfl, hb1⟩
        have HB1 := Lib.hid (below_call HB.out HB.out.size hb1); clear hb1
        go_wp2
        · go_ret
          refine ⟨ret_int ?_, HB1.out⟩
          go_light
          have a0 := szOf_spec (DField.wt l[k]) (left - l.length - wtT DField.wt l k)
          have a1 := szOf_spec (wtS DField.wt l) left
          have a2 := wtT_le DField.wt l (k + 1)
          rw [wtT_succ _ _ _ hlt] at a2
          unfold wtS at a1 ⊢
          omega
        · go_light
          have a0 := szOf_spec (DField.wt l[k]) (left - l.length - wtT DField.wt l k)
          have a2 := wtT_succ DField.wt l k hlt
          have e : szOf (DField.wt l[k]) (left - l.length - wtT DField.wt l k) = left - l.length - wtT DField.wt l (k + 1) := by omega
          refine ⟨⟨k + 1, by omega, by go_num, by rw [e], by omega, HB1.out⟩, by simp [intOf]; omega⟩
      · go_wp2
        go_ret
        refine ⟨ret_int ?_, HB.out⟩
        go_light
        obtain rfl : k = l.length := by omega
        have a1 := szOf_spec (wtS DField.wt l) left
        have a2 := wtT_all DField.wt l
        unfold wtS at a1 ⊢
        omega

theorem infoField : (Tryz.prog.info? 156).map (fun i => (i.zero, i.size, i.bytes)) = some (some (.agg #[.string ⟨#[]⟩, .int .i64 0]), 2, 24) := by kernel_rfl

set_option maxRecDepth 100000 in
set_option maxHeartbeats 800000 in
theorem toFieldS (u : Value) (l : List DField) (w : World) (hu : Reads (Rep.slice 156 DField.rep) w [u] l) (hsmall : wtS DField.wt l ≤ 1048576) :
    Calls Tryz.prog 137 #[u] w fun e w' => ∃ v, e = .returned v ∧ Fresh (Rep.slice 156 DField.rep) w.heap.size w' [v] l ∧ Below w.heap.size w w' := by
  have HK := Lib.hid hu
  obtain ⟨fp, hu⟩ := hu
  obtain ⟨ao, c1, rfl, hm, _, hu⟩ := slice_open hu
  clear hu
  have hlen := wtS_ge DField.wt l
  have HW := Lib.hid hsmall
  obtain ⟨i0, hi, hz0, hz1, hz2⟩ := info_parts infoField
  go_enter Tryz.func137, Tryz.ntmps137
  go_wp2_with (at_make; refine wpList_make_full _ rfl _ _ 130 rfl w.heap.size 156 i0 _ 2 Tryz.underlying130 hi hz0 hz1 _ _ _ _ l.length rfl rfl rfl rfl ?c1 ?c2 (Nat.le_refl _) ?_)
  case c1 => rw [hz2]; omega
  case c2 => unfold maxLen; omega
  intro w1 hown hgrow
  have hf : Filling DField.rep 156 w.heap.size w.heap.size l.length l 0 w1 := Filling.start hown (Nat.le_refl _)
  have hb1 : Below w.heap.size w w1 := (Below.refl _ _).grown hgrow (Nat.le_refl _) (by intro k hk; cases hk)
  have HF := Lib.hid hf; clear hf hown
  have HB := Lib.hid hb1; clear hb1 hgrow
  go_wp2
  go_loopw [4] (fun i wr => ∃ k : Nat, k ≤ l.length ∧ i = .int .i64 k ∧ Filling DField.rep 156 w.heap.size w.heap.size l.length l k wr ∧ Below w.heap.size w wr) (fun i _ => l.length - (intOf i).toNat)
  case atStart => exact ⟨0, by omega, rfl, HF.out, HB.out⟩
  case round =>
    obtain ⟨k, hk, rfl, hf, hb⟩ := hrel
    have HB := Lib.hid hb; clear hb
    have HF := Lib.hid hf; clear hf
    by_cases hlt : k < l.length
    · obtain ⟨b, off, cs, rfl, bw, hr, hcell⟩ := slice_at (HK.out.below HB.out) k hlt
      obtain ⟨fe, hrd⟩ := hr
      obtain ⟨rfl, _, _⟩ := DField.rd.1 hrd
      have HR : Hid (Reads DField.rep wr _ l[k]) := ⟨_, hrd⟩
      clear hrd
      have hc0 : wr.cell? ⟨b, off + k * 2, none⟩ = some (.string l[k].name) := hcell 0 (by decide)
      have hc1 : wr.cell? ⟨b, off + k * 2 + 1, none⟩ = some (.int .i64 l[k].n) := hcell 1 (by decide)
      clear hcell
      go_wp2_with fail
      refine (toField _ _ _ HR.out (Nat.le_trans (wtS_elem DField.wt l k hlt) HW.out)).mono ?_
      rintro e w1 ⟨ds, rfl, hfr, hb1⟩
      have HF1 := Lib.hid (Filling.step hlt rfl HF.out hb1 hfr)
      have HB1 := Lib.hid (setCells_below (Nat.le_refl _) ds (k * 2) _ (below_call HB.out HB.out.size hb1))
      obtain ⟨hcs, hfz⟩ := (HF.out.below hb1).cells hlt
      obtain ⟨fd, hrd, _⟩ := hfr
      obtain ⟨rfl, _, _⟩ := DField.rd.1 hrd
      obtain ⟨z0, hy0⟩ : ∃ u, w1.cell? ⟨w.heap.size, k * 2, none⟩ = some u := hcs 0 (by decide)
      obtain ⟨z1, hy1⟩ : ∃ u, w1.cell? ⟨w.heap.size, k * 2 + 1, none⟩ = some u := hcs 1 (by decide)
      clear hcs hb1 hrd hc0 hc1
      go_wp2
      go_light
      exact ⟨⟨k + 1, by omega, by go_num, HF1.out, HB1.out⟩, by simp [intOf]; omega⟩
    · have HW : Hid (Fresh (Rep.slice 156 DField.rep) w.heap.size wr [.slice (some ⟨w.heap.size, 0, none⟩) l.length l.length] l) := by
        have e : k = l.length := by omega
        have hf := HF.out
        rw [e] at hf
        exact hf.done rfl
      go_wp2
      go_ret
      exact ⟨_, rfl, HW.out, HB.out⟩

set_option maxRecDepth 100000 in
set_option maxHeartbeats 800000 in
theorem eqFieldS (u v : Value) (l : List DField) (w : World) (h : Reads (Rep.slice 156 DField.rep) w [u] l) (h' : Reads (Rep.slice 156 DField.rep) w [v] l) :
    Calls Tryz.prog 147 #[u, v] w fun e w' => e = .returned (.bool true) ∧ Below w.heap.size w w' := by
  have HK := Lib.hid h
  obtain ⟨fp, h⟩ := h
  obtain ⟨ao, c1, rfl, hm, _, hu⟩ := slice_open h
  clear hu h
  have HK' := Lib.hid h'
  obtain ⟨fp, h⟩ := h'
  obtain ⟨bo, c2, rfl, _, _, hu⟩ := slice_open h
  clear hu h
  go_enter Tryz.func147, Tryz.ntmps147
  go_wp2
  go_loopw [5] (fun i wr => ∃ k : Nat, k ≤ l.length ∧ i = .int .i64 k ∧ Below w.heap.size w wr) (fun i _ => l.length - (intOf i).toNat)
  case atStart => exact ⟨0, by omega, rfl, (by repeat (first | with_reducible exact belR | with_reducible apply belA | (with_reducible refine belS ?_ ?_; focus (first | omega | (simp; done) | (simp; omega))) | with_reducible apply belN | with_reducible apply belD | with_reducible assumption))⟩
  case round =>
    obtain ⟨k, hk, rfl, hb⟩ := hrel
    have HB := Lib.hid hb; clear hb
    by_cases hlt : k < l.length
    · obtain ⟨b, off, cs, rfl, bw, hr, hcell⟩ := slice_at (HK.out.below HB.out) k hlt
      obtain ⟨fe, hrd⟩ := hr
      obtain ⟨rfl, _, _⟩ := DField.rd.1 hrd
      have HR : Hid (Reads DField.rep wr _ l[k]) := ⟨_, hrd⟩
      clear hrd
      have hc0 : wr.cell? ⟨b, off + k * 2, none⟩ = some (.string l[k].name) := hcell 0 (by decide)
      have hc1 : wr.cell? ⟨b, off + k * 2 + 1, none⟩ = some (.int .i64 l[k].n) := hcell 1 (by decide)
      clear hcell
      obtain ⟨b', off', cs, rfl, b'w, hr, hcell⟩ := slice_at (HK'.out.below HB.out) k hlt
      obtain ⟨fe, hrd⟩ := hr
      obtain ⟨rfl, _, _⟩ := DField.rd.1 hrd
      have HR' : Hid (Reads DField.rep wr _ l[k]) := ⟨_, hrd⟩
      clear hrd
      have hd0 : wr.cell? ⟨b', off' + k * 2, none⟩ = some (.string l[k].name) := hcell 0 (by decide)
      have hd1 : wr.cell? ⟨b', off' + k * 2 + 1, none⟩ = some (.int .i64 l[k].n) := hcell 1 (by decide)
      clear hcell
      go_wp2_with fail
      go_still_tail 8, (by kernel_rfl)
      change wpList _ _ _ _ _ wr.drew
      go_wp2_with fail
      refine (eqField _ _ _ _ (HR.out.below (by repeat (first | with_reducible exact belR | with_reducible apply belA | (with_reducible refine belS ?_ ?_; focus (first | omega | (simp; done) | (simp; omega))) | with_reducible apply belN | with_reducible apply belD | with_reducible assumption))) (HR'.out.below (by repeat (first | with_reducible exact belR | with_reducible apply belA | (with_reducible refine belS ?_ ?_; focus (first | omega | (simp; done) | (simp; omega))) | with_reducible apply belN | with_reducible apply belD | with_reducible assumption)))).mono ?_
      rintro e w1 ⟨rfl, hb1⟩
      have HB1 := Lib.hid (below_call (belD HB.out) (belD HB.out).size hb1); clear hb1
      go_wp2
      go_light
      exact ⟨⟨k + 1, by omega, by go_num, HB1.out⟩, by simp [intOf]; omega⟩
    · go_wp2
      go_ret
      exact ⟨rfl, HB.out⟩

def DField.cnt (_ : DField) : Nat := 2
def DField.mk3 (k : Nat) (_ : DField) : DField := ⟨markT (k), ((k : Int) + 1)⟩

set_option maxRecDepth 100000 in
set_option maxHeartbeats 1600000 in
theorem markFieldS (v : Value) (l : List DField) (fp : List Nat) (k : Nat) (w : World) (h : (Rep.slice 156 DField.rep).rd true w [v] l fp) (hnd : fp.Nodup) (hk : k + wtT DField.cnt l l.length ≤ 1000000000) :
    Calls Tryz.prog 115 #[v, .int .i64 k] w fun e w' => e = .returned (.int .i64 ((k + wtT DField.cnt l l.length : Nat) : Int)) ∧ (Rep.slice 156 DField.rep).rd true w' [v] (marks DField.mk3 DField.cnt k l) fp ∧ Chg fp w w' := by
  have HM : Hid (Marking DField.rep 156 DField.mk3 DField.cnt k l v fp w 0 w) := ⟨by rw [marked_zero]; exact h, Chg.refl⟩
  obtain ⟨ao, c1, rfl, hm, _, hu⟩ := slice_open h
  clear hu h
  go_enter Tryz.func115, Tryz.ntmps115
  go_wp2
  go_loopw [1, 5] (fun a i wr => ∃ j : Nat, j ≤ l.length ∧ i = .int .i64 j ∧ a = .int .i64 ((k + wtT DField.cnt l j : Nat) : Int) ∧ Marking DField.rep 156 DField.mk3 DField.cnt k l (.slice ao l.length c1) fp w j wr) (fun _ i _ => l.length - (intOf i).toNat)
  case atStart => exact ⟨0, by omega, rfl, by simp [wtT], HM.out⟩
  case round =>
    obtain ⟨j, hj, rfl, rfl, hma⟩ := hrel
    have HM := Lib.hid hma; clear hma
    by_cases hlt : j < l.length
    · have hw1 := wtT_succ DField.cnt l j hlt
      have hw2 := wtT_mono DField.cnt l (j + 1) l.length hlt
      generalize hq : k + wtT DField.cnt l j = q at *
      have hqc : q + DField.cnt l[j] ≤ 1000000000 := by omega
      unfold DField.cnt at hqc
      have HQ := Lib.hid hq; clear hq hw1 hw2
      have hlt' : j < (marked DField.mk3 DField.cnt k l j).length := by rw [marked_length]; exact hlt
      obtain ⟨g, cap, xs, cs, fe, hv, hg, hgfe, hfesub, hfend, hown, hrd, hcs, hshut⟩ := own_open HM.out.1 hnd j hlt'
      rw [marked_length] at hv hown
      simp only [Value.slice.injEq] at hv
      obtain ⟨rfl, _, rfl⟩ := hv
      have HG := Lib.hid hg; clear hg
      have HS := Lib.hid hshut; clear hshut
      have HFE := Lib.hid hfesub; clear hfesub
      have hval := marked_get DField.mk3 DField.cnt k l j hlt
      rw [List.getElem?_eq_getElem hlt'] at hval
      rw [Option.some.inj hval] at hrd
      clear hval
      have HO := Lib.hid hown; clear hown
      obtain ⟨rfl, hfe, _⟩ := DField.rd.1 hrd
      subst hfe
      have HC : Hid (Chg (g :: (([] : List Nat))) wr wr) := Chg.refl
      clear hrd hcs 
      obtain ⟨hcs, hfzwr⟩ := own_cells HO.out hlt
      obtain ⟨zwr_0, hzwr_0⟩ : ∃ u, wr.cell? ⟨g, j * 2, none⟩ = some u := hcs 0 (by decide)
      obtain ⟨zwr_1, hzwr_1⟩ : ∃ u, wr.cell? ⟨g, j * 2 + 1, none⟩ = some u := hcs 1 (by decide)
      clear hcs
      go_wp2_with fail
      refine (markTextI q _ (by omega) (by omega) _).mono ?_
      rintro e m1 ⟨rfl, hb⟩
      replace HO := Lib.hid (own_below HO.out hb (Nat.le_refl _))
      replace HC := Lib.hid (HC.out.trans (Chg.of_below hb (Nat.le_refl _)))
      clear hb
      clear hfzwr hzwr_0 hzwr_1
      obtain ⟨hcs, hfzm1⟩ := own_cells HO.out hlt
      obtain ⟨zm1_0, hzm1_0⟩ : ∃ u, m1.cell? ⟨g, j * 2, none⟩ = some u := hcs 0 (by decide)
      obtain ⟨zm1_1, hzm1_1⟩ : ∃ u, m1.cell? ⟨g, j * 2 + 1, none⟩ = some u := hcs 1 (by decide)
      clear hcs
      go_wp2
      replace HO := Lib.hid (setCells_owns [.string (markT q), .int .i64 ((q : Int) + 1)] (j * 2) _ _ HO.out)
      replace HC := Lib.hid (Chg.sets (g := g) (by simp) [.string (markT q), .int .i64 ((q : Int) + 1)] (j * 2) _ HC.out)
      go_light
      have hlt1 := (Rep.slice 156 DField.rep).lt HM.out.1
      have hm' := marked_succ DField.mk3 DField.cnt k l j hlt
      rw [HQ.out] at hm'
      refine ⟨⟨j + 1, by omega, by go_num, ?_, ?_, ?_⟩, by simp [intOf]; omega⟩
      · rw [wtT_succ _ _ _ hlt, ← Nat.add_assoc, HQ.out]
        unfold DField.cnt
        exact val_int (by omega)
      · rw [← hm']
        refine HS.out _ [.string (markT q), .int .i64 ((q : Int) + 1)] _ (by rw [marked_length]; exact HO.out) (DField.rd.2 ⟨rfl, rfl, markT_le _⟩) fun b hb hbg hbf => ?_
        exact HC.out.block b (hlt1 b hb) (by rw [List.mem_cons]; exact fun hx => hx.elim hbg hbf)
      · exact HM.out.2.trans (HC.out.mono fun b hb => (List.mem_cons.1 hb).elim (fun hx => by rw [hx]; exact HG.out) (HFE.out b))
    · have e : j = l.length := by omega
      have HE := Lib.hid e; clear e
      go_wp2
      go_ret
      have hm' := HM.out
      rw [HE.out] at hm' ⊢
      rw [Marking, marked_all] at hm'
      exact ⟨rfl, hm'.1, hm'.2⟩
theorem markFieldSI (v : Value) (l : List DField) (fp : List Nat) (k : Nat) (a : Int) (ha : a = k) (w : World) (h : (Rep.slice 156 DField.rep).rd true w [v] l fp) (hnd : fp.Nodup) (hk : k + wtT DField.cnt l l.length ≤ 1000000000) :
    Calls Tryz.prog 115 #[v, .int .i64 a] w fun e w' => e = .returned (.int .i64 ((k + wtT DField.cnt l l.length : Nat) : Int)) ∧ (Rep.slice 156 DField.rep).rd true w' [v] (marks DField.mk3 DField.cnt k l) fp ∧ Chg fp w w' := by
  subst ha; exact markFieldS v l fp k w h hnd hk

set_option maxRecDepth 100000 in
set_option maxHeartbeats 1600000 in
theorem heldFieldS (v : Value) (l : List DField) (k : Nat) (w : World) (h : Reads (Rep.slice 156 DField.rep) w [v] (marks DField.mk3 DField.cnt k l)) (hk : k + wtT DField.cnt l l.length ≤ 1000000000) :
    Calls Tryz.prog 116 #[v, .int .i64 k] w fun e w' => e = .returned (.int .i64 ((k + wtT DField.cnt l l.length : Nat) : Int)) ∧ Below w.heap.size w w' := by
  have HK := Lib.hid h
  obtain ⟨fp, hu⟩ := h
  obtain ⟨ao, c1, rfl, hm, _, hu⟩ := slice_open hu
  clear hu
  rw [marks_length] at HK hm ⊢
  go_enter Tryz.func116, Tryz.ntmps116
  go_wp2
  go_loopw [1, 5] (fun a i wr => ∃ j : Nat, j ≤ l.length ∧ i = .int .i64 j ∧ a = .int .i64 ((k + wtT DField.cnt l j : Nat) : Int) ∧ Below w.heap.size w wr) (fun _ i _ => l.length - (intOf i).toNat)
  case atStart => exact ⟨0, by omega, rfl, by simp [wtT], (by repeat (first | with_reducible exact belR | with_reducible apply belA | (with_reducible refine belS ?_ ?_; focus (first | omega | (simp; done) | (simp; omega))) | with_reducible apply belN | with_reducible apply belD | with_reducible assumption))⟩
  case round =>
    obtain ⟨j, hj, rfl, rfl, hb⟩ := hrel
    have HB := Lib.hid hb; clear hb
    by_cases hlt : j < l.length
    · have hw1 := wtT_succ DField.cnt l j hlt
      have hw2 := wtT_mono DField.cnt l (j + 1) l.length hlt
      have hlt' : j < (marks DField.mk3 DField.cnt k l).length := by rw [marks_length]; exact hlt
      have hval := marks_at DField.mk3 DField.cnt k l j hlt hlt'
      generalize hq : k + wtT DField.cnt l j = q at *
      have hqc : q + DField.cnt l[j] ≤ 1000000000 := by omega
      unfold DField.cnt at hqc
      have HQ := Lib.hid hq; clear hq hw1 hw2
      obtain ⟨b, off, cs, rfl, hbw, hr, hcell⟩ := slice_at (HK.out.below HB.out) j hlt'
      rw [hval] at hr
      clear hval
      obtain ⟨fe, hrd⟩ := hr
      obtain ⟨rfl, _, _⟩ := DField.rd.1 hrd
      have hc0 : wr.cell? ⟨b, off + j * 2, none⟩ = some (.string (markT (q))) := hcell 0 (by decide)
      have hc1 : wr.cell? ⟨b, off + j * 2 + 1, none⟩ = some (.int .i64 ((q : Int) + 1)) := hcell 1 (by decide)
      clear hcell hrd 
      go_wp2_with fail
      go_region_held3 (fun w' => w'.cell? ⟨b, off + j * 2, none⟩ = some (.string (markT q)) ∧ Below wr.heap.size wr w') (first | exact ⟨hc0, belD belR⟩ | exact ⟨(hb1.cell (p := ⟨b, off + j * 2, none⟩) hbw).trans hc0, (belD belR).trans hb1⟩)
        (first | (go_at_call 88; refine (markTextI q _ (by omega) (by omega) _).mono ?_; rintro e m1 ⟨rfl, hb1⟩))
      obtain ⟨_, hbn⟩ := ‹_ ∧ Below wr.heap.size wr m1›
      have hm1_1 : m1.cell? ⟨b, off + j * 2 + 1, none⟩ = some (.int .i64 ((q : Int) + 1)) := (hbn.cell (p := ⟨b, off + j * 2 + 1, none⟩) hbw).trans hc1
      replace hbw : b < m1.heap.size := Nat.lt_of_lt_of_le hbw hbn.size
      replace HB := Lib.hid (below_call HB.out HB.out.size hbn)
      clear hbn hb1 hc0 hc1
      go_wp2
      go_light
      refine ⟨⟨j + 1, by omega, by go_num, ?_, HB.out⟩, by simp [intOf]; omega⟩
      rw [wtT_succ _ _ _ hlt, ← Nat.add_assoc, HQ.out]
      unfold DField.cnt
      exact val_int (by omega)
    · have e : j = l.length := by omega
      have HE := Lib.hid e; clear e
      go_wp2
      go_ret
      rw [HE.out]
      exact ⟨rfl, HB.out⟩
theorem heldFieldSI (v : Value) (l : List DField) (k : Nat) (a : Int) (ha : a = k) (w : World) (h : Reads (Rep.slice 156 DField.rep) w [v] (marks DField.mk3 DField.cnt k l)) (hk : k + wtT DField.cnt l l.length ≤ 1000000000) :
    Calls Tryz.prog 116 #[v, .int .i64 a] w fun e w' => e = .returned (.int .i64 ((k + wtT DField.cnt l l.length : Nat) : Int)) ∧ Below w.heap.size w w' := by
  subst ha; exact heldFieldS v l k w h hk

end Go.Proofs.YtgicglmcapnogaaGreat


/-
  The laws' helpers for Record.
-/
namespace Go.Proofs.YtgicglmcapnogaaGreat
open Go.RowKit

def DRecord.wt (x : DRecord) : Nat := wtS DField.wt x.fields

set_option maxHeartbeats 400000 in
theorem szRecord (cs : List Value) (x : DRecord) (left : Int) (w : World) (h : Reads DRecord.rep w cs x) (h0 : 0 ≤ left) (h1 : left ≤ 1048576) :
    Calls Tryz.prog 117 #[.agg cs.toArray, .int .i64 left] w fun e w' => e = .returned (.int .i64 (szOf x.wt left)) ∧ Below w.heap.size w w' := by
  obtain ⟨fp, h⟩ := h
  obtain ⟨v1, f1, rfl, _, r1⟩ := DRecord.rd.1 h
  have HV1 : Hid (Reads (Rep.slice 156 DField.rep) w [v1] x.fields) := ⟨_, r1⟩
  clear h r1
  go_enter Tryz.func117, Tryz.ntmps117
  go_wp2_with fail
  have q1 : 0 ≤ left ∧ left ≤ 1048576 := by
    omega
  refine (szFieldS _ _ _ _ (HV1.out.below (by repeat (first | with_reducible exact belR | with_reducible apply belA | (with_reducible refine belS ?_ ?_; focus (first | omega | (simp; done) | (simp; omega))) | with_reducible apply belN | with_reducible apply belD | with_reducible assumption))) q1.1 q1.2).mono ?_
  rintro e w1 ⟨rfl, hb1⟩
  obtain ⟨hc1, hfz1⟩ := bcell hb1
  have hz1 : w.heap.size < w1.heap.size := by have y := hb1.size; simp at y; omega
  have HB1 := Lib.hid (below_call (w := w) (by repeat (first | with_reducible exact belR | with_reducible apply belA | (with_reducible refine belS ?_ ?_; focus (first | omega | (simp; done) | (simp; omega))) | with_reducible apply belN | with_reducible apply belD | with_reducible assumption)) (by first | omega | (simp; done) | (simp; omega)) hb1); clear hb1
  have bl1 : -1 ≤ szOf (wtS DField.wt x.fields) (left) ∧ szOf (wtS DField.wt x.fields) (left) ≤ 1048576 := by
    have a0 := szOf_spec (wtS DField.wt x.fields) (left)
    omega
  obtain ⟨bl1, bu1⟩ := bl1
  go_wp2_with fail
  · go_ret
    have y0 := HB1.out
    refine ⟨ret_int ?_, (by repeat (first | with_reducible exact belR | with_reducible apply belA | (with_reducible refine belS ?_ ?_; focus (first | omega | (simp; done) | (simp; omega))) | with_reducible apply belN | with_reducible apply belD | with_reducible assumption))⟩
    go_light
    have a0 := szOf_spec x.wt left
    have a1 := szOf_spec (wtS DField.wt x.fields) (left)
    unfold DRecord.wt at *
    omega
  · go_ret
    have y0 := HB1.out
    refine ⟨ret_int ?_, (by repeat (first | with_reducible exact belR | with_reducible apply belA | (with_reducible refine belS ?_ ?_; focus (first | omega | (simp; done) | (simp; omega))) | with_reducible apply belN | with_reducible apply belD | with_reducible assumption))⟩
    go_light
    have a0 := szOf_spec x.wt left
    have a1 := szOf_spec (wtS DField.wt x.fields) (left)
    unfold DRecord.wt at *
    omega

set_option maxHeartbeats 800000 in
theorem toRecord (cs : List Value) (x : DRecord) (w : World) (h : Reads DRecord.rep w cs x) (_hsmall : x.wt ≤ 1048576) :
    Calls Tryz.prog 122 #[.agg cs.toArray] w fun e w' => ∃ ds, e = .returned (.agg ds.toArray) ∧ Fresh DRecord.rep w.heap.size w' ds x ∧ Below w.heap.size w w' := by
  obtain ⟨fp, h⟩ := h
  obtain ⟨v1, f1, rfl, _, r1⟩ := DRecord.rd.1 h
  have HV1 : Hid (Reads (Rep.slice 156 DField.rep) w [v1] x.fields) := ⟨_, r1⟩
  have d1 : wtS DField.wt x.fields ≤ 1048576 := by unfold DRecord.wt at _hsmall; omega
  clear h r1
  go_enter Tryz.func122, Tryz.ntmps122
  go_wp2_with fail
  refine (toFieldS _ _ _ (HV1.out.below (by repeat (first | with_reducible exact belR | with_reducible apply belA | (with_reducible refine belS ?_ ?_; focus (first | omega | (simp; done) | (simp; omega))) | with_reducible apply belN | with_reducible apply belD | with_reducible assumption))) d1).mono ?_
  rintro e w1 ⟨t1, rfl, hf1, hb1⟩
  obtain ⟨ao1, cap1, rfl⟩ := hf1.slice
  obtain ⟨hc1, hfz1⟩ := bcell hb1
  have hs1 : w.heap.size + 1 + 1 + 1 ≤ w1.heap.size := by have y := hb1.size; simp at y; omega
  have hz10 : w.heap.size < w1.heap.size := by omega
  have hz11 : w.heap.size + 1 < w1.heap.size := by omega
  have hz12 : w.heap.size + 1 + 1 < w1.heap.size := by omega
  have HF1 := Lib.hid (hf1.mono (B' := w.heap.size + 1 + 1 + 1) (by first | omega | (simp; done) | (simp; omega)))
  have HB1 := Lib.hid (below_call (w := w) (by repeat (first | with_reducible exact belR | with_reducible apply belA | (with_reducible refine belS ?_ ?_; focus (first | omega | (simp; done) | (simp; omega))) | with_reducible apply belN | with_reducible apply belD | with_reducible assumption)) (by first | omega | (simp; done) | (simp; omega)) hb1)
  clear hb1 hf1
  go_wp2
  refine bodyPost_ret (v := .agg #[.slice ao1 x.fields.length cap1]) (by first | (simp [results, Tryz.results122, go_sem]; done) | (simp [results, Tryz.results122, go_sem, hc1]; done)) rfl ⟨_, rfl, ?_, ?_⟩
  · exact DRecord.fresh (HF1.out.part (by repeat (first | with_reducible exact abR | with_reducible apply abA | (with_reducible refine abS ?_ ?_; focus (first | omega | (simp; done) | (simp; omega))) | with_reducible apply abN | with_reducible apply abD | with_reducible assumption))) (by first | omega | (simp; done) | (simp; omega))  
  · have y := HB1.out
    exact (by repeat (first | with_reducible exact belR | with_reducible apply belA | (with_reducible refine belS ?_ ?_; focus (first | omega | (simp; done) | (simp; omega))) | with_reducible apply belN | with_reducible apply belD | with_reducible assumption))

set_option maxHeartbeats 800000 in
theorem eqRecord (cs ds : List Value) (x : DRecord) (w : World) (h : Reads DRecord.rep w cs x) (h' : Reads DRecord.rep w ds x) :
    Calls Tryz.prog 134 #[.agg cs.toArray, .agg ds.toArray] w fun e w' => e = .returned (.bool true) ∧ Below w.heap.size w w' := by
  obtain ⟨fp, h0⟩ := h
  obtain ⟨vv1, vf1, rfl, _, vr1⟩ := DRecord.rd.1 h0
  have HV1 : Hid (Reads (Rep.slice 156 DField.rep) w [vv1] x.fields) := ⟨_, vr1⟩
  clear h0 vr1
  obtain ⟨fp, h0⟩ := h'
  obtain ⟨uv1, uf1, rfl, _, ur1⟩ := DRecord.rd.1 h0
  have HU1 : Hid (Reads (Rep.slice 156 DField.rep) w [uv1] x.fields) := ⟨_, ur1⟩
  clear h0 ur1
  go_enter Tryz.func134, Tryz.ntmps134
  go_wp2_with fail
  refine (eqFieldS _ _ _ _ (HV1.out.below (by repeat (first | with_reducible exact belR | with_reducible apply belA | (with_reducible refine belS ?_ ?_; focus (first | omega | (simp; done) | (simp; omega))) | with_reducible apply belN | with_reducible apply belD | with_reducible assumption))) (HU1.out.below (by repeat (first | with_reducible exact belR | with_reducible apply belA | (with_reducible refine belS ?_ ?_; focus (first | omega | (simp; done) | (simp; omega))) | with_reducible apply belN | with_reducible apply belD | with_reducible assumption)))).mono ?_
  rintro e w1 ⟨rfl, hb1⟩
  obtain ⟨hc1, hfz1⟩ := bcell hb1
  have hs1 : w.heap.size + 1 + 1 ≤ w1.heap.size := by have y := hb1.size; simp at y; omega
  have hz10 : w.heap.size < w1.heap.size := by omega
  have hz11 : w.heap.size + 1 < w1.heap.size := by omega
  have HB1 := Lib.hid (below_call (w := w) (by repeat (first | with_reducible exact belR | with_reducible apply belA | (with_reducible refine belS ?_ ?_; focus (first | omega | (simp; done) | (simp; omega))) | with_reducible apply belN | with_reducible apply belD | with_reducible assumption)) (by first | omega | (simp; done) | (simp; omega)) hb1)
  clear hb1
  go_wp2
  go_ret
  have y := HB1.out
  exact ⟨rfl, (by repeat (first | with_reducible exact belR | with_reducible apply belA | (with_reducible refine belS ?_ ?_; focus (first | omega | (simp; done) | (simp; omega))) | with_reducible apply belN | with_reducible apply belD | with_reducible assumption))⟩

theorem infoRecord : (Tryz.prog.info? 132).map (fun i => (i.zero, i.size, i.bytes)) = some (some (.agg #[.slice none 0 0]), 1, 24) := by kernel_rfl

def DRecord.cnt (x : DRecord) : Nat := 0 + wtT DField.cnt x.fields x.fields.length
def DRecord.mk3 (k : Nat) (x : DRecord) : DRecord := ⟨marks DField.mk3 DField.cnt (k) x.fields⟩

def DRecord.mcnt (x : DRecord) : Nat := wtT DField.cnt x.fields x.fields.length
def DRecord.mks (x : DRecord) (k : Nat) : DRecord := { fields := marks DField.mk3 DField.cnt (k) x.fields }

end Go.Proofs.YtgicglmcapnogaaGreat


/-
  The laws' helpers for Item.
-/
namespace Go.Proofs.YtgicglmcapnogaaGreat
open Go.RowKit

def DItem.wt (x : DItem) : Nat := x.key.wt + x.record.wt

set_option maxHeartbeats 400000 in
theorem szItem (cs : List Value) (x : DItem) (left : Int) (w : World) (h : Reads DItem.rep w cs x) (h0 : 0 ≤ left) (h1 : left ≤ 1048576) :
    Calls Tryz.prog 90 #[.agg cs.toArray, .int .i64 left] w fun e w' => e = .returned (.int .i64 (szOf x.wt left)) ∧ Below w.heap.size w w' := by
  obtain ⟨fp, h⟩ := h
  obtain ⟨v1, f1, rfl, _, s0, r1⟩ := DItem.rd.1 h
  have HV1 : Hid (Reads DKey.rep w [.int .i64 x.key.kind, .int .i64 x.key.n, .string x.key.text] x.key) := ⟨_, DKey.rd.2 ⟨rfl, rfl, s0⟩⟩
  have HV2 : Hid (Reads DRecord.rep w [v1] x.record) := ⟨_, DRecord.rd.2 ⟨_, _, rfl, rfl, r1⟩⟩
  clear h r1
  unfold maxLen at s0
  go_enter Tryz.func90, Tryz.ntmps90
  go_wp2_with fail
  have q1 : 0 ≤ left ∧ left ≤ 1048576 := by
    omega
  refine (szKey _ _ _ _ (HV1.out.below (by repeat (first | with_reducible exact belR | with_reducible apply belA | (with_reducible refine belS ?_ ?_; focus (first | omega | (simp; done) | (simp; omega))) | with_reducible apply belN | with_reducible apply belD | with_reducible assumption))) q1.1 q1.2).mono ?_
  rintro e w1 ⟨rfl, hb1⟩
  obtain ⟨hc1, hfz1⟩ := bcell hb1
  have hz1 : w.heap.size < w1.heap.size := by have y := hb1.size; (try simp at y); omega
  have HB1 := Lib.hid (below_call (B := w.heap.size) (w := w) (by repeat (first | with_reducible exact belR | with_reducible apply belA | (with_reducible refine belS ?_ ?_; focus (first | omega | (simp; done) | (simp; omega))) | with_reducible apply belN | with_reducible apply belD | with_reducible assumption)) (by first | omega | (simp; done) | (simp; omega)) hb1); clear hb1
  have bl1 : -1 ≤ szOf (x.key.wt) (left) ∧ szOf (x.key.wt) (left) ≤ 1048576 := by
    have a0 := szOf_spec (x.key.wt) (left)
    omega
  obtain ⟨bl1, bu1⟩ := bl1
  go_wp2_with fail
  · go_ret
    have y0 := HB1.out
    refine ⟨ret_int ?_, (by repeat (first | with_reducible exact belR | with_reducible apply belA | (with_reducible refine belS ?_ ?_; focus (first | omega | (simp; done) | (simp; omega))) | with_reducible apply belN | with_reducible apply belD | with_reducible assumption))⟩
    go_light
    have a0 := szOf_spec x.wt left
    have a1 := szOf_spec (x.key.wt) (left)
    unfold DItem.wt at *
    omega
  have q2 : 0 ≤ szOf (x.key.wt) (left) ∧ szOf (x.key.wt) (left) ≤ 1048576 := by
    have a0 := szOf_spec (x.key.wt) (left)
    omega
  refine (szRecord _ _ _ _ (HV2.out.below (by have y := HB1.out; exact (by repeat (first | with_reducible exact belR | with_reducible apply belA | (with_reducible refine belS ?_ ?_; focus (first | omega | (simp; done) | (simp; omega))) | with_reducible apply belN | with_reducible apply belD | with_reducible assumption)))) q2.1 q2.2).mono ?_
  rintro e w2 ⟨rfl, hb2⟩
  obtain ⟨hc2, hfz2⟩ := bcell hb2
  have hz2 : w.heap.size < w2.heap.size := by have y := hb2.size; (try simp at y); omega
  have HB2 := Lib.hid (below_call (B := w.heap.size) (w := w) (by have y := HB1.out; exact (by repeat (first | with_reducible exact belR | with_reducible apply belA | (with_reducible refine belS ?_ ?_; focus (first | omega | (simp; done) | (simp; omega))) | with_reducible apply belN | with_reducible apply belD | with_reducible assumption))) (by first | omega | (simp; done) | (simp; omega)) hb2); clear hb2
  have bl2 : -1 ≤ szOf (x.record.wt) (szOf (x.key.wt) (left)) ∧ szOf (x.record.wt) (szOf (x.key.wt) (left)) ≤ 1048576 := by
    have a0 := szOf_spec (x.record.wt) (szOf (x.key.wt) (left))
    omega
  obtain ⟨bl2, bu2⟩ := bl2
  go_wp2_with fail
  · go_ret
    have y0 := HB1.out
    have y1 := HB2.out
    refine ⟨ret_int ?_, (by repeat (first | with_reducible exact belR | with_reducible apply belA | (with_reducible refine belS ?_ ?_; focus (first | omega | (simp; done) | (simp; omega))) | with_reducible apply belN | with_reducible apply belD | with_reducible assumption))⟩
    go_light
    have a0 := szOf_spec x.wt left
    have a1 := szOf_spec (x.key.wt) (left)
    have a2 := szOf_spec (x.record.wt) (szOf (x.key.wt) (left))
    unfold DItem.wt at *
    omega
  · go_ret
    have y0 := HB1.out
    have y1 := HB2.out
    refine ⟨ret_int ?_, (by repeat (first | with_reducible exact belR | with_reducible apply belA | (with_reducible refine belS ?_ ?_; focus (first | omega | (simp; done) | (simp; omega))) | with_reducible apply belN | with_reducible apply belD | with_reducible assumption))⟩
    go_light
    have a0 := szOf_spec x.wt left
    have a1 := szOf_spec (x.key.wt) (left)
    have a2 := szOf_spec (x.record.wt) (szOf (x.key.wt) (left))
    unfold DItem.wt at *
    omega

set_option maxHeartbeats 800000 in
theorem toItem (cs : List Value) (x : DItem) (w : World) (h : Reads DItem.rep w cs x) (_hsmall : x.wt ≤ 1048576) :
    Calls Tryz.prog 99 #[.agg cs.toArray] w fun e w' => ∃ ds, e = .returned (.agg ds.toArray) ∧ Fresh DItem.rep w.heap.size w' ds x ∧ Below w.heap.size w w' := by
  obtain ⟨fp, h⟩ := h
  obtain ⟨v1, f1, rfl, _, s0, r1⟩ := DItem.rd.1 h
  have HV1 : Hid (Reads DKey.rep w [.int .i64 x.key.kind, .int .i64 x.key.n, .string x.key.text] x.key) := ⟨_, DKey.rd.2 ⟨rfl, rfl, s0⟩⟩
  have d1 : x.key.wt ≤ 1048576 := by unfold DItem.wt at _hsmall; omega
  have HV2 : Hid (Reads DRecord.rep w [v1] x.record) := ⟨_, DRecord.rd.2 ⟨_, _, rfl, rfl, r1⟩⟩
  have d2 : x.record.wt ≤ 1048576 := by unfold DItem.wt at _hsmall; omega
  clear h r1
  go_enter Tryz.func99, Tryz.ntmps99
  go_wp2_with fail
  refine (toKey _ _ _ (HV1.out.below (by repeat (first | with_reducible exact belR | with_reducible apply belA | (with_reducible refine belS ?_ ?_; focus (first | omega | (simp; done) | (simp; omega))) | with_reducible apply belN | with_reducible apply belD | with_reducible assumption))) d1).mono ?_
  rintro e w1 ⟨t1, rfl, hf1, hb1⟩
  obtain ⟨_, hf1, _⟩ := hf1
  obtain ⟨rfl, _, _⟩ := DKey.rd.1 hf1
  obtain ⟨hc1, hfz1⟩ := bcell hb1
  have hs1 : w.heap.size + 1 + 1 + 1 ≤ w1.heap.size := by have y := hb1.size; (try simp at y); omega
  have hz10 : w.heap.size < w1.heap.size := by omega
  have hz11 : w.heap.size + 1 < w1.heap.size := by omega
  have hz12 : w.heap.size + 1 + 1 < w1.heap.size := by omega
  have HB1 := Lib.hid (below_call (B := w.heap.size) (w := w) (by repeat (first | with_reducible exact belR | with_reducible apply belA | (with_reducible refine belS ?_ ?_; focus (first | omega | (simp; done) | (simp; omega))) | with_reducible apply belN | with_reducible apply belD | with_reducible assumption)) (by first | omega | (simp; done) | (simp; omega)) hb1)
  clear hb1
  go_wp2_with fail
  refine (toRecord _ _ _ (HV2.out.below (by have y := HB1.out; exact (by repeat (first | with_reducible exact belR | with_reducible apply belA | (with_reducible refine belS ?_ ?_; focus (first | omega | (simp; done) | (simp; omega))) | with_reducible apply belN | with_reducible apply belD | with_reducible assumption)))) d2).mono ?_
  rintro e w2 ⟨t2, rfl, hf2, hb2⟩
  obtain ⟨ao1, cap1, rfl⟩ := DRecord.fshape hf2
  obtain ⟨hc2, hfz2⟩ := bcell hb2
  have hs2 : w1.heap.size ≤ w2.heap.size := by have y := hb2.size; (try simp at y); omega
  have hz20 : w.heap.size < w2.heap.size := by omega
  have hz21 : w.heap.size + 1 < w2.heap.size := by omega
  have hz22 : w.heap.size + 1 + 1 < w2.heap.size := by omega
  have HF2 := Lib.hid (hf2.mono (B' := w1.heap.size) (by first | omega | (simp; done) | (simp; omega)))
  have HB2 := Lib.hid (below_call (B := w.heap.size) (w := w) (by have y := HB1.out; exact (by repeat (first | with_reducible exact belR | with_reducible apply belA | (with_reducible refine belS ?_ ?_; focus (first | omega | (simp; done) | (simp; omega))) | with_reducible apply belN | with_reducible apply belD | with_reducible assumption))) (by first | omega | (simp; done) | (simp; omega)) hb2)
  clear hb2 hf2
  go_wp2
  refine bodyPost_ret (v := .agg #[.int .i64 x.key.kind, .int .i64 x.key.n, .string x.key.text, .slice ao1 x.record.fields.length cap1]) (by first | (simp [results, Tryz.results99, go_sem, hc1, hc2, hz11]; done)) rfl ⟨_, rfl, ?_, ?_⟩
  · exact DItem.fresh (HF2.out.part (by repeat (first | with_reducible exact abR | with_reducible apply abA | (with_reducible refine abS ?_ ?_; focus (first | omega | (simp; done) | (simp; omega))) | with_reducible apply abN | with_reducible apply abD | with_reducible assumption))) (by first | omega | (simp; done) | (simp; omega))  s0
  · have y := HB2.out
    exact (by repeat (first | with_reducible exact belR | with_reducible apply belA | (with_reducible refine belS ?_ ?_; focus (first | omega | (simp; done) | (simp; omega))) | with_reducible apply belN | with_reducible apply belD | with_reducible assumption))

set_option maxHeartbeats 800000 in
theorem eqItem (cs ds : List Value) (x : DItem) (w : World) (h : Reads DItem.rep w cs x) (h' : Reads DItem.rep w ds x) :
    Calls Tryz.prog 113 #[.agg cs.toArray, .agg ds.toArray] w fun e w' => e = .returned (.bool true) ∧ Below w.heap.size w w' := by
  obtain ⟨fp, h0⟩ := h
  obtain ⟨vv1, vf1, rfl, _, vs0, vr1⟩ := DItem.rd.1 h0
  have HV1 : Hid (Reads DKey.rep w [.int .i64 x.key.kind, .int .i64 x.key.n, .string x.key.text] x.key) := ⟨_, DKey.rd.2 ⟨rfl, rfl, vs0⟩⟩
  have HV2 : Hid (Reads DRecord.rep w [vv1] x.record) := ⟨_, DRecord.rd.2 ⟨_, _, rfl, rfl, vr1⟩⟩
  clear h0 vr1
  obtain ⟨fp, h0⟩ := h'
  obtain ⟨uv1, uf1, rfl, _, us0, ur1⟩ := DItem.rd.1 h0
  have HU1 : Hid (Reads DKey.rep w [.int .i64 x.key.kind, .int .i64 x.key.n, .string x.key.text] x.key) := ⟨_, DKey.rd.2 ⟨rfl, rfl, us0⟩⟩
  have HU2 : Hid (Reads DRecord.rep w [uv1] x.record) := ⟨_, DRecord.rd.2 ⟨_, _, rfl, rfl, ur1⟩⟩
  clear h0 ur1
  go_enter Tryz.func113, Tryz.ntmps113
  go_wp2_with fail
  refine (eqKey _ _ _ _ (HV1.out.below (by repeat (first | with_reducible exact belR | with_reducible apply belA | (with_reducible refine belS ?_ ?_; focus (first | omega | (simp; done) | (simp; omega))) | with_reducible apply belN | with_reducible apply belD | with_reducible assumption))) (HU1.out.below (by repeat (first | with_reducible exact belR | with_reducible apply belA | (with_reducible refine belS ?_ ?_; focus (first | omega | (simp; done) | (simp; omega))) | with_reducible apply belN | with_reducible apply belD | with_reducible assumption)))).mono ?_
  rintro e w1 ⟨rfl, hb1⟩
  obtain ⟨hc1, hfz1⟩ := bcell hb1
  have hs1 : w.heap.size + 1 + 1 ≤ w1.heap.size := by have y := hb1.size; (try simp at y); omega
  have hz10 : w.heap.size < w1.heap.size := by omega
  have hz11 : w.heap.size + 1 < w1.heap.size := by omega
  have HB1 := Lib.hid (below_call (B := w.heap.size) (w := w) (by repeat (first | with_reducible exact belR | with_reducible apply belA | (with_reducible refine belS ?_ ?_; focus (first | omega | (simp; done) | (simp; omega))) | with_reducible apply belN | with_reducible apply belD | with_reducible assumption)) (by first | omega | (simp; done) | (simp; omega)) hb1)
  clear hb1
  go_wp2_with fail
  refine (eqRecord _ _ _ _ (HV2.out.below (by have y := HB1.out; exact (by repeat (first | with_reducible exact belR | with_reducible apply belA | (with_reducible refine belS ?_ ?_; focus (first | omega | (simp; done) | (simp; omega))) | with_reducible apply belN | with_reducible apply belD | with_reducible assumption)))) (HU2.out.below (by have y := HB1.out; exact (by repeat (first | with_reducible exact belR | with_reducible apply belA | (with_reducible refine belS ?_ ?_; focus (first | omega | (simp; done) | (simp; omega))) | with_reducible apply belN | with_reducible apply belD | with_reducible assumption))))).mono ?_
  rintro e w2 ⟨rfl, hb2⟩
  obtain ⟨hc2, hfz2⟩ := bcell hb2
  have hs2 : w1.heap.size ≤ w2.heap.size := by have y := hb2.size; (try simp at y); omega
  have hz20 : w.heap.size < w2.heap.size := by omega
  have hz21 : w.heap.size + 1 < w2.heap.size := by omega
  have HB2 := Lib.hid (below_call (B := w.heap.size) (w := w) (by have y := HB1.out; exact (by repeat (first | with_reducible exact belR | with_reducible apply belA | (with_reducible refine belS ?_ ?_; focus (first | omega | (simp; done) | (simp; omega))) | with_reducible apply belN | with_reducible apply belD | with_reducible assumption))) (by first | omega | (simp; done) | (simp; omega)) hb2)
  clear hb2
  go_wp2
  go_ret
  have y := HB2.out
  exact ⟨rfl, (by repeat (first | with_reducible exact belR | with_reducible apply belA | (with_reducible refine belS ?_ ?_; focus (first | omega | (simp; done) | (simp; omega))) | with_reducible apply belN | with_reducible apply belD | with_reducible assumption))⟩

set_option maxHeartbeats 400000 in
theorem szItemS (v : Value) (l : List DItem) (left : Int) (w : World) (h : Reads (Rep.slice 134 DItem.rep) w [v] l) (h0 : 0 ≤ left) (h1 : left ≤ 1048576) :
    Calls Tryz.prog 62 #[v, .int .i64 left] w fun e w' => e = .returned (.int .i64 (szOf (wtS DItem.wt l) left)) ∧ Below w.heap.size w w' := by
  have HK := Lib.hid h
  obtain ⟨fp, h⟩ := h
  obtain ⟨ao, c1, rfl, hm, _, hu⟩ := slice_open h
  clear hu h
  go_enter Tryz.func62, Tryz.ntmps62
  go_wp2
  · go_ret
    refine ⟨ret_int ?_, (by repeat (first | with_reducible exact belR | with_reducible apply belA | (with_reducible refine belS ?_ ?_; focus (first | omega | (simp; done) | (simp; omega))) | with_reducible apply belN | with_reducible apply belD | with_reducible assumption))⟩
    go_light
    have a0 := szOf_spec (wtS DItem.wt l) left
    have a1 := wtS_ge DItem.wt l
    omega
  · go_loopw [1, 5] (fun a i wr => ∃ k : Nat, k ≤ l.length ∧ i = .int .i64 k ∧ a = .int .i64 (left - l.length - wtT DItem.wt l k) ∧ 0 ≤ left - l.length - wtT DItem.wt l k ∧ Below w.heap.size w wr) (fun _ i _ => l.length - (intOf i).toNat)
    case atStart => exact ⟨0, by omega, rfl, by simp [wtT], by simp [wtT]; omega, (by repeat (first | with_reducible exact belR | with_reducible apply belA | (with_reducible refine belS ?_ ?_; focus (first | omega | (simp; done) | (simp; omega))) | with_reducible apply belN | with_reducible apply belD | with_reducible assumption))⟩
    case round =>
      obtain ⟨k, hk, rfl, rfl, hpos, hb⟩ := hrel
      have HB := Lib.hid hb; clear hb
      by_cases hlt : k < l.length
      · obtain ⟨b, off, cs, rfl, bw, hr, hcell⟩ := slice_at (HK.out.below HB.out) k hlt
        obtain ⟨fe, hrd⟩ := hr
        obtain ⟨v1, _, rfl, _, _, _⟩ := DItem.rd.1 hrd
        have HR : Hid (Reads DItem.rep wr _ l[k]) := ⟨_, hrd⟩
        clear hrd
        have hc0 : wr.cell? ⟨b, off + k * 4, none⟩ = some (.int .i64 l[k].key.kind) := hcell 0 (by decide)
        have hc1 : wr.cell? ⟨b, off + k * 4 + 1, none⟩ = some (.int .i64 l[k].key.n) := hcell 1 (by decide)
        have hc2 : wr.cell? ⟨b, off + k * 4 + 2, none⟩ = some (.string l[k].key.text) := hcell 2 (by decide)
        have hc3 : wr.cell? ⟨b, off + k * 4 + 3, none⟩ = some (v1) := hcell 3 (by decide)
        clear hcell
        go_wp2_with fail
        refine (szItem _ _ _ _ HR.out (by omega) (by omega)).mono ?_
        rintro e w1 ⟨rfl, hb1⟩
        have HB1 := Lib.hid (below_call HB.out HB.out.size hb1); clear hb1
        go_wp2
        · go_ret
          refine ⟨ret_int ?_, HB1.out⟩
          go_light
          have a0 := szOf_spec (DItem.wt l[k]) (left - l.length - wtT DItem.wt l k)
          have a1 := szOf_spec (wtS DItem.wt l) left
          have a2 := wtT_le DItem.wt l (k + 1)
          rw [wtT_succ _ _ _ hlt] at a2
          unfold wtS at a1 ⊢
          omega
        · go_light
          have a0 := szOf_spec (DItem.wt l[k]) (left - l.length - wtT DItem.wt l k)
          have a2 := wtT_succ DItem.wt l k hlt
          have e : szOf (DItem.wt l[k]) (left - l.length - wtT DItem.wt l k) = left - l.length - wtT DItem.wt l (k + 1) := by omega
          refine ⟨⟨k + 1, by omega, by go_num, by rw [e], by omega, HB1.out⟩, by simp [intOf]; omega⟩
      · go_wp2
        go_ret
        refine ⟨ret_int ?_, HB.out⟩
        go_light
        obtain rfl : k = l.length := by omega
        have a1 := szOf_spec (wtS DItem.wt l) left
        have a2 := wtT_all DItem.wt l
        unfold wtS at a1 ⊢
        omega

theorem infoItem : (Tryz.prog.info? 134).map (fun i => (i.zero, i.size, i.bytes)) = some (some (.agg #[.int .i64 0, .int .i64 0, .string ⟨#[]⟩, .slice none 0 0]), 4, 56) := by kernel_rfl

set_option maxRecDepth 100000 in
set_option maxHeartbeats 800000 in
theorem toItemS (u : Value) (l : List DItem) (w : World) (hu : Reads (Rep.slice 134 DItem.rep) w [u] l) (hsmall : wtS DItem.wt l ≤ 1048576) :
    Calls Tryz.prog 71 #[u] w fun e w' => ∃ v, e = .returned v ∧ Fresh (Rep.slice 134 DItem.rep) w.heap.size w' [v] l ∧ Below w.heap.size w w' := by
  have HK := Lib.hid hu
  obtain ⟨fp, hu⟩ := hu
  obtain ⟨ao, c1, rfl, hm, _, hu⟩ := slice_open hu
  clear hu
  have hlen := wtS_ge DItem.wt l
  have HW := Lib.hid hsmall
  obtain ⟨i0, hi, hz0, hz1, hz2⟩ := info_parts infoItem
  go_enter Tryz.func71, Tryz.ntmps71
  go_wp2_with (at_make; refine wpList_make_full _ rfl _ _ 40 rfl w.heap.size 134 i0 _ 4 Tryz.underlying40 hi hz0 hz1 _ _ _ _ l.length rfl rfl rfl rfl ?c1 ?c2 (Nat.le_refl _) ?_)
  case c1 => rw [hz2]; omega
  case c2 => unfold maxLen; omega
  intro w1 hown hgrow
  have hf : Filling DItem.rep 134 w.heap.size w.heap.size l.length l 0 w1 := Filling.start hown (Nat.le_refl _)
  have hb1 : Below w.heap.size w w1 := (Below.refl _ _).grown hgrow (Nat.le_refl _) (by intro k hk; cases hk)
  have HF := Lib.hid hf; clear hf hown
  have HB := Lib.hid hb1; clear hb1 hgrow
  go_wp2
  go_loopw [4] (fun i wr => ∃ k : Nat, k ≤ l.length ∧ i = .int .i64 k ∧ Filling DItem.rep 134 w.heap.size w.heap.size l.length l k wr ∧ Below w.heap.size w wr) (fun i _ => l.length - (intOf i).toNat)
  case atStart => exact ⟨0, by omega, rfl, HF.out, HB.out⟩
  case round =>
    obtain ⟨k, hk, rfl, hf, hb⟩ := hrel
    have HB := Lib.hid hb; clear hb
    have HF := Lib.hid hf; clear hf
    by_cases hlt : k < l.length
    · obtain ⟨b, off, cs, rfl, bw, hr, hcell⟩ := slice_at (HK.out.below HB.out) k hlt
      obtain ⟨fe, hrd⟩ := hr
      obtain ⟨v1, _, rfl, _, _, _⟩ := DItem.rd.1 hrd
      have HR : Hid (Reads DItem.rep wr _ l[k]) := ⟨_, hrd⟩
      clear hrd
      have hc0 : wr.cell? ⟨b, off + k * 4, none⟩ = some (.int .i64 l[k].key.kind) := hcell 0 (by decide)
      have hc1 : wr.cell? ⟨b, off + k * 4 + 1, none⟩ = some (.int .i64 l[k].key.n) := hcell 1 (by decide)
      have hc2 : wr.cell? ⟨b, off + k * 4 + 2, none⟩ = some (.string l[k].key.text) := hcell 2 (by decide)
      have hc3 : wr.cell? ⟨b, off + k * 4 + 3, none⟩ = some (v1) := hcell 3 (by decide)
      clear hcell
      go_wp2_with fail
      refine (toItem _ _ _ HR.out (Nat.le_trans (wtS_elem DItem.wt l k hlt) HW.out)).mono ?_
      rintro e w1 ⟨ds, rfl, hfr, hb1⟩
      have HF1 := Lib.hid (Filling.step hlt rfl HF.out hb1 hfr)
      have HB1 := Lib.hid (setCells_below (Nat.le_refl _) ds (k * 4) _ (below_call HB.out HB.out.size hb1))
      obtain ⟨hcs, hfz⟩ := (HF.out.below hb1).cells hlt
      obtain ⟨fd, hrd, _⟩ := hfr
      obtain ⟨p1, q1, rfl⟩ := DItem.shape hrd
      obtain ⟨z0, hy0⟩ : ∃ u, w1.cell? ⟨w.heap.size, k * 4, none⟩ = some u := hcs 0 (by decide)
      obtain ⟨z1, hy1⟩ : ∃ u, w1.cell? ⟨w.heap.size, k * 4 + 1, none⟩ = some u := hcs 1 (by decide)
      obtain ⟨z2, hy2⟩ : ∃ u, w1.cell? ⟨w.heap.size, k * 4 + 2, none⟩ = some u := hcs 2 (by decide)
      obtain ⟨z3, hy3⟩ : ∃ u, w1.cell? ⟨w.heap.size, k * 4 + 3, none⟩ = some u := hcs 3 (by decide)
      clear hcs hb1 hrd hc0 hc1 hc2 hc3
      go_wp2
      go_light
      exact ⟨⟨k + 1, by omega, by go_num, HF1.out, HB1.out⟩, by simp [intOf]; omega⟩
    · have HW : Hid (Fresh (Rep.slice 134 DItem.rep) w.heap.size wr [.slice (some ⟨w.heap.size, 0, none⟩) l.length l.length] l) := by
        have e : k = l.length := by omega
        have hf := HF.out
        rw [e] at hf
        exact hf.done rfl
      go_wp2
      go_ret
      exact ⟨_, rfl, HW.out, HB.out⟩

set_option maxRecDepth 100000 in
set_option maxHeartbeats 800000 in
theorem eqItemS (u v : Value) (l : List DItem) (w : World) (h : Reads (Rep.slice 134 DItem.rep) w [u] l) (h' : Reads (Rep.slice 134 DItem.rep) w [v] l) :
    Calls Tryz.prog 84 #[u, v] w fun e w' => e = .returned (.bool true) ∧ Below w.heap.size w w' := by
  have HK := Lib.hid h
  obtain ⟨fp, h⟩ := h
  obtain ⟨ao, c1, rfl, hm, _, hu⟩ := slice_open h
  clear hu h
  have HK' := Lib.hid h'
  obtain ⟨fp, h⟩ := h'
  obtain ⟨bo, c2, rfl, _, _, hu⟩ := slice_open h
  clear hu h
  go_enter Tryz.func84, Tryz.ntmps84
  go_wp2
  go_loopw [5] (fun i wr => ∃ k : Nat, k ≤ l.length ∧ i = .int .i64 k ∧ Below w.heap.size w wr) (fun i _ => l.length - (intOf i).toNat)
  case atStart => exact ⟨0, by omega, rfl, (by repeat (first | with_reducible exact belR | with_reducible apply belA | (with_reducible refine belS ?_ ?_; focus (first | omega | (simp; done) | (simp; omega))) | with_reducible apply belN | with_reducible apply belD | with_reducible assumption))⟩
  case round =>
    obtain ⟨k, hk, rfl, hb⟩ := hrel
    have HB := Lib.hid hb; clear hb
    by_cases hlt : k < l.length
    · obtain ⟨b, off, cs, rfl, bw, hr, hcell⟩ := slice_at (HK.out.below HB.out) k hlt
      obtain ⟨fe, hrd⟩ := hr
      obtain ⟨v1, _, rfl, _, _, _⟩ := DItem.rd.1 hrd
      have HR : Hid (Reads DItem.rep wr _ l[k]) := ⟨_, hrd⟩
      clear hrd
      have hc0 : wr.cell? ⟨b, off + k * 4, none⟩ = some (.int .i64 l[k].key.kind) := hcell 0 (by decide)
      have hc1 : wr.cell? ⟨b, off + k * 4 + 1, none⟩ = some (.int .i64 l[k].key.n) := hcell 1 (by decide)
      have hc2 : wr.cell? ⟨b, off + k * 4 + 2, none⟩ = some (.string l[k].key.text) := hcell 2 (by decide)
      have hc3 : wr.cell? ⟨b, off + k * 4 + 3, none⟩ = some (v1) := hcell 3 (by decide)
      clear hcell
      obtain ⟨b', off', cs, rfl, b'w, hr, hcell⟩ := slice_at (HK'.out.below HB.out) k hlt
      obtain ⟨fe, hrd⟩ := hr
      obtain ⟨uv1, _, rfl, _, _, _⟩ := DItem.rd.1 hrd
      have HR' : Hid (Reads DItem.rep wr _ l[k]) := ⟨_, hrd⟩
      clear hrd
      have hd0 : wr.cell? ⟨b', off' + k * 4, none⟩ = some (.int .i64 l[k].key.kind) := hcell 0 (by decide)
      have hd1 : wr.cell? ⟨b', off' + k * 4 + 1, none⟩ = some (.int .i64 l[k].key.n) := hcell 1 (by decide)
      have hd2 : wr.cell? ⟨b', off' + k * 4 + 2, none⟩ = some (.string l[k].key.text) := hcell 2 (by decide)
      have hd3 : wr.cell? ⟨b', off' + k * 4 + 3, none⟩ = some (uv1) := hcell 3 (by decide)
      clear hcell
      go_wp2_with fail
      go_still_tail 8, (by kernel_rfl)
      change wpList _ _ _ _ _ wr.drew
      go_wp2_with fail
      refine (eqItem _ _ _ _ (HR.out.below (by repeat (first | with_reducible exact belR | with_reducible apply belA | (with_reducible refine belS ?_ ?_; focus (first | omega | (simp; done) | (simp; omega))) | with_reducible apply belN | with_reducible apply belD | with_reducible assumption))) (HR'.out.below (by repeat (first | with_reducible exact belR | with_reducible apply belA | (with_reducible refine belS ?_ ?_; focus (first | omega | (simp; done) | (simp; omega))) | with_reducible apply belN | with_reducible apply belD | with_reducible assumption)))).mono ?_
      rintro e w1 ⟨rfl, hb1⟩
      have HB1 := Lib.hid (below_call (belD HB.out) (belD HB.out).size hb1); clear hb1
      go_wp2
      go_light
      exact ⟨⟨k + 1, by omega, by go_num, HB1.out⟩, by simp [intOf]; omega⟩
    · go_wp2
      go_ret
      exact ⟨rfl, HB.out⟩

def DItem.cnt (x : DItem) : Nat := 3 + wtT DField.cnt x.record.fields x.record.fields.length
def DItem.mk3 (k : Nat) (x : DItem) : DItem := ⟨⟨((k : Int)), ((k : Int) + 1), markT (k + 2)⟩, ⟨marks DField.mk3 DField.cnt (k + 3) x.record.fields⟩⟩

def DItem.mcnt (x : DItem) : Nat := x.record.mcnt
def DItem.mks (x : DItem) (k : Nat) : DItem := { x with record := x.record.mks (k) }

set_option maxRecDepth 100000 in
set_option maxHeartbeats 1600000 in
theorem markItemS (v : Value) (l : List DItem) (fp : List Nat) (k : Nat) (w : World) (h : (Rep.slice 134 DItem.rep).rd true w [v] l fp) (hnd : fp.Nodup) (hk : k + wtT DItem.cnt l l.length ≤ 1000000000) :
    Calls Tryz.prog 87 #[v, .int .i64 k] w fun e w' => e = .returned (.int .i64 ((k + wtT DItem.cnt l l.length : Nat) : Int)) ∧ (Rep.slice 134 DItem.rep).rd true w' [v] (marks DItem.mk3 DItem.cnt k l) fp ∧ Chg fp w w' := by
  have HM : Hid (Marking DItem.rep 134 DItem.mk3 DItem.cnt k l v fp w 0 w) := ⟨by rw [marked_zero]; exact h, Chg.refl⟩
  obtain ⟨ao, c1, rfl, hm, _, hu⟩ := slice_open h
  clear hu h
  go_enter Tryz.func87, Tryz.ntmps87
  go_wp2
  go_loopw [1, 5] (fun a i wr => ∃ j : Nat, j ≤ l.length ∧ i = .int .i64 j ∧ a = .int .i64 ((k + wtT DItem.cnt l j : Nat) : Int) ∧ Marking DItem.rep 134 DItem.mk3 DItem.cnt k l (.slice ao l.length c1) fp w j wr) (fun _ i _ => l.length - (intOf i).toNat)
  case atStart => exact ⟨0, by omega, rfl, by simp [wtT], HM.out⟩
  case round =>
    obtain ⟨j, hj, rfl, rfl, hma⟩ := hrel
    have HM := Lib.hid hma; clear hma
    by_cases hlt : j < l.length
    · have hw1 := wtT_succ DItem.cnt l j hlt
      have hw2 := wtT_mono DItem.cnt l (j + 1) l.length hlt
      generalize hq : k + wtT DItem.cnt l j = q at *
      have hqc : q + DItem.cnt l[j] ≤ 1000000000 := by omega
      unfold DItem.cnt at hqc
      have HQ := Lib.hid hq; clear hq hw1 hw2
      have hlt' : j < (marked DItem.mk3 DItem.cnt k l j).length := by rw [marked_length]; exact hlt
      obtain ⟨g, cap, xs, cs, fe, hv, hg, hgfe, hfesub, hfend, hown, hrd, hcs, hshut⟩ := own_open HM.out.1 hnd j hlt'
      rw [marked_length] at hv hown
      simp only [Value.slice.injEq] at hv
      obtain ⟨rfl, _, rfl⟩ := hv
      have HG := Lib.hid hg; clear hg
      have HS := Lib.hid hshut; clear hshut
      have HFE := Lib.hid hfesub; clear hfesub
      have hval := marked_get DItem.mk3 DItem.cnt k l j hlt
      rw [List.getElem?_eq_getElem hlt'] at hval
      rw [Option.some.inj hval] at hrd
      clear hval
      have HO := Lib.hid hown; clear hown
      obtain ⟨v1, f1, rfl, hfe, _, r1⟩ := DItem.rd.1 hrd
      subst hfe
      have n0 := hfend
      have R0 := Lib.hid r1
      have HC : Hid (Chg (g :: (fe)) wr wr) := Chg.refl
      have X0 : Hid (xs[j * 4 + 3]? = some v1) := hcs 3 (by decide)
      have X9 : Hid (xs[j * 4 + 3]? = some v1) := Lib.hid X0.out
      clear hrd hcs r1
      obtain ⟨hcs, hfzwr⟩ := own_cells HO.out hlt
      obtain ⟨zwr_0, hzwr_0⟩ : ∃ u, wr.cell? ⟨g, j * 4, none⟩ = some u := hcs 0 (by decide)
      obtain ⟨zwr_1, hzwr_1⟩ : ∃ u, wr.cell? ⟨g, j * 4 + 1, none⟩ = some u := hcs 1 (by decide)
      obtain ⟨zwr_2, hzwr_2⟩ : ∃ u, wr.cell? ⟨g, j * 4 + 2, none⟩ = some u := hcs 2 (by decide)
      have hzwr_3 : wr.cell? ⟨g, j * 4 + 3, none⟩ = some v1 := (World.ownsRow.cellAt HO.out _ (own_lt hlt 3 (by decide))).trans X0.out
      clear hcs
      go_wp2_with fail
      replace HO := Lib.hid (setCells_owns [.int .i64 ((q : Int)), .int .i64 ((q : Int) + 1)] (j * 4) _ _ HO.out)
      replace R0 := Lib.hid (rd_sets (R := (Rep.slice 156 DField.rep)) [.int .i64 ((q : Int)), .int .i64 ((q : Int) + 1)] (j * 4) R0.out (fun hx => hgfe hx))
      replace HC := Lib.hid (Chg.sets (g := g) (by simp) [.int .i64 ((q : Int)), .int .i64 ((q : Int) + 1)] (j * 4) _ HC.out)
      replace X0 := Lib.hid ((setL_ge [.int .i64 ((q : Int)), .int .i64 ((q : Int) + 1)] (j * 4) _ _ (by simp only [List.length_cons, List.length_nil]; omega)).trans X0.out)
      refine (markTextI (q + 2) _ (by omega) (by omega) _).mono ?_
      rintro e m1 ⟨rfl, hb⟩
      replace HO := Lib.hid (own_below HO.out hb (Nat.le_refl _))
      replace R0 := Lib.hid (rd_below hb R0.out)
      replace HC := Lib.hid (HC.out.trans (Chg.of_below hb (Nat.le_refl _)))
      clear hb
      clear hfzwr hzwr_0 hzwr_1 hzwr_2 hzwr_3
      obtain ⟨hcs, hfzm1⟩ := own_cells HO.out hlt
      obtain ⟨zm1_2, hzm1_2⟩ : ∃ u, m1.cell? ⟨g, j * 4 + 2, none⟩ = some u := hcs 2 (by decide)
      have hzm1_3 : m1.cell? ⟨g, j * 4 + 3, none⟩ = some v1 := (World.ownsRow.cellAt HO.out _ (own_lt hlt 3 (by decide))).trans X0.out
      clear hcs
      go_wp2_with fail
      replace HO := Lib.hid (setCells_owns [.string (markT (q + 2))] (j * 4 + 2) _ _ HO.out)
      replace R0 := Lib.hid (rd_sets (R := (Rep.slice 156 DField.rep)) [.string (markT (q + 2))] (j * 4 + 2) R0.out (fun hx => hgfe hx))
      replace HC := Lib.hid (Chg.sets (g := g) (by simp) [.string (markT (q + 2))] (j * 4 + 2) _ HC.out)
      replace X0 := Lib.hid ((setL_ge [.string (markT (q + 2))] (j * 4 + 2) _ _ (by simp only [List.length_cons, List.length_nil]; omega)).trans X0.out)
      refine (markFieldSI _ _ fe (q + 3) _ (by omega) _ R0.out n0 (by omega)).mono ?_
      rintro e m2 ⟨rfl, rd, ch⟩
      replace HO := Lib.hid (own_chg HO.out ch (fun hx => hgfe hx))
      replace R0 := Lib.hid rd
      replace HC := Lib.hid (HC.out.trans (ch.mono fun b hb => List.mem_cons_of_mem _ hb))
      clear rd ch
      clear hfzm1 hzm1_2 hzm1_3
      generalize hq2 : q + 3 + wtT DField.cnt l[j].record.fields l[j].record.fields.length = q2 at *
      have HQq2 := Lib.hid hq2
      have hqq2 : q2 ≤ 1000000000 := by omega
      clear hq2
      have hfzm2 : True := trivial
      go_wp2
      go_light
      have hlt1 := (Rep.slice 134 DItem.rep).lt HM.out.1
      have hm' := marked_succ DItem.mk3 DItem.cnt k l j hlt
      rw [HQ.out] at hm'
      refine ⟨⟨j + 1, by omega, by go_num, ?_, ?_, ?_⟩, by simp [intOf]; omega⟩
      · rw [wtT_succ _ _ _ hlt, ← Nat.add_assoc, HQ.out]
        unfold DItem.cnt
        have yq2 := HQq2.out
        exact val_int (by omega)
      · rw [← hm']
        have yq2 := HQq2.out
        unfold DItem.mk3
        try subst yq2
        refine HS.out _ [.int .i64 ((q : Int)), .int .i64 ((q : Int) + 1), .string (markT (q + 2)), v1] _ (by
          rw [marked_length]
          refine own_eq HO.out ?_
          show _ = setL xs (j * 4) _
          simp only [setL, Nat.add_assoc, Nat.reduceAdd]
          rw [set_noop (i := j * 4 + 3) (v := v1) (by simp; exact X9.out)]) (DItem.rd.2 ⟨_, _, rfl, rfl, (by first | exact markT_le _ | (dsimp only; exact markT_le _)), R0.out⟩) fun b hb hbg hbf => ?_
        exact HC.out.block b (hlt1 b hb) (by rw [List.mem_cons]; exact fun hx => hx.elim hbg hbf)
      · exact HM.out.2.trans (HC.out.mono fun b hb => (List.mem_cons.1 hb).elim (fun hx => by rw [hx]; exact HG.out) (HFE.out b))
    · have e : j = l.length := by omega
      have HE := Lib.hid e; clear e
      go_wp2
      go_ret
      have hm' := HM.out
      rw [HE.out] at hm' ⊢
      rw [Marking, marked_all] at hm'
      exact ⟨rfl, hm'.1, hm'.2⟩
theorem markItemSI (v : Value) (l : List DItem) (fp : List Nat) (k : Nat) (a : Int) (ha : a = k) (w : World) (h : (Rep.slice 134 DItem.rep).rd true w [v] l fp) (hnd : fp.Nodup) (hk : k + wtT DItem.cnt l l.length ≤ 1000000000) :
    Calls Tryz.prog 87 #[v, .int .i64 a] w fun e w' => e = .returned (.int .i64 ((k + wtT DItem.cnt l l.length : Nat) : Int)) ∧ (Rep.slice 134 DItem.rep).rd true w' [v] (marks DItem.mk3 DItem.cnt k l) fp ∧ Chg fp w w' := by
  subst ha; exact markItemS v l fp k w h hnd hk

set_option maxRecDepth 100000 in
set_option maxHeartbeats 1600000 in
theorem heldItemS (v : Value) (l : List DItem) (k : Nat) (w : World) (h : Reads (Rep.slice 134 DItem.rep) w [v] (marks DItem.mk3 DItem.cnt k l)) (hk : k + wtT DItem.cnt l l.length ≤ 1000000000) :
    Calls Tryz.prog 89 #[v, .int .i64 k] w fun e w' => e = .returned (.int .i64 ((k + wtT DItem.cnt l l.length : Nat) : Int)) ∧ Below w.heap.size w w' := by
  have HK := Lib.hid h
  obtain ⟨fp, hu⟩ := h
  obtain ⟨ao, c1, rfl, hm, _, hu⟩ := slice_open hu
  clear hu
  rw [marks_length] at HK hm ⊢
  go_enter Tryz.func89, Tryz.ntmps89
  go_wp2
  go_loopw [1, 5] (fun a i wr => ∃ j : Nat, j ≤ l.length ∧ i = .int .i64 j ∧ a = .int .i64 ((k + wtT DItem.cnt l j : Nat) : Int) ∧ Below w.heap.size w wr) (fun _ i _ => l.length - (intOf i).toNat)
  case atStart => exact ⟨0, by omega, rfl, by simp [wtT], (by repeat (first | with_reducible exact belR | with_reducible apply belA | (with_reducible refine belS ?_ ?_; focus (first | omega | (simp; done) | (simp; omega))) | with_reducible apply belN | with_reducible apply belD | with_reducible assumption))⟩
  case round =>
    obtain ⟨j, hj, rfl, rfl, hb⟩ := hrel
    have HB := Lib.hid hb; clear hb
    by_cases hlt : j < l.length
    · have hw1 := wtT_succ DItem.cnt l j hlt
      have hw2 := wtT_mono DItem.cnt l (j + 1) l.length hlt
      have hlt' : j < (marks DItem.mk3 DItem.cnt k l).length := by rw [marks_length]; exact hlt
      have hval := marks_at DItem.mk3 DItem.cnt k l j hlt hlt'
      generalize hq : k + wtT DItem.cnt l j = q at *
      have hqc : q + DItem.cnt l[j] ≤ 1000000000 := by omega
      unfold DItem.cnt at hqc
      have HQ := Lib.hid hq; clear hq hw1 hw2
      obtain ⟨b, off, cs, rfl, hbw, hr, hcell⟩ := slice_at (HK.out.below HB.out) j hlt'
      rw [hval] at hr
      clear hval
      obtain ⟨fe, hrd⟩ := hr
      obtain ⟨v1, _, rfl, _, _, r1⟩ := DItem.rd.1 hrd
      have R0 : Hid (Reads (Rep.slice 156 DField.rep) wr [v1] (marks DField.mk3 DField.cnt (q + 3) l[j].record.fields)) := ⟨_, r1⟩
      have hc0 : wr.cell? ⟨b, off + j * 4, none⟩ = some (.int .i64 ((q : Int))) := hcell 0 (by decide)
      have hc1 : wr.cell? ⟨b, off + j * 4 + 1, none⟩ = some (.int .i64 ((q : Int) + 1)) := hcell 1 (by decide)
      have hc2 : wr.cell? ⟨b, off + j * 4 + 2, none⟩ = some (.string (markT (q + 2))) := hcell 2 (by decide)
      have hc3 : wr.cell? ⟨b, off + j * 4 + 3, none⟩ = some (v1) := hcell 3 (by decide)
      clear hcell hrd r1
      generalize hp1 : q + 3 + wtT DField.cnt l[j].record.fields l[j].record.fields.length = p1 at *
      have HP1 := Lib.hid hp1
      have hbp1 : p1 ≤ 1000000000 := by omega
      clear hp1
      go_wp2_with fail
      go_region_held3 (fun w' => w'.cell? ⟨b, off + j * 4 + 2, none⟩ = some (.string (markT (q + 2))) ∧ Below wr.heap.size wr w') (first | exact ⟨hc2, belD belR⟩ | exact ⟨(hb1.cell (p := ⟨b, off + j * 4 + 2, none⟩) hbw).trans hc2, (belD belR).trans hb1⟩)
        (first | (go_at_call 88; refine (markTextI (q + 2) _ (by omega) (by omega) _).mono ?_; rintro e m1 ⟨rfl, hb1⟩))
      obtain ⟨_, hbn⟩ := ‹_ ∧ Below wr.heap.size wr m1›
      have hm1_3 : m1.cell? ⟨b, off + j * 4 + 3, none⟩ = some (v1) := (hbn.cell (p := ⟨b, off + j * 4 + 3, none⟩) hbw).trans hc3
      replace R0 := Lib.hid (R0.out.below hbn)
      replace hbw : b < m1.heap.size := Nat.lt_of_lt_of_le hbw hbn.size
      replace HB := Lib.hid (below_call HB.out HB.out.size hbn)
      clear hbn hb1 hc0 hc1 hc2 hc3
      go_wp2_with fail
      refine (heldFieldSI _ _ (q + 3) _ (by omega) _ (R0.out) (by omega)).mono ?_
      rintro e m2 ⟨rfl, hbn⟩
      have hpp := HP1.out
      rw [hpp]; clear hpp
      replace hbw : b < m2.heap.size := Nat.lt_of_lt_of_le hbw hbn.size
      replace HB := Lib.hid (below_call HB.out HB.out.size hbn)
      clear hbn hm1_3
      go_wp2
      go_light
      refine ⟨⟨j + 1, by omega, by go_num, ?_, HB.out⟩, by simp [intOf]; omega⟩
      rw [wtT_succ _ _ _ hlt, ← Nat.add_assoc, HQ.out]
      unfold DItem.cnt
      have y0 := HP1.out
      exact val_int (by omega)
    · have e : j = l.length := by omega
      have HE := Lib.hid e; clear e
      go_wp2
      go_ret
      rw [HE.out]
      exact ⟨rfl, HB.out⟩
theorem heldItemSI (v : Value) (l : List DItem) (k : Nat) (a : Int) (ha : a = k) (w : World) (h : Reads (Rep.slice 134 DItem.rep) w [v] (marks DItem.mk3 DItem.cnt k l)) (hk : k + wtT DItem.cnt l l.length ≤ 1000000000) :
    Calls Tryz.prog 89 #[v, .int .i64 a] w fun e w' => e = .returned (.int .i64 ((k + wtT DItem.cnt l l.length : Nat) : Int)) ∧ Below w.heap.size w w' := by
  subst ha; exact heldItemS v l k w h hk

end Go.Proofs.YtgicglmcapnogaaGreat


/-
  The laws' helpers for Store.
-/
namespace Go.Proofs.YtgicglmcapnogaaGreat
open Go.RowKit

def DStore.wt (x : DStore) : Nat := x.name.size + wtS DItem.wt x.items

set_option maxHeartbeats 400000 in
theorem szStore (cs : List Value) (x : DStore) (left : Int) (w : World) (h : Reads DStore.rep w cs x) (h0 : 0 ≤ left) (h1 : left ≤ 1048576) :
    Calls Tryz.prog 26 #[.agg cs.toArray, .int .i64 left] w fun e w' => e = .returned (.int .i64 (szOf x.wt left)) ∧ Below w.heap.size w w' := by
  obtain ⟨fp, h⟩ := h
  obtain ⟨v1, f1, rfl, _, s0, r1⟩ := DStore.rd.1 h
  have HV1 : Hid (Reads (Rep.slice 134 DItem.rep) w [v1] x.items) := ⟨_, r1⟩
  clear h r1
  unfold maxLen at s0
  go_enter Tryz.func26, Tryz.ntmps26
  go_wp2_with fail
  · go_ret
    refine ⟨ret_int ?_, (by repeat (first | with_reducible exact belR | with_reducible apply belA | (with_reducible refine belS ?_ ?_; focus (first | omega | (simp; done) | (simp; omega))) | with_reducible apply belN | with_reducible apply belD | with_reducible assumption))⟩
    go_light
    have a0 := szOf_spec x.wt left
    unfold DStore.wt at *
    omega
  have q1 : 0 ≤ (left - (x.name.size : Int)) ∧ (left - (x.name.size : Int)) ≤ 1048576 := by
    omega
  refine (szItemS _ _ _ _ (HV1.out.below (by repeat (first | with_reducible exact belR | with_reducible apply belA | (with_reducible refine belS ?_ ?_; focus (first | omega | (simp; done) | (simp; omega))) | with_reducible apply belN | with_reducible apply belD | with_reducible assumption))) q1.1 q1.2).mono ?_
  rintro e w1 ⟨rfl, hb1⟩
  obtain ⟨hc1, hfz1⟩ := bcell hb1
  have hz1 : w.heap.size < w1.heap.size := by have y := hb1.size; simp at y; omega
  have HB1 := Lib.hid (below_call (w := w) (by repeat (first | with_reducible exact belR | with_reducible apply belA | (with_reducible refine belS ?_ ?_; focus (first | omega | (simp; done) | (simp; omega))) | with_reducible apply belN | with_reducible apply belD | with_reducible assumption)) (by first | omega | (simp; done) | (simp; omega)) hb1); clear hb1
  have bl1 : -1 ≤ szOf (wtS DItem.wt x.items) ((left - (x.name.size : Int))) ∧ szOf (wtS DItem.wt x.items) ((left - (x.name.size : Int))) ≤ 1048576 := by
    have a0 := szOf_spec (wtS DItem.wt x.items) ((left - (x.name.size : Int)))
    omega
  obtain ⟨bl1, bu1⟩ := bl1
  go_wp2_with fail
  · go_ret
    have y0 := HB1.out
    refine ⟨ret_int ?_, (by repeat (first | with_reducible exact belR | with_reducible apply belA | (with_reducible refine belS ?_ ?_; focus (first | omega | (simp; done) | (simp; omega))) | with_reducible apply belN | with_reducible apply belD | with_reducible assumption))⟩
    go_light
    have a0 := szOf_spec x.wt left
    have a1 := szOf_spec (wtS DItem.wt x.items) ((left - (x.name.size : Int)))
    unfold DStore.wt at *
    omega
  · go_ret
    have y0 := HB1.out
    refine ⟨ret_int ?_, (by repeat (first | with_reducible exact belR | with_reducible apply belA | (with_reducible refine belS ?_ ?_; focus (first | omega | (simp; done) | (simp; omega))) | with_reducible apply belN | with_reducible apply belD | with_reducible assumption))⟩
    go_light
    have a0 := szOf_spec x.wt left
    have a1 := szOf_spec (wtS DItem.wt x.items) ((left - (x.name.size : Int)))
    unfold DStore.wt at *
    omega

set_option maxHeartbeats 800000 in
theorem toStore (cs : List Value) (x : DStore) (w : World) (h : Reads DStore.rep w cs x) (_hsmall : x.wt ≤ 1048576) :
    Calls Tryz.prog 39 #[.agg cs.toArray] w fun e w' => ∃ ds, e = .returned (.agg ds.toArray) ∧ Fresh DStore.rep w.heap.size w' ds x ∧ Below w.heap.size w w' := by
  obtain ⟨fp, h⟩ := h
  obtain ⟨v1, f1, rfl, _, s0, r1⟩ := DStore.rd.1 h
  have HV1 : Hid (Reads (Rep.slice 134 DItem.rep) w [v1] x.items) := ⟨_, r1⟩
  have d1 : wtS DItem.wt x.items ≤ 1048576 := by unfold DStore.wt at _hsmall; omega
  clear h r1
  go_enter Tryz.func39, Tryz.ntmps39
  go_wp2_with fail
  refine (toItemS _ _ _ (HV1.out.below (by repeat (first | with_reducible exact belR | with_reducible apply belA | (with_reducible refine belS ?_ ?_; focus (first | omega | (simp; done) | (simp; omega))) | with_reducible apply belN | with_reducible apply belD | with_reducible assumption))) d1).mono ?_
  rintro e w1 ⟨t1, rfl, hf1, hb1⟩
  obtain ⟨ao1, cap1, rfl⟩ := hf1.slice
  obtain ⟨hc1, hfz1⟩ := bcell hb1
  have hs1 : w.heap.size + 1 + 1 + 1 ≤ w1.heap.size := by have y := hb1.size; simp at y; omega
  have hz10 : w.heap.size < w1.heap.size := by omega
  have hz11 : w.heap.size + 1 < w1.heap.size := by omega
  have hz12 : w.heap.size + 1 + 1 < w1.heap.size := by omega
  have HF1 := Lib.hid (hf1.mono (B' := w.heap.size + 1 + 1 + 1) (by first | omega | (simp; done) | (simp; omega)))
  have HB1 := Lib.hid (below_call (w := w) (by repeat (first | with_reducible exact belR | with_reducible apply belA | (with_reducible refine belS ?_ ?_; focus (first | omega | (simp; done) | (simp; omega))) | with_reducible apply belN | with_reducible apply belD | with_reducible assumption)) (by first | omega | (simp; done) | (simp; omega)) hb1)
  clear hb1 hf1
  go_wp2
  refine bodyPost_ret (v := .agg #[.string x.name, .slice ao1 x.items.length cap1, .int .i64 x.auto]) (by first | (simp [results, Tryz.results39, go_sem]; done) | (simp [results, Tryz.results39, go_sem, hc1]; done)) rfl ⟨_, rfl, ?_, ?_⟩
  · exact DStore.fresh (HF1.out.part (by repeat (first | with_reducible exact abR | with_reducible apply abA | (with_reducible refine abS ?_ ?_; focus (first | omega | (simp; done) | (simp; omega))) | with_reducible apply abN | with_reducible apply abD | with_reducible assumption))) (by first | omega | (simp; done) | (simp; omega))  s0
  · have y := HB1.out
    exact (by repeat (first | with_reducible exact belR | with_reducible apply belA | (with_reducible refine belS ?_ ?_; focus (first | omega | (simp; done) | (simp; omega))) | with_reducible apply belN | with_reducible apply belD | with_reducible assumption))

set_option maxHeartbeats 800000 in
theorem eqStore (cs ds : List Value) (x : DStore) (w : World) (h : Reads DStore.rep w cs x) (h' : Reads DStore.rep w ds x) :
    Calls Tryz.prog 51 #[.agg cs.toArray, .agg ds.toArray] w fun e w' => e = .returned (.bool true) ∧ Below w.heap.size w w' := by
  obtain ⟨fp, h0⟩ := h
  obtain ⟨vv1, vf1, rfl, _, vs0, vr1⟩ := DStore.rd.1 h0
  have HV1 : Hid (Reads (Rep.slice 134 DItem.rep) w [vv1] x.items) := ⟨_, vr1⟩
  clear h0 vr1
  obtain ⟨fp, h0⟩ := h'
  obtain ⟨uv1, uf1, rfl, _, us0, ur1⟩ := DStore.rd.1 h0
  have HU1 : Hid (Reads (Rep.slice 134 DItem.rep) w [uv1] x.items) := ⟨_, ur1⟩
  clear h0 ur1
  go_enter Tryz.func51, Tryz.ntmps51
  go_wp2_with fail
  refine (eqItemS _ _ _ _ (HV1.out.below (by repeat (first | with_reducible exact belR | with_reducible apply belA | (with_reducible refine belS ?_ ?_; focus (first | omega | (simp; done) | (simp; omega))) | with_reducible apply belN | with_reducible apply belD | with_reducible assumption))) (HU1.out.below (by repeat (first | with_reducible exact belR | with_reducible apply belA | (with_reducible refine belS ?_ ?_; focus (first | omega | (simp; done) | (simp; omega))) | with_reducible apply belN | with_reducible apply belD | with_reducible assumption)))).mono ?_
  rintro e w1 ⟨rfl, hb1⟩
  obtain ⟨hc1, hfz1⟩ := bcell hb1
  have hs1 : w.heap.size + 1 + 1 ≤ w1.heap.size := by have y := hb1.size; simp at y; omega
  have hz10 : w.heap.size < w1.heap.size := by omega
  have hz11 : w.heap.size + 1 < w1.heap.size := by omega
  have HB1 := Lib.hid (below_call (w := w) (by repeat (first | with_reducible exact belR | with_reducible apply belA | (with_reducible refine belS ?_ ?_; focus (first | omega | (simp; done) | (simp; omega))) | with_reducible apply belN | with_reducible apply belD | with_reducible assumption)) (by first | omega | (simp; done) | (simp; omega)) hb1)
  clear hb1
  go_wp2
  go_ret
  have y := HB1.out
  exact ⟨rfl, (by repeat (first | with_reducible exact belR | with_reducible apply belA | (with_reducible refine belS ?_ ?_; focus (first | omega | (simp; done) | (simp; omega))) | with_reducible apply belN | with_reducible apply belD | with_reducible assumption))⟩

theorem infoStore : (Tryz.prog.info? 42).map (fun i => (i.zero, i.size, i.bytes)) = some (some (.agg #[.string ⟨#[]⟩, .slice none 0 0, .int .i64 0]), 3, 48) := by kernel_rfl

def DStore.cnt (x : DStore) : Nat := 2 + wtT DItem.cnt x.items x.items.length
def DStore.mk3 (k : Nat) (x : DStore) : DStore := ⟨markT (k), marks DItem.mk3 DItem.cnt (k + 1) x.items, (((k + 1 + wtT DItem.cnt x.items x.items.length : Nat) : Int))⟩

def DStore.mcnt (x : DStore) : Nat := wtT DItem.cnt x.items x.items.length
def DStore.mks (x : DStore) (k : Nat) : DStore := { x with items := marks DItem.mk3 DItem.cnt (k) x.items }

set_option maxRecDepth 100000 in
set_option maxHeartbeats 800000 in
theorem markStore (cs : List Value) (x : DStore) (fp : List Nat) (k : Nat) (w : World) (h : DStore.rep.rd true w cs x fp) (hnd : fp.Nodup) (hk : k + x.mcnt ≤ 1000000000) :
    Calls Tryz.prog 55 #[.agg cs.toArray, .int .i64 k] w fun e w' => e = .returned (.int .i64 ((k + x.mcnt : Nat) : Int)) ∧ DStore.rep.rd true w' cs (x.mks k) fp ∧ Chg fp w w' := by
  have HL := Lib.hid (DStore.rep.lt h)
  obtain ⟨v1, f1, rfl, rfl, s0, r0⟩ := DStore.parts h
  have n0 := hnd
  have R0 := Lib.hid r0
  clear h r0
  unfold DStore.mcnt at hk
  go_enter Tryz.func55, Tryz.ntmps55
  go_wp2_with fail
  refine (markItemS _ x.items fp (k) _ (Rep.frame (Rep.slice 134 DItem.rep) (w' := w.alloc _) R0.out fun b hb => Below.heap_alloc _ _ _ (HL.out b hb)) n0 (by omega)).mono ?_
  rintro e w1 ⟨rfl, rd0, ch0⟩
  replace R0 := Lib.hid rd0
  have hx0 : w.heap.size ∉ fp := fun hx => Nat.lt_irrefl _ (HL.out _ hx)
  have hz1 : w.heap.size < w1.heap.size := by have y := ch0.size; simp at y; omega
  have hc1 : ∀ o, w1.cell? ⟨w.heap.size, o, none⟩ = _ := fun o => World.cell?_of_block (a := ⟨w.heap.size, o, none⟩) (ch0.block w.heap.size (by first | omega | (simp; done) | (simp; omega)) hx0)
  have C0 := Lib.hid ch0
  clear rd0 ch0 hx0
  go_wp2
  go_ret
  refine ⟨ret_int (by unfold DStore.mcnt; omega), ?_, ?_⟩
  · exact DStore.join (x := x.mks k) _ _ R0.out s0
  · have z := Chg.trans (a := w) (Chg.of_below (fp := fp) (B := w.heap.size) (belA belR) (Nat.le_refl _)) (C0.out.mono (fq := fp) fun b hb => hb)
    exact z

set_option maxRecDepth 100000 in
set_option maxHeartbeats 800000 in
theorem heldStore (cs : List Value) (x : DStore) (k : Nat) (w : World) (h : Reads DStore.rep w cs (x.mks k)) (hk : k + x.mcnt ≤ 1000000000) :
    Calls Tryz.prog 59 #[.agg cs.toArray, .int .i64 k] w fun e w' => e = .returned (.int .i64 ((k + x.mcnt : Nat) : Int)) ∧ Below w.heap.size w w' := by
  obtain ⟨fp, h⟩ := h
  obtain ⟨v1, f1, rfl, _, s0, r0⟩ := DStore.parts h
  have HV0 : Hid (Reads (Rep.slice 134 DItem.rep) w [v1] (x.mks k).items) := ⟨_, r0⟩
  clear h r0
  unfold DStore.mcnt at hk
  go_enter Tryz.func59, Tryz.ntmps59
  go_wp2_with fail
  refine (heldItemS _ x.items (k) _ (HV0.out.below (by repeat (first | with_reducible exact belR | with_reducible apply belA | (with_reducible refine belS ?_ ?_; focus (first | omega | (simp; done) | (simp; omega))) | with_reducible apply belN | with_reducible apply belD | with_reducible assumption))) (by omega)).mono ?_
  rintro e w1 ⟨rfl, hb1⟩
  obtain ⟨hc1, hfz1⟩ := bcell hb1
  have hz1 : w.heap.size < w1.heap.size := by have y := hb1.size; simp at y; omega
  have HB1 := Lib.hid (below_call (w := w) (by repeat (first | with_reducible exact belR | with_reducible apply belA | (with_reducible refine belS ?_ ?_; focus (first | omega | (simp; done) | (simp; omega))) | with_reducible apply belN | with_reducible apply belD | with_reducible assumption)) (by first | omega | (simp; done) | (simp; omega)) hb1); clear hb1
  go_wp2
  go_ret
  have y := HB1.out
  exact ⟨ret_int (by unfold DStore.mcnt; omega), (by repeat (first | with_reducible exact belR | with_reducible apply belA | (with_reducible refine belS ?_ ?_; focus (first | omega | (simp; done) | (simp; omega))) | with_reducible apply belN | with_reducible apply belD | with_reducible assumption))⟩

end Go.Proofs.YtgicglmcapnogaaGreat
