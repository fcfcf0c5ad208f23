/-
  The laws' helpers for Loaded.
-/
import Derived.Test.YtamdjeajmfjfmaaBase
import Derived.Test.YtamdjeajmfjfmaaTLoaded
namespace Go.Proofs.Ytamdjeajmfjfmaa
open Go.RowKit

def DLoaded.wt (x : DLoaded) : Nat := x.path.size

set_option maxHeartbeats 400000 in
theorem szLoaded (cs : List Value) (x : DLoaded) (left : Int) (w : World) (h : Reads DLoaded.rep w cs x) (h0 : 0 ≤ left) (h1 : left ≤ 1048576) :
    Calls Try.prog 110 #[.agg cs.toArray, .int .i64 left] w fun e w' => e = .returned (.int .i64 (szOf x.wt left)) ∧ Below w.heap.size w w' := by
  obtain ⟨fp, h⟩ := h
  obtain ⟨rfl, _, s0⟩ := DLoaded.rd.1 h
  clear h
  unfold maxLen at s0
  go_enter Try.func110, Try.ntmps110
  go_wp2_with fail
  · go_ret
    refine ⟨ret_int ?_, (by repeat (first | with_reducible exact belR | with_reducible apply belA | (with_reducible refine belS ?_ ?_; focus (first | omega | (simp; done) | (simp; omega))) | with_reducible apply belN | with_reducible apply belD | with_reducible assumption))⟩
    go_light
    have a0 := szOf_spec x.wt left
    unfold DLoaded.wt at *
    omega
  · go_ret
    refine ⟨ret_int ?_, (by repeat (first | with_reducible exact belR | with_reducible apply belA | (with_reducible refine belS ?_ ?_; focus (first | omega | (simp; done) | (simp; omega))) | with_reducible apply belN | with_reducible apply belD | with_reducible assumption))⟩
    go_light
    have a0 := szOf_spec x.wt left
    unfold DLoaded.wt at *
    omega

set_option maxHeartbeats 800000 in
theorem toLoaded (cs : List Value) (x : DLoaded) (w : World) (h : Reads DLoaded.rep w cs x) (_hsmall : x.wt ≤ 1048576) :
    Calls Try.prog 113 #[.agg cs.toArray] w fun e w' => ∃ ds, e = .returned (.agg ds.toArray) ∧ Fresh DLoaded.rep w.heap.size w' ds x ∧ Below w.heap.size w w' := by
  obtain ⟨fp, h⟩ := h
  obtain ⟨rfl, _, s0⟩ := DLoaded.rd.1 h
  clear h 
  go_enter Try.func113, Try.ntmps113
  go_wp2
  refine bodyPost_ret (v := .agg #[.string x.path, .int .i64 x.version]) (by first | (simp [results, Try.results113, go_sem]; done)) rfl ⟨_, rfl, ?_, ?_⟩
  · exact ⟨[], DLoaded.rd.2 ⟨rfl, rfl, s0⟩, by simp, by simp⟩
  · exact (by repeat (first | with_reducible exact belR | with_reducible apply belA | (with_reducible refine belS ?_ ?_; focus (first | omega | (simp; done) | (simp; omega))) | with_reducible apply belN | with_reducible apply belD | with_reducible assumption))

set_option maxHeartbeats 800000 in
theorem eqLoaded (cs ds : List Value) (x : DLoaded) (w : World) (h : Reads DLoaded.rep w cs x) (h' : Reads DLoaded.rep w ds x) :
    Calls Try.prog 108 #[.agg cs.toArray, .agg ds.toArray] w fun e w' => e = .returned (.bool true) ∧ Below w.heap.size w w' := by
  obtain ⟨fp, h0⟩ := h
  obtain ⟨rfl, _, vs0⟩ := DLoaded.rd.1 h0
  clear h0 
  obtain ⟨fp, h0⟩ := h'
  obtain ⟨rfl, _, us0⟩ := DLoaded.rd.1 h0
  clear h0 
  go_enter Try.func108, Try.ntmps108
  go_wp2
  go_ret
  exact ⟨rfl, (by repeat (first | with_reducible exact belR | with_reducible apply belA | (with_reducible refine belS ?_ ?_; focus (first | omega | (simp; done) | (simp; omega))) | with_reducible apply belN | with_reducible apply belD | with_reducible assumption))⟩

set_option maxHeartbeats 400000 in
theorem szLoadedS (v : Value) (l : List DLoaded) (left : Int) (w : World) (h : Reads (Rep.slice 123 DLoaded.rep) w [v] l) (h0 : 0 ≤ left) (h1 : left ≤ 1048576) :
    Calls Try.prog 75 #[v, .int .i64 left] w fun e w' => e = .returned (.int .i64 (szOf (wtS DLoaded.wt l) left)) ∧ Below w.heap.size w w' := by
  have HK := Lib.hid h
  obtain ⟨fp, h⟩ := h
  obtain ⟨ao, c1, rfl, hm, _, hu⟩ := slice_open h
  clear hu h
  go_enter Try.func75, Try.ntmps75
  go_wp2
  · go_ret
    refine ⟨ret_int ?_, (by repeat (first | with_reducible exact belR | with_reducible apply belA | (with_reducible refine belS ?_ ?_; focus (first | omega | (simp; done) | (simp; omega))) | with_reducible apply belN | with_reducible apply belD | with_reducible assumption))⟩
    go_light
    have a0 := szOf_spec (wtS DLoaded.wt l) left
    have a1 := wtS_ge DLoaded.wt l
    omega
  · go_loopw [1, 5] (fun a i wr => ∃ k : Nat, k ≤ l.length ∧ i = .int .i64 k ∧ a = .int .i64 (left - l.length - wtT DLoaded.wt l k) ∧ 0 ≤ left - l.length - wtT DLoaded.wt l k ∧ Below w.heap.size w wr) (fun _ i _ => l.length - (intOf i).toNat)
    case atStart => exact ⟨0, by omega, rfl, by simp [wtT], by simp [wtT]; omega, (by repeat (first | with_reducible exact belR | with_reducible apply belA | (with_reducible refine belS ?_ ?_; focus (first | omega | (simp; done) | (simp; omega))) | with_reducible apply belN | with_reducible apply belD | with_reducible assumption))⟩
    case round =>
      obtain ⟨k, hk, rfl, rfl, hpos, hb⟩ := hrel
      have HB := Lib.hid hb; clear hb
      by_cases hlt : k < l.length
      · obtain ⟨b, off, cs, rfl, bw, hr, hcell⟩ := slice_at (HK.out.below HB.out) k hlt
        obtain ⟨fe, hrd⟩ := hr
        obtain ⟨rfl, _, _⟩ := DLoaded.rd.1 hrd
        have HR : Hid (Reads DLoaded.rep wr _ l[k]) := ⟨_, hrd⟩
        clear hrd
        have hc0 : wr.cell? ⟨b, off + k * 2, none⟩ = some (.string l[k].path) := hcell 0 (by decide)
        have hc1 : wr.cell? ⟨b, off + k * 2 + 1, none⟩ = some (.int .i64 l[k].version) := hcell 1 (by decide)
        clear hcell
        go_wp2_with fail
        refine (szLoaded _ _ _ _ HR.out (by omega) (by omega)).mono ?_
        rintro e w1 ⟨rfl, hb1⟩
        have HB1 := Lib.hid (below_call HB.out HB.out.size hb1); clear hb1
        go_wp2
        · go_ret
          refine ⟨ret_int ?_, HB1.out⟩
          go_light
          have a0 := szOf_spec (DLoaded.wt l[k]) (left - l.length - wtT DLoaded.wt l k)
          have a1 := szOf_spec (wtS DLoaded.wt l) left
          have a2 := wtT_le DLoaded.wt l (k + 1)
          rw [wtT_succ _ _ _ hlt] at a2
          unfold wtS at a1 ⊢
          omega
        · go_light
          have a0 := szOf_spec (DLoaded.wt l[k]) (left - l.length - wtT DLoaded.wt l k)
          have a2 := wtT_succ DLoaded.wt l k hlt
          have e : szOf (DLoaded.wt l[k]) (left - l.length - wtT DLoaded.wt l k) = left - l.length - wtT DLoaded.wt l (k + 1) := by omega
          refine ⟨⟨k + 1, by omega, by go_num, by rw [e], by omega, HB1.out⟩, by simp [intOf]; omega⟩
      · go_wp2
        go_ret
        refine ⟨ret_int ?_, HB.out⟩
        go_light
        obtain rfl : k = l.length := by omega
        have a1 := szOf_spec (wtS DLoaded.wt l) left
        have a2 := wtT_all DLoaded.wt l
        unfold wtS at a1 ⊢
        omega

theorem infoLoaded : (Try.prog.info? 123).map (fun i => (i.zero, i.size, i.bytes)) = some (some (.agg #[.string ⟨#[]⟩, .int .i64 0]), 2, 24) := by kernel_rfl

set_option maxRecDepth 100000 in
set_option maxHeartbeats 800000 in
theorem toLoadedS (u : Value) (l : List DLoaded) (w : World) (hu : Reads (Rep.slice 123 DLoaded.rep) w [u] l) (hsmall : wtS DLoaded.wt l ≤ 1048576) :
    Calls Try.prog 79 #[u] w fun e w' => ∃ v, e = .returned v ∧ Fresh (Rep.slice 123 DLoaded.rep) w.heap.size w' [v] l ∧ Below w.heap.size w w' := by
  have HK := Lib.hid hu
  obtain ⟨fp, hu⟩ := hu
  obtain ⟨ao, c1, rfl, hm, _, hu⟩ := slice_open hu
  clear hu
  have hlen := wtS_ge DLoaded.wt l
  have HW := Lib.hid hsmall
  obtain ⟨i0, hi, hz0, hz1, hz2⟩ := info_parts infoLoaded
  go_enter Try.func79, Try.ntmps79
  go_wp2_with (at_make; refine wpList_make_full _ rfl _ _ 50 rfl w.heap.size 123 i0 _ 2 Try.underlying50 hi hz0 hz1 _ _ _ _ l.length rfl rfl rfl rfl ?c1 ?c2 (Nat.le_refl _) ?_)
  case c1 => rw [hz2]; omega
  case c2 => unfold maxLen; omega
  intro w1 hown hgrow
  have hf : Filling DLoaded.rep 123 w.heap.size w.heap.size l.length l 0 w1 := Filling.start hown (Nat.le_refl _)
  have hb1 : Below w.heap.size w w1 := (Below.refl _ _).grown hgrow (Nat.le_refl _) (by intro k hk; cases hk)
  have HF := Lib.hid hf; clear hf hown
  have HB := Lib.hid hb1; clear hb1 hgrow
  go_wp2
  go_loopw [4] (fun i wr => ∃ k : Nat, k ≤ l.length ∧ i = .int .i64 k ∧ Filling DLoaded.rep 123 w.heap.size w.heap.size l.length l k wr ∧ Below w.heap.size w wr) (fun i _ => l.length - (intOf i).toNat)
  case atStart => exact ⟨0, by omega, rfl, HF.out, HB.out⟩
  case round =>
    obtain ⟨k, hk, rfl, hf, hb⟩ := hrel
    have HB := Lib.hid hb; clear hb
    have HF := Lib.hid hf; clear hf
    by_cases hlt : k < l.length
    · obtain ⟨b, off, cs, rfl, bw, hr, hcell⟩ := slice_at (HK.out.below HB.out) k hlt
      obtain ⟨fe, hrd⟩ := hr
      obtain ⟨rfl, _, _⟩ := DLoaded.rd.1 hrd
      have HR : Hid (Reads DLoaded.rep wr _ l[k]) := ⟨_, hrd⟩
      clear hrd
      have hc0 : wr.cell? ⟨b, off + k * 2, none⟩ = some (.string l[k].path) := hcell 0 (by decide)
      have hc1 : wr.cell? ⟨b, off + k * 2 + 1, none⟩ = some (.int .i64 l[k].version) := hcell 1 (by decide)
      clear hcell
      go_wp2_with fail
      refine (toLoaded _ _ _ HR.out (Nat.le_trans (wtS_elem DLoaded.wt l k hlt) HW.out)).mono ?_
      rintro e w1 ⟨ds, rfl, hfr, hb1⟩
      have HF1 := Lib.hid (Filling.step hlt rfl HF.out hb1 hfr)
      have HB1 := Lib.hid (setCells_below (Nat.le_refl _) ds (k * 2) _ (below_call HB.out HB.out.size hb1))
      obtain ⟨hcs, hfz⟩ := (HF.out.below hb1).cells hlt
      obtain ⟨fd, hrd, _⟩ := hfr
      obtain ⟨rfl, _, _⟩ := DLoaded.rd.1 hrd
      obtain ⟨z0, hy0⟩ : ∃ u, w1.cell? ⟨w.heap.size, k * 2, none⟩ = some u := hcs 0 (by decide)
      obtain ⟨z1, hy1⟩ : ∃ u, w1.cell? ⟨w.heap.size, k * 2 + 1, none⟩ = some u := hcs 1 (by decide)
      clear hcs hb1 hrd hc0 hc1
      go_wp2
      go_light
      exact ⟨⟨k + 1, by omega, by go_num, HF1.out, HB1.out⟩, by simp [intOf]; omega⟩
    · have HW : Hid (Fresh (Rep.slice 123 DLoaded.rep) w.heap.size wr [.slice (some ⟨w.heap.size, 0, none⟩) l.length l.length] l) := by
        have e : k = l.length := by omega
        have hf := HF.out
        rw [e] at hf
        exact hf.done rfl
      go_wp2
      go_ret
      exact ⟨_, rfl, HW.out, HB.out⟩

set_option maxRecDepth 100000 in
set_option maxHeartbeats 800000 in
theorem eqLoadedS (u v : Value) (l : List DLoaded) (w : World) (h : Reads (Rep.slice 123 DLoaded.rep) w [u] l) (h' : Reads (Rep.slice 123 DLoaded.rep) w [v] l) :
    Calls Try.prog 69 #[u, v] w fun e w' => e = .returned (.bool true) ∧ Below w.heap.size w w' := by
  have HK := Lib.hid h
  obtain ⟨fp, h⟩ := h
  obtain ⟨ao, c1, rfl, hm, _, hu⟩ := slice_open h
  clear hu h
  have HK' := Lib.hid h'
  obtain ⟨fp, h⟩ := h'
  obtain ⟨bo, c2, rfl, _, _, hu⟩ := slice_open h
  clear hu h
  go_enter Try.func69, Try.ntmps69
  go_wp2
  go_loopw [5] (fun i wr => ∃ k : Nat, k ≤ l.length ∧ i = .int .i64 k ∧ Below w.heap.size w wr) (fun i _ => l.length - (intOf i).toNat)
  case atStart => exact ⟨0, by omega, rfl, (by repeat (first | with_reducible exact belR | with_reducible apply belA | (with_reducible refine belS ?_ ?_; focus (first | omega | (simp; done) | (simp; omega))) | with_reducible apply belN | with_reducible apply belD | with_reducible assumption))⟩
  case round =>
    obtain ⟨k, hk, rfl, hb⟩ := hrel
    have HB := Lib.hid hb; clear hb
    by_cases hlt : k < l.length
    · obtain ⟨b, off, cs, rfl, bw, hr, hcell⟩ := slice_at (HK.out.below HB.out) k hlt
      obtain ⟨fe, hrd⟩ := hr
      obtain ⟨rfl, _, _⟩ := DLoaded.rd.1 hrd
      have HR : Hid (Reads DLoaded.rep wr _ l[k]) := ⟨_, hrd⟩
      clear hrd
      have hc0 : wr.cell? ⟨b, off + k * 2, none⟩ = some (.string l[k].path) := hcell 0 (by decide)
      have hc1 : wr.cell? ⟨b, off + k * 2 + 1, none⟩ = some (.int .i64 l[k].version) := hcell 1 (by decide)
      clear hcell
      obtain ⟨b', off', cs, rfl, b'w, hr, hcell⟩ := slice_at (HK'.out.below HB.out) k hlt
      obtain ⟨fe, hrd⟩ := hr
      obtain ⟨rfl, _, _⟩ := DLoaded.rd.1 hrd
      have HR' : Hid (Reads DLoaded.rep wr _ l[k]) := ⟨_, hrd⟩
      clear hrd
      have hd0 : wr.cell? ⟨b', off' + k * 2, none⟩ = some (.string l[k].path) := hcell 0 (by decide)
      have hd1 : wr.cell? ⟨b', off' + k * 2 + 1, none⟩ = some (.int .i64 l[k].version) := hcell 1 (by decide)
      clear hcell
      go_wp2_with fail
      go_still_tail 8, (by kernel_rfl)
      change wpList _ _ _ _ _ wr.drew
      go_wp2_with fail
      refine (eqLoaded _ _ _ _ (HR.out.below (by repeat (first | with_reducible exact belR | with_reducible apply belA | (with_reducible refine belS ?_ ?_; focus (first | omega | (simp; done) | (simp; omega))) | with_reducible apply belN | with_reducible apply belD | with_reducible assumption))) (HR'.out.below (by repeat (first | with_reducible exact belR | with_reducible apply belA | (with_reducible refine belS ?_ ?_; focus (first | omega | (simp; done) | (simp; omega))) | with_reducible apply belN | with_reducible apply belD | with_reducible assumption)))).mono ?_
      rintro e w1 ⟨rfl, hb1⟩
      have HB1 := Lib.hid (below_call (belD HB.out) (belD HB.out).size hb1); clear hb1
      go_wp2
      go_light
      exact ⟨⟨k + 1, by omega, by go_num, HB1.out⟩, by simp [intOf]; omega⟩
    · go_wp2
      go_ret
      exact ⟨rfl, HB.out⟩

def DLoaded.cnt (_ : DLoaded) : Nat := 2
def DLoaded.mk3 (k : Nat) (_ : DLoaded) : DLoaded := ⟨markT (k), ((k : Int) + 1)⟩

set_option maxRecDepth 100000 in
set_option maxHeartbeats 1600000 in
theorem markLoadedS (v : Value) (l : List DLoaded) (fp : List Nat) (k : Nat) (w : World) (h : (Rep.slice 123 DLoaded.rep).rd true w [v] l fp) (hnd : fp.Nodup) (hk : k + wtT DLoaded.cnt l l.length ≤ 1000000000) :
    Calls Try.prog 62 #[v, .int .i64 k] w fun e w' => e = .returned (.int .i64 ((k + wtT DLoaded.cnt l l.length : Nat) : Int)) ∧ (Rep.slice 123 DLoaded.rep).rd true w' [v] (marks DLoaded.mk3 DLoaded.cnt k l) fp ∧ Chg fp w w' := by
  have HM : Hid (Marking DLoaded.rep 123 DLoaded.mk3 DLoaded.cnt k l v fp w 0 w) := ⟨by rw [marked_zero]; exact h, Chg.refl⟩
  obtain ⟨ao, c1, rfl, hm, _, hu⟩ := slice_open h
  clear hu h
  go_enter Try.func62, Try.ntmps62
  go_wp2
  go_loopw [1, 5] (fun a i wr => ∃ j : Nat, j ≤ l.length ∧ i = .int .i64 j ∧ a = .int .i64 ((k + wtT DLoaded.cnt l j : Nat) : Int) ∧ Marking DLoaded.rep 123 DLoaded.mk3 DLoaded.cnt k l (.slice ao l.length c1) fp w j wr) (fun _ i _ => l.length - (intOf i).toNat)
  case atStart => exact ⟨0, by omega, rfl, by simp [wtT], HM.out⟩
  case round =>
    obtain ⟨j, hj, rfl, rfl, hma⟩ := hrel
    have HM := Lib.hid hma; clear hma
    by_cases hlt : j < l.length
    · have hw1 := wtT_succ DLoaded.cnt l j hlt
      have hw2 := wtT_mono DLoaded.cnt l (j + 1) l.length hlt
      generalize hq : k + wtT DLoaded.cnt l j = q at *
      have hqc : q + DLoaded.cnt l[j] ≤ 1000000000 := by omega
      unfold DLoaded.cnt at hqc
      have HQ := Lib.hid hq; clear hq hw1 hw2
      have hlt' : j < (marked DLoaded.mk3 DLoaded.cnt k l j).length := by rw [marked_length]; exact hlt
      obtain ⟨g, cap, xs, cs, fe, hv, hg, hgfe, hfesub, hfend, hown, hrd, hcs, hshut⟩ := own_open HM.out.1 hnd j hlt'
      rw [marked_length] at hv hown
      simp only [Value.slice.injEq] at hv
      obtain ⟨rfl, _, rfl⟩ := hv
      have HG := Lib.hid hg; clear hg
      have HS := Lib.hid hshut; clear hshut
      have HFE := Lib.hid hfesub; clear hfesub
      have hval := marked_get DLoaded.mk3 DLoaded.cnt k l j hlt
      rw [List.getElem?_eq_getElem hlt'] at hval
      rw [Option.some.inj hval] at hrd
      clear hval
      have HO := Lib.hid hown; clear hown
      obtain ⟨rfl, hfe, _⟩ := DLoaded.rd.1 hrd
      subst hfe
      have HC : Hid (Chg (g :: (([] : List Nat))) wr wr) := Chg.refl
      clear hrd hcs 
      obtain ⟨hcs, hfzwr⟩ := own_cells HO.out hlt
      obtain ⟨zwr_0, hzwr_0⟩ : ∃ u, wr.cell? ⟨g, j * 2, none⟩ = some u := hcs 0 (by decide)
      obtain ⟨zwr_1, hzwr_1⟩ : ∃ u, wr.cell? ⟨g, j * 2 + 1, none⟩ = some u := hcs 1 (by decide)
      clear hcs
      go_wp2_with fail
      refine (markTextI q _ (by omega) (by omega) _).mono ?_
      rintro e m1 ⟨rfl, hb⟩
      replace HO := Lib.hid (own_below HO.out hb (Nat.le_refl _))
      replace HC := Lib.hid (HC.out.trans (Chg.of_below hb (Nat.le_refl _)))
      clear hb
      clear hfzwr hzwr_0 hzwr_1
      obtain ⟨hcs, hfzm1⟩ := own_cells HO.out hlt
      obtain ⟨zm1_0, hzm1_0⟩ : ∃ u, m1.cell? ⟨g, j * 2, none⟩ = some u := hcs 0 (by decide)
      obtain ⟨zm1_1, hzm1_1⟩ : ∃ u, m1.cell? ⟨g, j * 2 + 1, none⟩ = some u := hcs 1 (by decide)
      clear hcs
      go_wp2
      replace HO := Lib.hid (setCells_owns [.string (markT q), .int .i64 ((q : Int) + 1)] (j * 2) _ _ HO.out)
      replace HC := Lib.hid (Chg.sets (g := g) (by simp) [.string (markT q), .int .i64 ((q : Int) + 1)] (j * 2) _ HC.out)
      go_light
      have hlt1 := (Rep.slice 123 DLoaded.rep).lt HM.out.1
      have hm' := marked_succ DLoaded.mk3 DLoaded.cnt k l j hlt
      rw [HQ.out] at hm'
      refine ⟨⟨j + 1, by omega, by go_num, ?_, ?_, ?_⟩, by simp [intOf]; omega⟩
      · rw [wtT_succ _ _ _ hlt, ← Nat.add_assoc, HQ.out]
        unfold DLoaded.cnt
        exact val_int (by omega)
      · rw [← hm']
        refine HS.out _ [.string (markT q), .int .i64 ((q : Int) + 1)] _ (by rw [marked_length]; exact HO.out) (DLoaded.rd.2 ⟨rfl, rfl, (by first | exact markT_le _ | (dsimp only; exact markT_le _) | (unfold DLoaded.mk3; dsimp only; exact markT_le _))⟩) fun b hb hbg hbf => ?_
        exact HC.out.block b (hlt1 b hb) (by rw [List.mem_cons]; exact fun hx => hx.elim hbg hbf)
      · exact HM.out.2.trans (HC.out.mono fun b hb => (List.mem_cons.1 hb).elim (fun hx => by rw [hx]; exact HG.out) (HFE.out b))
    · have e : j = l.length := by omega
      have HE := Lib.hid e; clear e
      go_wp2
      go_ret
      have hm' := HM.out
      rw [HE.out] at hm' ⊢
      rw [Marking, marked_all] at hm'
      exact ⟨rfl, hm'.1, hm'.2⟩
theorem markLoadedSI (v : Value) (l : List DLoaded) (fp : List Nat) (k : Nat) (a : Int) (ha : a = k) (w : World) (h : (Rep.slice 123 DLoaded.rep).rd true w [v] l fp) (hnd : fp.Nodup) (hk : k + wtT DLoaded.cnt l l.length ≤ 1000000000) :
    Calls Try.prog 62 #[v, .int .i64 a] w fun e w' => e = .returned (.int .i64 ((k + wtT DLoaded.cnt l l.length : Nat) : Int)) ∧ (Rep.slice 123 DLoaded.rep).rd true w' [v] (marks DLoaded.mk3 DLoaded.cnt k l) fp ∧ Chg fp w w' := by
  subst ha; exact markLoadedS v l fp k w h hnd hk

set_option maxRecDepth 100000 in
set_option maxHeartbeats 1600000 in
theorem heldLoadedS (v : Value) (l : List DLoaded) (k : Nat) (w : World) (h : Reads (Rep.slice 123 DLoaded.rep) w [v] (marks DLoaded.mk3 DLoaded.cnt k l)) (hk : k + wtT DLoaded.cnt l l.length ≤ 1000000000) :
    Calls Try.prog 73 #[v, .int .i64 k] w fun e w' => e = .returned (.int .i64 ((k + wtT DLoaded.cnt l l.length : Nat) : Int)) ∧ Below w.heap.size w w' := by
  have HK := Lib.hid h
  obtain ⟨fp, hu⟩ := h
  obtain ⟨ao, c1, rfl, hm, _, hu⟩ := slice_open hu
  clear hu
  rw [marks_length] at HK hm ⊢
  go_enter Try.func73, Try.ntmps73
  go_wp2
  go_loopw [1, 5] (fun a i wr => ∃ j : Nat, j ≤ l.length ∧ i = .int .i64 j ∧ a = .int .i64 ((k + wtT DLoaded.cnt l j : Nat) : Int) ∧ Below w.heap.size w wr) (fun _ i _ => l.length - (intOf i).toNat)
  case atStart => exact ⟨0, by omega, rfl, by simp [wtT], (by repeat (first | with_reducible exact belR | with_reducible apply belA | (with_reducible refine belS ?_ ?_; focus (first | omega | (simp; done) | (simp; omega))) | with_reducible apply belN | with_reducible apply belD | with_reducible assumption))⟩
  case round =>
    obtain ⟨j, hj, rfl, rfl, hb⟩ := hrel
    have HB := Lib.hid hb; clear hb
    by_cases hlt : j < l.length
    · have hw1 := wtT_succ DLoaded.cnt l j hlt
      have hw2 := wtT_mono DLoaded.cnt l (j + 1) l.length hlt
      have hlt' : j < (marks DLoaded.mk3 DLoaded.cnt k l).length := by rw [marks_length]; exact hlt
      have hval := marks_at DLoaded.mk3 DLoaded.cnt k l j hlt hlt'
      generalize hq : k + wtT DLoaded.cnt l j = q at *
      have hqc : q + DLoaded.cnt l[j] ≤ 1000000000 := by omega
      unfold DLoaded.cnt at hqc
      have HQ := Lib.hid hq; clear hq hw1 hw2
      obtain ⟨b, off, cs, rfl, hbw, hr, hcell⟩ := slice_at (HK.out.below HB.out) j hlt'
      rw [hval] at hr
      clear hval
      obtain ⟨fe, hrd⟩ := hr
      obtain ⟨rfl, _, _⟩ := DLoaded.rd.1 hrd
      have hc0 : wr.cell? ⟨b, off + j * 2, none⟩ = some (.string (markT (q))) := hcell 0 (by decide)
      have hc1 : wr.cell? ⟨b, off + j * 2 + 1, none⟩ = some (.int .i64 ((q : Int) + 1)) := hcell 1 (by decide)
      clear hcell hrd 
      go_wp2_with fail
      go_region_held3 (fun w' => w'.cell? ⟨b, off + j * 2, none⟩ = some (.string (markT q)) ∧ Below wr.heap.size wr w') (first | exact ⟨hc0, belD belR⟩ | exact ⟨(hb1.cell (p := ⟨b, off + j * 2, none⟩) hbw).trans hc0, (belD belR).trans hb1⟩)
        (first | (go_at_call 61; refine (markTextI q _ (by omega) (by omega) _).mono ?_; rintro e m1 ⟨rfl, hb1⟩))
      obtain ⟨_, hbn⟩ := ‹_ ∧ Below wr.heap.size wr m1›
      have hm1_1 : m1.cell? ⟨b, off + j * 2 + 1, none⟩ = some (.int .i64 ((q : Int) + 1)) := (hbn.cell (p := ⟨b, off + j * 2 + 1, none⟩) hbw).trans hc1
      replace hbw : b < m1.heap.size := Nat.lt_of_lt_of_le hbw hbn.size
      replace HB := Lib.hid (below_call HB.out HB.out.size hbn)
      clear hbn hb1 hc0 hc1
      go_wp2
      go_light
      refine ⟨⟨j + 1, by omega, by go_num, ?_, HB.out⟩, by simp [intOf]; omega⟩
      rw [wtT_succ _ _ _ hlt, ← Nat.add_assoc, HQ.out]
      unfold DLoaded.cnt
      exact val_int (by omega)
    · have e : j = l.length := by omega
      have HE := Lib.hid e; clear e
      go_wp2
      go_ret
      rw [HE.out]
      exact ⟨rfl, HB.out⟩
theorem heldLoadedSI (v : Value) (l : List DLoaded) (k : Nat) (a : Int) (ha : a = k) (w : World) (h : Reads (Rep.slice 123 DLoaded.rep) w [v] (marks DLoaded.mk3 DLoaded.cnt k l)) (hk : k + wtT DLoaded.cnt l l.length ≤ 1000000000) :
    Calls Try.prog 73 #[v, .int .i64 a] w fun e w' => e = .returned (.int .i64 ((k + wtT DLoaded.cnt l l.length : Nat) : Int)) ∧ Below w.heap.size w w' := by
  subst ha; exact heldLoadedS v l k w h hk

end Go.Proofs.Ytamdjeajmfjfmaa
