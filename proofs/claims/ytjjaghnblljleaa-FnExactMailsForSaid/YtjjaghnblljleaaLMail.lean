/-
  The laws' helpers for Mail.
-/
import Derived.Test.YtjjaghnblljleaaMarkSl
import Derived.Test.YtjjaghnblljleaaTMail
namespace Go.Proofs.Ytjjaghnblljleaa
open Go.RowKit

def DMail.wt (_ : DMail) : Nat := 0

set_option maxHeartbeats 800000 in
theorem toMail (cs : List Value) (x : DMail) (w : World) (h : Reads DMail.rep w cs x) (_hsmall : x.wt ≤ 1048576) :
    Calls Try.prog 111 #[.agg cs.toArray] w fun e w' => ∃ ds, e = .returned (.agg ds.toArray) ∧ Fresh DMail.rep w.heap.size w' ds x ∧ Below w.heap.size w w' := by
  obtain ⟨fp, h⟩ := h
  obtain ⟨rfl, _⟩ := DMail.rd.1 h
  clear h 
  go_enter Try.func111, Try.ntmps111
  go_wp2
  refine bodyPost_ret (v := .agg #[.int .i64 x.to, .int .i64 x.from_, .int .i64 x.n]) (by first | (simp [results, Try.results111, go_sem]; done)) rfl ⟨_, rfl, ?_, ?_⟩
  · exact ⟨[], DMail.rd.2 ⟨rfl, rfl⟩, by simp, by simp⟩
  · exact (by repeat (first | with_reducible exact belR | with_reducible apply belA | (with_reducible refine belS ?_ ?_; focus (first | omega | (simp; done) | (simp; omega))) | with_reducible apply belN | with_reducible apply belD | with_reducible assumption))

set_option maxHeartbeats 800000 in
theorem eqMail (cs ds : List Value) (x : DMail) (w : World) (h : Reads DMail.rep w cs x) (h' : Reads DMail.rep w ds x) :
    Calls Try.prog 82 #[.agg cs.toArray, .agg ds.toArray] w fun e w' => e = .returned (.bool true) ∧ Below w.heap.size w w' := by
  obtain ⟨fp, h0⟩ := h
  obtain ⟨rfl, _⟩ := DMail.rd.1 h0
  clear h0 
  obtain ⟨fp, h0⟩ := h'
  obtain ⟨rfl, _⟩ := DMail.rd.1 h0
  clear h0 
  go_enter Try.func82, Try.ntmps82
  go_wp2
  go_ret
  exact ⟨rfl, (by repeat (first | with_reducible exact belR | with_reducible apply belA | (with_reducible refine belS ?_ ?_; focus (first | omega | (simp; done) | (simp; omega))) | with_reducible apply belN | with_reducible apply belD | with_reducible assumption))⟩

set_option maxHeartbeats 400000 in
theorem szMailS (v : Value) (l : List DMail) (left : Int) (w : World) (h : Reads (Rep.slice 117 DMail.rep) w [v] l) (h0 : 0 ≤ left) (h1 : left ≤ 1048576) :
    Calls Try.prog 80 #[v, .int .i64 left] w fun e w' => e = .returned (.int .i64 (szOf (wtS DMail.wt l) left)) ∧ Below w.heap.size w w' := by
  have HK := Lib.hid h
  obtain ⟨fp, h⟩ := h
  obtain ⟨ao, c1, rfl, hm, _, hu⟩ := slice_open h
  clear hu h
  go_enter Try.func80, Try.ntmps80
  go_wp2
  all_goals
    go_ret
    refine ⟨ret_int ?_, (by repeat (first | with_reducible exact belR | with_reducible apply belA | (with_reducible refine belS ?_ ?_; focus (first | omega | (simp; done) | (simp; omega))) | with_reducible apply belN | with_reducible apply belD | with_reducible assumption))⟩
    go_light
    have a0 := szOf_spec (wtS DMail.wt l) left
    have a1 : wtS DMail.wt l = l.length := wtS_zero l
    omega

theorem infoMail : (Try.prog.info? 117).map (fun i => (i.zero, i.size, i.bytes)) = some (some (.agg #[.int .i64 0, .int .i64 0, .int .i64 0]), 3, 24) := by kernel_rfl

set_option maxRecDepth 100000 in
set_option maxHeartbeats 800000 in
theorem toMailS (u : Value) (l : List DMail) (w : World) (hu : Reads (Rep.slice 117 DMail.rep) w [u] l) (hsmall : wtS DMail.wt l ≤ 1048576) :
    Calls Try.prog 81 #[u] w fun e w' => ∃ v, e = .returned v ∧ Fresh (Rep.slice 117 DMail.rep) w.heap.size w' [v] l ∧ Below w.heap.size w w' := by
  have HK := Lib.hid hu
  obtain ⟨fp, hu⟩ := hu
  obtain ⟨ao, c1, rfl, hm, _, hu⟩ := slice_open hu
  clear hu
  have hlen := wtS_ge DMail.wt l
  have HW := Lib.hid hsmall
  obtain ⟨i0, hi, hz0, hz1, hz2⟩ := info_parts infoMail
  go_enter Try.func81, Try.ntmps81
  go_wp2_with (at_make; refine wpList_make_full _ rfl _ _ 49 rfl w.heap.size 117 i0 _ 3 Try.underlying49 hi hz0 hz1 _ _ _ _ l.length rfl rfl rfl rfl ?c1 ?c2 (Nat.le_refl _) ?_)
  case c1 => rw [hz2]; omega
  case c2 => unfold maxLen; omega
  intro w1 hown hgrow
  have hf : Filling DMail.rep 117 w.heap.size w.heap.size l.length l 0 w1 := Filling.start hown (Nat.le_refl _)
  have hb1 : Below w.heap.size w w1 := (Below.refl _ _).grown hgrow (Nat.le_refl _) (by intro k hk; cases hk)
  have HF := Lib.hid hf; clear hf hown
  have HB := Lib.hid hb1; clear hb1 hgrow
  go_wp2
  go_loopw [4] (fun i wr => ∃ k : Nat, k ≤ l.length ∧ i = .int .i64 k ∧ Filling DMail.rep 117 w.heap.size w.heap.size l.length l k wr ∧ Below w.heap.size w wr) (fun i _ => l.length - (intOf i).toNat)
  case atStart => exact ⟨0, by omega, rfl, HF.out, HB.out⟩
  case round =>
    obtain ⟨k, hk, rfl, hf, hb⟩ := hrel
    have HB := Lib.hid hb; clear hb
    have HF := Lib.hid hf; clear hf
    by_cases hlt : k < l.length
    · obtain ⟨b, off, cs, rfl, bw, hr, hcell⟩ := slice_at (HK.out.below HB.out) k hlt
      obtain ⟨fe, hrd⟩ := hr
      obtain ⟨rfl, _⟩ := DMail.rd.1 hrd
      have HR : Hid (Reads DMail.rep wr _ l[k]) := ⟨_, hrd⟩
      clear hrd
      have hc0 : wr.cell? ⟨b, off + k * 3, none⟩ = some (.int .i64 l[k].to) := hcell 0 (by decide)
      have hc1 : wr.cell? ⟨b, off + k * 3 + 1, none⟩ = some (.int .i64 l[k].from_) := hcell 1 (by decide)
      have hc2 : wr.cell? ⟨b, off + k * 3 + 2, none⟩ = some (.int .i64 l[k].n) := hcell 2 (by decide)
      clear hcell
      go_wp2_with fail
      refine (toMail _ _ _ HR.out (Nat.le_trans (wtS_elem DMail.wt l k hlt) HW.out)).mono ?_
      rintro e w1 ⟨ds, rfl, hfr, hb1⟩
      have HF1 := Lib.hid (Filling.step hlt rfl HF.out hb1 hfr)
      have HB1 := Lib.hid (setCells_below (Nat.le_refl _) ds (k * 3) _ (below_call HB.out HB.out.size hb1))
      obtain ⟨hcs, hfz⟩ := (HF.out.below hb1).cells hlt
      obtain ⟨fd, hrd, _⟩ := hfr
      obtain ⟨rfl, _⟩ := DMail.rd.1 hrd
      obtain ⟨z0, hy0⟩ : ∃ u, w1.cell? ⟨w.heap.size, k * 3, none⟩ = some u := hcs 0 (by decide)
      obtain ⟨z1, hy1⟩ : ∃ u, w1.cell? ⟨w.heap.size, k * 3 + 1, none⟩ = some u := hcs 1 (by decide)
      obtain ⟨z2, hy2⟩ : ∃ u, w1.cell? ⟨w.heap.size, k * 3 + 2, none⟩ = some u := hcs 2 (by decide)
      clear hcs hb1 hrd hc0 hc1 hc2
      go_wp2
      go_light
      exact ⟨⟨k + 1, by omega, by go_num, HF1.out, HB1.out⟩, by simp [intOf]; omega⟩
    · have HW : Hid (Fresh (Rep.slice 117 DMail.rep) w.heap.size wr [.slice (some ⟨w.heap.size, 0, none⟩) l.length l.length] l) := by
        have e : k = l.length := by omega
        have hf := HF.out
        rw [e] at hf
        exact hf.done rfl
      go_wp2
      go_ret
      exact ⟨_, rfl, HW.out, HB.out⟩

set_option maxRecDepth 100000 in
set_option maxHeartbeats 800000 in
theorem eqMailS (u v : Value) (l : List DMail) (w : World) (h : Reads (Rep.slice 117 DMail.rep) w [u] l) (h' : Reads (Rep.slice 117 DMail.rep) w [v] l) :
    Calls Try.prog 31 #[u, v] w fun e w' => e = .returned (.bool true) ∧ Below w.heap.size w w' := by
  have HK := Lib.hid h
  obtain ⟨fp, h⟩ := h
  obtain ⟨ao, c1, rfl, hm, _, hu⟩ := slice_open h
  clear hu h
  have HK' := Lib.hid h'
  obtain ⟨fp, h⟩ := h'
  obtain ⟨bo, c2, rfl, _, _, hu⟩ := slice_open h
  clear hu h
  go_enter Try.func31, Try.ntmps31
  go_wp2
  go_loopw [5] (fun i wr => ∃ k : Nat, k ≤ l.length ∧ i = .int .i64 k ∧ Below w.heap.size w wr) (fun i _ => l.length - (intOf i).toNat)
  case atStart => exact ⟨0, by omega, rfl, (by repeat (first | with_reducible exact belR | with_reducible apply belA | (with_reducible refine belS ?_ ?_; focus (first | omega | (simp; done) | (simp; omega))) | with_reducible apply belN | with_reducible apply belD | with_reducible assumption))⟩
  case round =>
    obtain ⟨k, hk, rfl, hb⟩ := hrel
    have HB := Lib.hid hb; clear hb
    by_cases hlt : k < l.length
    · obtain ⟨b, off, cs, rfl, bw, hr, hcell⟩ := slice_at (HK.out.below HB.out) k hlt
      obtain ⟨fe, hrd⟩ := hr
      obtain ⟨rfl, _⟩ := DMail.rd.1 hrd
      have HR : Hid (Reads DMail.rep wr _ l[k]) := ⟨_, hrd⟩
      clear hrd
      have hc0 : wr.cell? ⟨b, off + k * 3, none⟩ = some (.int .i64 l[k].to) := hcell 0 (by decide)
      have hc1 : wr.cell? ⟨b, off + k * 3 + 1, none⟩ = some (.int .i64 l[k].from_) := hcell 1 (by decide)
      have hc2 : wr.cell? ⟨b, off + k * 3 + 2, none⟩ = some (.int .i64 l[k].n) := hcell 2 (by decide)
      clear hcell
      obtain ⟨b', off', cs, rfl, b'w, hr, hcell⟩ := slice_at (HK'.out.below HB.out) k hlt
      obtain ⟨fe, hrd⟩ := hr
      obtain ⟨rfl, _⟩ := DMail.rd.1 hrd
      have HR' : Hid (Reads DMail.rep wr _ l[k]) := ⟨_, hrd⟩
      clear hrd
      have hd0 : wr.cell? ⟨b', off' + k * 3, none⟩ = some (.int .i64 l[k].to) := hcell 0 (by decide)
      have hd1 : wr.cell? ⟨b', off' + k * 3 + 1, none⟩ = some (.int .i64 l[k].from_) := hcell 1 (by decide)
      have hd2 : wr.cell? ⟨b', off' + k * 3 + 2, none⟩ = some (.int .i64 l[k].n) := hcell 2 (by decide)
      clear hcell
      go_wp2_with fail
      go_still_tail 8, (by kernel_rfl)
      change wpList _ _ _ _ _ wr.drew
      go_wp2_with fail
      refine (eqMail _ _ _ _ (HR.out.below (by repeat (first | with_reducible exact belR | with_reducible apply belA | (with_reducible refine belS ?_ ?_; focus (first | omega | (simp; done) | (simp; omega))) | with_reducible apply belN | with_reducible apply belD | with_reducible assumption))) (HR'.out.below (by repeat (first | with_reducible exact belR | with_reducible apply belA | (with_reducible refine belS ?_ ?_; focus (first | omega | (simp; done) | (simp; omega))) | with_reducible apply belN | with_reducible apply belD | with_reducible assumption)))).mono ?_
      rintro e w1 ⟨rfl, hb1⟩
      have HB1 := Lib.hid (below_call (belD HB.out) (belD HB.out).size hb1); clear hb1
      go_wp2
      go_light
      exact ⟨⟨k + 1, by omega, by go_num, HB1.out⟩, by simp [intOf]; omega⟩
    · go_wp2
      go_ret
      exact ⟨rfl, HB.out⟩

def DMail.cnt (_ : DMail) : Nat := 3
def DMail.mk3 (k : Nat) (_ : DMail) : DMail := ⟨((k : Int)), ((k : Int) + 1), ((k : Int) + 1 + 1)⟩

set_option maxRecDepth 100000 in
set_option maxHeartbeats 1600000 in
theorem markMailS (v : Value) (l : List DMail) (fp : List Nat) (k : Nat) (w : World) (h : (Rep.slice 117 DMail.rep).rd true w [v] l fp) (hnd : fp.Nodup) (hk : k + wtT DMail.cnt l l.length ≤ 1000000000) :
    Calls Try.prog 34 #[v, .int .i64 k] w fun e w' => e = .returned (.int .i64 ((k + wtT DMail.cnt l l.length : Nat) : Int)) ∧ (Rep.slice 117 DMail.rep).rd true w' [v] (marks DMail.mk3 DMail.cnt k l) fp ∧ Chg fp w w' := by
  have HM : Hid (Marking DMail.rep 117 DMail.mk3 DMail.cnt k l v fp w 0 w) := ⟨by rw [marked_zero]; exact h, Chg.refl⟩
  obtain ⟨ao, c1, rfl, hm, _, hu⟩ := slice_open h
  clear hu h
  go_enter Try.func34, Try.ntmps34
  go_wp2
  go_loopw [1, 5] (fun a i wr => ∃ j : Nat, j ≤ l.length ∧ i = .int .i64 j ∧ a = .int .i64 ((k + wtT DMail.cnt l j : Nat) : Int) ∧ Marking DMail.rep 117 DMail.mk3 DMail.cnt k l (.slice ao l.length c1) fp w j wr) (fun _ i _ => l.length - (intOf i).toNat)
  case atStart => exact ⟨0, by omega, rfl, by simp [wtT], HM.out⟩
  case round =>
    obtain ⟨j, hj, rfl, rfl, hma⟩ := hrel
    have HM := Lib.hid hma; clear hma
    by_cases hlt : j < l.length
    · have hw1 := wtT_succ DMail.cnt l j hlt
      have hw2 := wtT_mono DMail.cnt l (j + 1) l.length hlt
      generalize hq : k + wtT DMail.cnt l j = q at *
      have hqc : q + DMail.cnt l[j] ≤ 1000000000 := by omega
      unfold DMail.cnt at hqc
      have HQ := Lib.hid hq; clear hq hw1 hw2
      have hlt' : j < (marked DMail.mk3 DMail.cnt k l j).length := by rw [marked_length]; exact hlt
      obtain ⟨g, cap, xs, cs, fe, hv, hg, hgfe, hfesub, hfend, hown, hrd, hcs, hshut⟩ := own_open HM.out.1 hnd j hlt'
      rw [marked_length] at hv hown
      simp only [Value.slice.injEq] at hv
      obtain ⟨rfl, _, rfl⟩ := hv
      have HG := Lib.hid hg; clear hg
      have HS := Lib.hid hshut; clear hshut
      have HFE := Lib.hid hfesub; clear hfesub
      have hval := marked_get DMail.mk3 DMail.cnt k l j hlt
      rw [List.getElem?_eq_getElem hlt'] at hval
      rw [Option.some.inj hval] at hrd
      clear hval
      have HO := Lib.hid hown; clear hown
      obtain ⟨rfl, hfe⟩ := DMail.rd.1 hrd
      subst hfe
      have HC : Hid (Chg (g :: (([] : List Nat))) wr wr) := Chg.refl
      clear hrd hcs 
      obtain ⟨hcs, hfzwr⟩ := own_cells HO.out hlt
      obtain ⟨zwr_0, hzwr_0⟩ : ∃ u, wr.cell? ⟨g, j * 3, none⟩ = some u := hcs 0 (by decide)
      obtain ⟨zwr_1, hzwr_1⟩ : ∃ u, wr.cell? ⟨g, j * 3 + 1, none⟩ = some u := hcs 1 (by decide)
      obtain ⟨zwr_2, hzwr_2⟩ : ∃ u, wr.cell? ⟨g, j * 3 + 2, none⟩ = some u := hcs 2 (by decide)
      clear hcs
      go_wp2
      replace HO := Lib.hid (setCells_owns [.int .i64 ((q : Int)), .int .i64 ((q : Int) + 1), .int .i64 ((q : Int) + 1 + 1)] (j * 3) _ _ HO.out)
      replace HC := Lib.hid (Chg.sets (g := g) (by simp) [.int .i64 ((q : Int)), .int .i64 ((q : Int) + 1), .int .i64 ((q : Int) + 1 + 1)] (j * 3) _ HC.out)
      go_light
      have hlt1 := (Rep.slice 117 DMail.rep).lt HM.out.1
      have hm' := marked_succ DMail.mk3 DMail.cnt k l j hlt
      rw [HQ.out] at hm'
      refine ⟨⟨j + 1, by omega, by go_num, ?_, ?_, ?_⟩, by simp [intOf]; omega⟩
      · rw [wtT_succ _ _ _ hlt, ← Nat.add_assoc, HQ.out]
        unfold DMail.cnt
        exact val_int (by omega)
      · rw [← hm']
        refine HS.out _ [.int .i64 ((q : Int)), .int .i64 ((q : Int) + 1), .int .i64 ((q : Int) + 1 + 1)] _ (by rw [marked_length]; exact HO.out) (DMail.rd.2 ⟨rfl, rfl⟩) fun b hb hbg hbf => ?_
        exact HC.out.block b (hlt1 b hb) (by rw [List.mem_cons]; exact fun hx => hx.elim hbg hbf)
      · exact HM.out.2.trans (HC.out.mono fun b hb => (List.mem_cons.1 hb).elim (fun hx => by rw [hx]; exact HG.out) (HFE.out b))
    · have e : j = l.length := by omega
      have HE := Lib.hid e; clear e
      go_wp2
      go_ret
      have hm' := HM.out
      rw [HE.out] at hm' ⊢
      rw [Marking, marked_all] at hm'
      exact ⟨rfl, hm'.1, hm'.2⟩
theorem markMailSI (v : Value) (l : List DMail) (fp : List Nat) (k : Nat) (a : Int) (ha : a = k) (w : World) (h : (Rep.slice 117 DMail.rep).rd true w [v] l fp) (hnd : fp.Nodup) (hk : k + wtT DMail.cnt l l.length ≤ 1000000000) :
    Calls Try.prog 34 #[v, .int .i64 a] w fun e w' => e = .returned (.int .i64 ((k + wtT DMail.cnt l l.length : Nat) : Int)) ∧ (Rep.slice 117 DMail.rep).rd true w' [v] (marks DMail.mk3 DMail.cnt k l) fp ∧ Chg fp w w' := by
  subst ha; exact markMailS v l fp k w h hnd hk

set_option maxRecDepth 100000 in
set_option maxHeartbeats 1600000 in
theorem heldMailS (v : Value) (l : List DMail) (k : Nat) (w : World) (h : Reads (Rep.slice 117 DMail.rep) w [v] (marks DMail.mk3 DMail.cnt k l)) (hk : k + wtT DMail.cnt l l.length ≤ 1000000000) :
    Calls Try.prog 35 #[v, .int .i64 k] w fun e w' => e = .returned (.int .i64 ((k + wtT DMail.cnt l l.length : Nat) : Int)) ∧ Below w.heap.size w w' := by
  have HK := Lib.hid h
  obtain ⟨fp, hu⟩ := h
  obtain ⟨ao, c1, rfl, hm, _, hu⟩ := slice_open hu
  clear hu
  rw [marks_length] at HK hm ⊢
  go_enter Try.func35, Try.ntmps35
  go_wp2
  go_loopw [1, 5] (fun a i wr => ∃ j : Nat, j ≤ l.length ∧ i = .int .i64 j ∧ a = .int .i64 ((k + wtT DMail.cnt l j : Nat) : Int) ∧ Below w.heap.size w wr) (fun _ i _ => l.length - (intOf i).toNat)
  case atStart => exact ⟨0, by omega, rfl, by simp [wtT], (by repeat (first | with_reducible exact belR | with_reducible apply belA | (with_reducible refine belS ?_ ?_; focus (first | omega | (simp; done) | (simp; omega))) | with_reducible apply belN | with_reducible apply belD | with_reducible assumption))⟩
  case round =>
    obtain ⟨j, hj, rfl, rfl, hb⟩ := hrel
    have HB := Lib.hid hb; clear hb
    by_cases hlt : j < l.length
    · have hw1 := wtT_succ DMail.cnt l j hlt
      have hw2 := wtT_mono DMail.cnt l (j + 1) l.length hlt
      have hlt' : j < (marks DMail.mk3 DMail.cnt k l).length := by rw [marks_length]; exact hlt
      have hval := marks_at DMail.mk3 DMail.cnt k l j hlt hlt'
      generalize hq : k + wtT DMail.cnt l j = q at *
      have hqc : q + DMail.cnt l[j] ≤ 1000000000 := by omega
      unfold DMail.cnt at hqc
      have HQ := Lib.hid hq; clear hq hw1 hw2
      obtain ⟨b, off, cs, rfl, hbw, hr, hcell⟩ := slice_at (HK.out.below HB.out) j hlt'
      rw [hval] at hr
      clear hval
      obtain ⟨fe, hrd⟩ := hr
      obtain ⟨rfl, _⟩ := DMail.rd.1 hrd
      have hc0 : wr.cell? ⟨b, off + j * 3, none⟩ = some (.int .i64 ((q : Int))) := hcell 0 (by decide)
      have hc1 : wr.cell? ⟨b, off + j * 3 + 1, none⟩ = some (.int .i64 ((q : Int) + 1)) := hcell 1 (by decide)
      have hc2 : wr.cell? ⟨b, off + j * 3 + 2, none⟩ = some (.int .i64 ((q : Int) + 1 + 1)) := hcell 2 (by decide)
      clear hcell hrd 
      go_wp2
      go_light
      refine ⟨⟨j + 1, by omega, by go_num, ?_, HB.out⟩, by simp [intOf]; omega⟩
      rw [wtT_succ _ _ _ hlt, ← Nat.add_assoc, HQ.out]
      unfold DMail.cnt
      exact val_int (by omega)
    · have e : j = l.length := by omega
      have HE := Lib.hid e; clear e
      go_wp2
      go_ret
      rw [HE.out]
      exact ⟨rfl, HB.out⟩
theorem heldMailSI (v : Value) (l : List DMail) (k : Nat) (a : Int) (ha : a = k) (w : World) (h : Reads (Rep.slice 117 DMail.rep) w [v] (marks DMail.mk3 DMail.cnt k l)) (hk : k + wtT DMail.cnt l l.length ≤ 1000000000) :
    Calls Try.prog 35 #[v, .int .i64 a] w fun e w' => e = .returned (.int .i64 ((k + wtT DMail.cnt l l.length : Nat) : Int)) ∧ Below w.heap.size w w' := by
  subst ha; exact heldMailS v l k w h hk

end Go.Proofs.Ytjjaghnblljleaa
