/-
  The laws' helpers for Applied.
-/
import Derived.Test.YtjdoofekohjjlaaMarkSl
import Derived.Test.YtjdoofekohjjlaaTApplied
namespace Go.Proofs.Ytjdoofekohjjlaa
open Go.RowKit

def DApplied.wt (_ : DApplied) : Nat := 0

set_option maxHeartbeats 800000 in
theorem toApplied (cs : List Value) (x : DApplied) (w : World) (h : Reads DApplied.rep w cs x) (_hsmall : x.wt ≤ 1048576) :
    Calls Try.prog 98 #[.agg cs.toArray] w fun e w' => ∃ ds, e = .returned (.agg ds.toArray) ∧ Fresh DApplied.rep w.heap.size w' ds x ∧ Below w.heap.size w w' := by
  obtain ⟨fp, h⟩ := h
  obtain ⟨rfl, _⟩ := DApplied.rd.1 h
  clear h 
  go_enter Try.func98, Try.ntmps98
  go_wp2
  refine bodyPost_ret (v := .agg #[.int .i64 x.device, .int .i64 x.seq]) (by first | (simp [results, Try.results98, go_sem]; done)) rfl ⟨_, rfl, ?_, ?_⟩
  · exact ⟨[], DApplied.rd.2 ⟨rfl, rfl⟩, by simp, by simp⟩
  · exact (by repeat (first | with_reducible exact belR | with_reducible apply belA | (with_reducible refine belS ?_ ?_; focus (first | omega | (simp; done) | (simp; omega))) | with_reducible apply belN | with_reducible apply belD | with_reducible assumption))

set_option maxHeartbeats 800000 in
theorem eqApplied (cs ds : List Value) (x : DApplied) (w : World) (h : Reads DApplied.rep w cs x) (h' : Reads DApplied.rep w ds x) :
    Calls Try.prog 101 #[.agg cs.toArray, .agg ds.toArray] w fun e w' => e = .returned (.bool true) ∧ Below w.heap.size w w' := by
  obtain ⟨fp, h0⟩ := h
  obtain ⟨rfl, _⟩ := DApplied.rd.1 h0
  clear h0 
  obtain ⟨fp, h0⟩ := h'
  obtain ⟨rfl, _⟩ := DApplied.rd.1 h0
  clear h0 
  go_enter Try.func101, Try.ntmps101
  go_wp2
  go_ret
  exact ⟨rfl, (by repeat (first | with_reducible exact belR | with_reducible apply belA | (with_reducible refine belS ?_ ?_; focus (first | omega | (simp; done) | (simp; omega))) | with_reducible apply belN | with_reducible apply belD | with_reducible assumption))⟩

set_option maxHeartbeats 400000 in
theorem szAppliedS (v : Value) (l : List DApplied) (left : Int) (w : World) (h : Reads (Rep.slice 86 DApplied.rep) w [v] l) (h0 : 0 ≤ left) (h1 : left ≤ 1048576) :
    Calls Try.prog 43 #[v, .int .i64 left] w fun e w' => e = .returned (.int .i64 (szOf (wtS DApplied.wt l) left)) ∧ Below w.heap.size w w' := by
  have HK := Lib.hid h
  obtain ⟨fp, h⟩ := h
  obtain ⟨ao, c1, rfl, hm, _, hu⟩ := slice_open h
  clear hu h
  go_enter Try.func43, Try.ntmps43
  go_wp2
  all_goals
    go_ret
    refine ⟨ret_int ?_, (by repeat (first | with_reducible exact belR | with_reducible apply belA | (with_reducible refine belS ?_ ?_; focus (first | omega | (simp; done) | (simp; omega))) | with_reducible apply belN | with_reducible apply belD | with_reducible assumption))⟩
    go_light
    have a0 := szOf_spec (wtS DApplied.wt l) left
    have a1 : wtS DApplied.wt l = l.length := wtS_zero l
    omega

theorem infoApplied : (Try.prog.info? 86).map (fun i => (i.zero, i.size, i.bytes)) = some (some (.agg #[.int .i64 0, .int .i64 0]), 2, 16) := by kernel_rfl

set_option maxRecDepth 100000 in
set_option maxHeartbeats 800000 in
theorem toAppliedS (u : Value) (l : List DApplied) (w : World) (hu : Reads (Rep.slice 86 DApplied.rep) w [u] l) (hsmall : wtS DApplied.wt l ≤ 1048576) :
    Calls Try.prog 46 #[u] w fun e w' => ∃ v, e = .returned v ∧ Fresh (Rep.slice 86 DApplied.rep) w.heap.size w' [v] l ∧ Below w.heap.size w w' := by
  have HK := Lib.hid hu
  obtain ⟨fp, hu⟩ := hu
  obtain ⟨ao, c1, rfl, hm, _, hu⟩ := slice_open hu
  clear hu
  have hlen := wtS_ge DApplied.wt l
  have HW := Lib.hid hsmall
  obtain ⟨i0, hi, hz0, hz1, hz2⟩ := info_parts infoApplied
  go_enter Try.func46, Try.ntmps46
  go_wp2_with (at_make; refine wpList_make_full _ rfl _ _ 34 rfl w.heap.size 86 i0 _ 2 Try.underlying34 hi hz0 hz1 _ _ _ _ l.length rfl rfl rfl rfl ?c1 ?c2 (Nat.le_refl _) ?_)
  case c1 => rw [hz2]; omega
  case c2 => unfold maxLen; omega
  intro w1 hown hgrow
  have hf : Filling DApplied.rep 86 w.heap.size w.heap.size l.length l 0 w1 := Filling.start hown (Nat.le_refl _)
  have hb1 : Below w.heap.size w w1 := (Below.refl _ _).grown hgrow (Nat.le_refl _) (by intro k hk; cases hk)
  have HF := Lib.hid hf; clear hf hown
  have HB := Lib.hid hb1; clear hb1 hgrow
  go_wp2
  go_loopw [4] (fun i wr => ∃ k : Nat, k ≤ l.length ∧ i = .int .i64 k ∧ Filling DApplied.rep 86 w.heap.size w.heap.size l.length l k wr ∧ Below w.heap.size w wr) (fun i _ => l.length - (intOf i).toNat)
  case atStart => exact ⟨0, by omega, rfl, HF.out, HB.out⟩
  case round =>
    obtain ⟨k, hk, rfl, hf, hb⟩ := hrel
    have HB := Lib.hid hb; clear hb
    have HF := Lib.hid hf; clear hf
    by_cases hlt : k < l.length
    · obtain ⟨b, off, cs, rfl, bw, hr, hcell⟩ := slice_at (HK.out.below HB.out) k hlt
      obtain ⟨fe, hrd⟩ := hr
      obtain ⟨rfl, _⟩ := DApplied.rd.1 hrd
      have HR : Hid (Reads DApplied.rep wr _ l[k]) := ⟨_, hrd⟩
      clear hrd
      have hc0 : wr.cell? ⟨b, off + k * 2, none⟩ = some (.int .i64 l[k].device) := hcell 0 (by decide)
      have hc1 : wr.cell? ⟨b, off + k * 2 + 1, none⟩ = some (.int .i64 l[k].seq) := hcell 1 (by decide)
      clear hcell
      go_wp2_with fail
      refine (toApplied _ _ _ HR.out (Nat.le_trans (wtS_elem DApplied.wt l k hlt) HW.out)).mono ?_
      rintro e w1 ⟨ds, rfl, hfr, hb1⟩
      have HF1 := Lib.hid (Filling.step hlt rfl HF.out hb1 hfr)
      have HB1 := Lib.hid (setCells_below (Nat.le_refl _) ds (k * 2) _ (below_call HB.out HB.out.size hb1))
      obtain ⟨hcs, hfz⟩ := (HF.out.below hb1).cells hlt
      obtain ⟨fd, hrd, _⟩ := hfr
      obtain ⟨rfl, _⟩ := DApplied.rd.1 hrd
      obtain ⟨z0, hy0⟩ : ∃ u, w1.cell? ⟨w.heap.size, k * 2, none⟩ = some u := hcs 0 (by decide)
      obtain ⟨z1, hy1⟩ : ∃ u, w1.cell? ⟨w.heap.size, k * 2 + 1, none⟩ = some u := hcs 1 (by decide)
      clear hcs hb1 hrd hc0 hc1
      go_wp2
      go_light
      exact ⟨⟨k + 1, by omega, by go_num, HF1.out, HB1.out⟩, by simp [intOf]; omega⟩
    · have HW : Hid (Fresh (Rep.slice 86 DApplied.rep) w.heap.size wr [.slice (some ⟨w.heap.size, 0, none⟩) l.length l.length] l) := by
        have e : k = l.length := by omega
        have hf := HF.out
        rw [e] at hf
        exact hf.done rfl
      go_wp2
      go_ret
      exact ⟨_, rfl, HW.out, HB.out⟩

set_option maxRecDepth 100000 in
set_option maxHeartbeats 800000 in
theorem eqAppliedS (u v : Value) (l : List DApplied) (w : World) (h : Reads (Rep.slice 86 DApplied.rep) w [u] l) (h' : Reads (Rep.slice 86 DApplied.rep) w [v] l) :
    Calls Try.prog 51 #[u, v] w fun e w' => e = .returned (.bool true) ∧ Below w.heap.size w w' := by
  have HK := Lib.hid h
  obtain ⟨fp, h⟩ := h
  obtain ⟨ao, c1, rfl, hm, _, hu⟩ := slice_open h
  clear hu h
  have HK' := Lib.hid h'
  obtain ⟨fp, h⟩ := h'
  obtain ⟨bo, c2, rfl, _, _, hu⟩ := slice_open h
  clear hu h
  go_enter Try.func51, Try.ntmps51
  go_wp2
  go_loopw [5] (fun i wr => ∃ k : Nat, k ≤ l.length ∧ i = .int .i64 k ∧ Below w.heap.size w wr) (fun i _ => l.length - (intOf i).toNat)
  case atStart => exact ⟨0, by omega, rfl, (by repeat (first | with_reducible exact belR | with_reducible apply belA | (with_reducible refine belS ?_ ?_; focus (first | omega | (simp; done) | (simp; omega))) | with_reducible apply belN | with_reducible apply belD | with_reducible assumption))⟩
  case round =>
    obtain ⟨k, hk, rfl, hb⟩ := hrel
    have HB := Lib.hid hb; clear hb
    by_cases hlt : k < l.length
    · obtain ⟨b, off, cs, rfl, bw, hr, hcell⟩ := slice_at (HK.out.below HB.out) k hlt
      obtain ⟨fe, hrd⟩ := hr
      obtain ⟨rfl, _⟩ := DApplied.rd.1 hrd
      have HR : Hid (Reads DApplied.rep wr _ l[k]) := ⟨_, hrd⟩
      clear hrd
      have hc0 : wr.cell? ⟨b, off + k * 2, none⟩ = some (.int .i64 l[k].device) := hcell 0 (by decide)
      have hc1 : wr.cell? ⟨b, off + k * 2 + 1, none⟩ = some (.int .i64 l[k].seq) := hcell 1 (by decide)
      clear hcell
      obtain ⟨b', off', cs, rfl, b'w, hr, hcell⟩ := slice_at (HK'.out.below HB.out) k hlt
      obtain ⟨fe, hrd⟩ := hr
      obtain ⟨rfl, _⟩ := DApplied.rd.1 hrd
      have HR' : Hid (Reads DApplied.rep wr _ l[k]) := ⟨_, hrd⟩
      clear hrd
      have hd0 : wr.cell? ⟨b', off' + k * 2, none⟩ = some (.int .i64 l[k].device) := hcell 0 (by decide)
      have hd1 : wr.cell? ⟨b', off' + k * 2 + 1, none⟩ = some (.int .i64 l[k].seq) := hcell 1 (by decide)
      clear hcell
      go_wp2_with fail
      go_still_tail 8, (by kernel_rfl)
      change wpList _ _ _ _ _ wr.drew
      go_wp2_with fail
      refine (eqApplied _ _ _ _ (HR.out.below (by repeat (first | with_reducible exact belR | with_reducible apply belA | (with_reducible refine belS ?_ ?_; focus (first | omega | (simp; done) | (simp; omega))) | with_reducible apply belN | with_reducible apply belD | with_reducible assumption))) (HR'.out.below (by repeat (first | with_reducible exact belR | with_reducible apply belA | (with_reducible refine belS ?_ ?_; focus (first | omega | (simp; done) | (simp; omega))) | with_reducible apply belN | with_reducible apply belD | with_reducible assumption)))).mono ?_
      rintro e w1 ⟨rfl, hb1⟩
      have HB1 := Lib.hid (below_call (belD HB.out) (belD HB.out).size hb1); clear hb1
      go_wp2
      go_light
      exact ⟨⟨k + 1, by omega, by go_num, HB1.out⟩, by simp [intOf]; omega⟩
    · go_wp2
      go_ret
      exact ⟨rfl, HB.out⟩

def DApplied.cnt (_ : DApplied) : Nat := 2
def DApplied.mk3 (k : Nat) (_ : DApplied) : DApplied := ⟨((k : Int)), ((k : Int) + 1)⟩

set_option maxRecDepth 100000 in
set_option maxHeartbeats 1600000 in
theorem markAppliedS (v : Value) (l : List DApplied) (fp : List Nat) (k : Nat) (w : World) (h : (Rep.slice 86 DApplied.rep).rd true w [v] l fp) (hnd : fp.Nodup) (hk : k + wtT DApplied.cnt l l.length ≤ 1000000000) :
    Calls Try.prog 91 #[v, .int .i64 k] w fun e w' => e = .returned (.int .i64 ((k + wtT DApplied.cnt l l.length : Nat) : Int)) ∧ (Rep.slice 86 DApplied.rep).rd true w' [v] (marks DApplied.mk3 DApplied.cnt k l) fp ∧ Chg fp w w' := by
  have HM : Hid (Marking DApplied.rep 86 DApplied.mk3 DApplied.cnt k l v fp w 0 w) := ⟨by rw [marked_zero]; exact h, Chg.refl⟩
  obtain ⟨ao, c1, rfl, hm, _, hu⟩ := slice_open h
  clear hu h
  go_enter Try.func91, Try.ntmps91
  go_wp2
  go_loopw [1, 5] (fun a i wr => ∃ j : Nat, j ≤ l.length ∧ i = .int .i64 j ∧ a = .int .i64 ((k + wtT DApplied.cnt l j : Nat) : Int) ∧ Marking DApplied.rep 86 DApplied.mk3 DApplied.cnt k l (.slice ao l.length c1) fp w j wr) (fun _ i _ => l.length - (intOf i).toNat)
  case atStart => exact ⟨0, by omega, rfl, by simp [wtT], HM.out⟩
  case round =>
    obtain ⟨j, hj, rfl, rfl, hma⟩ := hrel
    have HM := Lib.hid hma; clear hma
    by_cases hlt : j < l.length
    · have hw1 := wtT_succ DApplied.cnt l j hlt
      have hw2 := wtT_mono DApplied.cnt l (j + 1) l.length hlt
      generalize hq : k + wtT DApplied.cnt l j = q at *
      have hqc : q + DApplied.cnt l[j] ≤ 1000000000 := by omega
      unfold DApplied.cnt at hqc
      have HQ := Lib.hid hq; clear hq hw1 hw2
      have hlt' : j < (marked DApplied.mk3 DApplied.cnt k l j).length := by rw [marked_length]; exact hlt
      obtain ⟨g, cap, xs, cs, fe, hv, hg, hgfe, hfesub, hfend, hown, hrd, hcs, hshut⟩ := own_open HM.out.1 hnd j hlt'
      rw [marked_length] at hv hown
      simp only [Value.slice.injEq] at hv
      obtain ⟨rfl, _, rfl⟩ := hv
      have HG := Lib.hid hg; clear hg
      have HS := Lib.hid hshut; clear hshut
      have HFE := Lib.hid hfesub; clear hfesub
      have hval := marked_get DApplied.mk3 DApplied.cnt k l j hlt
      rw [List.getElem?_eq_getElem hlt'] at hval
      rw [Option.some.inj hval] at hrd
      clear hval
      have HO := Lib.hid hown; clear hown
      obtain ⟨rfl, hfe⟩ := DApplied.rd.1 hrd
      subst hfe
      have HC : Hid (Chg (g :: (([] : List Nat))) wr wr) := Chg.refl
      clear hrd hcs 
      obtain ⟨hcs, hfzwr⟩ := own_cells HO.out hlt
      obtain ⟨zwr_0, hzwr_0⟩ : ∃ u, wr.cell? ⟨g, j * 2, none⟩ = some u := hcs 0 (by decide)
      obtain ⟨zwr_1, hzwr_1⟩ : ∃ u, wr.cell? ⟨g, j * 2 + 1, none⟩ = some u := hcs 1 (by decide)
      clear hcs
      go_wp2
      replace HO := Lib.hid (setCells_owns [.int .i64 ((q : Int)), .int .i64 ((q : Int) + 1)] (j * 2) _ _ HO.out)
      replace HC := Lib.hid (Chg.sets (g := g) (by simp) [.int .i64 ((q : Int)), .int .i64 ((q : Int) + 1)] (j * 2) _ HC.out)
      go_light
      have hlt1 := (Rep.slice 86 DApplied.rep).lt HM.out.1
      have hm' := marked_succ DApplied.mk3 DApplied.cnt k l j hlt
      rw [HQ.out] at hm'
      refine ⟨⟨j + 1, by omega, by go_num, ?_, ?_, ?_⟩, by simp [intOf]; omega⟩
      · rw [wtT_succ _ _ _ hlt, ← Nat.add_assoc, HQ.out]
        unfold DApplied.cnt
        exact val_int (by omega)
      · rw [← hm']
        refine HS.out _ [.int .i64 ((q : Int)), .int .i64 ((q : Int) + 1)] _ (by rw [marked_length]; exact HO.out) (DApplied.rd.2 ⟨rfl, rfl⟩) fun b hb hbg hbf => ?_
        exact HC.out.block b (hlt1 b hb) (by rw [List.mem_cons]; exact fun hx => hx.elim hbg hbf)
      · exact HM.out.2.trans (HC.out.mono fun b hb => (List.mem_cons.1 hb).elim (fun hx => by rw [hx]; exact HG.out) (HFE.out b))
    · have e : j = l.length := by omega
      have HE := Lib.hid e; clear e
      go_wp2
      go_ret
      have hm' := HM.out
      rw [HE.out] at hm' ⊢
      rw [Marking, marked_all] at hm'
      exact ⟨rfl, hm'.1, hm'.2⟩
theorem markAppliedSI (v : Value) (l : List DApplied) (fp : List Nat) (k : Nat) (a : Int) (ha : a = k) (w : World) (h : (Rep.slice 86 DApplied.rep).rd true w [v] l fp) (hnd : fp.Nodup) (hk : k + wtT DApplied.cnt l l.length ≤ 1000000000) :
    Calls Try.prog 91 #[v, .int .i64 a] w fun e w' => e = .returned (.int .i64 ((k + wtT DApplied.cnt l l.length : Nat) : Int)) ∧ (Rep.slice 86 DApplied.rep).rd true w' [v] (marks DApplied.mk3 DApplied.cnt k l) fp ∧ Chg fp w w' := by
  subst ha; exact markAppliedS v l fp k w h hnd hk

end Go.Proofs.Ytjdoofekohjjlaa
