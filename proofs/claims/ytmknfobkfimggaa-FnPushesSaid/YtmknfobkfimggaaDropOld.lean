/-
  DropOld.
-/
import Derived.Test.YtmknfobkfimggaaOpenPush
import Derived.Test.YtmknfobkfimggaaLPush
import Derived.Test.YtmknfobkfimggaaBase
namespace Go.Proofs.Ytmknfobkfimggaa
open Go.RowKit

def dropOldF (l : List DPush) (s : DSubscription) : List DPush := l.filter fun p => openPushB s p
theorem dropOld_yes {l : List DPush} {s : DSubscription} {k : Nat} (h : k < l.length) (e : openPushB s l[k] = true) : dropOldF (l.take k) s ++ [l[k]] = dropOldF (l.take (k + 1)) s := by
  unfold dropOldF; rw [List.take_succ_eq_append_getElem h, List.filter_append]; simp [e]
theorem dropOld_no {l : List DPush} {s : DSubscription} {k : Nat} (h : k < l.length) (e : openPushB s l[k] = false) : dropOldF (l.take k) s = dropOldF (l.take (k + 1)) s := by
  unfold dropOldF; rw [List.take_succ_eq_append_getElem h, List.filter_append]; simp [e]
theorem dropOld_le (l : List DPush) (s : DSubscription) (k : Nat) : (dropOldF (l.take k) s).length ≤ l.length := by
  unfold dropOldF; exact Nat.le_trans (List.length_filter_le _ _) (List.length_take_le' _ _)
theorem push_small {l : List DPush} (hs : wtS DPush.wt l ≤ 1048576) {k : Nat} (h : k < l.length) : l[k].site.size ≤ 1048576 ∧ l[k].data.length ≤ 1048576 := by
  have h1 := wtS_elem DPush.wt l k h
  have h2 := wtS_ge wt0 l[k].data
  unfold DPush.wt at h1 hs
  omega
theorem DPush.fopen {B : Nat} {w : World} {cs : List Value} {x : DPush} (h : Fresh DPush.rep B w cs x) :
    ∃ a1 c1, cs = [.string x.site, .int .i64 x.number, .slice a1 x.data.length c1, .int .i64 x.mac] ∧ Fresh (Rep.slice 5 Rep.byte) B w [.slice a1 x.data.length c1] x.data := by
  obtain ⟨fp, h, hn, hg⟩ := h
  obtain ⟨v1, f1, rfl, rfl, _, r1⟩ := DPush.parts h
  obtain ⟨a1, c1, rfl, _⟩ := slice_open r1
  exact ⟨a1, c1, rfl, fp, r1, hn, hg⟩

theorem Part.setHigh {α : Type} {R : Rep α} {lo hi : Nat} {w : World} {cs : List Value} {x : α} {g o : Nat} {u : Value} (h : Part R lo hi w cs x) (hg : hi ≤ g) : Part R lo hi (w.setCell ⟨g, o, none⟩ u) cs x := by
  obtain ⟨fp, h1, h2, h3⟩ := h
  exact ⟨fp, R.frame h1 fun b hb => Below.heap_setCell _ _ _ _ (by have := h3 b hb; simp only []; omega), h2, h3⟩

set_option maxRecDepth 100000 in
set_option maxHeartbeats 4000000 in
theorem implDropOld (cs : List Value) (v : Value) (l : List DPush) (s : DSubscription) (w : World) (h : Reads (Rep.slice 28 DPush.rep) w [v] l) (h' : Reads DSubscription.rep w cs s) (hs : wtS DPush.wt l ≤ 1048576) :
    Calls Try.prog 11 #[v, .agg cs.toArray] w fun e w' => ∃ d0, e = .returned d0 ∧ Fresh (Rep.slice 28 DPush.rep) w.heap.size w' [d0] (dropOldF l s) ∧ Below w.heap.size w w' := by
  have HK := Lib.hid h
  have HH := Lib.hid h'
  obtain ⟨fs, h'⟩ := h'
  obtain ⟨rfl, _, s0⟩ := DSubscription.rd.1 h'
  obtain ⟨fp, h⟩ := h
  obtain ⟨al, cl, rfl, hm, hc, hu⟩ := slice_open h
  clear hu h h'
  have hlen : l.length ≤ 1048576 := by have := wtS_ge DPush.wt l; omega
  obtain ⟨i0, hi, hz0, hz1, hz2⟩ := info_parts infoPush
  go_enter Try.func11, Try.ntmps11
  go_wp2
  go_loopw [14, 5] (fun i r wr => ∃ k : Nat, k ≤ l.length ∧ i = .int .i64 k ∧ WB wr w.heap.size #[.string s.site, .int .i64 s.secret, .int .i64 s.last] ∧ Fresh (Rep.slice 28 DPush.rep) (w.heap.size + 1) wr [r] (dropOldF (l.take k) s) ∧ Below w.heap.size w wr) (fun i _ _ => l.length - (intOf i).toNat)
  case atStart => exact ⟨0, by omega, rfl, (WB.at rfl).growA, Fresh.lit0 (by simp), (by repeat (first | with_reducible exact belR | with_reducible apply belA | (with_reducible refine belS ?_ ?_; focus (first | omega | (simp; done) | (simp; omega))) | with_reducible apply belN | with_reducible apply belD | with_reducible assumption))⟩
  case round =>
    obtain ⟨k, hk, rfl, hx, hf, hb⟩ := hrel
    obtain ⟨bo, cap, rfl⟩ := hf.slice
    have HX := Lib.hid hx
    have HF := Lib.hid hf
    have HB := Lib.hid hb
    clear hx hf hb
    have hle := dropOld_le l s k
    have ⟨c_HX, z_HX, f_HX⟩ := HX.out
    by_cases hlt : k < l.length
    · have hps := push_small hs hlt
      obtain ⟨b, off, cs_b, rfl, hw_b, hr_b, hcell_b⟩ := slice_at (HK.out.below HB.out) k hlt
      obtain ⟨fe_b, hrd_b⟩ := hr_b
      have HR_b : Hid (Reads DPush.rep wr cs_b l[k]) := ⟨_, hrd_b⟩
      obtain ⟨b_v1, b_f1, rfl, _, b_s0, b_r1⟩ := DPush.rd.1 hrd_b
      obtain ⟨b_a1, b_k1, rfl, _⟩ := slice_open b_r1
      have b_R1 : Hid (Reads (Rep.slice 5 Rep.byte) wr [.slice b_a1 l[k].data.length b_k1] l[k].data) := ⟨_, b_r1⟩
      clear b_r1
      clear hrd_b
      have b_c0 : wr.cell? ⟨b, off + k * 4, none⟩ = some (.string l[k].site) := hcell_b 0 (by decide)
      have b_c1 : wr.cell? ⟨b, off + k * 4 + 1, none⟩ = some (.int .i64 l[k].number) := hcell_b 1 (by decide)
      have b_c2 : wr.cell? ⟨b, off + k * 4 + 2, none⟩ = some (.slice b_a1 l[k].data.length b_k1) := hcell_b 2 (by decide)
      have b_c3 : wr.cell? ⟨b, off + k * 4 + 3, none⟩ = some (.int .i64 l[k].mac) := hcell_b 3 (by decide)
      clear hcell_b
      have i1 : (0 : Int) ≤ (k : Int) := by omega
      have i2 : (k : Int) < (l.length : Int) := by omega
      have hzr : w.heap.size < wr.heap.size := HX.out.lt
      go_wp2_with fail
      refine (implOpenPush _ _ s l[k] _ (HH.out.below (by have y := HB.out; exact (by repeat (first | with_reducible exact belR | with_reducible apply belA | (with_reducible refine belS ?_ ?_; focus (first | omega | (simp; done) | (simp; omega))) | with_reducible apply belN | with_reducible apply belD | with_reducible assumption)))) (HR_b.out.below (by repeat (first | with_reducible exact belR | with_reducible apply belA | (with_reducible refine belS ?_ ?_; focus (first | omega | (simp; done) | (simp; omega))) | with_reducible apply belN | with_reducible apply belD | with_reducible assumption))) (Nat.le_trans hps.1 (by decide)) (Nat.le_trans hps.2 (by decide))).mono ?_
      rintro e w2 ⟨d0, d1, rfl, hf0, hf1, hb2⟩
      obtain ⟨_, y0, _⟩ := hf0
      obtain ⟨rfl, _, _⟩ := DSubscription.rd.1 y0
      clear y0 hf1
      have HQ : Hid (Below wr.heap.size wr w2) := Lib.hid (below_call (by repeat (first | with_reducible exact belR | with_reducible apply belA | (with_reducible refine belS ?_ ?_; focus (first | omega | (simp; done) | (simp; omega))) | with_reducible apply belN | with_reducible apply belD | with_reducible assumption)) (by first | omega | (simp; done) | (simp; omega)) hb2)
      have HP : Hid (WB w2 wr.heap.size #[.string l[k].site, .int .i64 l[k].number, .slice b_a1 l[k].data.length b_k1, .int .i64 l[k].mac]) := Lib.hid ((WB.at rfl).keep hb2)
      have hz2' := HP.out.lt
      have HFP := Lib.hid (Part.below (Fresh.partAt HF.out (Nat.le_refl _)) HQ.out)
      clear c_HX z_HX f_HX
      replace HX := Lib.hid (HX.out.keep HQ.out)
      replace HF := Lib.hid (HF.out.below HQ.out)
      replace HB := Lib.hid (HB.out.trans (HQ.out.mono HB.out.size))
      clear hb2 b_c0 b_c1 b_c2 b_c3 HR_b
      have ⟨c_HX, z_HX, f_HX⟩ := HX.out
      have ⟨c_HP, z_HP, f_HP⟩ := HP.out
      cases g : openPushB s l[k]
      · have HE := Lib.hid (dropOld_no hlt g)
        go_wp2
        go_light
        exact ⟨⟨k + 1, by omega, by go_num, HX.out.growA, by rw [← HE.out]; exact HF.out.below (belA belR), by have y := HB.out; exact (by repeat (first | with_reducible exact belR | with_reducible apply belA | (with_reducible refine belS ?_ ?_; focus (first | omega | (simp; done) | (simp; omega))) | with_reducible apply belN | with_reducible apply belD | with_reducible assumption))⟩, by simp [intOf]; omega⟩
      · have HE := Lib.hid (dropOld_yes hlt g)
        go_wp2_with fail
        refine (implCopyBytes _ l[k].data _ (b_R1.out.below (by have y := HQ.out; exact (by repeat (first | with_reducible exact belR | with_reducible apply belA | (with_reducible refine belS ?_ ?_; focus (first | omega | (simp; done) | (simp; omega))) | with_reducible apply belN | with_reducible apply belD | with_reducible assumption)))) (Nat.le_trans hps.2 (by decide))).mono ?_
        rintro e w3 ⟨v', rfl, hf3, hb3⟩
        obtain ⟨a3, c3, rfl⟩ := hf3.slice
        have hz3 : w2.heap.size + 1 ≤ w3.heap.size := by have y := hb3.size; simp at y; omega
        have HF3 : Hid (Fresh (Rep.slice 5 Rep.byte) (w2.heap.size + 1) w3 [.slice a3 l[k].data.length c3] l[k].data) := Lib.hid (hf3.mono (by simp))
        have HP3 := Lib.hid (HP.out.growA.keep hb3)
        have HX3 := Lib.hid (HX.out.growA.keep hb3)
        have HFP3 := Lib.hid ((HFP.out.below (belA belR)).below hb3)
        have HB3 : Hid (Below w.heap.size w w3) := Lib.hid (by have y := HB.out; exact Below.trans (by repeat (first | with_reducible exact belR | with_reducible apply belA | (with_reducible refine belS ?_ ?_; focus (first | omega | (simp; done) | (simp; omega))) | with_reducible apply belN | with_reducible apply belD | with_reducible assumption)) (hb3.mono (by simp; omega)))
        clear c_HX z_HX f_HX c_HP z_HP f_HP
        clear hf3 hb3 HP HX HFP HB HF
        have ⟨c_HX3, z_HX3, f_HX3⟩ := HX3.out
        have ⟨c_HP3, z_HP3, f_HP3⟩ := HP3.out
        go_wp2_with (at_builtin; refine wpList_pushN _ rfl _ _ 33 33 rfl DPush.rep (w.heap.size + 1) wr.heap.size 28 i0 _ _ Try.underlying33 Try.underlying33 hi hz0 hz1 hz2 rfl _ (dropOldF (l.take k) s) rfl (HFP3.out.setHigh (Nat.le_refl _)) l[k] _ _ _ rfl ?hk (DPush.fmk ((HF3.out.setLow ?ha).mono ?hb) ?hmx) ?c1 ?c2 ?c3 ?c4 ?_)
        case hk => first | rfl | simp
        case ha => omega
        case hb => omega
        case hmx => unfold maxLen; omega
        case c1 => omega
        case c2 => decide
        case c3 => have z := HX3.out.lt; omega
        case c4 => simp; omega
        intro ao4 cap4 w4 hf4 hb4
        rw [HE.out] at hf4
        have HF4 := Lib.hid hf4
        have HX4 := Lib.hid ((HX3.out.setOther (by omega)).grow hb4 (by omega))
        have HB4 : Hid (Below w.heap.size w w4) := Lib.hid (by have y := HB3.out; exact Below.trans (by repeat (first | with_reducible exact belR | (with_reducible refine belAB ?_ ?_; focus (first | omega | (simp; done) | (simp; omega))) | (with_reducible refine belS ?_ ?_; focus (first | omega | (simp; done) | (simp; omega))) | with_reducible apply belN | with_reducible apply belD | with_reducible assumption)) (hb4.mono (by omega)))
        clear hf4 hb4
        clear c_HX3 z_HX3 f_HX3 c_HP3 z_HP3 f_HP3
        go_wp2
        go_light
        exact ⟨⟨k + 1, by omega, by go_num, HX4.out, HF4.out, HB4.out⟩, by simp [intOf]; omega⟩
    · have e := Lib.hid (show dropOldF (l.take k) s = dropOldF l s by rw [List.take_of_length_le (by omega)])
      go_wp2
      go_ret
      exact ⟨_, rfl, by rw [← e.out]; exact HF.out.mono (by omega), HB.out⟩

end Go.Proofs.Ytmknfobkfimggaa
