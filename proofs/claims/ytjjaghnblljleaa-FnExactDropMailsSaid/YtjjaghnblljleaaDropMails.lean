/-
  DropMails.
-/
import Derived.Test.YtjjaghnblljleaaFuncsMail
import Derived.Test.YtjjaghnblljleaaLChannel
import Derived.Deep.RegionLaw
import Derived.BigRegion
namespace Go.Proofs.Ytjjaghnblljleaa
open Go.RowKit

def keptMails (l : List DMail) (page : Int) : List DMail := l.filter fun m => !(m.to == page)
def dropMailsF (x : DChannel) (page : Int) : DChannel := ⟨keptMails x.mails page⟩
theorem kept_yes {l : List DMail} {page : Int} {k : Nat} (h : k < l.length) (e : (l[k].to == page) = true) : keptMails (l.take k) page = keptMails (l.take (k + 1)) page := by
  unfold keptMails; rw [List.take_succ_eq_append_getElem h, List.filter_append]; simp [e]
theorem kept_no {l : List DMail} {page : Int} {k : Nat} (h : k < l.length) (e : (l[k].to == page) = false) : keptMails (l.take k) page ++ [l[k]] = keptMails (l.take (k + 1)) page := by
  unfold keptMails; rw [List.take_succ_eq_append_getElem h, List.filter_append]; simp [e]
theorem kept_le (l : List DMail) (page : Int) (k : Nat) : (keptMails (l.take k) page).length ≤ l.length := by
  unfold keptMails; exact Nat.le_trans (List.length_filter_le _ _) (List.length_take_le' _ _)

set_option maxRecDepth 100000 in
set_option maxHeartbeats 800000 in
theorem specDropMails (cs : List Value) (x : DChannel) (page : Int) (w : World) (h : Reads DChannel.rep w cs x) (hs : x.mails.length ≤ 1048576) :
    Calls Try.prog 43 #[.agg cs.toArray, .int .i64 page] w fun e w' => ∃ ds, e = .returned (.agg ds.toArray) ∧ Fresh DChannel.rep w.heap.size w' ds (dropMailsF x page) ∧ Below w.heap.size w w' := by
  obtain ⟨fp_q, h⟩ := h
  obtain ⟨q_v1, q_f1, rfl, _, q_r1⟩ := DChannel.rd.1 h
  obtain ⟨q_a1, q_c1, rfl, q_hm1, q_lc1, q_hu1⟩ := slice_open q_r1; clear q_hu1
  have q_K1 : Hid (Reads (Rep.slice 117 DMail.rep) w [.slice q_a1 x.mails.length q_c1] x.mails) := ⟨_, q_r1⟩
  clear q_r1 h
  obtain ⟨i0, hi, hz0, hz1, hz2⟩ := info_parts infoMail
  go_enter Try.func43, Try.ntmps43
  go_wp2
  go_loopw [6] (fun i wr => ∃ (k : Nat) (v : Value), k ≤ x.mails.length ∧ i = .int .i64 k ∧ WB wr w.heap.size #[.slice q_a1 x.mails.length q_c1] ∧ WB wr (w.heap.size + 1) #[.slice none 0 0] ∧ WB wr (w.heap.size + 2) #[v] ∧ Fresh (Rep.slice 117 DMail.rep) (w.heap.size + 3) wr [v] (keptMails (x.mails.take k) page) ∧ Below w.heap.size w wr) (fun i _ => x.mails.length - (intOf i).toNat)
  case atStart => exact ⟨0, .slice none 0 0, by omega, rfl, (WB.at rfl).growA.growA, (WB.at (by simp)).growA, WB.at (by simp), Fresh.nil, (by repeat (first | with_reducible exact belR | with_reducible apply belA | (with_reducible refine belS ?_ ?_; focus (first | omega | (simp; done) | (simp; omega))) | with_reducible apply belN | with_reducible apply belD | with_reducible assumption))⟩
  case round =>
    obtain ⟨k, v, hk, rfl, hx, hr, ho, hf, hb⟩ := hrel
    obtain ⟨bo, cap, rfl⟩ := hf.slice
    have HB := Lib.hid hb
    have HF := Lib.hid hf
    have HX := Lib.hid hx
    have HR := Lib.hid hr
    have HO := Lib.hid ho
    have ⟨cx, zx, _⟩ := hx
    have ⟨co, zo, fo⟩ := ho
    clear hx hr ho hf hb
    have hle := kept_le x.mails page k
    by_cases hlt : k < x.mails.length
    · obtain ⟨b, off, cs_b, rfl, hw_b, hr_b, hcell_b⟩ := slice_at (q_K1.out.below HB.out) k hlt
      obtain ⟨fe_b, hrd_b⟩ := hr_b
      have HR_b : Hid (Reads DMail.rep wr cs_b x.mails[k]) := ⟨_, hrd_b⟩
      obtain ⟨rfl, _⟩ := DMail.rd.1 hrd_b
      clear hrd_b
      have b_c0 : wr.cell? ⟨b, off + k * 3, none⟩ = some (.int .i64 x.mails[k].to) := hcell_b 0 (by decide)
      have b_c1 : wr.cell? ⟨b, off + k * 3 + 1, none⟩ = some (.int .i64 x.mails[k].from_) := hcell_b 1 (by decide)
      have b_c2 : wr.cell? ⟨b, off + k * 3 + 2, none⟩ = some (.int .i64 x.mails[k].n) := hcell_b 2 (by decide)
      clear hcell_b
      have i1 : (0 : Int) ≤ (k : Int) := by omega
      have i2 : (k : Int) < (x.mails.length : Int) := by omega
      by_cases he : (x.mails[k].to == page) = true
      · have HE := Lib.hid (kept_yes hlt he)
        go_wp2
        go_light
        exact ⟨⟨k + 1, _, by omega, by go_num, HX.out, HR.out, HO.out, by rw [← HE.out]; exact HF.out, HB.out⟩, by simp [intOf]; omega⟩
      · have he : (x.mails[k].to == page) = false := by simpa using he
        have HE := Lib.hid (kept_no hlt he)
        go_wp2
        go_region_law
          (first | ((refine step_push _ (by rfl) _ _ 49 49 (by rfl) DMail.flat (w.heap.size + 3) 117 i0 _ _ Try.underlying49 Try.underlying49 hi hz0 hz1 hz2 rfl _ _ (by rfl) (HF.out.below (by repeat (first | with_reducible exact belR | with_reducible apply belA | (with_reducible refine belS ?_ ?_; focus (first | omega | (simp; done) | (simp; omega))) | with_reducible apply belN | with_reducible apply belD | with_reducible assumption))) x.mails[k] _ (by rfl) (news_at rfl) trivial (by omega) (by decide) (by simp; omega) ?_; intro ao2 cap2 w2 hf2 hb2 hsz2; have hb3 : Below (w.heap.size + 3) wr w2 := Below.trans (by repeat (first | with_reducible exact belR | (with_reducible refine belAB ?_ ?_; focus (first | omega | (simp; done) | (simp; omega))) | (with_reducible refine belS ?_ ?_; focus (first | omega | (simp; done) | (simp; omega))) | with_reducible apply belN | with_reducible apply belD | with_reducible assumption)) hb2; have ⟨co2, zo2, fo2⟩ := HO.out.grow hb3 (by omega))))
        all_goals
          rw [HE.out] at hf2
          have HF2 := Lib.hid hf2
          have HB3 := Lib.hid hb3
          have y := HB.out.trans (hb3.mono (by omega))
          clear hf2 hb2 hb3
          go_wp2
          go_light
          exact ⟨⟨k + 1, _, by omega, by go_num, (HX.out.grow HB3.out (by omega)).setOther (by omega), (HR.out.grow HB3.out (by omega)).setOther (by omega), (HO.out.grow HB3.out (by omega)).setAt (by simp) rfl, HF2.out.setLow (by omega), (by repeat (first | with_reducible exact belR | (with_reducible refine belAB ?_ ?_; focus (first | omega | (simp; done) | (simp; omega))) | (with_reducible refine belS ?_ ?_; focus (first | omega | (simp; done) | (simp; omega))) | with_reducible apply belN | with_reducible apply belD | with_reducible assumption))⟩, by simp [intOf]; omega⟩
    · have e : keptMails (x.mails.take k) page = (dropMailsF x page).mails := by
        unfold dropMailsF; rw [List.take_of_length_le (by omega)]
      have HE := Lib.hid e; clear e
      have ⟨cr, zr, fr⟩ := HR.out
      go_wp2
      refine bodyPost_ret (v := .agg #[.slice bo (keptMails (x.mails.take k) page).length cap]) (by simp [results, Try.results43, go_sem, cr]) rfl ⟨_, rfl, ?_, ?_⟩
      · show Fresh (Rep.slice 117 DMail.rep) _ _ _ (dropMailsF x page).mails
        rw [← HE.out]
        exact (HF.out.setLow (by omega)).mono (by omega)
      · have y := HB.out
        exact (by repeat (first | with_reducible exact belR | (with_reducible refine belAB ?_ ?_; focus (first | omega | (simp; done) | (simp; omega))) | (with_reducible refine belS ?_ ?_; focus (first | omega | (simp; done) | (simp; omega))) | with_reducible apply belN | with_reducible apply belD | with_reducible assumption))

set_option maxRecDepth 100000 in
set_option maxHeartbeats 800000 in
theorem copyChannelC (cs : List Value) (x : DChannel) (w : World) (h : Reads DChannel.rep w cs x) (hs : x.mails.length ≤ 1048576) :
    Calls Try.prog 89 #[.agg cs.toArray] w fun e w' => ∃ ds, e = .returned (.agg ds.toArray) ∧ Fresh DChannel.rep w.heap.size w' ds x ∧ Below w.heap.size w w' := by
  obtain ⟨fp_q, h⟩ := h
  obtain ⟨q_v1, q_f1, rfl, _, q_r1⟩ := DChannel.rd.1 h
  obtain ⟨q_a1, q_c1, rfl, q_hm1, q_lc1, q_hu1⟩ := slice_open q_r1; clear q_hu1
  have q_K1 : Hid (Reads (Rep.slice 117 DMail.rep) w [.slice q_a1 x.mails.length q_c1] x.mails) := ⟨_, q_r1⟩
  clear q_r1 h
  obtain ⟨i0, hi, hz0, hz1, hz2⟩ := info_parts infoMail
  go_enter Try.func89, Try.ntmps89
  go_wp2_with (at_builtin; refine wpList_grow _ rfl _ _ 49 49 rfl DMail.flat (w.heap.size + 2) 117 i0 _ _ Try.underlying49 hi hz0 hz1 hz2 rfl _ [] rfl (lit_fresh DMail.flat (w := _) (xs := #[]) (us := []) rfl rfl (by decide) (by simp) (by simp)) _ x.mails rfl (DMail.flat.src Try.underlying49 (q_K1.out.below (by repeat (first | with_reducible exact belR | with_reducible apply belA | (with_reducible refine belS ?_ ?_; focus (first | omega | (simp; done) | (simp; omega))) | with_reducible apply belN | with_reducible apply belD | with_reducible assumption)))) ?c1a ?c2a ?c3a ?c4a ?_)
  case c1a => exact (DMail.flat.row q_K1.out).2
  case c2a => simp only [List.length_nil, Nat.zero_add]; omega
  case c3a => simp only [List.length_nil, Nat.zero_add]; unfold maxLen; omega
  case c4a => simp; try omega
  intro ao1 cap1 w1 hf1 hb1
  have HF1 := Lib.hid hf1
  have HB1 := Lib.hid (Below.trans (by repeat (first | with_reducible exact belR | (with_reducible refine belAB ?_ ?_; focus (first | omega | (simp; done) | (simp; omega))) | (with_reducible refine belS ?_ ?_; focus (first | omega | (simp; done) | (simp; omega))) | with_reducible apply belN | with_reducible apply belD | with_reducible assumption)) (hb1.mono (by omega)) : Below w.heap.size w w1)
  have ⟨cr, zr, fr⟩ : WB w1 (w.heap.size + 1) #[.slice none 0 0] := ((WB.at (by simp)).growA).grow hb1 (by omega)
  clear hf1 hb1
  go_wp2
  refine bodyPost_ret (v := .agg #[.slice ao1 x.mails.length cap1]) (by simp [results, Try.results89, go_sem, cr]) rfl ⟨_, rfl, ?_, ?_⟩
  · show Fresh (Rep.slice 117 DMail.rep) _ _ _ x.mails
    exact (HF1.out.setLow (by omega)).mono (by omega)
  · have y := HB1.out
    exact (by repeat (first | with_reducible exact belR | (with_reducible refine belAB ?_ ?_; focus (first | omega | (simp; done) | (simp; omega))) | (with_reducible refine belS ?_ ?_; focus (first | omega | (simp; done) | (simp; omega))) | with_reducible apply belN | with_reducible apply belD | with_reducible assumption))

theorem delMailPred (page : Int) (B k : Nat) (w : World) (hk : k < B) (hc : w.cell? ⟨k, 0, none⟩ = some (.int .i64 page)) : PredOn Try.prog DMail.rep 91 #[.pointer (some ⟨k, 0, none⟩)] (fun m => m.to == page) B w := by
  intro W cs x hb hr
  obtain ⟨fp, hr⟩ := hr
  obtain ⟨rfl, _⟩ := DMail.rd.1 hr
  have hc' := (hb.cell (p := ⟨k, 0, none⟩) hk).trans hc
  have hkW := block_lt_of_cell hc'
  clear hr hb hc
  change Calls Try.prog 91 #[.agg #[.int .i64 x.to, .int .i64 x.from_, .int .i64 x.n], .pointer (some ⟨k, 0, none⟩)] W _
  go_enter Try.func91, Try.ntmps91
  go_wp2
  go_ret
  exact ⟨rfl, (by repeat (first | with_reducible exact belR | with_reducible apply belA | (with_reducible refine belS ?_ ?_; focus (first | omega | (simp; done) | (simp; omega))) | with_reducible apply belN | with_reducible apply belD | with_reducible assumption))⟩

set_option maxRecDepth 100000 in
set_option maxHeartbeats 800000 in
theorem implDropMails (cs : List Value) (x : DChannel) (page : Int) (w : World) (h : Reads DChannel.rep w cs x) (hs : x.mails.length ≤ 1048576) :
    Calls Try.prog 44 #[.agg cs.toArray, .int .i64 page] w fun e w' => ∃ ds, e = .returned (.agg ds.toArray) ∧ Fresh DChannel.rep w.heap.size w' ds (dropMailsF x page) ∧ Below w.heap.size w w' := by
  have HH := Lib.hid h
  obtain ⟨fp_q, h⟩ := h
  obtain ⟨q_v1, q_f1, rfl, _, q_r1⟩ := DChannel.rd.1 h
  obtain ⟨q_a1, q_c1, rfl, q_hm1, q_lc1, q_hu1⟩ := slice_open q_r1; clear q_hu1
  have q_K1 : Hid (Reads (Rep.slice 117 DMail.rep) w [.slice q_a1 x.mails.length q_c1] x.mails) := ⟨_, q_r1⟩
  clear q_r1 h
  go_enter Try.func44, Try.ntmps44
  go_wp2_with fail
  refine (copyChannelC _ x _ (HH.out.below (by repeat (first | with_reducible exact belR | with_reducible apply belA | (with_reducible refine belS ?_ ?_; focus (first | omega | (simp; done) | (simp; omega))) | with_reducible apply belN | with_reducible apply belD | with_reducible assumption))) hs).mono ?_
  rintro e w1 ⟨ds, rfl, hf, hb⟩
  obtain ⟨ao, cap, rfl⟩ := DChannel.fshape hf
  have HF : Hid (Fresh (Rep.slice 117 DMail.rep) (w.heap.size + 3) w1 [.slice ao x.mails.length cap] x.mails) := Lib.hid (hf.mono (by simp))
  have hb3 := hb.mono (B' := w.heap.size + 3) (by simp)
  have HR : Hid (WB w1 (w.heap.size + 2) #[.slice none 0 0]) := Lib.hid ((WB.at (by simp)).grow hb3 (by omega))
  have HP : Hid (WB w1 (w.heap.size + 1) #[.int .i64 page]) := Lib.hid (((WB.at (by simp)).growA).grow hb3 (by omega))
  have HB : Hid (Below w.heap.size w w1) := Lib.hid (Below.trans (by repeat (first | with_reducible exact belR | (with_reducible refine belAB ?_ ?_; focus (first | omega | (simp; done) | (simp; omega))) | (with_reducible refine belS ?_ ?_; focus (first | omega | (simp; done) | (simp; omega))) | with_reducible apply belN | with_reducible apply belD | with_reducible assumption)) (hb3.mono (by omega)))
  have hz : w.heap.size + 3 ≤ w1.heap.size := by have y := hb3.size; simp at y; omega
  clear hf hb hb3
  go_wp2_with fail
  refine (deleteFuncMail _ _ (fun m => m.to == page) (w.heap.size + 3) _ _ _ (enters_at Try.func91 (by kernel_rfl) rfl) (HF.out.below (by repeat (first | with_reducible exact belR | with_reducible apply belA | (with_reducible refine belS ?_ ?_; focus (first | omega | (simp; done) | (simp; omega))) | with_reducible apply belN | with_reducible apply belD | with_reducible assumption))) (delMailPred page _ _ _ (by omega) (HP.out.growA.cell 0)) (by simp; omega)).mono ?_
  rintro e w2 ⟨v', rfl, hf, hc, hv'⟩
  obtain ⟨bo, cap2, rfl⟩ := hf.slice
  have hlt := HF.out.ownlt
  have hap := Lib.hid (show w1.heap.size ∉ (Value.slice bo (x.mails.filter fun m => !m.to == page).length cap2).ownBlock.toList from fun hm => by have := hlt _ (hv' _ hm); omega)
  have HF2 := Lib.hid hf
  have HO : Hid (WB w2 w1.heap.size #[.slice ao x.mails.length cap]) := Lib.hid ((WB.at rfl).chg hc (fun hm => by have := hlt _ hm; omega))
  have HR2 : Hid (WB w2 (w.heap.size + 2) #[.slice none 0 0]) := Lib.hid (HR.out.growA.chg hc (fun hm => by have := hlt _ hm; omega))
  have hb2 := hc.below (B := w.heap.size) (fun b hm => by have := hlt _ hm; omega) (by simp; omega)
  have HB2 : Hid (Below w.heap.size w w2) := Lib.hid (by have y := HB.out; exact Below.trans (by repeat (first | with_reducible exact belR | with_reducible apply belA | (with_reducible refine belS ?_ ?_; focus (first | omega | (simp; done) | (simp; omega))) | with_reducible apply belN | with_reducible apply belD | with_reducible assumption)) hb2)
  have ⟨co, zo, fo⟩ := HO.out
  have ⟨cr, zr, fr⟩ := HR2.out
  clear hf hc hb2 hv' hlt
  go_wp2
  refine bodyPost_ret (v := .agg #[.slice bo (x.mails.filter fun m => !m.to == page).length cap2]) (by simp [results, Try.results44, go_sem, cr]) rfl ⟨_, rfl, ?_, ?_⟩
  · exact ((DMail.flat.setApart HF2.out hap.out).setLow (by omega)).mono (by omega)
  · have y := HB2.out
    exact (by repeat (first | with_reducible exact belR | (with_reducible refine belAB ?_ ?_; focus (first | omega | (simp; done) | (simp; omega))) | (with_reducible refine belS ?_ ?_; focus (first | omega | (simp; done) | (simp; omega))) | with_reducible apply belN | with_reducible apply belD | with_reducible assumption))

end Go.Proofs.Ytjjaghnblljleaa
