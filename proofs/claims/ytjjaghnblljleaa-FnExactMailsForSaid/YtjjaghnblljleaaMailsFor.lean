/-
  MailsFor.
-/
import Derived.Test.YtjjaghnblljleaaLChannel
namespace Go.Proofs.Ytjjaghnblljleaa
open Go.RowKit

def mailsN (l : List DMail) (page : Int) (k : Nat) : List DMail := (l.take k).filter fun m => m.to == page
def mailsForF (x : DChannel) (page : Int) : List DMail := x.mails.filter fun m => m.to == page
theorem mailsN_yes {l : List DMail} {page : Int} {k : Nat} (h : k < l.length) (e : (l[k].to == page) = true) : mailsN l page k ++ [l[k]] = mailsN l page (k + 1) := by
  unfold mailsN; rw [List.take_succ_eq_append_getElem h, List.filter_append]; simp only [List.filter_cons, e, if_true, List.filter_nil]
theorem mailsN_no {l : List DMail} {page : Int} {k : Nat} (h : k < l.length) (e : (l[k].to == page) = false) : mailsN l page k = mailsN l page (k + 1) := by
  unfold mailsN; rw [List.take_succ_eq_append_getElem h, List.filter_append]; simp [e]
theorem mailsN_le (l : List DMail) (page : Int) (k : Nat) : (mailsN l page k).length ≤ l.length := by
  unfold mailsN; exact Nat.le_trans (List.length_filter_le _ _) (List.length_take_le' _ _)

set_option maxRecDepth 100000 in
set_option maxHeartbeats 800000 in
theorem implMailsFor (cs : List Value) (x : DChannel) (page : Int) (w : World) (h : Reads DChannel.rep w cs x) (hs : x.mails.length ≤ 1048576) :
    Calls Try.prog 30 #[.agg cs.toArray, .int .i64 page] w fun e w' => ∃ v, e = .returned v ∧ Fresh (Rep.slice 117 DMail.rep) w.heap.size w' [v] (mailsForF x page) ∧ Below w.heap.size w w' := by
  obtain ⟨fp, h⟩ := h
  obtain ⟨v1, f1, rfl, _, r1⟩ := DChannel.rd.1 h
  obtain ⟨ao, c1, rfl, hm, _, hu⟩ := slice_open r1
  have HK : Hid (Reads (Rep.slice 117 DMail.rep) w [.slice ao x.mails.length c1] x.mails) := ⟨_, r1⟩
  clear hu h r1
  obtain ⟨i0, hi, hz0, hz1, hz2⟩ := info_parts infoMail
  go_enter Try.func30, Try.ntmps30
  go_wp2
  go_loopw [5, 12] (fun v i wr => ∃ k : Nat, k ≤ x.mails.length ∧ i = .int .i64 k ∧ Fresh (Rep.slice 117 DMail.rep) w.heap.size wr [v] (mailsN x.mails page k) ∧ Below w.heap.size w wr) (fun _ i _ => x.mails.length - (intOf i).toNat)
  case atStart => exact ⟨0, by omega, rfl, (lit_fresh DMail.flat (w := w.alloc _) (xs := #[]) (us := []) rfl rfl (by decide) (by simp) (by simp)).mono (by simp), (by repeat (first | with_reducible exact belR | with_reducible apply belA | (with_reducible refine belS ?_ ?_; focus (first | omega | (simp; done) | (simp; omega))) | with_reducible apply belN | with_reducible apply belD | with_reducible assumption))⟩
  case round =>
    obtain ⟨k, hk, rfl, hf, hb⟩ := hrel
    obtain ⟨bo, cap, rfl⟩ := hf.slice
    have HB := Lib.hid hb; clear hb
    have HF := Lib.hid hf; clear hf
    have hle := mailsN_le x.mails page k
    by_cases hlt : k < x.mails.length
    · obtain ⟨b, off, cs_b, rfl, hw_b, hr_b, hcell_b⟩ := slice_at (HK.out.below HB.out) k hlt
      obtain ⟨fe_b, hrd_b⟩ := hr_b
      have HR_b : Hid (Reads DMail.rep wr cs_b x.mails[k]) := ⟨_, hrd_b⟩
      obtain ⟨rfl, _⟩ := DMail.rd.1 hrd_b
      clear hrd_b
      have b_c0 : wr.cell? ⟨b, off + k * 3, none⟩ = some (.int .i64 x.mails[k].to) := hcell_b 0 (by decide)
      have b_c1 : wr.cell? ⟨b, off + k * 3 + 1, none⟩ = some (.int .i64 x.mails[k].from_) := hcell_b 1 (by decide)
      have b_c2 : wr.cell? ⟨b, off + k * 3 + 2, none⟩ = some (.int .i64 x.mails[k].n) := hcell_b 2 (by decide)
      clear hcell_b
      by_cases he : (x.mails[k].to == page) = true
      · go_wp2_with (at_builtin; go_loud (refine wpList_push _ rfl _ _ 49 49 rfl DMail.flat w.heap.size 117 i0 _ 24 Try.underlying49 Try.underlying49 hi hz0 hz1 hz2 rfl _ _ rfl (HF.out.below (by repeat (first | with_reducible exact belR | with_reducible apply belA | (with_reducible refine belS ?_ ?_; focus (first | omega | (simp; done) | (simp; omega))) | with_reducible apply belN | with_reducible apply belD | with_reducible assumption))) x.mails[k] _ _ _ rfl ?c0 rfl trivial ?c1 ?c2 ?c3 ?_))
        case c0 => simp
        case c1 => omega
        case c2 => decide
        case c3 => have := HB.out.size; simp; omega
        intro bo' cap' w1 hf1 hb1
        rw [mailsN_yes hlt he] at hf1
        have HF1 := Lib.hid hf1; clear hf1
        have hb1 : Below w.heap.size w w1 := by have y := HB.out; exact Below.trans (by repeat (first | with_reducible exact belR | with_reducible apply belA | (with_reducible refine belS ?_ ?_; focus (first | omega | (simp; done) | (simp; omega))) | with_reducible apply belN | with_reducible apply belD | with_reducible assumption)) hb1
        have HB1 := Lib.hid hb1; clear hb1
        go_wp2
        go_light
        exact ⟨⟨k + 1, by omega, by go_num, HF1.out, HB1.out⟩, by simp [intOf]; omega⟩
      · have he : (x.mails[k].to == page) = false := by simpa using he
        go_wp2
        go_light
        have y := HB.out
        exact ⟨⟨k + 1, by omega, by go_num, by rw [← mailsN_no hlt he]; exact HF.out.below (by repeat (first | with_reducible exact belR | with_reducible apply belA | (with_reducible refine belS ?_ ?_; focus (first | omega | (simp; done) | (simp; omega))) | with_reducible apply belN | with_reducible apply belD | with_reducible assumption)), (by repeat (first | with_reducible exact belR | with_reducible apply belA | (with_reducible refine belS ?_ ?_; focus (first | omega | (simp; done) | (simp; omega))) | with_reducible apply belN | with_reducible apply belD | with_reducible assumption))⟩, by simp [intOf]; omega⟩
    · have e : mailsN x.mails page k = mailsForF x page := by
        unfold mailsN mailsForF; rw [List.take_of_length_le (by omega)]
      have HE := Lib.hid e; clear e
      go_wp2
      go_ret
      exact ⟨_, rfl, by rw [← HE.out]; exact HF.out, HB.out⟩

set_option maxRecDepth 100000 in
set_option maxHeartbeats 800000 in
theorem specMailsFor (cs : List Value) (x : DChannel) (page : Int) (w : World) (h : Reads DChannel.rep w cs x) (hs : x.mails.length ≤ 1048576) :
    Calls Try.prog 28 #[.agg cs.toArray, .int .i64 page] w fun e w' => ∃ v, e = .returned v ∧ Fresh (Rep.slice 117 DMail.rep) w.heap.size w' [v] (mailsForF x page) ∧ Below w.heap.size w w' := by
  obtain ⟨fp, h⟩ := h
  obtain ⟨v1, f1, rfl, _, r1⟩ := DChannel.rd.1 h
  obtain ⟨ao, c1, rfl, hm, _, hu⟩ := slice_open r1
  have HK : Hid (Reads (Rep.slice 117 DMail.rep) w [.slice ao x.mails.length c1] x.mails) := ⟨_, r1⟩
  clear hu h r1
  obtain ⟨i0, hi, hz0, hz1, hz2⟩ := info_parts infoMail
  go_enter Try.func28, Try.ntmps28
  go_wp2
  go_loopw [5, 6] (fun v i wr => ∃ k : Nat, k ≤ x.mails.length ∧ i = .int .i64 k ∧ Box wr w.heap.size #[.slice ao x.mails.length c1] ∧ Fresh (Rep.slice 117 DMail.rep) (w.heap.size + 1) wr [v] (mailsN x.mails page k) ∧ Below w.heap.size w wr) (fun _ i _ => x.mails.length - (intOf i).toNat)
  case atStart => exact ⟨0, by omega, rfl, (Box.at rfl).growA, (lit_fresh DMail.flat (w := w.alloc _) (xs := #[]) (us := []) rfl rfl (by decide) (by simp) (by simp)), (by repeat (first | with_reducible exact belR | with_reducible apply belA | (with_reducible refine belS ?_ ?_; focus (first | omega | (simp; done) | (simp; omega))) | with_reducible apply belN | with_reducible apply belD | with_reducible assumption))⟩
  case round =>
    obtain ⟨k, hk, rfl, hx, hf, hb⟩ := hrel
    obtain ⟨bo, cap, rfl⟩ := hf.slice
    have HB := Lib.hid hb; clear hb
    have HF := Lib.hid hf; clear hf
    have HX := Lib.hid hx
    have ⟨cx, zx⟩ := hx
    clear hx
    have hle := mailsN_le x.mails page k
    by_cases hlt : k < x.mails.length
    · obtain ⟨b, off, cs_b, rfl, hw_b, hr_b, hcell_b⟩ := slice_at (HK.out.below HB.out) k hlt
      obtain ⟨fe_b, hrd_b⟩ := hr_b
      have HR_b : Hid (Reads DMail.rep wr cs_b x.mails[k]) := ⟨_, hrd_b⟩
      obtain ⟨rfl, _⟩ := DMail.rd.1 hrd_b
      clear hrd_b
      have b_c0 : wr.cell? ⟨b, off + k * 3, none⟩ = some (.int .i64 x.mails[k].to) := hcell_b 0 (by decide)
      have b_c1 : wr.cell? ⟨b, off + k * 3 + 1, none⟩ = some (.int .i64 x.mails[k].from_) := hcell_b 1 (by decide)
      have b_c2 : wr.cell? ⟨b, off + k * 3 + 2, none⟩ = some (.int .i64 x.mails[k].n) := hcell_b 2 (by decide)
      clear hcell_b
      by_cases he : (x.mails[k].to == page) = true
      · go_wp2_with (at_builtin; refine wpList_push _ rfl _ _ 49 49 rfl DMail.flat (w.heap.size + 1) 117 i0 _ _ Try.underlying49 Try.underlying49 hi hz0 hz1 hz2 rfl _ _ rfl (HF.out.below (by repeat (first | with_reducible exact belR | with_reducible apply belA | (with_reducible refine belS ?_ ?_; focus (first | omega | (simp; done) | (simp; omega))) | with_reducible apply belN | with_reducible apply belD | with_reducible assumption))) x.mails[k] _ _ _ rfl ?p0a rfl trivial ?p1a ?p2a ?p3a ?_)
        case p0a => first | rfl | simp
        case p1a => omega
        case p2a => decide
        case p3a => have y := HB.out.size; simp; omega
        intro bo' cap' w1 hf1 hb1
        rw [mailsN_yes hlt he] at hf1
        have HF1 := Lib.hid hf1; clear hf1
        have HX1 := Lib.hid (HX.out.keep hb1 (Nat.lt_succ_self _))
        have HB1 := Lib.hid (HB.out.trans (hb1.mono (Nat.le_succ _))); clear hb1
        go_wp2
        go_light
        exact ⟨⟨k + 1, by omega, by go_num, HX1.out, HF1.out, HB1.out⟩, by simp [intOf]; omega⟩
      · have he : (x.mails[k].to == page) = false := by simpa using he
        go_wp2
        go_light
        exact ⟨⟨k + 1, by omega, by go_num, HX.out, by rw [← mailsN_no hlt he]; exact HF.out, HB.out⟩, by simp [intOf]; omega⟩
    · have e : mailsN x.mails page k = mailsForF x page := by
        unfold mailsN mailsForF; rw [List.take_of_length_le (by omega)]
      have HE := Lib.hid e; clear e
      go_wp2
      go_ret
      exact ⟨_, rfl, by rw [← HE.out]; exact HF.out.mono (Nat.le_succ _), HB.out⟩

end Go.Proofs.Ytjjaghnblljleaa
