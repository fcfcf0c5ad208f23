/-
  UsedVersions.
-/
import Derived.Test.YtamdjeajmfjfmaaLPage
namespace Go.Proofs.Ytamdjeajmfjfmaa
open Go.RowKit

def ofSite (site : ByteArray) (x : DPage) : Bool := x.site.toList == site.toList
def usedN (l : List DPage) (site : ByteArray) (k : Nat) : List Int := ((l.take k).filter (ofSite site)).map (·.version)
def usedVersionsF (l : List DPage) (site : ByteArray) : List Int := (l.filter (ofSite site)).map (·.version)
theorem usedN_yes {l : List DPage} {site : ByteArray} {k : Nat} (h : k < l.length) (e : ofSite site l[k] = true) : usedN l site k ++ [l[k].version] = usedN l site (k + 1) := by
  unfold usedN; rw [List.take_succ_eq_append_getElem h, List.filter_append]; simp [e]
theorem usedN_no {l : List DPage} {site : ByteArray} {k : Nat} (h : k < l.length) (e : ofSite site l[k] = false) : usedN l site k = usedN l site (k + 1) := by
  unfold usedN; rw [List.take_succ_eq_append_getElem h, List.filter_append]; simp [e]
theorem usedN_le (l : List DPage) (site : ByteArray) (k : Nat) : (usedN l site k).length ≤ l.length := by
  unfold usedN; rw [List.length_map]; exact Nat.le_trans (List.length_filter_le _ _) (List.length_take_le' _ _)

set_option maxRecDepth 100000 in
set_option maxHeartbeats 1600000 in
theorem implUsedVersions (v : Value) (l : List DPage) (site : ByteArray) (w : World) (h : Reads (Rep.slice 55 DPage.rep) w [v] l) (hs : l.length ≤ 1048576) :
    Calls Try.prog 19 #[v, .string site] w fun e w' => ∃ v, e = .returned v ∧ Fresh (Rep.slice 3 Rep.int) w.heap.size w' [v] (usedVersionsF l site) ∧ Below w.heap.size w w' := by
  have HK := Lib.hid h
  obtain ⟨fp, h⟩ := h
  obtain ⟨ao, c1, rfl, hm, _, hu⟩ := slice_open h
  clear hu h
  obtain ⟨i0, hi, hz0, hz1, hz2⟩ := info_parts Try.infoInt
  go_enter Try.func19, Try.ntmps19
  go_wp2
  go_loopw [5, 11] (fun r i wr => ∃ k : Nat, k ≤ l.length ∧ i = .int .i64 k ∧ Fresh (Rep.slice 3 Rep.int) w.heap.size wr [r] (usedN l site k) ∧ Below w.heap.size w wr) (fun _ i _ => l.length - (intOf i).toNat)
  case atStart => exact ⟨0, by omega, rfl, (lit_fresh FlatR.int (w := w) (xs := #[]) (us := []) rfl rfl (by decide) (by simp) rfl), (by repeat (first | with_reducible exact belR | with_reducible apply belA | (with_reducible refine belS ?_ ?_; focus (first | omega | (simp; done) | (simp; omega))) | with_reducible apply belN | with_reducible apply belD | with_reducible assumption))⟩
  case round =>
    obtain ⟨k, hk, rfl, hf, hb⟩ := hrel
    obtain ⟨bo, cap, rfl⟩ := hf.slice
    have HB := Lib.hid hb; clear hb
    have HF := Lib.hid hf; clear hf
    have hle := usedN_le l site k
    by_cases hlt : k < l.length
    · obtain ⟨b, off, cs_b, rfl, hw_b, hr_b, hcell_b⟩ := slice_at (HK.out.below HB.out) k hlt
      obtain ⟨fe_b, hrd_b⟩ := hr_b
      have HR_b : Hid (Reads DPage.rep wr cs_b l[k]) := ⟨_, hrd_b⟩
      obtain ⟨b_v1, b_v2, b_v3, b_f1, b_f2, b_f3, rfl, _, b_s0, b_s1, b_r1, b_r2, b_r3⟩ := DPage.rd.1 hrd_b
      obtain ⟨b_a1, b_k1, rfl, _⟩ := slice_open b_r1
      obtain ⟨b_a2, b_k2, rfl, _⟩ := slice_open b_r2
      obtain ⟨b_a3, b_k3, rfl, _⟩ := slice_open b_r3
      have b_R1 : Hid (Reads (Rep.slice 123 DLoaded.rep) wr [.slice b_a1 l[k].loaded.length b_k1] l[k].loaded) := ⟨_, b_r1⟩
      clear b_r1
      have b_R2 : Hid (Reads (Rep.slice 113 DInstr.rep) wr [.slice b_a2 l[k].machine.script.length b_k2] l[k].machine.script) := ⟨_, b_r2⟩
      clear b_r2
      have b_R3 : Hid (Reads (Rep.slice 3 Rep.int) wr [.slice b_a3 l[k].machine.regs.length b_k3] l[k].machine.regs) := ⟨_, b_r3⟩
      clear b_r3
      clear hrd_b
      have b_c0 : wr.cell? ⟨b, off + k * 11, none⟩ = some (.int .i64 l[k].id) := hcell_b 0 (by decide)
      have b_c1 : wr.cell? ⟨b, off + k * 11 + 1, none⟩ = some (.string l[k].site) := hcell_b 1 (by decide)
      have b_c2 : wr.cell? ⟨b, off + k * 11 + 2, none⟩ = some (.string l[k].top) := hcell_b 2 (by decide)
      have b_c3 : wr.cell? ⟨b, off + k * 11 + 3, none⟩ = some (.int .i64 l[k].version) := hcell_b 3 (by decide)
      have b_c4 : wr.cell? ⟨b, off + k * 11 + 4, none⟩ = some (.slice b_a1 l[k].loaded.length b_k1) := hcell_b 4 (by decide)
      have b_c5 : wr.cell? ⟨b, off + k * 11 + 5, none⟩ = some (.slice b_a2 l[k].machine.script.length b_k2) := hcell_b 5 (by decide)
      have b_c6 : wr.cell? ⟨b, off + k * 11 + 6, none⟩ = some (.int .i64 l[k].machine.pc) := hcell_b 6 (by decide)
      have b_c7 : wr.cell? ⟨b, off + k * 11 + 7, none⟩ = some (.slice b_a3 l[k].machine.regs.length b_k3) := hcell_b 7 (by decide)
      have b_c8 : wr.cell? ⟨b, off + k * 11 + 8, none⟩ = some (.int .i64 l[k].machine.steps) := hcell_b 8 (by decide)
      have b_c9 : wr.cell? ⟨b, off + k * 11 + 9, none⟩ = some (.bool l[k].machine.done) := hcell_b 9 (by decide)
      have b_c10 : wr.cell? ⟨b, off + k * 11 + 10, none⟩ = some (.bool l[k].machine.wait) := hcell_b 10 (by decide)
      clear hcell_b
      by_cases h2 : (l[k].site.toList == site.toList) = true
      · have he := Lib.hid (show ofSite site l[k] = true from h2)
        go_wp2_with (at_builtin; refine wpList_push _ rfl _ _ 34 34 rfl FlatR.int w.heap.size 3 i0 _ _ Try.underlying34 Try.underlying34 hi hz0 hz1 hz2 rfl _ _ rfl (HF.out.below (by repeat (first | with_reducible exact belR | with_reducible apply belA | (with_reducible refine belS ?_ ?_; focus (first | omega | (simp; done) | (simp; omega))) | with_reducible apply belN | with_reducible apply belD | with_reducible assumption))) l[k].version _ _ _ rfl ?p0a rfl trivial ?p1a ?p2a ?p3a ?_)
        case p0a => first | rfl | simp
        case p1a => omega
        case p2a => decide
        case p3a => have y := HB.out.size; simp; omega
        intro bo' cap' w1 hf1 hb1
        rw [usedN_yes hlt he.out] at hf1
        have HF1 := Lib.hid hf1; clear hf1
        have HB1 : Hid (Below w.heap.size w w1) := Lib.hid (by have y := HB.out; exact Below.trans (by repeat (first | with_reducible exact belR | with_reducible apply belA | (with_reducible refine belS ?_ ?_; focus (first | omega | (simp; done) | (simp; omega))) | with_reducible apply belN | with_reducible apply belD | with_reducible assumption)) hb1); clear hb1
        go_wp2
        go_light
        exact ⟨⟨k + 1, by omega, by go_num, HF1.out, HB1.out⟩, by simp [intOf]; omega⟩
      · have h2 : (l[k].site.toList == site.toList) = false := by simpa using h2
        have he := Lib.hid (show ofSite site l[k] = false from h2)
        go_wp2
        go_light
        have y := HB.out
        exact ⟨⟨k + 1, by omega, by go_num, by rw [← usedN_no hlt he.out]; exact HF.out.below (by repeat (first | with_reducible exact belR | with_reducible apply belA | (with_reducible refine belS ?_ ?_; focus (first | omega | (simp; done) | (simp; omega))) | with_reducible apply belN | with_reducible apply belD | with_reducible assumption)), (by repeat (first | with_reducible exact belR | with_reducible apply belA | (with_reducible refine belS ?_ ?_; focus (first | omega | (simp; done) | (simp; omega))) | with_reducible apply belN | with_reducible apply belD | with_reducible assumption))⟩, by simp [intOf]; omega⟩
    · have e : usedN l site k = usedVersionsF l site := by
        unfold usedN usedVersionsF; rw [List.take_of_length_le (by omega)]
      have HE := Lib.hid e; clear e
      go_wp2
      go_ret
      exact ⟨_, rfl, by rw [← HE.out]; exact HF.out, HB.out⟩


set_option maxRecDepth 100000 in
set_option maxHeartbeats 1600000 in
theorem specUsedVersions (v : Value) (l : List DPage) (site : ByteArray) (w : World) (h : Reads (Rep.slice 55 DPage.rep) w [v] l) (hs : l.length ≤ 1048576) :
    Calls Try.prog 17 #[v, .string site] w fun e w' => ∃ v, e = .returned v ∧ Fresh (Rep.slice 3 Rep.int) w.heap.size w' [v] (usedVersionsF l site) ∧ Below w.heap.size w w' := by
  have HK := Lib.hid h
  obtain ⟨fp, h⟩ := h
  obtain ⟨ao, c1, rfl, hm, _, hu⟩ := slice_open h
  clear hu h
  obtain ⟨i0, hi, hz0, hz1, hz2⟩ := info_parts Try.infoInt
  go_enter Try.func17, Try.ntmps17
  go_wp2
  go_loopw [5, 6] (fun r i wr => ∃ k : Nat, k ≤ l.length ∧ i = .int .i64 k ∧ Fresh (Rep.slice 3 Rep.int) w.heap.size wr [r] (usedN l site k) ∧ Below w.heap.size w wr) (fun _ i _ => l.length - (intOf i).toNat)
  case atStart => exact ⟨0, by omega, rfl, (lit_fresh FlatR.int (w := w) (xs := #[]) (us := []) rfl rfl (by decide) (by simp) rfl), (by repeat (first | with_reducible exact belR | with_reducible apply belA | (with_reducible refine belS ?_ ?_; focus (first | omega | (simp; done) | (simp; omega))) | with_reducible apply belN | with_reducible apply belD | with_reducible assumption))⟩
  case round =>
    obtain ⟨k, hk, rfl, hf, hb⟩ := hrel
    obtain ⟨bo, cap, rfl⟩ := hf.slice
    have HB := Lib.hid hb; clear hb
    have HF := Lib.hid hf; clear hf
    have hle := usedN_le l site k
    by_cases hlt : k < l.length
    · obtain ⟨b, off, cs_b, rfl, hw_b, hr_b, hcell_b⟩ := slice_at (HK.out.below HB.out) k hlt
      obtain ⟨fe_b, hrd_b⟩ := hr_b
      have HR_b : Hid (Reads DPage.rep wr cs_b l[k]) := ⟨_, hrd_b⟩
      obtain ⟨b_v1, b_v2, b_v3, b_f1, b_f2, b_f3, rfl, _, b_s0, b_s1, b_r1, b_r2, b_r3⟩ := DPage.rd.1 hrd_b
      obtain ⟨b_a1, b_k1, rfl, _⟩ := slice_open b_r1
      obtain ⟨b_a2, b_k2, rfl, _⟩ := slice_open b_r2
      obtain ⟨b_a3, b_k3, rfl, _⟩ := slice_open b_r3
      have b_R1 : Hid (Reads (Rep.slice 123 DLoaded.rep) wr [.slice b_a1 l[k].loaded.length b_k1] l[k].loaded) := ⟨_, b_r1⟩
      clear b_r1
      have b_R2 : Hid (Reads (Rep.slice 113 DInstr.rep) wr [.slice b_a2 l[k].machine.script.length b_k2] l[k].machine.script) := ⟨_, b_r2⟩
      clear b_r2
      have b_R3 : Hid (Reads (Rep.slice 3 Rep.int) wr [.slice b_a3 l[k].machine.regs.length b_k3] l[k].machine.regs) := ⟨_, b_r3⟩
      clear b_r3
      clear hrd_b
      have b_c0 : wr.cell? ⟨b, off + k * 11, none⟩ = some (.int .i64 l[k].id) := hcell_b 0 (by decide)
      have b_c1 : wr.cell? ⟨b, off + k * 11 + 1, none⟩ = some (.string l[k].site) := hcell_b 1 (by decide)
      have b_c2 : wr.cell? ⟨b, off + k * 11 + 2, none⟩ = some (.string l[k].top) := hcell_b 2 (by decide)
      have b_c3 : wr.cell? ⟨b, off + k * 11 + 3, none⟩ = some (.int .i64 l[k].version) := hcell_b 3 (by decide)
      have b_c4 : wr.cell? ⟨b, off + k * 11 + 4, none⟩ = some (.slice b_a1 l[k].loaded.length b_k1) := hcell_b 4 (by decide)
      have b_c5 : wr.cell? ⟨b, off + k * 11 + 5, none⟩ = some (.slice b_a2 l[k].machine.script.length b_k2) := hcell_b 5 (by decide)
      have b_c6 : wr.cell? ⟨b, off + k * 11 + 6, none⟩ = some (.int .i64 l[k].machine.pc) := hcell_b 6 (by decide)
      have b_c7 : wr.cell? ⟨b, off + k * 11 + 7, none⟩ = some (.slice b_a3 l[k].machine.regs.length b_k3) := hcell_b 7 (by decide)
      have b_c8 : wr.cell? ⟨b, off + k * 11 + 8, none⟩ = some (.int .i64 l[k].machine.steps) := hcell_b 8 (by decide)
      have b_c9 : wr.cell? ⟨b, off + k * 11 + 9, none⟩ = some (.bool l[k].machine.done) := hcell_b 9 (by decide)
      have b_c10 : wr.cell? ⟨b, off + k * 11 + 10, none⟩ = some (.bool l[k].machine.wait) := hcell_b 10 (by decide)
      clear hcell_b
      by_cases h2 : (l[k].site.toList == site.toList) = true
      · have he := Lib.hid (show ofSite site l[k] = true from h2)
        go_wp2_with (at_builtin; refine wpList_push _ rfl _ _ 34 34 rfl FlatR.int w.heap.size 3 i0 _ _ Try.underlying34 Try.underlying34 hi hz0 hz1 hz2 rfl _ _ rfl (HF.out.below (by repeat (first | with_reducible exact belR | with_reducible apply belA | (with_reducible refine belS ?_ ?_; focus (first | omega | (simp; done) | (simp; omega))) | with_reducible apply belN | with_reducible apply belD | with_reducible assumption))) l[k].version _ _ _ rfl ?p0a rfl trivial ?p1a ?p2a ?p3a ?_)
        case p0a => first | rfl | simp
        case p1a => omega
        case p2a => decide
        case p3a => have y := HB.out.size; simp; omega
        intro bo' cap' w1 hf1 hb1
        rw [usedN_yes hlt he.out] at hf1
        have HF1 := Lib.hid hf1; clear hf1
        have HB1 : Hid (Below w.heap.size w w1) := Lib.hid (by have y := HB.out; exact Below.trans (by repeat (first | with_reducible exact belR | with_reducible apply belA | (with_reducible refine belS ?_ ?_; focus (first | omega | (simp; done) | (simp; omega))) | with_reducible apply belN | with_reducible apply belD | with_reducible assumption)) hb1); clear hb1
        go_wp2
        go_light
        exact ⟨⟨k + 1, by omega, by go_num, HF1.out, HB1.out⟩, by simp [intOf]; omega⟩
      · have h2 : (l[k].site.toList == site.toList) = false := by simpa using h2
        have he := Lib.hid (show ofSite site l[k] = false from h2)
        go_wp2
        go_light
        have y := HB.out
        exact ⟨⟨k + 1, by omega, by go_num, by rw [← usedN_no hlt he.out]; exact HF.out.below (by repeat (first | with_reducible exact belR | with_reducible apply belA | (with_reducible refine belS ?_ ?_; focus (first | omega | (simp; done) | (simp; omega))) | with_reducible apply belN | with_reducible apply belD | with_reducible assumption)), (by repeat (first | with_reducible exact belR | with_reducible apply belA | (with_reducible refine belS ?_ ?_; focus (first | omega | (simp; done) | (simp; omega))) | with_reducible apply belN | with_reducible apply belD | with_reducible assumption))⟩, by simp [intOf]; omega⟩
    · have e : usedN l site k = usedVersionsF l site := by
        unfold usedN usedVersionsF; rw [List.take_of_length_le (by omega)]
      have HE := Lib.hid e; clear e
      go_wp2
      go_ret
      exact ⟨_, rfl, by rw [← HE.out]; exact HF.out, HB.out⟩

end Go.Proofs.Ytamdjeajmfjfmaa
