/-
  EncodeRecord.
-/
import Derived.Test.YtlfebehpmefioaaGreatUvarint
import Derived.Test.YtlfebehpmefioaaGreatRecFam
import Derived.Deep.RegionHeld
namespace Go.Proofs.YtlfebehpmefioaaGreat
open Go.RowKit

def fieldEnc (f : DField) : List UInt8 := (uvarintF (f.name.data.toList.length : Int) ++ f.name.data.toList) ++ uvarintF f.n
def recEnc (l : List DField) : List UInt8 := l.flatMap fieldEnc
def encodeRecordF (x : DRecord) : List UInt8 := if isRecordF x then uvarintF (x.fields.length : Int) ++ recEnc x.fields else []
theorem encodeRecordF_no {x : DRecord} (h : isRecordF x = false) : encodeRecordF x = [] := by unfold encodeRecordF; rw [h]; rfl
theorem encodeRecordF_yes {x : DRecord} (h : isRecordF x = true) : encodeRecordF x = uvarintF (x.fields.length : Int) ++ recEnc x.fields := by unfold encodeRecordF; rw [h]; rfl
theorem record_small {x : DRecord} (h : isRecordF x = true) : x.fields.length ≤ 6 ∧ ∀ f ∈ x.fields, f.name.size ≤ 8 := by
  unfold isRecordF at h
  rw [Bool.and_eq_true] at h
  refine ⟨of_decide_eq_true h.2, fun f hf => ?_⟩
  obtain ⟨i, hi, rfl⟩ := List.getElem_of_mem hf
  have h1 := List.all_eq_true.1 h.1 i (List.mem_range.2 hi)
  rw [recOk_at hi] at h1
  simp only [Bool.and_eq_true] at h1
  have h2 := h1.1
  unfold isWordF within at h2
  simp only [Bool.and_eq_true, decide_eq_true_eq] at h2
  omega
theorem fieldEnc_len {f : DField} (h : f.name.size ≤ 8) : (fieldEnc f).length ≤ 20 := by
  have h1 := uvarintF_len (f.name.data.toList.length : Int)
  have h2 := uvarintF_len f.n
  unfold fieldEnc
  simp only [List.length_append, Array.length_toList, ByteArray.size_data] at *
  omega
theorem recEnc_len : ∀ (l : List DField), (∀ f ∈ l, f.name.size ≤ 8) → (recEnc l).length ≤ 20 * l.length
  | [], _ => by simp [recEnc]
  | f :: l, h => by
    have h1 := recEnc_len l fun g hg => h g (by simp [hg])
    have h2 := fieldEnc_len (h f (by simp))
    unfold recEnc at *
    rw [List.flatMap_cons, List.length_append, List.length_cons]
    omega
theorem encodeRecordF_len (x : DRecord) : (encodeRecordF x).length ≤ 126 := by
  cases h : isRecordF x
  · rw [encodeRecordF_no h]; simp
  · obtain ⟨h1, h2⟩ := record_small h
    have h3 := recEnc_len _ h2
    have h4 := uvarintF_len (x.fields.length : Int)
    rw [encodeRecordF_yes h, List.length_append]
    omega
theorem recEnc_snoc {l : List DField} {k : Nat} (h : k < l.length) : recEnc (l.take k) ++ fieldEnc l[k] = recEnc (l.take (k + 1)) := by
  unfold recEnc; rw [List.take_succ_eq_append_getElem h, List.flatMap_append]; simp
theorem recEnc_take_len {l : List DField} (h : ∀ f ∈ l, f.name.size ≤ 8) (hl : l.length ≤ 6) (k : Nat) : (recEnc (l.take k)).length ≤ 120 := by
  have h1 := recEnc_len (l.take k) fun f hf => h f (List.mem_of_mem_take hf)
  have h2 : (l.take k).length ≤ l.length := List.length_take_le' _ _
  omega

set_option maxRecDepth 100000 in
set_option maxHeartbeats 3200000 in
theorem implEncodeRecord (cs : List Value) (x : DRecord) (w : World) (h : Reads DRecord.rep w cs x) :
    Calls Tryz.prog 58 #[.agg cs.toArray] w fun e w' => ∃ v', e = .returned v' ∧ Fresh (Rep.slice 5 Rep.byte) w.heap.size w' [v'] (encodeRecordF x) ∧ Below w.heap.size w w' := by
  have HR := Lib.hid h
  obtain ⟨fp_q, h⟩ := h
  obtain ⟨q_v1, q_f1, rfl, _, q_r1⟩ := DRecord.rd.1 h
  obtain ⟨q_a1, q_c1, rfl, q_hm1, q_lc1, q_hu1⟩ := slice_open q_r1; clear q_hu1
  have q_K1 : Hid (Reads (Rep.slice 112 DField.rep) w [.slice q_a1 x.fields.length q_c1] x.fields) := ⟨_, q_r1⟩
  clear q_r1 h
  obtain ⟨i0, hi, hz0, hz1, hz2⟩ := info_parts Tryz.infoByte
  cases hk : isRecordF x
  · rw [encodeRecordF_no hk]
    go_enter Tryz.func58, Tryz.ntmps58
    go_wp2_with fail
    refine (implIsRecord _ _ _ (HR.out.below (by repeat (first | with_reducible exact belR | with_reducible apply belA | (with_reducible refine belS ?_ ?_; focus (first | omega | (simp; done) | (simp; omega))) | with_reducible apply belN | with_reducible apply belD | with_reducible assumption)))).mono ?_
    rintro e w1 ⟨rfl, hb⟩
    have HB : Hid (Below w.heap.size w w1) := Lib.hid (below_call (by repeat (first | with_reducible exact belR | with_reducible apply belA | (with_reducible refine belS ?_ ?_; focus (first | omega | (simp; done) | (simp; omega))) | with_reducible apply belN | with_reducible apply belD | with_reducible assumption)) (by first | omega | (simp; done) | (simp; omega)) hb)
    have hsz : w.heap.size ≤ w1.heap.size := HB.out.size
    clear hb
    go_wp2
    go_ret
    have y := HB.out
    exact ⟨_, rfl, (lit_fresh FlatR.byte (w := w1) (xs := #[]) (us := []) rfl rfl (by decide) (by simp) rfl).mono hsz, (by repeat (first | with_reducible exact belR | with_reducible apply belA | (with_reducible refine belS ?_ ?_; focus (first | omega | (simp; done) | (simp; omega))) | with_reducible apply belN | with_reducible apply belD | with_reducible assumption))⟩
  · have HE := Lib.hid (encodeRecordF_yes hk)
    obtain ⟨hl6, hnames⟩ := record_small hk
    have HN := Lib.hid hnames; clear hnames
    go_enter Tryz.func58, Tryz.ntmps58
    go_wp2_with fail
    refine (implIsRecord _ _ _ (HR.out.below (by repeat (first | with_reducible exact belR | with_reducible apply belA | (with_reducible refine belS ?_ ?_; focus (first | omega | (simp; done) | (simp; omega))) | with_reducible apply belN | with_reducible apply belD | with_reducible assumption)))).mono ?_
    rintro e w1 ⟨rfl, hb⟩
    have HX : Hid (WB w1 w.heap.size #[.slice q_a1 x.fields.length q_c1]) := Lib.hid ((WB.at rfl).keep hb)
    have HB : Hid (Below w.heap.size w w1) := Lib.hid (below_call (by repeat (first | with_reducible exact belR | with_reducible apply belA | (with_reducible refine belS ?_ ?_; focus (first | omega | (simp; done) | (simp; omega))) | with_reducible apply belN | with_reducible apply belD | with_reducible assumption)) (by first | omega | (simp; done) | (simp; omega)) hb)
    have hsz : w.heap.size + 1 ≤ w1.heap.size := by have y := hb.size; simp at y; omega
    clear hb
    have ⟨c_HX, z_HX, f_HX⟩ := HX.out
    go_wp2_with fail
    refine (implAppendUvarint _ [] _ _ (Fresh.nil (R := Rep.byte) (E := 5) (B := 0)).reads (by simp)).mono ?_
    rintro e w2 ⟨v', rfl, hf, hb⟩
    rw [List.nil_append] at hf
    obtain ⟨ao1, cap1, rfl⟩ := hf.slice
    have HF : Hid (Fresh (Rep.slice 5 Rep.byte) (w.heap.size + 1) w2 [.slice ao1 (uvarintF (x.fields.length : Int)).length cap1] (uvarintF (x.fields.length : Int) ++ recEnc (x.fields.take 0))) := Lib.hid (by rw [List.take_zero, recEnc, List.flatMap_nil, List.append_nil]; exact hf.mono hsz)
    replace HX := Lib.hid (HX.out.keep hb)
    replace HB : Hid (Below w.heap.size w w2) := Lib.hid (by have y := HB.out; exact below_call (by repeat (first | with_reducible exact belR | with_reducible apply belA | (with_reducible refine belS ?_ ?_; focus (first | omega | (simp; done) | (simp; omega))) | with_reducible apply belN | with_reducible apply belD | with_reducible assumption)) (by first | omega | (simp; done) | (simp; omega)) hb)
    clear c_HX z_HX f_HX
    clear hf hb
    have ⟨c_HX, z_HX, f_HX⟩ := HX.out
    have hul := uvarintF_len (x.fields.length : Int)
    go_wp2
    clear c_HX z_HX f_HX
    go_loopw [3, 17] (fun r i wr => ∃ k : Nat, k ≤ x.fields.length ∧ i = .int .i64 k ∧ WB wr w.heap.size #[.slice q_a1 x.fields.length q_c1] ∧ Fresh (Rep.slice 5 Rep.byte) (w.heap.size + 1) wr [r] (uvarintF (x.fields.length : Int) ++ recEnc (x.fields.take k)) ∧ Below w.heap.size w wr) (fun _ i _ => x.fields.length - (intOf i).toNat)
    case atStart => exact ⟨0, by omega, rfl, HX.out, HF.out, HB.out⟩
    case round =>
      obtain ⟨k, hk', rfl, hx, hf, hbb⟩ := hrel
      replace HX := Lib.hid hx; clear hx
      obtain ⟨bo, cap, rfl⟩ := hf.slice
      replace HB := Lib.hid hbb; clear hbb
      replace HF := Lib.hid hf; clear hf
      have ⟨c_HX, z_HX, f_HX⟩ := HX.out
      by_cases hlt : k < x.fields.length
      · have hnm := HN.out x.fields[k] (List.getElem_mem _)
        have hrl := recEnc_take_len HN.out hl6 k
        have HS := Lib.hid (recEnc_snoc hlt)
        generalize hq : uvarintF (x.fields.length : Int) ++ recEnc (x.fields.take k) = q at *
        have hql : q.length ≤ 126 := by rw [← hq, List.length_append]; omega
        have HQ := Lib.hid hq; clear hq
        obtain ⟨b, off, cs_b, rfl, hw_b, hr_b, hcell_b⟩ := slice_at (q_K1.out.below HB.out) k hlt
        obtain ⟨fe_b, hrd_b⟩ := hr_b
        have HR_b : Hid (Reads DField.rep wr cs_b x.fields[k]) := ⟨_, hrd_b⟩
        obtain ⟨rfl, _, b_s0⟩ := DField.rd.1 hrd_b
        clear hrd_b
        have b_c0 : wr.cell? ⟨b, off + k * 2, none⟩ = some (.string x.fields[k].name) := hcell_b 0 (by decide)
        have b_c1 : wr.cell? ⟨b, off + k * 2 + 1, none⟩ = some (.int .i64 x.fields[k].n) := hcell_b 1 (by decide)
        clear hcell_b
        have HE2 : Hid (q ++ uvarintF (x.fields[k].name.data.toList.length : Int) ++ x.fields[k].name.data.toList ++ uvarintF x.fields[k].n = uvarintF (x.fields.length : Int) ++ recEnc (x.fields.take (k + 1))) := Lib.hid (by rw [← HS.out, ← HQ.out]; unfold fieldEnc; simp only [List.append_assoc])
        have j1 : (0 : Int) ≤ (k : Int) := by omega
        have j3 : (k : Int) < (x.fields.length : Int) := by omega
        have kc := fun (wx : World) => run_bytes_of_string (P := Tryz.prog) wx 9 22 5 x.fields[k].name Tryz.underlying9 Tryz.underlying22 Tryz.underlying5
        have hc := Lib.hid (fun (wx : World) => show x.fields[k].name.size ≤ grownCap wx x.fields[k].name.size 0 5 ∧ grownCap wx x.fields[k].name.size 0 5 ≤ maxLen from ⟨grownCap_ge wx x.fields[k].name.size 0 _, grownCap_le_maxLen wx x.fields[k].name.size 0 _ (by unfold maxLen; omega)⟩)
        have hnl : x.fields[k].name.data.toList.length ≤ 8 := by simp; omega
        go_wp2_with fail
        refine settle (fun W => WB W wr.heap.size #[.string x.fields[k].name, .int .i64 x.fields[k].n] ∧ WB W w.heap.size #[.slice (some ⟨b, off, none⟩) x.fields.length q_c1] ∧ Below wr.heap.size wr W) ⟨WB.at rfl, HX.out.growA, (by repeat (first | with_reducible exact belR | with_reducible apply belA | (with_reducible refine belS ?_ ?_; focus (first | omega | (simp; done) | (simp; omega))) | with_reducible apply belN | with_reducible apply belD | with_reducible assumption))⟩ ?_
        rintro w0 ⟨hy, hx0, hb0⟩
        have cy := hy.cell; have zy := hy.lt
        clear c_HX z_HX f_HX
        clear b_c0 b_c1
        replace HF := Lib.hid (HF.out.below hb0)
        have HW : Hid (∀ W', Below w0.heap.size w0 W' → (∀ o, W'.cell? ⟨wr.heap.size, o, none⟩ = #[.string x.fields[k].name, .int .i64 x.fields[k].n][o]?) ∧ Below w0.heap.size w0 W') := Lib.hid fun W' hW' => ⟨fun o => (hW'.cell (p := ⟨wr.heap.size, o, none⟩) zy).trans (cy o), hW'⟩
        go_region_held (fun W' => (∀ o, W'.cell? ⟨wr.heap.size, o, none⟩ = #[.string x.fields[k].name, .int .i64 x.fields[k].n][o]?) ∧ Below w0.heap.size w0 W')
          (first | exact HW.out _ (by repeat (first | with_reducible exact belR | (with_reducible refine belAB ?_ ?_; focus (first | omega | (simp; done) | (simp; omega))) | (with_reducible refine belS ?_ ?_; focus (first | omega | (simp; done) | (simp; omega))) | with_reducible apply belN | with_reducible apply belD | with_reducible assumption)) | exact HW.out _ hq1 | exact HW.out _ hq2)
          (first
            | (go_at_call 107; have hx := hq1; clear hx; refine (implAppendUvarint _ _ _ _ hf1 hl1).mono ?_; rintro e w4 ⟨v4, rfl, hf2, hb2⟩; have hq2 : Below w0.heap.size w0 w4 := hq1.trans (hb2.mono hq1.size))
            | (go_at_call 108; refine (implAppendBytes _ _ _ x.fields[k].name.data.toList _ (HF.out.reads.below (by repeat (first | with_reducible exact belR | (with_reducible refine belAB ?_ ?_; focus (first | omega | (simp; done) | (simp; omega))) | (with_reducible refine belS ?_ ?_; focus (first | omega | (simp; done) | (simp; omega))) | with_reducible apply belN | with_reducible apply belD | with_reducible assumption))) (by first | exact bytes_of_string rfl (hc.out _).1 (hc.out _).2 | exact (bytes_of_string rfl (hc.out _).1 (hc.out _).2).below (belD belR)) (Nat.le_trans hql (by decide)) (Nat.le_trans hnl (by decide))).mono ?_; rintro e w3 ⟨v3, rfl, hf1', hb1⟩; have hq1 : Below w0.heap.size w0 w3 := Below.trans (by repeat (first | with_reducible exact belR | (with_reducible refine belAB ?_ ?_; focus (first | omega | (simp; done) | (simp; omega))) | (with_reducible refine belS ?_ ?_; focus (first | omega | (simp; done) | (simp; omega))) | with_reducible apply belN | with_reducible apply belD | with_reducible assumption)) (hb1.mono (by first | omega | (simp; done) | (simp; omega))); have hf1 := hf1'.reads; have hl1 : (q ++ uvarintF (x.fields[k].name.data.toList.length : Int) ++ x.fields[k].name.data.toList).length ≤ 4194304 := by (have y := uvarintF_len (x.fields[k].name.data.toList.length : Int); rw [List.length_append, List.length_append]; omega)))
        all_goals
          rw [HE2.out] at hf2
          have HF2 := Lib.hid (hf2.mono (B' := w.heap.size + 1) (by have y1 := hq1.size; have y2 := hx0.lt; first | omega | (simp; omega)))
          have HX2 := Lib.hid (hx0.keep hq2)
          have HB2 : Hid (Below w.heap.size w w4) := Lib.hid ((HB.out.trans (hb0.mono HB.out.size)).trans (hq2.mono (Nat.le_trans HB.out.size hb0.size)))
          clear hf2 hq2 hb2 hq1 hb1 hf1 hf1'
          go_wp2
          go_light
          exact ⟨⟨k + 1, by omega, by go_num, HX2.out, HF2.out, HB2.out⟩, by simp [intOf]; omega⟩
      · have hE : Hid (encodeRecordF x = uvarintF (x.fields.length : Int) ++ recEnc (x.fields.take k)) := Lib.hid (by rw [HE.out, List.take_of_length_le (by omega)])
        go_wp2
        go_ret
        exact ⟨_, rfl, by rw [hE.out]; exact HF.out.mono (Nat.le_succ _), HB.out⟩

end Go.Proofs.YtlfebehpmefioaaGreat
