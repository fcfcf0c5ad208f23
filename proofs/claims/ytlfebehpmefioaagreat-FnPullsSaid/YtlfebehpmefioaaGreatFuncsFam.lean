/-
  FuncsFam: FuncsField, FuncsItem, FuncsApplied, FuncsWrite, in one text.
-/
import Derived.Test.YtlfebehpmefioaaGreatBase
import Derived.Test.YtlfebehpmefioaaGreatTFam

/-
  slices.IndexFunc, ContainsFunc, DeleteFunc at []Field.
-/
namespace Go.Proofs.YtlfebehpmefioaaGreat
open Go.RowKit

set_option maxRecDepth 100000 in
set_option maxHeartbeats 800000 in
theorem indexFuncField (g : FuncId) (cap : Array Value) (p : DField → Bool) (B : Nat) (v : Value) (l : List DField) (w : World) (eg : Enters Tryz.prog g) (h : Reads (Rep.slice 112 DField.rep) w [v] l) (hp : PredOn Tryz.prog DField.rep g cap p B w) (hB : B ≤ w.heap.size) :
    Calls Tryz.prog 157 #[v, .func (.func g) #[] cap] w fun e w' => e = .returned (.int .i64 (idxF p l)) ∧ Below w.heap.size w w' := by
  obtain ⟨fp, h⟩ := h
  obtain ⟨ao, c1, rfl, hm, _, hu⟩ := slice_open h
  have HK : Hid (Reads (Rep.slice 112 DField.rep) w [.slice ao l.length c1] l) := ⟨_, h⟩
  have HP := Lib.hid hp
  clear h hp hu
  unfold Enters at eg
  go_enter Tryz.func157, Tryz.ntmps157
  go_wp2
  go_loopw [8] (fun i wr => ∃ k : Nat, k ≤ l.length ∧ i = .int .i64 k ∧ Hid (∀ j, (hj : j < l.length) → j < k → p l[j] = false) ∧ Below w.heap.size w wr) (fun i _ => l.length - (intOf i).toNat)
  case atStart => exact ⟨0, by omega, rfl, Lib.hid (by intro j hj h; omega), bEl⟩
  case round =>
    obtain ⟨k, hk, rfl, HA, hb⟩ := hrel
    have HB := Lib.hid hb; clear hb
    by_cases hlt : k < l.length
    · obtain ⟨b, off, cs_b, rfl, hw_b, hr_b, hcell_b⟩ := slice_at (HK.out.below HB.out) k hlt
      obtain ⟨fe_b, hrd_b⟩ := hr_b
      have HR_b : Hid (Reads DField.rep wr cs_b l[k]) := ⟨_, hrd_b⟩
      obtain ⟨rfl, _, b_s0⟩ := DField.rd.1 hrd_b
      clear hrd_b
      have b_c0 : wr.cell? ⟨b, off + k * 2, none⟩ = some (.string l[k].name) := hcell_b 0 (by decide)
      have b_c1 : wr.cell? ⟨b, off + k * 2 + 1, none⟩ = some (.int .i64 l[k].n) := hcell_b 1 (by decide)
      clear hcell_b
      cases hq : p l[k] with
      | true =>
        have HQ := Lib.hid hq; clear hq
        have e := Lib.hid (idxF_hit hlt HQ.out HA.out)
        go_wp2_with fail
        refine (HP.out wr _ _ (HB.out.mono hB) HR_b.out).mono ?_
        rw [HQ.out]
        rintro e' w1 ⟨rfl, hb1⟩
        have HB1 := Lib.hid (HB.out.trans (hb1.mono HB.out.size)); clear hb1
        go_wp2
        go_ret
        exact ⟨ret_int e.out.symm, HB1.out⟩
      | false =>
        have HQ := Lib.hid hq; clear hq
        go_wp2_with fail
        refine (HP.out wr _ _ (HB.out.mono hB) HR_b.out).mono ?_
        rw [HQ.out]
        rintro e' w1 ⟨rfl, hb1⟩
        have HB1 := Lib.hid (HB.out.trans (hb1.mono HB.out.size)); clear hb1
        go_wp2
        go_light
        exact ⟨⟨k + 1, by omega, by go_num, Lib.hid (none_snoc hlt HA.out HQ.out), HB1.out⟩, by simp [intOf]; omega⟩
    · have e := Lib.hid (idxF_miss (p := p) (l := l) (fun j hj => HA.out j hj (by omega)))
      go_wp2
      go_ret
      exact ⟨ret_int e.out.symm, HB.out⟩

end Go.Proofs.YtlfebehpmefioaaGreat

/-
  slices.IndexFunc, ContainsFunc, DeleteFunc at []Item.
-/
namespace Go.Proofs.YtlfebehpmefioaaGreat
open Go.RowKit

set_option maxRecDepth 100000 in
set_option maxHeartbeats 800000 in
theorem indexFuncItem (g : FuncId) (cap : Array Value) (p : DItem → Bool) (B : Nat) (v : Value) (l : List DItem) (w : World) (eg : Enters Tryz.prog g) (h : Reads (Rep.slice 71 DItem.rep) w [v] l) (hp : PredOn Tryz.prog DItem.rep g cap p B w) (hB : B ≤ w.heap.size) :
    Calls Tryz.prog 133 #[v, .func (.func g) #[] cap] w fun e w' => e = .returned (.int .i64 (idxF p l)) ∧ Below w.heap.size w w' := by
  obtain ⟨fp, h⟩ := h
  obtain ⟨ao, c1, rfl, hm, _, hu⟩ := slice_open h
  have HK : Hid (Reads (Rep.slice 71 DItem.rep) w [.slice ao l.length c1] l) := ⟨_, h⟩
  have HP := Lib.hid hp
  clear h hp hu
  unfold Enters at eg
  go_enter Tryz.func133, Tryz.ntmps133
  go_wp2
  go_loopw [8] (fun i wr => ∃ k : Nat, k ≤ l.length ∧ i = .int .i64 k ∧ Hid (∀ j, (hj : j < l.length) → j < k → p l[j] = false) ∧ Below w.heap.size w wr) (fun i _ => l.length - (intOf i).toNat)
  case atStart => exact ⟨0, by omega, rfl, Lib.hid (by intro j hj h; omega), bEl⟩
  case round =>
    obtain ⟨k, hk, rfl, HA, hb⟩ := hrel
    have HB := Lib.hid hb; clear hb
    by_cases hlt : k < l.length
    · obtain ⟨b, off, cs_b, rfl, hw_b, hr_b, hcell_b⟩ := slice_at (HK.out.below HB.out) k hlt
      obtain ⟨fe_b, hrd_b⟩ := hr_b
      have HR_b : Hid (Reads DItem.rep wr cs_b l[k]) := ⟨_, hrd_b⟩
      obtain ⟨b_v1, b_f1, rfl, _, b_s0, b_r1⟩ := DItem.rd.1 hrd_b
      obtain ⟨b_a1, b_k1, rfl, _⟩ := slice_open b_r1
      have b_R1 : Hid (Reads (Rep.slice 112 DField.rep) wr [.slice b_a1 l[k].record.fields.length b_k1] l[k].record.fields) := ⟨_, b_r1⟩
      clear b_r1
      clear hrd_b
      have b_c0 : wr.cell? ⟨b, off + k * 4, none⟩ = some (.int .i64 l[k].key.kind) := hcell_b 0 (by decide)
      have b_c1 : wr.cell? ⟨b, off + k * 4 + 1, none⟩ = some (.int .i64 l[k].key.n) := hcell_b 1 (by decide)
      have b_c2 : wr.cell? ⟨b, off + k * 4 + 2, none⟩ = some (.string l[k].key.text) := hcell_b 2 (by decide)
      have b_c3 : wr.cell? ⟨b, off + k * 4 + 3, none⟩ = some (.slice b_a1 l[k].record.fields.length b_k1) := hcell_b 3 (by decide)
      clear hcell_b
      cases hq : p l[k] with
      | true =>
        have HQ := Lib.hid hq; clear hq
        have e := Lib.hid (idxF_hit hlt HQ.out HA.out)
        go_wp2_with fail
        refine (HP.out wr _ _ (HB.out.mono hB) HR_b.out).mono ?_
        rw [HQ.out]
        rintro e' w1 ⟨rfl, hb1⟩
        have HB1 := Lib.hid (HB.out.trans (hb1.mono HB.out.size)); clear hb1
        go_wp2
        go_ret
        exact ⟨ret_int e.out.symm, HB1.out⟩
      | false =>
        have HQ := Lib.hid hq; clear hq
        go_wp2_with fail
        refine (HP.out wr _ _ (HB.out.mono hB) HR_b.out).mono ?_
        rw [HQ.out]
        rintro e' w1 ⟨rfl, hb1⟩
        have HB1 := Lib.hid (HB.out.trans (hb1.mono HB.out.size)); clear hb1
        go_wp2
        go_light
        exact ⟨⟨k + 1, by omega, by go_num, Lib.hid (none_snoc hlt HA.out HQ.out), HB1.out⟩, by simp [intOf]; omega⟩
    · have e := Lib.hid (idxF_miss (p := p) (l := l) (fun j hj => HA.out j hj (by omega)))
      go_wp2
      go_ret
      exact ⟨ret_int e.out.symm, HB.out⟩

end Go.Proofs.YtlfebehpmefioaaGreat

/-
  slices.IndexFunc, ContainsFunc, DeleteFunc at []Applied.
-/
namespace Go.Proofs.YtlfebehpmefioaaGreat
open Go.RowKit

set_option maxRecDepth 100000 in
set_option maxHeartbeats 800000 in
theorem indexFuncApplied (g : FuncId) (cap : Array Value) (p : DApplied → Bool) (B : Nat) (v : Value) (l : List DApplied) (w : World) (eg : Enters Tryz.prog g) (h : Reads (Rep.slice 89 DApplied.rep) w [v] l) (hp : PredOn Tryz.prog DApplied.rep g cap p B w) (hB : B ≤ w.heap.size) :
    Calls Tryz.prog 90 #[v, .func (.func g) #[] cap] w fun e w' => e = .returned (.int .i64 (idxF p l)) ∧ Below w.heap.size w w' := by
  obtain ⟨fp, h⟩ := h
  obtain ⟨ao, c1, rfl, hm, _, hu⟩ := slice_open h
  have HK : Hid (Reads (Rep.slice 89 DApplied.rep) w [.slice ao l.length c1] l) := ⟨_, h⟩
  have HP := Lib.hid hp
  clear h hp hu
  unfold Enters at eg
  go_enter Tryz.func90, Tryz.ntmps90
  go_wp2
  go_loopw [8] (fun i wr => ∃ k : Nat, k ≤ l.length ∧ i = .int .i64 k ∧ Hid (∀ j, (hj : j < l.length) → j < k → p l[j] = false) ∧ Below w.heap.size w wr) (fun i _ => l.length - (intOf i).toNat)
  case atStart => exact ⟨0, by omega, rfl, Lib.hid (by intro j hj h; omega), bEl⟩
  case round =>
    obtain ⟨k, hk, rfl, HA, hb⟩ := hrel
    have HB := Lib.hid hb; clear hb
    by_cases hlt : k < l.length
    · obtain ⟨b, off, cs_b, rfl, hw_b, hr_b, hcell_b⟩ := slice_at (HK.out.below HB.out) k hlt
      obtain ⟨fe_b, hrd_b⟩ := hr_b
      have HR_b : Hid (Reads DApplied.rep wr cs_b l[k]) := ⟨_, hrd_b⟩
      obtain ⟨rfl, _⟩ := DApplied.rd.1 hrd_b
      clear hrd_b
      have b_c0 : wr.cell? ⟨b, off + k * 2, none⟩ = some (.int .i64 l[k].device) := hcell_b 0 (by decide)
      have b_c1 : wr.cell? ⟨b, off + k * 2 + 1, none⟩ = some (.int .i64 l[k].seq) := hcell_b 1 (by decide)
      clear hcell_b
      cases hq : p l[k] with
      | true =>
        have HQ := Lib.hid hq; clear hq
        have e := Lib.hid (idxF_hit hlt HQ.out HA.out)
        go_wp2_with fail
        refine (HP.out wr _ _ (HB.out.mono hB) HR_b.out).mono ?_
        rw [HQ.out]
        rintro e' w1 ⟨rfl, hb1⟩
        have HB1 := Lib.hid (HB.out.trans (hb1.mono HB.out.size)); clear hb1
        go_wp2
        go_ret
        exact ⟨ret_int e.out.symm, HB1.out⟩
      | false =>
        have HQ := Lib.hid hq; clear hq
        go_wp2_with fail
        refine (HP.out wr _ _ (HB.out.mono hB) HR_b.out).mono ?_
        rw [HQ.out]
        rintro e' w1 ⟨rfl, hb1⟩
        have HB1 := Lib.hid (HB.out.trans (hb1.mono HB.out.size)); clear hb1
        go_wp2
        go_light
        exact ⟨⟨k + 1, by omega, by go_num, Lib.hid (none_snoc hlt HA.out HQ.out), HB1.out⟩, by simp [intOf]; omega⟩
    · have e := Lib.hid (idxF_miss (p := p) (l := l) (fun j hj => HA.out j hj (by omega)))
      go_wp2
      go_ret
      exact ⟨ret_int e.out.symm, HB.out⟩

end Go.Proofs.YtlfebehpmefioaaGreat

/-
  slices.IndexFunc, ContainsFunc, DeleteFunc at []Write.
-/
namespace Go.Proofs.YtlfebehpmefioaaGreat
open Go.RowKit

set_option maxRecDepth 100000 in
set_option maxHeartbeats 800000 in
theorem indexFuncWrite (g : FuncId) (cap : Array Value) (p : DWrite → Bool) (B : Nat) (v : Value) (l : List DWrite) (w : World) (eg : Enters Tryz.prog g) (h : Reads (Rep.slice 34 DWrite.rep) w [v] l) (hp : PredOn Tryz.prog DWrite.rep g cap p B w) (hB : B ≤ w.heap.size) :
    Calls Tryz.prog 152 #[v, .func (.func g) #[] cap] w fun e w' => e = .returned (.int .i64 (idxF p l)) ∧ Below w.heap.size w w' := by
  obtain ⟨fp, h⟩ := h
  obtain ⟨ao, c1, rfl, hm, _, hu⟩ := slice_open h
  have HK : Hid (Reads (Rep.slice 34 DWrite.rep) w [.slice ao l.length c1] l) := ⟨_, h⟩
  have HP := Lib.hid hp
  clear h hp hu
  unfold Enters at eg
  go_enter Tryz.func152, Tryz.ntmps152
  go_wp2
  go_loopw [8] (fun i wr => ∃ k : Nat, k ≤ l.length ∧ i = .int .i64 k ∧ Hid (∀ j, (hj : j < l.length) → j < k → p l[j] = false) ∧ Below w.heap.size w wr) (fun i _ => l.length - (intOf i).toNat)
  case atStart => exact ⟨0, by omega, rfl, Lib.hid (by intro j hj h; omega), bEl⟩
  case round =>
    obtain ⟨k, hk, rfl, HA, hb⟩ := hrel
    have HB := Lib.hid hb; clear hb
    by_cases hlt : k < l.length
    · obtain ⟨b, off, cs_b, rfl, hw_b, hr_b, hcell_b⟩ := slice_at (HK.out.below HB.out) k hlt
      obtain ⟨fe_b, hrd_b⟩ := hr_b
      have HR_b : Hid (Reads DWrite.rep wr cs_b l[k]) := ⟨_, hrd_b⟩
      obtain ⟨rfl, _, b_s0, b_s1⟩ := DWrite.rd.1 hrd_b
      clear hrd_b
      have b_c0 : wr.cell? ⟨b, off + k * 7, none⟩ = some (.int .i64 l[k].device) := hcell_b 0 (by decide)
      have b_c1 : wr.cell? ⟨b, off + k * 7 + 1, none⟩ = some (.int .i64 l[k].seq) := hcell_b 1 (by decide)
      have b_c2 : wr.cell? ⟨b, off + k * 7 + 2, none⟩ = some (.int .i64 l[k].key.kind) := hcell_b 2 (by decide)
      have b_c3 : wr.cell? ⟨b, off + k * 7 + 3, none⟩ = some (.int .i64 l[k].key.n) := hcell_b 3 (by decide)
      have b_c4 : wr.cell? ⟨b, off + k * 7 + 4, none⟩ = some (.string l[k].key.text) := hcell_b 4 (by decide)
      have b_c5 : wr.cell? ⟨b, off + k * 7 + 5, none⟩ = some (.string l[k].field) := hcell_b 5 (by decide)
      have b_c6 : wr.cell? ⟨b, off + k * 7 + 6, none⟩ = some (.int .i64 l[k].n) := hcell_b 6 (by decide)
      clear hcell_b
      cases hq : p l[k] with
      | true =>
        have HQ := Lib.hid hq; clear hq
        have e := Lib.hid (idxF_hit hlt HQ.out HA.out)
        go_wp2_with fail
        refine (HP.out wr _ _ (HB.out.mono hB) HR_b.out).mono ?_
        rw [HQ.out]
        rintro e' w1 ⟨rfl, hb1⟩
        have HB1 := Lib.hid (HB.out.trans (hb1.mono HB.out.size)); clear hb1
        go_wp2
        go_ret
        exact ⟨ret_int e.out.symm, HB1.out⟩
      | false =>
        have HQ := Lib.hid hq; clear hq
        go_wp2_with fail
        refine (HP.out wr _ _ (HB.out.mono hB) HR_b.out).mono ?_
        rw [HQ.out]
        rintro e' w1 ⟨rfl, hb1⟩
        have HB1 := Lib.hid (HB.out.trans (hb1.mono HB.out.size)); clear hb1
        go_wp2
        go_light
        exact ⟨⟨k + 1, by omega, by go_num, Lib.hid (none_snoc hlt HA.out HQ.out), HB1.out⟩, by simp [intOf]; omega⟩
    · have e := Lib.hid (idxF_miss (p := p) (l := l) (fun j hj => HA.out j hj (by omega)))
      go_wp2
      go_ret
      exact ⟨ret_int e.out.symm, HB.out⟩

set_option maxRecDepth 100000 in
set_option maxHeartbeats 1600000 in
theorem deleteFuncWrite (g : FuncId) (cap : Array Value) (p : DWrite → Bool) (B : Nat) (v : Value) (l : List DWrite) (w : World) (eg : Enters Tryz.prog g) (h : Fresh (Rep.slice 34 DWrite.rep) B w [v] l) (hp : PredOn Tryz.prog DWrite.rep g cap p B w) (hB : B ≤ w.heap.size) :
    Calls Tryz.prog 119 #[v, .func (.func g) #[] cap] w fun e w' => ∃ v', e = .returned v' ∧ Fresh (Rep.slice 34 DWrite.rep) B w' [v'] (l.filter fun x => !p x) ∧ Chg v.ownBlock.toList w w' ∧ ∀ b ∈ v'.ownBlock.toList, b ∈ v.ownBlock.toList := by
  have HI := Lib.hid (indexFuncWrite g cap p B v l w eg h.reads hp hB)
  have HF := Lib.hid h
  have HP := Lib.hid hp
  clear h hp
  unfold Enters at eg
  rcases idxF_cases p l with ⟨h1, hall⟩ | ⟨k0, hk0, h1, hp1, hall⟩
  · rw [h1] at HI
    have HE := Lib.hid (filter_none hall); clear hall h1
    go_enter Tryz.func119, Tryz.ntmps119
    go_wp2_with fail
    refine HI.out.mono ?_
    rintro e w1 ⟨rfl, hb⟩
    go_wp2
    go_ret
    exact ⟨_, rfl, by rw [HE.out]; exact HF.out.below hb, Chg.of_below hb (Nat.le_refl _), fun _ h => h⟩
  · rw [h1] at HI
    have HD := Lib.hid (DelInv.start hk0 hp1 hall); clear hall h1 hp1
    obtain ⟨g0, vc, rfl, hc1, hc2, hg1, hg2, _, _⟩ := DWrite.flat.at HF.out k0 hk0
    unfold maxLen at hc2
    have hc0 : ((k0 : Int) == -1) = false := beq_eq_false_iff_ne.2 (by omega)
    go_enter Tryz.func119, Tryz.ntmps119
    go_wp2_with fail
    refine HI.out.mono ?_
    rintro e w1 ⟨rfl, hb⟩
    have HF1 := Lib.hid (HF.out.below hb)
    have HC1 : Hid (Chg [g0] w w1) := Lib.hid (Chg.of_below hb (Nat.le_refl _)); clear hb HF
    go_wp2
    go_loopw [5, 6] (fun vi vj wr => ∃ (i j : Nat) (m : List DWrite), vi = .int .i64 i ∧ vj = .int .i64 j ∧ j ≤ l.length ∧ i < j ∧ Hid (DelInv p l m i j) ∧ Fresh (Rep.slice 34 DWrite.rep) B wr [.slice (some ⟨g0, 0, none⟩) l.length vc] m ∧ Chg [g0] w wr) (fun _ vj _ => l.length - (intOf vj).toNat)
    case atStart => exact ⟨k0, k0 + 1, l, rfl, by go_num, by omega, by omega, HD, HF1.out, HC1.out⟩
    case round =>
      obtain ⟨i, j, m, rfl, rfl, hj, hij, HD, hf, hc⟩ := hrel
      have HF := Lib.hid hf; clear hf
      have HB := Lib.hid (hc.below (B := B) (by simp; exact hg1) hB)
      have HC := Lib.hid hc; clear hc
      by_cases hlt : j < l.length
      · have hjm : j < m.length := by rw [HD.out.len]; exact hlt
        have him : i < m.length := by omega
        have HJ := Lib.hid (HD.out.at hlt hjm)
        obtain ⟨g1, vc1, hv, _, _, _, hg3, hcj, hfz⟩ := DWrite.flat.at HF.out j hjm
        simp only [Value.slice.injEq, Option.some.injEq, Addr.mk.injEq, and_true] at hv
        obtain ⟨rfl, hq0, rfl⟩ := hv; clear hq0
        have hok := DWrite.flat.ok_of HF.out _ (List.getElem_mem hjm)
        rw [HJ.out] at hok
        have d0 : wr.cell? ⟨g0, j * 7, none⟩ = some (.int .i64 l[j].device) := by have h := hcj 0 (by decide); rwa [HJ.out] at h
        have d1 : wr.cell? ⟨g0, j * 7 + 1, none⟩ = some (.int .i64 l[j].seq) := by have h := hcj 1 (by decide); rwa [HJ.out] at h
        have d2 : wr.cell? ⟨g0, j * 7 + 2, none⟩ = some (.int .i64 l[j].key.kind) := by have h := hcj 2 (by decide); rwa [HJ.out] at h
        have d3 : wr.cell? ⟨g0, j * 7 + 3, none⟩ = some (.int .i64 l[j].key.n) := by have h := hcj 3 (by decide); rwa [HJ.out] at h
        have d4 : wr.cell? ⟨g0, j * 7 + 4, none⟩ = some (.string l[j].key.text) := by have h := hcj 4 (by decide); rwa [HJ.out] at h
        have d5 : wr.cell? ⟨g0, j * 7 + 5, none⟩ = some (.string l[j].field) := by have h := hcj 5 (by decide); rwa [HJ.out] at h
        have d6 : wr.cell? ⟨g0, j * 7 + 6, none⟩ = some (.int .i64 l[j].n) := by have h := hcj 6 (by decide); rwa [HJ.out] at h
        clear hcj
        have HOK := Lib.hid hok; clear hok
        have hBr : B ≤ wr.heap.size := Nat.le_trans hB HB.out.size
        cases hq : p l[j] with
        | true =>
          have HQ := Lib.hid hq; clear hq
          go_wp2_with fail
          refine (HP.out _ [.int .i64 l[j].device, .int .i64 l[j].seq, .int .i64 l[j].key.kind, .int .i64 l[j].key.n, .string l[j].key.text, .string l[j].field, .int .i64 l[j].n] l[j] (HB.out.alloc hBr _) ⟨[], by have hok := HOK.out; exact DWrite.rd.2 ⟨rfl, rfl, hok.1, hok.2⟩⟩).mono ?_
          rw [HQ.out]
          rintro e' w1 ⟨rfl, hb1⟩
          have HF1 := Lib.hid (HF.out.below ((belA belR).trans (hb1.mono (by simp))))
          have HC1 := Lib.hid (HC.out.trans (Chg.of_below ((belA belR).trans (hb1.mono (by simp))) (Nat.le_refl _))); clear hb1
          go_wp2
          go_light
          exact ⟨⟨i, j + 1, m, rfl, by go_num, by omega, by omega, Lib.hid (HD.out.skip hlt HQ.out), HF1.out, HC1.out⟩, by simp [intOf]; omega⟩
        | false =>
          have HQ := Lib.hid hq; clear hq
          go_wp2_with fail
          refine (HP.out _ [.int .i64 l[j].device, .int .i64 l[j].seq, .int .i64 l[j].key.kind, .int .i64 l[j].key.n, .string l[j].key.text, .string l[j].field, .int .i64 l[j].n] l[j] (HB.out.alloc hBr _) ⟨[], by have hok := HOK.out; exact DWrite.rd.2 ⟨rfl, rfl, hok.1, hok.2⟩⟩).mono ?_
          rw [HQ.out]
          rintro e' w1 ⟨rfl, hb1⟩
          have HF1 := Lib.hid (HF.out.below ((belA belR).trans (hb1.mono (by simp))))
          have ⟨cx, zx⟩ : Box w1 wr.heap.size #[.int .i64 l[j].device, .int .i64 l[j].seq, .int .i64 l[j].key.kind, .int .i64 l[j].key.n, .string l[j].key.text, .string l[j].field, .int .i64 l[j].n] := (Box.at rfl).below hb1
          have HC1 := Lib.hid (HC.out.trans (Chg.of_below ((belA belR).trans (hb1.mono (by simp))) (Nat.le_refl _))); clear hb1
          obtain ⟨g1, vc1, hv, _, _, _, _, hci, hfz1⟩ := DWrite.flat.at HF1.out i him
          simp only [Value.slice.injEq, Option.some.injEq, Addr.mk.injEq, and_true] at hv
          obtain ⟨rfl, hq0, rfl⟩ := hv; clear hq0
          obtain ⟨z0, e0⟩ : ∃ u, w1.cell? ⟨g0, i * 7, none⟩ = some u := ⟨_, hci 0 (by decide)⟩
          obtain ⟨z1, e1⟩ : ∃ u, w1.cell? ⟨g0, i * 7 + 1, none⟩ = some u := ⟨_, hci 1 (by decide)⟩
          obtain ⟨z2, e2⟩ : ∃ u, w1.cell? ⟨g0, i * 7 + 2, none⟩ = some u := ⟨_, hci 2 (by decide)⟩
          obtain ⟨z3, e3⟩ : ∃ u, w1.cell? ⟨g0, i * 7 + 3, none⟩ = some u := ⟨_, hci 3 (by decide)⟩
          obtain ⟨z4, e4⟩ : ∃ u, w1.cell? ⟨g0, i * 7 + 4, none⟩ = some u := ⟨_, hci 4 (by decide)⟩
          obtain ⟨z5, e5⟩ : ∃ u, w1.cell? ⟨g0, i * 7 + 5, none⟩ = some u := ⟨_, hci 5 (by decide)⟩
          obtain ⟨z6, e6⟩ : ∃ u, w1.cell? ⟨g0, i * 7 + 6, none⟩ = some u := ⟨_, hci 6 (by decide)⟩
          clear hci
          have HF2 := Lib.hid (DWrite.flat.setAt HF1.out i him 0 [.int .i64 l[j].device, .int .i64 l[j].seq, .int .i64 l[j].key.kind, .int .i64 l[j].key.n, .string l[j].key.text, .string l[j].field, .int .i64 l[j].n] l[j] (by simp [DWrite.enc]) (Nat.le_refl 7) HOK.out)
          have HC2 := Lib.hid (Chg.sets (g := g0) (by simp) [.int .i64 l[j].device, .int .i64 l[j].seq, .int .i64 l[j].key.kind, .int .i64 l[j].key.n, .string l[j].key.text, .string l[j].field, .int .i64 l[j].n] (i * 7) _ HC1.out)
          go_wp2
          go_light
          exact ⟨⟨i + 1, j + 1, m.set i l[j], by go_num, by go_num, by omega, by omega, Lib.hid (HD.out.keep hlt HQ.out), HF2.out, HC2.out⟩, by simp [intOf]; omega⟩
      · have HD1 := Lib.hid (HD.out.done hlt)
        have him : i < m.length := by rw [HD.out.len]; omega
        have hml := Lib.hid HD.out.len
        have hne : ¬ i = vc := by omega
        go_wp2_with (refine wpList_clear_own DWrite.flat _ rfl _ 28 rfl B 34 _ Tryz.underlying28 Tryz.zeroValue34 rfl ?z1 g0 vc l.length m i him HF.out _ _ _ rfl rfl ?z2 ?_)
        case z1 => intro u hu; simp only [Value.cells, List.mem_cons, List.not_mem_nil, or_false] at hu; rcases hu with rfl | rfl | rfl | rfl | rfl | rfl | rfl <;> rfl
        case z2 => rw [hml.out]
        intro w1 hf1 hc1
        rw [HD1.out] at hf1
        have HF1 := Lib.hid hf1; clear hf1
        have HC1 := Lib.hid (HC.out.trans hc1); clear hc1
        go_wp2
        go_ret
        exact ⟨_, rfl, HF1.out, HC1.out, fun _ h => h⟩

end Go.Proofs.YtlfebehpmefioaaGreat
