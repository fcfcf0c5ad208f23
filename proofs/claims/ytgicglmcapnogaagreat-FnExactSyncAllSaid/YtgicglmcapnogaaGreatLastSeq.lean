/-
  LastSeq.
-/
import Derived.Test.YtgicglmcapnogaaGreatFuncsFam
import Derived.Test.YtgicglmcapnogaaGreatTFam
namespace Go.Proofs.YtgicglmcapnogaaGreat
open Go.RowKit

def atDevice (d : Int) (a : DApplied) : Bool := a.device == d
def lastSeqF (x : DServer) (d : Int) : Int := ((x.applied.find? (atDevice d)).map (·.seq)).getD 0
theorem lastSeq_none {x : DServer} {d : Int} (h : ∀ j, (hj : j < x.applied.length) → atDevice d x.applied[j] = false) : lastSeqF x d = 0 := by
  unfold lastSeqF
  rw [List.find?_eq_none.2 (fun y hy => by obtain ⟨j, hj, rfl⟩ := List.getElem_of_mem hy; rw [h j hj]; simp)]
  rfl
theorem lastSeq_hit {x : DServer} {d : Int} {k : Nat} (hk : k < x.applied.length) (hp : atDevice d x.applied[k] = true) (h : ∀ j, (hj : j < x.applied.length) → j < k → atDevice d x.applied[j] = false) : lastSeqF x d = x.applied[k].seq := by
  unfold lastSeqF
  have : x.applied.find? (atDevice d) = some x.applied[k] := List.find?_eq_some_iff_getElem.2 ⟨hp, k, hk, rfl, fun j hj => by rw [h j (by omega) hj]; rfl⟩
  rw [this]; rfl

theorem devicePred (d : Int) (B k : Nat) (w : World) (hk : k < B) (hc : w.cell? ⟨k, 0, none⟩ = some (.int .i64 d)) : PredOn Tryz.prog DApplied.rep 105 #[.pointer (some ⟨k, 0, none⟩)] (atDevice d) B w := by
  intro W cs x hb hr
  obtain ⟨fp, hr⟩ := hr
  obtain ⟨rfl, _⟩ := DApplied.rd.1 hr
  have hc' := (hb.cell (p := ⟨k, 0, none⟩) hk).trans hc
  have hkW := block_lt_of_cell hc'
  clear hr hb hc
  change Calls Tryz.prog 105 #[.agg #[.int .i64 x.device, .int .i64 x.seq], .pointer (some ⟨k, 0, none⟩)] W _
  go_enter Tryz.func105, Tryz.ntmps105
  go_wp2
  go_ret
  exact ⟨rfl, (by repeat (first | with_reducible exact belR | with_reducible apply belA | (with_reducible refine belS ?_ ?_; focus (first | omega | (simp; done) | (simp; omega))) | with_reducible apply belN | with_reducible apply belD | with_reducible assumption))⟩

set_option maxHeartbeats 800000 in
theorem implDeviceAt (cs : List Value) (x : DServer) (d : Int) (w : World) (h : Reads DServer.rep w cs x) :
    Calls Tryz.prog 77 #[.agg cs.toArray, .int .i64 d] w fun e w' => e = .returned (.int .i64 (idxF (atDevice d) x.applied)) ∧ Below w.heap.size w w' := by
  obtain ⟨fp_q, h⟩ := h
  obtain ⟨q_v1, q_v2, q_v3, q_f1, q_f2, q_f3, rfl, _, q_s0, q_r1, q_r2, q_r3⟩ := DServer.rd.1 h
  obtain ⟨q_a1, q_c1, rfl, q_hm1, q_lc1, q_hu1⟩ := slice_open q_r1; clear q_hu1
  have q_K1 : Hid (Reads (Rep.slice 134 DItem.rep) w [.slice q_a1 x.store.items.length q_c1] x.store.items) := ⟨_, q_r1⟩
  obtain ⟨q_a2, q_c2, rfl, q_hm2, q_lc2, q_hu2⟩ := slice_open q_r2; clear q_hu2
  have q_K2 : Hid (Reads (Rep.slice 110 DApplied.rep) w [.slice q_a2 x.applied.length q_c2] x.applied) := ⟨_, q_r2⟩
  obtain ⟨q_a3, q_c3, rfl, q_hm3, q_lc3, q_hu3⟩ := slice_open q_r3; clear q_hu3
  have q_K3 : Hid (Reads (Rep.slice 72 DWrite.rep) w [.slice q_a3 x.changes.length q_c3] x.changes) := ⟨_, q_r3⟩
  clear q_r1 q_r2 q_r3 h
  go_enter Tryz.func77, Tryz.ntmps77
  go_wp2_with fail
  refine (indexFuncApplied _ _ (atDevice d) (w.heap.size + 2) _ _ _ (enters_at Tryz.func105 (by kernel_rfl) rfl) (q_K2.out.below (by repeat (first | with_reducible exact belR | with_reducible apply belA | (with_reducible refine belS ?_ ?_; focus (first | omega | (simp; done) | (simp; omega))) | with_reducible apply belN | with_reducible apply belD | with_reducible assumption))) (devicePred d _ _ _ (by omega) ((WB.at (by simp)).cell 0)) (by simp)).mono ?_
  rintro e w1 ⟨rfl, hb⟩
  have HB := Lib.hid (Below.trans (by repeat (first | with_reducible exact belR | with_reducible apply belA | (with_reducible refine belS ?_ ?_; focus (first | omega | (simp; done) | (simp; omega))) | with_reducible apply belN | with_reducible apply belD | with_reducible assumption)) (hb.mono (by first | omega | (simp; done) | (simp; omega))) : Below w.heap.size w w1)
  clear hb
  go_wp2
  go_ret
  exact ⟨rfl, HB.out⟩

set_option maxHeartbeats 800000 in
theorem implLastSeq (cs : List Value) (x : DServer) (d : Int) (w : World) (h : Reads DServer.rep w cs x) :
    Calls Tryz.prog 78 #[.agg cs.toArray, .int .i64 d] w fun e w' => e = .returned (.int .i64 (lastSeqF x d)) ∧ Below w.heap.size w w' := by
  have HH := Lib.hid h
  obtain ⟨fp_q, h⟩ := h
  obtain ⟨q_v1, q_v2, q_v3, q_f1, q_f2, q_f3, rfl, _, q_s0, q_r1, q_r2, q_r3⟩ := DServer.rd.1 h
  obtain ⟨q_a1, q_c1, rfl, q_hm1, q_lc1, q_hu1⟩ := slice_open q_r1; clear q_hu1
  have q_K1 : Hid (Reads (Rep.slice 134 DItem.rep) w [.slice q_a1 x.store.items.length q_c1] x.store.items) := ⟨_, q_r1⟩
  obtain ⟨q_a2, q_c2, rfl, q_hm2, q_lc2, q_hu2⟩ := slice_open q_r2; clear q_hu2
  have q_K2 : Hid (Reads (Rep.slice 110 DApplied.rep) w [.slice q_a2 x.applied.length q_c2] x.applied) := ⟨_, q_r2⟩
  obtain ⟨q_a3, q_c3, rfl, q_hm3, q_lc3, q_hu3⟩ := slice_open q_r3; clear q_hu3
  have q_K3 : Hid (Reads (Rep.slice 72 DWrite.rep) w [.slice q_a3 x.changes.length q_c3] x.changes) := ⟨_, q_r3⟩
  clear q_r1 q_r2 q_r3 h
  go_enter Tryz.func78, Tryz.ntmps78
  go_wp2_with fail
  refine (implDeviceAt _ x d _ (HH.out.below (by repeat (first | with_reducible exact belR | with_reducible apply belA | (with_reducible refine belS ?_ ?_; focus (first | omega | (simp; done) | (simp; omega))) | with_reducible apply belN | with_reducible apply belD | with_reducible assumption)))).mono ?_
  rintro e w1 ⟨rfl, hb⟩
  have HX : Hid (WB w1 w.heap.size #[.string x.store.name, .slice q_a1 x.store.items.length q_c1, .int .i64 x.store.auto, .slice q_a2 x.applied.length q_c2, .slice q_a3 x.changes.length q_c3]) := Lib.hid ((WB.at rfl).keep hb)
  have HB := Lib.hid (Below.trans (by repeat (first | with_reducible exact belR | with_reducible apply belA | (with_reducible refine belS ?_ ?_; focus (first | omega | (simp; done) | (simp; omega))) | with_reducible apply belN | with_reducible apply belD | with_reducible assumption)) (hb.mono (by first | omega | (simp; done) | (simp; omega))) : Below w.heap.size w w1)
  clear hb
  have ⟨c_HX, z_HX, f_HX⟩ := HX.out
  rcases idxF_cases (atDevice d) x.applied with ⟨he, hall⟩ | ⟨k, hk, he, hp, hall⟩
  · have H1 := Lib.hid (lastSeq_none hall)
    rw [he]
    clear he hall
    go_wp2
    go_ret
    exact ⟨ret_int H1.out.symm, HB.out⟩
  · have H1 := Lib.hid (lastSeq_hit hk hp hall)
    rw [he]
    clear he hall hp
    obtain ⟨b, off, cs_b, rfl, hw_b, hr_b, hcell_b⟩ := slice_at (q_K2.out.below HB.out) k hk
    obtain ⟨fe_b, hrd_b⟩ := hr_b
    have HR_b : Hid (Reads DApplied.rep w1 cs_b x.applied[k]) := ⟨_, hrd_b⟩
    obtain ⟨rfl, _⟩ := DApplied.rd.1 hrd_b
    clear hrd_b
    have b_c0 : w1.cell? ⟨b, off + k * 2, none⟩ = some (.int .i64 x.applied[k].device) := hcell_b 0 (by decide)
    have b_c1 : w1.cell? ⟨b, off + k * 2 + 1, none⟩ = some (.int .i64 x.applied[k].seq) := hcell_b 1 (by decide)
    clear hcell_b
    have i1 : (0 : Int) ≤ (k : Int) := by omega
    have i2 : (k : Int) < (x.applied.length : Int) := by omega
    go_wp2
    go_ret
    exact ⟨ret_int H1.out.symm, HB.out⟩

set_option maxHeartbeats 800000 in
theorem specLastSeq (cs : List Value) (x : DServer) (d : Int) (w : World) (h : Reads DServer.rep w cs x) :
    Calls Tryz.prog 69 #[.agg cs.toArray, .int .i64 d] w fun e w' => e = .returned (.int .i64 (lastSeqF x d)) ∧ Below w.heap.size w w' := by
  obtain ⟨fp_q, h⟩ := h
  obtain ⟨q_v1, q_v2, q_v3, q_f1, q_f2, q_f3, rfl, _, q_s0, q_r1, q_r2, q_r3⟩ := DServer.rd.1 h
  obtain ⟨q_a1, q_c1, rfl, q_hm1, q_lc1, q_hu1⟩ := slice_open q_r1; clear q_hu1
  have q_K1 : Hid (Reads (Rep.slice 134 DItem.rep) w [.slice q_a1 x.store.items.length q_c1] x.store.items) := ⟨_, q_r1⟩
  obtain ⟨q_a2, q_c2, rfl, q_hm2, q_lc2, q_hu2⟩ := slice_open q_r2; clear q_hu2
  have q_K2 : Hid (Reads (Rep.slice 110 DApplied.rep) w [.slice q_a2 x.applied.length q_c2] x.applied) := ⟨_, q_r2⟩
  obtain ⟨q_a3, q_c3, rfl, q_hm3, q_lc3, q_hu3⟩ := slice_open q_r3; clear q_hu3
  have q_K3 : Hid (Reads (Rep.slice 72 DWrite.rep) w [.slice q_a3 x.changes.length q_c3] x.changes) := ⟨_, q_r3⟩
  clear q_r1 q_r2 q_r3 h
  go_enter Tryz.func69, Tryz.ntmps69
  go_wp2_with fail
  refine settle (fun W => WB W w.heap.size #[.string x.store.name, .slice q_a1 x.store.items.length q_c1, .int .i64 x.store.auto, .slice q_a2 x.applied.length q_c2, .slice q_a3 x.changes.length q_c3] ∧ Below w.heap.size w W) ⟨WB.at rfl, (by repeat (first | with_reducible exact belR | with_reducible apply belA | (with_reducible refine belS ?_ ?_; focus (first | omega | (simp; done) | (simp; omega))) | with_reducible apply belN | with_reducible apply belD | with_reducible assumption))⟩ ?_
  rintro w1 ⟨hx, hb⟩
  have HX := Lib.hid hx
  have HB := Lib.hid hb
  clear hx hb
  have ⟨c_HX, z_HX, f_HX⟩ := HX.out
  go_loop [5] (fun i => ∃ k : Nat, k ≤ x.applied.length ∧ i = .int .i64 k ∧ Hid (∀ j, (hj : j < x.applied.length) → j < k → atDevice d x.applied[j] = false)) (fun i => x.applied.length - (intOf i).toNat)
  case atStart => exact ⟨0, by omega, rfl, Lib.hid (by intro j hj hk; omega)⟩
  case round =>
    obtain ⟨k, hk, rfl, HL⟩ := hrel
    by_cases hlt : k < x.applied.length
    · obtain ⟨b, off, cs_b, rfl, hw_b, hr_b, hcell_b⟩ := slice_at (q_K2.out.below HB.out) k hlt
      obtain ⟨fe_b, hrd_b⟩ := hr_b
      have HR_b : Hid (Reads DApplied.rep w1 cs_b x.applied[k]) := ⟨_, hrd_b⟩
      obtain ⟨rfl, _⟩ := DApplied.rd.1 hrd_b
      clear hrd_b
      have b_c0 : w1.cell? ⟨b, off + k * 2, none⟩ = some (.int .i64 x.applied[k].device) := hcell_b 0 (by decide)
      have b_c1 : w1.cell? ⟨b, off + k * 2 + 1, none⟩ = some (.int .i64 x.applied[k].seq) := hcell_b 1 (by decide)
      clear hcell_b
      have i1 : (0 : Int) ≤ (k : Int) := by omega
      have i2 : (k : Int) < (x.applied.length : Int) := by omega
      cases n : (x.applied[k].device == d)
      · have HN := Lib.hid (none_snoc hlt HL.out (show atDevice d x.applied[k] = false from n))
        go_wp2
        go_light
        exact ⟨⟨k + 1, by omega, by go_num, HN⟩, by simp [intOf]; omega⟩
      · have H1 := Lib.hid (lastSeq_hit hlt (show atDevice d x.applied[k] = true from n) HL.out)
        go_wp2
        go_ret
        exact ⟨ret_int H1.out.symm, HB.out⟩
    · have H1 := Lib.hid (lastSeq_none (x := x) (d := d) fun j hj => HL.out j hj (by omega))
      go_wp2
      go_ret
      exact ⟨ret_int H1.out.symm, HB.out⟩

end Go.Proofs.YtgicglmcapnogaaGreat
