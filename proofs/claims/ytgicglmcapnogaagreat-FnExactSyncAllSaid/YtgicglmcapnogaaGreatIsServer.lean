/-
  IsServer.
-/
import Derived.Test.YtgicglmcapnogaaGreatServerF
namespace Go.Proofs.YtgicglmcapnogaaGreat
open Go.RowKit
attribute [local irreducible] isStoreF isWriteF

set_option maxRecDepth 100000 in
set_option maxHeartbeats 6400000 in
theorem implIsServer (cs : List Value) (x : DServer) (w : World) (h : Reads DServer.rep w cs x) :
    Calls Tryz.prog 79 #[.agg cs.toArray] w fun e w' => e = .returned (.bool (isServerF x)) ∧ Below w.heap.size w w' := by
  obtain ⟨fp_q, h⟩ := h
  obtain ⟨q_v1, q_v2, q_v3, q_f1, q_f2, q_f3, rfl, _, q_s0, q_r1, q_r2, q_r3⟩ := DServer.rd.1 h
  obtain ⟨q_a1, q_c1, rfl, q_hm1, q_lc1, q_hu1⟩ := slice_open q_r1; clear q_hu1
  have q_K1 : Hid (Reads (Rep.slice 134 DItem.rep) w [.slice q_a1 x.store.items.length q_c1] x.store.items) := ⟨_, q_r1⟩
  obtain ⟨q_a2, q_c2, rfl, q_hm2, q_lc2, q_hu2⟩ := slice_open q_r2; clear q_hu2
  have q_K2 : Hid (Reads (Rep.slice 110 DApplied.rep) w [.slice q_a2 x.applied.length q_c2] x.applied) := ⟨_, q_r2⟩
  obtain ⟨q_a3, q_c3, rfl, q_hm3, q_lc3, q_hu3⟩ := slice_open q_r3; clear q_hu3
  have q_K3 : Hid (Reads (Rep.slice 72 DWrite.rep) w [.slice q_a3 x.changes.length q_c3] x.changes) := ⟨_, q_r3⟩
  clear q_r1 q_r2 q_r3 h
  have HSt : Hid (Reads DStore.rep w [.string x.store.name, .slice q_a1 x.store.items.length q_c1, .int .i64 x.store.auto] x.store) := by
    obtain ⟨f, r⟩ := q_K1.out
    exact ⟨f, DStore.rd.2 ⟨_, _, rfl, rfl, q_s0, r⟩⟩
  go_enter Tryz.func79, Tryz.ntmps79
  go_wp2
  go_loopw [10] (fun i wr => ∃ k : Nat, k ≤ x.applied.length ∧ i = .int .i64 k ∧ Hid (∀ i, i < k → appOk x.applied i = true) ∧ WB wr w.heap.size #[.string x.store.name, .slice q_a1 x.store.items.length q_c1, .int .i64 x.store.auto, .slice q_a2 x.applied.length q_c2, .slice q_a3 x.changes.length q_c3] ∧ Below w.heap.size w wr) (fun i _ => x.applied.length - (intOf i).toNat)
  case atStart => exact ⟨0, by omega, rfl, Lib.hid (by intro i hi; omega), WB.at rfl, (by repeat (first | with_reducible exact belR | with_reducible apply belA | (with_reducible refine belS ?_ ?_; focus (first | omega | (simp; done) | (simp; omega))) | with_reducible apply belN | with_reducible apply belD | with_reducible assumption))⟩
  case round =>
    obtain ⟨k, hk, rfl, HA, hx, hb⟩ := hrel
    have HB := Lib.hid hb; clear hb
    have HX := Lib.hid hx
    clear hx
    have ⟨c_HX, z_HX, f_HX⟩ := HX.out
    by_cases hlt : k < x.applied.length
    · have eo := Lib.hid (appOk_at hlt)
      have hlt' : k - 1 < x.applied.length := by omega
      obtain ⟨b, off, cs_b, rfl, hw_b, hr_b, hcell_b⟩ := slice_at (q_K2.out.below HB.out) k hlt
      obtain ⟨fe_b, hrd_b⟩ := hr_b
      have HR_b : Hid (Reads DApplied.rep wr cs_b x.applied[k]) := ⟨_, hrd_b⟩
      obtain ⟨rfl, _⟩ := DApplied.rd.1 hrd_b
      clear hrd_b
      have b_c0 : wr.cell? ⟨b, off + k * 2, none⟩ = some (.int .i64 x.applied[k].device) := hcell_b 0 (by decide)
      have b_c1 : wr.cell? ⟨b, off + k * 2 + 1, none⟩ = some (.int .i64 x.applied[k].seq) := hcell_b 1 (by decide)
      clear hcell_b
      obtain ⟨cs2, _, ⟨_, hrd2⟩, hcell2⟩ := slice_at' (q_K2.out.below HB.out) (k - 1) hlt'
      obtain ⟨rfl, _⟩ := DApplied.rd.1 hrd2
      have c_c0 : wr.cell? ⟨b, off + (k - 1) * 2, none⟩ = some (.int .i64 x.applied[k - 1].device) := hcell2 0 (by decide)
      clear hcell2 hrd2
      clear HR_b
      have j1 : (0 : Int) ≤ (k : Int) := by omega
      have j3 : (k : Int) < (x.applied.length : Int) := by omega
      cases n1 : within x.applied[k].device 1 1000000
      case' true => cases n2 : within x.applied[k].seq 0 1000000
      case' true.true => cases n3 : decide (0 < k)
      case' true.true.true => cases n4 : appBad x.applied k
      all_goals
        first | (have hk0 := of_decide_eq_true n3; have hw : IntKind.i64.wrap ((k : Int) - 1) = ((k - 1 : Nat) : Int) := by rw [Go.IntWalk.i64_in _ (by omega)]; omega) | (have hw : True := trivial)
        have j4 : (0 : Int) ≤ ((k - 1 : Nat) : Int) := by omega
        have j5 : ((k - 1 : Nat) : Int) < (x.applied.length : Int) := by omega
        first | (have n5 := (appBad_at hlt).symm.trans n4) | (have n5 : True := trivial)
        go_wp2_with fail
        refine settle (fun W => WB W wr.heap.size #[.int .i64 x.applied[k].device, .int .i64 x.applied[k].seq] ∧ WB W w.heap.size #[.string x.store.name, .slice q_a1 x.store.items.length q_c1, .int .i64 x.store.auto, .slice (some ⟨b, off, none⟩) x.applied.length q_c2, .slice q_a3 x.changes.length q_c3] ∧ Below wr.heap.size wr W) ⟨WB.at rfl, HX.out.growA, (by repeat (first | with_reducible exact belR | with_reducible apply belA | (with_reducible refine belS ?_ ?_; focus (first | omega | (simp; done) | (simp; omega))) | with_reducible apply belN | with_reducible apply belD | with_reducible assumption))⟩ ?_
        rintro w0 ⟨hy, hx0, hb0⟩
        have K0 := rg_var hx0
        have K1 := rg_var hy
        have C2 := rg_cell ((hb0.cell (block_lt_of_cell c_c0)).trans c_c0)
        refine wp_region_rg (by kernel_rfl) (by kernel_rfl) ?_
        repeat (go_big_quiet_step ((go_at_call 46; exact calls_rgSame (implInRange _ _ _ _))))
        refine wpQuiet_nil ?_
        rintro _ ⟨pq, rfl⟩
        clear K0 K1 C2 hw n5
        have HB1 := Lib.hid (hb0.trans ((rg_below w0 pq).mono hb0.size))
        clear hb0 hy hx0
      all_goals
        first
          | (go_wp2
             go_ret
             refine ⟨ret_bool (server_no hlt ?_).symm, below_call HB.out HB.out.size HB1.out⟩
             rw [eo.out]
             first
               | (rw [n1]; rfl)
               | (rw [n1, n2]; rfl)
               | (rw [n1, n2, n3, n4]; rfl))
          | (have HK : Hid (appOk x.applied k = true) := Lib.hid (by
               rw [eo.out]
               first
                 | (rw [n1, n2, n3, n4]; rfl)
                 | (rw [n1, n2, n3]; rfl))
             go_wp2
             go_light
             exact ⟨⟨k + 1, by omega, by go_num, Lib.hid (all_snoc HA.out HK.out), HX.out.keep HB1.out, below_call HB.out HB.out.size HB1.out⟩, by simp [intOf]; omega⟩)
    · have he := Lib.hid (server_yes hlt HA.out)
      clear HA
      go_wp2
      have hzr := HB.out.size
      obtain ⟨wp, hwp⟩ : ∃ wp, wp = wr := ⟨_, rfl⟩
      go_loopw [45] (fun i ws => ∃ k : Nat, k ≤ x.changes.length ∧ i = .int .i64 k ∧ Hid (∀ i, (hi : i < x.changes.length) → i < k → isWriteF x.changes[i] = true) ∧ WB ws w.heap.size #[.string x.store.name, .slice q_a1 x.store.items.length q_c1, .int .i64 x.store.auto, .slice q_a2 x.applied.length q_c2, .slice q_a3 x.changes.length q_c3] ∧ Below w.heap.size w ws) (fun i _ => x.changes.length - (intOf i).toNat)
      case atStart => exact ⟨0, by omega, rfl, Lib.hid (by intro i hi hk; omega), HX.out, HB.out⟩
      case round =>
        clear c_HX z_HX f_HX
        clear HB HX hzr hwp
        rename World => wo
        obtain ⟨j, hj, rfl, HC, hx, hb⟩ := hrel
        have HB := Lib.hid hb; clear hb
        have HX := Lib.hid hx
        clear hx
        have ⟨c_HX, z_HX, f_HX⟩ := HX.out
        by_cases hlt2 : j < x.changes.length
        · obtain ⟨b, off, cs_b, rfl, hw_b, hr_b, hcell_b⟩ := slice_at (q_K3.out.below HB.out) j hlt2
          obtain ⟨fe_b, hrd_b⟩ := hr_b
          have HR_b : Hid (Reads DWrite.rep wo cs_b x.changes[j]) := ⟨_, hrd_b⟩
          obtain ⟨rfl, _, b_s0, b_s1⟩ := DWrite.rd.1 hrd_b
          clear hrd_b
          have b_c0 : wo.cell? ⟨b, off + j * 7, none⟩ = some (.int .i64 x.changes[j].device) := hcell_b 0 (by decide)
          have b_c1 : wo.cell? ⟨b, off + j * 7 + 1, none⟩ = some (.int .i64 x.changes[j].seq) := hcell_b 1 (by decide)
          have b_c2 : wo.cell? ⟨b, off + j * 7 + 2, none⟩ = some (.int .i64 x.changes[j].key.kind) := hcell_b 2 (by decide)
          have b_c3 : wo.cell? ⟨b, off + j * 7 + 3, none⟩ = some (.int .i64 x.changes[j].key.n) := hcell_b 3 (by decide)
          have b_c4 : wo.cell? ⟨b, off + j * 7 + 4, none⟩ = some (.string x.changes[j].key.text) := hcell_b 4 (by decide)
          have b_c5 : wo.cell? ⟨b, off + j * 7 + 5, none⟩ = some (.string x.changes[j].field) := hcell_b 5 (by decide)
          have b_c6 : wo.cell? ⟨b, off + j * 7 + 6, none⟩ = some (.int .i64 x.changes[j].n) := hcell_b 6 (by decide)
          clear hcell_b
          have i1 : (0 : Int) ≤ (j : Int) := by omega
          have i2 : (j : Int) < (x.changes.length : Int) := by omega
          go_wp2_with fail
          refine (implIsQueuedWrite _ x.changes[j] _ (HR_b.out.below (by repeat (first | with_reducible exact belR | with_reducible apply belA | (with_reducible refine belS ?_ ?_; focus (first | omega | (simp; done) | (simp; omega))) | with_reducible apply belN | with_reducible apply belD | with_reducible assumption)))).mono ?_
          rintro e w2 ⟨rfl, hb2⟩
          have HB2 := Lib.hid (Below.trans (by repeat (first | with_reducible exact belR | with_reducible apply belA | (with_reducible refine belS ?_ ?_; focus (first | omega | (simp; done) | (simp; omega))) | with_reducible apply belN | with_reducible apply belD | with_reducible assumption)) (hb2.mono (by first | omega | (simp; done) | (simp; omega))) : Below wo.heap.size wo w2)
          clear hb2
          cases n : isWriteF x.changes[j]
          · have H1 : Hid (isServerF x = false) := Lib.hid (by rw [he.out, changes_no hlt2 n]; rfl)
            go_wp2
            go_ret
            exact ⟨ret_bool H1.out.symm, below_call HB.out HB.out.size HB2.out⟩
          · have H1 := Lib.hid (write_snoc hlt2 HC.out n)
            go_wp2
            go_light
            exact ⟨⟨j + 1, by omega, by go_num, H1, HX.out.keep HB2.out, below_call HB.out HB.out.size HB2.out⟩, by simp [intOf]; omega⟩
        · have he2 : Hid (isServerF x = serverEnd x) := Lib.hid (by rw [he.out, changes_yes hlt2 HC.out]; rfl)
          clear he HC
          go_wp2_with fail
          refine (implIsStore _ x.store _ (HSt.out.below HB.out)).mono ?_
          rintro e w2 ⟨rfl, hb2⟩
          replace HX := Lib.hid (HX.out.keep hb2)
          replace HB := Lib.hid (HB.out.trans (hb2.mono HB.out.size))
          clear hb2 c_HX z_HX f_HX
          have ⟨c_HX, z_HX, f_HX⟩ := HX.out
          cases m1 : isStoreF x.store
          case' true => cases m2 : isNotes x.store.name
          case' true.true => cases m3 : decide (x.applied.length ≤ 60)
          all_goals
            first | (have n5 : (x.store.name.toList == [110, 111, 116, 101, 115]) = true := m2) | (have n5 : (x.store.name.toList == [110, 111, 116, 101, 115]) = false := m2) | skip
            first | (have m4 := of_decide_eq_true m3) | (have m4 := of_decide_eq_false m3) | skip
            go_wp2
            go_ret
            refine ⟨ret_bool ?_, HB.out⟩
            rw [he2.out, serverEnd]
            first
              | (rw [m1]; (try rfl); done)
              | (rw [m1, m2]; (try rfl); done)
              | (rw [m1, m2, m3, decide_eq_true (show ((x.applied.length : Nat) : Int) ≤ 60 by omega)]; (try rfl); done)
              | (rw [m1, m2, m3, decide_eq_false (show ¬ ((x.applied.length : Nat) : Int) ≤ 60 by omega)]; (try rfl); done)

set_option maxRecDepth 100000 in
set_option maxHeartbeats 6400000 in
theorem specIsServer (cs : List Value) (x : DServer) (w : World) (h : Reads DServer.rep w cs x) :
    Calls Tryz.prog 67 #[.agg cs.toArray] w fun e w' => e = .returned (.bool (isServerF x)) ∧ Below w.heap.size w w' := by
  obtain ⟨fp_q, h⟩ := h
  obtain ⟨q_v1, q_v2, q_v3, q_f1, q_f2, q_f3, rfl, _, q_s0, q_r1, q_r2, q_r3⟩ := DServer.rd.1 h
  obtain ⟨q_a1, q_c1, rfl, q_hm1, q_lc1, q_hu1⟩ := slice_open q_r1; clear q_hu1
  have q_K1 : Hid (Reads (Rep.slice 134 DItem.rep) w [.slice q_a1 x.store.items.length q_c1] x.store.items) := ⟨_, q_r1⟩
  obtain ⟨q_a2, q_c2, rfl, q_hm2, q_lc2, q_hu2⟩ := slice_open q_r2; clear q_hu2
  have q_K2 : Hid (Reads (Rep.slice 110 DApplied.rep) w [.slice q_a2 x.applied.length q_c2] x.applied) := ⟨_, q_r2⟩
  obtain ⟨q_a3, q_c3, rfl, q_hm3, q_lc3, q_hu3⟩ := slice_open q_r3; clear q_hu3
  have q_K3 : Hid (Reads (Rep.slice 72 DWrite.rep) w [.slice q_a3 x.changes.length q_c3] x.changes) := ⟨_, q_r3⟩
  clear q_r1 q_r2 q_r3 h
  have HSt : Hid (Reads DStore.rep w [.string x.store.name, .slice q_a1 x.store.items.length q_c1, .int .i64 x.store.auto] x.store) := by
    obtain ⟨f, r⟩ := q_K1.out
    exact ⟨f, DStore.rd.2 ⟨_, _, rfl, rfl, q_s0, r⟩⟩
  go_enter Tryz.func67, Tryz.ntmps67
  go_wp2
  go_loopw [3] (fun i wr => ∃ k : Nat, k ≤ x.applied.length ∧ i = .int .i64 k ∧ Hid (∀ i, i < k → appOk x.applied i = true) ∧ WB wr w.heap.size #[.string x.store.name, .slice q_a1 x.store.items.length q_c1, .int .i64 x.store.auto, .slice q_a2 x.applied.length q_c2, .slice q_a3 x.changes.length q_c3] ∧ Below w.heap.size w wr) (fun i _ => x.applied.length - (intOf i).toNat)
  case atStart => exact ⟨0, by omega, rfl, Lib.hid (by intro i hi; omega), WB.at rfl, (by repeat (first | with_reducible exact belR | with_reducible apply belA | (with_reducible refine belS ?_ ?_; focus (first | omega | (simp; done) | (simp; omega))) | with_reducible apply belN | with_reducible apply belD | with_reducible assumption))⟩
  case round =>
    obtain ⟨k, hk, rfl, HA, hx, hb⟩ := hrel
    have HB := Lib.hid hb; clear hb
    have HX := Lib.hid hx
    clear hx
    have ⟨c_HX, z_HX, f_HX⟩ := HX.out
    by_cases hlt : k < x.applied.length
    · have eo := Lib.hid (appOk_at hlt)
      have hlt' : k - 1 < x.applied.length := by omega
      obtain ⟨b, off, cs_b, rfl, hw_b, hr_b, hcell_b⟩ := slice_at (q_K2.out.below HB.out) k hlt
      obtain ⟨fe_b, hrd_b⟩ := hr_b
      have HR_b : Hid (Reads DApplied.rep wr cs_b x.applied[k]) := ⟨_, hrd_b⟩
      obtain ⟨rfl, _⟩ := DApplied.rd.1 hrd_b
      clear hrd_b
      have b_c0 : wr.cell? ⟨b, off + k * 2, none⟩ = some (.int .i64 x.applied[k].device) := hcell_b 0 (by decide)
      have b_c1 : wr.cell? ⟨b, off + k * 2 + 1, none⟩ = some (.int .i64 x.applied[k].seq) := hcell_b 1 (by decide)
      clear hcell_b
      obtain ⟨cs2, _, ⟨_, hrd2⟩, hcell2⟩ := slice_at' (q_K2.out.below HB.out) (k - 1) hlt'
      obtain ⟨rfl, _⟩ := DApplied.rd.1 hrd2
      have c_c0 : wr.cell? ⟨b, off + (k - 1) * 2, none⟩ = some (.int .i64 x.applied[k - 1].device) := hcell2 0 (by decide)
      clear hcell2 hrd2
      clear HR_b
      have j1 : (0 : Int) ≤ (k : Int) := by omega
      have j3 : (k : Int) < (x.applied.length : Int) := by omega
      cases n1 : within x.applied[k].device 1 1000000
      case' true => cases n2 : within x.applied[k].seq 0 1000000
      case' true.true => cases n3 : decide (0 < k)
      case' true.true.true => cases n4 : appBad x.applied k
      all_goals
        first | (have hk0 := of_decide_eq_true n3; have hw : IntKind.i64.wrap ((k : Int) - 1) = ((k - 1 : Nat) : Int) := by rw [Go.IntWalk.i64_in _ (by omega)]; omega) | (have hw : True := trivial)
        have j4 : (0 : Int) ≤ ((k - 1 : Nat) : Int) := by omega
        have j5 : ((k - 1 : Nat) : Int) < (x.applied.length : Int) := by omega
        first | (have n5 := (appBad_at hlt).symm.trans n4) | (have n5 : True := trivial)
        go_wp2_with fail
        have K0 := rg_var HX.out
        have C3 := rg_cell b_c0
        have C4 := rg_cell b_c1
        have C2 := rg_cell c_c0
        refine wp_region_rg (by kernel_rfl) (by kernel_rfl) ?_
        repeat (go_big_quiet_step ((go_at_call 32; exact calls_rgSame (specIn _ _ _ _))))
        refine wpQuiet_nil ?_
        rintro _ ⟨pq, rfl⟩
        clear K0 C3 C4 C2 hw n5
        have HB1 := Lib.hid (rg_below wr pq)
      all_goals
        first
          | (go_wp2
             go_ret
             refine ⟨ret_bool (server_no hlt ?_).symm, below_call HB.out HB.out.size HB1.out⟩
             rw [eo.out]
             first
               | (rw [n1]; rfl)
               | (rw [n1, n2]; rfl)
               | (rw [n1, n2, n3, n4]; rfl))
          | (have HK : Hid (appOk x.applied k = true) := Lib.hid (by
               rw [eo.out]
               first
                 | (rw [n1, n2, n3, n4]; rfl)
                 | (rw [n1, n2, n3]; rfl))
             go_wp2
             go_light
             exact ⟨⟨k + 1, by omega, by go_num, Lib.hid (all_snoc HA.out HK.out), HX.out.keep HB1.out, below_call HB.out HB.out.size HB1.out⟩, by simp [intOf]; omega⟩)
    · have he := Lib.hid (server_yes hlt HA.out)
      clear HA
      go_wp2
      have hzr := HB.out.size
      obtain ⟨wp, hwp⟩ : ∃ wp, wp = wr := ⟨_, rfl⟩
      go_loopw [4] (fun i ws => ∃ k : Nat, k ≤ x.changes.length ∧ i = .int .i64 k ∧ Hid (∀ i, (hi : i < x.changes.length) → i < k → isWriteF x.changes[i] = true) ∧ WB ws w.heap.size #[.string x.store.name, .slice q_a1 x.store.items.length q_c1, .int .i64 x.store.auto, .slice q_a2 x.applied.length q_c2, .slice q_a3 x.changes.length q_c3] ∧ Below w.heap.size w ws) (fun i _ => x.changes.length - (intOf i).toNat)
      case atStart => exact ⟨0, by omega, rfl, Lib.hid (by intro i hi hk; omega), HX.out, HB.out⟩
      case round =>
        clear c_HX z_HX f_HX
        clear HB HX hzr hwp
        rename World => wo
        obtain ⟨j, hj, rfl, HC, hx, hb⟩ := hrel
        have HB := Lib.hid hb; clear hb
        have HX := Lib.hid hx
        clear hx
        have ⟨c_HX, z_HX, f_HX⟩ := HX.out
        by_cases hlt2 : j < x.changes.length
        · obtain ⟨b, off, cs_b, rfl, hw_b, hr_b, hcell_b⟩ := slice_at (q_K3.out.below HB.out) j hlt2
          obtain ⟨fe_b, hrd_b⟩ := hr_b
          have HR_b : Hid (Reads DWrite.rep wo cs_b x.changes[j]) := ⟨_, hrd_b⟩
          obtain ⟨rfl, _, b_s0, b_s1⟩ := DWrite.rd.1 hrd_b
          clear hrd_b
          have b_c0 : wo.cell? ⟨b, off + j * 7, none⟩ = some (.int .i64 x.changes[j].device) := hcell_b 0 (by decide)
          have b_c1 : wo.cell? ⟨b, off + j * 7 + 1, none⟩ = some (.int .i64 x.changes[j].seq) := hcell_b 1 (by decide)
          have b_c2 : wo.cell? ⟨b, off + j * 7 + 2, none⟩ = some (.int .i64 x.changes[j].key.kind) := hcell_b 2 (by decide)
          have b_c3 : wo.cell? ⟨b, off + j * 7 + 3, none⟩ = some (.int .i64 x.changes[j].key.n) := hcell_b 3 (by decide)
          have b_c4 : wo.cell? ⟨b, off + j * 7 + 4, none⟩ = some (.string x.changes[j].key.text) := hcell_b 4 (by decide)
          have b_c5 : wo.cell? ⟨b, off + j * 7 + 5, none⟩ = some (.string x.changes[j].field) := hcell_b 5 (by decide)
          have b_c6 : wo.cell? ⟨b, off + j * 7 + 6, none⟩ = some (.int .i64 x.changes[j].n) := hcell_b 6 (by decide)
          clear hcell_b
          have i1 : (0 : Int) ≤ (j : Int) := by omega
          have i2 : (j : Int) < (x.changes.length : Int) := by omega
          go_wp2_with fail
          refine (specIsQueuedWrite _ x.changes[j] _ (HR_b.out.below (by repeat (first | with_reducible exact belR | with_reducible apply belA | (with_reducible refine belS ?_ ?_; focus (first | omega | (simp; done) | (simp; omega))) | with_reducible apply belN | with_reducible apply belD | with_reducible assumption)))).mono ?_
          rintro e w2 ⟨rfl, hb2⟩
          have HB2 := Lib.hid (Below.trans (by repeat (first | with_reducible exact belR | with_reducible apply belA | (with_reducible refine belS ?_ ?_; focus (first | omega | (simp; done) | (simp; omega))) | with_reducible apply belN | with_reducible apply belD | with_reducible assumption)) (hb2.mono (by first | omega | (simp; done) | (simp; omega))) : Below wo.heap.size wo w2)
          clear hb2
          cases n : isWriteF x.changes[j]
          · have H1 : Hid (isServerF x = false) := Lib.hid (by rw [he.out, changes_no hlt2 n]; rfl)
            go_wp2
            go_ret
            exact ⟨ret_bool H1.out.symm, below_call HB.out HB.out.size HB2.out⟩
          · have H1 := Lib.hid (write_snoc hlt2 HC.out n)
            go_wp2
            go_light
            exact ⟨⟨j + 1, by omega, by go_num, H1, HX.out.keep HB2.out, below_call HB.out HB.out.size HB2.out⟩, by simp [intOf]; omega⟩
        · have he2 : Hid (isServerF x = serverEnd x) := Lib.hid (by rw [he.out, changes_yes hlt2 HC.out]; rfl)
          clear he HC
          go_wp2_with fail
          refine (specIsStore _ x.store _ (HSt.out.below HB.out)).mono ?_
          rintro e w2 ⟨rfl, hb2⟩
          replace HX := Lib.hid (HX.out.keep hb2)
          replace HB := Lib.hid (HB.out.trans (hb2.mono HB.out.size))
          clear hb2 c_HX z_HX f_HX
          have ⟨c_HX, z_HX, f_HX⟩ := HX.out
          cases m1 : isStoreF x.store
          case' true => cases m2 : isNotes x.store.name
          case' true.true => cases m3 : decide (x.applied.length ≤ 60)
          all_goals
            first | (have n5 : (x.store.name.toList == [110, 111, 116, 101, 115]) = true := m2) | (have n5 : (x.store.name.toList == [110, 111, 116, 101, 115]) = false := m2) | skip
            first | (have m4 := of_decide_eq_true m3) | (have m4 := of_decide_eq_false m3) | skip
            go_wp2
            go_ret
            refine ⟨ret_bool ?_, HB.out⟩
            rw [he2.out, serverEnd]
            first
              | (rw [m1]; (try rfl); done)
              | (rw [m1, m2]; (try rfl); done)
              | (rw [m1, m2, m3, decide_eq_true (show ((x.applied.length : Nat) : Int) ≤ 60 by omega)]; (try rfl); done)
              | (rw [m1, m2, m3, decide_eq_false (show ¬ ((x.applied.length : Nat) : Int) ≤ 60 by omega)]; (try rfl); done)

end Go.Proofs.YtgicglmcapnogaaGreat
