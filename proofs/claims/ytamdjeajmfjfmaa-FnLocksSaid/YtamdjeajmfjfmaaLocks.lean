/-
  Locks: copies, whether a request may be granted, GrantLocks.
-/
import Derived.Test.YtamdjeajmfjfmaaFuncsLock
import Derived.Test.YtamdjeajmfjfmaaLLockTable
import Derived.Deep.RegionLaw
namespace Go.Proofs.Ytamdjeajmfjfmaa
open Go.RowKit

/-- y bars a request x behind it. -/
def bars (x y : DLock) : Bool := (y.name.toList == x.name.toList) && (!y.held || (!y.shared || !x.shared))
def mayF (l : List DLock) (x : DLock) : Bool := !l.any (bars x)
theorem mayF_no {l : List DLock} {x : DLock} {n k : Nat} (hk : k < l.length) (hkn : k < n) (h : bars x l[k] = true) : mayF (l.take n) x = false := by
  have : (l.take n).any (bars x) = true := List.any_eq_true.2 ⟨l[k], by rw [List.mem_take_iff_getElem]; exact ⟨k, by omega, rfl⟩, h⟩
  rw [mayF, this]; rfl
theorem mayF_yes {l : List DLock} {x : DLock} {n k : Nat} (hall : ∀ j, (hj : j < l.length) → j < k → bars x l[j] = false) (hkn : n ≤ k) : mayF (l.take n) x = true := by
  have : (l.take n).any (bars x) = false := List.any_eq_false.2 fun y hy => by
    rw [List.mem_take_iff_getElem] at hy
    obtain ⟨j, hj, rfl⟩ := hy
    rw [hall j (by omega) (by omega)]; simp
  rw [mayF, this]; rfl

set_option maxRecDepth 100000 in
set_option maxHeartbeats 800000 in
theorem implCopyLocks (cs : List Value) (x : DLockTable) (w : World) (h : Reads DLockTable.rep w cs x) (hs : x.locks.length ≤ 1048600) :
    Calls Try.prog 53 #[.agg cs.toArray] w fun e w' => ∃ ds, e = .returned (.agg ds.toArray) ∧ Fresh DLockTable.rep w.heap.size w' ds x ∧ Below w.heap.size w w' := by
  obtain ⟨fp_q, h⟩ := h
  obtain ⟨q_v1, q_f1, rfl, _, q_r1⟩ := DLockTable.rd.1 h
  obtain ⟨q_a1, q_c1, rfl, q_hm1, q_lc1, q_hu1⟩ := slice_open q_r1; clear q_hu1
  have q_K1 : Hid (Reads (Rep.slice 33 DLock.rep) w [.slice q_a1 x.locks.length q_c1] x.locks) := ⟨_, q_r1⟩
  clear q_r1 h
  obtain ⟨i0, hi, hz0, hz1, hz2⟩ := info_parts infoLock
  go_enter Try.func53, Try.ntmps53
  go_wp2_with (at_builtin; refine wpList_grow _ rfl _ _ 24 24 rfl DLock.flat (w.heap.size + 2) 33 i0 _ _ Try.underlying24 hi hz0 hz1 hz2 rfl _ [] rfl (lit_fresh DLock.flat (w := _) (xs := #[]) (us := []) rfl rfl (by decide) (by simp) (by simp)) _ x.locks rfl (DLock.flat.src Try.underlying24 (q_K1.out.below (by repeat (first | with_reducible exact belR | with_reducible apply belA | (with_reducible refine belS ?_ ?_; focus (first | omega | (simp; done) | (simp; omega))) | with_reducible apply belN | with_reducible apply belD | with_reducible assumption)))) ?c1a ?c2a ?c3a ?c4a ?_)
  case c1a => exact (DLock.flat.row q_K1.out).2
  case c2a => (try simp only [List.length_nil, Nat.zero_add]); omega
  case c3a => (try simp only [List.length_nil, Nat.zero_add]); unfold maxLen; omega
  try (case c4a => simp; try omega)
  intro ao1 cap1 w1 hf1 hb1
  have HF1 := Lib.hid hf1
  have HB1 := Lib.hid (Below.trans (by repeat (first | with_reducible exact belR | (with_reducible refine belAB ?_ ?_; focus (first | omega | (simp; done) | (simp; omega))) | (with_reducible refine belS ?_ ?_; focus (first | omega | (simp; done) | (simp; omega))) | with_reducible apply belN | with_reducible apply belD | with_reducible assumption)) (hb1.mono (by omega)) : Below w.heap.size w w1)
  have ⟨cr, zr, fr⟩ : WB w1 (w.heap.size + 1) #[.slice none 0 0] := ((WB.at (by simp)).growA).grow hb1 (by omega)
  clear hf1 hb1
  go_wp2
  refine bodyPost_ret (v := .agg #[.slice ao1 x.locks.length cap1]) (by simp [results, Try.results53, go_sem, cr]) rfl ⟨_, rfl, ?_, ?_⟩
  · show Fresh (Rep.slice 33 DLock.rep) _ _ _ x.locks
    exact (HF1.out.setLow (by omega)).mono (by omega)
  · have y := HB1.out
    exact (by repeat (first | with_reducible exact belR | (with_reducible refine belAB ?_ ?_; focus (first | omega | (simp; done) | (simp; omega))) | (with_reducible refine belS ?_ ?_; focus (first | omega | (simp; done) | (simp; omega))) | with_reducible apply belN | with_reducible apply belD | with_reducible assumption))

set_option maxRecDepth 100000 in
set_option maxHeartbeats 1600000 in
theorem implGranted (cs : List Value) (x : DLockTable) (n : Nat) (w : World) (h : Reads DLockTable.rep w cs x) (hn : n < x.locks.length) :
    Calls Try.prog 54 #[.agg cs.toArray, .int .i64 n] w fun e w' => e = .returned (.bool (mayF (x.locks.take n) x.locks[n])) ∧ Below w.heap.size w w' := by
  obtain ⟨fp_q, h⟩ := h
  obtain ⟨q_v1, q_f1, rfl, _, q_r1⟩ := DLockTable.rd.1 h
  obtain ⟨q_a1, q_c1, rfl, q_hm1, q_lc1, q_hu1⟩ := slice_open q_r1; clear q_hu1
  have q_K1 : Hid (Reads (Rep.slice 33 DLock.rep) w [.slice q_a1 x.locks.length q_c1] x.locks) := ⟨_, q_r1⟩
  clear q_r1 h
  have j1 : (0 : Int) ≤ (n : Int) := by omega
  have j2 : (n : Int) ≤ (q_c1 : Int) := by omega
  have j3 : (n : Int) < (x.locks.length : Int) := by omega
  go_enter Try.func54, Try.ntmps54
  go_wp2
  go_loopw [12] (fun i wr => ∃ k : Nat, k ≤ n ∧ i = .int .i64 k ∧ Hid (∀ j, (hj : j < x.locks.length) → j < k → bars x.locks[n] x.locks[j] = false) ∧ WB wr w.heap.size #[.slice q_a1 x.locks.length q_c1] ∧ Below w.heap.size w wr) (fun i _ => n - (intOf i).toNat)
  case atStart => exact ⟨0, by omega, rfl, Lib.hid (by intro j hj h; omega), WB.at rfl, (by repeat (first | with_reducible exact belR | with_reducible apply belA | (with_reducible refine belS ?_ ?_; focus (first | omega | (simp; done) | (simp; omega))) | with_reducible apply belN | with_reducible apply belD | with_reducible assumption))⟩
  case round =>
    obtain ⟨k, hk, rfl, HA, hx, hb⟩ := hrel
    have HB := Lib.hid hb; clear hb
    have HX := Lib.hid hx
    have ⟨cx, zx, fx⟩ := hx
    clear hx
    by_cases hkn : k < n
    · have hlt : k < x.locks.length := by omega
      obtain ⟨b, off, cs_b, rfl, hw_b, hr_b, hcell_b⟩ := slice_at (q_K1.out.below HB.out) k hlt
      obtain ⟨fe_b, hrd_b⟩ := hr_b
      have HR_b : Hid (Reads DLock.rep wr cs_b x.locks[k]) := ⟨_, hrd_b⟩
      obtain ⟨rfl, _, b_s0⟩ := DLock.rd.1 hrd_b
      clear hrd_b
      have b_c0 : wr.cell? ⟨b, off + k * 4, none⟩ = some (.string x.locks[k].name) := hcell_b 0 (by decide)
      have b_c1 : wr.cell? ⟨b, off + k * 4 + 1, none⟩ = some (.int .i64 x.locks[k].page) := hcell_b 1 (by decide)
      have b_c2 : wr.cell? ⟨b, off + k * 4 + 2, none⟩ = some (.bool x.locks[k].shared) := hcell_b 2 (by decide)
      have b_c3 : wr.cell? ⟨b, off + k * 4 + 3, none⟩ = some (.bool x.locks[k].held) := hcell_b 3 (by decide)
      clear hcell_b
      have HN := slice_at (q_K1.out.below HB.out) n hn
      obtain ⟨b2, off2, cs2, hbb, _, hr2, hcell2⟩ := HN
      simp only [Option.some.injEq, Addr.mk.injEq, and_true] at hbb
      obtain ⟨rfl, rfl⟩ := hbb
      obtain ⟨_, hr2⟩ := hr2
      obtain ⟨rfl, _, _⟩ := DLock.rd.1 hr2
      have n_c0 : wr.cell? ⟨b, off + n * 4, none⟩ = some (.string x.locks[n].name) := hcell2 0 (by decide)
      have n_c2 : wr.cell? ⟨b, off + n * 4 + 2, none⟩ = some (.bool x.locks[n].shared) := hcell2 2 (by decide)
      clear hcell2 hr2
      have i1 : (0 : Int) ≤ (k : Int) := by omega
      have i2 : (k : Int) < (x.locks.length : Int) := by omega
      cases g1 : (x.locks[k].name.toList == x.locks[n].name.toList)
      · have he := Lib.hid (show bars x.locks[n] x.locks[k] = false by simp only [bars, g1, Bool.false_and])
        go_wp2
        go_quiet (fail)
        go_wp2
        go_light
        have y := HB.out
        exact ⟨⟨k + 1, by omega, by go_num, Lib.hid (none_snoc hlt HA.out he.out), HX.out.growA.keep (belN belR), (by repeat (first | with_reducible exact belR | with_reducible apply belA | (with_reducible refine belS ?_ ?_; focus (first | omega | (simp; done) | (simp; omega))) | with_reducible apply belN | with_reducible apply belD | with_reducible assumption))⟩, by simp [intOf]; omega⟩
      · cases g2 : x.locks[k].held
        · have he := Lib.hid (show bars x.locks[n] x.locks[k] = true by simp only [bars, g1, g2, Bool.not_false, Bool.true_or, Bool.and_self])
          go_wp2
          go_quiet (fail)
          go_wp2
          go_ret
          have y := HB.out
          exact ⟨ret_bool (mayF_no hlt hkn he.out).symm, (by repeat (first | with_reducible exact belR | with_reducible apply belA | (with_reducible refine belS ?_ ?_; focus (first | omega | (simp; done) | (simp; omega))) | with_reducible apply belN | with_reducible apply belD | with_reducible assumption))⟩
        · cases g3 : x.locks[k].shared
          · have he := Lib.hid (show bars x.locks[n] x.locks[k] = true by simp only [bars, g1, g2, g3, Bool.not_false, Bool.not_true, Bool.true_or, Bool.false_or, Bool.and_self])
            go_wp2
            go_quiet (fail)
            go_wp2
            go_ret
            have y := HB.out
            exact ⟨ret_bool (mayF_no hlt hkn he.out).symm, (by repeat (first | with_reducible exact belR | with_reducible apply belA | (with_reducible refine belS ?_ ?_; focus (first | omega | (simp; done) | (simp; omega))) | with_reducible apply belN | with_reducible apply belD | with_reducible assumption))⟩
          · cases g4 : x.locks[n].shared
            · have he := Lib.hid (show bars x.locks[n] x.locks[k] = true by simp only [bars, g1, g2, g3, g4, Bool.not_true, Bool.not_false, Bool.or_true, Bool.and_self])
              go_wp2
              go_quiet (fail)
              go_wp2
              go_ret
              have y := HB.out
              exact ⟨ret_bool (mayF_no hlt hkn he.out).symm, (by repeat (first | with_reducible exact belR | with_reducible apply belA | (with_reducible refine belS ?_ ?_; focus (first | omega | (simp; done) | (simp; omega))) | with_reducible apply belN | with_reducible apply belD | with_reducible assumption))⟩
            · have he := Lib.hid (show bars x.locks[n] x.locks[k] = false by simp only [bars, g1, g2, g3, g4, Bool.not_true, Bool.or_self, Bool.and_false])
              go_wp2
              go_quiet (fail)
              go_wp2
              go_light
              have y := HB.out
              exact ⟨⟨k + 1, by omega, by go_num, Lib.hid (none_snoc hlt HA.out he.out), HX.out.growA.keep (belN belR), (by repeat (first | with_reducible exact belR | with_reducible apply belA | (with_reducible refine belS ?_ ?_; focus (first | omega | (simp; done) | (simp; omega))) | with_reducible apply belN | with_reducible apply belD | with_reducible assumption))⟩, by simp [intOf]; omega⟩
    · have e := Lib.hid (mayF_yes (l := x.locks) (x := x.locks[n]) HA.out (show n ≤ k by omega))
      go_wp2
      go_ret
      exact ⟨ret_bool e.out.symm, HB.out⟩

end Go.Proofs.Ytamdjeajmfjfmaa
