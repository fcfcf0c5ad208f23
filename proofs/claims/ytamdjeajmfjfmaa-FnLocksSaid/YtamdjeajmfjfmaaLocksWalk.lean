/-
  The walk of the law FnLocks.
-/
import Derived.Test.YtamdjeajmfjfmaaLockLaw
import Derived.Test.YtamdjeajmfjfmaaRequestLock
import Derived.Test.YtamdjeajmfjfmaaBase
import Derived.Deep.RegionLaw
import Derived.Deep.RegionHeld
namespace Go.Proofs.Ytamdjeajmfjfmaa
open Go.RowKit

/-- The byte at a place, or what stands for it. -/
def atN (l : List UInt8) (k : Nat) : Int := if h : k < l.length then (l[k].toNat : Int) else (((k * 31 + l.length * 7) % 256 : Nat) : Int)
theorem atN_ge (l : List UInt8) (k : Nat) : 0 ≤ atN l k ∧ atN l k ≤ 255 := by
  unfold atN
  split
  · rename_i h; have := l[k].toNat_lt; omega
  · omega

set_option maxHeartbeats 800000 in
theorem lawBig (v : Value) (l : List UInt8) (w : World) (h : Reads Rep.bytes w [v] l) :
    Calls Try.prog 8 #[v] w fun e w' => e = .returned (.bool (decide (1048576 < l.length))) ∧ w = w' := by
  obtain ⟨fp, h⟩ := h
  obtain ⟨ao, c1, rfl, hm, _, hu⟩ := slice_open h
  clear hu h
  go_enter Try.func8, Try.ntmps8
  go_wp2
  go_ret
  exact ⟨ret_bool (by rw [decide_eq_decide]; omega), rfl⟩

set_option maxHeartbeats 1600000 in
theorem lawAt (v : Value) (l : List UInt8) (n : Int) (k : Nat) (hn : n = (k : Int)) (hk : k ≤ 100) (hl : l.length ≤ 1048576) (w : World) (h : Reads Rep.bytes w [v] l) :
    Calls Try.prog 10 #[v, .int .i64 n] w fun e w' => e = .returned (.int .i64 (atN l k)) ∧ w = w' := by
  subst hn
  have HK : Hid (Reads (Rep.slice 5 Rep.byte) w [v] l) := Lib.hid h
  obtain ⟨fp, h⟩ := h
  obtain ⟨ao, c1, rfl, hm, _, hu⟩ := slice_open h
  clear hu h
  by_cases hlt : k < l.length
  · obtain ⟨b, off, cs_b, rfl, hw_b, hr_b, hcell_b⟩ := slice_at HK.out k hlt
    obtain ⟨fe_b, hrd_b⟩ := hr_b
    obtain ⟨rfl, _, b_s0⟩ := hrd_b
    have b_c0 : w.cell? ⟨b, off + k, none⟩ = some (.int .u8 l[k].toNat) := by have h := hcell_b 0 (by decide); rwa [show off + k * Rep.byte.n + 0 = off + k from by show off + k * 1 + 0 = off + k; omega] at h
    have b_u1 : (l[k].toNat : Int) ≤ 255 := by have := l[k].toNat_lt; omega
    clear hcell_b
    have i1 : (0 : Int) ≤ (k : Int) := by omega
    have i2 : (k : Int) < (l.length : Int) := by omega
    have e := Lib.hid (show atN l k = (l[k].toNat : Int) by unfold atN; rw [dif_pos hlt])
    go_enter Try.func10, Try.ntmps10
    go_wp2
    go_ret
    exact ⟨ret_int (by rw [e.out]), rfl⟩
  · have e := Lib.hid (show atN l k = (((k * 31 + l.length * 7) % 256 : Nat) : Int) by unfold atN; rw [dif_neg hlt])
    go_enter Try.func10, Try.ntmps10
    go_wp2
    go_ret
    exact ⟨ret_int (by rw [e.out]; first | (simp; done) | omega | (simp; omega)), rfl⟩

theorem heldN_take (l : List DLock) (q : Nat) : heldN (l.take q) ≤ l.length := by
  unfold heldN; exact Nat.le_trans List.countP_le_length (List.length_take_le' _ _)
theorem heldN_succ {l : List DLock} {q : Nat} (h : q < l.length) : heldN (l.take (q + 1)) = heldN (l.take q) + (if l[q].held then 1 else 0) := by
  unfold heldN; rw [List.take_succ_eq_append_getElem h, List.countP_append, List.countP_singleton]
theorem sharedN_succ {l : List DLock} {q : Nat} (h : q < l.length) : sharedN (l.take (q + 1)) = (sharedN (l.take q) && (!l[q].held || l[q].shared)) := by
  unfold sharedN; rw [List.take_succ_eq_append_getElem h, List.all_append]; simp

/-- A lock table that lies in a variable. -/
structure Tab (w : World) (k : Nat) (l : List DLock) (a : Option Addr) (c : Nat) : Prop where
  box : WB w k #[.slice a l.length c]
  rd : Fresh DLockTable.rep (k + 1) w [.slice a l.length c] ⟨l⟩

set_option maxRecDepth 100000 in
set_option maxHeartbeats 16000000 in
theorem lawLocks (v : Value) (l0 : List UInt8) (w : World) (h : Reads Rep.bytes w [v] l0) :
    Calls Try.prog 3 #[v] w fun e w' => e = .returned (.bool true) ∧ Below w.heap.size w w' := by
  have HK : Hid (Reads (Rep.slice 5 Rep.byte) w [v] l0) := Lib.hid h
  obtain ⟨fp, h⟩ := h
  obtain ⟨ao, c1, rfl, hm, _, hu⟩ := slice_open h
  clear hu h
  have HK0 := HK
  by_cases hbig : 1048576 < l0.length
  · go_enter Try.func3, Try.ntmps3
    go_wp2_with (go_at_call 8; refine (lawBig _ _ _ HK.out).mono ?_; rintro e w' ⟨rfl, rfl⟩)
    go_ret
    exact ⟨rfl, (by repeat (first | with_reducible exact belR | with_reducible apply belA | (with_reducible refine belS ?_ ?_; focus (first | omega | (simp; done) | (simp; omega))) | with_reducible apply belN | with_reducible apply belD | with_reducible assumption))⟩
  have hl0 : l0.length ≤ 1048576 := by omega
  go_enter Try.func3, Try.ntmps3
  go_wp2_with (go_at_call 8; refine (lawBig _ _ _ HK.out).mono ?_; rintro e w' ⟨rfl, rfl⟩)
  go_loopw [4] (fun i wr => ∃ (k : Nat) (l : List DLock) (a : Option Addr) (c : Nat), k ≤ 8 ∧ i = .int .i64 k ∧ Tab wr w.heap.size l a c ∧ Hid (Inv l k) ∧ Below w.heap.size w wr) (fun i _ => 8 - (intOf i).toNat)
  case atStart => exact ⟨0, [], none, 0, by omega, rfl, ⟨WB.at rfl, DLockTable.fresh (B := w.heap.size + 1) (x := ⟨[]⟩) ((Fresh.nil (B := w.heap.size + 1)).partAt (Nat.le_refl _)) (Nat.le_refl _)⟩, Lib.hid (inv_nil 0), (by repeat (first | with_reducible exact belR | with_reducible apply belA | (with_reducible refine belS ?_ ?_; focus (first | omega | (simp; done) | (simp; omega))) | with_reducible apply belN | with_reducible apply belD | with_reducible assumption))⟩
  case round =>
    obtain ⟨k, l, a, c, hk, rfl, ht, HI, hb⟩ := hrel
    have HT := Lib.hid ht; clear ht
    have HB := Lib.hid hb; clear hb
    by_cases hlt : k < 8
    · have hlen : l.length ≤ 8 := by have := HI.out.len; omega
      obtain ⟨P, hP⟩ : ∃ P : Int, P = 1 + atN l0 k % 3 := ⟨_, rfl⟩
      obtain ⟨SH, hSH⟩ : ∃ b : Bool, b = (atN l0 (k + 8) % 2 == 0) := ⟨_, rfl⟩
      have hr1 := atN_ge l0 k
      have hr2 := atN_ge l0 (k + 8)
      have hPr : 1 ≤ P ∧ P ≤ 3 := by omega
      have m1 : (atN l0 k).tmod 3 = atN l0 k % 3 := Int.tmod_eq_emod_of_nonneg hr1.1
      have m2 : (atN l0 (k + 8)).tmod 2 = atN l0 (k + 8) % 2 := Int.tmod_eq_emod_of_nonneg hr2.1
      have m3 : 1 + atN l0 k % 3 = P := hP.symm
      have m4 : (atN l0 (k + 8) % 2 == 0) = SH := hSH.symm
      clear hP hSH
      have w8 : IntKind.i64.wrap ((k : Int) + 8) = (k : Int) + 8 := Go.IntWalk.i64_in _ (by omega)
      have wP : IntKind.i64.wrap P = P := Go.IntWalk.i64_in _ (by omega)
      obtain ⟨l1, hl1⟩ : ∃ l1, l1 = l ++ [newLock l ⟨#[97]⟩ P SH] := ⟨_, rfl⟩
      have HJ : Hid (Inv l1 (k + 1)) := Lib.hid (by rw [hl1]; exact inv_push HI.out hPr (shared := SH) (x := newLock l ⟨#[97]⟩ P SH) rfl)
      have HQ : Hid (requestLockB ⟨l⟩ ⟨#[97]⟩ P SH = true) := Lib.hid (by
        unfold requestLockB requestOut
        have hj := HJ.out
        rw [hl1] at hj
        rw [inv_table HI.out (by omega), inv_table hj (by omega)]; rfl)
      have HF : Hid (requestLockF ⟨l⟩ ⟨#[97]⟩ P SH = ⟨l1⟩) := Lib.hid (by unfold requestLockF; rw [HQ.out, hl1]; rfl)
      have HL1 := Lib.hid (show l1.length = l.length + 1 by rw [hl1]; simp)
      clear hl1
      go_upto_region 7 with fail
      have hx := HT.out.box
      have ⟨cx, zx, fx⟩ := hx
      have HS : Hid (∀ w', Below wr.heap.size wr w' → (∀ o, w'.cell? ⟨w.heap.size, o, none⟩ = #[.slice a l.length c][o]?) ∧ Below wr.heap.size wr w') := Lib.hid fun w' hw' => ⟨fun o => (hw'.cell (p := ⟨w.heap.size, o, none⟩) zx).trans (cx o), hw'⟩
      replace HK := Lib.hid (HK.out.below HB.out)
      go_cut [5, 6] (fun p q W => ∃ (k5 : Nat) (a1 : Option Addr) (c1 : Nat), p = .pointer (some ⟨k5, 0, none⟩) ∧ q = .bool true ∧ Box W k5 #[.slice a1 l1.length c1] ∧ w.heap.size < k5 ∧ WB W w.heap.size #[.slice a l.length c] ∧ Fresh DLockTable.rep (w.heap.size + 1) W [.slice a1 l1.length c1] ⟨l1⟩ ∧ Below wr.heap.size wr W)
      case first =>
        go_region_held3 (fun w' => (∀ o, w'.cell? ⟨w.heap.size, o, none⟩ = #[.slice a l.length c][o]?) ∧ Below wr.heap.size wr w')
          (first | exact HS.out _ hq2 | (have y := hq2.size; exact HS.out _ (by repeat (first | with_reducible exact belR | (with_reducible refine belAB ?_ ?_; focus (first | omega | (simp; done) | (simp; omega))) | (with_reducible refine belS ?_ ?_; focus (first | omega | (simp; done) | (simp; omega))) | with_reducible apply belN | with_reducible apply belD | with_reducible assumption))) | exact HS.out _ (by repeat (first | with_reducible exact belR | (with_reducible refine belAB ?_ ?_; focus (first | omega | (simp; done) | (simp; omega))) | (with_reducible refine belS ?_ ?_; focus (first | omega | (simp; done) | (simp; omega))) | with_reducible apply belN | with_reducible apply belD | with_reducible assumption)))
          (first
            | (go_at_call 9; have hS1 := ‹_ ∧ Below wr.heap.size wr _›; refine (implRequestLock _ ⟨l⟩ ⟨#[97]⟩ P SH _ (HT.out.rd.reads.below hS1.2) (Nat.le_trans hlen (by decide)) (by decide)).mono ?_; rintro e w2 ⟨ds, rfl, hf2, hb2⟩; have hq2 : Below wr.heap.size wr w2 := below_call hS1.2 hS1.2.size hb2; clear hS1; rw [HF.out] at hf2; obtain ⟨a1, c1, rfl⟩ := DLockTable.fshape hf2; (first | (have hwb : WB w2 wr.heap.size #[.slice none 0 0] := (by (with_reducible refine WB.keep (WB.growD (WB.at ?_)) hb2); first | rfl | simp); have ⟨we, wl, wf⟩ := hwb) | skip))
            | (go_at_call 10; have hS1 := ‹_ ∧ Below wr.heap.size wr _›; refine (lawAt _ l0 _ (k + 8) (by omega) (by omega) hl0 _ (HK.out.below hS1.2)).mono ?_; rintro e w' ⟨rfl, rfl⟩; clear hS1)
            | (go_at_call 10; have hS1 := ‹_ ∧ Below wr.heap.size wr _›; refine (lawAt _ l0 _ k (by omega) (by omega) hl0 _ (HK.out.below hS1.2)).mono ?_; rintro e w' ⟨rfl, rfl⟩; clear hS1))
        all_goals
          have hz2 := hq2.size
          go_wp2_with fail
          go_meet
          have hx2 := hx.keep hq2
          first
            | exact ⟨wr.heap.size, a1, c1, rfl, by rw [HQ.out], (hwb.setAt (i := 0) (by simp) rfl).box, zx, hx2.setOther (by omega), (Fresh.setLow (B := wr.heap.size + 1) (hf2.mono (by simp)) (by omega)).mono (by omega), (by repeat (first | with_reducible exact belR | (with_reducible refine belAB ?_ ?_; focus (first | omega | (simp; done) | (simp; omega))) | (with_reducible refine belS ?_ ?_; focus (first | omega | (simp; done) | (simp; omega))) | with_reducible apply belN | with_reducible apply belD | with_reducible assumption))⟩
            | exact ⟨w2.heap.size, a1, c1, rfl, by rw [HQ.out], (WB.at rfl).box, by omega, hx2.growA, (hf2.mono (by (first | omega | (simp; omega)))).below (belA belR), (by repeat (first | with_reducible exact belR | (with_reducible refine belAB ?_ ?_; focus (first | omega | (simp; done) | (simp; omega))) | (with_reducible refine belS ?_ ?_; focus (first | omega | (simp; done) | (simp; omega))) | with_reducible apply belN | with_reducible apply belD | with_reducible assumption))⟩
      case rest =>
        clear hx cx zx fx HS HT m1 m2 m3 m4 w8 wP hr1 hr2
        obtain ⟨k5, a1, c1', rfl, rfl, hbx, hk5, hx1, hr1', hbb⟩ := hcut
        have HB1 : Hid (Below w.heap.size w wc) := Lib.hid (HB.out.trans (hbb.mono HB.out.size))
        have ⟨cx5, zx5⟩ := hbx
        have HX := Lib.hid hx1
        have HR1 := Lib.hid hr1'
        replace HK := Lib.hid (HK.out.below hbb)
        clear hbx hx1 hr1' hbb HB
        have ⟨c_HX, z_HX, f_HX⟩ := HX.out
        go_upto_region 11 with fail
        refine settle (fun W => Tab W w.heap.size l1 a1 c1' ∧ Below w.heap.size w W) ⟨⟨HX.out.setAt (i := 0) (by simp) rfl, Fresh.setLow HR1.out (by omega)⟩, (by have y := HB1.out; exact (by repeat (first | with_reducible exact belR | with_reducible apply belA | (with_reducible refine belS ?_ ?_; focus (first | omega | (simp; done) | (simp; omega))) | with_reducible apply belN | with_reducible apply belD | with_reducible assumption)))⟩ ?_
        rintro w3 ⟨ht3, hb3⟩
        clear HX HR1 HB1 cx5 zx5 hk5 HK HQ HF
        have HK3 := Lib.hid (HK0.out.below hb3)
        obtain ⟨P2, hP2⟩ : ∃ P : Int, P = 1 + atN l0 (k + 1) % 3 := ⟨_, rfl⟩
        have hr3 := atN_ge l0 (k + 1)
        have hr4 := atN_ge l0 (k + 16)
        have m1 : (atN l0 (k + 1)).tmod 3 = atN l0 (k + 1) % 3 := Int.tmod_eq_emod_of_nonneg hr3.1
        have m2 : (atN l0 (k + 16)).tmod 4 = atN l0 (k + 16) % 4 := Int.tmod_eq_emod_of_nonneg hr4.1
        have m3 : 1 + atN l0 (k + 1) % 3 = P2 := hP2.symm
        have hPr2 : 1 ≤ P2 ∧ P2 ≤ 3 := by omega
        clear hP2
        have w1 : IntKind.i64.wrap ((k : Int) + 1) = (k : Int) + 1 := Go.IntWalk.i64_in _ (by omega)
        have w16 : IntKind.i64.wrap ((k : Int) + 16) = (k : Int) + 16 := Go.IntWalk.i64_in _ (by omega)
        have wP : IntKind.i64.wrap P2 = P2 := Go.IntWalk.i64_in _ (by omega)
        cases n1 : (atN l0 (k + 16) % 4 == 0)
        case' false =>
          go_upto_region 13 with (go_at_call 10; refine (lawAt _ l0 _ (k + 16) (by omega) (by omega) hl0 _ HK3.out).mono ?_; rintro e w' ⟨rfl, rfl⟩)
          refine settle (fun W => ∃ (l2 : List DLock) (a2 : Option Addr) (c2 : Nat), Tab W w.heap.size l2 a2 c2 ∧ Hid (Inv l2 (k + 1)) ∧ Below w.heap.size w W) ⟨l1, a1, c1', ht3, HJ, hb3⟩ ?_
        case' true =>
          go_upto_region 12 with (go_at_call 10; refine (lawAt _ l0 _ (k + 16) (by omega) (by omega) hl0 _ HK3.out).mono ?_; rintro e w' ⟨rfl, rfl⟩)
          have ⟨c3, z3, f3⟩ := ht3.box
          go_region_with ((first
            | (go_at_call 11; refine (implReleaseLocks _ ⟨l1⟩ P2 _ (ht3.rd.reads.below (belD belR)) (by have := HL1.out; show l1.length ≤ 1048600; omega)).mono ?_; rintro e w5 ⟨ds, rfl, hf5, hb5⟩; have hx5 := ht3.box.growD.keep hb5; have ⟨c5, z5, f5⟩ := hx5; obtain ⟨a2, c2, rfl⟩ := DLockTable.fshape hf5)
            | (go_at_call 10; refine (lawAt _ l0 _ (k + 1) (by omega) (by omega) hl0 _ (HK3.out.below (belD belR))).mono ?_; rintro e w' ⟨rfl, rfl⟩)))
          all_goals
            go_upto_region 13 with fail
            refine settle (fun W => ∃ (l2 : List DLock) (a2 : Option Addr) (c2 : Nat), Tab W w.heap.size l2 a2 c2 ∧ Hid (Inv l2 (k + 1)) ∧ Below w.heap.size w W) ⟨grantL (keptLocks l1 P2), a2, c2, ⟨hx5.setAt (i := 0) (by simp) rfl, Fresh.setLow (hf5.mono (B' := w.heap.size + 1) z3) (by omega)⟩, Lib.hid (inv_release HJ.out P2), (by have y : Below w.heap.size w w5 := hb3.trans (((belD belR : Below w3.heap.size w3 w3.drew).trans hb5).mono hb3.size); exact (by repeat (first | with_reducible exact belR | with_reducible apply belA | (with_reducible refine belS ?_ ?_; focus (first | omega | (simp; done) | (simp; omega))) | with_reducible apply belN | with_reducible apply belD | with_reducible assumption)))⟩ ?_
            clear hx5 c5 z5 f5 hf5 hb5 c3 z3 f3
        all_goals
          rintro w4 ⟨l2, a2, c2, ht4, HI4, hb4⟩
          clear ht3 HJ hb3 HL1 HK3 m1 m2 m3 hr3 hr4 w1 w16 wP hPr2 HI
          have hI := HI4.out
          have hl2 : l2.length ≤ 9 := by have := hI.len; omega
          have hC := inv_table hI (by omega)
          have HRow : Hid (Reads (Rep.slice 33 DLock.rep) w4 [.slice a2 l2.length c2] l2) := by
            obtain ⟨f, r⟩ := ht4.rd.reads
            obtain ⟨v1, f1, he, _, r1⟩ := DLockTable.rd.1 r
            simp only [List.cons.injEq, and_true] at he
            subst he
            exact ⟨_, r1⟩
          go_cut [67] from 51 to 67 (fun v W => v = .bool false ∧ Below w4.heap.size w4 W)
          case first =>
            have ⟨c4, z4, f4⟩ := ht4.box
            by_cases hpos : 0 < l2.length
            · have hheld := hI.first hpos
              obtain ⟨b, off, cs_b, rfl, hw_b, hr_b, hcell_b⟩ := slice_at HRow.out 0 hpos
              obtain ⟨fe_b, hrd_b⟩ := hr_b
              have HR_b : Hid (Reads DLock.rep w4 cs_b l2[0]) := ⟨_, hrd_b⟩
              obtain ⟨rfl, _, b_s0⟩ := DLock.rd.1 hrd_b
              clear hrd_b
              have b_c0 : w4.cell? ⟨b, off + 0 * 4, none⟩ = some (.string l2[0].name) := hcell_b 0 (by decide)
              have b_c1 : w4.cell? ⟨b, off + 0 * 4 + 1, none⟩ = some (.int .i64 l2[0].page) := hcell_b 1 (by decide)
              have b_c2 : w4.cell? ⟨b, off + 0 * 4 + 2, none⟩ = some (.bool l2[0].shared) := hcell_b 2 (by decide)
              have b_c3 : w4.cell? ⟨b, off + 0 * 4 + 3, none⟩ = some (.bool l2[0].held) := hcell_b 3 (by decide)
              clear hcell_b
              rw [hheld] at b_c3
              have e3 : w4.cell? ⟨b, off + 3, none⟩ = some (.bool true) := by simpa using b_c3
              clear b_c0 b_c1 b_c2 b_c3
              go_wp2_with (go_at_call 12; refine (implIsLockTable _ ⟨l2⟩ _ ht4.rd.reads).mono ?_; rintro e w5 ⟨rfl, hb5⟩; have hx5 := ht4.box.keep hb5; have ⟨c5, z5, f5⟩ := hx5; have e5 := (hb5.cell (p := ⟨b, off + 3, none⟩) hw_b).trans e3)
              go_meet
              exact ⟨rfl, hb5⟩
            · have hz : l2 = [] := List.eq_nil_of_length_eq_zero (by omega)
              subst hz
              have hr0 : Reads DLockTable.rep w4 [.slice a2 0 c2] ⟨[]⟩ := ht4.rd.reads
              go_wp2_with (go_at_call 12; refine (implIsLockTable _ ⟨[]⟩ _ hr0).mono ?_; rintro e w5 ⟨rfl, hb5⟩; have hx5 := ht4.box.keep hb5; have ⟨c5, z5, f5⟩ := hx5)
              go_meet
              exact ⟨rfl, hb5⟩
          case rest =>
            obtain ⟨rfl, hb5⟩ := hcut
            have HT5 : Hid (Tab wc w.heap.size l2 a2 c2) := Lib.hid ⟨ht4.box.keep hb5, ht4.rd.below hb5⟩
            have HB5 : Hid (Below w.heap.size w wc) := Lib.hid (hb4.trans (hb5.mono hb4.size))
            have HR5 : Hid (Reads (Rep.slice 33 DLock.rep) wc [.slice a2 l2.length c2] l2) := Lib.hid (HRow.out.below hb5)
            obtain ⟨w6, hw6⟩ : ∃ w6 : World, w6 = wc := ⟨_, rfl⟩
            subst hw6
            clear ht4 hb4 hb5 HRow
            have ⟨c6, z6, f6⟩ := HT5.out.box
            go_wp2
            go_loopw [7, 8, 9] (fun s h i wr => ∃ q : Nat, q ≤ l2.length ∧ i = .int .i64 q ∧ h = .int .i64 (heldN (l2.take q) : Nat) ∧ s = .bool (sharedN (l2.take q)) ∧ wr = w6) (fun _ _ i _ => l2.length - (intOf i).toNat)
            case atStart => exact ⟨0, by omega, rfl, rfl, rfl, rfl⟩
            case round =>
              obtain ⟨q, hq, rfl, rfl, rfl, hwr⟩ := hrel
              subst hwr
              by_cases hlt2 : q < l2.length
              · obtain ⟨b, off, cs_b, rfl, hw_b, hr_b, hcell_b⟩ := slice_at HR5.out q hlt2
                obtain ⟨fe_b, hrd_b⟩ := hr_b
                have HR_b : Hid (Reads DLock.rep wr cs_b l2[q]) := ⟨_, hrd_b⟩
                obtain ⟨rfl, _, b_s0⟩ := DLock.rd.1 hrd_b
                clear hrd_b
                have b_c0 : wr.cell? ⟨b, off + q * 4, none⟩ = some (.string l2[q].name) := hcell_b 0 (by decide)
                have b_c1 : wr.cell? ⟨b, off + q * 4 + 1, none⟩ = some (.int .i64 l2[q].page) := hcell_b 1 (by decide)
                have b_c2 : wr.cell? ⟨b, off + q * 4 + 2, none⟩ = some (.bool l2[q].shared) := hcell_b 2 (by decide)
                have b_c3 : wr.cell? ⟨b, off + q * 4 + 3, none⟩ = some (.bool l2[q].held) := hcell_b 3 (by decide)
                clear hcell_b
                have j1 : (0 : Int) ≤ (q : Int) := by omega
                have j3 : (q : Int) < (l2.length : Int) := by omega
                have hh := heldN_take l2 q
                have E1 := Lib.hid (heldN_succ hlt2)
                have E2 := Lib.hid (sharedN_succ hlt2)
                cases nh : l2[q].held
                case' true => cases hs : sharedN (l2.take q)
                case' true.true => cases ns : l2[q].shared
                all_goals
                  go_wp2
                  go_light
                  refine ⟨⟨q + 1, by omega, by go_num, ?_, ?_, by trivial⟩, by simp [intOf]; omega⟩
                  · rw [E1.out, nh]
                    first | rfl | go_num
                  · rw [E2.out, nh]
                    first | (rw [hs, ns]; rfl) | (rw [hs]; rfl) | simp
              · have hqe : l2.take q = l2 := List.take_of_length_le (by omega)
                rw [hqe]
                have hhl : heldN l2 ≤ l2.length := List.countP_le_length
                have hwt := inv_waiting hI
                have hshr := fun h1 => inv_shared hI h1
                have HW8 := Lib.hid HT5.out
                obtain ⟨n, hn⟩ : ∃ n : Nat, n = (waitingOfF ⟨l2⟩ ⟨#[97]⟩).length := ⟨_, rfl⟩
                have HWc : Hid (∀ W, Below wr.heap.size wr W → Calls Try.prog 13 #[.agg #[.slice a2 l2.length c2], .string ⟨#[97]⟩] W fun e w' => ∃ a7 k7, e = .returned (.slice a7 n k7) ∧ Below W.heap.size W w') := Lib.hid fun W hW => (implWaitingOf _ ⟨l2⟩ ⟨#[97]⟩ W (HW8.out.rd.reads.below hW) (by show l2.length ≤ 1048576; omega)).mono (by rintro e w7 ⟨v7, rfl, hf7, hb7⟩; obtain ⟨a7, k7, rfl⟩ := hf7.slice; exact ⟨a7, k7, by rw [hn], hb7⟩)
                rw [← hn] at hwt
                clear hn
                generalize heldN l2 = hN at *
                generalize sharedN l2 = sN at *
                go_upto_region 23 with fail
                go_cut [108] from 92 to 108 (fun v W => v = .bool false ∧ Below wr.heap.size wr W)
                case first =>
                  have hsub : IntKind.i64.wrap ((l2.length : Int) - (hN : Int)) = (l2.length : Int) - (hN : Int) := Go.IntWalk.i64_in _ (by omega)
                  have hne : ((n : Int) != (l2.length : Int) - (hN : Int)) = false := by
                    have e : (n : Int) = (l2.length : Int) - (hN : Int) := by omega
                    rw [e]; simp
                  have HS9 : Hid (∀ W', Below wr.heap.size wr W' → (∀ o, W'.cell? ⟨w.heap.size, o, none⟩ = #[.slice a2 l2.length c2][o]?) ∧ Below wr.heap.size wr W') := Lib.hid fun W' hW' => ⟨fun o => (hW'.cell (p := ⟨w.heap.size, o, none⟩) z6).trans (c6 o), hW'⟩
                  by_cases h1 : 1 < hN
                  · have hsh := hshr h1
                    subst hsh
                    have h1' : (1 : Int) < (hN : Int) := by omega
                    clear hshr
                    go_region_held3 (fun W' => (∀ o, W'.cell? ⟨w.heap.size, o, none⟩ = #[.slice a2 l2.length c2][o]?) ∧ Below wr.heap.size wr W')
                      (first | exact HS9.out _ hb8 | exact HS9.out _ (by repeat (first | with_reducible exact belR | (with_reducible refine belAB ?_ ?_; focus (first | omega | (simp; done) | (simp; omega))) | (with_reducible refine belS ?_ ?_; focus (first | omega | (simp; done) | (simp; omega))) | with_reducible apply belN | with_reducible apply belD | with_reducible assumption)))
                      (first | (go_at_call 13; refine (HWc.out _ (belD belR)).mono ?_; rintro e w7 ⟨a7, k7, rfl, hb7⟩; have hb8 : Below wr.heap.size wr w7 := (belD belR).trans hb7))
                    all_goals
                      go_wp2_with fail
                      go_meet
                      exact ⟨rfl, hb8⟩
                  · have h1' : ¬ (1 : Int) < (hN : Int) := by omega
                    clear hshr
                    first
                      | (go_region_held (fun W' => (∀ o, W'.cell? ⟨w.heap.size, o, none⟩ = #[.slice a2 l2.length c2][o]?) ∧ Below wr.heap.size wr W')
                          (first | exact HS9.out _ hb8 | exact HS9.out _ (by repeat (first | with_reducible exact belR | (with_reducible refine belAB ?_ ?_; focus (first | omega | (simp; done) | (simp; omega))) | (with_reducible refine belS ?_ ?_; focus (first | omega | (simp; done) | (simp; omega))) | with_reducible apply belN | with_reducible apply belD | with_reducible assumption)))
                          (first | (go_at_call 13; refine (HWc.out _ (belD belR)).mono ?_; rintro e w7 ⟨a7, k7, rfl, hb7⟩; have hb8 : Below wr.heap.size wr w7 := (belD belR).trans hb7)))
                      | fail
                    all_goals
                      go_wp2_with fail
                      go_meet
                      exact ⟨rfl, hb8⟩
                case rest =>
                  obtain ⟨rfl, hb9⟩ := hcut
                  have HT9 : Hid (Tab wc w.heap.size l2 a2 c2) := Lib.hid ⟨HW8.out.box.keep hb9, HW8.out.rd.below hb9⟩
                  have HB9 : Hid (Below w.heap.size w wc) := Lib.hid (HB5.out.trans (hb9.mono HB5.out.size))
                  go_wp2
                  go_light
                  exact ⟨⟨k + 1, l2, a2, c2, by omega, by go_num, HT9.out, HI4, HB9.out⟩, by simp [intOf]; omega⟩
    · have hk8 : k = 8 := by omega
      replace HI : Hid (Inv l 8) := hk8 ▸ HI
      have HK8 := Lib.hid hk8
      clear hk8
      go_wp2
      go_loopw [10] (fun i wr => ∃ (p : Nat) (l : List DLock) (a : Option Addr) (c : Nat), 1 ≤ p ∧ p ≤ 4 ∧ i = .int .i64 p ∧ Tab wr w.heap.size l a c ∧ Hid (Inv l 8) ∧ Hid (∀ x ∈ l, (p : Int) ≤ x.page) ∧ Below w.heap.size w wr) (fun i _ => 4 - (intOf i).toNat)
      case atStart => exact ⟨1, l, a, c, by omega, by omega, rfl, HT.out, HI, Lib.hid (fun x hx => (HI.out.pages x hx).1), HB.out⟩
      case round =>
        clear HI HT HB HK8
        obtain ⟨p, l, a, c, hp1, hp4, rfl, ht, HI, HG, hb⟩ := hrel
        have HT := Lib.hid ht; clear ht
        have HB := Lib.hid hb; clear hb
        have hlen : l.length ≤ 8 := HI.out.len
        by_cases hp : p ≤ 3
        · have hnone : holdsLockF ⟨grantL (keptLocks l p)⟩ ⟨#[97]⟩ p = false := inv_none (fun x hx => (release_gone p x hx).1) _
          have HG2 : Hid (∀ x ∈ grantL (keptLocks l p), ((p + 1 : Nat) : Int) ≤ x.page) := Lib.hid (by
            intro x hx
            obtain ⟨h1, z, hz, h2⟩ := release_gone p x hx
            have h3 := HG.out z hz
            rw [← h2] at h3
            omega)
          have HI2 := Lib.hid (inv_release HI.out p)
          have ⟨c3, z3, f3⟩ := HT.out.box
          go_wp2_with (first
            | (go_at_call 11; refine (implReleaseLocks _ ⟨l⟩ _ _ HT.out.rd.reads (by show l.length ≤ 1048600; omega)).mono ?_; rintro e w5 ⟨ds, rfl, hf5, hb5⟩; have hx5 := HT.out.box.keep hb5; have ⟨c5, z5, f5⟩ := hx5; obtain ⟨a2, c2, rfl⟩ := DLockTable.fshape hf5; have hb6 : Below w.heap.size w w5 := HB.out.trans (hb5.mono HB.out.size))
            | (go_at_call 14; refine (implHoldsLock _ ⟨grantL (keptLocks l p)⟩ ⟨#[97]⟩ _ _ (Fresh.setLow hf5 z3).reads).mono ?_; rintro e w7 ⟨rfl, hb7⟩))
          go_light
          have hx6 : WB (w5.setCell ⟨w.heap.size, 0, none⟩ (.slice a2 (grantL (keptLocks l p)).length c2)) w.heap.size #[.slice a2 (grantL (keptLocks l p)).length c2] := hx5.setAt (i := 0) (by simp) rfl
          have hb8 : Below w.heap.size w (w5.setCell ⟨w.heap.size, 0, none⟩ (.slice a2 (grantL (keptLocks l p)).length c2)) := by have y := hb6; exact (by repeat (first | with_reducible exact belR | with_reducible apply belA | (with_reducible refine belS ?_ ?_; focus (first | omega | (simp; done) | (simp; omega))) | with_reducible apply belN | with_reducible apply belD | with_reducible assumption))
          exact ⟨⟨p + 1, grantL (keptLocks l p), a2, c2, by omega, by omega, by go_num, ⟨hx6.keep hb7, (Fresh.setLow (hf5.mono (B' := w.heap.size + 1) z3) (by omega)).below hb7⟩, HI2, HG2, hb8.trans (hb7.mono hb8.size)⟩, by simp [intOf]; omega⟩
        · have hnil : l = [] := by
            cases l with
            | nil => rfl
            | cons x l =>
              have h1 := HG.out x (by simp)
              have h2 := (HI.out.pages x (by simp)).2
              omega
          subst hnil
          have hr0 : Reads DLockTable.rep wr [.slice a 0 c] ⟨[]⟩ := HT.out.rd.reads
          have ⟨c3, z3, f3⟩ := HT.out.box
          have hfd : ∀ (wx : World) (ax : Option Addr) (cx : Nat), (Instr.field 26 (.agg #[.slice ax 0 cx]) 0).run Try.prog wx = .ok (.slice ax 0 cx) wx := fun _ _ _ => by kernel_rfl
          have hg0 : (grantLocksF ⟨[]⟩).locks.length = 0 := by show (grantL []).length = 0; rw [grantL_len]; rfl
          go_wp2_with (go_at_call 15; refine (implGrantLocks _ ⟨[]⟩ _ hr0 (by decide)).mono ?_; rintro e w5 ⟨ds, rfl, hf5, hb5⟩; obtain ⟨a2, c2, rfl⟩ := DLockTable.fshape hf5)
          go_ret
          exact ⟨rfl, HB.out.trans (hb5.mono HB.out.size)⟩

end Go.Proofs.Ytamdjeajmfjfmaa
