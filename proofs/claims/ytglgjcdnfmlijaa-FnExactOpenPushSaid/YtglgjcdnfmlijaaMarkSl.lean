/-
  The marks of slices of ints, bytes, strings.
-/
import Derived.Test.YtglgjcdnfmlijaaMarks
import Derived.Test.YtglgjcdnfmlijaaSlices
namespace Go.Proofs.Ytglgjcdnfmlijaa
open Go.RowKit

def cnt1 {α : Type} (_ : α) : Nat := 1

theorem byte_mark (q : Nat) : ((UInt8.ofNat q).toNat : Int) = (q : Int) % 256 := by simp

def mkInt (k : Nat) (_ : Int) : Int := (k : Int)

def mkByte (k : Nat) (_ : UInt8) : UInt8 := UInt8.ofNat k

set_option maxRecDepth 100000 in
set_option maxHeartbeats 800000 in
theorem markByteS (v : Value) (l : List UInt8) (fp : List Nat) (k : Nat) (w : World) (h : (Rep.slice 5 Rep.byte).rd true w [v] l fp) (hnd : fp.Nodup) (hk : k + wtT cnt1 l l.length ≤ 1000000000) :
    Calls Try.prog 27 #[v, .int .i64 k] w fun e w' => e = .returned (.int .i64 ((k + wtT cnt1 l l.length : Nat) : Int)) ∧ (Rep.slice 5 Rep.byte).rd true w' [v] (marks mkByte cnt1 k l) fp ∧ Chg fp w w' := by
  have HM : Hid (Marking Rep.byte 5 mkByte cnt1 k l v fp w 0 w) := ⟨by rw [marked_zero]; exact h, Chg.refl⟩
  obtain ⟨ao, c1, rfl, hm, _, hu⟩ := slice_open h
  clear hu h
  go_enter Try.func27, Try.ntmps27
  go_wp2
  go_loopw [1, 5] (fun a i wr => ∃ j : Nat, j ≤ l.length ∧ i = .int .i64 j ∧ a = .int .i64 ((k + wtT cnt1 l j : Nat) : Int) ∧ Marking Rep.byte 5 mkByte cnt1 k l (.slice ao l.length c1) fp w j wr) (fun _ i _ => l.length - (intOf i).toNat)
  case atStart => exact ⟨0, by omega, rfl, by simp [wtT], HM.out⟩
  case round =>
    obtain ⟨j, hj, rfl, rfl, hma⟩ := hrel
    have HM := Lib.hid hma; clear hma
    by_cases hlt : j < l.length
    · have hw1 := wtT_succ cnt1 l j hlt
      have hw2 := wtT_mono cnt1 l (j + 1) l.length hlt
      generalize hq : k + wtT cnt1 l j = q at *
      have hqc : q + 1 ≤ 1000000000 := by unfold cnt1 at *; omega
      have HQ := Lib.hid hq; clear hq hw1 hw2
      have hlt' : j < (marked mkByte cnt1 k l j).length := by rw [marked_length]; exact hlt
      obtain ⟨g, cap, xs, cs, fe, hv, hg, hgfe, hfesub, hfend, hown, hrd, hcs, hshut⟩ := own_open HM.out.1 hnd j hlt'
      rw [marked_length] at hv hown
      simp only [Value.slice.injEq] at hv
      obtain ⟨rfl, _, rfl⟩ := hv
      have HG := Lib.hid hg; clear hg
      have HS := Lib.hid hshut; clear hshut hfesub
      obtain ⟨_, rfl, _⟩ := hrd
      have HO := Lib.hid hown; clear hown hcs
      have HC : Hid (Chg [g] wr wr) := Chg.refl
      have ej : j * (Rep.byte).n + 0 = j := by show j * 1 + 0 = j; omega
      obtain ⟨hcs, hfz⟩ := own_cells HO.out hlt
      obtain ⟨z0, hz0⟩ : ∃ u, wr.cell? ⟨g, j, none⟩ = some u := by have y := hcs 0 (by decide); rw [ej] at y; exact y
      clear hcs
      have ej' : j * (Rep.byte).n = j := Nat.mul_one j
      replace HO := Lib.hid (setCells_owns [.int .u8 ((UInt8.ofNat q).toNat : Int)] j _ _ HO.out)
      replace HC := Lib.hid (Chg.sets (g := g) (by simp) [.int .u8 ((UInt8.ofNat q).toNat : Int)] j _ HC.out)
      have HJ := Lib.hid ej'
      clear ej ej'
      have hby := byte_mark q
      go_wp2
      go_light
      have hlt1 := (Rep.slice 5 Rep.byte).lt HM.out.1
      have hm' := marked_succ mkByte cnt1 k l j hlt
      rw [HQ.out] at hm'
      refine ⟨⟨j + 1, by omega, by go_num, ?_, ?_, ?_⟩, by simp [intOf]; omega⟩
      · rw [wtT_succ _ _ _ hlt, ← Nat.add_assoc, HQ.out]
        unfold cnt1
        exact val_int (by omega)
      · rw [← hm']
        refine HS.out _ [.int .u8 ((UInt8.ofNat q).toNat : Int)] _ (by rw [marked_length, HJ.out]; exact (by first | exact HO.out | (rw [← byte_mark]; exact HO.out))) ⟨rfl, rfl, trivial⟩ fun b hb hbg hbf => ?_
        exact HC.out.block b (hlt1 b hb) (by simpa using hbg)
      · exact HM.out.2.trans (HC.out.mono fun b hb => by rw [List.mem_singleton.1 hb]; exact HG.out)
    · have e : j = l.length := by omega
      have HE := Lib.hid e; clear e
      go_wp2
      go_ret
      have hm' := HM.out
      rw [HE.out] at hm' ⊢
      rw [Marking, marked_all] at hm'
      exact ⟨rfl, hm'.1, hm'.2⟩

theorem markByteSI (v : Value) (l : List UInt8) (fp : List Nat) (k : Nat) (a : Int) (ha : a = k) (w : World) (h : (Rep.slice 5 Rep.byte).rd true w [v] l fp) (hnd : fp.Nodup) (hk : k + wtT cnt1 l l.length ≤ 1000000000) :
    Calls Try.prog 27 #[v, .int .i64 a] w fun e w' => e = .returned (.int .i64 ((k + wtT cnt1 l l.length : Nat) : Int)) ∧ (Rep.slice 5 Rep.byte).rd true w' [v] (marks mkByte cnt1 k l) fp ∧ Chg fp w w' := by
  subst ha; exact markByteS v l fp k w h hnd hk

set_option maxRecDepth 100000 in
set_option maxHeartbeats 800000 in
theorem heldByteS (v : Value) (l : List UInt8) (k : Nat) (w : World) (h : Reads (Rep.slice 5 Rep.byte) w [v] (marks mkByte cnt1 k l)) (hk : k + wtT cnt1 l l.length ≤ 1000000000) :
    Calls Try.prog 48 #[v, .int .i64 k] w fun e w' => e = .returned (.int .i64 ((k + wtT cnt1 l l.length : Nat) : Int)) ∧ Below w.heap.size w w' := by
  obtain ⟨fp, hu⟩ := h
  obtain ⟨ao, c1, rfl, hm, _, hu⟩ := slice_flat hu
  have HU := Lib.hid hu
  clear hu
  rw [marks_length] at hm ⊢
  go_enter Try.func48, Try.ntmps48
  go_wp2
  go_loopw [1, 5] (fun a i wr => ∃ j : Nat, j ≤ l.length ∧ i = .int .i64 j ∧ a = .int .i64 ((k + wtT cnt1 l j : Nat) : Int) ∧ ∃ n, wr = w.drewN n) (fun _ i _ => l.length - (intOf i).toNat)
  case atStart => exact ⟨0, by omega, rfl, by simp [wtT], 0, rfl⟩
  case round =>
    obtain ⟨j, hj, rfl, rfl, nq, rfl⟩ := hrel
    by_cases hlt : j < l.length
    · have hw1 := wtT_succ cnt1 l j hlt
      have hw2 := wtT_mono cnt1 l (j + 1) l.length hlt
      have hlt' : j < (marks mkByte cnt1 k l).length := by rw [marks_length]; exact hlt
      have hval := marks_at mkByte cnt1 k l j hlt hlt'
      obtain ⟨b, off, rfl, _, hcell⟩ := HU.out j hlt'
      rw [hval] at hcell
      clear hval
      generalize hq : k + wtT cnt1 l j = q at *
      have hqc : q + 1 ≤ 1000000000 := by unfold cnt1 at *; omega
      have HQ := Lib.hid hq; clear hq hw1 hw2
      replace hcell : w.cell? ⟨b, off + j, none⟩ = some (.int .u8 ((UInt8.ofNat q).toNat : Int)) := hcell
      have hby := byte_mark q
      go_wp2
      go_light
      refine ⟨⟨j + 1, by omega, by go_num, ?_, _, rfl⟩, by simp [intOf]; omega⟩
      rw [wtT_succ _ _ _ hlt, ← Nat.add_assoc, HQ.out]
      unfold cnt1
      exact val_int (by omega)
    · have e : j = l.length := by omega
      have HE := Lib.hid e; clear e
      go_wp2
      go_ret
      rw [HE.out]
      exact ⟨rfl, (by repeat (first | with_reducible exact belR | with_reducible apply belA | (with_reducible refine belS ?_ ?_; focus (first | omega | (simp; done) | (simp; omega))) | with_reducible apply belN | with_reducible apply belD | with_reducible assumption))⟩

theorem heldByteSI (v : Value) (l : List UInt8) (k : Nat) (a : Int) (ha : a = k) (w : World) (h : Reads (Rep.slice 5 Rep.byte) w [v] (marks mkByte cnt1 k l)) (hk : k + wtT cnt1 l l.length ≤ 1000000000) :
    Calls Try.prog 48 #[v, .int .i64 a] w fun e w' => e = .returned (.int .i64 ((k + wtT cnt1 l l.length : Nat) : Int)) ∧ Below w.heap.size w w' := by
  subst ha; exact heldByteS v l k w h hk

def mkStr (k : Nat) (_ : ByteArray) : ByteArray := markT k

end Go.Proofs.Ytglgjcdnfmlijaa
