/-
  The laws' helpers for slices of ints, of bytes, of strings.
-/
import Derived.Test.YtglgjcdnfmlijaaBytes
import Derived.Test.YtglgjcdnfmlijaaFill
namespace Go.Proofs.Ytglgjcdnfmlijaa
open Go.RowKit

set_option maxHeartbeats 400000 in
theorem szByteS (v : Value) (l : List UInt8) (left : Int) (w : World) (h : Reads (Rep.slice 5 Rep.byte) w [v] l) (h0 : 0 ≤ left) (h1 : left ≤ 1048576) :
    Calls Try.prog 107 #[v, .int .i64 left] w fun e w' => e = .returned (.int .i64 (szOf (wtS wt0 l) left)) ∧ Below w.heap.size w w' := by
  obtain ⟨fp, h⟩ := h
  obtain ⟨ao, c1, rfl, hm, _, hu⟩ := slice_open h
  clear hu h
  go_enter Try.func107, Try.ntmps107
  go_wp2
  all_goals
    go_ret
    refine ⟨ret_int ?_, (by repeat (first | with_reducible exact belR | with_reducible apply belA | (with_reducible refine belS ?_ ?_; focus (first | omega | (simp; done) | (simp; omega))) | with_reducible apply belN | with_reducible apply belD | with_reducible assumption))⟩
    go_light
    have a0 := szOf_spec (wtS wt0 l) left
    have a1 : wtS wt0 l = l.length := wtS_zero l
    omega

set_option maxRecDepth 100000 in
set_option maxHeartbeats 400000 in
theorem eqByteS (u v : Value) (l : List UInt8) (w : World) (h : Reads (Rep.slice 5 Rep.byte) w [u] l) (h' : Reads (Rep.slice 5 Rep.byte) w [v] l) :
    Calls Try.prog 26 #[u, v] w fun e w' => e = .returned (.bool true) ∧ Below w.heap.size w w' := by
  obtain ⟨_, hu⟩ := h
  obtain ⟨_, hv⟩ := h'
  obtain ⟨ao, c1, rfl, hm, _, hu⟩ := slice_flat hu
  obtain ⟨bo, c2, rfl, _, _, hv⟩ := slice_flat hv
  have HU := Lib.hid hu; clear hu
  have HV := Lib.hid hv; clear hv
  go_enter Try.func26, Try.ntmps26
  go_wp2
  go_loopw [5] (fun i wr => ∃ k : Nat, k ≤ l.length ∧ i = .int .i64 k ∧ ∃ n, wr = w.drewN n) (fun i _ => l.length - (intOf i).toNat)
  case atStart => exact ⟨0, by omega, rfl, 0, rfl⟩
  case round =>
    obtain ⟨k, hk, rfl, nq, rfl⟩ := hrel
    by_cases hlt : k < l.length
    · obtain ⟨b, off, rfl, _, hcell⟩ := HU.out k hlt
      obtain ⟨b', off', rfl, _, hcell'⟩ := HV.out k hlt
      go_wp2
      go_quiet (fail)
      go_wp2
      go_light
      exact ⟨⟨k + 1, by omega, by go_num, _, rfl⟩, by simp [intOf]; omega⟩
    · go_wp2
      go_ret
      exact ⟨rfl, (by repeat (first | with_reducible exact belR | with_reducible apply belA | (with_reducible refine belS ?_ ?_; focus (first | omega | (simp; done) | (simp; omega))) | with_reducible apply belN | with_reducible apply belD | with_reducible assumption))⟩

theorem Try.infoByte : (Try.prog.info? 5).map (fun i => (i.zero, i.size, i.bytes)) = some (some (.int .u8 0), 1, 1) := by kernel_rfl

set_option maxRecDepth 100000 in
set_option maxHeartbeats 400000 in
theorem toByteS (u : Value) (l : List UInt8) (w : World) (hu : Reads (Rep.slice 5 Rep.byte) w [u] l) (hsmall : wtS wt0 l ≤ 1048576) :
    Calls Try.prog 23 #[u] w fun e w' => ∃ v, e = .returned v ∧ Fresh (Rep.slice 5 Rep.byte) w.heap.size w' [v] l ∧ Below w.heap.size w w' := by
  have HK := Lib.hid hu
  obtain ⟨fp, hu⟩ := hu
  obtain ⟨ao, c1, rfl, hm, _, hu⟩ := slice_open hu
  clear hu
  have hlen := wtS_ge wt0 l
  obtain ⟨i0, hi, hz0, hz1, hz2⟩ := info_parts Try.infoByte
  go_enter Try.func23, Try.ntmps23
  go_wp2_with (at_make; refine wpList_make_full _ rfl _ _ 35 rfl w.heap.size 5 i0 _ 1 Try.underlying35 hi hz0 hz1 _ _ _ _ l.length rfl rfl rfl rfl ?c1 ?c2 (Nat.le_refl _) ?_)
  case c1 => rw [hz2]; omega
  case c2 => unfold maxLen; omega
  intro w1 hown hgrow
  have hf : Filling Rep.byte 5 w.heap.size w.heap.size l.length l 0 w1 := Filling.start hown (Nat.le_refl _)
  have hb1 : Below w.heap.size w w1 := (Below.refl _ _).grown hgrow (Nat.le_refl _) (by intro k hk; cases hk)
  have HF := Lib.hid hf; clear hf hown
  have HB := Lib.hid hb1; clear hb1 hgrow
  go_wp2
  go_loopw [4] (fun i wr => ∃ k : Nat, k ≤ l.length ∧ i = .int .i64 k ∧ Filling Rep.byte 5 w.heap.size w.heap.size l.length l k wr ∧ Below w.heap.size w wr) (fun i _ => l.length - (intOf i).toNat)
  case atStart => exact ⟨0, by omega, rfl, HF.out, HB.out⟩
  case round =>
    obtain ⟨k, hk, rfl, hf, hb⟩ := hrel
    have HB := Lib.hid hb; clear hb
    have HF := Lib.hid hf; clear hf
    by_cases hlt : k < l.length
    · obtain ⟨fp', hu⟩ := HK.out.below HB.out
      obtain ⟨_, _, hv, _, _, hu⟩ := slice_flat hu
      simp only [Value.slice.injEq] at hv
      obtain ⟨rfl, _, rfl⟩ := hv
      obtain ⟨b, off, rfl, hok, hcell⟩ := hu k hlt
      clear hu
      have HF1 := Lib.hid (Filling.step hlt rfl HF.out (Below.refl _ _) (ds := [(fun x : UInt8 => Value.int .u8 x.toNat) l[k]]) ⟨[], ⟨rfl, rfl, hok⟩, by simp, by simp⟩)
      have HB1 := Lib.hid (setCells_below (Nat.le_refl _) [(fun x : UInt8 => Value.int .u8 x.toNat) l[k]] (k * 1) _ HB.out)
      obtain ⟨hcs, hfz⟩ := HF.out.cells hlt
      obtain ⟨z0, hy0⟩ : ∃ u, wr.cell? ⟨w.heap.size, k, none⟩ = some u := by
        have y := hcs 0 (by decide)
        have e : k * (Rep.byte).n + 0 = k := by show k * 1 + 0 = k; omega
        rw [e] at y; exact y
      have ek : k * (Rep.byte).n = k := Nat.mul_one k
      rw [ek] at HF1
      rw [Nat.mul_one] at HB1
      clear hcs ek
      go_wp2
      go_light
      exact ⟨⟨k + 1, by omega, by go_num, HF1.out, HB1.out⟩, by simp [intOf]; omega⟩
    · have HW : Hid (Fresh (Rep.slice 5 Rep.byte) w.heap.size wr [.slice (some ⟨w.heap.size, 0, none⟩) l.length l.length] l) := by
        have e : k = l.length := by omega
        have hf := HF.out
        rw [e] at hf
        exact hf.done rfl
      go_wp2
      go_ret
      exact ⟨_, rfl, HW.out, HB.out⟩

theorem Try.infoInt : (Try.prog.info? 3).map (fun i => (i.zero, i.size, i.bytes)) = some (some (.int .i64 0), 1, 8) := by kernel_rfl

theorem Try.infoString : (Try.prog.info? 9).map (fun i => (i.zero, i.size, i.bytes)) = some (some (.string ⟨#[]⟩), 1, 16) := by kernel_rfl

end Go.Proofs.Ytglgjcdnfmlijaa
