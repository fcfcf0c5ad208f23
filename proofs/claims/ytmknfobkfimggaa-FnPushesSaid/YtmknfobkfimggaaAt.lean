/-
  laws.big, laws.at, laws.sameBytes.
-/
import Derived.Test.YtmknfobkfimggaaBase
import Derived.Deep.RegionLaw
namespace Go.Proofs.Ytmknfobkfimggaa
open Go.RowKit

/-- The byte at a place, or what stands for it. -/
def atN (l : List UInt8) (k : Nat) : Int := if h : k < l.length then (l[k].toNat : Int) else (((k * 31 + l.length * 7) % 256 : Nat) : Int)
theorem atN_ge (l : List UInt8) (k : Nat) : 0 ≤ atN l k ∧ atN l k ≤ 255 := by
  unfold atN
  split
  · rename_i h; have := l[k].toNat_lt; omega
  · omega

set_option maxHeartbeats 800000 in
theorem lawBig (v : Value) (l : List UInt8) (w : World) (h : Reads Rep.bytes w [v] l) :
    Calls Try.prog 7 #[v] w fun e w' => e = .returned (.bool (decide (1048576 < l.length))) ∧ w = w' := by
  obtain ⟨fp, h⟩ := h
  obtain ⟨ao, c1, rfl, hm, _, hu⟩ := slice_open h
  clear hu h
  go_enter Try.func7, Try.ntmps7
  go_wp2
  go_ret
  exact ⟨ret_bool (by rw [decide_eq_decide]; omega), rfl⟩

set_option maxHeartbeats 1600000 in
theorem lawAt (v : Value) (l : List UInt8) (n : Int) (k : Nat) (hn : n = (k : Int)) (hk : k ≤ 100) (hl : l.length ≤ 1048576) (w : World) (h : Reads Rep.bytes w [v] l) :
    Calls Try.prog 8 #[v, .int .i64 n] w fun e w' => e = .returned (.int .i64 (atN l k)) ∧ w = w' := by
  subst hn
  have HK : Hid (Reads (Rep.slice 5 Rep.byte) w [v] l) := Lib.hid h
  obtain ⟨fp, h⟩ := h
  obtain ⟨ao, c1, rfl, hm, _, hu⟩ := slice_open h
  clear hu h
  by_cases hlt : k < l.length
  · obtain ⟨b, off, cs_b, rfl, hw_b, hr_b, hcell_b⟩ := slice_at HK.out k hlt
    obtain ⟨fe_b, hrd_b⟩ := hr_b
    obtain ⟨rfl, _, b_s0⟩ := hrd_b
    have b_c0 : w.cell? ⟨b, off + k, none⟩ = some (.int .u8 l[k].toNat) := by have h := hcell_b 0 (by decide); rwa [show off + k * Rep.byte.n + 0 = off + k from by show off + k * 1 + 0 = off + k; omega] at h
    have b_u1 : (l[k].toNat : Int) ≤ 255 := by have := l[k].toNat_lt; omega
    clear hcell_b
    have i1 : (0 : Int) ≤ (k : Int) := by omega
    have i2 : (k : Int) < (l.length : Int) := by omega
    have e := Lib.hid (show atN l k = (l[k].toNat : Int) by unfold atN; rw [dif_pos hlt])
    go_enter Try.func8, Try.ntmps8
    go_wp2
    go_ret
    exact ⟨ret_int (by rw [e.out]), rfl⟩
  · have e := Lib.hid (show atN l k = (((k * 31 + l.length * 7) % 256 : Nat) : Int) by unfold atN; rw [dif_neg hlt])
    go_enter Try.func8, Try.ntmps8
    go_wp2
    go_ret
    exact ⟨ret_int (by rw [e.out]; first | (simp; done) | omega | (simp; omega)), rfl⟩

set_option maxRecDepth 100000 in
set_option maxHeartbeats 1600000 in
theorem lawSame (u v : Value) (l m : List UInt8) (w : World) (h : Reads Rep.bytes w [u] l) (h' : Reads Rep.bytes w [v] m) :
    Calls Try.prog 14 #[u, v] w fun e w' => e = .returned (.bool (decide (l = m))) ∧ Below w.heap.size w w' := by
  have HL := Lib.hid h
  have HM := Lib.hid h'
  obtain ⟨fp, h⟩ := h
  obtain ⟨ao, c1, rfl, hm, _, hu⟩ := slice_open h
  clear hu h
  obtain ⟨fq, h'⟩ := h'
  obtain ⟨bo, c2, rfl, hm2, _, hu⟩ := slice_open h'
  clear hu h'
  cases n0 : ((l.length : Int) != (m.length : Int))
  · have hlen : l.length = m.length := by
      have e1 : (l.length : Int) = (m.length : Int) := by simpa using n0
      omega
    go_enter Try.func14, Try.ntmps14
    go_wp2
    go_loopw [5] (fun i wr => ∃ (k : Nat), k ≤ l.length ∧ i = .int .i64 k ∧ l.take k = m.take k ∧ Below w.heap.size w wr) (fun i _ => l.length - (intOf i).toNat)
    case atStart => exact ⟨0, by omega, rfl, by simp, (by repeat (first | with_reducible exact belR | with_reducible apply belA | (with_reducible refine belS ?_ ?_; focus (first | omega | (simp; done) | (simp; omega))) | with_reducible apply belN | with_reducible apply belD | with_reducible assumption))⟩
    case round =>
      obtain ⟨k, hk, rfl, ht, hb⟩ := hrel
      have HB := Lib.hid hb; clear hb
      have HT := Lib.hid ht; clear ht
      by_cases hlt : k < l.length
      · have hlt2 : k < m.length := by omega
        obtain ⟨b, off, cs_b, rfl, hw_b, hr_b, hcell_b⟩ := slice_at (HL.out.below HB.out) k hlt
        obtain ⟨fe_b, hrd_b⟩ := hr_b
        obtain ⟨rfl, _, b_s0⟩ := hrd_b
        have b_c0 : wr.cell? ⟨b, off + k, none⟩ = some (.int .u8 l[k].toNat) := by have h := hcell_b 0 (by decide); rwa [show off + k * Rep.byte.n + 0 = off + k from by show off + k * 1 + 0 = off + k; omega] at h
        have b_u1 : (l[k].toNat : Int) ≤ 255 := by have := l[k].toNat_lt; omega
        clear hcell_b
        obtain ⟨c, off2, cs_c, rfl, hw_c, hr_c, hcell_c⟩ := slice_at (HM.out.below HB.out) k hlt2
        obtain ⟨fe_c, hrd_c⟩ := hr_c
        obtain ⟨rfl, _, c_s0⟩ := hrd_c
        have c_c0 : wr.cell? ⟨c, off2 + k, none⟩ = some (.int .u8 m[k].toNat) := by have h := hcell_c 0 (by decide); rwa [show off2 + k * Rep.byte.n + 0 = off2 + k from by show off2 + k * 1 + 0 = off2 + k; omega] at h
        have c_u1 : (m[k].toNat : Int) ≤ 255 := by have := m[k].toNat_lt; omega
        clear hcell_c
        have i1 : (0 : Int) ≤ (k : Int) := by omega
        have i2 : (k : Int) < (l.length : Int) := by omega
        have i3 : (k : Int) < (m.length : Int) := by omega
        have C1 := rg_cell b_c0
        have C2 := rg_cell c_c0
        cases n : ((l[k].toNat : Int) != (m[k].toNat : Int))
        · have e : l[k] = m[k] := by
            have e1 : (l[k].toNat : Int) = (m[k].toNat : Int) := by simpa using n
            exact UInt8.toNat_inj.1 (by omega)
          go_upto_region 6 with fail
          refine wp_region_rg (by kernel_rfl) (by kernel_rfl) ?_
          repeat (go_big_quiet_step (fail))
          refine wpQuiet_nil ?_
          rintro _ ⟨pq, rfl⟩
          have hq := rg_below wr pq
          generalize rg wr pq = w2 at *
          have HB2 := Lib.hid (HB.out.trans (hq.mono HB.out.size))
          clear C1 C2 HB
          go_wp2
          go_light
          exact ⟨⟨k + 1, by omega, by go_num, by rw [List.take_succ_eq_append_getElem hlt, List.take_succ_eq_append_getElem hlt2, HT.out, e], HB2.out⟩, by simp [intOf]; omega⟩
        · have e : l ≠ m := by
            intro e
            subst e
            simp at n
          go_upto_region 6 with fail
          refine wp_region_rg (by kernel_rfl) (by kernel_rfl) ?_
          repeat (go_big_quiet_step (fail))
          refine wpQuiet_nil ?_
          rintro _ ⟨pq, rfl⟩
          have hq := rg_below wr pq
          generalize rg wr pq = w2 at *
          have HB2 := Lib.hid (HB.out.trans (hq.mono HB.out.size))
          clear C1 C2 HB
          go_wp2
          go_ret
          exact ⟨by rw [decide_eq_false e]; rfl, HB2.out⟩
      · have e : l = m := by
          have ht := HT.out
          rw [List.take_of_length_le (by omega), List.take_of_length_le (by omega)] at ht
          exact ht
        go_wp2
        go_ret
        exact ⟨by rw [decide_eq_true e]; rfl, HB.out⟩
  · have hlen : ¬ l.length = m.length := by
      intro e
      rw [e] at n0
      simp at n0
    go_enter Try.func14, Try.ntmps14
    go_wp2
    go_ret
    exact ⟨by rw [decide_eq_false (by intro e; exact hlen (by rw [e]))]; rfl, (by repeat (first | with_reducible exact belR | with_reducible apply belA | (with_reducible refine belS ?_ ?_; focus (first | omega | (simp; done) | (simp; omega))) | with_reducible apply belN | with_reducible apply belD | with_reducible assumption))⟩

end Go.Proofs.Ytmknfobkfimggaa
