/-
  Encrypt.
-/
import Derived.Test.YtmknfobkfimggaaKeyed
import Derived.Test.YtmknfobkfimggaaBase
import Derived.Deep.RegionLaw
import Derived.BigRegion
namespace Go.Proofs.Ytmknfobkfimggaa
open Go.RowKit

def padF (key i : Int) : Int := hashF [key, i, key] % 256
theorem padF_ge (key i : Int) : 0 ≤ padF key i ∧ padF key i < 256 := by unfold padF; omega
def encB (key : Int) (i : Nat) (b : UInt8) : UInt8 := UInt8.ofNat (((b.toNat : Int) + padF key i) % 256).toNat
theorem u8_wrap (n : Int) : IntKind.u8.wrap n = n % 256 := by simp [IntKind.wrap, IntKind.bits, IntKind.signed]
theorem encB_to (key : Int) (i : Nat) (b : UInt8) : ((encB key i b).toNat : Int) = ((b.toNat : Int) + padF key i) % 256 := by
  unfold encB
  have h := Int.emod_nonneg ((b.toNat : Int) + padF key i) (by decide : (256 : Int) ≠ 0)
  have h2 := Int.emod_lt_of_pos ((b.toNat : Int) + padF key i) (by decide : (0 : Int) < 256)
  simp
  omega
def encryptF (key : Int) (l : List UInt8) : List UInt8 := l.mapIdx fun i b => encB key i b
theorem encryptF_len (key : Int) (l : List UInt8) : (encryptF key l).length = l.length := by simp [encryptF]
theorem encryptF_snoc {key : Int} {l : List UInt8} {k : Nat} (h : k < l.length) : encryptF key (l.take k) ++ [encB key k l[k]] = encryptF key (l.take (k + 1)) := by
  unfold encryptF
  rw [List.take_succ_eq_append_getElem h, List.mapIdx_concat, List.length_take, Nat.min_eq_left (by omega)]
/-- The first k bytes are done. -/
def encAt (key : Int) (l : List UInt8) (k : Nat) : List UInt8 := encryptF key (l.take k) ++ l.drop k
theorem encAt_len {key : Int} {l : List UInt8} {k : Nat} (h : k ≤ l.length) : (encAt key l k).length = l.length := by
  unfold encAt; rw [List.length_append, encryptF_len, List.length_take, List.length_drop]; omega
theorem encAt_get {key : Int} {l : List UInt8} {k : Nat} (h : k < l.length) (h' : k < (encAt key l k).length) : (encAt key l k)[k] = l[k] := by
  have : (encAt key l k)[k]? = l[k]? := by
    unfold encAt
    rw [List.getElem?_append_right (by rw [encryptF_len, List.length_take]; omega)]
    simp [encryptF_len, Nat.min_eq_left (Nat.le_of_lt h)]
  rw [List.getElem?_eq_getElem h', List.getElem?_eq_getElem h] at this
  exact Option.some.inj this
theorem encAt_succ {key : Int} {l : List UInt8} {k : Nat} (h : k < l.length) : (encAt key l k).set k (encB key k l[k]) = encAt key l (k + 1) := by
  have e : l.drop k = l[k] :: l.drop (k + 1) := (List.getElem_cons_drop h).symm
  have hl : (encryptF key (l.take k)).length = k := by rw [encryptF_len, List.length_take]; omega
  unfold encAt
  rw [← encryptF_snoc h, e, List.set_append_right _ _ (by omega), hl, Nat.sub_self, List.set_cons_zero, List.append_assoc]
  rfl
theorem encAt_zero (key : Int) (l : List UInt8) : encAt key l 0 = l := by simp [encAt, encryptF]
theorem encAt_all {key : Int} {l : List UInt8} {k : Nat} (h : ¬ k < l.length) : encAt key l k = encryptF key l := by
  unfold encAt; rw [List.take_of_length_le (by omega), List.drop_of_length_le (by omega), List.append_nil]
attribute [irreducible] encAt encB

theorem oneInt (n : Int) : Hid (∀ (W : World) (k : Nat), k = W.heap.size → Reads (Rep.slice 3 Rep.int) (W.alloc (.cells #[.int .i64 n] 3)) [.slice (some ⟨k, 0, none⟩) 1 1] [n]) := Lib.hid fun W k hk => by
  subst hk
  exact Fresh.reads (B := W.heap.size) (slice_flat_mk (base := W.heap.size) (own_lit (w := W) (xs := #[.int .i64 n]) rfl (by decide)) (fun _ _ => trivial))

set_option maxHeartbeats 800000 in
theorem implCopyBytes (v : Value) (l : List UInt8) (w : World) (h : Reads Rep.bytes w [v] l) (hs : l.length ≤ 4194304) :
    Calls Try.prog 49 #[v] w fun e w' => ∃ v', e = .returned v' ∧ Fresh (Rep.slice 5 Rep.byte) w.heap.size w' [v'] l ∧ Below w.heap.size w w' := by
  have HK : Hid (Reads (Rep.slice 5 Rep.byte) w [v] l) := Lib.hid h
  obtain ⟨fp, h⟩ := h
  obtain ⟨ao, c1, rfl, hm, _, hu⟩ := slice_open h
  clear hu h
  obtain ⟨i0, hi, hz0, hz1, hz2⟩ := info_parts Try.infoByte
  go_enter Try.func49, Try.ntmps49
  go_wp2_with (at_builtin; refine wpList_grow _ rfl _ _ 22 22 rfl FlatR.byte w.heap.size 5 i0 _ _ Try.underlying22 hi hz0 hz1 hz2 rfl _ [] rfl (lit_fresh FlatR.byte (w := _) (xs := #[]) (us := []) rfl rfl (by decide) (by simp) (by simp)) _ l rfl (FlatR.byte.src Try.underlying22 (HK.out.below (by repeat (first | with_reducible exact belR | with_reducible apply belA | (with_reducible refine belS ?_ ?_; focus (first | omega | (simp; done) | (simp; omega))) | with_reducible apply belN | with_reducible apply belD | with_reducible assumption)))) ?c1a ?c2a ?c3a ?c4a ?_)
  case c1a => exact (FlatR.byte.row HK.out).2
  case c2a => (try simp only [List.length_nil, Nat.zero_add]); omega
  case c3a => (try simp only [List.length_nil, Nat.zero_add]); unfold maxLen; omega
  try (case c4a => simp; try omega)
  intro ao1 cap1 w1 hf1 hb1
  have HF1 := Lib.hid hf1
  have HB1 := Lib.hid (Below.trans (by repeat (first | with_reducible exact belR | (with_reducible refine belAB ?_ ?_; focus (first | omega | (simp; done) | (simp; omega))) | (with_reducible refine belS ?_ ?_; focus (first | omega | (simp; done) | (simp; omega))) | with_reducible apply belN | with_reducible apply belD | with_reducible assumption)) hb1 : Below w.heap.size w w1)
  clear hf1 hb1
  go_wp2
  go_ret
  exact ⟨_, rfl, HF1.out, HB1.out⟩

set_option maxRecDepth 100000 in
set_option maxHeartbeats 1600000 in
theorem implEncrypt (key : Int) (v : Value) (l : List UInt8) (w : World) (h : Reads Rep.bytes w [v] l) (hs : l.length ≤ 4194304) :
    Calls Try.prog 45 #[.int .i64 key, v] w fun e w' => ∃ v', e = .returned v' ∧ Fresh (Rep.slice 5 Rep.byte) w.heap.size w' [v'] (encryptF key l) ∧ Below w.heap.size w w' := by
  go_enter Try.func45, Try.ntmps45
  go_wp2_with fail
  refine (implCopyBytes _ l _ h hs).mono ?_
  rintro e w1 ⟨v', rfl, hf, hb⟩
  obtain ⟨ao, cap, rfl⟩ := hf.slice
  have HF := Lib.hid hf
  have HB := Lib.hid hb
  clear hf hb
  go_wp2
  go_loopw [11, 6] (fun i _ wr => ∃ k : Nat, k ≤ l.length ∧ i = .int .i64 k ∧ Fresh (Rep.slice 5 Rep.byte) w.heap.size wr [.slice ao l.length cap] (encAt key l k) ∧ Below w.heap.size w wr) (fun i _ _ => l.length - (intOf i).toNat)
  case atStart => exact ⟨0, by omega, rfl, by rw [encAt_zero]; exact HF.out, HB.out⟩
  case round =>
    obtain ⟨k, hk, rfl, hf, hb⟩ := hrel
    replace HF := Lib.hid hf
    replace HB := Lib.hid hb
    clear hf hb
    by_cases hkn : k < l.length
    · have hkm : k < (encAt key l k).length := by rw [encAt_len (Nat.le_of_lt hkn)]; exact hkn
      have HE := Lib.hid (encAt_get hkn hkm)
      obtain ⟨g0, vc, hv, hc1, _, hg1, hg2, hci, hfz⟩ := FlatR.byte.at HF.out k hkm
      simp only [Value.slice.injEq] at hv
      obtain ⟨rfl, hq0, rfl⟩ := hv
      clear hq0
      have e0 : wr.cell? ⟨g0, k, none⟩ = some (.int .u8 ((encAt key l k)[k].toNat : Int)) := by have := hci 0 (by decide); simpa [Rep.byte, Rep.flat] using this
      rw [HE.out] at e0
      clear hci
      have i1 : (0 : Int) ≤ (k : Int) := by omega
      have i2 : (k : Int) < (l.length : Int) := by omega
      have hb1 : (l[k].toNat : Int) ≤ 255 := by have := l[k].toNat_lt; omega
      have hh := hashF_ge ([key, (k : Int), key])
      have HS : Hid (∀ w', Below wr.heap.size wr w' → w'.cell? ⟨g0, k, none⟩ = some (.int .u8 (l[k].toNat : Int)) ∧ Below wr.heap.size wr w') := Lib.hid fun w' hw' => ⟨(hw'.cell hg2).trans e0, hw'⟩
      have H1 := oneInt (k : Int)
      go_wp2
      go_region_with ((go_at_call 95; refine (implKeyedHash _ _ [(k : Int)] _ ((H1.out wr wr.heap.size rfl).below (belD belR)) (Nat.le_of_ble_eq_true rfl)).mono ?_; rintro e w2 ⟨rfl, hb2⟩; have hq2 : Below wr.heap.size wr w2 := (Below.trans (by repeat (first | with_reducible exact belR | (with_reducible refine belAB ?_ ?_; focus (first | omega | (simp; done) | (simp; omega))) | (with_reducible refine belS ?_ ?_; focus (first | omega | (simp; done) | (simp; omega))) | with_reducible apply belN | with_reducible apply belD | with_reducible assumption)) (hb2.mono (by first | omega | (simp; done) | (simp; omega)))); have e0' := (hq2.cell (p := ⟨g0, k, none⟩) hg2).trans e0; have f0' : ∀ j, w2.frozen? ⟨g0, j, none⟩ = false := (fun j => (hq2.frozen (p := ⟨g0, j, none⟩) hg2).trans (hfz j))))
      all_goals
        have HQ := Lib.hid hq2
        have hb3 := HB.out.trans (hq2.mono HB.out.size)
        have hv : IntKind.u8.wrap (↑l[k].toNat + IntKind.u8.wrap ((hashF [key, ↑k, key]).tmod 256)) = ((encB key k l[k]).toNat : Int) := by
          rw [encB_to, padF, Int.tmod_eq_emod_of_nonneg hh.1, u8_wrap, u8_wrap]
          omega
        rw [hv]
        have hf3 := FlatR.byte.setAt (HF.out.below hq2) k hkm 0 [.int .u8 (encB key k l[k]).toNat] (encB key k l[k]) rfl (Nat.le_refl 1) trivial
        rw [encAt_succ hkn] at hf3
        have HF3 := Lib.hid hf3
        have HB3 := Lib.hid hb3
        clear hf3 hb3 hq2 hb2 e0' f0' e0 hv
        go_wp2
        go_light
        exact ⟨⟨k + 1, by omega, by go_num, by simpa [setCells, Rep.byte, Rep.flat] using HF3.out, by have y := HB3.out; exact (by repeat (first | with_reducible exact belR | (with_reducible refine belAB ?_ ?_; focus (first | omega | (simp; done) | (simp; omega))) | (with_reducible refine belS ?_ ?_; focus (first | omega | (simp; done) | (simp; omega))) | with_reducible apply belN | with_reducible apply belD | with_reducible assumption))⟩, by simp [intOf]; omega⟩
    · have e := Lib.hid (encAt_all (key := key) hkn)
      go_wp2
      go_ret
      exact ⟨_, rfl, by rw [← e.out]; exact HF.out, HB.out⟩

set_option maxRecDepth 100000 in
set_option maxHeartbeats 1600000 in
theorem specEncrypt (key : Int) (v : Value) (l : List UInt8) (w : World) (h : Reads Rep.bytes w [v] l) (hs : l.length ≤ 4194304) :
    Calls Try.prog 161 #[.int .i64 key, v] w fun e w' => ∃ v', e = .returned v' ∧ Fresh (Rep.slice 5 Rep.byte) w.heap.size w' [v'] (encryptF key l) ∧ Below w.heap.size w w' := by
  have HK : Hid (Reads (Rep.slice 5 Rep.byte) w [v] l) := Lib.hid h
  obtain ⟨fp, h⟩ := h
  obtain ⟨ao, c1, rfl, hm, _, hu⟩ := slice_open h
  clear hu h
  obtain ⟨i0, hi, hz0, hz1, hz2⟩ := info_parts Try.infoByte
  go_enter Try.func161, Try.ntmps161
  go_wp2
  go_loopw [5, 6] (fun r i wr => ∃ k : Nat, k ≤ l.length ∧ i = .int .i64 k ∧ Fresh (Rep.slice 5 Rep.byte) w.heap.size wr [r] (encryptF key (l.take k)) ∧ Below w.heap.size w wr) (fun _ i _ => l.length - (intOf i).toNat)
  case atStart => exact ⟨0, by omega, rfl, lit_fresh FlatR.byte (w := w) (xs := #[]) (us := []) rfl rfl (by decide) (by simp) rfl, (by repeat (first | with_reducible exact belR | with_reducible apply belA | (with_reducible refine belS ?_ ?_; focus (first | omega | (simp; done) | (simp; omega))) | with_reducible apply belN | with_reducible apply belD | with_reducible assumption))⟩
  case round =>
    obtain ⟨k, hk, rfl, hf, hb⟩ := hrel
    obtain ⟨bo, cap, rfl⟩ := hf.slice
    have HF := Lib.hid hf
    have HB := Lib.hid hb
    clear hf hb
    have hle : (encryptF key (l.take k)).length ≤ 4194304 := by rw [encryptF_len, List.length_take]; omega
    by_cases hkn : k < l.length
    · obtain ⟨b, off, cs_b, rfl, hw_b, hr_b, hcell_b⟩ := slice_at (HK.out.below HB.out) k hkn
      obtain ⟨fe_b, hrd_b⟩ := hr_b
      obtain ⟨rfl, _, b_s0⟩ := hrd_b
      have b_c0 : wr.cell? ⟨b, off + k, none⟩ = some (.int .u8 l[k].toNat) := by have h := hcell_b 0 (by decide); rwa [show off + k * Rep.byte.n + 0 = off + k from by show off + k * 1 + 0 = off + k; omega] at h
      have b_u1 : (l[k].toNat : Int) ≤ 255 := by have := l[k].toNat_lt; omega
      clear hcell_b
      have i1 : (0 : Int) ≤ (k : Int) := by omega
      have i2 : (k : Int) < (l.length : Int) := by omega
      have hh := hashF_ge ([key, (k : Int), key])
      have H1 := oneInt (k : Int)
      have hb1 : (l[k].toNat : Int) ≤ 255 := by have := l[k].toNat_lt; omega
      have hw0 : IntKind.i64.wrap (l[k].toNat : Int) = (l[k].toNat : Int) := Go.IntWalk.i64_in _ (by omega)
      have hw : IntKind.i64.wrap ((l[k].toNat : Int) + (hashF [key, (k : Int), key]).tmod 256) = (l[k].toNat : Int) + (hashF [key, (k : Int), key]).tmod 256 := Go.IntWalk.i64_in _ (by rw [Int.tmod_eq_emod_of_nonneg hh.1]; omega)
      have hv : IntKind.u8.wrap (((l[k].toNat : Int) + (hashF [key, (k : Int), key]).tmod 256).tmod 256) = ((encB key k l[k]).toNat : Int) := by
        rw [encB_to, padF, Int.tmod_eq_emod_of_nonneg hh.1, Int.tmod_eq_emod_of_nonneg (by omega), u8_wrap]
        omega
      have HE := Lib.hid (encryptF_snoc (key := key) hkn)
      go_wp2
      go_region_law (first
        | (go_simp; go_at_call 102; refine (specKeyedHash _ _ [(k : Int)] _ ((H1.out wr wr.heap.size rfl).below (belD belR)) (Nat.le_of_ble_eq_true rfl)).mono ?_; rintro e w2 ⟨rfl, hb2⟩; have hq2 : Below wr.heap.size wr w2 := (Below.trans (by repeat (first | with_reducible exact belR | (with_reducible refine belAB ?_ ?_; focus (first | omega | (simp; done) | (simp; omega))) | (with_reducible refine belS ?_ ?_; focus (first | omega | (simp; done) | (simp; omega))) | with_reducible apply belN | with_reducible apply belD | with_reducible assumption)) (hb2.mono (by first | omega | (simp; done) | (simp; omega)))); have e0' := (hq2.cell (p := ⟨b, off + k, none⟩) (block_lt_of_cell b_c0)).trans b_c0; have hs2 : w.heap.size ≤ w2.heap.size := Nat.le_trans HB.out.size hq2.size)
        | ((refine step_push _ (by rfl) _ _ 22 22 (by rfl) FlatR.byte w.heap.size 5 i0 _ _ Try.underlying22 Try.underlying22 hi hz0 hz1 hz2 rfl _ _ (by rfl) ((HF.out.below hq2).below (belA belR)) (encB key k l[k]) _ (by rfl) (news_at rfl) trivial (by omega) (by decide) (by simp; omega) ?_; intro ao2 cap2 w3 hf3 hb3 hsz3)))
      all_goals
        have hb4 : Below w.heap.size w w3 := Below.trans (by have y := HB.out.trans (hq2.mono HB.out.size); exact (by repeat (first | with_reducible exact belR | (with_reducible refine belAB ?_ ?_; focus (first | omega | (simp; done) | (simp; omega))) | (with_reducible refine belS ?_ ?_; focus (first | omega | (simp; done) | (simp; omega))) | with_reducible apply belN | with_reducible apply belD | with_reducible assumption))) hb3
        rw [HE.out] at hf3
        have HF3 := Lib.hid hf3
        have HB3 := Lib.hid hb4
        clear hf3 hb3 hb4 hq2 hb2 e0' hw0 hw hv hsz3 hs2
        go_wp2
        go_light
        exact ⟨⟨k + 1, by omega, by go_num, HF3.out, HB3.out⟩, by simp [intOf]; omega⟩
    · have e := Lib.hid (show encryptF key (l.take k) = encryptF key l by rw [List.take_of_length_le (by omega)])
      go_wp2
      go_ret
      exact ⟨_, rfl, by rw [← e.out]; exact HF.out, HB.out⟩

end Go.Proofs.Ytmknfobkfimggaa
