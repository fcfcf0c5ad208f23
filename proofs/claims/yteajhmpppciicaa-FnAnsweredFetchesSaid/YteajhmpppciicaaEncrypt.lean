/-
  Encrypt.
-/
import Derived.Test.YteajhmpppciicaaKeyed
import Derived.Test.YteajhmpppciicaaBase
import Derived.Deep.RegionLaw
import Derived.BigRegion
namespace Go.Proofs.Yteajhmpppciicaa
open Go.RowKit

def padF (key i : Int) : Int := hashF [key, i, key] % 256
theorem padF_ge (key i : Int) : 0 ≤ padF key i ∧ padF key i < 256 := by unfold padF; omega
def encB (key : Int) (i : Nat) (b : UInt8) : UInt8 := UInt8.ofNat (((b.toNat : Int) + padF key i) % 256).toNat
theorem u8_wrap (n : Int) : IntKind.u8.wrap n = n % 256 := by simp [IntKind.wrap, IntKind.bits, IntKind.signed]
theorem encB_to (key : Int) (i : Nat) (b : UInt8) : ((encB key i b).toNat : Int) = ((b.toNat : Int) + padF key i) % 256 := by
  unfold encB
  have h := Int.emod_nonneg ((b.toNat : Int) + padF key i) (by decide : (256 : Int) ≠ 0)
  have h2 := Int.emod_lt_of_pos ((b.toNat : Int) + padF key i) (by decide : (0 : Int) < 256)
  simp
  omega
def encryptF (key : Int) (l : List UInt8) : List UInt8 := l.mapIdx fun i b => encB key i b
theorem encryptF_len (key : Int) (l : List UInt8) : (encryptF key l).length = l.length := by simp [encryptF]
theorem encryptF_snoc {key : Int} {l : List UInt8} {k : Nat} (h : k < l.length) : encryptF key (l.take k) ++ [encB key k l[k]] = encryptF key (l.take (k + 1)) := by
  unfold encryptF
  rw [List.take_succ_eq_append_getElem h, List.mapIdx_concat, List.length_take, Nat.min_eq_left (by omega)]
/-- The first k bytes are done. -/
def encAt (key : Int) (l : List UInt8) (k : Nat) : List UInt8 := encryptF key (l.take k) ++ l.drop k
theorem encAt_len {key : Int} {l : List UInt8} {k : Nat} (h : k ≤ l.length) : (encAt key l k).length = l.length := by
  unfold encAt; rw [List.length_append, encryptF_len, List.length_take, List.length_drop]; omega
theorem encAt_get {key : Int} {l : List UInt8} {k : Nat} (h : k < l.length) (h' : k < (encAt key l k).length) : (encAt key l k)[k] = l[k] := by
  have : (encAt key l k)[k]? = l[k]? := by
    unfold encAt
    rw [List.getElem?_append_right (by rw [encryptF_len, List.length_take]; omega)]
    simp [encryptF_len, Nat.min_eq_left (Nat.le_of_lt h)]
  rw [List.getElem?_eq_getElem h', List.getElem?_eq_getElem h] at this
  exact Option.some.inj this
theorem encAt_succ {key : Int} {l : List UInt8} {k : Nat} (h : k < l.length) : (encAt key l k).set k (encB key k l[k]) = encAt key l (k + 1) := by
  have e : l.drop k = l[k] :: l.drop (k + 1) := (List.getElem_cons_drop h).symm
  have hl : (encryptF key (l.take k)).length = k := by rw [encryptF_len, List.length_take]; omega
  unfold encAt
  rw [← encryptF_snoc h, e, List.set_append_right _ _ (by omega), hl, Nat.sub_self, List.set_cons_zero, List.append_assoc]
  rfl
theorem encAt_zero (key : Int) (l : List UInt8) : encAt key l 0 = l := by simp [encAt, encryptF]
theorem encAt_all {key : Int} {l : List UInt8} {k : Nat} (h : ¬ k < l.length) : encAt key l k = encryptF key l := by
  unfold encAt; rw [List.take_of_length_le (by omega), List.drop_of_length_le (by omega), List.append_nil]
attribute [irreducible] encAt encB

theorem oneInt (n : Int) : Hid (∀ (W : World) (k : Nat), k = W.heap.size → Reads (Rep.slice 3 Rep.int) (W.alloc (.cells #[.int .i64 n] 3)) [.slice (some ⟨k, 0, none⟩) 1 1] [n]) := Lib.hid fun W k hk => by
  subst hk
  exact Fresh.reads (B := W.heap.size) (slice_flat_mk (base := W.heap.size) (own_lit (w := W) (xs := #[.int .i64 n]) rfl (by decide)) (fun _ _ => trivial))

set_option maxHeartbeats 800000 in
theorem implCopyBytes (v : Value) (l : List UInt8) (w : World) (h : Reads Rep.bytes w [v] l) (hs : l.length ≤ 4194304) :
    Calls Try.prog 94 #[v] w fun e w' => ∃ v', e = .returned v' ∧ Fresh (Rep.slice 5 Rep.byte) w.heap.size w' [v'] l ∧ Below w.heap.size w w' := by
  have HK : Hid (Reads (Rep.slice 5 Rep.byte) w [v] l) := Lib.hid h
  obtain ⟨fp, h⟩ := h
  obtain ⟨ao, c1, rfl, hm, _, hu⟩ := slice_open h
  clear hu h
  obtain ⟨i0, hi, hz0, hz1, hz2⟩ := info_parts Try.infoByte
  go_enter Try.func94, Try.ntmps94
  go_wp2_with (at_builtin; refine wpList_grow _ rfl _ _ 22 22 rfl FlatR.byte w.heap.size 5 i0 _ _ Try.underlying22 hi hz0 hz1 hz2 rfl _ [] rfl (lit_fresh FlatR.byte (w := _) (xs := #[]) (us := []) rfl rfl (by decide) (by simp) (by simp)) _ l rfl (FlatR.byte.src Try.underlying22 (HK.out.below (by repeat (first | with_reducible exact belR | with_reducible apply belA | (with_reducible refine belS ?_ ?_; focus (first | omega | (simp; done) | (simp; omega))) | with_reducible apply belN | with_reducible apply belD | with_reducible assumption)))) ?c1a ?c2a ?c3a ?c4a ?_)
  case c1a => exact (FlatR.byte.row HK.out).2
  case c2a => (try simp only [List.length_nil, Nat.zero_add]); omega
  case c3a => (try simp only [List.length_nil, Nat.zero_add]); unfold maxLen; omega
  try (case c4a => simp; try omega)
  intro ao1 cap1 w1 hf1 hb1
  have HF1 := Lib.hid hf1
  have HB1 := Lib.hid (Below.trans (by repeat (first | with_reducible exact belR | (with_reducible refine belAB ?_ ?_; focus (first | omega | (simp; done) | (simp; omega))) | (with_reducible refine belS ?_ ?_; focus (first | omega | (simp; done) | (simp; omega))) | with_reducible apply belN | with_reducible apply belD | with_reducible assumption)) hb1 : Below w.heap.size w w1)
  clear hf1 hb1
  go_wp2
  go_ret
  exact ⟨_, rfl, HF1.out, HB1.out⟩

end Go.Proofs.Yteajhmpppciicaa
