/-
  KeyedHash.
-/
import Derived.Test.YteajhmpppciicaaCrypto
import Derived.Test.YteajhmpppciicaaBase
namespace Go.Proofs.Yteajhmpppciicaa
open Go.RowKit

set_option maxHeartbeats 1600000 in
theorem implKeyedHash (key : Int) (v : Value) (l : List Int) (w : World) (h : Reads (Rep.slice 3 Rep.int) w [v] l) (hs : l.length ≤ 4194304) :
    Calls Try.prog 96 #[.int .i64 key, v] w fun e w' => e = .returned (.int .i64 (hashF ([key] ++ l ++ [key]))) ∧ Below w.heap.size w w' := by
  obtain ⟨i0, hi, hz0, hz1, hz2⟩ := info_parts Try.infoInt
  go_enter Try.func96, Try.ntmps96
  go_wp2_with (first | (at_builtin; refine wpList_append_src _ rfl _ _ 94 94 rfl w.heap.size 3 i0 _ 1 8 Try.underlying94 hi hz0 hz1 hz2 rfl _ 1 [.int .i64 key] rfl (own_lit (w := w) (xs := #[.int .i64 key]) rfl (by decide)) _ l.length _ rfl (flat_src (w := w.alloc _) Try.underlying94 (h.below (by repeat (first | with_reducible exact belR | with_reducible apply belA | (with_reducible refine belS ?_ ?_; focus (first | omega | (simp; done) | (simp; omega))) | with_reducible apply belN | with_reducible apply belD | with_reducible assumption))) fun _ => rfl) ?c1 ?c2 ?c3 ?_))
  case c1 => omega
  case c2 => unfold maxLen; omega
  case c3 => simp
  intro ao1 cap1 w1 hown hgrow hbl
  have hown := Lib.hid hown
  have hbel : Below w.heap.size w w1 := (belA belR).trans (grow_below hgrow (by intro b hb; simp [Value.ownBlock] at hb; omega) (by simp))
  have hz := hbel.size
  have HB := Lib.hid hbel; clear hbel
  go_wp2_with (first | (at_builtin; refine wpList_append_src _ rfl _ _ 94 94 rfl w.heap.size 3 i0 _ 1 8 Try.underlying94 hi hz0 hz1 hz2 rfl _ (1 + l.length) _ rfl (own_alloc hown.out) _ 1 [.int .i64 key] rfl (lit_src (w := w1) (size := 1) (xs := #[.int .i64 key]) Try.underlying94 rfl (by intro u hu; simp at hu; subst hu; rfl)) ?c1 ?c2 ?c3 ?_))
  case c1 => omega
  case c2 => unfold maxLen; omega
  case c3 => simp; omega
  intro ao2 cap2 w2 hown2 hgrow2 hbl2
  have hl := World.ownsRow.lt hown.out
  have hbel : Below w.heap.size w w2 := (HB.out.trans ((belA (w := w1) belR).mono hz)).trans (grow_below hgrow2 (fun b hb => (hl b (by simpa using hb)).1) (by simp; omega))
  have hz2' := hbel.size
  have HB2 := Lib.hid hbel; clear hbel HB
  have hR : Reads (Rep.slice 3 Rep.int) w2 [.slice ao2 (1 + l.length + 1) cap2] ([key] ++ l ++ [key]) := by
    refine Fresh.reads (B := w.heap.size) (slice_flat_mk (base := w.heap.size) ?_ (fun _ _ => trivial))
    have e : ([key] ++ l ++ [key]).length = 1 + l.length + 1 := by simp; omega
    rw [e]
    have e2 : ([key] ++ l ++ [key]).map (fun n => Value.int .i64 n) = [.int .i64 key] ++ l.map (fun n => Value.int .i64 n) ++ [.int .i64 key] := by simp
    rw [e2]
    exact hown2
  have HR := Lib.hid hR; clear hR hown2 hown
  go_wp2_with (go_at_call 104; refine (implHash _ _ _ HR.out).mono ?_; rintro e w3 ⟨rfl, hb⟩; have HB3 := Lib.hid (below_call HB2.out hz2' hb); clear hb)
  go_ret
  exact ⟨rfl, HB3.out⟩

set_option maxHeartbeats 1600000 in
theorem specKeyedHash (key : Int) (v : Value) (l : List Int) (w : World) (h : Reads (Rep.slice 3 Rep.int) w [v] l) (hs : l.length ≤ 4194304) :
    Calls Try.prog 98 #[.int .i64 key, v] w fun e w' => e = .returned (.int .i64 (hashF ([key] ++ l ++ [key]))) ∧ Below w.heap.size w w' := by
  obtain ⟨i0, hi, hz0, hz1, hz2⟩ := info_parts Try.infoInt
  go_enter Try.func98, Try.ntmps98
  go_wp2_with (first | (at_builtin; refine wpList_append_src _ rfl _ _ 94 94 rfl w.heap.size 3 i0 _ 1 8 Try.underlying94 hi hz0 hz1 hz2 rfl _ 1 [.int .i64 key] rfl (own_lit (w := w) (xs := #[.int .i64 key]) rfl (by decide)) _ l.length _ rfl (flat_src (w := w.alloc _) Try.underlying94 (h.below (by repeat (first | with_reducible exact belR | with_reducible apply belA | (with_reducible refine belS ?_ ?_; focus (first | omega | (simp; done) | (simp; omega))) | with_reducible apply belN | with_reducible apply belD | with_reducible assumption))) fun _ => rfl) ?c1 ?c2 ?c3 ?_))
  case c1 => omega
  case c2 => unfold maxLen; omega
  case c3 => simp
  intro ao1 cap1 w1 hown hgrow hbl
  have hown := Lib.hid hown
  have hbel : Below w.heap.size w w1 := (belA belR).trans (grow_below hgrow (by intro b hb; simp [Value.ownBlock] at hb; omega) (by simp))
  have hz := hbel.size
  have HB := Lib.hid hbel; clear hbel
  go_wp2_with (first | (at_builtin; refine wpList_append_src _ rfl _ _ 94 94 rfl w.heap.size 3 i0 _ 1 8 Try.underlying94 hi hz0 hz1 hz2 rfl _ (1 + l.length) _ rfl (own_alloc hown.out) _ 1 [.int .i64 key] rfl (lit_src (w := w1) (size := 1) (xs := #[.int .i64 key]) Try.underlying94 rfl (by intro u hu; simp at hu; subst hu; rfl)) ?c1 ?c2 ?c3 ?_))
  case c1 => omega
  case c2 => unfold maxLen; omega
  case c3 => simp; omega
  intro ao2 cap2 w2 hown2 hgrow2 hbl2
  have hl := World.ownsRow.lt hown.out
  have hbel : Below w.heap.size w w2 := (HB.out.trans ((belA (w := w1) belR).mono hz)).trans (grow_below hgrow2 (fun b hb => (hl b (by simpa using hb)).1) (by simp; omega))
  have hz2' := hbel.size
  have HB2 := Lib.hid hbel; clear hbel HB
  have hR : Reads (Rep.slice 3 Rep.int) w2 [.slice ao2 (1 + l.length + 1) cap2] ([key] ++ l ++ [key]) := by
    refine Fresh.reads (B := w.heap.size) (slice_flat_mk (base := w.heap.size) ?_ (fun _ _ => trivial))
    have e : ([key] ++ l ++ [key]).length = 1 + l.length + 1 := by simp; omega
    rw [e]
    have e2 : ([key] ++ l ++ [key]).map (fun n => Value.int .i64 n) = [.int .i64 key] ++ l.map (fun n => Value.int .i64 n) ++ [.int .i64 key] := by simp
    rw [e2]
    exact hown2
  have HR := Lib.hid hR; clear hR hown2 hown
  go_wp2_with (go_at_call 106; refine (specHash _ _ _ HR.out).mono ?_; rintro e w3 ⟨rfl, hb⟩; have HB3 := Lib.hid (below_call HB2.out hz2' hb); clear hb)
  go_ret
  exact ⟨rfl, HB3.out⟩

theorem hashF_ge (l : List Int) : 0 ≤ hashF l ∧ hashF l < 2147483647 := by
  have := hashN_ge l l.length
  rwa [hashN_all l (Nat.le_refl _)] at this

end Go.Proofs.Yteajhmpppciicaa
