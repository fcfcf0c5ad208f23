/-
  The key of a push.
-/
import Derived.Test.YtmknfobkfimggaaKeyed
import Derived.Test.YtmknfobkfimggaaPushes
namespace Go.Proofs.Ytmknfobkfimggaa
open Go.RowKit

def pushKeyF (x : DSubscription) (n : Int) : Int := 1 + hashF [x.secret, 113, n, x.secret] % 2147483646

set_option maxHeartbeats 400000 in
theorem implPushKey (cs : List Value) (x : DSubscription) (n : Int) (w : World) (h : Reads DSubscription.rep w cs x) :
    Calls Try.prog 46 #[.agg cs.toArray, .int .i64 n] w fun e w' => e = .returned (.int .i64 (pushKeyF x n)) ∧ Below w.heap.size w w' := by
  obtain ⟨fp, h⟩ := h
  obtain ⟨rfl, _, s0⟩ := DSubscription.rd.1 h
  clear h
  go_enter Try.func46, Try.ntmps46
  go_wp2_with fail
  have hR : ∀ (W : World) (k : Nat), k = W.heap.size → Reads (Rep.slice 3 Rep.int) (W.alloc (.cells #[.int .i64 113, .int .i64 n] 3)) [.slice (some ⟨k, 0, none⟩) 2 2] [113, n] := fun W k hk => by
    subst hk; exact
    Fresh.reads (B := W.heap.size) (slice_flat_mk (base := W.heap.size) (own_lit (w := W) (xs := #[.int .i64 113, .int .i64 n]) rfl (by decide)) (fun _ _ => trivial))
  refine (implKeyedHash _ _ _ _ (hR _ _ (by simp)) (by simp)).mono ?_
  rintro e w1 ⟨rfl, hb⟩
  have HB := Lib.hid (below_call (w := w) (by repeat (first | with_reducible exact belR | with_reducible apply belA | (with_reducible refine belS ?_ ?_; focus (first | omega | (simp; done) | (simp; omega))) | with_reducible apply belN | with_reducible apply belD | with_reducible assumption)) (by first | omega | (simp; done) | (simp; omega)) hb); clear hb
  have hh := hashF_ge ([x.secret, 113, n, x.secret])
  go_wp2
  go_ret
  have y := HB.out
  refine ⟨ret_int ?_, (by repeat (first | with_reducible exact belR | with_reducible apply belA | (with_reducible refine belS ?_ ?_; focus (first | omega | (simp; done) | (simp; omega))) | with_reducible apply belN | with_reducible apply belD | with_reducible assumption))⟩
  unfold pushKeyF
  rfl

set_option maxHeartbeats 400000 in
theorem specPushKey (cs : List Value) (x : DSubscription) (n : Int) (w : World) (h : Reads DSubscription.rep w cs x) :
    Calls Try.prog 55 #[.agg cs.toArray, .int .i64 n] w fun e w' => e = .returned (.int .i64 (pushKeyF x n)) ∧ Below w.heap.size w w' := by
  obtain ⟨fp, h⟩ := h
  obtain ⟨rfl, _, s0⟩ := DSubscription.rd.1 h
  clear h
  go_enter Try.func55, Try.ntmps55
  go_wp2_with fail
  have hR : ∀ (W : World) (k : Nat), k = W.heap.size → Reads (Rep.slice 3 Rep.int) (W.alloc (.cells #[.int .i64 113, .int .i64 n] 3)) [.slice (some ⟨k, 0, none⟩) 2 2] [113, n] := fun W k hk => by
    subst hk; exact
    Fresh.reads (B := W.heap.size) (slice_flat_mk (base := W.heap.size) (own_lit (w := W) (xs := #[.int .i64 113, .int .i64 n]) rfl (by decide)) (fun _ _ => trivial))
  refine (specKeyedHash _ _ _ _ (hR _ _ (by simp)) (by simp)).mono ?_
  rintro e w1 ⟨rfl, hb⟩
  have HB := Lib.hid (below_call (w := w) (by repeat (first | with_reducible exact belR | with_reducible apply belA | (with_reducible refine belS ?_ ?_; focus (first | omega | (simp; done) | (simp; omega))) | with_reducible apply belN | with_reducible apply belD | with_reducible assumption)) (by first | omega | (simp; done) | (simp; omega)) hb); clear hb
  have hh := hashF_ge ([x.secret, 113, n, x.secret])
  go_wp2
  go_ret
  have y := HB.out
  refine ⟨ret_int ?_, (by repeat (first | with_reducible exact belR | with_reducible apply belA | (with_reducible refine belS ?_ ?_; focus (first | omega | (simp; done) | (simp; omega))) | with_reducible apply belN | with_reducible apply belD | with_reducible assumption))⟩
  unfold pushKeyF
  rfl

end Go.Proofs.Ytmknfobkfimggaa
