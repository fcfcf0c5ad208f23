/-
  EqualPushes: what the program and the reference both compute.
-/
import Derived.Test.YtmknfobkfimggaaEqualBytes
import Derived.Test.YtmknfobkfimggaaTPush
namespace Go.Proofs.Ytmknfobkfimggaa
open Go.RowKit

def equalPushesF (x y : DPush) : Bool := decide (x.site.toList = y.site.toList) && decide (x.number = y.number) && decide (x.data = y.data) && decide (x.mac = y.mac)

theorem implEqualBytes' (u v : Value) (l m : List UInt8) (w : World) (hu : Reads Rep.bytes w [u] l) (hv : Reads Rep.bytes w [v] m) :
    Calls Try.prog 56 #[u, v] w fun e w' => e = .returned (.bool (decide (l = m))) ∧ Below w.heap.size w w' :=
  (implEqualBytes u v l m w hu hv).mono fun e w' h => by
    obtain ⟨rfl, n, rfl⟩ := h
    exact ⟨rfl, belN belR⟩

set_option maxHeartbeats 1600000 in
theorem implEqualPushes (cs ds : List Value) (x y : DPush) (w : World) (hx : Reads DPush.rep w cs x) (hy : Reads DPush.rep w ds y) :
    Calls Try.prog 15 #[.agg cs.toArray, .agg ds.toArray] w fun e w' => e = .returned (.bool (equalPushesF x y)) ∧ Below w.heap.size w w' := by
  obtain ⟨fp, hx⟩ := hx
  obtain ⟨v1, f1, rfl, _, s0, r0⟩ := DPush.rd.1 hx
  obtain ⟨fp', hy⟩ := hy
  obtain ⟨v2, f2, rfl, _, s1, r1⟩ := DPush.rd.1 hy
  have H1 : Hid (Reads Rep.bytes w [v1] x.data) := ⟨_, r0⟩
  have H2 : Hid (Reads Rep.bytes w [v2] y.data) := ⟨_, r1⟩
  clear hx hy r0 r1
  by_cases h1 : x.site.toList = y.site.toList <;> by_cases h2 : x.number = y.number <;> by_cases h3 : x.mac = y.mac <;> by_cases h4 : x.data = y.data
  all_goals
    go_enter Try.func15, Try.ntmps15
    go_wp2_with (go_at_call 56; refine (implEqualBytes' _ _ _ _ _ (H1.out.below (by repeat (first | with_reducible exact belR | with_reducible apply belA | (with_reducible refine belS ?_ ?_; focus (first | omega | (simp; done) | (simp; omega))) | with_reducible apply belN | with_reducible apply belD | with_reducible assumption))) (H2.out.below (by repeat (first | with_reducible exact belR | with_reducible apply belA | (with_reducible refine belS ?_ ?_; focus (first | omega | (simp; done) | (simp; omega))) | with_reducible apply belN | with_reducible apply belD | with_reducible assumption)))).mono ?_; rintro e w1 ⟨rfl, hb⟩; obtain ⟨hc, hfz⟩ := bcell hb; have hz : w.heap.size < w1.heap.size := (by have q := hb.size; simp at q; omega); have HB := Lib.hid (below_call (w := w) (by repeat (first | with_reducible exact belR | with_reducible apply belA | (with_reducible refine belS ?_ ?_; focus (first | omega | (simp; done) | (simp; omega))) | with_reducible apply belN | with_reducible apply belD | with_reducible assumption)) (by first | omega | (simp; done) | (simp; omega)) hb); clear hb)
    all_goals go_ret
    all_goals refine ⟨ret_bool ?_, ?_⟩
    · simp [equalPushesF, *]
    · first
        | (have q := HB.out; exact (by repeat (first | with_reducible exact belR | with_reducible apply belA | (with_reducible refine belS ?_ ?_; focus (first | omega | (simp; done) | (simp; omega))) | with_reducible apply belN | with_reducible apply belD | with_reducible assumption)))
        | exact (by repeat (first | with_reducible exact belR | with_reducible apply belA | (with_reducible refine belS ?_ ?_; focus (first | omega | (simp; done) | (simp; omega))) | with_reducible apply belN | with_reducible apply belD | with_reducible assumption))

end Go.Proofs.Ytmknfobkfimggaa
