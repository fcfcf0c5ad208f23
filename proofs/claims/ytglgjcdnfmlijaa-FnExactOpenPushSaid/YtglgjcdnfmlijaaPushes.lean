/-
  Subscriptions and pushes: what the program and the reference both compute.
-/
import Derived.Test.YtglgjcdnfmlijaaCrypto
import Derived.Test.YtglgjcdnfmlijaaBytes
import Derived.Test.YtglgjcdnfmlijaaTSubscription
import Derived.Test.YtglgjcdnfmlijaaTPush
namespace Go.Proofs.Ytglgjcdnfmlijaa
open Go.RowKit

def isValidKeyF (n : Int) : Bool := within n 1 2147483646

set_option maxHeartbeats 400000 in
theorem implIsValidKey (a : Int) (w : World) :
    Calls Try.prog 140 #[.int .i64 a] w fun e w' => e = .returned (.bool (isValidKeyF a)) ∧ w = w' := by
  go_enter Try.func140, Try.ntmps140
  go_wp2_with (go_at_call 80; refine (implInRange _ _ _ _).mono ?_; rintro e w' ⟨rfl, rfl⟩)
  go_ret
  exact ⟨rfl, rfl⟩

set_option maxHeartbeats 400000 in
theorem specIsValidKey (a : Int) (w : World) :
    Calls Try.prog 136 #[.int .i64 a] w fun e w' => e = .returned (.bool (isValidKeyF a)) ∧ w = w' := by
  go_enter Try.func136, Try.ntmps136
  go_wp2_with (go_at_call 77; refine (specIn _ _ _ _).mono ?_; rintro e w' ⟨rfl, rfl⟩)
  go_ret
  exact ⟨rfl, rfl⟩

def isSubscriptionF (x : DSubscription) : Bool := isWordF x.site 8 false && isValidKeyF x.secret && within x.last 0 1000000

set_option maxHeartbeats 1600000 in
theorem implIsSubscription (cs : List Value) (x : DSubscription) (w : World) (h : Reads DSubscription.rep w cs x) :
    Calls Try.prog 86 #[.agg cs.toArray] w fun e w' => e = .returned (.bool (isSubscriptionF x)) ∧ Below w.heap.size w w' := by
  obtain ⟨fp, h⟩ := h
  obtain ⟨rfl, _, s0⟩ := DSubscription.rd.1 h
  clear h
  cases h1 : isWordF x.site 8 false
  case' true => cases h2 : isValidKeyF x.secret
  all_goals
    go_enter Try.func86, Try.ntmps86
    go_wp2_with (first | (go_at_call 80; refine (implInRange _ _ _ _).mono ?_; rintro e w' ⟨rfl, rfl⟩) | (go_at_call 140; refine (implIsValidKey _ _).mono ?_; rintro e w' ⟨rfl, rfl⟩) | (go_at_call 122; refine (implIsName _ s0 _).mono ?_; rintro e w' ⟨rfl, rfl⟩))
    go_ret
    refine ⟨ret_bool ?_, (by repeat (first | with_reducible exact belR | with_reducible apply belA | (with_reducible refine belS ?_ ?_; focus (first | omega | (simp; done) | (simp; omega))) | with_reducible apply belN | with_reducible apply belD | with_reducible assumption))⟩
    simp [isSubscriptionF, *]

set_option maxHeartbeats 1600000 in
theorem specIsSubscription (cs : List Value) (x : DSubscription) (w : World) (h : Reads DSubscription.rep w cs x) :
    Calls Try.prog 82 #[.agg cs.toArray] w fun e w' => e = .returned (.bool (isSubscriptionF x)) ∧ Below w.heap.size w w' := by
  obtain ⟨fp, h⟩ := h
  obtain ⟨rfl, _, s0⟩ := DSubscription.rd.1 h
  clear h
  cases h1 : isWordF x.site 8 false
  case' true => cases h2 : isValidKeyF x.secret
  all_goals
    go_enter Try.func82, Try.ntmps82
    go_wp2_with (first | (go_at_call 77; refine (specIn _ _ _ _).mono ?_; rintro e w' ⟨rfl, rfl⟩) | (go_at_call 136; refine (specIsValidKey _ _).mono ?_; rintro e w' ⟨rfl, rfl⟩) | (go_at_call 133; refine (specIsName _ s0 _).mono ?_; rintro e w' ⟨rfl, rfl⟩))
    go_ret
    refine ⟨ret_bool ?_, (by repeat (first | with_reducible exact belR | with_reducible apply belA | (with_reducible refine belS ?_ ?_; focus (first | omega | (simp; done) | (simp; omega))) | with_reducible apply belN | with_reducible apply belD | with_reducible assumption))⟩
    simp [isSubscriptionF, *]

end Go.Proofs.Ytglgjcdnfmlijaa
