/-
  Subscriptions and pushes: what the program and the reference both compute.
-/
import Derived.Test.YtmknfobkfimggaaCrypto
import Derived.Test.YtmknfobkfimggaaBase
import Derived.Test.YtmknfobkfimggaaTSubscription
import Derived.Test.YtmknfobkfimggaaTPush
namespace Go.Proofs.Ytmknfobkfimggaa
open Go.RowKit

def isValidKeyF (n : Int) : Bool := within n 1 2147483646

set_option maxHeartbeats 400000 in
theorem implIsValidKey (a : Int) (w : World) :
    Calls Try.prog 94 #[.int .i64 a] w fun e w' => e = .returned (.bool (isValidKeyF a)) ∧ w = w' := by
  go_enter Try.func94, Try.ntmps94
  go_wp2_with (go_at_call 44; refine (implInRange _ _ _ _).mono ?_; rintro e w' ⟨rfl, rfl⟩)
  go_ret
  exact ⟨rfl, rfl⟩

set_option maxHeartbeats 400000 in
theorem specIsValidKey (a : Int) (w : World) :
    Calls Try.prog 101 #[.int .i64 a] w fun e w' => e = .returned (.bool (isValidKeyF a)) ∧ w = w' := by
  go_enter Try.func101, Try.ntmps101
  go_wp2_with (go_at_call 52; refine (specIn _ _ _ _).mono ?_; rintro e w' ⟨rfl, rfl⟩)
  go_ret
  exact ⟨rfl, rfl⟩

def isSubscriptionF (x : DSubscription) : Bool := isWordF x.site 8 false && isValidKeyF x.secret && within x.last 0 1000000

set_option maxHeartbeats 1600000 in
theorem implIsSubscription (cs : List Value) (x : DSubscription) (w : World) (h : Reads DSubscription.rep w cs x) :
    Calls Try.prog 43 #[.agg cs.toArray] w fun e w' => e = .returned (.bool (isSubscriptionF x)) ∧ Below w.heap.size w w' := by
  obtain ⟨fp, h⟩ := h
  obtain ⟨rfl, _, s0⟩ := DSubscription.rd.1 h
  clear h
  cases h1 : isWordF x.site 8 false
  case' true => cases h2 : isValidKeyF x.secret
  all_goals
    go_enter Try.func43, Try.ntmps43
    go_wp2_with (first | (go_at_call 44; refine (implInRange _ _ _ _).mono ?_; rintro e w' ⟨rfl, rfl⟩) | (go_at_call 94; refine (implIsValidKey _ _).mono ?_; rintro e w' ⟨rfl, rfl⟩) | (go_at_call 67; refine (implIsName _ s0 _).mono ?_; rintro e w' ⟨rfl, rfl⟩))
    go_ret
    refine ⟨ret_bool ?_, (by repeat (first | with_reducible exact belR | with_reducible apply belA | (with_reducible refine belS ?_ ?_; focus (first | omega | (simp; done) | (simp; omega))) | with_reducible apply belN | with_reducible apply belD | with_reducible assumption))⟩
    simp [isSubscriptionF, *]

set_option maxHeartbeats 1600000 in
theorem specIsSubscription (cs : List Value) (x : DSubscription) (w : World) (h : Reads DSubscription.rep w cs x) :
    Calls Try.prog 51 #[.agg cs.toArray] w fun e w' => e = .returned (.bool (isSubscriptionF x)) ∧ Below w.heap.size w w' := by
  obtain ⟨fp, h⟩ := h
  obtain ⟨rfl, _, s0⟩ := DSubscription.rd.1 h
  clear h
  cases h1 : isWordF x.site 8 false
  case' true => cases h2 : isValidKeyF x.secret
  all_goals
    go_enter Try.func51, Try.ntmps51
    go_wp2_with (first | (go_at_call 52; refine (specIn _ _ _ _).mono ?_; rintro e w' ⟨rfl, rfl⟩) | (go_at_call 101; refine (specIsValidKey _ _).mono ?_; rintro e w' ⟨rfl, rfl⟩) | (go_at_call 100; refine (specIsName _ s0 _).mono ?_; rintro e w' ⟨rfl, rfl⟩))
    go_ret
    refine ⟨ret_bool ?_, (by repeat (first | with_reducible exact belR | with_reducible apply belA | (with_reducible refine belS ?_ ?_; focus (first | omega | (simp; done) | (simp; omega))) | with_reducible apply belN | with_reducible apply belD | with_reducible assumption))⟩
    simp [isSubscriptionF, *]

end Go.Proofs.Ytmknfobkfimggaa
