/-
  Lock names.
-/
import Derived.Test.YtamdjeajmfjfmaaBase
namespace Go.Proofs.Ytamdjeajmfjfmaa
open Go.RowKit

set_option maxHeartbeats 400000 in
theorem implIsLockName (s : ByteArray) (hs : s.size ≤ maxLen) (w : World) :
    Calls Try.prog 57 #[.string s] w fun e w' => e = .returned (.bool (isWordF s 30 true)) ∧ w = w' := by
  go_enter Try.func57, Try.ntmps57
  go_wp2_with (go_at_call 101; refine (implIsWord _ _ _ hs _).mono ?_; rintro e w' ⟨rfl, rfl⟩)
  go_ret
  exact ⟨rfl, rfl⟩

end Go.Proofs.Ytamdjeajmfjfmaa
