/-
  No cell of these rows narrows 'for every input' (looked for: loops, veiled, ifaces, maps, wideKeys, modest, calm, conditions, laid).
  DERIVED. THE GIVEN ROWS OF THIS SEAT. 6 by the template 'for every input the law returns true; each argument reads behind the call as it read before'; 0 by the template 'total and deterministic' (their statements: YtkhfadklfdkdeaaTotals.lean).
  GIVEN WITH THE SEED: the statements are not yours to turn. If you find one false, say at which input.
  Laid BY PROGRAM, IN A SANDBOX (cutbox-rows.mjs): the forced cells as the released guide's own fill.sh prints them over the translation b03b15671ddb5943… (all of the seat's roots in one cut). By AI agents, Wed Nov 11 2026. No macro, syntax, notation, axiom, sorry.
-/
import Derived.Test.YtkhfadklfdkdeaaChecked
import GoSem.Claim
import GoSem.ClaimJoined
import GoSem.ClaimMapViews
import Derived.JoinedTies
import Derived.KernelRfl
namespace Go.Proofs.Ytkhfadklfdkdeaa
/- THE CELL 'sum', in the pinned program and in every row, IS THE sha256 OF THE DUMP (.gsa) THAT YtkhfadklfdkdeaaProg.lean LOADS. Nothing in Lean hashes anything: it is a label: what it is worth is what the hold of that sum in a sandbox is worth. -/
noncomputable def Try.pinned : Pinned := { name := "ytkhfadklfdkdeaa", sum := "b03b15671ddb5943a66ce168db2994416c41bf1efbdd1f0534d929e46606a9f6", checked := Try.checked }
namespace Rows
def none {H : Type} : Left H := { results := [], args := [] }

/-- 'laws.FnExactBackoffOf': WHATEVER THE INPUT: true; the input reads as it did. -/
def fnExactBackoffOfSpec : ChangeSpec := { name := "fnExactBackoffOf", fn := fun _ => fun
  | [d] => { results := [.lit (.bool true)], args := [d] }
  | _ => none }
def fnExactBackoffOfRow : OpenClaim := { program := "ytkhfadklfdkdeaa", sum := "b03b15671ddb5943a66ce168db2994416c41bf1efbdd1f0534d929e46606a9f6", func := "loop.example/g00583/laws.FnExactBackoffOf", spec := "fnExactBackoffOf", apart := false }
def FnExactBackoffOfSaid : Prop := fnExactBackoffOfRow.holds Try.pinned (OpenSpec.ofChange fnExactBackoffOfSpec)

/-- ITS FALSE NEIGHBOUR: 'it returns false'. Refute it at one input. -/
def fnExactBackoffOfWrong : ChangeSpec := { name := "fnExactBackoffOf", fn := fun _ => fun
  | [d] => { results := [.lit (.bool false)], args := [d] }
  | _ => none }
def FnExactBackoffOfWrongFalsely : Prop := fnExactBackoffOfRow.holds Try.pinned (OpenSpec.ofChange fnExactBackoffOfWrong)

/-- 'laws.FnExactIsLockName': WHATEVER THE INPUT: true; the input reads as it did. -/
def fnExactIsLockNameSpec : ChangeSpec := { name := "fnExactIsLockName", fn := fun _ => fun
  | [d] => { results := [.lit (.bool true)], args := [d] }
  | _ => none }
def fnExactIsLockNameRow : OpenClaim := { program := "ytkhfadklfdkdeaa", sum := "b03b15671ddb5943a66ce168db2994416c41bf1efbdd1f0534d929e46606a9f6", func := "loop.example/g00583/laws.FnExactIsLockName", spec := "fnExactIsLockName", apart := false }
def FnExactIsLockNameSaid : Prop := fnExactIsLockNameRow.holds Try.pinned (OpenSpec.ofChange fnExactIsLockNameSpec)

/-- ITS FALSE NEIGHBOUR: 'it returns false'. Refute it at one input. -/
def fnExactIsLockNameWrong : ChangeSpec := { name := "fnExactIsLockName", fn := fun _ => fun
  | [d] => { results := [.lit (.bool false)], args := [d] }
  | _ => none }
def FnExactIsLockNameWrongFalsely : Prop := fnExactIsLockNameRow.holds Try.pinned (OpenSpec.ofChange fnExactIsLockNameWrong)

/-- 'laws.FnExactIsSubscription': WHATEVER THE INPUT: true; the input reads as it did. -/
def fnExactIsSubscriptionSpec : ChangeSpec := { name := "fnExactIsSubscription", fn := fun _ => fun
  | [d] => { results := [.lit (.bool true)], args := [d] }
  | _ => none }
def fnExactIsSubscriptionRow : OpenClaim := { program := "ytkhfadklfdkdeaa", sum := "b03b15671ddb5943a66ce168db2994416c41bf1efbdd1f0534d929e46606a9f6", func := "loop.example/g00583/laws.FnExactIsSubscription", spec := "fnExactIsSubscription", apart := false }
def FnExactIsSubscriptionSaid : Prop := fnExactIsSubscriptionRow.holds Try.pinned (OpenSpec.ofChange fnExactIsSubscriptionSpec)

/-- ITS FALSE NEIGHBOUR: 'it returns false'. Refute it at one input. -/
def fnExactIsSubscriptionWrong : ChangeSpec := { name := "fnExactIsSubscription", fn := fun _ => fun
  | [d] => { results := [.lit (.bool false)], args := [d] }
  | _ => none }
def FnExactIsSubscriptionWrongFalsely : Prop := fnExactIsSubscriptionRow.holds Try.pinned (OpenSpec.ofChange fnExactIsSubscriptionWrong)

/-- 'laws.FnExactPushKey': WHATEVER THE INPUT: true; the input reads as it did. -/
def fnExactPushKeySpec : ChangeSpec := { name := "fnExactPushKey", fn := fun _ => fun
  | [d1, d2] => { results := [.lit (.bool true)], args := [d1, d2] }
  | _ => none }
def fnExactPushKeyRow : OpenClaim := { program := "ytkhfadklfdkdeaa", sum := "b03b15671ddb5943a66ce168db2994416c41bf1efbdd1f0534d929e46606a9f6", func := "loop.example/g00583/laws.FnExactPushKey", spec := "fnExactPushKey", apart := false }
def FnExactPushKeySaid : Prop := fnExactPushKeyRow.holds Try.pinned (OpenSpec.ofChange fnExactPushKeySpec)

/-- ITS FALSE NEIGHBOUR: 'it returns false'. Refute it at one input. -/
def fnExactPushKeyWrong : ChangeSpec := { name := "fnExactPushKey", fn := fun _ => fun
  | [d1, d2] => { results := [.lit (.bool false)], args := [d1, d2] }
  | _ => none }
def FnExactPushKeyWrongFalsely : Prop := fnExactPushKeyRow.holds Try.pinned (OpenSpec.ofChange fnExactPushKeyWrong)

/-- 'laws.FnExactEqualPushes': WHATEVER THE INPUT: true; the input reads as it did. -/
def fnExactEqualPushesSpec : ChangeSpec := { name := "fnExactEqualPushes", fn := fun _ => fun
  | [d1, d2] => { results := [.lit (.bool true)], args := [d1, d2] }
  | _ => none }
def fnExactEqualPushesRow : OpenClaim := { program := "ytkhfadklfdkdeaa", sum := "b03b15671ddb5943a66ce168db2994416c41bf1efbdd1f0534d929e46606a9f6", func := "loop.example/g00583/laws.FnExactEqualPushes", spec := "fnExactEqualPushes", apart := false }
def FnExactEqualPushesSaid : Prop := fnExactEqualPushesRow.holds Try.pinned (OpenSpec.ofChange fnExactEqualPushesSpec)

/-- ITS FALSE NEIGHBOUR: 'it returns false'. Refute it at one input. -/
def fnExactEqualPushesWrong : ChangeSpec := { name := "fnExactEqualPushes", fn := fun _ => fun
  | [d1, d2] => { results := [.lit (.bool false)], args := [d1, d2] }
  | _ => none }
def FnExactEqualPushesWrongFalsely : Prop := fnExactEqualPushesRow.holds Try.pinned (OpenSpec.ofChange fnExactEqualPushesWrong)

/-- 'laws.FnExactIsQueuedWrite': WHATEVER THE INPUT: true; the input reads as it did. -/
def fnExactIsQueuedWriteSpec : ChangeSpec := { name := "fnExactIsQueuedWrite", fn := fun _ => fun
  | [d] => { results := [.lit (.bool true)], args := [d] }
  | _ => none }
def fnExactIsQueuedWriteRow : OpenClaim := { program := "ytkhfadklfdkdeaa", sum := "b03b15671ddb5943a66ce168db2994416c41bf1efbdd1f0534d929e46606a9f6", func := "loop.example/g00583/laws.FnExactIsQueuedWrite", spec := "fnExactIsQueuedWrite", apart := false }
def FnExactIsQueuedWriteSaid : Prop := fnExactIsQueuedWriteRow.holds Try.pinned (OpenSpec.ofChange fnExactIsQueuedWriteSpec)

/-- ITS FALSE NEIGHBOUR: 'it returns false'. Refute it at one input. -/
def fnExactIsQueuedWriteWrong : ChangeSpec := { name := "fnExactIsQueuedWrite", fn := fun _ => fun
  | [d] => { results := [.lit (.bool false)], args := [d] }
  | _ => none }
def FnExactIsQueuedWriteWrongFalsely : Prop := fnExactIsQueuedWriteRow.holds Try.pinned (OpenSpec.ofChange fnExactIsQueuedWriteWrong)

/- THE SECOND FORM. 'bulk': how many values and letters a reading holds, each counted each time it is reached (what is shared counts as often as it is met; a slice's spare places count too). A statement '..UptoSaid' is the law's where the arguments, and the package variables that the reading takes, are together of bulk at most 1048576: NARROWER than '..Said'. Prove '..Said' where nothing that the law and all that it calls make is longer than what came in: it says more and counts as full. Else prove '..UptoSaid'. A law counts once. -/
mutual
def uptoBulk {H : Type} : DataW H → Nat
  | .lit (.string bytes) => bytes.length + 1
  | .lit _ => 1
  | .nil => 1
  | .ptr d => uptoBulk d + 1
  | .slice elems spare => uptoBulkAll elems + uptoBulkAll spare + 1
  | .agg parts => uptoBulkAll parts + 1
  | .iface _ d => uptoBulk d + 1
  | .map entries => uptoBulkEntries entries + 1
  | .held _ => 1
def uptoBulkAll {H : Type} : List (DataW H) → Nat
  | [] => 0
  | d :: r => uptoBulk d + uptoBulkAll r
def uptoBulkEntries {H : Type} : List (Lit × DataW H) → Nat
  | [] => 0
  | x :: r => uptoBulkEntry x + uptoBulkEntries r
def uptoBulkEntry {H : Type} : Lit × DataW H → Nat
  | (.string bytes, d) => bytes.length + uptoBulk d + 1
  | (_, d) => uptoBulk d + 1
 end
def uptoSmall : (H : Type) → List (DataW H) → Bool := fun _ ds => decide (uptoBulkAll ds ≤ 1048576)
def OpenSpec.upto (s : _root_.Go.ChangeSpec) : _root_.Go.OpenSpec := { _root_.Go.OpenSpec.ofChange s with cond := some uptoSmall }

/-- 'laws.FnExactBackoffOf', WHERE WHAT IT READS IS OF BULK AT MOST 1048576: true; the input reads as it did. -/
def fnExactBackoffOfUptoRow : OpenClaim := { program := "ytkhfadklfdkdeaa", sum := "b03b15671ddb5943a66ce168db2994416c41bf1efbdd1f0534d929e46606a9f6", func := "loop.example/g00583/laws.FnExactBackoffOf", spec := "fnExactBackoffOf", apart := false, narrowed := true }
def FnExactBackoffOfUptoSaid : Prop := fnExactBackoffOfUptoRow.holds Try.pinned (OpenSpec.upto fnExactBackoffOfSpec)

/-- 'laws.FnExactIsLockName', WHERE WHAT IT READS IS OF BULK AT MOST 1048576: true; the input reads as it did. -/
def fnExactIsLockNameUptoRow : OpenClaim := { program := "ytkhfadklfdkdeaa", sum := "b03b15671ddb5943a66ce168db2994416c41bf1efbdd1f0534d929e46606a9f6", func := "loop.example/g00583/laws.FnExactIsLockName", spec := "fnExactIsLockName", apart := false, narrowed := true }
def FnExactIsLockNameUptoSaid : Prop := fnExactIsLockNameUptoRow.holds Try.pinned (OpenSpec.upto fnExactIsLockNameSpec)

/-- 'laws.FnExactIsSubscription', WHERE WHAT IT READS IS OF BULK AT MOST 1048576: true; the input reads as it did. -/
def fnExactIsSubscriptionUptoRow : OpenClaim := { program := "ytkhfadklfdkdeaa", sum := "b03b15671ddb5943a66ce168db2994416c41bf1efbdd1f0534d929e46606a9f6", func := "loop.example/g00583/laws.FnExactIsSubscription", spec := "fnExactIsSubscription", apart := false, narrowed := true }
def FnExactIsSubscriptionUptoSaid : Prop := fnExactIsSubscriptionUptoRow.holds Try.pinned (OpenSpec.upto fnExactIsSubscriptionSpec)

/-- 'laws.FnExactPushKey', WHERE WHAT IT READS IS OF BULK AT MOST 1048576: true; the input reads as it did. -/
def fnExactPushKeyUptoRow : OpenClaim := { program := "ytkhfadklfdkdeaa", sum := "b03b15671ddb5943a66ce168db2994416c41bf1efbdd1f0534d929e46606a9f6", func := "loop.example/g00583/laws.FnExactPushKey", spec := "fnExactPushKey", apart := false, narrowed := true }
def FnExactPushKeyUptoSaid : Prop := fnExactPushKeyUptoRow.holds Try.pinned (OpenSpec.upto fnExactPushKeySpec)

/-- 'laws.FnExactEqualPushes', WHERE WHAT IT READS IS OF BULK AT MOST 1048576: true; the input reads as it did. -/
def fnExactEqualPushesUptoRow : OpenClaim := { program := "ytkhfadklfdkdeaa", sum := "b03b15671ddb5943a66ce168db2994416c41bf1efbdd1f0534d929e46606a9f6", func := "loop.example/g00583/laws.FnExactEqualPushes", spec := "fnExactEqualPushes", apart := false, narrowed := true }
def FnExactEqualPushesUptoSaid : Prop := fnExactEqualPushesUptoRow.holds Try.pinned (OpenSpec.upto fnExactEqualPushesSpec)

/-- 'laws.FnExactIsQueuedWrite', WHERE WHAT IT READS IS OF BULK AT MOST 1048576: true; the input reads as it did. -/
def fnExactIsQueuedWriteUptoRow : OpenClaim := { program := "ytkhfadklfdkdeaa", sum := "b03b15671ddb5943a66ce168db2994416c41bf1efbdd1f0534d929e46606a9f6", func := "loop.example/g00583/laws.FnExactIsQueuedWrite", spec := "fnExactIsQueuedWrite", apart := false, narrowed := true }
def FnExactIsQueuedWriteUptoSaid : Prop := fnExactIsQueuedWriteUptoRow.holds Try.pinned (OpenSpec.upto fnExactIsQueuedWriteSpec)

end Rows
end Go.Proofs.Ytkhfadklfdkdeaa
