/-
  No cell of these rows narrows 'for every input' (looked for: loops, veiled, ifaces, maps, wideKeys, modest, calm, conditions, laid).
  DERIVED. THE GIVEN ROWS OF THIS SEAT. 12 by the template 'for every input the law returns true; each argument reads behind the call as it read before'; 0 by the template 'total and deterministic' (their statements: YtglgjcdnfmlijaaTotals.lean).
  GIVEN WITH THE SEED: the statements are not yours to turn. If you find one false, say at which input.
  Laid BY PROGRAM, IN A SANDBOX (cutbox-rows.mjs): the forced cells as the released guide's own fill.sh prints them over the translation 7b0102be2f318b75… (all of the seat's roots in one cut). By AI agents, Wed Nov 11 2026. No macro, syntax, notation, axiom, sorry.
-/
import Derived.Test.YtglgjcdnfmlijaaChecked
import GoSem.Claim
import GoSem.ClaimJoined
import GoSem.ClaimMapViews
import Derived.JoinedTies
import Derived.KernelRfl
namespace Go.Proofs.Ytglgjcdnfmlijaa
/- THE CELL 'sum', in the pinned program and in every row, IS THE sha256 OF THE DUMP (.gsa) THAT YtglgjcdnfmlijaaProg.lean LOADS. Nothing in Lean hashes anything: it is a label: what it is worth is what the hold of that sum in a sandbox is worth. -/
noncomputable def Try.pinned : Pinned := { name := "ytglgjcdnfmlijaa", sum := "7b0102be2f318b7573d07ca3524947d65b88573c3d2b612b20cb8a1a387bdba6", checked := Try.checked }
namespace Rows
def none {H : Type} : Left H := { results := [], args := [] }

/-- 'laws.FnExactIsOutbox': WHATEVER THE INPUT: true; the input reads as it did. -/
def fnExactIsOutboxSpec : ChangeSpec := { name := "fnExactIsOutbox", fn := fun _ => fun
  | [d] => { results := [.lit (.bool true)], args := [d] }
  | _ => none }
def fnExactIsOutboxRow : OpenClaim := { program := "ytglgjcdnfmlijaa", sum := "7b0102be2f318b7573d07ca3524947d65b88573c3d2b612b20cb8a1a387bdba6", func := "loop.example/g00583/laws.FnExactIsOutbox", spec := "fnExactIsOutbox", apart := false }
def FnExactIsOutboxSaid : Prop := fnExactIsOutboxRow.holds Try.pinned (OpenSpec.ofChange fnExactIsOutboxSpec)

/-- ITS FALSE NEIGHBOUR: 'it returns false'. Refute it at one input. -/
def fnExactIsOutboxWrong : ChangeSpec := { name := "fnExactIsOutbox", fn := fun _ => fun
  | [d] => { results := [.lit (.bool false)], args := [d] }
  | _ => none }
def FnExactIsOutboxWrongFalsely : Prop := fnExactIsOutboxRow.holds Try.pinned (OpenSpec.ofChange fnExactIsOutboxWrong)

/-- 'laws.FnExactSealPush': WHATEVER THE INPUT: true; the input reads as it did. -/
def fnExactSealPushSpec : ChangeSpec := { name := "fnExactSealPush", fn := fun _ => fun
  | [d1, d2, d3] => { results := [.lit (.bool true)], args := [d1, d2, d3] }
  | _ => none }
def fnExactSealPushRow : OpenClaim := { program := "ytglgjcdnfmlijaa", sum := "7b0102be2f318b7573d07ca3524947d65b88573c3d2b612b20cb8a1a387bdba6", func := "loop.example/g00583/laws.FnExactSealPush", spec := "fnExactSealPush", apart := false }
def FnExactSealPushSaid : Prop := fnExactSealPushRow.holds Try.pinned (OpenSpec.ofChange fnExactSealPushSpec)

/-- ITS FALSE NEIGHBOUR: 'it returns false'. Refute it at one input. -/
def fnExactSealPushWrong : ChangeSpec := { name := "fnExactSealPush", fn := fun _ => fun
  | [d1, d2, d3] => { results := [.lit (.bool false)], args := [d1, d2, d3] }
  | _ => none }
def FnExactSealPushWrongFalsely : Prop := fnExactSealPushRow.holds Try.pinned (OpenSpec.ofChange fnExactSealPushWrong)

/-- 'laws.FnExactReleaseLocks': WHATEVER THE INPUT: true; the input reads as it did. -/
def fnExactReleaseLocksSpec : ChangeSpec := { name := "fnExactReleaseLocks", fn := fun _ => fun
  | [d1, d2] => { results := [.lit (.bool true)], args := [d1, d2] }
  | _ => none }
def fnExactReleaseLocksRow : OpenClaim := { program := "ytglgjcdnfmlijaa", sum := "7b0102be2f318b7573d07ca3524947d65b88573c3d2b612b20cb8a1a387bdba6", func := "loop.example/g00583/laws.FnExactReleaseLocks", spec := "fnExactReleaseLocks", unfollowed := true, recurses := true, apart := false }
def FnExactReleaseLocksSaid : Prop := fnExactReleaseLocksRow.holds Try.pinned (OpenSpec.ofChange fnExactReleaseLocksSpec)

/-- ITS FALSE NEIGHBOUR: 'it returns false'. Refute it at one input. -/
def fnExactReleaseLocksWrong : ChangeSpec := { name := "fnExactReleaseLocks", fn := fun _ => fun
  | [d1, d2] => { results := [.lit (.bool false)], args := [d1, d2] }
  | _ => none }
def FnExactReleaseLocksWrongFalsely : Prop := fnExactReleaseLocksRow.holds Try.pinned (OpenSpec.ofChange fnExactReleaseLocksWrong)

/-- 'laws.FnExactNewOutbox': WHATEVER THE INPUT: true; the input reads as it did. -/
def fnExactNewOutboxSpec : ChangeSpec := { name := "fnExactNewOutbox", fn := fun _ => fun
  | [d] => { results := [.lit (.bool true)], args := [d] }
  | _ => none }
def fnExactNewOutboxRow : OpenClaim := { program := "ytglgjcdnfmlijaa", sum := "7b0102be2f318b7573d07ca3524947d65b88573c3d2b612b20cb8a1a387bdba6", func := "loop.example/g00583/laws.FnExactNewOutbox", spec := "fnExactNewOutbox", apart := false }
def FnExactNewOutboxSaid : Prop := fnExactNewOutboxRow.holds Try.pinned (OpenSpec.ofChange fnExactNewOutboxSpec)

/-- ITS FALSE NEIGHBOUR: 'it returns false'. Refute it at one input. -/
def fnExactNewOutboxWrong : ChangeSpec := { name := "fnExactNewOutbox", fn := fun _ => fun
  | [d] => { results := [.lit (.bool false)], args := [d] }
  | _ => none }
def FnExactNewOutboxWrongFalsely : Prop := fnExactNewOutboxRow.holds Try.pinned (OpenSpec.ofChange fnExactNewOutboxWrong)

/-- 'laws.FnExactRequestLock': WHATEVER THE INPUT: true; the input reads as it did. -/
def fnExactRequestLockSpec : ChangeSpec := { name := "fnExactRequestLock", fn := fun _ => fun
  | [d1, d2, d3, d4] => { results := [.lit (.bool true)], args := [d1, d2, d3, d4] }
  | _ => none }
def fnExactRequestLockRow : OpenClaim := { program := "ytglgjcdnfmlijaa", sum := "7b0102be2f318b7573d07ca3524947d65b88573c3d2b612b20cb8a1a387bdba6", func := "loop.example/g00583/laws.FnExactRequestLock", spec := "fnExactRequestLock", apart := false }
def FnExactRequestLockSaid : Prop := fnExactRequestLockRow.holds Try.pinned (OpenSpec.ofChange fnExactRequestLockSpec)

/-- ITS FALSE NEIGHBOUR: 'it returns false'. Refute it at one input. -/
def fnExactRequestLockWrong : ChangeSpec := { name := "fnExactRequestLock", fn := fun _ => fun
  | [d1, d2, d3, d4] => { results := [.lit (.bool false)], args := [d1, d2, d3, d4] }
  | _ => none }
def FnExactRequestLockWrongFalsely : Prop := fnExactRequestLockRow.holds Try.pinned (OpenSpec.ofChange fnExactRequestLockWrong)

/-- 'laws.FnExactOpenPush': WHATEVER THE INPUT: true; the input reads as it did. -/
def fnExactOpenPushSpec : ChangeSpec := { name := "fnExactOpenPush", fn := fun _ => fun
  | [d1, d2] => { results := [.lit (.bool true)], args := [d1, d2] }
  | _ => none }
def fnExactOpenPushRow : OpenClaim := { program := "ytglgjcdnfmlijaa", sum := "7b0102be2f318b7573d07ca3524947d65b88573c3d2b612b20cb8a1a387bdba6", func := "loop.example/g00583/laws.FnExactOpenPush", spec := "fnExactOpenPush", apart := false }
def FnExactOpenPushSaid : Prop := fnExactOpenPushRow.holds Try.pinned (OpenSpec.ofChange fnExactOpenPushSpec)

/-- ITS FALSE NEIGHBOUR: 'it returns false'. Refute it at one input. -/
def fnExactOpenPushWrong : ChangeSpec := { name := "fnExactOpenPush", fn := fun _ => fun
  | [d1, d2] => { results := [.lit (.bool false)], args := [d1, d2] }
  | _ => none }
def FnExactOpenPushWrongFalsely : Prop := fnExactOpenPushRow.holds Try.pinned (OpenSpec.ofChange fnExactOpenPushWrong)

/-- 'laws.FnPushes': WHATEVER THE INPUT: true; the input reads as it did. -/
def fnPushesSpec : ChangeSpec := { name := "fnPushes", fn := fun _ => fun
  | [d] => { results := [.lit (.bool true)], args := [d] }
  | _ => none }
def fnPushesRow : OpenClaim := { program := "ytglgjcdnfmlijaa", sum := "7b0102be2f318b7573d07ca3524947d65b88573c3d2b612b20cb8a1a387bdba6", func := "loop.example/g00583/laws.FnPushes", spec := "fnPushes", apart := false }
def FnPushesSaid : Prop := fnPushesRow.holds Try.pinned (OpenSpec.ofChange fnPushesSpec)

/-- ITS FALSE NEIGHBOUR: 'it returns false'. Refute it at one input. -/
def fnPushesWrong : ChangeSpec := { name := "fnPushes", fn := fun _ => fun
  | [d] => { results := [.lit (.bool false)], args := [d] }
  | _ => none }
def FnPushesWrongFalsely : Prop := fnPushesRow.holds Try.pinned (OpenSpec.ofChange fnPushesWrong)

/-- 'laws.FnOutboxes': WHATEVER THE INPUT: true; the input reads as it did. -/
def fnOutboxesSpec : ChangeSpec := { name := "fnOutboxes", fn := fun _ => fun
  | [d] => { results := [.lit (.bool true)], args := [d] }
  | _ => none }
def fnOutboxesRow : OpenClaim := { program := "ytglgjcdnfmlijaa", sum := "7b0102be2f318b7573d07ca3524947d65b88573c3d2b612b20cb8a1a387bdba6", func := "loop.example/g00583/laws.FnOutboxes", spec := "fnOutboxes", unfollowed := true, recurses := true, apart := false }
def FnOutboxesSaid : Prop := fnOutboxesRow.holds Try.pinned (OpenSpec.ofChange fnOutboxesSpec)

/-- ITS FALSE NEIGHBOUR: 'it returns false'. Refute it at one input. -/
def fnOutboxesWrong : ChangeSpec := { name := "fnOutboxes", fn := fun _ => fun
  | [d] => { results := [.lit (.bool false)], args := [d] }
  | _ => none }
def FnOutboxesWrongFalsely : Prop := fnOutboxesRow.holds Try.pinned (OpenSpec.ofChange fnOutboxesWrong)

/-- 'laws.FnExactEnqueueWrite': WHATEVER THE INPUT: true; the input reads as it did. -/
def fnExactEnqueueWriteSpec : ChangeSpec := { name := "fnExactEnqueueWrite", fn := fun _ => fun
  | [d1, d2, d3, d4] => { results := [.lit (.bool true)], args := [d1, d2, d3, d4] }
  | _ => none }
def fnExactEnqueueWriteRow : OpenClaim := { program := "ytglgjcdnfmlijaa", sum := "7b0102be2f318b7573d07ca3524947d65b88573c3d2b612b20cb8a1a387bdba6", func := "loop.example/g00583/laws.FnExactEnqueueWrite", spec := "fnExactEnqueueWrite", apart := false }
def FnExactEnqueueWriteSaid : Prop := fnExactEnqueueWriteRow.holds Try.pinned (OpenSpec.ofChange fnExactEnqueueWriteSpec)

/-- ITS FALSE NEIGHBOUR: 'it returns false'. Refute it at one input. -/
def fnExactEnqueueWriteWrong : ChangeSpec := { name := "fnExactEnqueueWrite", fn := fun _ => fun
  | [d1, d2, d3, d4] => { results := [.lit (.bool false)], args := [d1, d2, d3, d4] }
  | _ => none }
def FnExactEnqueueWriteWrongFalsely : Prop := fnExactEnqueueWriteRow.holds Try.pinned (OpenSpec.ofChange fnExactEnqueueWriteWrong)

/-- 'laws.FnExactAckWrites': WHATEVER THE INPUT: true; the input reads as it did. -/
def fnExactAckWritesSpec : ChangeSpec := { name := "fnExactAckWrites", fn := fun _ => fun
  | [d1, d2] => { results := [.lit (.bool true)], args := [d1, d2] }
  | _ => none }
def fnExactAckWritesRow : OpenClaim := { program := "ytglgjcdnfmlijaa", sum := "7b0102be2f318b7573d07ca3524947d65b88573c3d2b612b20cb8a1a387bdba6", func := "loop.example/g00583/laws.FnExactAckWrites", spec := "fnExactAckWrites", unfollowed := true, recurses := true, apart := false }
def FnExactAckWritesSaid : Prop := fnExactAckWritesRow.holds Try.pinned (OpenSpec.ofChange fnExactAckWritesSpec)

/-- ITS FALSE NEIGHBOUR: 'it returns false'. Refute it at one input. -/
def fnExactAckWritesWrong : ChangeSpec := { name := "fnExactAckWrites", fn := fun _ => fun
  | [d1, d2] => { results := [.lit (.bool false)], args := [d1, d2] }
  | _ => none }
def FnExactAckWritesWrongFalsely : Prop := fnExactAckWritesRow.holds Try.pinned (OpenSpec.ofChange fnExactAckWritesWrong)

/-- 'laws.FnExactDropOld': WHATEVER THE INPUT: true; the input reads as it did. -/
def fnExactDropOldSpec : ChangeSpec := { name := "fnExactDropOld", fn := fun _ => fun
  | [d1, d2] => { results := [.lit (.bool true)], args := [d1, d2] }
  | _ => none }
def fnExactDropOldRow : OpenClaim := { program := "ytglgjcdnfmlijaa", sum := "7b0102be2f318b7573d07ca3524947d65b88573c3d2b612b20cb8a1a387bdba6", func := "loop.example/g00583/laws.FnExactDropOld", spec := "fnExactDropOld", apart := false }
def FnExactDropOldSaid : Prop := fnExactDropOldRow.holds Try.pinned (OpenSpec.ofChange fnExactDropOldSpec)

/-- ITS FALSE NEIGHBOUR: 'it returns false'. Refute it at one input. -/
def fnExactDropOldWrong : ChangeSpec := { name := "fnExactDropOld", fn := fun _ => fun
  | [d1, d2] => { results := [.lit (.bool false)], args := [d1, d2] }
  | _ => none }
def FnExactDropOldWrongFalsely : Prop := fnExactDropOldRow.holds Try.pinned (OpenSpec.ofChange fnExactDropOldWrong)

/-- 'laws.FnExactIsConfirmed': WHATEVER THE INPUT: true; the input reads as it did. -/
def fnExactIsConfirmedSpec : ChangeSpec := { name := "fnExactIsConfirmed", fn := fun _ => fun
  | [d] => { results := [.lit (.bool true)], args := [d] }
  | _ => none }
def fnExactIsConfirmedRow : OpenClaim := { program := "ytglgjcdnfmlijaa", sum := "7b0102be2f318b7573d07ca3524947d65b88573c3d2b612b20cb8a1a387bdba6", func := "loop.example/g00583/laws.FnExactIsConfirmed", spec := "fnExactIsConfirmed", apart := false }
def FnExactIsConfirmedSaid : Prop := fnExactIsConfirmedRow.holds Try.pinned (OpenSpec.ofChange fnExactIsConfirmedSpec)

/-- ITS FALSE NEIGHBOUR: 'it returns false'. Refute it at one input. -/
def fnExactIsConfirmedWrong : ChangeSpec := { name := "fnExactIsConfirmed", fn := fun _ => fun
  | [d] => { results := [.lit (.bool false)], args := [d] }
  | _ => none }
def FnExactIsConfirmedWrongFalsely : Prop := fnExactIsConfirmedRow.holds Try.pinned (OpenSpec.ofChange fnExactIsConfirmedWrong)

/- THE SECOND FORM. 'bulk': how many values and letters a reading holds, each counted each time it is reached (what is shared counts as often as it is met; a slice's spare places count too). A statement '..UptoSaid' is the law's where the arguments, and the package variables that the reading takes, are together of bulk at most 1048576: NARROWER than '..Said'. Prove '..Said' where nothing that the law and all that it calls make is longer than what came in: it says more and counts as full. Else prove '..UptoSaid'. A law counts once. -/
mutual
def uptoBulk {H : Type} : DataW H → Nat
  | .lit (.string bytes) => bytes.length + 1
  | .lit _ => 1
  | .nil => 1
  | .ptr d => uptoBulk d + 1
  | .slice elems spare => uptoBulkAll elems + uptoBulkAll spare + 1
  | .agg parts => uptoBulkAll parts + 1
  | .iface _ d => uptoBulk d + 1
  | .map entries => uptoBulkEntries entries + 1
  | .held _ => 1
def uptoBulkAll {H : Type} : List (DataW H) → Nat
  | [] => 0
  | d :: r => uptoBulk d + uptoBulkAll r
def uptoBulkEntries {H : Type} : List (Lit × DataW H) → Nat
  | [] => 0
  | x :: r => uptoBulkEntry x + uptoBulkEntries r
def uptoBulkEntry {H : Type} : Lit × DataW H → Nat
  | (.string bytes, d) => bytes.length + uptoBulk d + 1
  | (_, d) => uptoBulk d + 1
 end
def uptoSmall : (H : Type) → List (DataW H) → Bool := fun _ ds => decide (uptoBulkAll ds ≤ 1048576)
def OpenSpec.upto (s : _root_.Go.ChangeSpec) : _root_.Go.OpenSpec := { _root_.Go.OpenSpec.ofChange s with cond := some uptoSmall }

/-- 'laws.FnExactIsOutbox', WHERE WHAT IT READS IS OF BULK AT MOST 1048576: true; the input reads as it did. -/
def fnExactIsOutboxUptoRow : OpenClaim := { program := "ytglgjcdnfmlijaa", sum := "7b0102be2f318b7573d07ca3524947d65b88573c3d2b612b20cb8a1a387bdba6", func := "loop.example/g00583/laws.FnExactIsOutbox", spec := "fnExactIsOutbox", apart := false, narrowed := true }
def FnExactIsOutboxUptoSaid : Prop := fnExactIsOutboxUptoRow.holds Try.pinned (OpenSpec.upto fnExactIsOutboxSpec)

/-- 'laws.FnExactSealPush', WHERE WHAT IT READS IS OF BULK AT MOST 1048576: true; the input reads as it did. -/
def fnExactSealPushUptoRow : OpenClaim := { program := "ytglgjcdnfmlijaa", sum := "7b0102be2f318b7573d07ca3524947d65b88573c3d2b612b20cb8a1a387bdba6", func := "loop.example/g00583/laws.FnExactSealPush", spec := "fnExactSealPush", apart := false, narrowed := true }
def FnExactSealPushUptoSaid : Prop := fnExactSealPushUptoRow.holds Try.pinned (OpenSpec.upto fnExactSealPushSpec)

/-- 'laws.FnExactReleaseLocks', WHERE WHAT IT READS IS OF BULK AT MOST 1048576: true; the input reads as it did. -/
def fnExactReleaseLocksUptoRow : OpenClaim := { program := "ytglgjcdnfmlijaa", sum := "7b0102be2f318b7573d07ca3524947d65b88573c3d2b612b20cb8a1a387bdba6", func := "loop.example/g00583/laws.FnExactReleaseLocks", spec := "fnExactReleaseLocks", unfollowed := true, recurses := true, apart := false, narrowed := true }
def FnExactReleaseLocksUptoSaid : Prop := fnExactReleaseLocksUptoRow.holds Try.pinned (OpenSpec.upto fnExactReleaseLocksSpec)

/-- 'laws.FnExactNewOutbox', WHERE WHAT IT READS IS OF BULK AT MOST 1048576: true; the input reads as it did. -/
def fnExactNewOutboxUptoRow : OpenClaim := { program := "ytglgjcdnfmlijaa", sum := "7b0102be2f318b7573d07ca3524947d65b88573c3d2b612b20cb8a1a387bdba6", func := "loop.example/g00583/laws.FnExactNewOutbox", spec := "fnExactNewOutbox", apart := false, narrowed := true }
def FnExactNewOutboxUptoSaid : Prop := fnExactNewOutboxUptoRow.holds Try.pinned (OpenSpec.upto fnExactNewOutboxSpec)

/-- 'laws.FnExactRequestLock', WHERE WHAT IT READS IS OF BULK AT MOST 1048576: true; the input reads as it did. -/
def fnExactRequestLockUptoRow : OpenClaim := { program := "ytglgjcdnfmlijaa", sum := "7b0102be2f318b7573d07ca3524947d65b88573c3d2b612b20cb8a1a387bdba6", func := "loop.example/g00583/laws.FnExactRequestLock", spec := "fnExactRequestLock", apart := false, narrowed := true }
def FnExactRequestLockUptoSaid : Prop := fnExactRequestLockUptoRow.holds Try.pinned (OpenSpec.upto fnExactRequestLockSpec)

/-- 'laws.FnExactOpenPush', WHERE WHAT IT READS IS OF BULK AT MOST 1048576: true; the input reads as it did. -/
def fnExactOpenPushUptoRow : OpenClaim := { program := "ytglgjcdnfmlijaa", sum := "7b0102be2f318b7573d07ca3524947d65b88573c3d2b612b20cb8a1a387bdba6", func := "loop.example/g00583/laws.FnExactOpenPush", spec := "fnExactOpenPush", apart := false, narrowed := true }
def FnExactOpenPushUptoSaid : Prop := fnExactOpenPushUptoRow.holds Try.pinned (OpenSpec.upto fnExactOpenPushSpec)

/-- 'laws.FnPushes', WHERE WHAT IT READS IS OF BULK AT MOST 1048576: true; the input reads as it did. -/
def fnPushesUptoRow : OpenClaim := { program := "ytglgjcdnfmlijaa", sum := "7b0102be2f318b7573d07ca3524947d65b88573c3d2b612b20cb8a1a387bdba6", func := "loop.example/g00583/laws.FnPushes", spec := "fnPushes", apart := false, narrowed := true }
def FnPushesUptoSaid : Prop := fnPushesUptoRow.holds Try.pinned (OpenSpec.upto fnPushesSpec)

/-- 'laws.FnOutboxes', WHERE WHAT IT READS IS OF BULK AT MOST 1048576: true; the input reads as it did. -/
def fnOutboxesUptoRow : OpenClaim := { program := "ytglgjcdnfmlijaa", sum := "7b0102be2f318b7573d07ca3524947d65b88573c3d2b612b20cb8a1a387bdba6", func := "loop.example/g00583/laws.FnOutboxes", spec := "fnOutboxes", unfollowed := true, recurses := true, apart := false, narrowed := true }
def FnOutboxesUptoSaid : Prop := fnOutboxesUptoRow.holds Try.pinned (OpenSpec.upto fnOutboxesSpec)

/-- 'laws.FnExactEnqueueWrite', WHERE WHAT IT READS IS OF BULK AT MOST 1048576: true; the input reads as it did. -/
def fnExactEnqueueWriteUptoRow : OpenClaim := { program := "ytglgjcdnfmlijaa", sum := "7b0102be2f318b7573d07ca3524947d65b88573c3d2b612b20cb8a1a387bdba6", func := "loop.example/g00583/laws.FnExactEnqueueWrite", spec := "fnExactEnqueueWrite", apart := false, narrowed := true }
def FnExactEnqueueWriteUptoSaid : Prop := fnExactEnqueueWriteUptoRow.holds Try.pinned (OpenSpec.upto fnExactEnqueueWriteSpec)

/-- 'laws.FnExactAckWrites', WHERE WHAT IT READS IS OF BULK AT MOST 1048576: true; the input reads as it did. -/
def fnExactAckWritesUptoRow : OpenClaim := { program := "ytglgjcdnfmlijaa", sum := "7b0102be2f318b7573d07ca3524947d65b88573c3d2b612b20cb8a1a387bdba6", func := "loop.example/g00583/laws.FnExactAckWrites", spec := "fnExactAckWrites", unfollowed := true, recurses := true, apart := false, narrowed := true }
def FnExactAckWritesUptoSaid : Prop := fnExactAckWritesUptoRow.holds Try.pinned (OpenSpec.upto fnExactAckWritesSpec)

/-- 'laws.FnExactDropOld', WHERE WHAT IT READS IS OF BULK AT MOST 1048576: true; the input reads as it did. -/
def fnExactDropOldUptoRow : OpenClaim := { program := "ytglgjcdnfmlijaa", sum := "7b0102be2f318b7573d07ca3524947d65b88573c3d2b612b20cb8a1a387bdba6", func := "loop.example/g00583/laws.FnExactDropOld", spec := "fnExactDropOld", apart := false, narrowed := true }
def FnExactDropOldUptoSaid : Prop := fnExactDropOldUptoRow.holds Try.pinned (OpenSpec.upto fnExactDropOldSpec)

/-- 'laws.FnExactIsConfirmed', WHERE WHAT IT READS IS OF BULK AT MOST 1048576: true; the input reads as it did. -/
def fnExactIsConfirmedUptoRow : OpenClaim := { program := "ytglgjcdnfmlijaa", sum := "7b0102be2f318b7573d07ca3524947d65b88573c3d2b612b20cb8a1a387bdba6", func := "loop.example/g00583/laws.FnExactIsConfirmed", spec := "fnExactIsConfirmed", apart := false, narrowed := true }
def FnExactIsConfirmedUptoSaid : Prop := fnExactIsConfirmedUptoRow.holds Try.pinned (OpenSpec.upto fnExactIsConfirmedSpec)

end Rows
end Go.Proofs.Ytglgjcdnfmlijaa
