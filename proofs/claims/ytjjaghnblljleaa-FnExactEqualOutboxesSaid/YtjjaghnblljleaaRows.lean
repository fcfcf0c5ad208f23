/-
  No cell of these rows narrows 'for every input' (looked for: loops, veiled, ifaces, maps, wideKeys, modest, calm, conditions, laid).
  DERIVED. THE GIVEN ROWS OF THIS SEAT. 12 by the template 'for every input the law returns true; each argument reads behind the call as it read before'; 0 by the template 'total and deterministic' (their statements: YtjjaghnblljleaaTotals.lean).
  GIVEN WITH THE SEED: the statements are not yours to turn. If you find one false, say at which input.
  Laid BY PROGRAM, IN A SANDBOX (cutbox-rows.mjs): the forced cells as the released guide's own fill.sh prints them over the translation 810a4ce61973e976… (all of the seat's roots in one cut). By AI agents, Wed Nov 11 2026. No macro, syntax, notation, axiom, sorry.
-/
import Derived.Test.YtjjaghnblljleaaChecked
import GoSem.Claim
import GoSem.ClaimJoined
import GoSem.ClaimMapViews
import Derived.JoinedTies
import Derived.KernelRfl
namespace Go.Proofs.Ytjjaghnblljleaa
/- THE CELL 'sum', in the pinned program and in every row, IS THE sha256 OF THE DUMP (.gsa) THAT YtjjaghnblljleaaProg.lean LOADS. Nothing in Lean hashes anything: it is a label: what it is worth is what the hold of that sum in a sandbox is worth. -/
noncomputable def Try.pinned : Pinned := { name := "ytjjaghnblljleaa", sum := "810a4ce61973e976c7af637db3b948a1252262b0171d4a2a171be717adca8fb7", checked := Try.checked }
namespace Rows
def none {H : Type} : Left H := { results := [], args := [] }

/-- 'laws.FnExactHoldsLock': WHATEVER THE INPUT: true; the input reads as it did. -/
def fnExactHoldsLockSpec : ChangeSpec := { name := "fnExactHoldsLock", fn := fun _ => fun
  | [d1, d2, d3] => { results := [.lit (.bool true)], args := [d1, d2, d3] }
  | _ => none }
def fnExactHoldsLockRow : OpenClaim := { program := "ytjjaghnblljleaa", sum := "810a4ce61973e976c7af637db3b948a1252262b0171d4a2a171be717adca8fb7", func := "loop.example/g00583/laws.FnExactHoldsLock", spec := "fnExactHoldsLock", unfollowed := true, recurses := true, apart := false }
def FnExactHoldsLockSaid : Prop := fnExactHoldsLockRow.holds Try.pinned (OpenSpec.ofChange fnExactHoldsLockSpec)

/-- ITS FALSE NEIGHBOUR: 'it returns false'. Refute it at one input. -/
def fnExactHoldsLockWrong : ChangeSpec := { name := "fnExactHoldsLock", fn := fun _ => fun
  | [d1, d2, d3] => { results := [.lit (.bool false)], args := [d1, d2, d3] }
  | _ => none }
def FnExactHoldsLockWrongFalsely : Prop := fnExactHoldsLockRow.holds Try.pinned (OpenSpec.ofChange fnExactHoldsLockWrong)

/-- 'laws.FnLocks': WHATEVER THE INPUT: true; the input reads as it did. -/
def fnLocksSpec : ChangeSpec := { name := "fnLocks", fn := fun _ => fun
  | [d] => { results := [.lit (.bool true)], args := [d] }
  | _ => none }
def fnLocksRow : OpenClaim := { program := "ytjjaghnblljleaa", sum := "810a4ce61973e976c7af637db3b948a1252262b0171d4a2a171be717adca8fb7", func := "loop.example/g00583/laws.FnLocks", spec := "fnLocks", unfollowed := true, recurses := true, apart := false }
def FnLocksSaid : Prop := fnLocksRow.holds Try.pinned (OpenSpec.ofChange fnLocksSpec)

/-- ITS FALSE NEIGHBOUR: 'it returns false'. Refute it at one input. -/
def fnLocksWrong : ChangeSpec := { name := "fnLocks", fn := fun _ => fun
  | [d] => { results := [.lit (.bool false)], args := [d] }
  | _ => none }
def FnLocksWrongFalsely : Prop := fnLocksRow.holds Try.pinned (OpenSpec.ofChange fnLocksWrong)

/-- 'laws.FnExactMailsFor': WHATEVER THE INPUT: true; the input reads as it did. -/
def fnExactMailsForSpec : ChangeSpec := { name := "fnExactMailsFor", fn := fun _ => fun
  | [d1, d2] => { results := [.lit (.bool true)], args := [d1, d2] }
  | _ => none }
def fnExactMailsForRow : OpenClaim := { program := "ytjjaghnblljleaa", sum := "810a4ce61973e976c7af637db3b948a1252262b0171d4a2a171be717adca8fb7", func := "loop.example/g00583/laws.FnExactMailsFor", spec := "fnExactMailsFor", apart := false }
def FnExactMailsForSaid : Prop := fnExactMailsForRow.holds Try.pinned (OpenSpec.ofChange fnExactMailsForSpec)

/-- ITS FALSE NEIGHBOUR: 'it returns false'. Refute it at one input. -/
def fnExactMailsForWrong : ChangeSpec := { name := "fnExactMailsFor", fn := fun _ => fun
  | [d1, d2] => { results := [.lit (.bool false)], args := [d1, d2] }
  | _ => none }
def FnExactMailsForWrongFalsely : Prop := fnExactMailsForRow.holds Try.pinned (OpenSpec.ofChange fnExactMailsForWrong)

/-- 'laws.FnExactIsLockTable': WHATEVER THE INPUT: true; the input reads as it did. -/
def fnExactIsLockTableSpec : ChangeSpec := { name := "fnExactIsLockTable", fn := fun _ => fun
  | [d] => { results := [.lit (.bool true)], args := [d] }
  | _ => none }
def fnExactIsLockTableRow : OpenClaim := { program := "ytjjaghnblljleaa", sum := "810a4ce61973e976c7af637db3b948a1252262b0171d4a2a171be717adca8fb7", func := "loop.example/g00583/laws.FnExactIsLockTable", spec := "fnExactIsLockTable", apart := false }
def FnExactIsLockTableSaid : Prop := fnExactIsLockTableRow.holds Try.pinned (OpenSpec.ofChange fnExactIsLockTableSpec)

/-- ITS FALSE NEIGHBOUR: 'it returns false'. Refute it at one input. -/
def fnExactIsLockTableWrong : ChangeSpec := { name := "fnExactIsLockTable", fn := fun _ => fun
  | [d] => { results := [.lit (.bool false)], args := [d] }
  | _ => none }
def FnExactIsLockTableWrongFalsely : Prop := fnExactIsLockTableRow.holds Try.pinned (OpenSpec.ofChange fnExactIsLockTableWrong)

/-- 'laws.FnExactFirstWrite': WHATEVER THE INPUT: true; the input reads as it did. -/
def fnExactFirstWriteSpec : ChangeSpec := { name := "fnExactFirstWrite", fn := fun _ => fun
  | [d] => { results := [.lit (.bool true)], args := [d] }
  | _ => none }
def fnExactFirstWriteRow : OpenClaim := { program := "ytjjaghnblljleaa", sum := "810a4ce61973e976c7af637db3b948a1252262b0171d4a2a171be717adca8fb7", func := "loop.example/g00583/laws.FnExactFirstWrite", spec := "fnExactFirstWrite", apart := false }
def FnExactFirstWriteSaid : Prop := fnExactFirstWriteRow.holds Try.pinned (OpenSpec.ofChange fnExactFirstWriteSpec)

/-- ITS FALSE NEIGHBOUR: 'it returns false'. Refute it at one input. -/
def fnExactFirstWriteWrong : ChangeSpec := { name := "fnExactFirstWrite", fn := fun _ => fun
  | [d] => { results := [.lit (.bool false)], args := [d] }
  | _ => none }
def FnExactFirstWriteWrongFalsely : Prop := fnExactFirstWriteRow.holds Try.pinned (OpenSpec.ofChange fnExactFirstWriteWrong)

/-- 'laws.FnExactDropMails': WHATEVER THE INPUT: true; the input reads as it did. -/
def fnExactDropMailsSpec : ChangeSpec := { name := "fnExactDropMails", fn := fun _ => fun
  | [d1, d2] => { results := [.lit (.bool true)], args := [d1, d2] }
  | _ => none }
def fnExactDropMailsRow : OpenClaim := { program := "ytjjaghnblljleaa", sum := "810a4ce61973e976c7af637db3b948a1252262b0171d4a2a171be717adca8fb7", func := "loop.example/g00583/laws.FnExactDropMails", spec := "fnExactDropMails", unfollowed := true, recurses := true, apart := false }
def FnExactDropMailsSaid : Prop := fnExactDropMailsRow.holds Try.pinned (OpenSpec.ofChange fnExactDropMailsSpec)

/-- ITS FALSE NEIGHBOUR: 'it returns false'. Refute it at one input. -/
def fnExactDropMailsWrong : ChangeSpec := { name := "fnExactDropMails", fn := fun _ => fun
  | [d1, d2] => { results := [.lit (.bool false)], args := [d1, d2] }
  | _ => none }
def FnExactDropMailsWrongFalsely : Prop := fnExactDropMailsRow.holds Try.pinned (OpenSpec.ofChange fnExactDropMailsWrong)

/-- 'laws.FnExactPushMAC': WHATEVER THE INPUT: true; the input reads as it did. -/
def fnExactPushMACSpec : ChangeSpec := { name := "fnExactPushMAC", fn := fun _ => fun
  | [d1, d2] => { results := [.lit (.bool true)], args := [d1, d2] }
  | _ => none }
def fnExactPushMACRow : OpenClaim := { program := "ytjjaghnblljleaa", sum := "810a4ce61973e976c7af637db3b948a1252262b0171d4a2a171be717adca8fb7", func := "loop.example/g00583/laws.FnExactPushMAC", spec := "fnExactPushMAC", apart := false }
def FnExactPushMACSaid : Prop := fnExactPushMACRow.holds Try.pinned (OpenSpec.ofChange fnExactPushMACSpec)

/-- ITS FALSE NEIGHBOUR: 'it returns false'. Refute it at one input. -/
def fnExactPushMACWrong : ChangeSpec := { name := "fnExactPushMAC", fn := fun _ => fun
  | [d1, d2] => { results := [.lit (.bool false)], args := [d1, d2] }
  | _ => none }
def FnExactPushMACWrongFalsely : Prop := fnExactPushMACRow.holds Try.pinned (OpenSpec.ofChange fnExactPushMACWrong)

/-- 'laws.FnExactEqualOutboxes': WHATEVER THE INPUT: true; the input reads as it did. -/
def fnExactEqualOutboxesSpec : ChangeSpec := { name := "fnExactEqualOutboxes", fn := fun _ => fun
  | [d1, d2] => { results := [.lit (.bool true)], args := [d1, d2] }
  | _ => none }
def fnExactEqualOutboxesRow : OpenClaim := { program := "ytjjaghnblljleaa", sum := "810a4ce61973e976c7af637db3b948a1252262b0171d4a2a171be717adca8fb7", func := "loop.example/g00583/laws.FnExactEqualOutboxes", spec := "fnExactEqualOutboxes", apart := false }
def FnExactEqualOutboxesSaid : Prop := fnExactEqualOutboxesRow.holds Try.pinned (OpenSpec.ofChange fnExactEqualOutboxesSpec)

/-- ITS FALSE NEIGHBOUR: 'it returns false'. Refute it at one input. -/
def fnExactEqualOutboxesWrong : ChangeSpec := { name := "fnExactEqualOutboxes", fn := fun _ => fun
  | [d1, d2] => { results := [.lit (.bool false)], args := [d1, d2] }
  | _ => none }
def FnExactEqualOutboxesWrongFalsely : Prop := fnExactEqualOutboxesRow.holds Try.pinned (OpenSpec.ofChange fnExactEqualOutboxesWrong)

/-- 'laws.FnExactPendingCount': WHATEVER THE INPUT: true; the input reads as it did. -/
def fnExactPendingCountSpec : ChangeSpec := { name := "fnExactPendingCount", fn := fun _ => fun
  | [d] => { results := [.lit (.bool true)], args := [d] }
  | _ => none }
def fnExactPendingCountRow : OpenClaim := { program := "ytjjaghnblljleaa", sum := "810a4ce61973e976c7af637db3b948a1252262b0171d4a2a171be717adca8fb7", func := "loop.example/g00583/laws.FnExactPendingCount", spec := "fnExactPendingCount", apart := false }
def FnExactPendingCountSaid : Prop := fnExactPendingCountRow.holds Try.pinned (OpenSpec.ofChange fnExactPendingCountSpec)

/-- ITS FALSE NEIGHBOUR: 'it returns false'. Refute it at one input. -/
def fnExactPendingCountWrong : ChangeSpec := { name := "fnExactPendingCount", fn := fun _ => fun
  | [d] => { results := [.lit (.bool false)], args := [d] }
  | _ => none }
def FnExactPendingCountWrongFalsely : Prop := fnExactPendingCountRow.holds Try.pinned (OpenSpec.ofChange fnExactPendingCountWrong)

/-- 'laws.FnExactWaitingOf': WHATEVER THE INPUT: true; the input reads as it did. -/
def fnExactWaitingOfSpec : ChangeSpec := { name := "fnExactWaitingOf", fn := fun _ => fun
  | [d1, d2] => { results := [.lit (.bool true)], args := [d1, d2] }
  | _ => none }
def fnExactWaitingOfRow : OpenClaim := { program := "ytjjaghnblljleaa", sum := "810a4ce61973e976c7af637db3b948a1252262b0171d4a2a171be717adca8fb7", func := "loop.example/g00583/laws.FnExactWaitingOf", spec := "fnExactWaitingOf", apart := false }
def FnExactWaitingOfSaid : Prop := fnExactWaitingOfRow.holds Try.pinned (OpenSpec.ofChange fnExactWaitingOfSpec)

/-- ITS FALSE NEIGHBOUR: 'it returns false'. Refute it at one input. -/
def fnExactWaitingOfWrong : ChangeSpec := { name := "fnExactWaitingOf", fn := fun _ => fun
  | [d1, d2] => { results := [.lit (.bool false)], args := [d1, d2] }
  | _ => none }
def FnExactWaitingOfWrongFalsely : Prop := fnExactWaitingOfRow.holds Try.pinned (OpenSpec.ofChange fnExactWaitingOfWrong)

/-- 'laws.FnExactGrantLocks': WHATEVER THE INPUT: true; the input reads as it did. -/
def fnExactGrantLocksSpec : ChangeSpec := { name := "fnExactGrantLocks", fn := fun _ => fun
  | [d] => { results := [.lit (.bool true)], args := [d] }
  | _ => none }
def fnExactGrantLocksRow : OpenClaim := { program := "ytjjaghnblljleaa", sum := "810a4ce61973e976c7af637db3b948a1252262b0171d4a2a171be717adca8fb7", func := "loop.example/g00583/laws.FnExactGrantLocks", spec := "fnExactGrantLocks", apart := false }
def FnExactGrantLocksSaid : Prop := fnExactGrantLocksRow.holds Try.pinned (OpenSpec.ofChange fnExactGrantLocksSpec)

/-- ITS FALSE NEIGHBOUR: 'it returns false'. Refute it at one input. -/
def fnExactGrantLocksWrong : ChangeSpec := { name := "fnExactGrantLocks", fn := fun _ => fun
  | [d] => { results := [.lit (.bool false)], args := [d] }
  | _ => none }
def FnExactGrantLocksWrongFalsely : Prop := fnExactGrantLocksRow.holds Try.pinned (OpenSpec.ofChange fnExactGrantLocksWrong)

/-- 'laws.FnExactEqualSyncs': WHATEVER THE INPUT: true; the input reads as it did. -/
def fnExactEqualSyncsSpec : ChangeSpec := { name := "fnExactEqualSyncs", fn := fun _ => fun
  | [d1, d2] => { results := [.lit (.bool true)], args := [d1, d2] }
  | _ => none }
def fnExactEqualSyncsRow : OpenClaim := { program := "ytjjaghnblljleaa", sum := "810a4ce61973e976c7af637db3b948a1252262b0171d4a2a171be717adca8fb7", func := "loop.example/g00583/laws.FnExactEqualSyncs", spec := "fnExactEqualSyncs", apart := false }
def FnExactEqualSyncsSaid : Prop := fnExactEqualSyncsRow.holds Try.pinned (OpenSpec.ofChange fnExactEqualSyncsSpec)

/-- ITS FALSE NEIGHBOUR: 'it returns false'. Refute it at one input. -/
def fnExactEqualSyncsWrong : ChangeSpec := { name := "fnExactEqualSyncs", fn := fun _ => fun
  | [d1, d2] => { results := [.lit (.bool false)], args := [d1, d2] }
  | _ => none }
def FnExactEqualSyncsWrongFalsely : Prop := fnExactEqualSyncsRow.holds Try.pinned (OpenSpec.ofChange fnExactEqualSyncsWrong)

/- THE SECOND FORM. 'bulk': how many values and letters a reading holds, each counted each time it is reached (what is shared counts as often as it is met; a slice's spare places count too). A statement '..UptoSaid' is the law's where the arguments, and the package variables that the reading takes, are together of bulk at most 1048576: NARROWER than '..Said'. Prove '..Said' where nothing that the law and all that it calls make is longer than what came in: it says more and counts as full. Else prove '..UptoSaid'. A law counts once. -/
mutual
def uptoBulk {H : Type} : DataW H → Nat
  | .lit (.string bytes) => bytes.length + 1
  | .lit _ => 1
  | .nil => 1
  | .ptr d => uptoBulk d + 1
  | .slice elems spare => uptoBulkAll elems + uptoBulkAll spare + 1
  | .agg parts => uptoBulkAll parts + 1
  | .iface _ d => uptoBulk d + 1
  | .map entries => uptoBulkEntries entries + 1
  | .held _ => 1
def uptoBulkAll {H : Type} : List (DataW H) → Nat
  | [] => 0
  | d :: r => uptoBulk d + uptoBulkAll r
def uptoBulkEntries {H : Type} : List (Lit × DataW H) → Nat
  | [] => 0
  | x :: r => uptoBulkEntry x + uptoBulkEntries r
def uptoBulkEntry {H : Type} : Lit × DataW H → Nat
  | (.string bytes, d) => bytes.length + uptoBulk d + 1
  | (_, d) => uptoBulk d + 1
 end
def uptoSmall : (H : Type) → List (DataW H) → Bool := fun _ ds => decide (uptoBulkAll ds ≤ 1048576)
def OpenSpec.upto (s : _root_.Go.ChangeSpec) : _root_.Go.OpenSpec := { _root_.Go.OpenSpec.ofChange s with cond := some uptoSmall }

/-- 'laws.FnExactHoldsLock', WHERE WHAT IT READS IS OF BULK AT MOST 1048576: true; the input reads as it did. -/
def fnExactHoldsLockUptoRow : OpenClaim := { program := "ytjjaghnblljleaa", sum := "810a4ce61973e976c7af637db3b948a1252262b0171d4a2a171be717adca8fb7", func := "loop.example/g00583/laws.FnExactHoldsLock", spec := "fnExactHoldsLock", unfollowed := true, recurses := true, apart := false, narrowed := true }
def FnExactHoldsLockUptoSaid : Prop := fnExactHoldsLockUptoRow.holds Try.pinned (OpenSpec.upto fnExactHoldsLockSpec)

/-- 'laws.FnLocks', WHERE WHAT IT READS IS OF BULK AT MOST 1048576: true; the input reads as it did. -/
def fnLocksUptoRow : OpenClaim := { program := "ytjjaghnblljleaa", sum := "810a4ce61973e976c7af637db3b948a1252262b0171d4a2a171be717adca8fb7", func := "loop.example/g00583/laws.FnLocks", spec := "fnLocks", unfollowed := true, recurses := true, apart := false, narrowed := true }
def FnLocksUptoSaid : Prop := fnLocksUptoRow.holds Try.pinned (OpenSpec.upto fnLocksSpec)

/-- 'laws.FnExactMailsFor', WHERE WHAT IT READS IS OF BULK AT MOST 1048576: true; the input reads as it did. -/
def fnExactMailsForUptoRow : OpenClaim := { program := "ytjjaghnblljleaa", sum := "810a4ce61973e976c7af637db3b948a1252262b0171d4a2a171be717adca8fb7", func := "loop.example/g00583/laws.FnExactMailsFor", spec := "fnExactMailsFor", apart := false, narrowed := true }
def FnExactMailsForUptoSaid : Prop := fnExactMailsForUptoRow.holds Try.pinned (OpenSpec.upto fnExactMailsForSpec)

/-- 'laws.FnExactIsLockTable', WHERE WHAT IT READS IS OF BULK AT MOST 1048576: true; the input reads as it did. -/
def fnExactIsLockTableUptoRow : OpenClaim := { program := "ytjjaghnblljleaa", sum := "810a4ce61973e976c7af637db3b948a1252262b0171d4a2a171be717adca8fb7", func := "loop.example/g00583/laws.FnExactIsLockTable", spec := "fnExactIsLockTable", apart := false, narrowed := true }
def FnExactIsLockTableUptoSaid : Prop := fnExactIsLockTableUptoRow.holds Try.pinned (OpenSpec.upto fnExactIsLockTableSpec)

/-- 'laws.FnExactFirstWrite', WHERE WHAT IT READS IS OF BULK AT MOST 1048576: true; the input reads as it did. -/
def fnExactFirstWriteUptoRow : OpenClaim := { program := "ytjjaghnblljleaa", sum := "810a4ce61973e976c7af637db3b948a1252262b0171d4a2a171be717adca8fb7", func := "loop.example/g00583/laws.FnExactFirstWrite", spec := "fnExactFirstWrite", apart := false, narrowed := true }
def FnExactFirstWriteUptoSaid : Prop := fnExactFirstWriteUptoRow.holds Try.pinned (OpenSpec.upto fnExactFirstWriteSpec)

/-- 'laws.FnExactDropMails', WHERE WHAT IT READS IS OF BULK AT MOST 1048576: true; the input reads as it did. -/
def fnExactDropMailsUptoRow : OpenClaim := { program := "ytjjaghnblljleaa", sum := "810a4ce61973e976c7af637db3b948a1252262b0171d4a2a171be717adca8fb7", func := "loop.example/g00583/laws.FnExactDropMails", spec := "fnExactDropMails", unfollowed := true, recurses := true, apart := false, narrowed := true }
def FnExactDropMailsUptoSaid : Prop := fnExactDropMailsUptoRow.holds Try.pinned (OpenSpec.upto fnExactDropMailsSpec)

/-- 'laws.FnExactPushMAC', WHERE WHAT IT READS IS OF BULK AT MOST 1048576: true; the input reads as it did. -/
def fnExactPushMACUptoRow : OpenClaim := { program := "ytjjaghnblljleaa", sum := "810a4ce61973e976c7af637db3b948a1252262b0171d4a2a171be717adca8fb7", func := "loop.example/g00583/laws.FnExactPushMAC", spec := "fnExactPushMAC", apart := false, narrowed := true }
def FnExactPushMACUptoSaid : Prop := fnExactPushMACUptoRow.holds Try.pinned (OpenSpec.upto fnExactPushMACSpec)

/-- 'laws.FnExactEqualOutboxes', WHERE WHAT IT READS IS OF BULK AT MOST 1048576: true; the input reads as it did. -/
def fnExactEqualOutboxesUptoRow : OpenClaim := { program := "ytjjaghnblljleaa", sum := "810a4ce61973e976c7af637db3b948a1252262b0171d4a2a171be717adca8fb7", func := "loop.example/g00583/laws.FnExactEqualOutboxes", spec := "fnExactEqualOutboxes", apart := false, narrowed := true }
def FnExactEqualOutboxesUptoSaid : Prop := fnExactEqualOutboxesUptoRow.holds Try.pinned (OpenSpec.upto fnExactEqualOutboxesSpec)

/-- 'laws.FnExactPendingCount', WHERE WHAT IT READS IS OF BULK AT MOST 1048576: true; the input reads as it did. -/
def fnExactPendingCountUptoRow : OpenClaim := { program := "ytjjaghnblljleaa", sum := "810a4ce61973e976c7af637db3b948a1252262b0171d4a2a171be717adca8fb7", func := "loop.example/g00583/laws.FnExactPendingCount", spec := "fnExactPendingCount", apart := false, narrowed := true }
def FnExactPendingCountUptoSaid : Prop := fnExactPendingCountUptoRow.holds Try.pinned (OpenSpec.upto fnExactPendingCountSpec)

/-- 'laws.FnExactWaitingOf', WHERE WHAT IT READS IS OF BULK AT MOST 1048576: true; the input reads as it did. -/
def fnExactWaitingOfUptoRow : OpenClaim := { program := "ytjjaghnblljleaa", sum := "810a4ce61973e976c7af637db3b948a1252262b0171d4a2a171be717adca8fb7", func := "loop.example/g00583/laws.FnExactWaitingOf", spec := "fnExactWaitingOf", apart := false, narrowed := true }
def FnExactWaitingOfUptoSaid : Prop := fnExactWaitingOfUptoRow.holds Try.pinned (OpenSpec.upto fnExactWaitingOfSpec)

/-- 'laws.FnExactGrantLocks', WHERE WHAT IT READS IS OF BULK AT MOST 1048576: true; the input reads as it did. -/
def fnExactGrantLocksUptoRow : OpenClaim := { program := "ytjjaghnblljleaa", sum := "810a4ce61973e976c7af637db3b948a1252262b0171d4a2a171be717adca8fb7", func := "loop.example/g00583/laws.FnExactGrantLocks", spec := "fnExactGrantLocks", apart := false, narrowed := true }
def FnExactGrantLocksUptoSaid : Prop := fnExactGrantLocksUptoRow.holds Try.pinned (OpenSpec.upto fnExactGrantLocksSpec)

/-- 'laws.FnExactEqualSyncs', WHERE WHAT IT READS IS OF BULK AT MOST 1048576: true; the input reads as it did. -/
def fnExactEqualSyncsUptoRow : OpenClaim := { program := "ytjjaghnblljleaa", sum := "810a4ce61973e976c7af637db3b948a1252262b0171d4a2a171be717adca8fb7", func := "loop.example/g00583/laws.FnExactEqualSyncs", spec := "fnExactEqualSyncs", apart := false, narrowed := true }
def FnExactEqualSyncsUptoSaid : Prop := fnExactEqualSyncsUptoRow.holds Try.pinned (OpenSpec.upto fnExactEqualSyncsSpec)

end Rows
end Go.Proofs.Ytjjaghnblljleaa
