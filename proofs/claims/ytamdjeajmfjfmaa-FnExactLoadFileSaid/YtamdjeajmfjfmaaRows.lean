/-
  No cell of these rows narrows 'for every input' (looked for: loops, veiled, ifaces, maps, wideKeys, modest, calm, conditions, laid).
  DERIVED. THE GIVEN ROWS OF THIS SEAT. 5 by the template 'for every input the law returns true; each argument reads behind the call as it read before'; 0 by the template 'total and deterministic' (their statements: YtamdjeajmfjfmaaTotals.lean).
  GIVEN WITH THE SEED: the statements are not yours to turn. If you find one false, say at which input.
  Laid BY PROGRAM, IN A SANDBOX (cutbox-rows.mjs): the forced cells as the released guide's own fill.sh prints them over the translation 52019a7004812778… (all of the seat's roots in one cut). By AI agents, Wed Nov 11 2026. No macro, syntax, notation, axiom, sorry.
-/
import Derived.Test.YtamdjeajmfjfmaaChecked
import GoSem.Claim
import GoSem.ClaimJoined
import GoSem.ClaimMapViews
import Derived.JoinedTies
import Derived.KernelRfl
namespace Go.Proofs.Ytamdjeajmfjfmaa
/- THE CELL 'sum', in the pinned program and in every row, IS THE sha256 OF THE DUMP (.gsa) THAT YtamdjeajmfjfmaaProg.lean LOADS. Nothing in Lean hashes anything: it is a label: what it is worth is what the hold of that sum in a sandbox is worth. -/
noncomputable def Try.pinned : Pinned := { name := "ytamdjeajmfjfmaa", sum := "52019a700481277854aa585140c5b45bedd0fa6baf62c1a337ef64208a78978d", checked := Try.checked }
namespace Rows
def none {H : Type} : Left H := { results := [], args := [] }

/-- 'laws.FnLocks': WHATEVER THE INPUT: true; the input reads as it did. -/
def fnLocksSpec : ChangeSpec := { name := "fnLocks", fn := fun _ => fun
  | [d] => { results := [.lit (.bool true)], args := [d] }
  | _ => none }
def fnLocksRow : OpenClaim := { program := "ytamdjeajmfjfmaa", sum := "52019a700481277854aa585140c5b45bedd0fa6baf62c1a337ef64208a78978d", func := "loop.example/g00583/laws.FnLocks", spec := "fnLocks", unfollowed := true, recurses := true, apart := false }
def FnLocksSaid : Prop := fnLocksRow.holds Try.pinned (OpenSpec.ofChange fnLocksSpec)

/-- ITS FALSE NEIGHBOUR: 'it returns false'. Refute it at one input. -/
def fnLocksWrong : ChangeSpec := { name := "fnLocks", fn := fun _ => fun
  | [d] => { results := [.lit (.bool false)], args := [d] }
  | _ => none }
def FnLocksWrongFalsely : Prop := fnLocksRow.holds Try.pinned (OpenSpec.ofChange fnLocksWrong)

/-- 'laws.FnExactUsedVersions': WHATEVER THE INPUT: true; the input reads as it did. -/
def fnExactUsedVersionsSpec : ChangeSpec := { name := "fnExactUsedVersions", fn := fun _ => fun
  | [d1, d2] => { results := [.lit (.bool true)], args := [d1, d2] }
  | _ => none }
def fnExactUsedVersionsRow : OpenClaim := { program := "ytamdjeajmfjfmaa", sum := "52019a700481277854aa585140c5b45bedd0fa6baf62c1a337ef64208a78978d", func := "loop.example/g00583/laws.FnExactUsedVersions", spec := "fnExactUsedVersions", apart := false }
def FnExactUsedVersionsSaid : Prop := fnExactUsedVersionsRow.holds Try.pinned (OpenSpec.ofChange fnExactUsedVersionsSpec)

/-- ITS FALSE NEIGHBOUR: 'it returns false'. Refute it at one input. -/
def fnExactUsedVersionsWrong : ChangeSpec := { name := "fnExactUsedVersions", fn := fun _ => fun
  | [d1, d2] => { results := [.lit (.bool false)], args := [d1, d2] }
  | _ => none }
def FnExactUsedVersionsWrongFalsely : Prop := fnExactUsedVersionsRow.holds Try.pinned (OpenSpec.ofChange fnExactUsedVersionsWrong)

/-- 'laws.FnExactBeginPage': WHATEVER THE INPUT: true; the input reads as it did. -/
def fnExactBeginPageSpec : ChangeSpec := { name := "fnExactBeginPage", fn := fun _ => fun
  | [d1, d2, d3, d4, d5] => { results := [.lit (.bool true)], args := [d1, d2, d3, d4, d5] }
  | _ => none }
def fnExactBeginPageRow : OpenClaim := { program := "ytamdjeajmfjfmaa", sum := "52019a700481277854aa585140c5b45bedd0fa6baf62c1a337ef64208a78978d", func := "loop.example/g00583/laws.FnExactBeginPage", spec := "fnExactBeginPage", apart := false }
def FnExactBeginPageSaid : Prop := fnExactBeginPageRow.holds Try.pinned (OpenSpec.ofChange fnExactBeginPageSpec)

/-- ITS FALSE NEIGHBOUR: 'it returns false'. Refute it at one input. -/
def fnExactBeginPageWrong : ChangeSpec := { name := "fnExactBeginPage", fn := fun _ => fun
  | [d1, d2, d3, d4, d5] => { results := [.lit (.bool false)], args := [d1, d2, d3, d4, d5] }
  | _ => none }
def FnExactBeginPageWrongFalsely : Prop := fnExactBeginPageRow.holds Try.pinned (OpenSpec.ofChange fnExactBeginPageWrong)

/-- 'laws.FnExactLoadFile': WHATEVER THE INPUT: true; the input reads as it did. -/
def fnExactLoadFileSpec : ChangeSpec := { name := "fnExactLoadFile", fn := fun _ => fun
  | [d1, d2, d3] => { results := [.lit (.bool true)], args := [d1, d2, d3] }
  | _ => none }
def fnExactLoadFileRow : OpenClaim := { program := "ytamdjeajmfjfmaa", sum := "52019a700481277854aa585140c5b45bedd0fa6baf62c1a337ef64208a78978d", func := "loop.example/g00583/laws.FnExactLoadFile", spec := "fnExactLoadFile", apart := false }
def FnExactLoadFileSaid : Prop := fnExactLoadFileRow.holds Try.pinned (OpenSpec.ofChange fnExactLoadFileSpec)

/-- ITS FALSE NEIGHBOUR: 'it returns false'. Refute it at one input. -/
def fnExactLoadFileWrong : ChangeSpec := { name := "fnExactLoadFile", fn := fun _ => fun
  | [d1, d2, d3] => { results := [.lit (.bool false)], args := [d1, d2, d3] }
  | _ => none }
def FnExactLoadFileWrongFalsely : Prop := fnExactLoadFileRow.holds Try.pinned (OpenSpec.ofChange fnExactLoadFileWrong)

/-- 'laws.FnExactAnswerFetch': WHATEVER THE INPUT: true; the input reads as it did. -/
def fnExactAnswerFetchSpec : ChangeSpec := { name := "fnExactAnswerFetch", fn := fun _ => fun
  | [d1, d2, d3, d4, d5] => { results := [.lit (.bool true)], args := [d1, d2, d3, d4, d5] }
  | _ => none }
def fnExactAnswerFetchRow : OpenClaim := { program := "ytamdjeajmfjfmaa", sum := "52019a700481277854aa585140c5b45bedd0fa6baf62c1a337ef64208a78978d", func := "loop.example/g00583/laws.FnExactAnswerFetch", spec := "fnExactAnswerFetch", unfollowed := true, recurses := true, apart := false }
def FnExactAnswerFetchSaid : Prop := fnExactAnswerFetchRow.holds Try.pinned (OpenSpec.ofChange fnExactAnswerFetchSpec)

/-- ITS FALSE NEIGHBOUR: 'it returns false'. Refute it at one input. -/
def fnExactAnswerFetchWrong : ChangeSpec := { name := "fnExactAnswerFetch", fn := fun _ => fun
  | [d1, d2, d3, d4, d5] => { results := [.lit (.bool false)], args := [d1, d2, d3, d4, d5] }
  | _ => none }
def FnExactAnswerFetchWrongFalsely : Prop := fnExactAnswerFetchRow.holds Try.pinned (OpenSpec.ofChange fnExactAnswerFetchWrong)

/- THE SECOND FORM. 'bulk': how many values and letters a reading holds, each counted each time it is reached (what is shared counts as often as it is met; a slice's spare places count too). A statement '..UptoSaid' is the law's where the arguments, and the package variables that the reading takes, are together of bulk at most 1048576: NARROWER than '..Said'. Prove '..Said' where nothing that the law and all that it calls make is longer than what came in: it says more and counts as full. Else prove '..UptoSaid'. A law counts once. -/
mutual
def uptoBulk {H : Type} : DataW H → Nat
  | .lit (.string bytes) => bytes.length + 1
  | .lit _ => 1
  | .nil => 1
  | .ptr d => uptoBulk d + 1
  | .slice elems spare => uptoBulkAll elems + uptoBulkAll spare + 1
  | .agg parts => uptoBulkAll parts + 1
  | .iface _ d => uptoBulk d + 1
  | .map entries => uptoBulkEntries entries + 1
  | .held _ => 1
def uptoBulkAll {H : Type} : List (DataW H) → Nat
  | [] => 0
  | d :: r => uptoBulk d + uptoBulkAll r
def uptoBulkEntries {H : Type} : List (Lit × DataW H) → Nat
  | [] => 0
  | x :: r => uptoBulkEntry x + uptoBulkEntries r
def uptoBulkEntry {H : Type} : Lit × DataW H → Nat
  | (.string bytes, d) => bytes.length + uptoBulk d + 1
  | (_, d) => uptoBulk d + 1
 end
def uptoSmall : (H : Type) → List (DataW H) → Bool := fun _ ds => decide (uptoBulkAll ds ≤ 1048576)
def OpenSpec.upto (s : _root_.Go.ChangeSpec) : _root_.Go.OpenSpec := { _root_.Go.OpenSpec.ofChange s with cond := some uptoSmall }

/-- 'laws.FnLocks', WHERE WHAT IT READS IS OF BULK AT MOST 1048576: true; the input reads as it did. -/
def fnLocksUptoRow : OpenClaim := { program := "ytamdjeajmfjfmaa", sum := "52019a700481277854aa585140c5b45bedd0fa6baf62c1a337ef64208a78978d", func := "loop.example/g00583/laws.FnLocks", spec := "fnLocks", unfollowed := true, recurses := true, apart := false, narrowed := true }
def FnLocksUptoSaid : Prop := fnLocksUptoRow.holds Try.pinned (OpenSpec.upto fnLocksSpec)

/-- 'laws.FnExactUsedVersions', WHERE WHAT IT READS IS OF BULK AT MOST 1048576: true; the input reads as it did. -/
def fnExactUsedVersionsUptoRow : OpenClaim := { program := "ytamdjeajmfjfmaa", sum := "52019a700481277854aa585140c5b45bedd0fa6baf62c1a337ef64208a78978d", func := "loop.example/g00583/laws.FnExactUsedVersions", spec := "fnExactUsedVersions", apart := false, narrowed := true }
def FnExactUsedVersionsUptoSaid : Prop := fnExactUsedVersionsUptoRow.holds Try.pinned (OpenSpec.upto fnExactUsedVersionsSpec)

/-- 'laws.FnExactBeginPage', WHERE WHAT IT READS IS OF BULK AT MOST 1048576: true; the input reads as it did. -/
def fnExactBeginPageUptoRow : OpenClaim := { program := "ytamdjeajmfjfmaa", sum := "52019a700481277854aa585140c5b45bedd0fa6baf62c1a337ef64208a78978d", func := "loop.example/g00583/laws.FnExactBeginPage", spec := "fnExactBeginPage", apart := false, narrowed := true }
def FnExactBeginPageUptoSaid : Prop := fnExactBeginPageUptoRow.holds Try.pinned (OpenSpec.upto fnExactBeginPageSpec)

/-- 'laws.FnExactLoadFile', WHERE WHAT IT READS IS OF BULK AT MOST 1048576: true; the input reads as it did. -/
def fnExactLoadFileUptoRow : OpenClaim := { program := "ytamdjeajmfjfmaa", sum := "52019a700481277854aa585140c5b45bedd0fa6baf62c1a337ef64208a78978d", func := "loop.example/g00583/laws.FnExactLoadFile", spec := "fnExactLoadFile", apart := false, narrowed := true }
def FnExactLoadFileUptoSaid : Prop := fnExactLoadFileUptoRow.holds Try.pinned (OpenSpec.upto fnExactLoadFileSpec)

/-- 'laws.FnExactAnswerFetch', WHERE WHAT IT READS IS OF BULK AT MOST 1048576: true; the input reads as it did. -/
def fnExactAnswerFetchUptoRow : OpenClaim := { program := "ytamdjeajmfjfmaa", sum := "52019a700481277854aa585140c5b45bedd0fa6baf62c1a337ef64208a78978d", func := "loop.example/g00583/laws.FnExactAnswerFetch", spec := "fnExactAnswerFetch", unfollowed := true, recurses := true, apart := false, narrowed := true }
def FnExactAnswerFetchUptoSaid : Prop := fnExactAnswerFetchUptoRow.holds Try.pinned (OpenSpec.upto fnExactAnswerFetchSpec)

end Rows
end Go.Proofs.Ytamdjeajmfjfmaa
