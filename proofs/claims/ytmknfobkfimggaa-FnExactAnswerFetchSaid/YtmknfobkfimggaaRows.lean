/-
  No cell of these rows narrows 'for every input' (looked for: loops, veiled, ifaces, maps, wideKeys, modest, calm, conditions, laid).
  DERIVED. THE GIVEN ROWS OF THIS SEAT. 4 by the template 'for every input the law returns true; each argument reads behind the call as it read before'; 0 by the template 'total and deterministic' (their statements: YtmknfobkfimggaaTotals.lean).
  GIVEN WITH THE SEED: the statements are not yours to turn. If you find one false, say at which input.
  Laid BY PROGRAM, IN A SANDBOX (cutbox-rows.mjs): the forced cells as the released guide's own fill.sh prints them over the translation 79c828c6b193f202… (all of the seat's roots in one cut). By AI agents, Wed Nov 11 2026. No macro, syntax, notation, axiom, sorry.
-/
import Derived.Test.YtmknfobkfimggaaChecked
import GoSem.Claim
import GoSem.ClaimJoined
import GoSem.ClaimMapViews
import Derived.JoinedTies
import Derived.KernelRfl
namespace Go.Proofs.Ytmknfobkfimggaa
/- THE CELL 'sum', in the pinned program and in every row, IS THE sha256 OF THE DUMP (.gsa) THAT YtmknfobkfimggaaProg.lean LOADS. Nothing in Lean hashes anything: it is a label: what it is worth is what the hold of that sum in a sandbox is worth. -/
noncomputable def Try.pinned : Pinned := { name := "ytmknfobkfimggaa", sum := "79c828c6b193f202191d6e87b60f204c2fc4821db9972ba688b960b0bdb51aa4", checked := Try.checked }
namespace Rows
def none {H : Type} : Left H := { results := [], args := [] }

/-- 'laws.FnPushes': WHATEVER THE INPUT: true; the input reads as it did. -/
def fnPushesSpec : ChangeSpec := { name := "fnPushes", fn := fun _ => fun
  | [d] => { results := [.lit (.bool true)], args := [d] }
  | _ => none }
def fnPushesRow : OpenClaim := { program := "ytmknfobkfimggaa", sum := "79c828c6b193f202191d6e87b60f204c2fc4821db9972ba688b960b0bdb51aa4", func := "loop.example/g00583/laws.FnPushes", spec := "fnPushes", apart := false }
def FnPushesSaid : Prop := fnPushesRow.holds Try.pinned (OpenSpec.ofChange fnPushesSpec)

/-- ITS FALSE NEIGHBOUR: 'it returns false'. Refute it at one input. -/
def fnPushesWrong : ChangeSpec := { name := "fnPushes", fn := fun _ => fun
  | [d] => { results := [.lit (.bool false)], args := [d] }
  | _ => none }
def FnPushesWrongFalsely : Prop := fnPushesRow.holds Try.pinned (OpenSpec.ofChange fnPushesWrong)

/-- 'laws.FnOutboxes': WHATEVER THE INPUT: true; the input reads as it did. -/
def fnOutboxesSpec : ChangeSpec := { name := "fnOutboxes", fn := fun _ => fun
  | [d] => { results := [.lit (.bool true)], args := [d] }
  | _ => none }
def fnOutboxesRow : OpenClaim := { program := "ytmknfobkfimggaa", sum := "79c828c6b193f202191d6e87b60f204c2fc4821db9972ba688b960b0bdb51aa4", func := "loop.example/g00583/laws.FnOutboxes", spec := "fnOutboxes", unfollowed := true, recurses := true, apart := false }
def FnOutboxesSaid : Prop := fnOutboxesRow.holds Try.pinned (OpenSpec.ofChange fnOutboxesSpec)

/-- ITS FALSE NEIGHBOUR: 'it returns false'. Refute it at one input. -/
def fnOutboxesWrong : ChangeSpec := { name := "fnOutboxes", fn := fun _ => fun
  | [d] => { results := [.lit (.bool false)], args := [d] }
  | _ => none }
def FnOutboxesWrongFalsely : Prop := fnOutboxesRow.holds Try.pinned (OpenSpec.ofChange fnOutboxesWrong)

/-- 'laws.FnExactAnswerFetch': WHATEVER THE INPUT: true; the input reads as it did. -/
def fnExactAnswerFetchSpec : ChangeSpec := { name := "fnExactAnswerFetch", fn := fun _ => fun
  | [d1, d2, d3, d4, d5] => { results := [.lit (.bool true)], args := [d1, d2, d3, d4, d5] }
  | _ => none }
def fnExactAnswerFetchRow : OpenClaim := { program := "ytmknfobkfimggaa", sum := "79c828c6b193f202191d6e87b60f204c2fc4821db9972ba688b960b0bdb51aa4", func := "loop.example/g00583/laws.FnExactAnswerFetch", spec := "fnExactAnswerFetch", unfollowed := true, recurses := true, apart := false }
def FnExactAnswerFetchSaid : Prop := fnExactAnswerFetchRow.holds Try.pinned (OpenSpec.ofChange fnExactAnswerFetchSpec)

/-- ITS FALSE NEIGHBOUR: 'it returns false'. Refute it at one input. -/
def fnExactAnswerFetchWrong : ChangeSpec := { name := "fnExactAnswerFetch", fn := fun _ => fun
  | [d1, d2, d3, d4, d5] => { results := [.lit (.bool false)], args := [d1, d2, d3, d4, d5] }
  | _ => none }
def FnExactAnswerFetchWrongFalsely : Prop := fnExactAnswerFetchRow.holds Try.pinned (OpenSpec.ofChange fnExactAnswerFetchWrong)

/-- 'laws.FnAnsweredFetches': WHATEVER THE INPUT: true; the input reads as it did. -/
def fnAnsweredFetchesSpec : ChangeSpec := { name := "fnAnsweredFetches", fn := fun _ => fun
  | [d] => { results := [.lit (.bool true)], args := [d] }
  | _ => none }
def fnAnsweredFetchesRow : OpenClaim := { program := "ytmknfobkfimggaa", sum := "79c828c6b193f202191d6e87b60f204c2fc4821db9972ba688b960b0bdb51aa4", func := "loop.example/g00583/laws.FnAnsweredFetches", spec := "fnAnsweredFetches", unfollowed := true, recurses := true, apart := false }
def FnAnsweredFetchesSaid : Prop := fnAnsweredFetchesRow.holds Try.pinned (OpenSpec.ofChange fnAnsweredFetchesSpec)

/-- ITS FALSE NEIGHBOUR: 'it returns false'. Refute it at one input. -/
def fnAnsweredFetchesWrong : ChangeSpec := { name := "fnAnsweredFetches", fn := fun _ => fun
  | [d] => { results := [.lit (.bool false)], args := [d] }
  | _ => none }
def FnAnsweredFetchesWrongFalsely : Prop := fnAnsweredFetchesRow.holds Try.pinned (OpenSpec.ofChange fnAnsweredFetchesWrong)

/- THE SECOND FORM. 'bulk': how many values and letters a reading holds, each counted each time it is reached (what is shared counts as often as it is met; a slice's spare places count too). A statement '..UptoSaid' is the law's where the arguments, and the package variables that the reading takes, are together of bulk at most 1048576: NARROWER than '..Said'. Prove '..Said' where nothing that the law and all that it calls make is longer than what came in: it says more and counts as full. Else prove '..UptoSaid'. A law counts once. -/
mutual
def uptoBulk {H : Type} : DataW H → Nat
  | .lit (.string bytes) => bytes.length + 1
  | .lit _ => 1
  | .nil => 1
  | .ptr d => uptoBulk d + 1
  | .slice elems spare => uptoBulkAll elems + uptoBulkAll spare + 1
  | .agg parts => uptoBulkAll parts + 1
  | .iface _ d => uptoBulk d + 1
  | .map entries => uptoBulkEntries entries + 1
  | .held _ => 1
def uptoBulkAll {H : Type} : List (DataW H) → Nat
  | [] => 0
  | d :: r => uptoBulk d + uptoBulkAll r
def uptoBulkEntries {H : Type} : List (Lit × DataW H) → Nat
  | [] => 0
  | x :: r => uptoBulkEntry x + uptoBulkEntries r
def uptoBulkEntry {H : Type} : Lit × DataW H → Nat
  | (.string bytes, d) => bytes.length + uptoBulk d + 1
  | (_, d) => uptoBulk d + 1
 end
def uptoSmall : (H : Type) → List (DataW H) → Bool := fun _ ds => decide (uptoBulkAll ds ≤ 1048576)
def OpenSpec.upto (s : _root_.Go.ChangeSpec) : _root_.Go.OpenSpec := { _root_.Go.OpenSpec.ofChange s with cond := some uptoSmall }

/-- 'laws.FnPushes', WHERE WHAT IT READS IS OF BULK AT MOST 1048576: true; the input reads as it did. -/
def fnPushesUptoRow : OpenClaim := { program := "ytmknfobkfimggaa", sum := "79c828c6b193f202191d6e87b60f204c2fc4821db9972ba688b960b0bdb51aa4", func := "loop.example/g00583/laws.FnPushes", spec := "fnPushes", apart := false, narrowed := true }
def FnPushesUptoSaid : Prop := fnPushesUptoRow.holds Try.pinned (OpenSpec.upto fnPushesSpec)

/-- 'laws.FnOutboxes', WHERE WHAT IT READS IS OF BULK AT MOST 1048576: true; the input reads as it did. -/
def fnOutboxesUptoRow : OpenClaim := { program := "ytmknfobkfimggaa", sum := "79c828c6b193f202191d6e87b60f204c2fc4821db9972ba688b960b0bdb51aa4", func := "loop.example/g00583/laws.FnOutboxes", spec := "fnOutboxes", unfollowed := true, recurses := true, apart := false, narrowed := true }
def FnOutboxesUptoSaid : Prop := fnOutboxesUptoRow.holds Try.pinned (OpenSpec.upto fnOutboxesSpec)

/-- 'laws.FnExactAnswerFetch', WHERE WHAT IT READS IS OF BULK AT MOST 1048576: true; the input reads as it did. -/
def fnExactAnswerFetchUptoRow : OpenClaim := { program := "ytmknfobkfimggaa", sum := "79c828c6b193f202191d6e87b60f204c2fc4821db9972ba688b960b0bdb51aa4", func := "loop.example/g00583/laws.FnExactAnswerFetch", spec := "fnExactAnswerFetch", unfollowed := true, recurses := true, apart := false, narrowed := true }
def FnExactAnswerFetchUptoSaid : Prop := fnExactAnswerFetchUptoRow.holds Try.pinned (OpenSpec.upto fnExactAnswerFetchSpec)

/-- 'laws.FnAnsweredFetches', WHERE WHAT IT READS IS OF BULK AT MOST 1048576: true; the input reads as it did. -/
def fnAnsweredFetchesUptoRow : OpenClaim := { program := "ytmknfobkfimggaa", sum := "79c828c6b193f202191d6e87b60f204c2fc4821db9972ba688b960b0bdb51aa4", func := "loop.example/g00583/laws.FnAnsweredFetches", spec := "fnAnsweredFetches", unfollowed := true, recurses := true, apart := false, narrowed := true }
def FnAnsweredFetchesUptoSaid : Prop := fnAnsweredFetchesUptoRow.holds Try.pinned (OpenSpec.upto fnAnsweredFetchesSpec)

end Rows
end Go.Proofs.Ytmknfobkfimggaa
