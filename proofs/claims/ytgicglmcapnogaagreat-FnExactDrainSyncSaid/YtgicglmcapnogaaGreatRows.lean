/-
  No cell of these rows narrows 'for every input' (looked for: loops, veiled, ifaces, maps, wideKeys, modest, calm, conditions, laid).
  DERIVED. THE GIVEN ROWS OF THIS SEAT. 3 by the template 'for every input the law returns true; each argument reads behind the call as it read before'; 0 by the template 'total and deterministic' (their statements: YtgicglmcapnogaaGreatTotals.lean).
  GIVEN WITH THE SEED: the statements are not yours to turn. If you find one false, say at which input.
  Laid BY PROGRAM, IN A SANDBOX (cutbox-rows.mjs): the forced cells as the released guide's own fill.sh prints them over the translation 3c73382665a285d5… (all of the seat's roots in one cut). By AI agents, Wed Nov 11 2026. No macro, syntax, notation, axiom, sorry.
-/
import Derived.Test.YtgicglmcapnogaaGreatChecked
import GoSem.Claim
import GoSem.ClaimJoined
import GoSem.ClaimMapViews
import Derived.JoinedTies
import Derived.KernelRfl
namespace Go.Proofs.YtgicglmcapnogaaGreat
/- THE CELL 'sum', in the pinned program and in every row, IS THE sha256 OF THE DUMP (.gsa) THAT YtgicglmcapnogaaGreatProg.lean LOADS. Nothing in Lean hashes anything: it is a label: what it is worth is what the hold of that sum in a sandbox is worth. -/
noncomputable def Tryz.pinned : Pinned := { name := "ytgicglmcapnogaagreat", sum := "3c73382665a285d5c4637e91a65e54b586fdd817432e8a3189c839385fa902d4", checked := Tryz.checked }
namespace Rows
def none {H : Type} : Left H := { results := [], args := [] }

/-- 'laws.FnExactSyncStep': WHATEVER THE INPUT: true; the input reads as it did. -/
def fnExactSyncStepSpec : ChangeSpec := { name := "fnExactSyncStep", fn := fun _ => fun
  | [d1, d2, d3, d4] => { results := [.lit (.bool true)], args := [d1, d2, d3, d4] }
  | _ => none }
def fnExactSyncStepRow : OpenClaim := { program := "ytgicglmcapnogaagreat", sum := "3c73382665a285d5c4637e91a65e54b586fdd817432e8a3189c839385fa902d4", func := "loop.example/g00583/laws.FnExactSyncStep", spec := "fnExactSyncStep", inPlace := ["internal/bytealg.abigen_runtime_cmpstring", "slices.overlaps[loop.example/g00583/impl.Field]", "slices.overlaps[loop.example/g00583/impl.Item]", "slices.overlaps[loop.example/g00583/impl.Applied]"], unfollowed := true, recurses := true, apart := false }
def FnExactSyncStepSaid : Prop := fnExactSyncStepRow.holds Tryz.pinned (OpenSpec.ofChange fnExactSyncStepSpec)

/-- ITS FALSE NEIGHBOUR: 'it returns false'. Refute it at one input. -/
def fnExactSyncStepWrong : ChangeSpec := { name := "fnExactSyncStep", fn := fun _ => fun
  | [d1, d2, d3, d4] => { results := [.lit (.bool false)], args := [d1, d2, d3, d4] }
  | _ => none }
def FnExactSyncStepWrongFalsely : Prop := fnExactSyncStepRow.holds Tryz.pinned (OpenSpec.ofChange fnExactSyncStepWrong)

/-- 'laws.FnExactDrainSync': WHATEVER THE INPUT: true; the input reads as it did. -/
def fnExactDrainSyncSpec : ChangeSpec := { name := "fnExactDrainSync", fn := fun _ => fun
  | [d1, d2, d3] => { results := [.lit (.bool true)], args := [d1, d2, d3] }
  | _ => none }
def fnExactDrainSyncRow : OpenClaim := { program := "ytgicglmcapnogaagreat", sum := "3c73382665a285d5c4637e91a65e54b586fdd817432e8a3189c839385fa902d4", func := "loop.example/g00583/laws.FnExactDrainSync", spec := "fnExactDrainSync", inPlace := ["internal/bytealg.abigen_runtime_cmpstring", "slices.overlaps[loop.example/g00583/impl.Field]", "slices.overlaps[loop.example/g00583/impl.Item]", "slices.overlaps[loop.example/g00583/impl.Applied]"], unfollowed := true, recurses := true, apart := false }
def FnExactDrainSyncSaid : Prop := fnExactDrainSyncRow.holds Tryz.pinned (OpenSpec.ofChange fnExactDrainSyncSpec)

/-- ITS FALSE NEIGHBOUR: 'it returns false'. Refute it at one input. -/
def fnExactDrainSyncWrong : ChangeSpec := { name := "fnExactDrainSync", fn := fun _ => fun
  | [d1, d2, d3] => { results := [.lit (.bool false)], args := [d1, d2, d3] }
  | _ => none }
def FnExactDrainSyncWrongFalsely : Prop := fnExactDrainSyncRow.holds Tryz.pinned (OpenSpec.ofChange fnExactDrainSyncWrong)

/-- 'laws.FnExactSyncAll': WHATEVER THE INPUT: true; the input reads as it did. -/
def fnExactSyncAllSpec : ChangeSpec := { name := "fnExactSyncAll", fn := fun _ => fun
  | [d1, d2, d3, d4] => { results := [.lit (.bool true)], args := [d1, d2, d3, d4] }
  | _ => none }
def fnExactSyncAllRow : OpenClaim := { program := "ytgicglmcapnogaagreat", sum := "3c73382665a285d5c4637e91a65e54b586fdd817432e8a3189c839385fa902d4", func := "loop.example/g00583/laws.FnExactSyncAll", spec := "fnExactSyncAll", inPlace := ["internal/bytealg.abigen_runtime_cmpstring", "slices.overlaps[loop.example/g00583/impl.Field]", "slices.overlaps[loop.example/g00583/impl.Item]", "slices.overlaps[loop.example/g00583/impl.Applied]"], unfollowed := true, recurses := true, apart := false }
def FnExactSyncAllSaid : Prop := fnExactSyncAllRow.holds Tryz.pinned (OpenSpec.ofChange fnExactSyncAllSpec)

/-- ITS FALSE NEIGHBOUR: 'it returns false'. Refute it at one input. -/
def fnExactSyncAllWrong : ChangeSpec := { name := "fnExactSyncAll", fn := fun _ => fun
  | [d1, d2, d3, d4] => { results := [.lit (.bool false)], args := [d1, d2, d3, d4] }
  | _ => none }
def FnExactSyncAllWrongFalsely : Prop := fnExactSyncAllRow.holds Tryz.pinned (OpenSpec.ofChange fnExactSyncAllWrong)

/- THE SECOND FORM. 'bulk': how many values and letters a reading holds, each counted each time it is reached (what is shared counts as often as it is met; a slice's spare places count too). A statement '..UptoSaid' is the law's where the arguments, and the package variables that the reading takes, are together of bulk at most 1048576: NARROWER than '..Said'. Prove '..Said' where nothing that the law and all that it calls make is longer than what came in: it says more and counts as full. Else prove '..UptoSaid'. A law counts once. -/
mutual
def uptoBulk {H : Type} : DataW H → Nat
  | .lit (.string bytes) => bytes.length + 1
  | .lit _ => 1
  | .nil => 1
  | .ptr d => uptoBulk d + 1
  | .slice elems spare => uptoBulkAll elems + uptoBulkAll spare + 1
  | .agg parts => uptoBulkAll parts + 1
  | .iface _ d => uptoBulk d + 1
  | .map entries => uptoBulkEntries entries + 1
  | .held _ => 1
def uptoBulkAll {H : Type} : List (DataW H) → Nat
  | [] => 0
  | d :: r => uptoBulk d + uptoBulkAll r
def uptoBulkEntries {H : Type} : List (Lit × DataW H) → Nat
  | [] => 0
  | x :: r => uptoBulkEntry x + uptoBulkEntries r
def uptoBulkEntry {H : Type} : Lit × DataW H → Nat
  | (.string bytes, d) => bytes.length + uptoBulk d + 1
  | (_, d) => uptoBulk d + 1
 end
def uptoSmall : (H : Type) → List (DataW H) → Bool := fun _ ds => decide (uptoBulkAll ds ≤ 1048576)
def OpenSpec.upto (s : _root_.Go.ChangeSpec) : _root_.Go.OpenSpec := { _root_.Go.OpenSpec.ofChange s with cond := some uptoSmall }

/-- 'laws.FnExactSyncStep', WHERE WHAT IT READS IS OF BULK AT MOST 1048576: true; the input reads as it did. -/
def fnExactSyncStepUptoRow : OpenClaim := { program := "ytgicglmcapnogaagreat", sum := "3c73382665a285d5c4637e91a65e54b586fdd817432e8a3189c839385fa902d4", func := "loop.example/g00583/laws.FnExactSyncStep", spec := "fnExactSyncStep", inPlace := ["internal/bytealg.abigen_runtime_cmpstring", "slices.overlaps[loop.example/g00583/impl.Field]", "slices.overlaps[loop.example/g00583/impl.Item]", "slices.overlaps[loop.example/g00583/impl.Applied]"], unfollowed := true, recurses := true, apart := false, narrowed := true }
def FnExactSyncStepUptoSaid : Prop := fnExactSyncStepUptoRow.holds Tryz.pinned (OpenSpec.upto fnExactSyncStepSpec)

/-- 'laws.FnExactDrainSync', WHERE WHAT IT READS IS OF BULK AT MOST 1048576: true; the input reads as it did. -/
def fnExactDrainSyncUptoRow : OpenClaim := { program := "ytgicglmcapnogaagreat", sum := "3c73382665a285d5c4637e91a65e54b586fdd817432e8a3189c839385fa902d4", func := "loop.example/g00583/laws.FnExactDrainSync", spec := "fnExactDrainSync", inPlace := ["internal/bytealg.abigen_runtime_cmpstring", "slices.overlaps[loop.example/g00583/impl.Field]", "slices.overlaps[loop.example/g00583/impl.Item]", "slices.overlaps[loop.example/g00583/impl.Applied]"], unfollowed := true, recurses := true, apart := false, narrowed := true }
def FnExactDrainSyncUptoSaid : Prop := fnExactDrainSyncUptoRow.holds Tryz.pinned (OpenSpec.upto fnExactDrainSyncSpec)

/-- 'laws.FnExactSyncAll', WHERE WHAT IT READS IS OF BULK AT MOST 1048576: true; the input reads as it did. -/
def fnExactSyncAllUptoRow : OpenClaim := { program := "ytgicglmcapnogaagreat", sum := "3c73382665a285d5c4637e91a65e54b586fdd817432e8a3189c839385fa902d4", func := "loop.example/g00583/laws.FnExactSyncAll", spec := "fnExactSyncAll", inPlace := ["internal/bytealg.abigen_runtime_cmpstring", "slices.overlaps[loop.example/g00583/impl.Field]", "slices.overlaps[loop.example/g00583/impl.Item]", "slices.overlaps[loop.example/g00583/impl.Applied]"], unfollowed := true, recurses := true, apart := false, narrowed := true }
def FnExactSyncAllUptoSaid : Prop := fnExactSyncAllUptoRow.holds Tryz.pinned (OpenSpec.upto fnExactSyncAllSpec)

end Rows
end Go.Proofs.YtgicglmcapnogaaGreat
