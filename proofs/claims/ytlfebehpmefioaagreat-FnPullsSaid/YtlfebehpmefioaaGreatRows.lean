/-
  No cell of these rows narrows 'for every input' (looked for: loops, veiled, ifaces, maps, wideKeys, modest, calm, conditions, laid).
  DERIVED. THE GIVEN ROWS OF THIS SEAT. 5 by the template 'for every input the law returns true; each argument reads behind the call as it read before'; 0 by the template 'total and deterministic' (their statements: YtlfebehpmefioaaGreatTotals.lean).
  GIVEN WITH THE SEED: the statements are not yours to turn. If you find one false, say at which input.
  Laid BY PROGRAM, IN A SANDBOX (cutbox-rows.mjs): the forced cells as the released guide's own fill.sh prints them over the translation 071184f980775538… (all of the seat's roots in one cut). By AI agents, Wed Nov 11 2026. No macro, syntax, notation, axiom, sorry.
-/
import Derived.Test.YtlfebehpmefioaaGreatChecked
import GoSem.Claim
import GoSem.ClaimJoined
import GoSem.ClaimMapViews
import Derived.JoinedTies
import Derived.KernelRfl
namespace Go.Proofs.YtlfebehpmefioaaGreat
/- THE CELL 'sum', in the pinned program and in every row, IS THE sha256 OF THE DUMP (.gsa) THAT YtlfebehpmefioaaGreatProg.lean LOADS. Nothing in Lean hashes anything: it is a label: what it is worth is what the hold of that sum in a sandbox is worth. -/
noncomputable def Tryz.pinned : Pinned := { name := "ytlfebehpmefioaagreat", sum := "071184f9807755384156628b480f0be3c061d220d79dfca1fdc295d174ad2f72", checked := Tryz.checked }
namespace Rows
def none {H : Type} : Left H := { results := [], args := [] }

/-- 'laws.FnServers': WHATEVER THE INPUT: true; the input reads as it did. -/
def fnServersSpec : ChangeSpec := { name := "fnServers", fn := fun _ => fun
  | [d] => { results := [.lit (.bool true)], args := [d] }
  | _ => none }
def fnServersRow : OpenClaim := { program := "ytlfebehpmefioaagreat", sum := "071184f9807755384156628b480f0be3c061d220d79dfca1fdc295d174ad2f72", func := "loop.example/g00583/laws.FnServers", spec := "fnServers", inPlace := ["internal/bytealg.abigen_runtime_cmpstring", "slices.overlaps[loop.example/g00583/impl.Field]", "slices.overlaps[loop.example/g00583/impl.Item]", "slices.overlaps[loop.example/g00583/impl.Applied]"], unfollowed := true, recurses := true, apart := false }
def FnServersSaid : Prop := fnServersRow.holds Tryz.pinned (OpenSpec.ofChange fnServersSpec)

/-- ITS FALSE NEIGHBOUR: 'it returns false'. Refute it at one input. -/
def fnServersWrong : ChangeSpec := { name := "fnServers", fn := fun _ => fun
  | [d] => { results := [.lit (.bool false)], args := [d] }
  | _ => none }
def FnServersWrongFalsely : Prop := fnServersRow.holds Tryz.pinned (OpenSpec.ofChange fnServersWrong)

/-- 'laws.FnRetries': WHATEVER THE INPUT: true; the input reads as it did. -/
def fnRetriesSpec : ChangeSpec := { name := "fnRetries", fn := fun _ => fun
  | [d] => { results := [.lit (.bool true)], args := [d] }
  | _ => none }
def fnRetriesRow : OpenClaim := { program := "ytlfebehpmefioaagreat", sum := "071184f9807755384156628b480f0be3c061d220d79dfca1fdc295d174ad2f72", func := "loop.example/g00583/laws.FnRetries", spec := "fnRetries", inPlace := ["internal/bytealg.abigen_runtime_cmpstring", "slices.overlaps[loop.example/g00583/impl.Field]", "slices.overlaps[loop.example/g00583/impl.Item]", "slices.overlaps[loop.example/g00583/impl.Applied]"], unfollowed := true, recurses := true, apart := false }
def FnRetriesSaid : Prop := fnRetriesRow.holds Tryz.pinned (OpenSpec.ofChange fnRetriesSpec)

/-- ITS FALSE NEIGHBOUR: 'it returns false'. Refute it at one input. -/
def fnRetriesWrong : ChangeSpec := { name := "fnRetries", fn := fun _ => fun
  | [d] => { results := [.lit (.bool false)], args := [d] }
  | _ => none }
def FnRetriesWrongFalsely : Prop := fnRetriesRow.holds Tryz.pinned (OpenSpec.ofChange fnRetriesWrong)

/-- 'laws.FnDrained': WHATEVER THE INPUT: true; the input reads as it did. -/
def fnDrainedSpec : ChangeSpec := { name := "fnDrained", fn := fun _ => fun
  | [d] => { results := [.lit (.bool true)], args := [d] }
  | _ => none }
def fnDrainedRow : OpenClaim := { program := "ytlfebehpmefioaagreat", sum := "071184f9807755384156628b480f0be3c061d220d79dfca1fdc295d174ad2f72", func := "loop.example/g00583/laws.FnDrained", spec := "fnDrained", inPlace := ["internal/bytealg.abigen_runtime_cmpstring", "slices.overlaps[loop.example/g00583/impl.Field]", "slices.overlaps[loop.example/g00583/impl.Item]", "slices.overlaps[loop.example/g00583/impl.Applied]"], unfollowed := true, recurses := true, apart := false }
def FnDrainedSaid : Prop := fnDrainedRow.holds Tryz.pinned (OpenSpec.ofChange fnDrainedSpec)

/-- ITS FALSE NEIGHBOUR: 'it returns false'. Refute it at one input. -/
def fnDrainedWrong : ChangeSpec := { name := "fnDrained", fn := fun _ => fun
  | [d] => { results := [.lit (.bool false)], args := [d] }
  | _ => none }
def FnDrainedWrongFalsely : Prop := fnDrainedRow.holds Tryz.pinned (OpenSpec.ofChange fnDrainedWrong)

/-- 'laws.FnReplicas': WHATEVER THE INPUT: true; the input reads as it did. -/
def fnReplicasSpec : ChangeSpec := { name := "fnReplicas", fn := fun _ => fun
  | [d] => { results := [.lit (.bool true)], args := [d] }
  | _ => none }
def fnReplicasRow : OpenClaim := { program := "ytlfebehpmefioaagreat", sum := "071184f9807755384156628b480f0be3c061d220d79dfca1fdc295d174ad2f72", func := "loop.example/g00583/laws.FnReplicas", spec := "fnReplicas", inPlace := ["slices.overlaps[loop.example/g00583/impl.Field]", "internal/bytealg.abigen_runtime_cmpstring", "slices.overlaps[loop.example/g00583/impl.Item]", "slices.overlaps[loop.example/g00583/impl.Applied]"], unfollowed := true, recurses := true, apart := false }
def FnReplicasSaid : Prop := fnReplicasRow.holds Tryz.pinned (OpenSpec.ofChange fnReplicasSpec)

/-- ITS FALSE NEIGHBOUR: 'it returns false'. Refute it at one input. -/
def fnReplicasWrong : ChangeSpec := { name := "fnReplicas", fn := fun _ => fun
  | [d] => { results := [.lit (.bool false)], args := [d] }
  | _ => none }
def FnReplicasWrongFalsely : Prop := fnReplicasRow.holds Tryz.pinned (OpenSpec.ofChange fnReplicasWrong)

/-- 'laws.FnPulls': WHATEVER THE INPUT: true; the input reads as it did. -/
def fnPullsSpec : ChangeSpec := { name := "fnPulls", fn := fun _ => fun
  | [d] => { results := [.lit (.bool true)], args := [d] }
  | _ => none }
def fnPullsRow : OpenClaim := { program := "ytlfebehpmefioaagreat", sum := "071184f9807755384156628b480f0be3c061d220d79dfca1fdc295d174ad2f72", func := "loop.example/g00583/laws.FnPulls", spec := "fnPulls", inPlace := ["internal/bytealg.abigen_runtime_cmpstring", "slices.overlaps[loop.example/g00583/impl.Field]", "slices.overlaps[loop.example/g00583/impl.Item]"], unfollowed := true, recurses := true, apart := false }
def FnPullsSaid : Prop := fnPullsRow.holds Tryz.pinned (OpenSpec.ofChange fnPullsSpec)

/-- ITS FALSE NEIGHBOUR: 'it returns false'. Refute it at one input. -/
def fnPullsWrong : ChangeSpec := { name := "fnPulls", fn := fun _ => fun
  | [d] => { results := [.lit (.bool false)], args := [d] }
  | _ => none }
def FnPullsWrongFalsely : Prop := fnPullsRow.holds Tryz.pinned (OpenSpec.ofChange fnPullsWrong)

/- THE SECOND FORM. 'bulk': how many values and letters a reading holds, each counted each time it is reached (what is shared counts as often as it is met; a slice's spare places count too). A statement '..UptoSaid' is the law's where the arguments, and the package variables that the reading takes, are together of bulk at most 1048576: NARROWER than '..Said'. Prove '..Said' where nothing that the law and all that it calls make is longer than what came in: it says more and counts as full. Else prove '..UptoSaid'. A law counts once. -/
mutual
def uptoBulk {H : Type} : DataW H → Nat
  | .lit (.string bytes) => bytes.length + 1
  | .lit _ => 1
  | .nil => 1
  | .ptr d => uptoBulk d + 1
  | .slice elems spare => uptoBulkAll elems + uptoBulkAll spare + 1
  | .agg parts => uptoBulkAll parts + 1
  | .iface _ d => uptoBulk d + 1
  | .map entries => uptoBulkEntries entries + 1
  | .held _ => 1
def uptoBulkAll {H : Type} : List (DataW H) → Nat
  | [] => 0
  | d :: r => uptoBulk d + uptoBulkAll r
def uptoBulkEntries {H : Type} : List (Lit × DataW H) → Nat
  | [] => 0
  | x :: r => uptoBulkEntry x + uptoBulkEntries r
def uptoBulkEntry {H : Type} : Lit × DataW H → Nat
  | (.string bytes, d) => bytes.length + uptoBulk d + 1
  | (_, d) => uptoBulk d + 1
 end
def uptoSmall : (H : Type) → List (DataW H) → Bool := fun _ ds => decide (uptoBulkAll ds ≤ 1048576)
def OpenSpec.upto (s : _root_.Go.ChangeSpec) : _root_.Go.OpenSpec := { _root_.Go.OpenSpec.ofChange s with cond := some uptoSmall }

/-- 'laws.FnServers', WHERE WHAT IT READS IS OF BULK AT MOST 1048576: true; the input reads as it did. -/
def fnServersUptoRow : OpenClaim := { program := "ytlfebehpmefioaagreat", sum := "071184f9807755384156628b480f0be3c061d220d79dfca1fdc295d174ad2f72", func := "loop.example/g00583/laws.FnServers", spec := "fnServers", inPlace := ["internal/bytealg.abigen_runtime_cmpstring", "slices.overlaps[loop.example/g00583/impl.Field]", "slices.overlaps[loop.example/g00583/impl.Item]", "slices.overlaps[loop.example/g00583/impl.Applied]"], unfollowed := true, recurses := true, apart := false, narrowed := true }
def FnServersUptoSaid : Prop := fnServersUptoRow.holds Tryz.pinned (OpenSpec.upto fnServersSpec)

/-- 'laws.FnRetries', WHERE WHAT IT READS IS OF BULK AT MOST 1048576: true; the input reads as it did. -/
def fnRetriesUptoRow : OpenClaim := { program := "ytlfebehpmefioaagreat", sum := "071184f9807755384156628b480f0be3c061d220d79dfca1fdc295d174ad2f72", func := "loop.example/g00583/laws.FnRetries", spec := "fnRetries", inPlace := ["internal/bytealg.abigen_runtime_cmpstring", "slices.overlaps[loop.example/g00583/impl.Field]", "slices.overlaps[loop.example/g00583/impl.Item]", "slices.overlaps[loop.example/g00583/impl.Applied]"], unfollowed := true, recurses := true, apart := false, narrowed := true }
def FnRetriesUptoSaid : Prop := fnRetriesUptoRow.holds Tryz.pinned (OpenSpec.upto fnRetriesSpec)

/-- 'laws.FnDrained', WHERE WHAT IT READS IS OF BULK AT MOST 1048576: true; the input reads as it did. -/
def fnDrainedUptoRow : OpenClaim := { program := "ytlfebehpmefioaagreat", sum := "071184f9807755384156628b480f0be3c061d220d79dfca1fdc295d174ad2f72", func := "loop.example/g00583/laws.FnDrained", spec := "fnDrained", inPlace := ["internal/bytealg.abigen_runtime_cmpstring", "slices.overlaps[loop.example/g00583/impl.Field]", "slices.overlaps[loop.example/g00583/impl.Item]", "slices.overlaps[loop.example/g00583/impl.Applied]"], unfollowed := true, recurses := true, apart := false, narrowed := true }
def FnDrainedUptoSaid : Prop := fnDrainedUptoRow.holds Tryz.pinned (OpenSpec.upto fnDrainedSpec)

/-- 'laws.FnReplicas', WHERE WHAT IT READS IS OF BULK AT MOST 1048576: true; the input reads as it did. -/
def fnReplicasUptoRow : OpenClaim := { program := "ytlfebehpmefioaagreat", sum := "071184f9807755384156628b480f0be3c061d220d79dfca1fdc295d174ad2f72", func := "loop.example/g00583/laws.FnReplicas", spec := "fnReplicas", inPlace := ["slices.overlaps[loop.example/g00583/impl.Field]", "internal/bytealg.abigen_runtime_cmpstring", "slices.overlaps[loop.example/g00583/impl.Item]", "slices.overlaps[loop.example/g00583/impl.Applied]"], unfollowed := true, recurses := true, apart := false, narrowed := true }
def FnReplicasUptoSaid : Prop := fnReplicasUptoRow.holds Tryz.pinned (OpenSpec.upto fnReplicasSpec)

/-- 'laws.FnPulls', WHERE WHAT IT READS IS OF BULK AT MOST 1048576: true; the input reads as it did. -/
def fnPullsUptoRow : OpenClaim := { program := "ytlfebehpmefioaagreat", sum := "071184f9807755384156628b480f0be3c061d220d79dfca1fdc295d174ad2f72", func := "loop.example/g00583/laws.FnPulls", spec := "fnPulls", inPlace := ["internal/bytealg.abigen_runtime_cmpstring", "slices.overlaps[loop.example/g00583/impl.Field]", "slices.overlaps[loop.example/g00583/impl.Item]"], unfollowed := true, recurses := true, apart := false, narrowed := true }
def FnPullsUptoSaid : Prop := fnPullsUptoRow.holds Tryz.pinned (OpenSpec.upto fnPullsSpec)

end Rows
end Go.Proofs.YtlfebehpmefioaaGreat
