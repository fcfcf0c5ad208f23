/-
  No cell of these rows narrows 'for every input' (looked for: loops, veiled, ifaces, maps, wideKeys, modest, calm, conditions, laid).
  DERIVED. THE GIVEN ROWS OF THIS SEAT. 8 by the template 'for every input the law returns true; each argument reads behind the call as it read before'; 0 by the template 'total and deterministic' (their statements: YtjdoofekohjjlaaTotals.lean).
  GIVEN WITH THE SEED: the statements are not yours to turn. If you find one false, say at which input.
  Laid BY PROGRAM, IN A SANDBOX (cutbox-rows.mjs): the forced cells as the released guide's own fill.sh prints them over the translation ee8218405ed26054… (all of the seat's roots in one cut). By AI agents, Wed Nov 11 2026. No macro, syntax, notation, axiom, sorry.
-/
import Derived.Test.YtjdoofekohjjlaaChecked
import GoSem.Claim
import GoSem.ClaimJoined
import GoSem.ClaimMapViews
import Derived.JoinedTies
import Derived.KernelRfl
namespace Go.Proofs.Ytjdoofekohjjlaa
/- THE CELL 'sum', in the pinned program and in every row, IS THE sha256 OF THE DUMP (.gsa) THAT YtjdoofekohjjlaaProg.lean LOADS. Nothing in Lean hashes anything: it is a label: what it is worth is what the hold of that sum in a sandbox is worth. -/
noncomputable def Try.pinned : Pinned := { name := "ytjdoofekohjjlaa", sum := "ee8218405ed2605434bd81b84d03a93671da38035400ae883e7d5ea5d8ce5b83", checked := Try.checked }
namespace Rows
def none {H : Type} : Left H := { results := [], args := [] }

/-- 'laws.FnExactEqualServers': WHATEVER THE INPUT: true; the input reads as it did. -/
def fnExactEqualServersSpec : ChangeSpec := { name := "fnExactEqualServers", fn := fun _ => fun
  | [d1, d2] => { results := [.lit (.bool true)], args := [d1, d2] }
  | _ => none }
def fnExactEqualServersRow : OpenClaim := { program := "ytjdoofekohjjlaa", sum := "ee8218405ed2605434bd81b84d03a93671da38035400ae883e7d5ea5d8ce5b83", func := "loop.example/g00583/laws.FnExactEqualServers", spec := "fnExactEqualServers", unfollowed := true, recurses := true, apart := false }
def FnExactEqualServersSaid : Prop := fnExactEqualServersRow.holds Try.pinned (OpenSpec.ofChange fnExactEqualServersSpec)

/-- ITS FALSE NEIGHBOUR: 'it returns false'. Refute it at one input. -/
def fnExactEqualServersWrong : ChangeSpec := { name := "fnExactEqualServers", fn := fun _ => fun
  | [d1, d2] => { results := [.lit (.bool false)], args := [d1, d2] }
  | _ => none }
def FnExactEqualServersWrongFalsely : Prop := fnExactEqualServersRow.holds Try.pinned (OpenSpec.ofChange fnExactEqualServersWrong)

/-- 'laws.FnExactEqualReplicas': WHATEVER THE INPUT: true; the input reads as it did. -/
def fnExactEqualReplicasSpec : ChangeSpec := { name := "fnExactEqualReplicas", fn := fun _ => fun
  | [d1, d2] => { results := [.lit (.bool true)], args := [d1, d2] }
  | _ => none }
def fnExactEqualReplicasRow : OpenClaim := { program := "ytjdoofekohjjlaa", sum := "ee8218405ed2605434bd81b84d03a93671da38035400ae883e7d5ea5d8ce5b83", func := "loop.example/g00583/laws.FnExactEqualReplicas", spec := "fnExactEqualReplicas", unfollowed := true, recurses := true, apart := false }
def FnExactEqualReplicasSaid : Prop := fnExactEqualReplicasRow.holds Try.pinned (OpenSpec.ofChange fnExactEqualReplicasSpec)

/-- ITS FALSE NEIGHBOUR: 'it returns false'. Refute it at one input. -/
def fnExactEqualReplicasWrong : ChangeSpec := { name := "fnExactEqualReplicas", fn := fun _ => fun
  | [d1, d2] => { results := [.lit (.bool false)], args := [d1, d2] }
  | _ => none }
def FnExactEqualReplicasWrongFalsely : Prop := fnExactEqualReplicasRow.holds Try.pinned (OpenSpec.ofChange fnExactEqualReplicasWrong)

/-- 'laws.FnExactIsServer': WHATEVER THE INPUT: true; the input reads as it did. -/
def fnExactIsServerSpec : ChangeSpec := { name := "fnExactIsServer", fn := fun _ => fun
  | [d] => { results := [.lit (.bool true)], args := [d] }
  | _ => none }
def fnExactIsServerRow : OpenClaim := { program := "ytjdoofekohjjlaa", sum := "ee8218405ed2605434bd81b84d03a93671da38035400ae883e7d5ea5d8ce5b83", func := "loop.example/g00583/laws.FnExactIsServer", spec := "fnExactIsServer", inPlace := ["internal/bytealg.abigen_runtime_cmpstring"], apart := false }
def FnExactIsServerSaid : Prop := fnExactIsServerRow.holds Try.pinned (OpenSpec.ofChange fnExactIsServerSpec)

/-- ITS FALSE NEIGHBOUR: 'it returns false'. Refute it at one input. -/
def fnExactIsServerWrong : ChangeSpec := { name := "fnExactIsServer", fn := fun _ => fun
  | [d] => { results := [.lit (.bool false)], args := [d] }
  | _ => none }
def FnExactIsServerWrongFalsely : Prop := fnExactIsServerRow.holds Try.pinned (OpenSpec.ofChange fnExactIsServerWrong)

/-- 'laws.FnExactIsReplica': WHATEVER THE INPUT: true; the input reads as it did. -/
def fnExactIsReplicaSpec : ChangeSpec := { name := "fnExactIsReplica", fn := fun _ => fun
  | [d] => { results := [.lit (.bool true)], args := [d] }
  | _ => none }
def fnExactIsReplicaRow : OpenClaim := { program := "ytjdoofekohjjlaa", sum := "ee8218405ed2605434bd81b84d03a93671da38035400ae883e7d5ea5d8ce5b83", func := "loop.example/g00583/laws.FnExactIsReplica", spec := "fnExactIsReplica", inPlace := ["internal/bytealg.abigen_runtime_cmpstring"], apart := false }
def FnExactIsReplicaSaid : Prop := fnExactIsReplicaRow.holds Try.pinned (OpenSpec.ofChange fnExactIsReplicaSpec)

/-- ITS FALSE NEIGHBOUR: 'it returns false'. Refute it at one input. -/
def fnExactIsReplicaWrong : ChangeSpec := { name := "fnExactIsReplica", fn := fun _ => fun
  | [d] => { results := [.lit (.bool false)], args := [d] }
  | _ => none }
def FnExactIsReplicaWrongFalsely : Prop := fnExactIsReplicaRow.holds Try.pinned (OpenSpec.ofChange fnExactIsReplicaWrong)

/-- 'laws.FnExactServerDigest': WHATEVER THE INPUT: true; the input reads as it did. -/
def fnExactServerDigestSpec : ChangeSpec := { name := "fnExactServerDigest", fn := fun _ => fun
  | [d] => { results := [.lit (.bool true)], args := [d] }
  | _ => none }
def fnExactServerDigestRow : OpenClaim := { program := "ytjdoofekohjjlaa", sum := "ee8218405ed2605434bd81b84d03a93671da38035400ae883e7d5ea5d8ce5b83", func := "loop.example/g00583/laws.FnExactServerDigest", spec := "fnExactServerDigest", apart := false }
def FnExactServerDigestSaid : Prop := fnExactServerDigestRow.holds Try.pinned (OpenSpec.ofChange fnExactServerDigestSpec)

/-- ITS FALSE NEIGHBOUR: 'it returns false'. Refute it at one input. -/
def fnExactServerDigestWrong : ChangeSpec := { name := "fnExactServerDigest", fn := fun _ => fun
  | [d] => { results := [.lit (.bool false)], args := [d] }
  | _ => none }
def FnExactServerDigestWrongFalsely : Prop := fnExactServerDigestRow.holds Try.pinned (OpenSpec.ofChange fnExactServerDigestWrong)

/-- 'laws.FnExactSetItemField': WHATEVER THE INPUT: true; the input reads as it did. -/
def fnExactSetItemFieldSpec : ChangeSpec := { name := "fnExactSetItemField", fn := fun _ => fun
  | [d1, d2] => { results := [.lit (.bool true)], args := [d1, d2] }
  | _ => none }
def fnExactSetItemFieldRow : OpenClaim := { program := "ytjdoofekohjjlaa", sum := "ee8218405ed2605434bd81b84d03a93671da38035400ae883e7d5ea5d8ce5b83", func := "loop.example/g00583/laws.FnExactSetItemField", spec := "fnExactSetItemField", inPlace := ["slices.overlaps[loop.example/g00583/impl.Field]", "internal/bytealg.abigen_runtime_cmpstring", "slices.overlaps[loop.example/g00583/impl.Item]"], unfollowed := true, recurses := true, apart := false }
def FnExactSetItemFieldSaid : Prop := fnExactSetItemFieldRow.holds Try.pinned (OpenSpec.ofChange fnExactSetItemFieldSpec)

/-- ITS FALSE NEIGHBOUR: 'it returns false'. Refute it at one input. -/
def fnExactSetItemFieldWrong : ChangeSpec := { name := "fnExactSetItemField", fn := fun _ => fun
  | [d1, d2] => { results := [.lit (.bool false)], args := [d1, d2] }
  | _ => none }
def FnExactSetItemFieldWrongFalsely : Prop := fnExactSetItemFieldRow.holds Try.pinned (OpenSpec.ofChange fnExactSetItemFieldWrong)

/-- 'laws.FnExactNewReplica': WHATEVER THE INPUT: true; the input reads as it did. -/
def fnExactNewReplicaSpec : ChangeSpec := { name := "fnExactNewReplica", fn := fun _ => fun
  | [d1, d2] => { results := [.lit (.bool true)], args := [d1, d2] }
  | _ => none }
def fnExactNewReplicaRow : OpenClaim := { program := "ytjdoofekohjjlaa", sum := "ee8218405ed2605434bd81b84d03a93671da38035400ae883e7d5ea5d8ce5b83", func := "loop.example/g00583/laws.FnExactNewReplica", spec := "fnExactNewReplica", inPlace := ["internal/bytealg.abigen_runtime_cmpstring"], apart := false }
def FnExactNewReplicaSaid : Prop := fnExactNewReplicaRow.holds Try.pinned (OpenSpec.ofChange fnExactNewReplicaSpec)

/-- ITS FALSE NEIGHBOUR: 'it returns false'. Refute it at one input. -/
def fnExactNewReplicaWrong : ChangeSpec := { name := "fnExactNewReplica", fn := fun _ => fun
  | [d1, d2] => { results := [.lit (.bool false)], args := [d1, d2] }
  | _ => none }
def FnExactNewReplicaWrongFalsely : Prop := fnExactNewReplicaRow.holds Try.pinned (OpenSpec.ofChange fnExactNewReplicaWrong)

/-- 'laws.FnExactLocalStore': WHATEVER THE INPUT: true; the input reads as it did. -/
def fnExactLocalStoreSpec : ChangeSpec := { name := "fnExactLocalStore", fn := fun _ => fun
  | [d] => { results := [.lit (.bool true)], args := [d] }
  | _ => none }
def fnExactLocalStoreRow : OpenClaim := { program := "ytjdoofekohjjlaa", sum := "ee8218405ed2605434bd81b84d03a93671da38035400ae883e7d5ea5d8ce5b83", func := "loop.example/g00583/laws.FnExactLocalStore", spec := "fnExactLocalStore", inPlace := ["slices.overlaps[loop.example/g00583/impl.Field]", "internal/bytealg.abigen_runtime_cmpstring", "slices.overlaps[loop.example/g00583/impl.Item]"], unfollowed := true, recurses := true, apart := false }
def FnExactLocalStoreSaid : Prop := fnExactLocalStoreRow.holds Try.pinned (OpenSpec.ofChange fnExactLocalStoreSpec)

/-- ITS FALSE NEIGHBOUR: 'it returns false'. Refute it at one input. -/
def fnExactLocalStoreWrong : ChangeSpec := { name := "fnExactLocalStore", fn := fun _ => fun
  | [d] => { results := [.lit (.bool false)], args := [d] }
  | _ => none }
def FnExactLocalStoreWrongFalsely : Prop := fnExactLocalStoreRow.holds Try.pinned (OpenSpec.ofChange fnExactLocalStoreWrong)

/- THE SECOND FORM. 'bulk': how many values and letters a reading holds, each counted each time it is reached (what is shared counts as often as it is met; a slice's spare places count too). A statement '..UptoSaid' is the law's where the arguments, and the package variables that the reading takes, are together of bulk at most 1048576: NARROWER than '..Said'. Prove '..Said' where nothing that the law and all that it calls make is longer than what came in: it says more and counts as full. Else prove '..UptoSaid'. A law counts once. -/
mutual
def uptoBulk {H : Type} : DataW H → Nat
  | .lit (.string bytes) => bytes.length + 1
  | .lit _ => 1
  | .nil => 1
  | .ptr d => uptoBulk d + 1
  | .slice elems spare => uptoBulkAll elems + uptoBulkAll spare + 1
  | .agg parts => uptoBulkAll parts + 1
  | .iface _ d => uptoBulk d + 1
  | .map entries => uptoBulkEntries entries + 1
  | .held _ => 1
def uptoBulkAll {H : Type} : List (DataW H) → Nat
  | [] => 0
  | d :: r => uptoBulk d + uptoBulkAll r
def uptoBulkEntries {H : Type} : List (Lit × DataW H) → Nat
  | [] => 0
  | x :: r => uptoBulkEntry x + uptoBulkEntries r
def uptoBulkEntry {H : Type} : Lit × DataW H → Nat
  | (.string bytes, d) => bytes.length + uptoBulk d + 1
  | (_, d) => uptoBulk d + 1
 end
def uptoSmall : (H : Type) → List (DataW H) → Bool := fun _ ds => decide (uptoBulkAll ds ≤ 1048576)
def OpenSpec.upto (s : _root_.Go.ChangeSpec) : _root_.Go.OpenSpec := { _root_.Go.OpenSpec.ofChange s with cond := some uptoSmall }

/-- 'laws.FnExactEqualServers', WHERE WHAT IT READS IS OF BULK AT MOST 1048576: true; the input reads as it did. -/
def fnExactEqualServersUptoRow : OpenClaim := { program := "ytjdoofekohjjlaa", sum := "ee8218405ed2605434bd81b84d03a93671da38035400ae883e7d5ea5d8ce5b83", func := "loop.example/g00583/laws.FnExactEqualServers", spec := "fnExactEqualServers", unfollowed := true, recurses := true, apart := false, narrowed := true }
def FnExactEqualServersUptoSaid : Prop := fnExactEqualServersUptoRow.holds Try.pinned (OpenSpec.upto fnExactEqualServersSpec)

/-- 'laws.FnExactEqualReplicas', WHERE WHAT IT READS IS OF BULK AT MOST 1048576: true; the input reads as it did. -/
def fnExactEqualReplicasUptoRow : OpenClaim := { program := "ytjdoofekohjjlaa", sum := "ee8218405ed2605434bd81b84d03a93671da38035400ae883e7d5ea5d8ce5b83", func := "loop.example/g00583/laws.FnExactEqualReplicas", spec := "fnExactEqualReplicas", unfollowed := true, recurses := true, apart := false, narrowed := true }
def FnExactEqualReplicasUptoSaid : Prop := fnExactEqualReplicasUptoRow.holds Try.pinned (OpenSpec.upto fnExactEqualReplicasSpec)

/-- 'laws.FnExactIsServer', WHERE WHAT IT READS IS OF BULK AT MOST 1048576: true; the input reads as it did. -/
def fnExactIsServerUptoRow : OpenClaim := { program := "ytjdoofekohjjlaa", sum := "ee8218405ed2605434bd81b84d03a93671da38035400ae883e7d5ea5d8ce5b83", func := "loop.example/g00583/laws.FnExactIsServer", spec := "fnExactIsServer", inPlace := ["internal/bytealg.abigen_runtime_cmpstring"], apart := false, narrowed := true }
def FnExactIsServerUptoSaid : Prop := fnExactIsServerUptoRow.holds Try.pinned (OpenSpec.upto fnExactIsServerSpec)

/-- 'laws.FnExactIsReplica', WHERE WHAT IT READS IS OF BULK AT MOST 1048576: true; the input reads as it did. -/
def fnExactIsReplicaUptoRow : OpenClaim := { program := "ytjdoofekohjjlaa", sum := "ee8218405ed2605434bd81b84d03a93671da38035400ae883e7d5ea5d8ce5b83", func := "loop.example/g00583/laws.FnExactIsReplica", spec := "fnExactIsReplica", inPlace := ["internal/bytealg.abigen_runtime_cmpstring"], apart := false, narrowed := true }
def FnExactIsReplicaUptoSaid : Prop := fnExactIsReplicaUptoRow.holds Try.pinned (OpenSpec.upto fnExactIsReplicaSpec)

/-- 'laws.FnExactServerDigest', WHERE WHAT IT READS IS OF BULK AT MOST 1048576: true; the input reads as it did. -/
def fnExactServerDigestUptoRow : OpenClaim := { program := "ytjdoofekohjjlaa", sum := "ee8218405ed2605434bd81b84d03a93671da38035400ae883e7d5ea5d8ce5b83", func := "loop.example/g00583/laws.FnExactServerDigest", spec := "fnExactServerDigest", apart := false, narrowed := true }
def FnExactServerDigestUptoSaid : Prop := fnExactServerDigestUptoRow.holds Try.pinned (OpenSpec.upto fnExactServerDigestSpec)

/-- 'laws.FnExactSetItemField', WHERE WHAT IT READS IS OF BULK AT MOST 1048576: true; the input reads as it did. -/
def fnExactSetItemFieldUptoRow : OpenClaim := { program := "ytjdoofekohjjlaa", sum := "ee8218405ed2605434bd81b84d03a93671da38035400ae883e7d5ea5d8ce5b83", func := "loop.example/g00583/laws.FnExactSetItemField", spec := "fnExactSetItemField", inPlace := ["slices.overlaps[loop.example/g00583/impl.Field]", "internal/bytealg.abigen_runtime_cmpstring", "slices.overlaps[loop.example/g00583/impl.Item]"], unfollowed := true, recurses := true, apart := false, narrowed := true }
def FnExactSetItemFieldUptoSaid : Prop := fnExactSetItemFieldUptoRow.holds Try.pinned (OpenSpec.upto fnExactSetItemFieldSpec)

/-- 'laws.FnExactNewReplica', WHERE WHAT IT READS IS OF BULK AT MOST 1048576: true; the input reads as it did. -/
def fnExactNewReplicaUptoRow : OpenClaim := { program := "ytjdoofekohjjlaa", sum := "ee8218405ed2605434bd81b84d03a93671da38035400ae883e7d5ea5d8ce5b83", func := "loop.example/g00583/laws.FnExactNewReplica", spec := "fnExactNewReplica", inPlace := ["internal/bytealg.abigen_runtime_cmpstring"], apart := false, narrowed := true }
def FnExactNewReplicaUptoSaid : Prop := fnExactNewReplicaUptoRow.holds Try.pinned (OpenSpec.upto fnExactNewReplicaSpec)

/-- 'laws.FnExactLocalStore', WHERE WHAT IT READS IS OF BULK AT MOST 1048576: true; the input reads as it did. -/
def fnExactLocalStoreUptoRow : OpenClaim := { program := "ytjdoofekohjjlaa", sum := "ee8218405ed2605434bd81b84d03a93671da38035400ae883e7d5ea5d8ce5b83", func := "loop.example/g00583/laws.FnExactLocalStore", spec := "fnExactLocalStore", inPlace := ["slices.overlaps[loop.example/g00583/impl.Field]", "internal/bytealg.abigen_runtime_cmpstring", "slices.overlaps[loop.example/g00583/impl.Item]"], unfollowed := true, recurses := true, apart := false, narrowed := true }
def FnExactLocalStoreUptoSaid : Prop := fnExactLocalStoreUptoRow.holds Try.pinned (OpenSpec.upto fnExactLocalStoreSpec)

end Rows
end Go.Proofs.Ytjdoofekohjjlaa
