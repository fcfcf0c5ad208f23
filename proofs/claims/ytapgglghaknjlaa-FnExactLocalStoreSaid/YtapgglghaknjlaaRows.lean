/-
  No cell of these rows narrows 'for every input' (looked for: loops, veiled, ifaces, maps, wideKeys, modest, calm, conditions, laid).
  DERIVED. THE GIVEN ROWS OF THIS SEAT. 3 by the template 'for every input the law returns true; each argument reads behind the call as it read before'; 0 by the template 'total and deterministic' (their statements: YtapgglghaknjlaaTotals.lean).
  GIVEN WITH THE SEED: the statements are not yours to turn. If you find one false, say at which input.
  Laid BY PROGRAM, IN A SANDBOX (cutbox-rows.mjs): the forced cells as the released guide's own fill.sh prints them over the translation 9e6b7dc132a10863… (all of the seat's roots in one cut). By AI agents, Wed Nov 11 2026. No macro, syntax, notation, axiom, sorry.
-/
import Derived.Test.YtapgglghaknjlaaChecked
import GoSem.Claim
import GoSem.ClaimJoined
import GoSem.ClaimMapViews
import Derived.JoinedTies
import Derived.KernelRfl
namespace Go.Proofs.Ytapgglghaknjlaa
/- THE CELL 'sum', in the pinned program and in every row, IS THE sha256 OF THE DUMP (.gsa) THAT YtapgglghaknjlaaProg.lean LOADS. Nothing in Lean hashes anything: it is a label: what it is worth is what the hold of that sum in a sandbox is worth. -/
noncomputable def Try.pinned : Pinned := { name := "ytapgglghaknjlaa", sum := "9e6b7dc132a10863cd822eb01f241143919a9122eeb7a1507a7bb07c1a7f65ca", checked := Try.checked }
namespace Rows
def none {H : Type} : Left H := { results := [], args := [] }

/-- 'laws.FnExactServerDigest': WHATEVER THE INPUT: true; the input reads as it did. -/
def fnExactServerDigestSpec : ChangeSpec := { name := "fnExactServerDigest", fn := fun _ => fun
  | [d] => { results := [.lit (.bool true)], args := [d] }
  | _ => none }
def fnExactServerDigestRow : OpenClaim := { program := "ytapgglghaknjlaa", sum := "9e6b7dc132a10863cd822eb01f241143919a9122eeb7a1507a7bb07c1a7f65ca", func := "loop.example/g00583/laws.FnExactServerDigest", spec := "fnExactServerDigest", apart := false }
def FnExactServerDigestSaid : Prop := fnExactServerDigestRow.holds Try.pinned (OpenSpec.ofChange fnExactServerDigestSpec)

/-- ITS FALSE NEIGHBOUR: 'it returns false'. Refute it at one input. -/
def fnExactServerDigestWrong : ChangeSpec := { name := "fnExactServerDigest", fn := fun _ => fun
  | [d] => { results := [.lit (.bool false)], args := [d] }
  | _ => none }
def FnExactServerDigestWrongFalsely : Prop := fnExactServerDigestRow.holds Try.pinned (OpenSpec.ofChange fnExactServerDigestWrong)

/-- 'laws.FnExactSetItemField': WHATEVER THE INPUT: true; the input reads as it did. -/
def fnExactSetItemFieldSpec : ChangeSpec := { name := "fnExactSetItemField", fn := fun _ => fun
  | [d1, d2] => { results := [.lit (.bool true)], args := [d1, d2] }
  | _ => none }
def fnExactSetItemFieldRow : OpenClaim := { program := "ytapgglghaknjlaa", sum := "9e6b7dc132a10863cd822eb01f241143919a9122eeb7a1507a7bb07c1a7f65ca", func := "loop.example/g00583/laws.FnExactSetItemField", spec := "fnExactSetItemField", inPlace := ["slices.overlaps[loop.example/g00583/impl.Field]", "internal/bytealg.abigen_runtime_cmpstring", "slices.overlaps[loop.example/g00583/impl.Item]"], unfollowed := true, recurses := true, apart := false }
def FnExactSetItemFieldSaid : Prop := fnExactSetItemFieldRow.holds Try.pinned (OpenSpec.ofChange fnExactSetItemFieldSpec)

/-- ITS FALSE NEIGHBOUR: 'it returns false'. Refute it at one input. -/
def fnExactSetItemFieldWrong : ChangeSpec := { name := "fnExactSetItemField", fn := fun _ => fun
  | [d1, d2] => { results := [.lit (.bool false)], args := [d1, d2] }
  | _ => none }
def FnExactSetItemFieldWrongFalsely : Prop := fnExactSetItemFieldRow.holds Try.pinned (OpenSpec.ofChange fnExactSetItemFieldWrong)

/-- 'laws.FnExactLocalStore': WHATEVER THE INPUT: true; the input reads as it did. -/
def fnExactLocalStoreSpec : ChangeSpec := { name := "fnExactLocalStore", fn := fun _ => fun
  | [d] => { results := [.lit (.bool true)], args := [d] }
  | _ => none }
def fnExactLocalStoreRow : OpenClaim := { program := "ytapgglghaknjlaa", sum := "9e6b7dc132a10863cd822eb01f241143919a9122eeb7a1507a7bb07c1a7f65ca", func := "loop.example/g00583/laws.FnExactLocalStore", spec := "fnExactLocalStore", inPlace := ["slices.overlaps[loop.example/g00583/impl.Field]", "internal/bytealg.abigen_runtime_cmpstring", "slices.overlaps[loop.example/g00583/impl.Item]"], unfollowed := true, recurses := true, apart := false }
def FnExactLocalStoreSaid : Prop := fnExactLocalStoreRow.holds Try.pinned (OpenSpec.ofChange fnExactLocalStoreSpec)

/-- ITS FALSE NEIGHBOUR: 'it returns false'. Refute it at one input. -/
def fnExactLocalStoreWrong : ChangeSpec := { name := "fnExactLocalStore", fn := fun _ => fun
  | [d] => { results := [.lit (.bool false)], args := [d] }
  | _ => none }
def FnExactLocalStoreWrongFalsely : Prop := fnExactLocalStoreRow.holds Try.pinned (OpenSpec.ofChange fnExactLocalStoreWrong)

/- THE SECOND FORM. 'bulk': how many values and letters a reading holds, each counted each time it is reached (what is shared counts as often as it is met; a slice's spare places count too). A statement '..UptoSaid' is the law's where the arguments, and the package variables that the reading takes, are together of bulk at most 1048576: NARROWER than '..Said'. Prove '..Said' where nothing that the law and all that it calls make is longer than what came in: it says more and counts as full. Else prove '..UptoSaid'. A law counts once. -/
mutual
def uptoBulk {H : Type} : DataW H → Nat
  | .lit (.string bytes) => bytes.length + 1
  | .lit _ => 1
  | .nil => 1
  | .ptr d => uptoBulk d + 1
  | .slice elems spare => uptoBulkAll elems + uptoBulkAll spare + 1
  | .agg parts => uptoBulkAll parts + 1
  | .iface _ d => uptoBulk d + 1
  | .map entries => uptoBulkEntries entries + 1
  | .held _ => 1
def uptoBulkAll {H : Type} : List (DataW H) → Nat
  | [] => 0
  | d :: r => uptoBulk d + uptoBulkAll r
def uptoBulkEntries {H : Type} : List (Lit × DataW H) → Nat
  | [] => 0
  | x :: r => uptoBulkEntry x + uptoBulkEntries r
def uptoBulkEntry {H : Type} : Lit × DataW H → Nat
  | (.string bytes, d) => bytes.length + uptoBulk d + 1
  | (_, d) => uptoBulk d + 1
 end
def uptoSmall : (H : Type) → List (DataW H) → Bool := fun _ ds => decide (uptoBulkAll ds ≤ 1048576)
def OpenSpec.upto (s : _root_.Go.ChangeSpec) : _root_.Go.OpenSpec := { _root_.Go.OpenSpec.ofChange s with cond := some uptoSmall }

/-- 'laws.FnExactServerDigest', WHERE WHAT IT READS IS OF BULK AT MOST 1048576: true; the input reads as it did. -/
def fnExactServerDigestUptoRow : OpenClaim := { program := "ytapgglghaknjlaa", sum := "9e6b7dc132a10863cd822eb01f241143919a9122eeb7a1507a7bb07c1a7f65ca", func := "loop.example/g00583/laws.FnExactServerDigest", spec := "fnExactServerDigest", apart := false, narrowed := true }
def FnExactServerDigestUptoSaid : Prop := fnExactServerDigestUptoRow.holds Try.pinned (OpenSpec.upto fnExactServerDigestSpec)

/-- 'laws.FnExactSetItemField', WHERE WHAT IT READS IS OF BULK AT MOST 1048576: true; the input reads as it did. -/
def fnExactSetItemFieldUptoRow : OpenClaim := { program := "ytapgglghaknjlaa", sum := "9e6b7dc132a10863cd822eb01f241143919a9122eeb7a1507a7bb07c1a7f65ca", func := "loop.example/g00583/laws.FnExactSetItemField", spec := "fnExactSetItemField", inPlace := ["slices.overlaps[loop.example/g00583/impl.Field]", "internal/bytealg.abigen_runtime_cmpstring", "slices.overlaps[loop.example/g00583/impl.Item]"], unfollowed := true, recurses := true, apart := false, narrowed := true }
def FnExactSetItemFieldUptoSaid : Prop := fnExactSetItemFieldUptoRow.holds Try.pinned (OpenSpec.upto fnExactSetItemFieldSpec)

/-- 'laws.FnExactLocalStore', WHERE WHAT IT READS IS OF BULK AT MOST 1048576: true; the input reads as it did. -/
def fnExactLocalStoreUptoRow : OpenClaim := { program := "ytapgglghaknjlaa", sum := "9e6b7dc132a10863cd822eb01f241143919a9122eeb7a1507a7bb07c1a7f65ca", func := "loop.example/g00583/laws.FnExactLocalStore", spec := "fnExactLocalStore", inPlace := ["slices.overlaps[loop.example/g00583/impl.Field]", "internal/bytealg.abigen_runtime_cmpstring", "slices.overlaps[loop.example/g00583/impl.Item]"], unfollowed := true, recurses := true, apart := false, narrowed := true }
def FnExactLocalStoreUptoSaid : Prop := fnExactLocalStoreUptoRow.holds Try.pinned (OpenSpec.upto fnExactLocalStoreSpec)

end Rows
end Go.Proofs.Ytapgglghaknjlaa
