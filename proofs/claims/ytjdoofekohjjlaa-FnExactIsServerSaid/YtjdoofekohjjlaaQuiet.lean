/-
  A region that draws its order, whose operations read old memory and whose callees hand back a value that no order turns and only lay new blocks: walked once, in the order of the text. No function of the program is named here.
-/
import Derived.Test.YtjdoofekohjjlaaGrow
import Derived.Lib.QuietBelow
import Derived.BigQuiet
namespace Go.Proofs.Ytjdoofekohjjlaa
open Go.RowKit

/-- A world that has grown out of w. -/
def rg (w : World) (p : Regrown) : World := Go.Sort.grow (redrawn w p.d) p.os
theorem rg_below (w : World) (p : Regrown) : Below w.heap.size w (rg w p) := below_regrown w p.d p.os
theorem rg_of {w w' : World} (h : Below w.heap.size w w') : ∃ p : Regrown, w' = rg w p := regrown_of_below h
theorem rg_of' {w w' : World} {p : Regrown} (h : Below (rg w p).heap.size (rg w p) w') : ∃ p : Regrown, w' = rg w p :=
  rg_of ((rg_below w p).trans (h.mono (rg_below w p).size))
theorem rg_cell {w : World} {a : Addr} {v : Value} (h : w.cell? a = some v) : ∀ p, (rg w p).cell? a = some v := fun p => by
  rw [(rg_below w p).cell (block_lt_of_cell h)]; exact h
theorem rg_var {w : World} {k : Nat} {cs : Array Value} (h : WB w k cs) : ∀ p o, (rg w p).cell? ⟨k, o, none⟩ = cs[o]? := fun p o => (h.keep (rg_below w p)).cell o
attribute [irreducible] rg
theorem wp_region_rg {P : Program} {id : Nat} {Q : Exit → Act → World → Prop} {a : Act} {w : World} {l : List Oper} (hm : P.follows .mixedOrders = true) (hB : Region.lexB .any l.toArray = true)
    (h : wpQuiet P l.toArray (fun w' => ∃ p : Regrown, w' = rg w p) (fun a' => ∀ w', (∃ p : Regrown, w' = rg w p) → Q .normal a' w') l a) : (Code.region id l.toArray true).wp P Q a w := by
  refine wp_region_quiet (C := fun w' => ∃ p : Regrown, w' = rg w p) hm hB (rg_of ⟨rfl, rfl, rfl, Nat.le_refl _, fun _ _ => rfl⟩) (by simpa using h)
theorem calls_rg {P : Program} {f : FuncId} {args : Array Value} {w : World} {p : Regrown} {v : Value}
    (h : Calls P f args (rg w p) fun e w' => e = .returned v ∧ Below (rg w p).heap.size (rg w p) w') : Calls P f args (rg w p) fun e w'' => e = .returned v ∧ ∃ p : Regrown, w'' = rg w p :=
  h.mono fun _ _ ⟨he, hb⟩ => ⟨he, rg_of' hb⟩
theorem calls_rgSame {P : Program} {f : FuncId} {args : Array Value} {w : World} {p : Regrown} {v : Value}
    (h : Calls P f args (rg w p) fun e w' => e = .returned v ∧ rg w p = w') : Calls P f args (rg w p) fun e w'' => e = .returned v ∧ ∃ p : Regrown, w'' = rg w p :=
  h.mono fun _ _ ⟨he, hb⟩ => ⟨he, p, hb.symm⟩

end Go.Proofs.Ytjdoofekohjjlaa
