/-
  What the values of this program read as: 'Rep' (a pure datum for a row of cells), slices of such data, what a call owns. No function of the program is named here.
-/
import Derived.WalkKit
import Derived.WalkSpells
import Derived.WalkLawsBesides
import Derived.ProofKit
namespace Go.Proofs.Ytkhfadklfdkdeaa
open Go.RowKit

/-- A datum of type α as a row of n cells: what it reads as in a world, and the blocks that it leads to. 'own': the blocks are whole rows that may be written. -/
structure Rep (α : Type) where
  n : Nat
  rd : Bool → World → List Value → α → List Nat → Prop
  len : ∀ {o w cs x fp}, rd o w cs x fp → cs.length = n
  one : ∀ {o w cs x fp}, rd o w cs x fp → ∀ u ∈ cs, u.oneCell' = true
  frame : ∀ {o w cs x fp} {w' : World}, rd o w cs x fp → (∀ b ∈ fp, w'.heap[b]? = w.heap[b]?) → rd o w' cs x fp
  lt : ∀ {o w cs x fp}, rd o w cs x fp → ∀ b ∈ fp, b < w.heap.size
  weak : ∀ {o w cs x fp}, rd o w cs x fp → rd false w cs x fp

/-- A datum that its cells hold whole. -/
def Rep.flat {α : Type} (n : Nat) (enc : α → List Value) (ok : α → Prop) (hl : ∀ x, (enc x).length = n) (h1 : ∀ x, ∀ u ∈ enc x, u.oneCell' = true) : Rep α where
  n := n
  rd _ _ cs x fp := cs = enc x ∧ fp = [] ∧ ok x
  len := by rintro _ _ _ x _ ⟨rfl, _, _⟩; exact hl x
  one := by rintro _ _ _ x _ ⟨rfl, _, _⟩; exact h1 x
  frame := by rintro _ _ _ _ _ _ h _; exact h
  lt := by rintro _ _ _ _ _ ⟨_, rfl, _⟩ b hb; cases hb
  weak := by rintro _ _ _ _ _ h; exact h

def Rep.int : Rep Int := Rep.flat 1 (fun n => [.int .i64 n]) (fun _ => True) (fun _ => rfl) (fun _ u hu => by simp at hu; subst hu; rfl)
def Rep.bool : Rep Bool := Rep.flat 1 (fun n => [.bool n]) (fun _ => True) (fun _ => rfl) (fun _ u hu => by simp at hu; subst hu; rfl)
def Rep.byte : Rep UInt8 := Rep.flat 1 (fun n => [.int .u8 n.toNat]) (fun _ => True) (fun _ => rfl) (fun _ u hu => by simp at hu; subst hu; rfl)
def Rep.str : Rep ByteArray := Rep.flat 1 (fun n => [.string n]) (fun s => s.size ≤ maxLen) (fun _ => rfl) (fun _ u hu => by simp at hu; subst hu; rfl)

def Rep.prod {α β : Type} (R : Rep α) (S : Rep β) : Rep (α × β) where
  n := R.n + S.n
  rd o w cs x fp := ∃ c1 c2 f1 f2, cs = c1 ++ c2 ∧ fp = f1 ++ f2 ∧ R.rd o w c1 x.1 f1 ∧ S.rd o w c2 x.2 f2
  len := by rintro _ _ _ _ _ ⟨c1, c2, f1, f2, rfl, rfl, h1, h2⟩; rw [List.length_append, R.len h1, S.len h2]
  one := by
    rintro _ _ _ _ _ ⟨c1, c2, f1, f2, rfl, rfl, h1, h2⟩ u hu
    rcases List.mem_append.1 hu with hu | hu
    · exact R.one h1 u hu
    · exact S.one h2 u hu
  frame := by
    rintro _ _ _ _ _ _ ⟨c1, c2, f1, f2, rfl, rfl, h1, h2⟩ hf
    exact ⟨c1, c2, f1, f2, rfl, rfl, R.frame h1 fun b hb => hf b (List.mem_append.2 (.inl hb)), S.frame h2 fun b hb => hf b (List.mem_append.2 (.inr hb))⟩
  lt := by
    rintro _ _ _ _ _ ⟨c1, c2, f1, f2, rfl, rfl, h1, h2⟩ b hb
    rcases List.mem_append.1 hb with hb | hb
    · exact R.lt h1 b hb
    · exact S.lt h2 b hb
  weak := by
    rintro _ _ _ _ _ ⟨c1, c2, f1, f2, rfl, rfl, h1, h2⟩
    exact ⟨c1, c2, f1, f2, rfl, rfl, R.weak h1, S.weak h2⟩

/-- The same cells, told as another type. -/
def Rep.iso {α β : Type} (R : Rep β) (f : α → β) : Rep α where
  n := R.n
  rd o w cs x fp := R.rd o w cs (f x) fp
  len h := R.len h
  one h := R.one h
  frame h := R.frame h
  lt h := R.lt h
  weak h := R.weak h

/-! ### Slices -/

/-- An element: its cells, what they read as, the blocks that it leads to. -/
abbrev El (α : Type) := List Value × α × List Nat

/-- A slice value with n elements, whose cells are xs. -/
def Row (w : World) (v : Value) (n : Nat) (xs : List Value) : Prop :=
  (v = .slice none 0 0 ∧ n = 0) ∨ ∃ b off cap, v = .slice (some ⟨b, off, none⟩) n cap ∧ n ≤ cap ∧ cap ≤ maxLen ∧ b < w.heap.size ∧
    ∀ j u, xs[j]? = some u → w.cell? ⟨b, off + j, none⟩ = some u

def cellsOf {α : Type} (ts : List (El α)) : List Value := ts.flatMap (·.1)
def feet {α : Type} (ts : List (El α)) : List Nat := ts.flatMap (·.2.2)
def vals {α : Type} (ts : List (El α)) : List α := ts.map (·.2.1)

def Sl {α : Type} (o : Bool) (E : TypeId) (R : Rep α) (w : World) (v : Value) (ts : List (El α)) : Prop :=
  (∀ t ∈ ts, R.rd o w t.1 t.2.1 t.2.2) ∧ Row w v ts.length (cellsOf ts) ∧ (o = true → w.ownsRow 0 E R.n v ts.length (cellsOf ts))

theorem Row.frame {w w' : World} {v : Value} {n : Nat} {xs : List Value} (h : Row w v n xs) (hf : ∀ b ∈ v.ownBlock.toList, w'.heap[b]? = w.heap[b]?) : Row w' v n xs := by
  rcases h with h | ⟨b, off, cap, rfl, h1, h2, h3, h4⟩
  · exact .inl h
  · have hb := hf b (by simp [Value.ownBlock])
    refine .inr ⟨b, off, cap, rfl, h1, h2, ?_, fun j u hu => (World.cell?_of_block (by exact hb)).trans (h4 j u hu)⟩
    have : w'.heap[b]? ≠ none := by rw [hb]; simp; exact h3
    simpa using this

theorem ownsRow_frame {w w' : World} {base : Nat} {e : TypeId} {size : Nat} {v : Value} {n : Nat} {xs : List Value} (h : w.ownsRow base e size v n xs) (hf : ∀ b ∈ v.ownBlock.toList, w'.heap[b]? = w.heap[b]?) : w'.ownsRow base e size v n xs := by
  refine ⟨h.1, ?_⟩
  rcases h.2 with hn | ⟨g, cap, cur, rfl, hb, hg, rest⟩
  · exact .inl hn
  · exact .inr ⟨g, cap, cur, rfl, hb, (hf g (by simp [Value.ownBlock])).trans hg, rest⟩

theorem ownsRow_rebase {w : World} {base base' : Nat} {e : TypeId} {size : Nat} {v : Value} {n : Nat} {xs : List Value} (h : w.ownsRow base e size v n xs) (hb : ∀ b ∈ v.ownBlock.toList, base' ≤ b) : w.ownsRow base' e size v n xs := by
  refine ⟨h.1, ?_⟩
  rcases h.2 with hn | ⟨g, cap, cur, rfl, _, rest⟩
  · exact .inl hn
  · exact .inr ⟨g, cap, cur, rfl, hb g (by simp [Value.ownBlock]), rest⟩

/-- What is owned reads. -/
theorem Row.of_owns {w : World} {base : Nat} {e : TypeId} {size : Nat} {v : Value} {n : Nat} {xs : List Value} (h : w.ownsRow base e size v n xs) : Row w v n xs := by
  rcases h.2 with hn | ⟨g, cap, cur, rfl, hb, hg, hnc, hcm, hcs, htake⟩
  · exact .inl hn
  · refine .inr ⟨g, 0, cap, rfl, hnc, hcm, (Array.getElem?_eq_some_iff.1 hg).1, fun j u hu => ?_⟩
    have hj : j < n * size := by have := (List.getElem?_eq_some_iff.1 hu).1; rw [h.1] at this; exact this
    rw [Nat.zero_add, World.ownsRow.cellAt h j hj]
    exact hu

theorem Row.lt {w : World} {v : Value} {n : Nat} {xs : List Value} (h : Row w v n xs) : ∀ b ∈ v.ownBlock.toList, b < w.heap.size := by
  rcases h with ⟨rfl, _⟩ | ⟨b, off, cap, rfl, _, _, h3, _⟩
  · intro b hb; simp [Value.ownBlock] at hb
  · intro b' hb; simp [Value.ownBlock] at hb; omega

theorem Row.oneCell {w : World} {v : Value} {n : Nat} {xs : List Value} (h : Row w v n xs) : v.oneCell' = true := by
  rcases h with ⟨rfl, _⟩ | ⟨b, off, cap, rfl, _⟩ <;> rfl

def Rep.slice {α : Type} (E : TypeId) (R : Rep α) : Rep (List α) where
  n := 1
  rd o w cs l fp := ∃ v ts, cs = [v] ∧ l = vals ts ∧ fp = v.ownBlock.toList ++ feet ts ∧ Sl o E R w v ts
  len := by rintro _ _ _ _ _ ⟨v, ts, rfl, _⟩; rfl
  one := by
    rintro _ _ _ _ _ ⟨v, ts, rfl, _, _, h⟩ u hu
    simp at hu; subst hu; exact h.2.1.oneCell
  frame := by
    rintro o w _ _ _ w' ⟨v, ts, rfl, rfl, rfl, h1, h2, h3⟩ hf
    refine ⟨v, ts, rfl, rfl, rfl, fun t ht => R.frame (h1 t ht) fun b hb => hf b (List.mem_append.2 (.inr (List.mem_flatMap.2 ⟨t, ht, hb⟩))), h2.frame fun b hb => hf b (List.mem_append.2 (.inl hb)), fun ho => ownsRow_frame (h3 ho) fun b hb => hf b (List.mem_append.2 (.inl hb))⟩
  lt := by
    rintro o w _ _ _ ⟨v, ts, rfl, rfl, rfl, h1, h2, h3⟩ b hb
    rcases List.mem_append.1 hb with hb | hb
    · exact h2.lt b hb
    · obtain ⟨t, ht, hb⟩ := List.mem_flatMap.1 hb
      exact R.lt (h1 t ht) b hb
  weak := by
    rintro o w _ _ _ ⟨v, ts, rfl, rfl, rfl, h1, h2, h3⟩
    exact ⟨v, ts, rfl, rfl, rfl, fun t ht => R.weak (h1 t ht), h2, fun ho => by cases ho⟩

/-- What a call hands back: new, owned, and no two parts of it share memory. -/
def Fresh {α : Type} (R : Rep α) (B : Nat) (w : World) (cs : List Value) (x : α) : Prop :=
  ∃ fp, R.rd true w cs x fp ∧ fp.Nodup ∧ ∀ b ∈ fp, B ≤ b

/-- What a call is handed: it reads. -/
def Reads {α : Type} (R : Rep α) (w : World) (cs : List Value) (x : α) : Prop := ∃ fp, R.rd false w cs x fp

theorem Reads.below {α : Type} {R : Rep α} {w w' : World} {cs : List Value} {x : α} (h : Reads R w cs x) (hb : Below w.heap.size w w') : Reads R w' cs x := by
  obtain ⟨fp, h⟩ := h
  exact ⟨fp, R.frame h fun b hb' => hb.block b (R.lt h b hb')⟩
theorem Fresh.reads {α : Type} {R : Rep α} {B : Nat} {w : World} {cs : List Value} {x : α} (h : Fresh R B w cs x) : Reads R w cs x := by
  obtain ⟨fp, h, _⟩ := h
  exact ⟨fp, R.weak h⟩
theorem Fresh.mono {α : Type} {R : Rep α} {B B' : Nat} {w : World} {cs : List Value} {x : α} (h : Fresh R B w cs x) (hB : B' ≤ B) : Fresh R B' w cs x := by
  obtain ⟨fp, h, h2, h3⟩ := h
  exact ⟨fp, h, h2, fun b hb => Nat.le_trans hB (h3 b hb)⟩
theorem Fresh.below {α : Type} {R : Rep α} {B : Nat} {w w' : World} {cs : List Value} {x : α} (h : Fresh R B w cs x) (hb : Below w.heap.size w w') : Fresh R B w' cs x := by
  obtain ⟨fp, h, h2, h3⟩ := h
  exact ⟨fp, R.frame h fun b hb' => hb.block b (R.lt h b hb'), h2, h3⟩

end Go.Proofs.Ytkhfadklfdkdeaa
