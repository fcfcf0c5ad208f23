/-
  What the values of this program read as: 'Rep' (a pure datum for a row of cells), slices of such data, what a call owns. No function of the program is named here.
-/
import Derived.WalkKit
import Derived.WalkSpells
import Derived.WalkLawsBesides
import Derived.ProofKit
import Derived.OpenShut
import Derived.Deep.Slices
import Derived.Lib.Hide
import Derived.Deep.Light
import Derived.Deep.QuietTactic
import Derived.BigQuiet
import Derived.Deep.RegionHeld3
import Derived.StillTailTactics
import Derived.Deep.RegionWith
import Derived.Deep.DeepFit
import Derived.Deep.DeepMust
namespace Go.Proofs.Ytjdoofekohjjlaa
open Go.RowKit

/-- A datum of type α as a row of n cells: what it reads as in a world, and the blocks that it leads to. 'own': the blocks are whole rows that may be written. -/
structure Rep (α : Type) where
  n : Nat
  rd : Bool → World → List Value → α → List Nat → Prop
  len : ∀ {o w cs x fp}, rd o w cs x fp → cs.length = n
  one : ∀ {o w cs x fp}, rd o w cs x fp → ∀ u ∈ cs, u.oneCell' = true
  frame : ∀ {o w cs x fp} {w' : World}, rd o w cs x fp → (∀ b ∈ fp, w'.heap[b]? = w.heap[b]?) → rd o w' cs x fp
  lt : ∀ {o w cs x fp}, rd o w cs x fp → ∀ b ∈ fp, b < w.heap.size
  weak : ∀ {o w cs x fp}, rd o w cs x fp → ∃ fq, rd false w cs x fq ∧ ∀ b ∈ fq, b ∈ fp

/-- A datum that its cells hold whole. -/
def Rep.flat {α : Type} (n : Nat) (enc : α → List Value) (ok : α → Prop) (hl : ∀ x, (enc x).length = n) (h1 : ∀ x, ∀ u ∈ enc x, u.oneCell' = true) : Rep α where
  n := n
  rd _ _ cs x fp := cs = enc x ∧ fp = [] ∧ ok x
  len := by rintro _ _ _ x _ ⟨rfl, _, _⟩; exact hl x
  one := by rintro _ _ _ x _ ⟨rfl, _, _⟩; exact h1 x
  frame := by rintro _ _ _ _ _ _ h _; exact h
  lt := by rintro _ _ _ _ _ ⟨_, rfl, _⟩ b hb; cases hb
  weak := by rintro _ _ _ _ _ h; exact ⟨_, h, fun _ h => h⟩

def Rep.int : Rep Int := Rep.flat 1 (fun n => [.int .i64 n]) (fun _ => True) (fun _ => rfl) (fun _ u hu => by simp at hu; subst hu; rfl)
def Rep.bool : Rep Bool := Rep.flat 1 (fun n => [.bool n]) (fun _ => True) (fun _ => rfl) (fun _ u hu => by simp at hu; subst hu; rfl)
def Rep.byte : Rep UInt8 := Rep.flat 1 (fun n => [.int .u8 n.toNat]) (fun _ => True) (fun _ => rfl) (fun _ u hu => by simp at hu; subst hu; rfl)
def Rep.str : Rep ByteArray := Rep.flat 1 (fun n => [.string n]) (fun s => s.size ≤ maxLen) (fun _ => rfl) (fun _ u hu => by simp at hu; subst hu; rfl)

def Rep.prod {α β : Type} (R : Rep α) (S : Rep β) : Rep (α × β) where
  n := R.n + S.n
  rd o w cs x fp := ∃ c1 c2 f1 f2, cs = c1 ++ c2 ∧ fp = f1 ++ f2 ∧ R.rd o w c1 x.1 f1 ∧ S.rd o w c2 x.2 f2
  len := by rintro _ _ _ _ _ ⟨c1, c2, f1, f2, rfl, rfl, h1, h2⟩; rw [List.length_append, R.len h1, S.len h2]
  one := by
    rintro _ _ _ _ _ ⟨c1, c2, f1, f2, rfl, rfl, h1, h2⟩ u hu
    rcases List.mem_append.1 hu with hu | hu
    · exact R.one h1 u hu
    · exact S.one h2 u hu
  frame := by
    rintro _ _ _ _ _ _ ⟨c1, c2, f1, f2, rfl, rfl, h1, h2⟩ hf
    exact ⟨c1, c2, f1, f2, rfl, rfl, R.frame h1 fun b hb => hf b (List.mem_append.2 (.inl hb)), S.frame h2 fun b hb => hf b (List.mem_append.2 (.inr hb))⟩
  lt := by
    rintro _ _ _ _ _ ⟨c1, c2, f1, f2, rfl, rfl, h1, h2⟩ b hb
    rcases List.mem_append.1 hb with hb | hb
    · exact R.lt h1 b hb
    · exact S.lt h2 b hb
  weak := by
    rintro _ _ _ _ _ ⟨c1, c2, f1, f2, rfl, rfl, h1, h2⟩
    obtain ⟨g1, k1, s1⟩ := R.weak h1
    obtain ⟨g2, k2, s2⟩ := S.weak h2
    exact ⟨g1 ++ g2, ⟨c1, c2, g1, g2, rfl, rfl, k1, k2⟩, fun b hb => (List.mem_append.1 hb).elim (fun h => List.mem_append.2 (.inl (s1 b h))) fun h => List.mem_append.2 (.inr (s2 b h))⟩

/-- The same cells, told as another type. -/
def Rep.iso {α β : Type} (R : Rep β) (f : α → β) : Rep α where
  n := R.n
  rd o w cs x fp := R.rd o w cs (f x) fp
  len h := R.len h
  one h := R.one h
  frame h := R.frame h
  lt h := R.lt h
  weak h := R.weak h

/-! ### Slices -/

/-- An element: its cells, what they read as, the blocks that it leads to. -/
abbrev El (α : Type) := List Value × α × List Nat

/-- A slice value with n elements, whose cells are xs. -/
def Row (w : World) (v : Value) (n : Nat) (xs : List Value) : Prop :=
  ∃ ao cap, v = .slice ao n cap ∧ n ≤ cap ∧ cap ≤ maxLen ∧ (n = 0 ∨ ∃ b off, ao = some ⟨b, off, none⟩ ∧ b < w.heap.size ∧ ∀ j u, xs[j]? = some u → w.cell? ⟨b, off + j, none⟩ = some u)

def cellsOf {α : Type} (ts : List (El α)) : List Value := ts.flatMap (·.1)
def feet {α : Type} (ts : List (El α)) : List Nat := ts.flatMap (·.2.2)
def vals {α : Type} (ts : List (El α)) : List α := ts.map (·.2.1)
/-- The slice's own block, where it is owned or has an element. -/
def head (o : Bool) (v : Value) (n : Nat) : List Nat := if o || n != 0 then v.ownBlock.toList else []

def Sl {α : Type} (o : Bool) (E : TypeId) (R : Rep α) (w : World) (v : Value) (ts : List (El α)) : Prop :=
  (∀ t ∈ ts, R.rd o w t.1 t.2.1 t.2.2) ∧ Row w v ts.length (cellsOf ts) ∧ (o = true → w.ownsRow 0 E R.n v ts.length (cellsOf ts))

theorem Row.frame {w w' : World} {v : Value} {n : Nat} {xs : List Value} {o : Bool} (h : Row w v n xs) (hf : ∀ b ∈ head o v n, w'.heap[b]? = w.heap[b]?) : Row w' v n xs := by
  obtain ⟨ao, cap, rfl, h1, h2, h3⟩ := h
  refine ⟨ao, cap, rfl, h1, h2, ?_⟩
  rcases h3 with h3 | ⟨b, off, rfl, h3, h4⟩
  · exact .inl h3
  · by_cases hn : n = 0
    · exact .inl hn
    have hb := hf b (by simp [head, Value.ownBlock, hn])
    refine .inr ⟨b, off, rfl, ?_, fun j u hu => (World.cell?_of_block (by exact hb)).trans (h4 j u hu)⟩
    have : w'.heap[b]? ≠ none := by rw [hb]; simp; exact h3
    simpa using this

theorem ownsRow_frame {w w' : World} {base : Nat} {e : TypeId} {size : Nat} {v : Value} {n : Nat} {xs : List Value} (h : w.ownsRow base e size v n xs) (hf : ∀ b ∈ v.ownBlock.toList, w'.heap[b]? = w.heap[b]?) : w'.ownsRow base e size v n xs := by
  refine ⟨h.1, ?_⟩
  rcases h.2 with hn | ⟨g, cap, cur, rfl, hb, hg, rest⟩
  · exact .inl hn
  · exact .inr ⟨g, cap, cur, rfl, hb, (hf g (by simp [Value.ownBlock])).trans hg, rest⟩

theorem ownsRow_rebase {w : World} {base base' : Nat} {e : TypeId} {size : Nat} {v : Value} {n : Nat} {xs : List Value} (h : w.ownsRow base e size v n xs) (hb : ∀ b ∈ v.ownBlock.toList, base' ≤ b) : w.ownsRow base' e size v n xs := by
  refine ⟨h.1, ?_⟩
  rcases h.2 with hn | ⟨g, cap, cur, rfl, _, rest⟩
  · exact .inl hn
  · exact .inr ⟨g, cap, cur, rfl, hb g (by simp [Value.ownBlock]), rest⟩

/-- What is owned reads. -/
theorem Row.of_owns {w : World} {base : Nat} {e : TypeId} {size : Nat} {v : Value} {n : Nat} {xs : List Value} (h : w.ownsRow base e size v n xs) : Row w v n xs := by
  rcases h.2 with ⟨rfl, rfl⟩ | ⟨g, cap, cur, rfl, hb, hg, hnc, hcm, hcs, htake⟩
  · exact ⟨none, 0, rfl, Nat.le_refl _, Nat.zero_le _, .inl rfl⟩
  · refine ⟨_, cap, rfl, hnc, hcm, .inr ⟨g, 0, rfl, (Array.getElem?_eq_some_iff.1 hg).1, fun j u hu => ?_⟩⟩
    have hj : j < n * size := by have := (List.getElem?_eq_some_iff.1 hu).1; rw [h.1] at this; exact this
    rw [Nat.zero_add, World.ownsRow.cellAt h j hj]
    exact hu

theorem Row.oneCell {w : World} {v : Value} {n : Nat} {xs : List Value} (h : Row w v n xs) : v.oneCell' = true := by
  obtain ⟨ao, cap, rfl, _⟩ := h; rfl

theorem Sl.lt {α : Type} {o : Bool} {E : TypeId} {R : Rep α} {w : World} {v : Value} {ts : List (El α)} (h : Sl o E R w v ts) : ∀ b ∈ head o v ts.length ++ feet ts, b < w.heap.size := by
  obtain ⟨h1, h2, h3⟩ := h
  intro b hb
  rcases List.mem_append.1 hb with hb | hb
  · unfold head at hb
    by_cases ho : o = true
    · simp [ho] at hb
      exact ((h3 ho).lt b hb).2
    · obtain ⟨ao, cap, rfl, _, _, h3⟩ := h2
      by_cases hn : ts.length = 0
      · simp [ho, hn] at hb
      · rcases h3 with h3 | ⟨b', off, rfl, h3, _⟩
        · exact absurd h3 hn
        · simp [ho, hn, Value.ownBlock] at hb
          omega
  · obtain ⟨t, ht, hb⟩ := List.mem_flatMap.1 hb
    exact R.lt (h1 t ht) b hb

theorem Sl.frame {α : Type} {o : Bool} {E : TypeId} {R : Rep α} {w w' : World} {v : Value} {ts : List (El α)} (h : Sl o E R w v ts) (hf : ∀ b ∈ head o v ts.length ++ feet ts, w'.heap[b]? = w.heap[b]?) : Sl o E R w' v ts := by
  obtain ⟨h1, h2, h3⟩ := h
  refine ⟨fun t ht => R.frame (h1 t ht) fun b hb => hf b (List.mem_append.2 (.inr (List.mem_flatMap.2 ⟨t, ht, hb⟩))), h2.frame (o := o) fun b hb => hf b (List.mem_append.2 (.inl hb)), fun ho => ownsRow_frame (h3 ho) fun b hb => hf b (List.mem_append.2 (.inl (by simpa [head, ho] using hb)))⟩

/-- The elements, each weakened. -/
theorem els_weak {α : Type} {o : Bool} {R : Rep α} {w : World} : ∀ (ts : List (El α)), (∀ t ∈ ts, R.rd o w t.1 t.2.1 t.2.2) →
    ∃ us : List (El α), (∀ t ∈ us, R.rd false w t.1 t.2.1 t.2.2) ∧ cellsOf us = cellsOf ts ∧ vals us = vals ts ∧ us.length = ts.length ∧ ∀ b ∈ feet us, b ∈ feet ts
  | [], _ => ⟨[], by simp, rfl, rfl, rfl, by simp⟩
  | t :: ts, h => by
    obtain ⟨us, h1, h2, h3, h4, h5⟩ := els_weak ts fun t ht => h t (by simp [ht])
    obtain ⟨fq, k1, k2⟩ := R.weak (h t (by simp))
    refine ⟨(t.1, t.2.1, fq) :: us, ?_, ?_, ?_, by simp [h4], ?_⟩
    · intro u hu
      rcases List.mem_cons.1 hu with rfl | hu
      · exact k1
      · exact h1 u hu
    · simp only [cellsOf, List.flatMap_cons] at h2 ⊢; rw [h2]
    · simp only [vals, List.map_cons] at h3 ⊢; rw [h3]
    · intro b hb
      simp only [feet, List.flatMap_cons, List.mem_append] at hb h5 ⊢
      rcases hb with hb | hb
      · exact .inl (k2 b hb)
      · exact .inr (h5 b hb)

def Rep.slice {α : Type} (E : TypeId) (R : Rep α) : Rep (List α) where
  n := 1
  rd o w cs l fp := ∃ v ts, cs = [v] ∧ l = vals ts ∧ fp = head o v ts.length ++ feet ts ∧ Sl o E R w v ts
  len := by rintro _ _ _ _ _ ⟨v, ts, rfl, _⟩; rfl
  one := by
    rintro _ _ _ _ _ ⟨v, ts, rfl, _, _, h⟩ u hu
    simp at hu; subst hu; exact h.2.1.oneCell
  frame := by
    rintro o w _ _ _ w' ⟨v, ts, rfl, rfl, rfl, h⟩ hf
    exact ⟨v, ts, rfl, rfl, rfl, h.frame hf⟩
  lt := by
    rintro o w _ _ _ ⟨v, ts, rfl, rfl, rfl, h⟩ b hb
    exact h.lt b hb
  weak := by
    rintro o w _ _ _ ⟨v, ts, rfl, rfl, rfl, h1, h2, h3⟩
    obtain ⟨us, k1, k2, k3, k4, k5⟩ := els_weak ts h1
    refine ⟨_, ⟨v, us, rfl, k3.symm, rfl, k1, by rw [k2, k4]; exact h2, fun ho => by cases ho⟩, ?_⟩
    intro b hb
    rcases List.mem_append.1 hb with hb | hb
    · refine List.mem_append.2 (.inl ?_)
      rw [k4] at hb
      unfold head at hb ⊢
      by_cases hn : ts.length = 0
      · simp [hn] at hb
      · simp [hn] at hb ⊢; exact hb
    · exact List.mem_append.2 (.inr (k5 b hb))

/-- What a call hands back: new, owned, and no two parts of it share memory. -/
def Fresh {α : Type} (R : Rep α) (B : Nat) (w : World) (cs : List Value) (x : α) : Prop :=
  ∃ fp, R.rd true w cs x fp ∧ fp.Nodup ∧ ∀ b ∈ fp, B ≤ b

/-- What a call is handed: it reads. -/
def Reads {α : Type} (R : Rep α) (w : World) (cs : List Value) (x : α) : Prop := ∃ fp, R.rd false w cs x fp

theorem Reads.below {α : Type} {R : Rep α} {w w' : World} {cs : List Value} {x : α} (h : Reads R w cs x) (hb : Below w.heap.size w w') : Reads R w' cs x := by
  obtain ⟨fp, h⟩ := h
  exact ⟨fp, R.frame h fun b hb' => hb.block b (R.lt h b hb')⟩
theorem Fresh.reads {α : Type} {R : Rep α} {B : Nat} {w : World} {cs : List Value} {x : α} (h : Fresh R B w cs x) : Reads R w cs x := by
  obtain ⟨fp, h, _⟩ := h
  obtain ⟨fq, h, _⟩ := R.weak h
  exact ⟨fq, h⟩
theorem Fresh.mono {α : Type} {R : Rep α} {B B' : Nat} {w : World} {cs : List Value} {x : α} (h : Fresh R B w cs x) (hB : B' ≤ B) : Fresh R B' w cs x := by
  obtain ⟨fp, h, h2, h3⟩ := h
  exact ⟨fp, h, h2, fun b hb => Nat.le_trans hB (h3 b hb)⟩
theorem Fresh.below {α : Type} {R : Rep α} {B : Nat} {w w' : World} {cs : List Value} {x : α} (h : Fresh R B w cs x) (hb : Below w.heap.size w w') : Fresh R B w' cs x := by
  obtain ⟨fp, h, h2, h3⟩ := h
  exact ⟨fp, R.frame h fun b hb' => hb.block b (R.lt h b hb'), h2, h3⟩

/-! ### Slices opened -/

theorem cellsOf_at {α : Type} {n : Nat} : ∀ (ts : List (El α)) (i j : Nat) (t : El α), (∀ t ∈ ts, t.1.length = n) → ts[i]? = some t → j < n → (cellsOf ts)[i * n + j]? = t.1[j]?
  | [], i, _, t, _, h, _ => by simp at h
  | s :: ts, 0, j, t, hn, h, hj => by
    simp at h; subst h
    have := hn s (by simp)
    simp only [cellsOf, List.flatMap_cons, Nat.zero_mul, Nat.zero_add]
    rw [List.getElem?_append_left (by omega)]
  | s :: ts, i + 1, j, t, hn, h, hj => by
    have h1 := hn s (by simp)
    simp only [cellsOf, List.flatMap_cons]
    rw [List.getElem?_append_right (by rw [h1, Nat.add_mul]; omega), h1, show (i + 1) * n + j - n = i * n + j by rw [Nat.add_mul]; omega]
    exact cellsOf_at ts i j t (fun t ht => hn t (by simp [ht])) (by simpa using h) hj

theorem cellsOf_length {α : Type} {n : Nat} : ∀ (ts : List (El α)), (∀ t ∈ ts, t.1.length = n) → (cellsOf ts).length = ts.length * n
  | [], _ => by simp [cellsOf]
  | s :: ts, h => by
    have := cellsOf_length ts (fun t ht => h t (by simp [ht]))
    simp only [cellsOf, List.flatMap_cons, List.length_append, List.length_cons] at *
    rw [this, h s (by simp), Nat.add_mul]; omega

theorem vals_length {α : Type} (ts : List (El α)) : (vals ts).length = ts.length := by simp [vals]

theorem slice_shape {α : Type} {o : Bool} {E : TypeId} {R : Rep α} {w : World} {cs : List Value} {l : List α} {fp : List Nat} (h : (Rep.slice E R).rd o w cs l fp) : ∃ v, cs = [v] ∧ (Rep.slice E R).rd o w [v] l fp := by
  obtain ⟨v, ts, rfl, h⟩ := h
  exact ⟨v, rfl, v, ts, rfl, h⟩

/-- A slice, opened for a walk: each element's cells. -/
theorem slice_open {α : Type} {o : Bool} {E : TypeId} {R : Rep α} {w : World} {v : Value} {l : List α} {fp : List Nat} (h : (Rep.slice E R).rd o w [v] l fp) :
    ∃ ao cap, v = .slice ao l.length cap ∧ l.length ≤ 9223372036854775807 ∧ l.length ≤ cap ∧ (∀ i, (hi : i < l.length) → ∃ b off cs fe, ao = some ⟨b, off, none⟩ ∧ b ∈ fp ∧ (∀ x ∈ fe, x ∈ fp) ∧ R.rd o w cs l[i] fe ∧
      (∀ j, j < R.n → w.cell? ⟨b, off + (i * R.n + j), none⟩ = cs[j]?)) := by
  obtain ⟨v', ts, hv, rfl, rfl, hts, hrow, _⟩ := h
  simp only [List.cons.injEq, and_true] at hv
  subst hv
  have hlen : (vals ts).length = ts.length := vals_length ts
  obtain ⟨ao, cap, rfl, hc1, hc2, hrow⟩ := hrow
  refine ⟨ao, cap, by rw [hlen], by unfold maxLen at hc2; omega, by omega, fun i hi => ?_⟩
  have hi' : i < ts.length := by omega
  rcases hrow with h0 | ⟨b, off, rfl, _, hcell⟩
  · omega
  · have hmem : ts[i] ∈ ts := List.getElem_mem _
    have hrd := hts _ hmem
    have hv : (vals ts)[i] = ts[i].2.1 := by simp [vals]
    have hn0 : ts.length ≠ 0 := by omega
    refine ⟨b, off, ts[i].1, ts[i].2.2, rfl, List.mem_append.2 (.inl (by simp [head, hn0, Value.ownBlock])), fun x hx => List.mem_append.2 (.inr (List.mem_flatMap.2 ⟨_, hmem, hx⟩)), by rw [hv]; exact hrd, fun j hj => ?_⟩
    have hl := R.len hrd
    have hat := cellsOf_at ts i j ts[i] (fun t ht => R.len (hts t ht)) (List.getElem?_eq_getElem hi') hj
    have e : ts[i].1[j]? = some (ts[i].1[j]'(by omega)) := List.getElem?_eq_getElem (by omega)
    rw [e] at hat ⊢
    exact hcell _ _ hat

/-- The same where an element is one flat cell. -/
theorem slice_flat {α : Type} {o : Bool} {E : TypeId} {enc : α → Value} {ok : α → Prop} {hl h1} {w : World} {v : Value} {l : List α} {fp : List Nat}
    (h : (Rep.slice E (Rep.flat 1 (fun x => [enc x]) ok hl h1)).rd o w [v] l fp) :
    ∃ ao cap, v = .slice ao l.length cap ∧ l.length ≤ 9223372036854775807 ∧ l.length ≤ cap ∧ (∀ i, (hi : i < l.length) → ∃ b off, ao = some ⟨b, off, none⟩ ∧ ok l[i] ∧ w.cell? ⟨b, off + i, none⟩ = some (enc l[i])) := by
  obtain ⟨ao, cap, rfl, h2, h3, h4⟩ := slice_open h
  refine ⟨ao, cap, rfl, h2, h3, fun i hi => ?_⟩
  obtain ⟨b, off, cs, fe, rfl, _, _, ⟨rfl, _, hok⟩, hc⟩ := h4 i hi
  have h0 := hc 0 (by show (0 : Nat) < 1; omega)
  have e : i * (Rep.flat 1 (fun x => [enc x]) ok hl h1).n + 0 = i := by show i * 1 + 0 = i; omega
  rw [e] at h0
  exact ⟨b, off, rfl, hok, h0⟩

/-- An owned slice of flat one-cell elements. -/
theorem slice_flat_mk {α : Type} {E : TypeId} {enc : α → Value} {ok : α → Prop} {hl h1} {w : World} {v : Value} {l : List α} {base : Nat}
    (h : w.ownsRow base E 1 v l.length (l.map enc)) (hok : ∀ x ∈ l, ok x) : Fresh (Rep.slice E (Rep.flat 1 (fun x => [enc x]) ok hl h1)) base w [v] l := by
  have hc : cellsOf (l.map fun x => (([enc x], x, []) : El α)) = l.map enc := by
    simp only [cellsOf, List.flatMap_map]
    clear h hok
    induction l with
    | nil => rfl
    | cons x l ih => simp only [List.flatMap_cons, List.map_cons, ih]; rfl
  have hf : feet (l.map fun x => (([enc x], x, []) : El α)) = [] := by simp [feet, List.flatMap_map]
  have hvb := World.ownsRow.lt h
  refine ⟨v.ownBlock.toList, ⟨v, l.map fun x => (([enc x], x, []) : El α), rfl, by simp [vals, List.map_map, Function.comp_def], by rw [hf]; simp [head], ?_, ?_, ?_⟩, ?_, ?_⟩
  · intro t ht
    obtain ⟨x, hx, rfl⟩ := List.mem_map.1 ht
    exact ⟨rfl, rfl, hok x hx⟩
  · rw [hc, List.length_map]; exact Row.of_owns h
  · intro _
    rw [hc, List.length_map]
    exact ownsRow_rebase h fun b _ => Nat.zero_le _
  · cases v.ownBlock <;> simp
  · intro b hb
    exact (hvb b (by simpa using hb)).1

/-! ### Worlds that have grown -/
theorem belR {B : Nat} {w : World} : Below B w w := Below.refl _ _
theorem belA {w a : World} {o : Obj} (h : Below w.heap.size w a) : Below w.heap.size w (a.alloc o) := h.alloc h.size o
theorem belS {B b o : Nat} {a w : World} {u : Value} (hp : B ≤ b) (h : Below B a w) : Below B a (w.setCell ⟨b, o, none⟩ u) := h.setCell (p := ⟨b, o, none⟩) hp u
theorem Fresh.slice {α : Type} {R : Rep α} {E : TypeId} {B : Nat} {w : World} {v : Value} {l : List α} (h : Fresh (Rep.slice E R) B w [v] l) : ∃ ao cap, v = .slice ao l.length cap := by
  obtain ⟨fp, h, _⟩ := h
  obtain ⟨ao, cap, rfl, _⟩ := slice_open h
  exact ⟨ao, cap, rfl⟩
theorem belN {B : Nat} {a w : World} {n : Nat} (h : Below B a w) : Below B a (w.drewN n) := h.trans ⟨rfl, rfl, rfl, Nat.le_refl _, fun _ _ => rfl⟩
theorem belD {B : Nat} {a w : World} (h : Below B a w) : Below B a w.drew := h.drew
/-- A callee's growth, seen from the caller's start. -/
theorem below_call {B : Nat} {w W0 w1 : World} (h0 : Below B w W0) (hB : B ≤ W0.heap.size) (hb : Below W0.heap.size W0 w1) : Below B w w1 := h0.trans (hb.mono hB)
/-- Old cells and old marks, as the walk takes them. -/
theorem bcell {W w1 : World} (hb : Below W.heap.size W w1) : (∀ b o, b < W.heap.size → w1.cell? ⟨b, o, none⟩ = W.cell? ⟨b, o, none⟩) ∧ (∀ b o, b < W.heap.size → w1.frozen? ⟨b, o, none⟩ = W.frozen? ⟨b, o, none⟩) :=
  ⟨fun b o h => hb.cell (p := ⟨b, o, none⟩) h, fun b o h => hb.frozen (p := ⟨b, o, none⟩) h⟩
/-- From block B on, w' holds what w1 held. -/
structure Abv (B : Nat) (w1 w' : World) : Prop where
  size : w1.heap.size ≤ w'.heap.size
  block : ∀ b, B ≤ b → b < w1.heap.size → w'.heap[b]? = w1.heap[b]?
theorem abR {B : Nat} {w : World} : Abv B w w := ⟨Nat.le_refl _, fun _ _ _ => rfl⟩
theorem abA {B : Nat} {w a : World} {o : Obj} (h : Abv B w a) : Abv B w (a.alloc o) :=
  ⟨Nat.le_trans h.size (by simp), fun b h1 h2 => (Below.heap_alloc _ _ _ (Nat.lt_of_lt_of_le h2 h.size)).trans (h.block b h1 h2)⟩
theorem abS {B b o : Nat} {w a : World} {u : Value} (hb : b < B) (h : Abv B w a) : Abv B w (a.setCell ⟨b, o, none⟩ u) :=
  ⟨Nat.le_trans h.size (by simp [World.setCell]), fun k h1 h2 => (Below.heap_setCell _ _ _ _ (by simp only []; omega)).trans (h.block k h1 h2)⟩
theorem abN {B n : Nat} {w a : World} (h : Abv B w a) : Abv B w (a.drewN n) := ⟨h.size, h.block⟩
theorem abD {B : Nat} {w a : World} (h : Abv B w a) : Abv B w a.drew := ⟨h.size, h.block⟩
theorem abB {B B' : Nat} {w a c : World} (h : Abv B w a) (hb : Below B' a c) (hB : w.heap.size ≤ B') : Abv B w c :=
  ⟨Nat.le_trans h.size hb.size, fun b h1 h2 => (hb.block b (by omega)).trans (h.block b h1 h2)⟩
/-- What a call hands back, between two block numbers. -/
def Part {α : Type} (R : Rep α) (lo hi : Nat) (w : World) (cs : List Value) (x : α) : Prop := ∃ fp, R.rd true w cs x fp ∧ fp.Nodup ∧ ∀ b ∈ fp, lo ≤ b ∧ b < hi
theorem Fresh.part {α : Type} {R : Rep α} {B : Nat} {w w' : World} {cs : List Value} {x : α} (h : Fresh R B w cs x) (ha : Abv B w w') : Part R B w.heap.size w' cs x := by
  obtain ⟨fp, h1, h2, h3⟩ := h
  exact ⟨fp, R.frame h1 fun b hb => ha.block b (h3 b hb) (R.lt h1 b hb), h2, fun b hb => ⟨h3 b hb, R.lt h1 b hb⟩⟩
theorem Part.fresh {α : Type} {R : Rep α} {lo hi B : Nat} {w : World} {cs : List Value} {x : α} (h : Part R lo hi w cs x) (hB : B ≤ lo) : Fresh R B w cs x := by
  obtain ⟨fp, h1, h2, h3⟩ := h
  exact ⟨fp, h1, h2, fun b hb => Nat.le_trans hB (h3 b hb).1⟩
theorem nodup_parts {f g : List Nat} {m : Nat} (hf : f.Nodup) (hg : g.Nodup) (h1 : ∀ b ∈ f, b < m) (h2 : ∀ b ∈ g, m ≤ b) : (f ++ g).Nodup := by
  rw [List.nodup_append]
  refine ⟨hf, hg, fun a ha b hb e => ?_⟩
  have := h1 a ha; have := h2 b hb; omega
theorem ret_val {a b : Value} (h : a = b) : Ending.returned a = .returned b := by rw [h]
theorem ret_int {k : IntKind} {a b : Int} (h : a = b) : Ending.returned (.int k a) = .returned (.int k b) := by rw [h]
theorem ret_bool {a b : Bool} (h : a = b) : Ending.returned (.bool a) = .returned (.bool b) := by rw [h]

/-- What a 'sz..' function of the laws computes. -/
def szOf (n : Nat) (left : Int) : Int := if (n : Int) ≤ left then left - n else -1
theorem szOf_spec (n : Nat) (left : Int) : ((n : Int) ≤ left → szOf n left = left - n) ∧ (¬ (n : Int) ≤ left → szOf n left = -1) :=
  ⟨fun h => by unfold szOf; rw [if_pos h], fun h => by unfold szOf; rw [if_neg h]⟩

/-- The weight of a list: its length and its elements' weights; of its first k elements. -/
def wtT {α : Type} (f : α → Nat) (l : List α) (k : Nat) : Nat := ((l.take k).map f).sum
def wtS {α : Type} (f : α → Nat) (l : List α) : Nat := l.length + (l.map f).sum
theorem wtT_succ {α : Type} (f : α → Nat) (l : List α) (k : Nat) (h : k < l.length) : wtT f l (k + 1) = wtT f l k + f l[k] := by
  unfold wtT; rw [List.take_succ_eq_append_getElem h, List.map_append, List.sum_append]; simp only [List.map_cons, List.map_nil, List.sum_cons, List.sum_nil, Nat.add_zero]
theorem wtT_le {α : Type} (f : α → Nat) : ∀ (l : List α) (k : Nat), wtT f l k ≤ (l.map f).sum
  | [], _ => by simp [wtT]
  | x :: l, 0 => by simp [wtT]
  | x :: l, k + 1 => by have := wtT_le f l k; simp [wtT] at *; omega
theorem wtT_mono {α : Type} (f : α → Nat) : ∀ (l : List α) (i j : Nat), i ≤ j → wtT f l i ≤ wtT f l j
  | [], i, j, _ => by simp [wtT]
  | x :: l, 0, j, _ => by simp [wtT]
  | x :: l, i + 1, 0, h => by omega
  | x :: l, i + 1, j + 1, h => by have := wtT_mono f l i j (by omega); simp [wtT] at *; omega
theorem wtT_all {α : Type} (f : α → Nat) (l : List α) : wtT f l l.length = (l.map f).sum := by unfold wtT; rw [List.take_length]
def wt0 {α : Type} (_ : α) : Nat := 0
theorem wtS_zero {α : Type} : ∀ (l : List α), l.length + (l.map fun _ => 0).sum = l.length
  | [] => rfl
  | x :: l => by have h := wtS_zero l; simp only [List.length_cons, List.map_cons, List.sum_cons] at h ⊢; omega
theorem wtS_elem {α : Type} (f : α → Nat) (l : List α) (k : Nat) (h : k < l.length) : f l[k] ≤ wtS f l := by
  have h1 := wtT_succ f l k h
  have h2 := wtT_le f l (k + 1)
  unfold wtS; omega
theorem wtS_ge {α : Type} (f : α → Nat) (l : List α) : l.length ≤ wtS f l := by unfold wtS; omega

/-- An element of a slice that reads. -/
theorem slice_at {α : Type} {E : TypeId} {R : Rep α} {w : World} {ao : Option Addr} {n cap : Nat} {l : List α} (h : Reads (Rep.slice E R) w [.slice ao n cap] l) (i : Nat) (hi : i < l.length) :
    ∃ b off cs, ao = some ⟨b, off, none⟩ ∧ b < w.heap.size ∧ Reads R w cs l[i] ∧ ∀ j, j < R.n → w.cell? ⟨b, off + i * R.n + j, none⟩ = cs[j]? := by
  obtain ⟨fp, h⟩ := h
  have hb := (Rep.slice E R).lt h
  obtain ⟨ao', cap', hv, _, _, h4⟩ := slice_open h
  simp only [Value.slice.injEq] at hv
  obtain ⟨rfl, _, _⟩ := hv
  obtain ⟨b, off, cs, fe, rfl, h1, h2, h3, h5⟩ := h4 i hi
  exact ⟨b, off, cs, rfl, hb b h1, ⟨fe, h3⟩, fun j hj => by rw [Nat.add_assoc]; exact h5 j hj⟩

/-! ### The arguments of a law -/

/-- Whatever the row's reader reads at type t, R reads. -/
structure Opens (P : Program) (t : TypeId) {α : Type} (R : Rep α) : Prop where
  get : ∀ {H : Type} (enc : TypeId × Value → H) (W : World) (fuel : Nat) (cs : List Value) (d : DataW H) (ps : List MemPlace),
    DataW.trod enc P W 0 (fun _ => true) true fuel t cs = some (d, ps) → ∃ x fp, R.rd false W cs x fp

theorem opens_int {P : Program} {t : TypeId} (ht : P.underlying t = some (.int .i64)) : Opens P t Rep.int := by
  refine ⟨fun {H} enc W fuel cs d ps h => ?_⟩
  obtain ⟨n, rfl, _, _⟩ := DataW.trod_int ht h
  exact ⟨n, [], rfl, rfl, trivial⟩

theorem opens_byte {P : Program} {t : TypeId} (ht : P.underlying t = some (.int .u8)) : Opens P t Rep.byte := by
  refine ⟨fun {H} enc W fuel cs d ps h => ?_⟩
  obtain ⟨n, rfl, _, hw⟩ := DataW.trod_int ht h
  have hb := bounds_u8 hw
  refine ⟨UInt8.ofNat n.toNat, [], ?_, rfl, trivial⟩
  have : (UInt8.ofNat n.toNat).toNat = n.toNat := by simp; omega
  simp only [this, Int.toNat_of_nonneg hb.1]

theorem opens_bool {P : Program} {t : TypeId} (ht : P.underlying t = some .bool) : Opens P t Rep.bool := by
  refine ⟨fun {H} enc W fuel cs d ps h => ?_⟩
  obtain ⟨b, rfl, _⟩ := DataW.trod_bool ht h
  exact ⟨b, [], rfl, rfl, trivial⟩

theorem opens_str {P : Program} {t : TypeId} (ht : P.underlying t = some .string) : Opens P t Rep.str := by
  refine ⟨fun {H} enc W fuel cs d ps h => ?_⟩
  obtain ⟨s, rfl, _, hs⟩ := DataW.trod_string ht h
  exact ⟨s, [], rfl, rfl, hs⟩

theorem list_of_each {β : Type} {p : Nat → β → Prop} : ∀ (n : Nat), (∀ i, i < n → ∃ t, p i t) → ∃ ts : List β, ts.length = n ∧ ∀ i t, ts[i]? = some t → p i t
  | 0, _ => ⟨[], rfl, by simp⟩
  | n + 1, h => by
    obtain ⟨ts, h1, h2⟩ := list_of_each n fun i hi => h i (by omega)
    obtain ⟨t, ht⟩ := h n (by omega)
    refine ⟨ts ++ [t], by simp [h1], fun i u hu => ?_⟩
    by_cases hi : i < n
    · rw [List.getElem?_append_left (by omega)] at hu
      exact h2 i u hu
    · have hl := (List.getElem?_eq_some_iff.1 hu).1
      simp [h1] at hl
      have : i = n := by omega
      subst this
      rw [List.getElem?_append_right (by omega), h1, Nat.sub_self] at hu
      simp at hu; subst hu; exact ht

theorem opens_slice {α : Type} {P : Program} {t e E : TypeId} {R : Rep α} (ht : P.underlying t = some (.slice e)) (hn : P.cellsOf e = R.n) (hpos : 0 < R.n) (he : Opens P e R) : Opens P t (Rep.slice E R) := by
  refine ⟨fun {H} enc W fuel cs d ps h => ?_⟩
  rcases DataW.trod_slice ht h with ⟨rfl, _⟩ | ⟨a, len, cap, elems, rest, n, rfl, rfl, _, _, hlc, hcm, hlen, hel, _, _⟩
  · exact ⟨[], [], .slice none 0 0, [], rfl, rfl, by simp [head, feet], by simp, ⟨none, 0, rfl, Nat.le_refl _, Nat.zero_le _, .inl rfl⟩, fun h => by cases h⟩
  · have hone : ∀ i, i < len → ∃ t : El α, R.rd false W t.1 t.2.1 t.2.2 ∧ ∀ j, j < R.n → W.cell? (a.add (i * R.n + j)) = t.1[j]? := by
      intro i hi
      have h1 := hel i hi
      rw [List.getElem?_eq_getElem (by omega)] at h1
      obtain ⟨cs, hcs, hd⟩ := Option.bind_eq_some_iff.1 h1
      obtain ⟨x, fp, hx⟩   := he.get enc W n cs _ _ hd
      refine ⟨(cs, x, fp), hx, fun j hj => ?_⟩
      obtain ⟨_, hl, hc⟩ := World.cells?_some hcs
      rw [hn] at hc
      have := hc j (by omega)
      rw [Go.Deep.add_add] at this
      exact this
    obtain ⟨ts, hl, hts⟩ := list_of_each len hone
    have hrd : ∀ t ∈ ts, R.rd false W t.1 t.2.1 t.2.2 := by
      intro t ht
      obtain ⟨i, hi, rfl⟩ := List.getElem_of_mem ht
      exact (hts i _ (List.getElem?_eq_getElem hi)).1
    refine ⟨vals ts, _, .slice (some a) len cap, ts, rfl, rfl, rfl, hrd, ⟨some a, cap, by rw [hl], by omega, hcm, ?_⟩, fun h => by cases h⟩
    by_cases h0 : ts.length = 0
    · exact .inl h0
    have hsp : a.spot = none ∧ a.block < W.heap.size := by
      have h1 := (hts 0 ts[0] (List.getElem?_eq_getElem (by omega))).2 0 hpos
      have h2 := R.len (hrd ts[0] (List.getElem_mem _))
      rw [List.getElem?_eq_getElem (by omega), Nat.zero_mul, Nat.zero_add] at h1
      have ha : a.add 0 = a := by simp [Addr.add]
      rw [ha] at h1
      refine ⟨?_, block_lt_of_cell h1⟩
      cases hs : a.spot with
      | none => rfl
      | some s =>
        exfalso
        simp only [World.cell?, hs] at h1
        split at h1 <;> simp at h1
    obtain ⟨b, off, sp⟩ := a
    obtain ⟨rfl, hb⟩ := hsp
    refine .inr ⟨b, off, rfl, hb, fun j u hu => ?_⟩
    have hj := (List.getElem?_eq_some_iff.1 hu).1
    have hcl := cellsOf_length (n := R.n) ts fun t ht => R.len (hrd t ht)
    have hi : j / R.n < ts.length := Nat.div_lt_of_lt_mul (by rw [Nat.mul_comm, ← hcl]; exact hj)
    have hr : j % R.n < R.n := Nat.mod_lt _ hpos
    have e : j / R.n * R.n + j % R.n = j := by rw [Nat.mul_comm]; exact Nat.div_add_mod _ _
    have h1 := cellsOf_at ts (j / R.n) (j % R.n) ts[j / R.n] (fun t ht => R.len (hrd t ht)) (List.getElem?_eq_getElem hi) hr
    have h2 := (hts (j / R.n) _ (List.getElem?_eq_getElem hi)).2 (j % R.n) hr
    rw [e] at h1 h2
    rw [Addr.add_lit] at h2
    rw [h2, ← h1]
    exact hu

/-- A struct's fields from offset off on. -/
structure FieldsOpen (P : Program) (fs : List Field) (off : Nat) {β : Type} (R : Rep β) : Prop where
  get : ∀ {H : Type} (enc : TypeId × Value → H) (W : World) (fuel : Nat) (cs : List Value), cs.length = off + R.n →
    (∀ f ∈ fs, ∃ x, DataW.trod enc P W 0 (fun _ => true) true fuel f.type ((cs.drop f.offset).take (P.cellsOf f.type)) = some x) → ∃ x fp, R.rd false W (cs.drop off) x fp

theorem fields_one {P : Program} {f : Field} {off : Nat} {α : Type} {R : Rep α} (h0 : f.offset = off) (h1 : P.cellsOf f.type = R.n) (h : Opens P f.type R) : FieldsOpen P [f] off R := by
  refine ⟨fun {H} enc W fuel cs hl hf => ?_⟩
  obtain ⟨x, hx⟩ := hf f (by simp)
  rw [h0, h1, List.take_of_length_le (by simp; omega)] at hx
  exact h.get enc W fuel _ x.1 x.2 hx

theorem fields_cons {P : Program} {f : Field} {fs : List Field} {off : Nat} {α β : Type} {R : Rep α} {S : Rep β} (h0 : f.offset = off) (h1 : P.cellsOf f.type = R.n) (h : Opens P f.type R)
    (hs : FieldsOpen P fs (off + R.n) S) : FieldsOpen P (f :: fs) off (Rep.prod R S) := by
  refine ⟨fun {H} enc W fuel cs hl hf => ?_⟩
  have hl' : cs.length = off + (R.n + S.n) := hl
  obtain ⟨x, hx⟩ := hf f (by simp)
  rw [h0, h1] at hx
  obtain ⟨a, fa, ha⟩ := h.get enc W fuel _ x.1 x.2 hx
  obtain ⟨b, fb, hb⟩ := hs.get enc W fuel cs (by omega) fun g hg => hf g (by simp [hg])
  refine ⟨(a, b), fa ++ fb, (cs.drop off).take R.n, cs.drop (off + R.n), fa, fb, ?_, rfl, ha, hb⟩
  rw [← List.drop_drop, List.take_append_drop]

theorem opens_struct {P : Program} {t : TypeId} {fs : Array Field} {α β : Type} {R : Rep β} {f : α → β} (ht : P.underlying t = some (.struct fs)) (hn : P.cellsOf t = R.n) (hfs : FieldsOpen P fs.toList 0 R) (g : β → α) (hg : ∀ b, f (g b) = b) : Opens P t (Rep.iso R f) := by
  refine ⟨fun {H} enc W fuel cs d ps h => ?_⟩
  obtain ⟨xs, n, rfl, _, hl, hxl, hx⟩ := DataW.trod_struct ht h
  obtain ⟨b, fp, hb⟩ := hfs.get enc W n cs (by omega) fun g hg => by
    obtain ⟨i, hi, rfl⟩ := List.getElem_of_mem hg
    have hi' : i < fs.size := by simpa using hi
    have := hx i fs[i] (Array.getElem?_eq_getElem hi')
    rw [List.getElem?_eq_getElem (by omega)] at this
    exact ⟨_, this⟩
  exact ⟨g b, fp, by show R.rd false W cs (f (g b)) fp; rw [hg]; exact hb⟩

section
variable {H : Type} {enc : TypeId × Value → H} {P : Program} {W : World} {base : Nat} {t : TypeId} {v : Value} {d : DataW H} {p : List MemPlace} {α : Type} {R : Rep α}

theorem arg_struct {fs : Array Field} (ht : P.underlying t = some (.struct fs)) (ho : Opens P t R) (hval : Value.okWide P W .any base t v) (h : DataW.Trod enc P W 0 (fun _ => true) true t v d p) :
    ∃ cs x, v = .agg cs ∧ Reads R W cs.toList x := by
  obtain ⟨cs, rfl, _⟩ := Go.WideShapes.okWide_struct ht hval
  obtain ⟨fuel, h⟩ := h
  obtain ⟨x, fp, hx⟩ := ho.get enc W fuel _ _ _ h
  exact ⟨cs, x, rfl, fp, hx⟩

theorem arg_slice {e E : TypeId} (ht : P.underlying t = some (.slice e)) (ho : Opens P t (Rep.slice E R)) (hval : Value.okWide P W .any base t v) (h : DataW.Trod enc P W 0 (fun _ => true) true t v d p) :
    ∃ x, Reads (Rep.slice E R) W [v] x := by
  obtain ⟨a, l, c, rfl⟩ := Go.WideShapes.okWide_slice ht hval
  obtain ⟨fuel, h⟩ := h
  obtain ⟨x, fp, hx⟩ := ho.get enc W fuel _ _ _ h
  exact ⟨x, fp, hx⟩
end

end Go.Proofs.Ytjdoofekohjjlaa
