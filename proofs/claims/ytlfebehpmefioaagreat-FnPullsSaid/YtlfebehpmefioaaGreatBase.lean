/-
  Base: Lib, Law, Seat, Bytes, Fill, Mark, Marks, Slices, MarkSl, Append, Env, Noop, Grow, Words, Nest, Idx, Vars, Boxed, Quiet, Tail, StepGrow, Bounds, in one text.
-/
import Derived.WalkKit
import Derived.WalkSpells
import Derived.WalkLawsBesides
import Derived.ProofKit
import Derived.OpenShut
import Derived.Deep.Slices
import Derived.Lib.Hide
import Derived.Deep.Light
import Derived.Deep.QuietTactic
import Derived.BigQuiet
import Derived.Deep.RegionHeld3
import Derived.StillTailTactics
import Derived.Deep.RegionWith
import Derived.Deep.DeepFit
import Derived.Deep.DeepMust
import Derived.Laws.BytesArg
import Derived.Deep.AppendSrc
import Derived.Deep.DeepCutAuto
import Derived.Lib.QuietBelow
import Derived.Test.YtlfebehpmefioaaGreatRows

/-
  What the values of this program read as: 'Rep' (a pure datum for a row of cells), slices of such data, what a call owns. No function of the program is named here.
-/
namespace Go.Proofs.YtlfebehpmefioaaGreat
open Go.RowKit

structure Rep (α : Type) where
  n : Nat
  rd : Bool → World → List Value → α → List Nat → Prop
  len : ∀ {o w cs x fp}, rd o w cs x fp → cs.length = n
  one : ∀ {o w cs x fp}, rd o w cs x fp → ∀ u ∈ cs, u.oneCell' = true
  frame : ∀ {o w cs x fp} {w' : World}, rd o w cs x fp → (∀ b ∈ fp, w'.heap[b]? = w.heap[b]?) → rd o w' cs x fp
  lt : ∀ {o w cs x fp}, rd o w cs x fp → ∀ b ∈ fp, b < w.heap.size
  weak : ∀ {o w cs x fp}, rd o w cs x fp → ∃ fq, rd false w cs x fq ∧ ∀ b ∈ fq, b ∈ fp

def Rep.flat {α : Type} (n : Nat) (enc : α → List Value) (ok : α → Prop) (hl : ∀ x, (enc x).length = n) (h1 : ∀ x, ∀ u ∈ enc x, u.oneCell' = true) : Rep α where
  n := n
  rd _ _ cs x fp := cs = enc x ∧ fp = [] ∧ ok x
  len := by rintro _ _ _ x _ ⟨rfl, _, _⟩; exact hl x
  one := by rintro _ _ _ x _ ⟨rfl, _, _⟩; exact h1 x
  frame := by rintro _ _ _ _ _ _ h _; exact h
  lt := by rintro _ _ _ _ _ ⟨_, rfl, _⟩ b hb; cases hb
  weak := by rintro _ _ _ _ _ h; exact ⟨_, h, fun _ h => h⟩

def Rep.int : Rep Int := Rep.flat 1 (fun n => [.int .i64 n]) (fun _ => True) (fun _ => rfl) (fun _ u hu => by simp at hu; subst hu; rfl)
def Rep.bool : Rep Bool := Rep.flat 1 (fun n => [.bool n]) (fun _ => True) (fun _ => rfl) (fun _ u hu => by simp at hu; subst hu; rfl)
def Rep.byte : Rep UInt8 := Rep.flat 1 (fun n => [.int .u8 n.toNat]) (fun _ => True) (fun _ => rfl) (fun _ u hu => by simp at hu; subst hu; rfl)
def Rep.str : Rep ByteArray := Rep.flat 1 (fun n => [.string n]) (fun s => s.size ≤ maxLen) (fun _ => rfl) (fun _ u hu => by simp at hu; subst hu; rfl)

def Rep.prod {α β : Type} (R : Rep α) (S : Rep β) : Rep (α × β) where
  n := R.n + S.n
  rd o w cs x fp := ∃ c1 c2 f1 f2, cs = c1 ++ c2 ∧ fp = f1 ++ f2 ∧ R.rd o w c1 x.1 f1 ∧ S.rd o w c2 x.2 f2
  len := by rintro _ _ _ _ _ ⟨c1, c2, f1, f2, rfl, rfl, h1, h2⟩; rw [List.length_append, R.len h1, S.len h2]
  one := by
    rintro _ _ _ _ _ ⟨c1, c2, f1, f2, rfl, rfl, h1, h2⟩ u hu
    rcases List.mem_append.1 hu with hu | hu
    · exact R.one h1 u hu
    · exact S.one h2 u hu
  frame := by
    rintro _ _ _ _ _ _ ⟨c1, c2, f1, f2, rfl, rfl, h1, h2⟩ hf
    exact ⟨c1, c2, f1, f2, rfl, rfl, R.frame h1 fun b hb => hf b (List.mem_append.2 (.inl hb)), S.frame h2 fun b hb => hf b (List.mem_append.2 (.inr hb))⟩
  lt := by
    rintro _ _ _ _ _ ⟨c1, c2, f1, f2, rfl, rfl, h1, h2⟩ b hb
    rcases List.mem_append.1 hb with hb | hb
    · exact R.lt h1 b hb
    · exact S.lt h2 b hb
  weak := by
    rintro _ _ _ _ _ ⟨c1, c2, f1, f2, rfl, rfl, h1, h2⟩
    obtain ⟨g1, k1, s1⟩ := R.weak h1
    obtain ⟨g2, k2, s2⟩ := S.weak h2
    exact ⟨g1 ++ g2, ⟨c1, c2, g1, g2, rfl, rfl, k1, k2⟩, fun b hb => (List.mem_append.1 hb).elim (fun h => List.mem_append.2 (.inl (s1 b h))) fun h => List.mem_append.2 (.inr (s2 b h))⟩

def Rep.iso {α β : Type} (R : Rep β) (f : α → β) : Rep α where
  n := R.n
  rd o w cs x fp := R.rd o w cs (f x) fp
  len h := R.len h
  one h := R.one h
  frame h := R.frame h
  lt h := R.lt h
  weak h := R.weak h

/-! ### Slices -/

abbrev El (α : Type) := List Value × α × List Nat

def Row (w : World) (v : Value) (n : Nat) (xs : List Value) : Prop :=
  ∃ ao cap, v = .slice ao n cap ∧ n ≤ cap ∧ cap ≤ maxLen ∧ (n = 0 ∨ ∃ b off, ao = some ⟨b, off, none⟩ ∧ b < w.heap.size ∧ ∀ j u, xs[j]? = some u → w.cell? ⟨b, off + j, none⟩ = some u)

def cellsOf {α : Type} (ts : List (El α)) : List Value := ts.flatMap (·.1)
def feet {α : Type} (ts : List (El α)) : List Nat := ts.flatMap (·.2.2)
def vals {α : Type} (ts : List (El α)) : List α := ts.map (·.2.1)
def head (o : Bool) (v : Value) (n : Nat) : List Nat := if o || n != 0 then v.ownBlock.toList else []

def Sl {α : Type} (o : Bool) (E : TypeId) (R : Rep α) (w : World) (v : Value) (ts : List (El α)) : Prop :=
  (∀ t ∈ ts, R.rd o w t.1 t.2.1 t.2.2) ∧ Row w v ts.length (cellsOf ts) ∧ (o = true → w.ownsRow 0 E R.n v ts.length (cellsOf ts))

theorem Row.frame {w w' : World} {v : Value} {n : Nat} {xs : List Value} {o : Bool} (h : Row w v n xs) (hf : ∀ b ∈ head o v n, w'.heap[b]? = w.heap[b]?) : Row w' v n xs := by
  obtain ⟨ao, cap, rfl, h1, h2, h3⟩ := h
  refine ⟨ao, cap, rfl, h1, h2, ?_⟩
  rcases h3 with h3 | ⟨b, off, rfl, h3, h4⟩
  · exact .inl h3
  · by_cases hn : n = 0
    · exact .inl hn
    have hb := hf b (by simp [head, Value.ownBlock, hn])
    refine .inr ⟨b, off, rfl, ?_, fun j u hu => (World.cell?_of_block (by exact hb)).trans (h4 j u hu)⟩
    have : w'.heap[b]? ≠ none := by rw [hb]; simp; exact h3
    simpa using this

theorem ownsRow_frame {w w' : World} {base : Nat} {e : TypeId} {size : Nat} {v : Value} {n : Nat} {xs : List Value} (h : w.ownsRow base e size v n xs) (hf : ∀ b ∈ v.ownBlock.toList, w'.heap[b]? = w.heap[b]?) : w'.ownsRow base e size v n xs := by
  refine ⟨h.1, ?_⟩
  rcases h.2 with hn | ⟨g, cap, cur, rfl, hb, hg, rest⟩
  · exact .inl hn
  · exact .inr ⟨g, cap, cur, rfl, hb, (hf g (by simp [Value.ownBlock])).trans hg, rest⟩

theorem ownsRow_rebase {w : World} {base base' : Nat} {e : TypeId} {size : Nat} {v : Value} {n : Nat} {xs : List Value} (h : w.ownsRow base e size v n xs) (hb : ∀ b ∈ v.ownBlock.toList, base' ≤ b) : w.ownsRow base' e size v n xs := by
  refine ⟨h.1, ?_⟩
  rcases h.2 with hn | ⟨g, cap, cur, rfl, _, rest⟩
  · exact .inl hn
  · exact .inr ⟨g, cap, cur, rfl, hb g (by simp [Value.ownBlock]), rest⟩

theorem Row.of_owns {w : World} {base : Nat} {e : TypeId} {size : Nat} {v : Value} {n : Nat} {xs : List Value} (h : w.ownsRow base e size v n xs) : Row w v n xs := by
  rcases h.2 with ⟨rfl, rfl⟩ | ⟨g, cap, cur, rfl, hb, hg, hnc, hcm, hcs, htake⟩
  · exact ⟨none, 0, rfl, Nat.le_refl _, Nat.zero_le _, .inl rfl⟩
  · refine ⟨_, cap, rfl, hnc, hcm, .inr ⟨g, 0, rfl, (Array.getElem?_eq_some_iff.1 hg).1, fun j u hu => ?_⟩⟩
    have hj : j < n * size := by have := (List.getElem?_eq_some_iff.1 hu).1; rw [h.1] at this; exact this
    rw [Nat.zero_add, World.ownsRow.cellAt h j hj]
    exact hu

theorem Row.oneCell {w : World} {v : Value} {n : Nat} {xs : List Value} (h : Row w v n xs) : v.oneCell' = true := by
  obtain ⟨ao, cap, rfl, _⟩ := h; rfl

theorem Sl.lt {α : Type} {o : Bool} {E : TypeId} {R : Rep α} {w : World} {v : Value} {ts : List (El α)} (h : Sl o E R w v ts) : ∀ b ∈ head o v ts.length ++ feet ts, b < w.heap.size := by
  obtain ⟨h1, h2, h3⟩ := h
  intro b hb
  rcases List.mem_append.1 hb with hb | hb
  · unfold head at hb
    by_cases ho : o = true
    · simp [ho] at hb
      exact ((h3 ho).lt b hb).2
    · obtain ⟨ao, cap, rfl, _, _, h3⟩ := h2
      by_cases hn : ts.length = 0
      · simp [ho, hn] at hb
      · rcases h3 with h3 | ⟨b', off, rfl, h3, _⟩
        · exact absurd h3 hn
        · simp [ho, hn, Value.ownBlock] at hb
          omega
  · obtain ⟨t, ht, hb⟩ := List.mem_flatMap.1 hb
    exact R.lt (h1 t ht) b hb

theorem Sl.frame {α : Type} {o : Bool} {E : TypeId} {R : Rep α} {w w' : World} {v : Value} {ts : List (El α)} (h : Sl o E R w v ts) (hf : ∀ b ∈ head o v ts.length ++ feet ts, w'.heap[b]? = w.heap[b]?) : Sl o E R w' v ts := by
  obtain ⟨h1, h2, h3⟩ := h
  refine ⟨fun t ht => R.frame (h1 t ht) fun b hb => hf b (List.mem_append.2 (.inr (List.mem_flatMap.2 ⟨t, ht, hb⟩))), h2.frame (o := o) fun b hb => hf b (List.mem_append.2 (.inl hb)), fun ho => ownsRow_frame (h3 ho) fun b hb => hf b (List.mem_append.2 (.inl (by simpa [head, ho] using hb)))⟩

theorem els_weak {α : Type} {o : Bool} {R : Rep α} {w : World} : ∀ (ts : List (El α)), (∀ t ∈ ts, R.rd o w t.1 t.2.1 t.2.2) →
    ∃ us : List (El α), (∀ t ∈ us, R.rd false w t.1 t.2.1 t.2.2) ∧ cellsOf us = cellsOf ts ∧ vals us = vals ts ∧ us.length = ts.length ∧ ∀ b ∈ feet us, b ∈ feet ts
  | [], _ => ⟨[], by simp, rfl, rfl, rfl, by simp⟩
  | t :: ts, h => by
    obtain ⟨us, h1, h2, h3, h4, h5⟩ := els_weak ts fun t ht => h t (by simp [ht])
    obtain ⟨fq, k1, k2⟩ := R.weak (h t (by simp))
    refine ⟨(t.1, t.2.1, fq) :: us, ?_, ?_, ?_, by simp [h4], ?_⟩
    · intro u hu
      rcases List.mem_cons.1 hu with rfl | hu
      · exact k1
      · exact h1 u hu
    · simp only [cellsOf, List.flatMap_cons] at h2 ⊢; rw [h2]
    · simp only [vals, List.map_cons] at h3 ⊢; rw [h3]
    · intro b hb
      simp only [feet, List.flatMap_cons, List.mem_append] at hb h5 ⊢
      rcases hb with hb | hb
      · exact .inl (k2 b hb)
      · exact .inr (h5 b hb)

def Rep.slice {α : Type} (E : TypeId) (R : Rep α) : Rep (List α) where
  n := 1
  rd o w cs l fp := ∃ v ts, cs = [v] ∧ l = vals ts ∧ fp = head o v ts.length ++ feet ts ∧ Sl o E R w v ts
  len := by rintro _ _ _ _ _ ⟨v, ts, rfl, _⟩; rfl
  one := by
    rintro _ _ _ _ _ ⟨v, ts, rfl, _, _, h⟩ u hu
    simp at hu; subst hu; exact h.2.1.oneCell
  frame := by
    rintro o w _ _ _ w' ⟨v, ts, rfl, rfl, rfl, h⟩ hf
    exact ⟨v, ts, rfl, rfl, rfl, h.frame hf⟩
  lt := by
    rintro o w _ _ _ ⟨v, ts, rfl, rfl, rfl, h⟩ b hb
    exact h.lt b hb
  weak := by
    rintro o w _ _ _ ⟨v, ts, rfl, rfl, rfl, h1, h2, h3⟩
    obtain ⟨us, k1, k2, k3, k4, k5⟩ := els_weak ts h1
    refine ⟨_, ⟨v, us, rfl, k3.symm, rfl, k1, by rw [k2, k4]; exact h2, fun ho => by cases ho⟩, ?_⟩
    intro b hb
    rcases List.mem_append.1 hb with hb | hb
    · refine List.mem_append.2 (.inl ?_)
      rw [k4] at hb
      unfold head at hb ⊢
      by_cases hn : ts.length = 0
      · simp [hn] at hb
      · simp [hn] at hb ⊢; exact hb
    · exact List.mem_append.2 (.inr (k5 b hb))

def Fresh {α : Type} (R : Rep α) (B : Nat) (w : World) (cs : List Value) (x : α) : Prop :=
  ∃ fp, R.rd true w cs x fp ∧ fp.Nodup ∧ ∀ b ∈ fp, B ≤ b

def Reads {α : Type} (R : Rep α) (w : World) (cs : List Value) (x : α) : Prop := ∃ fp, R.rd false w cs x fp

theorem Reads.below {α : Type} {R : Rep α} {w w' : World} {cs : List Value} {x : α} (h : Reads R w cs x) (hb : Below w.heap.size w w') : Reads R w' cs x := by
  obtain ⟨fp, h⟩ := h
  exact ⟨fp, R.frame h fun b hb' => hb.block b (R.lt h b hb')⟩
theorem Fresh.reads {α : Type} {R : Rep α} {B : Nat} {w : World} {cs : List Value} {x : α} (h : Fresh R B w cs x) : Reads R w cs x := by
  obtain ⟨fp, h, _⟩ := h
  obtain ⟨fq, h, _⟩ := R.weak h
  exact ⟨fq, h⟩
theorem Fresh.mono {α : Type} {R : Rep α} {B B' : Nat} {w : World} {cs : List Value} {x : α} (h : Fresh R B w cs x) (hB : B' ≤ B) : Fresh R B' w cs x := by
  obtain ⟨fp, h, h2, h3⟩ := h
  exact ⟨fp, h, h2, fun b hb => Nat.le_trans hB (h3 b hb)⟩
theorem Fresh.below {α : Type} {R : Rep α} {B : Nat} {w w' : World} {cs : List Value} {x : α} (h : Fresh R B w cs x) (hb : Below w.heap.size w w') : Fresh R B w' cs x := by
  obtain ⟨fp, h, h2, h3⟩ := h
  exact ⟨fp, R.frame h fun b hb' => hb.block b (R.lt h b hb'), h2, h3⟩

/-! ### Slices opened -/

theorem cellsOf_at {α : Type} {n : Nat} : ∀ (ts : List (El α)) (i j : Nat) (t : El α), (∀ t ∈ ts, t.1.length = n) → ts[i]? = some t → j < n → (cellsOf ts)[i * n + j]? = t.1[j]?
  | [], i, _, t, _, h, _ => by simp at h
  | s :: ts, 0, j, t, hn, h, hj => by
    simp at h; subst h
    have := hn s (by simp)
    simp only [cellsOf, List.flatMap_cons, Nat.zero_mul, Nat.zero_add]
    rw [List.getElem?_append_left (by omega)]
  | s :: ts, i + 1, j, t, hn, h, hj => by
    have h1 := hn s (by simp)
    simp only [cellsOf, List.flatMap_cons]
    rw [List.getElem?_append_right (by rw [h1, Nat.add_mul]; omega), h1, show (i + 1) * n + j - n = i * n + j by rw [Nat.add_mul]; omega]
    exact cellsOf_at ts i j t (fun t ht => hn t (by simp [ht])) (by simpa using h) hj

theorem cellsOf_length {α : Type} {n : Nat} : ∀ (ts : List (El α)), (∀ t ∈ ts, t.1.length = n) → (cellsOf ts).length = ts.length * n
  | [], _ => by simp [cellsOf]
  | s :: ts, h => by
    have := cellsOf_length ts (fun t ht => h t (by simp [ht]))
    simp only [cellsOf, List.flatMap_cons, List.length_append, List.length_cons] at *
    rw [this, h s (by simp), Nat.add_mul]; omega

theorem vals_length {α : Type} (ts : List (El α)) : (vals ts).length = ts.length := by simp [vals]

theorem slice_shape {α : Type} {o : Bool} {E : TypeId} {R : Rep α} {w : World} {cs : List Value} {l : List α} {fp : List Nat} (h : (Rep.slice E R).rd o w cs l fp) : ∃ v, cs = [v] ∧ (Rep.slice E R).rd o w [v] l fp := by
  obtain ⟨v, ts, rfl, h⟩ := h
  exact ⟨v, rfl, v, ts, rfl, h⟩

theorem slice_open {α : Type} {o : Bool} {E : TypeId} {R : Rep α} {w : World} {v : Value} {l : List α} {fp : List Nat} (h : (Rep.slice E R).rd o w [v] l fp) :
    ∃ ao cap, v = .slice ao l.length cap ∧ l.length ≤ 9223372036854775807 ∧ l.length ≤ cap ∧ (∀ i, (hi : i < l.length) → ∃ b off cs fe, ao = some ⟨b, off, none⟩ ∧ b ∈ fp ∧ (∀ x ∈ fe, x ∈ fp) ∧ R.rd o w cs l[i] fe ∧
      (∀ j, j < R.n → w.cell? ⟨b, off + (i * R.n + j), none⟩ = cs[j]?)) := by
  obtain ⟨v', ts, hv, rfl, rfl, hts, hrow, _⟩ := h
  simp only [List.cons.injEq, and_true] at hv
  subst hv
  have hlen : (vals ts).length = ts.length := vals_length ts
  obtain ⟨ao, cap, rfl, hc1, hc2, hrow⟩ := hrow
  refine ⟨ao, cap, by rw [hlen], by unfold maxLen at hc2; omega, by omega, fun i hi => ?_⟩
  have hi' : i < ts.length := by omega
  rcases hrow with h0 | ⟨b, off, rfl, _, hcell⟩
  · omega
  · have hmem : ts[i] ∈ ts := List.getElem_mem _
    have hrd := hts _ hmem
    have hv : (vals ts)[i] = ts[i].2.1 := by simp [vals]
    have hn0 : ts.length ≠ 0 := by omega
    refine ⟨b, off, ts[i].1, ts[i].2.2, rfl, List.mem_append.2 (.inl (by simp [head, hn0, Value.ownBlock])), fun x hx => List.mem_append.2 (.inr (List.mem_flatMap.2 ⟨_, hmem, hx⟩)), by rw [hv]; exact hrd, fun j hj => ?_⟩
    have hl := R.len hrd
    have hat := cellsOf_at ts i j ts[i] (fun t ht => R.len (hts t ht)) (List.getElem?_eq_getElem hi') hj
    have e : ts[i].1[j]? = some (ts[i].1[j]'(by omega)) := List.getElem?_eq_getElem (by omega)
    rw [e] at hat ⊢
    exact hcell _ _ hat

/-! ### Worlds that have grown -/
theorem belR {B : Nat} {w : World} : Below B w w := Below.refl _ _
theorem belA {w a : World} {o : Obj} (h : Below w.heap.size w a) : Below w.heap.size w (a.alloc o) := h.alloc h.size o
theorem belS {B b o : Nat} {a w : World} {u : Value} (hp : B ≤ b) (h : Below B a w) : Below B a (w.setCell ⟨b, o, none⟩ u) := h.setCell (p := ⟨b, o, none⟩) hp u
theorem Fresh.slice {α : Type} {R : Rep α} {E : TypeId} {B : Nat} {w : World} {v : Value} {l : List α} (h : Fresh (Rep.slice E R) B w [v] l) : ∃ ao cap, v = .slice ao l.length cap := by
  obtain ⟨fp, h, _⟩ := h
  obtain ⟨ao, cap, rfl, _⟩ := slice_open h
  exact ⟨ao, cap, rfl⟩
theorem belN {B : Nat} {a w : World} {n : Nat} (h : Below B a w) : Below B a (w.drewN n) := h.trans ⟨rfl, rfl, rfl, Nat.le_refl _, fun _ _ => rfl⟩
theorem belD {B : Nat} {a w : World} (h : Below B a w) : Below B a w.drew := h.drew
theorem below_call {B : Nat} {w W0 w1 : World} (h0 : Below B w W0) (hB : B ≤ W0.heap.size) (hb : Below W0.heap.size W0 w1) : Below B w w1 := h0.trans (hb.mono hB)
theorem bcell {W w1 : World} (hb : Below W.heap.size W w1) : (∀ b o, b < W.heap.size → w1.cell? ⟨b, o, none⟩ = W.cell? ⟨b, o, none⟩) ∧ (∀ b o, b < W.heap.size → w1.frozen? ⟨b, o, none⟩ = W.frozen? ⟨b, o, none⟩) :=
  ⟨fun b o h => hb.cell (p := ⟨b, o, none⟩) h, fun b o h => hb.frozen (p := ⟨b, o, none⟩) h⟩
structure Abv (B : Nat) (w1 w' : World) : Prop where
  size : w1.heap.size ≤ w'.heap.size
  block : ∀ b, B ≤ b → b < w1.heap.size → w'.heap[b]? = w1.heap[b]?
def Part {α : Type} (R : Rep α) (lo hi : Nat) (w : World) (cs : List Value) (x : α) : Prop := ∃ fp, R.rd true w cs x fp ∧ fp.Nodup ∧ ∀ b ∈ fp, lo ≤ b ∧ b < hi
theorem Part.fresh {α : Type} {R : Rep α} {lo hi B : Nat} {w : World} {cs : List Value} {x : α} (h : Part R lo hi w cs x) (hB : B ≤ lo) : Fresh R B w cs x := by
  obtain ⟨fp, h1, h2, h3⟩ := h
  exact ⟨fp, h1, h2, fun b hb => Nat.le_trans hB (h3 b hb).1⟩
theorem nodup_parts {f g : List Nat} {m : Nat} (hf : f.Nodup) (hg : g.Nodup) (h1 : ∀ b ∈ f, b < m) (h2 : ∀ b ∈ g, m ≤ b) : (f ++ g).Nodup := by
  rw [List.nodup_append]
  refine ⟨hf, hg, fun a ha b hb e => ?_⟩
  have := h1 a ha; have := h2 b hb; omega
theorem ret_int {k : IntKind} {a b : Int} (h : a = b) : Ending.returned (.int k a) = .returned (.int k b) := by rw [h]
theorem ret_bool {a b : Bool} (h : a = b) : Ending.returned (.bool a) = .returned (.bool b) := by rw [h]

def szOf (n : Nat) (left : Int) : Int := if (n : Int) ≤ left then left - n else -1
def wtT {α : Type} (f : α → Nat) (l : List α) (k : Nat) : Nat := ((l.take k).map f).sum
def wtS {α : Type} (f : α → Nat) (l : List α) : Nat := l.length + (l.map f).sum
def wt0 {α : Type} (_ : α) : Nat := 0
theorem slice_at {α : Type} {E : TypeId} {R : Rep α} {w : World} {ao : Option Addr} {n cap : Nat} {l : List α} (h : Reads (Rep.slice E R) w [.slice ao n cap] l) (i : Nat) (hi : i < l.length) :
    ∃ b off cs, ao = some ⟨b, off, none⟩ ∧ b < w.heap.size ∧ Reads R w cs l[i] ∧ ∀ j, j < R.n → w.cell? ⟨b, off + i * R.n + j, none⟩ = cs[j]? := by
  obtain ⟨fp, h⟩ := h
  have hb := (Rep.slice E R).lt h
  obtain ⟨ao', cap', hv, _, _, h4⟩ := slice_open h
  simp only [Value.slice.injEq] at hv
  obtain ⟨rfl, _, _⟩ := hv
  obtain ⟨b, off, cs, fe, rfl, h1, h2, h3, h5⟩ := h4 i hi
  exact ⟨b, off, cs, rfl, hb b h1, ⟨fe, h3⟩, fun j hj => by rw [Nat.add_assoc]; exact h5 j hj⟩

/-! ### The arguments of a law -/

structure Opens (P : Program) (t : TypeId) {α : Type} (R : Rep α) : Prop where
  get : ∀ {H : Type} (enc : TypeId × Value → H) (W : World) (fuel : Nat) (cs : List Value) (d : DataW H) (ps : List MemPlace),
    DataW.trod enc P W 0 (fun _ => true) true fuel t cs = some (d, ps) → ∃ x fp, R.rd false W cs x fp

theorem opens_byte {P : Program} {t : TypeId} (ht : P.underlying t = some (.int .u8)) : Opens P t Rep.byte := by
  refine ⟨fun {H} enc W fuel cs d ps h => ?_⟩
  obtain ⟨n, rfl, _, hw⟩ := DataW.trod_int ht h
  have hb := bounds_u8 hw
  refine ⟨UInt8.ofNat n.toNat, [], ?_, rfl, trivial⟩
  have : (UInt8.ofNat n.toNat).toNat = n.toNat := by simp; omega
  simp only [this, Int.toNat_of_nonneg hb.1]

theorem list_of_each {β : Type} {p : Nat → β → Prop} : ∀ (n : Nat), (∀ i, i < n → ∃ t, p i t) → ∃ ts : List β, ts.length = n ∧ ∀ i t, ts[i]? = some t → p i t
  | 0, _ => ⟨[], rfl, by simp⟩
  | n + 1, h => by
    obtain ⟨ts, h1, h2⟩ := list_of_each n fun i hi => h i (by omega)
    obtain ⟨t, ht⟩ := h n (by omega)
    refine ⟨ts ++ [t], by simp [h1], fun i u hu => ?_⟩
    by_cases hi : i < n
    · rw [List.getElem?_append_left (by omega)] at hu
      exact h2 i u hu
    · have hl := (List.getElem?_eq_some_iff.1 hu).1
      simp [h1] at hl
      have : i = n := by omega
      subst this
      rw [List.getElem?_append_right (by omega), h1, Nat.sub_self] at hu
      simp at hu; subst hu; exact ht

theorem opens_slice {α : Type} {P : Program} {t e E : TypeId} {R : Rep α} (ht : P.underlying t = some (.slice e)) (hn : P.cellsOf e = R.n) (hpos : 0 < R.n) (he : Opens P e R) : Opens P t (Rep.slice E R) := by
  refine ⟨fun {H} enc W fuel cs d ps h => ?_⟩
  rcases DataW.trod_slice ht h with ⟨rfl, _⟩ | ⟨a, len, cap, elems, rest, n, rfl, rfl, _, _, hlc, hcm, hlen, hel, _, _⟩
  · exact ⟨[], [], .slice none 0 0, [], rfl, rfl, by simp [head, feet], by simp, ⟨none, 0, rfl, Nat.le_refl _, Nat.zero_le _, .inl rfl⟩, fun h => by cases h⟩
  · have hone : ∀ i, i < len → ∃ t : El α, R.rd false W t.1 t.2.1 t.2.2 ∧ ∀ j, j < R.n → W.cell? (a.add (i * R.n + j)) = t.1[j]? := by
      intro i hi
      have h1 := hel i hi
      rw [List.getElem?_eq_getElem (by omega)] at h1
      obtain ⟨cs, hcs, hd⟩ := Option.bind_eq_some_iff.1 h1
      obtain ⟨x, fp, hx⟩   := he.get enc W n cs _ _ hd
      refine ⟨(cs, x, fp), hx, fun j hj => ?_⟩
      obtain ⟨_, hl, hc⟩ := World.cells?_some hcs
      rw [hn] at hc
      have := hc j (by omega)
      rw [Go.Deep.add_add] at this
      exact this
    obtain ⟨ts, hl, hts⟩ := list_of_each len hone
    have hrd : ∀ t ∈ ts, R.rd false W t.1 t.2.1 t.2.2 := by
      intro t ht
      obtain ⟨i, hi, rfl⟩ := List.getElem_of_mem ht
      exact (hts i _ (List.getElem?_eq_getElem hi)).1
    refine ⟨vals ts, _, .slice (some a) len cap, ts, rfl, rfl, rfl, hrd, ⟨some a, cap, by rw [hl], by omega, hcm, ?_⟩, fun h => by cases h⟩
    by_cases h0 : ts.length = 0
    · exact .inl h0
    have hsp : a.spot = none ∧ a.block < W.heap.size := by
      have h1 := (hts 0 ts[0] (List.getElem?_eq_getElem (by omega))).2 0 hpos
      have h2 := R.len (hrd ts[0] (List.getElem_mem _))
      rw [List.getElem?_eq_getElem (by omega), Nat.zero_mul, Nat.zero_add] at h1
      have ha : a.add 0 = a := by simp [Addr.add]
      rw [ha] at h1
      refine ⟨?_, block_lt_of_cell h1⟩
      cases hs : a.spot with
      | none => rfl
      | some s =>
        exfalso
        simp only [World.cell?, hs] at h1
        split at h1 <;> simp at h1
    obtain ⟨b, off, sp⟩ := a
    obtain ⟨rfl, hb⟩ := hsp
    refine .inr ⟨b, off, rfl, hb, fun j u hu => ?_⟩
    have hj := (List.getElem?_eq_some_iff.1 hu).1
    have hcl := cellsOf_length (n := R.n) ts fun t ht => R.len (hrd t ht)
    have hi : j / R.n < ts.length := Nat.div_lt_of_lt_mul (by rw [Nat.mul_comm, ← hcl]; exact hj)
    have hr : j % R.n < R.n := Nat.mod_lt _ hpos
    have e : j / R.n * R.n + j % R.n = j := by rw [Nat.mul_comm]; exact Nat.div_add_mod _ _
    have h1 := cellsOf_at ts (j / R.n) (j % R.n) ts[j / R.n] (fun t ht => R.len (hrd t ht)) (List.getElem?_eq_getElem hi) hr
    have h2 := (hts (j / R.n) _ (List.getElem?_eq_getElem hi)).2 (j % R.n) hr
    rw [e] at h1 h2
    rw [Addr.add_lit] at h2
    rw [h2, ← h1]
    exact hu

structure FieldsOpen (P : Program) (fs : List Field) (off : Nat) {β : Type} (R : Rep β) : Prop where
  get : ∀ {H : Type} (enc : TypeId × Value → H) (W : World) (fuel : Nat) (cs : List Value), cs.length = off + R.n →
    (∀ f ∈ fs, ∃ x, DataW.trod enc P W 0 (fun _ => true) true fuel f.type ((cs.drop f.offset).take (P.cellsOf f.type)) = some x) → ∃ x fp, R.rd false W (cs.drop off) x fp

section
variable {H : Type} {enc : TypeId × Value → H} {P : Program} {W : World} {base : Nat} {t : TypeId} {v : Value} {d : DataW H} {p : List MemPlace} {α : Type} {R : Rep α}

theorem arg_slice {e E : TypeId} (ht : P.underlying t = some (.slice e)) (ho : Opens P t (Rep.slice E R)) (hval : Value.okWide P W .any base t v) (h : DataW.Trod enc P W 0 (fun _ => true) true t v d p) :
    ∃ x, Reads (Rep.slice E R) W [v] x := by
  obtain ⟨a, l, c, rfl⟩ := Go.WideShapes.okWide_slice ht hval
  obtain ⟨fuel, h⟩ := h
  obtain ⟨x, fp, hx⟩ := ho.get enc W fuel _ _ _ h
  exact ⟨x, fp, hx⟩
end

end Go.Proofs.YtlfebehpmefioaaGreat

/-
  From a law's walk to its row: a law that answers true and leaves all that was there as it was. No function of the program is named here.
-/
namespace Go.Proofs.YtlfebehpmefioaaGreat
open Go.RowKit Go.ChangeShapes

theorem trodAll_below {H : Type} {enc : TypeId × Value → H} {P : Program} {W W' : World} (hl : laidOutB P = true) (hb : Below W.heap.size W W') :
    ∀ (ts : List TypeId) (vs : List Value) (ds : List (DataW H)) (ps : List MemPlace), (∀ t ∈ ts, P.readableRec t = true ∧ t < P.types.size) →
      DataW.TrodAll enc P W 0 (fun _ => true) true ts vs ds ps → (∀ x ∈ ps, x.block < W.heap.size) →
      DataW.TrodAll enc P W' 0 (fun b => decide (b < W.heap.size)) true ts vs ds ps
  | [], [], [], _, _, h, _ => h
  | t :: ts, v :: vs, d :: ds, ps, hr, h, hlt => by
    obtain ⟨p, q, h1, h2, rfl⟩ := h
    exact ⟨p, q, Below.trod hl (hr t (by simp)).1 (hr t (by simp)).2 h1 hb fun x hx => hlt x (by simp [hx]),
      trodAll_below hl hb ts vs ds q (fun t ht => hr t (by simp [ht])) h2 fun x hx => hlt x (by simp [hx]), rfl⟩
  | [], _ :: _, _, _, _, h, _ => by simp [DataW.TrodAll] at h
  | [], [], _ :: _, _, _, h, _ => by simp [DataW.TrodAll] at h
  | _ :: _, [], _, _, _, h, _ => by simp [DataW.TrodAll] at h
  | _ :: _, _ :: _, [], _, _, h, _ => by simp [DataW.TrodAll] at h

theorem trodAll_length {H : Type} {enc : TypeId × Value → H} {P : Program} {W : World} {sp : Nat → Bool} {hd : Bool} {b : Nat} :
    ∀ (ts : List TypeId) (vs : List Value) (ds : List (DataW H)) (ps : List MemPlace), DataW.TrodAll enc P W b sp hd ts vs ds ps → ds.length = ts.length
  | [], [], [], _, _ => rfl
  | _ :: ts, _ :: vs, _ :: ds, _, h => by
    obtain ⟨p, q, _, h2, _⟩ := h
    simp [trodAll_length ts vs ds q h2]
  | [], _ :: _, _, _, h => by simp [DataW.TrodAll] at h
  | [], [], _ :: _, _, h => by simp [DataW.TrodAll] at h
  | _ :: _, [], _, _, h => by simp [DataW.TrodAll] at h
  | _ :: _, _ :: _, [], _, h => by simp [DataW.TrodAll] at h

theorem law_lift {H : Type} {enc : TypeId × Value → H} {C : Checked} {os : Os} {f : FuncId} {F : Func} {s : ChangeSpec} {tb : TypeId}
    (own : ownKnob C.prog.godebug = none) (started : os.Started) (noInit : C.prog.inits.idxOf? f = none) (hF : C.prog.funcs[f]? = some F)
    (hl : laidOutB C.prog = true) (hr : F.params.toList.all (fun t => C.prog.readableRec t && decide (t < C.prog.types.size)) = true)
    (hres : F.resultTypes = #[tb]) (htb : C.prog.underlying tb = some .bool) (hv : s.vars = [])
    (hfn : ∀ ds : List (DataW H), ds.length = F.params.toList.length → s.fn H ds = { results := [.lit (.bool true)], args := ds })
    (witness : ∃ (w : World) (tape : Tape) (i : Input), w.os = os ∧ (w.forCall tape i).Shaped C.prog ∧ i.vars = [] ∧ Input.okWide C.prog (w.forCall tape i) .any w.heap.size f i ∧
      s.pre6 enc C.prog F [] false (w.forCall tape i).memory i.args ∧ ({} : Assume).holds C.prog (lone (Frame.enter C.prog f i.args .normal) [] (w.forCall tape i)))
    (walk : ∀ (W : World) (base : Nat) (args : Array Value) (ds : List (DataW H)) (ps : List MemPlace),
      (∀ (j : Nat) t v, F.params[j]? = some t → args[j]? = some v → Value.okWide C.prog W .any base t v) →
      DataW.TrodAll enc C.prog W 0 (fun _ => true) true F.params.toList args.toList ds ps →
      Calls C.prog f args W fun e W' => e = .returned (.bool true) ∧ Below W.heap.size W W') :
    ReturnsInHanded {} C os f .any (s.pre6 enc C.prog F [] false) (s.post enc C.prog F false true false false) := by
  refine returnsInHanded_of_change (C := C) own started noInit hF witness ?_
  intro W base args ds gs before hval hW _ _
  have hW' := hW
  obtain ⟨p, q, hA, hV, rfl, hfz, hnd⟩ := hW
  rw [hv] at hV
  obtain ⟨rfl, rfl⟩ := trodVars_none hV
  have hlt : ∀ x ∈ p ++ [], x.block < W.heap.size := fun x hx => by simpa using hW'.lt x hx
  simp only [List.append_nil] at hlt hW'
  refine (walk W base args ds p hval hA).mono fun e W' h => ?_
  obtain ⟨rfl, hb⟩ := h
  have hlen := trodAll_length _ _ _ _ hA
  have hr' : ∀ t ∈ F.params.toList, C.prog.readableRec t = true ∧ t < C.prog.types.size := by
    intro t ht
    have := List.all_eq_true.1 hr t ht
    simpa using this
  refine ⟨_, rfl, ds, [], p, [], p, [], hW', ?_, ?_, ?_, hb.frame _, fun h => by cases h⟩
  · rw [List.append_nil, hfn ds hlen, hres]
    exact ⟨[], [], ⟨1, by simp [DataW.trod, htb, Value.cells]⟩, rfl, rfl⟩
  · rw [List.append_nil, hfn ds hlen]
    exact trodAll_below hl hb _ _ _ _ hr' hA hlt
  · rw [List.append_nil, hfn ds hlen, hv]
    rfl

section
variable {H : Type} {enc : TypeId × Value → H} {P : Program} {W : World} {base : Nat} {t : TypeId} {v : Value} {d : DataW H} {p : List MemPlace}

theorem trodAll_open1 {t : TypeId} {args : Array Value} {ds : List (DataW H)} {ps : List MemPlace} (h : DataW.TrodAll enc P W 0 (fun _ => true) true [t] args.toList ds ps) :
    ∃ v d p, args = #[v] ∧ DataW.Trod enc P W 0 (fun _ => true) true t v d p := by
  obtain ⟨v, d, rfl, _, h⟩ := trodAll_one h
  exact ⟨v, d, _, rfl, h⟩
end

end Go.Proofs.YtlfebehpmefioaaGreat

/-
  Closed facts of this seat's program.
-/
namespace Go.Proofs.YtlfebehpmefioaaGreat
open Go.RowKit Go.ChangeShapes
theorem Tryz.own : ownKnob Tryz.prog.godebug = none := by kernel_rfl
theorem Tryz.laidOut : laidOutB Tryz.prog = true := by kernel_rfl
end Go.Proofs.YtlfebehpmefioaaGreat

/-
  Slices of bytes.
-/
namespace Go.Proofs.YtlfebehpmefioaaGreat
open Go.RowKit

abbrev Rep.bytes : Rep (List UInt8) := Rep.slice 5 Rep.byte
theorem agree_snoc {α : Type} {l m : List α} {k : Nat} (h : ∀ j, j < k → l[j]? = m[j]?) (hk : l[k]? = m[k]?) : ∀ j, j < k + 1 → l[j]? = m[j]? := by
  intro j hj
  by_cases e : j = k
  · subst e; exact hk
  · exact h j (by omega)
theorem agree_all {α : Type} {l m : List α} {k : Nat} (h : ∀ j, j < k → l[j]? = m[j]?) (h1 : l.length ≤ k) (h2 : m.length = l.length) : l = m := by
  apply List.ext_getElem?
  intro j
  by_cases hj : j < k
  · exact h j hj
  · rw [List.getElem?_eq_none (by omega), List.getElem?_eq_none (by omega)]
end Go.Proofs.YtlfebehpmefioaaGreat

/-
  A slice that the call makes and fills, element by element. No function of the program is named here.
-/
namespace Go.Proofs.YtlfebehpmefioaaGreat
open Go.RowKit

def setCells (w : World) (g : Nat) : Nat → List Value → World
  | _, [] => w
  | i, u :: us => setCells (w.setCell ⟨g, i, none⟩ u) g (i + 1) us
def setL (xs : List Value) : Nat → List Value → List Value
  | _, [] => xs
  | i, u :: us => setL (xs.set i u) (i + 1) us

theorem setL_mid : ∀ (us A zs C : List Value), zs.length = us.length → setL (A ++ (zs ++ C)) A.length us = A ++ (us ++ C)
  | [], A, zs, C, h => by
    have : zs = [] := List.eq_nil_of_length_eq_zero (by simpa using h)
    subst this; rfl
  | u :: us, A, [], C, h => by simp at h
  | u :: us, A, z :: zs, C, h => by
    have e : (A ++ (z :: zs ++ C)).set A.length u = (A ++ [u]) ++ (zs ++ C) := by
      rw [List.set_append_right _ _ (Nat.le_refl _), Nat.sub_self]
      simp
    have hl : (A ++ [u]).length = A.length + 1 := by simp
    rw [setL, e, ← hl, setL_mid us (A ++ [u]) zs C (by simpa using h)]
    simp

theorem setCells_owns {base : Nat} {e : TypeId} {size g n cap : Nat} : ∀ (us : List Value) (i : Nat) (w : World) (xs : List Value),
    w.ownsRow base e size (.slice (some ⟨g, 0, none⟩) n cap) n xs → (setCells w g i us).ownsRow base e size (.slice (some ⟨g, 0, none⟩) n cap) n (setL xs i us)
  | [], _, _, _, h => h
  | u :: us, i, _, _, h => setCells_owns us (i + 1) _ _ (World.ownsRow.stored h i u).1

theorem setCells_other {g b : Nat} (hb : b ≠ g) : ∀ (us : List Value) (i : Nat) (w : World), (setCells w g i us).heap[b]? = w.heap[b]?
  | [], _, _ => rfl
  | u :: us, i, w => by rw [setCells, setCells_other hb us, Below.heap_setCell _ _ _ _ hb]

def Filling {α : Type} (R : Rep α) (E : TypeId) (B g n : Nat) (l : List α) (k : Nat) (w : World) : Prop :=
  ∃ (ts : List (El α)) (rest : List Value), ts.length = k ∧ vals ts = l.take k ∧ (∀ t ∈ ts, R.rd true w t.1 t.2.1 t.2.2) ∧ rest.length = (n - k) * R.n ∧
    w.ownsRow 0 E R.n (.slice (some ⟨g, 0, none⟩) n n) n (cellsOf ts ++ rest) ∧ (feet ts).Nodup ∧ (∀ b ∈ feet ts, g < b) ∧ B ≤ g

theorem Filling.start {α : Type} {R : Rep α} {E : TypeId} {B g n : Nat} {l : List α} {w : World} {xs : List Value} (h : w.ownsRow B E R.n (.slice (some ⟨g, 0, none⟩) n n) n xs) (hg : B ≤ g) : Filling R E B g n l 0 w := by
  refine ⟨[], xs, rfl, by simp [vals], by simp, by simpa using h.1, ?_, by simp [feet], by simp [feet], hg⟩
  exact ownsRow_rebase h fun _ _ => Nat.zero_le _

theorem Filling.lt {α : Type} {R : Rep α} {E : TypeId} {B g n : Nat} {l : List α} {k : Nat} {w : World} (h : Filling R E B g n l k w) : g < w.heap.size ∧ B ≤ g := by
  obtain ⟨ts, rest, _, _, _, _, h5, _, _, h8⟩ := h
  exact ⟨(World.ownsRow.lt h5 g rfl).2, h8⟩

theorem Filling.cells {α : Type} {R : Rep α} {E : TypeId} {B g n : Nat} {l : List α} {k : Nat} {w : World} (h : Filling R E B g n l k w) (hk : k < n) :
    (∀ j, j < R.n → ∃ u, w.cell? ⟨g, k * R.n + j, none⟩ = some u) ∧ ∀ j, w.frozen? ⟨g, j, none⟩ = false := by
  obtain ⟨ts, rest, h1, h2, h3, h4, h5, _⟩ := h
  have hl := cellsOf_length (n := R.n) ts fun t ht => R.len (h3 t ht)
  refine ⟨fun j hj => ?_, fun j => World.ownsRow.frozenAt h5 j⟩
  have hlt : k * R.n + j < n * R.n := by
    have : (k + 1) * R.n ≤ n * R.n := Nat.mul_le_mul_right _ hk
    rw [Nat.add_mul] at this; omega
  rw [World.ownsRow.cellAt h5 _ hlt]
  have hlen := h5.1
  exact ⟨_, List.getElem?_eq_getElem (by rw [hlen]; exact hlt)⟩

theorem Filling.below {α : Type} {R : Rep α} {E : TypeId} {B g n : Nat} {l : List α} {k : Nat} {w w1 : World} (h : Filling R E B g n l k w) (hb : Below w.heap.size w w1) : Filling R E B g n l k w1 := by
  obtain ⟨ts, rest, h1, h2, h3, h4, h5, h6, h7, h8⟩ := h
  refine ⟨ts, rest, h1, h2, fun t ht => R.frame (h3 t ht) fun b hb' => hb.block b (R.lt (h3 t ht) b hb'), h4, ownsRow_frame h5 fun b hb' => hb.block b ?_, h6, h7, h8⟩
  have e : g = b := by simp [Value.ownBlock] at hb'; exact hb'.symm
  subst e
  exact (World.ownsRow.lt h5 g rfl).2

theorem Filling.step {α : Type} {R : Rep α} {E : TypeId} {B g n : Nat} {l : List α} {k : Nat} {w0 w1 : World} {ds : List Value} (hk : k < l.length) (hn : l.length = n) (h : Filling R E B g n l k w0)
    (hb : Below w0.heap.size w0 w1) (hf : Fresh R w0.heap.size w1 ds l[k]) : Filling R E B g n l (k + 1) (setCells w1 g (k * R.n) ds) := by
  have hg0 := h.lt.1
  obtain ⟨ts, rest, h1, h2, h3, h4, h5, h6, h7, h8⟩ := h
  obtain ⟨fp, hrd, hnd, hge⟩ := hf
  have hlt0 : ∀ b ∈ feet ts, b < w0.heap.size := by
    intro b hb'
    obtain ⟨t, ht, hb'⟩ := List.mem_flatMap.1 hb'
    exact R.lt (h3 t ht) b hb'
  have hcl := cellsOf_length (n := R.n) ts fun t ht => R.len (h3 t ht)
  have hdl := R.len hrd
  have hsplit : rest = rest.take R.n ++ rest.drop R.n := (List.take_append_drop _ _).symm
  have hnk : (n - k) * R.n = R.n + (n - (k + 1)) * R.n := by
    have : n - k = 1 + (n - (k + 1)) := by omega
    rw [this, Nat.add_mul]; omega
  have htl : (rest.take R.n).length = ds.length := by simp; omega
  have h5' : w1.ownsRow 0 E R.n (.slice (some ⟨g, 0, none⟩) n n) n (cellsOf ts ++ rest) :=
    ownsRow_frame h5 fun b hb' => hb.block b (by simp [Value.ownBlock] at hb'; omega)
  have hset := setCells_owns ds (k * R.n) w1 _ h5'
  have hki : k * R.n = (cellsOf ts).length := by rw [hcl, h1]
  rw [hsplit, hki, setL_mid _ _ _ _ htl, ← hki] at hset
  have hfr : ∀ t ∈ ts ++ [((ds, l[k], fp) : El α)], R.rd true (setCells w1 g (k * R.n) ds) t.1 t.2.1 t.2.2 := by
    intro t ht
    rcases List.mem_append.1 ht with ht | ht
    · refine R.frame (h3 t ht) fun b hb' => ?_
      have hbf : b ∈ feet ts := List.mem_flatMap.2 ⟨t, ht, hb'⟩
      have := h7 b hbf
      rw [setCells_other (by omega)]
      exact hb.block b (hlt0 b hbf)
    · simp at ht; subst ht
      refine R.frame hrd fun b hb' => ?_
      have := hge b hb'
      rw [setCells_other (by omega)]
  refine ⟨ts ++ [(ds, l[k], fp)], rest.drop R.n, by simp [h1], ?_, hfr, by simp; omega, ?_, ?_, ?_, h8⟩
  · have hv : vals (ts ++ [((ds, l[k], fp) : El α)]) = vals ts ++ [l[k]] := by simp [vals]
    rw [hv, h2, List.take_succ_eq_append_getElem hk]
  · have e : cellsOf (ts ++ [((ds, l[k], fp) : El α)]) = cellsOf ts ++ ds := by simp [cellsOf]
    rw [e, List.append_assoc]; exact hset
  · have e : feet (ts ++ [((ds, l[k], fp) : El α)]) = feet ts ++ fp := by simp [feet]
    rw [e]; exact nodup_parts h6 hnd hlt0 hge
  · have e : feet (ts ++ [((ds, l[k], fp) : El α)]) = feet ts ++ fp := by simp [feet]
    rw [e]
    intro b hb'
    rcases List.mem_append.1 hb' with hb' | hb'
    · exact h7 b hb'
    · have := hge b hb'; omega

theorem Filling.done {α : Type} {R : Rep α} {E : TypeId} {B g n : Nat} {l : List α} {w : World} (hn : l.length = n) (h : Filling R E B g n l n w) : Fresh (Rep.slice E R) B w [.slice (some ⟨g, 0, none⟩) n n] l := by
  obtain ⟨ts, rest, h1, h2, h3, h4, h5, h6, h7, h8⟩ := h
  have hr : rest = [] := List.eq_nil_of_length_eq_zero (by simpa using h4)
  subst hr
  rw [List.append_nil] at h5
  have hv : l = vals ts := by rw [h2, ← hn, List.take_length]
  refine ⟨g :: feet ts, ⟨_, ts, rfl, hv, by simp [head, Value.ownBlock], h3, ?_, fun _ => ?_⟩, ?_, ?_⟩
  · rw [h1]; exact Row.of_owns h5
  · rw [h1]; exact h5
  · rw [List.nodup_cons]
    exact ⟨fun hg => Nat.lt_irrefl _ (h7 g hg), h6⟩
  · intro b hb
    rcases List.mem_cons.1 hb with rfl | hb
    · exact h8
    · have := h7 b hb; omega

end Go.Proofs.YtlfebehpmefioaaGreat

/-
  The marks of the laws.
-/
namespace Go.Proofs.YtlfebehpmefioaaGreat
open Go.RowKit

def digitsT : Nat → Nat → List UInt8 → List UInt8
  | 0, _, acc => acc
  | fuel + 1, k, acc => if k = 0 then acc else digitsT fuel (k / 10) (UInt8.ofNat (48 + k % 10) :: acc)
def markT (k : Nat) : ByteArray := if k = 0 then ⟨#[109, 48]⟩ else ⟨(109 :: digitsT 10 k []).toArray⟩
end Go.Proofs.YtlfebehpmefioaaGreat

/-
  Marks over a slice that is owned. No function of the program is named here.
-/
namespace Go.Proofs.YtlfebehpmefioaaGreat
open Go.RowKit

structure Chg (fp : List Nat) (w w' : World) : Prop where
  os : w'.os = w.os
  tape : w'.tape = w.tape
  output : w'.output = w.output
  size : w.heap.size ≤ w'.heap.size
  block : ∀ b, b < w.heap.size → b ∉ fp → w'.heap[b]? = w.heap[b]?
theorem Chg.refl {fp : List Nat} {w : World} : Chg fp w w := ⟨rfl, rfl, rfl, Nat.le_refl _, fun _ _ _ => rfl⟩
theorem Chg.trans {fp : List Nat} {a b c : World} (h : Chg fp a b) (k : Chg fp b c) : Chg fp a c :=
  ⟨k.os.trans h.os, k.tape.trans h.tape, k.output.trans h.output, Nat.le_trans h.size k.size, fun i hi hn => (k.block i (Nat.lt_of_lt_of_le hi h.size) hn).trans (h.block i hi hn)⟩
theorem Chg.mono {fp fq : List Nat} {a b : World} (h : Chg fp a b) (hs : ∀ x ∈ fp, x ∈ fq) : Chg fq a b := ⟨h.os, h.tape, h.output, h.size, fun i hi hn => h.block i hi fun hx => hn (hs i hx)⟩
theorem Chg.of_below {fp : List Nat} {B : Nat} {a b : World} (h : Below B a b) (hB : a.heap.size ≤ B) : Chg fp a b := ⟨h.os, h.tape, h.output, h.size, fun i hi _ => h.block i (Nat.lt_of_lt_of_le hi hB)⟩
theorem Chg.set {fp : List Nat} {a w : World} {g o : Nat} {u : Value} (hg : g ∈ fp) (h : Chg fp a w) : Chg fp a (w.setCell ⟨g, o, none⟩ u) :=
  h.trans ⟨rfl, rfl, rfl, by simp [World.setCell], fun i _ hn => Below.heap_setCell _ _ _ _ (fun e => hn (by rw [e]; exact hg))⟩
theorem Chg.sets {fp : List Nat} {a : World} {g : Nat} (hg : g ∈ fp) : ∀ (us : List Value) (i : Nat) (w : World), Chg fp a w → Chg fp a (setCells w g i us)
  | [], _, _, h => h
  | _ :: us, i, _, h => Chg.sets hg us (i + 1) _ (h.set hg)
theorem Chg.keeps {α : Type} {R : Rep α} {o : Bool} {fp fq : List Nat} {w w' : World} {cs : List Value} {x : α} (h : Chg fp w w') (hr : R.rd o w cs x fq) (hd : ∀ b ∈ fq, b ∉ fp) : R.rd o w' cs x fq :=
  R.frame hr fun b hb => h.block b (R.lt hr b hb) (hd b hb)

def marks {α : Type} (f : Nat → α → α) (c : α → Nat) : Nat → List α → List α
  | _, [] => []
  | k, x :: l => f k x :: marks f c (k + c x) l
def marked {α : Type} (f : Nat → α → α) (c : α → Nat) (k : Nat) (l : List α) (i : Nat) : List α := (marks f c k l).take i ++ l.drop i
def Marking {α : Type} (R : Rep α) (E : TypeId) (f : Nat → α → α) (c : α → Nat) (k : Nat) (l : List α) (v : Value) (fp : List Nat) (w : World) (i : Nat) (wr : World) : Prop :=
  (Rep.slice E R).rd true wr [v] (marked f c k l i) fp ∧ Chg fp w wr

end Go.Proofs.YtlfebehpmefioaaGreat

/-
  The laws' helpers for slices of ints, of bytes, of strings.
-/
namespace Go.Proofs.YtlfebehpmefioaaGreat
open Go.RowKit

theorem Tryz.infoInt : (Tryz.prog.info? 3).map (fun i => (i.zero, i.size, i.bytes)) = some (some (.int .i64 0), 1, 8) := by kernel_rfl

end Go.Proofs.YtlfebehpmefioaaGreat

/-
  The marks of slices of ints, bytes, strings.
-/
namespace Go.Proofs.YtlfebehpmefioaaGreat
open Go.RowKit

def cnt1 {α : Type} (_ : α) : Nat := 1

def mkInt (k : Nat) (_ : Int) : Int := (k : Int)

def mkByte (k : Nat) (_ : UInt8) : UInt8 := UInt8.ofNat k

def mkStr (k : Nat) (_ : ByteArray) : ByteArray := markT k

end Go.Proofs.YtlfebehpmefioaaGreat

/-
  append onto a slice that the call owns, from whatever source. No function of the program is named here.
-/
namespace Go.Proofs.YtlfebehpmefioaaGreat
open Go.RowKit

section
variable {P : Program}

theorem run_append_row_src (w : World) (t tx ty e : TypeId) (i : TypeInfo) (ht : P.underlying t = some (.slice e)) (hi : P.info? e = some i)
    (g sLen sCap : Nat) (cur : Array Value) (hg : w.heap[g]? = some (.cells cur e (0, 0))) (x : Value) (m : Nat) (news : List Value) (hs : Src P i.size tx x m news w)
    (hroom : sLen + m ≤ sCap) (hfit : sLen * i.size + news.length ≤ cur.size) :
    (Builtin.append_ #[t, tx] ty #[.slice (some ⟨g, 0, none⟩) sLen sCap, x]).run P w =
      .ok (.slice (some ⟨g, 0, none⟩) (sLen + m) sCap) (w.setRow g (cur.toList.take (sLen * i.size) ++ news ++ cur.toList.drop (sLen * i.size + news.length)).toArray) := by
  have hst := run_storeCells_at P g (sLen * i.size) e news 0 cur w hg (by simpa using hfit) hs.one
  simp only [Nat.add_zero] at hst
  rcases hs.kind with ⟨e', hk⟩ | hk <;> simp [Builtin.append_, run_underlying ht, run_underlying hk, sizeOf, typeInfo, hi, hs.len, hroom, hs.cells, Addr.add_lit, hst]

theorem run_append_src (w : World) (base : Nat) (t tx ty e : TypeId) (i : TypeInfo) (z : Value) (size bytes : Nat) (ht : P.underlying t = some (.slice e)) (hi : P.info? e = some i) (hz : i.zero = some z)
    (hsize : i.size = size) (hby : i.bytes = bytes) (hzs : z.cells.size = size)
    (v : Value) (n : Nat) (xs : List Value) (hown : w.ownsRow base e size v n xs)
    (x : Value) (m : Nat) (news : List Value) (hs : Src P size tx x m news w)
    (hbytes : (n + m) * bytes ≤ 140737488355328) (h63 : n + m ≤ maxLen) (hbase : base ≤ w.heap.size) :
    ∃ v' w', (Builtin.append_ #[t, tx] ty #[v, x]).run P w = .ok v' w' ∧ w'.ownsRow base e size v' (n + m) (xs ++ news) ∧ w.grownBy w' v.ownBlock ∧
      (∀ b ∈ v'.ownBlock.toList, b ∈ v.ownBlock.toList ∨ b = w.heap.size) ∧ ∃ ao cap, v' = .slice ao (n + m) cap := by
  subst hsize
  subst hby
  have hsmall : n + m ≤ 9223372036854775807 := by simp only [maxLen] at h63; omega
  have hl := hs.newsLen
  have hlen : (xs ++ news).length = (n + m) * i.size := by rw [List.length_append, hown.1, hl, Nat.add_mul]
  have grown : ∀ (old : Nat), old < n + m → ∀ (row : Option Nat),
      (w.drew.alloc (.cells ((xs ++ news).toArray ++ Builtin.zeroCells z.cells (grownCap w (n + m) old e - (n + m))) e)).ownsRow base e i.size
        (.slice (some ⟨w.heap.size, 0, none⟩) (n + m) (grownCap w (n + m) old e)) (n + m) (xs ++ news) ∧
      w.grownBy (w.drew.alloc (.cells ((xs ++ news).toArray ++ Builtin.zeroCells z.cells (grownCap w (n + m) old e - (n + m))) e)) row := by
    intro old ho row
    have hge := grownCap_ge w (n + m) old e
    have hcm : grownCap w (n + m) old e ≤ maxLen := grownCap_le_maxLen w (n + m) old e h63
    refine ⟨⟨hlen, .inr ⟨w.heap.size, _, _, rfl, hbase, heap_alloc_new w.drew _, hge, hcm, ?_, ?_⟩⟩, ⟨rfl, rfl, rfl, by simp, fun k hk _ => Below.heap_alloc w.drew _ k hk⟩⟩
    · rw [Array.size_append, List.size_toArray, size_zeroCells, hzs, hlen, ← Nat.add_mul]
      congr 1
      omega
    · rw [Array.toList_append, ← hlen]
      exact List.take_left
  rcases hown.2 with ⟨rfl, rfl⟩ | ⟨g, cap, cur, rfl, hbg, hg, hnc, hcm, hcs, htake⟩
  · have hx : xs = [] := List.eq_nil_of_length_eq_zero (by simpa using hown.1)
    subst hx
    by_cases hm : m = 0
    · subst hm
      have hn : news = [] := List.eq_nil_of_length_eq_zero (by simpa using hl)
      subst hn
      refine ⟨.slice none 0 0, w, ?_, World.ownsRow_nil w base e i.size, ⟨rfl, rfl, rfl, Nat.le_refl _, fun _ _ _ => rfl⟩, by simp [Value.ownBlock], none, 0, rfl⟩
      have hf := hs.cells
      rcases hs.kind with ⟨e', hk⟩ | hk <;> simp [Builtin.append_, run_underlying ht, run_underlying hk, sizeOf, typeInfo, hi, hs.len, hf]
    · have hr := run_append_grow_src (P := P) w t tx ty e i z ht hi hz none 0 0 [] (run_firstCells_none _ _ _ _ _) x m news hs (by omega) (by omega) (growslice_fits (by omega) hbytes)
      have hgr := grown 0 (by omega) (Value.ownBlock (.slice none 0 0))
      exact ⟨_, _, hr, hgr.1, hgr.2, by simp [Value.ownBlock], _, _, rfl⟩
  · by_cases hroom : n + m ≤ cap
    · have hfit : n * i.size + news.length ≤ cur.size := by rw [hl, hcs, ← Nat.add_mul]; exact Nat.mul_le_mul_right _ hroom
      have hr := run_append_row_src (P := P) w t tx ty e i ht hi g n cap cur hg x m news hs hroom hfit
      refine ⟨_, _, hr, ⟨hlen, .inr ⟨g, cap, _, rfl, hbg, setRow_heap w g cur _ e _ hg, hroom, hcm, ?_, ?_⟩⟩, ⟨rfl, rfl, rfl, by simp, fun k _ hk => setRow_other w g k _ (fun e => hk (by simp [Value.ownBlock, e]))⟩, by simp [Value.ownBlock], _, _, rfl⟩
      · simp only [List.size_toArray, List.length_append, List.length_take, List.length_drop, Array.length_toList]
        omega
      · rw [htake, ← hlen]
        exact List.take_left
    · have holds : ∀ j u, xs[j]? = some u → w.cell? ((⟨g, 0, none⟩ : Addr).add j) = some u := hown.cells (g := g) rfl
      have hold := run_firstCells_some (P := P) w.drew i.size n ⟨g, 0, none⟩ n cap xs hown.1 (by simpa using holds)
      have hr := run_append_grow_src (P := P) w t tx ty e i z ht hi hz (some ⟨g, 0, none⟩) n cap xs hold x m news hs (by omega) (by omega) (growslice_fits (by omega) hbytes)
      have hgr := grown cap (by omega) (Value.ownBlock (.slice (some ⟨g, 0, none⟩) n cap))
      exact ⟨_, _, hr, hgr.1, hgr.2, by simp [Value.ownBlock], _, _, rfl⟩

theorem wpList_append_src (w : World) {ops : Array Oper} {rest : List Oper} {o : Oper} {a : Act} {Q : Exit → Act → World → Prop} (hgd : o.guard = none) (s x : Operand) (t tx : TypeId)
    (ho : o.op = .call { callee := .builtin .append, args := #[s, x], argTypes := #[t, tx] })
    (base : Nat) (e : TypeId) (i : TypeInfo) (z : Value) (size bytes : Nat) (ht : P.underlying t = some (.slice e)) (hi : P.info? e = some i) (hz : i.zero = some z)
    (hsize : i.size = size) (hby : i.bytes = bytes) (hzs : z.cells.size = size)
    (v : Value) (n : Nat) (xs : List Value) (hv : a.eval s = v) (hown : w.ownsRow base e size v n xs)
    (sv : Value) (m : Nat) (news : List Value) (hx : a.eval x = sv) (hs : Src P size tx sv m news w)
    (hbytes : (n + m) * bytes ≤ 140737488355328) (h63 : n + m ≤ maxLen) (hbase : base ≤ w.heap.size)
    (h : ∀ ao cap w', w'.ownsRow base e size (.slice ao (n + m) cap) (n + m) (xs ++ news) → w.grownBy w' v.ownBlock → (∀ b ∈ (Value.slice ao (n + m) cap).ownBlock.toList, b ∈ v.ownBlock.toList ∨ b = w.heap.size) →
      wpList P ops Q rest (a.put o.dst (.slice ao (n + m) cap)) w') : wpList P ops Q (o :: rest) a w := by
  refine wpList_plain hgd fun K hK => ?_
  obtain ⟨v', w', hr, h2, h3, h4, ao, cap, rfl⟩ := run_append_src (P := P) w base t tx o.type e i z size bytes ht hi hz hsize hby hzs v n xs hown sv m news hs hbytes h63 hbase
  unfold Oper.wp execOp
  simp only [ho, resolve, invoke, builtin, Sem.run_bind, Sem.run_pure, Result.andThen_ok, List.map_toArray, List.map_cons, List.map_nil, hv, hx, hr]
  exact hK _ _ (h ao cap w' h2 h3 h4)

theorem Src.ofRow {w : World} {size : Nat} {tx e' : TypeId} (hk : P.underlying tx = some (.slice e')) {v : Value} {n : Nat} {xs : List Value} (h : Row w v n xs) (hl : xs.length = n * size) (h1 : ∀ u ∈ xs, u.oneCell' = true) : Src P size tx v n xs w := by
  obtain ⟨ao, cap, rfl, _, _, h3⟩ := h
  rcases h3 with rfl | ⟨b, off, rfl, _, h4⟩
  · have hx : xs = [] := List.eq_nil_of_length_eq_zero (by simpa using hl)
    subst hx
    cases ao with
    | none => exact Src.ofNil w hk cap
    | some a => exact Src.ofSlice w hk a 0 cap [] (by simp) (by simp) (by simp)
  · refine Src.ofSlice w hk ⟨b, off, none⟩ n cap xs hl (fun j u hu => ?_) h1
    rw [Addr.add_lit]; exact h4 j u hu
end

theorem Fresh.owned {α : Type} {R : Rep α} {E : TypeId} {B : Nat} {w : World} {v : Value} {l : List α} (h : Fresh (Rep.slice E R) B w [v] l) :
    ∃ ts : List (El α), l = vals ts ∧ (∀ t ∈ ts, R.rd true w t.1 t.2.1 t.2.2) ∧ w.ownsRow B E R.n v ts.length (cellsOf ts) ∧ (v.ownBlock.toList ++ feet ts).Nodup ∧ ∀ b ∈ v.ownBlock.toList ++ feet ts, B ≤ b := by
  obtain ⟨fp, ⟨v', ts, hv, rfl, rfl, h1, _, h3⟩, hnd, hge⟩ := h
  simp only [List.cons.injEq, and_true] at hv
  subst hv
  have e : head true v ts.length = v.ownBlock.toList := by simp [head]
  rw [e] at hnd hge
  exact ⟨ts, rfl, h1, ownsRow_rebase (h3 rfl) (fun b hb => hge b (List.mem_append.2 (.inl hb))), hnd, hge⟩

theorem Fresh.of_owned {α : Type} {R : Rep α} {E : TypeId} {B : Nat} {w : World} {v : Value} (ts : List (El α)) (h1 : ∀ t ∈ ts, R.rd true w t.1 t.2.1 t.2.2) {B' : Nat} (h3 : w.ownsRow B' E R.n v ts.length (cellsOf ts))
    (hnd : (v.ownBlock.toList ++ feet ts).Nodup) (hge : ∀ b ∈ v.ownBlock.toList ++ feet ts, B ≤ b) : Fresh (Rep.slice E R) B w [v] (vals ts) := by
  have e : head true v ts.length = v.ownBlock.toList := by simp [head]
  exact ⟨v.ownBlock.toList ++ feet ts, ⟨v, ts, rfl, rfl, by rw [e], h1, Row.of_owns h3, fun _ => ownsRow_rebase h3 fun _ _ => Nat.zero_le _⟩, hnd, hge⟩

theorem Fresh.appended {α : Type} {R : Rep α} {E : TypeId} {B : Nat} {w0 w1 : World} {v v' : Value} {ts us : List (El α)} (h1 : ∀ t ∈ ts, R.rd true w0 t.1 t.2.1 t.2.2) (h2 : ∀ t ∈ us, R.rd true w0 t.1 t.2.1 t.2.2)
    (hnd : (v.ownBlock.toList ++ feet ts).Nodup) (hge : ∀ b ∈ v.ownBlock.toList ++ feet ts, B ≤ b) (hnd2 : (feet us).Nodup) (hge2 : ∀ b ∈ feet us, B ≤ b) (hd : ∀ b ∈ feet us, b ∉ v.ownBlock.toList ++ feet ts)
    (hg : w0.grownBy w1 v.ownBlock) (hB : B ≤ w0.heap.size) {B' : Nat} (ho : w1.ownsRow B' E R.n v' (ts.length + us.length) (cellsOf ts ++ cellsOf us)) (hb : ∀ b ∈ v'.ownBlock.toList, b ∈ v.ownBlock.toList ∨ b = w0.heap.size) :
    Fresh (Rep.slice E R) B w1 [v'] (vals ts ++ vals us) := by
  have hlt : ∀ t ∈ ts ++ us, ∀ b ∈ t.2.2, b < w0.heap.size := by
    intro t ht b hb'
    rcases List.mem_append.1 ht with ht | ht
    · exact R.lt (h1 t ht) b hb'
    · exact R.lt (h2 t ht) b hb'
  have hfe : feet (ts ++ us) = feet ts ++ feet us := by simp [feet]
  have hce : cellsOf (ts ++ us) = cellsOf ts ++ cellsOf us := by simp [cellsOf]
  have hve : vals (ts ++ us) = vals ts ++ vals us := by simp [vals]
  rw [← hve]
  have hnv : ∀ b ∈ feet (ts ++ us), b ∉ v.ownBlock.toList := by
    intro b hb1 hb2
    rw [hfe] at hb1
    rcases List.mem_append.1 hb1 with hb1 | hb1
    · exact (List.nodup_append.1 hnd).2.2 b hb2 b hb1 rfl
    · exact hd b hb1 (List.mem_append.2 (.inl hb2))
  have hkeep : ∀ t ∈ ts ++ us, ∀ b ∈ t.2.2, w1.heap[b]? = w0.heap[b]? := by
    intro t ht b hb'
    refine hg.block b (hlt t ht b hb') fun e => ?_
    exact hnv b (List.mem_flatMap.2 ⟨t, ht, hb'⟩) (by rw [← e]; simp)
  refine Fresh.of_owned (ts ++ us) ?_ (by rw [List.length_append, hce]; exact ho) ?_ ?_
  · intro t ht
    have hr : R.rd true w0 t.1 t.2.1 t.2.2 := (List.mem_append.1 ht).elim (h1 t) (h2 t)
    exact R.frame hr (hkeep t ht)
  · rw [List.nodup_append]
    refine ⟨by cases v'.ownBlock <;> simp, ?_, ?_⟩
    · rw [hfe, List.nodup_append]
      exact ⟨(List.nodup_append.1 hnd).2.1, hnd2, fun a ha b hb' e => hd b hb' (by rw [← e]; exact List.mem_append.2 (.inr ha))⟩
    · intro a ha b hb' e
      subst e
      rcases hb a ha with h | h
      · exact hnv a hb' h
      · obtain ⟨t, ht, hb'⟩ := List.mem_flatMap.1 hb'
        have := hlt t ht a hb'
        omega
  · intro b hb'
    rcases List.mem_append.1 hb' with hb' | hb'
    · rcases hb b hb' with h | h
      · exact hge b (List.mem_append.2 (.inl h))
      · omega
    · rw [hfe] at hb'
      rcases List.mem_append.1 hb' with hb' | hb'
      · exact hge b (List.mem_append.2 (.inr hb'))
      · exact hge2 b hb'

theorem Fresh.snoc {α : Type} {R : Rep α} {E : TypeId} {B : Nat} {w0 w1 : World} {v v' : Value} {ts : List (El α)} {ds : List Value} {x : α} {fx : List Nat} (h1 : ∀ t ∈ ts, R.rd true w0 t.1 t.2.1 t.2.2) (h2 : R.rd true w0 ds x fx)
    (hnd : (v.ownBlock.toList ++ feet ts).Nodup) (hge : ∀ b ∈ v.ownBlock.toList ++ feet ts, B ≤ b) (hnd2 : fx.Nodup) (hge2 : ∀ b ∈ fx, B ≤ b) (hd : ∀ b ∈ fx, b ∉ v.ownBlock.toList ++ feet ts)
    (hg : w0.grownBy w1 v.ownBlock) (hB : B ≤ w0.heap.size) {B' : Nat} (ho : w1.ownsRow B' E R.n v' (ts.length + 1) (cellsOf ts ++ ds)) (hb : ∀ b ∈ v'.ownBlock.toList, b ∈ v.ownBlock.toList ∨ b = w0.heap.size) :
    Fresh (Rep.slice E R) B w1 [v'] (vals ts ++ [x]) := by
  have e1 : feet [((ds, x, fx) : El α)] = fx := by simp [feet]
  have e2 : cellsOf [((ds, x, fx) : El α)] = ds := by simp [cellsOf]
  exact Fresh.appended (us := [(ds, x, fx)]) h1 (by intro t ht; simp at ht; subst ht; exact h2) hnd hge (by rw [e1]; exact hnd2) (by rw [e1]; exact hge2) (by rw [e1]; exact hd) hg hB (by rw [e2]; exact ho) hb

theorem own_lit {w : World} {e : TypeId} {size : Nat} {xs : Array Value} {n : Nat} (hl : xs.size = n * size) (hn : n ≤ maxLen) :
    (w.alloc (.cells xs e)).ownsRow w.heap.size e size (.slice (some ⟨w.heap.size, 0, none⟩) n n) n xs.toList :=
  ⟨(Array.length_toList).trans hl, .inr ⟨w.heap.size, n, xs, rfl, Nat.le_refl _, heap_alloc_new w _, Nat.le_refl _, hn, hl, List.take_of_length_le (by rw [Array.length_toList, hl]; exact Nat.le_refl _)⟩⟩
theorem grow_below {B : Nat} {w w1 : World} {v : Value} (h : w.grownBy w1 v.ownBlock) (hv : ∀ b ∈ v.ownBlock.toList, B ≤ b) (hB : B ≤ w.heap.size) : Below B w w1 :=
  ⟨h.os, h.tape, h.output, h.size, fun k hk => h.block k (by omega) fun e => by have := hv k (by simp [← e]); omega⟩

end Go.Proofs.YtlfebehpmefioaaGreat

/-
  What a law's walk keeps: the arguments, the results of earlier calls and the boxes, through each later call.
-/
namespace Go.Proofs.YtlfebehpmefioaaGreat
open Go.RowKit

def Low {α : Type} (R : Rep α) (n : Nat) (w : World) (cs : List Value) (x : α) : Prop := ∃ fp, R.rd false w cs x fp ∧ ∀ b ∈ fp, b < n
theorem Low.start {α : Type} {R : Rep α} {w : World} {cs : List Value} {x : α} (h : Reads R w cs x) : Low R w.heap.size w cs x := by
  obtain ⟨fp, h⟩ := h
  exact ⟨fp, h, R.lt h⟩
theorem Low.reads {α : Type} {R : Rep α} {n : Nat} {w : World} {cs : List Value} {x : α} (h : Low R n w cs x) : Reads R w cs x := by
  obtain ⟨fp, h, _⟩ := h
  exact ⟨fp, h⟩
theorem Low.below {α : Type} {R : Rep α} {n : Nat} {w w' : World} {cs : List Value} {x : α} (h : Low R n w cs x) (hb : Below w.heap.size w w') : Low R n w' cs x := by
  obtain ⟨fp, h, h2⟩ := h
  exact ⟨fp, R.frame h fun b hb' => hb.block b (R.lt h b hb'), h2⟩
theorem Low.chg {α : Type} {R : Rep α} {n lo hi : Nat} {w w' : World} {cs : List Value} {x : α} {fq : List Nat} (h : Low R n w cs x) (hc : Chg fq w w') (hq : ∀ b ∈ fq, lo ≤ b ∧ b < hi) (hn : n ≤ lo) : Low R n w' cs x := by
  obtain ⟨fp, h, h2⟩ := h
  exact ⟨fp, hc.keeps h fun b hb hb' => by have := h2 b hb; have := (hq b hb').1; omega, h2⟩
theorem Part.below {α : Type} {R : Rep α} {lo hi : Nat} {w w' : World} {cs : List Value} {x : α} (h : Part R lo hi w cs x) (hb : Below w.heap.size w w') : Part R lo hi w' cs x := by
  obtain ⟨fp, h, h2⟩ := h
  exact ⟨fp, R.frame h fun b hb' => hb.block b (R.lt h b hb'), h2⟩
theorem Part.reads {α : Type} {R : Rep α} {lo hi : Nat} {w : World} {cs : List Value} {x : α} (h : Part R lo hi w cs x) : Reads R w cs x := by
  obtain ⟨fp, h, _⟩ := h
  obtain ⟨fq, h, _⟩ := R.weak h
  exact ⟨fq, h⟩
theorem Part.chg {α : Type} {R : Rep α} {lo hi lo' hi' : Nat} {w w' : World} {cs : List Value} {x : α} {fq : List Nat} (h : Part R lo hi w cs x) (hc : Chg fq w w') (hq : ∀ b ∈ fq, lo' ≤ b ∧ b < hi') (hn : hi ≤ lo' ∨ hi' ≤ lo) : Part R lo hi w' cs x := by
  obtain ⟨fp, h, h2, h3⟩ := h
  exact ⟨fp, hc.keeps h fun b hb hb' => by have := h3 b hb; have := hq b hb'; omega, h2, h3⟩
theorem Fresh.partAt {α : Type} {R : Rep α} {B lo : Nat} {w : World} {cs : List Value} {x : α} (h : Fresh R B w cs x) (hl : lo ≤ B) : Part R lo w.heap.size w cs x := by
  obtain ⟨fp, h1, h2, h3⟩ := h
  exact ⟨fp, h1, h2, fun b hb => ⟨Nat.le_trans hl (h3 b hb), R.lt h1 b hb⟩⟩
def Box (w : World) (k : Nat) (cs : Array Value) : Prop := (∀ o, w.cell? ⟨k, o, none⟩ = cs[o]?) ∧ k < w.heap.size
theorem Box.below {w w' : World} {k : Nat} {cs : Array Value} (h : Box w k cs) (hb : Below w.heap.size w w') : Box w' k cs :=
  ⟨fun o => (hb.cell (p := ⟨k, o, none⟩) h.2).trans (h.1 o), Nat.lt_of_lt_of_le h.2 hb.size⟩
theorem Box.chg {w w' : World} {k lo hi : Nat} {cs : Array Value} {fq : List Nat} (h : Box w k cs) (hc : Chg fq w w') (hq : ∀ b ∈ fq, lo ≤ b ∧ b < hi) (hn : k < lo ∨ hi ≤ k) : Box w' k cs :=
  ⟨fun o => (World.cell?_of_block (hc.block k h.2 fun hb => by have := hq k hb; omega)).trans (h.1 o), Nat.lt_of_lt_of_le h.2 hc.size⟩
theorem Box.alloc {w : World} {cs : Array Value} {t : TypeId} : Box (w.alloc (.cells cs t)) w.heap.size cs :=
  ⟨fun o => by simp [go_sem], by simp⟩
theorem Box.at {w : World} {k : Nat} {cs : Array Value} {t : TypeId} (hk : k = w.heap.size) : Box (w.alloc (.cells cs t)) k cs := by subst hk; exact Box.alloc
theorem Box.growA {a : World} {k : Nat} {cs : Array Value} {ob : Obj} (h : Box a k cs) : Box (a.alloc ob) k cs := h.below (Below.refl _ _ |>.alloc (Nat.le_refl _) ob)
theorem Below.chg {B lo hi : Nat} {w W W' : World} {fq : List Nat} (h : Below B w W) (hc : Chg fq W W') (hq : ∀ b ∈ fq, lo ≤ b ∧ b < hi) (hB : B ≤ lo) (hw : B ≤ W.heap.size) : Below B w W' :=
  ⟨hc.os.trans h.os, hc.tape.trans h.tape, hc.output.trans h.output, Nat.le_trans h.size hc.size, fun b hb => (hc.block b (by omega) fun hx => by have := hq b hx; omega).trans (h.block b hb)⟩

structure Own {α : Type} (R : Rep α) (lo hi : Nat) (w : World) (cs : List Value) (x : α) (fp : List Nat) : Prop where
  rd : R.rd true w cs x fp
  nodup : fp.Nodup
  ivl : ∀ b ∈ fp, lo ≤ b ∧ b < hi
theorem Own.below {α : Type} {R : Rep α} {lo hi : Nat} {w w' : World} {cs : List Value} {x : α} {fp : List Nat} (h : Own R lo hi w cs x fp) (hb : Below w.heap.size w w') : Own R lo hi w' cs x fp :=
  ⟨R.frame h.rd fun b hb' => hb.block b (R.lt h.rd b hb'), h.nodup, h.ivl⟩
theorem Own.reads {α : Type} {R : Rep α} {lo hi : Nat} {w : World} {cs : List Value} {x : α} {fp : List Nat} (h : Own R lo hi w cs x fp) : Reads R w cs x := by
  obtain ⟨fq, h, _⟩ := R.weak h.rd
  exact ⟨fq, h⟩
theorem Own.chg {α : Type} {R : Rep α} {lo hi : Nat} {w w' : World} {cs : List Value} {x : α} {fp fq : List Nat} (h : Own R lo hi w cs x fp) (hc : Chg fq w w') (hd : ∀ b ∈ fp, b ∉ fq) : Own R lo hi w' cs x fp :=
  ⟨hc.keeps h.rd hd, h.nodup, h.ivl⟩
theorem Own.apart {α β : Type} {R : Rep α} {S : Rep β} {lo hi lo' hi' : Nat} {w w' : World} {cs ds : List Value} {x : α} {y : β} {fp fq : List Nat} (h : Own R lo hi w cs x fp) (k : Own S lo' hi' w' ds y fq) (hn : hi ≤ lo' ∨ hi' ≤ lo) : ∀ b ∈ fp, b ∉ fq :=
  fun b hb hb' => by have := h.ivl b hb; have := k.ivl b hb'; omega
theorem Fresh.own {α : Type} {R : Rep α} {B lo : Nat} {w : World} {cs : List Value} {x : α} (h : Fresh R B w cs x) (hl : lo ≤ B) : ∃ fp, Own R lo w.heap.size w cs x fp := by
  obtain ⟨fp, h1, h2, h3⟩ := h
  exact ⟨fp, h1, h2, fun b hb => ⟨Nat.le_trans hl (h3 b hb), R.lt h1 b hb⟩⟩
def Fresh2 {α β : Type} (R : Rep α) (S : Rep β) (B : Nat) (w : World) (cs ds : List Value) (x : α) (y : β) : Prop :=
  ∃ f g, R.rd true w cs x f ∧ S.rd true w ds y g ∧ f.Nodup ∧ g.Nodup ∧ (∀ b ∈ f, b ∉ g) ∧ (∀ b ∈ f, B ≤ b) ∧ ∀ b ∈ g, B ≤ b
theorem Fresh2.left {α β : Type} {R : Rep α} {S : Rep β} {B : Nat} {w : World} {cs ds : List Value} {x : α} {y : β} (h : Fresh2 R S B w cs ds x y) : Fresh R B w cs x := by
  obtain ⟨f, g, h1, _, h3, _, _, h6, _⟩ := h
  exact ⟨f, h1, h3, h6⟩
theorem Fresh2.right {α β : Type} {R : Rep α} {S : Rep β} {B : Nat} {w : World} {cs ds : List Value} {x : α} {y : β} (h : Fresh2 R S B w cs ds x y) : Fresh S B w ds y := by
  obtain ⟨f, g, _, h2, _, h4, _, _, h7⟩ := h
  exact ⟨g, h2, h4, h7⟩
theorem Fresh2.own {α β : Type} {R : Rep α} {S : Rep β} {B lo : Nat} {w : World} {cs ds : List Value} {x : α} {y : β} (h : Fresh2 R S B w cs ds x y) (hl : lo ≤ B) :
    ∃ f g, Own R lo w.heap.size w cs x f ∧ Own S lo w.heap.size w ds y g ∧ ∀ b ∈ f, b ∉ g := by
  obtain ⟨f, g, h1, h2, h3, h4, h5, h6, h7⟩ := h
  exact ⟨f, g, ⟨h1, h3, fun b hb => ⟨Nat.le_trans hl (h6 b hb), R.lt h1 b hb⟩⟩, ⟨h2, h4, fun b hb => ⟨Nat.le_trans hl (h7 b hb), S.lt h2 b hb⟩⟩, h5⟩
structure Rds {α : Type} (R : Rep α) (w : World) (cs : List Value) (x : α) : Prop where
  reads : Reads R w cs x
theorem Rds.below {α : Type} {R : Rep α} {w w' : World} {cs : List Value} {x : α} (h : Rds R w cs x) (hb : Below w.heap.size w w') : Rds R w' cs x := ⟨h.reads.below hb⟩
theorem settle {P : Program} {c : Code} {Q : Exit → Act → World → Prop} {a : Act} {E : World} (F : World → Prop) (hE : F E) (h : ∀ W, F W → c.wp P Q a W) : c.wp P Q a E := h E hE

end Go.Proofs.YtlfebehpmefioaaGreat

/-
  Lists of cells in which some are stored again as they were. No function of the program is named here.
-/
namespace Go.Proofs.YtlfebehpmefioaaGreat
open Go.RowKit

end Go.Proofs.YtlfebehpmefioaaGreat

/-
  Slices of flat structs: read whole, grown by append. No function of the program is named here.
-/
namespace Go.Proofs.YtlfebehpmefioaaGreat
open Go.RowKit

structure FlatR {α : Type} (R : Rep α) (enc : α → List Value) (ok : α → Prop) : Prop where
  rd : ∀ {o : Bool} {w : World} {cs : List Value} {x : α} {fp : List Nat}, R.rd o w cs x fp ↔ cs = enc x ∧ fp = [] ∧ ok x

section
variable {α : Type} {R : Rep α} {enc : α → List Value} {ok : α → Prop}

theorem FlatR.len (h : FlatR R enc ok) {x : α} (hx : ok x) : (enc x).length = R.n := R.len (h.rd (o := false) (w := default).2 ⟨rfl, rfl, hx⟩)
theorem FlatR.one (h : FlatR R enc ok) {x : α} (hx : ok x) : ∀ u ∈ enc x, u.oneCell' = true := R.one (h.rd (o := false) (w := default).2 ⟨rfl, rfl, hx⟩)

theorem flatMap_length (h : FlatR R enc ok) : ∀ (l : List α), (∀ x ∈ l, ok x) → (l.flatMap enc).length = l.length * R.n
  | [], _ => by simp
  | x :: l, hl => by
    have := flatMap_length h l fun y hy => hl y (by simp [hy])
    rw [List.flatMap_cons, List.length_append, this, h.len (hl x (by simp)), List.length_cons, Nat.add_mul]; omega
theorem flatMap_one (h : FlatR R enc ok) (l : List α) (hl : ∀ x ∈ l, ok x) : ∀ u ∈ l.flatMap enc, u.oneCell' = true := by
  intro u hu
  obtain ⟨x, hx, hu⟩ := List.mem_flatMap.1 hu
  exact h.one (hl x hx) u hu

theorem cells_flat (h : FlatR R enc ok) {o : Bool} {w : World} : ∀ (ts : List (El α)), (∀ t ∈ ts, R.rd o w t.1 t.2.1 t.2.2) → cellsOf ts = (vals ts).flatMap enc ∧ feet ts = [] ∧ ∀ x ∈ vals ts, ok x
  | [], _ => ⟨rfl, rfl, by simp [vals]⟩
  | t :: ts, ht => by
    obtain ⟨h1, h2, h3⟩ := cells_flat h ts fun t hm => ht t (by simp [hm])
    obtain ⟨k1, k2, k3⟩ := h.rd.1 (ht t (by simp))
    refine ⟨?_, ?_, ?_⟩
    · simp only [cellsOf, vals, List.flatMap_cons, List.map_cons] at *; rw [k1, h1]
    · simp only [feet, List.flatMap_cons] at *; rw [k2, h2]; rfl
    · intro x hx
      simp only [vals, List.map_cons, List.mem_cons] at hx h3
      rcases hx with rfl | hx
      · exact k3
      · exact h3 x hx

theorem FlatR.row (h : FlatR R enc ok) {E : TypeId} {w : World} {v : Value} {l : List α} (hr : Reads (Rep.slice E R) w [v] l) : Row w v l.length (l.flatMap enc) ∧ ∀ x ∈ l, ok x := by
  obtain ⟨fp, v', ts, hv, rfl, rfl, hts, hrow, _⟩ := hr
  simp only [List.cons.injEq, and_true] at hv
  subst hv
  obtain ⟨h1, _, h3⟩ := cells_flat h ts hts
  rw [← h1, vals_length]
  exact ⟨hrow, h3⟩

theorem FlatR.src (h : FlatR R enc ok) {P : Program} {E tx e' : TypeId} {w : World} {v : Value} {l : List α} (hk : P.underlying tx = some (.slice e')) (hr : Reads (Rep.slice E R) w [v] l) : Src P R.n tx v l.length (l.flatMap enc) w := by
  obtain ⟨h1, h2⟩ := h.row hr
  exact Src.ofRow hk h1 (flatMap_length h l h2) (flatMap_one h l h2)

theorem FlatR.own (h : FlatR R enc ok) {E : TypeId} {B : Nat} {w : World} {v : Value} {l : List α} (hf : Fresh (Rep.slice E R) B w [v] l) : w.ownsRow B E R.n v l.length (l.flatMap enc) ∧ ∀ x ∈ l, ok x := by
  obtain ⟨ts, rfl, h1, h2, _, _⟩ := hf.owned
  obtain ⟨k1, _, k3⟩ := cells_flat h ts h1
  rw [← k1, vals_length]
  exact ⟨h2, k3⟩

theorem els_flat (enc : α → List Value) : ∀ (l : List α), cellsOf (l.map fun x => ((enc x, x, []) : El α)) = l.flatMap enc ∧ feet (l.map fun x => ((enc x, x, []) : El α)) = [] ∧ vals (l.map fun x => ((enc x, x, []) : El α)) = l
  | [] => ⟨rfl, rfl, rfl⟩
  | x :: l => by
    obtain ⟨h1, h2, h3⟩ := els_flat enc l
    refine ⟨?_, ?_, ?_⟩
    · simp only [cellsOf, List.map_cons, List.flatMap_cons] at *; rw [h1]
    · simp only [feet, List.map_cons, List.flatMap_cons] at *; rw [h2]; rfl
    · simp only [vals, List.map_cons] at *; rw [h3]

theorem FlatR.fresh (h : FlatR R enc ok) {E : TypeId} {B B' : Nat} {w : World} {v : Value} {l : List α} (ho : w.ownsRow B' E R.n v l.length (l.flatMap enc)) (hok : ∀ x ∈ l, ok x) (hge : ∀ b ∈ v.ownBlock.toList, B ≤ b) : Fresh (Rep.slice E R) B w [v] l := by
  obtain ⟨h1, h2, h3⟩ := els_flat enc l
  have := Fresh.of_owned (R := R) (E := E) (B := B) (w := w) (v := v) (l.map fun x => ((enc x, x, []) : El α)) (fun t ht => by
    obtain ⟨x, hx, rfl⟩ := List.mem_map.1 ht
    exact h.rd.2 ⟨rfl, rfl, hok x hx⟩) (B' := B') (by rw [h1, List.length_map]; exact ho) (by rw [h2]; cases v.ownBlock <;> simp) (by rw [h2]; simpa using hge)
  rwa [h3] at this

theorem lit_fresh (h : FlatR R enc ok) {E : TypeId} {w : World} {n : Nat} {xs : Array Value} {us : List α} (hx : xs.toList = us.flatMap enc) (hn : n = us.length) (hm : us.length ≤ maxLen) (hok : ∀ x ∈ us, ok x) {k : Nat} (hkk : k = w.heap.size) :
    Fresh (Rep.slice E R) k (w.alloc (.cells xs E)) [.slice (some ⟨k, 0, none⟩) n n] us := by
  subst hn; subst hkk
  refine h.fresh (B' := w.heap.size) ?_ hok (by simp [Value.ownBlock])
  rw [← hx]
  exact own_lit (by rw [← Array.length_toList, hx]; exact flatMap_length h us hok) hm

theorem wpList_grow {P : Program} (w : World) {ops : Array Oper} {rest : List Oper} {o : Oper} {a : Act} {Q : Exit → Act → World → Prop} (hgd : o.guard = none) (s x : Operand) (t tx : TypeId)
    (ho : o.op = .call { callee := .builtin .append, args := #[s, x], argTypes := #[t, tx] })
    (h : FlatR R enc ok) (B : Nat) (e : TypeId) (i : TypeInfo) (z : Value) (bytes : Nat) (ht : P.underlying t = some (.slice e)) (hi : P.info? e = some i) (hz : i.zero = some z)
    (hsize : i.size = R.n) (hby : i.bytes = bytes) (hzs : z.cells.size = R.n)
    (v : Value) (l : List α) (hv : a.eval s = v) (hown : Fresh (Rep.slice e R) B w [v] l)
    (sv : Value) (us : List α) (hx : a.eval x = sv) (hs : Src P R.n tx sv us.length (us.flatMap enc) w) (hok : ∀ x ∈ us, ok x)
    (hbytes : (l.length + us.length) * bytes ≤ 140737488355328) (h63 : l.length + us.length ≤ maxLen) (hbase : B ≤ w.heap.size)
    (hgo : ∀ ao cap w', Fresh (Rep.slice e R) B w' [.slice ao (l.length + us.length) cap] (l ++ us) → Below B w w' →
      wpList P ops Q rest (a.put o.dst (.slice ao (l.length + us.length) cap)) w') : wpList P ops Q (o :: rest) a w := by
  obtain ⟨ho1, ho2⟩ := h.own hown
  have hge := World.ownsRow.lt ho1
  refine wpList_append_src w hgd s x t tx ho B e i z R.n bytes ht hi hz hsize hby hzs v l.length (l.flatMap enc) hv ho1 sv us.length _ hx hs hbytes h63 hbase fun ao cap w' h1 h2 h3 => ?_
  refine hgo ao cap w' (h.fresh (B' := B) (by rw [List.length_append, List.flatMap_append]; exact h1) (fun x hx => (List.mem_append.1 hx).elim (ho2 x) (hok x)) fun b hb => ?_) (grow_below h2 (fun b hb => (hge b (by simpa using hb)).1) hbase)
  rcases h3 b hb with hb | rfl
  · exact (hge b (by simpa using hb)).1
  · exact hbase

end

theorem FlatR.int : FlatR Rep.int (fun n => [.int .i64 n]) (fun _ => True) := ⟨fun {_ _ _ _ _} => Iff.rfl⟩
theorem FlatR.byte : FlatR Rep.byte (fun n => [.int .u8 n.toNat]) (fun _ => True) := ⟨fun {_ _ _ _ _} => Iff.rfl⟩
theorem FlatR.str : FlatR Rep.str (fun n => [.string n]) (fun s => s.size ≤ maxLen) := ⟨fun {_ _ _ _ _} => Iff.rfl⟩

theorem belAB {B : Nat} {w a : World} {o : Obj} (hs : B ≤ a.heap.size) (h : Below B w a) : Below B w (a.alloc o) := h.alloc hs o
theorem bSz {p : Prop} (h : p := by first | omega | (simp; done) | (simp; omega)) : p := h
theorem bEl {B : Nat} {a w : World} (h : Below B a w := by repeat (first | with_reducible exact belR | with_reducible apply belA | (with_reducible refine belS ?_ ?_; focus (first | omega | (simp; done) | (simp; omega))) | with_reducible apply belN | with_reducible apply belD | with_reducible assumption)) : Below B a w := h
theorem bEb {B : Nat} {a w : World} (h : Below B a w := by repeat (first | with_reducible exact belR | (with_reducible refine belAB ?_ ?_; focus (first | omega | (simp; done) | (simp; omega))) | (with_reducible refine belS ?_ ?_; focus (first | omega | (simp; done) | (simp; omega))) | with_reducible apply belN | with_reducible apply belD | with_reducible assumption)) : Below B a w := h
theorem Box.keep {w w' : World} {k B : Nat} {cs : Array Value} (h : Box w k cs) (hb : Below B w w') (hk : k < B) : Box w' k cs :=
  ⟨fun o => (hb.cell (p := ⟨k, o, none⟩) hk).trans (h.1 o), Nat.lt_of_lt_of_le h.2 hb.size⟩
structure WB (w : World) (k : Nat) (cs : Array Value) : Prop where
  cell : ∀ o, w.cell? ⟨k, o, none⟩ = cs[o]?
  lt : k < w.heap.size
  free : ∀ o, w.frozen? ⟨k, o, none⟩ = false
theorem WB.at {w : World} {k : Nat} {cs : Array Value} {t : TypeId} (hk : k = w.heap.size) : WB (w.alloc (.cells cs t)) k cs := by
  subst hk
  exact ⟨fun o => by simp [go_sem], by simp, fun o => by simp [go_sem]⟩
theorem WB.grow {w w' : World} {k B : Nat} {cs : Array Value} (h : WB w k cs) (hb : Below B w w') (hk : k < B) : WB w' k cs :=
  ⟨fun o => (hb.cell (p := ⟨k, o, none⟩) hk).trans (h.cell o), Nat.lt_of_lt_of_le h.lt hb.size, fun o => (hb.frozen (p := ⟨k, o, none⟩) hk).trans (h.free o)⟩
theorem WB.keep {w w' : World} {k : Nat} {cs : Array Value} (h : WB w k cs) (hb : Below w.heap.size w w') : WB w' k cs := h.grow hb h.lt
theorem WB.growA {w : World} {k : Nat} {cs : Array Value} {o : Obj} (h : WB w k cs) : WB (w.alloc o) k cs := h.keep ((Below.refl _ _).alloc (Nat.le_refl _) o)
theorem WB.growD {w : World} {k : Nat} {cs : Array Value} (h : WB w k cs) : WB w.drew k cs := ⟨h.cell, h.lt, h.free⟩
theorem WB.setOther {w : World} {k g o : Nat} {cs : Array Value} {u : Value} (h : WB w k cs) (hk : k ≠ g) : WB (w.setCell ⟨g, o, none⟩ u) k cs :=
  ⟨fun i => (World.cell?_of_block (Below.heap_setCell w _ u k hk)).trans (h.cell i), by rw [World.size_setCell]; exact h.lt, fun i => (World.frozen?_setCell w _ _ u).trans (h.free i)⟩
theorem WB.setAt {w : World} {k i : Nat} {cs cs' : Array Value} {u : Value} (h : WB w k cs) (hi : i < cs.size) (hc : cs' = cs.setIfInBounds i u) : WB (w.setCell ⟨k, i, none⟩ u) k cs' := by
  subst hc
  refine ⟨fun o => ?_, by rw [World.size_setCell]; exact h.lt, fun o => (World.frozen?_setCell w _ _ u).trans (h.free o)⟩
  by_cases e : i = o
  · subst e
    rw [World.cell?_setCell_same w _ u (by rw [h.cell, Array.getElem?_eq_getElem hi]), Array.getElem?_setIfInBounds_self_of_lt hi]
  · rw [World.cell?_setCell_other w _ _ u (fun h => e (congrArg Addr.off h)), h.cell, Array.getElem?_setIfInBounds_ne (by omega)]
theorem Fresh.setLow {α : Type} {R : Rep α} {B : Nat} {w : World} {cs : List Value} {x : α} {g o : Nat} {u : Value} (h : Fresh R B w cs x) (hg : g < B) : Fresh R B (w.setCell ⟨g, o, none⟩ u) cs x := by
  obtain ⟨fp, h1, h2, h3⟩ := h
  exact ⟨fp, R.frame h1 fun b hb => Below.heap_setCell _ _ _ _ (by have := h3 b hb; simp only []; omega), h2, h3⟩
theorem Fresh.drew {α : Type} {R : Rep α} {B : Nat} {w : World} {cs : List Value} {x : α} (h : Fresh R B w cs x) : Fresh R B w.drew cs x := h.below (belD belR)
theorem news_at {w : World} {xs : Array Value} {t : TypeId} {us : List Value} (h : xs.toList = us) : ∀ j y, us[j]? = some y → (w.alloc (.cells xs t)).cell? ⟨w.heap.size, j, none⟩ = some y := by
  subst h
  intro j y hy
  rw [Array.getElem?_toList] at hy
  rw [← hy]
  simp [go_sem]
theorem Fresh.nil {α : Type} {R : Rep α} {E : TypeId} {B : Nat} {w : World} : Fresh (Rep.slice E R) B w [.slice none 0 0] [] :=
  Fresh.of_owned (R := R) (E := E) (B := B) (w := w) (v := .slice none 0 0) [] (by simp) (B' := 0) (World.ownsRow_nil w 0 E R.n) (by simp [Value.ownBlock, feet]) (by simp [Value.ownBlock, feet])

end Go.Proofs.YtlfebehpmefioaaGreat

/-
  Words and names: what isWord, IsLockName, IsName, isKeyText and the reference's twins compute.
-/
namespace Go.Proofs.YtlfebehpmefioaaGreat
open Go.RowKit

def wordByte (slash : Bool) (c : UInt8) : Bool := (97 ≤ c.toNat && c.toNat ≤ 122) || (slash && c.toNat == 47)
def keyByte (c : UInt8) : Bool := (97 ≤ c.toNat && c.toNat ≤ 122) || (48 ≤ c.toNat && c.toNat ≤ 57)
def allBytes (p : UInt8 → Bool) (s : ByteArray) : Bool := s.data.toList.all p
def within (n lo hi : Int) : Bool := decide (lo ≤ n) && decide (n ≤ hi)
def isWordF (s : ByteArray) (most : Int) (slash : Bool) : Bool := allBytes (wordByte slash) s && within s.size 1 most
theorem allBytes_no {p : UInt8 → Bool} {s : ByteArray} {k : Nat} (hk : k < s.size) (h : p s[k] = false) : allBytes p s = false := by
  unfold allBytes
  rw [List.all_eq_false]
  exact ⟨s[k], by have : s[k] = s.data.toList[k]'(by simpa using hk) := rfl
                  rw [this]; exact List.getElem_mem _, by simp [h]⟩
theorem allBytes_yes {p : UInt8 → Bool} {s : ByteArray} (h : ∀ k, (hk : k < s.size) → p s[k] = true) : allBytes p s = true := by
  unfold allBytes
  rw [List.all_eq_true]
  intro x hx
  obtain ⟨i, hi, rfl⟩ := List.getElem_of_mem hx
  exact h i (by simpa using hi)

set_option maxHeartbeats 400000 in
theorem implInRange (a b c : Int) (w : World) :
    Calls Tryz.prog 60 #[.int .i64 a, .int .i64 b, .int .i64 c] w fun e w' => e = .returned (.bool (within a b c)) ∧ w = w' := by
  by_cases h : b ≤ a
  all_goals
    go_enter Tryz.func60, Tryz.ntmps60
    go_wp2
    go_ret
    exact ⟨by simp [within]; try omega, rfl⟩

set_option maxHeartbeats 400000 in
theorem specIn (a b c : Int) (w : World) :
    Calls Tryz.prog 78 #[.int .i64 a, .int .i64 b, .int .i64 c] w fun e w' => e = .returned (.bool (within a b c)) ∧ w = w' := by
  by_cases h : b ≤ a
  all_goals
    go_enter Tryz.func78, Tryz.ntmps78
    go_wp2
    go_ret
    exact ⟨by simp [within]; try omega, rfl⟩

theorem wordByte_t (c : UInt8) : wordByte true c = true ↔ ((97 ≤ (c.toNat : Int) ∧ (c.toNat : Int) ≤ 122) ∨ (c.toNat : Int) = 47) := by
  simp [wordByte]; omega
theorem wordByte_f (c : UInt8) : wordByte false c = true ↔ (97 ≤ (c.toNat : Int) ∧ (c.toNat : Int) ≤ 122) := by
  simp [wordByte]; omega
theorem keyByte_i (c : UInt8) : keyByte c = true ↔ ((97 ≤ (c.toNat : Int) ∧ (c.toNat : Int) ≤ 122) ∨ (48 ≤ (c.toNat : Int) ∧ (c.toNat : Int) ≤ 57)) := by
  simp [keyByte]; omega
theorem isWordF_no {s : ByteArray} {most : Int} {slash : Bool} {k : Nat} (hk : k < s.size) (h : ¬ wordByte slash s[k] = true) : Ending.returned (.bool false) = .returned (.bool (isWordF s most slash)) := by
  rw [isWordF, allBytes_no hk (by simpa using h)]; rfl
theorem isWordF_yes {s : ByteArray} {most : Int} {slash : Bool} (h : ∀ k, (hk : k < s.size) → wordByte slash s[k] = true) : Ending.returned (.bool (within s.size 1 most)) = .returned (.bool (isWordF s most slash)) := by
  rw [isWordF, allBytes_yes h]; rfl
theorem snoc_bytes {p : UInt8 → Bool} {s : ByteArray} {k : Nat} (hk : k < s.size) (hall : ∀ j, (hj : j < s.size) → j < k → p s[j] = true) (h : p s[k] = true) : ∀ j, (hj : j < s.size) → j < k + 1 → p s[j] = true := by
  intro j hj hjk
  by_cases e : j = k
  · subst e; exact h
  · exact hall j hj (by omega)

set_option maxHeartbeats 400000 in
theorem implIsWord_t (s : ByteArray) (most : Int) (hs : s.size ≤ maxLen) (w : World) :
    Calls Tryz.prog 132 #[.string s, .int .i64 most, .bool true] w fun e w' => e = .returned (.bool (isWordF s most true)) ∧ w = w' := by
  unfold maxLen at hs
  go_enter Tryz.func132, Tryz.ntmps132
  go_wp2
  go_loop [7] (fun i => ∃ k : Nat, k ≤ s.size ∧ i = .int .i64 k ∧ ∀ j, (hj : j < s.size) → j < k → wordByte true s[j] = true) (fun i => s.size - (intOf i).toNat)
  case atStart => exact ⟨0, by omega, rfl, by intro j hj h; omega⟩
  case round =>
    obtain ⟨k, hk, rfl, hall⟩ := hrel
    have HA := Lib.hid hall; clear hall
    by_cases hlt : k < s.size
    · have hw := wordByte_t s[k]
      have HW := Lib.hid hw; clear hw
      go_wp2
      all_goals first
        | (go_ret; exact ⟨isWordF_no hlt (by go_light; rw [HW.out]; simp_all; try omega), rfl⟩)
        | (go_light; refine ⟨⟨k + 1, by omega, by go_num, snoc_bytes hlt HA.out (by rw [HW.out]; simp_all; try omega)⟩, ?_⟩; simp [intOf]; omega)
    · go_wp2_with (go_at_call 60; refine (implInRange _ _ _ _).mono ?_; rintro e w' ⟨rfl, rfl⟩)
      go_ret
      exact ⟨isWordF_yes fun j hj => HA.out j hj (by omega), rfl⟩
set_option maxHeartbeats 400000 in
theorem implIsWord_f (s : ByteArray) (most : Int) (hs : s.size ≤ maxLen) (w : World) :
    Calls Tryz.prog 132 #[.string s, .int .i64 most, .bool false] w fun e w' => e = .returned (.bool (isWordF s most false)) ∧ w = w' := by
  unfold maxLen at hs
  go_enter Tryz.func132, Tryz.ntmps132
  go_wp2
  go_loop [7] (fun i => ∃ k : Nat, k ≤ s.size ∧ i = .int .i64 k ∧ ∀ j, (hj : j < s.size) → j < k → wordByte false s[j] = true) (fun i => s.size - (intOf i).toNat)
  case atStart => exact ⟨0, by omega, rfl, by intro j hj h; omega⟩
  case round =>
    obtain ⟨k, hk, rfl, hall⟩ := hrel
    have HA := Lib.hid hall; clear hall
    by_cases hlt : k < s.size
    · have hw := wordByte_f s[k]
      have HW := Lib.hid hw; clear hw
      go_wp2
      all_goals first
        | (go_ret; exact ⟨isWordF_no hlt (by go_light; rw [HW.out]; simp_all; try omega), rfl⟩)
        | (go_light; refine ⟨⟨k + 1, by omega, by go_num, snoc_bytes hlt HA.out (by rw [HW.out]; simp_all; try omega)⟩, ?_⟩; simp [intOf]; omega)
    · go_wp2_with (go_at_call 60; refine (implInRange _ _ _ _).mono ?_; rintro e w' ⟨rfl, rfl⟩)
      go_ret
      exact ⟨isWordF_yes fun j hj => HA.out j hj (by omega), rfl⟩
theorem implIsWord (s : ByteArray) (most : Int) (slash : Bool) (hs : s.size ≤ maxLen) (w : World) :
    Calls Tryz.prog 132 #[.string s, .int .i64 most, .bool slash] w fun e w' => e = .returned (.bool (isWordF s most slash)) ∧ w = w' := by
  cases slash
  · exact implIsWord_f s most hs w
  · exact implIsWord_t s most hs w

set_option maxHeartbeats 400000 in
theorem implIsName (s : ByteArray) (hs : s.size ≤ maxLen) (w : World) :
    Calls Tryz.prog 93 #[.string s] w fun e w' => e = .returned (.bool (isWordF s 8 false)) ∧ w = w' := by
  go_enter Tryz.func93, Tryz.ntmps93
  go_wp2_with (go_at_call 132; refine (implIsWord _ _ _ hs _).mono ?_; rintro e w' ⟨rfl, rfl⟩)
  go_ret
  exact ⟨rfl, rfl⟩

set_option maxHeartbeats 400000 in
theorem specIsName (s : ByteArray) (hs : s.size ≤ maxLen) (w : World) :
    Calls Tryz.prog 101 #[.string s] w fun e w' => e = .returned (.bool (isWordF s 8 false)) ∧ w = w' := by
  unfold maxLen at hs
  go_enter Tryz.func101, Tryz.ntmps101
  go_wp2
  go_loop [3] (fun i => ∃ k : Nat, k ≤ s.size ∧ i = .int .i64 k ∧ ∀ j, (hj : j < s.size) → j < k → wordByte false s[j] = true) (fun i => s.size - (intOf i).toNat)
  case atStart => exact ⟨0, by omega, rfl, by intro j hj h; omega⟩
  case round =>
    obtain ⟨k, hk, rfl, hall⟩ := hrel
    have HA := Lib.hid hall; clear hall
    by_cases hlt : k < s.size
    · have hw := wordByte_f s[k]
      have HW := Lib.hid hw; clear hw
      go_wp2
      all_goals first
        | (go_ret; exact ⟨isWordF_no hlt (by go_light; rw [HW.out]; simp_all; try omega), rfl⟩)
        | (go_light; refine ⟨⟨k + 1, by omega, by go_num, snoc_bytes hlt HA.out (by rw [HW.out]; simp_all; try omega)⟩, ?_⟩; simp [intOf]; omega)
    · go_wp2_with (go_at_call 78; refine (specIn _ _ _ _).mono ?_; rintro e w' ⟨rfl, rfl⟩)
      go_ret
      exact ⟨isWordF_yes fun j hj => HA.out j hj (by omega), rfl⟩

end Go.Proofs.YtlfebehpmefioaaGreat

/-
  append of one element that leads to memory of its own. No function of the program is named here.
-/
namespace Go.Proofs.YtlfebehpmefioaaGreat
open Go.RowKit

section
variable {α : Type} {R : Rep α}

theorem pushed {E : TypeId} {B m : Nat} {w w1 w' : World} {v v' : Value} {l : List α} {u : α} {ds : List Value} (hB : B ≤ m) (hm : m ≤ w1.heap.size)
    {ts : List (El α)} (hl : l = vals ts) (h1 : ∀ t ∈ ts, R.rd true w t.1 t.2.1 t.2.2) (hnd : (v.ownBlock.toList ++ feet ts).Nodup) (hge : ∀ b ∈ v.ownBlock.toList ++ feet ts, B ≤ b ∧ b < m)
    (hu : Fresh R m w ds u) (hw1 : Below w.heap.size w w1) {B' : Nat} (ho : w'.ownsRow B' E R.n v' (ts.length + 1) (cellsOf ts ++ ds)) (hg : w1.grownBy w' v.ownBlock) (hv : ∀ b ∈ v'.ownBlock.toList, b ∈ v.ownBlock.toList ∨ b = w1.heap.size) :
    Fresh (Rep.slice E R) B w' [v'] (l ++ [u]) := by
  subst hl
  obtain ⟨fu, r1, r2, r3⟩ := hu
  refine Fresh.snoc (w0 := w1) (fun t ht => R.frame (h1 t ht) fun b hb => hw1.block b (R.lt (h1 t ht) b hb)) (R.frame r1 fun b hb => hw1.block b (R.lt r1 b hb)) hnd (fun b hb => (hge b hb).1) r2 (fun b hb => Nat.le_trans hB (r3 b hb)) (fun b hb hb' => ?_) hg (Nat.le_trans hB hm) ho hv
  have := (hge b hb').2
  have := r3 b hb
  omega

theorem Part.owned {E : TypeId} {B m : Nat} {w : World} {v : Value} {l : List α} (h : Part (Rep.slice E R) B m w [v] l) :
    ∃ ts : List (El α), l = vals ts ∧ (∀ t ∈ ts, R.rd true w t.1 t.2.1 t.2.2) ∧ w.ownsRow B E R.n v ts.length (cellsOf ts) ∧ (v.ownBlock.toList ++ feet ts).Nodup ∧ ∀ b ∈ v.ownBlock.toList ++ feet ts, B ≤ b ∧ b < m := by
  obtain ⟨fp, ⟨v', ts, hv, rfl, rfl, h1, _, h3⟩, hnd, hge⟩ := h
  simp only [List.cons.injEq, and_true] at hv
  subst hv
  have e : head true v ts.length = v.ownBlock.toList := by simp [head]
  rw [e] at hnd hge
  exact ⟨ts, rfl, h1, ownsRow_rebase (h3 rfl) (fun b hb => (hge b (List.mem_append.2 (.inl hb))).1), hnd, hge⟩

theorem Fresh.lit0 {E : TypeId} {w : World} {k : Nat} (hk : k = w.heap.size) : Fresh (Rep.slice E R) k (w.alloc (.cells #[] E)) [.slice (some ⟨k, 0, none⟩) 0 0] [] := by
  subst hk
  exact Fresh.of_owned (R := R) (E := E) (v := .slice (some ⟨w.heap.size, 0, none⟩) 0 0) [] (by simp) (B' := w.heap.size) (own_lit (w := w) (xs := #[]) (n := 0) (size := R.n) (by simp) (by decide)) (by simp [feet, Value.ownBlock]) (by simp [feet, Value.ownBlock])

theorem step_pushN {P : Program} (w w1 : World) {ops : Array Oper} {o : Oper} {a : Act} {K : Act → World → Prop} {Q : Exit → Act → World → Prop} {X : Prop} (hgd : o.guard = none) (s x : Operand) (t tx : TypeId)
    (ho : o.op = .call { callee := .builtin .append, args := #[s, x], argTypes := #[t, tx] })
    (R : Rep α) (B m : Nat) (e : TypeId) (i : TypeInfo) (z : Value) (bytes : Nat) (ht : P.underlying t = some (.slice e)) {e' : TypeId} (htx : P.underlying tx = some (.slice e')) (hi : P.info? e = some i) (hz : i.zero = some z)
    (hsize : i.size = R.n) (hby : i.bytes = bytes) (hzs : z.cells.size = R.n)
    (v : Value) (l : List α) (hv : a.eval s = v) (hown : Part (Rep.slice e R) B m w [v] l) (hw1 : Below w.heap.size w w1)
    (u : α) (us : List Value) (k : Nat) (hx : a.eval x = .slice (some ⟨k, 0, none⟩) 1 1) (hu : Fresh R m w us u) (hxs : ∀ j y, us[j]? = some y → w1.cell? ⟨k, j, none⟩ = some y)
    (hlen : l.length + 1 ≤ 16777216) (hbytes : bytes ≤ 8388608) (hB : B ≤ m) (hm : m ≤ w.heap.size)
    (hgo : ∀ ao cap w', Fresh (Rep.slice e R) B w' [.slice ao (l.length + 1) cap] (l ++ [u]) → Below B w1 w' → w1.heap.size ≤ w'.heap.size →
      K (a.put o.dst (.slice ao (l.length + 1) cap)) w') : if Region.wanted o (yielded ops a.tmps) = true then Oper.wp P o a w1 K Q else X := by
  have hw : Region.wanted o (yielded ops a.tmps) = true := by simp [Region.wanted, hgd]
  rw [if_pos hw]
  have hmul : (l.length + 1) * bytes ≤ 16777216 * 8388608 := Nat.mul_le_mul hlen hbytes
  obtain ⟨ts, hl, h1, h2, h3, h4⟩ := hown.owned
  have hlt : l.length = ts.length := by rw [hl, vals_length]
  rw [hlt] at hmul
  obtain ⟨fu, r1, r2, r3⟩ := id hu
  have hsz := hw1.size
  have hs : Src P R.n tx (.slice (some ⟨k, 0, none⟩) 1 1) 1 us w1 := Src.ofSlice w1 htx ⟨k, 0, none⟩ 1 1 _ (by rw [R.len r1, Nat.one_mul]) (fun j y hy => by rw [Addr.add_lit, Nat.zero_add]; exact hxs j y hy) (fun y hy => R.one r1 y hy)
  have h2' : w1.ownsRow B e R.n v ts.length (cellsOf ts) := ownsRow_frame h2 fun b hb => hw1.block b (by have := (h4 b (List.mem_append.2 (.inl hb))).2; omega)
  obtain ⟨v', w', hr, k1, k2, k3, ao, cap, rfl⟩ := run_append_src (P := P) w1 B t tx o.type e i z R.n bytes ht hi hz hsize hby hzs v ts.length _ h2' _ 1 us hs (by omega) (by unfold maxLen; omega) (by omega)
  unfold Oper.wp execOp
  simp only [ho, resolve, invoke, builtin, Sem.run_bind, Sem.run_pure, Result.andThen_ok, List.map_toArray, List.map_cons, List.map_nil, hv, hx, hr]
  rw [hlt] at hgo
  exact hgo ao cap w' (pushed (E := e) hB (by omega) hl h1 h3 h4 hu hw1 k1 k2 k3) (grow_below k2 (fun b hb => (h4 b (List.mem_append.2 (.inl hb))).1) (by omega)) k2.size
end

end Go.Proofs.YtlfebehpmefioaaGreat

/-
  Searches over slices, stores into a slice that the call owns, clear on its tail. No function of the program is named here.
-/
namespace Go.Proofs.YtlfebehpmefioaaGreat
open Go.RowKit

theorem bytes_ext {a b : ByteArray} (h : a.toList = b.toList) : a = b := by
  rw [ByteArray.toList_eq, ByteArray.toList_eq] at h
  obtain ⟨⟨x⟩⟩ := a
  obtain ⟨⟨y⟩⟩ := b
  simp only at h
  rw [h]
def idxF {α : Type} (p : α → Bool) (l : List α) : Int := match l.findIdx? p with | some i => (i : Int) | none => -1
theorem idxF_hit {α : Type} {p : α → Bool} {l : List α} {k : Nat} (hk : k < l.length) (hp : p l[k] = true) (hall : ∀ j, (hj : j < l.length) → j < k → p l[j] = false) : idxF p l = k := by
  have : l.findIdx? p = some k := List.findIdx?_eq_some_iff_getElem.2 ⟨hk, hp, fun j hj => by have := hall j (by omega) hj; simp [this]⟩
  unfold idxF; rw [this]
theorem idxF_miss {α : Type} {p : α → Bool} {l : List α} (hall : ∀ j, (hj : j < l.length) → p l[j] = false) : idxF p l = -1 := by
  have : l.findIdx? p = none := List.findIdx?_eq_none_iff.2 fun x hx => by
    obtain ⟨j, hj, rfl⟩ := List.getElem_of_mem hx
    exact hall j hj
  unfold idxF; rw [this]
theorem idxF_cases {α : Type} (p : α → Bool) (l : List α) : (idxF p l = -1 ∧ (∀ j, (hj : j < l.length) → p l[j] = false)) ∨ ∃ k : Nat, ∃ hk : k < l.length, idxF p l = k ∧ p l[k] = true ∧ ∀ j, (hj : j < l.length) → j < k → p l[j] = false := by
  cases h : l.findIdx? p with
  | none => exact .inl ⟨by unfold idxF; rw [h], fun j hj => List.findIdx?_eq_none_iff.1 h _ (List.getElem_mem hj)⟩
  | some k =>
    obtain ⟨hk, hp, hall⟩ := List.findIdx?_eq_some_iff_getElem.1 h
    exact .inr ⟨k, hk, by unfold idxF; rw [h], hp, fun j hj hjk => by have := hall j hjk; simpa using this⟩
theorem none_snoc {α : Type} {p : α → Bool} {l : List α} {k : Nat} (hk : k < l.length) (h : ∀ j, (hj : j < l.length) → j < k → p l[j] = false) (hp : p l[k] = false) : ∀ j, (hj : j < l.length) → j < k + 1 → p l[j] = false := by
  intro j hj hjk
  by_cases e : j = k
  · subst e; exact hp
  · exact h j hj (by omega)

theorem settleP {G : World → Prop} {E : World} (F : World → Prop) (hE : F E) (h : ∀ W, F W → G W) : G E := h E hE
theorem settleC {P : Program} {f : FuncId} {args : Array Value} {Q : Ending → World → Prop} {E : World} (F : World → Prop) (hE : F E) (h : ∀ W, F W → Calls P f args W Q) : Calls P f args E Q := h E hE
structure DelInv {α : Type} (p : α → Bool) (l m : List α) (i j : Nat) : Prop where
  len : m.length = l.length
  lt : i < j
  le : j ≤ l.length
  low : m.take i = (l.take j).filter fun x => !p x
  high : m.drop j = l.drop j
theorem filter_none {α : Type} {p : α → Bool} {l : List α} (hall : ∀ j, (hj : j < l.length) → p l[j] = false) : (l.filter fun x => !p x) = l := by
  rw [List.filter_eq_self]
  intro x hx
  obtain ⟨j, hj, rfl⟩ := List.getElem_of_mem hx
  rw [hall j hj]; rfl
theorem DelInv.start {α : Type} {p : α → Bool} {l : List α} {k : Nat} (hk : k < l.length) (hp : p l[k] = true) (hall : ∀ j, (hj : j < l.length) → j < k → p l[j] = false) : DelInv p l l k (k + 1) := by
  refine ⟨rfl, Nat.lt_succ_self k, hk, ?_, rfl⟩
  rw [List.take_succ_eq_append_getElem hk, List.filter_append]
  have e1 : ((l.take k).filter fun x => !p x) = l.take k := filter_none fun j hj => by
    rw [List.length_take] at hj
    rw [List.getElem_take]
    exact hall j (by omega) (by omega)
  rw [e1]
  simp [hp]
theorem DelInv.at {α : Type} {p : α → Bool} {l m : List α} {i j : Nat} (h : DelInv p l m i j) (hj : j < l.length) (hj' : j < m.length) : m[j] = l[j] := by
  have e : (m.drop j)[0]? = (l.drop j)[0]? := by rw [h.high]
  rw [List.getElem?_drop, List.getElem?_drop, Nat.add_zero, List.getElem?_eq_getElem hj, List.getElem?_eq_getElem hj'] at e
  exact Option.some.inj e
theorem drop_succ_of {α : Type} {l m : List α} {j : Nat} (h : m.drop j = l.drop j) : m.drop (j + 1) = l.drop (j + 1) := by
  rw [← List.drop_drop, h, List.drop_drop]
theorem DelInv.keep {α : Type} {p : α → Bool} {l m : List α} {i j : Nat} (h : DelInv p l m i j) (hj : j < l.length) (hp : p l[j] = false) : DelInv p l (m.set i l[j]) (i + 1) (j + 1) := by
  have hl := h.len; have hlt := h.lt; have hle := h.le
  refine ⟨by rw [List.length_set]; exact hl, by omega, hj, ?_, ?_⟩
  · rw [List.take_succ_eq_append_getElem hj, List.filter_append, ← h.low, List.take_succ_eq_append_getElem (by rw [List.length_set]; omega), List.getElem_set_self, List.take_set_of_le (Nat.le_refl _)]
    simp [hp]
  · rw [List.drop_set_of_lt (by omega)]
    exact drop_succ_of h.high
theorem DelInv.skip {α : Type} {p : α → Bool} {l m : List α} {i j : Nat} (h : DelInv p l m i j) (hj : j < l.length) (hp : p l[j] = true) : DelInv p l m i (j + 1) := by
  have hlt := h.lt
  refine ⟨h.len, by omega, hj, ?_, drop_succ_of h.high⟩
  rw [List.take_succ_eq_append_getElem hj, List.filter_append, ← h.low]
  simp [hp]
theorem DelInv.done {α : Type} {p : α → Bool} {l m : List α} {i j : Nat} (h : DelInv p l m i j) (hj : ¬ j < l.length) : m.take i = l.filter fun x => !p x := by
  rw [h.low, List.take_of_length_le (by omega)]

theorem Chg.below {fp : List Nat} {B : Nat} {w w' : World} (h : Chg fp w w') (hB : ∀ b ∈ fp, B ≤ b) (hs : B ≤ w.heap.size) : Below B w w' :=
  ⟨h.os, h.tape, h.output, h.size, fun b hb => h.block b (by omega) fun hm => by have := hB b hm; omega⟩
theorem WB.chg {w w' : World} {k : Nat} {cs : Array Value} {fp : List Nat} (h : WB w k cs) (hc : Chg fp w w') (hk : k ∉ fp) : WB w' k cs :=
  ⟨fun o => (World.cell?_of_block (hc.block k h.lt hk)).trans (h.cell o), Nat.lt_of_lt_of_le h.lt hc.size, fun o => (World.frozen?_of_block (hc.block k h.lt hk)).trans (h.free o)⟩
theorem Fresh.ownlt {α : Type} {R : Rep α} {E : TypeId} {B : Nat} {w : World} {v : Value} {l : List α} (h : Fresh (Rep.slice E R) B w [v] l) : ∀ b ∈ v.ownBlock.toList, B ≤ b ∧ b < w.heap.size := by
  obtain ⟨ts, _, _, h3, _, _⟩ := h.owned
  intro b hb
  exact World.ownsRow.lt h3 b (by simpa using hb)

def PredOn {α : Type} (P : Program) (R : Rep α) (g : FuncId) (cap : Array Value) (p : α → Bool) (B : Nat) (w : World) : Prop :=
  ∀ (W : World) (cs : List Value) (x : α), Below B w W → Reads R W cs x → Calls P g (#[.agg cs.toArray] ++ cap) W fun e W' => e = .returned (.bool (p x)) ∧ Below W.heap.size W W'
def Enters (P : Program) (g : FuncId) : Prop := ∀ args w, (callFunc g args).run P w = .ok (.enter g args) w
theorem enters_at {P : Program} {f : FuncId} {fn : Func} {c : Code} (hf : P.funcs[f]? = some fn) (hn : (fn.name == "runtime.NumGoroutine") = false) (hb : fn.body = some c) : Enters P f := by
  intro args w
  have h1 : fn.name ≠ "runtime.NumGoroutine" := by simpa using hn
  simp [callFunc, hf, h1, hb, mark]

section
variable {α : Type} {R : Rep α} {enc : α → List Value} {ok : α → Prop}

theorem FlatR.at (h : FlatR R enc ok) {E : TypeId} {B : Nat} {w : World} {v : Value} {l : List α} (hf : Fresh (Rep.slice E R) B w [v] l) (i : Nat) (hi : i < l.length) :
    ∃ g cap, v = .slice (some ⟨g, 0, none⟩) l.length cap ∧ l.length ≤ cap ∧ cap ≤ maxLen ∧ B ≤ g ∧ g < w.heap.size ∧ (∀ j, j < R.n → w.cell? ⟨g, i * R.n + j, none⟩ = (enc l[i])[j]?) ∧ ∀ j, w.frozen? ⟨g, j, none⟩ = false := by
  obtain ⟨ho, hok⟩ := h.own hf
  have ho' := ho
  rcases ho.2 with ⟨rfl, h0⟩ | ⟨g, cap, cur, rfl, hb, hg, hnc, hcm, hcs, htake⟩
  · omega
  · refine ⟨g, cap, rfl, hnc, hcm, hb, (Array.getElem?_eq_some_iff.1 hg).1, fun j hj => ?_, fun j => World.ownsRow.frozenAt ho' j⟩
    have hlt : i * R.n + j < l.length * R.n := by
      have : (i + 1) * R.n ≤ l.length * R.n := Nat.mul_le_mul_right _ hi
      rw [Nat.add_mul] at this; omega
    rw [World.ownsRow.cellAt ho' _ hlt]
    have hat := cellsOf_at (n := R.n) (l.map fun x => ((enc x, x, []) : El α)) i j (enc l[i], l[i], []) (fun t ht => by
      obtain ⟨x, hx, rfl⟩ := List.mem_map.1 ht
      exact h.len (hok x hx)) (by simp [List.getElem?_eq_getElem hi]) hj
    rw [(els_flat enc l).1] at hat
    rw [← hat]

theorem FlatR.ok_of (h : FlatR R enc ok) {E : TypeId} {B : Nat} {w : World} {v : Value} {l : List α} (hf : Fresh (Rep.slice E R) B w [v] l) : ∀ x ∈ l, ok x := (h.own hf).2

theorem Chg.of_grown {w w' : World} {v : Value} (h : w.grownBy w' v.ownBlock) : Chg v.ownBlock.toList w w' :=
  ⟨h.os, h.tape, h.output, h.size, fun b hb hn => h.block b hb fun e => hn (by rw [← e]; simp)⟩

theorem FlatR.grow2 (h : FlatR R enc ok) {P : Program} (w : World) {ops : Array Oper} {rest : List Oper} {o : Oper} {a : Act} {Q : Exit → Act → World → Prop} (hgd : o.guard = none) (s x : Operand) (t tx : TypeId)
    (ho : o.op = .call { callee := .builtin .append, args := #[s, x], argTypes := #[t, tx] })
    (B : Nat) (e : TypeId) (i : TypeInfo) (z : Value) (bytes : Nat) (ht : P.underlying t = some (.slice e)) {e' : TypeId} (htx : P.underlying tx = some (.slice e')) (hi : P.info? e = some i) (hz : i.zero = some z)
    (hsize : i.size = R.n) (hby : i.bytes = bytes) (hzs : z.cells.size = R.n)
    (v : Value) (l : List α) (hv : a.eval s = v) (hown : Fresh (Rep.slice e R) B w [v] l)
    (sv : Value) (us : List α) (hx : a.eval x = sv) (hr : Reads (Rep.slice e R) w [sv] us)
    (hlen : l.length + us.length ≤ 16777216) (hbytes : bytes ≤ 8388608) (hbase : B ≤ w.heap.size)
    (hgo : ∀ ao cap w', Fresh (Rep.slice e R) B w' [.slice ao (l.length + us.length) cap] (l ++ us) → Chg v.ownBlock.toList w w' → (∀ b ∈ (Value.slice ao (l.length + us.length) cap).ownBlock.toList, b ∈ v.ownBlock.toList ∨ b = w.heap.size) →
      wpList P ops Q rest (a.put o.dst (.slice ao (l.length + us.length) cap)) w') : wpList P ops Q (o :: rest) a w := by
  have hmul : (l.length + us.length) * bytes ≤ 16777216 * 8388608 := Nat.mul_le_mul hlen hbytes
  obtain ⟨ho1, ho2⟩ := h.own hown
  have hge := World.ownsRow.lt ho1
  have hs : Src P R.n tx sv us.length (us.flatMap enc) w := h.src htx hr
  have hok := (h.row hr).2
  obtain ⟨v', w', hrun, h2, h3, h4, ao, cap, rfl⟩ := run_append_src (P := P) w B t tx o.type e i z R.n bytes ht hi hz hsize hby hzs v l.length _ ho1 _ us.length (us.flatMap enc) hs (by omega) (by unfold maxLen; omega) hbase
  refine wpList_plain hgd fun K hK => ?_
  unfold Oper.wp execOp
  simp only [ho, resolve, invoke, builtin, Sem.run_bind, Sem.run_pure, Result.andThen_ok, List.map_toArray, List.map_cons, List.map_nil, hv, hx, hrun]
  refine hK _ _ (hgo ao cap w' (h.fresh (B' := B) (by rw [List.length_append, List.flatMap_append]; exact h2) (fun y hy => (List.mem_append.1 hy).elim (ho2 y) (hok y)) fun b hb => ?_) (Chg.of_grown h3) h4)
  rcases h4 b hb with hb | rfl
  · exact (hge b (by simpa using hb)).1
  · exact hbase

theorem FlatR.one_reads (h : FlatR R enc ok) {E : TypeId} {w : World} {xs : Array Value} {t : TypeId} {u : α} {k : Nat} (hk : k = w.heap.size) (hxs : xs.toList = enc u) (hok : ok u) : Reads (Rep.slice E R) (w.alloc (.cells xs t)) [.slice (some ⟨k, 0, none⟩) 1 1] [u] := by
  subst hk
  have hrd : R.rd false (w.alloc (.cells xs t)) (enc u) u [] := h.rd.2 ⟨rfl, rfl, hok⟩
  refine ⟨_, _, [(enc u, u, [])], rfl, rfl, rfl, fun y hy => ?_, ⟨_, 1, rfl, Nat.le_refl _, by decide, .inr ⟨w.heap.size, 0, rfl, by simp, fun j y hy => ?_⟩⟩, fun h => by cases h⟩
  · simp at hy; subst hy; exact hrd
  · rw [Nat.zero_add]
    refine news_at hxs j y ?_
    simpa [cellsOf] using hy

theorem FlatR.setApart (h : FlatR R enc ok) {E : TypeId} {B : Nat} {w : World} {v : Value} {l : List α} {g o : Nat} {u : Value} (hf : Fresh (Rep.slice E R) B w [v] l) (hg : g ∉ v.ownBlock.toList) : Fresh (Rep.slice E R) B (w.setCell ⟨g, o, none⟩ u) [v] l := by
  obtain ⟨ho, hok⟩ := h.own hf
  have hge := World.ownsRow.lt ho
  exact h.fresh (B' := B) (ownsRow_frame ho fun b hb => Below.heap_setCell _ _ _ _ (fun e => hg (by rw [← show b = g from e]; exact hb))) hok fun b hb => (hge b (by simpa using hb)).1

theorem FlatR.setAt (h : FlatR R enc ok) {E : TypeId} {B : Nat} {w : World} {g cap n : Nat} {l : List α} (hf : Fresh (Rep.slice E R) B w [.slice (some ⟨g, 0, none⟩) n cap] l) (i : Nat) (hi : i < l.length) (o : Nat) (us : List Value) (x : α)
    (hx : enc x = (enc l[i]).take o ++ (us ++ (enc l[i]).drop (o + us.length))) (hfit : o + us.length ≤ R.n) (hok : ok x) :
    Fresh (Rep.slice E R) B (setCells w g (i * R.n + o) us) [.slice (some ⟨g, 0, none⟩) n cap] (l.set i x) := by
  obtain ⟨ao, cc, hv⟩ := hf.slice
  simp only [Value.slice.injEq] at hv
  obtain ⟨_, rfl, _⟩ := hv
  obtain ⟨ho, hoks⟩ := h.own hf
  have hge := World.ownsRow.lt ho
  have hlen : (enc l[i]).length = R.n := h.len (hoks _ (List.getElem_mem hi))
  have hlt : ((l.take i).flatMap enc).length = i * R.n := by
    rw [flatMap_length h _ fun y hy => hoks y (List.mem_of_mem_take hy), List.length_take, Nat.min_eq_left (Nat.le_of_lt hi)]
  have hs := setCells_owns us (i * R.n + o) w _ ho
  have hsplit : l.flatMap enc = ((l.take i).flatMap enc ++ (enc l[i]).take o) ++ ((((enc l[i]).drop o).take us.length) ++ ((enc l[i]).drop (o + us.length) ++ (l.drop (i + 1)).flatMap enc)) := by
    have e1 : l = l.take i ++ (l[i] :: l.drop (i + 1)) := by rw [List.getElem_cons_drop, List.take_append_drop]
    have e2 : enc l[i] = (enc l[i]).take o ++ (((enc l[i]).drop o).take us.length ++ (enc l[i]).drop (o + us.length)) := by
      rw [← List.drop_drop, List.take_append_drop, List.take_append_drop]
    conv => lhs; rw [e1]
    rw [List.flatMap_append, List.flatMap_cons]
    conv => lhs; rw [e2]
    simp only [List.append_assoc]
  have hA : ((l.take i).flatMap enc ++ (enc l[i]).take o).length = i * R.n + o := by rw [List.length_append, hlt, List.length_take, hlen]; omega
  rw [hsplit, ← hA, setL_mid _ _ _ _ (by rw [List.length_take, List.length_drop, hlen]; omega), hA] at hs
  have hset : ((l.take i).flatMap enc ++ (enc l[i]).take o) ++ (us ++ ((enc l[i]).drop (o + us.length) ++ (l.drop (i + 1)).flatMap enc)) = (l.set i x).flatMap enc := by
    rw [List.set_eq_take_append_cons_drop, if_pos hi, List.flatMap_append, List.flatMap_cons, hx]
    simp only [List.append_assoc]
  rw [hset] at hs
  refine h.fresh (B' := B) (by rw [List.length_set]; exact hs) (fun y hy => ?_) fun b hb => (hge b (by simpa using hb)).1
  rcases List.mem_or_eq_of_mem_set hy with hy | rfl
  · exact hoks y hy
  · exact hok

theorem wpList_clear_own {P : Program} (h : FlatR R enc ok) (w : World) {ops : Array Oper} {rest : List Oper} {o : Oper} {a : Act} {Q : Exit → Act → World → Prop} (hgd : o.guard = none) (x : Operand) (t : TypeId)
    (ho : o.op = .call { callee := .builtin .clear, args := #[x], argTypes := #[t] })
    (B : Nat) (e : TypeId) (z : Value) (ht : P.underlying t = some (.slice e)) (hv : ∀ w, (zeroValue e).run P w = .ok z w) (hzs : z.cells.size = R.n) (hz1 : ∀ u ∈ z.cells.toList, u.oneCell' = true)
    (g cap n : Nat) (l : List α) (i : Nat) (hi : i < l.length) (hown : Fresh (Rep.slice e R) B w [.slice (some ⟨g, 0, none⟩) n cap] l)
    (s m c : Nat) (hx : a.eval x = .slice (some ⟨g, s, none⟩) m c) (hs : s = i * R.n) (hm : m = l.length - i)
    (hgo : ∀ w', Fresh (Rep.slice e R) B w' [.slice (some ⟨g, 0, none⟩) i cap] (l.take i) → Chg [g] w w' → wpList P ops Q rest (a.put o.dst (.tuple #[])) w') : wpList P ops Q (o :: rest) a w := by
  obtain ⟨ao, cc, hvv⟩ := hown.slice
  simp only [Value.slice.injEq] at hvv
  obtain ⟨_, rfl, _⟩ := hvv
  obtain ⟨how, hoks⟩ := h.own hown
  rcases how.2 with ⟨h0, _⟩ | ⟨g', cap', cur, hv', hbg, hg, hnc, hcm, hcs, htake⟩
  · simp at h0
  simp only [Value.slice.injEq, Option.some.injEq, Addr.mk.injEq, and_true, true_and] at hv'
  obtain ⟨⟨rfl, _⟩, rfl⟩ := hv'
  subst hs hm
  have hzlen : (Builtin.zeroCells z.cells (l.length - i)).toList.length = (l.length - i) * R.n := by rw [Array.length_toList, size_zeroCells, hzs, Nat.mul_comm]
  have hle : i * R.n + (l.length - i) * R.n = l.length * R.n := by rw [← Nat.add_mul]; congr 1; omega
  have hlc : l.length * R.n ≤ cap * R.n := Nat.mul_le_mul_right _ hnc
  have hst := run_storeCells_at P g (i * R.n) e (Builtin.zeroCells z.cells (l.length - i)).toList 0 cur w hg (by rw [hzlen, hcs]; omega) (by
    intro u hu
    rw [Builtin.zeroCells, Array.toList_map] at hu
    obtain ⟨j, hj, rfl⟩ := List.mem_map.1 hu
    have hj2 : j < (l.length - i) * z.cells.size := by simpa using hj
    have hpos : 0 < z.cells.size := Nat.pos_of_ne_zero fun e0 => by rw [e0] at hj2; simp at hj2
    have hlt := Nat.mod_lt j hpos
    rw [getElem!_pos z.cells _ hlt]
    exact hz1 _ (by simp))
  obtain ⟨m1, hm1⟩ : ∃ m1, l.length - i = m1 + 1 := ⟨l.length - i - 1, by omega⟩
  have hrun : (Builtin.clear_ #[t] o.type #[.slice (some ⟨g, i * R.n, none⟩) (l.length - i) c]).run P w = .ok (.tuple #[]) (w.setRow g (cur.toList.take (i * R.n) ++ (Builtin.zeroCells z.cells (l.length - i)).toList ++ cur.toList.drop (i * R.n + (l.length - i) * R.n)).toArray) := by
    rw [hzlen, Nat.add_zero] at hst
    rw [hm1] at hst ⊢
    simp [Builtin.clear_, run_underlying ht, hv, hst]
  refine wpList_plain hgd fun K hK => ?_
  unfold Oper.wp execOp
  simp only [ho, resolve, invoke, builtin, Sem.run_bind, Sem.run_pure, Result.andThen_ok, List.map_toArray, List.map_cons, List.map_nil, hx, hrun]
  refine hK _ _ (hgo _ ?_ ?_)
  · have hfl : ((l.take i).flatMap enc).length = i * R.n := by rw [flatMap_length h _ fun y hy => hoks y (List.mem_of_mem_take hy), List.length_take, Nat.min_eq_left (Nat.le_of_lt hi)]
    refine h.fresh (B' := B) ⟨by rw [hfl, List.length_take, Nat.min_eq_left (Nat.le_of_lt hi)], .inr ⟨g, cap, _, ?_, hbg, setRow_heap w g cur _ e _ hg, ?_, hcm, ?_, ?_⟩⟩ (fun y hy => hoks y (List.mem_of_mem_take hy)) (by simp [Value.ownBlock]; exact hbg)
    · rw [List.length_take, Nat.min_eq_left (Nat.le_of_lt hi)]
    · rw [List.length_take]; omega
    · simp only [List.size_toArray, List.length_append, List.length_take, List.length_drop, Array.length_toList, hzlen, hcs]
      omega
    · have e0 : (cur.toList.take (i * R.n)) = (l.take i).flatMap enc := by
        have e1 : cur.toList.take (i * R.n) = (cur.toList.take (l.length * R.n)).take (i * R.n) := by rw [List.take_take]; congr 1; omega
        rw [e1, htake]
        conv => lhs; rw [← List.take_append_drop i l, List.flatMap_append]
        rw [← hfl, List.take_left]
      rw [List.length_take, Nat.min_eq_left (Nat.le_of_lt hi), List.append_assoc, List.take_append_of_le_length (by rw [List.length_take, Array.length_toList, hcs]; omega), List.take_take, Nat.min_self, e0]
  · exact ⟨rfl, rfl, rfl, by simp [World.setRow], fun k _ hn => setRow_other w g k _ (fun e => hn (by simp [e]))⟩
end

end Go.Proofs.YtlfebehpmefioaaGreat

/-
  Variables' blocks: many cells stored at once. No function of the program is named here.
-/
namespace Go.Proofs.YtlfebehpmefioaaGreat
open Go.RowKit

def setA (cs : Array Value) : Nat → List Value → Array Value
  | _, [] => cs
  | i, u :: us => setA (cs.setIfInBounds i u) (i + 1) us
theorem WB.sets {k : Nat} : ∀ (us : List Value) (i : Nat) (w : World) (cs : Array Value), WB w k cs → i + us.length ≤ cs.size → WB (setCells w k i us) k (setA cs i us)
  | [], _, _, _, h, _ => h
  | u :: us, i, w, cs, h, hl => by
    simp only [List.length_cons] at hl
    exact WB.sets us (i + 1) (w.setCell ⟨k, i, none⟩ u) (cs.setIfInBounds i u) (h.setAt (by omega) rfl) (by rw [Array.size_setIfInBounds]; omega)
theorem WB.set3 {w : World} {k : Nat} {a b c a' b' c' : Value} (h : WB w k #[a, b, c]) : WB (((w.setCell ⟨k, 0, none⟩ a').setCell ⟨k, 1, none⟩ b').setCell ⟨k, 2, none⟩ c') k #[a', b', c'] :=
  WB.sets [a', b', c'] 0 w _ h (by simp)
theorem chgD {fp : List Nat} {a w : World} (h : Chg fp a w) : Chg fp a w.drew := ⟨h.os, h.tape, h.output, h.size, h.block⟩
theorem chgA {fp : List Nat} {a w : World} {o : Obj} (h : Chg fp a w) : Chg fp a (w.alloc o) := h.trans (Chg.of_below (B := w.heap.size) (belA belR) (Nat.le_refl _))

end Go.Proofs.YtlfebehpmefioaaGreat

/-
  What a region that draws leaves: boxes and what a call handed back, apart. No function of the program is named here.
-/
namespace Go.Proofs.YtlfebehpmefioaaGreat
open Go.RowKit

theorem WB.box {w : World} {k : Nat} {cs : Array Value} (h : WB w k cs) : Box w k cs := ⟨h.cell, h.lt⟩
end Go.Proofs.YtlfebehpmefioaaGreat

/-
  A region that draws its order, whose operations read old memory and whose callees hand back a value that no order turns and only lay new blocks: walked once, in the order of the text. No function of the program is named here.
-/
namespace Go.Proofs.YtlfebehpmefioaaGreat
open Go.RowKit

def rg (w : World) (p : Regrown) : World := Go.Sort.grow (redrawn w p.d) p.os
theorem rg_below (w : World) (p : Regrown) : Below w.heap.size w (rg w p) := below_regrown w p.d p.os
theorem rg_of {w w' : World} (h : Below w.heap.size w w') : ∃ p : Regrown, w' = rg w p := regrown_of_below h
theorem rg_of' {w w' : World} {p : Regrown} (h : Below (rg w p).heap.size (rg w p) w') : ∃ p : Regrown, w' = rg w p :=
  rg_of ((rg_below w p).trans (h.mono (rg_below w p).size))
theorem rg_cell {w : World} {a : Addr} {v : Value} (h : w.cell? a = some v) : ∀ p, (rg w p).cell? a = some v := fun p => by
  rw [(rg_below w p).cell (block_lt_of_cell h)]; exact h
theorem rg_var {w : World} {k : Nat} {cs : Array Value} (h : WB w k cs) : ∀ p o, (rg w p).cell? ⟨k, o, none⟩ = cs[o]? := fun p o => (h.keep (rg_below w p)).cell o
attribute [irreducible] rg
theorem wp_region_rg {P : Program} {id : Nat} {Q : Exit → Act → World → Prop} {a : Act} {w : World} {l : List Oper} (hm : P.follows .mixedOrders = true) (hB : Region.lexB .any l.toArray = true)
    (h : wpQuiet P l.toArray (fun w' => ∃ p : Regrown, w' = rg w p) (fun a' => ∀ w', (∃ p : Regrown, w' = rg w p) → Q .normal a' w') l a) : (Code.region id l.toArray true).wp P Q a w := by
  refine wp_region_quiet (C := fun w' => ∃ p : Regrown, w' = rg w p) hm hB (rg_of ⟨rfl, rfl, rfl, Nat.le_refl _, fun _ _ => rfl⟩) (by simpa using h)
theorem calls_rg {P : Program} {f : FuncId} {args : Array Value} {w : World} {p : Regrown} {v : Value}
    (h : Calls P f args (rg w p) fun e w' => e = .returned v ∧ Below (rg w p).heap.size (rg w p) w') : Calls P f args (rg w p) fun e w'' => e = .returned v ∧ ∃ p : Regrown, w'' = rg w p :=
  h.mono fun _ _ ⟨he, hb⟩ => ⟨he, rg_of' hb⟩
theorem calls_rgSame {P : Program} {f : FuncId} {args : Array Value} {w : World} {p : Regrown} {v : Value}
    (h : Calls P f args (rg w p) fun e w' => e = .returned v ∧ rg w p = w') : Calls P f args (rg w p) fun e w'' => e = .returned v ∧ ∃ p : Regrown, w'' = rg w p :=
  h.mono fun _ _ ⟨he, hb⟩ => ⟨he, p, hb.symm⟩

end Go.Proofs.YtlfebehpmefioaaGreat

/-
  s[k:], s[:k] of a slice that reads. No function of the program is named here.
-/
namespace Go.Proofs.YtlfebehpmefioaaGreat
open Go.RowKit

def tailV (ao : Option Addr) (k len cap s : Nat) : Value := sliced ao k len cap s
theorem tailV_eq (ao : Option Addr) (k len cap s : Nat) : ∃ a c, tailV ao k len cap s = .slice a (len - k) c := ⟨_, _, rfl⟩
theorem run_tail {P : Program} {t : TypeId} {n : Nat} (ht : P.underlying t = some (.slice (P.elem t))) (hs : ∀ w, (sizeOf (P.elem t)).run P w = .ok n w) (ao : Option Addr) (k len cap : Nat) (hk : k ≤ len) (w : World) :
    (Instr.slice t (.slice ao len cap) (some (.int .i64 (k : Int))) none none).run P w = .ok (tailV ao k len cap n) w := by
  rw [run_slice_l w t ao len cap ht .i64 k (by omega) (by omega), hs]
  rfl
attribute [irreducible] tailV

theorem cellsOf_drop {α : Type} {n : Nat} : ∀ (ts : List (El α)) (k : Nat), (∀ t ∈ ts, t.1.length = n) → cellsOf (ts.drop k) = (cellsOf ts).drop (k * n)
  | ts, 0, _ => by simp
  | [], k + 1, _ => by simp [cellsOf]
  | t :: ts, k + 1, h => by
    have h1 := h t (by simp)
    have e : cellsOf (t :: ts) = t.1 ++ cellsOf ts := by simp [cellsOf]
    have e1 : t.1.drop ((k + 1) * n) = [] := List.drop_of_length_le (by rw [h1, Nat.add_mul]; omega)
    have e2 : (k + 1) * n - n = k * n := by rw [Nat.add_mul]; omega
    rw [List.drop_succ_cons, cellsOf_drop ts k fun u hu => h u (by simp [hu]), e, List.drop_append, h1, e1, e2, List.nil_append]
theorem vals_drop {α : Type} (ts : List (El α)) (k : Nat) : vals (ts.drop k) = (vals ts).drop k := by simp [vals, List.map_drop]

theorem Reads.tail {α : Type} {E : TypeId} {R : Rep α} {w : World} {ao : Option Addr} {len cap : Nat} {l : List α} (h : Reads (Rep.slice E R) w [.slice ao len cap] l) (k : Nat) (hk : k ≤ len) :
    Reads (Rep.slice E R) w [tailV ao k len cap R.n] (l.drop k) := by
  obtain ⟨fp, v, ts, hv, rfl, rfl, h1, h2, _⟩ := h
  simp only [List.cons.injEq, and_true] at hv
  subst hv
  obtain ⟨ao', cap', hv, hc1, hc2, hrow⟩ := h2
  simp only [Value.slice.injEq] at hv
  obtain ⟨rfl, rfl, rfl⟩ := hv
  refine ⟨_, _, ts.drop k, rfl, (vals_drop ts k).symm, rfl, fun t ht => h1 t (List.mem_of_mem_drop ht), ?_, fun ho => by cases ho⟩
  unfold tailV sliced
  refine ⟨_, _, by rw [List.length_drop], by rw [List.length_drop]; omega, by omega, ?_⟩
  by_cases h0 : (ts.drop k).length = 0
  · exact .inl h0
  · rw [List.length_drop] at h0
    rcases hrow with h3 | ⟨b, off, rfl, hb, hcell⟩
    · omega
    · rw [if_neg (by omega)]
      refine .inr ⟨b, off + k * R.n, by rw [Option.map_some, Addr.add_lit], hb, fun j u hu => ?_⟩
      rw [cellsOf_drop (n := R.n) ts k fun t ht => R.len (h1 t ht), List.getElem?_drop] at hu
      rw [Nat.add_assoc]
      exact hcell _ _ hu

end Go.Proofs.YtlfebehpmefioaaGreat

/-
  append in a region that draws its order, told by the blocks that it may have changed; s[:k] of a slice that reads. No function of the program is named here.
-/
namespace Go.Proofs.YtlfebehpmefioaaGreat
open Go.RowKit

theorem Reads.pre {α : Type} {E : TypeId} {R : Rep α} {w : World} {ao : Option Addr} {len cap : Nat} {l : List α} (h : Reads (Rep.slice E R) w [.slice ao len cap] l) (k : Nat) (hk : k ≤ len) :
    Reads (Rep.slice E R) w [.slice ao k cap] (l.take k) := by
  obtain ⟨fp, v, ts, hv, rfl, rfl, h1, h2, _⟩ := h
  simp only [List.cons.injEq, and_true] at hv
  subst hv
  obtain ⟨ao', cap', hv, hc1, hc2, hrow⟩ := h2
  simp only [Value.slice.injEq] at hv
  obtain ⟨rfl, rfl, rfl⟩ := hv
  have hkl : (ts.take k).length = k := by rw [List.length_take]; omega
  refine ⟨_, _, ts.take k, rfl, by simp [vals, List.map_take], rfl, fun t ht => h1 t (List.mem_of_mem_take ht), ?_, fun ho => by cases ho⟩
  refine ⟨_, _, by rw [hkl], by omega, by omega, ?_⟩
  by_cases h0 : (ts.take k).length = 0
  · exact .inl h0
  · rcases hrow with h3 | ⟨b, off, rfl, hb, hcell⟩
    · omega
    · refine .inr ⟨b, off, rfl, hb, fun j u hu => hcell j u ?_⟩
      have e : cellsOf ts = cellsOf (ts.take k) ++ cellsOf (ts.drop k) := by
        unfold cellsOf
        rw [← List.flatMap_append, List.take_append_drop]
      rw [e, List.getElem?_append_left (List.getElem?_eq_some_iff.1 hu).1]
      exact hu

section
variable {α : Type} {R : Rep α} {enc : α → List Value} {ok : α → Prop}

theorem FlatR.reads_chg (h : FlatR R enc ok) {E : TypeId} {w w' : World} {k o n c : Nat} {l : List α} {fq : List Nat} (hr : Reads (Rep.slice E R) w [.slice (some ⟨k, o, none⟩) n c] l) (hc : Chg fq w w') (hk : k ∉ fq) : Reads (Rep.slice E R) w' [.slice (some ⟨k, o, none⟩) n c] l := by
  obtain ⟨fp, hr⟩ := hr
  have hlt := (Rep.slice E R).lt hr
  refine ⟨fp, (Rep.slice E R).frame hr fun b hb => ?_⟩
  have hb' := hb
  obtain ⟨v, ts, hv, rfl, rfl, h1, _, _⟩ := hr
  simp only [List.cons.injEq, and_true] at hv
  subst hv
  obtain ⟨_, hf, _⟩ := cells_flat h ts h1
  rw [hf, List.append_nil] at hb
  unfold head at hb
  split at hb
  · simp [Value.ownBlock] at hb
    subst hb
    exact hc.block b (hlt b hb') hk
  · simp at hb

theorem FlatR.step_growC (h : FlatR R enc ok) {P : Program} (w : World) {ops : Array Oper} {o : Oper} {a : Act} {K : Act → World → Prop} {Q : Exit → Act → World → Prop} {X : Prop} (hgd : o.guard = none) (s x : Operand) (t tx : TypeId)
    (ho : o.op = .call { callee := .builtin .append, args := #[s, x], argTypes := #[t, tx] })
    (B : Nat) (e : TypeId) (i : TypeInfo) (z : Value) (bytes : Nat) (ht : P.underlying t = some (.slice e)) {e' : TypeId} (htx : P.underlying tx = some (.slice e')) (hi : P.info? e = some i) (hz : i.zero = some z)
    (hsize : i.size = R.n) (hby : i.bytes = bytes) (hzs : z.cells.size = R.n)
    (v : Value) (l : List α) (hv : a.eval s = v) (hown : Fresh (Rep.slice e R) B w [v] l)
    (sv : Value) (us : List α) (hx : a.eval x = sv) (hr : Reads (Rep.slice e R) w [sv] us)
    (m : Nat) (hm : l.length + us.length = m) (hlen : m ≤ 16777216) (hbytes : bytes ≤ 8388608) (hbase : B ≤ w.heap.size)
    (hgo : ∀ ao cap w', Fresh (Rep.slice e R) B w' [.slice ao m cap] (l ++ us) → Chg v.ownBlock.toList w w' → Below B w w' →
      K (a.put o.dst (.slice ao m cap)) w') : if Region.wanted o (yielded ops a.tmps) = true then Oper.wp P o a w K Q else X := by
  subst hm
  have hw : Region.wanted o (yielded ops a.tmps) = true := by simp [Region.wanted, hgd]
  rw [if_pos hw]
  have hmul : (l.length + us.length) * bytes ≤ 16777216 * 8388608 := Nat.mul_le_mul hlen hbytes
  obtain ⟨ho1, ho2⟩ := h.own hown
  have hge := World.ownsRow.lt ho1
  have hs : Src P R.n tx sv us.length (us.flatMap enc) w := h.src htx hr
  have hok := (h.row hr).2
  obtain ⟨v', w', hrun, h2, h3, h4, ao, cap, rfl⟩ := run_append_src (P := P) w B t tx o.type e i z R.n bytes ht hi hz hsize hby hzs v l.length _ ho1 _ us.length (us.flatMap enc) hs (by omega) (by unfold maxLen; omega) hbase
  unfold Oper.wp execOp
  simp only [ho, resolve, invoke, builtin, Sem.run_bind, Sem.run_pure, Result.andThen_ok, List.map_toArray, List.map_cons, List.map_nil, hv, hx, hrun]
  refine hgo ao cap w' (h.fresh (B' := B) (by rw [List.length_append, List.flatMap_append]; exact h2) (fun y hy => (List.mem_append.1 hy).elim (ho2 y) (hok y)) fun b hb => ?_) (Chg.of_grown h3) (grow_below h3 (fun b hb => (hge b (by simpa using hb)).1) hbase)
  rcases h4 b hb with hb | rfl
  · exact (hge b (by simpa using hb)).1
  · exact hbase
end

end Go.Proofs.YtlfebehpmefioaaGreat

/-
  Bounds on the counts of marks. No function of the program is named here.
-/
namespace Go.Proofs.YtlfebehpmefioaaGreat
open Go.RowKit

end Go.Proofs.YtlfebehpmefioaaGreat
