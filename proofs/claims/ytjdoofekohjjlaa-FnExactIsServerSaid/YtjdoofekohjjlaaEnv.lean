/-
  What a law's walk keeps: the arguments, the results of earlier calls and the boxes, through each later call.
-/
import Derived.Test.YtjdoofekohjjlaaMarks
namespace Go.Proofs.Ytjdoofekohjjlaa
open Go.RowKit

/-- A datum whose blocks lie below n. -/
def Low {α : Type} (R : Rep α) (n : Nat) (w : World) (cs : List Value) (x : α) : Prop := ∃ fp, R.rd false w cs x fp ∧ ∀ b ∈ fp, b < n
theorem Low.start {α : Type} {R : Rep α} {w : World} {cs : List Value} {x : α} (h : Reads R w cs x) : Low R w.heap.size w cs x := by
  obtain ⟨fp, h⟩ := h
  exact ⟨fp, h, R.lt h⟩
theorem Low.reads {α : Type} {R : Rep α} {n : Nat} {w : World} {cs : List Value} {x : α} (h : Low R n w cs x) : Reads R w cs x := by
  obtain ⟨fp, h, _⟩ := h
  exact ⟨fp, h⟩
theorem Low.below {α : Type} {R : Rep α} {n : Nat} {w w' : World} {cs : List Value} {x : α} (h : Low R n w cs x) (hb : Below w.heap.size w w') : Low R n w' cs x := by
  obtain ⟨fp, h, h2⟩ := h
  exact ⟨fp, R.frame h fun b hb' => hb.block b (R.lt h b hb'), h2⟩
theorem Low.chg {α : Type} {R : Rep α} {n lo hi : Nat} {w w' : World} {cs : List Value} {x : α} {fq : List Nat} (h : Low R n w cs x) (hc : Chg fq w w') (hq : ∀ b ∈ fq, lo ≤ b ∧ b < hi) (hn : n ≤ lo) : Low R n w' cs x := by
  obtain ⟨fp, h, h2⟩ := h
  exact ⟨fp, hc.keeps h fun b hb hb' => by have := h2 b hb; have := (hq b hb').1; omega, h2⟩
theorem Part.below {α : Type} {R : Rep α} {lo hi : Nat} {w w' : World} {cs : List Value} {x : α} (h : Part R lo hi w cs x) (hb : Below w.heap.size w w') : Part R lo hi w' cs x := by
  obtain ⟨fp, h, h2⟩ := h
  exact ⟨fp, R.frame h fun b hb' => hb.block b (R.lt h b hb'), h2⟩
theorem Part.reads {α : Type} {R : Rep α} {lo hi : Nat} {w : World} {cs : List Value} {x : α} (h : Part R lo hi w cs x) : Reads R w cs x := by
  obtain ⟨fp, h, _⟩ := h
  obtain ⟨fq, h, _⟩ := R.weak h
  exact ⟨fq, h⟩
theorem Part.chg {α : Type} {R : Rep α} {lo hi lo' hi' : Nat} {w w' : World} {cs : List Value} {x : α} {fq : List Nat} (h : Part R lo hi w cs x) (hc : Chg fq w w') (hq : ∀ b ∈ fq, lo' ≤ b ∧ b < hi') (hn : hi ≤ lo' ∨ hi' ≤ lo) : Part R lo hi w' cs x := by
  obtain ⟨fp, h, h2, h3⟩ := h
  exact ⟨fp, hc.keeps h fun b hb hb' => by have := h3 b hb; have := hq b hb'; omega, h2, h3⟩
theorem Fresh.partAt {α : Type} {R : Rep α} {B lo : Nat} {w : World} {cs : List Value} {x : α} (h : Fresh R B w cs x) (hl : lo ≤ B) : Part R lo w.heap.size w cs x := by
  obtain ⟨fp, h1, h2, h3⟩ := h
  exact ⟨fp, h1, h2, fun b hb => ⟨Nat.le_trans hl (h3 b hb), R.lt h1 b hb⟩⟩
theorem Part.mk' {α : Type} {R : Rep α} {lo hi : Nat} {w : World} {cs : List Value} {x : α} {fp : List Nat} (h : R.rd true w cs x fp) (h2 : fp.Nodup) (h3 : ∀ b ∈ fp, lo ≤ b ∧ b < hi) : Part R lo hi w cs x := ⟨fp, h, h2, h3⟩

/-- The cells of the object laid at block k. -/
def Box (w : World) (k : Nat) (cs : Array Value) : Prop := (∀ o, w.cell? ⟨k, o, none⟩ = cs[o]?) ∧ k < w.heap.size
theorem Box.below {w w' : World} {k : Nat} {cs : Array Value} (h : Box w k cs) (hb : Below w.heap.size w w') : Box w' k cs :=
  ⟨fun o => (hb.cell (p := ⟨k, o, none⟩) h.2).trans (h.1 o), Nat.lt_of_lt_of_le h.2 hb.size⟩
theorem Box.chg {w w' : World} {k lo hi : Nat} {cs : Array Value} {fq : List Nat} (h : Box w k cs) (hc : Chg fq w w') (hq : ∀ b ∈ fq, lo ≤ b ∧ b < hi) (hn : k < lo ∨ hi ≤ k) : Box w' k cs :=
  ⟨fun o => (World.cell?_of_block (hc.block k h.2 fun hb => by have := hq k hb; omega)).trans (h.1 o), Nat.lt_of_lt_of_le h.2 hc.size⟩
theorem Box.alloc {w : World} {cs : Array Value} {t : TypeId} : Box (w.alloc (.cells cs t)) w.heap.size cs :=
  ⟨fun o => by simp [go_sem], by simp⟩
theorem Box.at {w : World} {k : Nat} {cs : Array Value} {t : TypeId} (hk : k = w.heap.size) : Box (w.alloc (.cells cs t)) k cs := by subst hk; exact Box.alloc
theorem Box.growA {a : World} {k : Nat} {cs : Array Value} {ob : Obj} (h : Box a k cs) : Box (a.alloc ob) k cs := h.below (Below.refl _ _ |>.alloc (Nat.le_refl _) ob)
theorem Below.chg {B lo hi : Nat} {w W W' : World} {fq : List Nat} (h : Below B w W) (hc : Chg fq W W') (hq : ∀ b ∈ fq, lo ≤ b ∧ b < hi) (hB : B ≤ lo) (hw : B ≤ W.heap.size) : Below B w W' :=
  ⟨hc.os.trans h.os, hc.tape.trans h.tape, hc.output.trans h.output, Nat.le_trans h.size hc.size, fun b hb => (hc.block b (by omega) fun hx => by have := hq b hx; omega).trans (h.block b hb)⟩

/-- What a call has handed back, and that lies between two block numbers. -/
structure Own {α : Type} (R : Rep α) (lo hi : Nat) (w : World) (cs : List Value) (x : α) (fp : List Nat) : Prop where
  rd : R.rd true w cs x fp
  nodup : fp.Nodup
  ivl : ∀ b ∈ fp, lo ≤ b ∧ b < hi
theorem Own.below {α : Type} {R : Rep α} {lo hi : Nat} {w w' : World} {cs : List Value} {x : α} {fp : List Nat} (h : Own R lo hi w cs x fp) (hb : Below w.heap.size w w') : Own R lo hi w' cs x fp :=
  ⟨R.frame h.rd fun b hb' => hb.block b (R.lt h.rd b hb'), h.nodup, h.ivl⟩
theorem Own.reads {α : Type} {R : Rep α} {lo hi : Nat} {w : World} {cs : List Value} {x : α} {fp : List Nat} (h : Own R lo hi w cs x fp) : Reads R w cs x := by
  obtain ⟨fq, h, _⟩ := R.weak h.rd
  exact ⟨fq, h⟩
theorem Own.chg {α : Type} {R : Rep α} {lo hi : Nat} {w w' : World} {cs : List Value} {x : α} {fp fq : List Nat} (h : Own R lo hi w cs x fp) (hc : Chg fq w w') (hd : ∀ b ∈ fp, b ∉ fq) : Own R lo hi w' cs x fp :=
  ⟨hc.keeps h.rd hd, h.nodup, h.ivl⟩
theorem Own.apart {α β : Type} {R : Rep α} {S : Rep β} {lo hi lo' hi' : Nat} {w w' : World} {cs ds : List Value} {x : α} {y : β} {fp fq : List Nat} (h : Own R lo hi w cs x fp) (k : Own S lo' hi' w' ds y fq) (hn : hi ≤ lo' ∨ hi' ≤ lo) : ∀ b ∈ fp, b ∉ fq :=
  fun b hb hb' => by have := h.ivl b hb; have := k.ivl b hb'; omega
theorem Fresh.own {α : Type} {R : Rep α} {B lo : Nat} {w : World} {cs : List Value} {x : α} (h : Fresh R B w cs x) (hl : lo ≤ B) : ∃ fp, Own R lo w.heap.size w cs x fp := by
  obtain ⟨fp, h1, h2, h3⟩ := h
  exact ⟨fp, h1, h2, fun b hb => ⟨Nat.le_trans hl (h3 b hb), R.lt h1 b hb⟩⟩
/-- Two results that share no memory. -/
def Fresh2 {α β : Type} (R : Rep α) (S : Rep β) (B : Nat) (w : World) (cs ds : List Value) (x : α) (y : β) : Prop :=
  ∃ f g, R.rd true w cs x f ∧ S.rd true w ds y g ∧ f.Nodup ∧ g.Nodup ∧ (∀ b ∈ f, b ∉ g) ∧ (∀ b ∈ f, B ≤ b) ∧ ∀ b ∈ g, B ≤ b
theorem Fresh2.left {α β : Type} {R : Rep α} {S : Rep β} {B : Nat} {w : World} {cs ds : List Value} {x : α} {y : β} (h : Fresh2 R S B w cs ds x y) : Fresh R B w cs x := by
  obtain ⟨f, g, h1, _, h3, _, _, h6, _⟩ := h
  exact ⟨f, h1, h3, h6⟩
theorem Fresh2.right {α β : Type} {R : Rep α} {S : Rep β} {B : Nat} {w : World} {cs ds : List Value} {x : α} {y : β} (h : Fresh2 R S B w cs ds x y) : Fresh S B w ds y := by
  obtain ⟨f, g, _, h2, _, h4, _, _, h7⟩ := h
  exact ⟨g, h2, h4, h7⟩
theorem Fresh2.own {α β : Type} {R : Rep α} {S : Rep β} {B lo : Nat} {w : World} {cs ds : List Value} {x : α} {y : β} (h : Fresh2 R S B w cs ds x y) (hl : lo ≤ B) :
    ∃ f g, Own R lo w.heap.size w cs x f ∧ Own S lo w.heap.size w ds y g ∧ ∀ b ∈ f, b ∉ g := by
  obtain ⟨f, g, h1, h2, h3, h4, h5, h6, h7⟩ := h
  exact ⟨f, g, ⟨h1, h3, fun b hb => ⟨Nat.le_trans hl (h6 b hb), R.lt h1 b hb⟩⟩, ⟨h2, h4, fun b hb => ⟨Nat.le_trans hl (h7 b hb), S.lt h2 b hb⟩⟩, h5⟩
/-- What reads, however it came. -/
structure Rds {α : Type} (R : Rep α) (w : World) (cs : List Value) (x : α) : Prop where
  reads : Reads R w cs x
theorem Rds.below {α : Type} {R : Rep α} {w w' : World} {cs : List Value} {x : α} (h : Rds R w cs x) (hb : Below w.heap.size w w') : Rds R w' cs x := ⟨h.reads.below hb⟩
theorem Fresh.reads' {α : Type} {R : Rep α} {B : Nat} {w : World} {cs : List Value} {x : α} (h : Fresh R B w cs x) : Rds R w cs x := ⟨h.reads⟩
/-- The world at hand gets a name; only what F says of it is kept. -/
theorem settle {P : Program} {c : Code} {Q : Exit → Act → World → Prop} {a : Act} {E : World} (F : World → Prop) (hE : F E) (h : ∀ W, F W → c.wp P Q a W) : c.wp P Q a E := h E hE

end Go.Proofs.Ytjdoofekohjjlaa
