/-
  The class of worlds in which a cursor has moved and new blocks have been laid: for a drawn region whose calls move the cursor.
-/
import Derived.Test.YteajhmpppciicaaCur
import Derived.Test.YteajhmpppciicaaOrd
namespace Go.Proofs.Yteajhmpppciicaa
open Go.RowKit

structure Moved (k : Kur) (w : World) where
  w' : World
  ok : Mov k w w'
def mv {k : Kur} {w : World} (p : Moved k w) : World := p.w'
theorem mv_mov {k : Kur} {w : World} (p : Moved k w) : Mov k w (mv p) := p.ok
theorem mv_of {k : Kur} {w w' : World} (h : Mov k w w') : ∃ p : Moved k w, w' = mv p := ⟨⟨w', h⟩, rfl⟩
theorem mv_var {k : Kur} {w : World} {j : Nat} {cs : Array Value} (h : WB w j cs) (hj : j ≠ k.k) : ∀ (p : Moved k w) o, (mv p).cell? ⟨j, o, none⟩ = cs[o]? := fun p o => (h.mov (mv_mov p) hj).cell o
attribute [irreducible] mv

theorem wp_region_mv {P : Program} {Q : Exit → Act → World → Prop} {l : List Oper} {id : Nat} {a : Act} {w : World} (k : Kur) (M : List Nat) (hm : P.follows .mixedOrders = true)
    (h : ∀ wd, Below w.heap.size w wd → wpU P l.toArray (NoPanic Q) (fun w' => ∃ p : Moved k wd, w' = mv p) M [] a wd) : (Code.region id l.toArray true).wp P Q a w := wp_region_u M (fun wd w' => ∃ p : Moved k wd, w' = mv p) hm h

/-- .. and blocks of fp may have been written. -/
def MovF (k : Kur) (fp : List Nat) (w w' : World) : Prop := Chg (k.k :: fp) w w' ∧ Cur w' k
theorem MovF.of {k : Kur} {fp : List Nat} {w w' : World} (h : Mov k w w') : MovF k fp w w' := ⟨⟨h.1.os, h.1.tape, h.1.output, h.1.size, fun i hi hn => h.1.block i hi (fun hm => hn (by simp at hm; simp [hm]))⟩, h.2⟩
theorem Cur.chg {w w' : World} {k : Kur} {fp : List Nat} (h : Cur w k) (hc : Chg fp w w') (hf : ∀ b ∈ fp, k.k < b) : Cur w' k := by
  obtain ⟨v, l, i, hh, hw, ⟨fq, hr, hq⟩, hi⟩ := h
  exact ⟨v, l, i, hh, hw.chg hc (fun hm => Nat.lt_irrefl _ (hf _ hm)), ⟨fq, Rep.frame _ hr fun b hb => hc.block b (Rep.lt _ hr b hb) (fun hm => by have h1 := hq b hb; have h2 := hi.2; have h3 := hf b hm; omega), hq⟩, hi⟩
theorem MovF.chg {k : Kur} {fp : List Nat} {w w1 w2 : World} (h : MovF k fp w w1) (h2 : Chg fp w1 w2) (hf : ∀ b ∈ fp, k.k < b) : MovF k fp w w2 :=
  ⟨h.1.trans ⟨h2.os, h2.tape, h2.output, h2.size, fun i hi hn => h2.block i hi (fun hm => hn (by simp [hm]))⟩, h.2.chg h2 hf⟩
theorem MovF.trans {k : Kur} {fp : List Nat} {w w1 w2 : World} (h : MovF k fp w w1) (h2 : Mov k w1 w2) : MovF k fp w w2 := ⟨h.1.trans (MovF.of h2).1, h2.2⟩
theorem MovF.below {k : Kur} {fp : List Nat} {w w1 w2 : World} (h : MovF k fp w w1) (h2 : Below w1.heap.size w1 w2) : MovF k fp w w2 := ⟨h.1.trans (Chg.of_below h2 (Nat.le_refl _)), h.2.below h2⟩
theorem MovF.low {k : Kur} {fp : List Nat} {w w1 w2 : World} (h : MovF k fp w1 w2) (h0 : Mov k w w1) (hf : ∀ b ∈ fp, w.heap.size ≤ b) : Mov k w w2 :=
  ⟨⟨h.1.os.trans h0.1.os, h.1.tape.trans h0.1.tape, h.1.output.trans h0.1.output, Nat.le_trans h0.1.size h.1.size, fun i hi hn => (h.1.block i (Nat.lt_of_lt_of_le hi h0.1.size) (fun hm => by simp at hm hn; rcases hm with hm | hm; exact hn hm; have := hf i hm; omega)).trans (h0.1.block i hi hn)⟩, h.2⟩
theorem MovF.set {k : Kur} {fp : List Nat} {w w1 : World} {b o : Nat} {u : Value} (h : MovF k fp w w1) (hb : b ∈ fp) (h1 : k.b ≤ b) (h2 : k.k ≠ b) : MovF k fp w (w1.setCell ⟨b, o, none⟩ u) := ⟨Chg.set (by simp [hb]) h.1, h.2.set h1 h2⟩
structure MovedF (k : Kur) (fp : List Nat) (w : World) where
  w' : World
  ok : MovF k fp w w'
def mvf {k : Kur} {fp : List Nat} {w : World} (p : MovedF k fp w) : World := p.w'
theorem mvf_ok {k : Kur} {fp : List Nat} {w : World} (p : MovedF k fp w) : MovF k fp w (mvf p) := p.ok
theorem mvf_of {k : Kur} {fp : List Nat} {w w' : World} (h : MovF k fp w w') : ∃ p : MovedF k fp w, w' = mvf p := ⟨⟨w', h⟩, rfl⟩
theorem mvf_var {k : Kur} {fp : List Nat} {w : World} {j : Nat} {cs : Array Value} (h : WB w j cs) (hj : j ≠ k.k) (hj2 : j ∉ fp) : ∀ (p : MovedF k fp w) o, (mvf p).cell? ⟨j, o, none⟩ = cs[o]? := fun p o => (h.chg (mvf_ok p).1 (by simp [hj, hj2])).cell o
attribute [irreducible] mvf
theorem wp_region_mvf {P : Program} {Q : Exit → Act → World → Prop} {l : List Oper} {id : Nat} {a : Act} {w : World} (k : Kur) (fp : List Nat) (M : List Nat) (hm : P.follows .mixedOrders = true)
    (h : ∀ wd, Below w.heap.size w wd → wpU P l.toArray (NoPanic Q) (fun w' => ∃ p : MovedF k fp wd, w' = mvf p) M [] a wd) : (Code.region id l.toArray true).wp P Q a w := wp_region_u M (fun wd w' => ∃ p : MovedF k fp wd, w' = mvf p) hm h

end Go.Proofs.Yteajhmpppciicaa
