/-
  A slice that the call makes and fills, element by element. No function of the program is named here.
-/
import Derived.Test.YtjdoofekohjjlaaSeat
namespace Go.Proofs.Ytjdoofekohjjlaa
open Go.RowKit

/-- The cells us, stored one behind the other from cell i of block g on. -/
def setCells (w : World) (g : Nat) : Nat → List Value → World
  | _, [] => w
  | i, u :: us => setCells (w.setCell ⟨g, i, none⟩ u) g (i + 1) us
def setL (xs : List Value) : Nat → List Value → List Value
  | _, [] => xs
  | i, u :: us => setL (xs.set i u) (i + 1) us

theorem setL_mid : ∀ (us A zs C : List Value), zs.length = us.length → setL (A ++ (zs ++ C)) A.length us = A ++ (us ++ C)
  | [], A, zs, C, h => by
    have : zs = [] := List.eq_nil_of_length_eq_zero (by simpa using h)
    subst this; rfl
  | u :: us, A, [], C, h => by simp at h
  | u :: us, A, z :: zs, C, h => by
    have e : (A ++ (z :: zs ++ C)).set A.length u = (A ++ [u]) ++ (zs ++ C) := by
      rw [List.set_append_right _ _ (Nat.le_refl _), Nat.sub_self]
      simp
    have hl : (A ++ [u]).length = A.length + 1 := by simp
    rw [setL, e, ← hl, setL_mid us (A ++ [u]) zs C (by simpa using h)]
    simp

theorem setCells_owns {base : Nat} {e : TypeId} {size g n cap : Nat} : ∀ (us : List Value) (i : Nat) (w : World) (xs : List Value),
    w.ownsRow base e size (.slice (some ⟨g, 0, none⟩) n cap) n xs → (setCells w g i us).ownsRow base e size (.slice (some ⟨g, 0, none⟩) n cap) n (setL xs i us)
  | [], _, _, _, h => h
  | u :: us, i, _, _, h => setCells_owns us (i + 1) _ _ (World.ownsRow.stored h i u).1

theorem setCells_below {B g : Nat} {a : World} (hg : B ≤ g) : ∀ (us : List Value) (i : Nat) (w : World), Below B a w → Below B a (setCells w g i us)
  | [], _, _, h => h
  | u :: us, i, _, h => setCells_below hg us (i + 1) _ (h.setCell (p := ⟨g, i, none⟩) hg u)

theorem setCells_size {g : Nat} : ∀ (us : List Value) (i : Nat) (w : World), (setCells w g i us).heap.size = w.heap.size
  | [], _, _ => rfl
  | u :: us, i, w => by rw [setCells, setCells_size us]; simp [World.setCell]

theorem setCells_other {g b : Nat} (hb : b ≠ g) : ∀ (us : List Value) (i : Nat) (w : World), (setCells w g i us).heap[b]? = w.heap[b]?
  | [], _, _ => rfl
  | u :: us, i, w => by rw [setCells, setCells_other hb us, Below.heap_setCell _ _ _ _ hb]

/-- Block g is the row of a slice of n elements of which the first k are filled. -/
def Filling {α : Type} (R : Rep α) (E : TypeId) (B g n : Nat) (l : List α) (k : Nat) (w : World) : Prop :=
  ∃ (ts : List (El α)) (rest : List Value), ts.length = k ∧ vals ts = l.take k ∧ (∀ t ∈ ts, R.rd true w t.1 t.2.1 t.2.2) ∧ rest.length = (n - k) * R.n ∧
    w.ownsRow 0 E R.n (.slice (some ⟨g, 0, none⟩) n n) n (cellsOf ts ++ rest) ∧ (feet ts).Nodup ∧ (∀ b ∈ feet ts, g < b) ∧ B ≤ g

theorem Filling.start {α : Type} {R : Rep α} {E : TypeId} {B g n : Nat} {l : List α} {w : World} {xs : List Value} (h : w.ownsRow B E R.n (.slice (some ⟨g, 0, none⟩) n n) n xs) (hg : B ≤ g) : Filling R E B g n l 0 w := by
  refine ⟨[], xs, rfl, by simp [vals], by simp, by simpa using h.1, ?_, by simp [feet], by simp [feet], hg⟩
  exact ownsRow_rebase h fun _ _ => Nat.zero_le _

theorem Filling.lt {α : Type} {R : Rep α} {E : TypeId} {B g n : Nat} {l : List α} {k : Nat} {w : World} (h : Filling R E B g n l k w) : g < w.heap.size ∧ B ≤ g := by
  obtain ⟨ts, rest, _, _, _, _, h5, _, _, h8⟩ := h
  exact ⟨(World.ownsRow.lt h5 g rfl).2, h8⟩

theorem Filling.cells {α : Type} {R : Rep α} {E : TypeId} {B g n : Nat} {l : List α} {k : Nat} {w : World} (h : Filling R E B g n l k w) (hk : k < n) :
    (∀ j, j < R.n → ∃ u, w.cell? ⟨g, k * R.n + j, none⟩ = some u) ∧ ∀ j, w.frozen? ⟨g, j, none⟩ = false := by
  obtain ⟨ts, rest, h1, h2, h3, h4, h5, _⟩ := h
  have hl := cellsOf_length (n := R.n) ts fun t ht => R.len (h3 t ht)
  refine ⟨fun j hj => ?_, fun j => World.ownsRow.frozenAt h5 j⟩
  have hlt : k * R.n + j < n * R.n := by
    have : (k + 1) * R.n ≤ n * R.n := Nat.mul_le_mul_right _ hk
    rw [Nat.add_mul] at this; omega
  rw [World.ownsRow.cellAt h5 _ hlt]
  have hlen := h5.1
  exact ⟨_, List.getElem?_eq_getElem (by rw [hlen]; exact hlt)⟩

theorem Filling.below {α : Type} {R : Rep α} {E : TypeId} {B g n : Nat} {l : List α} {k : Nat} {w w1 : World} (h : Filling R E B g n l k w) (hb : Below w.heap.size w w1) : Filling R E B g n l k w1 := by
  obtain ⟨ts, rest, h1, h2, h3, h4, h5, h6, h7, h8⟩ := h
  refine ⟨ts, rest, h1, h2, fun t ht => R.frame (h3 t ht) fun b hb' => hb.block b (R.lt (h3 t ht) b hb'), h4, ownsRow_frame h5 fun b hb' => hb.block b ?_, h6, h7, h8⟩
  have e : g = b := by simp [Value.ownBlock] at hb'; exact hb'.symm
  subst e
  exact (World.ownsRow.lt h5 g rfl).2

theorem Filling.step {α : Type} {R : Rep α} {E : TypeId} {B g n : Nat} {l : List α} {k : Nat} {w0 w1 : World} {ds : List Value} (hk : k < l.length) (hn : l.length = n) (h : Filling R E B g n l k w0)
    (hb : Below w0.heap.size w0 w1) (hf : Fresh R w0.heap.size w1 ds l[k]) : Filling R E B g n l (k + 1) (setCells w1 g (k * R.n) ds) := by
  have hg0 := h.lt.1
  obtain ⟨ts, rest, h1, h2, h3, h4, h5, h6, h7, h8⟩ := h
  obtain ⟨fp, hrd, hnd, hge⟩ := hf
  have hlt0 : ∀ b ∈ feet ts, b < w0.heap.size := by
    intro b hb'
    obtain ⟨t, ht, hb'⟩ := List.mem_flatMap.1 hb'
    exact R.lt (h3 t ht) b hb'
  have hcl := cellsOf_length (n := R.n) ts fun t ht => R.len (h3 t ht)
  have hdl := R.len hrd
  have hsplit : rest = rest.take R.n ++ rest.drop R.n := (List.take_append_drop _ _).symm
  have hnk : (n - k) * R.n = R.n + (n - (k + 1)) * R.n := by
    have : n - k = 1 + (n - (k + 1)) := by omega
    rw [this, Nat.add_mul]; omega
  have htl : (rest.take R.n).length = ds.length := by simp; omega
  have h5' : w1.ownsRow 0 E R.n (.slice (some ⟨g, 0, none⟩) n n) n (cellsOf ts ++ rest) :=
    ownsRow_frame h5 fun b hb' => hb.block b (by simp [Value.ownBlock] at hb'; omega)
  have hset := setCells_owns ds (k * R.n) w1 _ h5'
  have hki : k * R.n = (cellsOf ts).length := by rw [hcl, h1]
  rw [hsplit, hki, setL_mid _ _ _ _ htl, ← hki] at hset
  have hfr : ∀ t ∈ ts ++ [((ds, l[k], fp) : El α)], R.rd true (setCells w1 g (k * R.n) ds) t.1 t.2.1 t.2.2 := by
    intro t ht
    rcases List.mem_append.1 ht with ht | ht
    · refine R.frame (h3 t ht) fun b hb' => ?_
      have hbf : b ∈ feet ts := List.mem_flatMap.2 ⟨t, ht, hb'⟩
      have := h7 b hbf
      rw [setCells_other (by omega)]
      exact hb.block b (hlt0 b hbf)
    · simp at ht; subst ht
      refine R.frame hrd fun b hb' => ?_
      have := hge b hb'
      rw [setCells_other (by omega)]
  refine ⟨ts ++ [(ds, l[k], fp)], rest.drop R.n, by simp [h1], ?_, hfr, by simp; omega, ?_, ?_, ?_, h8⟩
  · have hv : vals (ts ++ [((ds, l[k], fp) : El α)]) = vals ts ++ [l[k]] := by simp [vals]
    rw [hv, h2, List.take_succ_eq_append_getElem hk]
  · have e : cellsOf (ts ++ [((ds, l[k], fp) : El α)]) = cellsOf ts ++ ds := by simp [cellsOf]
    rw [e, List.append_assoc]; exact hset
  · have e : feet (ts ++ [((ds, l[k], fp) : El α)]) = feet ts ++ fp := by simp [feet]
    rw [e]; exact nodup_parts h6 hnd hlt0 hge
  · have e : feet (ts ++ [((ds, l[k], fp) : El α)]) = feet ts ++ fp := by simp [feet]
    rw [e]
    intro b hb'
    rcases List.mem_append.1 hb' with hb' | hb'
    · exact h7 b hb'
    · have := hge b hb'; omega

theorem Filling.done {α : Type} {R : Rep α} {E : TypeId} {B g n : Nat} {l : List α} {w : World} (hn : l.length = n) (h : Filling R E B g n l n w) : Fresh (Rep.slice E R) B w [.slice (some ⟨g, 0, none⟩) n n] l := by
  obtain ⟨ts, rest, h1, h2, h3, h4, h5, h6, h7, h8⟩ := h
  have hr : rest = [] := List.eq_nil_of_length_eq_zero (by simpa using h4)
  subst hr
  rw [List.append_nil] at h5
  have hv : l = vals ts := by rw [h2, ← hn, List.take_length]
  refine ⟨g :: feet ts, ⟨_, ts, rfl, hv, by simp [head, Value.ownBlock], h3, ?_, fun _ => ?_⟩, ?_, ?_⟩
  · rw [h1]; exact Row.of_owns h5
  · rw [h1]; exact h5
  · rw [List.nodup_cons]
    exact ⟨fun hg => Nat.lt_irrefl _ (h7 g hg), h6⟩
  · intro b hb
    rcases List.mem_cons.1 hb with rfl | hb
    · exact h8
    · have := h7 b hb; omega

end Go.Proofs.Ytjdoofekohjjlaa
