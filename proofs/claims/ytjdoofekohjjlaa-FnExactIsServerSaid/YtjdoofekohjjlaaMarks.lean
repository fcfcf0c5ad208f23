/-
  Marks over a slice that is owned. No function of the program is named here.
-/
import Derived.Test.YtjdoofekohjjlaaFill
import Derived.Test.YtjdoofekohjjlaaMark
namespace Go.Proofs.Ytjdoofekohjjlaa
open Go.RowKit

/-- Only the blocks of fp may have been written; all else that was there is as it was. -/
structure Chg (fp : List Nat) (w w' : World) : Prop where
  os : w'.os = w.os
  tape : w'.tape = w.tape
  output : w'.output = w.output
  size : w.heap.size ≤ w'.heap.size
  block : ∀ b, b < w.heap.size → b ∉ fp → w'.heap[b]? = w.heap[b]?
theorem Chg.refl {fp : List Nat} {w : World} : Chg fp w w := ⟨rfl, rfl, rfl, Nat.le_refl _, fun _ _ _ => rfl⟩
theorem Chg.trans {fp : List Nat} {a b c : World} (h : Chg fp a b) (k : Chg fp b c) : Chg fp a c :=
  ⟨k.os.trans h.os, k.tape.trans h.tape, k.output.trans h.output, Nat.le_trans h.size k.size, fun i hi hn => (k.block i (Nat.lt_of_lt_of_le hi h.size) hn).trans (h.block i hi hn)⟩
theorem Chg.mono {fp fq : List Nat} {a b : World} (h : Chg fp a b) (hs : ∀ x ∈ fp, x ∈ fq) : Chg fq a b := ⟨h.os, h.tape, h.output, h.size, fun i hi hn => h.block i hi fun hx => hn (hs i hx)⟩
theorem Chg.of_below {fp : List Nat} {B : Nat} {a b : World} (h : Below B a b) (hB : a.heap.size ≤ B) : Chg fp a b := ⟨h.os, h.tape, h.output, h.size, fun i hi _ => h.block i (Nat.lt_of_lt_of_le hi hB)⟩
theorem Chg.set {fp : List Nat} {a w : World} {g o : Nat} {u : Value} (hg : g ∈ fp) (h : Chg fp a w) : Chg fp a (w.setCell ⟨g, o, none⟩ u) :=
  h.trans ⟨rfl, rfl, rfl, by simp [World.setCell], fun i _ hn => Below.heap_setCell _ _ _ _ (fun e => hn (by rw [e]; exact hg))⟩
theorem Chg.sets {fp : List Nat} {a : World} {g : Nat} (hg : g ∈ fp) : ∀ (us : List Value) (i : Nat) (w : World), Chg fp a w → Chg fp a (setCells w g i us)
  | [], _, _, h => h
  | _ :: us, i, _, h => Chg.sets hg us (i + 1) _ (h.set hg)
/-- A reading whose blocks are not among those written. -/
theorem Chg.keeps {α : Type} {R : Rep α} {o : Bool} {fp fq : List Nat} {w w' : World} {cs : List Value} {x : α} (h : Chg fp w w') (hr : R.rd o w cs x fq) (hd : ∀ b ∈ fq, b ∉ fp) : R.rd o w' cs x fq :=
  R.frame hr fun b hb => h.block b (R.lt hr b hb) (hd b hb)

/-- The marks, element by element. -/
def marks {α : Type} (f : Nat → α → α) (c : α → Nat) : Nat → List α → List α
  | _, [] => []
  | k, x :: l => f k x :: marks f c (k + c x) l
theorem marks_length {α : Type} (f : Nat → α → α) (c : α → Nat) : ∀ (k : Nat) (l : List α), (marks f c k l).length = l.length
  | _, [] => rfl
  | k, x :: l => by simp [marks, marks_length f c _ l]
theorem marks_get {α : Type} (f : Nat → α → α) (c : α → Nat) : ∀ (k : Nat) (l : List α) (i : Nat) (h : i < l.length), (marks f c k l)[i]? = some (f (k + wtT c l i) l[i])
  | _, [], i, h => by simp at h
  | k, x :: l, 0, h => by simp [marks, wtT]
  | k, x :: l, i + 1, h => by
    have h' : i < l.length := by simpa using h
    have := marks_get f c (k + c x) l i h'
    simp only [marks, List.getElem?_cons_succ, this, List.getElem_cons_succ]
    have e : wtT c (x :: l) (i + 1) = c x + wtT c l i := by simp [wtT]
    rw [e, Nat.add_assoc]
theorem marks_at {α : Type} (f : Nat → α → α) (c : α → Nat) (k : Nat) (l : List α) (i : Nat) (h : i < l.length) (h' : i < (marks f c k l).length) : (marks f c k l)[i] = f (k + wtT c l i) l[i] := by
  have := marks_get f c k l i h
  rw [List.getElem?_eq_getElem h'] at this
  exact Option.some.inj this
/-- The first i elements bear their marks. -/
def marked {α : Type} (f : Nat → α → α) (c : α → Nat) (k : Nat) (l : List α) (i : Nat) : List α := (marks f c k l).take i ++ l.drop i
theorem marked_zero {α : Type} (f : Nat → α → α) (c : α → Nat) (k : Nat) (l : List α) : marked f c k l 0 = l := by simp [marked]
theorem marked_all {α : Type} (f : Nat → α → α) (c : α → Nat) (k : Nat) (l : List α) : marked f c k l l.length = marks f c k l := by
  rw [marked, ← marks_length f c k l, List.take_length, List.drop_of_length_le (by rw [marks_length]; exact Nat.le_refl _), List.append_nil]
theorem marked_length {α : Type} (f : Nat → α → α) (c : α → Nat) (k : Nat) (l : List α) (i : Nat) : (marked f c k l i).length = l.length := by
  unfold marked; rw [List.length_append, List.length_take, List.length_drop, marks_length]; omega
theorem marked_succ {α : Type} (f : Nat → α → α) (c : α → Nat) (k : Nat) (l : List α) (i : Nat) (h : i < l.length) : (marked f c k l i).set i (f (k + wtT c l i) l[i]) = marked f c k l (i + 1) := by
  have hl : ((marks f c k l).take i).length = i := by rw [List.length_take, marks_length]; omega
  have hd : l.drop i = l[i] :: l.drop (i + 1) := (List.drop_eq_getElem_cons h)
  unfold marked
  rw [hd, List.set_append_right _ _ (by omega), hl, Nat.sub_self, List.set_cons_zero, List.take_succ_eq_append_getElem (by rw [marks_length]; exact h), marks_at f c k l i h, List.append_assoc]
  rfl
theorem marked_get {α : Type} (f : Nat → α → α) (c : α → Nat) (k : Nat) (l : List α) (i : Nat) (h : i < l.length) : (marked f c k l i)[i]? = some l[i] := by
  have hl : ((marks f c k l).take i).length = i := by rw [List.length_take, marks_length]; omega
  unfold marked
  rw [List.getElem?_append_right (by omega), hl, Nat.sub_self, List.getElem?_drop, Nat.add_zero, List.getElem?_eq_getElem h]

/-- The state of a marking loop: the slice is owned, its first i elements are marked. -/
def Marking {α : Type} (R : Rep α) (E : TypeId) (f : Nat → α → α) (c : α → Nat) (k : Nat) (l : List α) (v : Value) (fp : List Nat) (w : World) (i : Nat) (wr : World) : Prop :=
  (Rep.slice E R).rd true wr [v] (marked f c k l i) fp ∧ Chg fp w wr

theorem cellsOf_set {α : Type} {n : Nat} : ∀ (ts : List (El α)) (i : Nat) (t : El α), (∀ t ∈ ts, t.1.length = n) → t.1.length = n → i < ts.length → cellsOf (ts.set i t) = setL (cellsOf ts) (i * n) t.1
  | [], i, t, _, _, h => by simp at h
  | s :: ts, 0, t, hn, ht, _ => by
    have h1 := hn s (by simp)
    have := setL_mid t.1 [] s.1 (cellsOf ts) (by omega)
    simp only [List.nil_append, List.length_nil] at this
    simp only [List.set_cons_zero, cellsOf, List.flatMap_cons, Nat.zero_mul] at this ⊢
    exact this.symm
  | s :: ts, i + 1, t, hn, ht, h => by
    have h1 := hn s (by simp)
    have ih := cellsOf_set ts i t (fun t ht => hn t (by simp [ht])) ht (by simpa using h)
    simp only [List.set_cons_succ, cellsOf, List.flatMap_cons] at ih ⊢
    rw [ih, show (i + 1) * n = s.1.length + i * n by rw [h1, Nat.add_mul]; omega]
    clear ih
    generalize List.flatMap (fun x => x.1) ts = C
    generalize i * n = j
    generalize s.1 = A
    have : ∀ (us : List Value) (A C : List Value) (j : Nat), setL (A ++ C) (A.length + j) us = A ++ setL C j us := by
      intro us
      induction us with
      | nil => intro A C j; rfl
      | cons u us ih =>
        intro A C j
        rw [setL, setL, List.set_append_right _ _ (by omega), show A.length + j - A.length = j by omega, ← ih, Nat.add_assoc]
    exact (this t.1 A C j).symm

theorem feet_set {α : Type} : ∀ (ts : List (El α)) (i : Nat) (t : El α), (∀ h : i < ts.length, t.2.2 = ts[i].2.2) → feet (ts.set i t) = feet ts
  | [], _, _, _ => rfl
  | s :: ts, 0, t, h => by
    have := h (by simp)
    simp only [feet, List.set_cons_zero, List.flatMap_cons] at *
    simp at this; rw [this]
  | s :: ts, i + 1, t, h => by
    have ih := feet_set ts i t (fun h' => by have := h (by simpa using h'); simpa using this)
    simp only [feet, List.set_cons_succ, List.flatMap_cons] at *
    rw [ih]

theorem vals_set {α : Type} (ts : List (El α)) (i : Nat) (t : El α) : vals (ts.set i t) = (vals ts).set i t.2.1 := by simp [vals, List.map_set]

/-- One element of an owned slice, opened for writing: its cells' row, and how the slice is shut with other cells. -/
theorem own_open {α : Type} {R : Rep α} {E : TypeId} {w : World} {v : Value} {l : List α} {fp : List Nat} (h : (Rep.slice E R).rd true w [v] l fp) (hnd : fp.Nodup) (i : Nat) (hi : i < l.length) :
    ∃ g cap xs cs fe, v = .slice (some ⟨g, 0, none⟩) l.length cap ∧ g ∈ fp ∧ g ∉ fe ∧ (∀ b ∈ fe, b ∈ fp) ∧ fe.Nodup ∧ w.ownsRow 0 E R.n v l.length xs ∧ R.rd true w cs l[i] fe ∧ (∀ j, j < R.n → xs[i * R.n + j]? = cs[j]?) ∧
      ∀ (w' : World) (ds : List Value) (y : α), w'.ownsRow 0 E R.n v l.length (setL xs (i * R.n) ds) → R.rd true w' ds y fe → (∀ b ∈ fp, b ≠ g → b ∉ fe → w'.heap[b]? = w.heap[b]?) → (Rep.slice E R).rd true w' [v] (l.set i y) fp := by
  obtain ⟨v', ts, hv, rfl, rfl, hts, hrow, hown⟩ := h
  simp only [List.cons.injEq, and_true] at hv
  subst hv
  have hown := hown rfl
  rw [vals_length] at hi ⊢
  obtain ⟨g, cap, hvg⟩ : ∃ g cap, v = .slice (some ⟨g, 0, none⟩) ts.length cap := by
    rcases hown.2 with ⟨_, h0⟩ | ⟨g, cap, cur, hv, _⟩
    · omega
    · exact ⟨g, cap, hv⟩
  have hmem : ts[i] ∈ ts := List.getElem_mem _
  have hhead : head true v ts.length = [g] := by rw [hvg]; simp [head, Value.ownBlock]
  rw [hhead] at hnd
  have hgf : g ∉ feet ts := by
    have := List.nodup_append.1 hnd
    exact fun hg => this.2.2 g (by simp) g hg rfl
  have hfe : ∀ b ∈ ts[i].2.2, b ∈ feet ts := fun b hb => List.mem_flatMap.2 ⟨_, hmem, hb⟩
  have hfnd : (feet ts).Nodup := (List.nodup_append.1 hnd).2.1
  have hdis : ∀ t ∈ ts, ∀ k : Nat, (hk : k < ts.length) → ts[k] = t → k ≠ i → ∀ b ∈ t.2.2, b ∉ ts[i].2.2 := by
    intro t _ k hk e hki b hb hb'
    subst e
    have := List.pairwise_flatMap.1 hfnd
    have hp := this.2
    rcases Nat.lt_or_gt_of_ne hki with hlt | hlt
    · exact (List.pairwise_iff_getElem.1 hp k i hk hi hlt b hb b hb') rfl
    · exact (List.pairwise_iff_getElem.1 hp i k hi hk hlt b hb' b hb) rfl
  have hv : (vals ts)[i]'(by rw [vals_length]; exact hi) = ts[i].2.1 := by simp [vals]
  refine ⟨g, cap, cellsOf ts, ts[i].1, ts[i].2.2, hvg, by rw [hhead]; simp, fun hb => hgf (hfe g hb), fun b hb => List.mem_append.2 (.inr (hfe b hb)), ?_, hown, by rw [hv]; exact hts _ hmem,
    fun j hj => cellsOf_at ts i j ts[i] (fun t ht => R.len (hts t ht)) (List.getElem?_eq_getElem hi) hj, ?_⟩
  · exact (List.pairwise_flatMap.1 hfnd).1 _ hmem
  · intro w' ds y ho hr hk
    have hlen := R.len hr
    rw [← cellsOf_set ts i (ds, y, ts[i].2.2) (fun t ht => R.len (hts t ht)) hlen hi] at ho
    refine ⟨v, ts.set i (ds, y, ts[i].2.2), rfl, by rw [vals_set], by rw [List.length_set, feet_set ts i _ (fun _ => rfl)], ?_, ?_, fun _ => ?_⟩
    · intro t ht
      obtain ⟨k, hk', e⟩ := List.getElem_of_mem ht
      rw [List.length_set] at hk'
      by_cases hki : k = i
      · subst hki
        rw [List.getElem_set_self] at e
        subst e; exact hr
      · rw [List.getElem_set_ne (fun h => hki h.symm)] at e
        have hm : t ∈ ts := by rw [← e]; exact List.getElem_mem _
        refine R.frame (hts t hm) fun b hb => hk b ?_ ?_ ?_
        · exact List.mem_append.2 (.inr (List.mem_flatMap.2 ⟨t, hm, hb⟩))
        · intro hbg; subst hbg; exact hgf (List.mem_flatMap.2 ⟨t, hm, hb⟩)
        · exact hdis t hm k hk' e hki b hb
    · rw [List.length_set]; exact Row.of_owns ho
    · rw [List.length_set]; exact ho

theorem own_cells {w : World} {base : Nat} {e : TypeId} {size g n cap : Nat} {xs : List Value} (h : w.ownsRow base e size (.slice (some ⟨g, 0, none⟩) n cap) n xs) {i : Nat} (hi : i < n) :
    (∀ c, c < size → ∃ u, w.cell? ⟨g, i * size + c, none⟩ = some u) ∧ ∀ o, w.frozen? ⟨g, o, none⟩ = false := by
  refine ⟨fun c hc => ?_, fun o => World.ownsRow.frozenAt h o⟩
  have hlt : i * size + c < n * size := by
    have : (i + 1) * size ≤ n * size := Nat.mul_le_mul_right _ hi
    rw [Nat.add_mul] at this; omega
  rw [World.ownsRow.cellAt h _ hlt]
  exact ⟨_, List.getElem?_eq_getElem (by rw [h.1]; exact hlt)⟩

/-- An owned row behind a callee that only makes memory. -/
theorem own_below {w w1 : World} {base B : Nat} {e : TypeId} {size g n cap : Nat} {xs : List Value} (h : w.ownsRow base e size (.slice (some ⟨g, 0, none⟩) n cap) n xs) (hb : Below B w w1) (hB : w.heap.size ≤ B) :
    w1.ownsRow base e size (.slice (some ⟨g, 0, none⟩) n cap) n xs :=
  ownsRow_frame h fun b hb' => hb.block b (by simp [Value.ownBlock] at hb'; subst hb'; exact Nat.lt_of_lt_of_le (World.ownsRow.lt h b rfl).2 hB)

theorem rd_sets {α : Type} {R : Rep α} {cur : World} {cs : List Value} {x : α} {f : List Nat} {g : Nat} (us : List Value) (i : Nat) (h : R.rd true cur cs x f) (hg : g ∉ f) : R.rd true (setCells cur g i us) cs x f :=
  R.frame h fun b hb => setCells_other (fun e => hg (by rw [← e]; exact hb)) us i cur
theorem rd_below {α : Type} {R : Rep α} {o : Bool} {w w' : World} {cs : List Value} {x : α} {f : List Nat} (hb : Below w.heap.size w w') (h : R.rd o w cs x f) : R.rd o w' cs x f :=
  R.frame h fun b hb' => hb.block b (R.lt h b hb')
theorem own_chg {w w1 : World} {base : Nat} {e : TypeId} {size g n cap : Nat} {xs : List Value} {f : List Nat} (h : w.ownsRow base e size (.slice (some ⟨g, 0, none⟩) n cap) n xs) (ch : Chg f w w1) (hg : g ∉ f) :
    w1.ownsRow base e size (.slice (some ⟨g, 0, none⟩) n cap) n xs :=
  ownsRow_frame h fun b hb' => ch.block b (by simp [Value.ownBlock] at hb'; subst hb'; exact (World.ownsRow.lt h b rfl).2) (by simp [Value.ownBlock] at hb'; subst hb'; exact hg)
theorem setL_ge : ∀ (us : List Value) (i : Nat) (xs : List Value) (p : Nat), i + us.length ≤ p → (setL xs i us)[p]? = xs[p]?
  | [], _, _, _, _ => rfl
  | u :: us, i, xs, p, h => by
    simp only [List.length_cons] at h
    rw [setL, setL_ge us (i + 1) _ p (by omega), List.getElem?_set_ne (by omega)]
theorem own_lt {j n size : Nat} (h : j < n) (c : Nat) (hc : c < size) : j * size + c < n * size := by
  have : (j + 1) * size ≤ n * size := Nat.mul_le_mul_right _ h
  rw [Nat.add_mul] at this; omega
theorem val_int {k : IntKind} {a b : Int} (h : a = b) : Value.int k a = .int k b := by rw [h]

theorem markTextI (k : Nat) (a : Int) (ha : a = k) (hk : k ≤ 1000000000) (w : World) :
    Calls Try.prog 134 #[.int .i64 a] w fun e w' => e = .returned (.string (markT k)) ∧ Below w.heap.size w w' := by
  subst ha; exact markText k hk w

end Go.Proofs.Ytjdoofekohjjlaa
