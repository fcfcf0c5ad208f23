/-
  Slices of flat structs: read whole, grown by append. No function of the program is named here.
-/
import Derived.Test.YtjdoofekohjjlaaAppend
import Derived.Test.YtjdoofekohjjlaaEnv
namespace Go.Proofs.Ytjdoofekohjjlaa
open Go.RowKit

/-- A datum that its cells hold whole. -/
structure FlatR {α : Type} (R : Rep α) (enc : α → List Value) (ok : α → Prop) : Prop where
  rd : ∀ {o : Bool} {w : World} {cs : List Value} {x : α} {fp : List Nat}, R.rd o w cs x fp ↔ cs = enc x ∧ fp = [] ∧ ok x

section
variable {α : Type} {R : Rep α} {enc : α → List Value} {ok : α → Prop}

theorem FlatR.len (h : FlatR R enc ok) {x : α} (hx : ok x) : (enc x).length = R.n := R.len (h.rd (o := false) (w := default).2 ⟨rfl, rfl, hx⟩)
theorem FlatR.one (h : FlatR R enc ok) {x : α} (hx : ok x) : ∀ u ∈ enc x, u.oneCell' = true := R.one (h.rd (o := false) (w := default).2 ⟨rfl, rfl, hx⟩)

theorem flatMap_length (h : FlatR R enc ok) : ∀ (l : List α), (∀ x ∈ l, ok x) → (l.flatMap enc).length = l.length * R.n
  | [], _ => by simp
  | x :: l, hl => by
    have := flatMap_length h l fun y hy => hl y (by simp [hy])
    rw [List.flatMap_cons, List.length_append, this, h.len (hl x (by simp)), List.length_cons, Nat.add_mul]; omega
theorem flatMap_one (h : FlatR R enc ok) (l : List α) (hl : ∀ x ∈ l, ok x) : ∀ u ∈ l.flatMap enc, u.oneCell' = true := by
  intro u hu
  obtain ⟨x, hx, hu⟩ := List.mem_flatMap.1 hu
  exact h.one (hl x hx) u hu

theorem cells_flat (h : FlatR R enc ok) {o : Bool} {w : World} : ∀ (ts : List (El α)), (∀ t ∈ ts, R.rd o w t.1 t.2.1 t.2.2) → cellsOf ts = (vals ts).flatMap enc ∧ feet ts = [] ∧ ∀ x ∈ vals ts, ok x
  | [], _ => ⟨rfl, rfl, by simp [vals]⟩
  | t :: ts, ht => by
    obtain ⟨h1, h2, h3⟩ := cells_flat h ts fun t hm => ht t (by simp [hm])
    obtain ⟨k1, k2, k3⟩ := h.rd.1 (ht t (by simp))
    refine ⟨?_, ?_, ?_⟩
    · simp only [cellsOf, vals, List.flatMap_cons, List.map_cons] at *; rw [k1, h1]
    · simp only [feet, List.flatMap_cons] at *; rw [k2, h2]; rfl
    · intro x hx
      simp only [vals, List.map_cons, List.mem_cons] at hx h3
      rcases hx with rfl | hx
      · exact k3
      · exact h3 x hx

theorem FlatR.row (h : FlatR R enc ok) {E : TypeId} {w : World} {v : Value} {l : List α} (hr : Reads (Rep.slice E R) w [v] l) : Row w v l.length (l.flatMap enc) ∧ ∀ x ∈ l, ok x := by
  obtain ⟨fp, v', ts, hv, rfl, rfl, hts, hrow, _⟩ := hr
  simp only [List.cons.injEq, and_true] at hv
  subst hv
  obtain ⟨h1, _, h3⟩ := cells_flat h ts hts
  rw [← h1, vals_length]
  exact ⟨hrow, h3⟩

theorem FlatR.src (h : FlatR R enc ok) {P : Program} {E tx e' : TypeId} {w : World} {v : Value} {l : List α} (hk : P.underlying tx = some (.slice e')) (hr : Reads (Rep.slice E R) w [v] l) : Src P R.n tx v l.length (l.flatMap enc) w := by
  obtain ⟨h1, h2⟩ := h.row hr
  exact Src.ofRow hk h1 (flatMap_length h l h2) (flatMap_one h l h2)

theorem FlatR.own (h : FlatR R enc ok) {E : TypeId} {B : Nat} {w : World} {v : Value} {l : List α} (hf : Fresh (Rep.slice E R) B w [v] l) : w.ownsRow B E R.n v l.length (l.flatMap enc) ∧ ∀ x ∈ l, ok x := by
  obtain ⟨ts, rfl, h1, h2, _, _⟩ := hf.owned
  obtain ⟨k1, _, k3⟩ := cells_flat h ts h1
  rw [← k1, vals_length]
  exact ⟨h2, k3⟩

theorem els_flat (enc : α → List Value) : ∀ (l : List α), cellsOf (l.map fun x => ((enc x, x, []) : El α)) = l.flatMap enc ∧ feet (l.map fun x => ((enc x, x, []) : El α)) = [] ∧ vals (l.map fun x => ((enc x, x, []) : El α)) = l
  | [] => ⟨rfl, rfl, rfl⟩
  | x :: l => by
    obtain ⟨h1, h2, h3⟩ := els_flat enc l
    refine ⟨?_, ?_, ?_⟩
    · simp only [cellsOf, List.map_cons, List.flatMap_cons] at *; rw [h1]
    · simp only [feet, List.map_cons, List.flatMap_cons] at *; rw [h2]; rfl
    · simp only [vals, List.map_cons] at *; rw [h3]

theorem FlatR.fresh (h : FlatR R enc ok) {E : TypeId} {B B' : Nat} {w : World} {v : Value} {l : List α} (ho : w.ownsRow B' E R.n v l.length (l.flatMap enc)) (hok : ∀ x ∈ l, ok x) (hge : ∀ b ∈ v.ownBlock.toList, B ≤ b) : Fresh (Rep.slice E R) B w [v] l := by
  obtain ⟨h1, h2, h3⟩ := els_flat enc l
  have := Fresh.of_owned (R := R) (E := E) (B := B) (w := w) (v := v) (l.map fun x => ((enc x, x, []) : El α)) (fun t ht => by
    obtain ⟨x, hx, rfl⟩ := List.mem_map.1 ht
    exact h.rd.2 ⟨rfl, rfl, hok x hx⟩) (B' := B') (by rw [h1, List.length_map]; exact ho) (by rw [h2]; cases v.ownBlock <;> simp) (by rw [h2]; simpa using hge)
  rwa [h3] at this

theorem lit_src' (h : FlatR R enc ok) {P : Program} {tx e' : TypeId} {w : World} {n : Nat} {xs : Array Value} {t : TypeId} {us : List α} (hk : P.underlying tx = some (.slice e')) (hx : xs.toList = us.flatMap enc) (hn : n = us.length) (hok : ∀ x ∈ us, ok x) {k : Nat} (hkk : k = w.heap.size) :
    Src P R.n tx (.slice (some ⟨k, 0, none⟩) n n) us.length (us.flatMap enc) (w.alloc (.cells xs t)) := by
  subst hn; subst hkk
  rw [← hx]
  exact lit_src hk (by rw [← Array.length_toList, hx]; exact flatMap_length h us hok) (by rw [hx]; exact flatMap_one h us hok)

/-- A slice literal of flat structs. -/
theorem lit_fresh (h : FlatR R enc ok) {E : TypeId} {w : World} {n : Nat} {xs : Array Value} {us : List α} (hx : xs.toList = us.flatMap enc) (hn : n = us.length) (hm : us.length ≤ maxLen) (hok : ∀ x ∈ us, ok x) {k : Nat} (hkk : k = w.heap.size) :
    Fresh (Rep.slice E R) k (w.alloc (.cells xs E)) [.slice (some ⟨k, 0, none⟩) n n] us := by
  subst hn; subst hkk
  refine h.fresh (B' := w.heap.size) ?_ hok (by simp [Value.ownBlock])
  rw [← hx]
  exact own_lit (by rw [← Array.length_toList, hx]; exact flatMap_length h us hok) hm

/-- append onto a slice that the call owns. -/
theorem wpList_grow {P : Program} (w : World) {ops : Array Oper} {rest : List Oper} {o : Oper} {a : Act} {Q : Exit → Act → World → Prop} (hgd : o.guard = none) (s x : Operand) (t tx : TypeId)
    (ho : o.op = .call { callee := .builtin .append, args := #[s, x], argTypes := #[t, tx] })
    (h : FlatR R enc ok) (B : Nat) (e : TypeId) (i : TypeInfo) (z : Value) (bytes : Nat) (ht : P.underlying t = some (.slice e)) (hi : P.info? e = some i) (hz : i.zero = some z)
    (hsize : i.size = R.n) (hby : i.bytes = bytes) (hzs : z.cells.size = R.n)
    (v : Value) (l : List α) (hv : a.eval s = v) (hown : Fresh (Rep.slice e R) B w [v] l)
    (sv : Value) (us : List α) (hx : a.eval x = sv) (hs : Src P R.n tx sv us.length (us.flatMap enc) w) (hok : ∀ x ∈ us, ok x)
    (hbytes : (l.length + us.length) * bytes ≤ 140737488355328) (h63 : l.length + us.length ≤ maxLen) (hbase : B ≤ w.heap.size)
    (hgo : ∀ ao cap w', Fresh (Rep.slice e R) B w' [.slice ao (l.length + us.length) cap] (l ++ us) → Below B w w' →
      wpList P ops Q rest (a.put o.dst (.slice ao (l.length + us.length) cap)) w') : wpList P ops Q (o :: rest) a w := by
  obtain ⟨ho1, ho2⟩ := h.own hown
  have hge := World.ownsRow.lt ho1
  refine wpList_append_src w hgd s x t tx ho B e i z R.n bytes ht hi hz hsize hby hzs v l.length (l.flatMap enc) hv ho1 sv us.length _ hx hs hbytes h63 hbase fun ao cap w' h1 h2 h3 => ?_
  refine hgo ao cap w' (h.fresh (B' := B) (by rw [List.length_append, List.flatMap_append]; exact h1) (fun x hx => (List.mem_append.1 hx).elim (ho2 x) (hok x)) fun b hb => ?_) (grow_below h2 (fun b hb => (hge b (by simpa using hb)).1) hbase)
  rcases h3 b hb with hb | rfl
  · exact (hge b (by simpa using hb)).1
  · exact hbase

/-- append of one flat element, which lies in a literal of its own. -/
theorem wpList_push {P : Program} (w : World) {ops : Array Oper} {rest : List Oper} {o : Oper} {a : Act} {Q : Exit → Act → World → Prop} (hgd : o.guard = none) (s x : Operand) (t tx : TypeId)
    (ho : o.op = .call { callee := .builtin .append, args := #[s, x], argTypes := #[t, tx] })
    (h : FlatR R enc ok) (B : Nat) (e : TypeId) (i : TypeInfo) (z : Value) (bytes : Nat) (ht : P.underlying t = some (.slice e)) {e' : TypeId} (htx : P.underlying tx = some (.slice e')) (hi : P.info? e = some i) (hz : i.zero = some z)
    (hsize : i.size = R.n) (hby : i.bytes = bytes) (hzs : z.cells.size = R.n)
    (v : Value) (l : List α) (hv : a.eval s = v) (hown : Fresh (Rep.slice e R) B w [v] l)
    (u : α) (xs : Array Value) (t2 : TypeId) (k : Nat) (hx : a.eval x = .slice (some ⟨k, 0, none⟩) 1 1) (hk : k = w.heap.size) (hxs : xs.toList = enc u) (hok : ok u)
    (hlen : l.length + 1 ≤ 16777216) (hbytes : bytes ≤ 8388608) (hbase : B ≤ w.heap.size)
    (hgo : ∀ ao cap w', Fresh (Rep.slice e R) B w' [.slice ao (l.length + 1) cap] (l ++ [u]) → Below B w w' →
      wpList P ops Q rest (a.put o.dst (.slice ao (l.length + 1) cap)) w') : wpList P ops Q (o :: rest) a (w.alloc (.cells xs t2)) := by
  have hb : Below w.heap.size w (w.alloc (.cells xs t2)) := (Below.refl _ _).alloc (Nat.le_refl _) _
  have hmul : (l.length + 1) * bytes ≤ 16777216 * 8388608 := Nat.mul_le_mul hlen hbytes
  refine wpList_grow (w.alloc (.cells xs t2)) hgd s x t tx ho h B e i z bytes ht hi hz hsize hby hzs v l hv (hown.below hb) (.slice (some ⟨k, 0, none⟩) 1 1) [u] hx
    (lit_src' (us := [u]) (n := 1) h htx (by simpa using hxs) rfl (by simpa using hok) hk) (by simpa using hok) ?_ ?_ ?_ fun ao cap w' h1 h2 => ?_
  · simp only [List.length_cons, List.length_nil, Nat.zero_add]; omega
  · simp only [List.length_cons, List.length_nil, Nat.zero_add]; unfold maxLen; omega
  · have := hb.size; omega
  · exact hgo ao cap w' h1 ((hb.mono hbase).trans h2)

/-- The same at a step of a region that draws its order: the element lies in block k. -/
theorem step_push {P : Program} (w : World) {ops : Array Oper} {o : Oper} {a : Act} {K : Act → World → Prop} {Q : Exit → Act → World → Prop} {X : Prop} (hgd : o.guard = none) (s x : Operand) (t tx : TypeId)
    (ho : o.op = .call { callee := .builtin .append, args := #[s, x], argTypes := #[t, tx] })
    (h : FlatR R enc ok) (B : Nat) (e : TypeId) (i : TypeInfo) (z : Value) (bytes : Nat) (ht : P.underlying t = some (.slice e)) {e' : TypeId} (htx : P.underlying tx = some (.slice e')) (hi : P.info? e = some i) (hz : i.zero = some z)
    (hsize : i.size = R.n) (hby : i.bytes = bytes) (hzs : z.cells.size = R.n)
    (v : Value) (l : List α) (hv : a.eval s = v) (hown : Fresh (Rep.slice e R) B w [v] l)
    (u : α) (k : Nat) (hx : a.eval x = .slice (some ⟨k, 0, none⟩) 1 1) (hxs : ∀ j y, (enc u)[j]? = some y → w.cell? ⟨k, j, none⟩ = some y) (hok : ok u)
    (hlen : l.length + 1 ≤ 16777216) (hbytes : bytes ≤ 8388608) (hbase : B ≤ w.heap.size)
    (hgo : ∀ ao cap w', Fresh (Rep.slice e R) B w' [.slice ao (l.length + 1) cap] (l ++ [u]) → Below B w w' → w.heap.size ≤ w'.heap.size →
      K (a.put o.dst (.slice ao (l.length + 1) cap)) w') : if Region.wanted o (yielded ops a.tmps) = true then Oper.wp P o a w K Q else X := by
  have hw : Region.wanted o (yielded ops a.tmps) = true := by simp [Region.wanted, hgd]
  rw [if_pos hw]
  have hmul : (l.length + 1) * bytes ≤ 16777216 * 8388608 := Nat.mul_le_mul hlen hbytes
  obtain ⟨ho1, ho2⟩ := h.own hown
  have hge := World.ownsRow.lt ho1
  have hs : Src P R.n tx (.slice (some ⟨k, 0, none⟩) 1 1) 1 (enc u) w := Src.ofSlice w htx ⟨k, 0, none⟩ 1 1 _ (by rw [h.len hok, Nat.one_mul]) (fun j y hy => by rw [Addr.add_lit, Nat.zero_add]; exact hxs j y hy) (h.one hok)
  obtain ⟨v', w', hr, h2, h3, h4, ao, cap, rfl⟩ := run_append_src (P := P) w B t tx o.type e i z R.n bytes ht hi hz hsize hby hzs v l.length _ ho1 _ 1 (enc u) hs (by omega) (by unfold maxLen; omega) hbase
  unfold Oper.wp execOp
  simp only [ho, resolve, invoke, builtin, Sem.run_bind, Sem.run_pure, Result.andThen_ok, List.map_toArray, List.map_cons, List.map_nil, hv, hx, hr]
  refine hgo ao cap w' (h.fresh (B' := B) (by simpa using h2) (fun y hy => (List.mem_append.1 hy).elim (ho2 y) (fun hm => by simp at hm; subst hm; exact hok)) fun b hb => ?_) (grow_below h3 (fun b hb => (hge b (by simpa using hb)).1) hbase) h3.size
  rcases h4 b hb with hb | rfl
  · exact (hge b (by simpa using hb)).1
  · exact hbase
end

theorem FlatR.int : FlatR Rep.int (fun n => [.int .i64 n]) (fun _ => True) := ⟨fun {_ _ _ _ _} => Iff.rfl⟩
theorem FlatR.byte : FlatR Rep.byte (fun n => [.int .u8 n.toNat]) (fun _ => True) := ⟨fun {_ _ _ _ _} => Iff.rfl⟩
theorem FlatR.str : FlatR Rep.str (fun n => [.string n]) (fun s => s.size ≤ maxLen) := ⟨fun {_ _ _ _ _} => Iff.rfl⟩

theorem belAB {B : Nat} {w a : World} {o : Obj} (hs : B ≤ a.heap.size) (h : Below B w a) : Below B w (a.alloc o) := h.alloc hs o
theorem Box.keep {w w' : World} {k B : Nat} {cs : Array Value} (h : Box w k cs) (hb : Below B w w') (hk : k < B) : Box w' k cs :=
  ⟨fun o => (hb.cell (p := ⟨k, o, none⟩) hk).trans (h.1 o), Nat.lt_of_lt_of_le h.2 hb.size⟩
/-- A variable's block: its cells, and that they may be written. -/
structure WB (w : World) (k : Nat) (cs : Array Value) : Prop where
  cell : ∀ o, w.cell? ⟨k, o, none⟩ = cs[o]?
  lt : k < w.heap.size
  free : ∀ o, w.frozen? ⟨k, o, none⟩ = false
theorem WB.at {w : World} {k : Nat} {cs : Array Value} {t : TypeId} (hk : k = w.heap.size) : WB (w.alloc (.cells cs t)) k cs := by
  subst hk
  exact ⟨fun o => by simp [go_sem], by simp, fun o => by simp [go_sem]⟩
theorem WB.grow {w w' : World} {k B : Nat} {cs : Array Value} (h : WB w k cs) (hb : Below B w w') (hk : k < B) : WB w' k cs :=
  ⟨fun o => (hb.cell (p := ⟨k, o, none⟩) hk).trans (h.cell o), Nat.lt_of_lt_of_le h.lt hb.size, fun o => (hb.frozen (p := ⟨k, o, none⟩) hk).trans (h.free o)⟩
theorem WB.keep {w w' : World} {k : Nat} {cs : Array Value} (h : WB w k cs) (hb : Below w.heap.size w w') : WB w' k cs := h.grow hb h.lt
theorem WB.growA {w : World} {k : Nat} {cs : Array Value} {o : Obj} (h : WB w k cs) : WB (w.alloc o) k cs := h.keep ((Below.refl _ _).alloc (Nat.le_refl _) o)
theorem WB.growD {w : World} {k : Nat} {cs : Array Value} (h : WB w k cs) : WB w.drew k cs := ⟨h.cell, h.lt, h.free⟩
theorem WB.setOther {w : World} {k g o : Nat} {cs : Array Value} {u : Value} (h : WB w k cs) (hk : k ≠ g) : WB (w.setCell ⟨g, o, none⟩ u) k cs :=
  ⟨fun i => (World.cell?_of_block (Below.heap_setCell w _ u k hk)).trans (h.cell i), by rw [World.size_setCell]; exact h.lt, fun i => (World.frozen?_setCell w _ _ u).trans (h.free i)⟩
theorem WB.setAt {w : World} {k i : Nat} {cs cs' : Array Value} {u : Value} (h : WB w k cs) (hi : i < cs.size) (hc : cs' = cs.setIfInBounds i u) : WB (w.setCell ⟨k, i, none⟩ u) k cs' := by
  subst hc
  refine ⟨fun o => ?_, by rw [World.size_setCell]; exact h.lt, fun o => (World.frozen?_setCell w _ _ u).trans (h.free o)⟩
  by_cases e : i = o
  · subst e
    rw [World.cell?_setCell_same w _ u (by rw [h.cell, Array.getElem?_eq_getElem hi]), Array.getElem?_setIfInBounds_self_of_lt hi]
  · rw [World.cell?_setCell_other w _ _ u (fun h => e (congrArg Addr.off h)), h.cell, Array.getElem?_setIfInBounds_ne (by omega)]
theorem Fresh.setLow {α : Type} {R : Rep α} {B : Nat} {w : World} {cs : List Value} {x : α} {g o : Nat} {u : Value} (h : Fresh R B w cs x) (hg : g < B) : Fresh R B (w.setCell ⟨g, o, none⟩ u) cs x := by
  obtain ⟨fp, h1, h2, h3⟩ := h
  exact ⟨fp, R.frame h1 fun b hb => Below.heap_setCell _ _ _ _ (by have := h3 b hb; simp only []; omega), h2, h3⟩
theorem Fresh.drew {α : Type} {R : Rep α} {B : Nat} {w : World} {cs : List Value} {x : α} (h : Fresh R B w cs x) : Fresh R B w.drew cs x := h.below (belD belR)
theorem news_at {w : World} {xs : Array Value} {t : TypeId} {us : List Value} (h : xs.toList = us) : ∀ j y, us[j]? = some y → (w.alloc (.cells xs t)).cell? ⟨w.heap.size, j, none⟩ = some y := by
  subst h
  intro j y hy
  rw [Array.getElem?_toList] at hy
  rw [← hy]
  simp [go_sem]
theorem Fresh.nil {α : Type} {R : Rep α} {E : TypeId} {B : Nat} {w : World} : Fresh (Rep.slice E R) B w [.slice none 0 0] [] :=
  Fresh.of_owned (R := R) (E := E) (B := B) (w := w) (v := .slice none 0 0) [] (by simp) (B' := 0) (World.ownsRow_nil w 0 E R.n) (by simp [Value.ownBlock, feet]) (by simp [Value.ownBlock, feet])

end Go.Proofs.Ytjdoofekohjjlaa
