/-
  Searches over slices, stores into a slice that the call owns, clear on its tail. No function of the program is named here.
-/
import Derived.Test.YtjdoofekohjjlaaGrow
namespace Go.Proofs.Ytjdoofekohjjlaa
open Go.RowKit

theorem bytes_ext {a b : ByteArray} (h : a.toList = b.toList) : a = b := by
  rw [ByteArray.toList_eq, ByteArray.toList_eq] at h
  obtain ⟨⟨x⟩⟩ := a
  obtain ⟨⟨y⟩⟩ := b
  simp only at h
  rw [h]
/-- The first place at which p holds, or -1. -/
def idxF {α : Type} (p : α → Bool) (l : List α) : Int := match l.findIdx? p with | some i => (i : Int) | none => -1
theorem idxF_hit {α : Type} {p : α → Bool} {l : List α} {k : Nat} (hk : k < l.length) (hp : p l[k] = true) (hall : ∀ j, (hj : j < l.length) → j < k → p l[j] = false) : idxF p l = k := by
  have : l.findIdx? p = some k := List.findIdx?_eq_some_iff_getElem.2 ⟨hk, hp, fun j hj => by have := hall j (by omega) hj; simp [this]⟩
  unfold idxF; rw [this]
theorem idxF_miss {α : Type} {p : α → Bool} {l : List α} (hall : ∀ j, (hj : j < l.length) → p l[j] = false) : idxF p l = -1 := by
  have : l.findIdx? p = none := List.findIdx?_eq_none_iff.2 fun x hx => by
    obtain ⟨j, hj, rfl⟩ := List.getElem_of_mem hx
    exact hall j hj
  unfold idxF; rw [this]
theorem idxF_cases {α : Type} (p : α → Bool) (l : List α) : (idxF p l = -1 ∧ (∀ j, (hj : j < l.length) → p l[j] = false)) ∨ ∃ k : Nat, ∃ hk : k < l.length, idxF p l = k ∧ p l[k] = true ∧ ∀ j, (hj : j < l.length) → j < k → p l[j] = false := by
  cases h : l.findIdx? p with
  | none => exact .inl ⟨by unfold idxF; rw [h], fun j hj => List.findIdx?_eq_none_iff.1 h _ (List.getElem_mem hj)⟩
  | some k =>
    obtain ⟨hk, hp, hall⟩ := List.findIdx?_eq_some_iff_getElem.1 h
    exact .inr ⟨k, hk, by unfold idxF; rw [h], hp, fun j hj hjk => by have := hall j hjk; simpa using this⟩
theorem any_idxF {α : Type} (p : α → Bool) (l : List α) : decide (0 ≤ idxF p l) = l.any p := by
  rcases idxF_cases p l with ⟨h, hall⟩ | ⟨k, hk, h, hp, _⟩
  · rw [h]
    symm
    rw [show decide ((0 : Int) ≤ -1) = false from rfl, List.any_eq_false]
    intro x hx
    obtain ⟨j, hj, rfl⟩ := List.getElem_of_mem hx
    rw [hall j hj]; simp
  · rw [h]
    have : l.any p = true := List.any_eq_true.2 ⟨_, List.getElem_mem hk, hp⟩
    rw [this]
    exact decide_eq_true (by omega)
/-- No element ahead of k: so of the first k + 1. -/
theorem none_snoc {α : Type} {p : α → Bool} {l : List α} {k : Nat} (hk : k < l.length) (h : ∀ j, (hj : j < l.length) → j < k → p l[j] = false) (hp : p l[k] = false) : ∀ j, (hj : j < l.length) → j < k + 1 → p l[j] = false := by
  intro j hj hjk
  by_cases e : j = k
  · subst e; exact hp
  · exact h j hj (by omega)

/-- The world at hand gets a name; only what F says of it is kept. -/
theorem settleP {G : World → Prop} {E : World} (F : World → Prop) (hE : F E) (h : ∀ W, F W → G W) : G E := h E hE
theorem settleC {P : Program} {f : FuncId} {args : Array Value} {Q : Ending → World → Prop} {E : World} (F : World → Prop) (hE : F E) (h : ∀ W, F W → Calls P f args W Q) : Calls P f args E Q := h E hE
/-- Where slices.DeleteFunc stands: m is what the row holds, i elements are kept, j are seen. -/
structure DelInv {α : Type} (p : α → Bool) (l m : List α) (i j : Nat) : Prop where
  len : m.length = l.length
  lt : i < j
  le : j ≤ l.length
  low : m.take i = (l.take j).filter fun x => !p x
  high : m.drop j = l.drop j
theorem filter_none {α : Type} {p : α → Bool} {l : List α} (hall : ∀ j, (hj : j < l.length) → p l[j] = false) : (l.filter fun x => !p x) = l := by
  rw [List.filter_eq_self]
  intro x hx
  obtain ⟨j, hj, rfl⟩ := List.getElem_of_mem hx
  rw [hall j hj]; rfl
theorem DelInv.start {α : Type} {p : α → Bool} {l : List α} {k : Nat} (hk : k < l.length) (hp : p l[k] = true) (hall : ∀ j, (hj : j < l.length) → j < k → p l[j] = false) : DelInv p l l k (k + 1) := by
  refine ⟨rfl, Nat.lt_succ_self k, hk, ?_, rfl⟩
  rw [List.take_succ_eq_append_getElem hk, List.filter_append]
  have e1 : ((l.take k).filter fun x => !p x) = l.take k := filter_none fun j hj => by
    rw [List.length_take] at hj
    rw [List.getElem_take]
    exact hall j (by omega) (by omega)
  rw [e1]
  simp [hp]
theorem DelInv.at {α : Type} {p : α → Bool} {l m : List α} {i j : Nat} (h : DelInv p l m i j) (hj : j < l.length) (hj' : j < m.length) : m[j] = l[j] := by
  have e : (m.drop j)[0]? = (l.drop j)[0]? := by rw [h.high]
  rw [List.getElem?_drop, List.getElem?_drop, Nat.add_zero, List.getElem?_eq_getElem hj, List.getElem?_eq_getElem hj'] at e
  exact Option.some.inj e
theorem drop_succ_of {α : Type} {l m : List α} {j : Nat} (h : m.drop j = l.drop j) : m.drop (j + 1) = l.drop (j + 1) := by
  rw [← List.drop_drop, h, List.drop_drop]
theorem DelInv.keep {α : Type} {p : α → Bool} {l m : List α} {i j : Nat} (h : DelInv p l m i j) (hj : j < l.length) (hp : p l[j] = false) : DelInv p l (m.set i l[j]) (i + 1) (j + 1) := by
  have hl := h.len; have hlt := h.lt; have hle := h.le
  refine ⟨by rw [List.length_set]; exact hl, by omega, hj, ?_, ?_⟩
  · rw [List.take_succ_eq_append_getElem hj, List.filter_append, ← h.low, List.take_succ_eq_append_getElem (by rw [List.length_set]; omega), List.getElem_set_self, List.take_set_of_le (Nat.le_refl _)]
    simp [hp]
  · rw [List.drop_set_of_lt (by omega)]
    exact drop_succ_of h.high
theorem DelInv.skip {α : Type} {p : α → Bool} {l m : List α} {i j : Nat} (h : DelInv p l m i j) (hj : j < l.length) (hp : p l[j] = true) : DelInv p l m i (j + 1) := by
  have hlt := h.lt
  refine ⟨h.len, by omega, hj, ?_, drop_succ_of h.high⟩
  rw [List.take_succ_eq_append_getElem hj, List.filter_append, ← h.low]
  simp [hp]
theorem DelInv.done {α : Type} {p : α → Bool} {l m : List α} {i j : Nat} (h : DelInv p l m i j) (hj : ¬ j < l.length) : m.take i = l.filter fun x => !p x := by
  rw [h.low, List.take_of_length_le (by omega)]

theorem Chg.below {fp : List Nat} {B : Nat} {w w' : World} (h : Chg fp w w') (hB : ∀ b ∈ fp, B ≤ b) (hs : B ≤ w.heap.size) : Below B w w' :=
  ⟨h.os, h.tape, h.output, h.size, fun b hb => h.block b (by omega) fun hm => by have := hB b hm; omega⟩
theorem WB.chg {w w' : World} {k : Nat} {cs : Array Value} {fp : List Nat} (h : WB w k cs) (hc : Chg fp w w') (hk : k ∉ fp) : WB w' k cs :=
  ⟨fun o => (World.cell?_of_block (hc.block k h.lt hk)).trans (h.cell o), Nat.lt_of_lt_of_le h.lt hc.size, fun o => (World.frozen?_of_block (hc.block k h.lt hk)).trans (h.free o)⟩
theorem Fresh.ownlt {α : Type} {R : Rep α} {E : TypeId} {B : Nat} {w : World} {v : Value} {l : List α} (h : Fresh (Rep.slice E R) B w [v] l) : ∀ b ∈ v.ownBlock.toList, B ≤ b ∧ b < w.heap.size := by
  obtain ⟨ts, _, _, h3, _, _⟩ := h.owned
  intro b hb
  exact World.ownsRow.lt h3 b (by simpa using hb)

/-- What is asked of a function value that tests an element: it only lays blocks. -/
def PredOn {α : Type} (P : Program) (R : Rep α) (g : FuncId) (cap : Array Value) (p : α → Bool) (B : Nat) (w : World) : Prop :=
  ∀ (W : World) (cs : List Value) (x : α), Below B w W → Reads R W cs x → Calls P g (#[.agg cs.toArray] ++ cap) W fun e W' => e = .returned (.bool (p x)) ∧ Below W.heap.size W W'
theorem PredOn.later {α : Type} {P : Program} {R : Rep α} {g : FuncId} {cap : Array Value} {p : α → Bool} {B : Nat} {w w' : World} (h : PredOn P R g cap p B w) (hb : Below B w w') : PredOn P R g cap p B w' :=
  fun W cs x hW hr => h W cs x (hb.trans hW) hr
def Enters (P : Program) (g : FuncId) : Prop := ∀ args w, (callFunc g args).run P w = .ok (.enter g args) w
theorem enters_at {P : Program} {f : FuncId} {fn : Func} {c : Code} (hf : P.funcs[f]? = some fn) (hn : (fn.name == "runtime.NumGoroutine") = false) (hb : fn.body = some c) : Enters P f := by
  intro args w
  have h1 : fn.name ≠ "runtime.NumGoroutine" := by simpa using hn
  simp [callFunc, hf, h1, hb, mark]

section
variable {α : Type} {R : Rep α} {enc : α → List Value} {ok : α → Prop}

/-- A slice with an element that the call owns lies at the head of a row. -/
theorem FlatR.at (h : FlatR R enc ok) {E : TypeId} {B : Nat} {w : World} {v : Value} {l : List α} (hf : Fresh (Rep.slice E R) B w [v] l) (i : Nat) (hi : i < l.length) :
    ∃ g cap, v = .slice (some ⟨g, 0, none⟩) l.length cap ∧ l.length ≤ cap ∧ cap ≤ maxLen ∧ B ≤ g ∧ g < w.heap.size ∧ (∀ j, j < R.n → w.cell? ⟨g, i * R.n + j, none⟩ = (enc l[i])[j]?) ∧ ∀ j, w.frozen? ⟨g, j, none⟩ = false := by
  obtain ⟨ho, hok⟩ := h.own hf
  have ho' := ho
  rcases ho.2 with ⟨rfl, h0⟩ | ⟨g, cap, cur, rfl, hb, hg, hnc, hcm, hcs, htake⟩
  · omega
  · refine ⟨g, cap, rfl, hnc, hcm, hb, (Array.getElem?_eq_some_iff.1 hg).1, fun j hj => ?_, fun j => World.ownsRow.frozenAt ho' j⟩
    have hlt : i * R.n + j < l.length * R.n := by
      have : (i + 1) * R.n ≤ l.length * R.n := Nat.mul_le_mul_right _ hi
      rw [Nat.add_mul] at this; omega
    rw [World.ownsRow.cellAt ho' _ hlt]
    have hat := cellsOf_at (n := R.n) (l.map fun x => ((enc x, x, []) : El α)) i j (enc l[i], l[i], []) (fun t ht => by
      obtain ⟨x, hx, rfl⟩ := List.mem_map.1 ht
      exact h.len (hok x hx)) (by simp [List.getElem?_eq_getElem hi]) hj
    rw [(els_flat enc l).1] at hat
    rw [← hat]

theorem FlatR.ok_of (h : FlatR R enc ok) {E : TypeId} {B : Nat} {w : World} {v : Value} {l : List α} (hf : Fresh (Rep.slice E R) B w [v] l) : ∀ x ∈ l, ok x := (h.own hf).2

theorem Chg.of_grown {w w' : World} {v : Value} (h : w.grownBy w' v.ownBlock) : Chg v.ownBlock.toList w w' :=
  ⟨h.os, h.tape, h.output, h.size, fun b hb hn => h.block b hb fun e => hn (by rw [← e]; simp)⟩

/-- append onto a slice that the call owns, from whatever source; and which blocks it may have changed. -/
theorem FlatR.grow2 (h : FlatR R enc ok) {P : Program} (w : World) {ops : Array Oper} {rest : List Oper} {o : Oper} {a : Act} {Q : Exit → Act → World → Prop} (hgd : o.guard = none) (s x : Operand) (t tx : TypeId)
    (ho : o.op = .call { callee := .builtin .append, args := #[s, x], argTypes := #[t, tx] })
    (B : Nat) (e : TypeId) (i : TypeInfo) (z : Value) (bytes : Nat) (ht : P.underlying t = some (.slice e)) {e' : TypeId} (htx : P.underlying tx = some (.slice e')) (hi : P.info? e = some i) (hz : i.zero = some z)
    (hsize : i.size = R.n) (hby : i.bytes = bytes) (hzs : z.cells.size = R.n)
    (v : Value) (l : List α) (hv : a.eval s = v) (hown : Fresh (Rep.slice e R) B w [v] l)
    (sv : Value) (us : List α) (hx : a.eval x = sv) (hr : Reads (Rep.slice e R) w [sv] us)
    (hlen : l.length + us.length ≤ 16777216) (hbytes : bytes ≤ 8388608) (hbase : B ≤ w.heap.size)
    (hgo : ∀ ao cap w', Fresh (Rep.slice e R) B w' [.slice ao (l.length + us.length) cap] (l ++ us) → Chg v.ownBlock.toList w w' → (∀ b ∈ (Value.slice ao (l.length + us.length) cap).ownBlock.toList, b ∈ v.ownBlock.toList ∨ b = w.heap.size) →
      wpList P ops Q rest (a.put o.dst (.slice ao (l.length + us.length) cap)) w') : wpList P ops Q (o :: rest) a w := by
  have hmul : (l.length + us.length) * bytes ≤ 16777216 * 8388608 := Nat.mul_le_mul hlen hbytes
  obtain ⟨ho1, ho2⟩ := h.own hown
  have hge := World.ownsRow.lt ho1
  have hs : Src P R.n tx sv us.length (us.flatMap enc) w := h.src htx hr
  have hok := (h.row hr).2
  obtain ⟨v', w', hrun, h2, h3, h4, ao, cap, rfl⟩ := run_append_src (P := P) w B t tx o.type e i z R.n bytes ht hi hz hsize hby hzs v l.length _ ho1 _ us.length (us.flatMap enc) hs (by omega) (by unfold maxLen; omega) hbase
  refine wpList_plain hgd fun K hK => ?_
  unfold Oper.wp execOp
  simp only [ho, resolve, invoke, builtin, Sem.run_bind, Sem.run_pure, Result.andThen_ok, List.map_toArray, List.map_cons, List.map_nil, hv, hx, hrun]
  refine hK _ _ (hgo ao cap w' (h.fresh (B' := B) (by rw [List.length_append, List.flatMap_append]; exact h2) (fun y hy => (List.mem_append.1 hy).elim (ho2 y) (hok y)) fun b hb => ?_) (Chg.of_grown h3) h4)
  rcases h4 b hb with hb | rfl
  · exact (hge b (by simpa using hb)).1
  · exact hbase

/-- One flat element, which lies in a literal of its own, reads as a slice. -/
theorem FlatR.one_reads (h : FlatR R enc ok) {E : TypeId} {w : World} {xs : Array Value} {t : TypeId} {u : α} {k : Nat} (hk : k = w.heap.size) (hxs : xs.toList = enc u) (hok : ok u) : Reads (Rep.slice E R) (w.alloc (.cells xs t)) [.slice (some ⟨k, 0, none⟩) 1 1] [u] := by
  subst hk
  have hrd : R.rd false (w.alloc (.cells xs t)) (enc u) u [] := h.rd.2 ⟨rfl, rfl, hok⟩
  refine ⟨_, _, [(enc u, u, [])], rfl, rfl, rfl, fun y hy => ?_, ⟨_, 1, rfl, Nat.le_refl _, by decide, .inr ⟨w.heap.size, 0, rfl, by simp, fun j y hy => ?_⟩⟩, fun h => by cases h⟩
  · simp at hy; subst hy; exact hrd
  · rw [Nat.zero_add]
    refine news_at hxs j y ?_
    simpa [cellsOf] using hy

/-- append onto a slice that the call owns, at a step of a region that draws its order. -/
theorem FlatR.step_grow (h : FlatR R enc ok) {P : Program} (w : World) {ops : Array Oper} {o : Oper} {a : Act} {K : Act → World → Prop} {Q : Exit → Act → World → Prop} {X : Prop} (hgd : o.guard = none) (s x : Operand) (t tx : TypeId)
    (ho : o.op = .call { callee := .builtin .append, args := #[s, x], argTypes := #[t, tx] })
    (B : Nat) (e : TypeId) (i : TypeInfo) (z : Value) (bytes : Nat) (ht : P.underlying t = some (.slice e)) {e' : TypeId} (htx : P.underlying tx = some (.slice e')) (hi : P.info? e = some i) (hz : i.zero = some z)
    (hsize : i.size = R.n) (hby : i.bytes = bytes) (hzs : z.cells.size = R.n)
    (v : Value) (l : List α) (hv : a.eval s = v) (hown : Fresh (Rep.slice e R) B w [v] l)
    (sv : Value) (us : List α) (hx : a.eval x = sv) (hr : Reads (Rep.slice e R) w [sv] us)
    (hlen : l.length + us.length ≤ 16777216) (hbytes : bytes ≤ 8388608) (hbase : B ≤ w.heap.size)
    (hgo : ∀ ao cap w', Fresh (Rep.slice e R) B w' [.slice ao (l.length + us.length) cap] (l ++ us) → Below B w w' → w.heap.size ≤ w'.heap.size →
      K (a.put o.dst (.slice ao (l.length + us.length) cap)) w') : if Region.wanted o (yielded ops a.tmps) = true then Oper.wp P o a w K Q else X := by
  have hw : Region.wanted o (yielded ops a.tmps) = true := by simp [Region.wanted, hgd]
  rw [if_pos hw]
  have hmul : (l.length + us.length) * bytes ≤ 16777216 * 8388608 := Nat.mul_le_mul hlen hbytes
  obtain ⟨ho1, ho2⟩ := h.own hown
  have hge := World.ownsRow.lt ho1
  have hs : Src P R.n tx sv us.length (us.flatMap enc) w := h.src htx hr
  have hok := (h.row hr).2
  obtain ⟨v', w', hrun, h2, h3, h4, ao, cap, rfl⟩ := run_append_src (P := P) w B t tx o.type e i z R.n bytes ht hi hz hsize hby hzs v l.length _ ho1 _ us.length (us.flatMap enc) hs (by omega) (by unfold maxLen; omega) hbase
  unfold Oper.wp execOp
  simp only [ho, resolve, invoke, builtin, Sem.run_bind, Sem.run_pure, Result.andThen_ok, List.map_toArray, List.map_cons, List.map_nil, hv, hx, hrun]
  refine hgo ao cap w' (h.fresh (B' := B) (by rw [List.length_append, List.flatMap_append]; exact h2) (fun y hy => (List.mem_append.1 hy).elim (ho2 y) (hok y)) fun b hb => ?_) (grow_below h3 (fun b hb => (hge b (by simpa using hb)).1) hbase) h3.size
  rcases h4 b hb with hb | rfl
  · exact (hge b (by simpa using hb)).1
  · exact hbase
/-- A store elsewhere. -/
theorem FlatR.setApart (h : FlatR R enc ok) {E : TypeId} {B : Nat} {w : World} {v : Value} {l : List α} {g o : Nat} {u : Value} (hf : Fresh (Rep.slice E R) B w [v] l) (hg : g ∉ v.ownBlock.toList) : Fresh (Rep.slice E R) B (w.setCell ⟨g, o, none⟩ u) [v] l := by
  obtain ⟨ho, hok⟩ := h.own hf
  have hge := World.ownsRow.lt ho
  exact h.fresh (B' := B) (ownsRow_frame ho fun b hb => Below.heap_setCell _ _ _ _ (fun e => hg (by rw [← show b = g from e]; exact hb))) hok fun b hb => (hge b (by simpa using hb)).1

/-- Cells of one element are stored. -/
theorem FlatR.setAt (h : FlatR R enc ok) {E : TypeId} {B : Nat} {w : World} {g cap n : Nat} {l : List α} (hf : Fresh (Rep.slice E R) B w [.slice (some ⟨g, 0, none⟩) n cap] l) (i : Nat) (hi : i < l.length) (o : Nat) (us : List Value) (x : α)
    (hx : enc x = (enc l[i]).take o ++ (us ++ (enc l[i]).drop (o + us.length))) (hfit : o + us.length ≤ R.n) (hok : ok x) :
    Fresh (Rep.slice E R) B (setCells w g (i * R.n + o) us) [.slice (some ⟨g, 0, none⟩) n cap] (l.set i x) := by
  obtain ⟨ao, cc, hv⟩ := hf.slice
  simp only [Value.slice.injEq] at hv
  obtain ⟨_, rfl, _⟩ := hv
  obtain ⟨ho, hoks⟩ := h.own hf
  have hge := World.ownsRow.lt ho
  have hlen : (enc l[i]).length = R.n := h.len (hoks _ (List.getElem_mem hi))
  have hlt : ((l.take i).flatMap enc).length = i * R.n := by
    rw [flatMap_length h _ fun y hy => hoks y (List.mem_of_mem_take hy), List.length_take, Nat.min_eq_left (Nat.le_of_lt hi)]
  have hs := setCells_owns us (i * R.n + o) w _ ho
  have hsplit : l.flatMap enc = ((l.take i).flatMap enc ++ (enc l[i]).take o) ++ ((((enc l[i]).drop o).take us.length) ++ ((enc l[i]).drop (o + us.length) ++ (l.drop (i + 1)).flatMap enc)) := by
    have e1 : l = l.take i ++ (l[i] :: l.drop (i + 1)) := by rw [List.getElem_cons_drop, List.take_append_drop]
    have e2 : enc l[i] = (enc l[i]).take o ++ (((enc l[i]).drop o).take us.length ++ (enc l[i]).drop (o + us.length)) := by
      rw [← List.drop_drop, List.take_append_drop, List.take_append_drop]
    conv => lhs; rw [e1]
    rw [List.flatMap_append, List.flatMap_cons]
    conv => lhs; rw [e2]
    simp only [List.append_assoc]
  have hA : ((l.take i).flatMap enc ++ (enc l[i]).take o).length = i * R.n + o := by rw [List.length_append, hlt, List.length_take, hlen]; omega
  rw [hsplit, ← hA, setL_mid _ _ _ _ (by rw [List.length_take, List.length_drop, hlen]; omega), hA] at hs
  have hset : ((l.take i).flatMap enc ++ (enc l[i]).take o) ++ (us ++ ((enc l[i]).drop (o + us.length) ++ (l.drop (i + 1)).flatMap enc)) = (l.set i x).flatMap enc := by
    rw [List.set_eq_take_append_cons_drop, if_pos hi, List.flatMap_append, List.flatMap_cons, hx]
    simp only [List.append_assoc]
  rw [hset] at hs
  refine h.fresh (B' := B) (by rw [List.length_set]; exact hs) (fun y hy => ?_) fun b hb => (hge b (by simpa using hb)).1
  rcases List.mem_or_eq_of_mem_set hy with hy | rfl
  · exact hoks y hy
  · exact hok

/-- clear on the tail of a slice that the call owns: what is ahead stays. -/
theorem wpList_clear_own {P : Program} (h : FlatR R enc ok) (w : World) {ops : Array Oper} {rest : List Oper} {o : Oper} {a : Act} {Q : Exit → Act → World → Prop} (hgd : o.guard = none) (x : Operand) (t : TypeId)
    (ho : o.op = .call { callee := .builtin .clear, args := #[x], argTypes := #[t] })
    (B : Nat) (e : TypeId) (z : Value) (ht : P.underlying t = some (.slice e)) (hv : ∀ w, (zeroValue e).run P w = .ok z w) (hzs : z.cells.size = R.n) (hz1 : ∀ u ∈ z.cells.toList, u.oneCell' = true)
    (g cap n : Nat) (l : List α) (i : Nat) (hi : i < l.length) (hown : Fresh (Rep.slice e R) B w [.slice (some ⟨g, 0, none⟩) n cap] l)
    (s m c : Nat) (hx : a.eval x = .slice (some ⟨g, s, none⟩) m c) (hs : s = i * R.n) (hm : m = l.length - i)
    (hgo : ∀ w', Fresh (Rep.slice e R) B w' [.slice (some ⟨g, 0, none⟩) i cap] (l.take i) → Chg [g] w w' → wpList P ops Q rest (a.put o.dst (.tuple #[])) w') : wpList P ops Q (o :: rest) a w := by
  obtain ⟨ao, cc, hvv⟩ := hown.slice
  simp only [Value.slice.injEq] at hvv
  obtain ⟨_, rfl, _⟩ := hvv
  obtain ⟨how, hoks⟩ := h.own hown
  rcases how.2 with ⟨h0, _⟩ | ⟨g', cap', cur, hv', hbg, hg, hnc, hcm, hcs, htake⟩
  · simp at h0
  simp only [Value.slice.injEq, Option.some.injEq, Addr.mk.injEq, and_true, true_and] at hv'
  obtain ⟨⟨rfl, _⟩, rfl⟩ := hv'
  subst hs hm
  have hzlen : (Builtin.zeroCells z.cells (l.length - i)).toList.length = (l.length - i) * R.n := by rw [Array.length_toList, size_zeroCells, hzs, Nat.mul_comm]
  have hle : i * R.n + (l.length - i) * R.n = l.length * R.n := by rw [← Nat.add_mul]; congr 1; omega
  have hlc : l.length * R.n ≤ cap * R.n := Nat.mul_le_mul_right _ hnc
  have hst := run_storeCells_at P g (i * R.n) e (Builtin.zeroCells z.cells (l.length - i)).toList 0 cur w hg (by rw [hzlen, hcs]; omega) (by
    intro u hu
    rw [Builtin.zeroCells, Array.toList_map] at hu
    obtain ⟨j, hj, rfl⟩ := List.mem_map.1 hu
    have hj2 : j < (l.length - i) * z.cells.size := by simpa using hj
    have hpos : 0 < z.cells.size := Nat.pos_of_ne_zero fun e0 => by rw [e0] at hj2; simp at hj2
    have hlt := Nat.mod_lt j hpos
    rw [getElem!_pos z.cells _ hlt]
    exact hz1 _ (by simp))
  obtain ⟨m1, hm1⟩ : ∃ m1, l.length - i = m1 + 1 := ⟨l.length - i - 1, by omega⟩
  have hrun : (Builtin.clear_ #[t] o.type #[.slice (some ⟨g, i * R.n, none⟩) (l.length - i) c]).run P w = .ok (.tuple #[]) (w.setRow g (cur.toList.take (i * R.n) ++ (Builtin.zeroCells z.cells (l.length - i)).toList ++ cur.toList.drop (i * R.n + (l.length - i) * R.n)).toArray) := by
    rw [hzlen, Nat.add_zero] at hst
    rw [hm1] at hst ⊢
    simp [Builtin.clear_, run_underlying ht, hv, hst]
  refine wpList_plain hgd fun K hK => ?_
  unfold Oper.wp execOp
  simp only [ho, resolve, invoke, builtin, Sem.run_bind, Sem.run_pure, Result.andThen_ok, List.map_toArray, List.map_cons, List.map_nil, hx, hrun]
  refine hK _ _ (hgo _ ?_ ?_)
  · have hfl : ((l.take i).flatMap enc).length = i * R.n := by rw [flatMap_length h _ fun y hy => hoks y (List.mem_of_mem_take hy), List.length_take, Nat.min_eq_left (Nat.le_of_lt hi)]
    refine h.fresh (B' := B) ⟨by rw [hfl, List.length_take, Nat.min_eq_left (Nat.le_of_lt hi)], .inr ⟨g, cap, _, ?_, hbg, setRow_heap w g cur _ e _ hg, ?_, hcm, ?_, ?_⟩⟩ (fun y hy => hoks y (List.mem_of_mem_take hy)) (by simp [Value.ownBlock]; exact hbg)
    · rw [List.length_take, Nat.min_eq_left (Nat.le_of_lt hi)]
    · rw [List.length_take]; omega
    · simp only [List.size_toArray, List.length_append, List.length_take, List.length_drop, Array.length_toList, hzlen, hcs]
      omega
    · have e0 : (cur.toList.take (i * R.n)) = (l.take i).flatMap enc := by
        have e1 : cur.toList.take (i * R.n) = (cur.toList.take (l.length * R.n)).take (i * R.n) := by rw [List.take_take]; congr 1; omega
        rw [e1, htake]
        conv => lhs; rw [← List.take_append_drop i l, List.flatMap_append]
        rw [← hfl, List.take_left]
      rw [List.length_take, Nat.min_eq_left (Nat.le_of_lt hi), List.append_assoc, List.take_append_of_le_length (by rw [List.length_take, Array.length_toList, hcs]; omega), List.take_take, Nat.min_self, e0]
  · exact ⟨rfl, rfl, rfl, by simp [World.setRow], fun k _ hn => setRow_other w g k _ (fun e => hn (by simp [e]))⟩
end

end Go.Proofs.Ytjdoofekohjjlaa
