/-
  Elements as raw cells: a row is copied and added to cell by cell; its elements' own memory is told apart. No function of the program is named here.
-/
import Derived.Test.YtgicglmcapnogaaGreatInsGen
namespace Go.Proofs.YtgicglmcapnogaaGreat
open Go.RowKit

/-- n cells. -/
structure RawEl (n : Nat) where
  cs : List Value
  len : cs.length = n
  one : ∀ u ∈ cs, u.oneCell' = true
def Rep.raw (n : Nat) : Rep (RawEl n) := Rep.flat n (fun x => x.cs) (fun _ => True) (fun x => x.len) (fun x => x.one)
theorem FlatR.raw (n : Nat) : FlatR (Rep.raw n) (fun x => x.cs) (fun _ => True) := ⟨fun {_ _ _ _ _} => Iff.rfl⟩
theorem raw_of {n : Nat} : ∀ (cs : List (List Value)), (∀ c ∈ cs, c.length = n ∧ ∀ u ∈ c, u.oneCell' = true) → ∃ raws : List (RawEl n), raws.map (fun x => x.cs) = cs
  | [], _ => ⟨[], rfl⟩
  | c :: cs, h => by
    obtain ⟨rs, hr⟩ := raw_of cs (fun c hc => h c (by simp [hc]))
    exact ⟨⟨c, (h c (by simp)).1, (h c (by simp)).2⟩ :: rs, by simp [hr]⟩
theorem raw_flat {n : Nat} (raws : List (RawEl n)) : raws.flatMap (fun x => x.cs) = (raws.map (fun x => x.cs)).flatten := List.flatMap_def ..
theorem mk_raw {α : Type} {R : Rep α} {w : World} {cs : List Value} {x : α} {B : Nat} (h : Fresh R B w cs x) : ∃ r : RawEl R.n, r.cs = cs := by
  obtain ⟨fp, h, _⟩ := h
  exact ⟨⟨cs, R.len h, R.one h⟩, rfl⟩

/-- A row that the call owns, as raw cells; and what a new row is that holds the same cells and one element more. -/
theorem Part.raws {α : Type} {R : Rep α} {E : TypeId} {B m : Nat} {w : World} {v : Value} {l : List α} (h : Part (Rep.slice E R) B m w [v] l) :
    ∃ raws : List (RawEl R.n), raws.length = l.length ∧ Fresh (Rep.slice E (Rep.raw R.n)) B w [v] raws ∧
      ∀ (w' : World) (v' : Value) (ds : List Value) (u : α) (k m2 A C : Nat) (r : RawEl R.n), Below m w w' → k ≤ l.length → r.cs = ds → Part R A C w' ds u → m ≤ m2 → m2 ≤ A → B ≤ m →
        Fresh (Rep.slice E (Rep.raw R.n)) m2 w' [v'] (insAt raws k r) → (∀ b ∈ v'.ownBlock.toList, b < A ∨ C ≤ b) → Gap (Rep.slice E R) B m m2 w' [v'] (insAt l k u) := by
  obtain ⟨ts, rfl, h1, h2, hnd, hge⟩ := h.owned
  obtain ⟨raws, hr⟩ := raw_of (n := R.n) (ts.map fun t => t.1) (fun c hc => by
    obtain ⟨t, ht, rfl⟩ := List.mem_map.1 hc
    exact ⟨R.len (h1 t ht), R.one (h1 t ht)⟩)
  have hlen : raws.length = ts.length := by have := congrArg List.length hr; simpa using this
  refine ⟨raws, by rw [vals_length]; exact hlen, ?_, ?_⟩
  · refine (FlatR.raw R.n).fresh (B' := B) ?_ (fun _ _ => trivial) (fun b hb => (hge b (List.mem_append.2 (.inl hb))).1)
    rw [raw_flat, hr, hlen, ← List.flatMap_def]
    exact h2
  · intro w' v' ds u k m2 A C r hb hk hrd hu hmm hmA hBm hf hv
    subst hrd
    obtain ⟨fu, r1, r2, r3⟩ := hu
    rw [vals_length] at hk
    have ho := ((FlatR.raw R.n).own hf).1
    have hvb := World.ownsRow.lt ho
    have e1 : (insAt raws k r).flatMap (fun x => x.cs) = cellsOf (ts.take k ++ (r.cs, u, fu) :: ts.drop k) := by
      rw [raw_flat]
      simp only [insAt, cellsOf, List.flatMap_append, List.flatMap_cons, List.map_append, List.map_cons, List.map_take, List.map_drop, hr, List.flatten_append, List.flatten_cons]
      simp only [List.flatMap_def, List.map_take, List.map_drop]
    have e2 : vals (ts.take k ++ (r.cs, u, fu) :: ts.drop k) = insAt (vals ts) k u := by simp [vals, insAt, List.map_take, List.map_drop]
    have e4 : feet (ts.take k ++ (r.cs, u, fu) :: ts.drop k) = feet (ts.take k) ++ (fu ++ feet (ts.drop k)) := by simp [feet]
    have e5 : feet ts = feet (ts.take k) ++ feet (ts.drop k) := by
      unfold feet
      rw [← List.flatMap_append, List.take_append_drop]
    have hnd0 := (List.nodup_append.1 hnd).2.1
    have hlt : ∀ b ∈ feet (ts.take k) ++ feet (ts.drop k), B ≤ b ∧ b < m := fun b hb => hge b (List.mem_append.2 (.inr (by rw [e5]; exact hb)))
    rw [e5, List.nodup_append] at hnd0
    have hfe : (feet (ts.take k) ++ (fu ++ feet (ts.drop k))).Nodup := by
      rw [List.nodup_append, List.nodup_append]
      refine ⟨hnd0.1, ⟨r2, hnd0.2.1, fun a ha b hb hab => ?_⟩, fun a ha b hb hab => ?_⟩
      · have := r3 a ha; have := (hlt b (List.mem_append.2 (.inr hb))).2; omega
      · rcases List.mem_append.1 hb with hb | hb
        · have := r3 b hb; have := (hlt a (List.mem_append.2 (.inl ha))).2; omega
        · exact hnd0.2.2 a ha b hb hab
    have hall : ∀ b ∈ feet (ts.take k) ++ (fu ++ feet (ts.drop k)), (B ≤ b ∧ (b < m ∨ m2 ≤ b)) ∧ b ∉ v'.ownBlock.toList := by
      intro b hb
      rcases List.mem_append.1 hb with hb | hb
      · have h3 := hlt b (List.mem_append.2 (.inl hb))
        exact ⟨⟨h3.1, .inl h3.2⟩, fun hv' => by have := (hvb b (by simpa using hv')).1; omega⟩
      · rcases List.mem_append.1 hb with hb | hb
        · have h3 := r3 b hb
          exact ⟨⟨by omega, .inr (by omega)⟩, fun hv' => by have := hv b hv'; omega⟩
        · have h3 := hlt b (List.mem_append.2 (.inr hb))
          exact ⟨⟨h3.1, .inl h3.2⟩, fun hv' => by have := (hvb b (by simpa using hv')).1; omega⟩
    rw [← e2]
    refine Gap.of_owned (B' := m2) (ts.take k ++ (r.cs, u, fu) :: ts.drop k) (fun t ht => ?_) ?_ ?_ ?_
    · have hold : ∀ t ∈ ts, R.rd true w' t.1 t.2.1 t.2.2 := fun t ht => R.frame (h1 t ht) fun b hb' => hb.block b (hge b (List.mem_append.2 (.inr (List.mem_flatMap.2 ⟨t, ht, hb'⟩)))).2
      rcases List.mem_append.1 ht with ht | ht
      · exact hold t (List.mem_of_mem_take ht)
      · rcases List.mem_cons.1 ht with rfl | ht
        · exact r1
        · exact hold t (List.mem_of_mem_drop ht)
    · have el : (ts.take k ++ (r.cs, u, fu) :: ts.drop k).length = (insAt raws k r).length := by
        rw [insAt_length (by omega), hlen]; simp; omega
      rw [el, ← e1]
      exact ho
    · rw [e4, List.nodup_append]
      exact ⟨by cases v'.ownBlock <;> simp, hfe, fun a ha b hb hab => (hall b hb).2 (hab ▸ ha)⟩
    · intro b hb
      rw [e4] at hb
      rcases List.mem_append.1 hb with hb | hb
      · have := (hvb b (by simpa using hb)).1; exact ⟨by omega, .inr (by omega)⟩
      · exact (hall b hb).1

theorem Part.off {α : Type} {R : Rep α} {lo hi : Nat} {w w' : World} {cs : List Value} {x : α} {fq : List Nat} (h : Part R lo hi w cs x) (hc : Chg fq w w') (hd : ∀ b ∈ fq, b < lo ∨ hi ≤ b) : Part R lo hi w' cs x := by
  obtain ⟨fp, h, h2, h3⟩ := h
  exact ⟨fp, hc.keeps h fun b hb hb' => by have := h3 b hb; have := hd b hb'; omega, h2, h3⟩

section
variable {α : Type} {R : Rep α} {enc : α → List Value} {ok : α → Prop}
/-- append onto a slice that the call owns: what it may have changed, and where the row lies. -/
theorem FlatR.grow3 (h : FlatR R enc ok) {P : Program} (w : World) {ops : Array Oper} {rest : List Oper} {o : Oper} {a : Act} {Q : Exit → Act → World → Prop} (hgd : o.guard = none) (s x : Operand) (t tx : TypeId)
    (ho : o.op = .call { callee := .builtin .append, args := #[s, x], argTypes := #[t, tx] })
    (B : Nat) (e : TypeId) (i : TypeInfo) (z : Value) (bytes : Nat) (ht : P.underlying t = some (.slice e)) {e' : TypeId} (htx : P.underlying tx = some (.slice e')) (hi : P.info? e = some i) (hz : i.zero = some z)
    (hsize : i.size = R.n) (hby : i.bytes = bytes) (hzs : z.cells.size = R.n)
    (v : Value) (l : List α) (hv : a.eval s = v) (hown : Fresh (Rep.slice e R) B w [v] l)
    (sv : Value) (us : List α) (hx : a.eval x = sv) (hr : Reads (Rep.slice e R) w [sv] us)
    (m : Nat) (hm : l.length + us.length = m) (hlen : m ≤ 16777216) (hbytes : bytes ≤ 8388608) (hbase : B ≤ w.heap.size)
    (hgo : ∀ ao cap w', Fresh (Rep.slice e R) B w' [.slice ao m cap] (l ++ us) → Chg v.ownBlock.toList w w' → Below B w w' → (∀ b ∈ (Value.slice ao m cap).ownBlock.toList, b ∈ v.ownBlock.toList ∨ b = w.heap.size) →
      wpList P ops Q rest (a.put o.dst (.slice ao m cap)) w') : wpList P ops Q (o :: rest) a w := by
  subst hm
  have hmul : (l.length + us.length) * bytes ≤ 16777216 * 8388608 := Nat.mul_le_mul hlen hbytes
  obtain ⟨ho1, ho2⟩ := h.own hown
  have hge := World.ownsRow.lt ho1
  have hs : Src P R.n tx sv us.length (us.flatMap enc) w := h.src htx hr
  have hok := (h.row hr).2
  obtain ⟨v', w', hrun, h2, h3, h4, ao, cap, rfl⟩ := run_append_src (P := P) w B t tx o.type e i z R.n bytes ht hi hz hsize hby hzs v l.length _ ho1 _ us.length (us.flatMap enc) hs (by omega) (by unfold maxLen; omega) hbase
  refine wpList_plain hgd fun K hK => ?_
  unfold Oper.wp execOp
  simp only [ho, resolve, invoke, builtin, Sem.run_bind, Sem.run_pure, Result.andThen_ok, List.map_toArray, List.map_cons, List.map_nil, hv, hx, hrun]
  refine hK _ _ (hgo ao cap w' (h.fresh (B' := B) (by rw [List.length_append, List.flatMap_append]; exact h2) (fun y hy => (List.mem_append.1 hy).elim (ho2 y) (hok y)) fun b hb => ?_) (Chg.of_grown h3) (grow_below h3 (fun b hb => (hge b (by simpa using hb)).1) hbase) h4)
  rcases h4 b hb with hb | rfl
  · exact (hge b (by simpa using hb)).1
  · exact hbase


/-- The same at a step of a region that draws its order. -/
theorem FlatR.step_growD (h : FlatR R enc ok) {P : Program} (w : World) {ops : Array Oper} {o : Oper} {a : Act} {K : Act → World → Prop} {Q : Exit → Act → World → Prop} {X : Prop} (hgd : o.guard = none) (s x : Operand) (t tx : TypeId)
    (ho : o.op = .call { callee := .builtin .append, args := #[s, x], argTypes := #[t, tx] })
    (B : Nat) (e : TypeId) (i : TypeInfo) (z : Value) (bytes : Nat) (ht : P.underlying t = some (.slice e)) {e' : TypeId} (htx : P.underlying tx = some (.slice e')) (hi : P.info? e = some i) (hz : i.zero = some z)
    (hsize : i.size = R.n) (hby : i.bytes = bytes) (hzs : z.cells.size = R.n)
    (v : Value) (l : List α) (hv : a.eval s = v) (hown : Fresh (Rep.slice e R) B w [v] l)
    (sv : Value) (us : List α) (hx : a.eval x = sv) (hr : Reads (Rep.slice e R) w [sv] us)
    (m : Nat) (hm : l.length + us.length = m) (hlen : m ≤ 16777216) (hbytes : bytes ≤ 8388608) (hbase : B ≤ w.heap.size)
    (hgo : ∀ ao cap w', Fresh (Rep.slice e R) B w' [.slice ao m cap] (l ++ us) → Chg v.ownBlock.toList w w' → Below B w w' → (∀ b ∈ (Value.slice ao m cap).ownBlock.toList, b ∈ v.ownBlock.toList ∨ b = w.heap.size) →
      K (a.put o.dst (.slice ao m cap)) w') : if Region.wanted o (yielded ops a.tmps) = true then Oper.wp P o a w K Q else X := by
  subst hm
  have hw : Region.wanted o (yielded ops a.tmps) = true := by simp [Region.wanted, hgd]
  rw [if_pos hw]
  have hmul : (l.length + us.length) * bytes ≤ 16777216 * 8388608 := Nat.mul_le_mul hlen hbytes
  obtain ⟨ho1, ho2⟩ := h.own hown
  have hge := World.ownsRow.lt ho1
  have hs : Src P R.n tx sv us.length (us.flatMap enc) w := h.src htx hr
  have hok := (h.row hr).2
  obtain ⟨v', w', hrun, h2, h3, h4, ao, cap, rfl⟩ := run_append_src (P := P) w B t tx o.type e i z R.n bytes ht hi hz hsize hby hzs v l.length _ ho1 _ us.length (us.flatMap enc) hs (by omega) (by unfold maxLen; omega) hbase
  unfold Oper.wp execOp
  simp only [ho, resolve, invoke, builtin, Sem.run_bind, Sem.run_pure, Result.andThen_ok, List.map_toArray, List.map_cons, List.map_nil, hv, hx, hrun]
  refine hgo ao cap w' (h.fresh (B' := B) (by rw [List.length_append, List.flatMap_append]; exact h2) (fun y hy => (List.mem_append.1 hy).elim (ho2 y) (hok y)) fun b hb => ?_) (Chg.of_grown h3) (grow_below h3 (fun b hb => (hge b (by simpa using hb)).1) hbase) h4
  rcases h4 b hb with hb | rfl
  · exact (hge b (by simpa using hb)).1
  · exact hbase
end

end Go.Proofs.YtgicglmcapnogaaGreat
