/-
  Laws on rows that a call owns: raw cells, one element changed, one inserted. No function of the program is named here.
-/
import Derived.Test.YteajhmpppciicaaCurFam
import Derived.Test.YteajhmpppciicaaRecFam
namespace Go.Proofs.Yteajhmpppciicaa
open Go.RowKit

theorem insAt_mem {α : Type} {l : List α} {t : Nat} {x y : α} (h : y ∈ insAt l t x) : y ∈ l ∨ y = x := by
  unfold insAt at h
  rcases List.mem_append.1 h with h | h
  · exact .inl (List.mem_of_mem_take h)
  · rcases List.mem_cons.1 h with h | h
    · exact .inr h
    · exact .inl (List.mem_of_mem_drop h)
theorem ownsRow_unique {w : World} {B B' : Nat} {e : TypeId} {size : Nat} {v : Value} {n : Nat} {xs ys : List Value} (h : w.ownsRow B e size v n xs) (h' : w.ownsRow B' e size v n ys) : xs = ys := by
  rcases h.2 with ⟨rfl, rfl⟩ | ⟨g, cap, cur, rfl, _, hg, _, _, _, ht⟩
  · have e1 := h.1
    have e2 := h'.1
    simp only [Nat.zero_mul] at e1 e2
    rw [List.eq_nil_of_length_eq_zero e1, List.eq_nil_of_length_eq_zero e2]
  · rcases h'.2 with ⟨hv, _⟩ | ⟨g', cap', cur', hv, _, hg', _, _, _, ht'⟩
    · simp at hv
    · simp only [Value.slice.injEq, Option.some.injEq, Addr.mk.injEq, and_true, true_and] at hv
      obtain ⟨rfl, rfl⟩ := hv
      rw [hg] at hg'
      simp only [Option.some.injEq, Obj.cells.injEq, and_true] at hg'
      subst hg'
      rw [← ht, ← ht']
theorem grown_of_below {w w' : World} {r : Option Nat} (h : Below w.heap.size w w') : w.grownBy w' r := ⟨h.os, h.tape, h.output, h.size, fun k hk _ => h.block k hk⟩
def Gap {α : Type} (R : Rep α) (B m m2 : Nat) (w : World) (cs : List Value) (x : α) : Prop := ∃ fp, R.rd true w cs x fp ∧ fp.Nodup ∧ ∀ b ∈ fp, B ≤ b ∧ (b < m ∨ m2 ≤ b)
theorem Gap.fresh {α : Type} {R : Rep α} {B m m2 : Nat} {w : World} {cs : List Value} {x : α} (h : Gap R B m m2 w cs x) : Fresh R B w cs x := by
  obtain ⟨fp, h1, h2, h3⟩ := h
  exact ⟨fp, h1, h2, fun b hb => (h3 b hb).1⟩
theorem Gap.set {α : Type} {R : Rep α} {B m m2 : Nat} {w : World} {cs : List Value} {x : α} {g o : Nat} {u : Value} (h : Gap R B m m2 w cs x) (hg : m ≤ g ∧ g < m2) : Gap R B m m2 (w.setCell ⟨g, o, none⟩ u) cs x := by
  obtain ⟨fp, h1, h2, h3⟩ := h
  exact ⟨fp, R.frame h1 fun b hb => Below.heap_setCell _ _ _ _ (by have := (h3 b hb).2; simp only []; omega), h2, h3⟩
theorem Gap.below {α : Type} {R : Rep α} {B m m2 : Nat} {w w' : World} {cs : List Value} {x : α} (h : Gap R B m m2 w cs x) (hb : Below w.heap.size w w') : Gap R B m m2 w' cs x := by
  obtain ⟨fp, h1, h2, h3⟩ := h
  exact ⟨fp, R.frame h1 fun b hb' => hb.block b (R.lt h1 b hb'), h2, h3⟩
theorem Gap.of_owned {α : Type} {R : Rep α} {E : TypeId} {B m m2 : Nat} {w : World} {v : Value} (ts : List (El α)) (h1 : ∀ t ∈ ts, R.rd true w t.1 t.2.1 t.2.2) {B' : Nat} (h3 : w.ownsRow B' E R.n v ts.length (cellsOf ts))
    (hnd : (v.ownBlock.toList ++ feet ts).Nodup) (hge : ∀ b ∈ v.ownBlock.toList ++ feet ts, B ≤ b ∧ (b < m ∨ m2 ≤ b)) : Gap (Rep.slice E R) B m m2 w [v] (vals ts) := by
  have e : head true v ts.length = v.ownBlock.toList := by simp [head]
  exact ⟨v.ownBlock.toList ++ feet ts, ⟨v, ts, rfl, rfl, by rw [e], h1, Row.of_owns h3, fun _ => ownsRow_rebase h3 fun _ _ => Nat.zero_le _⟩, hnd, hge⟩
section
variable {α : Type} {R : Rep α}
theorem cellsOf_take {n : Nat} : ∀ (ts : List (El α)) (k : Nat), (∀ t ∈ ts, t.1.length = n) → cellsOf (ts.take k) = (cellsOf ts).take (k * n)
  | ts, 0, _ => by simp [cellsOf]
  | [], k + 1, _ => by simp [cellsOf]
  | t :: ts, k + 1, h => by
    have h1 := h t (by simp)
    have e : cellsOf (t :: ts) = t.1 ++ cellsOf ts := by simp [cellsOf]
    have e' : cellsOf ((t :: ts).take (k + 1)) = t.1 ++ cellsOf (ts.take k) := by simp [cellsOf]
    rw [e', e, cellsOf_take ts k fun u hu => h u (by simp [hu]), List.take_append]
    have e1 : t.1.take ((k + 1) * n) = t.1 := List.take_of_length_le (by rw [h1, Nat.add_mul]; omega)
    rw [e1, h1, show (k + 1) * n - n = k * n by rw [Nat.add_mul]; omega]
theorem cellsOf_drop' {n : Nat} : ∀ (ts : List (El α)) (k : Nat), (∀ t ∈ ts, t.1.length = n) → cellsOf (ts.drop k) = (cellsOf ts).drop (k * n)
  | ts, 0, _ => by simp
  | [], k + 1, _ => by simp [cellsOf]
  | t :: ts, k + 1, h => by
    have h1 := h t (by simp)
    have e : cellsOf (t :: ts) = t.1 ++ cellsOf ts := by simp [cellsOf]
    have e1 : t.1.drop ((k + 1) * n) = [] := List.drop_of_length_le (by rw [h1, Nat.add_mul]; omega)
    have e2 : (k + 1) * n - n = k * n := by rw [Nat.add_mul]; omega
    rw [List.drop_succ_cons, cellsOf_drop' ts k fun u hu => h u (by simp [hu]), e, List.drop_append, h1, e1, e2, List.nil_append]
theorem Part.setEl {E : TypeId} {B m g cap n : Nat} {w : World} {l : List α} (h : Part (Rep.slice E R) B m w [.slice (some ⟨g, 0, none⟩) n cap] l) (i : Nat) (hi : i < l.length) (o : Nat) (us : List Value) (x : α) (hfit : o + us.length ≤ R.n)
    (hnew : ∀ cs fe, R.rd true w cs l[i] fe → fe.Nodup → (∀ b ∈ fe, B ≤ b ∧ b < m) → ∃ fx, R.rd true w (cs.take o ++ (us ++ cs.drop (o + us.length))) x fx ∧ fx.Nodup ∧ ∀ b ∈ fx, B ≤ b ∧ (b ∈ fe ∨ m ≤ b)) :
    Fresh (Rep.slice E R) B (setCells w g (i * R.n + o) us) [.slice (some ⟨g, 0, none⟩) n cap] (l.set i x) := by
  obtain ⟨ts, rfl, h1, h2, hnd, hge⟩ := h.owned
  rw [vals_length] at hi
  have hti : (vals ts)[i]'(by rw [vals_length]; exact hi) = ts[i].2.1 := by simp [vals]
  have hlen : ∀ t ∈ ts, t.1.length = R.n := fun t ht => R.len (h1 t ht)
  have hn : n = ts.length := by
    rcases h2.2 with ⟨h, _⟩ | ⟨g', cap', cur, h, _⟩
    · simp at h
    · simp only [Value.slice.injEq] at h; exact h.2.1
  subst hn
  have hm1 := h1 ts[i] (List.getElem_mem _)
  have hfi : ∀ b ∈ ts[i].2.2, b ∈ feet ts := fun b hb => List.mem_flatMap.2 ⟨ts[i], List.getElem_mem _, hb⟩
  have esplit : ts = ts.take i ++ (ts[i] :: ts.drop (i + 1)) := by rw [List.getElem_cons_drop, List.take_append_drop]
  have efeet : feet ts = feet (ts.take i) ++ (ts[i].2.2 ++ feet (ts.drop (i + 1))) := by
    unfold feet
    conv => lhs; rw [esplit]
    rw [List.flatMap_append, List.flatMap_cons]
  have hnd0 := (List.nodup_append.1 hnd).2.1
  have hnd1 := hnd0
  rw [efeet, List.nodup_append, List.nodup_append] at hnd1
  have hgf : ∀ b ∈ feet ts, b ≠ g := fun b hb e => (List.nodup_append.1 hnd).2.2 g (by simp [Value.ownBlock]) b hb e.symm
  have hgm := (hge g (List.mem_append.2 (.inl (by simp [Value.ownBlock])))).2
  obtain ⟨fx, k1, k2, k3⟩ := hnew ts[i].1 ts[i].2.2 (by rw [hti]; exact hm1) hnd1.2.1.1 (fun b hb => hge b (List.mem_append.2 (.inr (hfi b hb))))
  have hs := setCells_owns us (i * R.n + o) w _ h2
  have hlt : (cellsOf (ts.take i)).length = i * R.n := by
    rw [cellsOf_length _ fun t ht => hlen t (List.mem_of_mem_take ht), List.length_take, Nat.min_eq_left (Nat.le_of_lt hi)]
  have hli := hlen ts[i] (List.getElem_mem _)
  have hsplit : cellsOf ts = (cellsOf (ts.take i) ++ ts[i].1.take o) ++ (((ts[i].1.drop o).take us.length) ++ (ts[i].1.drop (o + us.length) ++ cellsOf (ts.drop (i + 1)))) := by
    have e2 : ts[i].1 = ts[i].1.take o ++ ((ts[i].1.drop o).take us.length ++ ts[i].1.drop (o + us.length)) := by
      rw [← List.drop_drop, List.take_append_drop, List.take_append_drop]
    conv => lhs; rw [esplit]
    have e3 : cellsOf (ts.take i ++ (ts[i] :: ts.drop (i + 1))) = cellsOf (ts.take i) ++ (ts[i].1 ++ cellsOf (ts.drop (i + 1))) := by simp only [cellsOf, List.flatMap_append, List.flatMap_cons]
    rw [e3]
    conv => lhs; rw [e2]
    simp only [List.append_assoc]
  have hA : (cellsOf (ts.take i) ++ ts[i].1.take o).length = i * R.n + o := by rw [List.length_append, hlt, List.length_take, hli]; omega
  rw [hsplit, ← hA, setL_mid _ _ _ _ (by rw [List.length_take, List.length_drop, hli]; omega), hA] at hs
  let t' : El α := (ts[i].1.take o ++ (us ++ ts[i].1.drop (o + us.length)), x, fx)
  have hset : (cellsOf (ts.take i) ++ ts[i].1.take o) ++ (us ++ (ts[i].1.drop (o + us.length) ++ cellsOf (ts.drop (i + 1)))) = cellsOf (ts.take i ++ (t' :: ts.drop (i + 1))) := by
    have e3 : cellsOf (ts.take i ++ (t' :: ts.drop (i + 1))) = cellsOf (ts.take i) ++ (t'.1 ++ cellsOf (ts.drop (i + 1))) := by simp [cellsOf]
    rw [e3]
    simp only [t', List.append_assoc]
  rw [hset] at hs
  have ev : (vals ts).set i x = vals (ts.take i ++ (t' :: ts.drop (i + 1))) := by
    rw [List.set_eq_take_append_cons_drop, if_pos (by rw [vals_length]; exact hi)]
    simp [vals, t', List.map_take, List.map_drop]
  have ef : feet (ts.take i ++ (t' :: ts.drop (i + 1))) = feet (ts.take i) ++ (fx ++ feet (ts.drop (i + 1))) := by simp [feet, t']
  have hfx : ∀ b ∈ fx, b ≠ g := fun b hb e => by
    rcases (k3 b hb).2 with h | h
    · exact hgf b (hfi b h) e
    · omega
  have hall : ∀ b ∈ feet (ts.take i ++ (t' :: ts.drop (i + 1))), b ≠ g ∧ B ≤ b := by
    intro b hb
    rw [ef] at hb
    have hin : ∀ b, b ∈ feet (ts.take i) ∨ b ∈ feet (ts.drop (i + 1)) → b ∈ feet ts := fun b h => by
      rw [efeet]; rcases h with h | h <;> simp [h]
    rcases List.mem_append.1 hb with hb | hb
    · exact ⟨hgf b (hin b (.inl hb)), (hge b (List.mem_append.2 (.inr (hin b (.inl hb))))).1⟩
    · rcases List.mem_append.1 hb with hb | hb
      · exact ⟨hfx b hb, (k3 b hb).1⟩
      · exact ⟨hgf b (hin b (.inr hb)), (hge b (List.mem_append.2 (.inr (hin b (.inr hb))))).1⟩
  have hgE : (Value.slice (some ⟨g, 0, none⟩) ts.length cap).ownBlock.toList = [g] := by simp [Value.ownBlock]
  rw [ev]
  refine Fresh.of_owned (B' := B) (ts.take i ++ (t' :: ts.drop (i + 1))) (fun t ht => ?_) ?_ ?_ ?_
  · have hr : R.rd true w t.1 t.2.1 t.2.2 := by
      rcases List.mem_append.1 ht with ht | ht
      · exact h1 t (List.mem_of_mem_take ht)
      · rcases List.mem_cons.1 ht with rfl | ht
        · exact k1
        · exact h1 t (List.mem_of_mem_drop ht)
    exact R.frame hr fun b hb => setCells_other (hall b (List.mem_flatMap.2 ⟨t, ht, hb⟩)).1 us _ w
  · have el : (ts.take i ++ (t' :: ts.drop (i + 1))).length = ts.length := by simp; omega
    rw [el]
    exact hs
  · rw [hgE, List.nodup_append]
    refine ⟨by simp, ?_, fun a ha b hb e => ?_⟩
    · rw [ef, List.nodup_append, List.nodup_append]
      have hdis : ∀ b ∈ fx, b ∉ feet (ts.take i) ∧ b ∉ feet (ts.drop (i + 1)) := by
        intro b hb
        rcases (k3 b hb).2 with h | h
        · exact ⟨fun h' => hnd1.2.2 b h' b (List.mem_append.2 (.inl h)) rfl, fun h' => hnd1.2.1.2.2 b h b h' rfl⟩
        · have hx : ∀ c ∈ feet ts, c < m := fun c hc => (hge c (List.mem_append.2 (.inr hc))).2
          exact ⟨fun h' => by have := hx b (by rw [efeet]; simp [h']); omega, fun h' => by have := hx b (by rw [efeet]; simp [h']); omega⟩
      refine ⟨hnd1.1, ⟨k2, hnd1.2.1.2.1, fun a ha b hb e => (hdis a ha).2 (e ▸ hb)⟩, fun a ha b hb e => ?_⟩
      rcases List.mem_append.1 hb with hb | hb
      · exact (hdis b hb).1 (e ▸ ha)
      · exact hnd1.2.2 a ha b (List.mem_append.2 (.inr hb)) e
    · simp at ha
      exact (hall b hb).1 (by rw [← e, ha])
  · intro b hb
    rcases List.mem_append.1 hb with hb | hb
    · rw [hgE] at hb
      simp at hb
      subst hb
      exact (hge b (List.mem_append.2 (.inl (by simp [Value.ownBlock])))).1
    · exact (hall b hb).2
end
theorem owned_at {α : Type} {R : Rep α} {E : TypeId} {B : Nat} {w : World} {v : Value} {l : List α} (hf : Fresh (Rep.slice E R) B w [v] l) (i : Nat) (hi : i < l.length) :
    ∃ g cap, v = .slice (some ⟨g, 0, none⟩) l.length cap ∧ g < w.heap.size ∧ (∀ j, w.frozen? ⟨g, j, none⟩ = false) ∧ ∀ j, j < R.n → ∃ u, w.cell? ⟨g, i * R.n + j, none⟩ = some u := by
  obtain ⟨ts, rfl, h1, ho, _, _⟩ := hf.owned
  rw [vals_length] at hi
  have ho' := ho
  rcases ho.2 with ⟨rfl, h0⟩ | ⟨g, cap, cur, rfl, hb, hg, hnc, hcm, hcs, htake⟩
  · omega
  · refine ⟨g, cap, by rw [vals_length], (Array.getElem?_eq_some_iff.1 hg).1, fun j => World.ownsRow.frozenAt ho' j, fun j hj => ?_⟩
    have hlt : i * R.n + j < ts.length * R.n := by
      have : (i + 1) * R.n ≤ ts.length * R.n := Nat.mul_le_mul_right _ hi
      rw [Nat.add_mul] at this; omega
    have hl := ho'.1
    exact ⟨_, (World.ownsRow.cellAt ho' _ hlt).trans (List.getElem?_eq_getElem (by omega))⟩
theorem chgDL {fp : List Nat} {a w : World} (h : Chg fp a.drew w) : Chg fp a w := ⟨h.os, h.tape, h.output, h.size, h.block⟩
structure RawEl (n : Nat) where
  cs : List Value
  len : cs.length = n
  one : ∀ u ∈ cs, u.oneCell' = true
def Rep.raw (n : Nat) : Rep (RawEl n) := Rep.flat n (fun x => x.cs) (fun _ => True) (fun x => x.len) (fun x => x.one)
theorem FlatR.raw (n : Nat) : FlatR (Rep.raw n) (fun x => x.cs) (fun _ => True) := ⟨fun {_ _ _ _ _} => Iff.rfl⟩
theorem raw_of {n : Nat} : ∀ (cs : List (List Value)), (∀ c ∈ cs, c.length = n ∧ ∀ u ∈ c, u.oneCell' = true) → ∃ raws : List (RawEl n), raws.map (fun x => x.cs) = cs
  | [], _ => ⟨[], rfl⟩
  | c :: cs, h => by
    obtain ⟨rs, hr⟩ := raw_of cs (fun c hc => h c (by simp [hc]))
    exact ⟨⟨c, (h c (by simp)).1, (h c (by simp)).2⟩ :: rs, by simp [hr]⟩
theorem raw_flat {n : Nat} (raws : List (RawEl n)) : raws.flatMap (fun x => x.cs) = (raws.map (fun x => x.cs)).flatten := List.flatMap_def ..
theorem mk_raw {α : Type} {R : Rep α} {w : World} {cs : List Value} {x : α} {B : Nat} (h : Fresh R B w cs x) : ∃ r : RawEl R.n, r.cs = cs := by
  obtain ⟨fp, h, _⟩ := h
  exact ⟨⟨cs, R.len h, R.one h⟩, rfl⟩
theorem Part.raws {α : Type} {R : Rep α} {E : TypeId} {B m : Nat} {w : World} {v : Value} {l : List α} (h : Part (Rep.slice E R) B m w [v] l) :
    ∃ raws : List (RawEl R.n), raws.length = l.length ∧ Fresh (Rep.slice E (Rep.raw R.n)) B w [v] raws ∧
      ∀ (w' : World) (v' : Value) (ds : List Value) (u : α) (k m2 A C : Nat) (r : RawEl R.n), Below m w w' → k ≤ l.length → r.cs = ds → Part R A C w' ds u → m ≤ m2 → m2 ≤ A → B ≤ m →
        Fresh (Rep.slice E (Rep.raw R.n)) m2 w' [v'] (insAt raws k r) → (∀ b ∈ v'.ownBlock.toList, b < A ∨ C ≤ b) → Gap (Rep.slice E R) B m m2 w' [v'] (insAt l k u) := by
  obtain ⟨ts, rfl, h1, h2, hnd, hge⟩ := h.owned
  obtain ⟨raws, hr⟩ := raw_of (n := R.n) (ts.map fun t => t.1) (fun c hc => by
    obtain ⟨t, ht, rfl⟩ := List.mem_map.1 hc
    exact ⟨R.len (h1 t ht), R.one (h1 t ht)⟩)
  have hlen : raws.length = ts.length := by have := congrArg List.length hr; simpa using this
  refine ⟨raws, by rw [vals_length]; exact hlen, ?_, ?_⟩
  · refine (FlatR.raw R.n).fresh (B' := B) ?_ (fun _ _ => trivial) (fun b hb => (hge b (List.mem_append.2 (.inl hb))).1)
    rw [raw_flat, hr, hlen, ← List.flatMap_def]
    exact h2
  · intro w' v' ds u k m2 A C r hb hk hrd hu hmm hmA hBm hf hv
    subst hrd
    obtain ⟨fu, r1, r2, r3⟩ := hu
    rw [vals_length] at hk
    have ho := ((FlatR.raw R.n).own hf).1
    have hvb := World.ownsRow.lt ho
    have e1 : (insAt raws k r).flatMap (fun x => x.cs) = cellsOf (ts.take k ++ (r.cs, u, fu) :: ts.drop k) := by
      rw [raw_flat]
      simp only [insAt, cellsOf, List.flatMap_append, List.flatMap_cons, List.map_append, List.map_cons, List.map_take, List.map_drop, hr, List.flatten_append, List.flatten_cons]
      simp only [List.flatMap_def, List.map_take, List.map_drop]
    have e2 : vals (ts.take k ++ (r.cs, u, fu) :: ts.drop k) = insAt (vals ts) k u := by simp [vals, insAt, List.map_take, List.map_drop]
    have e4 : feet (ts.take k ++ (r.cs, u, fu) :: ts.drop k) = feet (ts.take k) ++ (fu ++ feet (ts.drop k)) := by simp [feet]
    have e5 : feet ts = feet (ts.take k) ++ feet (ts.drop k) := by
      unfold feet
      rw [← List.flatMap_append, List.take_append_drop]
    have hnd0 := (List.nodup_append.1 hnd).2.1
    have hlt : ∀ b ∈ feet (ts.take k) ++ feet (ts.drop k), B ≤ b ∧ b < m := fun b hb => hge b (List.mem_append.2 (.inr (by rw [e5]; exact hb)))
    rw [e5, List.nodup_append] at hnd0
    have hfe : (feet (ts.take k) ++ (fu ++ feet (ts.drop k))).Nodup := by
      rw [List.nodup_append, List.nodup_append]
      refine ⟨hnd0.1, ⟨r2, hnd0.2.1, fun a ha b hb hab => ?_⟩, fun a ha b hb hab => ?_⟩
      · have := r3 a ha; have := (hlt b (List.mem_append.2 (.inr hb))).2; omega
      · rcases List.mem_append.1 hb with hb | hb
        · have := r3 b hb; have := (hlt a (List.mem_append.2 (.inl ha))).2; omega
        · exact hnd0.2.2 a ha b hb hab
    have hall : ∀ b ∈ feet (ts.take k) ++ (fu ++ feet (ts.drop k)), (B ≤ b ∧ (b < m ∨ m2 ≤ b)) ∧ b ∉ v'.ownBlock.toList := by
      intro b hb
      rcases List.mem_append.1 hb with hb | hb
      · have h3 := hlt b (List.mem_append.2 (.inl hb))
        exact ⟨⟨h3.1, .inl h3.2⟩, fun hv' => by have := (hvb b (by simpa using hv')).1; omega⟩
      · rcases List.mem_append.1 hb with hb | hb
        · have h3 := r3 b hb
          exact ⟨⟨by omega, .inr (by omega)⟩, fun hv' => by have := hv b hv'; omega⟩
        · have h3 := hlt b (List.mem_append.2 (.inr hb))
          exact ⟨⟨h3.1, .inl h3.2⟩, fun hv' => by have := (hvb b (by simpa using hv')).1; omega⟩
    rw [← e2]
    refine Gap.of_owned (B' := m2) (ts.take k ++ (r.cs, u, fu) :: ts.drop k) (fun t ht => ?_) ?_ ?_ ?_
    · have hold : ∀ t ∈ ts, R.rd true w' t.1 t.2.1 t.2.2 := fun t ht => R.frame (h1 t ht) fun b hb' => hb.block b (hge b (List.mem_append.2 (.inr (List.mem_flatMap.2 ⟨t, ht, hb'⟩)))).2
      rcases List.mem_append.1 ht with ht | ht
      · exact hold t (List.mem_of_mem_take ht)
      · rcases List.mem_cons.1 ht with rfl | ht
        · exact r1
        · exact hold t (List.mem_of_mem_drop ht)
    · have el : (ts.take k ++ (r.cs, u, fu) :: ts.drop k).length = (insAt raws k r).length := by
        rw [insAt_length (by omega), hlen]; simp; omega
      rw [el, ← e1]
      exact ho
    · rw [e4, List.nodup_append]
      exact ⟨by cases v'.ownBlock <;> simp, hfe, fun a ha b hb hab => (hall b hb).2 (hab ▸ ha)⟩
    · intro b hb
      rw [e4] at hb
      rcases List.mem_append.1 hb with hb | hb
      · have := (hvb b (by simpa using hb)).1; exact ⟨by omega, .inr (by omega)⟩
      · exact (hall b hb).1
theorem Part.off {α : Type} {R : Rep α} {lo hi : Nat} {w w' : World} {cs : List Value} {x : α} {fq : List Nat} (h : Part R lo hi w cs x) (hc : Chg fq w w') (hd : ∀ b ∈ fq, b < lo ∨ hi ≤ b) : Part R lo hi w' cs x := by
  obtain ⟨fp, h, h2, h3⟩ := h
  exact ⟨fp, hc.keeps h fun b hb hb' => by have := h3 b hb; have := hd b hb'; omega, h2, h3⟩
section
variable {α : Type} {R : Rep α} {enc : α → List Value} {ok : α → Prop}
theorem FlatR.grow3 (h : FlatR R enc ok) {P : Program} (w : World) {ops : Array Oper} {rest : List Oper} {o : Oper} {a : Act} {Q : Exit → Act → World → Prop} (hgd : o.guard = none) (s x : Operand) (t tx : TypeId)
    (ho : o.op = .call { callee := .builtin .append, args := #[s, x], argTypes := #[t, tx] })
    (B : Nat) (e : TypeId) (i : TypeInfo) (z : Value) (bytes : Nat) (ht : P.underlying t = some (.slice e)) {e' : TypeId} (htx : P.underlying tx = some (.slice e')) (hi : P.info? e = some i) (hz : i.zero = some z)
    (hsize : i.size = R.n) (hby : i.bytes = bytes) (hzs : z.cells.size = R.n)
    (v : Value) (l : List α) (hv : a.eval s = v) (hown : Fresh (Rep.slice e R) B w [v] l)
    (sv : Value) (us : List α) (hx : a.eval x = sv) (hr : Reads (Rep.slice e R) w [sv] us)
    (m : Nat) (hm : l.length + us.length = m) (hlen : m ≤ 16777216) (hbytes : bytes ≤ 8388608) (hbase : B ≤ w.heap.size)
    (hgo : ∀ ao cap w', Fresh (Rep.slice e R) B w' [.slice ao m cap] (l ++ us) → Chg v.ownBlock.toList w w' → Below B w w' → (∀ b ∈ (Value.slice ao m cap).ownBlock.toList, b ∈ v.ownBlock.toList ∨ b = w.heap.size) →
      wpList P ops Q rest (a.put o.dst (.slice ao m cap)) w') : wpList P ops Q (o :: rest) a w := by
  subst hm
  have hmul : (l.length + us.length) * bytes ≤ 16777216 * 8388608 := Nat.mul_le_mul hlen hbytes
  obtain ⟨ho1, ho2⟩ := h.own hown
  have hge := World.ownsRow.lt ho1
  have hs : Src P R.n tx sv us.length (us.flatMap enc) w := h.src htx hr
  have hok := (h.row hr).2
  obtain ⟨v', w', hrun, h2, h3, h4, ao, cap, rfl⟩ := run_append_src (P := P) w B t tx o.type e i z R.n bytes ht hi hz hsize hby hzs v l.length _ ho1 _ us.length (us.flatMap enc) hs (by omega) (by unfold maxLen; omega) hbase
  refine wpList_plain hgd fun K hK => ?_
  unfold Oper.wp execOp
  simp only [ho, resolve, invoke, builtin, Sem.run_bind, Sem.run_pure, Result.andThen_ok, List.map_toArray, List.map_cons, List.map_nil, hv, hx, hrun]
  refine hK _ _ (hgo ao cap w' (h.fresh (B' := B) (by rw [List.length_append, List.flatMap_append]; exact h2) (fun y hy => (List.mem_append.1 hy).elim (ho2 y) (hok y)) fun b hb => ?_) (Chg.of_grown h3) (grow_below h3 (fun b hb => (hge b (by simpa using hb)).1) hbase) h4)
  rcases h4 b hb with hb | rfl
  · exact (hge b (by simpa using hb)).1
  · exact hbase
theorem FlatR.step_growD (h : FlatR R enc ok) {P : Program} (w : World) {ops : Array Oper} {o : Oper} {a : Act} {K : Act → World → Prop} {Q : Exit → Act → World → Prop} {X : Prop} (hgd : o.guard = none) (s x : Operand) (t tx : TypeId)
    (ho : o.op = .call { callee := .builtin .append, args := #[s, x], argTypes := #[t, tx] })
    (B : Nat) (e : TypeId) (i : TypeInfo) (z : Value) (bytes : Nat) (ht : P.underlying t = some (.slice e)) {e' : TypeId} (htx : P.underlying tx = some (.slice e')) (hi : P.info? e = some i) (hz : i.zero = some z)
    (hsize : i.size = R.n) (hby : i.bytes = bytes) (hzs : z.cells.size = R.n)
    (v : Value) (l : List α) (hv : a.eval s = v) (hown : Fresh (Rep.slice e R) B w [v] l)
    (sv : Value) (us : List α) (hx : a.eval x = sv) (hr : Reads (Rep.slice e R) w [sv] us)
    (m : Nat) (hm : l.length + us.length = m) (hlen : m ≤ 16777216) (hbytes : bytes ≤ 8388608) (hbase : B ≤ w.heap.size)
    (hgo : ∀ ao cap w', Fresh (Rep.slice e R) B w' [.slice ao m cap] (l ++ us) → Chg v.ownBlock.toList w w' → Below B w w' → (∀ b ∈ (Value.slice ao m cap).ownBlock.toList, b ∈ v.ownBlock.toList ∨ b = w.heap.size) →
      K (a.put o.dst (.slice ao m cap)) w') : if Region.wanted o (yielded ops a.tmps) = true then Oper.wp P o a w K Q else X := by
  subst hm
  have hw : Region.wanted o (yielded ops a.tmps) = true := by simp [Region.wanted, hgd]
  rw [if_pos hw]
  have hmul : (l.length + us.length) * bytes ≤ 16777216 * 8388608 := Nat.mul_le_mul hlen hbytes
  obtain ⟨ho1, ho2⟩ := h.own hown
  have hge := World.ownsRow.lt ho1
  have hs : Src P R.n tx sv us.length (us.flatMap enc) w := h.src htx hr
  have hok := (h.row hr).2
  obtain ⟨v', w', hrun, h2, h3, h4, ao, cap, rfl⟩ := run_append_src (P := P) w B t tx o.type e i z R.n bytes ht hi hz hsize hby hzs v l.length _ ho1 _ us.length (us.flatMap enc) hs (by omega) (by unfold maxLen; omega) hbase
  unfold Oper.wp execOp
  simp only [ho, resolve, invoke, builtin, Sem.run_bind, Sem.run_pure, Result.andThen_ok, List.map_toArray, List.map_cons, List.map_nil, hv, hx, hrun]
  refine hgo ao cap w' (h.fresh (B' := B) (by rw [List.length_append, List.flatMap_append]; exact h2) (fun y hy => (List.mem_append.1 hy).elim (ho2 y) (hok y)) fun b hb => ?_) (Chg.of_grown h3) (grow_below h3 (fun b hb => (hge b (by simpa using hb)).1) hbase) h4
  rcases h4 b hb with hb | rfl
  · exact (hge b (by simpa using hb)).1
  · exact hbase
end
theorem slice_cap {α : Type} {E : TypeId} {R : Rep α} {w : World} {ao : Option Addr} {n cap : Nat} {l : List α} (h : Reads (Rep.slice E R) w [.slice ao n cap] l) : n ≤ cap := by
  obtain ⟨fp, h⟩ := h
  obtain ⟨ao', cap', hv, h1, h2, _⟩ := slice_open h
  simp only [Value.slice.injEq] at hv
  obtain ⟨_, rfl, rfl⟩ := hv
  exact h2

end Go.Proofs.Yteajhmpppciicaa
