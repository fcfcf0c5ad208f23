/-
  One element of a slice that the call owns, taken out with its memory and put back changed; an append that keeps off given blocks. No function of the program is named here.
-/
import Derived.Test.YteajhmpppciicaaRowLaw
import Derived.Test.YteajhmpppciicaaDrawResp
namespace Go.Proofs.Yteajhmpppciicaa
open Go.RowKit

theorem slice_lens {α : Type} {R : Rep α} {E : TypeId} {g cap n : Nat} {w : World} {l : List α} {fp : List Nat} (h : (Rep.slice E R).rd true w [.slice (some ⟨g, 0, none⟩) n cap] l fp) (hnd : fp.Nodup) (i : Nat) (hi : i < l.length) :
    ∃ (cs : List Value) (fe K : List Nat), R.rd true w cs l[i] fe ∧ fe.Nodup ∧ (∀ b, b ∈ fp ↔ b ∈ fe ∨ b ∈ K) ∧ (∀ b ∈ fe, b ∉ K) ∧ g ∈ K ∧ (∀ j u, cs[j]? = some u → w.cell? ⟨g, i * R.n + j, none⟩ = some u) ∧ (∀ j, w.frozen? ⟨g, j, none⟩ = false) ∧ g < w.heap.size ∧
      ∀ (w' W : World) (o : Nat) (us : List Value) (x' : α) (fe' : List Nat), o + us.length ≤ R.n → R.rd true w' (cs.take o ++ (us ++ cs.drop (o + us.length))) x' fe' → fe'.Nodup → (∀ b ∈ fe', b ∉ K) →
        (∀ b ∈ K, b ≠ g → w'.heap[b]? = w.heap[b]?) → W.heap[g]? = w.heap[g]? → w'.heap[g]? = (setCells W g (i * R.n + o) us).heap[g]? →
        ∃ fp', (Rep.slice E R).rd true w' [.slice (some ⟨g, 0, none⟩) n cap] (l.set i x') fp' ∧ fp'.Nodup ∧ ∀ b, b ∈ fp' ↔ b ∈ fe' ∨ b ∈ K := by
  obtain ⟨v, ts, hv, rfl, rfl, h1, _, h3⟩ := h
  simp only [List.cons.injEq, and_true] at hv
  subst hv
  have h2 := h3 rfl
  have eh : head true (Value.slice (some ⟨g, 0, none⟩) n cap) ts.length = [g] := by simp [head, Value.ownBlock]
  rw [eh] at hnd
  rw [vals_length] at hi
  have hti : (vals ts)[i]'(by rw [vals_length]; exact hi) = ts[i].2.1 := by simp [vals]
  have hlen : ∀ t ∈ ts, t.1.length = R.n := fun t ht => R.len (h1 t ht)
  have hn : n = ts.length := by
    rcases h2.2 with ⟨h, _⟩ | ⟨g', cap', cur, h, _⟩
    · simp at h
    · simp only [Value.slice.injEq] at h; exact h.2.1
  subst hn
  have hm1 := h1 ts[i] (List.getElem_mem _)
  have hli := hlen ts[i] (List.getElem_mem _)
  have esplit : ts = ts.take i ++ (ts[i] :: ts.drop (i + 1)) := by rw [List.getElem_cons_drop, List.take_append_drop]
  have efeet : feet ts = feet (ts.take i) ++ (ts[i].2.2 ++ feet (ts.drop (i + 1))) := by
    unfold feet
    conv => lhs; rw [esplit]
    rw [List.flatMap_append, List.flatMap_cons]
  have hnd0 := (List.nodup_append.1 hnd).2.1
  have hgf : ∀ b ∈ feet ts, b ≠ g := fun b hb e => (List.nodup_append.1 hnd).2.2 g (by simp) b hb e.symm
  have hnd1 := hnd0
  rw [efeet, List.nodup_append, List.nodup_append] at hnd1
  refine ⟨ts[i].1, ts[i].2.2, g :: (feet (ts.take i) ++ feet (ts.drop (i + 1))), by rw [hti]; exact hm1, hnd1.2.1.1, ?_, ?_, by simp, ?_, fun j => World.ownsRow.frozenAt h2 j, (World.ownsRow.lt h2 g rfl).2, ?_⟩
  · intro b
    rw [eh, efeet]
    simp only [List.mem_append, List.mem_cons, List.not_mem_nil, or_false]
    constructor
    · rintro (h | h | h | h) <;> simp [h]
    · rintro (h | h | h | h) <;> simp [h]
  · intro b hb hK
    simp only [List.mem_cons, List.mem_append] at hK
    rcases hK with h | h | h
    · exact hgf b (by rw [efeet]; simp [hb]) h
    · exact hnd1.2.2 b h b (by simp [hb]) rfl
    · exact hnd1.2.1.2.2 b hb b h rfl
  · intro j u hj
    have hjl : j < R.n := by
      rw [← hli]
      exact (List.getElem?_eq_some_iff.1 hj).1
    have hlt : i * R.n + j < ts.length * R.n := by
      have : (i + 1) * R.n ≤ ts.length * R.n := Nat.mul_le_mul_right _ hi
      rw [Nat.add_mul] at this; omega
    rw [World.ownsRow.cellAt h2 _ hlt, cellsOf_at ts i j ts[i] hlen (by simp) hjl, hj]
  · intro w' W o us x' fe' hfit k1 k2 k3 hK hWg hw'
    have hWo : W.ownsRow 0 E R.n (.slice (some ⟨g, 0, none⟩) ts.length cap) ts.length (cellsOf ts) := ownsRow_frame h2 fun b hb => by simp [Value.ownBlock] at hb; subst hb; exact hWg
    have hs := setCells_owns us (i * R.n + o) W _ hWo
    have hs' : w'.ownsRow 0 E R.n (.slice (some ⟨g, 0, none⟩) ts.length cap) ts.length (setL (cellsOf ts) (i * R.n + o) us) := ownsRow_frame hs fun b hb => by simp [Value.ownBlock] at hb; subst hb; exact hw'
    have hlt : (cellsOf (ts.take i)).length = i * R.n := by
      rw [cellsOf_length _ fun t ht => hlen t (List.mem_of_mem_take ht), List.length_take, Nat.min_eq_left (Nat.le_of_lt hi)]
    have hsplit : cellsOf ts = (cellsOf (ts.take i) ++ ts[i].1.take o) ++ (((ts[i].1.drop o).take us.length) ++ (ts[i].1.drop (o + us.length) ++ cellsOf (ts.drop (i + 1)))) := by
      have e2 : ts[i].1 = ts[i].1.take o ++ ((ts[i].1.drop o).take us.length ++ ts[i].1.drop (o + us.length)) := by
        rw [← List.drop_drop, List.take_append_drop, List.take_append_drop]
      conv => lhs; rw [esplit]
      have e3 : cellsOf (ts.take i ++ (ts[i] :: ts.drop (i + 1))) = cellsOf (ts.take i) ++ (ts[i].1 ++ cellsOf (ts.drop (i + 1))) := by simp only [cellsOf, List.flatMap_append, List.flatMap_cons]
      rw [e3]
      conv => lhs; rw [e2]
      simp only [List.append_assoc]
    have hA : (cellsOf (ts.take i) ++ ts[i].1.take o).length = i * R.n + o := by rw [List.length_append, hlt, List.length_take, hli]; omega
    rw [hsplit, ← hA, setL_mid _ _ _ _ (by rw [List.length_take, List.length_drop, hli]; omega)] at hs'
    let t' : El α := (ts[i].1.take o ++ (us ++ ts[i].1.drop (o + us.length)), x', fe')
    have hset : (cellsOf (ts.take i) ++ ts[i].1.take o) ++ (us ++ (ts[i].1.drop (o + us.length) ++ cellsOf (ts.drop (i + 1)))) = cellsOf (ts.take i ++ (t' :: ts.drop (i + 1))) := by
      have e3 : cellsOf (ts.take i ++ (t' :: ts.drop (i + 1))) = cellsOf (ts.take i) ++ (t'.1 ++ cellsOf (ts.drop (i + 1))) := by simp [cellsOf]
      rw [e3]
      simp only [t', List.append_assoc]
    rw [hset] at hs'
    have ev : (vals ts).set i x' = vals (ts.take i ++ (t' :: ts.drop (i + 1))) := by
      rw [List.set_eq_take_append_cons_drop, if_pos (by rw [vals_length]; exact hi)]
      simp [vals, t', List.map_take, List.map_drop]
    have ef : feet (ts.take i ++ (t' :: ts.drop (i + 1))) = feet (ts.take i) ++ (fe' ++ feet (ts.drop (i + 1))) := by simp [feet, t']
    have el : (ts.take i ++ (t' :: ts.drop (i + 1))).length = ts.length := by simp; omega
    have hKin : ∀ b, b ∈ feet (ts.take i) ∨ b ∈ feet (ts.drop (i + 1)) → b ∈ g :: (feet (ts.take i) ++ feet (ts.drop (i + 1))) := fun b h => by
      rcases h with h | h <;> simp [h]
    refine ⟨g :: (feet (ts.take i) ++ (fe' ++ feet (ts.drop (i + 1)))), ⟨_, ts.take i ++ (t' :: ts.drop (i + 1)), rfl, ev, by rw [ef, el, eh]; rfl, fun t ht => ?_, ?_, fun _ => ?_⟩, ?_, ?_⟩
    · rcases List.mem_append.1 ht with ht | ht
      · refine R.frame (h1 t (List.mem_of_mem_take ht)) fun b hb => ?_
        have hbf : b ∈ feet (ts.take i) := List.mem_flatMap.2 ⟨t, ht, hb⟩
        exact hK b (hKin b (.inl hbf)) (hgf b (by rw [efeet]; simp [hbf]))
      · rcases List.mem_cons.1 ht with rfl | ht
        · exact k1
        · refine R.frame (h1 t (List.mem_of_mem_drop ht)) fun b hb => ?_
          have hbf : b ∈ feet (ts.drop (i + 1)) := List.mem_flatMap.2 ⟨t, ht, hb⟩
          exact hK b (hKin b (.inr hbf)) (hgf b (by rw [efeet]; simp [hbf]))
    · rw [el]; exact Row.of_owns hs'
    · rw [el]; exact hs'
    · rw [List.nodup_cons, List.nodup_append, List.nodup_append]
      have hdis : ∀ b ∈ fe', b ≠ g ∧ b ∉ feet (ts.take i) ∧ b ∉ feet (ts.drop (i + 1)) := by
        intro b hb
        have := k3 b hb
        simp only [List.mem_cons, List.mem_append, not_or] at this
        exact this
      refine ⟨?_, hnd1.1, ⟨k2, hnd1.2.1.2.1, fun a ha b hb e => (hdis a ha).2.2 (e ▸ hb)⟩, fun a ha b hb e => ?_⟩
      · simp only [List.mem_append, not_or]
        exact ⟨fun hb => hgf g (by rw [efeet]; simp [hb]) rfl, fun hb => (hdis g hb).1 rfl, fun hb => hgf g (by rw [efeet]; simp [hb]) rfl⟩
      · rcases List.mem_append.1 hb with hb | hb
        · exact (hdis b hb).2.1 (e ▸ ha)
        · exact hnd1.2.2 a ha b (List.mem_append.2 (.inr hb)) e
    · intro b
      simp only [List.mem_cons, List.mem_append]
      constructor
      · rintro (h | h | h | h) <;> simp [h]
      · rintro (h | h | h | h) <;> simp [h]

theorem own_in {α : Type} {R : Rep α} {E : TypeId} {w : World} {v : Value} {l : List α} {fp : List Nat} (h : (Rep.slice E R).rd true w [v] l fp) : ∀ b ∈ v.ownBlock.toList, b ∈ fp := by
  obtain ⟨v', ts, hv, rfl, rfl, h1, h2, h3⟩ := h
  simp only [List.cons.injEq, and_true] at hv
  subst hv
  intro b hb
  exact List.mem_append_left _ (by simpa [head] using hb)
theorem Owns.of_owned {α : Type} {R : Rep α} {E : TypeId} {B : Nat} {K : List Nat} {w : World} {v : Value} (ts : List (El α)) (h1 : ∀ t ∈ ts, R.rd true w t.1 t.2.1 t.2.2) {B' : Nat} (h3 : w.ownsRow B' E R.n v ts.length (cellsOf ts))
    (hnd : (v.ownBlock.toList ++ feet ts).Nodup) (hge : ∀ b ∈ v.ownBlock.toList ++ feet ts, B ≤ b ∧ b ∉ K) : Owns (Rep.slice E R) B K w [v] (vals ts) := by
  have e : head true v ts.length = v.ownBlock.toList := by simp [head]
  exact ⟨v.ownBlock.toList ++ feet ts, ⟨v, ts, rfl, rfl, by rw [e], h1, Row.of_owns h3, fun _ => ownsRow_rebase h3 fun _ _ => Nat.zero_le _⟩, hnd, hge⟩
theorem Owns.appended {α : Type} {R : Rep α} {E : TypeId} {B : Nat} {K : List Nat} {w0 w1 : World} {v v' : Value} {ts us : List (El α)} (h1 : ∀ t ∈ ts, R.rd true w0 t.1 t.2.1 t.2.2) (h2 : ∀ t ∈ us, R.rd true w0 t.1 t.2.1 t.2.2)
    (hnd : (v.ownBlock.toList ++ feet ts).Nodup) (hge : ∀ b ∈ v.ownBlock.toList ++ feet ts, B ≤ b ∧ b ∉ K) (hnd2 : (feet us).Nodup) (hge2 : ∀ b ∈ feet us, B ≤ b ∧ b ∉ K) (hd : ∀ b ∈ feet us, b ∉ v.ownBlock.toList ++ feet ts)
    (hg : w0.grownBy w1 v.ownBlock) (hB : B ≤ w0.heap.size) (hK : ∀ k ∈ K, k < w0.heap.size) {B' : Nat} (ho : w1.ownsRow B' E R.n v' (ts.length + us.length) (cellsOf ts ++ cellsOf us)) (hb : ∀ b ∈ v'.ownBlock.toList, b ∈ v.ownBlock.toList ∨ b = w0.heap.size) :
    Owns (Rep.slice E R) B K w1 [v'] (vals ts ++ vals us) := by
  have hlt : ∀ t ∈ ts ++ us, ∀ b ∈ t.2.2, b < w0.heap.size := by
    intro t ht b hb'
    rcases List.mem_append.1 ht with ht | ht
    · exact R.lt (h1 t ht) b hb'
    · exact R.lt (h2 t ht) b hb'
  have hfe : feet (ts ++ us) = feet ts ++ feet us := by simp [feet]
  have hce : cellsOf (ts ++ us) = cellsOf ts ++ cellsOf us := by simp [cellsOf]
  have hve : vals (ts ++ us) = vals ts ++ vals us := by simp [vals]
  rw [← hve]
  have hnv : ∀ b ∈ feet (ts ++ us), b ∉ v.ownBlock.toList := by
    intro b hb1 hb2
    rw [hfe] at hb1
    rcases List.mem_append.1 hb1 with hb1 | hb1
    · exact (List.nodup_append.1 hnd).2.2 b hb2 b hb1 rfl
    · exact hd b hb1 (List.mem_append.2 (.inl hb2))
  have hkeep : ∀ t ∈ ts ++ us, ∀ b ∈ t.2.2, w1.heap[b]? = w0.heap[b]? := by
    intro t ht b hb'
    refine hg.block b (hlt t ht b hb') fun e => ?_
    exact hnv b (List.mem_flatMap.2 ⟨t, ht, hb'⟩) (by rw [← e]; simp)
  refine Owns.of_owned (ts ++ us) ?_ (by rw [List.length_append, hce]; exact ho) ?_ ?_
  · intro t ht
    have hr : R.rd true w0 t.1 t.2.1 t.2.2 := (List.mem_append.1 ht).elim (h1 t) (h2 t)
    exact R.frame hr (hkeep t ht)
  · rw [List.nodup_append]
    refine ⟨by cases v'.ownBlock <;> simp, ?_, ?_⟩
    · rw [hfe, List.nodup_append]
      exact ⟨(List.nodup_append.1 hnd).2.1, hnd2, fun a ha b hb' e => hd b hb' (by rw [← e]; exact List.mem_append.2 (.inr ha))⟩
    · intro a ha b hb' e
      subst e
      rcases hb a ha with h | h
      · exact hnv a hb' h
      · obtain ⟨t, ht, hb'⟩ := List.mem_flatMap.1 hb'
        have := hlt t ht a hb'
        omega
  · intro b hb'
    rcases List.mem_append.1 hb' with hb' | hb'
    · rcases hb b hb' with h | h
      · exact hge b (List.mem_append.2 (.inl h))
      · exact ⟨by omega, fun hm => by have := hK b hm; omega⟩
    · rw [hfe] at hb'
      rcases List.mem_append.1 hb' with hb' | hb'
      · exact hge b (List.mem_append.2 (.inr hb'))
      · exact hge2 b hb'
def OwnsLt {α : Type} (R : Rep α) (B : Nat) (K : List Nat) (m : Nat) (w : World) (cs : List Value) (x : α) : Prop := ∃ fp, R.rd true w cs x fp ∧ fp.Nodup ∧ (∀ b ∈ fp, B ≤ b ∧ b ∉ K) ∧ ∀ b ∈ fp, b < m
theorem Owns.movL {α : Type} {R : Rep α} {B : Nat} {K : List Nat} {w w' : World} {cs : List Value} {x : α} {k : Kur} (h : Owns R B K w cs x) (hm : Mov k w w') (hk : k.k < B) : Owns R B K w' cs x := by
  obtain ⟨fp, h, hn, hf⟩ := h
  exact ⟨fp, Rep.frame _ h fun b hb' => hm.1.block b (Rep.lt _ h b hb') (fun hm => by simp at hm; subst hm; have := (hf _ hb').1; omega), hn, hf⟩
theorem Owns.movLt {α : Type} {R : Rep α} {B : Nat} {K : List Nat} {w w' : World} {cs : List Value} {x : α} {k : Kur} (h : Owns R B K w cs x) (hm : Mov k w w') (hk : k.k < B) : OwnsLt R B K w.heap.size w' cs x := by
  obtain ⟨fp, h, hn, hf⟩ := h
  exact ⟨fp, Rep.frame _ h fun b hb' => hm.1.block b (Rep.lt _ h b hb') (fun hm => by simp at hm; subst hm; have := (hf _ hb').1; omega), hn, hf, Rep.lt _ h⟩
theorem wpList_pushNK {α : Type} {R : Rep α} {P : Program} (w : World) {ops : Array Oper} {rest : List Oper} {o : Oper} {a : Act} {Q : Exit → Act → World → Prop} (hgd : o.guard = none) (s x : Operand) (t tx : TypeId)
    (ho : o.op = .call { callee := .builtin .append, args := #[s, x], argTypes := #[t, tx] })
    (B : Nat) (K : List Nat) (m : Nat) (e : TypeId) (i : TypeInfo) (z : Value) (bytes : Nat) (ht : P.underlying t = some (.slice e)) {e' : TypeId} (htx : P.underlying tx = some (.slice e')) (hi : P.info? e = some i) (hz : i.zero = some z)
    (hsize : i.size = R.n) (hby : i.bytes = bytes) (hzs : z.cells.size = R.n)
    (v : Value) (l : List α) (hv : a.eval s = v) (hown : OwnsLt (Rep.slice e R) B K m w [v] l)
    (u : α) (xs : Array Value) (t2 : TypeId) (k : Nat) (hx : a.eval x = .slice (some ⟨k, 0, none⟩) 1 1) (hk : k = w.heap.size) (hu : Fresh R m w xs.toList u)
    (hlen : l.length + 1 ≤ 16777216) (hbytes : bytes ≤ 8388608) (hB : B ≤ m) (hm : m ≤ w.heap.size) (hK : ∀ k ∈ K, k < m)
    (hgo : ∀ ao cap w', Owns (Rep.slice e R) B K w' [.slice ao (l.length + 1) cap] (l ++ [u]) → (w.alloc (.cells xs t2)).grownBy w' v.ownBlock →
      wpList P ops Q rest (a.put o.dst (.slice ao (l.length + 1) cap)) w') : wpList P ops Q (o :: rest) a (w.alloc (.cells xs t2)) := by
  subst hk
  have hmul : (l.length + 1) * bytes ≤ 16777216 * 8388608 := Nat.mul_le_mul hlen hbytes
  obtain ⟨fp, hrd, hnd, hge, hlt0⟩ := hown
  obtain ⟨v', ts, hv', rfl, rfl, h1, _, h3⟩ := hrd
  simp only [List.cons.injEq, and_true] at hv'
  subst hv'
  have e1 : head true v ts.length = v.ownBlock.toList := by simp [head]
  rw [e1] at hnd hge hlt0
  have h2 := ownsRow_rebase (base' := B) (h3 rfl) (fun b hb => (hge b (List.mem_append.2 (.inl hb))).1)
  have hlt : (vals ts).length = ts.length := vals_length ts
  rw [hlt] at hmul hlen hgo
  have hb0 : Below w.heap.size w (w.alloc (.cells xs t2)) := (Below.refl _ _).alloc (Nat.le_refl _) _
  obtain ⟨fu, r1, r2, r3⟩ := id hu
  have hs : Src P R.n tx (.slice (some ⟨w.heap.size, 0, none⟩) 1 1) 1 xs.toList (w.alloc (.cells xs t2)) := lit_src htx (by rw [← Array.length_toList, R.len r1, Nat.one_mul]) (fun y hy => R.one r1 y hy)
  refine wpList_append_src (w.alloc (.cells xs t2)) hgd s x t tx ho B e i z R.n bytes ht hi hz hsize hby hzs v ts.length (cellsOf ts) hv (own_alloc h2) _ 1 xs.toList hx hs ?_ ?_ ?_ fun ao cap w' k1 k2 k3 => ?_
  · omega
  · unfold maxLen; omega
  · simp; omega
  · have ef : feet [((xs.toList, u, fu) : El α)] = fu := by simp [feet]
    have ec : cellsOf [((xs.toList, u, fu) : El α)] = xs.toList := by simp [cellsOf]
    have hf := Owns.appended (E := e) (B := B) (K := K) (w0 := w.alloc (.cells xs t2)) (us := [(xs.toList, u, fu)]) (fun t ht => R.frame (h1 t ht) fun b hb => hb0.block b (R.lt (h1 t ht) b hb)) (by intro t ht; simp at ht; subst ht; exact R.frame r1 fun b hb => hb0.block b (R.lt r1 b hb)) hnd hge (by rw [ef]; exact r2) (by rw [ef]; intro b hb; have := r3 b hb; exact ⟨by omega, fun hm => by have := hK b hm; omega⟩) (by rw [ef]; intro b hb hb'; have h5 := hlt0 b hb'; have h6 := r3 b hb; omega) k2 (by simp; omega) (fun k hk => by have := hK k hk; simp; omega) (by rw [ec]; exact k1) k3
    exact hgo ao cap w' hf k2
structure ChgdF (fp : List Nat) (w : World) where
  w' : World
  ok : Chg fp w w'
def chf {fp : List Nat} {w : World} (p : ChgdF fp w) : World := p.w'
theorem chf_ok {fp : List Nat} {w : World} (p : ChgdF fp w) : Chg fp w (chf p) := p.ok
theorem chf_of {fp : List Nat} {w w' : World} (h : Chg fp w w') : ∃ p : ChgdF fp w, w' = chf p := ⟨⟨w', h⟩, rfl⟩
theorem chf_var {fp : List Nat} {w : World} {j : Nat} {cs : Array Value} (h : WB w j cs) (hj : j ∉ fp) : ∀ (p : ChgdF fp w) o, (chf p).cell? ⟨j, o, none⟩ = cs[o]? := fun p o => (h.chg (chf_ok p) hj).cell o
theorem chf_cell {fp : List Nat} {w : World} {b o : Nat} {v : Value} (h : w.cell? ⟨b, o, none⟩ = some v) (hj : b ∉ fp) : ∀ (p : ChgdF fp w), (chf p).cell? ⟨b, o, none⟩ = some v := fun p => (World.cell?_of_block ((chf_ok p).block b (block_lt_of_cell h) hj)).trans h
attribute [irreducible] chf
theorem wp_region_chf {P : Program} {Q : Exit → Act → World → Prop} {l : List Oper} {id : Nat} {a : Act} {w : World} (fp : List Nat) (M : List Nat) (hm : P.follows .mixedOrders = true)
    (h : ∀ wd, Below w.heap.size w wd → wpU P l.toArray (NoPanic Q) (fun w' => ∃ p : ChgdF fp wd, w' = chf p) M [] a wd) : (Code.region id l.toArray true).wp P Q a w := wp_region_u M (fun wd w' => ∃ p : ChgdF fp wd, w' = chf p) hm h
theorem Chg.put {fp : List Nat} {w w' : World} {b o : Nat} {u : Value} (h : Chg fp w w') (hb : b ∈ fp) : Chg fp w (w'.setCell ⟨b, o, none⟩ u) := Chg.set hb h

end Go.Proofs.Yteajhmpppciicaa
