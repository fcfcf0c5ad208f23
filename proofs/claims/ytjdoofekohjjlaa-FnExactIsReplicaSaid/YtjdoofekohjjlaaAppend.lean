/-
  append onto a slice that the call owns, from whatever source. No function of the program is named here.
-/
import Derived.Test.YtjdoofekohjjlaaSeat
import Derived.Deep.AppendSrc
namespace Go.Proofs.Ytjdoofekohjjlaa
open Go.RowKit

section
variable {P : Program}

theorem run_append_row_src (w : World) (t tx ty e : TypeId) (i : TypeInfo) (ht : P.underlying t = some (.slice e)) (hi : P.info? e = some i)
    (g sLen sCap : Nat) (cur : Array Value) (hg : w.heap[g]? = some (.cells cur e (0, 0))) (x : Value) (m : Nat) (news : List Value) (hs : Src P i.size tx x m news w)
    (hroom : sLen + m ≤ sCap) (hfit : sLen * i.size + news.length ≤ cur.size) :
    (Builtin.append_ #[t, tx] ty #[.slice (some ⟨g, 0, none⟩) sLen sCap, x]).run P w =
      .ok (.slice (some ⟨g, 0, none⟩) (sLen + m) sCap) (w.setRow g (cur.toList.take (sLen * i.size) ++ news ++ cur.toList.drop (sLen * i.size + news.length)).toArray) := by
  have hst := run_storeCells_at P g (sLen * i.size) e news 0 cur w hg (by simpa using hfit) hs.one
  simp only [Nat.add_zero] at hst
  rcases hs.kind with ⟨e', hk⟩ | hk <;> simp [Builtin.append_, run_underlying ht, run_underlying hk, sizeOf, typeInfo, hi, hs.len, hroom, hs.cells, Addr.add_lit, hst]

theorem run_append_src (w : World) (base : Nat) (t tx ty e : TypeId) (i : TypeInfo) (z : Value) (size bytes : Nat) (ht : P.underlying t = some (.slice e)) (hi : P.info? e = some i) (hz : i.zero = some z)
    (hsize : i.size = size) (hby : i.bytes = bytes) (hzs : z.cells.size = size)
    (v : Value) (n : Nat) (xs : List Value) (hown : w.ownsRow base e size v n xs)
    (x : Value) (m : Nat) (news : List Value) (hs : Src P size tx x m news w)
    (hbytes : (n + m) * bytes ≤ 140737488355328) (h63 : n + m ≤ maxLen) (hbase : base ≤ w.heap.size) :
    ∃ v' w', (Builtin.append_ #[t, tx] ty #[v, x]).run P w = .ok v' w' ∧ w'.ownsRow base e size v' (n + m) (xs ++ news) ∧ w.grownBy w' v.ownBlock ∧
      (∀ b ∈ v'.ownBlock.toList, b ∈ v.ownBlock.toList ∨ b = w.heap.size) ∧ ∃ ao cap, v' = .slice ao (n + m) cap := by
  subst hsize
  subst hby
  have hsmall : n + m ≤ 9223372036854775807 := by simp only [maxLen] at h63; omega
  have hl := hs.newsLen
  have hlen : (xs ++ news).length = (n + m) * i.size := by rw [List.length_append, hown.1, hl, Nat.add_mul]
  have grown : ∀ (old : Nat), old < n + m → ∀ (row : Option Nat),
      (w.drew.alloc (.cells ((xs ++ news).toArray ++ Builtin.zeroCells z.cells (grownCap w (n + m) old e - (n + m))) e)).ownsRow base e i.size
        (.slice (some ⟨w.heap.size, 0, none⟩) (n + m) (grownCap w (n + m) old e)) (n + m) (xs ++ news) ∧
      w.grownBy (w.drew.alloc (.cells ((xs ++ news).toArray ++ Builtin.zeroCells z.cells (grownCap w (n + m) old e - (n + m))) e)) row := by
    intro old ho row
    have hge := grownCap_ge w (n + m) old e
    have hcm : grownCap w (n + m) old e ≤ maxLen := grownCap_le_maxLen w (n + m) old e h63
    refine ⟨⟨hlen, .inr ⟨w.heap.size, _, _, rfl, hbase, heap_alloc_new w.drew _, hge, hcm, ?_, ?_⟩⟩, ⟨rfl, rfl, rfl, by simp, fun k hk _ => Below.heap_alloc w.drew _ k hk⟩⟩
    · rw [Array.size_append, List.size_toArray, size_zeroCells, hzs, hlen, ← Nat.add_mul]
      congr 1
      omega
    · rw [Array.toList_append, ← hlen]
      exact List.take_left
  rcases hown.2 with ⟨rfl, rfl⟩ | ⟨g, cap, cur, rfl, hbg, hg, hnc, hcm, hcs, htake⟩
  · have hx : xs = [] := List.eq_nil_of_length_eq_zero (by simpa using hown.1)
    subst hx
    by_cases hm : m = 0
    · subst hm
      have hn : news = [] := List.eq_nil_of_length_eq_zero (by simpa using hl)
      subst hn
      refine ⟨.slice none 0 0, w, ?_, World.ownsRow_nil w base e i.size, ⟨rfl, rfl, rfl, Nat.le_refl _, fun _ _ _ => rfl⟩, by simp [Value.ownBlock], none, 0, rfl⟩
      have hf := hs.cells
      rcases hs.kind with ⟨e', hk⟩ | hk <;> simp [Builtin.append_, run_underlying ht, run_underlying hk, sizeOf, typeInfo, hi, hs.len, hf]
    · have hr := run_append_grow_src (P := P) w t tx ty e i z ht hi hz none 0 0 [] (run_firstCells_none _ _ _ _ _) x m news hs (by omega) (by omega) (growslice_fits (by omega) hbytes)
      have hgr := grown 0 (by omega) (Value.ownBlock (.slice none 0 0))
      exact ⟨_, _, hr, hgr.1, hgr.2, by simp [Value.ownBlock], _, _, rfl⟩
  · by_cases hroom : n + m ≤ cap
    · have hfit : n * i.size + news.length ≤ cur.size := by rw [hl, hcs, ← Nat.add_mul]; exact Nat.mul_le_mul_right _ hroom
      have hr := run_append_row_src (P := P) w t tx ty e i ht hi g n cap cur hg x m news hs hroom hfit
      refine ⟨_, _, hr, ⟨hlen, .inr ⟨g, cap, _, rfl, hbg, setRow_heap w g cur _ e _ hg, hroom, hcm, ?_, ?_⟩⟩, ⟨rfl, rfl, rfl, by simp, fun k _ hk => setRow_other w g k _ (fun e => hk (by simp [Value.ownBlock, e]))⟩, by simp [Value.ownBlock], _, _, rfl⟩
      · simp only [List.size_toArray, List.length_append, List.length_take, List.length_drop, Array.length_toList]
        omega
      · rw [htake, ← hlen]
        exact List.take_left
    · have holds : ∀ j u, xs[j]? = some u → w.cell? ((⟨g, 0, none⟩ : Addr).add j) = some u := hown.cells (g := g) rfl
      have hold := run_firstCells_some (P := P) w.drew i.size n ⟨g, 0, none⟩ n cap xs hown.1 (by simpa using holds)
      have hr := run_append_grow_src (P := P) w t tx ty e i z ht hi hz (some ⟨g, 0, none⟩) n cap xs hold x m news hs (by omega) (by omega) (growslice_fits (by omega) hbytes)
      have hgr := grown cap (by omega) (Value.ownBlock (.slice (some ⟨g, 0, none⟩) n cap))
      exact ⟨_, _, hr, hgr.1, hgr.2, by simp [Value.ownBlock], _, _, rfl⟩

theorem wpList_append_src (w : World) {ops : Array Oper} {rest : List Oper} {o : Oper} {a : Act} {Q : Exit → Act → World → Prop} (hgd : o.guard = none) (s x : Operand) (t tx : TypeId)
    (ho : o.op = .call { callee := .builtin .append, args := #[s, x], argTypes := #[t, tx] })
    (base : Nat) (e : TypeId) (i : TypeInfo) (z : Value) (size bytes : Nat) (ht : P.underlying t = some (.slice e)) (hi : P.info? e = some i) (hz : i.zero = some z)
    (hsize : i.size = size) (hby : i.bytes = bytes) (hzs : z.cells.size = size)
    (v : Value) (n : Nat) (xs : List Value) (hv : a.eval s = v) (hown : w.ownsRow base e size v n xs)
    (sv : Value) (m : Nat) (news : List Value) (hx : a.eval x = sv) (hs : Src P size tx sv m news w)
    (hbytes : (n + m) * bytes ≤ 140737488355328) (h63 : n + m ≤ maxLen) (hbase : base ≤ w.heap.size)
    (h : ∀ ao cap w', w'.ownsRow base e size (.slice ao (n + m) cap) (n + m) (xs ++ news) → w.grownBy w' v.ownBlock → (∀ b ∈ (Value.slice ao (n + m) cap).ownBlock.toList, b ∈ v.ownBlock.toList ∨ b = w.heap.size) →
      wpList P ops Q rest (a.put o.dst (.slice ao (n + m) cap)) w') : wpList P ops Q (o :: rest) a w := by
  refine wpList_plain hgd fun K hK => ?_
  obtain ⟨v', w', hr, h2, h3, h4, ao, cap, rfl⟩ := run_append_src (P := P) w base t tx o.type e i z size bytes ht hi hz hsize hby hzs v n xs hown sv m news hs hbytes h63 hbase
  unfold Oper.wp execOp
  simp only [ho, resolve, invoke, builtin, Sem.run_bind, Sem.run_pure, Result.andThen_ok, List.map_toArray, List.map_cons, List.map_nil, hv, hx, hr]
  exact hK _ _ (h ao cap w' h2 h3 h4)

/-- What a slice that reads yields to an append. -/
theorem Src.ofRow {w : World} {size : Nat} {tx e' : TypeId} (hk : P.underlying tx = some (.slice e')) {v : Value} {n : Nat} {xs : List Value} (h : Row w v n xs) (hl : xs.length = n * size) (h1 : ∀ u ∈ xs, u.oneCell' = true) : Src P size tx v n xs w := by
  obtain ⟨ao, cap, rfl, _, _, h3⟩ := h
  rcases h3 with rfl | ⟨b, off, rfl, _, h4⟩
  · have hx : xs = [] := List.eq_nil_of_length_eq_zero (by simpa using hl)
    subst hx
    cases ao with
    | none => exact Src.ofNil w hk cap
    | some a => exact Src.ofSlice w hk a 0 cap [] (by simp) (by simp) (by simp)
  · refine Src.ofSlice w hk ⟨b, off, none⟩ n cap xs hl (fun j u hu => ?_) h1
    rw [Addr.add_lit]; exact h4 j u hu
end

/-- A slice that the call owns, by its elements. -/
theorem Fresh.owned {α : Type} {R : Rep α} {E : TypeId} {B : Nat} {w : World} {v : Value} {l : List α} (h : Fresh (Rep.slice E R) B w [v] l) :
    ∃ ts : List (El α), l = vals ts ∧ (∀ t ∈ ts, R.rd true w t.1 t.2.1 t.2.2) ∧ w.ownsRow B E R.n v ts.length (cellsOf ts) ∧ (v.ownBlock.toList ++ feet ts).Nodup ∧ ∀ b ∈ v.ownBlock.toList ++ feet ts, B ≤ b := by
  obtain ⟨fp, ⟨v', ts, hv, rfl, rfl, h1, _, h3⟩, hnd, hge⟩ := h
  simp only [List.cons.injEq, and_true] at hv
  subst hv
  have e : head true v ts.length = v.ownBlock.toList := by simp [head]
  rw [e] at hnd hge
  exact ⟨ts, rfl, h1, ownsRow_rebase (h3 rfl) (fun b hb => hge b (List.mem_append.2 (.inl hb))), hnd, hge⟩

theorem Fresh.of_owned {α : Type} {R : Rep α} {E : TypeId} {B : Nat} {w : World} {v : Value} (ts : List (El α)) (h1 : ∀ t ∈ ts, R.rd true w t.1 t.2.1 t.2.2) {B' : Nat} (h3 : w.ownsRow B' E R.n v ts.length (cellsOf ts))
    (hnd : (v.ownBlock.toList ++ feet ts).Nodup) (hge : ∀ b ∈ v.ownBlock.toList ++ feet ts, B ≤ b) : Fresh (Rep.slice E R) B w [v] (vals ts) := by
  have e : head true v ts.length = v.ownBlock.toList := by simp [head]
  exact ⟨v.ownBlock.toList ++ feet ts, ⟨v, ts, rfl, rfl, by rw [e], h1, Row.of_owns h3, fun _ => ownsRow_rebase h3 fun _ _ => Nat.zero_le _⟩, hnd, hge⟩

/-- Behind an append: the old elements and the new ones. w0: the world before it. -/
theorem Fresh.appended {α : Type} {R : Rep α} {E : TypeId} {B : Nat} {w0 w1 : World} {v v' : Value} {ts us : List (El α)} (h1 : ∀ t ∈ ts, R.rd true w0 t.1 t.2.1 t.2.2) (h2 : ∀ t ∈ us, R.rd true w0 t.1 t.2.1 t.2.2)
    (hnd : (v.ownBlock.toList ++ feet ts).Nodup) (hge : ∀ b ∈ v.ownBlock.toList ++ feet ts, B ≤ b) (hnd2 : (feet us).Nodup) (hge2 : ∀ b ∈ feet us, B ≤ b) (hd : ∀ b ∈ feet us, b ∉ v.ownBlock.toList ++ feet ts)
    (hg : w0.grownBy w1 v.ownBlock) (hB : B ≤ w0.heap.size) {B' : Nat} (ho : w1.ownsRow B' E R.n v' (ts.length + us.length) (cellsOf ts ++ cellsOf us)) (hb : ∀ b ∈ v'.ownBlock.toList, b ∈ v.ownBlock.toList ∨ b = w0.heap.size) :
    Fresh (Rep.slice E R) B w1 [v'] (vals ts ++ vals us) := by
  have hlt : ∀ t ∈ ts ++ us, ∀ b ∈ t.2.2, b < w0.heap.size := by
    intro t ht b hb'
    rcases List.mem_append.1 ht with ht | ht
    · exact R.lt (h1 t ht) b hb'
    · exact R.lt (h2 t ht) b hb'
  have hfe : feet (ts ++ us) = feet ts ++ feet us := by simp [feet]
  have hce : cellsOf (ts ++ us) = cellsOf ts ++ cellsOf us := by simp [cellsOf]
  have hve : vals (ts ++ us) = vals ts ++ vals us := by simp [vals]
  rw [← hve]
  have hnv : ∀ b ∈ feet (ts ++ us), b ∉ v.ownBlock.toList := by
    intro b hb1 hb2
    rw [hfe] at hb1
    rcases List.mem_append.1 hb1 with hb1 | hb1
    · exact (List.nodup_append.1 hnd).2.2 b hb2 b hb1 rfl
    · exact hd b hb1 (List.mem_append.2 (.inl hb2))
  have hkeep : ∀ t ∈ ts ++ us, ∀ b ∈ t.2.2, w1.heap[b]? = w0.heap[b]? := by
    intro t ht b hb'
    refine hg.block b (hlt t ht b hb') fun e => ?_
    exact hnv b (List.mem_flatMap.2 ⟨t, ht, hb'⟩) (by rw [← e]; simp)
  refine Fresh.of_owned (ts ++ us) ?_ (by rw [List.length_append, hce]; exact ho) ?_ ?_
  · intro t ht
    have hr : R.rd true w0 t.1 t.2.1 t.2.2 := (List.mem_append.1 ht).elim (h1 t) (h2 t)
    exact R.frame hr (hkeep t ht)
  · rw [List.nodup_append]
    refine ⟨by cases v'.ownBlock <;> simp, ?_, ?_⟩
    · rw [hfe, List.nodup_append]
      exact ⟨(List.nodup_append.1 hnd).2.1, hnd2, fun a ha b hb' e => hd b hb' (by rw [← e]; exact List.mem_append.2 (.inr ha))⟩
    · intro a ha b hb' e
      subst e
      rcases hb a ha with h | h
      · exact hnv a hb' h
      · obtain ⟨t, ht, hb'⟩ := List.mem_flatMap.1 hb'
        have := hlt t ht a hb'
        omega
  · intro b hb'
    rcases List.mem_append.1 hb' with hb' | hb'
    · rcases hb b hb' with h | h
      · exact hge b (List.mem_append.2 (.inl h))
      · omega
    · rw [hfe] at hb'
      rcases List.mem_append.1 hb' with hb' | hb'
      · exact hge b (List.mem_append.2 (.inr hb'))
      · exact hge2 b hb'

/-- One element more. -/
theorem Fresh.snoc {α : Type} {R : Rep α} {E : TypeId} {B : Nat} {w0 w1 : World} {v v' : Value} {ts : List (El α)} {ds : List Value} {x : α} {fx : List Nat} (h1 : ∀ t ∈ ts, R.rd true w0 t.1 t.2.1 t.2.2) (h2 : R.rd true w0 ds x fx)
    (hnd : (v.ownBlock.toList ++ feet ts).Nodup) (hge : ∀ b ∈ v.ownBlock.toList ++ feet ts, B ≤ b) (hnd2 : fx.Nodup) (hge2 : ∀ b ∈ fx, B ≤ b) (hd : ∀ b ∈ fx, b ∉ v.ownBlock.toList ++ feet ts)
    (hg : w0.grownBy w1 v.ownBlock) (hB : B ≤ w0.heap.size) {B' : Nat} (ho : w1.ownsRow B' E R.n v' (ts.length + 1) (cellsOf ts ++ ds)) (hb : ∀ b ∈ v'.ownBlock.toList, b ∈ v.ownBlock.toList ∨ b = w0.heap.size) :
    Fresh (Rep.slice E R) B w1 [v'] (vals ts ++ [x]) := by
  have e1 : feet [((ds, x, fx) : El α)] = fx := by simp [feet]
  have e2 : cellsOf [((ds, x, fx) : El α)] = ds := by simp [cellsOf]
  exact Fresh.appended (us := [(ds, x, fx)]) h1 (by intro t ht; simp at ht; subst ht; exact h2) hnd hge (by rw [e1]; exact hnd2) (by rw [e1]; exact hge2) (by rw [e1]; exact hd) hg hB (by rw [e2]; exact ho) hb

/-- A slice literal's row. -/
theorem own_lit {w : World} {e : TypeId} {size : Nat} {xs : Array Value} {n : Nat} (hl : xs.size = n * size) (hn : n ≤ maxLen) :
    (w.alloc (.cells xs e)).ownsRow w.heap.size e size (.slice (some ⟨w.heap.size, 0, none⟩) n n) n xs.toList :=
  ⟨(Array.length_toList).trans hl, .inr ⟨w.heap.size, n, xs, rfl, Nat.le_refl _, heap_alloc_new w _, Nat.le_refl _, hn, hl, List.take_of_length_le (by rw [Array.length_toList, hl]; exact Nat.le_refl _)⟩⟩
theorem own_alloc {w : World} {base : Nat} {e : TypeId} {size : Nat} {v : Value} {n : Nat} {xs : List Value} {o : Obj} (h : w.ownsRow base e size v n xs) : (w.alloc o).ownsRow base e size v n xs :=
  ownsRow_frame h fun b hb => Below.heap_alloc w o b (World.ownsRow.lt h b (by first | exact hb | simpa using hb)).2
theorem flat_cells {α : Type} {enc : α → Value} : ∀ (ts : List (El α)), (∀ t ∈ ts, t.1 = [enc t.2.1]) → cellsOf ts = (vals ts).map enc
  | [], _ => rfl
  | t :: ts, h => by
    have h1 := flat_cells ts fun t ht => h t (by simp [ht])
    have h2 := h t (by simp)
    simp only [cellsOf, vals, List.flatMap_cons, List.map_cons] at *
    rw [h2, h1]; rfl
theorem flat_row {α : Type} {E : TypeId} {enc : α → Value} {ok : α → Prop} {hl h1} {w : World} {v : Value} {l : List α}
    (h : Reads (Rep.slice E (Rep.flat 1 (fun x => [enc x]) ok hl h1)) w [v] l) : Row w v l.length (l.map enc) := by
  obtain ⟨fp, v', ts, hv, rfl, rfl, hts, hrow, _⟩ := h
  simp only [List.cons.injEq, and_true] at hv
  subst hv
  rw [← flat_cells ts fun t ht => (hts t ht).1, vals_length]
  exact hrow
theorem flat_src {α : Type} {P : Program} {E tx e' : TypeId} {enc : α → Value} {ok : α → Prop} {hl h1} {w : World} {v : Value} {l : List α} (hk : P.underlying tx = some (.slice e'))
    (h : Reads (Rep.slice E (Rep.flat 1 (fun x => [enc x]) ok hl h1)) w [v] l) (h2 : ∀ x, (enc x).oneCell' = true) : Src P 1 tx v l.length (l.map enc) w :=
  Src.ofRow hk (flat_row h) (by simp) (by intro u hu; obtain ⟨x, _, rfl⟩ := List.mem_map.1 hu; exact h2 x)
theorem lit_src {P : Program} {tx e' : TypeId} {w : World} {n : Nat} {size : Nat} {xs : Array Value} {t : TypeId} (hk : P.underlying tx = some (.slice e')) (hl : xs.size = n * size) (h1 : ∀ u ∈ xs.toList, u.oneCell' = true) :
    Src P size tx (.slice (some ⟨w.heap.size, 0, none⟩) n n) n xs.toList (w.alloc (.cells xs t)) :=
  Src.ofSlice _ hk _ n n _ (by simpa using hl) (fun j u hu => by
    rw [Addr.add_lit, Nat.zero_add, ← hu, Array.getElem?_toList]; simp [go_sem]) h1
theorem grow_below {B : Nat} {w w1 : World} {v : Value} (h : w.grownBy w1 v.ownBlock) (hv : ∀ b ∈ v.ownBlock.toList, B ≤ b) (hB : B ≤ w.heap.size) : Below B w w1 :=
  ⟨h.os, h.tape, h.output, h.size, fun k hk => h.block k (by omega) fun e => by have := hv k (by simp [← e]); omega⟩

end Go.Proofs.Ytjdoofekohjjlaa
