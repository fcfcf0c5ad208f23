/-
  slices.Insert's parts at elements of several cells: copy onto a row that is known whole, append of zero values; what an owned slice is behind an insertion. No function of the program is named here.
-/
import Derived.Test.YtgicglmcapnogaaGreatBase
import Derived.Test.YtgicglmcapnogaaGreatPlain
import Derived.Lib.Overlaps
import Derived.Lib.AppendZerosOnto
import Derived.Laws.CopyOwn
import Derived.Deep.RegionLaw
namespace Go.Proofs.YtgicglmcapnogaaGreat
open Go.RowKit

theorem run_copy_rows {P : Program} (w : World) (dT sT ty elem : TypeId) (S g o dLen dCap : Nat) (a : Addr) (sLen sCap : Nat) (cur : Array Value) (t : TypeId) (cs : List Value)
    (hu : P.underlying dT = some (.slice elem)) (hs : (P.info? elem).map (·.size) = some S)
    (hg : w.heap[g]? = some (.cells cur t (0, 0))) (hn : cs.length = Nat.min sLen dLen * S)
    (hsrc : ∀ j v, cs[j]? = some v → w.cell? (a.add j) = some v) (hfit : o + cs.length ≤ cur.size) (h1 : ∀ v ∈ cs, v.oneCell' = true) :
    (Builtin.copy_ #[dT, sT] ty #[.slice (some ⟨g, o, none⟩) dLen dCap, .slice (some a) sLen sCap]).run P w =
      .ok (goInt (Nat.min sLen dLen)) (w.setRow g (cur.toList.take o ++ cs ++ cur.toList.drop (o + cs.length)).toArray) := by
  have hl := run_loadCells_list (P := P) w a cs hsrc
  have hst := run_storeCells_at P g o t cs 0 cur w hg (by simpa using hfit) h1
  cases hq : P.info? elem with
  | none => simp [hq] at hs
  | some i =>
    have hi : i.size = S := by simpa [hq] using hs
    simp [Builtin.copy_, run_underlying hu, Builtin.lenOf, Builtin.firstCells, sizeOf, typeInfo, hq, hi, ← hn, hl, hst]

theorem grown_setRow (w : World) (g : Nat) (cs : Array Value) : w.grownBy (w.setRow g cs) (some g) :=
  ⟨rfl, rfl, rfl, by simp [World.setRow], fun k _ hk => setRow_other w g k cs (fun e => hk (by simp [e]))⟩

theorem grown_drew {w w' : World} {r : Option Nat} (h : w.drew.grownBy w' r) : w.grownBy w' r := ⟨h.os, h.tape, h.output, h.size, h.block⟩
theorem wpList_copy_rows {P : Program} {w : World} {ops : Array Oper} {rest : List Oper} {o : Oper} {a : Act} {Q : Exit → Act → World → Prop} (hgd : o.guard = none) (d s : Operand) (dT sT : TypeId)
    (ho : o.op = .call { callee := .builtin .copy, args := #[d, s], argTypes := #[dT, sT] }) (elem : TypeId) (S : Nat) (hu : P.underlying dT = some (.slice elem)) (hsz : (P.info? elem).map (·.size) = some S)
    (dp sp : Option Addr) (dLen dCap sLen sCap : Nat) (hd : a.eval d = .slice dp dLen dCap) (hs : a.eval s = .slice sp sLen sCap)
    (g off : Nat) (cur : List Value) (t : TypeId) (hg : w.heap[g]? = some (.cells cur.toArray t (0, 0))) (cs : List Value) (ad : Addr) (hdp : dp = some ⟨g, off, none⟩) (hsp : sp = some ad) (hn : cs.length = Nat.min sLen dLen * S)
    (hsrc : ∀ j v, cs[j]? = some v → w.cell? (ad.add j) = some v)
    (hfit : off + cs.length ≤ cur.length) (h1 : ∀ v ∈ cs, v.oneCell' = true)
    (h : ∀ w', Hid (w'.heap[g]? = some (.cells (splice cur off cs).toArray t (0, 0))) → Hid (w.grownBy w' (some g)) → wpList P ops Q rest (a.put o.dst (goInt (Nat.min sLen dLen))) w') :
    wpList P ops Q (o :: rest) a w := by
  subst hdp hsp
  refine wpList_plain hgd fun K hK => ?_
  have hrun := run_copy_rows (P := P) w dT sT o.type elem S g off dLen dCap ad sLen sCap cur.toArray t cs hu hsz hg hn hsrc (by simpa using hfit) h1
  unfold Oper.wp execOp
  simp only [ho, resolve, invoke, builtin, Sem.run_bind, Sem.run_pure, Result.andThen_ok, List.map_toArray, List.map_cons, List.map_nil, hd, hs, hrun]
  exact hK _ _ (h _ (show _ = _ by simpa [splice] using setRow_heap w g _ _ t _ hg) (grown_setRow _ _ _))

theorem step_copy_rows {P : Program} {ops : Array Oper} {o : Oper} {a : Act} {w : World} {K : Act → World → Prop} {Q : Exit → Act → World → Prop} {X : Prop} (hgd : o.guard = none) (d s : Operand) (dT sT : TypeId)
    (ho : o.op = .call { callee := .builtin .copy, args := #[d, s], argTypes := #[dT, sT] }) (elem : TypeId) (S : Nat) (hu : P.underlying dT = some (.slice elem)) (hsz : (P.info? elem).map (·.size) = some S)
    (dp sp : Option Addr) (dLen dCap sLen sCap : Nat) (hd : a.eval d = .slice dp dLen dCap) (hs : a.eval s = .slice sp sLen sCap)
    (g off : Nat) (cur : List Value) (t : TypeId) (hg : w.heap[g]? = some (.cells cur.toArray t (0, 0))) (cs : List Value) (ad : Addr) (hdp : dp = some ⟨g, off, none⟩) (hsp : sp = some ad) (hn : cs.length = Nat.min sLen dLen * S)
    (hsrc : ∀ j v, cs[j]? = some v → w.cell? (ad.add j) = some v)
    (hfit : off + cs.length ≤ cur.length) (h1 : ∀ v ∈ cs, v.oneCell' = true)
    (h : ∀ w', Hid (w'.heap[g]? = some (.cells (splice cur off cs).toArray t (0, 0))) → Hid (w.grownBy w' (some g)) → K (a.put o.dst (goInt (Nat.min sLen dLen))) w') :
    if Region.wanted o (yielded ops a.tmps) = true then Oper.wp P o a w K Q else X := by
  have hw : Region.wanted o (yielded ops a.tmps) = true := by simp [Region.wanted, hgd]
  rw [if_pos hw]
  subst hdp hsp
  have hrun := run_copy_rows (P := P) w dT sT o.type elem S g off dLen dCap ad sLen sCap cur.toArray t cs hu hsz hg hn hsrc (by simpa using hfit) h1
  unfold Oper.wp execOp
  simp only [ho, resolve, invoke, builtin, Sem.run_bind, Sem.run_pure, Result.andThen_ok, List.map_toArray, List.map_cons, List.map_nil, hd, hs, hrun]
  exact h _ (show _ = _ by simpa [splice] using setRow_heap w g _ _ t _ hg) (grown_setRow _ _ _)

/-- 'append(s, make([]T, k)...)' where it must grow. -/
theorem wpList_append_zeros {P : Program} {w : World} {ops : Array Oper} {rest : List Oper} {o : Oper} {a : Act} {Q : Exit → Act → World → Prop} (hgd : o.guard = none) (s x : Operand) (t tn : TypeId)
    (ho : o.op = .call { callee := .builtin .append, args := #[s, x], argTypes := #[t, tn] }) (e : TypeId) (i : TypeInfo) (z : Value) (S bytes : Nat) (kq kn : IntKind) (ht : P.underlying t = some (.slice e)) (htn : P.underlying tn = some (.int kn)) (hi : P.info? e = some i) (hz : i.zero = some z)
    (hsize : i.size = S) (hby : i.bytes = bytes) (hzs : z.cells.size = S) (hS : 0 < S)
    (v : Value) (q : Int) (hv : a.eval s = v) (hx : a.eval x = .int kq q) (g n cap k m : Nat) (hm : n + k = m) (hvv : v = .slice (some ⟨g, 0, none⟩) n cap) (hq : q = (k : Int)) (olds : List Value) (hol : olds.length = n * S) (hold : ∀ j u, olds[j]? = some u → w.cell? ⟨g, j, none⟩ = some u)
    (h0 : 0 < k) (hg : cap < n + k) (hlen : n + k ≤ 16777216) (hbytes : bytes ≤ 8388608)
    (h : ∀ c' row w', Hid (w'.heap[w.heap.size]? = some (.cells row e (0, 0))) → Hid (row.size = c' * S ∧ m ≤ c' ∧ c' ≤ maxLen ∧ row.toList.take (n * S) = olds) → Hid (Below w.heap.size w w' ∧ w'.heap.size = w.heap.size + 1) →
      wpList P ops Q rest (a.put o.dst (.slice (some ⟨w.heap.size, 0, none⟩) m c')) w') :
    wpList P ops Q (o :: rest) a w := by
  subst hvv hq hm
  have hmul : (n + k) * bytes ≤ 16777216 * 8388608 := Nat.mul_le_mul hlen hbytes
  have hkb : k * bytes ≤ 16777216 * 8388608 := Nat.le_trans (Nat.mul_le_mul_right _ (by omega)) hmul
  refine wpList_plain hgd fun K hK => ?_
  have hf : (Builtin.firstCells i.size n (.slice (some ⟨g, 0, none⟩) n cap)).run P w.drew = .ok olds.toArray w.drew := by
    rw [hsize]
    exact run_firstCells_some w.drew S n ⟨g, 0, none⟩ n cap olds hol (fun j u hj => by rw [Addr.add_lit, Nat.zero_add]; exact hold j u hj)
  have hrun := Lib.run_append_grow_zeros (P := P) w t tn o.type e i z kq kn ht htn hi hz (some ⟨g, 0, none⟩) n cap olds hf k h0 (by omega) hg (by omega) (by rw [hby]; omega) (by rw [hby]; exact growslice_fits hg (by omega))
  unfold Oper.wp execOp
  simp only [ho, resolve, invoke, builtin, Sem.run_bind, Sem.run_pure, Result.andThen_ok, List.map_toArray, List.map_cons, List.map_nil, hv, hx, hrun]
  have hG := grownCap_ge w (n + k) cap e
  refine hK _ _ (h _ _ _ (show _ = _ from heap_alloc_new w.drew _) ⟨?_, hG, grownCap_le_maxLen w (n + k) cap e (by unfold maxLen; omega), ?_⟩ ⟨belA (belD belR), by simp⟩)
  · simp only [Array.size_append, size_zeroCells, hzs, List.size_toArray, hol]
    rw [← Nat.add_mul, ← Nat.add_mul]
    congr 1; omega
  · rw [Array.toList_append, Array.toList_append, List.append_assoc, List.take_left' (by simpa using hol)]

/-- The cells behind an insertion in place. -/
theorem insert_room {S n cap i : Nat} {cur xs us : List Value} (hi : i < n) (hnc : n + 1 ≤ cap) (hcs : cur.length = cap * S) (hxs : cur.take (n * S) = xs) (hus : us.length = S) :
    (splice (splice cur ((i + 1) * S) (xs.drop (i * S))) (i * S) us).length = cap * S ∧ (splice (splice cur ((i + 1) * S) (xs.drop (i * S))) (i * S) us).take ((n + 1) * S) = xs.take (i * S) ++ us ++ xs.drop (i * S) := by
  have e1 : (i + 1) * S = i * S + S := by rw [Nat.add_mul]; omega
  have e2 : (n + 1) * S = n * S + S := by rw [Nat.add_mul]; omega
  have h1 : i * S ≤ n * S := Nat.mul_le_mul_right _ (by omega)
  have h2 : n * S + S ≤ cap * S := by rw [← e2]; exact Nat.mul_le_mul_right _ hnc
  have hl : xs.length = n * S := by rw [← hxs, List.length_take]; omega
  have hdl : (xs.drop (i * S)).length = n * S - i * S := by rw [List.length_drop, hl]
  have k1 : (splice cur ((i + 1) * S) (xs.drop (i * S))).length = cap * S := by rw [length_splice _ _ _ (by omega), hcs]
  have k2 : (splice (splice cur ((i + 1) * S) (xs.drop (i * S))) (i * S) us).length = cap * S := by rw [length_splice _ _ _ (by omega), k1]
  refine ⟨k2, ?_⟩
  have t1 : (splice cur ((i + 1) * S) (xs.drop (i * S))).take (i * S) = xs.take (i * S) := by
    unfold splice
    rw [List.take_append_of_le_length (by rw [List.length_take]; omega), List.take_take, ← hxs, List.take_take]
    congr 1; omega
  have t2 : (splice cur ((i + 1) * S) (xs.drop (i * S))).drop (i * S + us.length) = xs.drop (i * S) ++ cur.drop (n * S + S) := by
    unfold splice
    have hk : (cur.take ((i + 1) * S)).length = i * S + us.length := by rw [List.length_take]; omega
    rw [← hk, List.drop_left]
    congr 2
    omega
  have eU : ∀ (L : List Value) (o : Nat) (cs : List Value), splice L o cs = L.take o ++ (cs ++ L.drop (o + cs.length)) := fun _ _ _ => rfl
  rw [eU (splice cur ((i + 1) * S) (xs.drop (i * S))), t1, t2, ← List.append_assoc, ← List.append_assoc]
  refine List.take_left' ?_
  simp only [List.length_append, List.length_take, hdl, hl, hus]
  omega

/-- .. and into a new row. -/
theorem insert_grow {S n c i : Nat} {row xs us : List Value} (hi : i < n) (hnc : n + 1 ≤ c) (hcs : row.length = c * S) (hxs : xs.length = n * S) (hrow : row.take (i * S) = xs.take (i * S)) (hus : us.length = S) :
    (splice (splice row (i * S) us) ((i + 1) * S) (xs.drop (i * S))).length = c * S ∧ (splice (splice row (i * S) us) ((i + 1) * S) (xs.drop (i * S))).take ((n + 1) * S) = xs.take (i * S) ++ us ++ xs.drop (i * S) := by
  have e1 : (i + 1) * S = i * S + S := by rw [Nat.add_mul]; omega
  have e2 : (n + 1) * S = n * S + S := by rw [Nat.add_mul]; omega
  have h1 : i * S ≤ n * S := Nat.mul_le_mul_right _ (by omega)
  have h2 : n * S + S ≤ c * S := by rw [← e2]; exact Nat.mul_le_mul_right _ hnc
  have h3 : i * S + S ≤ n * S := by rw [← e1]; exact Nat.mul_le_mul_right _ hi
  have hdl : (xs.drop (i * S)).length = n * S - i * S := by rw [List.length_drop, hxs]
  have k1 : (splice row (i * S) us).length = c * S := by rw [length_splice _ _ _ (by omega), hcs]
  refine ⟨by rw [length_splice _ _ _ (by omega), k1], ?_⟩
  have t1 : (splice row (i * S) us).take ((i + 1) * S) = xs.take (i * S) ++ us := by
    unfold splice
    rw [← List.append_assoc, hrow]
    exact List.take_left' (by simp only [List.length_append, List.length_take, hxs, hus]; omega)
  have eU : ∀ (L : List Value) (o : Nat) (cs : List Value), splice L o cs = L.take o ++ (cs ++ L.drop (o + cs.length)) := fun _ _ _ => rfl
  rw [eU (splice row (i * S) us), t1, ← List.append_assoc]
  refine List.take_left' ?_
  simp only [List.length_append, List.length_take, hdl, hxs, hus]
  omega

theorem ownsRow_unique {w : World} {B B' : Nat} {e : TypeId} {size : Nat} {v : Value} {n : Nat} {xs ys : List Value} (h : w.ownsRow B e size v n xs) (h' : w.ownsRow B' e size v n ys) : xs = ys := by
  rcases h.2 with ⟨rfl, rfl⟩ | ⟨g, cap, cur, rfl, _, hg, _, _, _, ht⟩
  · have e1 := h.1
    have e2 := h'.1
    simp only [Nat.zero_mul] at e1 e2
    rw [List.eq_nil_of_length_eq_zero e1, List.eq_nil_of_length_eq_zero e2]
  · rcases h'.2 with ⟨hv, _⟩ | ⟨g', cap', cur', hv, _, hg', _, _, _, ht'⟩
    · simp at hv
    · simp only [Value.slice.injEq, Option.some.injEq, Addr.mk.injEq, and_true, true_and] at hv
      obtain ⟨rfl, rfl⟩ := hv
      rw [hg] at hg'
      simp only [Option.some.injEq, Obj.cells.injEq, and_true] at hg'
      subst hg'
      rw [← ht, ← ht']
theorem grown_of_below {w w' : World} {r : Option Nat} (h : Below w.heap.size w w') : w.grownBy w' r := ⟨h.os, h.tape, h.output, h.size, fun k hk _ => h.block k hk⟩

/-- What a call owns: its blocks lie in [B, m) or from m2 on. -/
def Gap {α : Type} (R : Rep α) (B m m2 : Nat) (w : World) (cs : List Value) (x : α) : Prop := ∃ fp, R.rd true w cs x fp ∧ fp.Nodup ∧ ∀ b ∈ fp, B ≤ b ∧ (b < m ∨ m2 ≤ b)
theorem Gap.fresh {α : Type} {R : Rep α} {B m m2 : Nat} {w : World} {cs : List Value} {x : α} (h : Gap R B m m2 w cs x) : Fresh R B w cs x := by
  obtain ⟨fp, h1, h2, h3⟩ := h
  exact ⟨fp, h1, h2, fun b hb => (h3 b hb).1⟩
theorem Gap.set {α : Type} {R : Rep α} {B m m2 : Nat} {w : World} {cs : List Value} {x : α} {g o : Nat} {u : Value} (h : Gap R B m m2 w cs x) (hg : m ≤ g ∧ g < m2) : Gap R B m m2 (w.setCell ⟨g, o, none⟩ u) cs x := by
  obtain ⟨fp, h1, h2, h3⟩ := h
  exact ⟨fp, R.frame h1 fun b hb => Below.heap_setCell _ _ _ _ (by have := (h3 b hb).2; simp only []; omega), h2, h3⟩
theorem Gap.below {α : Type} {R : Rep α} {B m m2 : Nat} {w w' : World} {cs : List Value} {x : α} (h : Gap R B m m2 w cs x) (hb : Below w.heap.size w w') : Gap R B m m2 w' cs x := by
  obtain ⟨fp, h1, h2, h3⟩ := h
  exact ⟨fp, R.frame h1 fun b hb' => hb.block b (R.lt h1 b hb'), h2, h3⟩
theorem Gap.of_owned {α : Type} {R : Rep α} {E : TypeId} {B m m2 : Nat} {w : World} {v : Value} (ts : List (El α)) (h1 : ∀ t ∈ ts, R.rd true w t.1 t.2.1 t.2.2) {B' : Nat} (h3 : w.ownsRow B' E R.n v ts.length (cellsOf ts))
    (hnd : (v.ownBlock.toList ++ feet ts).Nodup) (hge : ∀ b ∈ v.ownBlock.toList ++ feet ts, B ≤ b ∧ (b < m ∨ m2 ≤ b)) : Gap (Rep.slice E R) B m m2 w [v] (vals ts) := by
  have e : head true v ts.length = v.ownBlock.toList := by simp [head]
  exact ⟨v.ownBlock.toList ++ feet ts, ⟨v, ts, rfl, rfl, by rw [e], h1, Row.of_owns h3, fun _ => ownsRow_rebase h3 fun _ _ => Nat.zero_le _⟩, hnd, hge⟩

section
variable {α : Type} {R : Rep α}

theorem cellsOf_take {n : Nat} : ∀ (ts : List (El α)) (k : Nat), (∀ t ∈ ts, t.1.length = n) → cellsOf (ts.take k) = (cellsOf ts).take (k * n)
  | ts, 0, _ => by simp [cellsOf]
  | [], k + 1, _ => by simp [cellsOf]
  | t :: ts, k + 1, h => by
    have h1 := h t (by simp)
    have e : cellsOf (t :: ts) = t.1 ++ cellsOf ts := by simp [cellsOf]
    have e' : cellsOf ((t :: ts).take (k + 1)) = t.1 ++ cellsOf (ts.take k) := by simp [cellsOf]
    rw [e', e, cellsOf_take ts k fun u hu => h u (by simp [hu]), List.take_append]
    have e1 : t.1.take ((k + 1) * n) = t.1 := List.take_of_length_le (by rw [h1, Nat.add_mul]; omega)
    rw [e1, h1, show (k + 1) * n - n = k * n by rw [Nat.add_mul]; omega]
theorem cellsOf_drop' {n : Nat} : ∀ (ts : List (El α)) (k : Nat), (∀ t ∈ ts, t.1.length = n) → cellsOf (ts.drop k) = (cellsOf ts).drop (k * n)
  | ts, 0, _ => by simp
  | [], k + 1, _ => by simp [cellsOf]
  | t :: ts, k + 1, h => by
    have h1 := h t (by simp)
    have e : cellsOf (t :: ts) = t.1 ++ cellsOf ts := by simp [cellsOf]
    have e1 : t.1.drop ((k + 1) * n) = [] := List.drop_of_length_le (by rw [h1, Nat.add_mul]; omega)
    have e2 : (k + 1) * n - n = k * n := by rw [Nat.add_mul]; omega
    rw [List.drop_succ_cons, cellsOf_drop' ts k fun u hu => h u (by simp [hu]), e, List.drop_append, h1, e1, e2, List.nil_append]

/-- What an owned slice is behind an insertion of one element that is new. -/
theorem Part.inserted {E : TypeId} {B m m2 : Nat} {w w' : World} {v v' : Value} {l : List α} {u : α} {us : List Value} {i : Nat} (h : Part (Rep.slice E R) B m w [v] l) (hu : Fresh R m2 w us u) (hB : B ≤ m) (hmm : m ≤ m2) (hm2 : m2 ≤ w.heap.size)
    {B' : Nat} (hg : w.grownBy w' v.ownBlock) (hv : ∀ b ∈ v'.ownBlock.toList, b ∈ v.ownBlock.toList ∨ w.heap.size ≤ b)
    (ho : ∀ xs, w.ownsRow B E R.n v l.length xs → (∀ x ∈ xs, x.oneCell' = true) → w'.ownsRow B' E R.n v' (l.length + 1) (xs.take (i * R.n) ++ us ++ xs.drop (i * R.n))) (hi : i ≤ l.length) :
    Gap (Rep.slice E R) B m m2 w' [v'] (insAt l i u) := by
  obtain ⟨ts, rfl, h1, h2, hnd, hge⟩ := h.owned
  obtain ⟨fu, r1, r2, r3⟩ := hu
  have hlen : ∀ t ∈ ts, t.1.length = R.n := fun t ht => R.len (h1 t ht)
  have hone : ∀ x ∈ cellsOf ts, x.oneCell' = true := fun x hx => by
    obtain ⟨t, ht, hx⟩ := List.mem_flatMap.1 hx
    exact R.one (h1 t ht) x hx
  have ho' := ho (cellsOf ts) (by rw [vals_length]; exact h2) hone
  rw [vals_length] at ho' hi
  have e1 : cellsOf (ts.take i ++ (us, u, fu) :: ts.drop i) = (cellsOf ts).take (i * R.n) ++ us ++ (cellsOf ts).drop (i * R.n) := by
    have := cellsOf_take ts i hlen
    have := cellsOf_drop' ts i hlen
    simp only [cellsOf, List.flatMap_append, List.flatMap_cons] at *
    simp only [*, List.append_assoc]
  have e2 : vals (ts.take i ++ (us, u, fu) :: ts.drop i) = insAt (vals ts) i u := by simp [vals, insAt, List.map_take, List.map_drop]
  have e3 : ∀ b, b ∈ feet (ts.take i ++ (us, u, fu) :: ts.drop i) ↔ b ∈ feet ts ∨ b ∈ fu := by
    intro b
    have e : feet ts = feet (ts.take i) ++ feet (ts.drop i) := by
      unfold feet
      rw [← List.flatMap_append, List.take_append_drop]
    rw [e]
    simp only [feet, List.flatMap_append, List.flatMap_cons, List.mem_append]
    constructor
    · rintro (h | h | h) <;> simp [h]
    · rintro ((h | h) | h) <;> simp [h]
  have hnd0 := (List.nodup_append.1 hnd).2.1
  have hfe : (feet (ts.take i ++ (us, u, fu) :: ts.drop i)).Nodup := by
    have e : feet ts = feet (ts.take i) ++ feet (ts.drop i) := by
      unfold feet
      rw [← List.flatMap_append, List.take_append_drop]
    rw [e, List.nodup_append] at hnd0
    have hlt : ∀ b ∈ feet (ts.take i) ++ feet (ts.drop i), b < m := fun b hb => (hge b (List.mem_append.2 (.inr (by rw [e]; exact hb)))).2
    have e' : feet (ts.take i ++ (us, u, fu) :: ts.drop i) = feet (ts.take i) ++ (fu ++ feet (ts.drop i)) := by simp [feet]
    rw [e', List.nodup_append, List.nodup_append]
    refine ⟨hnd0.1, ⟨r2, hnd0.2.1, fun a ha b hb hab => ?_⟩, fun a ha b hb hab => ?_⟩
    · have := r3 a ha; have := hlt b (List.mem_append.2 (.inr hb)); omega
    · rcases List.mem_append.1 hb with hb | hb
      · have := r3 b hb; have := hlt a (List.mem_append.2 (.inl ha)); omega
      · exact hnd0.2.2 a ha b hb hab
  have hnv : ∀ b ∈ feet (ts.take i ++ (us, u, fu) :: ts.drop i), b ∉ v.ownBlock.toList := by
    intro b hb hb'
    have hbm := (hge b (List.mem_append.2 (.inl hb'))).2
    rcases (e3 b).1 hb with h | h
    · exact (List.nodup_append.1 hnd).2.2 b hb' b h rfl
    · have := r3 b h; omega
  have hrd : ∀ t ∈ ts.take i ++ (us, u, fu) :: ts.drop i, R.rd true w t.1 t.2.1 t.2.2 := by
    intro t ht
    rcases List.mem_append.1 ht with ht | ht
    · exact h1 t (List.mem_of_mem_take ht)
    · rcases List.mem_cons.1 ht with rfl | ht
      · exact r1
      · exact h1 t (List.mem_of_mem_drop ht)
  rw [← e2]
  refine Gap.of_owned (ts.take i ++ (us, u, fu) :: ts.drop i) (fun t ht => ?_) (B' := B') (by rw [e1]; simpa [Nat.min_eq_left hi, show i + (ts.length - i + 1) = ts.length + 1 by omega] using ho') ?_ ?_
  · exact R.frame (hrd t ht) fun b hb => hg.block b (R.lt (hrd t ht) b hb) fun e => hnv b (List.mem_flatMap.2 ⟨t, ht, hb⟩) (by rw [← e]; simp)
  · rw [List.nodup_append]
    refine ⟨by cases v'.ownBlock <;> simp, hfe, fun a ha b hb hab => ?_⟩
    subst hab
    rcases hv a ha with h | h
    · exact hnv a hb h
    · obtain ⟨t, ht, hb⟩ := List.mem_flatMap.1 hb
      have := R.lt (hrd t ht) a hb
      omega
  · intro b hb
    rcases List.mem_append.1 hb with hb | hb
    · rcases hv b hb with h | h
      · have := hge b (List.mem_append.2 (.inl h)); exact ⟨this.1, .inl this.2⟩
      · exact ⟨by omega, .inr (by omega)⟩
    · rcases (e3 b).1 hb with h | h
      · have := hge b (List.mem_append.2 (.inr h)); exact ⟨this.1, .inl this.2⟩
      · have := r3 b h; exact ⟨by omega, .inr this⟩

/-- What an owned slice is behind stores into one element. -/
theorem Part.setEl {E : TypeId} {B m g cap n : Nat} {w : World} {l : List α} (h : Part (Rep.slice E R) B m w [.slice (some ⟨g, 0, none⟩) n cap] l) (i : Nat) (hi : i < l.length) (o : Nat) (us : List Value) (x : α) (hfit : o + us.length ≤ R.n)
    (hnew : ∀ cs fe, R.rd true w cs l[i] fe → fe.Nodup → (∀ b ∈ fe, B ≤ b ∧ b < m) → ∃ fx, R.rd true w (cs.take o ++ (us ++ cs.drop (o + us.length))) x fx ∧ fx.Nodup ∧ ∀ b ∈ fx, B ≤ b ∧ (b ∈ fe ∨ m ≤ b)) :
    Fresh (Rep.slice E R) B (setCells w g (i * R.n + o) us) [.slice (some ⟨g, 0, none⟩) n cap] (l.set i x) := by
  obtain ⟨ts, rfl, h1, h2, hnd, hge⟩ := h.owned
  rw [vals_length] at hi
  have hti : (vals ts)[i]'(by rw [vals_length]; exact hi) = ts[i].2.1 := by simp [vals]
  have hlen : ∀ t ∈ ts, t.1.length = R.n := fun t ht => R.len (h1 t ht)
  have hn : n = ts.length := by
    rcases h2.2 with ⟨h, _⟩ | ⟨g', cap', cur, h, _⟩
    · simp at h
    · simp only [Value.slice.injEq] at h; exact h.2.1
  subst hn
  have hm1 := h1 ts[i] (List.getElem_mem _)
  have hfi : ∀ b ∈ ts[i].2.2, b ∈ feet ts := fun b hb => List.mem_flatMap.2 ⟨ts[i], List.getElem_mem _, hb⟩
  have esplit : ts = ts.take i ++ (ts[i] :: ts.drop (i + 1)) := by rw [List.getElem_cons_drop, List.take_append_drop]
  have efeet : feet ts = feet (ts.take i) ++ (ts[i].2.2 ++ feet (ts.drop (i + 1))) := by
    unfold feet
    conv => lhs; rw [esplit]
    rw [List.flatMap_append, List.flatMap_cons]
  have hnd0 := (List.nodup_append.1 hnd).2.1
  have hnd1 := hnd0
  rw [efeet, List.nodup_append, List.nodup_append] at hnd1
  have hgf : ∀ b ∈ feet ts, b ≠ g := fun b hb e => (List.nodup_append.1 hnd).2.2 g (by simp [Value.ownBlock]) b hb e.symm
  have hgm := (hge g (List.mem_append.2 (.inl (by simp [Value.ownBlock])))).2
  obtain ⟨fx, k1, k2, k3⟩ := hnew ts[i].1 ts[i].2.2 (by rw [hti]; exact hm1) hnd1.2.1.1 (fun b hb => hge b (List.mem_append.2 (.inr (hfi b hb))))
  have hs := setCells_owns us (i * R.n + o) w _ h2
  have hlt : (cellsOf (ts.take i)).length = i * R.n := by
    rw [cellsOf_length _ fun t ht => hlen t (List.mem_of_mem_take ht), List.length_take, Nat.min_eq_left (Nat.le_of_lt hi)]
  have hli := hlen ts[i] (List.getElem_mem _)
  have hsplit : cellsOf ts = (cellsOf (ts.take i) ++ ts[i].1.take o) ++ (((ts[i].1.drop o).take us.length) ++ (ts[i].1.drop (o + us.length) ++ cellsOf (ts.drop (i + 1)))) := by
    have e2 : ts[i].1 = ts[i].1.take o ++ ((ts[i].1.drop o).take us.length ++ ts[i].1.drop (o + us.length)) := by
      rw [← List.drop_drop, List.take_append_drop, List.take_append_drop]
    conv => lhs; rw [esplit]
    have e3 : cellsOf (ts.take i ++ (ts[i] :: ts.drop (i + 1))) = cellsOf (ts.take i) ++ (ts[i].1 ++ cellsOf (ts.drop (i + 1))) := by simp only [cellsOf, List.flatMap_append, List.flatMap_cons]
    rw [e3]
    conv => lhs; rw [e2]
    simp only [List.append_assoc]
  have hA : (cellsOf (ts.take i) ++ ts[i].1.take o).length = i * R.n + o := by rw [List.length_append, hlt, List.length_take, hli]; omega
  rw [hsplit, ← hA, setL_mid _ _ _ _ (by rw [List.length_take, List.length_drop, hli]; omega), hA] at hs
  let t' : El α := (ts[i].1.take o ++ (us ++ ts[i].1.drop (o + us.length)), x, fx)
  have hset : (cellsOf (ts.take i) ++ ts[i].1.take o) ++ (us ++ (ts[i].1.drop (o + us.length) ++ cellsOf (ts.drop (i + 1)))) = cellsOf (ts.take i ++ (t' :: ts.drop (i + 1))) := by
    have e3 : cellsOf (ts.take i ++ (t' :: ts.drop (i + 1))) = cellsOf (ts.take i) ++ (t'.1 ++ cellsOf (ts.drop (i + 1))) := by simp [cellsOf]
    rw [e3]
    simp only [t', List.append_assoc]
  rw [hset] at hs
  have ev : (vals ts).set i x = vals (ts.take i ++ (t' :: ts.drop (i + 1))) := by
    rw [List.set_eq_take_append_cons_drop, if_pos (by rw [vals_length]; exact hi)]
    simp [vals, t', List.map_take, List.map_drop]
  have ef : feet (ts.take i ++ (t' :: ts.drop (i + 1))) = feet (ts.take i) ++ (fx ++ feet (ts.drop (i + 1))) := by simp [feet, t']
  have hfx : ∀ b ∈ fx, b ≠ g := fun b hb e => by
    rcases (k3 b hb).2 with h | h
    · exact hgf b (hfi b h) e
    · omega
  have hall : ∀ b ∈ feet (ts.take i ++ (t' :: ts.drop (i + 1))), b ≠ g ∧ B ≤ b := by
    intro b hb
    rw [ef] at hb
    have hin : ∀ b, b ∈ feet (ts.take i) ∨ b ∈ feet (ts.drop (i + 1)) → b ∈ feet ts := fun b h => by
      rw [efeet]; rcases h with h | h <;> simp [h]
    rcases List.mem_append.1 hb with hb | hb
    · exact ⟨hgf b (hin b (.inl hb)), (hge b (List.mem_append.2 (.inr (hin b (.inl hb))))).1⟩
    · rcases List.mem_append.1 hb with hb | hb
      · exact ⟨hfx b hb, (k3 b hb).1⟩
      · exact ⟨hgf b (hin b (.inr hb)), (hge b (List.mem_append.2 (.inr (hin b (.inr hb))))).1⟩
  have hgE : (Value.slice (some ⟨g, 0, none⟩) ts.length cap).ownBlock.toList = [g] := by simp [Value.ownBlock]
  rw [ev]
  refine Fresh.of_owned (B' := B) (ts.take i ++ (t' :: ts.drop (i + 1))) (fun t ht => ?_) ?_ ?_ ?_
  · have hr : R.rd true w t.1 t.2.1 t.2.2 := by
      rcases List.mem_append.1 ht with ht | ht
      · exact h1 t (List.mem_of_mem_take ht)
      · rcases List.mem_cons.1 ht with rfl | ht
        · exact k1
        · exact h1 t (List.mem_of_mem_drop ht)
    exact R.frame hr fun b hb => setCells_other (hall b (List.mem_flatMap.2 ⟨t, ht, hb⟩)).1 us _ w
  · have el : (ts.take i ++ (t' :: ts.drop (i + 1))).length = ts.length := by simp; omega
    rw [el]
    exact hs
  · rw [hgE, List.nodup_append]
    refine ⟨by simp, ?_, fun a ha b hb e => ?_⟩
    · rw [ef, List.nodup_append, List.nodup_append]
      have hdis : ∀ b ∈ fx, b ∉ feet (ts.take i) ∧ b ∉ feet (ts.drop (i + 1)) := by
        intro b hb
        rcases (k3 b hb).2 with h | h
        · exact ⟨fun h' => hnd1.2.2 b h' b (List.mem_append.2 (.inl h)) rfl, fun h' => hnd1.2.1.2.2 b h b h' rfl⟩
        · have hx : ∀ c ∈ feet ts, c < m := fun c hc => (hge c (List.mem_append.2 (.inr hc))).2
          exact ⟨fun h' => by have := hx b (by rw [efeet]; simp [h']); omega, fun h' => by have := hx b (by rw [efeet]; simp [h']); omega⟩
      refine ⟨hnd1.1, ⟨k2, hnd1.2.1.2.1, fun a ha b hb e => (hdis a ha).2 (e ▸ hb)⟩, fun a ha b hb e => ?_⟩
      rcases List.mem_append.1 hb with hb | hb
      · exact (hdis b hb).1 (e ▸ ha)
      · exact hnd1.2.2 a ha b (List.mem_append.2 (.inr hb)) e
    · simp at ha
      exact (hall b hb).1 (by rw [← e, ha])
  · intro b hb
    rcases List.mem_append.1 hb with hb | hb
    · rw [hgE] at hb
      simp at hb
      subst hb
      exact (hge b (List.mem_append.2 (.inl (by simp [Value.ownBlock])))).1
    · exact (hall b hb).2
end

end Go.Proofs.YtgicglmcapnogaaGreat
