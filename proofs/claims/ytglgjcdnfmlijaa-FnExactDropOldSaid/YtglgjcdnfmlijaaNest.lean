/-
  append of one element that leads to memory of its own. No function of the program is named here.
-/
import Derived.Test.YtglgjcdnfmlijaaGrow
namespace Go.Proofs.Ytglgjcdnfmlijaa
open Go.RowKit

section
variable {α : Type} {R : Rep α}

/-- What an append of one element leaves: w1: the world with the literal, in block w.heap.size. -/
theorem pushed {E : TypeId} {B m : Nat} {w w1 w' : World} {v v' : Value} {l : List α} {u : α} {ds : List Value} (hB : B ≤ m) (hm : m ≤ w1.heap.size)
    {ts : List (El α)} (hl : l = vals ts) (h1 : ∀ t ∈ ts, R.rd true w t.1 t.2.1 t.2.2) (hnd : (v.ownBlock.toList ++ feet ts).Nodup) (hge : ∀ b ∈ v.ownBlock.toList ++ feet ts, B ≤ b ∧ b < m)
    (hu : Fresh R m w ds u) (hw1 : Below w.heap.size w w1) {B' : Nat} (ho : w'.ownsRow B' E R.n v' (ts.length + 1) (cellsOf ts ++ ds)) (hg : w1.grownBy w' v.ownBlock) (hv : ∀ b ∈ v'.ownBlock.toList, b ∈ v.ownBlock.toList ∨ b = w1.heap.size) :
    Fresh (Rep.slice E R) B w' [v'] (l ++ [u]) := by
  subst hl
  obtain ⟨fu, r1, r2, r3⟩ := hu
  refine Fresh.snoc (w0 := w1) (fun t ht => R.frame (h1 t ht) fun b hb => hw1.block b (R.lt (h1 t ht) b hb)) (R.frame r1 fun b hb => hw1.block b (R.lt r1 b hb)) hnd (fun b hb => (hge b hb).1) r2 (fun b hb => Nat.le_trans hB (r3 b hb)) (fun b hb hb' => ?_) hg (Nat.le_trans hB hm) ho hv
  have := (hge b hb').2
  have := r3 b hb
  omega

theorem Part.owned {E : TypeId} {B m : Nat} {w : World} {v : Value} {l : List α} (h : Part (Rep.slice E R) B m w [v] l) :
    ∃ ts : List (El α), l = vals ts ∧ (∀ t ∈ ts, R.rd true w t.1 t.2.1 t.2.2) ∧ w.ownsRow B E R.n v ts.length (cellsOf ts) ∧ (v.ownBlock.toList ++ feet ts).Nodup ∧ ∀ b ∈ v.ownBlock.toList ++ feet ts, B ≤ b ∧ b < m := by
  obtain ⟨fp, ⟨v', ts, hv, rfl, rfl, h1, _, h3⟩, hnd, hge⟩ := h
  simp only [List.cons.injEq, and_true] at hv
  subst hv
  have e : head true v ts.length = v.ownBlock.toList := by simp [head]
  rw [e] at hnd hge
  exact ⟨ts, rfl, h1, ownsRow_rebase (h3 rfl) (fun b hb => (hge b (List.mem_append.2 (.inl hb))).1), hnd, hge⟩

theorem Fresh.lit0 {E : TypeId} {w : World} {k : Nat} (hk : k = w.heap.size) : Fresh (Rep.slice E R) k (w.alloc (.cells #[] E)) [.slice (some ⟨k, 0, none⟩) 0 0] [] := by
  subst hk
  exact Fresh.of_owned (R := R) (E := E) (v := .slice (some ⟨w.heap.size, 0, none⟩) 0 0) [] (by simp) (B' := w.heap.size) (own_lit (w := w) (xs := #[]) (n := 0) (size := R.n) (by simp) (by decide)) (by simp [feet, Value.ownBlock]) (by simp [feet, Value.ownBlock])

theorem wpList_pushN {P : Program} (w : World) {ops : Array Oper} {rest : List Oper} {o : Oper} {a : Act} {Q : Exit → Act → World → Prop} (hgd : o.guard = none) (s x : Operand) (t tx : TypeId)
    (ho : o.op = .call { callee := .builtin .append, args := #[s, x], argTypes := #[t, tx] })
    (R : Rep α) (B m : Nat) (e : TypeId) (i : TypeInfo) (z : Value) (bytes : Nat) (ht : P.underlying t = some (.slice e)) {e' : TypeId} (htx : P.underlying tx = some (.slice e')) (hi : P.info? e = some i) (hz : i.zero = some z)
    (hsize : i.size = R.n) (hby : i.bytes = bytes) (hzs : z.cells.size = R.n)
    (v : Value) (l : List α) (hv : a.eval s = v) (hown : Part (Rep.slice e R) B m w [v] l)
    (u : α) (xs : Array Value) (t2 : TypeId) (k : Nat) (hx : a.eval x = .slice (some ⟨k, 0, none⟩) 1 1) (hk : k = w.heap.size) (hu : Fresh R m w xs.toList u)
    (hlen : l.length + 1 ≤ 16777216) (hbytes : bytes ≤ 8388608) (hB : B ≤ m) (hm : m ≤ w.heap.size)
    (hgo : ∀ ao cap w', Fresh (Rep.slice e R) B w' [.slice ao (l.length + 1) cap] (l ++ [u]) → Below B w w' →
      wpList P ops Q rest (a.put o.dst (.slice ao (l.length + 1) cap)) w') : wpList P ops Q (o :: rest) a (w.alloc (.cells xs t2)) := by
  subst hk
  have hmul : (l.length + 1) * bytes ≤ 16777216 * 8388608 := Nat.mul_le_mul hlen hbytes
  obtain ⟨ts, hl, h1, h2, h3, h4⟩ := hown.owned
  have hlt : l.length = ts.length := by rw [hl, vals_length]
  rw [hlt] at hmul
  have hb0 : Below w.heap.size w (w.alloc (.cells xs t2)) := (Below.refl _ _).alloc (Nat.le_refl _) _
  obtain ⟨fu, r1, r2, r3⟩ := id hu
  have hs : Src P R.n tx (.slice (some ⟨w.heap.size, 0, none⟩) 1 1) 1 xs.toList (w.alloc (.cells xs t2)) := lit_src htx (by rw [← Array.length_toList, R.len r1, Nat.one_mul]) (fun y hy => R.one r1 y hy)
  refine wpList_append_src (w.alloc (.cells xs t2)) hgd s x t tx ho B e i z R.n bytes ht hi hz hsize hby hzs v ts.length (cellsOf ts) hv (own_alloc h2) _ 1 xs.toList hx hs ?_ ?_ ?_ fun ao cap w' k1 k2 k3 => ?_
  · omega
  · unfold maxLen; omega
  · simp; omega
  · have hbg := grow_below k2 (fun b hb => (h4 b (List.mem_append.2 (.inl hb))).1) (by simp; omega)
    have hf := pushed (E := e) hB (by simp; omega) hl h1 h3 h4 hu hb0 k1 k2 k3
    rw [hlt] at hgo
    exact hgo ao cap w' hf ((hb0.mono (by omega)).trans hbg)

/-- The same at a step of a region that draws its order: the element lies in block k. -/
theorem step_pushN {P : Program} (w w1 : World) {ops : Array Oper} {o : Oper} {a : Act} {K : Act → World → Prop} {Q : Exit → Act → World → Prop} {X : Prop} (hgd : o.guard = none) (s x : Operand) (t tx : TypeId)
    (ho : o.op = .call { callee := .builtin .append, args := #[s, x], argTypes := #[t, tx] })
    (R : Rep α) (B m : Nat) (e : TypeId) (i : TypeInfo) (z : Value) (bytes : Nat) (ht : P.underlying t = some (.slice e)) {e' : TypeId} (htx : P.underlying tx = some (.slice e')) (hi : P.info? e = some i) (hz : i.zero = some z)
    (hsize : i.size = R.n) (hby : i.bytes = bytes) (hzs : z.cells.size = R.n)
    (v : Value) (l : List α) (hv : a.eval s = v) (hown : Part (Rep.slice e R) B m w [v] l) (hw1 : Below w.heap.size w w1)
    (u : α) (us : List Value) (k : Nat) (hx : a.eval x = .slice (some ⟨k, 0, none⟩) 1 1) (hu : Fresh R m w us u) (hxs : ∀ j y, us[j]? = some y → w1.cell? ⟨k, j, none⟩ = some y)
    (hlen : l.length + 1 ≤ 16777216) (hbytes : bytes ≤ 8388608) (hB : B ≤ m) (hm : m ≤ w.heap.size)
    (hgo : ∀ ao cap w', Fresh (Rep.slice e R) B w' [.slice ao (l.length + 1) cap] (l ++ [u]) → Below B w1 w' → w1.heap.size ≤ w'.heap.size →
      K (a.put o.dst (.slice ao (l.length + 1) cap)) w') : if Region.wanted o (yielded ops a.tmps) = true then Oper.wp P o a w1 K Q else X := by
  have hw : Region.wanted o (yielded ops a.tmps) = true := by simp [Region.wanted, hgd]
  rw [if_pos hw]
  have hmul : (l.length + 1) * bytes ≤ 16777216 * 8388608 := Nat.mul_le_mul hlen hbytes
  obtain ⟨ts, hl, h1, h2, h3, h4⟩ := hown.owned
  have hlt : l.length = ts.length := by rw [hl, vals_length]
  rw [hlt] at hmul
  obtain ⟨fu, r1, r2, r3⟩ := id hu
  have hsz := hw1.size
  have hs : Src P R.n tx (.slice (some ⟨k, 0, none⟩) 1 1) 1 us w1 := Src.ofSlice w1 htx ⟨k, 0, none⟩ 1 1 _ (by rw [R.len r1, Nat.one_mul]) (fun j y hy => by rw [Addr.add_lit, Nat.zero_add]; exact hxs j y hy) (fun y hy => R.one r1 y hy)
  have h2' : w1.ownsRow B e R.n v ts.length (cellsOf ts) := ownsRow_frame h2 fun b hb => hw1.block b (by have := (h4 b (List.mem_append.2 (.inl hb))).2; omega)
  obtain ⟨v', w', hr, k1, k2, k3, ao, cap, rfl⟩ := run_append_src (P := P) w1 B t tx o.type e i z R.n bytes ht hi hz hsize hby hzs v ts.length _ h2' _ 1 us hs (by omega) (by unfold maxLen; omega) (by omega)
  unfold Oper.wp execOp
  simp only [ho, resolve, invoke, builtin, Sem.run_bind, Sem.run_pure, Result.andThen_ok, List.map_toArray, List.map_cons, List.map_nil, hv, hx, hr]
  rw [hlt] at hgo
  exact hgo ao cap w' (pushed (E := e) hB (by omega) hl h1 h3 h4 hu hw1 k1 k2 k3) (grow_below k2 (fun b hb => (h4 b (List.mem_append.2 (.inl hb))).1) (by omega)) k2.size
end

end Go.Proofs.Ytglgjcdnfmlijaa
