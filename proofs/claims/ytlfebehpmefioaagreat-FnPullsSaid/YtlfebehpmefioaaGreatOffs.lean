/-
 What reads, apart from some blocks; a server, a synchronization, a replica put together of what reads.
-/
import Derived.Test.YtlfebehpmefioaaGreatDrawFam
namespace Go.Proofs.YtlfebehpmefioaaGreat
open Go.RowKit

section
theorem own_alloc {w : World} {base : Nat} {e : TypeId} {size : Nat} {v : Value} {n : Nat} {xs : List Value} {o : Obj} (h : w.ownsRow base e size v n xs) : (w.alloc o).ownsRow base e size v n xs :=
 ownsRow_frame h fun b hb => Below.heap_alloc w o b (World.ownsRow.lt h b (by first | exact hb | simpa using hb)).2
end
def Off {α : Type} (R : Rep α) (K : Nat → Prop) (w : World) (cs : List Value) (x : α) : Prop := ∃ fp, R.rd false w cs x fp ∧ ∀ b ∈ fp, ¬ K b

section
variable {α : Type} {R : Rep α} {K : Nat → Prop} {w w' : World} {cs : List Value} {x : α}
theorem Off.reads (h : Off R K w cs x) : Reads R w cs x := by
 obtain ⟨fp, h, _⟩ := h
 exact ⟨fp, h⟩
theorem Off.of {B : Nat} (h : Fresh R B w cs x) (hK : ∀ b, B ≤ b → b < w.heap.size → ¬ K b) : Off R K w cs x := by
 obtain ⟨fp, h, hn, hf⟩ := h
 obtain ⟨fq, h2, hs⟩ := R.weak h
 exact ⟨fq, h2, fun b hb => hK b (hf b (hs b hb)) (Rep.lt _ h2 b hb)⟩
theorem Off.of_reads (h : Reads R w cs x) (hK : ∀ b, b < w.heap.size → ¬ K b) : Off R K w cs x := by
 obtain ⟨fp, h⟩ := h
 exact ⟨fp, h, fun b hb => hK b (Rep.lt _ h b hb)⟩
theorem Off.of_owns {B : Nat} {L : List Nat} (h : Owns R B L w cs x) (hK : ∀ b, B ≤ b → b < w.heap.size → b ∉ L → ¬ K b) : Off R K w cs x := by
 obtain ⟨fp, h, hn, hf⟩ := h
 obtain ⟨fq, h2, hs⟩ := R.weak h
 exact ⟨fq, h2, fun b hb => hK b (hf b (hs b hb)).1 (Rep.lt _ h2 b hb) (hf b (hs b hb)).2⟩
theorem Off.below (h : Off R K w cs x) (hb : Below w.heap.size w w') : Off R K w' cs x := by
 obtain ⟨fp, h, hf⟩ := h
 exact ⟨fp, Rep.frame _ h fun b hb' => hb.block b (Rep.lt _ h b hb'), hf⟩
theorem Off.mov {k : Kur} (h : Off R K w cs x) (hm : Mov k w w') (hk : K k.k) : Off R K w' cs x := by
 obtain ⟨fp, h, hf⟩ := h
 exact ⟨fp, Rep.frame _ h fun b hb' => hm.1.block b (Rep.lt _ h b hb') (fun hm => hf b hb' (by simp at hm; subst hm; exact hk)), hf⟩
theorem Off.set {g o : Nat} {u : Value} (h : Off R K w cs x) (hg : K g) : Off R K (w.setCell ⟨g, o, none⟩ u) cs x := by
 obtain ⟨fp, h, hf⟩ := h
 refine ⟨fp, Rep.frame _ h fun b hb' => Below.heap_setCell _ _ _ _ (fun e => ?_), hf⟩
 simp only [] at e
 subst e
 exact hf _ hb' hg
theorem Off.more {K' : Nat → Prop} (h : Off R K w cs x) (hK : ∀ b, b < w.heap.size → K' b → K b) : Off R K' w cs x := by
 obtain ⟨fp, h, hf⟩ := h
 exact ⟨fp, h, fun b hb hm => hf b hb (hK b (Rep.lt _ h b hb) hm)⟩
theorem Off.low {B : Nat} (h : Off R K w cs x) (hb : Below B w w') (hK : ∀ b, B ≤ b → K b) : Off R K w' cs x := by
 obtain ⟨fp, h, hf⟩ := h
 exact ⟨fp, Rep.frame _ h fun b hb' => hb.block b (by have := hf b hb'; rcases Nat.lt_or_ge b B with h1 | h1; exact h1; exact absurd (hK b h1) this), hf⟩
theorem Off.chg {fq : List Nat} (h : Off R K w cs x) (hc : Chg fq w w') (hq : ∀ b ∈ fq, K b) : Off R K w' cs x := by
 obtain ⟨fp, h, hf⟩ := h
 exact ⟨fp, Rep.frame _ h fun b hb' => hc.block b (Rep.lt _ h b hb') (fun hm => hf b hb' (hq b hm)), hf⟩
end

section
variable {K : Nat → Prop} {w : World}
theorem Off.server {v1 v2 v3 : Value} {st : DStore} {ap : List DApplied} {ch : List DWrite} (h1 : Off DStore.rep K w [.string st.name, v1, .int .i64 st.auto] st) (h2 : Off (Rep.slice 89 DApplied.rep) K w [v2] ap) (h3 : Off (Rep.slice 34 DWrite.rep) K w [v3] ch) :
  Off DServer.rep K w [.string st.name, v1, .int .i64 st.auto, v2, v3] ⟨st, ap, ch⟩ := by
 obtain ⟨f1, h1, p1⟩ := h1
 obtain ⟨f2, h2, p2⟩ := h2
 obtain ⟨f3, h3, p3⟩ := h3
 obtain ⟨u1, g1, e, rfl, s0, r1⟩ := DStore.rd.1 h1
 simp only [List.cons.injEq, and_true] at e
 obtain ⟨_, rfl, _⟩ := e
 refine ⟨f1 ++ (f2 ++ f3), DServer.rd.2 ⟨_, _, _, f1, f2, f3, rfl, rfl, s0, r1, h2, h3⟩, fun b hb => ?_⟩
 rcases List.mem_append.1 hb with hb | hb
 ·exact p1 b hb
 ·rcases List.mem_append.1 hb with hb | hb
  ·exact p2 b hb
  ·exact p3 b hb
theorem Off.serverParts {v1 v2 v3 : Value} {x : DServer} (h : Off DServer.rep K w [.string x.store.name, v1, .int .i64 x.store.auto, v2, v3] x) : Off DStore.rep K w [.string x.store.name, v1, .int .i64 x.store.auto] x.store ∧ Off (Rep.slice 89 DApplied.rep) K w [v2] x.applied ∧ Off (Rep.slice 34 DWrite.rep) K w [v3] x.changes := by
 obtain ⟨fp, h, p⟩ := h
 obtain ⟨u1, u2, u3, f1, f2, f3, e, rfl, s0, r1, r2, r3⟩ := DServer.rd.1 h
 simp only [List.cons.injEq, and_true] at e
 obtain ⟨_, rfl, _, rfl, rfl⟩ := e
 exact ⟨⟨f1, DStore.rd.2 ⟨_, _, rfl, rfl, s0, r1⟩, fun b hb => p b (by simp [hb])⟩, ⟨f2, r2, fun b hb => p b (by simp [hb])⟩, ⟨f3, r3, fun b hb => p b (by simp [hb])⟩⟩
theorem Off.sync {v : Value} {o : DOutbox} (h : Off DOutbox.rep K w [.int .i64 o.device, .int .i64 o.next, v] o) (t u : Int) : Off DSync.rep K w [.int .i64 o.device, .int .i64 o.next, v, .int .i64 t, .int .i64 u] ⟨o, t, u⟩ := by
 obtain ⟨fp, h, hf⟩ := h
 obtain ⟨v1, f1, e, rfl, r1⟩ := DOutbox.rd.1 h
 simp only [List.cons.injEq, and_true] at e
 obtain ⟨_, _, rfl⟩ := e
 exact ⟨fp, DSync.rd.2 ⟨_, _, rfl, rfl, r1⟩, hf⟩
theorem Off.replica {v1 v2 : Value} {st : DStore} {n : Int} {y : DSync} (h1 : Off DStore.rep K w [.string st.name, v1, .int .i64 st.auto] st) (h2 : Off DSync.rep K w [.int .i64 y.outbox.device, .int .i64 y.outbox.next, v2, .int .i64 y.tries, .int .i64 y.waitUntil] y) :
  Off DReplica.rep K w [.string st.name, v1, .int .i64 st.auto, .int .i64 n, .int .i64 y.outbox.device, .int .i64 y.outbox.next, v2, .int .i64 y.tries, .int .i64 y.waitUntil] ⟨st, n, y⟩ := by
 obtain ⟨f1, h1, p1⟩ := h1
 obtain ⟨f2, h2, p2⟩ := h2
 obtain ⟨u1, g1, e, rfl, s0, r1⟩ := DStore.rd.1 h1
 simp only [List.cons.injEq, and_true] at e
 obtain ⟨_, rfl, _⟩ := e
 obtain ⟨u2, g2, e, rfl, r2⟩ := DSync.rd.1 h2
 simp only [List.cons.injEq, and_true] at e
 obtain ⟨_, _, rfl, _⟩ := e
 refine ⟨f1 ++ f2, DReplica.rd.2 ⟨_, _, f1, f2, rfl, rfl, s0, r1, r2⟩, fun b hb => ?_⟩
 rcases List.mem_append.1 hb with hb | hb
 ·exact p1 b hb
 ·exact p2 b hb
theorem Off.replicaParts {v1 v2 : Value} {r : DReplica} (h : Off DReplica.rep K w [.string r.base.name, v1, .int .i64 r.base.auto, .int .i64 r.seen, .int .i64 r.sync.outbox.device, .int .i64 r.sync.outbox.next, v2, .int .i64 r.sync.tries, .int .i64 r.sync.waitUntil] r) : Off DStore.rep K w [.string r.base.name, v1, .int .i64 r.base.auto] r.base ∧ Off DSync.rep K w [.int .i64 r.sync.outbox.device, .int .i64 r.sync.outbox.next, v2, .int .i64 r.sync.tries, .int .i64 r.sync.waitUntil] r.sync := by
 obtain ⟨fp, h, p⟩ := h
 obtain ⟨u1, u2, f1, f2, e, rfl, s0, r1, r2⟩ := DReplica.rd.1 h
 simp only [List.cons.injEq, and_true] at e
 obtain ⟨_, rfl, _, _, _, _, rfl, _⟩ := e
 exact ⟨⟨f1, DStore.rd.2 ⟨_, _, rfl, rfl, s0, r1⟩, fun b hb => p b (by simp [hb])⟩, ⟨f2, DSync.rd.2 ⟨_, _, rfl, rfl, r2⟩, fun b hb => p b (by simp [hb])⟩⟩
end

theorem own_in {α : Type} {R : Rep α} {E : TypeId} {w : World} {v : Value} {l : List α} {fp : List Nat} (h : (Rep.slice E R).rd true w [v] l fp) : ∀ b ∈ v.ownBlock.toList, b ∈ fp := by
 obtain ⟨v', ts, hv, rfl, rfl, h1, h2, h3⟩ := h
 simp only [List.cons.injEq, and_true] at hv
 subst hv
 intro b hb
 exact List.mem_append_left _ (by simpa [head] using hb)

/-! ### The class of worlds in which blocks of fp have been written and new blocks laid -/
structure ChgdF (fp : List Nat) (w : World) where
 w' : World
 ok : Chg fp w w'
def chf {fp : List Nat} {w : World} (p : ChgdF fp w) : World := p.w'
theorem chf_ok {fp : List Nat} {w : World} (p : ChgdF fp w) : Chg fp w (chf p) := p.ok
theorem chf_of {fp : List Nat} {w w' : World} (h : Chg fp w w') : ∃ p : ChgdF fp w, w' = chf p := ⟨⟨w', h⟩, rfl⟩
theorem chf_var {fp : List Nat} {w : World} {j : Nat} {cs : Array Value} (h : WB w j cs) (hj : j ∉ fp) : ∀ (p : ChgdF fp w) o, (chf p).cell? ⟨j, o, none⟩ = cs[o]? := fun p o => (h.chg (chf_ok p) hj).cell o
attribute [irreducible] chf
theorem wp_region_chf {P : Program} {Q : Exit → Act → World → Prop} {l : List Oper} {id : Nat} {a : Act} {w : World} (fp : List Nat) (M : List Nat) (hm : P.follows .mixedOrders = true)
  (h : ∀ wd, Below w.heap.size w wd → wpU P l.toArray (NoPanic Q) (fun w' => ∃ p : ChgdF fp wd, w' = chf p) M [] a wd) : (Code.region id l.toArray true).wp P Q a w := wp_region_u M (fun wd w' => ∃ p : ChgdF fp wd, w' = chf p) hm h
theorem Chg.put {fp : List Nat} {w w' : World} {b o : Nat} {u : Value} (h : Chg fp w w') (hb : b ∈ fp) : Chg fp w (w'.setCell ⟨b, o, none⟩ u) := Chg.set hb h

/-! ### append of an element with memory of its own, apart from some blocks -/
theorem Owns.of_owned {α : Type} {R : Rep α} {E : TypeId} {B : Nat} {K : List Nat} {w : World} {v : Value} (ts : List (El α)) (h1 : ∀ t ∈ ts, R.rd true w t.1 t.2.1 t.2.2) {B' : Nat} (h3 : w.ownsRow B' E R.n v ts.length (cellsOf ts))
  (hnd : (v.ownBlock.toList ++ feet ts).Nodup) (hge : ∀ b ∈ v.ownBlock.toList ++ feet ts, B ≤ b ∧ b ∉ K) : Owns (Rep.slice E R) B K w [v] (vals ts) := by
 have e : head true v ts.length = v.ownBlock.toList := by simp [head]
 exact ⟨v.ownBlock.toList ++ feet ts, ⟨v, ts, rfl, rfl, by rw [e], h1, Row.of_owns h3, fun _ => ownsRow_rebase h3 fun _ _ => Nat.zero_le _⟩, hnd, hge⟩
theorem Owns.appended {α : Type} {R : Rep α} {E : TypeId} {B : Nat} {K : List Nat} {w0 w1 : World} {v v' : Value} {ts us : List (El α)} (h1 : ∀ t ∈ ts, R.rd true w0 t.1 t.2.1 t.2.2) (h2 : ∀ t ∈ us, R.rd true w0 t.1 t.2.1 t.2.2)
  (hnd : (v.ownBlock.toList ++ feet ts).Nodup) (hge : ∀ b ∈ v.ownBlock.toList ++ feet ts, B ≤ b ∧ b ∉ K) (hnd2 : (feet us).Nodup) (hge2 : ∀ b ∈ feet us, B ≤ b ∧ b ∉ K) (hd : ∀ b ∈ feet us, b ∉ v.ownBlock.toList ++ feet ts)
  (hg : w0.grownBy w1 v.ownBlock) (hB : B ≤ w0.heap.size) (hK : ∀ k ∈ K, k < w0.heap.size) {B' : Nat} (ho : w1.ownsRow B' E R.n v' (ts.length + us.length) (cellsOf ts ++ cellsOf us)) (hb : ∀ b ∈ v'.ownBlock.toList, b ∈ v.ownBlock.toList ∨ b = w0.heap.size) :
  Owns (Rep.slice E R) B K w1 [v'] (vals ts ++ vals us) := by
 have hlt : ∀ t ∈ ts ++ us, ∀ b ∈ t.2.2, b < w0.heap.size := by
  intro t ht b hb'
  rcases List.mem_append.1 ht with ht | ht
  ·exact R.lt (h1 t ht) b hb'
  ·exact R.lt (h2 t ht) b hb'
 have hfe : feet (ts ++ us) = feet ts ++ feet us := by simp [feet]
 have hce : cellsOf (ts ++ us) = cellsOf ts ++ cellsOf us := by simp [cellsOf]
 have hve : vals (ts ++ us) = vals ts ++ vals us := by simp [vals]
 rw [← hve]
 have hnv : ∀ b ∈ feet (ts ++ us), b ∉ v.ownBlock.toList := by
  intro b hb1 hb2
  rw [hfe] at hb1
  rcases List.mem_append.1 hb1 with hb1 | hb1
  ·exact (List.nodup_append.1 hnd).2.2 b hb2 b hb1 rfl
  ·exact hd b hb1 (List.mem_append.2 (.inl hb2))
 have hkeep : ∀ t ∈ ts ++ us, ∀ b ∈ t.2.2, w1.heap[b]? = w0.heap[b]? := by
  intro t ht b hb'
  refine hg.block b (hlt t ht b hb') fun e => ?_
  exact hnv b (List.mem_flatMap.2 ⟨t, ht, hb'⟩) (by rw [← e]; simp)
 refine Owns.of_owned (ts ++ us) ?_ (by rw [List.length_append, hce]; exact ho) ?_ ?_
 ·intro t ht
  have hr : R.rd true w0 t.1 t.2.1 t.2.2 := (List.mem_append.1 ht).elim (h1 t) (h2 t)
  exact R.frame hr (hkeep t ht)
 ·rw [List.nodup_append]
  refine ⟨by cases v'.ownBlock <;> simp, ?_, ?_⟩
  ·rw [hfe, List.nodup_append]
   exact ⟨(List.nodup_append.1 hnd).2.1, hnd2, fun a ha b hb' e => hd b hb' (by rw [← e]; exact List.mem_append.2 (.inr ha))⟩
  ·intro a ha b hb' e
   subst e
   rcases hb a ha with h | h
   ·exact hnv a hb' h
   ·obtain ⟨t, ht, hb'⟩ := List.mem_flatMap.1 hb'
    have := hlt t ht a hb'
    omega
 ·intro b hb'
  rcases List.mem_append.1 hb' with hb' | hb'
  ·rcases hb b hb' with h | h
   ·exact hge b (List.mem_append.2 (.inl h))
   ·exact ⟨by omega, fun hm => by have := hK b hm; omega⟩
  ·rw [hfe] at hb'
   rcases List.mem_append.1 hb' with hb' | hb'
   ·exact hge b (List.mem_append.2 (.inr hb'))
   ·exact hge2 b hb'

def OwnsLt {α : Type} (R : Rep α) (B : Nat) (K : List Nat) (m : Nat) (w : World) (cs : List Value) (x : α) : Prop := ∃ fp, R.rd true w cs x fp ∧ fp.Nodup ∧ (∀ b ∈ fp, B ≤ b ∧ b ∉ K) ∧ ∀ b ∈ fp, b < m
theorem Owns.movL {α : Type} {R : Rep α} {B : Nat} {K : List Nat} {w w' : World} {cs : List Value} {x : α} {k : Kur} (h : Owns R B K w cs x) (hm : Mov k w w') (hk : k.k < B) : Owns R B K w' cs x := by
 obtain ⟨fp, h, hn, hf⟩ := h
 exact ⟨fp, Rep.frame _ h fun b hb' => hm.1.block b (Rep.lt _ h b hb') (fun hm => by simp at hm; subst hm; have := (hf _ hb').1; omega), hn, hf⟩
theorem Owns.movLt {α : Type} {R : Rep α} {B : Nat} {K : List Nat} {w w' : World} {cs : List Value} {x : α} {k : Kur} (h : Owns R B K w cs x) (hm : Mov k w w') (hk : k.k < B) : OwnsLt R B K w.heap.size w' cs x := by
 obtain ⟨fp, h, hn, hf⟩ := h
 exact ⟨fp, Rep.frame _ h fun b hb' => hm.1.block b (Rep.lt _ h b hb') (fun hm => by simp at hm; subst hm; have := (hf _ hb').1; omega), hn, hf, Rep.lt _ h⟩
theorem wpList_pushNK {α : Type} {R : Rep α} {P : Program} (w : World) {ops : Array Oper} {rest : List Oper} {o : Oper} {a : Act} {Q : Exit → Act → World → Prop} (hgd : o.guard = none) (s x : Operand) (t tx : TypeId)
  (ho : o.op = .call { callee := .builtin .append, args := #[s, x], argTypes := #[t, tx] })
  (B : Nat) (K : List Nat) (m : Nat) (e : TypeId) (i : TypeInfo) (z : Value) (bytes : Nat) (ht : P.underlying t = some (.slice e)) {e' : TypeId} (htx : P.underlying tx = some (.slice e')) (hi : P.info? e = some i) (hz : i.zero = some z)
  (hsize : i.size = R.n) (hby : i.bytes = bytes) (hzs : z.cells.size = R.n)
  (v : Value) (l : List α) (hv : a.eval s = v) (hown : OwnsLt (Rep.slice e R) B K m w [v] l)
  (u : α) (xs : Array Value) (t2 : TypeId) (k : Nat) (hx : a.eval x = .slice (some ⟨k, 0, none⟩) 1 1) (hk : k = w.heap.size) (hu : Fresh R m w xs.toList u)
  (hlen : l.length + 1 ≤ 16777216) (hbytes : bytes ≤ 8388608) (hB : B ≤ m) (hm : m ≤ w.heap.size) (hK : ∀ k ∈ K, k < m)
  (hgo : ∀ ao cap w', Owns (Rep.slice e R) B K w' [.slice ao (l.length + 1) cap] (l ++ [u]) → (w.alloc (.cells xs t2)).grownBy w' v.ownBlock →
   wpList P ops Q rest (a.put o.dst (.slice ao (l.length + 1) cap)) w') : wpList P ops Q (o :: rest) a (w.alloc (.cells xs t2)) := by
 subst hk
 have hmul : (l.length + 1) * bytes ≤ 16777216 * 8388608 := Nat.mul_le_mul hlen hbytes
 obtain ⟨fp, hrd, hnd, hge, hlt0⟩ := hown
 obtain ⟨v', ts, hv', rfl, rfl, h1, _, h3⟩ := hrd
 simp only [List.cons.injEq, and_true] at hv'
 subst hv'
 have e1 : head true v ts.length = v.ownBlock.toList := by simp [head]
 rw [e1] at hnd hge hlt0
 have h2 := ownsRow_rebase (base' := B) (h3 rfl) (fun b hb => (hge b (List.mem_append.2 (.inl hb))).1)
 have hlt : (vals ts).length = ts.length := vals_length ts
 rw [hlt] at hmul hlen hgo
 have hb0 : Below w.heap.size w (w.alloc (.cells xs t2)) := (Below.refl _ _).alloc (Nat.le_refl _) _
 obtain ⟨fu, r1, r2, r3⟩ := id hu
 have hs : Src P R.n tx (.slice (some ⟨w.heap.size, 0, none⟩) 1 1) 1 xs.toList (w.alloc (.cells xs t2)) := lit_src htx (by rw [← Array.length_toList, R.len r1, Nat.one_mul]) (fun y hy => R.one r1 y hy)
 refine wpList_append_src (w.alloc (.cells xs t2)) hgd s x t tx ho B e i z R.n bytes ht hi hz hsize hby hzs v ts.length (cellsOf ts) hv (own_alloc h2) _ 1 xs.toList hx hs ?_ ?_ ?_ fun ao cap w' k1 k2 k3 => ?_
 ·omega
 ·unfold maxLen; omega
 ·simp; omega
 ·have ef : feet [((xs.toList, u, fu) : El α)] = fu := by simp [feet]
  have ec : cellsOf [((xs.toList, u, fu) : El α)] = xs.toList := by simp [cellsOf]
  have hf := Owns.appended (E := e) (B := B) (K := K) (w0 := w.alloc (.cells xs t2)) (us := [(xs.toList, u, fu)]) (fun t ht => R.frame (h1 t ht) fun b hb => hb0.block b (R.lt (h1 t ht) b hb)) (by intro t ht; simp at ht; subst ht; exact R.frame r1 fun b hb => hb0.block b (R.lt r1 b hb)) hnd hge (by rw [ef]; exact r2) (by rw [ef]; intro b hb; have := r3 b hb; exact ⟨by omega, fun hm => by have := hK b hm; omega⟩) (by rw [ef]; intro b hb hb'; have h5 := hlt0 b hb'; have h6 := r3 b hb; omega) k2 (by simp; omega) (fun k hk => by have := hK k hk; simp; omega) (by rw [ec]; exact k1) k3
  exact hgo ao cap w' hf k2

end Go.Proofs.YtlfebehpmefioaaGreat
