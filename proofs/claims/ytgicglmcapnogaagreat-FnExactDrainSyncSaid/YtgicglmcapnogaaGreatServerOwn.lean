/-
  A server that a call owns, told part by part. No function of the program is named here.
-/
import Derived.Test.YtgicglmcapnogaaGreatServerF
import Derived.Test.YtgicglmcapnogaaGreatRaw
namespace Go.Proofs.YtgicglmcapnogaaGreat
open Go.RowKit

/-- A flat slice that is owned: its footprint is its own block. -/
theorem FlatR.ownfp {α : Type} {R : Rep α} {enc : α → List Value} {ok : α → Prop} (h : FlatR R enc ok) {E : TypeId} {B : Nat} {w : World} {v : Value} {l : List α} (hf : Fresh (Rep.slice E R) B w [v] l) : (Rep.slice E R).rd true w [v] l v.ownBlock.toList := by
  obtain ⟨fp, hr, _, _⟩ := hf
  have hr' := hr
  obtain ⟨v', ts, hv, _, hfp, h1, _, _⟩ := hr
  simp only [List.cons.injEq, and_true] at hv
  subst hv
  obtain ⟨_, hft, _⟩ := cells_flat h ts h1
  have e : fp = v.ownBlock.toList := by rw [hfp, hft]; simp [head]
  rw [e] at hr'
  exact hr'
theorem own_nodup (v : Value) : v.ownBlock.toList.Nodup := by cases v.ownBlock <;> simp
theorem FlatR.of_ownfp {α : Type} {R : Rep α} {enc : α → List Value} {ok : α → Prop} (h : FlatR R enc ok) {E : TypeId} {B : Nat} {w : World} {v : Value} {l : List α} {fp : List Nat} (hr : (Rep.slice E R).rd true w [v] l fp) (hge : ∀ b ∈ fp, B ≤ b) : fp = v.ownBlock.toList ∧ Fresh (Rep.slice E R) B w [v] l := by
  have hr' := hr
  obtain ⟨v', ts, hv, _, hfp, h1, _, _⟩ := hr
  simp only [List.cons.injEq, and_true] at hv
  subst hv
  obtain ⟨_, hft, _⟩ := cells_flat h ts h1
  have e : fp = v.ownBlock.toList := by rw [hfp, hft]; simp [head]
  exact ⟨e, fp, hr', by rw [e]; exact own_nodup _, hge⟩
theorem FlatR.offBlocks {α : Type} {R : Rep α} {enc : α → List Value} {ok : α → Prop} (h : FlatR R enc ok) {E : TypeId} {B : Nat} {w w' : World} {v : Value} {l : List α} {fq : List Nat} (hf : Fresh (Rep.slice E R) B w [v] l) (hc : Chg fq w w') (hd : ∀ b ∈ v.ownBlock.toList, b ∉ fq) : Fresh (Rep.slice E R) B w' [v] l := by
  have hr := h.ownfp hf
  have hl := hf.ownlt
  exact ⟨_, hc.keeps hr hd, own_nodup _, fun b hb => (hl b hb).1⟩

structure SrvOwn (B : Nat) (K : List Nat) (w : World) (c0 : List Value) (v2 v3 : Value) (x : DServer) (f0 : List Nat) : Prop where
  st : DStore.rep.rd true w c0 x.store f0
  nd : f0.Nodup
  ge : ∀ b ∈ f0, B ≤ b ∧ b ∉ K
  ap : Fresh (Rep.slice 110 DApplied.rep) B w [v2] x.applied
  ch : Fresh (Rep.slice 72 DWrite.rep) B w [v3] x.changes
  apk : ∀ b ∈ v2.ownBlock.toList, b ∉ K ∧ b ∉ f0
  chk : ∀ b ∈ v3.ownBlock.toList, b ∉ K ∧ b ∉ f0 ∧ b ∉ v2.ownBlock.toList

theorem SrvOwn.fresh {B : Nat} {K : List Nat} {w : World} {v1 v2 v3 : Value} {x : DServer} {f0 : List Nat} (h : SrvOwn B K w [.string x.store.name, v1, .int .i64 x.store.auto] v2 v3 x f0) : Fresh DServer.rep B w [.string x.store.name, v1, .int .i64 x.store.auto, v2, v3] x := by
  have h1 := DApplied.flat.ownfp h.ap
  have h2 := DWrite.flat.ownfp h.ch
  refine ⟨f0 ++ (v2.ownBlock.toList ++ v3.ownBlock.toList), DServer.join _ f0 h.st _ _ h1 _ _ h2, ?_, fun b hb => ?_⟩
  · rw [List.nodup_append, List.nodup_append]
    refine ⟨h.nd, ⟨own_nodup _, own_nodup _, fun a ha b hb e => ?_⟩, fun a ha b hb e => ?_⟩
    · exact (h.chk b hb).2.2 (e ▸ ha)
    · subst e
      rcases List.mem_append.1 hb with hb | hb
      · exact (h.apk a hb).2 ha
      · exact (h.chk a hb).2.1 ha
  · rcases List.mem_append.1 hb with hb | hb
    · exact (h.ge b hb).1
    · rcases List.mem_append.1 hb with hb | hb
      · exact (h.ap.ownlt b hb).1
      · exact (h.ch.ownlt b hb).1
theorem SrvOwn.of_fresh {B : Nat} {w : World} {cs : List Value} {x : DServer} (h : Fresh DServer.rep B w cs x) (K : List Nat) (hk : ∀ k ∈ K, w.heap.size ≤ k ∨ k < B) :
    ∃ a1 c1 a2 c2 a3 c3 f0, cs = [.string x.store.name, .slice a1 x.store.items.length c1, .int .i64 x.store.auto, .slice a2 x.applied.length c2, .slice a3 x.changes.length c3] ∧
      SrvOwn B K w [.string x.store.name, .slice a1 x.store.items.length c1, .int .i64 x.store.auto] (.slice a2 x.applied.length c2) (.slice a3 x.changes.length c3) x f0 := by
  obtain ⟨fp, h, hn, hg⟩ := h
  have hlt := DServer.rep.lt h
  obtain ⟨v1, v2, v3, f0, f1, f2, rfl, rfl, r0, r1, r2⟩ := DServer.parts h
  have hg1 : ∀ b ∈ f1, B ≤ b := fun b hb => hg b (by simp [hb])
  have hg2 : ∀ b ∈ f2, B ≤ b := fun b hb => hg b (by simp [hb])
  obtain ⟨rfl, k1⟩ := DApplied.flat.of_ownfp r1 hg1
  obtain ⟨rfl, k2⟩ := DWrite.flat.of_ownfp r2 hg2
  have hne : ∀ b ∈ f0 ++ (v2.ownBlock.toList ++ v3.ownBlock.toList), b ∉ K := fun b hb e => by
    have := hlt b hb; have := hg b hb; have := hk b e; omega
  rw [List.nodup_append, List.nodup_append] at hn
  obtain ⟨n0, ⟨_, _, n12⟩, n012⟩ := hn
  have key : SrvOwn B K w [.string x.store.name, v1, .int .i64 x.store.auto] v2 v3 x f0 :=
    ⟨r0, n0, fun b hb => ⟨hg b (by simp [hb]), hne b (by simp [hb])⟩, k1, k2,
      fun b hb => ⟨hne b (List.mem_append.2 (.inr (List.mem_append.2 (.inl hb)))), fun h0 => n012 b h0 b (List.mem_append.2 (.inl hb)) rfl⟩,
      fun b hb => ⟨hne b (List.mem_append.2 (.inr (List.mem_append.2 (.inr hb)))), fun h0 => n012 b h0 b (List.mem_append.2 (.inr hb)) rfl, fun h1 => n12 b h1 b hb rfl⟩⟩
  obtain ⟨a2, c2, rfl⟩ := k1.slice
  obtain ⟨a3, c3, rfl⟩ := k2.slice
  obtain ⟨v1', f', e1, _, _, rs⟩ := DStore.rd.1 r0
  obtain ⟨a1, c1, rfl, _⟩ := slice_open rs
  simp only [List.cons.injEq, and_true, true_and] at e1
  subst e1
  exact ⟨a1, c1, a2, c2, a3, c3, f0, rfl, key⟩
theorem SrvOwn.reads {B : Nat} {K : List Nat} {w : World} {c0 : List Value} {v2 v3 : Value} {x : DServer} {f0 : List Nat} (h : SrvOwn B K w c0 v2 v3 x f0) : Reads DStore.rep w c0 x.store := by
  obtain ⟨fq, h, _⟩ := DStore.rep.weak h.st
  exact ⟨fq, h⟩
theorem SrvOwn.below {B : Nat} {K : List Nat} {w w' : World} {c0 : List Value} {v2 v3 : Value} {x : DServer} {f0 : List Nat} (h : SrvOwn B K w c0 v2 v3 x f0) (hb : Below w.heap.size w w') : SrvOwn B K w' c0 v2 v3 x f0 :=
  ⟨DStore.rep.frame h.st fun b hb' => hb.block b (DStore.rep.lt h.st b hb'), h.nd, h.ge, h.ap.below hb, h.ch.below hb, h.apk, h.chk⟩
theorem SrvOwn.setK {B k o : Nat} {K : List Nat} {w : World} {c0 : List Value} {v2 v3 : Value} {x : DServer} {f0 : List Nat} {u : Value} (h : SrvOwn B K w c0 v2 v3 x f0) (hk : k ∈ K) : SrvOwn B K (w.setCell ⟨k, o, none⟩ u) c0 v2 v3 x f0 :=
  ⟨DStore.rep.frame h.st fun b hb' => Below.heap_setCell _ _ _ _ (fun e => (h.ge b hb').2 (by rw [show b = k from e]; exact hk)), h.nd, h.ge, DApplied.flat.setApart h.ap (fun hm => (h.apk _ hm).1 hk), DWrite.flat.setApart h.ch (fun hm => (h.chk _ hm).1 hk), h.apk, h.chk⟩
theorem SrvOwn.setLow {B k o : Nat} {K : List Nat} {w : World} {c0 : List Value} {v2 v3 : Value} {x : DServer} {f0 : List Nat} {u : Value} (h : SrvOwn B K w c0 v2 v3 x f0) (hk : k < B) : SrvOwn B K (w.setCell ⟨k, o, none⟩ u) c0 v2 v3 x f0 :=
  ⟨DStore.rep.frame h.st fun b hb' => Below.heap_setCell _ _ _ _ (fun e => by have := (h.ge b hb').1; have : b = k := e; omega), h.nd, h.ge, h.ap.setLow hk, h.ch.setLow hk, h.apk, h.chk⟩
theorem SrvOwn.reK {B : Nat} {K K' : List Nat} {w : World} {c0 : List Value} {v2 v3 : Value} {x : DServer} {f0 : List Nat} (h : SrvOwn B K w c0 v2 v3 x f0) (hk : ∀ b ∈ K', b ∈ K ∨ w.heap.size ≤ b) : SrvOwn B K' w c0 v2 v3 x f0 := by
  have l0 := DStore.rep.lt h.st
  have l1 := h.ap.ownlt
  have l2 := h.ch.ownlt
  refine ⟨h.st, h.nd, fun b hb => ⟨(h.ge b hb).1, fun hm => ?_⟩, h.ap, h.ch, fun b hb => ⟨fun hm => ?_, (h.apk b hb).2⟩, fun b hb => ⟨fun hm => ?_, (h.chk b hb).2⟩⟩
  · rcases hk b hm with h1 | h1
    · exact (h.ge b hb).2 h1
    · have := l0 b hb; omega
  · rcases hk b hm with h1 | h1
    · exact (h.apk b hb).1 h1
    · have := l1 b hb; omega
  · rcases hk b hm with h1 | h1
    · exact (h.chk b hb).1 h1
    · have := l2 b hb; omega
/-- The store is another, from new blocks. -/
theorem SrvOwn.store {B m : Nat} {K : List Nat} {w w' : World} {c0 c1 : List Value} {v2 v3 : Value} {x : DServer} {f0 : List Nat} {s : DStore} (h : SrvOwn B K w c0 v2 v3 x f0) (hs : Fresh DStore.rep m w' c1 s) (hb : Below w.heap.size w w') (hm : w.heap.size ≤ m) (hk : ∀ k ∈ K, k < m) (hB : B ≤ m) : ∃ f1, SrvOwn B K w' c1 v2 v3 ⟨s, x.applied, x.changes⟩ f1 := by
  obtain ⟨f1, r1, r2, r3⟩ := hs
  have ha := h.ap.ownlt
  have hc := h.ch.ownlt
  exact ⟨f1, r1, r2, fun b hb => ⟨by have := r3 b hb; omega, fun hm => by have := r3 b hb; have := hk b hm; omega⟩, h.ap.below hb, h.ch.below hb,
    fun b hb => ⟨(h.apk b hb).1, fun h1 => by have := r3 b h1; have := ha b hb; omega⟩, fun b hb => ⟨(h.chk b hb).1, fun h1 => by have := r3 b h1; have := hc b hb; omega, (h.chk b hb).2.2⟩⟩
/-- The changes are others. -/
theorem SrvOwn.changes {B : Nat} {K : List Nat} {w w' : World} {c0 : List Value} {v2 v3 v3' : Value} {x : DServer} {f0 : List Nat} {l : List DWrite} (h : SrvOwn B K w c0 v2 v3 x f0) (hc : Chg v3.ownBlock.toList w w') (hf : Fresh (Rep.slice 72 DWrite.rep) B w' [v3'] l) (hv : ∀ b ∈ v3'.ownBlock.toList, b ∈ v3.ownBlock.toList ∨ w.heap.size ≤ b) (hk : ∀ k ∈ K, k < w.heap.size) : SrvOwn B K w' c0 v2 v3' ⟨x.store, x.applied, l⟩ f0 := by
  have ha := h.ap.ownlt
  have h0 := DStore.rep.lt h.st
  refine ⟨hc.keeps h.st fun b hb hb' => (h.chk b hb').2.1 hb, h.nd, h.ge, DApplied.flat.offBlocks h.ap hc fun b hb hb' => (h.chk b hb').2.2 hb, hf, h.apk, fun b hb => ?_⟩
  rcases hv b hb with h1 | h1
  · exact h.chk b h1
  · exact ⟨fun hm => by have := hk b hm; omega, fun h2 => by have := h0 b h2; omega, fun h2 => by have := (ha b h2).2; omega⟩
/-- The applied ones are others. -/
theorem SrvOwn.applied {B : Nat} {K : List Nat} {w w' : World} {c0 : List Value} {v2 v3 v2' : Value} {x : DServer} {f0 : List Nat} {l : List DApplied} (h : SrvOwn B K w c0 v2 v3 x f0) (hc : Chg v2.ownBlock.toList w w') (hf : Fresh (Rep.slice 110 DApplied.rep) B w' [v2'] l) (hv : ∀ b ∈ v2'.ownBlock.toList, b ∈ v2.ownBlock.toList ∨ w.heap.size ≤ b) (hk : ∀ k ∈ K, k < w.heap.size) : SrvOwn B K w' c0 v2' v3 ⟨x.store, l, x.changes⟩ f0 := by
  have ha := h.ch.ownlt
  have h0 := DStore.rep.lt h.st
  refine ⟨hc.keeps h.st fun b hb hb' => (h.apk b hb').2 hb, h.nd, h.ge, hf, DWrite.flat.offBlocks h.ch hc fun b hb hb' => (h.chk b hb).2.2 hb', fun b hb => ?_, fun b hb => ⟨(h.chk b hb).1, (h.chk b hb).2.1, fun h2 => ?_⟩⟩
  · rcases hv b hb with h1 | h1
    · exact h.apk b h1
    · exact ⟨fun hm => by have := hk b hm; omega, fun h2 => by have := h0 b h2; omega⟩
  · rcases hv b h2 with h1 | h1
    · exact (h.chk b hb).2.2 h1
    · have := (ha b hb).2; omega
/-- The applied ones are others, which lie in blocks that were kept apart. -/
theorem SrvOwn.setApplied {B : Nat} {K K' : List Nat} {w : World} {c0 : List Value} {v2 v3 v2' : Value} {x : DServer} {f0 : List Nat} {l : List DApplied} (h : SrvOwn B K w c0 v2 v3 x f0) (hf : Fresh (Rep.slice 110 DApplied.rep) B w [v2'] l) (hv : ∀ b ∈ v2'.ownBlock.toList, b ∈ K ∧ b ∉ K') (hk : ∀ k ∈ K', k ∈ K) : SrvOwn B K' w c0 v2' v3 ⟨x.store, l, x.changes⟩ f0 :=
  ⟨h.st, h.nd, fun b hb => ⟨(h.ge b hb).1, fun hm => (h.ge b hb).2 (hk b hm)⟩, hf, h.ch, fun b hb => ⟨(hv b hb).2, fun h0 => (h.ge b h0).2 (hv b hb).1⟩, fun b hb => ⟨fun hm => (h.chk b hb).1 (hk b hm), (h.chk b hb).2.1, fun h2 => (h.chk b hb).1 (hv b h2).1⟩⟩
theorem SrvOwn.growA {B : Nat} {K : List Nat} {w : World} {c0 : List Value} {v2 v3 : Value} {x : DServer} {f0 : List Nat} {o : Obj} (h : SrvOwn B K w c0 v2 v3 x f0) : SrvOwn B K (w.alloc o) c0 v2 v3 x f0 := h.below (belA belR)

/-- A server out of a store, and two flat slices, apart. -/
theorem server_glue {B A C : Nat} {w : World} {v1 v2 v3 : Value} {x : DServer} (p0 : Part DStore.rep A C w [.string x.store.name, v1, .int .i64 x.store.auto] x.store) (h1 : Fresh (Rep.slice 110 DApplied.rep) B w [v2] x.applied) (h2 : Fresh (Rep.slice 72 DWrite.rep) B w [v3] x.changes) (hA : B ≤ A)
    (d1 : ∀ b ∈ v2.ownBlock.toList, b < A ∨ C ≤ b) (d2 : ∀ b ∈ v3.ownBlock.toList, (b < A ∨ C ≤ b) ∧ b ∉ v2.ownBlock.toList) : Fresh DServer.rep B w [.string x.store.name, v1, .int .i64 x.store.auto, v2, v3] x := by
  obtain ⟨f0, r0, n0, g0⟩ := p0
  exact SrvOwn.fresh (K := []) (f0 := f0) ⟨r0, n0, fun b hb => by have := g0 b hb; exact ⟨by omega, by simp⟩, h1, h2, fun b hb => ⟨by simp, fun h0 => by have := g0 b h0; have := d1 b hb; omega⟩, fun b hb => ⟨by simp, fun h0 => by have := g0 b h0; have := (d2 b hb).1; omega, (d2 b hb).2⟩⟩
/-- An empty literal. -/
theorem own_lit0 {α : Type} {R : Rep α} {E : TypeId} {w : World} {k : Nat} (h : w.heap[k]? = some (.cells #[] E (0, 0))) : Fresh (Rep.slice E R) k w [.slice (some ⟨k, 0, none⟩) 0 0] [] := by
  have hx : w.ownsRow k E R.n (.slice (some ⟨k, 0, none⟩) 0 0) 0 [] := ⟨by simp, .inr ⟨k, 0, #[], rfl, Nat.le_refl _, h, Nat.le_refl _, Nat.zero_le _, by simp, by simp⟩⟩
  exact Fresh.of_owned (R := R) (E := E) (v := .slice (some ⟨k, 0, none⟩) 0 0) [] (by simp) (B' := k) hx (by simp [feet, Value.ownBlock]) (by simp [feet, Value.ownBlock])

end Go.Proofs.YtgicglmcapnogaaGreat
