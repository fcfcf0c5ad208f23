/-
  AddItem, AutoItem where the item is new; the draw of any store.
-/
import Derived.Test.YtlfebehpmefioaaGreatDrawRec
import Derived.Test.YtlfebehpmefioaaGreatOffs
import Derived.Test.YtlfebehpmefioaaGreatOutDraw3
namespace Go.Proofs.YtlfebehpmefioaaGreat
open Go.RowKit

structure AutoStore (b : Int) (s : DStore) : Prop where
  store : isStoreF s = true
  auto : s.auto ≤ b
  keys : ∀ x ∈ s.items, x.key.kind = 1 → x.key.n ≤ 1000000 → x.key.n ≤ s.auto
def nextKey (s : DStore) : DKey := ⟨1, s.auto + 1, ⟨#[]⟩⟩
theorem AutoStore.next {b : Int} {s : DStore} (h : AutoStore b s) (hb : b ≤ 1000) (hl : s.items.length < 16) : idxF (keyIs (nextKey s)) s.items = -1 ∧ putItemB s (nextKey s) ⟨[]⟩ = true ∧ AutoStore (b + 1) (putItemF s (nextKey s) ⟨[]⟩) ∧ (putItemF s (nextKey s) ⟨[]⟩).items.length = s.items.length + 1 := by
  obtain ⟨_, _, _, _, h5⟩ := store_iff.1 h.store
  have h5 := within_iff.1 h5
  have ha := h.auto
  have hno : ∀ x ∈ s.items, keyIs (nextKey s) x = false := fun x hx => by
    unfold keyIs
    refine decide_eq_false fun e => ?_
    have h1 : x.key.kind = 1 := by rw [e]; rfl
    have h2 : x.key.n = s.auto + 1 := by rw [e]; rfl
    have := h.keys x hx h1 (by omega)
    omega
  have hf : s.items.findIdx? (keyIs (nextKey s)) = none := List.findIdx?_eq_none_iff.2 hno
  have hk : isKeyF (nextKey s) = true := by
    have e1 : within (1 : Int) 1 3 = true := by decide
    have e2 : within (s.auto + 1) (-1000000000000) 1000000000000 = true := within_iff.2 (by omega)
    have e3 : isKeyTextF ⟨#[]⟩ = true := by decide
    have e4 : (⟨#[]⟩ : ByteArray).toList.isEmpty = true := by unfold ByteArray.toList ByteArray.toList.loop; rfl
    unfold isKeyF nextKey
    simp only [e1, e2, e3, e4]
    rfl
  have hr : isRecordF ⟨[]⟩ = true := by decide
  have hB : putItemB s (nextKey s) ⟨[]⟩ = true := by
    rw [← putItem_same]
    unfold putItemS
    rw [h.store, hk, hr, hf, decide_eq_true hl]
    rfl
  have hF : putItemF s (nextKey s) ⟨[]⟩ = putNew s (nextKey s) ⟨[]⟩ := by
    unfold putItemF putOut
    rw [hB, hf]
    rfl
  have hau : autoOf s.auto (nextKey s) = s.auto + 1 := by
    unfold autoOf
    rw [if_pos ⟨rfl, by show s.auto < s.auto + 1; omega, by show s.auto + 1 ≤ 1000000; omega⟩]
    rfl
  have hst : isStoreF (putItemF s (nextKey s) ⟨[]⟩) = true := by
    have h1 := hB
    unfold putItemB at h1
    simp only [Bool.and_eq_true] at h1
    unfold putItemF
    rw [hB]
    exact h1.2.2
  refine ⟨idxF_miss fun j hj => hno _ (List.getElem_mem hj), hB, ⟨hst, ?_, fun y hy => ?_⟩, ?_⟩
  · rw [hF]; show autoOf s.auto (nextKey s) ≤ b + 1; omega
  · rw [hF] at hy ⊢
    show y.key.kind = 1 → y.key.n ≤ 1000000 → y.key.n ≤ autoOf s.auto (nextKey s)
    rcases insAt_mem hy with hy | rfl
    · intro h1 h2
      have := h.keys y hy h1 h2
      omega
    · intro _ _
      show s.auto + 1 ≤ autoOf s.auto (nextKey s)
      omega
  · rw [hF]
    exact insAt_length (lead_le _ _) _

structure StoreLe (s : DStore) : Prop where
  name : s.name.size ≤ 20
  items : s.items.length ≤ 40
  fields : ∀ x ∈ s.items, x.record.fields.length ≤ 20
theorem StoreLe.small {s : DStore} (h : StoreLe s) : SmallStore s := by
  have := sum_le_mul (fun x : DItem => x.record.fields.length) 20 s.items h.fields
  have h2 := h.items
  exact ⟨by omega, fun x hx => by have := h.fields x hx; omega, by omega⟩
theorem isWord_len {s : ByteArray} (h : isWordF s 8 false = true) : s.size ≤ 20 := by
  unfold isWordF at h
  rw [Bool.and_eq_true, within_iff] at h
  omega
theorem StoreLe.of_store {s : DStore} (h : isStoreF s = true) : StoreLe s := by
  obtain ⟨h1, _, h3, h4, _⟩ := store_iff.1 h
  exact ⟨isWord_len h3, by omega, fun x hx => by
    obtain ⟨j, hj, rfl⟩ := List.getElem_of_mem hx
    have := isRecord_len (h1 j hj).2
    omega⟩
theorem Owns.store {B : Nat} {K : List Nat} {w : World} {v : Value} {x : DStore} (h : Owns (Rep.slice 71 DItem.rep) B K w [v] x.items) (s0 : x.name.size ≤ maxLen) : Owns DStore.rep B K w [.string x.name, v, .int .i64 x.auto] x := by
  obtain ⟨fp, h, hn, hf⟩ := h
  exact ⟨fp, DStore.rd.2 ⟨_, _, rfl, rfl, s0, h⟩, hn, hf⟩
theorem Owns.chg {α : Type} {R : Rep α} {B : Nat} {K fq : List Nat} {w w' : World} {cs : List Value} {x : α} (h : Owns R B K w cs x) (hc : Chg fq w w') (hq : ∀ b ∈ fq, b ∈ K) : Owns R B K w' cs x := by
  obtain ⟨fp, h, hn, hf⟩ := h
  exact ⟨fp, Rep.frame _ h fun b hb' => hc.block b (Rep.lt _ h b hb') (fun hm => (hf b hb').2 (hq b hm)), hn, hf⟩

end Go.Proofs.YtlfebehpmefioaaGreat
