/-
 impl.ReceiveWrite.
-/
import Derived.Test.YtlfebehpmefioaaGreatSrvFam
import Derived.Test.YtlfebehpmefioaaGreatItemFam2
import Derived.Test.YtlfebehpmefioaaGreatStoreCnt
import Derived.Test.YtlfebehpmefioaaGreatInsApplied
namespace Go.Proofs.YtlfebehpmefioaaGreat
open Go.RowKit

theorem setItem_fopen {B : Nat} {w : World} {cs : List Value} {s : DStore} {y : DWrite} (h : Fresh DStore.rep B w cs (setItemF s y)) :
  ∃ a1 c1, cs = [.string s.name, .slice a1 (setItemF s y).items.length c1, .int .i64 (setItemF s y).auto] := by
 obtain ⟨a1, c1, rfl, h1, _⟩ := DStore.fopen h
 exact ⟨a1, c1, by rw [setItem_name]⟩
theorem lastSeq_range {x : DServer} {d : Int} (h : isServerF x = true) : 0 ≤ lastSeqF x d ∧ lastSeqF x d ≤ 1000000 := by
 unfold lastSeqF
 rcases hf : x.applied.find? (atDevice d) with _ | a
 ·simp
 ·have hm := List.mem_of_find?_eq_some hf
  obtain ⟨j, hj, rfl⟩ := List.getElem_of_mem hm
  rw [isServerF, Bool.and_eq_true, List.all_eq_true] at h
  have h1 := h.1 j (List.mem_range.2 hj)
  rw [appOk_at hj] at h1
  simp only [Bool.and_eq_true, within, decide_eq_true_eq] at h1
  simpa using h1.2.1
theorem code_refused {x : DServer} {y : DWrite} (h : refused x y = true) : receiveCode x y = 4 := by unfold receiveCode; rw [if_pos h]
theorem refused_srv {x : DServer} {y : DWrite} (h : isServerF x = false) : refused x y = true := by unfold refused; rw [h]; rfl
theorem refused_wr {x : DServer} {y : DWrite} (h : isWriteF y = false) : refused x y = true := by unfold refused; rw [h]; simp
theorem code_old {x : DServer} {y : DWrite} (h : refused x y = false) (h2 : y.seq ≤ lastSeqF x y.device) : receiveCode x y = 2 := by unfold receiveCode; rw [if_neg (by rw [h]; simp), if_pos h2]
theorem code_gap {x : DServer} {y : DWrite} (h : refused x y = false) (h2 : ¬ y.seq ≤ lastSeqF x y.device) (h3 : wrap64 (lastSeqF x y.device + 1) < y.seq) : receiveCode x y = 3 := by unfold receiveCode; rw [if_neg (by rw [h]; simp), if_neg h2, if_pos h3]
theorem code_new {x : DServer} {y : DWrite} (h : refused x y = false) (h2 : ¬ y.seq ≤ lastSeqF x y.device) (h3 : ¬ wrap64 (lastSeqF x y.device + 1) < y.seq) : receiveCode x y = 1 := by unfold receiveCode; rw [if_neg (by rw [h]; simp), if_neg h2, if_neg h3]
theorem receiveF_new {x : DServer} {y : DWrite} (h : receiveCode x y = 1) : receiveF x y = receiveOut x y := by unfold receiveF; rw [if_pos h]
attribute [local irreducible] isServerF isWriteF setItemF setItemB receiveCode lastSeqF markI markS

theorem WB.sets3 {w : World} {k : Nat} {a b c d e a' b' c' : Value} (h : WB w k #[a, b, c, d, e]) : WB (((w.setCell ⟨k, 0, none⟩ a').setCell ⟨k, 1, none⟩ b').setCell ⟨k, 2, none⟩ c') k #[a', b', c', d, e] :=
 WB.sets [a', b', c'] 0 w _ h (by simp)

end Go.Proofs.YtlfebehpmefioaaGreat
