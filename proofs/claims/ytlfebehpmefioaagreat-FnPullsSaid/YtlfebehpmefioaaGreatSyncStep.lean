/-
 impl.SyncStep.
-/
import Derived.Test.YtlfebehpmefioaaGreatReceive
import Derived.Test.YtlfebehpmefioaaGreatBoxFam
import Derived.Test.YtlfebehpmefioaaGreatSrvFam
import Derived.Test.YtlfebehpmefioaaGreatSrvCnt
namespace Go.Proofs.YtlfebehpmefioaaGreat
open Go.RowKit

theorem Fresh2.of_parts {α β : Type} {R : Rep α} {S : Rep β} {B lo hi lo' hi' : Nat} {w : World} {cs ds : List Value} {x : α} {y : β} (h : Part R lo hi w cs x) (k : Part S lo' hi' w ds y) (h1 : B ≤ lo) (h2 : B ≤ lo') (hd : hi ≤ lo' ∨ hi' ≤ lo) : Fresh2 R S B w cs ds x y := by
 obtain ⟨f, r1, r2, r3⟩ := h
 obtain ⟨g, k1, k2, k3⟩ := k
 exact ⟨f, g, r1, k1, r2, k2, fun b hb hb' => by have := r3 b hb; have := k3 b hb'; omega, fun b hb => by have := r3 b hb; omega, fun b hb => by have := k3 b hb; omega⟩
theorem sync_part {lo hi : Nat} {w : World} {v : Value} {x : DSync} (h : Part (Rep.slice 34 DWrite.rep) lo hi w [v] x.outbox.writes) : Part DSync.rep lo hi w [.int .i64 x.outbox.device, .int .i64 x.outbox.next, v, .int .i64 x.tries, .int .i64 x.waitUntil] x := by
 obtain ⟨f, r1, r2, r3⟩ := h
 exact ⟨f, DSync.rd.2 ⟨_, _, rfl, rfl, r1⟩, r2, r3⟩
theorem offCell {α : Type} {R : Rep α} {lo hi : Nat} {w : World} {cs : List Value} {x : α} {g o : Nat} {u : Value} (h : Part R lo hi w cs x) (hg : g < lo ∨ hi ≤ g) : Part R lo hi (w.setCell ⟨g, o, none⟩ u) cs x := by
 obtain ⟨fp, h1, h2, h3⟩ := h
 exact ⟨fp, R.frame h1 fun b hb => Below.heap_setCell _ _ _ _ (by have := h3 b hb; simp only []; omega), h2, h3⟩
theorem WB.sets5 {w : World} {k : Nat} {a b c d e a' b' c' d' e' : Value} (h : WB w k #[a, b, c, d, e]) : WB (((((w.setCell ⟨k, 0, none⟩ a').setCell ⟨k, 1, none⟩ b').setCell ⟨k, 2, none⟩ c').setCell ⟨k, 3, none⟩ d').setCell ⟨k, 4, none⟩ e') k #[a', b', c', d', e'] :=
 (((((h.setAt (i := 0) (cs' := #[a', b, c, d, e]) (by simp) rfl).setAt (i := 1) (cs' := #[a', b', c, d, e]) (by simp) rfl).setAt (i := 2) (cs' := #[a', b', c', d, e]) (by simp) rfl).setAt (i := 3) (cs' := #[a', b', c', d', e]) (by simp) rfl).setAt (i := 4) (cs' := #[a', b', c', d', e']) (by simp) rfl)
theorem write_fopen {B : Nat} {w : World} {cs : List Value} {x : DWrite} (h : Fresh DWrite.rep B w cs x) : cs = [.int .i64 x.device, .int .i64 x.seq, .int .i64 x.key.kind, .int .i64 x.key.n, .string x.key.text, .string x.field, .int .i64 x.n] ∧ x.key.text.size ≤ maxLen ∧ x.field.size ≤ maxLen := by
 obtain ⟨_, h, _⟩ := h
 obtain ⟨rfl, _, h1, h2⟩ := DWrite.rd.1 h
 exact ⟨rfl, h1, h2⟩
theorem step_off {y : DSync} {s : DServer} {now fate : Int} (h : stepOff y now = true) : syncStepY y s now fate = y ∧ syncStepS y s now fate = s ∧ syncStepN y s now fate = 0 := by
 unfold syncStepY syncStepS syncStepN; simp only [h, if_true, and_self]
theorem step_on {y : DSync} {s : DServer} {now fate : Int} (h : stepOff y now = false) : syncStepS y s now fate = stepSrv s (firstWriteF y.outbox) fate := by
 unfold syncStepS; rw [h]; rfl
theorem step_acked {y : DSync} {s : DServer} {now fate : Int} (h : stepOff y now = false) (ha : stepAcked s (firstWriteF y.outbox) fate = true) : syncStepY y s now fate = ackedSync y ∧ syncStepN y s now fate = 1 := by
 unfold syncStepY syncStepN; simp only [h, ha, Bool.false_eq_true, if_false, if_true, and_self]
theorem step_waits {y : DSync} {s : DServer} {now fate : Int} (h : stepOff y now = false) (ha : stepAcked s (firstWriteF y.outbox) fate = false) : syncStepY y s now fate = stepSync y now ∧ syncStepN y s now fate = 2 := by
 unfold syncStepY syncStepN; simp only [h, ha, Bool.false_eq_true, if_false, and_self]
theorem srv_one {s : DServer} {y : DWrite} {fate : Int} (h : fate = 0 ∨ fate = 2) : stepSrv s y fate = receiveF s y ∧ stepCode s y fate = receiveCode s y := by unfold stepSrv stepCode; simp only [h, if_true, and_self]
theorem srv_two {s : DServer} {y : DWrite} {fate : Int} (h : fate = 3) : stepSrv s y fate = receiveF (receiveF s y) y ∧ stepCode s y fate = receiveCode (receiveF s y) y := by subst h; unfold stepSrv stepCode; simp
theorem srv_none {s : DServer} {y : DWrite} {fate : Int} (h0 : fate ≠ 0) (h2 : fate ≠ 2) (h3 : fate ≠ 3) : stepSrv s y fate = s := by unfold stepSrv; simp [h0, h2, h3]
theorem acked_not {s : DServer} {y : DWrite} {fate : Int} (h0 : fate ≠ 0) (h3 : fate ≠ 3) : stepAcked s y fate = false := by unfold stepAcked; simp [h0, h3]
theorem acked_is {s : DServer} {y : DWrite} {fate : Int} (h0 : fate = 0 ∨ fate = 3) : stepAcked s y fate = (stepCode s y fate == 1 || stepCode s y fate == 2) := by unfold stepAcked; rcases h0 with h | h <;> simp [h]
theorem WB.offs {w : World} {k g : Nat} {cs : Array Value} {a b c d e : Value} (h : WB w k cs) (hk : k ≠ g) : WB (((((w.setCell ⟨g, 0, none⟩ a).setCell ⟨g, 1, none⟩ b).setCell ⟨g, 2, none⟩ c).setCell ⟨g, 3, none⟩ d).setCell ⟨g, 4, none⟩ e) k cs :=
 ((((h.setOther hk).setOther hk).setOther hk).setOther hk).setOther hk
theorem offs5 {α : Type} {R : Rep α} {lo hi : Nat} {w : World} {cs : List Value} {x : α} {g : Nat} {a b c d e : Value} (h : Part R lo hi w cs x) (hg : g < lo ∨ hi ≤ g) : Part R lo hi (((((w.setCell ⟨g, 0, none⟩ a).setCell ⟨g, 1, none⟩ b).setCell ⟨g, 2, none⟩ c).setCell ⟨g, 3, none⟩ d).setCell ⟨g, 4, none⟩ e) cs x :=
 offCell (offCell (offCell (offCell (offCell h hg) hg) hg) hg) hg
attribute [local irreducible] isOutboxF firstWriteF firstWriteB receiveF receiveCode stepSrv stepCode stepAcked ackWritesF boff

end Go.Proofs.YtlfebehpmefioaaGreat
