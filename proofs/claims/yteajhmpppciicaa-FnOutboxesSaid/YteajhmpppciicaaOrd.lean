/-
  A region that draws its order, walked once: loads and what only reckons are taken first (in a class S of worlds that the calls keep), each call where nothing else may come up, the stores last.
-/
import Derived.Test.YteajhmpppciicaaBase
namespace Go.Proofs.Yteajhmpppciicaa
open Go.RowKit

def waitsOn (o : Oper) (i : Nat) : Bool := o.after.any fun e => Region.binds .any e && e.on == i
def lowEdges (o : Oper) (n : Nat) : Bool := o.after.all fun e => !Region.binds .any e || decide (e.on < n)
def isExtr (o : Oper) : Bool := match o.op, o.guard with | .extract _ _, none => true | _, _ => false
theorem waitsOn_iff {o : Oper} {i : Nat} : waitsOn o i = true ↔ ∃ e ∈ o.after, Region.binds .any e = true ∧ e.on = i := by
  unfold waitsOn
  rw [← Array.any_toList, List.any_eq_true]
  simp
theorem lowEdges_iff {o : Oper} {n : Nat} : lowEdges o n = true ↔ ∀ e ∈ o.after, Region.binds .any e = true → e.on < n := by
  unfold lowEdges
  rw [Array.all_eq_true_iff_forall_mem]
  constructor
  · intro h e he hb
    have := h e he
    rw [hb] at this
    simpa using this
  · intro h e he
    cases hb : Region.binds .any e
    · rfl
    · simpa using h e he hb

/-- What yields a value and leaves the world alone. -/
def isPlain (o : Oper) : Bool := match o.op with | .move _ | .load _ _ | .fieldAddr _ _ _ | .binOp _ _ _ _ _ | .build _ _ | .extract _ _ | .field _ _ _ | .assign _ => true | _ => false

section
variable {P : Program} {ops : Array Oper} {Q : Exit → Act → World → Prop} {S : World → Prop} {M : List Nat}

theorem plain_value {o : Oper} (ho : isPlain o = true) {ρ : Operand → Value} {w w' : World} {n : Next} (h : (execOp ρ o).run P w = .ok n w') : ∃ u, n = .value u := by
  obtain ⟨dst, op, type, pos, after, guard⟩ := o
  unfold isPlain at ho
  have key : ∀ (x : Sem Value), ((do let u ← x; pure (Next.value u) : Sem Next).run P w = .ok n w') → ∃ u, n = .value u := by
    intro x hx
    simp only [Sem.run_bind] at hx
    cases hr : x.run P w with
    | ok u w2 =>
      rw [hr] at hx
      simp only [Result.andThen_ok, Sem.run_pure] at hx
      injection hx with e1 e2
      exact ⟨u, e1.symm⟩
    | halt y w2 =>
      rw [hr] at hx
      simp [Result.andThen] at hx
  cases op <;> first
    | (simp at ho; done)
    | exact key _ h
    | (rename_i y; have h' : (Result.ok (Next.value (ρ y)) w : Result Next) = .ok n w' := h; injection h' with e1; exact ⟨_, e1.symm⟩)

theorem extr_cases (x : Value) (ix : Nat) : (∃ v, Instr.extract x ix = pure v) ∨ ∃ m, Instr.extract x ix = stuck m := by
  unfold Instr.extract
  cases x
  case tuple vs =>
    cases hv : vs[ix]?
    · right; exact ⟨"Extract: no such component", by simp only [hv]⟩
    · left; rename_i v; exact ⟨v, by simp only [hv]⟩
  all_goals (right; exact ⟨_, rfl⟩)

theorem extr_yields {o : Oper} (ho : isExtr o = true) {a : Act} {w : World} {K : Act → World → Prop} {Q' : Exit → Act → World → Prop} {ops : Array Oper}
    (h : if Region.wanted o (yielded ops a.tmps) = true then o.wp P a w K Q' ∨ (o.asks P a w ∧ LetsOut Q') else K (a.put o.dst undef) w) : o.guard = none ∧ ∃ v, (∀ w, (execOp a.eval o).run P w = .ok (.value v) w) ∧ K (a.put o.dst v) w := by
  obtain ⟨dst, op, type, pos, after, guard⟩ := o
  unfold isExtr at ho
  cases op <;> try (simp at ho; done)
  rename_i t ix
  cases guard
  case some => simp at ho
  refine ⟨rfl, ?_⟩
  have hw : Region.wanted (⟨dst, .extract t ix, type, pos, after, none⟩ : Oper) (yielded ops a.tmps) = true := by simp [Region.wanted]
  rw [if_pos hw] at h
  rcases extr_cases (a.eval t) ix with ⟨v, hv⟩ | ⟨m, hm⟩
  · have hr : ∀ w, (execOp a.eval (⟨dst, .extract t ix, type, pos, after, none⟩ : Oper)).run P w = .ok (.value v) w := fun w => by
      simp only [execOp, hv]; rfl
    refine ⟨v, hr, ?_⟩
    rcases h with h | ⟨h, _⟩
    · unfold Oper.wp at h
      rw [hr] at h
      exact h
    · unfold Oper.asks at h
      have h1 := h.1
      simp only [execOp, hv] at h1
      exact absurd h1 (by intro h; cases h; rename_i h; cases h)
  · have hr : ∀ w, (execOp a.eval (⟨dst, .extract t ix, type, pos, after, none⟩ : Oper)).run P w = .halt (.stuck m) w := fun w => by
      simp only [execOp, hm]; rfl
    rcases h with h | ⟨h, _⟩
    · unfold Oper.wp at h
      rw [hr] at h
      exact h.elim
    · unfold Oper.asks at h
      have h1 := h.1
      simp only [execOp, hm] at h1
      exact absurd h1 (by intro h; cases h; rename_i h; cases h)


/-- Which have come up. -/
def mark (n : Nat) (D : List Nat) : Array Bool := D.foldl (fun l i => l.setIfInBounds i true) (Array.replicate n false)
theorem mark_snoc (n : Nat) (D : List Nat) (i : Nat) : mark n (D ++ [i]) = (mark n D).setIfInBounds i true := by unfold mark; simp

/-- Whatever order is picked from here on, AND 'S' HOLDS BEHIND EVERY OPERATION BUT THOSE OF M. -/
def wpAnyU (P : Program) (ops : Array Oper) (Q : Exit → Act → World → Prop) (S : World → Prop) (M : List Nat) : Nat → Array Bool → Act → World → Prop
  | 0, listed, a, w => Region.ready .any ops listed = [] ∧ Q .normal a w
  | fuel + 1, listed, a, w =>
    (Region.ready .any ops listed = [] → Q .normal a w) ∧
    ∀ i ∈ Region.ready .any ops listed, wpOp P ops Q i (fun a' w' => (i ∈ M ∨ S w') ∧ wpAnyU P ops Q S M fuel (listed.setIfInBounds i true) a' w') a w

theorem wpAny_of_u : ∀ (fuel : Nat) (listed : Array Bool) (a : Act) (w : World), wpAnyU P ops Q S M fuel listed a w → wpAny P .any ops Q fuel listed a w
  | 0, _, _, _, h => h
  | fuel + 1, _, _, _, h => ⟨h.1, fun i hi => wpOp_mono (fun a' w' h' => wpAny_of_u fuel _ a' w' h'.2) (h.2 i hi)⟩

/-- The operations of M: each waits for i, or is an extract. -/
def heldB (ops : Array Oper) (M : List Nat) (i : Nat) : Bool := M.all fun m => match ops[m]? with | none => true | some o => waitsOn o i || isExtr o

theorem wpAnyU_first {i : Nat} {oi : Oper} {v : Value} (hi : ops[i]? = some oi) (hsel : ∀ (j : Nat) (o : Oper) cs b, ops[j]? = some o → o.op ≠ .select cs b)
    (hQ : ∀ c a w, Q (.panic c) (a.put oi.dst v) w → Q (.panic c) a w) (hM : heldB ops M i = true) :
    ∀ (fuel : Nat) (listed : Array Bool) (a : Act) (w : World),
      (∀ j oj, ops[j]? = some oj → j ≠ i → listed.getD j true = false → (∀ e ∈ oj.after, Region.binds .any e = true → e.on ≠ i) → oi.apart ops oj = true) →
      i ∈ Region.ready .any ops listed → YieldsIf P ops S oi v a → S w →
      wpAnyU P ops Q S M fuel (listed.setIfInBounds i true) (a.put oi.dst v) w → wpAnyU P ops Q S M (fuel + 1) listed a w := by
  intro fuel
  induction fuel with
  | zero =>
    intro listed a w _ hr hy hS H
    refine ⟨fun h => (by rw [h] at hr; cases hr), fun j hj => ?_⟩
    by_cases hji : j = i
    · subst hji; exact hy.wpOp hi hS ⟨.inr hS, H⟩
    · have := ready_mono hj hji
      rw [H.1] at this
      cases this
  | succ fuel ih =>
    intro listed a w hfree hr hy hS H
    refine ⟨fun h => (by rw [h] at hr; cases hr), fun j hj => ?_⟩
    by_cases hji : j = i
    · subst hji; exact hy.wpOp hi hS ⟨.inr hS, H⟩
    · have h1 := H.2 j (ready_mono hj hji)
      obtain ⟨hjun, oj, hoj, hall⟩ := mem_ready.1 hj
      have hnot : ∀ e ∈ oj.after, Region.binds .any e = true → e.on ≠ i := fun e he hb heq => by
        have h1 := hall e he hb
        have h0 := (mem_ready.1 hr).1
        rw [heq] at h1
        rcases Nat.lt_or_ge i listed.size with h' | h'
        · simp [h'] at h0 h1; rw [h0] at h1; cases h1
        · simp [Array.getElem?_eq_none h'] at h1
      have hfree' : ∀ k ok, ops[k]? = some ok → k ≠ i → (listed.setIfInBounds j true).getD k true = false →
          (∀ e ∈ ok.after, Region.binds .any e = true → e.on ≠ i) → oi.apart ops ok = true := fun k ok hk hki hun hno => by
        refine hfree k ok hk hki ?_ hno
        by_cases hjk : j = k
        · subst hjk; exact hjun
        · rw [getD_set_ne true hjk] at hun; exact hun
      have hap := hfree j oj hoj hji hjun hnot
      by_cases hjM : j ∈ M
      · -- an extract: the world stays
        have hex : isExtr oj = true := by
          unfold heldB at hM
          rw [List.all_eq_true] at hM
          have := hM j hjM
          rw [hoj] at this
          simp only [Bool.or_eq_true] at this
          rcases this with h | h
          · obtain ⟨e, he, hb, h5⟩ := waitsOn_iff.1 h
            exact absurd h5 (hnot e he hb)
          · exact h
        obtain ⟨p1, p2, p3⟩ := Oper.apart_spec hap
        have hsj := fun cs b => hsel j oj cs b hoj
        have hsi := fun cs b => hsel i oi cs b hi
        have h2 := h1
        unfold wpOp at h2 ⊢
        rw [hoj] at h2 ⊢
        obtain ⟨hg, u, hu, hK⟩ := extr_yields hex h2
        have hw : Region.wanted oj (yielded ops a.tmps) = true := by simp [Region.wanted, hg]
        simp only [hw, if_true]
        refine .inl ?_
        unfold Oper.wp
        have hu' := hu w
        rw [execOp_put oj hsj a oi.dst v p1] at hu'
        rw [hu']
        refine ⟨.inl hjM, ih (listed.setIfInBounds j true) _ w hfree' (ready_mono hr (Ne.symm hji)) (hy.of_same (execOp_put oi hsi a oj.dst u p3) (wanted_put oi a oj.dst u p3)) hS ?_⟩
        rw [Array.setIfInBounds_comm _ _ hji, ← Act.put_comm a v u p2]
        exact hK.2
      · have h2 := wpOp_putIf hoj hap (fun cs b => hsel i oi cs b hi) (fun cs b => hsel j oj cs b hoj) hQ hy h1
        refine wpOp_mono (fun a' w' h3 => ⟨h3.2.1, ih (listed.setIfInBounds j true) a' w' hfree' (ready_mono hr (Ne.symm hji)) h3.1 (h3.2.1.resolve_left hjM) ?_⟩) h2
        rw [Array.setIfInBounds_comm _ _ hji]
        exact h3.2.2

theorem extr_first {i : Nat} {oi : Oper} {v : Value} (hi : ops[i]? = some oi) (hsel : ∀ (j : Nat) (o : Oper) cs b, ops[j]? = some o → o.op ≠ .select cs b)
    (hQ : ∀ c a w, Q (.panic c) (a.put oi.dst v) w → Q (.panic c) a w) (hM : i ∈ M) :
    ∀ (fuel : Nat) (listed : Array Bool) (a : Act) (w : World),
      (∀ j oj, ops[j]? = some oj → j ≠ i → listed.getD j true = false → (∀ e ∈ oj.after, Region.binds .any e = true → e.on ≠ i) → oi.apart ops oj = true) →
      i ∈ Region.ready .any ops listed → YieldsIf P ops (fun _ => True) oi v a →
      wpAnyU P ops Q S M fuel (listed.setIfInBounds i true) (a.put oi.dst v) w → wpAnyU P ops Q S M (fuel + 1) listed a w := by
  intro fuel
  induction fuel with
  | zero =>
    intro listed a w _ hr hy H
    refine ⟨fun h => (by rw [h] at hr; cases hr), fun j hj => ?_⟩
    by_cases hji : j = i
    · subst hji; exact hy.wpOp hi trivial ⟨.inl hM, H⟩
    · have := ready_mono hj hji
      rw [H.1] at this
      cases this
  | succ fuel ih =>
    intro listed a w hfree hr hy H
    refine ⟨fun h => (by rw [h] at hr; cases hr), fun j hj => ?_⟩
    by_cases hji : j = i
    · subst hji; exact hy.wpOp hi trivial ⟨.inl hM, H⟩
    · have h1 := H.2 j (ready_mono hj hji)
      obtain ⟨hjun, oj, hoj, hall⟩ := mem_ready.1 hj
      have hnot : ∀ e ∈ oj.after, Region.binds .any e = true → e.on ≠ i := fun e he hb heq => by
        have h1 := hall e he hb
        have h0 := (mem_ready.1 hr).1
        rw [heq] at h1
        rcases Nat.lt_or_ge i listed.size with h' | h'
        · simp [h'] at h0 h1; rw [h0] at h1; cases h1
        · simp [Array.getElem?_eq_none h'] at h1
      have hfree' : ∀ k ok, ops[k]? = some ok → k ≠ i → (listed.setIfInBounds j true).getD k true = false →
          (∀ e ∈ ok.after, Region.binds .any e = true → e.on ≠ i) → oi.apart ops ok = true := fun k ok hk hki hun hno => by
        refine hfree k ok hk hki ?_ hno
        by_cases hjk : j = k
        · subst hjk; exact hjun
        · rw [getD_set_ne true hjk] at hun; exact hun
      have hap := hfree j oj hoj hji hjun hnot
      have h2 := wpOp_putIf hoj hap (fun cs b => hsel i oi cs b hi) (fun cs b => hsel j oj cs b hoj) hQ hy h1
      refine wpOp_mono (fun a' w' h3 => ⟨h3.2.1, ih (listed.setIfInBounds j true) a' w' hfree' (ready_mono hr (Ne.symm hji)) h3.1 ?_⟩) h2
      rw [Array.setIfInBounds_comm _ _ hji]
      exact h3.2.2

theorem extr_any {o : Oper} (ho : isExtr o = true) {ρ : Operand → Value} {w : World} {v : Value} (h : (execOp ρ o).run P w = .ok (.value v) w) : o.guard = none ∧ ∀ w', (execOp ρ o).run P w' = .ok (.value v) w' := by
  obtain ⟨dst, op, type, pos, after, guard⟩ := o
  unfold isExtr at ho
  cases op <;> try (simp at ho; done)
  rename_i t ix
  cases guard
  case some => simp at ho
  refine ⟨rfl, fun w' => ?_⟩
  rcases extr_cases (ρ t) ix with ⟨u, hu⟩ | ⟨m, hm⟩
  · have e : (Result.ok (Next.value u) w : Result Next) = .ok (.value v) w := by
      simp only [execOp, hu] at h
      exact h
    simp only [execOp, hu]
    injection e with e1
    injection e1 with e2
    subst e2
    rfl
  · simp only [execOp, hm] at h
    cases h

theorem quiet_value {o : Oper} (ho : isPlain o = true) {a : Act} {v : Value} {w : World} {C : World → Prop} (h : o.quietAt P a C w v) : (execOp a.eval o).run P w = .ok (.value v) w := by
  unfold Oper.quietAt at h
  have hp := fun n w' => plain_value (P := P) ho (ρ := a.eval) (w := w) (w' := w') (n := n)
  generalize (execOp a.eval o).run P w = r at *
  cases r with
  | ok n w' =>
    obtain ⟨u, rfl⟩ := hp n w' rfl
    simp only [Oper.quietUpon] at h
    obtain ⟨rfl, rfl⟩ := h
    rfl
  | halt x w' => simp only [Oper.quietUpon] at h

def wpU (P : Program) (ops : Array Oper) (Q : Exit → Act → World → Prop) (S : World → Prop) (M D : List Nat) (a : Act) (w : World) : Prop := wpAnyU P ops Q S M (ops.size - D.length) (mark ops.size D) a w
def pick (l : List Oper) : List Nat → Option (List Oper)
  | [] => some []
  | i :: G => match l[i]?, pick l G with | some o, some os => some (o :: os) | _, _ => none
def groupB (ops : Array Oper) (M : List Nat) : List Nat → List Nat → Bool
  | _, [] => true
  | D, i :: G => (decide (D.length < ops.size) && ((Region.ready .any ops (mark ops.size D)).contains i && (Region.free .any ops (mark ops.size D) i && match ops[i]? with | none => false | some o => isPlain o && (heldB ops M i || (M.contains i && isExtr o))))) && groupB ops M (D ++ [i]) G

theorem pick_cons {l : List Oper} {i : Nat} {G : List Nat} {os : List Oper} (h : pick l (i :: G) = some os) : ∃ o os', l[i]? = some o ∧ pick l G = some os' ∧ os = o :: os' := by
  unfold pick at h
  split at h
  · rename_i o os' h1 h2
    exact ⟨o, os', h1, h2, (Option.some.inj h).symm⟩
  · cases h

theorem wpU_group {l : List Oper} (hQ : ∀ c (a : Act) (d : Option Tmp) (v : Value) w, Q (.panic c) (a.put d v) w → Q (.panic c) a w) (hn : Region.noSelect l.toArray = true) {w : World} (hS : S w) : ∀ (G D : List Nat) (os : List Oper) (a : Act), pick l G = some os → groupB l.toArray M D G = true →
    wpQuiet P l.toArray S (fun a' => wpU P l.toArray Q S M (D ++ G) a' w) os a → wpU P l.toArray Q S M D a w
  | [], D, os, a, hp, _, h => by
    obtain rfl := Option.some.inj hp
    simpa [wpQuiet] using h
  | i :: G, D, os, a, hp, hG, h => by
    obtain ⟨o, os', h1, h2, rfl⟩ := pick_cons hp
    unfold groupB at hG
    have hi : l.toArray[i]? = some o := by simpa using h1
    simp only [hi, Bool.and_eq_true, decide_eq_true_eq, Bool.or_eq_true] at hG
    obtain ⟨⟨hD, hr, hf, hpl, hM⟩, hG⟩ := hG
    unfold wpQuiet at h
    have hsz : l.toArray.size - D.length = (l.toArray.size - (D ++ [i]).length) + 1 := by simp at hD ⊢; omega
    have step : ∀ v, YieldsIf P l.toArray S o v a → (isExtr o = true → YieldsIf P l.toArray (fun _ => True) o v a) → wpQuiet P l.toArray S (fun a' => wpU P l.toArray Q S M (D ++ (i :: G)) a' w) os' (a.put o.dst v) → wpU P l.toArray Q S M D a w := by
      intro v hy hy2 hrest
      have hrest2 := wpU_group hQ hn hS G (D ++ [i]) os' _ h2 hG (by simpa using hrest)
      unfold wpU at hrest2 ⊢
      rw [mark_snoc] at hrest2
      rw [hsz]
      rcases hM with hM | ⟨hM, hex⟩
      · exact wpAnyU_first hi (Region.noSelect_spec hn) (fun c a w => hQ c a _ v w) hM _ _ _ _ (Region.free_spec hi hf) (by simpa using hr) hy hS hrest2
      · exact extr_first hi (Region.noSelect_spec hn) (fun c a w => hQ c a _ v w) (by simpa using hM) _ _ _ _ (Region.free_spec hi hf) (by simpa using hr) (hy2 hex) hrest2
    by_cases hw : Region.wanted o (yielded l.toArray a.tmps) = true
    · rw [if_pos hw] at h
      obtain ⟨v, hv, hrest⟩ := h
      exact step v (.inl ⟨hw, fun w' hw' => quiet_value hpl (hv w' hw')⟩) (fun hex => .inl ⟨hw, fun w' _ => (extr_any hex (quiet_value hpl (hv w hS))).2 w'⟩) hrest
    · rw [if_neg hw] at h
      have hw' : Region.wanted o (yielded l.toArray a.tmps) = false := by simpa using hw
      exact step undef (.inr ⟨hw', rfl⟩) (fun _ => .inr ⟨hw', rfl⟩) h

def HardPost (P : Program) (ops : Array Oper) (Q : Exit → Act → World → Prop) (S : World → Prop) (M D : List Nat) (i : Nat) : Exit → Act → World → Prop
  | .normal, a, w => (i ∈ M ∨ S w) ∧ wpU P ops Q S M (D ++ [i]) a w
  | x, a, w => Q x a w
theorem HardPost.mk {D : List Nat} {i : Nat} {a : Act} {w : World} (hS : S w) (h : wpU P ops Q S M (D ++ [i]) a w) : HardPost P ops Q S M D i .normal a w := ⟨.inr hS, h⟩

theorem wpOp_of_list {Q' : Exit → Act → World → Prop} {i : Nat} {o : Oper} (hi : ops[i]? = some o) {a : Act} {w : World} {K : Act → World → Prop} (hK : ∀ a w, Q' .normal a w → K a w) (hp : ∀ c a w, Q' (.panic c) a w → Q (.panic c) a w) (ho : LetsOut Q' → LetsOut Q)
    (h : wpList P ops Q' [o] a w) : wpOp P ops Q i K a w := by
  unfold wpOp
  rw [hi]
  unfold wpList at h
  simp only
  split
  · rename_i hw
    rw [if_pos hw] at h
    rcases h with h | h
    · refine .inl ?_
      have h2 := Oper.wp_mono (K' := K) (fun a w hk => hK a w hk) h
      unfold Oper.wp at h2 ⊢
      generalize (execOp a.eval o).run P w = r at *
      cases r with
      | ok n w' =>
        cases n <;> simp only [Oper.upon] at h2 ⊢ <;> try exact h2
        exact Calls.mono h2 fun e w'' he => by
          cases e with
          | returned u => exact he
          | panicked c => exact hp _ _ _ he
          | outgrown => exact ho he
      | halt x w' =>
        cases x <;> simp only [Oper.upon] at h2 ⊢
        case panic u => exact hp _ _ _ h2
    · exact .inr ⟨h.1, ho h.2⟩
  · rename_i hw
    rw [if_neg hw] at h
    exact hK _ _ h

def oneB (ops : Array Oper) (D : List Nat) (i : Nat) : Bool := decide (D.length < ops.size) && Region.ready .any ops (mark ops.size D) == [i]
theorem wpU_one {l : List Oper} {D : List Nat} (i : Nat) {o : Oper} (ho : l[i]? = some o) (hB : oneB l.toArray D i = true) {a : Act} {w : World} (h : wpList P l.toArray (HardPost P l.toArray Q S M D i) [o] a w) : wpU P l.toArray Q S M D a w := by
  unfold oneB at hB
  simp only [Bool.and_eq_true, decide_eq_true_eq, beq_iff_eq] at hB
  obtain ⟨hD, hr⟩ := hB
  have hsz : l.toArray.size - D.length = (l.toArray.size - (D ++ [i]).length) + 1 := by simp at hD ⊢; omega
  unfold wpU
  rw [hsz]
  refine ⟨fun h0 => (by rw [hr] at h0; cases h0), fun j hj => ?_⟩
  rw [hr] at hj
  obtain rfl : j = i := by simpa using hj
  refine wpOp_of_list (Q' := HardPost P l.toArray Q S M D j) (by simpa using ho) (fun a w hk => ⟨hk.1, ?_⟩) (fun _ _ _ h => h) (fun h => h) h
  have h2 := hk.2
  unfold wpU at h2
  rw [mark_snoc] at h2
  exact h2

def twoB (ops : Array Oper) (D : List Nat) (i j : Nat) : Bool := decide (D.length < ops.size) && Region.ready .any ops (mark ops.size D) == [i, j]
theorem wpU_two {l : List Oper} {D : List Nat} (i j : Nat) {o o' : Oper} (ho : l[i]? = some o) (ho' : l[j]? = some o') (hB : twoB l.toArray D i j = true) {a : Act} {w : World} (h : wpList P l.toArray (HardPost P l.toArray Q S M D i) [o] a w)
    (h' : wpList P l.toArray (HardPost P l.toArray Q S M D j) [o'] a w) : wpU P l.toArray Q S M D a w := by
  unfold twoB at hB
  simp only [Bool.and_eq_true, decide_eq_true_eq, beq_iff_eq] at hB
  obtain ⟨hD, hr⟩ := hB
  have hsz : l.toArray.size - D.length = (l.toArray.size - (D.length + 1)) + 1 := by simp at hD ⊢; omega
  have key : ∀ (i : Nat) (o : Oper), l[i]? = some o → wpList P l.toArray (HardPost P l.toArray Q S M D i) [o] a w → wpOp P l.toArray Q i (fun a' w' => (i ∈ M ∨ S w') ∧ wpAnyU P l.toArray Q S M (l.toArray.size - (D.length + 1)) ((mark l.toArray.size D).setIfInBounds i true) a' w') a w := fun i o ho h => by
    refine wpOp_of_list (Q' := HardPost P l.toArray Q S M D i) (by simpa using ho) (fun a w hk => ⟨hk.1, ?_⟩) (fun _ _ _ h => h) (fun h => h) h
    have h2 := hk.2
    unfold wpU at h2
    rw [mark_snoc, show (D ++ [i]).length = D.length + 1 by simp] at h2
    exact h2
  unfold wpU
  rw [hsz]
  refine ⟨fun h0 => (by rw [hr] at h0; cases h0), fun n hn => ?_⟩
  rw [hr] at hn
  have hn : n = i ∨ n = j := by simpa using hn
  rcases hn with rfl | rfl
  · exact key _ _ ho h
  · exact key _ _ ho' h'

def tailB (ops : Array Oper) (M : List Nat) : List Nat → List Nat → Bool
  | D, [] => Region.ready .any ops (mark ops.size D) == []
  | D, i :: T => (M.contains i && oneB ops D i) && tailB ops M (D ++ [i]) T
theorem wpU_tail {l : List Oper} : ∀ (T D : List Nat) (os : List Oper) (a : Act) (w : World), pick l T = some os → tailB l.toArray M D T = true → wpList P l.toArray Q os a w → wpU P l.toArray Q S M D a w
  | [], D, os, a, w, hp, hB, h => by
    obtain rfl := Option.some.inj hp
    unfold tailB at hB
    have hr : Region.ready .any l.toArray (mark l.toArray.size D) = [] := by simpa using hB
    unfold wpU
    cases l.toArray.size - D.length with
    | zero => exact ⟨hr, h⟩
    | succ n => exact ⟨fun _ => h, by rw [hr]; simp⟩
  | i :: T, D, os, a, w, hp, hB, h => by
    obtain ⟨o, os', h1, h2, rfl⟩ := pick_cons hp
    unfold tailB at hB
    simp only [Bool.and_eq_true] at hB
    obtain ⟨⟨hM, hO⟩, hT⟩ := hB
    have hM : i ∈ M := by simpa using hM
    refine wpU_one i h1 hO ?_
    unfold wpList at h ⊢
    split
    · rename_i hw
      rw [if_pos hw] at h
      rcases h with h | h
      · refine .inl ?_
        have h3 := Oper.wp_mono (K' := wpList P l.toArray (HardPost P l.toArray Q S M D i) []) (fun a w hk => ⟨.inl hM, wpU_tail T (D ++ [i]) os' a w h2 hT hk⟩) h
        unfold Oper.wp at h3 ⊢
        generalize (execOp a.eval o).run P w = r at *
        cases r with
        | ok n w' => cases n <;> simp only [Oper.upon] at h3 ⊢ <;> exact h3
        | halt x w' => cases x <;> simp only [Oper.upon] at h3 ⊢ <;> exact h3
      · exact .inr h
    · rename_i hw
      rw [if_neg hw] at h
      exact ⟨.inl hM, wpU_tail T (D ++ [i]) os' _ w h2 hT h⟩

/-- The beginning: the world behind the draw is a letter. -/
theorem wp_region_u {l : List Oper} {id : Nat} {a : Act} {w : World} (M : List Nat) (S : World → World → Prop) (hm : P.follows .mixedOrders = true)
    (h : ∀ wd, Below w.heap.size w wd → wpU P l.toArray (NoPanic Q) (S wd) M [] a wd) : (Code.region id l.toArray true).wp P Q a w := by
  refine wp_region_noPanic (wp_region_any hm ?_)
  have := h w.drew (belD belR)
  exact wpAny_of_u _ _ _ _ (by simpa [wpU, mark] using this)

end
end Go.Proofs.Yteajhmpppciicaa
