/-
  RecFam: Records, Compare, IsStore, Plain, Plain2, in one text.
-/
import Derived.Lib.Bytealg
import Derived.Laws.Externs
import Derived.Test.YteajhmpppciicaaKeys
import Derived.Test.YteajhmpppciicaaTFam
import Derived.Test.YteajhmpppciicaaBase
import Derived.Test.YteajhmpppciicaaEqFam

/-
  IsRecord.
-/
namespace Go.Proofs.Yteajhmpppciicaa
open Go.RowKit

theorem bl_total : ∀ (x y : List UInt8), (Op.bytesLess x y || x == y) = !(Op.bytesLess y x)
  | [], [] => rfl
  | [], _ :: _ => rfl
  | _ :: _, [] => rfl
  | a :: x, b :: y => by
    have ih := bl_total x y
    simp only [Op.bytesLess]
    rcases Nat.lt_trichotomy a.toNat b.toNat with h | h | h
    · have h1 : decide (a < b) = true := decide_eq_true (UInt8.lt_iff_toNat_lt.2 h)
      have h2 : decide (b < a) = false := decide_eq_false (fun g => by have := UInt8.lt_iff_toNat_lt.1 g; omega)
      have h3 : (b == a) = false := by simp only [beq_eq_false_iff_ne]; intro e; subst e; omega
      rw [h1, h2, h3]; rfl
    · have e : a = b := UInt8.toNat_inj.1 h
      subst e
      have h1 : decide (a < a) = false := decide_eq_false (fun g => by have := UInt8.lt_iff_toNat_lt.1 g; omega)
      have h2 : (a == a) = true := by simp
      have h3 : (a :: x == a :: y) = (x == y) := by rw [List.cons_beq_cons, h2, Bool.true_and]
      rw [h1, h2, h3, Bool.false_or, Bool.true_and, Bool.false_or, Bool.true_and]
      exact ih
    · have h1 : decide (a < b) = false := decide_eq_false (fun g => by have := UInt8.lt_iff_toNat_lt.1 g; omega)
      have h2 : decide (b < a) = true := decide_eq_true (UInt8.lt_iff_toNat_lt.2 h)
      have h3 : (a == b) = false := by simp only [beq_eq_false_iff_ne]; intro e; subst e; omega
      have h4 : (a :: x == b :: y) = false := by rw [List.cons_beq_cons, h3, Bool.false_and]
      rw [h1, h2, h3, h4]; rfl

theorem slice_at' {α : Type} {E : TypeId} {R : Rep α} {w : World} {b off n cap : Nat} {l : List α} (h : Reads (Rep.slice E R) w [.slice (some ⟨b, off, none⟩) n cap] l) (i : Nat) (hi : i < l.length) :
    ∃ cs, b < w.heap.size ∧ Reads R w cs l[i] ∧ ∀ j, j < R.n → w.cell? ⟨b, off + i * R.n + j, none⟩ = cs[j]? := by
  obtain ⟨b', off', cs, he, h1, h2, h3⟩ := slice_at h i hi
  simp only [Option.some.injEq, Addr.mk.injEq, and_true] at he
  obtain ⟨rfl, rfl⟩ := he
  exact ⟨cs, h1, h2, h3⟩
def recBad (l : List DField) (i : Nat) : Bool := match l[i]?, l[i - 1]? with | some f, some g => !(Op.bytesLess g.name.toList f.name.toList) | _, _ => false
def recOk (x : DRecord) (i : Nat) : Bool := match x.fields[i]? with | none => true | some f => isWordF f.name 8 false && (within f.n 0 1000000000 && !(decide (0 < i) && recBad x.fields i))
def isRecordF (x : DRecord) : Bool := (List.range x.fields.length).all (recOk x) && decide (x.fields.length ≤ 6)
theorem recBad_at {l : List DField} {i : Nat} (hi : i < l.length) : recBad l i = !(Op.bytesLess l[i - 1].name.toList l[i].name.toList) := by
  unfold recBad; rw [List.getElem?_eq_getElem hi, List.getElem?_eq_getElem (show i - 1 < l.length by omega)]
theorem recOk_at {x : DRecord} {i : Nat} (hi : i < x.fields.length) : recOk x i = (isWordF x.fields[i].name 8 false && (within x.fields[i].n 0 1000000000 && !(decide (0 < i) && recBad x.fields i))) := by
  unfold recOk; rw [List.getElem?_eq_getElem hi]
theorem record_no {x : DRecord} {i : Nat} (hi : i < x.fields.length) (h : recOk x i = false) : isRecordF x = false := by
  have : (List.range x.fields.length).all (recOk x) = false := List.all_eq_false.2 ⟨i, List.mem_range.2 hi, by rw [h]; simp⟩
  rw [isRecordF, this, Bool.false_and]
theorem record_yes {x : DRecord} {k : Nat} (hk : ¬ k < x.fields.length) (h : ∀ i, i < k → recOk x i = true) : isRecordF x = decide (x.fields.length ≤ 6) := by
  have : (List.range x.fields.length).all (recOk x) = true := List.all_eq_true.2 fun i hi => h i (by have := List.mem_range.1 hi; omega)
  rw [isRecordF, this, Bool.true_and]
theorem all_snoc {p : Nat → Bool} {k : Nat} (h : ∀ i, i < k → p i = true) (hk : p k = true) : ∀ i, i < k + 1 → p i = true := by
  intro i hi
  by_cases e : i = k
  · subst e; exact hk
  · exact h i (by omega)
attribute [irreducible] recOk recBad

end Go.Proofs.Yteajhmpppciicaa


/-
  CompareKeys.
-/
namespace Go.Proofs.Yteajhmpppciicaa
open Go.RowKit

def cmpI (a b : Int) : Int := if a < b then -1 else if b < a then 1 else 0
def cmpL (x y : List UInt8) : Int := if Op.bytesLess x y then -1 else if Op.bytesLess y x then 1 else 0
theorem cmpL_eq : ∀ (x y : List UInt8), Go.Lib.compareBytes x y = cmpL x y
  | [], [] => rfl
  | [], _ :: _ => rfl
  | _ :: _, [] => rfl
  | a :: x, b :: y => by
    have ih := cmpL_eq x y
    unfold Go.Lib.compareBytes
    unfold cmpL at ih ⊢
    simp only [Op.bytesLess]
    rcases Nat.lt_trichotomy a.toNat b.toNat with h | h | h
    · have h1 : a < b := UInt8.lt_iff_toNat_lt.2 h
      simp [h1]
    · have e : a = b := UInt8.toNat_inj.1 h
      subst e
      have h1 : ¬ a < a := fun g => by have := UInt8.lt_iff_toNat_lt.1 g; omega
      simp [h1, ih]
    · have h1 : ¬ a < b := fun g => by have := UInt8.lt_iff_toNat_lt.1 g; omega
      have h2 : b < a := UInt8.lt_iff_toNat_lt.2 h
      have h3 : (a == b) = false := by simp only [beq_eq_false_iff_ne]; intro e; subst e; omega
      simp [h1, h2, h3]
def cmpS (a b : ByteArray) : Int := cmpL a.toList b.toList
def cmpKeysF (a b : DKey) : Int := if isKeyF a && isKeyF b then (if a.kind != b.kind then cmpI a.kind b.kind else if a.n != b.n then cmpI a.n b.n else cmpS a.text b.text) else 0

def signF (a b : Bool) : Int := match a, b with | true, _ => -1 | false, true => 1 | false, false => 0
theorem sign_int {a b : Int} (h : (a != b) = true) : signF (decide (a < b)) true = cmpI a b := by
  have h0 : a ≠ b := by simpa using h
  unfold cmpI signF
  by_cases h1 : a < b
  · rw [decide_eq_true h1, if_pos h1]
  · rw [decide_eq_false h1, if_neg h1, if_pos (by omega)]
theorem sign_str (a b : ByteArray) : signF (Op.bytesLess a.toList b.toList) (Op.bytesLess b.toList a.toList) = cmpS a b := by
  unfold cmpS cmpL signF
  cases Op.bytesLess a.toList b.toList <;> cases Op.bytesLess b.toList a.toList <;> rfl
attribute [irreducible] signF
theorem signF_at : signF true false = -1 ∧ signF true true = -1 ∧ signF false true = 1 ∧ signF false false = 0 := by unfold signF; exact ⟨rfl, rfl, rfl, rfl⟩

theorem gt_bl (a b : ByteArray) : (!(Op.bytesLess a.toList b.toList || a.toList == b.toList)) = Op.bytesLess b.toList a.toList := by rw [bl_total, Bool.not_not]


end Go.Proofs.Yteajhmpppciicaa


/-
  IsStore.
-/
namespace Go.Proofs.Yteajhmpppciicaa
open Go.RowKit

def itemBad (l : List DItem) (i : Nat) : Bool := match l[i]?, l[i - 1]? with | some f, some g => decide (0 ≤ cmpKeysF g.key f.key) | _, _ => false
def itemOk (x : DStore) (i : Nat) : Bool := match x.items[i]? with | none => true | some f => isKeyF f.key && (isRecordF f.record && !(decide (0 < i) && itemBad x.items i))
def isStoreF (x : DStore) : Bool := (List.range x.items.length).all (itemOk x) && (isWordF x.name 8 false && (decide (x.items.length ≤ 16) && within x.auto 0 1000000))
theorem itemBad_at {l : List DItem} {i : Nat} (hi : i < l.length) : itemBad l i = decide (0 ≤ cmpKeysF l[i - 1].key l[i].key) := by
  unfold itemBad; rw [List.getElem?_eq_getElem hi, List.getElem?_eq_getElem (show i - 1 < l.length by omega)]
theorem itemOk_at {x : DStore} {i : Nat} (hi : i < x.items.length) : itemOk x i = (isKeyF x.items[i].key && (isRecordF x.items[i].record && !(decide (0 < i) && itemBad x.items i))) := by
  unfold itemOk; rw [List.getElem?_eq_getElem hi]
theorem store_no {x : DStore} {i : Nat} (hi : i < x.items.length) (h : itemOk x i = false) : isStoreF x = false := by
  have : (List.range x.items.length).all (itemOk x) = false := List.all_eq_false.2 ⟨i, List.mem_range.2 hi, by rw [h]; simp⟩
  rw [isStoreF, this, Bool.false_and]
theorem store_yes {x : DStore} {k : Nat} (hk : ¬ k < x.items.length) (h : ∀ i, i < k → itemOk x i = true) : isStoreF x = (isWordF x.name 8 false && (decide (x.items.length ≤ 16) && within x.auto 0 1000000)) := by
  have : (List.range x.items.length).all (itemOk x) = true := List.all_eq_true.2 fun i hi => h i (by have := List.mem_range.1 hi; omega)
  rw [isStoreF, this, Bool.true_and]
attribute [irreducible] itemOk itemBad
attribute [local irreducible] cmpKeysF

end Go.Proofs.Yteajhmpppciicaa


/-
  Plain laws of records and stores: a field set, an item put, by the program's road and by the reference's. No function of the program is named here.
-/
namespace Go.Proofs.Yteajhmpppciicaa
open Go.RowKit

/-- How many leading elements p holds of. -/
def lead {α : Type} (p : α → Bool) : List α → Nat
  | [] => 0
  | x :: l => if p x then lead p l + 1 else 0
def insAt {α : Type} (l : List α) (k : Nat) (x : α) : List α := l.take k ++ x :: l.drop k
theorem lead_le {α : Type} (p : α → Bool) : ∀ (l : List α), lead p l ≤ l.length
  | [] => Nat.le_refl _
  | x :: l => by have := lead_le p l; unfold lead; split <;> simp <;> omega
theorem lead_lo {α : Type} (p : α → Bool) : ∀ (l : List α) (j : Nat) (hj : j < l.length), j < lead p l → p l[j] = true
  | [], _, hj, _ => by simp at hj
  | x :: l, 0, _, h => by
    unfold lead at h
    split at h
    · assumption
    · omega
  | x :: l, j + 1, hj, h => by
    unfold lead at h
    split at h
    · exact lead_lo p l j (by simpa using hj) (by omega)
    · omega
theorem lead_hi {α : Type} (p : α → Bool) : ∀ (l : List α) (h : lead p l < l.length), p l[lead p l] = false
  | [], h => by simp at h
  | x :: l, h => by
    by_cases hx : p x = true
    · have e : lead p (x :: l) = lead p l + 1 := by rw [lead, if_pos hx]
      have h' : lead p l < l.length := by rw [e] at h; simpa using h
      have := lead_hi p l h'
      simp only [e, List.getElem_cons_succ]; exact this
    · have e : lead p (x :: l) = 0 := by rw [lead, if_neg hx]
      simp only [e, List.getElem_cons_zero]; simpa using hx
theorem lead_eq {α : Type} {p : α → Bool} {l : List α} {k : Nat} (hk : k ≤ l.length) (hlo : ∀ j, (hj : j < l.length) → j < k → p l[j] = true) (hhi : ∀ h : k < l.length, p l[k] = false) : lead p l = k := by
  rcases Nat.lt_trichotomy (lead p l) k with h | h | h
  · have h1 := lead_hi p l (by omega)
    rw [hlo _ (by omega) h] at h1; cases h1
  · exact h
  · have hl := lead_le p l
    have h1 := lead_lo p l k (by omega) h
    rw [hhi (by omega)] at h1; cases h1
theorem insAt_length {α : Type} {l : List α} {k : Nat} (hk : k ≤ l.length) (x : α) : (insAt l k x).length = l.length + 1 := by
  unfold insAt; simp; omega
theorem insAt_lo {α : Type} {l : List α} {k j : Nat} (x : α) (hk : k ≤ l.length) (hj : j < k) : (insAt l k x)[j]? = l[j]? := by
  unfold insAt
  rw [List.getElem?_append_left (by simp; omega), List.getElem?_take_of_lt hj]
theorem insAt_at {α : Type} {l : List α} {k : Nat} (x : α) (hk : k ≤ l.length) : (insAt l k x)[k]? = some x := by
  unfold insAt
  rw [List.getElem?_append_right (by simp; omega)]
  simp [Nat.min_eq_left hk]
theorem insAt_hi {α : Type} {l : List α} {k j : Nat} (x : α) (hk : k ≤ l.length) (hj : k < j) : (insAt l k x)[j]? = l[j - 1]? := by
  unfold insAt
  rw [List.getElem?_append_right (by simp; omega)]
  have e : j - (l.take k).length = (j - k - 1) + 1 := by simp [Nat.min_eq_left hk]; omega
  rw [e, List.getElem?_cons_succ, List.getElem?_drop]
  congr 1; omega

theorem bl_irr (x : List UInt8) : Op.bytesLess x x = false := by
  have h := bl_total x x
  have e : (x == x) = true := by simp
  rw [e, Bool.or_true] at h
  cases hx : Op.bytesLess x x
  · rfl
  · rw [hx] at h; cases h
theorem bl_trans : ∀ (x y z : List UInt8), Op.bytesLess x y = true → Op.bytesLess y z = true → Op.bytesLess x z = true
  | [], [], _, h, _ => by simp [Op.bytesLess] at h
  | [], _ :: _, [], _, h => by simp [Op.bytesLess] at h
  | [], _ :: _, _ :: _, _, _ => rfl
  | _ :: _, [], _, h, _ => by simp [Op.bytesLess] at h
  | _ :: _, _ :: _, [], _, h => by simp [Op.bytesLess] at h
  | a :: x, b :: y, c :: z, h1, h2 => by
    have ih := bl_trans x y z
    simp only [Op.bytesLess, Bool.or_eq_true, decide_eq_true_eq, Bool.and_eq_true, beq_iff_eq] at h1 h2 ⊢
    rcases h1 with h1 | ⟨rfl, h1⟩
    · rcases h2 with h2 | ⟨rfl, h2⟩
      · exact .inl (UInt8.lt_trans h1 h2)
      · exact .inl h1
    · rcases h2 with h2 | ⟨rfl, h2⟩
      · exact .inl h2
      · exact .inr ⟨rfl, ih h1 h2⟩

/-! ### Records -/

def namedAs (name : ByteArray) (f : DField) : Bool := f.name.toList == name.toList
def fieldLess (name : ByteArray) (f : DField) : Bool := Op.bytesLess f.name.toList name.toList
def putField (r : DRecord) (n : Int) (i : Nat) : DRecord := match r.fields[i]? with | some f => ⟨r.fields.set i ⟨f.name, n⟩⟩ | none => r
def insField (r : DRecord) (name : ByteArray) (n : Int) : DRecord := ⟨insAt r.fields (lead (fieldLess name) r.fields) ⟨name, n⟩⟩
/-- The program's road. -/
def setFieldI (r : DRecord) (name : ByteArray) (n : Int) : DRecord := match r.fields.findIdx? (namedAs name) with | some i => putField r n i | none => insField r name n
/-- The reference's. -/
def setFieldS (r : DRecord) (name : ByteArray) (n : Int) : DRecord := match r.fields[lead (fieldLess name) r.fields]? with | some f => if namedAs name f then putField r n (lead (fieldLess name) r.fields) else insField r name n | none => insField r name n
def setFieldB (r : DRecord) (name : ByteArray) (n : Int) : Bool := isRecordF r && isRecordF (setFieldI r name n)
def setFieldF (r : DRecord) (name : ByteArray) (n : Int) : DRecord := if setFieldB r name n then setFieldI r name n else r

theorem record_sorted {r : DRecord} (h : isRecordF r = true) : ∀ (i j : Nat) (hj : j < r.fields.length) (hij : i < j), Op.bytesLess (r.fields[i]'(by omega)).name.toList r.fields[j].name.toList = true := by
  rw [isRecordF, Bool.and_eq_true, List.all_eq_true] at h
  have hn : ∀ j, (hj : j + 1 < r.fields.length) → Op.bytesLess (r.fields[j]'(by omega)).name.toList r.fields[j + 1].name.toList = true := by
    intro j hj
    have h1 := h.1 (j + 1) (List.mem_range.2 hj)
    rw [recOk_at hj] at h1
    simp only [Bool.and_eq_true, Bool.not_eq_true', Bool.and_eq_false_iff, decide_eq_false_iff_not] at h1
    rcases h1.2.2 with h2 | h2
    · omega
    · rw [recBad_at hj] at h2
      simpa using h2
  intro i j hj hij
  obtain ⟨d, rfl⟩ : ∃ d, j = i + d + 1 := ⟨j - i - 1, by omega⟩
  induction d with
  | zero => exact hn i hj
  | succ d ih => exact bl_trans _ _ _ (ih (by omega) (by omega)) (hn (i + d + 1) hj)

theorem setField_same {r : DRecord} (name : ByteArray) (n : Int) (h : isRecordF r = true) : setFieldS r name n = setFieldI r name n := by
  unfold setFieldS setFieldI
  rcases hf : r.fields.findIdx? (namedAs name) with _ | i
  · rw [List.findIdx?_eq_none_iff] at hf
    rcases hg : r.fields[lead (fieldLess name) r.fields]? with _ | f
    · rfl
    · have hm := List.mem_of_getElem? hg
      simp only [hf f hm, Bool.false_eq_true, if_false]
  · obtain ⟨hi, h1, h2⟩ := List.findIdx?_eq_some_iff_getElem.1 hf
    have e : lead (fieldLess name) r.fields = i := by
      refine lead_eq (by omega) (fun j hj hji => ?_) fun hi' => ?_
      · have h3 := record_sorted h j i hi hji
        unfold namedAs at h1
        rw [beq_iff_eq.1 h1] at h3
        exact h3
      · unfold namedAs at h1
        unfold fieldLess
        rw [beq_iff_eq.1 h1]
        exact bl_irr _
    rw [e, List.getElem?_eq_getElem hi]
    simp only [h1, if_true]

/-! ### Stores -/

def keyIs (k : DKey) (x : DItem) : Bool := decide (x.key = k)
def itemLess (k : DKey) (x : DItem) : Bool := decide (cmpKeysF x.key k < 0)
def autoOf (a : Int) (k : DKey) : Int := if k.kind = 1 ∧ a < k.n ∧ k.n ≤ 1000000 then k.n else a
def putAt (s : DStore) (r : DRecord) (i : Nat) : DStore := match s.items[i]? with | some x => ⟨s.name, s.items.set i ⟨x.key, r⟩, s.auto⟩ | none => s
def putNew (s : DStore) (k : DKey) (r : DRecord) : DStore := ⟨s.name, insAt s.items (lead (itemLess k) s.items) ⟨k, r⟩, autoOf s.auto k⟩
def putOut (s : DStore) (k : DKey) (r : DRecord) : DStore := match s.items.findIdx? (keyIs k) with | some i => putAt s r i | none => putNew s k r
def putItemB (s : DStore) (k : DKey) (r : DRecord) : Bool := isStoreF s && (isKeyF k && isStoreF (putOut s k r))
def putItemF (s : DStore) (k : DKey) (r : DRecord) : DStore := if putItemB s k r then putOut s k r else s
/-- What the reference asks. -/
def putItemS (s : DStore) (k : DKey) (r : DRecord) : Bool := isStoreF s && (isKeyF k && (isRecordF r && ((s.items.findIdx? (keyIs k)).isSome || decide (s.items.length < 16))))

theorem store_iff {x : DStore} : isStoreF x = true ↔ (∀ i, (hi : i < x.items.length) → isKeyF x.items[i].key = true ∧ isRecordF x.items[i].record = true) ∧ (∀ i, (hi : i + 1 < x.items.length) → cmpKeysF (x.items[i]'(by omega)).key x.items[i + 1].key < 0) ∧ isWordF x.name 8 false = true ∧ x.items.length ≤ 16 ∧ within x.auto 0 1000000 = true := by
  rw [isStoreF, Bool.and_eq_true, List.all_eq_true, Bool.and_eq_true, Bool.and_eq_true, decide_eq_true_eq]
  constructor
  · rintro ⟨h1, h2, h3, h4⟩
    refine ⟨fun i hi => ?_, fun i hi => ?_, h2, h3, h4⟩
    · have := h1 i (List.mem_range.2 hi)
      rw [itemOk_at hi] at this
      simp only [Bool.and_eq_true] at this
      exact ⟨this.1, this.2.1⟩
    · have := h1 (i + 1) (List.mem_range.2 hi)
      rw [itemOk_at hi, itemBad_at hi] at this
      simp only [Bool.and_eq_true, Bool.not_eq_true', Bool.and_eq_false_iff, decide_eq_false_iff_not, Nat.add_sub_cancel] at this
      rcases this.2.2 with h | h <;> omega
  · rintro ⟨h1, h2, h3, h4, h5⟩
    refine ⟨fun i hi => ?_, h3, h4, h5⟩
    have hi := List.mem_range.1 hi
    rw [itemOk_at hi, itemBad_at hi]
    obtain ⟨k1, k2⟩ := h1 i hi
    rw [k1, k2, Bool.true_and, Bool.true_and]
    rcases i with _ | i
    · rfl
    · have := h2 i hi
      simp only [Nat.add_sub_cancel, Bool.not_eq_true', Bool.and_eq_false_iff, decide_eq_false_iff_not]
      right; omega

theorem cmpI_turn {a b : Int} (h : a ≠ b) (h1 : ¬ cmpI a b < 0) : cmpI b a < 0 := by
  unfold cmpI at *
  split at h1 <;> split <;> omega
theorem cmpL_turn {a b : List UInt8} (h : a ≠ b) (h1 : ¬ cmpL a b < 0) : cmpL b a < 0 := by
  unfold cmpL at *
  have ht := bl_total a b
  cases ha : Op.bytesLess a b
  · have e : (a == b) = false := beq_eq_false_iff_ne.2 h
    rw [ha, e] at ht
    have hb : Op.bytesLess b a = true := by
      cases hb : Op.bytesLess b a
      · rw [hb] at ht; cases ht
      · rfl
    rw [if_pos hb]; decide
  · rw [ha, if_pos rfl] at h1
    exact absurd (show (-1 : Int) < 0 by decide) h1
theorem key_turn {a b : DKey} (ha : isKeyF a = true) (hb : isKeyF b = true) (h : a ≠ b) (h1 : ¬ cmpKeysF a b < 0) : cmpKeysF b a < 0 := by
  unfold cmpKeysF at *
  simp only [ha, hb, Bool.and_self, if_true] at h1 ⊢
  by_cases e1 : a.kind = b.kind
  · by_cases e2 : a.n = b.n
    · have e3 : a.text.toList ≠ b.text.toList := fun e => h (DKey.eq_iff a b |>.2 ⟨e1, e2, e⟩)
      simp only [e1, e2, bne_self_eq_false, Bool.false_eq_true, if_false] at h1 ⊢
      exact cmpL_turn e3 h1
    · have e2' : (a.n != b.n) = true := bne_iff_ne.2 e2
      have e2'' : (b.n != a.n) = true := bne_iff_ne.2 (Ne.symm e2)
      simp only [e1, e2', e2'', bne_self_eq_false, Bool.false_eq_true, if_false, if_true] at h1 ⊢
      exact cmpI_turn e2 h1
  · have e1' : (a.kind != b.kind) = true := bne_iff_ne.2 e1
    have e1'' : (b.kind != a.kind) = true := bne_iff_ne.2 (Ne.symm e1)
    simp only [e1', e1'', if_true] at h1 ⊢
    exact cmpI_turn e1 h1

theorem putAt_store {s : DStore} {r : DRecord} {i : Nat} (hs : isStoreF s = true) (hi : i < s.items.length) : isStoreF (putAt s r i) = isRecordF r := by
  obtain ⟨h1, h2, h3, h4, h5⟩ := store_iff.1 hs
  have e : putAt s r i = ⟨s.name, s.items.set i ⟨s.items[i].key, r⟩, s.auto⟩ := by unfold putAt; rw [List.getElem?_eq_getElem hi]
  have hk : ∀ j, (hj : j < s.items.length) → ((s.items.set i ⟨s.items[i].key, r⟩)[j]'(by simpa using hj)).key = s.items[j].key := by
    intro j hj
    rw [List.getElem_set]
    by_cases hij : i = j
    · subst hij; simp
    · simp [hij]
  rw [e, Bool.eq_iff_iff, store_iff]
  constructor
  · rintro ⟨k1, _⟩
    have := (k1 i (by simpa using hi)).2
    simpa using this
  · intro hr
    refine ⟨fun j hj => ?_, fun j hj => ?_, h3, by simpa using h4, h5⟩
    · have hj' : j < s.items.length := by simpa using hj
      refine ⟨by rw [hk j hj']; exact (h1 j hj').1, ?_⟩
      simp only [List.getElem_set]
      by_cases hij : i = j
      · subst hij; simpa using hr
      · simpa [hij] using (h1 j hj').2
    · have hj' : j + 1 < s.items.length := by simpa using hj
      rw [hk j (by omega), hk (j + 1) hj']
      exact h2 j hj'

theorem putNew_store {s : DStore} {k : DKey} {r : DRecord} (hs : isStoreF s = true) (hk : isKeyF k = true) (hno : ∀ x ∈ s.items, keyIs k x = false) : isStoreF (putNew s k r) = (isRecordF r && decide (s.items.length < 16)) := by
  obtain ⟨h1, h2, h3, h4, h5⟩ := store_iff.1 hs
  have hle := lead_le (itemLess k) s.items
  have hlo := lead_lo (itemLess k) s.items
  have hhi := lead_hi (itemLess k) s.items
  unfold putNew
  generalize lead (itemLess k) s.items = t at hle hlo hhi
  have hlen := insAt_length hle (⟨k, r⟩ : DItem)
  have g1 : ∀ j, (hj : j < t) → (insAt s.items t (⟨k, r⟩ : DItem))[j]'(by omega) = s.items[j]'(by omega) := by
    intro j hj
    have := insAt_lo (⟨k, r⟩ : DItem) hle hj
    rw [List.getElem?_eq_getElem (by omega), List.getElem?_eq_getElem (by omega)] at this
    exact Option.some.inj this
  have g2 : (insAt s.items t (⟨k, r⟩ : DItem))[t]'(by omega) = ⟨k, r⟩ := by
    have := insAt_at (⟨k, r⟩ : DItem) hle
    rw [List.getElem?_eq_getElem (by omega)] at this
    exact Option.some.inj this
  have g3 : ∀ j, (hj : t ≤ j) → (h : j < s.items.length) → (insAt s.items t (⟨k, r⟩ : DItem))[j + 1]'(by omega) = s.items[j]'h := by
    intro j hj h
    have := insAt_hi (j := j + 1) (⟨k, r⟩ : DItem) hle (by omega)
    rw [List.getElem?_eq_getElem (by omega), List.getElem?_eq_getElem (by omega)] at this
    exact Option.some.inj this
  rw [Bool.eq_iff_iff, store_iff, Bool.and_eq_true, decide_eq_true_eq]
  simp only
  constructor
  · rintro ⟨k1, _, _, k4, _⟩
    refine ⟨?_, by omega⟩
    have := (k1 t (by omega)).2
    rw [g2] at this; exact this
  · rintro ⟨hr, h16⟩
    refine ⟨fun j hj => ?_, fun j hj => ?_, h3, by omega, ?_⟩
    · rcases Nat.lt_trichotomy j t with h | rfl | h
      · rw [g1 j h]; exact h1 j (by omega)
      · rw [g2]; exact ⟨hk, hr⟩
      · obtain ⟨j, rfl⟩ : ∃ i, j = i + 1 := ⟨j - 1, by omega⟩
        rw [g3 j (by omega) (by omega)]; exact h1 j (by omega)
    · rcases Nat.lt_trichotomy (j + 1) t with h | h | h
      · rw [g1 j (by omega), g1 (j + 1) h]; exact h2 j (by omega)
      · subst h
        rw [g1 j (by omega), g2]
        have := hlo j (by omega) (by omega)
        unfold itemLess at this
        exact of_decide_eq_true this
      · rcases Nat.lt_or_eq_of_le (show t ≤ j by omega) with h' | rfl
        · obtain ⟨j, rfl⟩ : ∃ i, j = i + 1 := ⟨j - 1, by omega⟩
          rw [g3 j (by omega) (by omega), g3 (j + 1) (by omega) (by omega)]; exact h2 j (by omega)
        · rw [g2, g3 t (Nat.le_refl _) (by omega)]
          have hx := hhi (by omega)
          have hn := hno _ (List.getElem_mem (show t < s.items.length by omega))
          unfold itemLess at hx
          unfold keyIs at hn
          exact key_turn (h1 t (by omega)).1 hk (of_decide_eq_false hn) (of_decide_eq_false hx)
    · unfold autoOf
      unfold within at *
      simp only [Bool.and_eq_true, decide_eq_true_eq] at *
      split <;> omega

theorem putItem_same (s : DStore) (k : DKey) (r : DRecord) : putItemS s k r = putItemB s k r := by
  unfold putItemS putItemB
  cases hs : isStoreF s
  · rfl
  cases hk : isKeyF k
  · rfl
  simp only [Bool.true_and]
  unfold putOut
  rcases hf : s.items.findIdx? (keyIs k) with _ | i
  · rw [List.findIdx?_eq_none_iff] at hf
    rw [putNew_store hs hk hf]; rfl
  · obtain ⟨hi, _, _⟩ := List.findIdx?_eq_some_iff_getElem.1 hf
    simp only [putAt_store hs hi, Option.isSome_some, Bool.true_or, Bool.and_true]

end Go.Proofs.Yteajhmpppciicaa


/-
  Plain laws of an item's field, of a list of writes applied to a store. No function of the program is named here.
-/
namespace Go.Proofs.Yteajhmpppciicaa
open Go.RowKit

def noRecord : DRecord := ⟨[]⟩
def itemRec (s : DStore) (k : DKey) : DRecord := ((s.items.find? (keyIs k)).map (·.record)).getD noRecord
theorem itemRec_none {s : DStore} {k : DKey} (h : ∀ j, (hj : j < s.items.length) → keyIs k s.items[j] = false) : itemRec s k = noRecord := by
  unfold itemRec
  rw [List.find?_eq_none.2 (fun y hy => by obtain ⟨j, hj, rfl⟩ := List.getElem_of_mem hy; rw [h j hj]; simp)]
  rfl
theorem itemRec_hit {s : DStore} {k : DKey} {i : Nat} (hi : i < s.items.length) (hp : keyIs k s.items[i] = true) (h : ∀ j, (hj : j < s.items.length) → j < i → keyIs k s.items[j] = false) : itemRec s k = s.items[i].record := by
  unfold itemRec
  have : s.items.find? (keyIs k) = some s.items[i] := List.find?_eq_some_iff_getElem.2 ⟨hp, i, hi, rfl, fun j hj => by rw [h j (by omega) hj]; rfl⟩
  rw [this]; rfl
def setItemR (s : DStore) (x : DWrite) : DRecord := setFieldI (itemRec s x.key) x.field x.n
def setItemB (s : DStore) (x : DWrite) : Bool := setFieldB (itemRec s x.key) x.field x.n && putItemB s x.key (setItemR s x)
def setItemF (s : DStore) (x : DWrite) : DStore := if setItemB s x then putOut s x.key (setItemR s x) else s
def appliedF (s : DStore) (l : List DWrite) : DStore := l.foldl setItemF s
theorem appliedF_succ {s : DStore} {l : List DWrite} {k : Nat} (h : k < l.length) : appliedF s (l.take (k + 1)) = setItemF (appliedF s (l.take k)) l[k] := by
  unfold appliedF; rw [List.take_succ_eq_append_getElem h, List.foldl_append]; rfl
theorem appliedF_all {s : DStore} {l : List DWrite} {k : Nat} (h : ¬ k < l.length) : appliedF s (l.take k) = appliedF s l := by
  rw [List.take_of_length_le (by omega)]

/-- What a store holds in its slices. -/
structure SmallStore (s : DStore) : Prop where
  items : s.items.length ≤ 1048600
  fields : ∀ x ∈ s.items, x.record.fields.length ≤ 1048600
  total : (s.items.map fun x => x.record.fields.length).sum ≤ 1048600

theorem isRecord_len {r : DRecord} (h : isRecordF r = true) : r.fields.length ≤ 6 := by
  rw [isRecordF, Bool.and_eq_true, decide_eq_true_eq] at h
  exact h.2
theorem sum_le_mul {α : Type} (f : α → Nat) (c : Nat) : ∀ (l : List α), (∀ x ∈ l, f x ≤ c) → (l.map f).sum ≤ c * l.length
  | [], _ => by simp
  | x :: l, h => by
    have h1 := sum_le_mul f c l fun y hy => h y (by simp [hy])
    have h2 := h x (by simp)
    simp only [List.map_cons, List.sum_cons, List.length_cons, Nat.mul_add, Nat.mul_one]
    omega
theorem SmallStore.of_store {s : DStore} (h : isStoreF s = true) : SmallStore s := by
  obtain ⟨h1, _, _, h4, _⟩ := store_iff.1 h
  have hf : ∀ x ∈ s.items, x.record.fields.length ≤ 6 := fun x hx => by
    obtain ⟨j, hj, rfl⟩ := List.getElem_of_mem hx
    exact isRecord_len (h1 j hj).2
  have := sum_le_mul (fun x : DItem => x.record.fields.length) 6 s.items hf
  exact ⟨by omega, fun x hx => by have := hf x hx; omega, by omega⟩
theorem SmallStore.putItem {s : DStore} {k : DKey} {r : DRecord} (h : SmallStore s) : SmallStore (putItemF s k r) := by
  unfold putItemF
  split
  · rename_i hb
    unfold putItemB at hb
    simp only [Bool.and_eq_true] at hb
    exact SmallStore.of_store hb.2.2
  · exact h
theorem SmallStore.setItem {s : DStore} {x : DWrite} (h : SmallStore s) : SmallStore (setItemF s x) := by
  unfold setItemF
  split
  · rename_i hb
    unfold setItemB putItemB at hb
    simp only [Bool.and_eq_true] at hb
    exact SmallStore.of_store hb.2.2.2
  · exact h
theorem SmallStore.applied {s : DStore} (h : SmallStore s) (l : List DWrite) : SmallStore (appliedF s l) := by
  unfold appliedF
  induction l generalizing s with
  | nil => exact h
  | cons x l ih => exact ih h.setItem
theorem setItemF_eq (s : DStore) (x : DWrite) : setItemF s x = if setFieldB (itemRec s x.key) x.field x.n then putItemF s x.key (setFieldF (itemRec s x.key) x.field x.n) else s := by
  unfold setItemF setItemB setItemR putItemF setFieldF
  cases h1 : setFieldB (itemRec s x.key) x.field x.n
  · simp
  · simp only [Bool.true_and, if_true]
theorem itemRec_small {s : DStore} (h : SmallStore s) (k : DKey) : (itemRec s k).fields.length ≤ 1048600 := by
  unfold itemRec
  rcases hf : s.items.find? (keyIs k) with _ | x
  · simp [noRecord]
  · exact h.fields x (List.mem_of_find?_eq_some hf)

end Go.Proofs.Yteajhmpppciicaa
