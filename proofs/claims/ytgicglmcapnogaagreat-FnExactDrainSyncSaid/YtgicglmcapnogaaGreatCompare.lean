/-
  CompareKeys.
-/
import Derived.Test.YtgicglmcapnogaaGreatRecords
import Derived.Lib.Bytealg
import Derived.Laws.Externs
namespace Go.Proofs.YtgicglmcapnogaaGreat
open Go.RowKit

def cmpI (a b : Int) : Int := if a < b then -1 else if b < a then 1 else 0
def cmpL (x y : List UInt8) : Int := if Op.bytesLess x y then -1 else if Op.bytesLess y x then 1 else 0
theorem cmpL_eq : ∀ (x y : List UInt8), Go.Lib.compareBytes x y = cmpL x y
  | [], [] => rfl
  | [], _ :: _ => rfl
  | _ :: _, [] => rfl
  | a :: x, b :: y => by
    have ih := cmpL_eq x y
    unfold Go.Lib.compareBytes
    unfold cmpL at ih ⊢
    simp only [Op.bytesLess]
    rcases Nat.lt_trichotomy a.toNat b.toNat with h | h | h
    · have h1 : a < b := UInt8.lt_iff_toNat_lt.2 h
      simp [h1]
    · have e : a = b := UInt8.toNat_inj.1 h
      subst e
      have h1 : ¬ a < a := fun g => by have := UInt8.lt_iff_toNat_lt.1 g; omega
      simp [h1, ih]
    · have h1 : ¬ a < b := fun g => by have := UInt8.lt_iff_toNat_lt.1 g; omega
      have h2 : b < a := UInt8.lt_iff_toNat_lt.2 h
      have h3 : (a == b) = false := by simp only [beq_eq_false_iff_ne]; intro e; subst e; omega
      simp [h1, h2, h3]
def cmpS (a b : ByteArray) : Int := cmpL a.toList b.toList
def cmpKeysF (a b : DKey) : Int := if isKeyF a && isKeyF b then (if a.kind != b.kind then cmpI a.kind b.kind else if a.n != b.n then cmpI a.n b.n else cmpS a.text b.text) else 0

set_option maxRecDepth 100000 in
set_option maxHeartbeats 400000 in
theorem cmpString (a b : ByteArray) (w : World) : Calls Tryz.prog 150 #[.string a, .string b] w fun e w' => e = .returned (.int .i64 (cmpS a b)) ∧ w = w' := by
  go_enter Tryz.func150, Tryz.ntmps150
  go_wp2
  rw [run_callFunc_extern Tryz.func154 (by kernel_rfl) (by kernel_rfl) (by kernel_rfl) (e := Extern.BytealgCompare.compare) (by kernel_rfl), Go.Lib.run_compareString]
  simp only [Result.andThen]
  rw [Oper.upon_value]
  go_wp2
  go_ret
  exact ⟨ret_int (by rw [cmpL_eq, cmpS, ByteArray.toList_eq, ByteArray.toList_eq]), rfl⟩

set_option maxHeartbeats 400000 in
theorem stringsCompare (a b : ByteArray) (w : World) : Calls Tryz.prog 139 #[.string a, .string b] w fun e w' => e = .returned (.int .i64 (cmpS a b)) ∧ w = w' := by
  go_enter Tryz.func139, Tryz.ntmps139
  go_wp2_with (go_at_call 150; refine (cmpString _ _ _).mono ?_; rintro e w' ⟨rfl, rfl⟩)
  go_ret
  exact ⟨rfl, rfl⟩

set_option maxHeartbeats 400000 in
theorem compareInts (a b : Int) (w : World) : Calls Tryz.prog 138 #[.int .i64 a, .int .i64 b] w fun e w' => e = .returned (.int .i64 (cmpI a b)) ∧ w = w' := by
  have he : Hid (cmpI a b = if a < b then -1 else if b < a then 1 else 0) := Lib.hid rfl
  by_cases h1 : a < b
  · have e := Lib.hid (he.out.trans (if_pos h1))
    go_enter Tryz.func138, Tryz.ntmps138
    go_wp2
    go_ret
    exact ⟨ret_int e.out.symm, rfl⟩
  · by_cases h2 : b < a
    · have e := Lib.hid ((he.out.trans (if_neg h1)).trans (if_pos h2))
      go_enter Tryz.func138, Tryz.ntmps138
      go_wp2
      go_ret
      exact ⟨ret_int e.out.symm, rfl⟩
    · have e := Lib.hid ((he.out.trans (if_neg h1)).trans (if_neg h2))
      go_enter Tryz.func138, Tryz.ntmps138
      go_wp2
      go_ret
      exact ⟨ret_int e.out.symm, rfl⟩

def signF (a b : Bool) : Int := match a, b with | true, _ => -1 | false, true => 1 | false, false => 0
theorem sign_int {a b : Int} (h : (a != b) = true) : signF (decide (a < b)) true = cmpI a b := by
  have h0 : a ≠ b := by simpa using h
  unfold cmpI signF
  by_cases h1 : a < b
  · rw [decide_eq_true h1, if_pos h1]
  · rw [decide_eq_false h1, if_neg h1, if_pos (by omega)]
theorem sign_str (a b : ByteArray) : signF (Op.bytesLess a.toList b.toList) (Op.bytesLess b.toList a.toList) = cmpS a b := by
  unfold cmpS cmpL signF
  cases Op.bytesLess a.toList b.toList <;> cases Op.bytesLess b.toList a.toList <;> rfl
attribute [irreducible] signF
theorem signF_at : signF true false = -1 ∧ signF true true = -1 ∧ signF false true = 1 ∧ signF false false = 0 := by unfold signF; exact ⟨rfl, rfl, rfl, rfl⟩

set_option maxHeartbeats 400000 in
theorem signOf (a b : Bool) (w : World) : Calls Tryz.prog 136 #[.bool a, .bool b] w fun e w' => e = .returned (.int .i64 (signF a b)) ∧ w = w' := by
  have hs := signF_at
  cases a <;> cases b
  all_goals
    go_enter Tryz.func136, Tryz.ntmps136
    go_wp2
    go_ret
    exact ⟨ret_int (by simp only [hs]), rfl⟩

theorem gt_bl (a b : ByteArray) : (!(Op.bytesLess a.toList b.toList || a.toList == b.toList)) = Op.bytesLess b.toList a.toList := by rw [bl_total, Bool.not_not]

set_option maxRecDepth 100000 in
set_option maxHeartbeats 3200000 in
theorem implCompareKeys (cs ds : List Value) (x y : DKey) (w : World) (h : Reads DKey.rep w cs x) (h' : Reads DKey.rep w ds y) :
    Calls Tryz.prog 127 #[.agg cs.toArray, .agg ds.toArray] w fun e w' => e = .returned (.int .i64 (cmpKeysF x y)) ∧ Below w.heap.size w w' := by
  have HX := Lib.hid h
  have HY := Lib.hid h'
  obtain ⟨f1, h⟩ := h
  obtain ⟨rfl, _, s0⟩ := DKey.rd.1 h
  obtain ⟨f2, h'⟩ := h'
  obtain ⟨rfl, _, s1⟩ := DKey.rd.1 h'
  clear h h'
  go_enter Tryz.func127, Tryz.ntmps127
  go_wp2_with fail
  refine (implIsKey _ x _ (HX.out.below (by repeat (first | with_reducible exact belR | with_reducible apply belA | (with_reducible refine belS ?_ ?_; focus (first | omega | (simp; done) | (simp; omega))) | with_reducible apply belN | with_reducible apply belD | with_reducible assumption)))).mono ?_
  rintro e w1 ⟨rfl, hb⟩
  have VX : Hid (WB w1 w.heap.size #[.int .i64 x.kind, .int .i64 x.n, .string x.text]) := Lib.hid ((WB.at rfl).growA.keep hb)
  have VY : Hid (WB w1 (w.heap.size + 1) #[.int .i64 y.kind, .int .i64 y.n, .string y.text]) := Lib.hid ((WB.at (by simp)).keep hb)
  have HB : Hid (Below w.heap.size w w1) := Lib.hid (below_call (by repeat (first | with_reducible exact belR | with_reducible apply belA | (with_reducible refine belS ?_ ?_; focus (first | omega | (simp; done) | (simp; omega))) | with_reducible apply belN | with_reducible apply belD | with_reducible assumption)) (by first | omega | (simp; done) | (simp; omega)) hb)
  clear hb
  have ⟨c_VX, z_VX, f_VX⟩ := VX.out
  have ⟨c_VY, z_VY, f_VY⟩ := VY.out
  cases k1 : isKeyF x
  · have e := Lib.hid (show cmpKeysF x y = 0 by rw [cmpKeysF, k1]; rfl)
    go_wp2
    go_ret
    exact ⟨ret_int e.out.symm, HB.out⟩
  · go_wp2_with fail
    refine (implIsKey _ y _ (HY.out.below HB.out)).mono ?_
    rintro e w2 ⟨rfl, hq⟩
    clear c_VX z_VX f_VX c_VY z_VY f_VY
    replace VX := Lib.hid (VX.out.keep hq)
    replace VY := Lib.hid (VY.out.keep hq)
    replace HB := Lib.hid (HB.out.trans (hq.mono HB.out.size))
    clear hq
    have ⟨c_VX, z_VX, f_VX⟩ := VX.out
    have ⟨c_VY, z_VY, f_VY⟩ := VY.out
    cases k2 : isKeyF y
    · have e := Lib.hid (show cmpKeysF x y = 0 by rw [cmpKeysF, k1, k2]; rfl)
      go_wp2
      go_ret
      exact ⟨ret_int e.out.symm, HB.out⟩
    · have E : Hid (cmpKeysF x y = (if x.kind != y.kind then cmpI x.kind y.kind else if x.n != y.n then cmpI x.n y.n else cmpS x.text y.text)) := Lib.hid (by rw [cmpKeysF, k1, k2]; rfl)
      clear k1 k2
      cases n1 : (x.kind != y.kind)
      · have hc : cmpI x.kind y.kind = 0 := by
          have : x.kind = y.kind := by simpa using n1
          rw [this]; unfold cmpI; simp
        have HC := Lib.hid hc; clear hc
        cases n2 : (x.n != y.n)
        · have hc2 : cmpI x.n y.n = 0 := by
            have : x.n = y.n := by simpa using n2
            rw [this]; unfold cmpI; simp
          have HC2 := Lib.hid hc2; clear hc2
          rw [n1, n2] at E
          clear n1 n2
          have h1 := HC.out
          have h2 := HC2.out
          go_wp2_with (first | (go_at_call 138; refine (compareInts _ _ _).mono ?_; rintro e w' ⟨rfl, rfl⟩) | (go_at_call 139; refine (stringsCompare _ _ _).mono ?_; rintro e w' ⟨rfl, rfl⟩))
          go_ret
          exact ⟨ret_int E.out.symm, HB.out⟩
        · have hc2 : (cmpI x.n y.n != 0) = true := by
            have : x.n ≠ y.n := by simpa using n2
            unfold cmpI; simp; omega
          rw [n1, n2] at E
          clear n1 n2
          have h1 := HC.out
          go_wp2_with (first | (go_at_call 138; refine (compareInts _ _ _).mono ?_; rintro e w' ⟨rfl, rfl⟩))
          go_ret
          exact ⟨ret_int E.out.symm, HB.out⟩
      · have hc : (cmpI x.kind y.kind != 0) = true := by
          have : x.kind ≠ y.kind := by simpa using n1
          unfold cmpI; simp; omega
        rw [n1] at E
        clear n1
        go_wp2_with (first | (go_at_call 138; refine (compareInts _ _ _).mono ?_; rintro e w' ⟨rfl, rfl⟩))
        go_ret
        exact ⟨ret_int E.out.symm, HB.out⟩

set_option maxRecDepth 100000 in
set_option maxHeartbeats 3200000 in
theorem specCompareKeys (cs ds : List Value) (x y : DKey) (w : World) (h : Reads DKey.rep w cs x) (h' : Reads DKey.rep w ds y) :
    Calls Tryz.prog 121 #[.agg cs.toArray, .agg ds.toArray] w fun e w' => e = .returned (.int .i64 (cmpKeysF x y)) ∧ Below w.heap.size w w' := by
  have HX := Lib.hid h
  have HY := Lib.hid h'
  obtain ⟨f1, h⟩ := h
  obtain ⟨rfl, _, s0⟩ := DKey.rd.1 h
  obtain ⟨f2, h'⟩ := h'
  obtain ⟨rfl, _, s1⟩ := DKey.rd.1 h'
  clear h h'
  go_enter Tryz.func121, Tryz.ntmps121
  go_wp2_with fail
  refine (specIsKey _ x _ (HX.out.below (by repeat (first | with_reducible exact belR | with_reducible apply belA | (with_reducible refine belS ?_ ?_; focus (first | omega | (simp; done) | (simp; omega))) | with_reducible apply belN | with_reducible apply belD | with_reducible assumption)))).mono ?_
  rintro e w1 ⟨rfl, hb⟩
  have VX : Hid (WB w1 w.heap.size #[.int .i64 x.kind, .int .i64 x.n, .string x.text]) := Lib.hid ((WB.at rfl).growA.keep hb)
  have VY : Hid (WB w1 (w.heap.size + 1) #[.int .i64 y.kind, .int .i64 y.n, .string y.text]) := Lib.hid ((WB.at (by simp)).keep hb)
  have HB : Hid (Below w.heap.size w w1) := Lib.hid (below_call (by repeat (first | with_reducible exact belR | with_reducible apply belA | (with_reducible refine belS ?_ ?_; focus (first | omega | (simp; done) | (simp; omega))) | with_reducible apply belN | with_reducible apply belD | with_reducible assumption)) (by first | omega | (simp; done) | (simp; omega)) hb)
  clear hb
  have ⟨c_VX, z_VX, f_VX⟩ := VX.out
  have ⟨c_VY, z_VY, f_VY⟩ := VY.out
  cases k1 : isKeyF x
  · have e := Lib.hid (show cmpKeysF x y = 0 by rw [cmpKeysF, k1]; rfl)
    go_wp2
    go_ret
    exact ⟨ret_int e.out.symm, HB.out⟩
  · go_wp2_with fail
    refine (specIsKey _ y _ (HY.out.below HB.out)).mono ?_
    rintro e w2 ⟨rfl, hq⟩
    clear c_VX z_VX f_VX c_VY z_VY f_VY
    replace VX := Lib.hid (VX.out.keep hq)
    replace VY := Lib.hid (VY.out.keep hq)
    replace HB := Lib.hid (HB.out.trans (hq.mono HB.out.size))
    clear hq
    have ⟨c_VX, z_VX, f_VX⟩ := VX.out
    have ⟨c_VY, z_VY, f_VY⟩ := VY.out
    cases k2 : isKeyF y
    · have e := Lib.hid (show cmpKeysF x y = 0 by rw [cmpKeysF, k1, k2]; rfl)
      go_wp2
      go_ret
      exact ⟨ret_int e.out.symm, HB.out⟩
    · have E : Hid (cmpKeysF x y = (if x.kind != y.kind then cmpI x.kind y.kind else if x.n != y.n then cmpI x.n y.n else cmpS x.text y.text)) := Lib.hid (by rw [cmpKeysF, k1, k2]; rfl)
      clear k1 k2
      have g1 := gt_bl x.text y.text
      cases n1 : (x.kind != y.kind)
      · cases n2 : (x.n != y.n)
        · rw [n1, n2] at E
          go_wp2_with (go_at_call 136; refine (signOf _ _ _).mono ?_; rintro e w' ⟨rfl, rfl⟩)
          go_ret
          exact ⟨ret_int ((sign_str _ _).trans E.out.symm), HB.out⟩
        · rw [n1, n2] at E
          have HN := Lib.hid n2
          go_wp2_with (go_at_call 136; refine (signOf _ _ _).mono ?_; rintro e w' ⟨rfl, rfl⟩)
          go_ret
          exact ⟨ret_int ((sign_int HN.out).trans E.out.symm), HB.out⟩
      · rw [n1] at E
        have HN := Lib.hid n1
        go_wp2_with (go_at_call 136; refine (signOf _ _ _).mono ?_; rintro e w' ⟨rfl, rfl⟩)
        go_ret
        exact ⟨ret_int ((sign_int HN.out).trans E.out.symm), HB.out⟩


end Go.Proofs.YtgicglmcapnogaaGreat
