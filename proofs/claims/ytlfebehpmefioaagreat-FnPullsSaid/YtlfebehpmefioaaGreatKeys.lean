/-
  Keys, queued writes, subscriptions: what IsKey, IsQueuedWrite, IsSubscription compute.
-/
import Derived.Test.YtlfebehpmefioaaGreatBase
import Derived.Test.YtlfebehpmefioaaGreatTFam
namespace Go.Proofs.YtlfebehpmefioaaGreat
open Go.RowKit

def isKeyTextF (s : ByteArray) : Bool := allBytes keyByte s && decide ((s.size : Int) ≤ 12)
theorem isKeyTextF_no {s : ByteArray} {k : Nat} (hk : k < s.size) (h : ¬ keyByte s[k] = true) : Ending.returned (.bool false) = .returned (.bool (isKeyTextF s)) := by
  rw [isKeyTextF, allBytes_no hk (by simpa using h)]; rfl
theorem isKeyTextF_yes {s : ByteArray} (h : ∀ k, (hk : k < s.size) → keyByte s[k] = true) : Ending.returned (.bool (decide ((s.size : Int) ≤ 12))) = .returned (.bool (isKeyTextF s)) := by
  rw [isKeyTextF, allBytes_yes h]; rfl

set_option maxHeartbeats 400000 in
theorem implIsKeyText (s : ByteArray) (hs : s.size ≤ maxLen) (w : World) :
    Calls Tryz.prog 131 #[.string s] w fun e w' => e = .returned (.bool (isKeyTextF s)) ∧ w = w' := by
  unfold maxLen at hs
  go_enter Tryz.func131, Tryz.ntmps131
  go_wp2
  go_loop [3] (fun i => ∃ k : Nat, k ≤ s.size ∧ i = .int .i64 k ∧ ∀ j, (hj : j < s.size) → j < k → keyByte s[j] = true) (fun i => s.size - (intOf i).toNat)
  case atStart => exact ⟨0, by omega, rfl, by intro j hj h; omega⟩
  case round =>
    obtain ⟨k, hk, rfl, hall⟩ := hrel
    have HA := Lib.hid hall; clear hall
    by_cases hlt : k < s.size
    · have hw := keyByte_i s[k]
      have HW := Lib.hid hw; clear hw
      go_wp2
      all_goals first
        | (go_ret; exact ⟨isKeyTextF_no hlt (by go_light; rw [HW.out]; simp_all; try omega), rfl⟩)
        | (go_light; refine ⟨⟨k + 1, by omega, by go_num, snoc_bytes hlt HA.out (by rw [HW.out]; simp_all; try omega)⟩, ?_⟩; simp [intOf]; omega)
    · go_wp2
      go_ret
      exact ⟨isKeyTextF_yes fun j hj => HA.out j hj (by omega), rfl⟩

set_option maxHeartbeats 400000 in
theorem specText (s : ByteArray) (hs : s.size ≤ maxLen) (w : World) :
    Calls Tryz.prog 141 #[.string s] w fun e w' => e = .returned (.bool (isKeyTextF s)) ∧ w = w' := by
  unfold maxLen at hs
  go_enter Tryz.func141, Tryz.ntmps141
  go_wp2
  go_loop [3] (fun i => ∃ k : Nat, k ≤ s.size ∧ i = .int .i64 k ∧ ∀ j, (hj : j < s.size) → j < k → keyByte s[j] = true) (fun i => s.size - (intOf i).toNat)
  case atStart => exact ⟨0, by omega, rfl, by intro j hj h; omega⟩
  case round =>
    obtain ⟨k, hk, rfl, hall⟩ := hrel
    have HA := Lib.hid hall; clear hall
    by_cases hlt : k < s.size
    · have hw := keyByte_i s[k]
      have HW := Lib.hid hw; clear hw
      go_wp2
      all_goals first
        | (go_ret; exact ⟨isKeyTextF_no hlt (by go_light; rw [HW.out]; simp_all; try omega), rfl⟩)
        | (go_light; refine ⟨⟨k + 1, by omega, by go_num, snoc_bytes hlt HA.out (by rw [HW.out]; simp_all; try omega)⟩, ?_⟩; simp [intOf]; omega)
    · go_wp2
      go_ret
      exact ⟨isKeyTextF_yes fun j hj => HA.out j hj (by omega), rfl⟩

def isKeyF (x : DKey) : Bool := within x.kind 1 3 && within x.n (-1000000000000) 1000000000000 && isKeyTextF x.text && (x.kind != 2 || x.n == 0) && (x.kind != 1 || x.text.toList.isEmpty)

set_option maxHeartbeats 800000 in
theorem implIsKey (cs : List Value) (x : DKey) (w : World) (h : Reads DKey.rep w cs x) :
    Calls Tryz.prog 92 #[.agg cs.toArray] w fun e w' => e = .returned (.bool (isKeyF x)) ∧ Below w.heap.size w w' := by
  obtain ⟨fp, h⟩ := h
  obtain ⟨rfl, _, hs⟩ := DKey.rd.1 h
  clear h
  by_cases h1 : within x.kind 1 3 = false
  · go_enter Tryz.func92, Tryz.ntmps92
    go_wp2_with (first | (go_at_call 60; refine (implInRange _ _ _ _).mono ?_; rintro e w' ⟨rfl, rfl⟩) | (go_at_call 131; refine (implIsKeyText _ hs _).mono ?_; rintro e w' ⟨rfl, rfl⟩))
    go_ret
    exact ⟨ret_bool (by simp [isKeyF, h1]), bEl⟩
  replace h1 : within x.kind 1 3 = true := by simpa using h1
  by_cases h2 : within x.n (-1000000000000) 1000000000000 = false
  · go_enter Tryz.func92, Tryz.ntmps92
    go_wp2_with (first | (go_at_call 60; refine (implInRange _ _ _ _).mono ?_; rintro e w' ⟨rfl, rfl⟩) | (go_at_call 131; refine (implIsKeyText _ hs _).mono ?_; rintro e w' ⟨rfl, rfl⟩))
    go_ret
    exact ⟨ret_bool (by simp [isKeyF, h2]), bEl⟩
  replace h2 : within x.n (-1000000000000) 1000000000000 = true := by simpa using h2
  by_cases h3 : isKeyTextF x.text = false
  · go_enter Tryz.func92, Tryz.ntmps92
    go_wp2_with (first | (go_at_call 60; refine (implInRange _ _ _ _).mono ?_; rintro e w' ⟨rfl, rfl⟩) | (go_at_call 131; refine (implIsKeyText _ hs _).mono ?_; rintro e w' ⟨rfl, rfl⟩))
    go_ret
    exact ⟨ret_bool (by simp [isKeyF, h3]), bEl⟩
  replace h3 : isKeyTextF x.text = true := by simpa using h3
  go_enter Tryz.func92, Tryz.ntmps92
  go_wp2_with (first | (go_at_call 60; refine (implInRange _ _ _ _).mono ?_; rintro e w' ⟨rfl, rfl⟩) | (go_at_call 131; refine (implIsKeyText _ hs _).mono ?_; rintro e w' ⟨rfl, rfl⟩))
  all_goals
    go_ret
    refine ⟨ret_bool ?_, bEl⟩
    go_light
    simp_all [isKeyF]

set_option maxHeartbeats 800000 in
theorem specIsKey (cs : List Value) (x : DKey) (w : World) (h : Reads DKey.rep w cs x) :
    Calls Tryz.prog 100 #[.agg cs.toArray] w fun e w' => e = .returned (.bool (isKeyF x)) ∧ Below w.heap.size w w' := by
  obtain ⟨fp, h⟩ := h
  obtain ⟨rfl, _, hs⟩ := DKey.rd.1 h
  clear h
  by_cases h1 : within x.kind 1 3 = false
  · go_enter Tryz.func100, Tryz.ntmps100
    go_wp2_with (first | (go_at_call 78; refine (specIn _ _ _ _).mono ?_; rintro e w' ⟨rfl, rfl⟩) | (go_at_call 141; refine (specText _ hs _).mono ?_; rintro e w' ⟨rfl, rfl⟩))
    go_ret
    exact ⟨ret_bool (by simp [isKeyF, h1]), bEl⟩
  replace h1 : within x.kind 1 3 = true := by simpa using h1
  by_cases h2 : within x.n (-1000000000000) 1000000000000 = false
  · go_enter Tryz.func100, Tryz.ntmps100
    go_wp2_with (first | (go_at_call 78; refine (specIn _ _ _ _).mono ?_; rintro e w' ⟨rfl, rfl⟩) | (go_at_call 141; refine (specText _ hs _).mono ?_; rintro e w' ⟨rfl, rfl⟩))
    go_ret
    exact ⟨ret_bool (by simp [isKeyF, h2]), bEl⟩
  replace h2 : within x.n (-1000000000000) 1000000000000 = true := by simpa using h2
  by_cases k1 : (x.kind != 2) = false
  · by_cases k2 : (x.n == 0) = false
    · go_enter Tryz.func100, Tryz.ntmps100
      go_wp2_with (first | (go_at_call 78; refine (specIn _ _ _ _).mono ?_; rintro e w' ⟨rfl, rfl⟩) | (go_at_call 141; refine (specText _ hs _).mono ?_; rintro e w' ⟨rfl, rfl⟩))
      all_goals
        go_ret
        refine ⟨ret_bool ?_, bEl⟩
        go_light
        simp_all [isKeyF]
    · cases h3 : isKeyTextF x.text
      all_goals
        go_enter Tryz.func100, Tryz.ntmps100
        go_wp2_with (first | (go_at_call 78; refine (specIn _ _ _ _).mono ?_; rintro e w' ⟨rfl, rfl⟩) | (go_at_call 141; refine (specText _ hs _).mono ?_; rintro e w' ⟨rfl, rfl⟩))
        all_goals
          go_ret
          refine ⟨ret_bool ?_, bEl⟩
          go_light
          simp_all [isKeyF]
  · cases h3 : isKeyTextF x.text
    all_goals
      go_enter Tryz.func100, Tryz.ntmps100
      go_wp2_with (first | (go_at_call 78; refine (specIn _ _ _ _).mono ?_; rintro e w' ⟨rfl, rfl⟩) | (go_at_call 141; refine (specText _ hs _).mono ?_; rintro e w' ⟨rfl, rfl⟩))
      all_goals
        go_ret
        refine ⟨ret_bool ?_, bEl⟩
        go_light
        simp_all [isKeyF]

def isWriteF (x : DWrite) : Bool := within x.device 1 1000000 && within x.seq 1 1000000 && isKeyF x.key && isWordF x.field 8 false && within x.n 0 1000000000

set_option maxHeartbeats 1600000 in
theorem implIsQueuedWrite (cs : List Value) (x : DWrite) (w : World) (h : Reads DWrite.rep w cs x) :
    Calls Tryz.prog 46 #[.agg cs.toArray] w fun e w' => e = .returned (.bool (isWriteF x)) ∧ Below w.heap.size w w' := by
  obtain ⟨fp, h⟩ := h
  obtain ⟨rfl, _, s0, s1⟩ := DWrite.rd.1 h
  clear h
  have HK : Hid (∀ W, Reads DKey.rep W [.int .i64 x.key.kind, .int .i64 x.key.n, .string x.key.text] x.key) := fun W => ⟨[], DKey.rd.2 ⟨rfl, rfl, s0⟩⟩
  cases h1 : within x.device 1 1000000
  case' true => cases h2 : within x.seq 1 1000000
  case' true.true => cases h3 : isKeyF x.key
  case' true.true.true => cases h4 : isWordF x.field 8 false
  all_goals
    go_enter Tryz.func46, Tryz.ntmps46
    go_wp2_with (first | (go_at_call 60; refine (implInRange _ _ _ _).mono ?_; rintro e w' ⟨rfl, rfl⟩) | (go_at_call 92; refine (implIsKey _ _ _ (HK.out _)).mono ?_; rintro e w1 ⟨rfl, hb⟩; obtain ⟨hc, hfz⟩ := bcell hb; have HB := Lib.hid (below_call (w := w) bEl bSz hb); clear hb) | (go_at_call 93; refine (implIsName _ s1 _).mono ?_; rintro e w' ⟨rfl, rfl⟩))
    go_ret
    refine ⟨ret_bool ?_, ?_⟩
    · simp [isWriteF, *]
    · first
        | (have y := HB.out; exact bEl)
        | exact bEl

set_option maxHeartbeats 1600000 in
theorem specIsQueuedWrite (cs : List Value) (x : DWrite) (w : World) (h : Reads DWrite.rep w cs x) :
    Calls Tryz.prog 50 #[.agg cs.toArray] w fun e w' => e = .returned (.bool (isWriteF x)) ∧ Below w.heap.size w w' := by
  obtain ⟨fp, h⟩ := h
  obtain ⟨rfl, _, s0, s1⟩ := DWrite.rd.1 h
  clear h
  have HK : Hid (∀ W, Reads DKey.rep W [.int .i64 x.key.kind, .int .i64 x.key.n, .string x.key.text] x.key) := fun W => ⟨[], DKey.rd.2 ⟨rfl, rfl, s0⟩⟩
  cases h1 : within x.device 1 1000000
  case' true => cases h2 : within x.seq 1 1000000
  case' true.true => cases h3 : isKeyF x.key
  case' true.true.true => cases h4 : isWordF x.field 8 false
  all_goals
    go_enter Tryz.func50, Tryz.ntmps50
    go_wp2_with (first | (go_at_call 78; refine (specIn _ _ _ _).mono ?_; rintro e w' ⟨rfl, rfl⟩) | (go_at_call 100; refine (specIsKey _ _ _ (HK.out _)).mono ?_; rintro e w1 ⟨rfl, hb⟩; obtain ⟨hc, hfz⟩ := bcell hb; have HB := Lib.hid (below_call (w := w) bEl bSz hb); clear hb) | (go_at_call 101; refine (specIsName _ s1 _).mono ?_; rintro e w' ⟨rfl, rfl⟩))
    go_ret
    refine ⟨ret_bool ?_, ?_⟩
    · simp [isWriteF, *]
    · first
        | (have y := HB.out; exact bEl)
        | exact bEl

end Go.Proofs.YtlfebehpmefioaaGreat
