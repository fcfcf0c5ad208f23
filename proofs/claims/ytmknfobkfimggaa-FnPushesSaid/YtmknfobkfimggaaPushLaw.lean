/-
  The plain law of FnPushes. No function of the program is named here.
-/
import Derived.Test.YtmknfobkfimggaaDropOld
import Derived.Test.YtmknfobkfimggaaEqualPushes
namespace Go.Proofs.Ytmknfobkfimggaa
open Go.RowKit

theorem dec_enc (key : Int) (i : Nat) (b : UInt8) : decB key i (encB key i b) = b := by
  have h1 := decB_to key i (encB key i b)
  rw [encB_to] at h1
  have hb := b.toNat_lt
  have hp := padF_ge key i
  have e : (decB key i (encB key i b)).toNat = b.toNat := by omega
  exact UInt8.toNat_inj.1 e
theorem decrypt_encrypt (key : Int) (l : List UInt8) : decryptF key (encryptF key l) = l := by
  unfold decryptF encryptF
  apply List.ext_getElem
  · simp
  · intro i h1 h2
    simp [dec_enc]

theorem hash_lin : ∀ (l : List Int) (a b : Int), ∃ q : Int, l.foldl hashStep a - l.foldl hashStep b = (a - b) * 1000003 ^ l.length + 2147483647 * q
  | [], a, b => ⟨0, by simp⟩
  | v :: l, a, b => by
    obtain ⟨q1, h1⟩ : ∃ q : Int, hashStep a v - hashStep b v = (a - b) * 1000003 + 2147483647 * q := ⟨(hashStep a v - hashStep b v - (a - b) * 1000003) / 2147483647, by unfold hashStep; omega⟩
    obtain ⟨q2, h2⟩ := hash_lin l (hashStep a v) (hashStep b v)
    refine ⟨q1 * 1000003 ^ l.length + q2, ?_⟩
    show l.foldl hashStep (hashStep a v) - l.foldl hashStep (hashStep b v) = _
    rw [h2, h1, List.length_cons, Int.pow_succ, Int.add_mul, Int.mul_add, Int.mul_comm (1000003 ^ l.length) 1000003, Int.mul_assoc, Int.mul_assoc, Int.add_assoc]

theorem mac_stranger (k : Int) (m : List Int) (hm : m.length = 6) (h0 : 0 ≤ k) (h1 : k ≤ 1000000) : hashF ([k + 1] ++ m ++ [k + 1]) ≠ hashF ([k] ++ m ++ [k]) := by
  intro he
  unfold hashF at he
  simp only [List.foldl_append, List.foldl_cons, List.foldl_nil] at he
  obtain ⟨q, hq⟩ := hash_lin m (hashStep 11 (k + 1)) (hashStep 11 k)
  rw [hm] at hq
  generalize m.foldl hashStep (hashStep 11 (k + 1)) = X at *
  generalize m.foldl hashStep (hashStep 11 k) = Y at *
  have e1 : hashStep 11 (k + 1) - hashStep 11 k = 1 := by unfold hashStep; omega
  rw [e1] at hq
  unfold hashStep at he
  omega

theorem mac_changed (n : Int) (p t : List Int) (ht : t.length = 4) : hashF (p ++ (n + 1) :: t) ≠ hashF (p ++ n :: t) := by
  intro he
  unfold hashF at he
  simp only [List.foldl_append, List.foldl_cons] at he
  generalize p.foldl hashStep 11 = c at *
  obtain ⟨q, hq⟩ := hash_lin t (hashStep c (n + 1)) (hashStep c n)
  rw [ht, he] at hq
  obtain ⟨q0, e1⟩ : ∃ q : Int, hashStep c (n + 1) - hashStep c n = 1 + 2147483647 * q := ⟨(hashStep c (n + 1) - hashStep c n - 1) / 2147483647, by unfold hashStep; omega⟩
  rw [e1] at hq
  omega

/-- The subscription, the push and what is made of it. -/
structure PushCase (s : DSubscription) (n : Int) (d : List UInt8) : Prop where
  site : s.site = ⟨#[98, 97, 110, 107]⟩
  sec : 1 ≤ s.secret ∧ s.secret ≤ 256
  last : 0 ≤ s.last ∧ s.last ≤ 3
  num : 4 ≤ n ∧ n ≤ 259
  len : d.length = 2

theorem within_yes {n lo hi : Int} (h1 : lo ≤ n) (h2 : n ≤ hi) : within n lo hi = true := by unfold within; rw [decide_eq_true h1, decide_eq_true h2]; rfl
theorem bank_word : isWordF ⟨#[98, 97, 110, 107]⟩ 8 false = true := by decide
theorem sub_yes {s : DSubscription} (h0 : s.site = ⟨#[98, 97, 110, 107]⟩) (h1 : 1 ≤ s.secret ∧ s.secret ≤ 257) (h2 : 0 ≤ s.last ∧ s.last ≤ 259) : isSubscriptionF s = true := by
  unfold isSubscriptionF isValidKeyF
  rw [h0, bank_word, within_yes h1.1 (by omega), within_yes h2.1 (by omega)]; rfl
theorem seal_yes {s : DSubscription} {n : Int} {d : List UInt8} (h : PushCase s n d) : sealPushB s n d = true := by
  unfold sealPushB
  rw [sub_yes h.site ⟨h.sec.1, by have := h.sec; omega⟩ ⟨h.last.1, by have := h.last; omega⟩, within_yes (by have := h.num; omega) (by have := h.num; omega), decide_eq_true (by have := h.len; omega)]; rfl
theorem open_yes {s : DSubscription} {n : Int} {d : List UInt8} (h : PushCase s n d) : openPushB s (sealOut s n d) = true := by
  have h1 := h.num
  have h2 := h.last
  unfold openPushB
  rw [sub_yes h.site ⟨h.sec.1, by have := h.sec; omega⟩ ⟨h.last.1, by omega⟩]
  have e1 : pushMACF s (sealOut s n d) = (sealOut s n d).mac := rfl
  have e2 : (sealOut s n d).data.length = 2 := (encryptF_len _ _).trans h.len
  rw [e1, e2, show (sealOut s n d).site = s.site from rfl, show (sealOut s n d).number = n from rfl, decide_eq_true (show s.last < n by omega), decide_eq_true (show n ≤ 1000000 by omega)]
  simp
theorem open_data {s : DSubscription} {n : Int} {d : List UInt8} (h : PushCase s n d) : openPushD s (sealOut s n d) = d := by
  unfold openPushD
  rw [open_yes h, if_pos rfl]
  exact decrypt_encrypt _ _
theorem twice_no (s : DSubscription) (n : Int) (d : List UInt8) : openPushB (opened s (sealOut s n d)) (sealOut s n d) = false := by
  unfold openPushB
  rw [show (opened s (sealOut s n d)).last = n from rfl, show (sealOut s n d).number = n from rfl, decide_eq_false (show ¬ n < n by omega)]
  simp
theorem bytes_len {d : List UInt8} (key : Int) (h : d.length = 2) : (bytesToIntsF (encryptF key d)).length = 3 := by
  unfold bytesToIntsF; rw [List.length_cons, List.length_map, encryptF_len, h]
theorem stranger_no {s : DSubscription} {n : Int} {d : List UInt8} (h : PushCase s n d) : openPushB ⟨s.site, s.secret + 1, s.last⟩ (sealOut s n d) = false := by
  have e : pushMACF ⟨s.site, s.secret + 1, s.last⟩ (sealOut s n d) ≠ (sealOut s n d).mac := by
    show hashF ([s.secret + 1] ++ ([127, deriveF 131 s.site, n] ++ bytesToIntsF (encryptF (pushKeyF s n) d)) ++ [s.secret + 1]) ≠ hashF ([s.secret] ++ ([127, deriveF 131 s.site, n] ++ bytesToIntsF (encryptF (pushKeyF s n) d)) ++ [s.secret])
    exact mac_stranger _ _ (by rw [List.length_append, bytes_len _ h.len]; rfl) (by have := h.sec; omega) (by have := h.sec; omega)
  unfold openPushB
  rw [show ((sealOut s n d).mac != pushMACF ⟨s.site, s.secret + 1, s.last⟩ (sealOut s n d)) = true by rw [bne_iff_ne]; exact fun x => e x.symm]
  simp
def badPush (s : DSubscription) (n : Int) (d : List UInt8) : DPush := ⟨s.site, n + 1, encryptF (pushKeyF s n) d, (sealOut s n d).mac⟩
theorem changed_no {s : DSubscription} {n : Int} {d : List UInt8} (h : PushCase s n d) : openPushB s (badPush s n d) = false := by
  have e : pushMACF s (badPush s n d) ≠ (sealOut s n d).mac := by
    show hashF ([s.secret, 127, deriveF 131 s.site] ++ (n + 1) :: (bytesToIntsF (encryptF (pushKeyF s n) d) ++ [s.secret])) ≠ hashF ([s.secret, 127, deriveF 131 s.site] ++ n :: (bytesToIntsF (encryptF (pushKeyF s n) d) ++ [s.secret]))
    exact mac_changed _ _ _ (by rw [List.length_append, bytes_len _ h.len]; rfl)
  unfold openPushB
  rw [show (badPush s n d).mac = (sealOut s n d).mac from rfl, show ((sealOut s n d).mac != pushMACF s (badPush s n d)) = true by rw [bne_iff_ne]; exact fun x => e x.symm]
  simp
theorem drop_two {s : DSubscription} {n : Int} {d : List UInt8} (h : PushCase s n d) : dropOldF [sealOut s n d, badPush s n d] s = [sealOut s n d] := by
  unfold dropOldF
  rw [List.filter_cons_of_pos (open_yes h), List.filter_cons_of_neg (by rw [changed_no h]; decide), List.filter_nil]
theorem drop_none (s : DSubscription) (n : Int) (d : List UInt8) : dropOldF [sealOut s n d] (opened s (sealOut s n d)) = [] := by
  unfold dropOldF
  rw [List.filter_cons_of_neg (by rw [twice_no]; decide), List.filter_nil]
theorem equal_self (x : DPush) : equalPushesF x x = true := by unfold equalPushesF; simp

end Go.Proofs.Ytmknfobkfimggaa
