/-
  Bounds on the counts of marks. No function of the program is named here.
-/
import Derived.Test.YtjdoofekohjjlaaGrow
namespace Go.Proofs.Ytjdoofekohjjlaa
open Go.RowKit

theorem wtT_lin {α : Type} (f g : α → Nat) (c d : Nat) (l : List α) (h : ∀ x, f x ≤ c + d * g x) : wtT f l l.length ≤ c * l.length + d * (l.map g).sum := by
  rw [wtT_all]
  induction l with
  | nil => simp
  | cons x l ih =>
    have := h x
    simp only [List.map_cons, List.sum_cons, List.length_cons, Nat.mul_add, Nat.mul_one]
    omega
theorem wtT_small {α : Type} (f g : α → Nat) (c d e : Nat) (l : List α) (h : ∀ x, f x ≤ c + d * g x) (hc : c ≤ e) (hd : d ≤ e) : wtT f l l.length ≤ e * wtS g l := by
  have h1 := wtT_lin f g c d l h
  have h2 : c * l.length ≤ e * l.length := Nat.mul_le_mul_right _ hc
  have h3 : d * (l.map g).sum ≤ e * (l.map g).sum := Nat.mul_le_mul_right _ hd
  unfold wtS
  rw [Nat.mul_add]; omega
theorem wtT_const {α : Type} (f : α → Nat) (c : Nat) (l : List α) (h : ∀ x, f x ≤ c) : wtT f l l.length ≤ c * l.length := by
  have := wtT_lin f (fun _ => 0) c 0 l (fun x => by have := h x; omega)
  omega
theorem wtS_le_length {α : Type} (g : α → Nat) (l : List α) : l.length ≤ wtS g l := wtS_ge g l
theorem sum_filter {α : Type} (g : α → Nat) (p : α → Bool) : ∀ (l : List α), ((l.filter p).map g).sum ≤ (l.map g).sum
  | [] => by simp
  | x :: l => by
    have ih := sum_filter g p l
    by_cases h : p x
    · rw [List.filter_cons_of_pos h]; simp only [List.map_cons, List.sum_cons]; omega
    · rw [List.filter_cons_of_neg h]; simp only [List.map_cons, List.sum_cons]; omega
theorem wtS_filter {α : Type} (g : α → Nat) (p : α → Bool) (l : List α) : wtS g (l.filter p) ≤ wtS g l := by
  have h1 := sum_filter g p l
  have h2 := List.length_filter_le p l
  unfold wtS; omega

end Go.Proofs.Ytjdoofekohjjlaa
