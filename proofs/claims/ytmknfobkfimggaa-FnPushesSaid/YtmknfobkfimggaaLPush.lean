/-
  The laws' helpers for Push.
-/
import Derived.Test.YtmknfobkfimggaaBase
import Derived.Test.YtmknfobkfimggaaTPush
namespace Go.Proofs.Ytmknfobkfimggaa
open Go.RowKit

theorem setL_append : ∀ (A B xs : List Value) (i : Nat), setL xs i (A ++ B) = setL (setL xs i A) (i + A.length) B
  | [], B, xs, i => by simp [setL]
  | u :: A, B, xs, i => by
    simp only [List.cons_append, setL, List.length_cons]
    rw [setL_append A B _ (i + 1), show i + 1 + A.length = i + (A.length + 1) by omega]
theorem setL_gap {xs A B : List Value} {i : Nat} {v : Value} (hx : xs[i + A.length]? = some v) : setL (setL xs i A) (i + A.length + 1) B = setL xs i (A ++ v :: B) := by
  rw [setL_append]
  have h1 : (setL xs i A)[i + A.length]? = some v := (setL_ge A i xs _ (Nat.le_refl _)).trans hx
  have h2 : (setL xs i A).set (i + A.length) v = setL xs i A := by
    obtain ⟨hl, he⟩ := List.getElem?_eq_some_iff.1 h1
    conv => rhs; rw [← List.set_getElem_self hl]
    rw [he]
  simp only [setL]
  rw [h2]

def DPush.wt (x : DPush) : Nat := x.site.size + wtS wt0 x.data

theorem infoPush : (Try.prog.info? 28).map (fun i => (i.zero, i.size, i.bytes)) = some (some (.agg #[.string ⟨#[]⟩, .int .i64 0, .slice none 0 0, .int .i64 0]), 4, 56) := by kernel_rfl

def DPush.cnt (x : DPush) : Nat := 3 + wtT cnt1 x.data x.data.length
def DPush.mk3 (k : Nat) (x : DPush) : DPush := ⟨markT (k), ((k : Int) + 1), marks mkByte cnt1 (k + 2) x.data, (((k + 2 + wtT cnt1 x.data x.data.length : Nat) : Int))⟩

def DPush.mcnt (x : DPush) : Nat := wtT cnt1 x.data x.data.length
def DPush.mks (x : DPush) (k : Nat) : DPush := { x with data := marks mkByte cnt1 (k) x.data }

end Go.Proofs.Ytmknfobkfimggaa
