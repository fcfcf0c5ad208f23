/-
  The type Store: its datum, how its cells read, how a law's argument is opened.
-/
import Derived.Test.YtjdoofekohjjlaaTItem
namespace Go.Proofs.Ytjdoofekohjjlaa
open Go.RowKit

structure DStore where
  name : ByteArray
  items : List DItem
  auto : Int
  deriving DecidableEq

def DStore.rep : Rep DStore := Rep.iso (Rep.prod Rep.str (Rep.prod (Rep.slice 106 DItem.rep) Rep.int)) (fun x => (x.name, x.items, x.auto))
theorem DStore.rd {o : Bool} {w : World} {cs : List Value} {x : DStore} {fp : List Nat} : DStore.rep.rd o w cs x fp ↔ ∃ v1 f1, cs = [.string x.name, v1, .int .i64 x.auto] ∧ fp = f1 ∧ x.name.size ≤ maxLen ∧ (Rep.slice 106 DItem.rep).rd o w [v1] x.items f1 := by
  constructor
  · intro h0
    obtain ⟨c0, e0, p0, q0, rfl, rfl, h0, ⟨c1, e1, p1, q1, rfl, rfl, h1, h2⟩⟩ := h0
    obtain ⟨rfl, rfl, s0⟩ := h0
    obtain ⟨v1, rfl, r1⟩ := slice_shape h1
    obtain ⟨rfl, rfl, s2⟩ := h2
    exact ⟨_, _, rfl, by simp, s0, r1⟩
  · rintro ⟨v1, f1, rfl, hfp, s0, r1⟩
    exact ⟨[.string x.name], [v1, .int .i64 x.auto], [], f1, rfl, by simp [hfp], ⟨rfl, rfl, s0⟩, ⟨[v1], [.int .i64 x.auto], f1, [], rfl, by simp, r1, ⟨rfl, rfl, trivial⟩⟩⟩
theorem DStore.fresh {B l1 u1 : Nat} {v1 : Value} {w : World} {x : DStore} (p1 : Part (Rep.slice 106 DItem.rep) l1 u1 w [v1] x.items) (b1 : B ≤ l1)  (s0 : x.name.size ≤ maxLen) : Fresh DStore.rep B w [.string x.name, v1, .int .i64 x.auto] x := by
  obtain ⟨f1, r1, n1, m1⟩ := p1
  refine ⟨f1, ⟨[.string x.name], [v1, .int .i64 x.auto], [], f1, rfl, by simp, ⟨rfl, rfl, s0⟩, ⟨[v1], [.int .i64 x.auto], f1, [], rfl, by simp, r1, ⟨rfl, rfl, trivial⟩⟩⟩, ?_, ?_⟩
  · exact n1
  · intro b hb
    rcases hb with hb
    · have := m1 b hb; omega
theorem DStore.parts {o : Bool} {w : World} {cs : List Value} {x : DStore} {fp : List Nat} (h : DStore.rep.rd o w cs x fp) : ∃ v1 f1, cs = [.string x.name, v1, .int .i64 x.auto] ∧ fp = f1 ∧ x.name.size ≤ maxLen ∧ (Rep.slice 106 DItem.rep).rd o w [v1] x.items f1 := by
  obtain ⟨c0, e0, p0, q0, rfl, rfl, h0, ⟨c1, e1, p1, q1, rfl, rfl, h1, h2⟩⟩ := h
  obtain ⟨rfl, rfl, s0⟩ := h0
  obtain ⟨v1, rfl, h1⟩ := slice_shape h1
  obtain ⟨rfl, rfl, s2⟩ := h2
  exact ⟨_, _, rfl, by simp, s0, h1⟩
theorem DStore.join {o : Bool} {w : World} {x : DStore} (c1 : List Value) (f1 : List Nat) (r1 : (Rep.slice 106 DItem.rep).rd o w c1 x.items f1) (s0 : x.name.size ≤ maxLen) : DStore.rep.rd o w ([.string x.name] ++ (c1 ++ ([.int .i64 x.auto]))) x (f1) := by
  exact ⟨[.string x.name], c1 ++ ([.int .i64 x.auto]), [], f1, rfl, by simp, ⟨rfl, rfl, s0⟩, ⟨c1, [.int .i64 x.auto], f1, [], rfl, by simp, r1, ⟨rfl, rfl, trivial⟩⟩⟩
theorem DStore.shape {o : Bool} {w : World} {cs : List Value} {x : DStore} {fp : List Nat} (h : DStore.rep.rd o w cs x fp) : ∃ a1 c1, cs = [.string x.name, .slice a1 x.items.length c1, .int .i64 x.auto] := by
  obtain ⟨v1, f1, rfl, _, _, r1⟩ := DStore.rd.1 h
  obtain ⟨a1, c1, rfl, _⟩ := slice_open r1
  exact ⟨_, _, rfl⟩
theorem DStore.fshape {B : Nat} {w : World} {cs : List Value} {x : DStore} (h : Fresh DStore.rep B w cs x) : ∃ a1 c1, cs = [.string x.name, .slice a1 x.items.length c1, .int .i64 x.auto] := by
  obtain ⟨fp, h, _⟩ := h
  exact DStore.shape h
theorem DStore.opens_laws : Opens Try.prog 24 DStore.rep := opens_struct Try.underlying24 (by kernel_rfl) (fields_cons rfl (by kernel_rfl) (opens_str Try.underlying9) (fields_cons rfl (by kernel_rfl) (opens_slice Try.underlying22 (by kernel_rfl) (by decide) DItem.opens_laws) (fields_one rfl (by kernel_rfl) (opens_int Try.underlying3)))) (fun b => ⟨b.1, b.2.1, b.2.2⟩) (fun _ => rfl)

end Go.Proofs.Ytjdoofekohjjlaa
