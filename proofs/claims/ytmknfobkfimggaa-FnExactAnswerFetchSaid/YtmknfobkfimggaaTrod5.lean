/-
  Five arguments of a law, opened. No function of the program is named here.
-/
import Derived.Test.YtmknfobkfimggaaBase
namespace Go.Proofs.Ytmknfobkfimggaa
open Go.RowKit Go.ChangeShapes
section
variable {H : Type} {enc : TypeId × Value → H} {P : Program} {W : World} {base : Nat}
theorem trodAll_open5 {t t1 t2 t3 t4 : TypeId} {args : Array Value} {ds : List (DataW H)} {ps : List MemPlace} (h : DataW.TrodAll enc P W 0 (fun _ => true) true [t, t1, t2, t3, t4] args.toList ds ps) :
    ∃ v v1 v2 v3 v4 d d1 d2 d3 d4 p p1 p2 p3 p4, args = #[v, v1, v2, v3, v4] ∧ DataW.Trod enc P W 0 (fun _ => true) true t v d p ∧ DataW.Trod enc P W 0 (fun _ => true) true t1 v1 d1 p1 ∧ DataW.Trod enc P W 0 (fun _ => true) true t2 v2 d2 p2 ∧ DataW.Trod enc P W 0 (fun _ => true) true t3 v3 d3 p3 ∧ DataW.Trod enc P W 0 (fun _ => true) true t4 v4 d4 p4 := by
  obtain ⟨v, vs, d, ds', p, q, ha, _, _, h0, h⟩ := trodAll_cons h
  obtain ⟨v1, vs1, d1, _, p1, q1, rfl, _, _, h1, h⟩ := trodAll_cons h
  obtain ⟨v2, vs2, d2, _, p2, q2, rfl, _, _, h2, h⟩ := trodAll_cons h
  obtain ⟨v3, vs3, d3, _, p3, q3, rfl, _, _, h3, h⟩ := trodAll_cons h
  obtain ⟨v4, vs4, d4, _, p4, q4, rfl, _, _, h4, h⟩ := trodAll_cons h
  obtain ⟨rfl, _, _⟩ := trodAll_nil h
  exact ⟨v, v1, v2, v3, v4, d, d1, d2, d3, d4, p, p1, p2, p3, p4, by cases args; simp_all, h0, h1, h2, h3, h4⟩
end
end Go.Proofs.Ytmknfobkfimggaa
