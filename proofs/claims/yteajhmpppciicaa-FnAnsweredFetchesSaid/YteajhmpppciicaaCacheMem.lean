/-
  The memory of a set of caches: one cache's entries taken out and put back.
-/
import Derived.Test.YteajhmpppciicaaCopyCaches
namespace Go.Proofs.Yteajhmpppciicaa
open Go.RowKit

theorem slice_own {α : Type} {R : Rep α} {E : TypeId} {w : World} {ao : Option Addr} {n cap : Nat} {l : List α} {fp : List Nat} (h : (Rep.slice E R).rd true w [.slice ao n cap] l fp) (i : Nat) (hi : i < l.length) : ∃ g, ao = some ⟨g, 0, none⟩ := by
  obtain ⟨v, ts, hv, rfl, rfl, h1, _, h3⟩ := h
  simp only [List.cons.injEq, and_true] at hv
  subst hv
  rw [vals_length] at hi
  rcases (h3 rfl).2 with ⟨_, hn⟩ | ⟨g', cap', cur, h, _⟩
  · omega
  · simp only [Value.slice.injEq] at h
    exact ⟨g', h.1⟩

theorem caches_at {B m : Nat} {w : World} {ao : Option Addr} {n cap : Nat} {l : List DCache} (h : Part (Rep.slice 85 DCache.rep) B m w [.slice ao n cap] l) (k : Nat) (hk : k < l.length) :
    ∃ (g : Nat) (K : List Nat) (a : Option Addr) (c : Nat), ao = some ⟨g, 0, none⟩ ∧ w.cell? ⟨g, k * 2, none⟩ = some (.int .i64 l[k].version) ∧ w.cell? ⟨g, k * 2 + 1, none⟩ = some (.slice a l[k].entries.length c) ∧ (∀ j, w.frozen? ⟨g, j, none⟩ = false) ∧
      g ∈ K ∧ (∀ b ∈ K, B ≤ b ∧ b < m) ∧ OwnsLt (Rep.slice 88 DCached.rep) B K m w [.slice a l[k].entries.length c] l[k].entries ∧ Reads DCache.rep w [.int .i64 l[k].version, .slice a l[k].entries.length c] l[k] ∧
      (∀ (w' W : World) (a' : Option Addr) (c' : Nat) (es : List DCached), Owns (Rep.slice 88 DCached.rep) B K w' [.slice a' es.length c'] es → (∀ b ∈ K, b ≠ g → w'.heap[b]? = w.heap[b]?) → W.heap[g]? = w.heap[g]? →
        w'.heap[g]? = (W.setCell ⟨g, k * 2 + 1, none⟩ (.slice a' es.length c')).heap[g]? → Fresh (Rep.slice 85 DCache.rep) B w' [.slice ao n cap] (l.set k ⟨l[k].version, es⟩)) ∧
      (∀ (w' : World) (es : List DCached), Owns (Rep.slice 88 DCached.rep) B K w' [.slice a l[k].entries.length c] es → (∀ b ∈ K, w'.heap[b]? = w.heap[b]?) → es.length = l[k].entries.length → Fresh (Rep.slice 85 DCache.rep) B w' [.slice ao n cap] (l.set k ⟨l[k].version, es⟩)) := by
  obtain ⟨fp, hrd, hnd, hge⟩ := h
  obtain ⟨g, rfl⟩ := slice_own hrd k hk
  obtain ⟨cs, fe, K, r1, n1, hiff, hdis, hgK, hc, hfz, hgl, hput⟩ := slice_lens hrd hnd k hk
  obtain ⟨fq, rw1, _⟩ := Rep.weak _ r1
  obtain ⟨v1, f1, rfl, rfl, r2⟩ := DCache.rd.1 r1
  obtain ⟨a1, c1, rfl, _⟩ := slice_open r2
  refine ⟨g, K, a1, c1, rfl, hc 0 _ rfl, hc 1 _ rfl, hfz, hgK, fun b hb => hge b ((hiff b).2 (.inr hb)), ⟨_, r2, n1, fun b hb => ⟨(hge b ((hiff b).2 (.inl hb))).1, hdis b hb⟩, fun b hb => (hge b ((hiff b).2 (.inl hb))).2⟩, ⟨fq, rw1⟩, ?_, ?_⟩
  · rintro w' W a' c' es ⟨fe', q1, q2, q3⟩ hK hW hw'
    obtain ⟨fp', p1, p2, p3⟩ := hput w' W 1 [.slice a' es.length c'] ⟨l[k].version, es⟩ fe' (by show _ ≤ 2; simp) (DCache.rd.2 ⟨_, _, rfl, rfl, q1⟩) q2 (fun b hb => (q3 b hb).2) hK hW hw'
    refine ⟨fp', p1, p2, fun b hb => ?_⟩
    rcases (p3 b).1 hb with h | h
    · exact (q3 b h).1
    · exact (hge b ((hiff b).2 (.inr h))).1
  · rintro w' es ⟨fe', q1, q2, q3⟩ hK hl
    obtain ⟨fp', p1, p2, p3⟩ := hput w' w 0 [] ⟨l[k].version, es⟩ fe' (by show _ ≤ 2; simp) (DCache.rd.2 ⟨_, _, rfl, rfl, q1⟩) q2 (fun b hb => (q3 b hb).2) (fun b hb _ => hK b hb) rfl (hK g hgK)
    refine ⟨fp', p1, p2, fun b hb => ?_⟩
    rcases (p3 b).1 hb with h | h
    · exact (q3 b h).1
    · exact (hge b ((hiff b).2 (.inr h))).1

theorem entries_at {B m n c : Nat} {K : List Nat} {w : World} {a : Option Addr} {l : List DCached} (h : OwnsLt (Rep.slice 88 DCached.rep) B K m w [.slice a n c] l) (hK : ∀ b ∈ K, b < m) (hB : B ≤ m) (i : Nat) (hi : i < l.length) :
    ∃ g, a = some ⟨g, 0, none⟩ ∧ (∀ j, j < 7 → ∃ u, w.cell? ⟨g, i * 7 + j, none⟩ = some u) ∧ (∀ j, w.frozen? ⟨g, j, none⟩ = false) ∧ B ≤ g ∧ g < m ∧ g ∉ K ∧
      ∀ (us : List Value) (e : DCached), us.length = 7 → Fresh DCached.rep m w us e → Owns (Rep.slice 88 DCached.rep) B K (setCells w g (i * 7) us) [.slice a n c] (l.set i e) := by
  obtain ⟨fp, hrd, hnd, hge, hlt⟩ := h
  obtain ⟨g, rfl⟩ := slice_own hrd i hi
  obtain ⟨cs, fe, K2, r1, n1, hiff, hdis, hgK, hc, hfz, hgl, hput⟩ := slice_lens hrd hnd i hi
  have hl7 : cs.length = 7 := Rep.len _ r1
  have hgf : g ∈ fp := (hiff g).2 (.inr hgK)
  refine ⟨g, rfl, fun j hj => ?_, hfz, (hge g hgf).1, hlt g hgf, (hge g hgf).2, ?_⟩
  · exact ⟨cs[j]'(by omega), hc j _ (by simp)⟩
  · rintro us e hus ⟨fe', q1, q2, q3⟩
    have e1 : cs.take 0 ++ (us ++ cs.drop (0 + us.length)) = us := by
      rw [List.take_zero, List.nil_append, List.drop_of_length_le (by omega), List.append_nil]
    have hne : ∀ b ∈ fe', b ≠ g := fun b hb e => by have := q3 b hb; have := hlt g hgf; omega
    obtain ⟨fp', p1, p2, p3⟩ := hput (setCells w g (i * 7) us) w 0 us e fe' (by show 0 + us.length ≤ 7; omega) (by rw [e1]; exact Rep.frame _ q1 fun b hb => setCells_other (hne b hb) _ _ _) q2
      (fun b hb hk => by have := q3 b hb; have := hlt b ((hiff b).2 (.inr hk)); omega) (fun b _ hb => setCells_other hb _ _ _) rfl rfl
    refine ⟨fp', p1, p2, fun b hb => ?_⟩
    rcases (p3 b).1 hb with h | h
    · have := q3 b h
      exact ⟨by omega, fun hk => by have := hK b hk; omega⟩
    · exact hge b ((hiff b).2 (.inr h))

end Go.Proofs.Yteajhmpppciicaa
