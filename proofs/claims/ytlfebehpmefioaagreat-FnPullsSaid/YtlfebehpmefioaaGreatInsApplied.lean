/-
  slices.Insert at []Applied: one element into a slice that the call owns.
-/
import Derived.Test.YtlfebehpmefioaaGreatItemFam
import Derived.Test.YtlfebehpmefioaaGreatLFamB
namespace Go.Proofs.YtlfebehpmefioaaGreat
open Go.RowKit

set_option maxRecDepth 100000 in
set_option maxHeartbeats 4000000 in
theorem insApplied_end (v : Value) (n : Nat) (xs us : List Value) (k B : Nat) (w : World) (ho : w.ownsRow B 89 2 v n xs) (hn : n ≤ 1100000) (hus : us.length = 2) (hu1 : ∀ u ∈ us, u.oneCell' = true) (hk : ∀ j u, us[j]? = some u → w.cell? ⟨k, j, none⟩ = some u) (hB : B ≤ w.heap.size) :
    Calls Tryz.prog 48 #[v, .int .i64 (n : Int), .slice (some ⟨k, 0, none⟩) 1 1] w fun e w' => ∃ ao cap, e = .returned (.slice ao (n + 1) cap) ∧ w'.ownsRow B 89 2 (.slice ao (n + 1) cap) (n + 1) (xs ++ us) ∧ w.grownBy w' v.ownBlock ∧ ∀ b ∈ (Value.slice ao (n + 1) cap).ownBlock.toList, b ∈ v.ownBlock.toList ∨ w.heap.size ≤ b := by
  obtain ⟨i0, hi, hz0, hz1, hz2⟩ := info_parts infoApplied
  have hsrc : Src Tryz.prog 2 27 (.slice (some ⟨k, 0, none⟩) 1 1) 1 us w := Src.ofSlice w Tryz.underlying27 ⟨k, 0, none⟩ 1 1 us (by rw [hus]) (fun j u hj => by rw [Addr.add_lit, Nat.zero_add]; exact hk j u hj) hu1
  clear hk
  rcases id ho.2 with ⟨rfl, rfl⟩ | ⟨g, cap, cur, rfl, _, _, hnc, hcm, _, _⟩
  · obtain rfl : xs = [] := List.eq_nil_of_length_eq_zero (by have := ho.1; simpa using this)
    have HO := Lib.hid ho
    clear ho
    go_enter Tryz.func48, Tryz.ntmps48
    go_wp2_with (at_builtin; refine wpList_append_src _ rfl _ _ 27 27 rfl B 89 i0 _ 2 _ Tryz.underlying27 hi hz0 hz1 hz2 rfl _ 0 [] rfl HO.out _ 1 us rfl hsrc ?c1 ?c2 hB ?_)
    case c1 => omega
    case c2 => unfold maxLen; omega
    intro ao2 cap2 w2 h1 h2 h3
    have H1 := Lib.hid h1; have H2 := Lib.hid h2; have H3 := Lib.hid h3; clear h1 h2 h3
    go_wp2
    go_ret
    exact ⟨ao2, cap2, rfl, H1.out, H2.out, fun b hb => by have h := H3.out b (by simpa using hb); simp [Value.ownBlock] at h ⊢; omega⟩
  · unfold maxLen at hcm
    by_cases hcn : cap = n
    case' pos => subst hcn
    all_goals
      have HO := Lib.hid ho
      clear ho
      go_enter Tryz.func48, Tryz.ntmps48
      go_wp2_with (at_builtin; refine wpList_append_src _ rfl _ _ 27 27 rfl B 89 i0 _ 2 _ Tryz.underlying27 hi hz0 hz1 hz2 rfl _ _ xs rfl HO.out _ 1 us rfl hsrc ?c1 ?c2 hB ?_)
      case c1 => omega
      case c2 => unfold maxLen; omega
      intro ao2 cap2 w2 h1 h2 h3
      have H1 := Lib.hid h1; have H2 := Lib.hid h2; have H3 := Lib.hid h3; clear h1 h2 h3
      go_wp2
      go_ret
      exact ⟨ao2, cap2, rfl, H1.out, H2.out, fun b hb => by have h := H3.out b (by simpa using hb); simp [Value.ownBlock] at h ⊢; omega⟩

set_option maxRecDepth 100000 in
set_option maxHeartbeats 4000000 in
theorem insApplied_room (g n cap i : Nat) (cur : Array Value) (xs us : List Value) (k : Nat) (tk : TypeId) (w : World) (hg : w.heap[g]? = some (.cells cur 89 (0, 0))) (hcs : cur.size = cap * 2) (htake : cur.toList.take (n * 2) = xs) (hi : i < n) (hnc : n + 1 ≤ cap) (hcm : cap ≤ 9223372036854775807) (hx1 : ∀ u ∈ xs, u.oneCell' = true) (hus : us.length = 2) (hu1 : ∀ u ∈ us, u.oneCell' = true) (hk : w.heap[k]? = some (.cells us.toArray tk (0, 0))) (hkg : k ≠ g) :
    Calls Tryz.prog 48 #[.slice (some ⟨g, 0, none⟩) n cap, .int .i64 (i : Int), .slice (some ⟨k, 0, none⟩) 1 1] w fun e w' => e = .returned (.slice (some ⟨g, 0, none⟩) (n + 1) cap) ∧ Hid (w'.heap[g]? = some (.cells (splice (splice cur.toList ((i + 1) * 2) (xs.drop (i * 2))) (i * 2) us).toArray 89 (0, 0))) ∧ Hid (w.grownBy w' (some g)) := by
  have hxl : xs.length = n * 2 := by rw [← htake, List.length_take, Array.length_toList, hcs]; omega
  have hdl : (xs.drop (i * 2)).length = (n - i) * 2 := by rw [List.length_drop, hxl]; omega
  have hov : ∀ off lb cb, (callFunc 97 #[.slice (some ⟨k, 0, none⟩) 1 1, .slice (some ⟨g, off, none⟩) lb cb]).run Tryz.prog w = .ok (.value (.bool false)) w := fun off lb cb => by
    rw [run_callFunc_extern Tryz.func97 (by kernel_rfl) (by kernel_rfl) (by kernel_rfl) (e := Extern.SlicesOverlaps.overlaps #[27, 27] #[4]) (by kernel_rfl),
      Lib.run_overlaps_apart w 27 4 89 Tryz.underlying27 2 (fun _ => by kernel_rfl) ⟨k, 0, none⟩ ⟨g, off, none⟩ 1 1 lb cb hkg tk 89 us.toArray.size cur.size (by simp [World.shape?, hk]) (by simp [World.shape?, hg]) (by omega) (by simp [World.frozen?, hk]) (by simp [World.frozen?, hk])]
    rfl
  have HG := Lib.hid hg
  have HK := Lib.hid hk
  have hsz : (Tryz.prog.info? 89).map (·.size) = some 2 := by kernel_rfl
  have HS : Hid (∀ j v, (xs.drop (i * 2))[j]? = some v → w.cell? ((⟨g, i * 2, none⟩ : Addr).add j) = some v) := Lib.hid fun j v hj => by
    rw [Addr.add_lit, cell_of_row w g _ cur _ (0, 0) hg]
    rw [List.getElem?_drop, ← htake, List.getElem?_take] at hj
    split at hj
    · simpa using hj
    · cases hj
  have HX : Hid (∀ v ∈ xs.drop (i * 2), v.oneCell' = true) := Lib.hid fun v hv => hx1 v (List.mem_of_mem_drop hv)
  have HU := Lib.hid hu1
  have hz2 : ((i : Int) == (n : Int)) = false := beq_eq_false_iff_ne.2 (by omega)
  have hw1 : IntKind.i64.wrap ((i : Int) + 1) = (i : Int) + 1 := Go.IntWalk.i64_in _ (by omega)
  have hw2 : IntKind.i64.wrap ((n : Int) + 1) = (n : Int) + 1 := Go.IntWalk.i64_in _ (by omega)
  have hb3 : (i : Int) ≤ (n : Int) := by omega
  have hb1 : (0 : Int) ≤ (i : Int) + 1 := by omega
  have hb8 : (i : Int) ≤ (n : Int) + 1 := by omega
  have hb9 : (0 : Int) ≤ (i : Int) := by omega
  have hb4 : ¬ (cap = i) := by omega
  have hb5 : ¬ (cap = i + 1) := by omega
  clear hg hk hx1 hu1 htake
  go_enter Tryz.func48, Tryz.ntmps48
  go_wp2_with (simp only [hov])
  go_region_law (refine step_copy_rows (by rfl) _ _ 27 27 (by rfl) 89 2 Tryz.underlying27 hsz (some ⟨g, (i + 1) * 2, none⟩) (some ⟨g, i * 2, none⟩) (n - i) (cap - (i + 1)) (n + 1 - i) (cap - i) (by simp [Act.eval, Act.put]) (by simp [Act.eval, Act.put]) g ((i + 1) * 2) cur.toList 89 (by exact HG.out) (xs.drop (i * 2)) ⟨g, i * 2, none⟩ rfl rfl (by rw [hdl]; congr 1; simp only [Nat.min_def]; split <;> omega) (by exact HS.out) (by rw [hdl, Array.length_toList, hcs]; omega) HX.out ?_; intro w2 HG2 HW2')
  all_goals
    have HW2 := Lib.hid (grown_drew HW2'.out)
    clear HW2'
    have HK2 : Hid (w2.heap[k]? = some (.cells us.toArray tk (0, 0))) := Lib.hid ((HW2.out.block k (Array.getElem?_eq_some_iff.1 HK.out).1 (fun e => hkg (by simpa using e))).trans HK.out)
    have HS2 : Hid (∀ j v, us[j]? = some v → w2.cell? ((⟨k, 0, none⟩ : Addr).add j) = some v) := Lib.hid fun j v hj => by rw [Addr.add_lit, cell_of_row w2 k _ us.toArray _ (0, 0) HK2.out, Nat.zero_add]; simpa using hj
    have hl2 : (splice cur.toList ((i + 1) * 2) (xs.drop (i * 2))).length = cap * 2 := by rw [length_splice _ _ _ (by rw [hdl, Array.length_toList, hcs]; omega), Array.length_toList, hcs]
    go_wp2_with (refine wpList_copy_rows (by rfl) _ _ 27 27 rfl 89 2 Tryz.underlying27 hsz _ _ _ _ _ _ rfl rfl g (i * 2) _ 89 HG2.out us ⟨k, 0, none⟩ ?d1 ?d2 ?d3 HS2.out ?d4 HU.out ?_)
    case d1 => first | rfl | (simp; done) | (simp; omega)
    case d2 => first | rfl | (simp; done) | (simp; omega)
    case d3 => rw [hus, show Nat.min 1 (n + 1 - i) = 1 by simp only [Nat.min_def]; split <;> omega]
    case d4 => rw [hl2, hus]; omega
    intro w3 HG3 HW3
    go_wp2
    go_ret
    exact ⟨rfl, HG3, Lib.hid (HW2.out.trans HW3.out)⟩

set_option maxRecDepth 100000 in
set_option maxHeartbeats 4000000 in
theorem insApplied_grow (g n cap i : Nat) (xs us : List Value) (k B : Nat) (w : World) (ho : w.ownsRow B 89 2 (.slice (some ⟨g, 0, none⟩) n cap) n xs) (hi : i < n) (hnc : n ≤ cap) (hgr : cap < n + 1) (hn : n ≤ 1100000) (hx1 : ∀ u ∈ xs, u.oneCell' = true) (hus : us.length = 2) (hu1 : ∀ u ∈ us, u.oneCell' = true) (hk : ∀ j u, us[j]? = some u → w.cell? ⟨k, j, none⟩ = some u) :
    Calls Tryz.prog 48 #[.slice (some ⟨g, 0, none⟩) n cap, .int .i64 (i : Int), .slice (some ⟨k, 0, none⟩) 1 1] w fun e w' => ∃ c row, e = .returned (.slice (some ⟨w.heap.size, 0, none⟩) (n + 1) c) ∧ Hid (row.length = c * 2 ∧ n + 1 ≤ c ∧ c ≤ maxLen ∧ row.take (i * 2) = xs.take (i * 2) ∧ w'.heap[w.heap.size]? = some (.cells (splice (splice row (i * 2) us) ((i + 1) * 2) (xs.drop (i * 2))).toArray 89 (0, 0))) ∧ Hid (Below w.heap.size w w') := by
  obtain ⟨i0, hi0, hz0, hz1, hz2⟩ := info_parts infoApplied
  have hxl : xs.length = n * 2 := ho.1
  have hkw : k < w.heap.size := block_lt_of_cell (hk 0 _ (List.getElem?_eq_getElem (by omega)))
  have hgw : g < w.heap.size := (World.ownsRow.lt ho g (by simp [Value.ownBlock])).2
  have hdl : (xs.drop (i * 2)).length = (n - i) * 2 := by rw [List.length_drop, hxl]; omega
  have hsz : (Tryz.prog.info? 89).map (·.size) = some 2 := by kernel_rfl
  have HO : Hid (∀ j u, (xs.take (i * 2))[j]? = some u → w.cell? ⟨g, j, none⟩ = some u) := Lib.hid fun j u hj => by
    rw [List.getElem?_take] at hj
    split at hj
    · rw [World.ownsRow.cellAt ho j (by have := (List.getElem?_eq_some_iff.1 hj).1; omega)]; exact hj
    · cases hj
  have HS : Hid (∀ j v, (xs.drop (i * 2))[j]? = some v → w.cell? ((⟨g, i * 2, none⟩ : Addr).add j) = some v) := Lib.hid fun j v hj => by
    rw [List.getElem?_drop] at hj
    rw [Addr.add_lit, World.ownsRow.cellAt ho _ (by have := (List.getElem?_eq_some_iff.1 hj).1; omega)]; exact hj
  have HX : Hid (∀ v ∈ xs.drop (i * 2), v.oneCell' = true) := Lib.hid fun v hv => hx1 v (List.mem_of_mem_drop hv)
  have HU := Lib.hid hu1
  have HK := Lib.hid hk
  have htl : (xs.take (i * 2)).length = i * 2 := by rw [List.length_take, hxl]; omega
  have hz3 : ((i : Int) == (n : Int)) = false := beq_eq_false_iff_ne.2 (by omega)
  have hw1 : IntKind.i64.wrap ((i : Int) + 1) = (i : Int) + 1 := Go.IntWalk.i64_in _ (by omega)
  have hw2 : IntKind.i64.wrap ((n : Int) + 1) = (n : Int) + 1 := Go.IntWalk.i64_in _ (by omega)
  have hb3 : (i : Int) ≤ (n : Int) := by omega
  have hb1 : (0 : Int) ≤ (i : Int) + 1 := by omega
  have hb8 : (i : Int) ≤ (n : Int) + 1 := by omega
  have hb9 : (0 : Int) ≤ (i : Int) := by omega
  have hb4 : ¬ (cap = i) := by omega
  clear ho hx1 hu1 hk
  go_enter Tryz.func48, Tryz.ntmps48
  go_wp2_with (at_builtin; refine wpList_append_zeros rfl _ _ 27 3 rfl 89 i0 _ 2 _ .i64 .i64 Tryz.underlying27 Tryz.underlying3 hi0 hz0 hz1 hz2 rfl (by decide) _ _ rfl rfl g i cap (n + 1 - i) (n + 1) ?e0 ?e1 ?e2 (xs.take (i * 2)) htl HO.out ?e3 ?e4 ?e5 (by decide) ?_)
  case e0 => omega
  case e1 => first | rfl | (simp; done) | (simp; omega)
  case e2 => omega
  case e3 => omega
  case e4 => omega
  case e5 => omega
  intro c row w1 HR1 HC1 HB1
  have hnc1 := HC1.out.2.1
  have hcm1 := HC1.out.2.2.1
  unfold maxLen at hcm1
  have hrl : row.toList.length = c * 2 := by rw [Array.length_toList]; exact HC1.out.1
  have hs1 := HB1.out.2
  have HU1 : Hid (∀ j v, us[j]? = some v → w1.cell? ((⟨k, 0, none⟩ : Addr).add j) = some v) := Lib.hid fun j v hj => by rw [Addr.add_lit, Nat.zero_add]; exact (HB1.out.1.cell (p := ⟨k, j, none⟩) hkw).trans (HK.out j v hj)
  have hb6 : ¬ (c = i) := by omega
  have hb7 : ¬ (c = i + 1) := by omega
  go_wp2_with (refine wpList_copy_rows (by rfl) _ _ 27 27 rfl 89 2 Tryz.underlying27 hsz _ _ _ _ _ _ rfl rfl w.heap.size (i * 2) row.toList 89 HR1.out us ⟨k, 0, none⟩ ?d1 ?d2 ?d3 HU1.out ?d4 HU.out ?_)
  case d1 => first | rfl | (simp; done) | (simp; omega)
  case d2 => first | rfl | (simp; done) | (simp; omega)
  case d3 => rw [hus, show Nat.min 1 (n + 1 - i) = 1 by simp only [Nat.min_def]; split <;> omega]
  case d4 => rw [hrl, hus]; omega
  intro w2 HR2 HW2
  have hl2 : (splice row.toList (i * 2) us).length = c * 2 := by rw [length_splice _ _ _ (by rw [hrl, hus]; omega), hrl]
  have HB2 : Hid (Below w.heap.size w w2) := Lib.hid (HB1.out.1.trans (grow_below (v := .slice (some ⟨w.heap.size, 0, none⟩) 0 0) (by simpa [Value.ownBlock] using HW2.out) (by simp [Value.ownBlock]) (by omega)))
  have HS2 : Hid (∀ j v, (xs.drop (i * 2))[j]? = some v → w2.cell? ((⟨g, i * 2, none⟩ : Addr).add j) = some v) := Lib.hid fun j v hj => by
    have h := HS.out j v hj
    rw [Addr.add_lit] at h ⊢
    exact (HB2.out.cell (p := ⟨g, i * 2 + j, none⟩) hgw).trans h
  have hs2 := HW2.out.size
  go_wp2
  go_region_law (refine step_copy_rows (by rfl) _ _ 27 27 (by rfl) 89 2 Tryz.underlying27 hsz (some ⟨w.heap.size, (i + 1) * 2, none⟩) (some ⟨g, i * 2, none⟩) (n - i) (c - (i + 1)) (n - i) (cap - i) (by simp [Act.eval, Act.put]) (by simp [Act.eval, Act.put]) w.heap.size ((i + 1) * 2) (splice row.toList (i * 2) us) 89 (by exact HR2.out) (xs.drop (i * 2)) ⟨g, i * 2, none⟩ rfl rfl (by rw [hdl]; congr 1; simp only [Nat.min_def]; split <;> omega) (by exact HS2.out) (by rw [hdl, hl2]; omega) HX.out ?_; intro w3 HR3 HW3)
  all_goals
    go_wp2
    go_ret
    exact ⟨c, row.toList, rfl, Lib.hid ⟨hrl, hnc1, HC1.out.2.2.1, HC1.out.2.2.2, HR3.out⟩, Lib.hid (HB2.out.trans (grow_below (v := .slice (some ⟨w.heap.size, 0, none⟩) 0 0) (by simpa [Value.ownBlock] using grown_drew HW3.out) (by simp [Value.ownBlock]) (by omega)))⟩

theorem insCellsApplied (v : Value) (n : Nat) (xs us : List Value) (k i B : Nat) (tk : TypeId) (w : World) (ho : w.ownsRow B 89 2 v n xs) (hn : n ≤ 1100000) (hi : i ≤ n) (hx1 : ∀ u ∈ xs, u.oneCell' = true) (hus : us.length = 2) (hu1 : ∀ u ∈ us, u.oneCell' = true) (hk : w.heap[k]? = some (.cells us.toArray tk (0, 0))) (hkv : k ∉ v.ownBlock.toList) (hB : B ≤ w.heap.size) :
    Calls Tryz.prog 48 #[v, .int .i64 (i : Int), .slice (some ⟨k, 0, none⟩) 1 1] w fun e w' => ∃ ao cap, e = .returned (.slice ao (n + 1) cap) ∧ w'.ownsRow B 89 2 (.slice ao (n + 1) cap) (n + 1) (xs.take (i * 2) ++ us ++ xs.drop (i * 2)) ∧ w.grownBy w' v.ownBlock ∧ ∀ b ∈ (Value.slice ao (n + 1) cap).ownBlock.toList, b ∈ v.ownBlock.toList ∨ w.heap.size ≤ b := by
  have hkc : ∀ j u, us[j]? = some u → w.cell? ⟨k, j, none⟩ = some u := fun j u hj => by rw [cell_of_row w k j us.toArray tk (0, 0) hk]; simpa using hj
  have hxl : xs.length = n * 2 := ho.1
  by_cases hin : i = n
  · subst hin
    have e1 : xs.take (i * 2) ++ us ++ xs.drop (i * 2) = xs ++ us := by rw [List.take_of_length_le (by omega), List.drop_of_length_le (by omega), List.append_nil]
    rw [e1]
    exact insApplied_end v i xs us k B w ho hn hus hu1 hkc hB
  have hlt : i < n := by omega
  rcases id ho.2 with ⟨rfl, rfl⟩ | ⟨g, cap, cur, rfl, hbg, hg, hnc, hcm, hcs, htake⟩
  · omega
  have hll : (xs.take (i * 2) ++ us ++ xs.drop (i * 2)).length = (n + 1) * 2 := by
    simp only [List.length_append, List.length_take, List.length_drop, hxl, hus]; omega
  by_cases hr : n + 1 ≤ cap
  · refine (insApplied_room g n cap i cur xs us k tk w hg hcs htake hlt hr (by unfold maxLen at hcm; omega) hx1 hus hu1 hk (fun e => hkv (by rw [e]; simp [Value.ownBlock]))).mono ?_
    rintro e w' ⟨rfl, hg', hw'⟩
    obtain ⟨q1, q2⟩ := insert_room (S := 2) (cap := cap) (cur := cur.toList) hlt hr (by rw [Array.length_toList, hcs]) htake hus
    exact ⟨some ⟨g, 0, none⟩, cap, rfl, ⟨hll, .inr ⟨g, cap, _, rfl, hbg, hg'.out, hr, hcm, by simpa using q1, by simpa using q2⟩⟩, hw'.out, fun b hb => .inl hb⟩
  · refine (insApplied_grow g n cap i xs us k B w ho hlt hnc (by omega) hn hx1 hus hu1 hkc).mono ?_
    rintro e w' ⟨c, row, rfl, hr1, hb'⟩
    obtain ⟨r1, r2, r3, r4, r5⟩ := hr1.out
    obtain ⟨q1, q2⟩ := insert_grow (S := 2) hlt r2 r1 hxl r4 hus
    exact ⟨some ⟨w.heap.size, 0, none⟩, c, rfl, ⟨hll, .inr ⟨w.heap.size, c, _, rfl, hB, r5, r2, r3, by simpa using q1, by simpa using q2⟩⟩, grown_of_below hb'.out, fun b hb => .inr (by simp [Value.ownBlock] at hb; omega)⟩

theorem insertGApplied (v : Value) (l : List DApplied) (u : DApplied) (us : List Value) (k i B m m2 : Nat) (tk : TypeId) (w : World) (h : Part (Rep.slice 89 DApplied.rep) B m w [v] l) (hu : Fresh DApplied.rep m2 w us u) (hB : B ≤ m) (hmm : m ≤ m2) (hm : m2 ≤ w.heap.size) (hn : l.length ≤ 1100000) (hi : i ≤ l.length) (hk : w.heap[k]? = some (.cells us.toArray tk (0, 0))) (hkv : k ∉ v.ownBlock.toList) :
    Calls Tryz.prog 48 #[v, .int .i64 (i : Int), .slice (some ⟨k, 0, none⟩) 1 1] w fun e w' => ∃ ao cap, e = .returned (.slice ao (l.length + 1) cap) ∧ Gap (Rep.slice 89 DApplied.rep) B m m2 w' [.slice ao (l.length + 1) cap] (insAt l i u) ∧ Chg v.ownBlock.toList w w' ∧ ∀ b ∈ (Value.slice ao (l.length + 1) cap).ownBlock.toList, b ∈ v.ownBlock.toList ∨ w.heap.size ≤ b := by
  obtain ⟨ts, hl, h1, h2, _, _⟩ := h.owned
  have hlt : l.length = ts.length := by rw [hl, vals_length]
  have hone : ∀ x ∈ cellsOf ts, x.oneCell' = true := fun x hx => by
    obtain ⟨t, ht, hx⟩ := List.mem_flatMap.1 hx
    exact DApplied.rep.one (h1 t ht) x hx
  have hu' := hu
  obtain ⟨fu, r1, _, _⟩ := hu'
  have hus : us.length = 2 := DApplied.rep.len r1
  rw [← hlt] at h2
  refine (insCellsApplied v l.length (cellsOf ts) us k i B tk w h2 hn hi hone hus (DApplied.rep.one r1) hk hkv (by omega)).mono ?_
  rintro e w' ⟨ao, cap, rfl, k1, k2, k3⟩
  refine ⟨ao, cap, rfl, Part.inserted (B' := B) h hu hB hmm hm k2 k3 (fun xs hxs _ => ?_) hi, Chg.of_grown k2, k3⟩
  rw [ownsRow_unique hxs h2]
  exact k1

theorem insertApplied (v : Value) (l : List DApplied) (u : DApplied) (us : List Value) (k i B m : Nat) (tk : TypeId) (w : World) (h : Part (Rep.slice 89 DApplied.rep) B m w [v] l) (hu : Fresh DApplied.rep m w us u) (hB : B ≤ m) (hm : m ≤ w.heap.size) (hn : l.length ≤ 1100000) (hi : i ≤ l.length) (hk : w.heap[k]? = some (.cells us.toArray tk (0, 0))) (hkv : k ∉ v.ownBlock.toList) :
    Calls Tryz.prog 48 #[v, .int .i64 (i : Int), .slice (some ⟨k, 0, none⟩) 1 1] w fun e w' => ∃ ao cap, e = .returned (.slice ao (l.length + 1) cap) ∧ Fresh (Rep.slice 89 DApplied.rep) B w' [.slice ao (l.length + 1) cap] (insAt l i u) ∧ Chg v.ownBlock.toList w w' ∧ ∀ b ∈ (Value.slice ao (l.length + 1) cap).ownBlock.toList, b ∈ v.ownBlock.toList ∨ w.heap.size ≤ b := by
  refine (insertGApplied v l u us k i B m m tk w h hu hB (Nat.le_refl _) hm hn hi hk hkv).mono ?_
  rintro e w' ⟨ao, cap, rfl, k1, k2, k3⟩
  exact ⟨ao, cap, rfl, k1.fresh, k2, k3⟩

end Go.Proofs.YtlfebehpmefioaaGreat
