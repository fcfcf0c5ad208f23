/-
  copyServer, copySync, copyReplica.
-/
import Derived.Test.YtgicglmcapnogaaGreatServerOwn
import Derived.Test.YtgicglmcapnogaaGreatCopyStore
import Derived.Test.YtgicglmcapnogaaGreatOutboxes
namespace Go.Proofs.YtgicglmcapnogaaGreat
open Go.RowKit

theorem litN {w : World} {k : Nat} {o : Obj} (hk : k = w.heap.size) : (w.alloc o).heap[k]? = some o := by subst hk; exact heap_alloc_new w o
theorem litA {w : World} {k : Nat} {o ob : Obj} (h : w.heap[k]? = some o) : (w.alloc ob).heap[k]? = some o :=
  (Below.heap_alloc w ob k (Array.getElem?_eq_some_iff.1 h).1).trans h
theorem litD {w : World} {k : Nat} {o : Obj} (h : w.heap[k]? = some o) : w.drew.heap[k]? = some o := h
theorem litB {w w' : World} {k : Nat} {o : Obj} (hb : Below w.heap.size w w') (h : w.heap[k]? = some o) : w'.heap[k]? = some o := (hb.block k (Array.getElem?_eq_some_iff.1 h).1).trans h
theorem litC {w w' : World} {k : Nat} {o : Obj} {fq : List Nat} (hc : Chg fq w w') (h : w.heap[k]? = some o) (hn : k ∉ fq) : w'.heap[k]? = some o := (hc.block k (Array.getElem?_eq_some_iff.1 h).1 hn).trans h
theorem partA {α : Type} {R : Rep α} {lo hi : Nat} {w : World} {cs : List Value} {x : α} {o : Obj} (h : Part R lo hi w cs x) : Part R lo hi (w.alloc o) cs x := h.below (belA belR)
theorem partD {α : Type} {R : Rep α} {lo hi : Nat} {w : World} {cs : List Value} {x : α} (h : Part R lo hi w cs x) : Part R lo hi w.drew cs x := h.below (belD belR)
theorem Part.named {α : Type} {R : Rep α} {lo hi : Nat} {w : World} {cs : List Value} {x : α} (h : Part R lo hi w cs x) : ∃ A C, A = lo ∧ C = hi ∧ Part R A C w cs x := ⟨lo, hi, rfl, rfl, h⟩
theorem own_lit_list {k n c : Nat} : (Value.slice (some ⟨k, 0, none⟩) n c).ownBlock.toList = [k] := rfl
theorem freshD {α : Type} {R : Rep α} {B : Nat} {w : World} {cs : List Value} {x : α} (h : Fresh R B w cs x) : Fresh R B w.drew cs x := h.below (belD belR)
theorem freshA {α : Type} {R : Rep α} {B : Nat} {w : World} {cs : List Value} {x : α} {o : Obj} (h : Fresh R B w cs x) : Fresh R B (w.alloc o) cs x := h.below (belA belR)

set_option maxRecDepth 100000 in
set_option maxHeartbeats 8000000 in
theorem implCopyServer (cs : List Value) (x : DServer) (w : World) (h : Reads DServer.rep w cs x) (hs : SmallServer x 1049000) :
    Calls Tryz.prog 43 #[.agg cs.toArray] w fun e w' => ∃ ds, e = .returned (.agg ds.toArray) ∧ Fresh DServer.rep w.heap.size w' ds x ∧ Below w.heap.size w w' := by
  obtain ⟨fp_q, h⟩ := h
  obtain ⟨q_v1, q_v2, q_v3, q_f1, q_f2, q_f3, rfl, _, q_s0, q_r1, q_r2, q_r3⟩ := DServer.rd.1 h
  obtain ⟨q_a1, q_c1, rfl, q_hm1, q_lc1, q_hu1⟩ := slice_open q_r1; clear q_hu1
  have q_K1 : Hid (Reads (Rep.slice 134 DItem.rep) w [.slice q_a1 x.store.items.length q_c1] x.store.items) := ⟨_, q_r1⟩
  obtain ⟨q_a2, q_c2, rfl, q_hm2, q_lc2, q_hu2⟩ := slice_open q_r2; clear q_hu2
  have q_K2 : Hid (Reads (Rep.slice 110 DApplied.rep) w [.slice q_a2 x.applied.length q_c2] x.applied) := ⟨_, q_r2⟩
  obtain ⟨q_a3, q_c3, rfl, q_hm3, q_lc3, q_hu3⟩ := slice_open q_r3; clear q_hu3
  have q_K3 : Hid (Reads (Rep.slice 72 DWrite.rep) w [.slice q_a3 x.changes.length q_c3] x.changes) := ⟨_, q_r3⟩
  clear q_r1 q_r2 q_r3 h
  have HSt : Hid (Reads DStore.rep w [.string x.store.name, .slice q_a1 x.store.items.length q_c1, .int .i64 x.store.auto] x.store) := by
    obtain ⟨f, r⟩ := q_K1.out
    exact ⟨f, DStore.rd.2 ⟨_, _, rfl, rfl, q_s0, r⟩⟩
  have hs1 := hs.applied
  have hs2 := hs.changes
  obtain ⟨i0, hi, hz0, hz1, hz2⟩ := info_parts infoApplied
  obtain ⟨j0, hj, hy0, hy1, hy2⟩ := info_parts infoWrite
  go_enter Tryz.func43, Tryz.ntmps43
  go_wp2_with fail
  refine settle (fun W => WB W w.heap.size #[.string x.store.name, .slice q_a1 x.store.items.length q_c1, .int .i64 x.store.auto, .slice q_a2 x.applied.length q_c2, .slice q_a3 x.changes.length q_c3] ∧ WB W (w.heap.size + 1) #[.string ⟨#[]⟩, .slice none 0 0, .int .i64 0, .slice none 0 0, .slice none 0 0] ∧ Below w.heap.size w W ∧ w.heap.size + 2 ≤ W.heap.size) ⟨(WB.at rfl).growA, WB.at (by simp), (by repeat (first | with_reducible exact belR | with_reducible apply belA | (with_reducible refine belS ?_ ?_; focus (first | omega | (simp; done) | (simp; omega))) | with_reducible apply belN | with_reducible apply belD | with_reducible assumption)), by simp⟩ ?_
  rintro wr ⟨hx, ht, hb, hz⟩
  have HX := Lib.hid hx
  have HT := Lib.hid ht
  have HB := Lib.hid hb
  clear hx ht hb
  have HS : Hid (∀ w', Chg [w.heap.size + 1] wr w' → (∀ o, w'.cell? ⟨w.heap.size, o, none⟩ = #[.string x.store.name, .slice q_a1 x.store.items.length q_c1, .int .i64 x.store.auto, .slice q_a2 x.applied.length q_c2, .slice q_a3 x.changes.length q_c3][o]?) ∧ Chg [w.heap.size + 1] wr w') := Lib.hid fun w' hw' => ⟨(HX.out.chg hw' (by simp)).cell, hw'⟩
  have ⟨c_HX, z_HX, f_HX⟩ := HX.out
  have ⟨c_HT, z_HT, f_HT⟩ := HT.out
  go_region_held3 (fun w' => (∀ o, w'.cell? ⟨w.heap.size, o, none⟩ = #[.string x.store.name, .slice q_a1 x.store.items.length q_c1, .int .i64 x.store.auto, .slice q_a2 x.applied.length q_c2, .slice q_a3 x.changes.length q_c3][o]?) ∧ Chg [w.heap.size + 1] wr w')
    (first | (refine HS.out _ ?_; (first | (with_reducible refine Chg.set (by simp) ?_; with_reducible refine Chg.set (by simp) ?_; with_reducible refine Chg.set (by simp) ?_; with_reducible refine Chg.set (by simp) ?_; with_reducible refine Chg.set (by simp) ?_; refine Chg.of_below (B := wr.heap.size) (by (repeat (first | with_reducible exact belR | (with_reducible refine belAB ?_ ?_; focus (first | omega | (simp; done) | (simp; omega))) | with_reducible apply belN | with_reducible apply belD | with_reducible assumption)); done) (Nat.le_refl _)) | (refine Chg.of_below (B := wr.heap.size) (by (repeat (first | with_reducible exact belR | (with_reducible refine belAB ?_ ?_; focus (first | omega | (simp; done) | (simp; omega))) | with_reducible apply belN | with_reducible apply belD | with_reducible assumption)); done) (Nat.le_refl _)) | fail)) | fail)
    (first
      | (go_at_call 75; refine (implCopyStore _ x.store _ (HSt.out.below (HB.out.trans (Below.mono (B := wr.heap.size) (by repeat (first | with_reducible exact belR | (with_reducible refine belAB ?_ ?_; focus (first | omega | (simp; done) | (simp; omega))) | (with_reducible refine belS ?_ ?_; focus (first | omega | (simp; done) | (simp; omega))) | with_reducible apply belN | with_reducible apply belD | with_reducible assumption)) (by omega)))) hs.store).mono ?_; rintro e w2 ⟨ds, rfl, hf2, hb2⟩; obtain ⟨a1, c1, rfl, hfw2, _⟩ := DStore.fopen hf2; obtain ⟨A, C, hAe, hCe, hp2⟩ := (hf2.partAt (Nat.le_refl _)).named; have hst2 := hb2; have hq2 : Below wr.heap.size wr w2 := (Below.trans (by repeat (first | with_reducible exact belR | (with_reducible refine belAB ?_ ?_; focus (first | omega | (simp; done) | (simp; omega))) | (with_reducible refine belS ?_ ?_; focus (first | omega | (simp; done) | (simp; omega))) | with_reducible apply belN | with_reducible apply belD | with_reducible assumption)) (hb2.mono (by first | omega | (simp; done) | (simp; omega)))); have hzz2 := hb2.size; have hwt2 := HT.out.grow hq2 (by omega); have ⟨ct2, zt2, ft2⟩ := hwt2; (try simp at hzz2 hAe hCe); clear hb2 hf2 hfw2)
      | ((refine DApplied.flat.step_growD _ (by rfl) (.tmp 6) (.tmp 8) 43 43 (by rfl) wr.heap.size 110 i0 _ _ Tryz.underlying43 Tryz.underlying43 hi hz0 hz1 hz2 rfl _ [] (by rfl) ?ownA _ x.applied (by rfl) ?rdA x.applied.length ?lmA ?lnA (by decide) ?bsA ?_); (case ownA => (refine (own_lit0 ?_).mono ?_; (focus (repeat (first | exact litN (by first | rfl | (simp; done)) | with_reducible apply litA | with_reducible apply litD | with_reducible apply litB hst2 | (refine litC hc4 ?_ (by first | (simp; done) | (simp; omega) | omega))))); (first | exact Nat.le_refl _ | omega | (simp; done) | (simp; omega)))); (case rdA => exact q_K2.out.below (HB.out.trans (Below.mono (B := wr.heap.size) (by repeat (first | with_reducible exact belR | (with_reducible refine belAB ?_ ?_; focus (first | omega | (simp; done) | (simp; omega))) | (with_reducible refine belS ?_ ?_; focus (first | omega | (simp; done) | (simp; omega))) | with_reducible apply belN | with_reducible apply belD | with_reducible assumption)) (by omega)))); (case lmA => simp); (case lnA => omega); (case bsA => first | exact Nat.le_refl _ | omega | (simp; done) | (simp; omega)); (intro ao3 cap3 w3 hf3 hc3 hg3 hv3); have hq3 : Below wr.heap.size wr w3 := Below.trans (by repeat (first | with_reducible exact belR | (with_reducible refine belAB ?_ ?_; focus (first | omega | (simp; done) | (simp; omega))) | (with_reducible refine belS ?_ ?_; focus (first | omega | (simp; done) | (simp; omega))) | with_reducible apply belN | with_reducible apply belD | with_reducible assumption)) hg3; have hzz3 := hg3.size; have hwt3 := HT.out.grow hq3 (by omega); have ⟨ct3, zt3, ft3⟩ := hwt3; (try simp at hzz3); (change ∀ b ∈ (Value.slice ao3 x.applied.length cap3).ownBlock.toList, b ∈ (Value.slice (some ⟨_, 0, none⟩) 0 0).ownBlock.toList ∨ b = _ at hv3); (change Chg (Value.slice (some ⟨_, 0, none⟩) 0 0).ownBlock.toList _ _ at hc3); (rw [own_lit_list] at hc3); (simp only [own_lit_list, List.mem_singleton] at hv3); (try simp at hv3); clear hg3)
      | ((refine DWrite.flat.step_growD _ (by rfl) (.tmp 10) (.tmp 12) 35 35 (by rfl) wr.heap.size 72 j0 _ _ Tryz.underlying35 Tryz.underlying35 hj hy0 hy1 hy2 rfl _ [] (by rfl) ?ownB _ x.changes (by rfl) ?rdB x.changes.length ?lmB ?lnB (by decide) ?bsB ?_); (case ownB => (refine (own_lit0 ?_).mono ?_; (focus (repeat (first | exact litN (by first | rfl | (simp; done)) | with_reducible apply litA | with_reducible apply litD | with_reducible apply litB hst2 | (refine litC hc3 ?_ (by first | (simp; done) | (simp; omega) | omega))))); (first | exact Nat.le_refl _ | omega | (simp; done) | (simp; omega)))); (case rdB => exact q_K3.out.below (HB.out.trans (Below.mono (B := wr.heap.size) (by repeat (first | with_reducible exact belR | (with_reducible refine belAB ?_ ?_; focus (first | omega | (simp; done) | (simp; omega))) | (with_reducible refine belS ?_ ?_; focus (first | omega | (simp; done) | (simp; omega))) | with_reducible apply belN | with_reducible apply belD | with_reducible assumption)) (by omega)))); (case lmB => simp); (case lnB => omega); (case bsB => first | exact Nat.le_refl _ | omega | (simp; done) | (simp; omega)); (intro ao4 cap4 w4 hf4 hc4 hg4 hv4); have hq4 : Below wr.heap.size wr w4 := Below.trans (by repeat (first | with_reducible exact belR | (with_reducible refine belAB ?_ ?_; focus (first | omega | (simp; done) | (simp; omega))) | (with_reducible refine belS ?_ ?_; focus (first | omega | (simp; done) | (simp; omega))) | with_reducible apply belN | with_reducible apply belD | with_reducible assumption)) hg4; have hzz4 := hg4.size; have hwt4 := HT.out.grow hq4 (by omega); have ⟨ct4, zt4, ft4⟩ := hwt4; (try simp at hzz4); (change ∀ b ∈ (Value.slice ao4 x.changes.length cap4).ownBlock.toList, b ∈ (Value.slice (some ⟨_, 0, none⟩) 0 0).ownBlock.toList ∨ b = _ at hv4); (change Chg (Value.slice (some ⟨_, 0, none⟩) 0 0).ownBlock.toList _ _ at hc4); (rw [own_lit_list] at hc4); (simp only [own_lit_list, List.mem_singleton] at hv4); (try simp at hv4); clear hg4)
      | fail)
  all_goals
    have hf3' : Fresh (Rep.slice 110 DApplied.rep) wr.heap.size w3 [.slice ao3 x.applied.length cap3] x.applied := hf3
    have hl3 := hf3.ownlt
    have hl4 := hf4.ownlt
    have e1 : ∀ b ∈ (Value.slice ao3 x.applied.length cap3).ownBlock.toList, (b < A ∨ C ≤ b) := fun b hb => by have h1 := hl3 b hb; have h2 := hv3 b (by first | exact hb | simpa using hb); omega
    have e2 : ∀ b ∈ (Value.slice ao4 x.changes.length cap4).ownBlock.toList, (b < A ∨ C ≤ b) ∧ b ∉ (Value.slice ao3 x.applied.length cap3).ownBlock.toList := fun b hb => ⟨by have h1 := hl4 b hb; have h2 := hv4 b (by first | exact hb | simpa using hb); omega, fun hb' => by have h1 := hl4 b hb; have h2 := hv4 b (by first | exact hb | simpa using hb); have h3 := hl3 b hb'; have h4 := hv3 b (by first | exact hb' | simpa using hb'); omega⟩
    have HP : Part DStore.rep A C w4 [.string x.store.name, .slice a1 x.store.items.length c1, .int .i64 x.store.auto] x.store := by
      repeat (first | with_reducible exact hp2 | with_reducible apply partA | with_reducible apply partD | (refine Part.off ?_ hc4 (by intro b hb; simp at hb; subst hb; omega)) | (refine Part.off ?_ hc3 (by intro b hb; simp at hb; subst hb; omega)))
    have HF3 : Fresh (Rep.slice 110 DApplied.rep) wr.heap.size w4 [.slice ao3 x.applied.length cap3] x.applied := by
      repeat (first | with_reducible exact hf3' | with_reducible apply freshA | with_reducible apply freshD | (refine DApplied.flat.offBlocks ?_ hc4 (fun b hb hm => by simp at hm; subst hm; have h3 := hl3 _ hb; have h4 := hv3 _ (by first | exact hb | simpa using hb); omega)))
    have HF4 : Fresh (Rep.slice 72 DWrite.rep) wr.heap.size w4 [.slice ao4 x.changes.length cap4] x.changes := hf4
    have HG := Lib.hid ((server_glue HP HF3 HF4 (by omega) e1 e2).mono (B' := w.heap.size + 2) (by omega))
    have HB4 := Lib.hid (HB.out.trans (hq4.mono (by omega)))
    clear HP HF3 HF4 e1 e2 hl3 hl4 hf3 hf3' hf4 hc3 hc4 hv3 hv4 hp2 hq4 hq3 hq2 hst2
    go_wp2
    refine bodyPost_ret (v := .agg #[.string x.store.name, .slice a1 x.store.items.length c1, .int .i64 x.store.auto, .slice ao3 x.applied.length cap3, .slice ao4 x.changes.length cap4]) (by simp [results, Tryz.results43, go_sem, ct4]) rfl ⟨_, rfl, ?_, ?_⟩
    · exact (Fresh.mono (B := (w.heap.size + 2)) (by repeat (first | with_reducible exact HG.out | with_reducible refine Fresh.setLow ?_ (by omega) | with_reducible refine Fresh.drew ?_)) (by omega))
    · have y := HB4.out
      exact (by repeat (first | with_reducible exact belR | (with_reducible refine belAB ?_ ?_; focus (first | omega | (simp; done) | (simp; omega))) | (with_reducible refine belS ?_ ?_; focus (first | omega | (simp; done) | (simp; omega))) | with_reducible apply belN | with_reducible apply belD | with_reducible assumption))


set_option maxRecDepth 100000 in
set_option maxHeartbeats 8000000 in
theorem specCopyServer (cs : List Value) (x : DServer) (w : World) (h : Reads DServer.rep w cs x) (hs : SmallServer x 1049000) :
    Calls Tryz.prog 33 #[.agg cs.toArray] w fun e w' => ∃ ds, e = .returned (.agg ds.toArray) ∧ Fresh DServer.rep w.heap.size w' ds x ∧ Below w.heap.size w w' := by
  obtain ⟨fp_q, h⟩ := h
  obtain ⟨q_v1, q_v2, q_v3, q_f1, q_f2, q_f3, rfl, _, q_s0, q_r1, q_r2, q_r3⟩ := DServer.rd.1 h
  obtain ⟨q_a1, q_c1, rfl, q_hm1, q_lc1, q_hu1⟩ := slice_open q_r1; clear q_hu1
  have q_K1 : Hid (Reads (Rep.slice 134 DItem.rep) w [.slice q_a1 x.store.items.length q_c1] x.store.items) := ⟨_, q_r1⟩
  obtain ⟨q_a2, q_c2, rfl, q_hm2, q_lc2, q_hu2⟩ := slice_open q_r2; clear q_hu2
  have q_K2 : Hid (Reads (Rep.slice 110 DApplied.rep) w [.slice q_a2 x.applied.length q_c2] x.applied) := ⟨_, q_r2⟩
  obtain ⟨q_a3, q_c3, rfl, q_hm3, q_lc3, q_hu3⟩ := slice_open q_r3; clear q_hu3
  have q_K3 : Hid (Reads (Rep.slice 72 DWrite.rep) w [.slice q_a3 x.changes.length q_c3] x.changes) := ⟨_, q_r3⟩
  clear q_r1 q_r2 q_r3 h
  have HSt : Hid (Reads DStore.rep w [.string x.store.name, .slice q_a1 x.store.items.length q_c1, .int .i64 x.store.auto] x.store) := by
    obtain ⟨f, r⟩ := q_K1.out
    exact ⟨f, DStore.rd.2 ⟨_, _, rfl, rfl, q_s0, r⟩⟩
  have hs1 := hs.applied
  have hs2 := hs.changes
  obtain ⟨i0, hi, hz0, hz1, hz2⟩ := info_parts infoApplied
  obtain ⟨j0, hj, hy0, hy1, hy2⟩ := info_parts infoWrite
  go_enter Tryz.func33, Tryz.ntmps33
  go_wp2_with fail
  refine settle (fun W => WB W w.heap.size #[.string x.store.name, .slice q_a1 x.store.items.length q_c1, .int .i64 x.store.auto, .slice q_a2 x.applied.length q_c2, .slice q_a3 x.changes.length q_c3] ∧ WB W (w.heap.size + 1) #[.string ⟨#[]⟩, .slice none 0 0, .int .i64 0, .slice none 0 0, .slice none 0 0] ∧ Below w.heap.size w W ∧ w.heap.size + 2 ≤ W.heap.size) ⟨(WB.at rfl).growA, WB.at (by simp), (by repeat (first | with_reducible exact belR | with_reducible apply belA | (with_reducible refine belS ?_ ?_; focus (first | omega | (simp; done) | (simp; omega))) | with_reducible apply belN | with_reducible apply belD | with_reducible assumption)), by simp⟩ ?_
  rintro wr ⟨hx, ht, hb, hz⟩
  have HX := Lib.hid hx
  have HT := Lib.hid ht
  have HB := Lib.hid hb
  clear hx ht hb
  have HS : Hid (∀ w', Chg [w.heap.size + 1] wr w' → (∀ o, w'.cell? ⟨w.heap.size, o, none⟩ = #[.string x.store.name, .slice q_a1 x.store.items.length q_c1, .int .i64 x.store.auto, .slice q_a2 x.applied.length q_c2, .slice q_a3 x.changes.length q_c3][o]?) ∧ Chg [w.heap.size + 1] wr w') := Lib.hid fun w' hw' => ⟨(HX.out.chg hw' (by simp)).cell, hw'⟩
  have ⟨c_HX, z_HX, f_HX⟩ := HX.out
  have ⟨c_HT, z_HT, f_HT⟩ := HT.out
  go_region_held3 (fun w' => (∀ o, w'.cell? ⟨w.heap.size, o, none⟩ = #[.string x.store.name, .slice q_a1 x.store.items.length q_c1, .int .i64 x.store.auto, .slice q_a2 x.applied.length q_c2, .slice q_a3 x.changes.length q_c3][o]?) ∧ Chg [w.heap.size + 1] wr w')
    (first | (refine HS.out _ ?_; (first | (with_reducible refine Chg.set (by simp) ?_; with_reducible refine Chg.set (by simp) ?_; with_reducible refine Chg.set (by simp) ?_; with_reducible refine Chg.set (by simp) ?_; with_reducible refine Chg.set (by simp) ?_; refine Chg.of_below (B := wr.heap.size) (by (repeat (first | with_reducible exact belR | (with_reducible refine belAB ?_ ?_; focus (first | omega | (simp; done) | (simp; omega))) | with_reducible apply belN | with_reducible apply belD | with_reducible assumption)); done) (Nat.le_refl _)) | (refine Chg.of_below (B := wr.heap.size) (by (repeat (first | with_reducible exact belR | (with_reducible refine belAB ?_ ?_; focus (first | omega | (simp; done) | (simp; omega))) | with_reducible apply belN | with_reducible apply belD | with_reducible assumption)); done) (Nat.le_refl _)) | fail)) | fail)
    (first
      | (go_at_call 66; refine (specCopyStore _ x.store _ (HSt.out.below (HB.out.trans (Below.mono (B := wr.heap.size) (by repeat (first | with_reducible exact belR | (with_reducible refine belAB ?_ ?_; focus (first | omega | (simp; done) | (simp; omega))) | (with_reducible refine belS ?_ ?_; focus (first | omega | (simp; done) | (simp; omega))) | with_reducible apply belN | with_reducible apply belD | with_reducible assumption)) (by omega)))) hs.store).mono ?_; rintro e w2 ⟨ds, rfl, hf2, hb2⟩; obtain ⟨a1, c1, rfl, hfw2, _⟩ := DStore.fopen hf2; obtain ⟨A, C, hAe, hCe, hp2⟩ := (hf2.partAt (Nat.le_refl _)).named; have hst2 := hb2; have hq2 : Below wr.heap.size wr w2 := (Below.trans (by repeat (first | with_reducible exact belR | (with_reducible refine belAB ?_ ?_; focus (first | omega | (simp; done) | (simp; omega))) | (with_reducible refine belS ?_ ?_; focus (first | omega | (simp; done) | (simp; omega))) | with_reducible apply belN | with_reducible apply belD | with_reducible assumption)) (hb2.mono (by first | omega | (simp; done) | (simp; omega)))); have hzz2 := hb2.size; have hwt2 := HT.out.grow hq2 (by omega); have ⟨ct2, zt2, ft2⟩ := hwt2; (try simp at hzz2 hAe hCe); clear hb2 hf2 hfw2)
      | ((refine DApplied.flat.step_growD _ (by rfl) (.tmp 6) (.tmp 8) 43 43 (by rfl) wr.heap.size 110 i0 _ _ Tryz.underlying43 Tryz.underlying43 hi hz0 hz1 hz2 rfl _ [] (by rfl) ?ownA _ x.applied (by rfl) ?rdA x.applied.length ?lmA ?lnA (by decide) ?bsA ?_); (case ownA => (refine (own_lit0 ?_).mono ?_; (focus (repeat (first | exact litN (by first | rfl | (simp; done)) | with_reducible apply litA | with_reducible apply litD | with_reducible apply litB hst2 | (refine litC hc4 ?_ (by first | (simp; done) | (simp; omega) | omega))))); (first | exact Nat.le_refl _ | omega | (simp; done) | (simp; omega)))); (case rdA => exact q_K2.out.below (HB.out.trans (Below.mono (B := wr.heap.size) (by repeat (first | with_reducible exact belR | (with_reducible refine belAB ?_ ?_; focus (first | omega | (simp; done) | (simp; omega))) | (with_reducible refine belS ?_ ?_; focus (first | omega | (simp; done) | (simp; omega))) | with_reducible apply belN | with_reducible apply belD | with_reducible assumption)) (by omega)))); (case lmA => simp); (case lnA => omega); (case bsA => first | exact Nat.le_refl _ | omega | (simp; done) | (simp; omega)); (intro ao3 cap3 w3 hf3 hc3 hg3 hv3); have hq3 : Below wr.heap.size wr w3 := Below.trans (by repeat (first | with_reducible exact belR | (with_reducible refine belAB ?_ ?_; focus (first | omega | (simp; done) | (simp; omega))) | (with_reducible refine belS ?_ ?_; focus (first | omega | (simp; done) | (simp; omega))) | with_reducible apply belN | with_reducible apply belD | with_reducible assumption)) hg3; have hzz3 := hg3.size; have hwt3 := HT.out.grow hq3 (by omega); have ⟨ct3, zt3, ft3⟩ := hwt3; (try simp at hzz3); (change ∀ b ∈ (Value.slice ao3 x.applied.length cap3).ownBlock.toList, b ∈ (Value.slice (some ⟨_, 0, none⟩) 0 0).ownBlock.toList ∨ b = _ at hv3); (change Chg (Value.slice (some ⟨_, 0, none⟩) 0 0).ownBlock.toList _ _ at hc3); (rw [own_lit_list] at hc3); (simp only [own_lit_list, List.mem_singleton] at hv3); (try simp at hv3); clear hg3)
      | ((refine DWrite.flat.step_growD _ (by rfl) (.tmp 10) (.tmp 12) 35 35 (by rfl) wr.heap.size 72 j0 _ _ Tryz.underlying35 Tryz.underlying35 hj hy0 hy1 hy2 rfl _ [] (by rfl) ?ownB _ x.changes (by rfl) ?rdB x.changes.length ?lmB ?lnB (by decide) ?bsB ?_); (case ownB => (refine (own_lit0 ?_).mono ?_; (focus (repeat (first | exact litN (by first | rfl | (simp; done)) | with_reducible apply litA | with_reducible apply litD | with_reducible apply litB hst2 | (refine litC hc3 ?_ (by first | (simp; done) | (simp; omega) | omega))))); (first | exact Nat.le_refl _ | omega | (simp; done) | (simp; omega)))); (case rdB => exact q_K3.out.below (HB.out.trans (Below.mono (B := wr.heap.size) (by repeat (first | with_reducible exact belR | (with_reducible refine belAB ?_ ?_; focus (first | omega | (simp; done) | (simp; omega))) | (with_reducible refine belS ?_ ?_; focus (first | omega | (simp; done) | (simp; omega))) | with_reducible apply belN | with_reducible apply belD | with_reducible assumption)) (by omega)))); (case lmB => simp); (case lnB => omega); (case bsB => first | exact Nat.le_refl _ | omega | (simp; done) | (simp; omega)); (intro ao4 cap4 w4 hf4 hc4 hg4 hv4); have hq4 : Below wr.heap.size wr w4 := Below.trans (by repeat (first | with_reducible exact belR | (with_reducible refine belAB ?_ ?_; focus (first | omega | (simp; done) | (simp; omega))) | (with_reducible refine belS ?_ ?_; focus (first | omega | (simp; done) | (simp; omega))) | with_reducible apply belN | with_reducible apply belD | with_reducible assumption)) hg4; have hzz4 := hg4.size; have hwt4 := HT.out.grow hq4 (by omega); have ⟨ct4, zt4, ft4⟩ := hwt4; (try simp at hzz4); (change ∀ b ∈ (Value.slice ao4 x.changes.length cap4).ownBlock.toList, b ∈ (Value.slice (some ⟨_, 0, none⟩) 0 0).ownBlock.toList ∨ b = _ at hv4); (change Chg (Value.slice (some ⟨_, 0, none⟩) 0 0).ownBlock.toList _ _ at hc4); (rw [own_lit_list] at hc4); (simp only [own_lit_list, List.mem_singleton] at hv4); (try simp at hv4); clear hg4)
      | fail)
  all_goals
    have hf3' : Fresh (Rep.slice 110 DApplied.rep) wr.heap.size w3 [.slice ao3 x.applied.length cap3] x.applied := hf3
    have hl3 := hf3.ownlt
    have hl4 := hf4.ownlt
    have e1 : ∀ b ∈ (Value.slice ao3 x.applied.length cap3).ownBlock.toList, (b < A ∨ C ≤ b) := fun b hb => by have h1 := hl3 b hb; have h2 := hv3 b (by first | exact hb | simpa using hb); omega
    have e2 : ∀ b ∈ (Value.slice ao4 x.changes.length cap4).ownBlock.toList, (b < A ∨ C ≤ b) ∧ b ∉ (Value.slice ao3 x.applied.length cap3).ownBlock.toList := fun b hb => ⟨by have h1 := hl4 b hb; have h2 := hv4 b (by first | exact hb | simpa using hb); omega, fun hb' => by have h1 := hl4 b hb; have h2 := hv4 b (by first | exact hb | simpa using hb); have h3 := hl3 b hb'; have h4 := hv3 b (by first | exact hb' | simpa using hb'); omega⟩
    have HP : Part DStore.rep A C w4 [.string x.store.name, .slice a1 x.store.items.length c1, .int .i64 x.store.auto] x.store := by
      repeat (first | with_reducible exact hp2 | with_reducible apply partA | with_reducible apply partD | (refine Part.off ?_ hc4 (by intro b hb; simp at hb; subst hb; omega)) | (refine Part.off ?_ hc3 (by intro b hb; simp at hb; subst hb; omega)))
    have HF3 : Fresh (Rep.slice 110 DApplied.rep) wr.heap.size w4 [.slice ao3 x.applied.length cap3] x.applied := by
      repeat (first | with_reducible exact hf3' | with_reducible apply freshA | with_reducible apply freshD | (refine DApplied.flat.offBlocks ?_ hc4 (fun b hb hm => by simp at hm; subst hm; have h3 := hl3 _ hb; have h4 := hv3 _ (by first | exact hb | simpa using hb); omega)))
    have HF4 : Fresh (Rep.slice 72 DWrite.rep) wr.heap.size w4 [.slice ao4 x.changes.length cap4] x.changes := hf4
    have HG := Lib.hid ((server_glue HP HF3 HF4 (by omega) e1 e2).mono (B' := w.heap.size + 2) (by omega))
    have HB4 := Lib.hid (HB.out.trans (hq4.mono (by omega)))
    clear HP HF3 HF4 e1 e2 hl3 hl4 hf3 hf3' hf4 hc3 hc4 hv3 hv4 hp2 hq4 hq3 hq2 hst2
    go_wp2
    refine bodyPost_ret (v := .agg #[.string x.store.name, .slice a1 x.store.items.length c1, .int .i64 x.store.auto, .slice ao3 x.applied.length cap3, .slice ao4 x.changes.length cap4]) (by simp [results, Tryz.results33, go_sem, ct4]) rfl ⟨_, rfl, ?_, ?_⟩
    · exact (Fresh.mono (B := (w.heap.size + 2)) (by repeat (first | with_reducible exact HG.out | with_reducible refine Fresh.setLow ?_ (by omega) | with_reducible refine Fresh.drew ?_)) (by omega))
    · have y := HB4.out
      exact (by repeat (first | with_reducible exact belR | (with_reducible refine belAB ?_ ?_; focus (first | omega | (simp; done) | (simp; omega))) | (with_reducible refine belS ?_ ?_; focus (first | omega | (simp; done) | (simp; omega))) | with_reducible apply belN | with_reducible apply belD | with_reducible assumption))


theorem DSync.fmk {B : Nat} {w : World} {v : Value} {x : DSync} (h : Fresh (Rep.slice 72 DWrite.rep) B w [v] x.outbox.writes) : Fresh DSync.rep B w [.int .i64 x.outbox.device, .int .i64 x.outbox.next, v, .int .i64 x.tries, .int .i64 x.waitUntil] x :=
  DSync.fresh ((DOutbox.fmk h).partAt (Nat.le_refl _)) (Nat.le_refl _)
theorem DSync.fopen {B : Nat} {w : World} {cs : List Value} {x : DSync} (h : Fresh DSync.rep B w cs x) :
    ∃ a1 c1, cs = [.int .i64 x.outbox.device, .int .i64 x.outbox.next, .slice a1 x.outbox.writes.length c1, .int .i64 x.tries, .int .i64 x.waitUntil] ∧ Fresh (Rep.slice 72 DWrite.rep) B w [.slice a1 x.outbox.writes.length c1] x.outbox.writes := by
  obtain ⟨fp, h, hn, hg⟩ := h
  obtain ⟨v1, f1, rfl, rfl, r1⟩ := DSync.rd.1 h
  obtain ⟨a1, c1, rfl, _⟩ := slice_open r1
  exact ⟨a1, c1, rfl, _, r1, hn, hg⟩

set_option maxRecDepth 100000 in
set_option maxHeartbeats 1600000 in
theorem implCopySync (cs : List Value) (x : DSync) (w : World) (h : Reads DSync.rep w cs x) (hs : x.outbox.writes.length ≤ 1048600) :
    Calls Tryz.prog 42 #[.agg cs.toArray] w fun e w' => ∃ ds, e = .returned (.agg ds.toArray) ∧ Fresh DSync.rep w.heap.size w' ds x ∧ Below w.heap.size w w' := by
  obtain ⟨fp_q, h⟩ := h
  obtain ⟨q_v1, q_f1, rfl, _, q_r1⟩ := DSync.rd.1 h
  obtain ⟨q_a1, q_c1, rfl, q_hm1, q_lc1, q_hu1⟩ := slice_open q_r1; clear q_hu1
  have q_K1 : Hid (Reads (Rep.slice 72 DWrite.rep) w [.slice q_a1 x.outbox.writes.length q_c1] x.outbox.writes) := ⟨_, q_r1⟩
  clear q_r1 h
  have HOb : Hid (Reads DOutbox.rep w [.int .i64 x.outbox.device, .int .i64 x.outbox.next, .slice q_a1 x.outbox.writes.length q_c1] x.outbox) := by
    obtain ⟨f, r⟩ := q_K1.out
    exact ⟨f, DOutbox.rd.2 ⟨_, _, rfl, rfl, r⟩⟩
  go_enter Tryz.func42, Tryz.ntmps42
  go_wp2_with fail
  refine (implCopyOutbox _ x.outbox _ (HOb.out.below (by repeat (first | with_reducible exact belR | with_reducible apply belA | (with_reducible refine belS ?_ ?_; focus (first | omega | (simp; done) | (simp; omega))) | with_reducible apply belN | with_reducible apply belD | with_reducible assumption))) hs).mono ?_
  rintro e w1 ⟨ds, rfl, hf, hb⟩
  obtain ⟨a1, c1, rfl, hfw⟩ := DOutbox.fopen hf
  have HF := Lib.hid (hfw.mono (B' := w.heap.size + 2) (by simp))
  have HX : Hid (WB w1 w.heap.size #[.int .i64 x.outbox.device, .int .i64 x.outbox.next, .slice q_a1 x.outbox.writes.length q_c1, .int .i64 x.tries, .int .i64 x.waitUntil]) := Lib.hid (((WB.at rfl).growA).keep hb)
  have HT : Hid (WB w1 (w.heap.size + 1) #[.int .i64 0, .int .i64 0, .slice none 0 0, .int .i64 0, .int .i64 0]) := Lib.hid (((WB.at (by simp))).keep hb)
  have HO : Hid (True) := Lib.hid (trivial)
  have HB : Hid (Below w.heap.size w w1) := Lib.hid (below_call (by repeat (first | with_reducible exact belR | with_reducible apply belA | (with_reducible refine belS ?_ ?_; focus (first | omega | (simp; done) | (simp; omega))) | with_reducible apply belN | with_reducible apply belD | with_reducible assumption)) (by first | omega | (simp; done) | (simp; omega)) hb)
  have hz : w.heap.size + 2 ≤ w1.heap.size := by have y := hb.size; simp at y; omega
  clear hb hf hfw
  have ⟨c_HX, z_HX, f_HX⟩ := HX.out
  have ⟨c_HT, z_HT, f_HT⟩ := HT.out
  go_wp2
  refine bodyPost_ret (v := .agg #[.int .i64 x.outbox.device, .int .i64 x.outbox.next, .slice a1 x.outbox.writes.length c1, .int .i64 x.tries, .int .i64 x.waitUntil]) (by simp [results, Tryz.results42, go_sem, c_HT]) rfl ⟨_, rfl, ?_, ?_⟩
  · exact DSync.fmk (Fresh.mono (B := (w.heap.size + 2)) (by repeat (first | with_reducible exact HF.out | with_reducible refine Fresh.setLow ?_ (by omega) | with_reducible refine Fresh.drew ?_)) (by omega))
  · have y := HB.out
    exact (by repeat (first | with_reducible exact belR | (with_reducible refine belAB ?_ ?_; focus (first | omega | (simp; done) | (simp; omega))) | (with_reducible refine belS ?_ ?_; focus (first | omega | (simp; done) | (simp; omega))) | with_reducible apply belN | with_reducible apply belD | with_reducible assumption))


set_option maxRecDepth 100000 in
set_option maxHeartbeats 1600000 in
theorem specCopySync (cs : List Value) (x : DSync) (w : World) (h : Reads DSync.rep w cs x) (hs : x.outbox.writes.length ≤ 1048600) :
    Calls Tryz.prog 29 #[.agg cs.toArray] w fun e w' => ∃ ds, e = .returned (.agg ds.toArray) ∧ Fresh DSync.rep w.heap.size w' ds x ∧ Below w.heap.size w w' := by
  obtain ⟨fp_q, h⟩ := h
  obtain ⟨q_v1, q_f1, rfl, _, q_r1⟩ := DSync.rd.1 h
  obtain ⟨q_a1, q_c1, rfl, q_hm1, q_lc1, q_hu1⟩ := slice_open q_r1; clear q_hu1
  have q_K1 : Hid (Reads (Rep.slice 72 DWrite.rep) w [.slice q_a1 x.outbox.writes.length q_c1] x.outbox.writes) := ⟨_, q_r1⟩
  clear q_r1 h
  have HOb : Hid (Reads DOutbox.rep w [.int .i64 x.outbox.device, .int .i64 x.outbox.next, .slice q_a1 x.outbox.writes.length q_c1] x.outbox) := by
    obtain ⟨f, r⟩ := q_K1.out
    exact ⟨f, DOutbox.rd.2 ⟨_, _, rfl, rfl, r⟩⟩
  go_enter Tryz.func29, Tryz.ntmps29
  go_wp2_with fail
  refine (specCopyOutbox _ x.outbox _ (HOb.out.below (by repeat (first | with_reducible exact belR | with_reducible apply belA | (with_reducible refine belS ?_ ?_; focus (first | omega | (simp; done) | (simp; omega))) | with_reducible apply belN | with_reducible apply belD | with_reducible assumption))) hs).mono ?_
  rintro e w1 ⟨ds, rfl, hf, hb⟩
  obtain ⟨a1, c1, rfl, hfw⟩ := DOutbox.fopen hf
  have HF := Lib.hid (hfw.mono (B' := w.heap.size + 3) (by simp))
  have HX : Hid (WB w1 w.heap.size #[.int .i64 x.outbox.device, .int .i64 x.outbox.next, .slice q_a1 x.outbox.writes.length q_c1, .int .i64 x.tries, .int .i64 x.waitUntil]) := Lib.hid (((WB.at rfl).growA.growA).keep hb)
  have HT : Hid (WB w1 (w.heap.size + 1) #[.int .i64 0, .int .i64 0, .slice none 0 0, .int .i64 0, .int .i64 0]) := Lib.hid (((WB.at (by simp)).growA).keep hb)
  have HO : Hid (WB w1 (w.heap.size + 2) #[.int .i64 x.outbox.device, .int .i64 x.outbox.next, .slice q_a1 x.outbox.writes.length q_c1, .int .i64 x.tries, .int .i64 x.waitUntil]) := Lib.hid ((WB.at (by simp)).keep hb)
  have HB : Hid (Below w.heap.size w w1) := Lib.hid (below_call (by repeat (first | with_reducible exact belR | with_reducible apply belA | (with_reducible refine belS ?_ ?_; focus (first | omega | (simp; done) | (simp; omega))) | with_reducible apply belN | with_reducible apply belD | with_reducible assumption)) (by first | omega | (simp; done) | (simp; omega)) hb)
  have hz : w.heap.size + 3 ≤ w1.heap.size := by have y := hb.size; simp at y; omega
  clear hb hf hfw
  have ⟨c_HO, z_HO, f_HO⟩ := HO.out
  have ⟨c_HT, z_HT, f_HT⟩ := HT.out
  go_wp2
  refine bodyPost_ret (v := .agg #[.int .i64 x.outbox.device, .int .i64 x.outbox.next, .slice a1 x.outbox.writes.length c1, .int .i64 x.tries, .int .i64 x.waitUntil]) (by simp [results, Tryz.results29, go_sem, c_HT]) rfl ⟨_, rfl, ?_, ?_⟩
  · exact DSync.fmk (Fresh.mono (B := (w.heap.size + 3)) (by repeat (first | with_reducible exact HF.out | with_reducible refine Fresh.setLow ?_ (by omega) | with_reducible refine Fresh.drew ?_)) (by omega))
  · have y := HB.out
    exact (by repeat (first | with_reducible exact belR | (with_reducible refine belAB ?_ ?_; focus (first | omega | (simp; done) | (simp; omega))) | (with_reducible refine belS ?_ ?_; focus (first | omega | (simp; done) | (simp; omega))) | with_reducible apply belN | with_reducible apply belD | with_reducible assumption))


end Go.Proofs.YtgicglmcapnogaaGreat
