/-
  NewReplica.
-/
import Derived.Test.YtlfebehpmefioaaGreatItemFam
import Derived.Test.YtlfebehpmefioaaGreatSrvFam
import Derived.Test.YtlfebehpmefioaaGreatBoxFam
import Derived.Test.YtlfebehpmefioaaGreatBase
namespace Go.Proofs.YtlfebehpmefioaaGreat
open Go.RowKit

section
set_option maxRecDepth 100000 in
set_option maxHeartbeats 800000 in
theorem implNewOutbox (d : Int) (w : World) :
    Calls Tryz.prog 80 #[.int .i64 d] w fun e w' => ∃ ds, e = .returned (.tuple #[.agg ds.toArray, .bool (newOutboxB d)]) ∧ Fresh DOutbox.rep w.heap.size w' ds (newOutboxF d) ∧ Below w.heap.size w w' := by
  have hRd : ∀ W, Reads DOutbox.rep W [.int .i64 d, .int .i64 1, .slice none 0 0] (newBox d) := fun W => (DOutbox.fmk (x := newBox d) (B := 0) (w := W) Fresh.nil).reads
  go_enter Tryz.func80, Tryz.ntmps80
  go_wp2_with fail
  refine (implIsOutbox _ (newBox d) _ (hRd _)).mono ?_
  rintro e w1 ⟨rfl, hb⟩
  have HR : Hid (WB w1 w.heap.size #[.int .i64 0, .int .i64 0, .slice none 0 0]) := Lib.hid ((WB.at rfl).growA.keep hb)
  have HO : Hid (WB w1 (w.heap.size + 1) #[.int .i64 d, .int .i64 1, .slice none 0 0]) := Lib.hid ((WB.at (by simp)).keep hb)
  have HB : Hid (Below w.heap.size w w1) := Lib.hid (below_call bEl bSz hb)
  have hz : w.heap.size + 2 ≤ w1.heap.size := by have y := hb.size; simp at y; omega
  clear hb hRd
  have ⟨c_HR, z_HR, f_HR⟩ := HR.out
  have ⟨c_HO, z_HO, f_HO⟩ := HO.out
  cases hB : isOutboxF (newBox d)
  · have H1 : Hid (newOutboxB d = false) := Lib.hid hB
    go_wp2
    refine bodyPost_ret (v := .tuple #[.agg #[.int .i64 0, .int .i64 0, .slice none 0 0], .bool false]) (by simp [results, Tryz.results80, go_sem, c_HR]) rfl ⟨_, by rw [H1.out], ?_, ?_⟩
    · rw [newOutboxF, H1.out]
      exact DOutbox.fmk (x := ⟨0, 0, []⟩) Fresh.nil
    · have y := HB.out
      exact bEb
  · have H1 : Hid (newOutboxB d = true) := Lib.hid hB
    go_wp2
    refine bodyPost_ret (v := .tuple #[.agg #[.int .i64 d, .int .i64 1, .slice none 0 0], .bool true]) (by simp [results, Tryz.results80, go_sem, c_HR]) rfl ⟨_, by rw [H1.out], ?_, ?_⟩
    · rw [newOutboxF, H1.out]
      exact DOutbox.fmk (x := newBox d) Fresh.nil
    · have y := HB.out
      exact bEb

end
def newRep (x : DServer) (d : Int) : DReplica := ⟨x.store, (x.changes.length : Int), ⟨newOutboxF d, 0, 0⟩⟩
def newReplicaB (x : DServer) (d : Int) : Bool := isServerF x && (newOutboxB d && isReplicaF (newRep x d))
def zeroRep : DReplica := ⟨⟨⟨#[]⟩, [], 0⟩, 0, ⟨⟨0, 0, []⟩, 0, 0⟩⟩
def newReplicaF (x : DServer) (d : Int) : DReplica := if newReplicaB x d then newRep x d else zeroRep
theorem part_off {α : Type} {R : Rep α} {lo hi : Nat} {w : World} {cs : List Value} {x : α} {g o : Nat} {u : Value} (h : Part R lo hi w cs x) (hg : g < lo ∨ hi ≤ g) : Part R lo hi (w.setCell ⟨g, o, none⟩ u) cs x := by
  obtain ⟨fp, h1, h2, h3⟩ := h
  exact ⟨fp, R.frame h1 fun b hb => Below.heap_setCell _ _ _ _ (by have := h3 b hb; simp only []; omega), h2, h3⟩
theorem rep_fresh {B l0 u0 l2 u2 : Nat} {v1 v2 : Value} {w : World} {x : DReplica} (p0 : Part DStore.rep l0 u0 w [.string x.base.name, v1, .int .i64 x.base.auto] x.base) (p2 : Part DOutbox.rep l2 u2 w [.int .i64 x.sync.outbox.device, .int .i64 x.sync.outbox.next, v2] x.sync.outbox) (hb : u2 ≤ l0) (b0 : B ≤ l0) (b2 : B ≤ l2) :
    Fresh DReplica.rep B w [.string x.base.name, v1, .int .i64 x.base.auto, .int .i64 x.seen, .int .i64 x.sync.outbox.device, .int .i64 x.sync.outbox.next, v2, .int .i64 x.sync.tries, .int .i64 x.sync.waitUntil] x := by
  obtain ⟨f0, r0, n0, m0⟩ := p0
  obtain ⟨f2, r2, n2, m2⟩ := p2
  refine ⟨f0 ++ f2, DReplica.join _ f0 r0 _ f2 (DSync.join _ f2 r2), ?_, fun b hb => ?_⟩
  · rw [List.nodup_append]
    refine ⟨n0, n2, fun a ha b hb e => ?_⟩
    have := m0 a ha; have := m2 b hb; omega
  · rcases List.mem_append.1 hb with hb | hb
    · have := m0 b hb; omega
    · have := m2 b hb; omega
theorem newRep_fresh {B l0 u0 u2 : Nat} {v1 v2 : Value} {w : World} {x : DServer} {d : Int} (p0 : Part DStore.rep l0 u0 w [.string x.store.name, v1, .int .i64 x.store.auto] x.store) (p2 : Part DOutbox.rep (B + 2) u2 w [.int .i64 (newOutboxF d).device, .int .i64 (newOutboxF d).next, v2] (newOutboxF d)) (hb : u2 ≤ l0) (b0 : B ≤ l0) :
    Fresh DReplica.rep B w [.string x.store.name, v1, .int .i64 x.store.auto, .int .i64 (x.changes.length : Int), .int .i64 (newOutboxF d).device, .int .i64 (newOutboxF d).next, v2, .int .i64 0, .int .i64 0] (newRep x d) :=
  rep_fresh (x := newRep x d) p0 p2 hb b0 (by omega)
theorem nil_rd {α : Type} {o : Bool} {E : TypeId} {R : Rep α} {w : World} : (Rep.slice E R).rd o w [.slice none 0 0] [] [] :=
  ⟨.slice none 0 0, [], rfl, rfl, by simp [head, feet, Value.ownBlock], by simp, ⟨none, 0, rfl, Nat.le_refl _, Nat.zero_le _, .inl rfl⟩, fun _ => World.ownsRow_nil w 0 E R.n⟩
theorem zeroRep_fresh {B : Nat} {w : World} : Fresh DReplica.rep B w [.string ⟨#[]⟩, .slice none 0 0, .int .i64 0, .int .i64 0, .int .i64 0, .int .i64 0, .slice none 0 0, .int .i64 0, .int .i64 0] zeroRep := by
  exact ⟨[] ++ [], DReplica.join (x := zeroRep) _ [] (DStore.rd.2 ⟨_, _, rfl, rfl, by decide, nil_rd⟩) _ [] (DSync.join (x := zeroRep.sync) _ [] (DOutbox.rd.2 ⟨_, _, rfl, rfl, nil_rd⟩)), by simp, by simp⟩
attribute [local irreducible] isServerF isReplicaF newOutboxB newOutboxF

set_option maxRecDepth 100000 in
set_option maxHeartbeats 8000000 in
theorem implNewReplica (cs : List Value) (x : DServer) (d : Int) (w : World) (h : Reads DServer.rep w cs x) (hs : SmallStore x.store) :
    Calls Tryz.prog 37 #[.agg cs.toArray, .int .i64 d] w fun e w' => ∃ ds, e = .returned (.tuple #[.agg ds.toArray, .bool (newReplicaB x d)]) ∧ Fresh DReplica.rep w.heap.size w' ds (newReplicaF x d) ∧ Below w.heap.size w w' := by
  have HS := Lib.hid h
  obtain ⟨fp_q, h⟩ := h
  obtain ⟨q_v1, q_v2, q_v3, q_f1, q_f2, q_f3, rfl, _, q_s0, q_r1, q_r2, q_r3⟩ := DServer.rd.1 h
  obtain ⟨q_a1, q_c1, rfl, q_hm1, q_lc1, q_hu1⟩ := slice_open q_r1; clear q_hu1
  have q_K1 : Hid (Reads (Rep.slice 71 DItem.rep) w [.slice q_a1 x.store.items.length q_c1] x.store.items) := ⟨_, q_r1⟩
  obtain ⟨q_a2, q_c2, rfl, q_hm2, q_lc2, q_hu2⟩ := slice_open q_r2; clear q_hu2
  have q_K2 : Hid (Reads (Rep.slice 89 DApplied.rep) w [.slice q_a2 x.applied.length q_c2] x.applied) := ⟨_, q_r2⟩
  obtain ⟨q_a3, q_c3, rfl, q_hm3, q_lc3, q_hu3⟩ := slice_open q_r3; clear q_hu3
  have q_K3 : Hid (Reads (Rep.slice 34 DWrite.rep) w [.slice q_a3 x.changes.length q_c3] x.changes) := ⟨_, q_r3⟩
  clear q_r1 q_r2 q_r3 h
  have HSt : Hid (Reads DStore.rep w [.string x.store.name, .slice q_a1 x.store.items.length q_c1, .int .i64 x.store.auto] x.store) := by
    obtain ⟨f, r⟩ := q_K1.out
    exact ⟨f, DStore.rd.2 ⟨_, _, rfl, rfl, q_s0, r⟩⟩
  go_enter Tryz.func37, Tryz.ntmps37
  go_wp2_with fail
  refine (implNewOutbox d _).mono ?_
  rintro e w1 ⟨dso, rfl, hfo, hb⟩
  obtain ⟨a1, c1, rfl, _⟩ := DOutbox.fopen hfo
  have HX : Hid (WB w1 w.heap.size #[.string x.store.name, .slice q_a1 x.store.items.length q_c1, .int .i64 x.store.auto, .slice q_a2 x.applied.length q_c2, .slice q_a3 x.changes.length q_c3]) := Lib.hid (((WB.at rfl).growA).keep hb)
  have HT : Hid (WB w1 (w.heap.size + 1) #[.string ⟨#[]⟩, .slice none 0 0, .int .i64 0, .int .i64 0, .int .i64 0, .int .i64 0, .slice none 0 0, .int .i64 0, .int .i64 0]) := Lib.hid ((WB.at (by simp)).keep hb)
  have HB : Hid (Below w.heap.size w w1) := Lib.hid (below_call bEl bSz hb)
  have hz : w.heap.size + 2 ≤ w1.heap.size := by have y := hb.size; simp at y; omega
  have HP2 : Hid (Part DOutbox.rep (w.heap.size + 2) w1.heap.size w1 [.int .i64 (newOutboxF d).device, .int .i64 (newOutboxF d).next, .slice a1 (newOutboxF d).writes.length c1] (newOutboxF d)) := Lib.hid (hfo.partAt (by simp))
  clear hb hfo
  go_upto_region 2 with fail
  refine settle (fun W => WB W w.heap.size #[.string x.store.name, .slice q_a1 x.store.items.length q_c1, .int .i64 x.store.auto, .slice q_a2 x.applied.length q_c2, .slice q_a3 x.changes.length q_c3] ∧ WB W (w.heap.size + 1) #[.string ⟨#[]⟩, .slice none 0 0, .int .i64 0, .int .i64 0, .int .i64 0, .int .i64 0, .slice none 0 0, .int .i64 0, .int .i64 0] ∧ WB W w1.heap.size #[.int .i64 (newOutboxF d).device, .int .i64 (newOutboxF d).next, .slice a1 (newOutboxF d).writes.length c1] ∧ Part DOutbox.rep (w.heap.size + 2) w1.heap.size W [.int .i64 (newOutboxF d).device, .int .i64 (newOutboxF d).next, .slice a1 (newOutboxF d).writes.length c1] (newOutboxF d) ∧ Below w.heap.size w W ∧ w1.heap.size + 1 ≤ W.heap.size) ⟨HX.out.growA, HT.out.growA, WB.at rfl, HP2.out.below bEl, by have y := HB.out; exact bEl, by simp⟩ ?_
  clear HX HT HP2 HB
  rintro w2 ⟨hx, ht, ho, hp2, hb, hz2⟩
  have HX := Lib.hid hx
  have HT := Lib.hid ht
  have HO := Lib.hid ho
  have HP2 := Lib.hid hp2
  have HB := Lib.hid hb
  clear hx ht ho hp2 hb
  have ⟨c_HX, z_HX, f_HX⟩ := HX.out
  have ⟨c_HO, z_HO, f_HO⟩ := HO.out
  go_cut [8] (fun p W => ∃ kb a3 c3 lo hi, p = .pointer (some ⟨kb, 0, none⟩) ∧ WB W kb #[.string x.store.name, .slice a3 x.store.items.length c3, .int .i64 x.store.auto, .int .i64 (x.changes.length : Int), .int .i64 (newOutboxF d).device, .int .i64 (newOutboxF d).next, .slice a1 (newOutboxF d).writes.length c1, .int .i64 0, .int .i64 0] ∧ WB W w.heap.size #[.string x.store.name, .slice q_a1 x.store.items.length q_c1, .int .i64 x.store.auto, .slice q_a2 x.applied.length q_c2, .slice q_a3 x.changes.length q_c3] ∧ WB W (w.heap.size + 1) #[.string ⟨#[]⟩, .slice none 0 0, .int .i64 0, .int .i64 0, .int .i64 0, .int .i64 0, .slice none 0 0, .int .i64 0, .int .i64 0] ∧ Part DStore.rep lo hi W [.string x.store.name, .slice a3 x.store.items.length c3, .int .i64 x.store.auto] x.store ∧ Part DOutbox.rep (w.heap.size + 2) w1.heap.size W [.int .i64 (newOutboxF d).device, .int .i64 (newOutboxF d).next, .slice a1 (newOutboxF d).writes.length c1] (newOutboxF d) ∧ w1.heap.size ≤ lo ∧ (kb < lo ∨ hi ≤ kb) ∧ w1.heap.size ≤ kb ∧ Below w.heap.size w W)
  case first =>
    have HSx : Hid (∀ w', Below w2.heap.size w2 w' → (∀ o, w'.cell? ⟨w.heap.size, o, none⟩ = #[.string x.store.name, .slice q_a1 x.store.items.length q_c1, .int .i64 x.store.auto, .slice q_a2 x.applied.length q_c2, .slice q_a3 x.changes.length q_c3][o]?) ∧ (∀ o, w'.cell? ⟨w1.heap.size, o, none⟩ = #[.int .i64 (newOutboxF d).device, .int .i64 (newOutboxF d).next, .slice a1 (newOutboxF d).writes.length c1][o]?) ∧ Below w2.heap.size w2 w') := Lib.hid fun w' hw' => ⟨(HX.out.keep hw').cell, (HO.out.keep hw').cell, hw'⟩
    go_region_held3 (fun w' => (∀ o, w'.cell? ⟨w.heap.size, o, none⟩ = #[.string x.store.name, .slice q_a1 x.store.items.length q_c1, .int .i64 x.store.auto, .slice q_a2 x.applied.length q_c2, .slice q_a3 x.changes.length q_c3][o]?) ∧ (∀ o, w'.cell? ⟨w1.heap.size, o, none⟩ = #[.int .i64 (newOutboxF d).device, .int .i64 (newOutboxF d).next, .slice a1 (newOutboxF d).writes.length c1][o]?) ∧ Below w2.heap.size w2 w')
      (first | exact HSx.out _ bEb)
      (first | (go_at_call 81; refine (implCopyStore _ x.store _ (HSt.out.below (by have y := HB.out; exact bEb)) hs).mono ?_; rintro e w3 ⟨ds, rfl, hf3, hb3⟩; obtain ⟨a3, c3, rfl, _, _⟩ := DStore.fopen hf3; have hq3 : Below w2.heap.size w2 w3 := (Below.trans bEb (hb3.mono bSz)); have hz3 := hq3.size; (first | (have hwb : WB w3 w2.heap.size #[.string ⟨#[]⟩, .slice none 0 0, .int .i64 0, .int .i64 0, .int .i64 0, .int .i64 0, .slice none 0 0, .int .i64 0, .int .i64 0] := (WB.at rfl).growD.keep hb3; have ⟨we3, wl3, wf3⟩ := hwb) | (have hwb : WB w3 w2.heap.size #[.string ⟨#[]⟩, .slice none 0 0, .int .i64 0, .int .i64 0, .int .i64 0, .int .i64 0, .slice none 0 0, .int .i64 0, .int .i64 0] := (WB.at rfl).keep hb3; have ⟨we3, wl3, wf3⟩ := hwb) | skip)))
    all_goals
      go_wp2_with fail
      go_meet
      first
        | (have hh := hwb
           have hlo : Part DStore.rep (w2.heap.size + 1) w3.heap.size w3 [.string x.store.name, .slice a3 x.store.items.length c3, .int .i64 x.store.auto] x.store := hf3.partAt (by simp)
           have hset := WB.sets [.string x.store.name, .slice a3 x.store.items.length c3, .int .i64 x.store.auto, .int .i64 (x.changes.length : Int), .int .i64 (newOutboxF d).device, .int .i64 (newOutboxF d).next, .slice a1 (newOutboxF d).writes.length c1, .int .i64 0, .int .i64 0] 0 _ _ hh (by simp)
           have hy := HB.out.trans (hq3.mono HB.out.size)
           refine ⟨w2.heap.size, a3, c3, w2.heap.size + 1, w3.heap.size, rfl, hset, ?_, ?_, ?_, ?_, by omega, .inl (by omega), by omega, ?_⟩
           · repeat (first | with_reducible exact HX.out.keep hq3 | refine WB.setOther ?_ (by omega))
           · repeat (first | with_reducible exact HT.out.keep hq3 | refine WB.setOther ?_ (by omega))
           · repeat (first | with_reducible exact hlo | refine part_off ?_ (.inl (by omega)))
           · repeat (first | with_reducible exact HP2.out.below hq3 | refine part_off ?_ (.inr (by omega)))
           · exact bEb)
        | (have hlo : Part DStore.rep w2.heap.size w3.heap.size w3 [.string x.store.name, .slice a3 x.store.items.length c3, .int .i64 x.store.auto] x.store := hf3.partAt (Nat.le_refl _)
           have hy := HB.out.trans (hq3.mono HB.out.size)
           exact ⟨w3.heap.size, a3, c3, w2.heap.size, w3.heap.size, rfl, WB.at rfl, (HX.out.keep hq3).growA, (HT.out.keep hq3).growA, hlo.below (belA belR), (HP2.out.below hq3).below (belA belR), by omega, .inr (Nat.le_refl _), by omega, bEb⟩)
  case rest =>
    obtain ⟨kb, a3, c3, lo, hi, rfl, hr, hx, ht, hp0, hp2, hlo, hkb, hk1, hb⟩ := hcut
    clear c_HX z_HX f_HX c_HO z_HO f_HO
    clear HX HT HO HP2 HB
    have HR := Lib.hid hr
    have HX := Lib.hid hx
    have HT := Lib.hid ht
    have HP0 := Lib.hid hp0
    have HP2 := Lib.hid hp2
    have HB := Lib.hid hb
    clear hr hx ht hp0 hp2 hb
    have ⟨c_HX, z_HX, f_HX⟩ := HX.out
    have ⟨c_HT, z_HT, f_HT⟩ := HT.out
    have ⟨c_HR, z_HR, f_HR⟩ := HR.out
    go_wp2_with fail
    refine (implIsServer _ x _ (HS.out.below HB.out)).mono ?_
    rintro e w4 ⟨rfl, hb⟩
    clear c_HX z_HX f_HX c_HT z_HT f_HT c_HR z_HR f_HR
    replace HX := Lib.hid (HX.out.keep hb)
    replace HT := Lib.hid (HT.out.keep hb)
    replace HR := Lib.hid (HR.out.keep hb)
    replace HB := Lib.hid (HB.out.trans (hb.mono HB.out.size))
    replace HP0 := Lib.hid (Part.below HP0.out hb)
    replace HP2 := Lib.hid (Part.below HP2.out hb)
    clear hb
    have ⟨c_HX, z_HX, f_HX⟩ := HX.out
    have ⟨c_HT, z_HT, f_HT⟩ := HT.out
    have ⟨c_HR, z_HR, f_HR⟩ := HR.out
    cases a0 : isServerF x
    case' true => cases b0 : newOutboxB d
    case false =>
      have hB : Hid (newReplicaB x d = false) := Lib.hid (by rw [newReplicaB, a0]; rfl)
      go_wp2
      refine bodyPost_ret (v := .tuple #[.agg #[.string ⟨#[]⟩, .slice none 0 0, .int .i64 0, .int .i64 0, .int .i64 0, .int .i64 0, .slice none 0 0, .int .i64 0, .int .i64 0], .bool false]) (by simp [results, Tryz.results37, go_sem, c_HT]) rfl ⟨_, by rw [hB.out], ?_, ?_⟩
      · rw [newReplicaF, hB.out]
        exact zeroRep_fresh
      · have y := HB.out
        exact bEb
    case true.false =>
      have hB : Hid (newReplicaB x d = false) := Lib.hid (by rw [newReplicaB, b0, Bool.false_and, Bool.and_false])
      go_wp2
      refine bodyPost_ret (v := .tuple #[.agg #[.string ⟨#[]⟩, .slice none 0 0, .int .i64 0, .int .i64 0, .int .i64 0, .int .i64 0, .slice none 0 0, .int .i64 0, .int .i64 0], .bool false]) (by simp [results, Tryz.results37, go_sem, c_HT]) rfl ⟨_, by rw [hB.out], ?_, ?_⟩
      · rw [newReplicaF, hB.out]
        exact zeroRep_fresh
      · have y := HB.out
        exact bEb
    case true.true =>
      go_wp2_with fail
      refine (implIsReplica _ (newRep x d) _ (newRep_fresh HP0.out HP2.out (by omega) (by omega)).reads).mono ?_
      rintro e w5 ⟨rfl, hb⟩
      clear c_HX z_HX f_HX c_HT z_HT f_HT c_HR z_HR f_HR
      replace HX := Lib.hid (HX.out.keep hb)
      replace HT := Lib.hid (HT.out.keep hb)
      replace HR := Lib.hid (HR.out.keep hb)
      replace HB := Lib.hid (HB.out.trans (hb.mono HB.out.size))
      replace HP0 := Lib.hid (Part.below HP0.out hb)
      replace HP2 := Lib.hid (Part.below HP2.out hb)
      clear hb
      have ⟨c_HX, z_HX, f_HX⟩ := HX.out
      have ⟨c_HT, z_HT, f_HT⟩ := HT.out
      have ⟨c_HR, z_HR, f_HR⟩ := HR.out
      cases e0 : isReplicaF (newRep x d)
      · have hB : Hid (newReplicaB x d = false) := Lib.hid (by rw [newReplicaB, e0, Bool.and_false, Bool.and_false])
        go_wp2
        refine bodyPost_ret (v := .tuple #[.agg #[.string ⟨#[]⟩, .slice none 0 0, .int .i64 0, .int .i64 0, .int .i64 0, .int .i64 0, .slice none 0 0, .int .i64 0, .int .i64 0], .bool false]) (by simp [results, Tryz.results37, go_sem, c_HT]) rfl ⟨_, by rw [hB.out], ?_, ?_⟩
        · rw [newReplicaF, hB.out]
          exact zeroRep_fresh
        · have y := HB.out
          exact bEb
      · have hB : Hid (newReplicaB x d = true) := Lib.hid (by rw [newReplicaB, a0, b0, e0]; rfl)
        go_wp2
        refine bodyPost_ret (v := .tuple #[.agg #[.string x.store.name, .slice a3 x.store.items.length c3, .int .i64 x.store.auto, .int .i64 (x.changes.length : Int), .int .i64 (newOutboxF d).device, .int .i64 (newOutboxF d).next, .slice a1 (newOutboxF d).writes.length c1, .int .i64 0, .int .i64 0], .bool true]) (by simp [results, Tryz.results37, go_sem, c_HT]) rfl ⟨_, by rw [hB.out], ?_, ?_⟩
        · rw [newReplicaF, hB.out]
          exact newRep_fresh (l0 := lo) (u0 := hi) (u2 := w1.heap.size) (by repeat (first | with_reducible exact HP0.out | refine part_off ?_ (.inl (by omega)))) (by repeat (first | with_reducible exact HP2.out | refine part_off ?_ (.inl (by omega)))) (by omega) (by omega)
        · have y := HB.out
          exact bEb

set_option maxRecDepth 100000 in
set_option maxHeartbeats 8000000 in
theorem specNewReplica (cs : List Value) (x : DServer) (d : Int) (w : World) (h : Reads DServer.rep w cs x) (hs : SmallStore x.store) :
    Calls Tryz.prog 117 #[.agg cs.toArray, .int .i64 d] w fun e w' => ∃ ds, e = .returned (.tuple #[.agg ds.toArray, .bool (newReplicaB x d)]) ∧ Fresh DReplica.rep w.heap.size w' ds (newReplicaF x d) ∧ Below w.heap.size w w' := by
  have HS := Lib.hid h
  obtain ⟨fp_q, h⟩ := h
  obtain ⟨q_v1, q_v2, q_v3, q_f1, q_f2, q_f3, rfl, _, q_s0, q_r1, q_r2, q_r3⟩ := DServer.rd.1 h
  obtain ⟨q_a1, q_c1, rfl, q_hm1, q_lc1, q_hu1⟩ := slice_open q_r1; clear q_hu1
  have q_K1 : Hid (Reads (Rep.slice 71 DItem.rep) w [.slice q_a1 x.store.items.length q_c1] x.store.items) := ⟨_, q_r1⟩
  obtain ⟨q_a2, q_c2, rfl, q_hm2, q_lc2, q_hu2⟩ := slice_open q_r2; clear q_hu2
  have q_K2 : Hid (Reads (Rep.slice 89 DApplied.rep) w [.slice q_a2 x.applied.length q_c2] x.applied) := ⟨_, q_r2⟩
  obtain ⟨q_a3, q_c3, rfl, q_hm3, q_lc3, q_hu3⟩ := slice_open q_r3; clear q_hu3
  have q_K3 : Hid (Reads (Rep.slice 34 DWrite.rep) w [.slice q_a3 x.changes.length q_c3] x.changes) := ⟨_, q_r3⟩
  clear q_r1 q_r2 q_r3 h
  have HSt : Hid (Reads DStore.rep w [.string x.store.name, .slice q_a1 x.store.items.length q_c1, .int .i64 x.store.auto] x.store) := by
    obtain ⟨f, r⟩ := q_K1.out
    exact ⟨f, DStore.rd.2 ⟨_, _, rfl, rfl, q_s0, r⟩⟩
  go_enter Tryz.func117, Tryz.ntmps117
  go_wp2_with fail
  refine (specNewOutbox d _).mono ?_
  rintro e w1 ⟨dso, rfl, hfo, hb⟩
  obtain ⟨a1, c1, rfl, _⟩ := DOutbox.fopen hfo
  have HX : Hid (WB w1 w.heap.size #[.string x.store.name, .slice q_a1 x.store.items.length q_c1, .int .i64 x.store.auto, .slice q_a2 x.applied.length q_c2, .slice q_a3 x.changes.length q_c3]) := Lib.hid (((WB.at rfl).growA).keep hb)
  have HT : Hid (WB w1 (w.heap.size + 1) #[.string ⟨#[]⟩, .slice none 0 0, .int .i64 0, .int .i64 0, .int .i64 0, .int .i64 0, .slice none 0 0, .int .i64 0, .int .i64 0]) := Lib.hid ((WB.at (by simp)).keep hb)
  have HB : Hid (Below w.heap.size w w1) := Lib.hid (below_call bEl bSz hb)
  have hz : w.heap.size + 2 ≤ w1.heap.size := by have y := hb.size; simp at y; omega
  have HP2 : Hid (Part DOutbox.rep (w.heap.size + 2) w1.heap.size w1 [.int .i64 (newOutboxF d).device, .int .i64 (newOutboxF d).next, .slice a1 (newOutboxF d).writes.length c1] (newOutboxF d)) := Lib.hid (hfo.partAt (by simp))
  clear hb hfo
  go_upto_region 2 with fail
  refine settle (fun W => WB W w.heap.size #[.string x.store.name, .slice q_a1 x.store.items.length q_c1, .int .i64 x.store.auto, .slice q_a2 x.applied.length q_c2, .slice q_a3 x.changes.length q_c3] ∧ WB W (w.heap.size + 1) #[.string ⟨#[]⟩, .slice none 0 0, .int .i64 0, .int .i64 0, .int .i64 0, .int .i64 0, .slice none 0 0, .int .i64 0, .int .i64 0] ∧ WB W w1.heap.size #[.int .i64 (newOutboxF d).device, .int .i64 (newOutboxF d).next, .slice a1 (newOutboxF d).writes.length c1] ∧ Part DOutbox.rep (w.heap.size + 2) w1.heap.size W [.int .i64 (newOutboxF d).device, .int .i64 (newOutboxF d).next, .slice a1 (newOutboxF d).writes.length c1] (newOutboxF d) ∧ Below w.heap.size w W ∧ w1.heap.size + 1 ≤ W.heap.size) ⟨HX.out.growA, HT.out.growA, WB.at rfl, HP2.out.below bEl, by have y := HB.out; exact bEl, by simp⟩ ?_
  clear HX HT HP2 HB
  rintro w2 ⟨hx, ht, ho, hp2, hb, hz2⟩
  have HX := Lib.hid hx
  have HT := Lib.hid ht
  have HO := Lib.hid ho
  have HP2 := Lib.hid hp2
  have HB := Lib.hid hb
  clear hx ht ho hp2 hb
  have ⟨c_HX, z_HX, f_HX⟩ := HX.out
  have ⟨c_HO, z_HO, f_HO⟩ := HO.out
  go_cut [8] (fun p W => ∃ kb a3 c3 lo hi, p = .pointer (some ⟨kb, 0, none⟩) ∧ WB W kb #[.string x.store.name, .slice a3 x.store.items.length c3, .int .i64 x.store.auto, .int .i64 (x.changes.length : Int), .int .i64 (newOutboxF d).device, .int .i64 (newOutboxF d).next, .slice a1 (newOutboxF d).writes.length c1, .int .i64 0, .int .i64 0] ∧ WB W w.heap.size #[.string x.store.name, .slice q_a1 x.store.items.length q_c1, .int .i64 x.store.auto, .slice q_a2 x.applied.length q_c2, .slice q_a3 x.changes.length q_c3] ∧ WB W (w.heap.size + 1) #[.string ⟨#[]⟩, .slice none 0 0, .int .i64 0, .int .i64 0, .int .i64 0, .int .i64 0, .slice none 0 0, .int .i64 0, .int .i64 0] ∧ Part DStore.rep lo hi W [.string x.store.name, .slice a3 x.store.items.length c3, .int .i64 x.store.auto] x.store ∧ Part DOutbox.rep (w.heap.size + 2) w1.heap.size W [.int .i64 (newOutboxF d).device, .int .i64 (newOutboxF d).next, .slice a1 (newOutboxF d).writes.length c1] (newOutboxF d) ∧ w1.heap.size ≤ lo ∧ (kb < lo ∨ hi ≤ kb) ∧ w1.heap.size ≤ kb ∧ Below w.heap.size w W)
  case first =>
    have HSx : Hid (∀ w', Below w2.heap.size w2 w' → (∀ o, w'.cell? ⟨w.heap.size, o, none⟩ = #[.string x.store.name, .slice q_a1 x.store.items.length q_c1, .int .i64 x.store.auto, .slice q_a2 x.applied.length q_c2, .slice q_a3 x.changes.length q_c3][o]?) ∧ (∀ o, w'.cell? ⟨w1.heap.size, o, none⟩ = #[.int .i64 (newOutboxF d).device, .int .i64 (newOutboxF d).next, .slice a1 (newOutboxF d).writes.length c1][o]?) ∧ Below w2.heap.size w2 w') := Lib.hid fun w' hw' => ⟨(HX.out.keep hw').cell, (HO.out.keep hw').cell, hw'⟩
    go_region_held3 (fun w' => (∀ o, w'.cell? ⟨w.heap.size, o, none⟩ = #[.string x.store.name, .slice q_a1 x.store.items.length q_c1, .int .i64 x.store.auto, .slice q_a2 x.applied.length q_c2, .slice q_a3 x.changes.length q_c3][o]?) ∧ (∀ o, w'.cell? ⟨w1.heap.size, o, none⟩ = #[.int .i64 (newOutboxF d).device, .int .i64 (newOutboxF d).next, .slice a1 (newOutboxF d).writes.length c1][o]?) ∧ Below w2.heap.size w2 w')
      (first | exact HSx.out _ bEb)
      (first | (go_at_call 99; refine (specCopyStore _ x.store _ (HSt.out.below (by have y := HB.out; exact bEb)) hs).mono ?_; rintro e w3 ⟨ds, rfl, hf3, hb3⟩; obtain ⟨a3, c3, rfl, _, _⟩ := DStore.fopen hf3; have hq3 : Below w2.heap.size w2 w3 := (Below.trans bEb (hb3.mono bSz)); have hz3 := hq3.size; (first | (have hwb : WB w3 w2.heap.size #[.string ⟨#[]⟩, .slice none 0 0, .int .i64 0, .int .i64 0, .int .i64 0, .int .i64 0, .slice none 0 0, .int .i64 0, .int .i64 0] := (WB.at rfl).growD.keep hb3; have ⟨we3, wl3, wf3⟩ := hwb) | (have hwb : WB w3 w2.heap.size #[.string ⟨#[]⟩, .slice none 0 0, .int .i64 0, .int .i64 0, .int .i64 0, .int .i64 0, .slice none 0 0, .int .i64 0, .int .i64 0] := (WB.at rfl).keep hb3; have ⟨we3, wl3, wf3⟩ := hwb) | skip)))
    all_goals
      go_wp2_with fail
      go_meet
      first
        | (have hh := hwb
           have hlo : Part DStore.rep (w2.heap.size + 1) w3.heap.size w3 [.string x.store.name, .slice a3 x.store.items.length c3, .int .i64 x.store.auto] x.store := hf3.partAt (by simp)
           have hset := WB.sets [.string x.store.name, .slice a3 x.store.items.length c3, .int .i64 x.store.auto, .int .i64 (x.changes.length : Int), .int .i64 (newOutboxF d).device, .int .i64 (newOutboxF d).next, .slice a1 (newOutboxF d).writes.length c1, .int .i64 0, .int .i64 0] 0 _ _ hh (by simp)
           have hy := HB.out.trans (hq3.mono HB.out.size)
           refine ⟨w2.heap.size, a3, c3, w2.heap.size + 1, w3.heap.size, rfl, hset, ?_, ?_, ?_, ?_, by omega, .inl (by omega), by omega, ?_⟩
           · repeat (first | with_reducible exact HX.out.keep hq3 | refine WB.setOther ?_ (by omega))
           · repeat (first | with_reducible exact HT.out.keep hq3 | refine WB.setOther ?_ (by omega))
           · repeat (first | with_reducible exact hlo | refine part_off ?_ (.inl (by omega)))
           · repeat (first | with_reducible exact HP2.out.below hq3 | refine part_off ?_ (.inr (by omega)))
           · exact bEb)
        | (have hlo : Part DStore.rep w2.heap.size w3.heap.size w3 [.string x.store.name, .slice a3 x.store.items.length c3, .int .i64 x.store.auto] x.store := hf3.partAt (Nat.le_refl _)
           have hy := HB.out.trans (hq3.mono HB.out.size)
           exact ⟨w3.heap.size, a3, c3, w2.heap.size, w3.heap.size, rfl, WB.at rfl, (HX.out.keep hq3).growA, (HT.out.keep hq3).growA, hlo.below (belA belR), (HP2.out.below hq3).below (belA belR), by omega, .inr (Nat.le_refl _), by omega, bEb⟩)
  case rest =>
    obtain ⟨kb, a3, c3, lo, hi, rfl, hr, hx, ht, hp0, hp2, hlo, hkb, hk1, hb⟩ := hcut
    clear c_HX z_HX f_HX c_HO z_HO f_HO
    clear HX HT HO HP2 HB
    have HR := Lib.hid hr
    have HX := Lib.hid hx
    have HT := Lib.hid ht
    have HP0 := Lib.hid hp0
    have HP2 := Lib.hid hp2
    have HB := Lib.hid hb
    clear hr hx ht hp0 hp2 hb
    have ⟨c_HX, z_HX, f_HX⟩ := HX.out
    have ⟨c_HT, z_HT, f_HT⟩ := HT.out
    have ⟨c_HR, z_HR, f_HR⟩ := HR.out
    cases b0 : newOutboxB d
    case false =>
      have hB : Hid (newReplicaB x d = false) := Lib.hid (by rw [newReplicaB, b0, Bool.false_and, Bool.and_false])
      go_wp2
      refine bodyPost_ret (v := .tuple #[.agg #[.string ⟨#[]⟩, .slice none 0 0, .int .i64 0, .int .i64 0, .int .i64 0, .int .i64 0, .slice none 0 0, .int .i64 0, .int .i64 0], .bool false]) (by simp [results, Tryz.results117, go_sem, c_HT]) rfl ⟨_, by rw [hB.out], ?_, ?_⟩
      · rw [newReplicaF, hB.out]
        exact zeroRep_fresh
      · have y := HB.out
        exact bEb
    case true =>
      go_wp2_with fail
      refine (specIsServer _ x _ (HS.out.below HB.out)).mono ?_
      rintro e w4 ⟨rfl, hb⟩
      clear c_HX z_HX f_HX c_HT z_HT f_HT c_HR z_HR f_HR
      replace HX := Lib.hid (HX.out.keep hb)
      replace HT := Lib.hid (HT.out.keep hb)
      replace HR := Lib.hid (HR.out.keep hb)
      replace HB := Lib.hid (HB.out.trans (hb.mono HB.out.size))
      replace HP0 := Lib.hid (Part.below HP0.out hb)
      replace HP2 := Lib.hid (Part.below HP2.out hb)
      clear hb
      have ⟨c_HX, z_HX, f_HX⟩ := HX.out
      have ⟨c_HT, z_HT, f_HT⟩ := HT.out
      have ⟨c_HR, z_HR, f_HR⟩ := HR.out
      cases a0 : isServerF x
      · have hB : Hid (newReplicaB x d = false) := Lib.hid (by rw [newReplicaB, a0]; rfl)
        go_wp2
        refine bodyPost_ret (v := .tuple #[.agg #[.string ⟨#[]⟩, .slice none 0 0, .int .i64 0, .int .i64 0, .int .i64 0, .int .i64 0, .slice none 0 0, .int .i64 0, .int .i64 0], .bool false]) (by simp [results, Tryz.results117, go_sem, c_HT]) rfl ⟨_, by rw [hB.out], ?_, ?_⟩
        · rw [newReplicaF, hB.out]
          exact zeroRep_fresh
        · have y := HB.out
          exact bEb
      · go_wp2_with fail
        refine (specIsReplica _ (newRep x d) _ (newRep_fresh HP0.out HP2.out (by omega) (by omega)).reads).mono ?_
        rintro e w5 ⟨rfl, hb⟩
        clear c_HX z_HX f_HX c_HT z_HT f_HT c_HR z_HR f_HR
        replace HX := Lib.hid (HX.out.keep hb)
        replace HT := Lib.hid (HT.out.keep hb)
        replace HR := Lib.hid (HR.out.keep hb)
        replace HB := Lib.hid (HB.out.trans (hb.mono HB.out.size))
        replace HP0 := Lib.hid (Part.below HP0.out hb)
        replace HP2 := Lib.hid (Part.below HP2.out hb)
        clear hb
        have ⟨c_HX, z_HX, f_HX⟩ := HX.out
        have ⟨c_HT, z_HT, f_HT⟩ := HT.out
        have ⟨c_HR, z_HR, f_HR⟩ := HR.out
        cases e0 : isReplicaF (newRep x d)
        · have hB : Hid (newReplicaB x d = false) := Lib.hid (by rw [newReplicaB, e0, Bool.and_false, Bool.and_false])
          go_wp2
          refine bodyPost_ret (v := .tuple #[.agg #[.string ⟨#[]⟩, .slice none 0 0, .int .i64 0, .int .i64 0, .int .i64 0, .int .i64 0, .slice none 0 0, .int .i64 0, .int .i64 0], .bool false]) (by simp [results, Tryz.results117, go_sem, c_HT]) rfl ⟨_, by rw [hB.out], ?_, ?_⟩
          · rw [newReplicaF, hB.out]
            exact zeroRep_fresh
          · have y := HB.out
            exact bEb
        · have hB : Hid (newReplicaB x d = true) := Lib.hid (by rw [newReplicaB, a0, b0, e0]; rfl)
          go_wp2
          refine bodyPost_ret (v := .tuple #[.agg #[.string x.store.name, .slice a3 x.store.items.length c3, .int .i64 x.store.auto, .int .i64 (x.changes.length : Int), .int .i64 (newOutboxF d).device, .int .i64 (newOutboxF d).next, .slice a1 (newOutboxF d).writes.length c1, .int .i64 0, .int .i64 0], .bool true]) (by simp [results, Tryz.results117, go_sem, c_HT]) rfl ⟨_, by rw [hB.out], ?_, ?_⟩
          · rw [newReplicaF, hB.out]
            exact newRep_fresh (l0 := lo) (u0 := hi) (u2 := w1.heap.size) (by repeat (first | with_reducible exact HP0.out | refine part_off ?_ (.inl (by omega)))) (by repeat (first | with_reducible exact HP2.out | refine part_off ?_ (.inl (by omega)))) (by omega) (by omega)
          · have y := HB.out
            exact bEb

end Go.Proofs.YtlfebehpmefioaaGreat
