/-
  EqualServers.
-/
import Derived.Test.YtlfebehpmefioaaGreatEqStores
namespace Go.Proofs.YtlfebehpmefioaaGreat
open Go.RowKit

def equalServersF (x y : DServer) : Bool := equalStoresF x.store y.store && (decide (x.applied = y.applied) && decide (x.changes = y.changes))
attribute [local irreducible] equalStoresF

set_option maxHeartbeats 800000 in
theorem implEqualServers (cs ds : List Value) (x y : DServer) (w : World) (h : Reads DServer.rep w cs x) (h' : Reads DServer.rep w ds y) :
    Calls Tryz.prog 12 #[.agg cs.toArray, .agg ds.toArray] w fun e w' => e = .returned (.bool (equalServersF x y)) ∧ Below w.heap.size w w' := by
  obtain ⟨fp_q, h⟩ := h
  obtain ⟨q_v1, q_v2, q_v3, q_f1, q_f2, q_f3, rfl, _, q_s0, q_r1, q_r2, q_r3⟩ := DServer.rd.1 h
  obtain ⟨q_a1, q_c1, rfl, q_hm1, q_lc1, q_hu1⟩ := slice_open q_r1; clear q_hu1
  have q_K1 : Hid (Reads (Rep.slice 71 DItem.rep) w [.slice q_a1 x.store.items.length q_c1] x.store.items) := ⟨_, q_r1⟩
  obtain ⟨q_a2, q_c2, rfl, q_hm2, q_lc2, q_hu2⟩ := slice_open q_r2; clear q_hu2
  have q_K2 : Hid (Reads (Rep.slice 89 DApplied.rep) w [.slice q_a2 x.applied.length q_c2] x.applied) := ⟨_, q_r2⟩
  obtain ⟨q_a3, q_c3, rfl, q_hm3, q_lc3, q_hu3⟩ := slice_open q_r3; clear q_hu3
  have q_K3 : Hid (Reads (Rep.slice 34 DWrite.rep) w [.slice q_a3 x.changes.length q_c3] x.changes) := ⟨_, q_r3⟩
  clear q_r1 q_r2 q_r3 h
  obtain ⟨fp_r, h'⟩ := h'
  obtain ⟨r_v1, r_v2, r_v3, r_f1, r_f2, r_f3, rfl, _, r_s0, r_r1, r_r2, r_r3⟩ := DServer.rd.1 h'
  obtain ⟨r_a1, r_c1, rfl, r_hm1, r_lc1, r_hu1⟩ := slice_open r_r1; clear r_hu1
  have r_K1 : Hid (Reads (Rep.slice 71 DItem.rep) w [.slice r_a1 y.store.items.length r_c1] y.store.items) := ⟨_, r_r1⟩
  obtain ⟨r_a2, r_c2, rfl, r_hm2, r_lc2, r_hu2⟩ := slice_open r_r2; clear r_hu2
  have r_K2 : Hid (Reads (Rep.slice 89 DApplied.rep) w [.slice r_a2 y.applied.length r_c2] y.applied) := ⟨_, r_r2⟩
  obtain ⟨r_a3, r_c3, rfl, r_hm3, r_lc3, r_hu3⟩ := slice_open r_r3; clear r_hu3
  have r_K3 : Hid (Reads (Rep.slice 34 DWrite.rep) w [.slice r_a3 y.changes.length r_c3] y.changes) := ⟨_, r_r3⟩
  clear r_r1 r_r2 r_r3 h'
  have HR : ∀ W, Below w.heap.size w W → Reads DStore.rep W [.string x.store.name, .slice q_a1 x.store.items.length q_c1, .int .i64 x.store.auto] x.store := fun W hW => by
    obtain ⟨f, hf⟩ := q_K1.out.below hW
    exact ⟨_, DStore.rd.2 ⟨_, _, rfl, rfl, q_s0, hf⟩⟩
  have HS : ∀ W, Below w.heap.size w W → Reads DStore.rep W [.string y.store.name, .slice r_a1 y.store.items.length r_c1, .int .i64 y.store.auto] y.store := fun W hW => by
    obtain ⟨f, hf⟩ := r_K1.out.below hW
    exact ⟨_, DStore.rd.2 ⟨_, _, rfl, rfl, r_s0, hf⟩⟩
  have HR := Lib.hid HR
  have HS := Lib.hid HS
  cases h3 : equalStoresF x.store y.store
  case' true => cases h4 : decide (x.applied = y.applied)
  all_goals
    go_enter Tryz.func12, Tryz.ntmps12
    go_wp2_with fail
    refine (implEqualStores _ _ x.store y.store _ (HR.out _ (by repeat (first | with_reducible exact belR | with_reducible apply belA | (with_reducible refine belS ?_ ?_; focus (first | omega | (simp; done) | (simp; omega))) | with_reducible apply belN | with_reducible apply belD | with_reducible assumption))) (HS.out _ (by repeat (first | with_reducible exact belR | with_reducible apply belA | (with_reducible refine belS ?_ ?_; focus (first | omega | (simp; done) | (simp; omega))) | with_reducible apply belN | with_reducible apply belD | with_reducible assumption)))).mono ?_
    rintro e w1 ⟨rfl, hb⟩
    have HX : Hid (WB w1 w.heap.size #[.string x.store.name, .slice q_a1 x.store.items.length q_c1, .int .i64 x.store.auto, .slice q_a2 x.applied.length q_c2, .slice q_a3 x.changes.length q_c3]) := Lib.hid (((WB.at rfl).growA).keep hb)
    have HY : Hid (WB w1 (w.heap.size + 1) #[.string y.store.name, .slice r_a1 y.store.items.length r_c1, .int .i64 y.store.auto, .slice r_a2 y.applied.length r_c2, .slice r_a3 y.changes.length r_c3]) := Lib.hid ((WB.at (by simp)).keep hb)
    have HB := Lib.hid (Below.trans (by repeat (first | with_reducible exact belR | with_reducible apply belA | (with_reducible refine belS ?_ ?_; focus (first | omega | (simp; done) | (simp; omega))) | with_reducible apply belN | with_reducible apply belD | with_reducible assumption)) (hb.mono (by first | omega | (simp; done) | (simp; omega))) : Below w.heap.size w w1)
    clear hb
    rw [h3]
    have ⟨cx, zx, _⟩ := HX.out
    have ⟨cy, zy, _⟩ := HY.out
  rotate_left 2
  · go_wp2
    go_ret
    exact ⟨ret_bool (by rw [equalServersF, h3]; rfl), HB.out⟩
  all_goals
    go_wp2_with fail
    refine (slicesEqualApplied _ _ x.applied y.applied _ (q_K2.out.below HB.out) (r_K2.out.below HB.out)).mono ?_
    rintro e w2 ⟨rfl, hb⟩
    replace HX := Lib.hid (HX.out.keep hb)
    replace HY := Lib.hid (HY.out.keep hb)
    have HB1 := Lib.hid (below_call HB.out HB.out.size hb)
    clear hb
    rw [h4]
    have ⟨cx2, zx2, _⟩ := HX.out
    have ⟨cy2, zy2, _⟩ := HY.out
    clear cx zx cy zy
  · go_wp2
    go_ret
    exact ⟨ret_bool (by rw [equalServersF, h3, h4]; rfl), HB1.out⟩
  · go_wp2_with fail
    refine (slicesEqualWrite _ _ x.changes y.changes _ (q_K3.out.below HB1.out) (r_K3.out.below HB1.out)).mono ?_
    rintro e w3 ⟨rfl, hb⟩
    have HB2 := Lib.hid (below_call HB1.out HB1.out.size hb)
    clear hb
    go_wp2
    go_ret
    exact ⟨ret_bool (by rw [equalServersF, h3, h4]; rfl), HB2.out⟩

end Go.Proofs.YtlfebehpmefioaaGreat
