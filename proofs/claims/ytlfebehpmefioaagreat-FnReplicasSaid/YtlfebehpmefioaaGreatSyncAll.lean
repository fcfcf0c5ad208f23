/-
  SyncAll.
-/
import Derived.Test.YtlfebehpmefioaaGreatSyncPair
import Derived.Test.YtlfebehpmefioaaGreatTwoBox
import Derived.Deep.RegionLaw
namespace Go.Proofs.YtlfebehpmefioaaGreat
open Go.RowKit

theorem syncsF_next {y : DSync} {s : DServer} {now : Int} {l : List Int} {k : Nat} (h0 : 0 ≤ now) (h1 : now ≤ 1000000000000) (hk : k < 100) (hl : k < l.length) :
    (syncsF y s now l (k + 1)).1 = syncStepY (syncsF y s now l k).1 (syncsF y s now l k).2 (now + (k : Int) * 64) l[k] ∧ (syncsF y s now l (k + 1)).2 = syncStepS (syncsF y s now l k).1 (syncsF y s now l k).2 (now + (k : Int) * 64) l[k] := by
  have e1 : wrap64 ((k : Int) * 64) = (k : Int) * 64 := Go.IntWalk.wrap64_in _ (by omega)
  have e2 : wrap64 (now + (k : Int) * 64) = now + (k : Int) * 64 := Go.IntWalk.wrap64_in _ (by omega)
  have e3 : l.getD k 0 = l[k] := by rw [List.getD_eq_getElem?_getD, List.getElem?_eq_getElem hl]; rfl
  rw [syncsF, e1, e2, e3]; exact ⟨rfl, rfl⟩
theorem rounds_lt {l : List Int} {k : Nat} (h : k < rounds l) : k < 100 ∧ k < l.length := by unfold rounds at h; omega
theorem rounds_eq {l : List Int} {k : Nat} (h : k ≤ rounds l) (h2 : ¬ k < rounds l) : k = rounds l := by omega
theorem syncAll_in {y : DSync} {s : DServer} {now : Int} {l : List Int} (h : within now 0 1000000000000 = true) : syncAllF y s now l = syncsF y s now l (rounds l) := by unfold syncAllF; rw [h]; rfl
theorem Fresh2.growD {α β : Type} {R : Rep α} {S : Rep β} {B : Nat} {w : World} {cs ds : List Value} {x : α} {y : β} (h : Fresh2 R S B w cs ds x y) : Fresh2 R S B w.drew cs ds x y := by
  obtain ⟨f, g, h1, h2, h3⟩ := h
  exact ⟨f, g, R.frame h1 fun _ _ => rfl, S.frame h2 fun _ _ => rfl, h3⟩
theorem all_bel5 {B : Nat} {w3 w : World} {g : Nat} {b0 b1 b2 b3 b4 : Value} (h : Below B w3 w) (hg : B ≤ g) : Below B w3 (((((w.setCell ⟨g, 0, none⟩ b0).setCell ⟨g, 1, none⟩ b1).setCell ⟨g, 2, none⟩ b2).setCell ⟨g, 3, none⟩ b3).setCell ⟨g, 4, none⟩ b4) :=
  belS hg (belS hg (belS hg (belS hg (belS hg h))))
attribute [local irreducible] syncsF syncStepY syncStepS syncAllF

set_option maxRecDepth 100000 in
set_option maxHeartbeats 3200000 in
theorem implSyncAll (cs cv : List Value) (y : DSync) (s : DServer) (now : Int) (v : Value) (l : List Int) (w : World) (h : Reads DSync.rep w cs y) (h' : Reads DServer.rep w cv s) (hv : Reads (Rep.slice 3 Rep.int) w [v] l) (hy : y.outbox.writes.length ≤ 1048576) (hs : SmallServer s 1048576) (hl : l.length ≤ 1048576) :
    Calls Tryz.prog 17 #[.agg cs.toArray, .agg cv.toArray, .int .i64 now, v] w fun e w' => ∃ ds dv, e = .returned (.tuple #[.agg ds.toArray, .agg dv.toArray]) ∧ Fresh2 DSync.rep DServer.rep w.heap.size w' ds dv (syncAllF y s now l).1 (syncAllF y s now l).2 ∧ Below w.heap.size w w' := by
  have HYr := Lib.hid h
  have HSr := Lib.hid h'
  have HV := Lib.hid hv
  obtain ⟨fp, hv⟩ := hv
  obtain ⟨ao, cp, rfl, hm, hlc, hu⟩ := slice_open hv
  clear hu hv
  obtain ⟨f1, hr⟩ := h
  obtain ⟨ya, yc, rfl⟩ := DSync.shape hr
  clear hr
  obtain ⟨f2, hr⟩ := h'
  obtain ⟨sa1, sc1, sa2, sc2, sa3, sc3, rfl⟩ := DServer.shape hr
  clear hr
  go_enter Tryz.func17, Tryz.ntmps17
  go_wp2_with fail
  refine (implCopySync _ y _ (HYr.out.below bEl) (by omega)).mono ?_
  rintro e w1 ⟨ds, rfl, hf1, hb1⟩
  obtain ⟨p1, p2, rfl⟩ := DSync.fshape hf1
  have HB1 : Hid (Below w.heap.size w w1) := Lib.hid (below_call bEl bSz hb1)
  have hz1 : w.heap.size + 4 ≤ w1.heap.size := by have y := hb1.size; simp at y; omega
  have HT8 : Hid (WB w1 (w.heap.size + 1 + 1) #[.int .i64 0, .int .i64 0, .slice none 0 0, .int .i64 0, .int .i64 0]) := Lib.hid (((WB.at (by simp)).growA).keep hb1)
  have HT9 : Hid (WB w1 (w.heap.size + 1 + 1 + 1) #[.string ⟨#[]⟩, .slice none 0 0, .int .i64 0, .slice none 0 0, .slice none 0 0]) := Lib.hid ((WB.at (by simp)).keep hb1)
  have HX5 : Hid (WB w1 (w.heap.size + 1) #[.string s.store.name, .slice sa1 s.store.items.length sc1, .int .i64 s.store.auto, .slice sa2 s.applied.length sc2, .slice sa3 s.changes.length sc3]) := Lib.hid ((((WB.at (by simp)).growA).growA).keep hb1)
  have HF1 : Hid (Fresh DSync.rep (w.heap.size + 4) w1 [.int .i64 y.outbox.device, .int .i64 y.outbox.next, .slice p1 y.outbox.writes.length p2, .int .i64 y.tries, .int .i64 y.waitUntil] y) := Lib.hid (hf1.mono (by simp))
  clear hf1 hb1
  have ⟨c_HX5, z_HX5, f_HX5⟩ := HX5.out
  go_wp2_with fail
  refine (implCopyServer _ s _ (HSr.out.below (by have y := HB1.out; exact bEl)) (hs.mono (by omega))).mono ?_
  rintro e w2 ⟨dv, rfl, hf2, hb2⟩
  obtain ⟨q1, q2, q3, q4, q5, q6, rfl⟩ := DServer.fshape hf2
  clear c_HX5 z_HX5 f_HX5
  clear HX5
  have hP0 := pair_init (t2 := 30) HF1.out hb2 hf2 (by omega)
  have HB2 : Hid (Below w.heap.size w w2) := Lib.hid (below_call (by have y := HB1.out; exact bEl) bSz hb2)
  have hz2 : w1.heap.size + 1 ≤ w2.heap.size := by have y := hb2.size; simpa using y
  replace HT8 := Lib.hid (HT8.out.growA.keep hb2)
  replace HT9 := Lib.hid (HT9.out.growA.keep hb2)
  clear hf2 hb2
  go_upto_region 3 with fail
  refine settle (fun W => Pair W (w.heap.size + 4) w1.heap.size w2.heap.size [.int .i64 y.outbox.device, .int .i64 y.outbox.next, .slice p1 y.outbox.writes.length p2, .int .i64 y.tries, .int .i64 y.waitUntil] [.string s.store.name, .slice q1 s.store.items.length q2, .int .i64 s.store.auto, .slice q3 s.applied.length q4, .slice q5 s.changes.length q6] y s ∧ WB W (w.heap.size + 1 + 1) #[.int .i64 0, .int .i64 0, .slice none 0 0, .int .i64 0, .int .i64 0] ∧ WB W (w.heap.size + 1 + 1 + 1) #[.string ⟨#[]⟩, .slice none 0 0, .int .i64 0, .slice none 0 0, .slice none 0 0] ∧ Below w.heap.size w W ∧ w2.heap.size < W.heap.size) ⟨hP0, HT8.out.growA, HT9.out.growA, (by have y := HB2.out; exact bEl), by simp⟩ ?_
  rintro w3 ⟨hp, ht8, ht9, hb3, hz3⟩
  clear hP0 HT8 HT9 HB1 HB2 HF1
  cases n0 : within now 0 1000000000000
  · have HE : Hid (syncAllF y s now l = (y, s)) := Lib.hid (by unfold syncAllF; rw [n0]; rfl)
    go_upto_region 4 with (go_at_call 60; refine (implInRange _ _ _ _).mono ?_; rintro e w' ⟨rfl, rfl⟩)
    have ⟨k1, zk1, fk1⟩ := hp.box1
    have ⟨k2, zk2, fk2⟩ := hp.box2
    have ⟨e8, z8, f8⟩ := ht8
    have ⟨e9, z9, f9⟩ := ht9
    go_cut [] from 21 to 22 (fun W => WB W (w.heap.size + 1 + 1) #[.int .i64 y.outbox.device, .int .i64 y.outbox.next, .slice p1 y.outbox.writes.length p2, .int .i64 y.tries, .int .i64 y.waitUntil] ∧ WB W (w.heap.size + 1 + 1 + 1) #[.string s.store.name, .slice q1 s.store.items.length q2, .int .i64 s.store.auto, .slice q3 s.applied.length q4, .slice q5 s.changes.length q6] ∧ Fresh2 DSync.rep DServer.rep (w.heap.size + 4) W [.int .i64 y.outbox.device, .int .i64 y.outbox.next, .slice p1 y.outbox.writes.length p2, .int .i64 y.tries, .int .i64 y.waitUntil] [.string s.store.name, .slice q1 s.store.items.length q2, .int .i64 s.store.auto, .slice q3 s.applied.length q4, .slice q5 s.changes.length q6] y s ∧ Below w.heap.size w W)
    case first =>
      have hpo := pair_out hp ht8 ht9 (by omega) (by omega) (by omega)
      go_region_with (fail)
      all_goals
        go_wp2_with fail
        go_meet
        first
          | (obtain ⟨x1, x2, x3⟩ := hpo.1; have y := hb3; with_reducible exact ⟨x1.growD, x2.growD, x3.growD, belD (all_bel5 (all_bel5 y (by omega)) (by omega))⟩)
          | (obtain ⟨x1, x2, x3⟩ := hpo.2; have y := hb3; with_reducible exact ⟨x1.growD, x2.growD, x3.growD, belD (all_bel5 (all_bel5 y (by omega)) (by omega))⟩)
    case rest =>
      obtain ⟨r8, r9, hf2, hbb⟩ := hcut
      have cr8 := r8.cell
      have cr9 := r9.cell
      go_wp2
      refine bodyPost_ret (v := .tuple #[.agg #[.int .i64 y.outbox.device, .int .i64 y.outbox.next, .slice p1 y.outbox.writes.length p2, .int .i64 y.tries, .int .i64 y.waitUntil], .agg #[.string s.store.name, .slice q1 s.store.items.length q2, .int .i64 s.store.auto, .slice q3 s.applied.length q4, .slice q5 s.changes.length q6]]) (by simp [results, Tryz.results17, go_sem, cr8, cr9]) rfl ⟨_, _, rfl, ?_, hbb⟩
      rw [HE.out]
      obtain ⟨f, g, h1, h2, h3, h4, h5, h6, h7⟩ := hf2
      exact ⟨f, g, h1, h2, h3, h4, h5, fun b hb => Nat.le_trans (by omega) (h6 b hb), fun b hb => Nat.le_trans (by omega) (h7 b hb)⟩
  · have HE := Lib.hid (syncAll_in (y := y) (s := s) (l := l) n0)
    have hnow : 0 ≤ now ∧ now ≤ 1000000000000 := by
      have n1 := n0
      unfold within at n1
      simp only [Bool.and_eq_true, decide_eq_true_eq] at n1
      exact n1
    have h0 : syncsF y s now l 0 = (y, s) := by rw [syncsF]
    have hro : (l.length < 100 ∧ rounds l = l.length) ∨ (100 ≤ l.length ∧ rounds l = 100) := by unfold rounds; omega
    rcases hro with ⟨hml, hro⟩ | ⟨hml, hro⟩
    all_goals
      go_wp2_with (go_at_call 60; refine (implInRange _ _ _ _).mono ?_; rintro e w' ⟨rfl, rfl⟩)
      go_loopw [29] (fun i wr => ∃ (k : Nat) (a : Option Addr) (c : Nat) (a1 : Option Addr) (c1 : Nat) (a2 : Option Addr) (c2 : Nat) (a3 : Option Addr) (c3 : Nat), k ≤ rounds l ∧ i = .int .i64 k ∧ Pair wr (w.heap.size + 4) w1.heap.size w2.heap.size [.int .i64 (syncsF y s now l k).1.outbox.device, .int .i64 (syncsF y s now l k).1.outbox.next, .slice a (syncsF y s now l k).1.outbox.writes.length c, .int .i64 (syncsF y s now l k).1.tries, .int .i64 (syncsF y s now l k).1.waitUntil] [.string (syncsF y s now l k).2.store.name, .slice a1 (syncsF y s now l k).2.store.items.length c1, .int .i64 (syncsF y s now l k).2.store.auto, .slice a2 (syncsF y s now l k).2.applied.length c2, .slice a3 (syncsF y s now l k).2.changes.length c3] (syncsF y s now l k).1 (syncsF y s now l k).2 ∧ WB wr (w.heap.size + 1 + 1) #[.int .i64 0, .int .i64 0, .slice none 0 0, .int .i64 0, .int .i64 0] ∧ WB wr (w.heap.size + 1 + 1 + 1) #[.string ⟨#[]⟩, .slice none 0 0, .int .i64 0, .slice none 0 0, .slice none 0 0] ∧ Below w.heap.size w wr ∧ w2.heap.size < wr.heap.size) (fun i _ => rounds l - (intOf i).toNat)
      case atStart => exact ⟨0, p1, p2, q1, q2, q3, q4, q5, q6, by omega, rfl, by rw [h0]; exact hp.keep bEl, ht8.keep bEl, ht9.keep bEl, by have y := hb3; exact bEl, by simpa using hz3⟩
      case round =>
        clear hp ht8 ht9 hb3 hz3 h0
        obtain ⟨k, a, c, a1, c1, a2, c2, a3, c3, hk, rfl, hp, ht8, ht9, hb, hz⟩ := hrel
        by_cases hlt : k < rounds l
        · obtain ⟨hk1, hkl⟩ := rounds_lt hlt
          have HN := Lib.hid (syncsF_next (y := y) (s := s) hnow.1 hnow.2 hk1 hkl)
          have HY1 := Lib.hid (syncsF_len y s now l k)
          have HS1 := Lib.hid (syncsF_small (y := y) (now := now) (l := l) hs k)
          generalize (syncsF y s now l k).1 = Y at *
          generalize (syncsF y s now l k).2 = S at *
          obtain ⟨b, off, cs_b, rfl, hw_b, hr_b, hcell_b⟩ := slice_at (HV.out.below hb) k hkl
          obtain ⟨fe_b, hrd_b⟩ := hr_b
          obtain ⟨rfl, _, b_s0⟩ := hrd_b
          have b_c0 : wr.cell? ⟨b, off + k, none⟩ = some (.int .i64 l[k]) := by have h := hcell_b 0 (by decide); rwa [show off + k * Rep.int.n + 0 = off + k from by show off + k * 1 + 0 = off + k; omega] at h
          clear hcell_b
          have i1 : (0 : Int) ≤ (k : Int) := by omega
          have i2 : (k : Int) < (l.length : Int) := by omega
          have i3 : (k : Int) < (rounds l : Int) := by omega
          have i4 : (k : Int) < 100 := by omega
          have ⟨k1, zk1, fk1⟩ := hp.box1
          have ⟨k2, zk2, fk2⟩ := hp.box2
          have hq := hp.fresh2
          go_wp2_with fail
          refine (implSyncStep _ _ Y S (now + (k : Int) * 64) l[k] _ (hq.left.reads.below bEl) (hq.right.reads.below bEl) (Nat.le_trans HY1.out (by omega)) (HS1.out.mono (by omega))).mono ?_
          rintro e w4 ⟨ds, dv, rfl, hf, hb4⟩
          obtain ⟨d1, d2, rfl⟩ := DSync.fshape hf.left
          obtain ⟨d3, d4, d5, d6, d7, d8, rfl⟩ := DServer.fshape hf.right
          have hbq : Below wr.heap.size wr w4 := below_call bEl bSz hb4
          have hx1 := hp.box1.keep hbq
          have hx2 := hp.box2.keep hbq
          have ⟨m1, y1, g1⟩ := hx1
          have ⟨m2, y2, g2⟩ := hx2
          have hz4 := hbq.size
          go_wp2
          go_light
          exact ⟨⟨k + 1, d1, d2, d3, d4, d5, d6, d7, d8, by omega, by go_num, by rw [HN.out.1, HN.out.2]; exact (pair_step hf hx1 hx2 (by omega) (by omega) (by omega) (by omega)).1, off5 (off5 (ht8.keep hbq) (by omega)) (by omega), off5 (off5 (ht9.keep hbq) (by omega)) (by omega), (by have y := hb.trans (hbq.mono hb.size); exact bEb), by simp only [World.size_setCell]; omega⟩, by simp [intOf]; omega⟩
        · have hke := rounds_eq hk hlt
          subst hke
          have HE2 : Hid (syncAllF y s now l = ((syncsF y s now l (rounds l)).1, (syncsF y s now l (rounds l)).2)) := Lib.hid HE.out
          generalize (syncsF y s now l (rounds l)).1 = Y at *
          generalize (syncsF y s now l (rounds l)).2 = S at *
          go_upto_region 10 with fail
          clear hro hml
          have ⟨k1, zk1, fk1⟩ := hp.box1
          have ⟨k2, zk2, fk2⟩ := hp.box2
          have ⟨e8, z8, f8⟩ := ht8
          have ⟨e9, z9, f9⟩ := ht9
          go_cut [] from 47 to 48 (fun W => WB W (w.heap.size + 1 + 1) #[.int .i64 Y.outbox.device, .int .i64 Y.outbox.next, .slice a Y.outbox.writes.length c, .int .i64 Y.tries, .int .i64 Y.waitUntil] ∧ WB W (w.heap.size + 1 + 1 + 1) #[.string S.store.name, .slice a1 S.store.items.length c1, .int .i64 S.store.auto, .slice a2 S.applied.length c2, .slice a3 S.changes.length c3] ∧ Fresh2 DSync.rep DServer.rep (w.heap.size + 4) W [.int .i64 Y.outbox.device, .int .i64 Y.outbox.next, .slice a Y.outbox.writes.length c, .int .i64 Y.tries, .int .i64 Y.waitUntil] [.string S.store.name, .slice a1 S.store.items.length c1, .int .i64 S.store.auto, .slice a2 S.applied.length c2, .slice a3 S.changes.length c3] Y S ∧ Below w.heap.size w W)
          case first =>
            have hpo := pair_out hp ht8 ht9 (by omega) (by omega) (by omega)
            go_region_with (fail)
            all_goals
              go_wp2_with fail
              go_meet
              first
                | (obtain ⟨x1, x2, x3⟩ := hpo.1; have y := hb; with_reducible exact ⟨x1.growD, x2.growD, x3.growD, belD (all_bel5 (all_bel5 y (by omega)) (by omega))⟩)
                | (obtain ⟨x1, x2, x3⟩ := hpo.2; have y := hb; with_reducible exact ⟨x1.growD, x2.growD, x3.growD, belD (all_bel5 (all_bel5 y (by omega)) (by omega))⟩)
          case rest =>
            obtain ⟨r8, r9, hf2, hbb⟩ := hcut
            have cr8 := r8.cell
            have cr9 := r9.cell
            go_wp2
            refine bodyPost_ret (v := .tuple #[.agg #[.int .i64 Y.outbox.device, .int .i64 Y.outbox.next, .slice a Y.outbox.writes.length c, .int .i64 Y.tries, .int .i64 Y.waitUntil], .agg #[.string S.store.name, .slice a1 S.store.items.length c1, .int .i64 S.store.auto, .slice a2 S.applied.length c2, .slice a3 S.changes.length c3]]) (by simp [results, Tryz.results17, go_sem, cr8, cr9]) rfl ⟨_, _, rfl, ?_, hbb⟩
            rw [HE2.out]
            obtain ⟨f, g, h1, h2, h3, h4, h5, h6, h7⟩ := hf2
            exact ⟨f, g, h1, h2, h3, h4, h5, fun b hb => Nat.le_trans (by omega) (h6 b hb), fun b hb => Nat.le_trans (by omega) (h7 b hb)⟩

end Go.Proofs.YtlfebehpmefioaaGreat
