/-
  DrainSync.
-/
import Derived.Test.YtlfebehpmefioaaGreatSyncAll
namespace Go.Proofs.YtlfebehpmefioaaGreat
open Go.RowKit

def zeros20 : List Int := List.replicate 20 0
theorem zeros_len : zeros20.length = 20 := List.length_replicate
def drainF (y : DSync) (s : DServer) (now : Int) : DSync × DServer := syncAllF y s now zeros20
def zerosN (k : Nat) : List Int := List.replicate k 0
theorem make20 (wx : World) : (Instr.makeSlice 47 (.int .i64 20) (.int .i64 20)).run Tryz.prog wx = .ok (.slice (some ⟨wx.heap.size, 0, none⟩) 20 20) (wx.alloc (.cells (List.replicate 20 (Value.int .i64 0)).toArray 3)) := by
  obtain ⟨i1, hi1, hy0, hy1, hy2⟩ := info_parts Tryz.infoInt
  have h := run_makeSlice (P := Tryz.prog) (w := wx) 47 3 i1 _ Tryz.underlying47 hi1 hy0 .i64 .i64 20 20 (by decide) (by decide) (by rw [hy1]; decide) (by rw [hy2]; decide) (by decide)
  have e : madeCells (Value.int .i64 0).cells (Int.toNat 20 * 1) = (List.replicate 20 (Value.int .i64 0)).toArray := by
    kernel_rfl
  rw [hy1, e] at h
  exact h
theorem zeros_reads {w : World} {k : Nat} (hk : k = w.heap.size) : Reads (Rep.slice 3 Rep.int) (w.alloc (.cells #[.int .i64 0, .int .i64 0, .int .i64 0, .int .i64 0, .int .i64 0, .int .i64 0, .int .i64 0, .int .i64 0, .int .i64 0, .int .i64 0, .int .i64 0, .int .i64 0, .int .i64 0, .int .i64 0, .int .i64 0, .int .i64 0, .int .i64 0, .int .i64 0, .int .i64 0, .int .i64 0] 3)) [.slice (some ⟨k, 0, none⟩) 20 20] zeros20 :=
  (lit_fresh FlatR.int (us := zeros20) rfl rfl (by rw [zeros_len]; decide) (fun _ _ => trivial) hk).reads
theorem zeros_drew {w : World} {k : Nat} (hk : k = w.heap.size) : Reads (Rep.slice 3 Rep.int) (w.alloc (.cells #[.int .i64 0, .int .i64 0, .int .i64 0, .int .i64 0, .int .i64 0, .int .i64 0, .int .i64 0, .int .i64 0, .int .i64 0, .int .i64 0, .int .i64 0, .int .i64 0, .int .i64 0, .int .i64 0, .int .i64 0, .int .i64 0, .int .i64 0, .int .i64 0, .int .i64 0, .int .i64 0] 3)).drew [.slice (some ⟨k, 0, none⟩) 20 20] zeros20 := (zeros_reads hk).below (belD belR)
attribute [local irreducible] syncAllF zeros20 zerosN

set_option maxRecDepth 100000 in
set_option maxHeartbeats 3200000 in
theorem implDrainSync (cs cv : List Value) (y : DSync) (s : DServer) (now : Int) (w : World) (h : Reads DSync.rep w cs y) (h' : Reads DServer.rep w cv s) (hy : y.outbox.writes.length ≤ 1048576) (hs : SmallServer s 1048576) :
    Calls Tryz.prog 19 #[.agg cs.toArray, .agg cv.toArray, .int .i64 now] w fun e w' => ∃ ds dv, e = .returned (.tuple #[.agg ds.toArray, .agg dv.toArray]) ∧ Fresh2 DSync.rep DServer.rep w.heap.size w' ds dv (drainF y s now).1 (drainF y s now).2 ∧ Below w.heap.size w w' := by
  have HYr := Lib.hid h
  have HSr := Lib.hid h'
  obtain ⟨f1, hr⟩ := h
  obtain ⟨ya, yc, rfl⟩ := DSync.shape hr
  clear hr
  obtain ⟨f2, hr⟩ := h'
  obtain ⟨sa1, sc1, sa2, sc2, sa3, sc3, rfl⟩ := DServer.shape hr
  clear hr
  have hmk := make20
  have HDR : Hid (syncAllF y s now zeros20 = drainF y s now) := Lib.hid rfl
  go_enter Tryz.func19, Tryz.ntmps19
  go_upto_region 1 with fail
  refine settle (fun W => WB W w.heap.size #[.int .i64 y.outbox.device, .int .i64 y.outbox.next, .slice ya y.outbox.writes.length yc, .int .i64 y.tries, .int .i64 y.waitUntil] ∧ WB W (w.heap.size + 1) #[.string s.store.name, .slice sa1 s.store.items.length sc1, .int .i64 s.store.auto, .slice sa2 s.applied.length sc2, .slice sa3 s.changes.length sc3] ∧ WB W (w.heap.size + 1 + 1) #[.int .i64 0, .int .i64 0, .slice none 0 0, .int .i64 0, .int .i64 0] ∧ WB W (w.heap.size + 1 + 1 + 1) #[.string ⟨#[]⟩, .slice none 0 0, .int .i64 0, .slice none 0 0, .slice none 0 0] ∧ Below w.heap.size w W ∧ w.heap.size + 4 ≤ W.heap.size) ⟨((WB.at rfl).growA.growA).growA, ((WB.at (by simp)).growA).growA, (WB.at (by simp)).growA, WB.at (by simp), bEl, by simp⟩ ?_
  rintro w1 ⟨hy1, hs1, ht8, ht9, hb, hz⟩
  have ⟨k1, zk1, fk1⟩ := hy1
  have ⟨k2, zk2, fk2⟩ := hs1
  have ⟨e8, z8, f8⟩ := ht8
  have ⟨e9, z9, f9⟩ := ht9
  go_cut [] from 8 to 14 (fun W => ∃ (d1 : Option Addr) (d2 : Nat) (d3 : Option Addr) (d4 : Nat) (d5 : Option Addr) (d6 : Nat) (d7 : Option Addr) (d8 : Nat), Pair W w.heap.size (w.heap.size + 1 + 1) (w.heap.size + 1 + 1 + 1) [.int .i64 (drainF y s now).1.outbox.device, .int .i64 (drainF y s now).1.outbox.next, .slice d1 (drainF y s now).1.outbox.writes.length d2, .int .i64 (drainF y s now).1.tries, .int .i64 (drainF y s now).1.waitUntil] [.string (drainF y s now).2.store.name, .slice d3 (drainF y s now).2.store.items.length d4, .int .i64 (drainF y s now).2.store.auto, .slice d5 (drainF y s now).2.applied.length d6, .slice d7 (drainF y s now).2.changes.length d8] (drainF y s now).1 (drainF y s now).2 ∧ Below w.heap.size w W)
  case first =>
    go_region_with (first | (go_at_call 17; refine (implSyncAll _ _ y s now _ zeros20 _ (HYr.out.below (by have q := hb; exact bEb)) (HSr.out.below (by have q := hb; exact bEb)) (by first | (with_reducible exact zeros_drew rfl) | (with_reducible exact zeros_reads rfl) | (with_reducible exact zeros_drew (by simp)) | (with_reducible exact zeros_reads (by simp))) hy hs (by rw [zeros_len]; decide)).mono ?_; rw [HDR.out]; rintro e w4 ⟨ds, dv, rfl, hf, hb4⟩; obtain ⟨d1, d2, rfl⟩ := DSync.fshape hf.left; obtain ⟨d3, d4, d5, d6, d7, d8, rfl⟩ := DServer.fshape hf.right; have hbq : Below w1.heap.size w1 w4 := below_call bEl bSz hb4; have hx8 := ht8.keep hbq; have hx9 := ht9.keep hbq; have ⟨m1, y1, g1⟩ := hx8; have ⟨m2, y2, g2⟩ := hx9))
    all_goals
      have hz4 := hbq.size
      obtain ⟨L, hL, hf⟩ := hf.base
      simp only [World.size_alloc, World.size_drew] at hL
      have hp := pair_step (B := w.heap.size) hf hx8 hx9 (by omega) (by omega) (by omega) (by omega)
      have y := hb.trans (hbq.mono hb.size)
      go_wp2_with fail
      go_meet
      first
        | exact ⟨d1, d2, d3, d4, d5, d6, d7, d8, hp.1, bEb⟩
        | exact ⟨d1, d2, d3, d4, d5, d6, d7, d8, hp.2, bEb⟩
  case rest =>
    obtain ⟨d1, d2, d3, d4, d5, d6, d7, d8, hp, hbb⟩ := hcut
    have c8 := hp.box1.cell
    have c9 := hp.box2.cell
    go_wp2
    exact bodyPost_ret (v := .tuple #[.agg #[.int .i64 (drainF y s now).1.outbox.device, .int .i64 (drainF y s now).1.outbox.next, .slice d1 (drainF y s now).1.outbox.writes.length d2, .int .i64 (drainF y s now).1.tries, .int .i64 (drainF y s now).1.waitUntil], .agg #[.string (drainF y s now).2.store.name, .slice d3 (drainF y s now).2.store.items.length d4, .int .i64 (drainF y s now).2.store.auto, .slice d5 (drainF y s now).2.applied.length d6, .slice d7 (drainF y s now).2.changes.length d8]]) (by simp [results, Tryz.results19, go_sem, c8, c9]) rfl ⟨_, _, rfl, hp.fresh2, hbb⟩