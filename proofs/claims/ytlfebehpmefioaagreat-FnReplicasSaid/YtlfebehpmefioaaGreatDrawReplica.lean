/-
  spec.DrawReplica.
-/
import Derived.Test.YtlfebehpmefioaaGreatPair23
namespace Go.Proofs.YtlfebehpmefioaaGreat
open Go.RowKit

set_option maxRecDepth 100000 in
set_option maxHeartbeats 3200000 in
theorem specDrawReplica {P : Nat → DReplica → DServer → Prop} (hP : RepInv P) (v : Value) (l : List UInt8) (w : World) (h : Reads Rep.bytes w [v] l) (hl : l.length ≤ 1048576) : Calls Tryz.prog 23 #[v] w fun e w' => ∃ ds dv : List Value, e = .returned (.tuple #[.agg ds.toArray, .agg dv.toArray]) ∧ ∃ (t : Nat) (r : DReplica) (s : DServer), Reads DReplica.rep w' ds r ∧ Reads DServer.rep w' dv s ∧ t ≤ 5 ∧ P t r s ∧ Below w.heap.size w w' := by
  have HK := Lib.hid h
  clear h
  go_enter Tryz.func23, Tryz.ntmps23
  go_wp2_with fail
  refine (specNew v l _ w.heap.size (HK.out.lo bEl) (by simp; omega) hl).mono ?_
  rintro e w1 ⟨k, rfl, hk, hkb, hc, hb⟩
  simp at hk
  have HT : Hid (WB w1 w.heap.size #[.string ⟨#[]⟩, .slice none 0 0, .int .i64 0, .int .i64 0, .int .i64 0, .int .i64 0, .slice none 0 0, .int .i64 0, .int .i64 0]) := Lib.hid (((WB.at rfl).growA).keep hb)
  have HU : Hid (WB w1 (w.heap.size + 1) #[.string ⟨#[]⟩, .slice none 0 0, .int .i64 0, .slice none 0 0, .slice none 0 0]) := Lib.hid ((WB.at (by simp)).keep hb)
  have HB : Hid (Below w.heap.size w w1) := Lib.hid (below_call bEl bSz hb)
  have hc1 := hc.lt
  have hzb := HB.out.size
  clear hb
  go_wp2_with fail
  refine (specPair23 hP k _ hc).mono ?_
  rintro e w2 ⟨ds, dv, rfl, t, r, s, hf, hg, ht5, hp, hm⟩
  obtain ⟨a1, c1, a2, c2, rfl⟩ := hf.repShape
  obtain ⟨b1, d1, b2, d2, b3, d3, rfl⟩ := hg.srvShape
  have HF := Lib.hid hf
  have HG := Lib.hid hg
  replace HT := Lib.hid (HT.out.mov hm (by omega))
  replace HU := Lib.hid (HU.out.mov hm (by omega))
  have HB2 := Lib.hid (HB.out.trans (hm.toBelow (B := w.heap.size) (by omega) hc1))
  clear hf hg hm
  have HT2 := Lib.hid (off5s (set9r HT.out (b0 := .string r.base.name) (b1 := .slice a1 r.base.items.length c1) (b2 := .int .i64 r.base.auto) (b3 := .int .i64 r.seen) (b4 := .int .i64 r.sync.outbox.device) (b5 := .int .i64 r.sync.outbox.next) (b6 := .slice a2 r.sync.outbox.writes.length c2) (b7 := .int .i64 r.sync.tries) (b8 := .int .i64 r.sync.waitUntil)) (g := w.heap.size + 1) (b0 := .string s.store.name) (b1 := .slice b1 s.store.items.length d1) (b2 := .int .i64 s.store.auto) (b3 := .slice b2 s.applied.length d2) (b4 := .slice b3 s.changes.length d3) (by omega))
  have HU2 := Lib.hid (set5s (off9r HU.out (g := w.heap.size) (b0 := .string r.base.name) (b1 := .slice a1 r.base.items.length c1) (b2 := .int .i64 r.base.auto) (b3 := .int .i64 r.seen) (b4 := .int .i64 r.sync.outbox.device) (b5 := .int .i64 r.sync.outbox.next) (b6 := .slice a2 r.sync.outbox.writes.length c2) (b7 := .int .i64 r.sync.tries) (b8 := .int .i64 r.sync.waitUntil) (by omega)) (b0 := .string s.store.name) (b1 := .slice b1 s.store.items.length d1) (b2 := .int .i64 s.store.auto) (b3 := .slice b2 s.applied.length d2) (b4 := .slice b3 s.changes.length d3))
  have ⟨c_HT, z_HT, f_HT⟩ := HT.out
  have ⟨c_HU, z_HU, f_HU⟩ := HU.out
  go_wp2
  clear c_HT z_HT f_HT c_HU z_HU f_HU
  have ⟨c_HT2, z_HT2, f_HT2⟩ := HT2.out
  have ⟨c_HU2, z_HU2, f_HU2⟩ := HU2.out
  refine bodyPost_ret (v := .tuple #[.agg #[.string r.base.name, .slice a1 r.base.items.length c1, .int .i64 r.base.auto, .int .i64 r.seen, .int .i64 r.sync.outbox.device, .int .i64 r.sync.outbox.next, .slice a2 r.sync.outbox.writes.length c2, .int .i64 r.sync.tries, .int .i64 r.sync.waitUntil], .agg #[.string s.store.name, .slice b1 s.store.items.length d1, .int .i64 s.store.auto, .slice b2 s.applied.length d2, .slice b3 s.changes.length d3]]) (by simp [results, Tryz.results23, go_sem, c_HT2, c_HU2]) rfl ⟨_, _, rfl, t, r, s, Off.reads (K := fun x => x < w1.heap.size) (by repeat (first | with_reducible exact HF.out | with_reducible refine Off.set ?_ (by omega))), Off.reads (K := fun x => x < w1.heap.size) (by repeat (first | with_reducible exact HG.out | with_reducible refine Off.set ?_ (by omega))), ht5, hp, by have y := HB2.out; exact bEb⟩

end Go.Proofs.YtlfebehpmefioaaGreat
