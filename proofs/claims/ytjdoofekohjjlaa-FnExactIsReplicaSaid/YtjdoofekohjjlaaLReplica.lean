/-
  The laws' helpers for Replica.
-/
import Derived.Test.YtjdoofekohjjlaaLStore
import Derived.Test.YtjdoofekohjjlaaLSync
import Derived.Test.YtjdoofekohjjlaaTReplica
namespace Go.Proofs.Ytjdoofekohjjlaa
open Go.RowKit

def DReplica.wt (x : DReplica) : Nat := x.base.wt + x.sync.wt

set_option maxHeartbeats 400000 in
theorem szReplica (cs : List Value) (x : DReplica) (left : Int) (w : World) (h : Reads DReplica.rep w cs x) (h0 : 0 ≤ left) (h1 : left ≤ 1048576) :
    Calls Try.prog 16 #[.agg cs.toArray, .int .i64 left] w fun e w' => e = .returned (.int .i64 (szOf x.wt left)) ∧ Below w.heap.size w w' := by
  obtain ⟨fp, h⟩ := h
  obtain ⟨v1, v2, f1, f2, rfl, _, s0, r1, r2⟩ := DReplica.rd.1 h
  have HV1 : Hid (Reads DStore.rep w [.string x.base.name, v1, .int .i64 x.base.auto] x.base) := ⟨_, DStore.rd.2 ⟨_, _, rfl, rfl, s0, r1⟩⟩
  have HV2 : Hid (Reads DSync.rep w [.int .i64 x.sync.outbox.device, .int .i64 x.sync.outbox.next, v2, .int .i64 x.sync.tries, .int .i64 x.sync.waitUntil] x.sync) := ⟨_, DSync.rd.2 ⟨_, _, rfl, rfl, r2⟩⟩
  clear h r1 r2
  unfold maxLen at s0
  go_enter Try.func16, Try.ntmps16
  go_wp2_with fail
  have q1 : 0 ≤ left ∧ left ≤ 1048576 := by
    omega
  refine (szStore _ _ _ _ (HV1.out.below (by repeat (first | with_reducible exact belR | with_reducible apply belA | (with_reducible refine belS ?_ ?_; focus (first | omega | (simp; done) | (simp; omega))) | with_reducible apply belN | with_reducible apply belD | with_reducible assumption))) q1.1 q1.2).mono ?_
  rintro e w1 ⟨rfl, hb1⟩
  obtain ⟨hc1, hfz1⟩ := bcell hb1
  have hz1 : w.heap.size < w1.heap.size := by have y := hb1.size; (try simp at y); omega
  have HB1 := Lib.hid (below_call (B := w.heap.size) (w := w) (by repeat (first | with_reducible exact belR | with_reducible apply belA | (with_reducible refine belS ?_ ?_; focus (first | omega | (simp; done) | (simp; omega))) | with_reducible apply belN | with_reducible apply belD | with_reducible assumption)) (by first | omega | (simp; done) | (simp; omega)) hb1); clear hb1
  have bl1 : -1 ≤ szOf (x.base.wt) (left) ∧ szOf (x.base.wt) (left) ≤ 1048576 := by
    have a0 := szOf_spec (x.base.wt) (left)
    omega
  obtain ⟨bl1, bu1⟩ := bl1
  go_wp2_with fail
  · go_ret
    have y0 := HB1.out
    refine ⟨ret_int ?_, (by repeat (first | with_reducible exact belR | with_reducible apply belA | (with_reducible refine belS ?_ ?_; focus (first | omega | (simp; done) | (simp; omega))) | with_reducible apply belN | with_reducible apply belD | with_reducible assumption))⟩
    go_light
    have a0 := szOf_spec x.wt left
    have a1 := szOf_spec (x.base.wt) (left)
    unfold DReplica.wt at *
    omega
  have q2 : 0 ≤ szOf (x.base.wt) (left) ∧ szOf (x.base.wt) (left) ≤ 1048576 := by
    have a0 := szOf_spec (x.base.wt) (left)
    omega
  refine (szSync _ _ _ _ (HV2.out.below (by have y := HB1.out; exact (by repeat (first | with_reducible exact belR | with_reducible apply belA | (with_reducible refine belS ?_ ?_; focus (first | omega | (simp; done) | (simp; omega))) | with_reducible apply belN | with_reducible apply belD | with_reducible assumption)))) q2.1 q2.2).mono ?_
  rintro e w2 ⟨rfl, hb2⟩
  obtain ⟨hc2, hfz2⟩ := bcell hb2
  have hz2 : w.heap.size < w2.heap.size := by have y := hb2.size; (try simp at y); omega
  have HB2 := Lib.hid (below_call (B := w.heap.size) (w := w) (by have y := HB1.out; exact (by repeat (first | with_reducible exact belR | with_reducible apply belA | (with_reducible refine belS ?_ ?_; focus (first | omega | (simp; done) | (simp; omega))) | with_reducible apply belN | with_reducible apply belD | with_reducible assumption))) (by first | omega | (simp; done) | (simp; omega)) hb2); clear hb2
  have bl2 : -1 ≤ szOf (x.sync.wt) (szOf (x.base.wt) (left)) ∧ szOf (x.sync.wt) (szOf (x.base.wt) (left)) ≤ 1048576 := by
    have a0 := szOf_spec (x.sync.wt) (szOf (x.base.wt) (left))
    omega
  obtain ⟨bl2, bu2⟩ := bl2
  go_wp2_with fail
  · go_ret
    have y0 := HB1.out
    have y1 := HB2.out
    refine ⟨ret_int ?_, (by repeat (first | with_reducible exact belR | with_reducible apply belA | (with_reducible refine belS ?_ ?_; focus (first | omega | (simp; done) | (simp; omega))) | with_reducible apply belN | with_reducible apply belD | with_reducible assumption))⟩
    go_light
    have a0 := szOf_spec x.wt left
    have a1 := szOf_spec (x.base.wt) (left)
    have a2 := szOf_spec (x.sync.wt) (szOf (x.base.wt) (left))
    unfold DReplica.wt at *
    omega
  · go_ret
    have y0 := HB1.out
    have y1 := HB2.out
    refine ⟨ret_int ?_, (by repeat (first | with_reducible exact belR | with_reducible apply belA | (with_reducible refine belS ?_ ?_; focus (first | omega | (simp; done) | (simp; omega))) | with_reducible apply belN | with_reducible apply belD | with_reducible assumption))⟩
    go_light
    have a0 := szOf_spec x.wt left
    have a1 := szOf_spec (x.base.wt) (left)
    have a2 := szOf_spec (x.sync.wt) (szOf (x.base.wt) (left))
    unfold DReplica.wt at *
    omega

set_option maxHeartbeats 800000 in
theorem toReplica (cs : List Value) (x : DReplica) (w : World) (h : Reads DReplica.rep w cs x) (_hsmall : x.wt ≤ 1048576) :
    Calls Try.prog 18 #[.agg cs.toArray] w fun e w' => ∃ ds, e = .returned (.agg ds.toArray) ∧ Fresh DReplica.rep w.heap.size w' ds x ∧ Below w.heap.size w w' := by
  obtain ⟨fp, h⟩ := h
  obtain ⟨v1, v2, f1, f2, rfl, _, s0, r1, r2⟩ := DReplica.rd.1 h
  have HV1 : Hid (Reads DStore.rep w [.string x.base.name, v1, .int .i64 x.base.auto] x.base) := ⟨_, DStore.rd.2 ⟨_, _, rfl, rfl, s0, r1⟩⟩
  have d1 : x.base.wt ≤ 1048576 := by unfold DReplica.wt at _hsmall; omega
  have HV2 : Hid (Reads DSync.rep w [.int .i64 x.sync.outbox.device, .int .i64 x.sync.outbox.next, v2, .int .i64 x.sync.tries, .int .i64 x.sync.waitUntil] x.sync) := ⟨_, DSync.rd.2 ⟨_, _, rfl, rfl, r2⟩⟩
  have d2 : x.sync.wt ≤ 1048576 := by unfold DReplica.wt at _hsmall; omega
  clear h r1 r2
  go_enter Try.func18, Try.ntmps18
  go_wp2_with fail
  refine (toStore _ _ _ (HV1.out.below (by repeat (first | with_reducible exact belR | with_reducible apply belA | (with_reducible refine belS ?_ ?_; focus (first | omega | (simp; done) | (simp; omega))) | with_reducible apply belN | with_reducible apply belD | with_reducible assumption))) d1).mono ?_
  rintro e w1 ⟨t1, rfl, hf1, hb1⟩
  obtain ⟨ao1, cap1, rfl⟩ := DStore.fshape hf1
  obtain ⟨hc1, hfz1⟩ := bcell hb1
  have hs1 : w.heap.size + 1 + 1 + 1 ≤ w1.heap.size := by have y := hb1.size; (try simp at y); omega
  have hz10 : w.heap.size < w1.heap.size := by omega
  have hz11 : w.heap.size + 1 < w1.heap.size := by omega
  have hz12 : w.heap.size + 1 + 1 < w1.heap.size := by omega
  have HF1 := Lib.hid (hf1.mono (B' := w.heap.size + 1 + 1 + 1) (by first | omega | (simp; done) | (simp; omega)))
  have HB1 := Lib.hid (below_call (B := w.heap.size) (w := w) (by repeat (first | with_reducible exact belR | with_reducible apply belA | (with_reducible refine belS ?_ ?_; focus (first | omega | (simp; done) | (simp; omega))) | with_reducible apply belN | with_reducible apply belD | with_reducible assumption)) (by first | omega | (simp; done) | (simp; omega)) hb1)
  clear hb1 hf1
  go_wp2_with fail
  refine (toSync _ _ _ (HV2.out.below (by have y := HB1.out; exact (by repeat (first | with_reducible exact belR | with_reducible apply belA | (with_reducible refine belS ?_ ?_; focus (first | omega | (simp; done) | (simp; omega))) | with_reducible apply belN | with_reducible apply belD | with_reducible assumption)))) d2).mono ?_
  rintro e w2 ⟨t2, rfl, hf2, hb2⟩
  obtain ⟨ao2, cap2, rfl⟩ := DSync.fshape hf2
  obtain ⟨hc2, hfz2⟩ := bcell hb2
  have hs2 : w1.heap.size ≤ w2.heap.size := by have y := hb2.size; (try simp at y); omega
  have hz20 : w.heap.size < w2.heap.size := by omega
  have hz21 : w.heap.size + 1 < w2.heap.size := by omega
  have hz22 : w.heap.size + 1 + 1 < w2.heap.size := by omega
  have HA1_2 : Hid (Abv (w.heap.size + 1 + 1 + 1) w1 w2) := abB (by repeat (first | with_reducible exact abR | with_reducible apply abA | (with_reducible refine abS ?_ ?_; focus (first | omega | (simp; done) | (simp; omega))) | with_reducible apply abN | with_reducible apply abD | with_reducible assumption)) hb2 (by first | omega | (simp; done) | (simp; omega))
  have HF2 := Lib.hid (hf2.mono (B' := w1.heap.size) (by first | omega | (simp; done) | (simp; omega)))
  have HB2 := Lib.hid (below_call (B := w.heap.size) (w := w) (by have y := HB1.out; exact (by repeat (first | with_reducible exact belR | with_reducible apply belA | (with_reducible refine belS ?_ ?_; focus (first | omega | (simp; done) | (simp; omega))) | with_reducible apply belN | with_reducible apply belD | with_reducible assumption))) (by first | omega | (simp; done) | (simp; omega)) hb2)
  clear hb2 hf2
  go_wp2
  refine bodyPost_ret (v := .agg #[.string x.base.name, .slice ao1 x.base.items.length cap1, .int .i64 x.base.auto, .int .i64 x.seen, .int .i64 x.sync.outbox.device, .int .i64 x.sync.outbox.next, .slice ao2 x.sync.outbox.writes.length cap2, .int .i64 x.sync.tries, .int .i64 x.sync.waitUntil]) (by first | (simp [results, Try.results18, go_sem, hc1, hc2, hz11]; done)) rfl ⟨_, rfl, ?_, ?_⟩
  · exact DReplica.fresh (HF1.out.part (by have y := HA1_2.out; exact (by repeat (first | with_reducible exact abR | with_reducible apply abA | (with_reducible refine abS ?_ ?_; focus (first | omega | (simp; done) | (simp; omega))) | with_reducible apply abN | with_reducible apply abD | with_reducible assumption)))) (HF2.out.part (by repeat (first | with_reducible exact abR | with_reducible apply abA | (with_reducible refine abS ?_ ?_; focus (first | omega | (simp; done) | (simp; omega))) | with_reducible apply abN | with_reducible apply abD | with_reducible assumption))) (by first | omega | (simp; done) | (simp; omega)) (by first | omega | (simp; done) | (simp; omega)) (by first | omega | (simp; done) | (simp; omega)) 
  · have y := HB2.out
    exact (by repeat (first | with_reducible exact belR | with_reducible apply belA | (with_reducible refine belS ?_ ?_; focus (first | omega | (simp; done) | (simp; omega))) | with_reducible apply belN | with_reducible apply belD | with_reducible assumption))

set_option maxHeartbeats 800000 in
theorem eqReplica (cs ds : List Value) (x : DReplica) (w : World) (h : Reads DReplica.rep w cs x) (h' : Reads DReplica.rep w ds x) :
    Calls Try.prog 20 #[.agg cs.toArray, .agg ds.toArray] w fun e w' => e = .returned (.bool true) ∧ Below w.heap.size w w' := by
  obtain ⟨fp, h0⟩ := h
  obtain ⟨vv1, vv2, vf1, vf2, rfl, _, vs0, vr1, vr2⟩ := DReplica.rd.1 h0
  have HV1 : Hid (Reads DStore.rep w [.string x.base.name, vv1, .int .i64 x.base.auto] x.base) := ⟨_, DStore.rd.2 ⟨_, _, rfl, rfl, vs0, vr1⟩⟩
  have HV2 : Hid (Reads DSync.rep w [.int .i64 x.sync.outbox.device, .int .i64 x.sync.outbox.next, vv2, .int .i64 x.sync.tries, .int .i64 x.sync.waitUntil] x.sync) := ⟨_, DSync.rd.2 ⟨_, _, rfl, rfl, vr2⟩⟩
  clear h0 vr1 vr2
  obtain ⟨fp, h0⟩ := h'
  obtain ⟨uv1, uv2, uf1, uf2, rfl, _, us0, ur1, ur2⟩ := DReplica.rd.1 h0
  have HU1 : Hid (Reads DStore.rep w [.string x.base.name, uv1, .int .i64 x.base.auto] x.base) := ⟨_, DStore.rd.2 ⟨_, _, rfl, rfl, us0, ur1⟩⟩
  have HU2 : Hid (Reads DSync.rep w [.int .i64 x.sync.outbox.device, .int .i64 x.sync.outbox.next, uv2, .int .i64 x.sync.tries, .int .i64 x.sync.waitUntil] x.sync) := ⟨_, DSync.rd.2 ⟨_, _, rfl, rfl, ur2⟩⟩
  clear h0 ur1 ur2
  go_enter Try.func20, Try.ntmps20
  go_wp2_with fail
  refine (eqStore _ _ _ _ (HV1.out.below (by repeat (first | with_reducible exact belR | with_reducible apply belA | (with_reducible refine belS ?_ ?_; focus (first | omega | (simp; done) | (simp; omega))) | with_reducible apply belN | with_reducible apply belD | with_reducible assumption))) (HU1.out.below (by repeat (first | with_reducible exact belR | with_reducible apply belA | (with_reducible refine belS ?_ ?_; focus (first | omega | (simp; done) | (simp; omega))) | with_reducible apply belN | with_reducible apply belD | with_reducible assumption)))).mono ?_
  rintro e w1 ⟨rfl, hb1⟩
  obtain ⟨hc1, hfz1⟩ := bcell hb1
  have hs1 : w.heap.size + 1 + 1 ≤ w1.heap.size := by have y := hb1.size; (try simp at y); omega
  have hz10 : w.heap.size < w1.heap.size := by omega
  have hz11 : w.heap.size + 1 < w1.heap.size := by omega
  have HB1 := Lib.hid (below_call (B := w.heap.size) (w := w) (by repeat (first | with_reducible exact belR | with_reducible apply belA | (with_reducible refine belS ?_ ?_; focus (first | omega | (simp; done) | (simp; omega))) | with_reducible apply belN | with_reducible apply belD | with_reducible assumption)) (by first | omega | (simp; done) | (simp; omega)) hb1)
  clear hb1
  go_wp2_with fail
  refine (eqSync _ _ _ _ (HV2.out.below (by have y := HB1.out; exact (by repeat (first | with_reducible exact belR | with_reducible apply belA | (with_reducible refine belS ?_ ?_; focus (first | omega | (simp; done) | (simp; omega))) | with_reducible apply belN | with_reducible apply belD | with_reducible assumption)))) (HU2.out.below (by have y := HB1.out; exact (by repeat (first | with_reducible exact belR | with_reducible apply belA | (with_reducible refine belS ?_ ?_; focus (first | omega | (simp; done) | (simp; omega))) | with_reducible apply belN | with_reducible apply belD | with_reducible assumption))))).mono ?_
  rintro e w2 ⟨rfl, hb2⟩
  obtain ⟨hc2, hfz2⟩ := bcell hb2
  have hs2 : w1.heap.size ≤ w2.heap.size := by have y := hb2.size; (try simp at y); omega
  have hz20 : w.heap.size < w2.heap.size := by omega
  have hz21 : w.heap.size + 1 < w2.heap.size := by omega
  have HB2 := Lib.hid (below_call (B := w.heap.size) (w := w) (by have y := HB1.out; exact (by repeat (first | with_reducible exact belR | with_reducible apply belA | (with_reducible refine belS ?_ ?_; focus (first | omega | (simp; done) | (simp; omega))) | with_reducible apply belN | with_reducible apply belD | with_reducible assumption))) (by first | omega | (simp; done) | (simp; omega)) hb2)
  clear hb2
  go_wp2
  go_ret
  have y := HB2.out
  exact ⟨rfl, (by repeat (first | with_reducible exact belR | with_reducible apply belA | (with_reducible refine belS ?_ ?_; focus (first | omega | (simp; done) | (simp; omega))) | with_reducible apply belN | with_reducible apply belD | with_reducible assumption))⟩

theorem infoReplica : (Try.prog.info? 53).map (fun i => (i.zero, i.size, i.bytes)) = some (some (.agg #[.string ⟨#[]⟩, .slice none 0 0, .int .i64 0, .int .i64 0, .int .i64 0, .int .i64 0, .slice none 0 0, .int .i64 0, .int .i64 0]), 9, 112) := by kernel_rfl

def DReplica.cnt (x : DReplica) : Nat := 7 + wtT DItem.cnt x.base.items x.base.items.length + wtT DWrite.cnt x.sync.outbox.writes x.sync.outbox.writes.length
def DReplica.mk3 (k : Nat) (x : DReplica) : DReplica := ⟨⟨markT (k), marks DItem.mk3 DItem.cnt (k + 1) x.base.items, (((k + 1 + wtT DItem.cnt x.base.items x.base.items.length : Nat) : Int))⟩, (((k + 1 + wtT DItem.cnt x.base.items x.base.items.length : Nat) : Int) + 1), ⟨⟨(((k + 1 + wtT DItem.cnt x.base.items x.base.items.length : Nat) : Int) + 1 + 1), (((k + 1 + wtT DItem.cnt x.base.items x.base.items.length : Nat) : Int) + 1 + 1 + 1), marks DWrite.mk3 DWrite.cnt (k + 1 + wtT DItem.cnt x.base.items x.base.items.length + 4) x.sync.outbox.writes⟩, (((k + 1 + wtT DItem.cnt x.base.items x.base.items.length + 4 + wtT DWrite.cnt x.sync.outbox.writes x.sync.outbox.writes.length : Nat) : Int)), (((k + 1 + wtT DItem.cnt x.base.items x.base.items.length + 4 + wtT DWrite.cnt x.sync.outbox.writes x.sync.outbox.writes.length : Nat) : Int) + 1)⟩⟩

def DReplica.mcnt (x : DReplica) : Nat := x.base.mcnt + x.sync.mcnt
def DReplica.mks (x : DReplica) (k : Nat) : DReplica := { x with base := x.base.mks (k), sync := x.sync.mks (k + x.base.mcnt) }

set_option maxRecDepth 100000 in
set_option maxHeartbeats 800000 in
theorem markReplica (cs : List Value) (x : DReplica) (fp : List Nat) (k : Nat) (w : World) (h : DReplica.rep.rd true w cs x fp) (hnd : fp.Nodup) (hk : k + x.mcnt ≤ 1000000000) :
    Calls Try.prog 39 #[.agg cs.toArray, .int .i64 k] w fun e w' => e = .returned (.int .i64 ((k + x.mcnt : Nat) : Int)) ∧ DReplica.rep.rd true w' cs (x.mks k) fp ∧ Chg fp w w' := by
  have HL := Lib.hid (DReplica.rep.lt h)
  obtain ⟨v1, v2, f0, f2, rfl, rfl, r0, r1⟩ := DReplica.parts h
  have n0 : (f0).Nodup := (List.nodup_append.1 hnd).1
  have J0 := Lib.hid (fun b (h1 : b ∈ f0) (h2 : b ∈ f2) => (List.nodup_append.1 hnd).2.2 b h1 b h2 rfl)
  replace hnd := (List.nodup_append.1 hnd).2.1
  have n1 := hnd
  have R0 := Lib.hid r0
  have R1 := Lib.hid r1
  clear h r0 r1
  unfold DReplica.mcnt at hk
  go_enter Try.func39, Try.ntmps39
  go_wp2_with fail
  refine (markStore _ x.base f0 (k) _ (Rep.frame DStore.rep (w' := w.alloc _) R0.out fun b hb => Below.heap_alloc _ _ _ (HL.out b (List.mem_append.2 (.inl hb)))) n0 (by omega)).mono ?_
  rintro e w1 ⟨rfl, rd0, ch0⟩
  replace R1 := Lib.hid (ch0.keeps (Rep.frame DSync.rep (w' := w.alloc _) R1.out fun b hb => Below.heap_alloc _ _ _ (HL.out b (List.mem_append.2 (.inr hb)))) (fun b h1 h2 => J0.out b h2 h1))
  replace R0 := Lib.hid rd0
  have hx0 : w.heap.size ∉ f0 := fun hx => Nat.lt_irrefl _ (HL.out _ (List.mem_append.2 (.inl hx)))
  have hz1 : w.heap.size < w1.heap.size := by have y := ch0.size; simp at y; omega
  have hc1 : ∀ o, w1.cell? ⟨w.heap.size, o, none⟩ = _ := fun o => World.cell?_of_block (a := ⟨w.heap.size, o, none⟩) (ch0.block w.heap.size (by first | omega | (simp; done) | (simp; omega)) hx0)
  have C0 := Lib.hid ch0
  clear rd0 ch0 hx0
  go_wp2_with fail
  refine (markSync _ x.sync f2 (k + x.base.mcnt) _ R1.out n1 (by omega)).mono ?_
  rintro e w2 ⟨rfl, rd1, ch1⟩
  replace R0 := Lib.hid (ch1.keeps R0.out (fun b h1 h2 => J0.out b h1 h2))
  replace R1 := Lib.hid rd1
  have hx1 : w.heap.size ∉ f2 := fun hx => Nat.lt_irrefl _ (HL.out _ (List.mem_append.2 (.inr hx)))
  have hz2 : w.heap.size < w2.heap.size := by have y := ch1.size; (try simp at y); omega
  have hc2 : ∀ o, w2.cell? ⟨w.heap.size, o, none⟩ = _ := fun o => World.cell?_of_block (a := ⟨w.heap.size, o, none⟩) (ch1.block w.heap.size (by first | omega | (simp; done) | (simp; omega)) hx1)
  have C1 := Lib.hid ch1
  clear rd1 ch1 hx1
  go_wp2
  go_ret
  refine ⟨ret_int (by unfold DReplica.mcnt; omega), ?_, ?_⟩
  · exact DReplica.join (x := x.mks k) _ _ R0.out _ _ R1.out 
  · have z := Chg.trans (a := w) (Chg.of_below (fp := f0 ++ (f2)) (B := w.heap.size) (belA belR) (Nat.le_refl _)) (C0.out.mono (fq := f0 ++ (f2)) fun b hb => (List.mem_append.2 (.inl hb)))
    replace z := z.trans (C1.out.mono (fq := f0 ++ (f2)) fun b hb => (List.mem_append.2 (.inr hb)))
    exact z

set_option maxRecDepth 100000 in
set_option maxHeartbeats 800000 in
theorem heldReplica (cs : List Value) (x : DReplica) (k : Nat) (w : World) (h : Reads DReplica.rep w cs (x.mks k)) (hk : k + x.mcnt ≤ 1000000000) :
    Calls Try.prog 40 #[.agg cs.toArray, .int .i64 k] w fun e w' => e = .returned (.int .i64 ((k + x.mcnt : Nat) : Int)) ∧ Below w.heap.size w w' := by
  obtain ⟨fp, h⟩ := h
  obtain ⟨v1, v2, f0, f2, rfl, _, r0, r1⟩ := DReplica.parts h
  have HV0 : Hid (Reads DStore.rep w [.string (x.mks k).base.name, v1, .int .i64 (x.mks k).base.auto] (x.mks k).base) := ⟨_, r0⟩
  have HV1 : Hid (Reads DSync.rep w [.int .i64 (x.mks k).sync.outbox.device, .int .i64 (x.mks k).sync.outbox.next, v2, .int .i64 (x.mks k).sync.tries, .int .i64 (x.mks k).sync.waitUntil] (x.mks k).sync) := ⟨_, r1⟩
  clear h r0 r1
  unfold DReplica.mcnt at hk
  go_enter Try.func40, Try.ntmps40
  go_wp2_with fail
  refine (heldStore _ x.base (k) _ (HV0.out.below (by repeat (first | with_reducible exact belR | with_reducible apply belA | (with_reducible refine belS ?_ ?_; focus (first | omega | (simp; done) | (simp; omega))) | with_reducible apply belN | with_reducible apply belD | with_reducible assumption))) (by omega)).mono ?_
  rintro e w1 ⟨rfl, hb1⟩
  obtain ⟨hc1, hfz1⟩ := bcell hb1
  have hz1 : w.heap.size < w1.heap.size := by have y := hb1.size; simp at y; omega
  have HB1 := Lib.hid (below_call (w := w) (by repeat (first | with_reducible exact belR | with_reducible apply belA | (with_reducible refine belS ?_ ?_; focus (first | omega | (simp; done) | (simp; omega))) | with_reducible apply belN | with_reducible apply belD | with_reducible assumption)) (by first | omega | (simp; done) | (simp; omega)) hb1); clear hb1
  go_wp2_with fail
  refine (heldSync _ x.sync (k + x.base.mcnt) _ (HV1.out.below (by have y := HB1.out; exact (by repeat (first | with_reducible exact belR | with_reducible apply belA | (with_reducible refine belS ?_ ?_; focus (first | omega | (simp; done) | (simp; omega))) | with_reducible apply belN | with_reducible apply belD | with_reducible assumption)))) (by omega)).mono ?_
  rintro e w2 ⟨rfl, hb2⟩
  obtain ⟨hc2, hfz2⟩ := bcell hb2
  have hz2 : w.heap.size < w2.heap.size := by have y := hb2.size; (try simp at y); omega
  have HB2 := Lib.hid (below_call (w := w) (by have y := HB1.out; exact (by repeat (first | with_reducible exact belR | with_reducible apply belA | (with_reducible refine belS ?_ ?_; focus (first | omega | (simp; done) | (simp; omega))) | with_reducible apply belN | with_reducible apply belD | with_reducible assumption))) (by first | omega | (simp; done) | (simp; omega)) hb2); clear hb2
  go_wp2
  go_ret
  have y := HB2.out
  exact ⟨ret_int (by unfold DReplica.mcnt; omega), (by repeat (first | with_reducible exact belR | with_reducible apply belA | (with_reducible refine belS ?_ ?_; focus (first | omega | (simp; done) | (simp; omega))) | with_reducible apply belN | with_reducible apply belD | with_reducible assumption))⟩

end Go.Proofs.Ytjdoofekohjjlaa
