/-
 The walk of the law FnPulls.
-/
import Derived.Test.YtlfebehpmefioaaGreatAnyRep
import Derived.Test.YtlfebehpmefioaaGreatPullLaw
namespace Go.Proofs.YtlfebehpmefioaaGreat
open Go.RowKit

theorem pull_server {W : World} {s : DServer} {v1 v2 v3 : Value} (h : Reads DServer.rep W [.string s.store.name, v1, .int .i64 s.store.auto, v2, v3] s) : Reads DStore.rep W [.string s.store.name, v1, .int .i64 s.store.auto] s.store :=
 (Off.of_reads (K := fun _ => False) h (fun _ _ h => h)).serverParts.1.reads
theorem rep_writes {W : World} {r : DReplica} {v1 v2 : Value} (h : Reads DReplica.rep W [.string r.base.name, v1, .int .i64 r.base.auto, .int .i64 r.seen, .int .i64 r.sync.outbox.device, .int .i64 r.sync.outbox.next, v2, .int .i64 r.sync.tries, .int .i64 r.sync.waitUntil] r) : Reads (Rep.slice 34 DWrite.rep) W [v2] r.sync.outbox.writes := by
 obtain ⟨fp, h, _⟩ := (Off.of_reads (K := fun _ => False) h (fun _ _ h => h)).replicaParts.2
 obtain ⟨u2, g2, e, _, r2⟩ := DSync.rd.1 h
 simp only [List.cons.injEq, and_true] at e
 obtain ⟨_, _, rfl, _⟩ := e
 exact ⟨g2, r2⟩

attribute [local irreducible] pullChangesF pullChangesN newReplicaF newReplicaB localStoreF equalReplicasF equalStoresF isConfirmedF isReplicaF isServerF lastSeqF

set_option maxRecDepth 100000 in
set_option maxHeartbeats 16000000 in
theorem lawPulls (v : Value) (l0 : List UInt8) (w : World) (h : Reads Rep.bytes w [v] l0) :
  Calls Tryz.prog 7 #[v] w fun e w' => e = .returned (.bool true) ∧ Below w.heap.size w w' := by
 have HK : Hid (Reads Rep.bytes w [v] l0) := Lib.hid h
 obtain ⟨fp, h⟩ := h
 obtain ⟨ao, c1, rfl, hm, _, hu⟩ := slice_open h
 clear hu h
 by_cases hbig : 1048576 < l0.length
 ·go_enter Tryz.func7, Tryz.ntmps7
  go_wp2_with (go_at_call 8; refine (lawBig _ _ _ HK.out).mono ?_; rintro e w' ⟨rfl, rfl⟩)
  go_ret
  exact ⟨rfl, bEl⟩
 have hl0 : l0.length ≤ 1048576 := by omega
 go_enter Tryz.func7, Tryz.ntmps7
 go_upto_region 3 with (go_at_call 8; refine (lawBig _ _ _ HK.out).mono ?_; rintro e w' ⟨rfl, rfl⟩)
 go_wp2_with fail
 refine (specDrawPull _ l0 _ (HK.out.below bEl) hl0).mono ?_
 rintro e w1 ⟨ds, dv, rfl, r, s, hf, hg, hle, hst, hch, hb⟩
 obtain ⟨a1, c1, a2, c2, rfl⟩ := (Off.of_reads (K := fun _ => False) hf (fun _ _ h => h)).repShape
 obtain ⟨b1, d1, b2, d2, b3, d3, rfl⟩ := (Off.of_reads (K := fun _ => False) hg (fun _ _ h => h)).srvShape
 have HB : Hid (Below w.heap.size w w1) := Lib.hid hb
 have HF := Lib.hid hf
 have HG := Lib.hid hg
 have HL := Lib.hid hle
 have HSt := Lib.hid hst
 clear hf hg hb hle hst HK
 go_upto_region 4 with fail
 refine settle (fun W => WB W w1.heap.size #[.string r.base.name, .slice a1 r.base.items.length c1, .int .i64 r.base.auto, .int .i64 r.seen, .int .i64 r.sync.outbox.device, .int .i64 r.sync.outbox.next, .slice a2 r.sync.outbox.writes.length c2, .int .i64 r.sync.tries, .int .i64 r.sync.waitUntil] ∧ WB W (w1.heap.size + 1) #[.string s.store.name, .slice b1 s.store.items.length d1, .int .i64 s.store.auto, .slice b2 s.applied.length d2, .slice b3 s.changes.length d3] ∧ Below w1.heap.size w1 W) ⟨(WB.at rfl).growA, WB.at (by simp), bEl⟩ ?_
 rintro w2 ⟨hx, hy, hb⟩
 have HX := Lib.hid hx
 have HY := Lib.hid hy
 replace HF := Lib.hid (HF.out.below hb)
 replace HG := Lib.hid (HG.out.below hb)
 replace HB := Lib.hid (HB.out.trans (hb.mono HB.out.size))
 clear hx hy hb
 obtain ⟨x, hx⟩ : ∃ x, pullChangesF r s = x := ⟨_, rfl⟩
 obtain ⟨n, hn⟩ : ∃ n, pullChangesN r s = n := ⟨_, rfl⟩
 have HXe := Lib.hid hx
 have HNe := Lib.hid hn
 clear hx hn
 have ⟨c_HX, z_HX, f_HX⟩ := HX.out
 have ⟨c_HY, z_HY, f_HY⟩ := HY.out
 go_wp2_with fail
 refine (implPullChanges _ _ r s _ HF.out HG.out HL.out.1 (by have := HL.out.2; omega)).mono ?_
 rintro e w3 ⟨ds, rfl, hg, hb⟩
 clear c_HX z_HX f_HX c_HY z_HY f_HY
 rw [HXe.out] at hg
 rw [HNe.out]
 obtain ⟨i1, j1, i2, j2, rfl⟩ := DReplica.fsh hg
 replace HX := Lib.hid (HX.out.keep hb)
 replace HY := Lib.hid (HY.out.keep hb)
 replace HF := Lib.hid (HF.out.below hb)
 replace HG := Lib.hid (HG.out.below hb)
 replace HB := Lib.hid (HB.out.trans (hb.mono HB.out.size))
 have HQ1 := Lib.hid hg.reads
 clear hb hg
 go_upto_region 5 with fail
 refine settle (fun W => WB W w3.heap.size #[.string x.base.name, .slice i1 x.base.items.length j1, .int .i64 x.base.auto, .int .i64 x.seen, .int .i64 x.sync.outbox.device, .int .i64 x.sync.outbox.next, .slice i2 x.sync.outbox.writes.length j2, .int .i64 x.sync.tries, .int .i64 x.sync.waitUntil] ∧ Below w3.heap.size w3 W) ⟨WB.at rfl, bEl⟩ ?_
 rintro w4 ⟨hz, hb⟩
 have HZ := Lib.hid hz
 replace HX := Lib.hid (HX.out.keep hb)
 replace HY := Lib.hid (HY.out.keep hb)
 replace HF := Lib.hid (HF.out.below hb)
 replace HG := Lib.hid (HG.out.below hb)
 replace HQ1 := Lib.hid (HQ1.out.below hb)
 replace HB := Lib.hid (HB.out.trans (hb.mono HB.out.size))
 clear hz hb
 have ⟨c_HX, z_HX, f_HX⟩ := HX.out
 have ⟨c_HY, z_HY, f_HY⟩ := HY.out
 go_wp2_with fail
 refine (specPullChanges _ _ r s _ HF.out HG.out HL.out.1 (by have := HL.out.2; omega)).mono ?_
 rintro e w5 ⟨ds, rfl, hg, hb⟩
 clear c_HX z_HX f_HX c_HY z_HY f_HY
 rw [HXe.out] at hg
 rw [HNe.out]
 obtain ⟨i3, j3, i4, j4, rfl⟩ := DReplica.fsh hg
 replace HX := Lib.hid (HX.out.keep hb)
 replace HY := Lib.hid (HY.out.keep hb)
 replace HZ := Lib.hid (HZ.out.keep hb)
 replace HF := Lib.hid (HF.out.below hb)
 replace HG := Lib.hid (HG.out.below hb)
 replace HQ1 := Lib.hid (HQ1.out.below hb)
 replace HB := Lib.hid (HB.out.trans (hb.mono HB.out.size))
 have HQ2 := Lib.hid hg.reads
 clear hb hg
 go_upto_region 6 with fail
 refine settle (fun W => WB W w5.heap.size #[.string x.base.name, .slice i3 x.base.items.length j3, .int .i64 x.base.auto, .int .i64 x.seen, .int .i64 x.sync.outbox.device, .int .i64 x.sync.outbox.next, .slice i4 x.sync.outbox.writes.length j4, .int .i64 x.sync.tries, .int .i64 x.sync.waitUntil] ∧ Below w5.heap.size w5 W) ⟨WB.at rfl, bEl⟩ ?_
 rintro w6 ⟨hz, hb⟩
 have HV := Lib.hid hz
 replace HX := Lib.hid (HX.out.keep hb)
 replace HY := Lib.hid (HY.out.keep hb)
 replace HZ := Lib.hid (HZ.out.keep hb)
 replace HF := Lib.hid (HF.out.below hb)
 replace HG := Lib.hid (HG.out.below hb)
 replace HQ1 := Lib.hid (HQ1.out.below hb)
 replace HQ2 := Lib.hid (HQ2.out.below hb)
 replace HB := Lib.hid (HB.out.trans (hb.mono HB.out.size))
 clear hz hb
 have ⟨c_HZ, z_HZ, f_HZ⟩ := HZ.out
 have ⟨c_HV, z_HV, f_HV⟩ := HV.out
 go_wp2_with fail
 refine (implEqualReplicas _ _ x x _ HQ1.out HQ2.out).mono ?_
 rintro e w7 ⟨rfl, hb⟩
 clear c_HZ z_HZ f_HZ c_HV z_HV f_HV
 rw [same_reps]
 replace HX := Lib.hid (HX.out.keep hb)
 replace HY := Lib.hid (HY.out.keep hb)
 replace HZ := Lib.hid (HZ.out.keep hb)
 replace HF := Lib.hid (HF.out.below hb)
 replace HG := Lib.hid (HG.out.below hb)
 replace HQ1 := Lib.hid (HQ1.out.below hb)
 replace HB := Lib.hid (HB.out.trans (hb.mono HB.out.size))
 clear hb HQ2 HV
 have ⟨c_HX, z_HX, f_HX⟩ := HX.out
 go_wp2_with fail
 refine (specIsReplica _ r _ HF.out).mono ?_
 rintro e w8 ⟨rfl, hb⟩
 clear c_HX z_HX f_HX
 replace HX := Lib.hid (HX.out.keep hb)
 replace HY := Lib.hid (HY.out.keep hb)
 replace HZ := Lib.hid (HZ.out.keep hb)
 replace HF := Lib.hid (HF.out.below hb)
 replace HG := Lib.hid (HG.out.below hb)
 replace HQ1 := Lib.hid (HQ1.out.below hb)
 replace HB := Lib.hid (HB.out.trans (hb.mono HB.out.size))
 clear hb
 cases n0 : isReplicaF r
 case' true => cases n1 : isServerF s
 case' true.true => cases n2 : decide ((s.changes.length : Int) < r.seen)
 case' false =>
  have e : x = r := by rw [← HXe.out]; exact pull_off (by unfold pullOff; rw [n0]; rfl)
  subst e
  have ⟨c_HX, z_HX, f_HX⟩ := HX.out
  have ⟨c_HZ, z_HZ, f_HZ⟩ := HZ.out
  go_wp2_with fail
  refine (implEqualReplicas _ _ x x _ HQ1.out HF.out).mono ?_
  rintro e w9 ⟨rfl, hb⟩
  rw [same_reps]
  go_wp2
  go_ret
  exact ⟨rfl, HB.out.trans (hb.mono HB.out.size)⟩
 case' true.false =>
  have ⟨c_HY, z_HY, f_HY⟩ := HY.out
  go_wp2_with fail
  refine (specIsServer _ s _ HG.out).mono ?_
  rintro e w8b ⟨rfl, hb⟩
  rw [n1]
  clear c_HY z_HY f_HY
  replace HX := Lib.hid (HX.out.keep hb)
  replace HY := Lib.hid (HY.out.keep hb)
  replace HZ := Lib.hid (HZ.out.keep hb)
  replace HF := Lib.hid (HF.out.below hb)
  replace HG := Lib.hid (HG.out.below hb)
  replace HQ1 := Lib.hid (HQ1.out.below hb)
  replace HB := Lib.hid (HB.out.trans (hb.mono HB.out.size))
  clear hb
  have e : x = r := by rw [← HXe.out]; exact pull_off (by unfold pullOff; rw [n0, n1]; rfl)
  subst e
  have ⟨c_HX, z_HX, f_HX⟩ := HX.out
  have ⟨c_HZ, z_HZ, f_HZ⟩ := HZ.out
  go_wp2_with fail
  refine (implEqualReplicas _ _ x x _ HQ1.out HF.out).mono ?_
  rintro e w9 ⟨rfl, hb⟩
  rw [same_reps]
  go_wp2
  go_ret
  exact ⟨rfl, HB.out.trans (hb.mono HB.out.size)⟩
 case' true.true.true =>
  have ⟨c_HY, z_HY, f_HY⟩ := HY.out
  go_wp2_with fail
  refine (specIsServer _ s _ HG.out).mono ?_
  rintro e w8b ⟨rfl, hb⟩
  rw [n1]
  clear c_HY z_HY f_HY
  replace HX := Lib.hid (HX.out.keep hb)
  replace HY := Lib.hid (HY.out.keep hb)
  replace HZ := Lib.hid (HZ.out.keep hb)
  replace HF := Lib.hid (HF.out.below hb)
  replace HG := Lib.hid (HG.out.below hb)
  replace HQ1 := Lib.hid (HQ1.out.below hb)
  replace HB := Lib.hid (HB.out.trans (hb.mono HB.out.size))
  clear hb
  have n3 : (s.changes.length : Int) < r.seen := of_decide_eq_true n2
  have e : x = r := by rw [← HXe.out]; exact pull_off (by unfold pullOff; rw [n0, n1, n2]; rfl)
  subst e
  have ⟨c_HX, z_HX, f_HX⟩ := HX.out
  have ⟨c_HY, z_HY, f_HY⟩ := HY.out
  have ⟨c_HZ, z_HZ, f_HZ⟩ := HZ.out
  go_wp2_with fail
  refine (implEqualReplicas _ _ x x _ HQ1.out HF.out).mono ?_
  rintro e w9 ⟨rfl, hb⟩
  rw [same_reps]
  go_wp2
  go_ret
  exact ⟨rfl, HB.out.trans (hb.mono HB.out.size)⟩
 case' true.true.false =>
  have ⟨c_HY, z_HY, f_HY⟩ := HY.out
  go_wp2_with fail
  refine (specIsServer _ s _ HG.out).mono ?_
  rintro e w8b ⟨rfl, hb⟩
  rw [n1]
  clear c_HY z_HY f_HY
  replace HX := Lib.hid (HX.out.keep hb)
  replace HY := Lib.hid (HY.out.keep hb)
  replace HZ := Lib.hid (HZ.out.keep hb)
  replace HF := Lib.hid (HF.out.below hb)
  replace HG := Lib.hid (HG.out.below hb)
  replace HQ1 := Lib.hid (HQ1.out.below hb)
  replace HB := Lib.hid (HB.out.trans (hb.mono HB.out.size))
  clear hb
  have n3 : ¬ (s.changes.length : Int) < r.seen := of_decide_eq_false n2
  have n4 : (r.seen : Int) ≤ (s.changes.length : Int) := by omega
  obtain ⟨hrep, hseq⟩ := pull_on n0 n1 n3 hch
  rw [HXe.out] at hrep hseq
  obtain ⟨hN, hLs, hCf, hSb⟩ := new_rep n1 hch
  obtain ⟨f, hf⟩ : ∃ f, newReplicaF s 9 = f := ⟨_, rfl⟩
  rw [hf] at hLs hCf hSb
  have HRep := Lib.hid hrep
  have HNf := Lib.hid hf
  have HN := Lib.hid hN
  have HLs := Lib.hid hLs
  have HCf := Lib.hid hCf
  have HSb := Lib.hid hSb
  obtain ⟨q, hq⟩ : ∃ q, lastSeqF s r.sync.outbox.device = q := ⟨_, rfl⟩
  rw [hq] at hseq
  have HSq := Lib.hid hseq
  have HQq := Lib.hid hq
  clear hrep hseq hN hLs hCf hSb hf hq n0 n1 n2
  have ⟨c_HX, z_HX, f_HX⟩ := HX.out
  have ⟨c_HY, z_HY, f_HY⟩ := HY.out
  go_wp2_with fail
  refine (specLastSeq _ s r.sync.outbox.device _ HG.out).mono ?_
  rintro e w9 ⟨rfl, hb⟩
  rw [HQq.out]
  clear c_HX z_HX f_HX c_HY z_HY f_HY
  replace HX := Lib.hid (HX.out.keep hb)
  replace HY := Lib.hid (HY.out.keep hb)
  replace HZ := Lib.hid (HZ.out.keep hb)
  replace HG := Lib.hid (HG.out.below hb)
  replace HQ1 := Lib.hid (HQ1.out.below hb)
  replace HB := Lib.hid (HB.out.trans (hb.mono HB.out.size))
  clear hb n3 n4 HF HQq
  go_wp2
  go_loopw [10] (fun i wr => ∃ k : Nat, k ≤ x.sync.outbox.writes.length ∧ i = .int .i64 k ∧ WB wr w3.heap.size #[.string x.base.name, .slice i1 x.base.items.length j1, .int .i64 x.base.auto, .int .i64 x.seen, .int .i64 x.sync.outbox.device, .int .i64 x.sync.outbox.next, .slice i2 x.sync.outbox.writes.length j2, .int .i64 x.sync.tries, .int .i64 x.sync.waitUntil] ∧ WB wr (w1.heap.size + 1) #[.string s.store.name, .slice b1 s.store.items.length d1, .int .i64 s.store.auto, .slice b2 s.applied.length d2, .slice b3 s.changes.length d3] ∧ Reads DServer.rep wr [.string s.store.name, .slice b1 s.store.items.length d1, .int .i64 s.store.auto, .slice b2 s.applied.length d2, .slice b3 s.changes.length d3] s ∧ Reads DReplica.rep wr [.string x.base.name, .slice i1 x.base.items.length j1, .int .i64 x.base.auto, .int .i64 x.seen, .int .i64 x.sync.outbox.device, .int .i64 x.sync.outbox.next, .slice i2 x.sync.outbox.writes.length j2, .int .i64 x.sync.tries, .int .i64 x.sync.waitUntil] x ∧ Below w.heap.size w wr) (fun i _ => x.sync.outbox.writes.length - (intOf i).toNat)
  case atStart => exact ⟨0, by omega, rfl, HZ.out, HY.out, HG.out, HQ1.out, HB.out⟩
  case round =>
   clear HX HY HZ HG HQ1 HB
   obtain ⟨k, hk, rfl, hz, hy, hg, hq1, hb⟩ := hrel
   have HZ := Lib.hid hz
   have HY := Lib.hid hy
   have HG := Lib.hid hg
   have HQ1 := Lib.hid hq1
   have HB := Lib.hid hb
   clear hz hy hg hq1 hb
   by_cases hlt : k < x.sync.outbox.writes.length
   ·have HW := Lib.hid (rep_writes HQ1.out)
    have hm9 : x.sync.outbox.writes.length ≤ 9223372036854775807 := by
     obtain ⟨fw, hw9⟩ := HW.out
     obtain ⟨_, _, _, hm9, _⟩ := slice_open hw9
     exact hm9
    obtain ⟨b, off, cs_b, rfl, hw_b, hr_b, hcell_b⟩ := slice_at HW.out k hlt
    obtain ⟨fe_b, hrd_b⟩ := hr_b
    have HR_b : Hid (Reads DWrite.rep wr cs_b x.sync.outbox.writes[k]) := ⟨_, hrd_b⟩
    obtain ⟨rfl, _, b_s0, b_s1⟩ := DWrite.rd.1 hrd_b
    clear hrd_b
    have b_c0 : wr.cell? ⟨b, off + k * 7, none⟩ = some (.int .i64 x.sync.outbox.writes[k].device) := hcell_b 0 (by decide)
    have b_c1 : wr.cell? ⟨b, off + k * 7 + 1, none⟩ = some (.int .i64 x.sync.outbox.writes[k].seq) := hcell_b 1 (by decide)
    have b_c2 : wr.cell? ⟨b, off + k * 7 + 2, none⟩ = some (.int .i64 x.sync.outbox.writes[k].key.kind) := hcell_b 2 (by decide)
    have b_c3 : wr.cell? ⟨b, off + k * 7 + 3, none⟩ = some (.int .i64 x.sync.outbox.writes[k].key.n) := hcell_b 3 (by decide)
    have b_c4 : wr.cell? ⟨b, off + k * 7 + 4, none⟩ = some (.string x.sync.outbox.writes[k].key.text) := hcell_b 4 (by decide)
    have b_c5 : wr.cell? ⟨b, off + k * 7 + 5, none⟩ = some (.string x.sync.outbox.writes[k].field) := hcell_b 5 (by decide)
    have b_c6 : wr.cell? ⟨b, off + k * 7 + 6, none⟩ = some (.int .i64 x.sync.outbox.writes[k].n) := hcell_b 6 (by decide)
    clear hcell_b
    have j1 : (0 : Int) ≤ (k : Int) := by omega
    have j2 : (k : Int) < (x.sync.outbox.writes.length : Int) := by omega
    have j3 := HSq.out k hlt
    have j4 : q < x.sync.outbox.writes[k].seq := by omega
    have ⟨c_HZ, z_HZ, f_HZ⟩ := HZ.out
    go_wp2
    go_light
    exact ⟨⟨k + 1, by omega, by go_num, HZ.out, HY.out, HG.out, HQ1.out, HB.out⟩, by simp [intOf]; omega⟩
   ·have ⟨c_HY, z_HY, f_HY⟩ := HY.out
    have ⟨c_HZ, z_HZ, f_HZ⟩ := HZ.out
    go_wp2_with fail
    refine (implNewReplica _ s 9 _ HG.out HSt.out).mono ?_
    rintro e w10 ⟨ds, rfl, hg, hb⟩
    clear c_HY z_HY f_HY c_HZ z_HZ f_HZ
    rw [HNf.out] at hg
    rw [HN.out]
    obtain ⟨m1, k1, m2, k2, rfl⟩ := DReplica.fsh hg
    replace HY := Lib.hid (HY.out.keep hb)
    replace HZ := Lib.hid (HZ.out.keep hb)
    replace HG := Lib.hid (HG.out.below hb)
    replace HQ1 := Lib.hid (HQ1.out.below hb)
    replace HB := Lib.hid (HB.out.trans (hb.mono HB.out.size))
    have HQ3 := Lib.hid hg.reads
    clear hb hg
    go_upto_region 17 with fail
    refine settle (fun W => WB W w10.heap.size #[.string f.base.name, .slice m1 f.base.items.length k1, .int .i64 f.base.auto, .int .i64 f.seen, .int .i64 f.sync.outbox.device, .int .i64 f.sync.outbox.next, .slice m2 f.sync.outbox.writes.length k2, .int .i64 f.sync.tries, .int .i64 f.sync.waitUntil] ∧ Below w10.heap.size w10 W) ⟨WB.at rfl, bEl⟩ ?_
    rintro w11 ⟨hz, hb⟩
    have HV := Lib.hid hz
    replace HY := Lib.hid (HY.out.keep hb)
    replace HZ := Lib.hid (HZ.out.keep hb)
    replace HG := Lib.hid (HG.out.below hb)
    replace HQ1 := Lib.hid (HQ1.out.below hb)
    replace HQ3 := Lib.hid (HQ3.out.below hb)
    replace HB := Lib.hid (HB.out.trans (hb.mono HB.out.size))
    clear hz hb
    refine wp_region_chf [] [] (by kernel_rfl) ?_
    intro wd hbd
    have hwz := hbd.size
    replace HY := Lib.hid (HY.out.keep hbd)
    replace HZ := Lib.hid (HZ.out.keep hbd)
    replace HV := Lib.hid (HV.out.keep hbd)
    replace HG := Lib.hid (HG.out.below hbd)
    replace HQ1 := Lib.hid (HQ1.out.below hbd)
    replace HQ3 := Lib.hid (HQ3.out.below hbd)
    replace HB := Lib.hid (HB.out.trans (hbd.mono HB.out.size))
    clear hbd
    have hne : Nonempty (ChgdF [] wd) := ⟨⟨wd, Chg.refl⟩⟩
    have K_HY := chf_var (fp := []) HY.out (by simp)
    have K_HZ := chf_var (fp := []) HZ.out (by simp)
    have K_HV := chf_var (fp := []) HV.out (by simp)
    refine wpU_group (fun _ _ _ _ _ h => h) (by kernel_rfl) (chf_of Chg.refl) [0,1] _ _ _ rfl (by kernel_rfl) ?_
    repeat (go_big_quiet_step (fail))
    refine wpQuiet_nil ?_
    refine wpU_group (fun _ _ _ _ _ h => h) (by kernel_rfl) (chf_of Chg.refl) [2,4,5] _ _ _ rfl (by kernel_rfl) ?_
    repeat (go_big_quiet_step (fail))
    refine wpQuiet_nil ?_
    refine wpU_one 3 rfl (by kernel_rfl) ?_
    go_wp2_with fail
    refine (implLocalStore _ f _ HQ3.out HSb.out).mono ?_
    rintro e w12 ⟨ds, rfl, hl, hb⟩
    rw [HLs.out] at hl
    obtain ⟨o1, p1, rfl⟩ := DStore.fsh hl
    have q12 : Below wd.heap.size wd w12 := hb
    have cc12 : Chg [] wd w12 := Chg.of_below q12 (Nat.le_refl _)
    go_wp2_with fail
    refine HardPost.mk (chf_of cc12) ?_
    refine wpU_one 6 rfl (by kernel_rfl) ?_
    go_wp2_with fail
    refine (specEqualStores _ _ s.store s.store _ hl.reads (pull_server (HG.out.below q12))).mono ?_
    rintro e w13 ⟨rfl, hb⟩
    rw [same_stores]
    have q13 : Below wd.heap.size wd w13 := below_call q12 q12.size hb
    have cc13 : Chg [] wd w13 := Chg.of_below q13 (Nat.le_refl _)
    go_wp2_with fail
    refine HardPost.mk (chf_of cc13) ?_
    refine wpU_one 7 rfl (by kernel_rfl) ?_
    go_wp2_with fail
    refine HardPost.mk (chf_of cc13) ?_
    refine wpU_group (fun _ _ _ _ _ h => h) (by kernel_rfl) (chf_of cc13) [8] _ _ _ rfl (by kernel_rfl) ?_
    repeat (go_big_quiet_step (fail))
    refine wpQuiet_nil ?_
    refine wpU_group (fun _ _ _ _ _ h => h) (by kernel_rfl) (chf_of cc13) [9] _ _ _ rfl (by kernel_rfl) ?_
    repeat (go_big_quiet_step (fail))
    refine wpQuiet_nil ?_
    refine wpU_one 10 rfl (by kernel_rfl) ?_
    go_wp2_with fail
    refine (implIsConfirmed _ f _ (HQ3.out.below q13)).mono ?_
    rintro e w14 ⟨rfl, hb⟩
    rw [HCf.out]
    have q14 : Below wd.heap.size wd w14 := below_call q13 q13.size hb
    have cc14 : Chg [] wd w14 := Chg.of_below q14 (Nat.le_refl _)
    go_wp2_with fail
    refine HardPost.mk (chf_of cc14) ?_
    refine wpU_one 11 rfl (by kernel_rfl) ?_
    go_wp2_with fail
    refine HardPost.mk (chf_of cc14) ?_
    refine wpU_group (fun _ _ _ _ _ h => h) (by kernel_rfl) (chf_of cc14) [12] _ _ _ rfl (by kernel_rfl) ?_
    repeat (go_big_quiet_step (fail))
    refine wpQuiet_nil ?_
    refine wpU_group (fun _ _ _ _ _ h => h) (by kernel_rfl) (chf_of cc14) [13] _ _ _ rfl (by kernel_rfl) ?_
    repeat (go_big_quiet_step (fail))
    refine wpQuiet_nil ?_
    refine wpU_one 14 rfl (by kernel_rfl) ?_
    go_wp2_with fail
    refine (implIsReplica _ x _ (HQ1.out.below q14)).mono ?_
    rintro e w15 ⟨rfl, hb⟩
    rw [HRep.out]
    have q15 : Below wd.heap.size wd w15 := below_call q14 q14.size hb
    have cc15 : Chg [] wd w15 := Chg.of_below q15 (Nat.le_refl _)
    go_wp2_with fail
    refine HardPost.mk (chf_of cc15) ?_
    refine wpU_one 15 rfl (by kernel_rfl) ?_
    go_wp2_with fail
    refine HardPost.mk (chf_of cc15) ?_
    refine wpU_group (fun _ _ _ _ _ h => h) (by kernel_rfl) (chf_of cc15) [16] _ _ _ rfl (by kernel_rfl) ?_
    repeat (go_big_quiet_step (fail))
    refine wpQuiet_nil ?_
    refine wpU_tail [] _ _ _ _ rfl (by kernel_rfl) ?_
    go_wp2_with fail
    refine NoPanic.normal ?_
    go_wp2
    go_ret
    exact ⟨rfl, HB.out.trans (q15.mono HB.out.size)⟩

end Go.Proofs.YtlfebehpmefioaaGreat
