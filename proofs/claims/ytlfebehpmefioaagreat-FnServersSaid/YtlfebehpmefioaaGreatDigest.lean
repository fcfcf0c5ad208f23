/-
  ServerDigest.
-/
import Derived.Test.YtlfebehpmefioaaGreatEncode
import Derived.Test.YtlfebehpmefioaaGreatEncodeRec
import Derived.Test.YtlfebehpmefioaaGreatTFam
namespace Go.Proofs.YtlfebehpmefioaaGreat
open Go.RowKit

theorem WB.grown {w w' : World} {k : Nat} {cs : Array Value} {row : Option Nat} (h : WB w k cs) (hg : w.grownBy w' row) (hne : some k ≠ row) : WB w' k cs :=
  ⟨fun o => (World.cell?_of_block (a := ⟨k, o, none⟩) (hg.block k h.lt hne)).trans (h.cell o), Nat.lt_of_lt_of_le h.lt hg.size, fun o => (World.frozen?_of_block (a := ⟨k, o, none⟩) (hg.block k h.lt hne)).trans (h.free o)⟩
theorem wpList_growW {α : Type} {R : Rep α} {enc : α → List Value} {ok : α → Prop} {P : Program} (w : World) {ops : Array Oper} {rest : List Oper} {o : Oper} {a : Act} {Q : Exit → Act → World → Prop} (hgd : o.guard = none) (s x : Operand) (t tx : TypeId)
    (ho : o.op = .call { callee := .builtin .append, args := #[s, x], argTypes := #[t, tx] })
    (h : FlatR R enc ok) (B : Nat) (e : TypeId) (i : TypeInfo) (z : Value) (bytes : Nat) (ht : P.underlying t = some (.slice e)) (hi : P.info? e = some i) (hz : i.zero = some z)
    (hsize : i.size = R.n) (hby : i.bytes = bytes) (hzs : z.cells.size = R.n)
    (v : Value) (l : List α) (hv : a.eval s = v) (hown : Fresh (Rep.slice e R) B w [v] l)
    (sv : Value) (us : List α) (hx : a.eval x = sv) (hs : Src P R.n tx sv us.length (us.flatMap enc) w) (hok : ∀ x ∈ us, ok x)
    (hbytes : (l.length + us.length) * bytes ≤ 140737488355328) (h63 : l.length + us.length ≤ maxLen) (hbase : B ≤ w.heap.size)
    (hgo : ∀ ao cap w', Fresh (Rep.slice e R) B w' [.slice ao (l.length + us.length) cap] (l ++ us) → Below B w w' → w.grownBy w' v.ownBlock →
      wpList P ops Q rest (a.put o.dst (.slice ao (l.length + us.length) cap)) w') : wpList P ops Q (o :: rest) a w := by
  obtain ⟨ho1, ho2⟩ := h.own hown
  have hge := World.ownsRow.lt ho1
  refine wpList_append_src w hgd s x t tx ho B e i z R.n bytes ht hi hz hsize hby hzs v l.length (l.flatMap enc) hv ho1 sv us.length _ hx hs hbytes h63 hbase fun ao cap w' h1 h2 h3 => ?_
  refine hgo ao cap w' (h.fresh (B' := B) (by rw [List.length_append, List.flatMap_append]; exact h1) (fun x hx => (List.mem_append.1 hx).elim (ho2 x) (hok x)) fun b hb => ?_) (grow_below h2 (fun b hb => (hge b (by simpa using hb)).1) hbase) h2
  rcases h3 b hb with hb | rfl
  · exact (hge b (by simpa using hb)).1
  · exact hbase

def itemEnc (y : DItem) : List Int := bytesToIntsF (encodeKeyF y.key) ++ bytesToIntsF (encodeRecordF y.record)
def seqN (l : List DApplied) (k : Nat) : List Int := (l.take k).map (·.seq)
def digestN (x : DServer) (k : Nat) : List Int := seqN x.applied x.applied.length ++ (x.store.items.take k).flatMap itemEnc
def digestL (x : DServer) : List Int := x.applied.map (·.seq) ++ x.store.items.flatMap itemEnc
def serverDigestF (x : DServer) : Int := hashF (digestL x)
theorem seqN_snoc {l : List DApplied} {k : Nat} (h : k < l.length) : seqN l k ++ [l[k].seq] = seqN l (k + 1) := by
  unfold seqN; rw [List.take_succ_eq_append_getElem h, List.map_append]; rfl
theorem seqN_len (l : List DApplied) (k : Nat) : (seqN l k).length ≤ l.length := by
  unfold seqN; rw [List.length_map]; exact List.length_take_le' _ _
theorem seqN_zero (l : List DApplied) : seqN l 0 = [] := rfl
theorem digestN_zero (x : DServer) : digestN x 0 = seqN x.applied x.applied.length := by unfold digestN; simp
theorem digestN_snoc {x : DServer} {k : Nat} (h : k < x.store.items.length) : digestN x k ++ bytesToIntsF (encodeKeyF x.store.items[k].key) ++ bytesToIntsF (encodeRecordF x.store.items[k].record) = digestN x (k + 1) := by
  unfold digestN; rw [List.take_succ_eq_append_getElem h, List.flatMap_append]; simp [itemEnc, List.append_assoc]
theorem digestN_all {x : DServer} {k : Nat} (h : ¬ k < x.store.items.length) : digestN x k = digestL x := by
  unfold digestN digestL seqN; rw [List.take_length, List.take_of_length_le (by omega)]
theorem itemEnc_len (y : DItem) : (itemEnc y).length ≤ 147 := by
  have h1 := encodeKeyF_len y.key
  have h2 := encodeRecordF_len y.record
  unfold itemEnc
  rw [List.length_append, bytesToIntsF_len, bytesToIntsF_len]
  omega
theorem itemsEnc_len : ∀ (l : List DItem), (l.flatMap itemEnc).length ≤ 147 * l.length
  | [] => by simp
  | y :: l => by
    have h1 := itemsEnc_len l
    have h2 := itemEnc_len y
    rw [List.flatMap_cons, List.length_append, List.length_cons]
    omega
theorem digestN_len (x : DServer) (k : Nat) : (digestN x k).length ≤ x.applied.length + 147 * x.store.items.length := by
  have h1 := seqN_len x.applied x.applied.length
  have h2 := itemsEnc_len (x.store.items.take k)
  have h3 : (x.store.items.take k).length ≤ x.store.items.length := List.length_take_le' _ _
  unfold digestN
  rw [List.length_append]
  omega
attribute [irreducible] seqN digestN

set_option maxRecDepth 100000 in
set_option maxHeartbeats 3200000 in
theorem implServerDigest (cs : List Value) (x : DServer) (w : World) (h : Reads DServer.rep w cs x) (hs1 : x.applied.length ≤ 1048576) (hs2 : x.store.items.length ≤ 1048576) :
    Calls Tryz.prog 13 #[.agg cs.toArray] w fun e w' => e = .returned (.int .i64 (serverDigestF x)) ∧ Below w.heap.size w w' := by
  obtain ⟨fp_q, h⟩ := h
  obtain ⟨q_v1, q_v2, q_v3, q_f1, q_f2, q_f3, rfl, _, q_s0, q_r1, q_r2, q_r3⟩ := DServer.rd.1 h
  obtain ⟨q_a1, q_c1, rfl, q_hm1, q_lc1, q_hu1⟩ := slice_open q_r1; clear q_hu1
  have q_K1 : Hid (Reads (Rep.slice 71 DItem.rep) w [.slice q_a1 x.store.items.length q_c1] x.store.items) := ⟨_, q_r1⟩
  obtain ⟨q_a2, q_c2, rfl, q_hm2, q_lc2, q_hu2⟩ := slice_open q_r2; clear q_hu2
  have q_K2 : Hid (Reads (Rep.slice 89 DApplied.rep) w [.slice q_a2 x.applied.length q_c2] x.applied) := ⟨_, q_r2⟩
  obtain ⟨q_a3, q_c3, rfl, q_hm3, q_lc3, q_hu3⟩ := slice_open q_r3; clear q_hu3
  have q_K3 : Hid (Reads (Rep.slice 34 DWrite.rep) w [.slice q_a3 x.changes.length q_c3] x.changes) := ⟨_, q_r3⟩
  clear q_r1 q_r2 q_r3 h
  obtain ⟨i0, hi, hz0, hz1, hz2⟩ := info_parts Tryz.infoInt
  go_enter Tryz.func13, Tryz.ntmps13
  go_wp2
  go_loopw [3, 12] (fun r i wr => ∃ k : Nat, k ≤ x.applied.length ∧ i = .int .i64 k ∧ WB wr w.heap.size #[.string x.store.name, .slice q_a1 x.store.items.length q_c1, .int .i64 x.store.auto, .slice q_a2 x.applied.length q_c2, .slice q_a3 x.changes.length q_c3] ∧ Fresh (Rep.slice 3 Rep.int) (w.heap.size + 1) wr [r] (seqN x.applied k) ∧ Below w.heap.size w wr) (fun _ i _ => x.applied.length - (intOf i).toNat)
  case atStart => exact ⟨0, by omega, rfl, (WB.at rfl).growA, by rw [seqN_zero]; exact (lit_fresh FlatR.int (w := w.alloc _) (xs := #[]) (us := []) rfl rfl (by decide) (by simp) (by simp)), (by repeat (first | with_reducible exact belR | with_reducible apply belA | (with_reducible refine belS ?_ ?_; focus (first | omega | (simp; done) | (simp; omega))) | with_reducible apply belN | with_reducible apply belD | with_reducible assumption))⟩
  case round =>
    obtain ⟨k, hk, rfl, hx, hf, hb⟩ := hrel
    obtain ⟨bo, cap, rfl⟩ := hf.slice
    have HB := Lib.hid hb; clear hb
    have HF := Lib.hid hf; clear hf
    have HX := Lib.hid hx; clear hx
    have ⟨c_HX, z_HX, f_HX⟩ := HX.out
    have hle := seqN_len x.applied k
    by_cases hlt : k < x.applied.length
    · obtain ⟨b, off, cs_b, rfl, hw_b, hr_b, hcell_b⟩ := slice_at (q_K2.out.below HB.out) k hlt
      obtain ⟨fe_b, hrd_b⟩ := hr_b
      have HR_b : Hid (Reads DApplied.rep wr cs_b x.applied[k]) := ⟨_, hrd_b⟩
      obtain ⟨rfl, _⟩ := DApplied.rd.1 hrd_b
      clear hrd_b
      have b_c0 : wr.cell? ⟨b, off + k * 2, none⟩ = some (.int .i64 x.applied[k].device) := hcell_b 0 (by decide)
      have b_c1 : wr.cell? ⟨b, off + k * 2 + 1, none⟩ = some (.int .i64 x.applied[k].seq) := hcell_b 1 (by decide)
      clear hcell_b
      go_wp2_with (at_builtin; refine wpList_push _ rfl _ _ 47 47 rfl FlatR.int (w.heap.size + 1) 3 i0 _ _ Tryz.underlying47 Tryz.underlying47 hi hz0 hz1 hz2 rfl _ _ rfl (HF.out.below (by repeat (first | with_reducible exact belR | with_reducible apply belA | (with_reducible refine belS ?_ ?_; focus (first | omega | (simp; done) | (simp; omega))) | with_reducible apply belN | with_reducible apply belD | with_reducible assumption))) x.applied[k].seq _ _ _ rfl ?p0a rfl trivial ?p1a ?p2a ?p3a ?_)
      case p0a => first | rfl | simp
      case p1a => omega
      case p2a => decide
      case p3a => have y := HB.out.size; simp; omega
      intro bo' cap' w1 hf1 hb1
      rw [seqN_snoc hlt] at hf1
      have HF1 := Lib.hid hf1; clear hf1
      have HX1 := Lib.hid ((show WB _ _ _ from HX.out.growA).grow hb1 (Nat.lt_succ_self _))
      have HB1 : Hid (Below w.heap.size w w1) := Lib.hid (by have y := HB.out; exact Below.trans (by repeat (first | with_reducible exact belR | with_reducible apply belA | (with_reducible refine belS ?_ ?_; focus (first | omega | (simp; done) | (simp; omega))) | with_reducible apply belN | with_reducible apply belD | with_reducible assumption)) (hb1.mono (Nat.le_succ _))); clear hb1
      clear c_HX z_HX f_HX
      go_wp2
      go_light
      exact ⟨⟨k + 1, by omega, by go_num, HX1.out, HF1.out, HB1.out⟩, by simp [intOf]; omega⟩
    · have hek : k = x.applied.length := by omega
      subst hek
      go_wp2
      clear c_HX z_HX f_HX
      clear hle hk hlt
      go_loopw [3, 26] (fun r i wr => ∃ k : Nat, k ≤ x.store.items.length ∧ i = .int .i64 k ∧ WB wr w.heap.size #[.string x.store.name, .slice q_a1 x.store.items.length q_c1, .int .i64 x.store.auto, .slice q_a2 x.applied.length q_c2, .slice q_a3 x.changes.length q_c3] ∧ Fresh (Rep.slice 3 Rep.int) (w.heap.size + 1) wr [r] (digestN x k) ∧ Below w.heap.size w wr) (fun _ i _ => x.store.items.length - (intOf i).toNat)
      case atStart => exact ⟨0, by omega, rfl, HX.out, by rw [digestN_zero]; exact HF.out, HB.out⟩
      case round =>
        clear HX HF HB
        obtain ⟨k, hk, rfl, hx, hf, hb⟩ := hrel
        obtain ⟨bo, cap, rfl⟩ := hf.slice
        have HB := Lib.hid hb; clear hb
        have HF := Lib.hid hf; clear hf
        have HX := Lib.hid hx; clear hx
        have hle := digestN_len x k
        have ⟨c_HX, z_HX, f_HX⟩ := HX.out
        by_cases hlt : k < x.store.items.length
        · have HE := Lib.hid (digestN_snoc hlt)
          generalize hq : digestN x k = q at *
          clear hq
          have hk1 := encodeKeyF_len x.store.items[k].key
          have hk2 := encodeRecordF_len x.store.items[k].record
          obtain ⟨b, off, cs_b, rfl, hw_b, hr_b, hcell_b⟩ := slice_at q_K1.out k hlt
          obtain ⟨fe_b, hrd_b⟩ := hr_b
          have HR_b : Hid (Reads DItem.rep w cs_b x.store.items[k]) := ⟨_, hrd_b⟩
          obtain ⟨b_v1, b_f1, rfl, _, b_s0, b_r1⟩ := DItem.rd.1 hrd_b
          obtain ⟨b_a1, b_k1, rfl, _⟩ := slice_open b_r1
          have b_R1 : Hid (Reads (Rep.slice 112 DField.rep) w [.slice b_a1 x.store.items[k].record.fields.length b_k1] x.store.items[k].record.fields) := ⟨_, b_r1⟩
          clear b_r1
          clear hrd_b
          have b_c0 : w.cell? ⟨b, off + k * 4, none⟩ = some (.int .i64 x.store.items[k].key.kind) := hcell_b 0 (by decide)
          have b_c1 : w.cell? ⟨b, off + k * 4 + 1, none⟩ = some (.int .i64 x.store.items[k].key.n) := hcell_b 1 (by decide)
          have b_c2 : w.cell? ⟨b, off + k * 4 + 2, none⟩ = some (.string x.store.items[k].key.text) := hcell_b 2 (by decide)
          have b_c3 : w.cell? ⟨b, off + k * 4 + 3, none⟩ = some (.slice b_a1 x.store.items[k].record.fields.length b_k1) := hcell_b 3 (by decide)
          clear hcell_b
          have e_c0 := (HB.out.cell (p := ⟨b, off + k * 4, none⟩) hw_b).trans b_c0
          have e_c1 := (HB.out.cell (p := ⟨b, off + k * 4 + 1, none⟩) hw_b).trans b_c1
          have e_c2 := (HB.out.cell (p := ⟨b, off + k * 4 + 2, none⟩) hw_b).trans b_c2
          have e_c3 := (HB.out.cell (p := ⟨b, off + k * 4 + 3, none⟩) hw_b).trans b_c3
          have HC3 := Lib.hid b_c3
          clear b_c0 b_c1 b_c2 b_c3
          have HKk : Hid (∀ W, Reads DKey.rep W [.int .i64 x.store.items[k].key.kind, .int .i64 x.store.items[k].key.n, .string x.store.items[k].key.text] x.store.items[k].key) := Lib.hid fun W => ⟨[], DKey.rd.2 ⟨rfl, rfl, b_s0⟩⟩
          have HRr : Hid (∀ W, Below w.heap.size w W → Reads DRecord.rep W [.slice b_a1 x.store.items[k].record.fields.length b_k1] x.store.items[k].record) := Lib.hid fun W hW => Reads.below (R := DRecord.rep) b_R1.out hW
          clear HR_b
          have hol : ∀ b, (Value.slice bo q.length cap).ownBlock = some b → w.heap.size + 1 ≤ b ∧ b < wr.heap.size := fun b hb => World.ownsRow.lt (FlatR.int.own HF.out).1 b hb
          have HOL := Lib.hid hol; clear hol
          go_wp2_with fail
          refine (implEncodeKey _ x.store.items[k].key _ (HKk.out _)).mono ?_
          rintro e w1 ⟨v1, rfl, hf1, hb1⟩
          have hB1 : Below wr.heap.size wr w1 := below_call (by repeat (first | with_reducible exact belR | with_reducible apply belA | (with_reducible refine belS ?_ ?_; focus (first | omega | (simp; done) | (simp; omega))) | with_reducible apply belN | with_reducible apply belD | with_reducible assumption)) (by first | omega | (simp; done) | (simp; omega)) hb1
          have HY : Hid (WB w1 wr.heap.size #[.int .i64 x.store.items[k].key.kind, .int .i64 x.store.items[k].key.n, .string x.store.items[k].key.text, .slice b_a1 x.store.items[k].record.fields.length b_k1]) := Lib.hid ((WB.at rfl).keep hb1)
          have HX1 := Lib.hid (HX.out.keep hB1)
          obtain ⟨a1, c1, rfl⟩ := hf1.slice
          have HF1 := Lib.hid hf1.reads
          clear hf1 hb1
          clear c_HX z_HX f_HX
          clear e_c0 e_c1 e_c2 e_c3
          have ⟨c_HY, z_HY, f_HY⟩ := HY.out
          go_wp2_with fail
          refine (implBytesToInts _ (encodeKeyF x.store.items[k].key) _ HF1.out (by omega)).mono ?_
          rintro e w2 ⟨v2, rfl, hf2, hb2⟩
          have hB2 : Below wr.heap.size wr w2 := hB1.trans (hb2.mono hB1.size)
          clear c_HY z_HY f_HY
          replace HY := Lib.hid (HY.out.keep hb2)
          replace HX1 := Lib.hid (HX1.out.keep hb2)
          obtain ⟨a2, c2, rfl⟩ := hf2.slice
          have HF2 := Lib.hid hf2.reads
          have HFw := Lib.hid (HF.out.below hB2)
          have hlen1 := Lib.hid (bytesToIntsF_len (encodeKeyF x.store.items[k].key))
          have hlen2 := Lib.hid (bytesToIntsF_len (encodeRecordF x.store.items[k].record))
          clear hf2 hb2 HF1 hB1
          go_wp2_with (at_builtin; refine wpList_growW _ rfl _ _ 47 47 rfl FlatR.int (w.heap.size + 1) 3 i0 _ 8 Tryz.underlying47 hi hz0 hz1 hz2 rfl _ q rfl HFw.out _ (bytesToIntsF (encodeKeyF x.store.items[k].key)) rfl (FlatR.int.src Tryz.underlying47 HF2.out) (fun _ _ => trivial) ?c1 ?c2 ?c3 ?_)
          case c1 => have y := hlen1.out; omega
          case c2 => have y := hlen1.out; unfold maxLen; omega
          case c3 => have y := HX1.out.lt; omega
          intro a3 c3 w3 hf3 hb3 hg3
          replace HY := Lib.hid (HY.out.grown hg3 (by intro e; have y := HOL.out _ e.symm; omega))
          replace HX1 := Lib.hid (HX1.out.grow hb3 (Nat.lt_succ_self _))
          have HB3 : Hid (Below w.heap.size w w3) := Lib.hid ((HB.out.trans (hB2.mono HB.out.size)).trans (hb3.mono (Nat.le_succ _)))
          have HF3 := Lib.hid hf3
          clear hf3 hb3 hg3 hB2 HF2 HFw
          have ⟨c_HY, z_HY, f_HY⟩ := HY.out
          have d_c3 := (HB3.out.cell (p := ⟨b, off + k * 4 + 3, none⟩) hw_b).trans HC3.out
          go_wp2_with fail
          refine (implEncodeRecord _ x.store.items[k].record _ (HRr.out _ HB3.out)).mono ?_
          rintro e w4 ⟨v4, rfl, hf4, hb4⟩
          obtain ⟨a4, c4, rfl⟩ := hf4.slice
          replace HX1 := Lib.hid (HX1.out.keep hb4)
          have HB5 : Hid (Below w.heap.size w w4) := Lib.hid (HB3.out.trans (hb4.mono HB3.out.size))
          have HF4 := Lib.hid hf4.reads
          replace HF3 := Lib.hid (HF3.out.below hb4)
          clear hf4 hb4 d_c3
          clear c_HY z_HY f_HY
          clear HY
          go_wp2_with fail
          refine (implBytesToInts _ (encodeRecordF x.store.items[k].record) _ HF4.out (by omega)).mono ?_
          rintro e w5 ⟨v5, rfl, hf5, hb5⟩
          obtain ⟨a5, c5, rfl⟩ := hf5.slice
          replace HX1 := Lib.hid (HX1.out.keep hb5)
          have HB6 : Hid (Below w.heap.size w w5) := Lib.hid (HB5.out.trans (hb5.mono HB5.out.size))
          have HF5 := Lib.hid hf5.reads
          replace HF3 := Lib.hid (HF3.out.below hb5)
          clear hf5 hb5
          go_wp2_with (at_builtin; refine wpList_grow _ rfl _ _ 47 47 rfl FlatR.int (w.heap.size + 1) 3 i0 _ 8 Tryz.underlying47 hi hz0 hz1 hz2 rfl _ (q ++ bytesToIntsF (encodeKeyF x.store.items[k].key)) rfl HF3.out _ (bytesToIntsF (encodeRecordF x.store.items[k].record)) rfl (FlatR.int.src Tryz.underlying47 HF5.out) (fun _ _ => trivial) ?c1 ?c2 ?c3 ?_)
          case c1 => have y := hlen1.out; have y2 := hlen2.out; rw [List.length_append]; omega
          case c2 => have y := hlen1.out; have y2 := hlen2.out; rw [List.length_append]; unfold maxLen; omega
          case c3 => have y := HX1.out.lt; omega
          intro a6 c6 w6 hf6 hb6
          rw [← List.append_assoc, HE.out] at hf6
          have HF6 := Lib.hid hf6
          replace HX1 := Lib.hid (HX1.out.grow hb6 (Nat.lt_succ_self _))
          have HB7 : Hid (Below w.heap.size w w6) := Lib.hid (HB6.out.trans (hb6.mono (Nat.le_succ _)))
          clear hf6 hb6
          go_wp2
          go_light
          exact ⟨⟨k + 1, by omega, by go_num, HX1.out, HF6.out, HB7.out⟩, by simp [intOf]; omega⟩
        · have e := Lib.hid (digestN_all hlt)
          go_wp2_with fail
          refine (implHash _ _ _ HF.out.reads).mono ?_
          rintro e w1 ⟨rfl, hb⟩
          have HB1 : Hid (Below w.heap.size w w1) := Lib.hid (HB.out.trans (hb.mono HB.out.size))
          clear hb
          go_wp2
          go_ret
          exact ⟨ret_int (by rw [e.out]; rfl), HB1.out⟩

end Go.Proofs.YtlfebehpmefioaaGreat
