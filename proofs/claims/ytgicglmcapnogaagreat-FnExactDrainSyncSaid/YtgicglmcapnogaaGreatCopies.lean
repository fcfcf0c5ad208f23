/-
  copyRecord, copyItem, copyStore.
-/
import Derived.Test.YtgicglmcapnogaaGreatPlain2
import Derived.Test.YtgicglmcapnogaaGreatBase
import Derived.Test.YtgicglmcapnogaaGreatLFamA
import Derived.Deep.RegionLaw
namespace Go.Proofs.YtgicglmcapnogaaGreat
open Go.RowKit

theorem DRecord.fmk {B : Nat} {w : World} {v : Value} {x : DRecord} (h : Fresh (Rep.slice 156 DField.rep) B w [v] x.fields) : Fresh DRecord.rep B w [v] x :=
  DRecord.fresh (h.partAt (Nat.le_refl _)) (Nat.le_refl _)
theorem DRecord.fopen {B : Nat} {w : World} {cs : List Value} {x : DRecord} (h : Fresh DRecord.rep B w cs x) :
    ∃ a1 c1, cs = [.slice a1 x.fields.length c1] ∧ Fresh (Rep.slice 156 DField.rep) B w [.slice a1 x.fields.length c1] x.fields := by
  obtain ⟨fp, h, hn, hg⟩ := h
  obtain ⟨v1, f1, rfl, rfl, r1⟩ := DRecord.parts h
  obtain ⟨a1, c1, rfl, _⟩ := slice_open r1
  exact ⟨a1, c1, rfl, fp, r1, hn, hg⟩
theorem DStore.fmk {B : Nat} {w : World} {v : Value} {x : DStore} (h : Fresh (Rep.slice 134 DItem.rep) B w [v] x.items) (s0 : x.name.size ≤ maxLen) : Fresh DStore.rep B w [.string x.name, v, .int .i64 x.auto] x :=
  DStore.fresh (h.partAt (Nat.le_refl _)) (Nat.le_refl _) s0
theorem DStore.fopen {B : Nat} {w : World} {cs : List Value} {x : DStore} (h : Fresh DStore.rep B w cs x) :
    ∃ a1 c1, cs = [.string x.name, .slice a1 x.items.length c1, .int .i64 x.auto] ∧ Fresh (Rep.slice 134 DItem.rep) B w [.slice a1 x.items.length c1] x.items ∧ x.name.size ≤ maxLen := by
  obtain ⟨fp, h, hn, hg⟩ := h
  obtain ⟨v1, f1, rfl, rfl, s0, r1⟩ := DStore.parts h
  obtain ⟨a1, c1, rfl, _⟩ := slice_open r1
  exact ⟨a1, c1, rfl, ⟨fp, r1, hn, hg⟩, s0⟩

set_option maxRecDepth 100000 in
set_option maxHeartbeats 800000 in
theorem implCopyRecord (cs : List Value) (x : DRecord) (w : World) (h : Reads DRecord.rep w cs x) (hs : x.fields.length ≤ 1048600) :
    Calls Tryz.prog 123 #[.agg cs.toArray] w fun e w' => ∃ ds, e = .returned (.agg ds.toArray) ∧ Fresh DRecord.rep w.heap.size w' ds x ∧ Below w.heap.size w w' := by
  obtain ⟨fp_q, h⟩ := h
  obtain ⟨q_v1, q_f1, rfl, _, q_r1⟩ := DRecord.rd.1 h
  obtain ⟨q_a1, q_c1, rfl, q_hm1, q_lc1, q_hu1⟩ := slice_open q_r1; clear q_hu1
  have q_K1 : Hid (Reads (Rep.slice 156 DField.rep) w [.slice q_a1 x.fields.length q_c1] x.fields) := ⟨_, q_r1⟩
  clear q_r1 h
  obtain ⟨i0, hi, hz0, hz1, hz2⟩ := info_parts infoField
  go_enter Tryz.func123, Tryz.ntmps123
  go_wp2_with (at_builtin; refine wpList_grow _ rfl _ _ 130 130 rfl DField.flat (w.heap.size + 2) 156 i0 _ _ Tryz.underlying130 hi hz0 hz1 hz2 rfl _ [] rfl (lit_fresh DField.flat (w := _) (xs := #[]) (us := []) rfl rfl (by decide) (by simp) (by simp)) _ x.fields rfl (DField.flat.src Tryz.underlying130 (q_K1.out.below (by repeat (first | with_reducible exact belR | with_reducible apply belA | (with_reducible refine belS ?_ ?_; focus (first | omega | (simp; done) | (simp; omega))) | with_reducible apply belN | with_reducible apply belD | with_reducible assumption)))) ?c1a ?c2a ?c3a ?c4a ?_)
  case c1a => exact (DField.flat.row q_K1.out).2
  case c2a => (try simp only [List.length_nil, Nat.zero_add]); omega
  case c3a => (try simp only [List.length_nil, Nat.zero_add]); unfold maxLen; omega
  try (case c4a => simp; try omega)
  intro ao1 cap1 w1 hf1 hb1
  have HF1 := Lib.hid hf1
  have HB1 := Lib.hid (Below.trans (by repeat (first | with_reducible exact belR | (with_reducible refine belAB ?_ ?_; focus (first | omega | (simp; done) | (simp; omega))) | (with_reducible refine belS ?_ ?_; focus (first | omega | (simp; done) | (simp; omega))) | with_reducible apply belN | with_reducible apply belD | with_reducible assumption)) (hb1.mono (by omega)) : Below w.heap.size w w1)
  have ⟨cr, zr, fr⟩ : WB w1 (w.heap.size + 1) #[.slice none 0 0] := ((WB.at (by simp)).growA).grow hb1 (by omega)
  clear hf1 hb1
  go_wp2
  refine bodyPost_ret (v := .agg #[.slice ao1 x.fields.length cap1]) (by simp [results, Tryz.results123, go_sem, cr]) rfl ⟨_, rfl, ?_, ?_⟩
  · exact DRecord.fmk (Fresh.mono (B := (w.heap.size + 2)) (by repeat (first | exact HF1.out | refine Fresh.setLow ?_ (by omega) | refine Fresh.drew ?_)) (by omega))
  · have y := HB1.out
    exact (by repeat (first | with_reducible exact belR | (with_reducible refine belAB ?_ ?_; focus (first | omega | (simp; done) | (simp; omega))) | (with_reducible refine belS ?_ ?_; focus (first | omega | (simp; done) | (simp; omega))) | with_reducible apply belN | with_reducible apply belD | with_reducible assumption))

set_option maxRecDepth 100000 in
set_option maxHeartbeats 1600000 in
theorem implCopyItem (cs : List Value) (x : DItem) (w : World) (h : Reads DItem.rep w cs x) (hs : x.record.fields.length ≤ 1048600) :
    Calls Tryz.prog 101 #[.agg cs.toArray] w fun e w' => ∃ ds, e = .returned (.agg ds.toArray) ∧ Fresh DItem.rep w.heap.size w' ds x ∧ Below w.heap.size w w' := by
  obtain ⟨fp_q, h⟩ := h
  obtain ⟨q_v1, q_f1, rfl, _, q_s0, q_r1⟩ := DItem.rd.1 h
  obtain ⟨q_a1, q_c1, rfl, q_hm1, q_lc1, q_hu1⟩ := slice_open q_r1; clear q_hu1
  have q_K1 : Hid (Reads (Rep.slice 156 DField.rep) w [.slice q_a1 x.record.fields.length q_c1] x.record.fields) := ⟨_, q_r1⟩
  clear q_r1 h
  have HR : Hid (Reads DRecord.rep w [.slice q_a1 x.record.fields.length q_c1] x.record) := by
    obtain ⟨f, r⟩ := q_K1.out
    exact ⟨f, DRecord.rd.2 ⟨_, _, rfl, rfl, r⟩⟩
  go_enter Tryz.func101, Tryz.ntmps101
  go_wp2_with fail
  refine settle (fun W => WB W w.heap.size #[.int .i64 x.key.kind, .int .i64 x.key.n, .string x.key.text, .slice q_a1 x.record.fields.length q_c1] ∧ WB W (w.heap.size + 1) #[.int .i64 0, .int .i64 0, .string ⟨#[]⟩, .slice none 0 0] ∧ Below w.heap.size w W ∧ w.heap.size + 2 ≤ W.heap.size) ⟨(WB.at rfl).growA, WB.at (by simp), (by repeat (first | with_reducible exact belR | with_reducible apply belA | (with_reducible refine belS ?_ ?_; focus (first | omega | (simp; done) | (simp; omega))) | with_reducible apply belN | with_reducible apply belD | with_reducible assumption)), by simp⟩ ?_
  rintro wr ⟨hx, ht, hb, hz⟩
  have HX := Lib.hid hx
  have HT := Lib.hid ht
  have HB := Lib.hid hb
  clear hx ht hb
  have HS : Hid (∀ w', Chg [w.heap.size + 1] wr w' → (∀ o, w'.cell? ⟨w.heap.size, o, none⟩ = #[.int .i64 x.key.kind, .int .i64 x.key.n, .string x.key.text, .slice q_a1 x.record.fields.length q_c1][o]?) ∧ Chg [w.heap.size + 1] wr w') := Lib.hid fun w' hw' => ⟨(HX.out.chg hw' (by simp)).cell, hw'⟩
  have ⟨c_HX, z_HX, f_HX⟩ := HX.out
  have ⟨c_HT, z_HT, f_HT⟩ := HT.out
  go_region_held3 (fun w' => (∀ o, w'.cell? ⟨w.heap.size, o, none⟩ = #[.int .i64 x.key.kind, .int .i64 x.key.n, .string x.key.text, .slice q_a1 x.record.fields.length q_c1][o]?) ∧ Chg [w.heap.size + 1] wr w')
    (first | exact HS.out _ (chgD Chg.refl) | exact HS.out _ hc2 | exact HS.out _ (Chg.set (by simp) (Chg.set (by simp) (Chg.set (by simp) (Chg.set (by simp) hc2)))))
    (first | (go_at_call 123; refine (implCopyRecord _ x.record _ (HR.out.below (by have y := HB.out; exact (by repeat (first | with_reducible exact belR | (with_reducible refine belAB ?_ ?_; focus (first | omega | (simp; done) | (simp; omega))) | (with_reducible refine belS ?_ ?_; focus (first | omega | (simp; done) | (simp; omega))) | with_reducible apply belN | with_reducible apply belD | with_reducible assumption)))) hs).mono ?_; rintro e w2 ⟨ds, rfl, hf2, hb2⟩; obtain ⟨a2, c2, rfl⟩ := DRecord.fshape hf2; have hc2 : Chg [w.heap.size + 1] wr w2 := (chgD Chg.refl).trans (Chg.of_below hb2 (Nat.le_refl _)); have hw2 := HT.out.growD.keep hb2; have ⟨e2, l2, f2⟩ := hw2))
  all_goals
    have HF2 := Lib.hid hf2
    have HB2 : Hid (Below w.heap.size w w2) := Lib.hid (HB.out.trans (hc2.below (by simp) HB.out.size))
    have hz2 : w.heap.size + 2 ≤ wr.heap.size := hz
    clear hf2 hc2 hw2
    go_wp2
    refine bodyPost_ret (v := .agg #[.int .i64 x.key.kind, .int .i64 x.key.n, .string x.key.text, .slice a2 x.record.fields.length c2]) (by simp [results, Tryz.results101, go_sem, e2]) rfl ⟨_, rfl, ?_, ?_⟩
    · refine DItem.fresh (B := w.heap.size) (Fresh.partAt (lo := w.heap.size) (Fresh.mono (B := wr.heap.size) (by repeat (first | exact HF2.out | refine Fresh.setLow ?_ (by omega) | refine Fresh.drew ?_)) (by omega)) (Nat.le_refl _)) (Nat.le_refl _) q_s0
    · have y := HB2.out
      exact (by repeat (first | with_reducible exact belR | (with_reducible refine belAB ?_ ?_; focus (first | omega | (simp; done) | (simp; omega))) | (with_reducible refine belS ?_ ?_; focus (first | omega | (simp; done) | (simp; omega))) | with_reducible apply belN | with_reducible apply belD | with_reducible assumption))


set_option maxRecDepth 100000 in
set_option maxHeartbeats 800000 in
theorem specCopyRecord (cs : List Value) (x : DRecord) (w : World) (h : Reads DRecord.rep w cs x) (hs : x.fields.length ≤ 1048600) :
    Calls Tryz.prog 119 #[.agg cs.toArray] w fun e w' => ∃ ds, e = .returned (.agg ds.toArray) ∧ Fresh DRecord.rep w.heap.size w' ds x ∧ Below w.heap.size w w' := by
  obtain ⟨fp_q, h⟩ := h
  obtain ⟨q_v1, q_f1, rfl, _, q_r1⟩ := DRecord.rd.1 h
  obtain ⟨q_a1, q_c1, rfl, q_hm1, q_lc1, q_hu1⟩ := slice_open q_r1; clear q_hu1
  have q_K1 : Hid (Reads (Rep.slice 156 DField.rep) w [.slice q_a1 x.fields.length q_c1] x.fields) := ⟨_, q_r1⟩
  clear q_r1 h
  obtain ⟨i0, hi, hz0, hz1, hz2⟩ := info_parts infoField
  go_enter Tryz.func119, Tryz.ntmps119
  go_wp2_with (at_builtin; refine wpList_grow _ rfl _ _ 130 130 rfl DField.flat (w.heap.size + 2) 156 i0 _ _ Tryz.underlying130 hi hz0 hz1 hz2 rfl _ [] rfl (lit_fresh DField.flat (w := _) (xs := #[]) (us := []) rfl rfl (by decide) (by simp) (by simp)) _ x.fields rfl (DField.flat.src Tryz.underlying130 (q_K1.out.below (by repeat (first | with_reducible exact belR | with_reducible apply belA | (with_reducible refine belS ?_ ?_; focus (first | omega | (simp; done) | (simp; omega))) | with_reducible apply belN | with_reducible apply belD | with_reducible assumption)))) ?c1a ?c2a ?c3a ?c4a ?_)
  case c1a => exact (DField.flat.row q_K1.out).2
  case c2a => (try simp only [List.length_nil, Nat.zero_add]); omega
  case c3a => (try simp only [List.length_nil, Nat.zero_add]); unfold maxLen; omega
  try (case c4a => simp; try omega)
  intro ao1 cap1 w1 hf1 hb1
  have HF1 := Lib.hid hf1
  have HB1 := Lib.hid (Below.trans (by repeat (first | with_reducible exact belR | (with_reducible refine belAB ?_ ?_; focus (first | omega | (simp; done) | (simp; omega))) | (with_reducible refine belS ?_ ?_; focus (first | omega | (simp; done) | (simp; omega))) | with_reducible apply belN | with_reducible apply belD | with_reducible assumption)) (hb1.mono (by omega)) : Below w.heap.size w w1)
  have ⟨cr, zr, fr⟩ : WB w1 (w.heap.size + 1) #[.slice none 0 0] := ((WB.at (by simp)).growA).grow hb1 (by omega)
  clear hf1 hb1
  go_wp2
  refine bodyPost_ret (v := .agg #[.slice ao1 x.fields.length cap1]) (by simp [results, Tryz.results119, go_sem, cr]) rfl ⟨_, rfl, ?_, ?_⟩
  · exact DRecord.fmk (Fresh.mono (B := (w.heap.size + 2)) (by repeat (first | exact HF1.out | refine Fresh.setLow ?_ (by omega) | refine Fresh.drew ?_)) (by omega))
  · have y := HB1.out
    exact (by repeat (first | with_reducible exact belR | (with_reducible refine belAB ?_ ?_; focus (first | omega | (simp; done) | (simp; omega))) | (with_reducible refine belS ?_ ?_; focus (first | omega | (simp; done) | (simp; omega))) | with_reducible apply belN | with_reducible apply belD | with_reducible assumption))

set_option maxRecDepth 100000 in
set_option maxHeartbeats 1600000 in
theorem specCopyItem (cs : List Value) (x : DItem) (w : World) (h : Reads DItem.rep w cs x) (hs : x.record.fields.length ≤ 1048600) :
    Calls Tryz.prog 94 #[.agg cs.toArray] w fun e w' => ∃ ds, e = .returned (.agg ds.toArray) ∧ Fresh DItem.rep w.heap.size w' ds x ∧ Below w.heap.size w w' := by
  obtain ⟨fp_q, h⟩ := h
  obtain ⟨q_v1, q_f1, rfl, _, q_s0, q_r1⟩ := DItem.rd.1 h
  obtain ⟨q_a1, q_c1, rfl, q_hm1, q_lc1, q_hu1⟩ := slice_open q_r1; clear q_hu1
  have q_K1 : Hid (Reads (Rep.slice 156 DField.rep) w [.slice q_a1 x.record.fields.length q_c1] x.record.fields) := ⟨_, q_r1⟩
  clear q_r1 h
  have HR : Hid (Reads DRecord.rep w [.slice q_a1 x.record.fields.length q_c1] x.record) := by
    obtain ⟨f, r⟩ := q_K1.out
    exact ⟨f, DRecord.rd.2 ⟨_, _, rfl, rfl, r⟩⟩
  go_enter Tryz.func94, Tryz.ntmps94
  go_wp2_with fail
  refine settle (fun W => WB W w.heap.size #[.int .i64 x.key.kind, .int .i64 x.key.n, .string x.key.text, .slice q_a1 x.record.fields.length q_c1] ∧ WB W (w.heap.size + 1) #[.int .i64 0, .int .i64 0, .string ⟨#[]⟩, .slice none 0 0] ∧ Below w.heap.size w W ∧ w.heap.size + 2 ≤ W.heap.size) ⟨(WB.at rfl).growA, WB.at (by simp), (by repeat (first | with_reducible exact belR | with_reducible apply belA | (with_reducible refine belS ?_ ?_; focus (first | omega | (simp; done) | (simp; omega))) | with_reducible apply belN | with_reducible apply belD | with_reducible assumption)), by simp⟩ ?_
  rintro wr ⟨hx, ht, hb, hz⟩
  have HX := Lib.hid hx
  have HT := Lib.hid ht
  have HB := Lib.hid hb
  clear hx ht hb
  have HS : Hid (∀ w', Chg [w.heap.size + 1] wr w' → (∀ o, w'.cell? ⟨w.heap.size, o, none⟩ = #[.int .i64 x.key.kind, .int .i64 x.key.n, .string x.key.text, .slice q_a1 x.record.fields.length q_c1][o]?) ∧ Chg [w.heap.size + 1] wr w') := Lib.hid fun w' hw' => ⟨(HX.out.chg hw' (by simp)).cell, hw'⟩
  have ⟨c_HX, z_HX, f_HX⟩ := HX.out
  have ⟨c_HT, z_HT, f_HT⟩ := HT.out
  go_region_held3 (fun w' => (∀ o, w'.cell? ⟨w.heap.size, o, none⟩ = #[.int .i64 x.key.kind, .int .i64 x.key.n, .string x.key.text, .slice q_a1 x.record.fields.length q_c1][o]?) ∧ Chg [w.heap.size + 1] wr w')
    (first | exact HS.out _ (chgD Chg.refl) | exact HS.out _ hc2 | exact HS.out _ (Chg.set (by simp) (Chg.set (by simp) (Chg.set (by simp) (Chg.set (by simp) hc2)))))
    (first | (go_at_call 119; refine (specCopyRecord _ x.record _ (HR.out.below (by have y := HB.out; exact (by repeat (first | with_reducible exact belR | (with_reducible refine belAB ?_ ?_; focus (first | omega | (simp; done) | (simp; omega))) | (with_reducible refine belS ?_ ?_; focus (first | omega | (simp; done) | (simp; omega))) | with_reducible apply belN | with_reducible apply belD | with_reducible assumption)))) hs).mono ?_; rintro e w2 ⟨ds, rfl, hf2, hb2⟩; obtain ⟨a2, c2, rfl⟩ := DRecord.fshape hf2; have hc2 : Chg [w.heap.size + 1] wr w2 := (chgD Chg.refl).trans (Chg.of_below hb2 (Nat.le_refl _)); have hw2 := HT.out.growD.keep hb2; have ⟨e2, l2, f2⟩ := hw2))
  all_goals
    have HF2 := Lib.hid hf2
    have HB2 : Hid (Below w.heap.size w w2) := Lib.hid (HB.out.trans (hc2.below (by simp) HB.out.size))
    have hz2 : w.heap.size + 2 ≤ wr.heap.size := hz
    clear hf2 hc2 hw2
    go_wp2
    refine bodyPost_ret (v := .agg #[.int .i64 x.key.kind, .int .i64 x.key.n, .string x.key.text, .slice a2 x.record.fields.length c2]) (by simp [results, Tryz.results94, go_sem, e2]) rfl ⟨_, rfl, ?_, ?_⟩
    · refine DItem.fresh (B := w.heap.size) (Fresh.partAt (lo := w.heap.size) (Fresh.mono (B := wr.heap.size) (by repeat (first | exact HF2.out | refine Fresh.setLow ?_ (by omega) | refine Fresh.drew ?_)) (by omega)) (Nat.le_refl _)) (Nat.le_refl _) q_s0
    · have y := HB2.out
      exact (by repeat (first | with_reducible exact belR | (with_reducible refine belAB ?_ ?_; focus (first | omega | (simp; done) | (simp; omega))) | (with_reducible refine belS ?_ ?_; focus (first | omega | (simp; done) | (simp; omega))) | with_reducible apply belN | with_reducible apply belD | with_reducible assumption))


end Go.Proofs.YtgicglmcapnogaaGreat
