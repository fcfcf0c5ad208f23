/-
 AddItem, AutoItem where the item is new; the draw of any store.
-/
import Derived.Test.YtlfebehpmefioaaGreatDrawRec
import Derived.Test.YtlfebehpmefioaaGreatOffs
import Derived.Test.YtlfebehpmefioaaGreatOutDraw3
namespace Go.Proofs.YtlfebehpmefioaaGreat
open Go.RowKit

set_option maxRecDepth 100000 in
set_option maxHeartbeats 1600000 in
theorem specAddNew (cs ck cr : List Value) (s : DStore) (k : DKey) (r : DRecord) (w : World) (h : Reads DStore.rep w cs s) (h' : Reads DKey.rep w ck k) (h'' : Reads DRecord.rep w cr r) (hs : SmallStore s) (hr : r.fields.length ≤ 1048600) (hno : idxF (keyIs k) s.items = -1) :
  Calls Tryz.prog 155 #[.agg cs.toArray, .agg ck.toArray, .agg cr.toArray] w fun e w' => ∃ ds, e = .returned (.tuple #[.agg ds.toArray, .bool (putItemB s k r)]) ∧ Fresh DStore.rep w.heap.size w' ds (putItemF s k r) ∧ Below w.heap.size w w' := by
 have HS := Lib.hid h
 have HK := Lib.hid h'
 have HRr := Lib.hid h''
 obtain ⟨fp_q, h⟩ := h
 obtain ⟨q_v1, q_f1, rfl, _, q_s0, q_r1⟩ := DStore.rd.1 h
 obtain ⟨q_a1, q_c1, rfl, q_hm1, q_lc1, q_hu1⟩ := slice_open q_r1; clear q_hu1
 have q_K1 : Hid (Reads (Rep.slice 71 DItem.rep) w [.slice q_a1 s.items.length q_c1] s.items) := ⟨_, q_r1⟩
 clear q_r1 h
 obtain ⟨fk, hk⟩ := h'
 obtain ⟨rfl, _, hkt⟩ := DKey.rd.1 hk
 clear hk
 obtain ⟨fp_p, h''⟩ := h''
 obtain ⟨p_v1, p_f1, rfl, _, p_r1⟩ := DRecord.rd.1 h''
 obtain ⟨p_a1, p_c1, rfl, p_hm1, p_lc1, p_hu1⟩ := slice_open p_r1; clear p_hu1
 have p_K1 : Hid (Reads (Rep.slice 112 DField.rep) w [.slice p_a1 r.fields.length p_c1] r.fields) := ⟨_, p_r1⟩
 clear p_r1 h''
 go_enter Tryz.func155, Tryz.ntmps155
 go_wp2_with fail
 refine (specFindItem _ _ s k _ (HS.out.below bEl) (HK.out.below bEl)).mono ?_
 rintro e w1 ⟨rfl, hb⟩
 rw [hno]
 have HX : Hid (WB w1 w.heap.size #[.string s.name, .slice q_a1 s.items.length q_c1, .int .i64 s.auto]) := Lib.hid (((WB.at rfl).growA.growA.growA).keep hb)
 have HY : Hid (WB w1 (w.heap.size + 1) #[.int .i64 k.kind, .int .i64 k.n, .string k.text]) := Lib.hid (((WB.at (by simp)).growA.growA).keep hb)
 have HZ : Hid (WB w1 (w.heap.size + 2) #[.slice p_a1 r.fields.length p_c1]) := Lib.hid (((WB.at (by simp)).growA).keep hb)
 have HT : Hid (WB w1 (w.heap.size + 3) #[.string ⟨#[]⟩, .slice none 0 0, .int .i64 0]) := Lib.hid ((WB.at (by simp)).keep hb)
 have hq : Below w.heap.size w w1 := below_call bEl bSz hb
 replace HS := Lib.hid (HS.out.below hq)
 replace HK := Lib.hid (HK.out.below hq)
 replace HRr := Lib.hid (HRr.out.below hq)
 have HB := Lib.hid hq
 have hz1 := HT.out.lt
 clear hb hq
 have ⟨c_HX, z_HX, f_HX⟩ := HX.out
 have ⟨c_HY, z_HY, f_HY⟩ := HY.out
 have ⟨c_HZ, z_HZ, f_HZ⟩ := HZ.out
 have ⟨c_HT, z_HT, f_HT⟩ := HT.out
 go_wp2_with fail
 refine (specPutItem _ _ _ s k r _ HS.out HK.out HRr.out hs hr).mono ?_
 rintro e w2 ⟨ds, rfl, hf, hb⟩
 obtain ⟨a, c, rfl⟩ := DStore.fsh hf
 clear c_HX z_HX f_HX c_HY z_HY f_HY c_HZ z_HZ f_HZ c_HT z_HT f_HT
 replace HT := Lib.hid (HT.out.keep hb)
 have HB2 := Lib.hid (HB.out.trans (hb.mono HB.out.size))
 clear HX HY HZ HS HK HRr HB hb
 have ⟨c_HT, z_HT, f_HT⟩ := HT.out
 go_wp2
 refine bodyPost_ret (v := .tuple #[.agg #[.string (putItemF s k r).name, .slice a (putItemF s k r).items.length c, .int .i64 (putItemF s k r).auto], .bool (putItemB s k r)]) (by simp [results, Tryz.results155, go_sem, c_HT]) rfl ⟨_, rfl, Fresh.mono (B := w1.heap.size) (by repeat (first | with_reducible exact hf | with_reducible refine Fresh.setLow ?_ (by omega))) (by omega), ?_⟩
 have y := HB2.out
 exact bEb

structure AutoStore (b : Int) (s : DStore) : Prop where
 store : isStoreF s = true
 auto : s.auto ≤ b
 keys : ∀ x ∈ s.items, x.key.kind = 1 → x.key.n ≤ 1000000 → x.key.n ≤ s.auto
theorem NoteStore.autos {s : DStore} (h : NoteStore s) : AutoStore 256 s := ⟨h.store, h.auto, h.keys⟩
def nextKey (s : DStore) : DKey := ⟨1, s.auto + 1, ⟨#[]⟩⟩
theorem AutoStore.next {b : Int} {s : DStore} (h : AutoStore b s) (hb : b ≤ 1000) (hl : s.items.length < 16) : idxF (keyIs (nextKey s)) s.items = -1 ∧ putItemB s (nextKey s) ⟨[]⟩ = true ∧ AutoStore (b + 1) (putItemF s (nextKey s) ⟨[]⟩) ∧ (putItemF s (nextKey s) ⟨[]⟩).items.length = s.items.length + 1 := by
 obtain ⟨_, _, _, _, h5⟩ := store_iff.1 h.store
 have h5 := within_iff.1 h5
 have ha := h.auto
 have hno : ∀ x ∈ s.items, keyIs (nextKey s) x = false := fun x hx => by
  unfold keyIs
  refine decide_eq_false fun e => ?_
  have h1 : x.key.kind = 1 := by rw [e]; rfl
  have h2 : x.key.n = s.auto + 1 := by rw [e]; rfl
  have := h.keys x hx h1 (by omega)
  omega
 have hf : s.items.findIdx? (keyIs (nextKey s)) = none := List.findIdx?_eq_none_iff.2 hno
 have hk : isKeyF (nextKey s) = true := by
  have e1 : within (1 : Int) 1 3 = true := by decide
  have e2 : within (s.auto + 1) (-1000000000000) 1000000000000 = true := within_iff.2 (by omega)
  have e3 : isKeyTextF ⟨#[]⟩ = true := by decide
  have e4 : (⟨#[]⟩ : ByteArray).toList.isEmpty = true := by unfold ByteArray.toList ByteArray.toList.loop; rfl
  unfold isKeyF nextKey
  simp only [e1, e2, e3, e4]
  rfl
 have hr : isRecordF ⟨[]⟩ = true := by decide
 have hB : putItemB s (nextKey s) ⟨[]⟩ = true := by
  rw [← putItem_same]
  unfold putItemS
  rw [h.store, hk, hr, hf, decide_eq_true hl]
  rfl
 have hF : putItemF s (nextKey s) ⟨[]⟩ = putNew s (nextKey s) ⟨[]⟩ := by
  unfold putItemF putOut
  rw [hB, hf]
  rfl
 have hau : autoOf s.auto (nextKey s) = s.auto + 1 := by
  unfold autoOf
  rw [if_pos ⟨rfl, by show s.auto < s.auto + 1; omega, by show s.auto + 1 ≤ 1000000; omega⟩]
  rfl
 have hst : isStoreF (putItemF s (nextKey s) ⟨[]⟩) = true := by
  have h1 := hB
  unfold putItemB at h1
  simp only [Bool.and_eq_true] at h1
  unfold putItemF
  rw [hB]
  exact h1.2.2
 refine ⟨idxF_miss fun j hj => hno _ (List.getElem_mem hj), hB, ⟨hst, ?_, fun y hy => ?_⟩, ?_⟩
 ·rw [hF]; show autoOf s.auto (nextKey s) ≤ b + 1; omega
 ·rw [hF] at hy ⊢
  show y.key.kind = 1 → y.key.n ≤ 1000000 → y.key.n ≤ autoOf s.auto (nextKey s)
  rcases insAt_mem hy with hy | rfl
  ·intro h1 h2
   have := h.keys y hy h1 h2
   omega
  ·intro _ _
   show s.auto + 1 ≤ autoOf s.auto (nextKey s)
   omega
 ·rw [hF]
  exact insAt_length (lead_le _ _) _

set_option maxRecDepth 100000 in
set_option maxHeartbeats 1600000 in
theorem specAutoNew (cs cr : List Value) (s : DStore) (b : Int) (w : World) (h : Reads DStore.rep w cs s) (h'' : Reads DRecord.rep w cr ⟨[]⟩) (hs : AutoStore b s) (hb : b ≤ 1000) (hl : s.items.length < 16) :
  Calls Tryz.prog 129 #[.agg cs.toArray, .agg cr.toArray] w fun e w' => ∃ ds, e = .returned (.tuple #[.agg ds.toArray, .agg #[.int .i64 1, .int .i64 (s.auto + 1), .string ⟨#[]⟩], .bool true]) ∧ Fresh DStore.rep w.heap.size w' ds (putItemF s (nextKey s) ⟨[]⟩) ∧ Below w.heap.size w w' := by
 obtain ⟨_, _, _, _, h5⟩ := store_iff.1 hs.store
 have h5 := within_iff.1 h5
 have ha := hs.auto
 obtain ⟨n1, n2, _, _⟩ := hs.next hb hl
 have HN1 := Lib.hid n1
 have HN2 := Lib.hid n2
 have HSS := Lib.hid (SmallStore.of_store hs.store)
 clear n1 n2 hs
 have HS := Lib.hid h
 have HRr := Lib.hid h''
 obtain ⟨fp_q, h⟩ := h
 obtain ⟨q_v1, q_f1, rfl, _, q_s0, q_r1⟩ := DStore.rd.1 h
 obtain ⟨q_a1, q_c1, rfl, q_hm1, q_lc1, q_hu1⟩ := slice_open q_r1; clear q_hu1
 have q_K1 : Hid (Reads (Rep.slice 71 DItem.rep) w [.slice q_a1 s.items.length q_c1] s.items) := ⟨_, q_r1⟩
 clear q_r1 h
 obtain ⟨fp9, h''⟩ := h''
 obtain ⟨v1, f1, rfl, rfl, r1⟩ := DRecord.rd.1 h''
 obtain ⟨p_a1, p_c1, rfl, _⟩ := slice_open r1
 clear h'' r1
 go_enter Tryz.func129, Tryz.ntmps129
 have i1 : ¬ (1000000 : Int) ≤ s.auto := by omega
 go_upto_region 4 with fail
 refine settle (fun W => WB W w.heap.size #[.string s.name, .slice q_a1 s.items.length q_c1, .int .i64 s.auto] ∧ WB W (w.heap.size + 1) #[.slice p_a1 0 p_c1] ∧ WB W (w.heap.size + 2) #[.string ⟨#[]⟩, .slice none 0 0, .int .i64 0] ∧ WB W (w.heap.size + 3) #[.int .i64 0, .int .i64 0, .string ⟨#[]⟩] ∧ WB W (w.heap.size + 4) #[.int .i64 1, .int .i64 (s.auto + 1), .string ⟨#[]⟩] ∧ Below w.heap.size w W) ⟨(WB.at rfl).growA.growA.growA.growA, (WB.at (by simp)).growA.growA.growA, (WB.at (by simp)).growA.growA, (WB.at (by simp)).growA, WB.at (by simp), bEl⟩ ?_
 rintro w1 ⟨hx, hz, ht, hu, hy, hq⟩
 have HX := Lib.hid hx
 have HZ := Lib.hid hz
 have HT := Lib.hid ht
 have HU := Lib.hid hu
 have HY := Lib.hid hy
 replace HS := Lib.hid (HS.out.below hq)
 replace HRr := Lib.hid (HRr.out.below hq)
 have HB := Lib.hid hq
 clear hx hz ht hu hy hq
 have ⟨c_HX, z_HX, f_HX⟩ := HX.out
 have ⟨c_HZ, z_HZ, f_HZ⟩ := HZ.out
 have ⟨c_HY, z_HY, f_HY⟩ := HY.out
 go_wp2_with fail
 refine (specAddNew _ _ _ s (nextKey s) ⟨[]⟩ _ HS.out ⟨[], DKey.rd.2 ⟨rfl, rfl, by show (⟨#[]⟩ : ByteArray).size ≤ maxLen; decide⟩⟩ HRr.out HSS.out (by show 0 ≤ 1048600; decide) HN1.out).mono ?_
 rintro e w2 ⟨ds, rfl, hf, hb2⟩
 obtain ⟨a, c, rfl⟩ := DStore.fsh hf
 rw [HN2.out]
 clear c_HX z_HX f_HX c_HZ z_HZ f_HZ c_HY z_HY f_HY
 have hz2 := HY.out.lt
 replace HT := Lib.hid (HT.out.keep hb2)
 replace HU := Lib.hid (HU.out.keep hb2)
 replace HY := Lib.hid (HY.out.keep hb2)
 have HF := Lib.hid hf
 replace HB := Lib.hid (HB.out.trans (hb2.mono HB.out.size))
 have hz3 := hb2.size
 clear HX HZ HS HRr hb2 hf
 obtain ⟨z, hz⟩ : ∃ z, putItemF s (nextKey s) ⟨[]⟩ = z := ⟨_, rfl⟩
 rw [hz] at HF ⊢
 have HZ := Lib.hid hz
 clear hz
 go_upto_region 7 with fail
 refine settle (fun W => ∃ kb, kb = w2.heap.size ∧ WB W kb #[.string z.name, .slice a z.items.length c, .int .i64 z.auto] ∧ WB W (w.heap.size + 2) #[.string ⟨#[]⟩, .slice none 0 0, .int .i64 0] ∧ WB W (w.heap.size + 3) #[.int .i64 0, .int .i64 0, .string ⟨#[]⟩] ∧ WB W (w.heap.size + 4) #[.int .i64 1, .int .i64 (s.auto + 1), .string ⟨#[]⟩] ∧ Fresh DStore.rep w1.heap.size W [.string z.name, .slice a z.items.length c, .int .i64 z.auto] z ∧ Below w.heap.size w W) ⟨_, rfl, WB.at rfl, HT.out.growA, HU.out.growA, HY.out.growA, HF.out.below (belA belR), (HB.out.trans ((belA belR : Below w2.heap.size w2 _).mono HB.out.size))⟩ ?_
 clear HT HU HY HF HB
 rintro w3 ⟨kb, hkb, hx, ht, hu, hy, hf, hq⟩
 rw [← hkb]
 have hkk : w.heap.size + 4 < kb := by omega
 have HX := Lib.hid hx
 have HT := Lib.hid ht
 have HU := Lib.hid hu
 have HY := Lib.hid hy
 have HF := Lib.hid hf
 clear hx ht hu hy hf hkb
 go_upto_region 7 with fail
 refine wp_region_chf ([w.heap.size + 2, w.heap.size + 3]) [] (by kernel_rfl) ?_
 intro wd hbd
 have hwz := hbd.size
 replace HX := Lib.hid (HX.out.keep hbd)
 replace HT := Lib.hid (HT.out.keep hbd)
 replace HU := Lib.hid (HU.out.keep hbd)
 replace HY := Lib.hid (HY.out.keep hbd)
 replace HF := Lib.hid (HF.out.below hbd)
 have hne : Nonempty (ChgdF ([w.heap.size + 2, w.heap.size + 3]) wd) := ⟨⟨wd, Chg.refl⟩⟩
 have hq2 := hq.trans (hbd.mono hq.size)
 clear hbd hq
 have K_HX := chf_var (fp := ([w.heap.size + 2, w.heap.size + 3])) HX.out (by first | (simp; done) | (simp; omega) | assumption)
 have K_HY := chf_var (fp := ([w.heap.size + 2, w.heap.size + 3])) HY.out (by first | (simp; done) | (simp; omega) | assumption)
 refine wpU_group (fun _ _ _ _ _ h => h) (by kernel_rfl) (chf_of (Chg.refl)) [0,1] _ _ _ rfl (by kernel_rfl) ?_
 repeat (go_big_quiet_step (fail))
 refine wpQuiet_nil ?_
 clear K_HX K_HY
 have ⟨c_HT, z_HT, f_HT⟩ := HT.out
 have ⟨c_HU, z_HU, f_HU⟩ := HU.out
 refine wpU_one 2 rfl (by kernel_rfl) ?_
 go_wp2_with fail
 refine HardPost.mk (chf_of (((Chg.refl.put (by simp)).put (by simp)).put (by simp))) ?_
 have HT1 := Lib.hid (HT.out.set3 (a' := .string z.name) (b' := .slice a z.items.length c) (c' := .int .i64 z.auto))
 have HU1 := Lib.hid (((HU.out.setOther (g := w.heap.size + 2) (o := 0) (u := .string z.name) (by omega)).setOther (g := w.heap.size + 2) (o := 1) (u := .slice a z.items.length c) (by omega)).setOther (g := w.heap.size + 2) (o := 2) (u := .int .i64 z.auto) (by omega))
 clear c_HT z_HT f_HT c_HU z_HU f_HU
 have ⟨c_HU1, z_HU1, f_HU1⟩ := HU1.out
 refine wpU_one 3 rfl (by kernel_rfl) ?_
 go_wp2_with fail
 refine HardPost.mk (chf_of ((((((Chg.refl.put (by simp)).put (by simp)).put (by simp)).put (by simp)).put (by simp)).put (by simp))) ?_
 have HT2 := Lib.hid (((HT1.out.setOther (g := w.heap.size + 3) (o := 0) (u := .int .i64 1) (by omega)).setOther (g := w.heap.size + 3) (o := 1) (u := .int .i64 (s.auto + 1)) (by omega)).setOther (g := w.heap.size + 3) (o := 2) (u := .string ⟨#[]⟩) (by omega))
 have HU2 := Lib.hid (HU1.out.set3 (a' := .int .i64 1) (b' := .int .i64 (s.auto + 1)) (c' := .string ⟨#[]⟩))
 clear c_HU1 z_HU1 f_HU1
 refine wpU_group (fun _ _ _ _ _ h => h) (by kernel_rfl) (chf_of (((((((Chg.refl.put (by simp)).put (by simp)).put (by simp)).put (by simp)).put (by simp)).put (by simp)))) [4] _ _ _ rfl (by kernel_rfl) ?_
 repeat (go_big_quiet_step (fail))
 refine wpQuiet_nil ?_
 refine wpU_tail [] _ _ _ _ rfl (by kernel_rfl) ?_
 go_wp2_with fail
 refine NoPanic.normal ?_
 have ⟨c_HT2, z_HT2, f_HT2⟩ := HT2.out
 have ⟨c_HU2, z_HU2, f_HU2⟩ := HU2.out
 go_wp2
 refine bodyPost_ret (v := .tuple #[.agg #[.string z.name, .slice a z.items.length c, .int .i64 z.auto], .agg #[.int .i64 1, .int .i64 (s.auto + 1), .string ⟨#[]⟩], .bool true]) (by simp [results, Tryz.results129, go_sem, c_HT2, c_HU2]) rfl ⟨_, rfl, Fresh.mono (B := w1.heap.size) (by rw [HZ.out]; repeat (first | with_reducible exact HF.out | with_reducible refine Fresh.setLow ?_ (by omega))) (by omega), ?_⟩
 exact bEb

structure StoreLe (s : DStore) : Prop where
 name : s.name.size ≤ 20
 items : s.items.length ≤ 40
 fields : ∀ x ∈ s.items, x.record.fields.length ≤ 20
theorem StoreLe.small {s : DStore} (h : StoreLe s) : SmallStore s := by
 have := sum_le_mul (fun x : DItem => x.record.fields.length) 20 s.items h.fields
 have h2 := h.items
 exact ⟨by omega, fun x hx => by have := h.fields x hx; omega, by omega⟩
theorem isWord_len {s : ByteArray} (h : isWordF s 8 false = true) : s.size ≤ 20 := by
 unfold isWordF at h
 rw [Bool.and_eq_true, within_iff] at h
 omega
theorem StoreLe.of_store {s : DStore} (h : isStoreF s = true) : StoreLe s := by
 obtain ⟨h1, _, h3, h4, _⟩ := store_iff.1 h
 exact ⟨isWord_len h3, by omega, fun x hx => by
  obtain ⟨j, hj, rfl⟩ := List.getElem_of_mem hx
  have := isRecord_len (h1 j hj).2
  omega⟩
theorem store_names {x : ByteArray} (h : x ∈ [(⟨#[]⟩ : ByteArray), ⟨#[81]⟩, ⟨#[97, 98, 99, 100, 101, 102, 103, 104, 105]⟩]) : x.size ≤ 20 := by
 simp only [List.mem_cons, List.not_mem_nil, or_false] at h
 rcases h with rfl | rfl | rfl <;> decide
theorem Owns.store {B : Nat} {K : List Nat} {w : World} {v : Value} {x : DStore} (h : Owns (Rep.slice 71 DItem.rep) B K w [v] x.items) (s0 : x.name.size ≤ maxLen) : Owns DStore.rep B K w [.string x.name, v, .int .i64 x.auto] x := by
 obtain ⟨fp, h, hn, hf⟩ := h
 exact ⟨fp, DStore.rd.2 ⟨_, _, rfl, rfl, s0, h⟩, hn, hf⟩
theorem Owns.storeItems {B : Nat} {K : List Nat} {w : World} {v : Value} {x : DStore} (h : Owns DStore.rep B K w [.string x.name, v, .int .i64 x.auto] x) : Owns (Rep.slice 71 DItem.rep) B K w [v] x.items := by
 obtain ⟨fp, h, hn, hf⟩ := h
 obtain ⟨v1, f1, e, rfl, _, r1⟩ := DStore.rd.1 h
 simp only [List.cons.injEq, and_true] at e
 obtain ⟨_, rfl, _⟩ := e
 exact ⟨_, r1, hn, hf⟩
theorem Owns.chg {α : Type} {R : Rep α} {B : Nat} {K fq : List Nat} {w w' : World} {cs : List Value} {x : α} (h : Owns R B K w cs x) (hc : Chg fq w w') (hq : ∀ b ∈ fq, b ∈ K) : Owns R B K w' cs x := by
 obtain ⟨fp, h, hn, hf⟩ := h
 exact ⟨fp, Rep.frame _ h fun b hb' => hc.block b (Rep.lt _ h b hb') (fun hm => (hf b hb').2 (hq b hm)), hn, hf⟩

set_option maxRecDepth 100000 in
set_option maxHeartbeats 3200000 in
theorem specAnyStore (k : Kur) (w : World) (h : Cur w k) : Calls Tryz.prog 84 #[.pointer (some ⟨k.k, 0, none⟩)] w fun e w' => ∃ ds : List Value, e = .returned (.agg ds.toArray) ∧ ∃ x : DStore, Fresh DStore.rep w.heap.size w' ds x ∧ StoreLe x ∧ Mov k w w' := by
 have hk := h.lt
 obtain ⟨i0, hi, hz0, hz8, hz9⟩ := info_parts infoItem
 go_enter Tryz.func84, Tryz.ntmps84
 go_wp2_with fail
 refine (specDrawStore k _ (h.below bEl)).mono ?_
 rintro e w1 ⟨ds, rfl, x, hf, hs, hm⟩
 obtain ⟨a1, c1, rfl⟩ := DStore.fsh hf
 have HS := Lib.hid hs
 have HLe := Lib.hid (StoreLe.of_store hs.store)
 have HT : Hid (WB w1 w.heap.size #[.string ⟨#[]⟩, .slice none 0 0, .int .i64 0]) := Lib.hid ((WB.at rfl).mov hm (by omega))
 have HM : Hid (Mov k w w1) := Lib.hid (Mov.belowL bEl hm)
 have HF := Lib.hid (hf.mono (B' := w.heap.size + 1) (by simp))
 have hz1 := HT.out.lt
 have hkz1 := hm.cur.lt
 clear hm hs hf
 go_upto_region 2 with fail
 refine settle (fun W => ∃ kb, kb = w1.heap.size ∧ WB W kb #[.string x.name, .slice a1 x.items.length c1, .int .i64 x.auto] ∧ WB W w.heap.size #[.string ⟨#[]⟩, .slice none 0 0, .int .i64 0] ∧ Owns DStore.rep (w.heap.size + 1) [kb] W [.string x.name, .slice a1 x.items.length c1, .int .i64 x.auto] x ∧ Mov k w W) ⟨_, rfl, WB.at rfl, HT.out.growA, (Owns.of HF.out (Nat.le_refl _) (by intro b hb; simp at hb; subst hb; exact .inr (Nat.le_refl _))).below (belA belR), HM.out.below bEl⟩ ?_
 clear HT HF HM
 rintro w3 ⟨kb, hkb, hx, ht, hf, hm⟩
 have hkk : w.heap.size < kb ∧ k.k < w.heap.size := by omega
 rw [← hkb]
 have HX := Lib.hid hx
 have HT := Lib.hid ht
 have HF := Lib.hid hf
 have HM := Lib.hid hm
 clear hx ht hf hm hkb hz1 hkz1
 go_wp2_with fail
 refine (specBelow k _ _ HM.out.cur).mono ?_
 rintro e w4 ⟨b, rfl, _, _, hm⟩
 have hkz := HX.out.lt
 replace HX := Lib.hid (HX.out.mov hm (by omega))
 replace HT := Lib.hid (HT.out.mov hm (by omega))
 replace HF := Lib.hid (HF.out.movL hm (by omega))
 replace HM := Lib.hid (HM.out.trans hm)
 clear hm
 have hkz4 := HX.out.lt
 cases n0 : (b == 0)
 case' false => cases n1 : (b == 1)
 case' false.false => cases n2 : (b == 2)
 case' false.false.false => cases n3 : (b == 3)
 case false.false.false.false =>
  have ⟨c_HX, z_HX, f_HX⟩ := HX.out
  have ⟨c_HT, z_HT, f_HT⟩ := HT.out
  go_upto_region 12 with fail
  refine settle (fun W => ∃ (y : DStore) (a4 : Option Addr) (c4 : Nat), StoreLe y ∧ WB W kb #[.string y.name, .slice a4 y.items.length c4, .int .i64 y.auto] ∧ WB W w.heap.size #[.string ⟨#[]⟩, .slice none 0 0, .int .i64 0] ∧ Owns DStore.rep (w.heap.size + 1) [kb] W [.string y.name, .slice a4 y.items.length c4, .int .i64 y.auto] y ∧ Mov k w W) ⟨x, a1, c1, HLe.out, HX.out.keep bEl, HT.out.keep bEl, HF.out.below bEl, HM.out.below bEl⟩ ?_
  clear c_HX z_HX f_HX c_HT z_HT f_HT
  clear HX HT HF HM
  rintro w9 ⟨y, a4, c4, hly, hx, ht, hf, hm⟩
  have HX := Lib.hid hx
  have HT := Lib.hid ht
  have HF := Lib.hid hf
  have HM := Lib.hid hm
  have HLy := Lib.hid hly
  clear hx ht hf hm hly
  have hkz9 := HX.out.lt
  have ⟨c_HX, z_HX, f_HX⟩ := HX.out
  have ⟨c_HT, z_HT, f_HT⟩ := HT.out
  go_wp2
  exact bodyPost_ret (v := .agg #[.string y.name, .slice a4 y.items.length c4, .int .i64 y.auto]) (by simp [results, Tryz.results84, go_sem, c_HT]) rfl ⟨_, rfl, y, (Owns.fresh (K := [kb]) (B := w.heap.size + 1) (by repeat (first | with_reducible exact HF.out | with_reducible refine Owns.set ?_ (.inr (by omega))))).mono (by omega), HLy.out, HM.out.low (B := w.heap.size) bEb (Nat.le_refl _) hk⟩
 case true =>
  have ⟨c_HX, z_HX, f_HX⟩ := HX.out
  have ⟨c_HT, z_HT, f_HT⟩ := HT.out
  go_wp2_with fail
  refine (specLitStr k [⟨#[]⟩, ⟨#[81]⟩, ⟨#[97, 98, 99, 100, 101, 102, 103, 104, 105]⟩] _ HM.out.cur rfl rfl rfl (by decide) (by decide) (by decide)).mono ?_
  rintro e w5 ⟨v, rfl, hv, hm⟩
  have hvs := store_names hv
  clear c_HX z_HX f_HX c_HT z_HT f_HT
  replace HX := Lib.hid (HX.out.mov hm (by omega))
  replace HT := Lib.hid (HT.out.mov hm (by omega))
  replace HF := Lib.hid (HF.out.movL hm (by omega))
  replace HM := Lib.hid (HM.out.trans hm)
  clear hm hv
  have hkz5 := HX.out.lt
  have ⟨c_HX, z_HX, f_HX⟩ := HX.out
  have ⟨c_HT, z_HT, f_HT⟩ := HT.out
  go_upto_region 12 with fail
  refine settle (fun W => ∃ (y : DStore) (a4 : Option Addr) (c4 : Nat), StoreLe y ∧ WB W kb #[.string y.name, .slice a4 y.items.length c4, .int .i64 y.auto] ∧ WB W w.heap.size #[.string ⟨#[]⟩, .slice none 0 0, .int .i64 0] ∧ Owns DStore.rep (w.heap.size + 1) [kb] W [.string y.name, .slice a4 y.items.length c4, .int .i64 y.auto] y ∧ Mov k w W) ⟨⟨v, x.items, x.auto⟩, a1, c1, ⟨hvs, HLe.out.items, HLe.out.fields⟩, HX.out.setAt (i := 0) (by simp) rfl, HT.out.setOther (by omega), (Owns.store (x := ⟨v, x.items, x.auto⟩) HF.out.storeItems (by show v.size ≤ maxLen; unfold maxLen; omega)).set (.inl (by simp)), HM.out.low (B := w.heap.size) bEb (Nat.le_refl _) hk⟩ ?_
  clear c_HX z_HX f_HX c_HT z_HT f_HT
  clear HX HT HF HM
  rintro w9 ⟨y, a4, c4, hly, hx, ht, hf, hm⟩
  have HX := Lib.hid hx
  have HT := Lib.hid ht
  have HF := Lib.hid hf
  have HM := Lib.hid hm
  have HLy := Lib.hid hly
  clear hx ht hf hm hly
  have hkz9 := HX.out.lt
  have ⟨c_HX, z_HX, f_HX⟩ := HX.out
  have ⟨c_HT, z_HT, f_HT⟩ := HT.out
  go_wp2
  exact bodyPost_ret (v := .agg #[.string y.name, .slice a4 y.items.length c4, .int .i64 y.auto]) (by simp [results, Tryz.results84, go_sem, c_HT]) rfl ⟨_, rfl, y, (Owns.fresh (K := [kb]) (B := w.heap.size + 1) (by repeat (first | with_reducible exact HF.out | with_reducible refine Owns.set ?_ (.inr (by omega))))).mono (by omega), HLy.out, HM.out.low (B := w.heap.size) bEb (Nat.le_refl _) hk⟩
 case false.true =>
  have ⟨c_HX, z_HX, f_HX⟩ := HX.out
  have ⟨c_HT, z_HT, f_HT⟩ := HT.out
  go_wp2_with fail
  refine (specLitInt k [-1, 999999, 1000000, 1000001] _ HM.out.cur rfl rfl rfl (by decide) (by decide)).mono ?_
  rintro e w5 ⟨v, rfl, _, hm⟩
  clear c_HX z_HX f_HX c_HT z_HT f_HT
  replace HX := Lib.hid (HX.out.mov hm (by omega))
  replace HT := Lib.hid (HT.out.mov hm (by omega))
  replace HF := Lib.hid (HF.out.movL hm (by omega))
  replace HM := Lib.hid (HM.out.trans hm)
  clear hm
  have hkz5 := HX.out.lt
  have ⟨c_HX, z_HX, f_HX⟩ := HX.out
  have ⟨c_HT, z_HT, f_HT⟩ := HT.out
  go_upto_region 12 with fail
  refine settle (fun W => ∃ (y : DStore) (a4 : Option Addr) (c4 : Nat), StoreLe y ∧ WB W kb #[.string y.name, .slice a4 y.items.length c4, .int .i64 y.auto] ∧ WB W w.heap.size #[.string ⟨#[]⟩, .slice none 0 0, .int .i64 0] ∧ Owns DStore.rep (w.heap.size + 1) [kb] W [.string y.name, .slice a4 y.items.length c4, .int .i64 y.auto] y ∧ Mov k w W) ⟨⟨x.name, x.items, v⟩, a1, c1, ⟨HLe.out.name, HLe.out.items, HLe.out.fields⟩, HX.out.setAt (i := 2) (by simp) rfl, HT.out.setOther (by omega), (Owns.store (x := ⟨x.name, x.items, v⟩) HF.out.storeItems (by show x.name.size ≤ maxLen; have := HLe.out.name; unfold maxLen; omega)).set (.inl (by simp)), HM.out.low (B := w.heap.size) bEb (Nat.le_refl _) hk⟩ ?_
  clear c_HX z_HX f_HX c_HT z_HT f_HT
  clear HX HT HF HM
  rintro w9 ⟨y, a4, c4, hly, hx, ht, hf, hm⟩
  have HX := Lib.hid hx
  have HT := Lib.hid ht
  have HF := Lib.hid hf
  have HM := Lib.hid hm
  have HLy := Lib.hid hly
  clear hx ht hf hm hly
  have hkz9 := HX.out.lt
  have ⟨c_HX, z_HX, f_HX⟩ := HX.out
  have ⟨c_HT, z_HT, f_HT⟩ := HT.out
  go_wp2
  exact bodyPost_ret (v := .agg #[.string y.name, .slice a4 y.items.length c4, .int .i64 y.auto]) (by simp [results, Tryz.results84, go_sem, c_HT]) rfl ⟨_, rfl, y, (Owns.fresh (K := [kb]) (B := w.heap.size + 1) (by repeat (first | with_reducible exact HF.out | with_reducible refine Owns.set ?_ (.inr (by omega))))).mono (by omega), HLy.out, HM.out.low (B := w.heap.size) bEb (Nat.le_refl _) hk⟩
 case false.false.true =>
  have hlx : x.items.length ≤ 16 := (store_iff.1 HS.out.store).2.2.2.1
  have HI := Lib.hid HF.out.storeItems
  have hown : Hid (∀ b ∈ (Value.slice a1 x.items.length c1).ownBlock.toList, w.heap.size + 1 ≤ b ∧ b ≠ kb) := Lib.hid fun b hb => by
   obtain ⟨fp, r, _, hge⟩ := HI.out
   have := hge b (own_in r b hb)
   simp at this
   exact this
  have HN : Hid (kb ∉ (Value.slice a1 x.items.length c1).ownBlock.toList) := Lib.hid fun hm => (hown.out kb hm).2 rfl
  go_upto_region 8 with fail
  refine wp_region_mvf k (Value.slice a1 x.items.length c1).ownBlock.toList [10] (by kernel_rfl) ?_
  intro wd hbd
  have hwz := hbd.size
  replace HX := Lib.hid (HX.out.keep hbd)
  replace HT := Lib.hid (HT.out.keep hbd)
  replace HI := Lib.hid (HI.out.below hbd)
  replace HM := Lib.hid (HM.out.below hbd)
  clear hbd HF
  have hne : Nonempty (MovedF k (Value.slice a1 x.items.length c1).ownBlock.toList wd) := ⟨⟨wd, MovF.of (Mov.refl HM.out.cur)⟩⟩
  have KX := mvf_var (k := k) (fp := (Value.slice a1 x.items.length c1).ownBlock.toList) HX.out (by omega) HN.out
  refine wpU_group (fun _ _ _ _ _ h => h) (by kernel_rfl) (mvf_of (MovF.of (Mov.refl HM.out.cur))) [0,1,2,4] _ _ _ rfl (by kernel_rfl) ?_
  repeat (go_big_quiet_step (fail))
  refine wpQuiet_nil ?_
  clear KX
  refine wpU_one 3 rfl (by kernel_rfl) ?_
  go_wp2_with fail
  refine (specAnyKey k _ HM.out.cur).mono ?_
  rintro e w5 ⟨y, rfl, hy, hm⟩
  go_wp2_with fail
  refine HardPost.mk (mvf_of (MovF.of hm)) ?_
  have hz5 := hm.size
  refine wpU_one 5 rfl (by kernel_rfl) ?_
  go_wp2_with fail
  refine (specAnyRecord k _ hm.cur).mono ?_
  rintro e w6 ⟨es, rfl, r, hfr, hrl, hm6⟩
  obtain ⟨a6, c6, rfl⟩ := DRecord.fsh hfr
  have mm6 := hm.trans hm6
  have hz6 := mm6.size
  go_wp2_with fail
  refine HardPost.mk (mvf_of (MovF.of mm6)) ?_
  refine wpU_group (fun _ _ _ _ _ h => h) (by kernel_rfl) (mvf_of (MovF.of mm6)) [6] _ _ _ rfl (by kernel_rfl) ?_
  repeat (go_big_quiet_step (fail))
  refine wpQuiet_nil ?_
  refine wpU_one 7 rfl (by kernel_rfl) ?_
  go_wp2_with fail
  refine HardPost.mk (mvf_of ((MovF.of mm6).below (belA belR))) ?_
  refine wpU_one 8 rfl (by kernel_rfl) ?_
  have hkd := HX.out.lt
  refine wpList_pushNK _ rfl _ _ 24 24 rfl (w.heap.size + 1) [kb] wd.heap.size 71 i0 _ _ Tryz.underlying24 Tryz.underlying24 hi hz0 hz8 hz9 rfl (.slice a1 x.items.length c1) x.items rfl (HI.out.movLt mm6 (by omega)) (⟨y, r⟩ : DItem) _ _ _ rfl rfl (item_fmk (by unfold maxLen; omega) (hfr.mono hz5)) (by omega) (by decide) (by omega) hz6 (by intro b hb; simp at hb; omega) ?_
  intro ao2 cap2 w8 hf8 hg8
  go_wp2_with fail
  have mf7 := ((MovF.of mm6).below (belA belR)).chg (Chg.of_grown hg8) (fun b hb => by have := hown.out b hb; omega)
  refine HardPost.mk (mvf_of mf7) ?_
  refine wpU_group (fun _ _ _ _ _ h => h) (by kernel_rfl) (mvf_of mf7) [9] _ _ _ rfl (by kernel_rfl) ?_
  repeat (go_big_quiet_step (fail))
  refine wpQuiet_nil ?_
  have HX7 := Lib.hid (HX.out.chg mf7.1 (by have := HN.out; simp; exact ⟨by omega, by simpa using this⟩))
  have HT7 := Lib.hid (HT.out.chg mf7.1 (by simp; exact ⟨by omega, fun hm => by have := hown.out _ (by simpa using hm); omega⟩))
  have HM7 := Lib.hid (mf7.low HM.out (fun b hb => by have := hown.out b hb; omega))
  have HF7 := Lib.hid hf8
  have HLL : Hid ((x.items ++ [(⟨y, r⟩ : DItem)]).length = x.items.length + 1) := Lib.hid (by simp)
  have HL7 : Hid (StoreLe ⟨x.name, x.items ++ [⟨y, r⟩], x.auto⟩) := Lib.hid ⟨HLe.out.name, by show (x.items ++ [(⟨y, r⟩ : DItem)]).length ≤ 40; rw [HLL.out]; omega, fun z hz => by
   rcases List.mem_append.1 hz with hz | hz
   ·exact HLe.out.fields z hz
   ·obtain rfl : z = ⟨y, r⟩ := by simpa using hz
    show r.fields.length ≤ 20
    omega⟩
  clear hf8 hg8 mf7
  have ⟨c_HX7, z_HX7, f_HX7⟩ := HX7.out
  refine wpU_tail [10] _ _ _ _ rfl (by kernel_rfl) ?_
  go_wp2_with fail
  refine NoPanic.normal ?_
  clear c_HX7 z_HX7 f_HX7
  go_upto_region 12 with fail
  refine settle (fun W => ∃ (y : DStore) (a4 : Option Addr) (c4 : Nat), StoreLe y ∧ WB W kb #[.string y.name, .slice a4 y.items.length c4, .int .i64 y.auto] ∧ WB W w.heap.size #[.string ⟨#[]⟩, .slice none 0 0, .int .i64 0] ∧ Owns DStore.rep (w.heap.size + 1) [kb] W [.string y.name, .slice a4 y.items.length c4, .int .i64 y.auto] y ∧ Mov k w W) ⟨⟨x.name, x.items ++ [⟨y, r⟩], x.auto⟩, ao2, cap2, HL7.out, by rw [HLL.out]; exact HX7.out.setAt (i := 1) (by simp) rfl, HT7.out.setOther (by omega), by rw [HLL.out]; exact (Owns.store (x := ⟨x.name, x.items ++ [⟨y, r⟩], x.auto⟩) HF7.out (by show x.name.size ≤ maxLen; have := HLe.out.name; unfold maxLen; omega)).set (g := kb) (.inl (by simp)), HM7.out.low (B := w.heap.size) bEb (Nat.le_refl _) hk⟩ ?_
  clear HX HT HM HN HX7 HT7 HM7 HF7 HLL hown hm hm6 mm6 hz6 hz5 hne hfr HI HL7
  rintro w9 ⟨y, a4, c4, hly, hx, ht, hf, hm⟩
  have HX := Lib.hid hx
  have HT := Lib.hid ht
  have HF := Lib.hid hf
  have HM := Lib.hid hm
  have HLy := Lib.hid hly
  clear hx ht hf hm hly
  have hkz9 := HX.out.lt
  have ⟨c_HX, z_HX, f_HX⟩ := HX.out
  have ⟨c_HT, z_HT, f_HT⟩ := HT.out
  go_wp2
  exact bodyPost_ret (v := .agg #[.string y.name, .slice a4 y.items.length c4, .int .i64 y.auto]) (by simp [results, Tryz.results84, go_sem, c_HT]) rfl ⟨_, rfl, y, (Owns.fresh (K := [kb]) (B := w.heap.size + 1) (by repeat (first | with_reducible exact HF.out | with_reducible refine Owns.set ?_ (.inr (by omega))))).mono (by omega), HLy.out, HM.out.low (B := w.heap.size) bEb (Nat.le_refl _) hk⟩
 case false.false.false.true =>
  have ⟨c_HX, z_HX, f_HX⟩ := HX.out
  go_wp2_with fail
  go_loopw [] (fun wr => ∃ (x : DStore) (a1 : Option Addr) (c1 : Nat), (AutoStore (256 + x.items.length) x ∧ x.items.length ≤ 16) ∧ WB wr kb #[.string x.name, .slice a1 x.items.length c1, .int .i64 x.auto] ∧ WB wr w.heap.size #[.string ⟨#[]⟩, .slice none 0 0, .int .i64 0] ∧ Owns DStore.rep (w.heap.size + 1) [kb] wr [.string x.name, .slice a1 x.items.length c1, .int .i64 x.auto] x ∧ Mov k w wr) (fun wr => 20 - lenAt wr kb 1)
  case atStart =>
   have h1 := HS.out.autos
   exact ⟨x, a1, c1, ⟨⟨h1.store, by have := h1.auto; omega, h1.keys⟩, (store_iff.1 HS.out.store).2.2.2.1⟩, HX.out, HT.out, HF.out, HM.out⟩
  case round =>
   clear c_HX z_HX f_HX
   clear HX HT HF HM HS HLe
   obtain ⟨x, a1, c1, ⟨hs, hl⟩, hx, ht, hf, hm⟩ := hrel
   have HS := Lib.hid hs
   have HX := Lib.hid hx
   have HT := Lib.hid ht
   have HF := Lib.hid hf
   have HM := Lib.hid hm
   clear hs hx ht hf hm
   have hzr := HX.out.lt
   have HLe := Lib.hid (StoreLe.of_store HS.out.store)
   have ⟨c_HX, z_HX, f_HX⟩ := HX.out
   by_cases hlt : x.items.length < 16
   ·have i2 : (x.items.length : Int) < 16 := by omega
    go_wp2_with fail
    refine (specIsStore _ x _ HF.out.reads).mono ?_
    rintro e w2 ⟨rfl, hb⟩
    rw [HS.out.store]
    have hla : Hid (lenAt wr kb 1 = x.items.length) := Lib.hid (lenAt_of (HX.out.cell 1))
    clear c_HX z_HX f_HX
    replace HX := Lib.hid (HX.out.keep hb)
    replace HT := Lib.hid (HT.out.keep hb)
    replace HF := Lib.hid (HF.out.below hb)
    replace HM := Lib.hid (HM.out.below hb)
    have hz2 := hb.size
    clear hb
    obtain ⟨_, _, n3, n4⟩ := HS.out.next (by omega) hlt
    have HN3 := Lib.hid n3
    have HN4 := Lib.hid n4
    clear n3 n4
    have ⟨c_HX, z_HX, f_HX⟩ := HX.out
    go_wp2_with fail
    refine (specAutoNew _ _ x (256 + x.items.length) _ HF.out.reads (DRecord.fmk (x := ⟨[]⟩) (B := 0) Fresh.nil).reads HS.out (by omega) hlt).mono ?_
    rintro e w3 ⟨ds, rfl, hf, hb⟩
    clear c_HX z_HX f_HX
    obtain ⟨z, hz⟩ : ∃ z, putItemF x (nextKey x) ⟨[]⟩ = z := ⟨_, rfl⟩
    rw [hz] at hf HN3 HN4
    clear hz
    obtain ⟨a3, c3, rfl⟩ := DStore.fsh hf
    replace HX := Lib.hid (HX.out.keep hb)
    replace HT := Lib.hid (HT.out.keep hb)
    replace HM := Lib.hid (HM.out.below hb)
    have HF3 : Hid (Owns DStore.rep (w.heap.size + 1) [kb] w3 [.string z.name, .slice a3 z.items.length c3, .int .i64 z.auto] z) := Lib.hid (Owns.of hf (by omega) (by intro b hb; simp at hb; subst hb; exact .inl (by omega)))
    clear hb hf
    have ⟨c_HX, z_HX, f_HX⟩ := HX.out
    go_wp2
    clear c_HX z_HX f_HX
    go_light
    have HX6 := HX.out.set3 (a' := .string z.name) (b' := .slice a3 z.items.length c3) (c' := .int .i64 z.auto)
    have hn4 := HN4.out
    refine ⟨⟨z, a3, c3, ⟨⟨HN3.out.store, by have := HN3.out.auto; omega, HN3.out.keys⟩, by omega⟩, HX6, ((HT.out.setOther (by omega)).setOther (by omega)).setOther (by omega), ((HF3.out.set (.inl (by simp))).set (.inl (by simp))).set (.inl (by simp)), HM.out.low (B := w.heap.size) bEb (Nat.le_refl _) hk⟩, ?_⟩
    rw [hla.out, lenAt_of (HX6.cell 1), hn4]
    omega
   ·have i2 : ¬ (x.items.length : Int) < 16 := by omega
    have ⟨c_HT, z_HT, f_HT⟩ := HT.out
    go_wp2
    exact bodyPost_ret (v := .agg #[.string x.name, .slice a1 x.items.length c1, .int .i64 x.auto]) (by simp [results, Tryz.results84, go_sem, c_HT]) rfl ⟨_, rfl, x, (Owns.fresh (K := [kb]) (B := w.heap.size + 1) (by repeat (first | with_reducible exact HF.out | with_reducible refine Owns.set ?_ (.inr (by omega))))).mono (by omega), HLe.out, HM.out.low (B := w.heap.size) bEb (Nat.le_refl _) hk⟩

end Go.Proofs.YtlfebehpmefioaaGreat
