/-
  The draw of any site.
-/
import Derived.Test.YteajhmpppciicaaDrawSite16
namespace Go.Proofs.Yteajhmpppciicaa
open Go.RowKit

theorem site_open {B : Nat} {w : World} {v : Value} {x : DSite} (h : Fresh DSite.rep B w [.string x.name, .int .i64 x.version, v, .bool x.shared] x) : Fresh (Rep.slice 9 Rep.str) B w [v] x.files := by
  obtain ⟨fp, h, hn, hf⟩ := h
  obtain ⟨v1, f1, e, rfl, _, r1⟩ := DSite.rd.1 h
  simp only [List.cons.injEq, and_true, true_and] at e
  subst e
  exact ⟨_, r1, hn, hf⟩
theorem site_mk {B B' : Nat} {w : World} {v : Value} {nm : ByteArray} {ver : Int} {l : List ByteArray} {b : Bool} (h : Fresh (Rep.slice 9 Rep.str) B w [v] l) (hB : B' ≤ B) (hn : nm.size ≤ 20) : Fresh DSite.rep B' w [.string nm, .int .i64 ver, v, .bool b] ⟨nm, ver, l, b⟩ := by
  obtain ⟨fp, h, h2, hf⟩ := h
  exact ⟨fp, DSite.rd.2 ⟨_, fp, rfl, rfl, by show nm.size ≤ maxLen; unfold maxLen; omega, h⟩, h2, fun b hb => Nat.le_trans hB (hf b hb)⟩
def oddFiles : List ByteArray := [⟨#[97]⟩, ⟨#[122, 111, 111]⟩, ⟨#[81]⟩]
theorem odd_files {x : ByteArray} (h : x ∈ oddFiles) : x.size ≤ 20 := by
  unfold oddFiles at h
  simp only [List.mem_cons, List.not_mem_nil, or_false] at h
  rcases h with rfl | rfl | rfl <;> decide

set_option maxRecDepth 100000 in
set_option maxHeartbeats 6400000 in
theorem specAnySite (k : Kur) (w : World) (h : Cur w k) : Calls Try.prog 34 #[.pointer (some ⟨k.k, 0, none⟩)] w fun e w' => ∃ (x : DSite) (a : Option Addr) (c : Nat), e = .returned (.agg #[.string x.name, .int .i64 x.version, .slice a x.files.length c, .bool x.shared]) ∧ Fresh DSite.rep w.heap.size w' [.string x.name, .int .i64 x.version, .slice a x.files.length c, .bool x.shared] x ∧ x.name.size ≤ 20 ∧ x.files.length ≤ 5 ∧ (∀ f ∈ x.files, f.size ≤ 20) ∧ Mov k w w' := by
  have hk := h.lt
  obtain ⟨i0, hi, hz0, hz8, hz9⟩ := info_parts Try.infoString
  go_enter Try.func34, Try.ntmps34
  go_wp2_with fail
  refine (specSite k _ (h.below (by repeat (first | with_reducible exact belR | with_reducible apply belA | (with_reducible refine belS ?_ ?_; focus (first | omega | (simp; done) | (simp; omega))) | with_reducible apply belN | with_reducible apply belD | with_reducible assumption)))).mono ?_
  rintro e w1 ⟨nm, rfl, hnm, hm⟩
  have hnm2 : nm.size ≤ 20 := by simp only [List.mem_cons, List.not_mem_nil, or_false] at hnm; rcases hnm with rfl | rfl | rfl <;> decide
  have HT : Hid (WB w1 w.heap.size #[.string ⟨#[]⟩, .int .i64 0, .slice none 0 0, .bool false]) := Lib.hid ((WB.at rfl).mov hm (by omega))
  have HM : Hid (Mov k w w1) := Lib.hid (Mov.belowL (by repeat (first | with_reducible exact belR | with_reducible apply belA | (with_reducible refine belS ?_ ?_; focus (first | omega | (simp; done) | (simp; omega))) | with_reducible apply belN | with_reducible apply belD | with_reducible assumption)) hm)
  have hz1 := HT.out.lt
  clear hm hnm
  go_wp2_with fail
  refine (specSite16 k nm _ HM.out.2 hnm2).mono ?_
  rintro e w2 ⟨x, kf, n, c1, rfl, hf, hxn, hl4, rfl, hfs, hm⟩
  have hnx : x.name.size ≤ 20 := by rw [hxn]; exact hnm2
  have hg := site_open hf
  have hz2 := hm.size
  have hN := hg.ownlt
  replace HT := Lib.hid (HT.out.mov hm (by omega))
  replace HM := Lib.hid (HM.out.trans hm)
  have HF : Hid (Fresh (Rep.slice 9 Rep.str) (w.heap.size + 1) w2 [(Value.slice (some ⟨kf, 0, none⟩) x.files.length c1)] x.files) := Lib.hid (hg.mono (by omega))
  have HFS := Lib.hid hfs
  clear hf hg hm hfs hxn hnm2
  go_upto_region 2 with fail
  refine settle (fun W => ∃ kb, kb = w2.heap.size ∧ kb ∉ (Value.slice (some ⟨kf, 0, none⟩) x.files.length c1).ownBlock.toList ∧ WB W kb #[.string x.name, .int .i64 x.version, (Value.slice (some ⟨kf, 0, none⟩) x.files.length c1), .bool x.shared] ∧ WB W w.heap.size #[.string ⟨#[]⟩, .int .i64 0, .slice none 0 0, .bool false] ∧ Fresh (Rep.slice 9 Rep.str) (w.heap.size + 1) W [(Value.slice (some ⟨kf, 0, none⟩) x.files.length c1)] x.files ∧ Mov k w W) ⟨_, rfl, fun hm => by have := hN _ hm; omega, WB.at rfl, HT.out.growA, HF.out.below (belA belR), HM.out.below (by repeat (first | with_reducible exact belR | with_reducible apply belA | (with_reducible refine belS ?_ ?_; focus (first | omega | (simp; done) | (simp; omega))) | with_reducible apply belN | with_reducible apply belD | with_reducible assumption))⟩ ?_
  clear HT HF HM hN
  rintro w3 ⟨kb, hkb, hn, hx, ht, hf, hm⟩
  have hkk : w.heap.size < kb ∧ k.k < kb := by omega
  rw [← hkb]
  have HX := Lib.hid hx
  have HN := Lib.hid hn
  have HT := Lib.hid ht
  have HF := Lib.hid hf
  have HM := Lib.hid hm
  clear hx hn ht hf hm hkb hz1 hz2
  go_wp2_with fail
  refine (specBelow k _ _ HM.out.2).mono ?_
  rintro e w4 ⟨d, rfl, _, _, hm⟩
  have hzb := HX.out.lt
  replace HX := Lib.hid (HX.out.mov hm (by omega))
  replace HT := Lib.hid (HT.out.mov hm (by omega))
  replace HF := Lib.hid (HF.out.mov hm (by omega))
  replace HM := Lib.hid (HM.out.trans hm)
  clear hm hzb
  cases n0 : (d == 0)
  case' false => cases n1 : (d == 1)
  case' false.false => cases n2 : (d == 2)
  case' true =>
    go_wp2_with fail
    refine (specLitInt k [-1, 0, 1000000000000, 1000000000001] _ HM.out.2 rfl rfl rfl (by decide) (by decide)).mono ?_
    rintro e w5 ⟨u, rfl, _, hm⟩
    have hzb := HX.out.lt
    replace HX := Lib.hid (HX.out.mov hm (by omega))
    replace HT := Lib.hid (HT.out.mov hm (by omega))
    replace HF := Lib.hid (HF.out.mov hm (by omega))
    replace HM := Lib.hid (HM.out.trans hm)
    clear hm hzb
    have ⟨c_HX, z_HX, f_HX⟩ := HX.out
    go_upto_region 9 with fail
    refine settle (fun W => (∃ (nm : ByteArray) (ver : Int) (l : List ByteArray) (a : Option Addr) (c : Nat), nm.size ≤ 20 ∧ l.length ≤ 5 ∧ (∀ f ∈ l, f.size ≤ 20) ∧ WB W kb #[.string nm, .int .i64 ver, .slice a l.length c, .bool x.shared] ∧ Fresh (Rep.slice 9 Rep.str) (w.heap.size + 1) W [.slice a l.length c] l) ∧ WB W w.heap.size #[.string ⟨#[]⟩, .int .i64 0, .slice none 0 0, .bool false] ∧ Mov k w W) ⟨⟨_, _, _, _, _, hnx, by omega, HFS.out, HX.out.setAt (i := 1) (by simp) rfl, FlatR.str.setApart HF.out HN.out⟩, HT.out.setOther (by omega), HM.out.low (B := w.heap.size) (by repeat (first | with_reducible exact belR | (with_reducible refine belAB ?_ ?_; focus (first | omega | (simp; done) | (simp; omega))) | (with_reducible refine belS ?_ ?_; focus (first | omega | (simp; done) | (simp; omega))) | with_reducible apply belN | with_reducible apply belD | with_reducible assumption)) (Nat.le_refl _) hk⟩ ?_
  case' false.false.true =>
    have ⟨c_HX, z_HX, f_HX⟩ := HX.out
    go_upto_region 9 with fail
    refine settle (fun W => (∃ (nm : ByteArray) (ver : Int) (l : List ByteArray) (a : Option Addr) (c : Nat), nm.size ≤ 20 ∧ l.length ≤ 5 ∧ (∀ f ∈ l, f.size ≤ 20) ∧ WB W kb #[.string nm, .int .i64 ver, .slice a l.length c, .bool x.shared] ∧ Fresh (Rep.slice 9 Rep.str) (w.heap.size + 1) W [.slice a l.length c] l) ∧ WB W w.heap.size #[.string ⟨#[]⟩, .int .i64 0, .slice none 0 0, .bool false] ∧ Mov k w W) ⟨⟨_, _, _, _, _, by decide, by omega, HFS.out, HX.out.setAt (i := 0) (by simp) rfl, FlatR.str.setApart HF.out HN.out⟩, HT.out.setOther (by omega), HM.out.low (B := w.heap.size) (by repeat (first | with_reducible exact belR | (with_reducible refine belAB ?_ ?_; focus (first | omega | (simp; done) | (simp; omega))) | (with_reducible refine belS ?_ ?_; focus (first | omega | (simp; done) | (simp; omega))) | with_reducible apply belN | with_reducible apply belD | with_reducible assumption)) (Nat.le_refl _) hk⟩ ?_
  case' false.false.false =>
    go_upto_region 9 with fail
    refine settle (fun W => (∃ (nm : ByteArray) (ver : Int) (l : List ByteArray) (a : Option Addr) (c : Nat), nm.size ≤ 20 ∧ l.length ≤ 5 ∧ (∀ f ∈ l, f.size ≤ 20) ∧ WB W kb #[.string nm, .int .i64 ver, .slice a l.length c, .bool x.shared] ∧ Fresh (Rep.slice 9 Rep.str) (w.heap.size + 1) W [.slice a l.length c] l) ∧ WB W w.heap.size #[.string ⟨#[]⟩, .int .i64 0, .slice none 0 0, .bool false] ∧ Mov k w W) ⟨⟨_, _, _, _, _, hnx, by omega, HFS.out, HX.out, HF.out⟩, HT.out, HM.out⟩ ?_
  case' false.true =>
    have hown : Hid (∀ b ∈ (Value.slice (some ⟨kf, 0, none⟩) x.files.length c1).ownBlock.toList, w.heap.size + 1 ≤ b) := Lib.hid fun b hb => (HF.out.ownlt b hb).1
    have hkz4 := HX.out.lt
    go_upto_region 6 with fail
    refine wp_region_mvf k ((Value.slice (some ⟨kf, 0, none⟩) x.files.length c1).ownBlock.toList) [8] (by kernel_rfl) ?_
    intro wd hbd
    have hwz := hbd.size
    replace HX := Lib.hid (HX.out.keep hbd)
    replace HT := Lib.hid (HT.out.keep hbd)
    replace HF := Lib.hid (HF.out.below hbd)
    replace HM := Lib.hid (HM.out.below hbd)
    clear hbd
    have hne : Nonempty (MovedF k ((Value.slice (some ⟨kf, 0, none⟩) x.files.length c1).ownBlock.toList) wd) := ⟨⟨wd, MovF.of (Mov.refl HM.out.cur)⟩⟩
    have KX := mvf_var (k := k) (fp := (Value.slice (some ⟨kf, 0, none⟩) x.files.length c1).ownBlock.toList) HX.out (by omega) HN.out
    refine wpU_group (fun _ _ _ _ _ h => h) (by kernel_rfl) (mvf_of (MovF.of (Mov.refl HM.out.cur))) [0,1,2] _ _ _ rfl (by kernel_rfl) ?_
    repeat (go_big_quiet_step (fail))
    refine wpQuiet_nil ?_
    clear KX
    have hkd := HM.out.cur.lt
    have m1 : Mov k wd (wd.alloc (.cells #[.string ⟨#[97]⟩, .string ⟨#[122, 111, 111]⟩, .string ⟨#[81]⟩] 9)) := Mov.below (Mov.refl HM.out.cur) (belA belR)
    refine wpU_one 3 rfl (by kernel_rfl) ?_
    go_wp2_with fail
    refine HardPost.mk (mvf_of (MovF.of m1)) ?_
    refine wpU_one 4 rfl (by kernel_rfl) ?_
    go_wp2_with fail
    refine (specLitStr k oddFiles _ HM.out.cur rfl rfl rfl (by decide) (by decide) (fun x hx => by have := odd_files hx; unfold maxLen; omega)).mono ?_
    rintro e w5 ⟨f, rfl, hf5, mm7⟩
    have hfs5 := odd_files hf5
    go_wp2_with fail
    refine HardPost.mk (mvf_of (MovF.of mm7)) ?_
    refine wpU_one 5 rfl (by kernel_rfl) ?_
    go_wp2_with fail
    refine HardPost.mk (mvf_of ((MovF.of mm7).below (belA belR))) ?_
    refine wpU_one 6 rfl (by kernel_rfl) ?_
    have hz6 := mm7.size
    refine wpList_pushC _ rfl _ _ 45 45 rfl FlatR.str (w.heap.size + 1) 9 i0 _ _ Try.underlying45 Try.underlying45 hi hz0 hz8 hz9 rfl (Value.slice (some ⟨kf, 0, none⟩) x.files.length c1) x.files rfl (HF.out.mov mm7 (by omega)) f _ _ _ rfl rfl rfl (by unfold maxLen; omega) (by omega) (by decide) (by omega) ?_
    intro ao2 cap2 w8 hf7 hg7 hnew7
    go_wp2_with fail
    have mf7 := ((MovF.of mm7).below (belA belR)).chg (Chg.of_grown hg7) (fun b hb => by have := hown.out b hb; omega)
    refine HardPost.mk (mvf_of mf7) ?_
    refine wpU_group (fun _ _ _ _ _ h => h) (by kernel_rfl) (mvf_of mf7) [7] _ _ _ rfl (by kernel_rfl) ?_
    repeat (go_big_quiet_step (fail))
    refine wpQuiet_nil ?_
    have HX7 := Lib.hid (HX.out.chg mf7.1 (by have := HN.out; simp; exact ⟨by omega, by simpa using this⟩))
    have HT7 := Lib.hid (HT.out.chg mf7.1 (by simp; exact ⟨by omega, fun hm => by have := hown.out _ (by simpa using hm); omega⟩))
    have hn7 : kb ∉ (Value.slice ao2 (x.files.length + 1) cap2).ownBlock.toList := fun hm => by
      rcases hnew7 kb (by simpa using hm) with e | e
      · exact HN.out (by simp [e])
      · have := HX.out.lt
        omega
    have HM7 := Lib.hid (mf7.low HM.out (fun b hb => by have := hown.out b hb; omega))
    have HN7 := Lib.hid hn7
    have HF7 := Lib.hid hf7
    have HLL : Hid ((x.files ++ [f]).length = x.files.length + 1) := Lib.hid (by simp)
    have HA : Hid (∀ g ∈ x.files ++ [f], g.size ≤ 20) := Lib.hid fun g hg => (List.mem_append.1 hg).elim (HFS.out g) (fun hm => by simp at hm; subst hm; exact hfs5)
    clear hf7 hg7 hnew7 hn7 mf7
    have ⟨c_HX7, z_HX7, f_HX7⟩ := HX7.out
    refine wpU_tail [8] _ _ _ _ rfl (by kernel_rfl) ?_
    go_wp2_with fail
    refine NoPanic.normal ?_
    clear c_HX7 z_HX7 f_HX7
    go_upto_region 9 with fail
    refine settle (fun W => (∃ (nm : ByteArray) (ver : Int) (l : List ByteArray) (a : Option Addr) (c : Nat), nm.size ≤ 20 ∧ l.length ≤ 5 ∧ (∀ f ∈ l, f.size ≤ 20) ∧ WB W kb #[.string nm, .int .i64 ver, .slice a l.length c, .bool x.shared] ∧ Fresh (Rep.slice 9 Rep.str) (w.heap.size + 1) W [.slice a l.length c] l) ∧ WB W w.heap.size #[.string ⟨#[]⟩, .int .i64 0, .slice none 0 0, .bool false] ∧ Mov k w W) ⟨⟨_, _, x.files ++ [f], ao2, cap2, hnx, by rw [HLL.out]; omega, HA.out, by rw [HLL.out]; exact HX7.out.setAt (i := 2) (by simp) rfl, by rw [HLL.out]; exact FlatR.str.setApart HF7.out HN7.out⟩, HT7.out.setOther (by omega), HM7.out.low (B := w.heap.size) (by repeat (first | with_reducible exact belR | (with_reducible refine belAB ?_ ?_; focus (first | omega | (simp; done) | (simp; omega))) | (with_reducible refine belS ?_ ?_; focus (first | omega | (simp; done) | (simp; omega))) | with_reducible apply belN | with_reducible apply belD | with_reducible assumption)) (Nat.le_refl _) hk⟩ ?_
    clear HX7 HT7 HM7 HF7 HLL HN7 hown mm7 hz6 hne m1 hkd hf5
  all_goals
    clear HX HT HM HF HN
    rintro w9 ⟨⟨nm, ver, l, a, c, hnm, hl, hfs, hx, hf⟩, ht, hm⟩
    have HX := Lib.hid hx
    have HT := Lib.hid ht
    have HF := Lib.hid hf
    have HM := Lib.hid hm
    clear hx ht hf hm
    have ⟨c_HX, z_HX, f_HX⟩ := HX.out
    have ⟨c_HT, z_HT, f_HT⟩ := HT.out
    go_wp2
    exact bodyPost_ret (v := .agg #[.string nm, .int .i64 ver, .slice a l.length c, .bool x.shared]) (by simp [results, Try.results34, go_sem, c_HT]) rfl ⟨⟨nm, ver, l, x.shared⟩, a, c, rfl, site_mk (B := w.heap.size + 1) (by repeat (first | with_reducible exact HF.out | with_reducible refine Fresh.setLow ?_ (by omega))) (by omega) hnm, hnm, hl, hfs, HM.out.low (B := w.heap.size) (by repeat (first | with_reducible exact belR | (with_reducible refine belAB ?_ ?_; focus (first | omega | (simp; done) | (simp; omega))) | (with_reducible refine belS ?_ ?_; focus (first | omega | (simp; done) | (simp; omega))) | with_reducible apply belN | with_reducible apply belD | with_reducible assumption)) (Nat.le_refl _) hk⟩

end Go.Proofs.Yteajhmpppciicaa
