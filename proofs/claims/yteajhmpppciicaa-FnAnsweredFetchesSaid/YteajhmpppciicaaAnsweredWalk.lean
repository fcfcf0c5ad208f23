/-
  The walk of the law FnAnsweredFetches.
-/
import Derived.Test.YteajhmpppciicaaDrawAnswer
import Derived.Test.YteajhmpppciicaaServe
namespace Go.Proofs.Yteajhmpppciicaa
open Go.RowKit

set_option maxHeartbeats 1600000 in
theorem equalRespSelf (cs ds : List Value) (x : DResponse) (w : World) (h : Reads DResponse.rep w cs x) (h' : Reads DResponse.rep w ds x) :
    Calls Try.prog 16 #[.agg cs.toArray, .agg ds.toArray] w fun e w' => e = .returned (.bool true) ∧ Below w.heap.size w w' := by
  obtain ⟨fp_q, h⟩ := h
  obtain ⟨q_v1, q_f1, rfl, _, q_r1⟩ := DResponse.rd.1 h
  obtain ⟨q_a1, q_c1, rfl, q_hm1, q_lc1, q_hu1⟩ := slice_open q_r1; clear q_hu1
  have q_K1 : Hid (Reads (Rep.slice 5 Rep.byte) w [.slice q_a1 x.body.length q_c1] x.body) := ⟨_, q_r1⟩
  clear q_r1 h
  obtain ⟨fp_p, h'⟩ := h'
  obtain ⟨p_v1, p_f1, rfl, _, p_r1⟩ := DResponse.rd.1 h'
  obtain ⟨p_a1, p_c1, rfl, p_hm1, p_lc1, p_hu1⟩ := slice_open p_r1; clear p_hu1
  have p_K1 : Hid (Reads (Rep.slice 5 Rep.byte) w [.slice p_a1 x.body.length p_c1] x.body) := ⟨_, p_r1⟩
  clear p_r1 h'
  go_enter Try.func16, Try.ntmps16
  go_wp2_with fail
  refine (implEqualBytes _ _ x.body x.body _ (q_K1.out.below (by repeat (first | with_reducible exact belR | with_reducible apply belA | (with_reducible refine belS ?_ ?_; focus (first | omega | (simp; done) | (simp; omega))) | with_reducible apply belN | with_reducible apply belD | with_reducible assumption))) (p_K1.out.below (by repeat (first | with_reducible exact belR | with_reducible apply belA | (with_reducible refine belS ?_ ?_; focus (first | omega | (simp; done) | (simp; omega))) | with_reducible apply belN | with_reducible apply belD | with_reducible assumption)))).mono ?_
  rintro e w1 ⟨rfl, n, rfl⟩
  rw [decide_eq_true rfl]
  go_wp2
  go_ret
  exact ⟨rfl, by exact (by repeat (first | with_reducible exact belR | with_reducible apply belA | (with_reducible refine belS ?_ ?_; focus (first | omega | (simp; done) | (simp; omega))) | with_reducible apply belN | with_reducible apply belD | with_reducible assumption))⟩

theorem bodies_small {m n : Nat} {s : DCacheSet} (h : SetLe m n s) : ∀ c ∈ s.caches, ∀ e ∈ c.entries, e.response.body.length ≤ 4194304 := fun c hc e he => by
  have := ((h.2 c hc).2 e he).2.2; omega
theorem answer_hit {s : DCacheSet} {x : DSite} {v : Int} {path : ByteArray} {on : Bool} (h : matchB s v x.name path = true) : answerF s x v path on = matchF s v x.name path := by unfold answerF; rw [h]; rfl
theorem answer_off {s : DCacheSet} {x : DSite} {v : Int} {path : ByteArray} (h : matchB s v x.name path = false) : (answerF s x v path false).type_ = 4 := by unfold answerF; rw [h]; rfl
theorem version_act {a v : Int} {on : Bool} (h : ¬ a = 0) : versionForF a v on = a := by unfold versionForF; rw [if_pos (by simp [h])]
theorem version_none {v : Int} : versionForF 0 v false = 0 := rfl
attribute [local irreducible] answerF versionForF

set_option maxRecDepth 100000 in
set_option maxHeartbeats 6400000 in
theorem lawAnswered (v : Value) (l0 : List UInt8) (w : World) (h : Reads Rep.bytes w [v] l0) :
    Calls Try.prog 4 #[v] w fun e w' => e = .returned (.bool true) ∧ Below w.heap.size w w' := by
  have HK : Hid (Reads Rep.bytes w [v] l0) := Lib.hid h
  obtain ⟨fp, h⟩ := h
  obtain ⟨ao, c1, rfl, hm, _, hu⟩ := slice_open h
  clear hu h
  by_cases hbig : 1048576 < l0.length
  · go_enter Try.func4, Try.ntmps4
    go_wp2_with (go_at_call 5; refine (lawBig _ _ _ HK.out).mono ?_; rintro e w' ⟨rfl, rfl⟩)
    go_ret
    exact ⟨rfl, (by repeat (first | with_reducible exact belR | with_reducible apply belA | (with_reducible refine belS ?_ ?_; focus (first | omega | (simp; done) | (simp; omega))) | with_reducible apply belN | with_reducible apply belD | with_reducible assumption))⟩
  have hl0 : l0.length ≤ 1048576 := by omega
  go_enter Try.func4, Try.ntmps4
  go_upto_region 3 with (go_at_call 5; refine (lawBig _ _ _ HK.out).mono ?_; rintro e w' ⟨rfl, rfl⟩)
  go_wp2_with fail
  refine (specDrawAnswer _ l0 _ (HK.out.below (by repeat (first | with_reducible exact belR | with_reducible apply belA | (with_reducible refine belS ?_ ?_; focus (first | omega | (simp; done) | (simp; omega))) | with_reducible apply belN | with_reducible apply belD | with_reducible assumption))) hl0).mono ?_
  rintro e w1 ⟨s, x, ver, path, on, a, c, sa, sc, rfl, hs, hx, hle, hxn, hpn, hb⟩
  have HB : Hid (Below w.heap.size w w1) := Lib.hid hb
  have HS := Lib.hid hs
  have HX := Lib.hid hx
  have HL := Lib.hid hle
  clear hs hx hle hb
  go_upto_region 4 with fail
  refine settle (fun W => WB W w1.heap.size #[.slice a s.caches.length c] ∧ WB W (w1.heap.size + 1) #[.string x.name, .int .i64 x.version, .slice sa x.files.length sc, .bool x.shared] ∧ Below w1.heap.size w1 W) ⟨(WB.at rfl).growA, WB.at (by simp), (by repeat (first | with_reducible exact belR | with_reducible apply belA | (with_reducible refine belS ?_ ?_; focus (first | omega | (simp; done) | (simp; omega))) | with_reducible apply belN | with_reducible apply belD | with_reducible assumption))⟩ ?_
  rintro w2 ⟨hp, hq, hb⟩
  have HP := Lib.hid hp
  have HQ := Lib.hid hq
  replace HS := Lib.hid (HS.out.below hb)
  replace HX := Lib.hid (HX.out.below hb)
  replace HB := Lib.hid (HB.out.trans (hb.mono HB.out.size))
  clear hp hq hb
  have ⟨c_HP, z_HP, f_HP⟩ := HP.out
  have ⟨c_HQ, z_HQ, f_HQ⟩ := HQ.out
  go_wp2_with fail
  refine (implAnswerFetch _ _ s x ver path on _ HS.out HX.out (bodies_small HL.out) (by omega) (by omega)).mono ?_
  rintro e w3 ⟨ds, rfl, hf, hb⟩
  obtain ⟨ra, rc, rfl⟩ := DResponse.fshape hf
  clear c_HP z_HP f_HP c_HQ z_HQ f_HQ
  replace HP := Lib.hid (HP.out.keep hb)
  replace HQ := Lib.hid (HQ.out.keep hb)
  replace HS := Lib.hid (HS.out.below hb)
  replace HX := Lib.hid (HX.out.below hb)
  replace HB := Lib.hid (HB.out.trans (hb.mono HB.out.size))
  have HF := Lib.hid hf.reads
  clear hb hf
  obtain ⟨r, hr⟩ : ∃ r, answerF s x ver path on = r := ⟨_, rfl⟩
  rw [hr] at HF ⊢
  have HRe := Lib.hid hr
  clear hr
  go_upto_region 5 with fail
  refine settle (fun W => WB W w3.heap.size #[.int .i64 r.type_, .int .i64 r.status, .int .i64 r.version, .slice ra r.body.length rc, .bool r.shares] ∧ Below w3.heap.size w3 W) ⟨WB.at rfl, (by repeat (first | with_reducible exact belR | with_reducible apply belA | (with_reducible refine belS ?_ ?_; focus (first | omega | (simp; done) | (simp; omega))) | with_reducible apply belN | with_reducible apply belD | with_reducible assumption))⟩ ?_
  rintro w4 ⟨hr, hb⟩
  have HR := Lib.hid hr
  replace HP := Lib.hid (HP.out.keep hb)
  replace HQ := Lib.hid (HQ.out.keep hb)
  replace HS := Lib.hid (HS.out.below hb)
  replace HX := Lib.hid (HX.out.below hb)
  replace HF := Lib.hid (HF.out.below hb)
  replace HB := Lib.hid (HB.out.trans (hb.mono HB.out.size))
  clear hr hb
  refine wp_region_chf [] [] (by kernel_rfl) ?_
  intro wd hbd
  have hwz := hbd.size
  replace HP := Lib.hid (HP.out.keep hbd)
  replace HQ := Lib.hid (HQ.out.keep hbd)
  replace HR := Lib.hid (HR.out.keep hbd)
  replace HS := Lib.hid (HS.out.below hbd)
  replace HX := Lib.hid (HX.out.below hbd)
  replace HF := Lib.hid (HF.out.below hbd)
  replace HB := Lib.hid (HB.out.trans (hbd.mono HB.out.size))
  clear hbd
  have hne : Nonempty (ChgdF [] wd) := ⟨⟨wd, Chg.refl⟩⟩
  have K_HP := chf_var (fp := []) HP.out (by simp)
  have K_HQ := chf_var (fp := []) HQ.out (by simp)
  have K_HR := chf_var (fp := []) HR.out (by simp)
  refine wpU_group (fun _ _ _ _ _ h => h) (by kernel_rfl) (chf_of Chg.refl) [0,1,2,3,4,5] _ _ _ rfl (by kernel_rfl) ?_
  repeat (go_big_quiet_step (fail))
  refine wpQuiet_nil ?_
  clear K_HP K_HQ K_HR
  refine wpU_one 6 rfl (by kernel_rfl) ?_
  go_wp2_with fail
  refine (specAnswerFetch _ _ s x ver path on _ HS.out HX.out (bodies_small HL.out) (by omega) (by omega)).mono ?_
  rintro e w5 ⟨ds, rfl, hf, hb5⟩
  rw [HRe.out] at hf
  obtain ⟨rb, rd, rfl⟩ := DResponse.fshape hf
  go_wp2_with fail
  refine HardPost.mk (chf_of (Chg.of_below hb5 (Nat.le_refl _))) ?_
  refine wpU_one 7 rfl (by kernel_rfl) ?_
  go_wp2_with fail
  refine (equalRespSelf _ _ r _ (HF.out.below hb5) hf.reads).mono ?_
  rintro e w6 ⟨rfl, hb6⟩
  have hq6 : Below wd.heap.size wd w6 := below_call hb5 hb5.size hb6
  go_wp2_with fail
  refine HardPost.mk (chf_of (Chg.of_below hq6 (Nat.le_refl _))) ?_
  refine wpU_one 8 rfl (by kernel_rfl) ?_
  go_wp2_with fail
  refine HardPost.mk (chf_of (Chg.of_below hq6 (Nat.le_refl _))) ?_
  refine wpU_tail [] _ _ _ _ rfl (by kernel_rfl) ?_
  go_wp2_with fail
  refine NoPanic.normal ?_
  replace HP := Lib.hid (HP.out.keep hq6)
  replace HQ := Lib.hid (HQ.out.keep hq6)
  replace HR := Lib.hid (HR.out.keep hq6)
  replace HS := Lib.hid (HS.out.below hq6)
  replace HX := Lib.hid (HX.out.below hq6)
  replace HF := Lib.hid (HF.out.below hq6)
  replace HB := Lib.hid (HB.out.trans (hq6.mono HB.out.size))
  clear hq6 hb6 hb5 hf hne
  have ⟨c_HP, z_HP, f_HP⟩ := HP.out
  have ⟨c_HQ, z_HQ, f_HQ⟩ := HQ.out
  go_wp2_with fail
  refine (specMatchCache _ s ver x.name path _ HS.out (bodies_small HL.out)).mono ?_
  rintro e w7 ⟨ds, rfl, hf, hb⟩
  obtain ⟨ma, mc, rfl⟩ := DResponse.fshape hf
  clear c_HP z_HP f_HP c_HQ z_HQ f_HQ
  replace HR := Lib.hid (HR.out.keep hb)
  replace HF := Lib.hid (HF.out.below hb)
  replace HB := Lib.hid (HB.out.trans (hb.mono HB.out.size))
  have HM := Lib.hid hf.reads
  clear hb hf HP HQ HS HX
  obtain ⟨y, hy⟩ : ∃ y, matchF s ver x.name path = y := ⟨_, rfl⟩
  rw [hy] at HM ⊢
  have HY := Lib.hid hy
  clear hy
  go_upto_region 8 with fail
  refine settle (fun W => WB W w7.heap.size #[.int .i64 y.type_, .int .i64 y.status, .int .i64 y.version, .slice ma y.body.length mc, .bool y.shares] ∧ Below w7.heap.size w7 W) ⟨WB.at rfl, (by repeat (first | with_reducible exact belR | with_reducible apply belA | (with_reducible refine belS ?_ ?_; focus (first | omega | (simp; done) | (simp; omega))) | with_reducible apply belN | with_reducible apply belD | with_reducible assumption))⟩ ?_
  rintro w8 ⟨hy, hb⟩
  have HZ := Lib.hid hy
  replace HR := Lib.hid (HR.out.keep hb)
  replace HF := Lib.hid (HF.out.below hb)
  replace HM := Lib.hid (HM.out.below hb)
  replace HB := Lib.hid (HB.out.trans (hb.mono HB.out.size))
  clear hy hb
  have ⟨c_HR, z_HR, f_HR⟩ := HR.out
  have ⟨c_HZ, z_HZ, f_HZ⟩ := HZ.out
  cases n0 : matchB s ver x.name path
  case' true =>
    have e : y = r := by rw [← HY.out, ← HRe.out, answer_hit n0]
    subst e
    go_wp2_with fail
    refine (equalRespSelf _ _ y _ (HF.out.below (by repeat (first | with_reducible exact belR | with_reducible apply belA | (with_reducible refine belS ?_ ?_; focus (first | omega | (simp; done) | (simp; omega))) | with_reducible apply belN | with_reducible apply belD | with_reducible assumption))) (HM.out.below (by repeat (first | with_reducible exact belR | with_reducible apply belA | (with_reducible refine belS ?_ ?_; focus (first | omega | (simp; done) | (simp; omega))) | with_reducible apply belN | with_reducible apply belD | with_reducible assumption)))).mono ?_
    rintro e w9 ⟨rfl, hb⟩
    clear c_HR z_HR f_HR c_HZ z_HZ f_HZ
    replace HB := Lib.hid (HB.out.trans (hb.mono HB.out.size))
    go_upto_region 10 with fail
    refine settle (fun W => Below w.heap.size w W) (by have z := HB.out; exact (by repeat (first | with_reducible exact belR | (with_reducible refine belAB ?_ ?_; focus (first | omega | (simp; done) | (simp; omega))) | (with_reducible refine belS ?_ ?_; focus (first | omega | (simp; done) | (simp; omega))) | with_reducible apply belN | with_reducible apply belD | with_reducible assumption))) ?_
    clear hb HF HM HRe HY HB
  case' false =>
    cases on
    case' true =>
      go_upto_region 10 with fail
      refine settle (fun W => Below w.heap.size w W) (by have z := HB.out; exact (by repeat (first | with_reducible exact belR | (with_reducible refine belAB ?_ ?_; focus (first | omega | (simp; done) | (simp; omega))) | (with_reducible refine belS ?_ ?_; focus (first | omega | (simp; done) | (simp; omega))) | with_reducible apply belN | with_reducible apply belD | with_reducible assumption))) ?_
      clear c_HR z_HR f_HR c_HZ z_HZ f_HZ
      clear HF HM HRe HY HB
    case' false =>
      have e4 : r.type_ = 4 := by rw [← HRe.out]; exact answer_off n0
      go_upto_region 10 with fail
      refine settle (fun W => Below w.heap.size w W) (by have z := HB.out; exact (by repeat (first | with_reducible exact belR | (with_reducible refine belAB ?_ ?_; focus (first | omega | (simp; done) | (simp; omega))) | (with_reducible refine belS ?_ ?_; focus (first | omega | (simp; done) | (simp; omega))) | with_reducible apply belN | with_reducible apply belD | with_reducible assumption))) ?_
      clear c_HR z_HR f_HR c_HZ z_HZ f_HZ
      clear HF HM HRe HY HB e4
  all_goals
    intro w9 hb9
    have HB := Lib.hid hb9
    clear hb9 HR HZ n0
    go_wp2_with fail
    refine (specDrawVersionFor _ l0 _ (HK.out.below HB.out) hl0).mono ?_
    rintro e w10 ⟨s2, i2, n2, act, x2, sa2, sc2, on2, rfl, hb⟩
    replace HB := Lib.hid (HB.out.trans (hb.mono HB.out.size))
    clear hb
    go_upto_region 11 with fail
    refine settle (fun W => WB W w10.heap.size #[.string s2, .int .i64 i2, .int .i64 n2, .int .i64 act] ∧ WB W (w10.heap.size + 1) #[.string x2.name, .int .i64 x2.version, .slice sa2 x2.files.length sc2, .bool x2.shared] ∧ Below w10.heap.size w10 W) ⟨(WB.at rfl).growA, WB.at (by simp), (by repeat (first | with_reducible exact belR | with_reducible apply belA | (with_reducible refine belS ?_ ?_; focus (first | omega | (simp; done) | (simp; omega))) | with_reducible apply belN | with_reducible apply belD | with_reducible assumption))⟩ ?_
    rintro w11 ⟨hp, hq, hb⟩
    have HP := Lib.hid hp
    have HQ := Lib.hid hq
    replace HB := Lib.hid (HB.out.trans (hb.mono HB.out.size))
    clear hp hq hb
    have ⟨c_HP, z_HP, f_HP⟩ := HP.out
    have ⟨c_HQ, z_HQ, f_HQ⟩ := HQ.out
    go_wp2_with fail
    refine (implVersionFor s2 i2 n2 act x2.name x2.version _ x2.shared on2 ⟨_, _, _, rfl⟩ _).mono ?_
    rintro e w12 ⟨rfl, hb⟩
    clear c_HP z_HP f_HP c_HQ z_HQ f_HQ
    replace HP := Lib.hid (HP.out.keep hb)
    replace HQ := Lib.hid (HQ.out.keep hb)
    replace HB := Lib.hid (HB.out.trans (hb.mono HB.out.size))
    clear hb
    by_cases ha : act = 0
    · subst ha
      cases on2
      · rw [version_none]
        have ⟨c_HP, z_HP, f_HP⟩ := HP.out
        have ⟨c_HQ, z_HQ, f_HQ⟩ := HQ.out
        go_wp2_with fail
        refine (specVersionFor s2 i2 n2 0 x2.name x2.version _ x2.shared false ⟨_, _, _, rfl⟩ _).mono ?_
        rintro e w13 ⟨rfl, hb⟩
        rw [version_none]
        clear c_HP z_HP f_HP c_HQ z_HQ f_HQ
        replace HP := Lib.hid (HP.out.keep hb)
        replace HQ := Lib.hid (HQ.out.keep hb)
        replace HB := Lib.hid (HB.out.trans (hb.mono HB.out.size))
        have ⟨c_HP, z_HP, f_HP⟩ := HP.out
        have ⟨c_HQ, z_HQ, f_HQ⟩ := HQ.out
        go_wp2
        go_ret
        exact ⟨rfl, HB.out⟩
      · obtain ⟨u, hu⟩ : ∃ u, versionForF 0 x2.version true = u := ⟨_, rfl⟩
        rw [hu]
        have ⟨c_HP, z_HP, f_HP⟩ := HP.out
        have ⟨c_HQ, z_HQ, f_HQ⟩ := HQ.out
        go_wp2_with fail
        refine (specVersionFor s2 i2 n2 0 x2.name x2.version _ x2.shared true ⟨_, _, _, rfl⟩ _).mono ?_
        rintro e w13 ⟨rfl, hb⟩
        rw [hu]
        clear c_HP z_HP f_HP c_HQ z_HQ f_HQ
        replace HP := Lib.hid (HP.out.keep hb)
        replace HQ := Lib.hid (HQ.out.keep hb)
        replace HB := Lib.hid (HB.out.trans (hb.mono HB.out.size))
        have ⟨c_HP, z_HP, f_HP⟩ := HP.out
        have ⟨c_HQ, z_HQ, f_HQ⟩ := HQ.out
        go_wp2
        go_ret
        exact ⟨rfl, HB.out⟩
    · have hv := Lib.hid (version_act (v := x2.version) (on := on2) ha)
      have e1 : (act == 0) = false := by simp [ha]
      have e2 : (act != 0) = true := by simp [ha]
      rw [hv.out]
      have ⟨c_HP, z_HP, f_HP⟩ := HP.out
      have ⟨c_HQ, z_HQ, f_HQ⟩ := HQ.out
      go_wp2_with fail
      refine (specVersionFor s2 i2 n2 act x2.name x2.version _ x2.shared on2 ⟨_, _, _, rfl⟩ _).mono ?_
      rintro e w13 ⟨rfl, hb⟩
      rw [hv.out]
      clear c_HP z_HP f_HP c_HQ z_HQ f_HQ
      replace HP := Lib.hid (HP.out.keep hb)
      replace HQ := Lib.hid (HQ.out.keep hb)
      replace HB := Lib.hid (HB.out.trans (hb.mono HB.out.size))
      have ⟨c_HP, z_HP, f_HP⟩ := HP.out
      have ⟨c_HQ, z_HQ, f_HQ⟩ := HQ.out
      cases on2
      · go_wp2
        go_ret
        exact ⟨rfl, HB.out⟩
      · go_wp2
        go_ret
        exact ⟨rfl, HB.out⟩

end Go.Proofs.Yteajhmpppciicaa
