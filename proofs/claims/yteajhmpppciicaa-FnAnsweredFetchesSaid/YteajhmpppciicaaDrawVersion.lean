/-
  VersionFor, and the draw for it.
-/
import Derived.Test.YteajhmpppciicaaDrawSiteAny
import Derived.Test.YteajhmpppciicaaDrawSites
namespace Go.Proofs.Yteajhmpppciicaa
open Go.RowKit

def versionForF (act ver : Int) (on : Bool) : Int := if act != 0 then act else if on then ver else 0

theorem implVersionFor (s : ByteArray) (i n a : Int) (nm : ByteArray) (ver : Int) (v : Value) (sh on : Bool) (hv : ∃ b l c, v = .slice b l c) (w : World) :
    Calls Try.prog 20 #[.agg #[.string s, .int .i64 i, .int .i64 n, .int .i64 a], .agg #[.string nm, .int .i64 ver, v, .bool sh], .bool on] w fun e w' => e = .returned (.int .i64 (versionForF a ver on)) ∧ Below w.heap.size w w' := by
  obtain ⟨b, l, c, rfl⟩ := hv
  unfold versionForF
  go_enter Try.func20, Try.ntmps20
  go_upto_region 1 with fail
  refine settle (fun W => WB W w.heap.size #[.string s, .int .i64 i, .int .i64 n, .int .i64 a] ∧ WB W (w.heap.size + 1) #[.string nm, .int .i64 ver, .slice b l c, .bool sh] ∧ Below w.heap.size w W) ⟨(WB.at rfl).growA, WB.at (by simp), (by repeat (first | with_reducible exact belR | with_reducible apply belA | (with_reducible refine belS ?_ ?_; focus (first | omega | (simp; done) | (simp; omega))) | with_reducible apply belN | with_reducible apply belD | with_reducible assumption))⟩ ?_
  rintro w1 ⟨hx, hy, hb⟩
  have HX := Lib.hid hx
  have HY := Lib.hid hy
  have HB := Lib.hid hb
  clear hx hy hb
  have ⟨c_HX, z_HX, f_HX⟩ := HX.out
  have ⟨c_HY, z_HY, f_HY⟩ := HY.out
  cases n0 : (a != 0)
  case' false => cases on
  all_goals
    go_wp2
    go_ret
    exact ⟨rfl, HB.out⟩


theorem specVersionFor (s : ByteArray) (i n a : Int) (nm : ByteArray) (ver : Int) (v : Value) (sh on : Bool) (hv : ∃ b l c, v = .slice b l c) (w : World) :
    Calls Try.prog 21 #[.agg #[.string s, .int .i64 i, .int .i64 n, .int .i64 a], .agg #[.string nm, .int .i64 ver, v, .bool sh], .bool on] w fun e w' => e = .returned (.int .i64 (versionForF a ver on)) ∧ Below w.heap.size w w' := by
  obtain ⟨b, l, c, rfl⟩ := hv
  unfold versionForF
  go_enter Try.func21, Try.ntmps21
  go_upto_region 1 with fail
  refine settle (fun W => WB W w.heap.size #[.string s, .int .i64 i, .int .i64 n, .int .i64 a] ∧ WB W (w.heap.size + 1) #[.string nm, .int .i64 ver, .slice b l c, .bool sh] ∧ Below w.heap.size w W) ⟨(WB.at rfl).growA, WB.at (by simp), (by repeat (first | with_reducible exact belR | with_reducible apply belA | (with_reducible refine belS ?_ ?_; focus (first | omega | (simp; done) | (simp; omega))) | with_reducible apply belN | with_reducible apply belD | with_reducible assumption))⟩ ?_
  rintro w1 ⟨hx, hy, hb⟩
  have HX := Lib.hid hx
  have HY := Lib.hid hy
  have HB := Lib.hid hb
  clear hx hy hb
  have ⟨c_HX, z_HX, f_HX⟩ := HX.out
  have ⟨c_HY, z_HY, f_HY⟩ := HY.out
  cases n0 : (a != 0)
  case' false => cases on
  all_goals
    go_wp2
    go_ret
    exact ⟨rfl, HB.out⟩


theorem set4 {w : World} {k : Nat} {a0 a1 a2 a3 b0 b1 b2 b3 : Value} (h : WB w k #[a0, a1, a2, a3]) : WB ((((w.setCell ⟨k, 0, none⟩ b0).setCell ⟨k, 1, none⟩ b1).setCell ⟨k, 2, none⟩ b2).setCell ⟨k, 3, none⟩ b3) k #[b0, b1, b2, b3] :=
  ((((h.setAt (i := 0) (cs' := #[b0, a1, a2, a3]) (by simp) rfl).setAt (i := 1) (cs' := #[b0, b1, a2, a3]) (by simp) rfl).setAt (i := 2) (cs' := #[b0, b1, b2, a3]) (by simp) rfl).setAt (i := 3) (cs' := #[b0, b1, b2, b3]) (by simp) rfl)
theorem off4 {w : World} {k g : Nat} {cs : Array Value} {b0 b1 b2 b3 : Value} (h : WB w k cs) (hk : k ≠ g) : WB ((((w.setCell ⟨g, 0, none⟩ b0).setCell ⟨g, 1, none⟩ b1).setCell ⟨g, 2, none⟩ b2).setCell ⟨g, 3, none⟩ b3) k cs :=
  ((((h.setOther hk).setOther hk).setOther hk).setOther hk)
theorem MovF.set4 {k : Kur} {fp : List Nat} {w w1 : World} {b : Nat} {u0 u1 u2 u3 : Value} (h : MovF k fp w w1) (hb : b ∈ fp) (h1 : k.b ≤ b) (h2 : k.k ≠ b) : MovF k fp w ((((w1.setCell ⟨b, 0, none⟩ u0).setCell ⟨b, 1, none⟩ u1).setCell ⟨b, 2, none⟩ u2).setCell ⟨b, 3, none⟩ u3) :=
  ((((h.set hb h1 h2).set hb h1 h2).set hb h1 h2).set hb h1 h2)

set_option maxRecDepth 100000 in
set_option maxHeartbeats 6400000 in
theorem specDrawVersionFor (v : Value) (l : List UInt8) (w : World) (h : Reads Rep.bytes w [v] l) (hl : l.length ≤ 1048576) : Calls Try.prog 19 #[v] w fun e w' => ∃ (s : ByteArray) (i n a : Int) (x : DSite) (sa : Option Addr) (sc : Nat) (on : Bool), e = .returned (.tuple #[.agg #[.string s, .int .i64 i, .int .i64 n, .int .i64 a], .agg #[.string x.name, .int .i64 x.version, .slice sa x.files.length sc, .bool x.shared], .bool on]) ∧ Below w.heap.size w w' := by
  have HK := Lib.hid h
  clear h
  go_enter Try.func19, Try.ntmps19
  go_wp2_with fail
  refine (specNew v l _ w.heap.size (HK.out.lo (by repeat (first | with_reducible exact belR | with_reducible apply belA | (with_reducible refine belS ?_ ?_; focus (first | omega | (simp; done) | (simp; omega))) | with_reducible apply belN | with_reducible apply belD | with_reducible assumption))) (by simp; omega) hl).mono ?_
  rintro e w1 ⟨k, rfl, hk, hkb, hc, hb⟩
  simp at hk
  have HT : Hid (WB w1 w.heap.size #[.string ⟨#[]⟩, .int .i64 0, .int .i64 0, .int .i64 0]) := Lib.hid (((WB.at rfl).growA).keep hb)
  have HU : Hid (WB w1 (w.heap.size + 1) #[.string ⟨#[]⟩, .int .i64 0, .slice none 0 0, .bool false]) := Lib.hid ((WB.at (by simp)).keep hb)
  have HB : Hid (Below w.heap.size w w1) := Lib.hid (below_call (by repeat (first | with_reducible exact belR | with_reducible apply belA | (with_reducible refine belS ?_ ?_; focus (first | omega | (simp; done) | (simp; omega))) | with_reducible apply belN | with_reducible apply belD | with_reducible assumption)) (by first | omega | (simp; done) | (simp; omega)) hb)
  clear hb
  go_wp2_with fail
  refine (specReg k _ hc).mono ?_
  rintro e w2 ⟨s, i, n, a, rfl, _, hm⟩
  have hc1 := hc.lt
  replace HT := Lib.hid (HT.out.mov hm (by omega))
  replace HU := Lib.hid (HU.out.mov hm (by omega))
  have HM : Hid (Mov k w1 w2) := Lib.hid hm
  have hz2 := hm.size
  clear hm
  go_upto_region 3 with fail
  refine settle (fun W => ∃ kb, kb = w2.heap.size ∧ WB W kb #[.string s, .int .i64 i, .int .i64 n, .int .i64 a] ∧ WB W w.heap.size #[.string ⟨#[]⟩, .int .i64 0, .int .i64 0, .int .i64 0] ∧ WB W (w.heap.size + 1) #[.string ⟨#[]⟩, .int .i64 0, .slice none 0 0, .bool false] ∧ Mov k w1 W) ⟨_, rfl, WB.at rfl, HT.out.growA, HU.out.growA, HM.out.below (by repeat (first | with_reducible exact belR | with_reducible apply belA | (with_reducible refine belS ?_ ?_; focus (first | omega | (simp; done) | (simp; omega))) | with_reducible apply belN | with_reducible apply belD | with_reducible assumption))⟩ ?_
  clear HT HU HM
  rintro w3 ⟨kb, hkb, hx, ht, hu, hm⟩
  have hkk : w.heap.size + 1 < kb ∧ k.k < kb ∧ w.heap.size + 2 ≤ k.k ∧ w.heap.size + 2 ≤ w1.heap.size := by have := HB.out.size; omega
  rw [← hkb]
  have HX := Lib.hid hx
  have HT := Lib.hid ht
  have HU := Lib.hid hu
  have HM := Lib.hid hm
  clear hx ht hu hm hkb hz2
  go_wp2_with fail
  refine (specAnySite k _ HM.out.cur).mono ?_
  rintro e w4 ⟨x, sa, sc, rfl, _, _, _, _, hm⟩
  have hz3 := HX.out.lt
  have hz4 := hm.size
  replace HX := Lib.hid (HX.out.mov hm (by omega))
  replace HT := Lib.hid (HT.out.mov hm (by omega))
  replace HU := Lib.hid (HU.out.mov hm (by omega))
  replace HM := Lib.hid (HM.out.trans hm)
  clear hm
  go_upto_region 4 with fail
  refine settle (fun W => ∃ kc, kc = w4.heap.size ∧ WB W kc #[.string x.name, .int .i64 x.version, .slice sa x.files.length sc, .bool x.shared] ∧ WB W kb #[.string s, .int .i64 i, .int .i64 n, .int .i64 a] ∧ WB W w.heap.size #[.string ⟨#[]⟩, .int .i64 0, .int .i64 0, .int .i64 0] ∧ WB W (w.heap.size + 1) #[.string ⟨#[]⟩, .int .i64 0, .slice none 0 0, .bool false] ∧ Mov k w1 W) ⟨_, rfl, WB.at rfl, HX.out.growA, HT.out.growA, HU.out.growA, HM.out.below (by repeat (first | with_reducible exact belR | with_reducible apply belA | (with_reducible refine belS ?_ ?_; focus (first | omega | (simp; done) | (simp; omega))) | with_reducible apply belN | with_reducible apply belD | with_reducible assumption))⟩ ?_
  clear HT HU HM HX
  rintro w5 ⟨kc, hkc, hy2, hx, ht, hu, hm⟩
  have hkl : kb < kc := by omega
  rw [← hkc]
  have HY := Lib.hid hy2
  have HX := Lib.hid hx
  have HT := Lib.hid ht
  have HU := Lib.hid hu
  have HM := Lib.hid hm
  clear hy2 hx ht hu hm hkc hz3 hz4
  go_upto_region 4 with fail
  refine wp_region_mvf k ([w.heap.size, w.heap.size + 1]) [] (by kernel_rfl) ?_
  intro wd hbd
  have hwz := hbd.size
  replace HX := Lib.hid (HX.out.keep hbd)
  replace HY := Lib.hid (HY.out.keep hbd)
  replace HT := Lib.hid (HT.out.keep hbd)
  replace HU := Lib.hid (HU.out.keep hbd)
  replace HM := Lib.hid (HM.out.below hbd)
  clear hbd
  have hne : Nonempty (MovedF k ([w.heap.size, w.heap.size + 1]) wd) := ⟨⟨wd, MovF.of (Mov.refl HM.out.cur)⟩⟩
  have K_HX := mvf_var (k := k) (fp := ([w.heap.size, w.heap.size + 1])) HX.out (by omega) (by first | (simp; omega) | assumption)
  have K_HY := mvf_var (k := k) (fp := ([w.heap.size, w.heap.size + 1])) HY.out (by omega) (by first | (simp; omega) | assumption)
  refine wpU_group (fun _ _ _ _ _ h => h) (by kernel_rfl) (mvf_of (MovF.of (Mov.refl HM.out.cur))) [0,1,2] _ _ _ rfl (by kernel_rfl) ?_
  repeat (go_big_quiet_step (fail))
  refine wpQuiet_nil ?_
  clear K_HX K_HY
  refine wpU_one 3 rfl (by kernel_rfl) ?_
  go_wp2_with fail
  refine (specOnce k _ _ HM.out.cur).mono ?_
  rintro e w6 ⟨on, rfl, hm⟩
  have hq0 : MovF k [w.heap.size, w.heap.size + 1] wd w6 := MovF.of hm
  go_wp2_with fail
  refine HardPost.mk (mvf_of hq0) ?_
  have hzb := HX.out.lt
  have hzc := HY.out.lt
  replace HX := Lib.hid (HX.out.mov hm (by omega))
  replace HY := Lib.hid (HY.out.mov hm (by omega))
  replace HT := Lib.hid (HT.out.mov hm (by omega))
  replace HU := Lib.hid (HU.out.mov hm (by omega))
  replace HM := Lib.hid (HM.out.trans hm)
  clear hm
  have ⟨c_HT, z_HT, f_HT⟩ := HT.out
  have ⟨c_HU, z_HU, f_HU⟩ := HU.out
  refine wpU_one 4 rfl (by kernel_rfl) ?_
  go_wp2_with fail
  have hq1 := hq0.set4 (b := w.heap.size) (u0 := .string s) (u1 := .int .i64 i) (u2 := .int .i64 n) (u3 := .int .i64 a) (by simp) (by omega) (by omega)
  refine HardPost.mk (mvf_of hq1) ?_
  have HT1 := Lib.hid (set4 HT.out (b0 := .string s) (b1 := .int .i64 i) (b2 := .int .i64 n) (b3 := .int .i64 a))
  have HU1 := Lib.hid (off4 HU.out (g := w.heap.size) (b0 := .string s) (b1 := .int .i64 i) (b2 := .int .i64 n) (b3 := .int .i64 a) (by omega))
  clear c_HT z_HT f_HT c_HU z_HU f_HU
  have ⟨c_HU1, z_HU1, f_HU1⟩ := HU1.out
  refine wpU_one 5 rfl (by kernel_rfl) ?_
  go_wp2_with fail
  have hq2 := hq1.set4 (b := w.heap.size + 1) (u0 := .string x.name) (u1 := .int .i64 x.version) (u2 := .slice sa x.files.length sc) (u3 := .bool x.shared) (by simp) (by omega) (by omega)
  refine HardPost.mk (mvf_of hq2) ?_
  have HT2 := Lib.hid (off4 HT1.out (g := w.heap.size + 1) (b0 := .string x.name) (b1 := .int .i64 x.version) (b2 := .slice sa x.files.length sc) (b3 := .bool x.shared) (by omega))
  have HU2 := Lib.hid (set4 HU1.out (b0 := .string x.name) (b1 := .int .i64 x.version) (b2 := .slice sa x.files.length sc) (b3 := .bool x.shared))
  clear c_HU1 z_HU1 f_HU1
  refine wpU_group (fun _ _ _ _ _ h => h) (by kernel_rfl) (mvf_of (hq2)) [6] _ _ _ rfl (by kernel_rfl) ?_
  repeat (go_big_quiet_step (fail))
  refine wpQuiet_nil ?_
  refine wpU_tail [] _ _ _ _ rfl (by kernel_rfl) ?_
  go_wp2_with fail
  refine NoPanic.normal ?_
  have ⟨c_HT2, z_HT2, f_HT2⟩ := HT2.out
  have ⟨c_HU2, z_HU2, f_HU2⟩ := HU2.out
  go_wp2
  refine bodyPost_ret (v := .tuple #[.agg #[.string s, .int .i64 i, .int .i64 n, .int .i64 a], .agg #[.string x.name, .int .i64 x.version, .slice sa x.files.length sc, .bool x.shared], .bool on]) (by simp [results, Try.results19, go_sem, c_HT2, c_HU2]) rfl ⟨_, _, _, _, x, sa, sc, on, rfl, ?_⟩
  have y2 := HB.out.trans (HM.out.toBelow (B := w.heap.size) (by omega) (by omega))
  exact (by repeat (first | with_reducible exact belR | (with_reducible refine belAB ?_ ?_; focus (first | omega | (simp; done) | (simp; omega))) | (with_reducible refine belS ?_ ?_; focus (first | omega | (simp; done) | (simp; omega))) | with_reducible apply belN | with_reducible apply belD | with_reducible assumption))

end Go.Proofs.Yteajhmpppciicaa
