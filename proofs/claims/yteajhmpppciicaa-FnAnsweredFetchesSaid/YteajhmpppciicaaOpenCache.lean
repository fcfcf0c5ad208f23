/-
  spec.OpenCache.
-/
import Derived.Test.YteajhmpppciicaaCopyCaches
import Derived.Test.YteajhmpppciicaaCacheIs
namespace Go.Proofs.Yteajhmpppciicaa
open Go.RowKit

theorem cache_none (A C : Nat) (w : World) (v : Int) : Part DCache.rep A C w [.int .i64 v, .slice none 0 0] ⟨v, []⟩ := by
  obtain ⟨fp, h1, h2, h3⟩ := DCache.fmk (c := ⟨v, []⟩) (Fresh.nil (R := DCached.rep) (E := 88) (B := w.heap.size) (w := w))
  exact ⟨fp, h1, h2, fun b hb => by have := h3 b hb; have := Rep.lt _ h1 b hb; omega⟩
theorem set_ins {m n a : Nat} {x : DCacheSet} {v : Int} (h : SetLe m n x) : (∀ c ∈ insAt x.caches a ⟨v, []⟩, CacheLe n c) := by
  intro c hc
  rcases insAt_mem hc with h1 | rfl
  · exact h.2 c h1
  · exact ⟨Nat.zero_le _, fun e he => by simp at he⟩

attribute [local irreducible] isCachesF

set_option maxRecDepth 100000 in
set_option maxHeartbeats 6400000 in
theorem specOpenCache (cs : List Value) (x : DCacheSet) (v : Int) (w : World) (h : Reads DCacheSet.rep w cs x) (m n : Nat) (hs : SetLe m n x) (hm : m ≤ 900) (hn : n ≤ 1000) :
    Calls Try.prog 64 #[.agg cs.toArray, .int .i64 v] w fun e w' => ∃ (y : DCacheSet) (b : Bool) (a : Option Addr) (c : Nat), e = .returned (.tuple #[.agg #[.slice a y.caches.length c], .bool b]) ∧ Fresh (Rep.slice 85 DCache.rep) w.heap.size w' [.slice a y.caches.length c] y.caches ∧ SetLe (m + 1) n y ∧ Below w.heap.size w w' := by
  have HR := Lib.hid h
  have HLe := Lib.hid hs
  have hsl := hs.1
  clear hs
  obtain ⟨fp_q, h⟩ := h
  obtain ⟨q_v1, q_f1, rfl, _, q_r1⟩ := DCacheSet.rd.1 h
  obtain ⟨q_a1, q_c1, rfl, q_hm1, q_lc1, q_hu1⟩ := slice_open q_r1; clear q_hu1
  have q_K1 : Hid (Reads (Rep.slice 85 DCache.rep) w [.slice q_a1 x.caches.length q_c1] x.caches) := ⟨_, q_r1⟩
  clear q_r1 h
  obtain ⟨i0, hi, hz0, hz1, hz2⟩ := info_parts infoCache
  go_enter Try.func64, Try.ntmps64
  go_wp2_with fail
  refine (specCopyCaches _ x _ (HR.out.below (by repeat (first | with_reducible exact belR | with_reducible apply belA | (with_reducible refine belS ?_ ?_; focus (first | omega | (simp; done) | (simp; omega))) | with_reducible apply belN | with_reducible apply belD | with_reducible assumption))) m n HLe.out (by omega) hn).mono ?_
  rintro e w1 ⟨ao, cap, rfl, hf, hb⟩
  have HX : Hid (WB w1 w.heap.size #[.slice q_a1 x.caches.length q_c1]) := Lib.hid ((WB.at rfl).growA.keep hb)
  have HT : Hid (WB w1 (w.heap.size + 1) #[.slice none 0 0]) := Lib.hid ((WB.at (by simp)).keep hb)
  have HF : Hid (Fresh (Rep.slice 85 DCache.rep) (w.heap.size + 2) w1 [.slice ao x.caches.length cap] x.caches) := Lib.hid (hf.mono (by simp))
  have HB : Hid (Below w.heap.size w w1) := Lib.hid (below_call (by repeat (first | with_reducible exact belR | with_reducible apply belA | (with_reducible refine belS ?_ ?_; focus (first | omega | (simp; done) | (simp; omega))) | with_reducible apply belN | with_reducible apply belD | with_reducible assumption)) (by first | omega | (simp; done) | (simp; omega)) hb)
  have hz1' : w.heap.size + 2 ≤ w1.heap.size := by have y := hb.size; simp at y; omega
  have HP := Lib.hid (HF.out.partAt (Nat.le_refl _))
  clear hf hb
  go_upto_region 2 with fail
  refine settle (fun W => WB W w1.heap.size #[.slice ao x.caches.length cap] ∧ Below w1.heap.size w1 W) ⟨WB.at rfl, (by repeat (first | with_reducible exact belR | with_reducible apply belA | (with_reducible refine belS ?_ ?_; focus (first | omega | (simp; done) | (simp; omega))) | with_reducible apply belN | with_reducible apply belD | with_reducible assumption))⟩ ?_
  rintro w2 ⟨ho, hb⟩
  have HO := Lib.hid ho
  have hz2' : w1.heap.size + 1 ≤ w2.heap.size := HO.out.lt
  replace HX := Lib.hid (HX.out.keep hb)
  replace HT := Lib.hid (HT.out.keep hb)
  replace HF := Lib.hid (HF.out.below hb)
  replace HP := Lib.hid (HP.out.below hb)
  replace HB := Lib.hid (HB.out.trans (hb.mono HB.out.size))
  clear ho hb
  have ⟨c_HX, z_HX, f_HX⟩ := HX.out
  have ⟨c_HO, z_HO, f_HO⟩ := HO.out
  go_wp2
  go_loopw [7] (fun i wr => ∃ a : Nat, a ≤ x.caches.length ∧ i = .int .i64 a ∧ Below w2.heap.size w2 wr) (fun i _ => x.caches.length - (intOf i).toNat)
  case atStart => exact ⟨0, by omega, rfl, belR⟩
  case round =>
    obtain ⟨a, ha, rfl, hb⟩ := hrel
    clear c_HX z_HX f_HX c_HO z_HO f_HO
    have hsr := hb.size
    have HQ := Lib.hid hb
    replace HX := Lib.hid (HX.out.keep hb)
    replace HT := Lib.hid (HT.out.keep hb)
    replace HO := Lib.hid (HO.out.keep hb)
    replace HF := Lib.hid (HF.out.below hb)
    replace HP := Lib.hid (HP.out.below hb)
    replace HB := Lib.hid (HB.out.trans (hb.mono HB.out.size))
    clear hb
    have ⟨c_HX, z_HX, f_HX⟩ := HX.out
    have ⟨c_HO, z_HO, f_HO⟩ := HO.out
    have j1 : (0 : Int) ≤ (a : Int) := by omega
    have hstop : (∀ h : a < x.caches.length, ¬ x.caches[a].version < v) ∨ ∃ h : a < x.caches.length, x.caches[a].version < v := by
      by_cases h1 : a < x.caches.length
      · by_cases h2 : x.caches[a].version < v
        · exact .inr ⟨h1, h2⟩
        · exact .inl fun _ => h2
      · exact .inl fun h => absurd h h1
    rcases hstop with HN | ⟨hlt', hle⟩
    · go_upto_region 3 with fail
      go_cut [25] from 11 to 27 (fun u wx => u = .bool false ∧ wx = wr)
      case first =>
        by_cases hkl : a < x.caches.length
        · obtain ⟨b, off, cs_b, rfl, hw_b, hr_b, hcell_b⟩ := slice_at (q_K1.out.below HB.out) a hkl
          obtain ⟨fe_b, hrd_b⟩ := hr_b
          have HR_b : Hid (Reads DCache.rep wr cs_b x.caches[a]) := ⟨_, hrd_b⟩
          obtain ⟨b_v1, b_f1, rfl, _, b_r1⟩ := DCache.rd.1 hrd_b
          obtain ⟨b_a1, b_k1, rfl, _⟩ := slice_open b_r1
          have b_R1 : Hid (Reads (Rep.slice 88 DCached.rep) wr [.slice b_a1 x.caches[a].entries.length b_k1] x.caches[a].entries) := ⟨_, b_r1⟩
          clear b_r1
          clear hrd_b
          have b_c0 : wr.cell? ⟨b, off + a * 2, none⟩ = some (.int .i64 x.caches[a].version) := hcell_b 0 (by decide)
          have b_c1 : wr.cell? ⟨b, off + a * 2 + 1, none⟩ = some (.slice b_a1 x.caches[a].entries.length b_k1) := hcell_b 1 (by decide)
          clear hcell_b
          clear HR_b b_R1
          have i2 : (a : Int) < (x.caches.length : Int) := by omega
          have n5 := HN hkl
          go_wp2
          go_meet
          exact ⟨rfl, rfl⟩
        · go_wp2
          go_meet
          exact ⟨rfl, rfl⟩
      case rest =>
        obtain ⟨rfl, hwc⟩ := hcut
        subst hwc
        clear HN
        obtain ⟨raws, hrl, hrf, hclose⟩ := Part.raws HP.out
        have HRF := Lib.hid hrf
        have HCL := Lib.hid hclose
        have HPre := Lib.hid (hrf.reads.pre a ha)
        have HTl := Lib.hid (Reads.tail hrf.reads a ha)
        have hsl2 := fun W => run_tail (P := Try.prog) (t := 42) (n := 2) (by kernel_rfl) (fun _ => by kernel_rfl) ao a x.caches.length cap ha W
        have hle : x.caches.length ≤ cap := slice_cap HF.out.reads
        have j2 : (a : Int) ≤ (x.caches.length : Int) := by omega
        have j3 : (a : Int) ≤ (cap : Int) := by omega
        have j4 : a ≤ cap := by omega
        have ht1 : (raws.take a).length = a := by rw [List.length_take]; omega
        have hno : Hid (∀ b, b < w.heap.size + 2 ∨ w1.heap.size ≤ b → b ∉ (Value.slice ao x.caches.length cap).ownBlock.toList) := Lib.hid fun b hb hm => by
          have := HF.out.ownlt b hm
          obtain ⟨fp, h1, _, h3⟩ := HP.out
          have := h3 b (own_in h1 b hm); omega
        clear hrf hclose
        go_wp2_with (at_builtin; refine (FlatR.raw DCache.rep.n).grow3 _ rfl _ _ 42 42 rfl wc.heap.size 85 i0 _ _ Try.underlying42 Try.underlying42 hi hz0 hz1 hz2 rfl _ [] rfl (Fresh.lit0 rfl) _ (raws.take a) rfl (HPre.out.below (by repeat (first | with_reducible exact belR | with_reducible apply belA | (with_reducible refine belS ?_ ?_; focus (first | omega | (simp; done) | (simp; omega))) | with_reducible apply belN | with_reducible apply belD | with_reducible assumption))) a ?c1 ?c2 ?c3 ?c4 ?_)
        case c1 => rw [ht1]; simp
        case c2 => omega
        case c3 => decide
        case c4 => simp
        intro ao1 cap1 wy hf1 hc1 hb1 hv1
        have HF1 : Hid (Fresh (Rep.slice 85 (Rep.raw DCache.rep.n)) wc.heap.size wy [.slice ao1 a cap1] (raws.take a)) := Lib.hid (by simpa using hf1)
        have hqy : Below wc.heap.size wc wy := Below.trans (by repeat (first | with_reducible exact belR | (with_reducible refine belAB ?_ ?_; focus (first | omega | (simp; done) | (simp; omega))) | (with_reducible refine belS ?_ ?_; focus (first | omega | (simp; done) | (simp; omega))) | with_reducible apply belN | with_reducible apply belD | with_reducible assumption)) hb1
        clear hf1 hc1 hb1 hv1
        clear c_HX z_HX f_HX c_HO z_HO f_HO
        replace HX := Lib.hid (HX.out.keep hqy)
        replace HT := Lib.hid (HT.out.keep hqy)
        replace HO := Lib.hid (HO.out.keep hqy)
        replace HB := Lib.hid (HB.out.trans (hqy.mono HB.out.size))
        have HQY := Lib.hid hqy
        have hzy := hqy.size
        clear hqy
        have ⟨c_HX, z_HX, f_HX⟩ := HX.out
        have ⟨c_HO, z_HO, f_HO⟩ := HO.out
        obtain ⟨rk, hrk⟩ := mk_raw (cache_none 0 0 wy v |>.fresh (Nat.le_refl _))
        go_wp2_with (at_builtin; refine (FlatR.raw DCache.rep.n).grow3 _ rfl _ _ 42 42 rfl wc.heap.size 85 i0 _ _ Try.underlying42 Try.underlying42 hi hz0 hz1 hz2 rfl (.slice ao1 a cap1) (raws.take a) rfl (HF1.out.below (by repeat (first | with_reducible exact belR | with_reducible apply belA | (with_reducible refine belS ?_ ?_; focus (first | omega | (simp; done) | (simp; omega))) | with_reducible apply belN | with_reducible apply belD | with_reducible assumption))) _ [rk] rfl ((FlatR.raw DCache.rep.n).one_reads rfl hrk.symm trivial) (a + 1) ?c1 ?c2 ?c3 ?c4 ?_)
        case c1 => rw [ht1]; rfl
        case c2 => omega
        case c3 => decide
        case c4 => simp; omega
        intro ao2 cap2 wz hf6 hc6 hb6 hv6
        have HF6 := Lib.hid hf6
        have hqz : Below wc.heap.size wy wz := Below.trans (by repeat (first | with_reducible exact belR | (with_reducible refine belAB ?_ ?_; focus (first | omega | (simp; done) | (simp; omega))) | (with_reducible refine belS ?_ ?_; focus (first | omega | (simp; done) | (simp; omega))) | with_reducible apply belN | with_reducible apply belD | with_reducible assumption)) hb6
        have hsz := hqz.size
        clear c_HX z_HX f_HX c_HO z_HO f_HO
        have HX7 := Lib.hid (HX.out.grow hqz (by omega))
        have HT7 := Lib.hid (HT.out.grow hqz (by omega))
        have HO7 := Lib.hid (HO.out.grow hqz (by omega))
        have HB7 := Lib.hid (HB.out.trans (hqz.mono (by omega)))
        have HQ7 := Lib.hid (HQY.out.trans hqz)
        have HTl7 := Lib.hid (HTl.out.below HQ7.out)
        clear hf6 hc6 hb6 hv6 hqz HX HT HO HB HTl
        have ⟨c_HX7, z_HX7, f_HX7⟩ := HX7.out
        have ⟨c_HO7, z_HO7, f_HO7⟩ := HO7.out
        go_wp2_with (at_builtin; refine (FlatR.raw DCache.rep.n).grow3 _ rfl _ _ 42 42 rfl wc.heap.size 85 i0 _ _ Try.underlying42 Try.underlying42 hi hz0 hz1 hz2 rfl _ (raws.take a ++ [rk]) rfl HF6.out _ (raws.drop a) rfl HTl7.out (x.caches.length + 1) ?c1 ?c2 ?c3 ?c4 ?_)
        case c1 => rw [List.length_append, ht1, List.length_drop]; simp; omega
        case c2 => omega
        case c3 => decide
        case c4 => omega
        intro ao3 cap3 wt hf8 hc8 hb8 hv8
        have hown8 := hf8.ownlt
        have hgap := HCL.out wt (.slice ao3 (x.caches.length + 1) cap3) [.int .i64 v, .slice none 0 0] ⟨v, []⟩ a (w1.heap.size + 1) (w1.heap.size + 1) (w1.heap.size + 1) rk ((HQ7.out.mono (by omega)).trans (hb8.mono (by omega))) ha hrk (cache_none _ _ _ _) (by omega) (by omega) (by omega) (by
          have y := hf8.mono (B' := w1.heap.size + 1) (by omega)
          first
            | exact y
            | (have e : raws.take a ++ [rk] ++ raws.drop a = insAt raws a rk := by simp [insAt]
               rw [e] at y
               exact y)) (fun b hb => by
            have := hown8 b (by first | exact hb | simpa using hb)
            right; omega)
        have HGap := Lib.hid hgap
        have hb9 : Below (w1.heap.size + 1) wz wt := hb8.mono (by omega)
        have hs9 := hb9.size
        clear c_HX7 z_HX7 f_HX7 c_HO7 z_HO7 f_HO7
        have HX := Lib.hid (HX7.out.grow hb9 (by omega))
        have HT := Lib.hid (HT7.out.grow hb9 (by omega))
        have HO := Lib.hid (HO7.out.grow hb9 (by omega))
        have HB := Lib.hid (HB7.out.trans (hb9.mono (by omega)))
        clear hf8 hc8 hb8 hv8 hgap hb9 hown8 HX7 HT7 HO7 HB7 HQ7 HQY HTl7 HF6 HF1 HPre HRF HCL
        have hil : (insAt x.caches a (⟨v, []⟩ : DCache)).length = x.caches.length + 1 := insAt_length ha _
        have ⟨c_HO, z_HO, f_HO⟩ := HO.out
        go_upto_region 8 with fail
        refine settle (fun W => ∃ y : DCacheSet, y.caches = insAt x.caches a ⟨v, []⟩ ∧ WB W w.heap.size #[.slice q_a1 x.caches.length q_c1] ∧ WB W (w.heap.size + 1) #[.slice none 0 0] ∧ WB W w1.heap.size #[.slice ao3 y.caches.length cap3] ∧ Fresh (Rep.slice 85 DCache.rep) (w.heap.size + 2) W [.slice ao3 y.caches.length cap3] y.caches ∧ Below w.heap.size w W) ⟨⟨insAt x.caches a ⟨v, []⟩⟩, rfl, HX.out.setOther (by omega), HT.out.setOther (by omega), by show WB _ _ #[.slice ao3 (insAt x.caches a (⟨v, []⟩ : DCache)).length cap3]; rw [hil]; exact HO.out.setAt (by simp) rfl, by show Fresh _ _ _ [.slice ao3 (insAt x.caches a (⟨v, []⟩ : DCache)).length cap3] _; rw [hil]; exact (HGap.out.set (by omega)).fresh, by have y := HB.out; exact (by repeat (first | with_reducible exact belR | (with_reducible refine belAB ?_ ?_; focus (first | omega | (simp; done) | (simp; omega))) | (with_reducible refine belS ?_ ?_; focus (first | omega | (simp; done) | (simp; omega))) | with_reducible apply belN | with_reducible apply belD | with_reducible assumption))⟩ ?_
        clear c_HO z_HO f_HO
        clear HX HT HO HB HGap HF HP hno hil
        rintro w8 ⟨y, hy, hx, ht, ho, hf, hb⟩
        have HY : Hid (SetLe (m + 1) n y) := Lib.hid ⟨by rw [hy, insAt_length ha]; omega, by rw [hy]; exact set_ins HLe.out⟩
        clear hy
        have HX := Lib.hid hx
        have HT := Lib.hid ht
        have HO := Lib.hid ho
        have HF := Lib.hid hf
        have HB := Lib.hid hb
        clear hx ht ho hf hb
        cases b0 : isCachesF x
        case' true => cases b1 : isCachesF y
        case' false =>
          have ⟨c_HX, z_HX, f_HX⟩ := HX.out
          go_wp2_with fail
          refine (specIsCacheSet _ x _ (HR.out.below (by have z := HB.out; exact (by repeat (first | with_reducible exact belR | with_reducible apply belA | (with_reducible refine belS ?_ ?_; focus (first | omega | (simp; done) | (simp; omega))) | with_reducible apply belN | with_reducible apply belD | with_reducible assumption))))).mono ?_
          rintro e w9 ⟨rfl, hb⟩
          rw [b0]
          clear c_HX z_HX f_HX
          replace HX := Lib.hid (HX.out.keep hb)
          replace HT := Lib.hid (HT.out.keep hb)
          replace HB := Lib.hid (HB.out.trans (hb.mono HB.out.size))
          clear hb
        case' true.false =>
          have ⟨c_HX, z_HX, f_HX⟩ := HX.out
          go_wp2_with fail
          refine (specIsCacheSet _ x _ (HR.out.below (by have z := HB.out; exact (by repeat (first | with_reducible exact belR | with_reducible apply belA | (with_reducible refine belS ?_ ?_; focus (first | omega | (simp; done) | (simp; omega))) | with_reducible apply belN | with_reducible apply belD | with_reducible assumption))))).mono ?_
          rintro e w8b ⟨rfl, hb⟩
          rw [b0]
          clear c_HX z_HX f_HX
          replace HX := Lib.hid (HX.out.keep hb)
          replace HT := Lib.hid (HT.out.keep hb)
          replace HO := Lib.hid (HO.out.keep hb)
          replace HF := Lib.hid (HF.out.below hb)
          replace HB := Lib.hid (HB.out.trans (hb.mono HB.out.size))
          clear hb
          have ⟨c_HO, z_HO, f_HO⟩ := HO.out
          go_wp2_with fail
          refine (specIsCacheSet _ y _ HF.out.reads).mono ?_
          rintro e w9 ⟨rfl, hb⟩
          rw [b1]
          clear c_HO z_HO f_HO
          replace HX := Lib.hid (HX.out.keep hb)
          replace HT := Lib.hid (HT.out.keep hb)
          replace HB := Lib.hid (HB.out.trans (hb.mono HB.out.size))
          clear hb
        case true.true =>
          have ⟨c_HX, z_HX, f_HX⟩ := HX.out
          go_wp2_with fail
          refine (specIsCacheSet _ x _ (HR.out.below (by have z := HB.out; exact (by repeat (first | with_reducible exact belR | with_reducible apply belA | (with_reducible refine belS ?_ ?_; focus (first | omega | (simp; done) | (simp; omega))) | with_reducible apply belN | with_reducible apply belD | with_reducible assumption))))).mono ?_
          rintro e w8b ⟨rfl, hb⟩
          rw [b0]
          clear c_HX z_HX f_HX
          replace HX := Lib.hid (HX.out.keep hb)
          replace HT := Lib.hid (HT.out.keep hb)
          replace HO := Lib.hid (HO.out.keep hb)
          replace HF := Lib.hid (HF.out.below hb)
          replace HB := Lib.hid (HB.out.trans (hb.mono HB.out.size))
          clear hb
          have ⟨c_HO, z_HO, f_HO⟩ := HO.out
          go_wp2_with fail
          refine (specIsCacheSet _ y _ HF.out.reads).mono ?_
          rintro e w9 ⟨rfl, hb⟩
          rw [b1]
          clear c_HO z_HO f_HO
          replace HX := Lib.hid (HX.out.keep hb)
          replace HT := Lib.hid (HT.out.keep hb)
          replace HO := Lib.hid (HO.out.keep hb)
          replace HF := Lib.hid (HF.out.below hb)
          replace HB := Lib.hid (HB.out.trans (hb.mono HB.out.size))
          clear hb
          have ⟨c_HO, z_HO, f_HO⟩ := HO.out
          have ⟨c_HT, z_HT, f_HT⟩ := HT.out
          go_wp2
          refine bodyPost_ret (v := .tuple #[.agg #[.slice ao3 y.caches.length cap3], .bool true]) (by simp [results, Try.results64, go_sem, c_HT]) rfl ⟨y, true, _, _, rfl, (Fresh.mono (B := (w.heap.size + 2)) (by repeat (first | with_reducible exact HF.out | with_reducible refine Fresh.setLow ?_ (by omega) | with_reducible refine Fresh.drew ?_)) (by omega)), HY.out, by have z := HB.out; exact (by repeat (first | with_reducible exact belR | (with_reducible refine belAB ?_ ?_; focus (first | omega | (simp; done) | (simp; omega))) | (with_reducible refine belS ?_ ?_; focus (first | omega | (simp; done) | (simp; omega))) | with_reducible apply belN | with_reducible apply belD | with_reducible assumption))⟩
        all_goals
          have ⟨c_HX, z_HX, f_HX⟩ := HX.out
          go_wp2_with fail
          refine (specCopyCaches _ x _ (HR.out.below HB.out) m n HLe.out (by omega) (by omega)).mono ?_
          rintro e w10 ⟨ao7, cap7, rfl, hf7, hb7⟩
          have HF7 : Hid (Fresh (Rep.slice 85 DCache.rep) (w.heap.size + 2) w10 [.slice ao7 x.caches.length cap7] x.caches) := Lib.hid (hf7.mono (by have z := HB.out.size; have z2 := HT.out.lt; omega))
          have HB7 := Lib.hid (HB.out.trans (hb7.mono HB.out.size))
          have ⟨cr7, zr7, fr7⟩ := HT.out.keep hb7
          clear c_HX z_HX f_HX
          clear hf7 hb7
          go_wp2
          refine bodyPost_ret (v := .tuple #[.agg #[.slice ao7 x.caches.length cap7], .bool false]) (by simp [results, Try.results64, go_sem, cr7]) rfl ⟨x, false, _, _, rfl, (Fresh.mono (B := (w.heap.size + 2)) (by repeat (first | with_reducible exact HF7.out | with_reducible refine Fresh.setLow ?_ (by omega) | with_reducible refine Fresh.drew ?_)) (by omega)), HLe.out.mono (by omega) (by omega), by have z := HB7.out; exact (by repeat (first | with_reducible exact belR | (with_reducible refine belAB ?_ ?_; focus (first | omega | (simp; done) | (simp; omega))) | (with_reducible refine belS ?_ ?_; focus (first | omega | (simp; done) | (simp; omega))) | with_reducible apply belN | with_reducible apply belD | with_reducible assumption))⟩
    · obtain ⟨b, off, cs_b, rfl, hw_b, hr_b, hcell_b⟩ := slice_at (q_K1.out.below HB.out) a hlt'
      obtain ⟨fe_b, hrd_b⟩ := hr_b
      have HR_b : Hid (Reads DCache.rep wr cs_b x.caches[a]) := ⟨_, hrd_b⟩
      obtain ⟨b_v1, b_f1, rfl, _, b_r1⟩ := DCache.rd.1 hrd_b
      obtain ⟨b_a1, b_k1, rfl, _⟩ := slice_open b_r1
      have b_R1 : Hid (Reads (Rep.slice 88 DCached.rep) wr [.slice b_a1 x.caches[a].entries.length b_k1] x.caches[a].entries) := ⟨_, b_r1⟩
      clear b_r1
      clear hrd_b
      have b_c0 : wr.cell? ⟨b, off + a * 2, none⟩ = some (.int .i64 x.caches[a].version) := hcell_b 0 (by decide)
      have b_c1 : wr.cell? ⟨b, off + a * 2 + 1, none⟩ = some (.slice b_a1 x.caches[a].entries.length b_k1) := hcell_b 1 (by decide)
      clear hcell_b
      clear HR_b b_R1
      have i2 : (a : Int) < (x.caches.length : Int) := by omega
      go_wp2
      go_light
      exact ⟨⟨a + 1, by omega, by go_num, HQ.out⟩, by simp [intOf]; omega⟩

end Go.Proofs.Yteajhmpppciicaa
