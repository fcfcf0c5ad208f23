/-
  spec.l17Cache and spec.l17Copy: copies of caches.
-/
import Derived.Test.YteajhmpppciicaaCurFam
import Derived.Test.YteajhmpppciicaaCaches
import Derived.Test.YteajhmpppciicaaLCacheSet
import Derived.Test.YteajhmpppciicaaLens
namespace Go.Proofs.Yteajhmpppciicaa
open Go.RowKit

def EntryLe (e : DCached) : Prop := e.site.size ≤ 20 ∧ e.path.size ≤ 20 ∧ e.response.body.length ≤ 61
def CacheLe (n : Nat) (c : DCache) : Prop := c.entries.length ≤ n ∧ ∀ e ∈ c.entries, EntryLe e
def SetLe (m n : Nat) (x : DCacheSet) : Prop := x.caches.length ≤ m ∧ ∀ c ∈ x.caches, CacheLe n c
theorem CacheLe.mono {n n' : Nat} {c : DCache} (h : CacheLe n c) (hn : n ≤ n') : CacheLe n' c := ⟨Nat.le_trans h.1 hn, h.2⟩
theorem SetLe.mono {m n m' n' : Nat} {x : DCacheSet} (h : SetLe m n x) (hm : m ≤ m') (hn : n ≤ n') : SetLe m' n' x := ⟨Nat.le_trans h.1 hm, fun c hc => (h.2 c hc).mono hn⟩
theorem DCached.fmk {B : Nat} {w : World} {v : Value} {e : DCached} (h : Fresh DResponse.rep B w [.int .i64 e.response.type_, .int .i64 e.response.status, .int .i64 e.response.version, v, .bool e.response.shares] e.response) (s0 : e.site.size ≤ maxLen) (s1 : e.path.size ≤ maxLen) :
    Fresh DCached.rep B w [.string e.site, .string e.path, .int .i64 e.response.type_, .int .i64 e.response.status, .int .i64 e.response.version, v, .bool e.response.shares] e :=
  DCached.fresh (h.partAt (Nat.le_refl _)) (Nat.le_refl _) s0 s1
theorem DCache.fmk {B : Nat} {w : World} {v : Value} {c : DCache} (h : Fresh (Rep.slice 88 DCached.rep) B w [v] c.entries) : Fresh DCache.rep B w [.int .i64 c.version, v] c :=
  DCache.fresh (h.partAt (Nat.le_refl _)) (Nat.le_refl _)
theorem DCacheSet.fmk {B : Nat} {w : World} {v : Value} {x : DCacheSet} (h : Fresh (Rep.slice 85 DCache.rep) B w [v] x.caches) : Fresh DCacheSet.rep B w [v] x := h
theorem DCacheSet.fopen {B : Nat} {w : World} {cs : List Value} {x : DCacheSet} (h : Fresh DCacheSet.rep B w cs x) : ∃ a c, cs = [.slice a x.caches.length c] ∧ Fresh (Rep.slice 85 DCache.rep) B w [.slice a x.caches.length c] x.caches := by
  obtain ⟨a, c, rfl⟩ := DCacheSet.fshape h
  exact ⟨a, c, rfl, h⟩

theorem respSet {w : World} {k : Nat} {a b c2 c3 c4 c5 c6 d2 d3 d4 d5 d6 : Value} (h : WB w k #[a, b, c2, c3, c4, c5, c6]) : WB (((((w.setCell ⟨k, 2, none⟩ d2).setCell ⟨k, 3, none⟩ d3).setCell ⟨k, 4, none⟩ d4).setCell ⟨k, 5, none⟩ d5).setCell ⟨k, 6, none⟩ d6) k #[a, b, d2, d3, d4, d5, d6] :=
  ((((h.setAt (i := 2) (cs' := #[a, b, d2, c3, c4, c5, c6]) (by simp) rfl).setAt (i := 3) (cs' := #[a, b, d2, d3, c4, c5, c6]) (by simp) rfl).setAt (i := 4) (cs' := #[a, b, d2, d3, d4, c5, c6]) (by simp) rfl).setAt (i := 5) (cs' := #[a, b, d2, d3, d4, d5, c6]) (by simp) rfl).setAt (i := 6) (cs' := #[a, b, d2, d3, d4, d5, d6]) (by simp) rfl
theorem respOff {w : World} {k g : Nat} {cs : Array Value} {d2 d3 d4 d5 d6 : Value} (h : WB w k cs) (hk : k ≠ g) : WB (((((w.setCell ⟨g, 2, none⟩ d2).setCell ⟨g, 3, none⟩ d3).setCell ⟨g, 4, none⟩ d4).setCell ⟨g, 5, none⟩ d5).setCell ⟨g, 6, none⟩ d6) k cs :=
  ((((h.setOther hk).setOther hk).setOther hk).setOther hk).setOther hk
theorem Part.setHi {α : Type} {R : Rep α} {lo hi : Nat} {w : World} {cs : List Value} {x : α} {g o : Nat} {u : Value} (h : Part R lo hi w cs x) (hg : hi ≤ g) : Part R lo hi (w.setCell ⟨g, o, none⟩ u) cs x := by
  obtain ⟨fp, h1, h2, h3⟩ := h
  exact ⟨fp, R.frame h1 fun b hb => Below.heap_setCell _ _ _ _ (by have := h3 b hb; simp only []; omega), h2, h3⟩

set_option maxRecDepth 100000 in
set_option maxHeartbeats 3200000 in
theorem specCopyCache (cs : List Value) (x : DCache) (w : World) (h : Reads DCache.rep w cs x) (n : Nat) (hs : CacheLe n x) (hn : n ≤ 1000) :
    Calls Try.prog 88 #[.agg cs.toArray] w fun e w' => ∃ a c, e = .returned (.agg #[.int .i64 x.version, .slice a x.entries.length c]) ∧ Fresh DCache.rep w.heap.size w' [.int .i64 x.version, .slice a x.entries.length c] x ∧ Below w.heap.size w w' := by
  obtain ⟨fp_q, h⟩ := h
  obtain ⟨q_v1, q_f1, rfl, _, q_r1⟩ := DCache.rd.1 h
  obtain ⟨q_a1, q_c1, rfl, q_hm1, q_lc1, q_hu1⟩ := slice_open q_r1; clear q_hu1
  have q_K1 : Hid (Reads (Rep.slice 88 DCached.rep) w [.slice q_a1 x.entries.length q_c1] x.entries) := ⟨_, q_r1⟩
  clear q_r1 h
  have hsl := hs.1
  have HSF := Lib.hid hs.2
  clear hs
  obtain ⟨i0, hi, hz0, hz1, hz2⟩ := info_parts infoCached
  go_enter Try.func88, Try.ntmps88
  go_wp2
  go_loopw [4] (fun i wr => ∃ (k : Nat) (v : Value), k ≤ x.entries.length ∧ i = .int .i64 k ∧ WB wr w.heap.size #[.int .i64 x.version, .slice q_a1 x.entries.length q_c1] ∧ WB wr (w.heap.size + 1) #[.int .i64 0, .slice none 0 0] ∧ WB wr (w.heap.size + 2) #[.int .i64 x.version, v] ∧ Fresh (Rep.slice 88 DCached.rep) (w.heap.size + 3) wr [v] (x.entries.take k) ∧ Below w.heap.size w wr) (fun i _ => x.entries.length - (intOf i).toNat)
  case atStart => exact ⟨0, .slice none 0 0, by omega, rfl, ((WB.at rfl).growA).growA, (WB.at (by simp)).growA, WB.at (by simp), by rw [List.take_zero]; exact Fresh.nil, (by repeat (first | with_reducible exact belR | with_reducible apply belA | (with_reducible refine belS ?_ ?_; focus (first | omega | (simp; done) | (simp; omega))) | with_reducible apply belN | with_reducible apply belD | with_reducible assumption))⟩
  case round =>
    obtain ⟨k, v, hk, rfl, hx, ht, ho, hf, hb⟩ := hrel
    obtain ⟨bo, cap, rfl⟩ := hf.slice
    have hlk : (x.entries.take k).length = k := by rw [List.length_take]; omega
    rw [hlk] at ho hf
    have HX := Lib.hid hx
    have HT := Lib.hid ht
    have HO := Lib.hid ho
    have HF := Lib.hid hf
    have HB := Lib.hid hb
    clear hx ht ho hf hb
    have ⟨c_HX, z_HX, f_HX⟩ := HX.out
    have ⟨c_HO, z_HO, f_HO⟩ := HO.out
    by_cases hlt : k < x.entries.length
    · obtain ⟨b, off, cs_b, rfl, hw_b, hr_b, hcell_b⟩ := slice_at (q_K1.out.below HB.out) k hlt
      obtain ⟨fe_b, hrd_b⟩ := hr_b
      have HR_b : Hid (Reads DCached.rep wr cs_b x.entries[k]) := ⟨_, hrd_b⟩
      obtain ⟨b_v1, b_f1, rfl, _, b_s0, b_s1, b_r1⟩ := DCached.rd.1 hrd_b
      obtain ⟨b_a1, b_k1, rfl, _⟩ := slice_open b_r1
      have b_R1 : Hid (Reads (Rep.slice 5 Rep.byte) wr [.slice b_a1 x.entries[k].response.body.length b_k1] x.entries[k].response.body) := ⟨_, b_r1⟩
      clear b_r1
      clear hrd_b
      have b_c0 : wr.cell? ⟨b, off + k * 7, none⟩ = some (.string x.entries[k].site) := hcell_b 0 (by decide)
      have b_c1 : wr.cell? ⟨b, off + k * 7 + 1, none⟩ = some (.string x.entries[k].path) := hcell_b 1 (by decide)
      have b_c2 : wr.cell? ⟨b, off + k * 7 + 2, none⟩ = some (.int .i64 x.entries[k].response.type_) := hcell_b 2 (by decide)
      have b_c3 : wr.cell? ⟨b, off + k * 7 + 3, none⟩ = some (.int .i64 x.entries[k].response.status) := hcell_b 3 (by decide)
      have b_c4 : wr.cell? ⟨b, off + k * 7 + 4, none⟩ = some (.int .i64 x.entries[k].response.version) := hcell_b 4 (by decide)
      have b_c5 : wr.cell? ⟨b, off + k * 7 + 5, none⟩ = some (.slice b_a1 x.entries[k].response.body.length b_k1) := hcell_b 5 (by decide)
      have b_c6 : wr.cell? ⟨b, off + k * 7 + 6, none⟩ = some (.bool x.entries[k].response.shares) := hcell_b 6 (by decide)
      clear hcell_b
      have i1 : (0 : Int) ≤ (k : Int) := by omega
      have i2 : (k : Int) < (x.entries.length : Int) := by omega
      have hfl := (HSF.out x.entries[k] (List.getElem_mem hlt)).2.2
      have hzr : w.heap.size + 3 ≤ wr.heap.size := by have := z_HO; omega
      go_upto_region 6 with fail
      refine settle (fun W => WB W wr.heap.size #[.string x.entries[k].site, .string x.entries[k].path, .int .i64 x.entries[k].response.type_, .int .i64 x.entries[k].response.status, .int .i64 x.entries[k].response.version, .slice b_a1 x.entries[k].response.body.length b_k1, .bool x.entries[k].response.shares] ∧ Below wr.heap.size wr W) ⟨WB.at rfl, (by repeat (first | with_reducible exact belR | with_reducible apply belA | (with_reducible refine belS ?_ ?_; focus (first | omega | (simp; done) | (simp; omega))) | with_reducible apply belN | with_reducible apply belD | with_reducible assumption))⟩ ?_
      rintro wx ⟨hy, hb⟩
      have HY := Lib.hid hy
      clear hy
      clear c_HX z_HX f_HX c_HO z_HO f_HO
      replace b_R1 := Lib.hid (b_R1.out.below hb)
      have hfx : wr.heap.size < wx.heap.size := HY.out.lt
      have e2 := (hb.cell (block_lt_of_cell b_c2)).trans b_c2
      have e3 := (hb.cell (block_lt_of_cell b_c3)).trans b_c3
      have e4 := (hb.cell (block_lt_of_cell b_c4)).trans b_c4
      have e5 := (hb.cell (block_lt_of_cell b_c5)).trans b_c5
      have e6 := (hb.cell (block_lt_of_cell b_c6)).trans b_c6
      have HPf := Lib.hid (Part.below (Fresh.partAt HF.out (Nat.le_refl _)) hb)
      replace HX := Lib.hid (HX.out.keep hb)
      replace HT := Lib.hid (HT.out.keep hb)
      replace HO := Lib.hid (HO.out.keep hb)
      replace HF := Lib.hid (HF.out.below hb)
      replace HB := Lib.hid (HB.out.trans (hb.mono HB.out.size))
      clear hb b_c0 b_c1 b_c2 b_c3 b_c4 b_c5 b_c6 HR_b
      have ⟨c_HX, z_HX, f_HX⟩ := HX.out
      have ⟨c_HO, z_HO, f_HO⟩ := HO.out
      have ⟨c_HY, z_HY, f_HY⟩ := HY.out
      go_wp2_with fail
      refine (specCopyResponse _ x.entries[k].response _ (by obtain ⟨f, hr⟩ := b_R1.out; exact ⟨f, DResponse.rd.2 ⟨_, _, rfl, rfl, hr⟩⟩) (by omega)).mono ?_
      rintro e w2 ⟨ds, rfl, hf2, hb2⟩
      obtain ⟨a2, c2, rfl⟩ := DResponse.fshape hf2
      have hz2' := hb2.size
      clear c_HX z_HX f_HX c_HO z_HO f_HO c_HY z_HY f_HY
      replace HX := Lib.hid (HX.out.keep hb2)
      replace HT := Lib.hid (HT.out.keep hb2)
      replace HO := Lib.hid (HO.out.keep hb2)
      replace HY := Lib.hid (HY.out.keep hb2)
      replace HPf := Lib.hid (HPf.out.below hb2)
      replace HB := Lib.hid (HB.out.trans (hb2.mono HB.out.size))
      have HF2 := Lib.hid hf2
      clear hb2 hf2 e2 e3 e4 e5 e6 HF
      have ⟨c_HX, z_HX, f_HX⟩ := HX.out
      have ⟨c_HO, z_HO, f_HO⟩ := HO.out
      have ⟨c_HY, z_HY, f_HY⟩ := HY.out
      go_upto_region 7 with fail
      refine settle (fun W => WB W wr.heap.size #[.string x.entries[k].site, .string x.entries[k].path, .int .i64 x.entries[k].response.type_, .int .i64 x.entries[k].response.status, .int .i64 x.entries[k].response.version, .slice a2 x.entries[k].response.body.length c2, .bool x.entries[k].response.shares] ∧ WB W w.heap.size #[.int .i64 x.version, .slice (some ⟨b, off, none⟩) x.entries.length q_c1] ∧ WB W (w.heap.size + 1) #[.int .i64 0, .slice none 0 0] ∧ WB W (w.heap.size + 2) #[.int .i64 x.version, .slice bo k cap] ∧ Fresh DResponse.rep wx.heap.size W [.int .i64 x.entries[k].response.type_, .int .i64 x.entries[k].response.status, .int .i64 x.entries[k].response.version, .slice a2 x.entries[k].response.body.length c2, .bool x.entries[k].response.shares] x.entries[k].response ∧ Part (Rep.slice 88 DCached.rep) (w.heap.size + 3) wr.heap.size W [.slice bo k cap] (x.entries.take k) ∧ Below w.heap.size w W ∧ wx.heap.size ≤ W.heap.size) ⟨respSet HY.out, respOff HX.out (by omega), respOff HT.out (by omega), respOff HO.out (by omega), (by repeat (first | with_reducible exact HF2.out | with_reducible refine Fresh.setLow ?_ (by omega))), (by repeat (first | with_reducible exact HPf.out | with_reducible refine Part.setHi ?_ (by omega))), (by have y := HB.out; exact (by repeat (first | with_reducible exact belR | (with_reducible refine belAB ?_ ?_; focus (first | omega | (simp; done) | (simp; omega))) | (with_reducible refine belS ?_ ?_; focus (first | omega | (simp; done) | (simp; omega))) | with_reducible apply belN | with_reducible apply belD | with_reducible assumption))), by simp; omega⟩ ?_
      clear c_HX z_HX f_HX c_HO z_HO f_HO c_HY z_HY f_HY
      clear HX HT HO HY HF2 HPf HB
      rintro w3 ⟨hy, hx, ht, ho, hf, hp, hb, hz3⟩
      have HX := Lib.hid hx
      have HT := Lib.hid ht
      have HO := Lib.hid ho
      have HF := Lib.hid hf
      have HB := Lib.hid hb
      clear hx ht ho hf hb
      have ⟨c_HO, z_HO, f_HO⟩ := HO.out
      have ⟨cy, zy, fy⟩ := hy
      go_wp2_with (at_builtin; refine wpList_pushN _ rfl _ _ 83 83 rfl DCached.rep (w.heap.size + 3) wr.heap.size 88 i0 _ _ Try.underlying83 Try.underlying83 hi hz0 hz1 hz2 rfl (.slice bo k cap) (x.entries.take k) rfl hp x.entries[k] _ _ _ rfl ?hk (DCached.fmk (HF.out.mono ?hb) b_s0 b_s1) ?c1 ?c2 ?c3 ?c4 ?_)
      case hk => first | rfl | simp
      case hb => omega
      case c1 => rw [hlk]; omega
      case c2 => decide
      case c3 => omega
      case c4 => omega
      intro ao4 cap4 w4 hf4 hb4
      rw [hlk] at *
      have HE := Lib.hid (show x.entries.take k ++ [x.entries[k]] = x.entries.take (k + 1) from (List.take_succ_eq_append_getElem hlt).symm)
      try rw [HE.out] at hf4
      have HF4 := Lib.hid hf4
      have HX4 := Lib.hid (HX.out.grow hb4 (by omega))
      have HT4 := Lib.hid (HT.out.grow hb4 (by omega))
      have HO4 := Lib.hid (HO.out.grow hb4 (by omega))
      have HB4 : Hid (Below w.heap.size w w4) := Lib.hid (HB.out.trans (hb4.mono (by omega)))
      clear c_HO z_HO f_HO
      clear hf4 hb4 HX HT HO HB HF hp
      have ⟨c_HO4, z_HO4, f_HO4⟩ := HO4.out
      go_wp2
      go_light
      exact ⟨⟨k + 1, _, by omega, by go_num, HX4.out.setOther (by omega), HT4.out.setOther (by omega), HO4.out.setAt (by simp) rfl, HF4.out.setLow (by omega), by have y := HB4.out; exact (by repeat (first | with_reducible exact belR | (with_reducible refine belAB ?_ ?_; focus (first | omega | (simp; done) | (simp; omega))) | (with_reducible refine belS ?_ ?_; focus (first | omega | (simp; done) | (simp; omega))) | with_reducible apply belN | with_reducible apply belD | with_reducible assumption))⟩, by simp [intOf]; omega⟩
    · have e := Lib.hid (show x.entries.take k = x.entries by rw [List.take_of_length_le (by omega)])
      have hkl : k = x.entries.length := by omega
      subst hkl
      have ⟨c_HT, z_HT, f_HT⟩ := HT.out
      go_wp2
      refine bodyPost_ret (v := .agg #[.int .i64 x.version, .slice bo x.entries.length cap]) (by simp [results, Try.results88, go_sem, c_HT]) rfl ⟨_, _, rfl, ?_, ?_⟩
      · have y := HF.out
        rw [e.out] at y
        exact DCache.fmk (c := x) (Fresh.mono (B := (w.heap.size + 3)) (by repeat (first | with_reducible exact y | with_reducible refine Fresh.setLow ?_ (by omega) | with_reducible refine Fresh.drew ?_)) (by omega))
      · have y := HB.out
        exact (by repeat (first | with_reducible exact belR | (with_reducible refine belAB ?_ ?_; focus (first | omega | (simp; done) | (simp; omega))) | (with_reducible refine belS ?_ ?_; focus (first | omega | (simp; done) | (simp; omega))) | with_reducible apply belN | with_reducible apply belD | with_reducible assumption))

set_option maxRecDepth 100000 in
set_option maxHeartbeats 3200000 in
theorem specCopyCaches (cs : List Value) (x : DCacheSet) (w : World) (h : Reads DCacheSet.rep w cs x) (m n : Nat) (hs : SetLe m n x) (hm : m ≤ 1000) (hn : n ≤ 1000) :
    Calls Try.prog 66 #[.agg cs.toArray] w fun e w' => ∃ a c, e = .returned (.agg #[.slice a x.caches.length c]) ∧ Fresh (Rep.slice 85 DCache.rep) w.heap.size w' [.slice a x.caches.length c] x.caches ∧ Below w.heap.size w w' := by
  obtain ⟨fp_q, h⟩ := h
  obtain ⟨q_v1, q_f1, rfl, _, q_r1⟩ := DCacheSet.rd.1 h
  obtain ⟨q_a1, q_c1, rfl, q_hm1, q_lc1, q_hu1⟩ := slice_open q_r1; clear q_hu1
  have q_K1 : Hid (Reads (Rep.slice 85 DCache.rep) w [.slice q_a1 x.caches.length q_c1] x.caches) := ⟨_, q_r1⟩
  clear q_r1 h
  have hsl := hs.1
  have HSF := Lib.hid hs.2
  clear hs
  obtain ⟨i0, hi, hz0, hz1, hz2⟩ := info_parts infoCache
  go_enter Try.func66, Try.ntmps66
  go_wp2
  go_loopw [4] (fun i wr => ∃ (k : Nat) (v : Value), k ≤ x.caches.length ∧ i = .int .i64 k ∧ WB wr w.heap.size #[.slice q_a1 x.caches.length q_c1] ∧ WB wr (w.heap.size + 1) #[.slice none 0 0] ∧ WB wr (w.heap.size + 2) #[v] ∧ Fresh (Rep.slice 85 DCache.rep) (w.heap.size + 3) wr [v] (x.caches.take k) ∧ Below w.heap.size w wr) (fun i _ => x.caches.length - (intOf i).toNat)
  case atStart => exact ⟨0, .slice none 0 0, by omega, rfl, ((WB.at rfl).growA).growA, (WB.at (by simp)).growA, WB.at (by simp), by rw [List.take_zero]; exact Fresh.nil, (by repeat (first | with_reducible exact belR | with_reducible apply belA | (with_reducible refine belS ?_ ?_; focus (first | omega | (simp; done) | (simp; omega))) | with_reducible apply belN | with_reducible apply belD | with_reducible assumption))⟩
  case round =>
    obtain ⟨k, v, hk, rfl, hx, ht, ho, hf, hb⟩ := hrel
    obtain ⟨bo, cap, rfl⟩ := hf.slice
    have hlk : (x.caches.take k).length = k := by rw [List.length_take]; omega
    rw [hlk] at ho hf
    have HX := Lib.hid hx
    have HT := Lib.hid ht
    have HO := Lib.hid ho
    have HF := Lib.hid hf
    have HB := Lib.hid hb
    clear hx ht ho hf hb
    have ⟨c_HX, z_HX, f_HX⟩ := HX.out
    have ⟨c_HO, z_HO, f_HO⟩ := HO.out
    by_cases hlt : k < x.caches.length
    · obtain ⟨b, off, cs_b, rfl, hw_b, hr_b, hcell_b⟩ := slice_at (q_K1.out.below HB.out) k hlt
      obtain ⟨fe_b, hrd_b⟩ := hr_b
      have HR_b : Hid (Reads DCache.rep wr cs_b x.caches[k]) := ⟨_, hrd_b⟩
      obtain ⟨b_v1, b_f1, rfl, _, b_r1⟩ := DCache.rd.1 hrd_b
      obtain ⟨b_a1, b_k1, rfl, _⟩ := slice_open b_r1
      have b_R1 : Hid (Reads (Rep.slice 88 DCached.rep) wr [.slice b_a1 x.caches[k].entries.length b_k1] x.caches[k].entries) := ⟨_, b_r1⟩
      clear b_r1
      clear hrd_b
      have b_c0 : wr.cell? ⟨b, off + k * 2, none⟩ = some (.int .i64 x.caches[k].version) := hcell_b 0 (by decide)
      have b_c1 : wr.cell? ⟨b, off + k * 2 + 1, none⟩ = some (.slice b_a1 x.caches[k].entries.length b_k1) := hcell_b 1 (by decide)
      clear hcell_b
      have i1 : (0 : Int) ≤ (k : Int) := by omega
      have i2 : (k : Int) < (x.caches.length : Int) := by omega
      have hfl := HSF.out x.caches[k] (List.getElem_mem hlt)
      have hzr : w.heap.size + 3 ≤ wr.heap.size := by have := z_HO; omega
      go_wp2_with fail
      obtain ⟨wx, hwx⟩ : ∃ wx, wx = wr := ⟨_, rfl⟩
      subst hwx
      go_region_law (first
        | (go_simp; go_at_call 88; refine (specCopyCache _ x.caches[k] _ (HR_b.out.below (by first | exact belR | exact belD belR)) n hfl hn).mono ?_; rintro e w2 ⟨a2, c2, rfl, hf2, hb2⟩; have hq2 : Below wx.heap.size wx w2 := (Below.trans (by repeat (first | with_reducible exact belR | (with_reducible refine belAB ?_ ?_; focus (first | omega | (simp; done) | (simp; omega))) | (with_reducible refine belS ?_ ?_; focus (first | omega | (simp; done) | (simp; omega))) | with_reducible apply belN | with_reducible apply belD | with_reducible assumption)) (hb2.mono (by first | omega | (simp; done) | (simp; omega)))); have hwo := HO.out.keep hq2; have ⟨co', zo', fo'⟩ := hwo; have hsz2 := hq2.size; have hwx' := HX.out.keep hq2; have ⟨cx', zx', fx'⟩ := hwx'; have e0' := (hq2.cell (p := ⟨b, off + k * 2, none⟩) (block_lt_of_cell b_c0)).trans b_c0; have e1' := (hq2.cell (p := ⟨b, off + k * 2 + 1, none⟩) (block_lt_of_cell b_c1)).trans b_c1)
        | ((refine step_pushN w2 _ (by rfl) _ _ 42 42 (by rfl) DCache.rep (w.heap.size + 3) wx.heap.size 85 i0 _ _ Try.underlying42 Try.underlying42 hi hz0 hz1 hz2 rfl (.slice bo k cap) (x.caches.take k) (by rfl) (Part.below (Fresh.partAt HF.out (Nat.le_refl _)) hq2) (by first | exact belA belR | exact belA (belD belR) | exact belD (belA belR)) x.caches[k] [.int .i64 x.caches[k].version, .slice a2 x.caches[k].entries.length c2] _ (by rfl) (hf2.mono (by first | exact Nat.le_refl _ | omega)) (news_at rfl) (by rw [hlk]; omega) (by decide) (by omega) (by omega) ?_; intro ao3 cap3 w3 hf3 hb3 hsz3; have hb4 : Below (w.heap.size + 3) w2 w3 := Below.trans (by repeat (first | with_reducible exact belR | (with_reducible refine belAB ?_ ?_; focus (first | omega | (simp; done) | (simp; omega))) | (with_reducible refine belS ?_ ?_; focus (first | omega | (simp; done) | (simp; omega))) | with_reducible apply belN | with_reducible apply belD | with_reducible assumption)) hb3; have ⟨co3, zo3, fo3⟩ := HO.out.grow ((hq2.mono (by omega)).trans hb4) (by omega))))
      all_goals
        rw [hlk] at *
        have hb5 : Below (w.heap.size + 3) wx w3 := (hq2.mono (by omega)).trans hb4
        have HE := Lib.hid (show x.caches.take k ++ [x.caches[k]] = x.caches.take (k + 1) from (List.take_succ_eq_append_getElem hlt).symm)
        rw [HE.out] at hf3
        have HX3 := Lib.hid (HX.out.grow hb5 (by omega))
        have HT3 := Lib.hid (HT.out.grow hb5 (by omega))
        have HO3 := Lib.hid (HO.out.grow hb5 (by omega))
        have HF3 := Lib.hid hf3
        have HB3 : Hid (Below w.heap.size w w3) := Lib.hid (HB.out.trans (hb5.mono (by omega)))
        clear hf3 hb3 hb4 hb5 hq2 hb2 hf2
        go_wp2
        go_light
        exact ⟨⟨k + 1, _, by omega, by go_num, HX3.out.setOther (by omega), HT3.out.setOther (by omega), HO3.out.setAt (by simp) rfl, HF3.out.setLow (by omega), by have y := HB3.out; exact (by repeat (first | with_reducible exact belR | (with_reducible refine belAB ?_ ?_; focus (first | omega | (simp; done) | (simp; omega))) | (with_reducible refine belS ?_ ?_; focus (first | omega | (simp; done) | (simp; omega))) | with_reducible apply belN | with_reducible apply belD | with_reducible assumption))⟩, by simp [intOf]; omega⟩
    · have e := Lib.hid (show x.caches.take k = x.caches by rw [List.take_of_length_le (by omega)])
      have hkl : k = x.caches.length := by omega
      subst hkl
      have ⟨c_HT, z_HT, f_HT⟩ := HT.out
      go_wp2
      refine bodyPost_ret (v := .agg #[.slice bo x.caches.length cap]) (by simp [results, Try.results66, go_sem, c_HT]) rfl ⟨_, _, rfl, ?_, ?_⟩
      · have y := HF.out
        rw [e.out] at y
        exact (Fresh.mono (B := (w.heap.size + 3)) (by repeat (first | with_reducible exact y | with_reducible refine Fresh.setLow ?_ (by omega) | with_reducible refine Fresh.drew ?_)) (by omega))
      · have y := HB.out
        exact (by repeat (first | with_reducible exact belR | (with_reducible refine belAB ?_ ?_; focus (first | omega | (simp; done) | (simp; omega))) | (with_reducible refine belS ?_ ?_; focus (first | omega | (simp; done) | (simp; omega))) | with_reducible apply belN | with_reducible apply belD | with_reducible assumption))

end Go.Proofs.Yteajhmpppciicaa
