/-
  The cursor of the draws: l1New, l1Byte, l1Below, l1Once, l1Int, l1Str, l1Bytes.
-/
import Derived.Test.YteajhmpppciicaaBase
import Derived.Deep.RegionLaw
import Derived.Deep.RegionHeld
namespace Go.Proofs.Yteajhmpppciicaa
open Go.RowKit

theorem bits_and_nat (y : Int) (m : Nat) (hm : m < 9223372036854775808) : 0 ≤ bits .and .i64 y m ∧ bits .and .i64 y m ≤ m := by
  unfold bits
  have h : ((BitVec.ofInt 64 y &&& BitVec.ofInt 64 (m : Int)).toNat) ≤ m := by
    have e : (BitVec.ofInt 64 (m : Int)).toNat = m := by simp; omega
    rw [BitVec.toNat_and, e]
    exact Nat.and_le_right
  have e2 := Go.IntWalk.i64_in ((BitVec.ofInt 64 y &&& BitVec.ofInt 64 (m : Int)).toNat : Int) (by omega)
  show 0 ≤ IntKind.i64.wrap ((BitVec.ofInt 64 y &&& BitVec.ofInt 64 (m : Int)).toNat : Int) ∧ IntKind.i64.wrap ((BitVec.ofInt 64 y &&& BitVec.ofInt 64 (m : Int)).toNat : Int) ≤ m
  rw [e2]
  omega
theorem and255 (y : Int) : 0 ≤ bits .and .i64 y 255 ∧ bits .and .i64 y 255 ≤ 255 := bits_and_nat y 255 (by decide)

/-- A cursor's block, and a bound of the blocks that its bytes lie in. -/
structure Kur where
  k : Nat
  b : Nat
/-- A cursor in block k.k, over bytes that lie below block k.b. -/
def Cur (w : World) (k : Kur) : Prop :=
  ∃ (v : Value) (l : List UInt8) (i : Nat) (h : Int), WB w k.k #[v, .int .i64 i, .int .i64 h] ∧ (∃ fp, Rep.bytes.rd false w [v] l fp ∧ ∀ b ∈ fp, b < k.b) ∧ i ≤ l.length ∧ k.b ≤ k.k

theorem Cur.lt {w : World} {k : Kur} (h : Cur w k) : k.k < w.heap.size := by
  obtain ⟨v, l, i, h, hb, _⟩ := h
  exact hb.lt
theorem Cur.below {w w' : World} {k : Kur} (h : Cur w k) (hb : Below w.heap.size w w') : Cur w' k := by
  obtain ⟨v, l, i, h, hw, ⟨fp, hr, hf⟩, hi⟩ := h
  exact ⟨v, l, i, h, hw.keep hb, ⟨fp, Rep.frame _ hr fun b hb' => hb.block b (Rep.lt _ hr b hb'), hf⟩, hi⟩
/-- A call that moves the cursor in block k and lays new blocks. -/
def Mov (k : Kur) (w w' : World) : Prop := Chg [k.k] w w' ∧ Cur w' k
theorem Mov.trans {k : Kur} {a b c : World} (h : Mov k a b) (h2 : Mov k b c) : Mov k a c := ⟨h.1.trans h2.1, h2.2⟩
theorem Mov.belowL {k : Kur} {a b c : World} (h : Below a.heap.size a b) (h2 : Mov k b c) : Mov k a c := ⟨(Chg.of_below h (Nat.le_refl _)).trans h2.1, h2.2⟩
theorem Mov.below {k : Kur} {a b c : World} (h : Mov k a b) (h2 : Below b.heap.size b c) : Mov k a c := ⟨h.1.trans (Chg.of_below h2 (Nat.le_refl _)), h.2.below h2⟩
theorem Mov.refl {k : Kur} {a : World} (h : Cur a k) : Mov k a a := ⟨Chg.refl, h⟩
theorem Chg.low {fp : List Nat} {B : Nat} {a b c : World} (h : Chg fp a b) (h2 : Below B b c) (hB : a.heap.size ≤ B) : Chg fp a c :=
  ⟨h2.os.trans h.os, h2.tape.trans h.tape, h2.output.trans h.output, Nat.le_trans h.size h2.size, fun i hi hn => (h2.block i (by omega)).trans (h.block i hi hn)⟩
theorem Cur.low {w w' : World} {k : Kur} {B : Nat} (h : Cur w k) (hb : Below B w w') (hk : k.k < B) : Cur w' k := by
  obtain ⟨v, l, i, h, hw, ⟨fp, hr, hf⟩, hi⟩ := h
  exact ⟨v, l, i, h, hw.grow hb hk, ⟨fp, Rep.frame _ hr fun b hb' => hb.block b (by have := hf b hb'; have := hi.2; omega), hf⟩, hi⟩
theorem Mov.low {k : Kur} {B : Nat} {a b c : World} (h : Mov k a b) (h2 : Below B b c) (hB : a.heap.size ≤ B) (hk : k.k < a.heap.size) : Mov k a c := ⟨h.1.low h2 hB, h.2.low h2 (by omega)⟩
theorem Mov.toBelow {k : Kur} {B : Nat} {a b : World} (h : Mov k a b) (hB : B ≤ k.k) (hk : k.k < a.heap.size) : Below B a b := h.1.below (by intro b hb; simp at hb; omega) (by omega)
theorem Fresh.mov {α : Type} {R : Rep α} {B : Nat} {k : Kur} {w w' : World} {cs : List Value} {x : α} (h : Fresh R B w cs x) (hm : Mov k w w') (hk : k.k < B) : Fresh R B w' cs x := by
  obtain ⟨fp, h, h2, h3⟩ := h
  exact ⟨fp, hm.1.keeps h (fun b hb hn => by have := h3 b hb; simp at hn; omega), h2, h3⟩
/-- It reads, and not off block k. -/
def ReadsOff {α : Type} (R : Rep α) (k : Kur) (w : World) (cs : List Value) (x : α) : Prop := ∃ fp, R.rd false w cs x fp ∧ k.k ∉ fp
theorem ReadsOff.reads {α : Type} {R : Rep α} {k : Kur} {w : World} {cs : List Value} {x : α} (h : ReadsOff R k w cs x) : Reads R w cs x := by
  obtain ⟨fp, h, _⟩ := h; exact ⟨fp, h⟩
theorem ReadsOff.mov {α : Type} {R : Rep α} {k : Kur} {w w' : World} {cs : List Value} {x : α} (h : ReadsOff R k w cs x) (hm : Mov k w w') : ReadsOff R k w' cs x := by
  obtain ⟨fp, h, hn⟩ := h
  exact ⟨fp, hm.1.keeps h (fun b hb hn' => by simp at hn'; subst hn'; exact hn hb), hn⟩
theorem Fresh.off {α : Type} {R : Rep α} {B : Nat} {k : Kur} {w : World} {cs : List Value} {x : α} (h : Fresh R B w cs x) (hk : k.k < B) : ReadsOff R k w cs x := by
  obtain ⟨fp, h, _, h3⟩ := h
  obtain ⟨fq, h, hs⟩ := R.weak h
  exact ⟨fq, h, fun hb => by have := h3 k.k (hs k.k hb); omega⟩
theorem WB.mov {w w' : World} {k : Kur} {j : Nat} {cs : Array Value} (h : WB w j cs) (hm : Mov k w w') (hk : j ≠ k.k) : WB w' j cs := h.chg hm.1 (by simp; exact hk)
theorem Cur.set {w : World} {k : Kur} {g o : Nat} {u : Value} (h : Cur w k) (h1 : k.b ≤ g) (h2 : k.k ≠ g) : Cur (w.setCell ⟨g, o, none⟩ u) k := by
  obtain ⟨v, l, i, h, hw, ⟨fp, hr, hf⟩, hi⟩ := h
  exact ⟨v, l, i, h, hw.setOther h2, ⟨fp, Rep.frame _ hr fun b hb => Below.heap_setCell _ _ _ _ (by have := hf b hb; simp only []; omega), hf⟩, hi⟩
theorem Mov.size {k : Kur} {a b : World} (h : Mov k a b) : a.heap.size ≤ b.heap.size := h.1.size


theorem wpList_pushC {α : Type} {R : Rep α} {enc : α → List Value} {ok : α → Prop} {P : Program} (w : World) {ops : Array Oper} {rest : List Oper} {o : Oper} {a : Act} {Q : Exit → Act → World → Prop} (hgd : o.guard = none) (s x : Operand) (t tx : TypeId)
    (ho : o.op = .call { callee := .builtin .append, args := #[s, x], argTypes := #[t, tx] })
    (h : FlatR R enc ok) (B : Nat) (e : TypeId) (i : TypeInfo) (z : Value) (bytes : Nat) (ht : P.underlying t = some (.slice e)) {e' : TypeId} (htx : P.underlying tx = some (.slice e')) (hi : P.info? e = some i) (hz : i.zero = some z)
    (hsize : i.size = R.n) (hby : i.bytes = bytes) (hzs : z.cells.size = R.n)
    (v : Value) (l : List α) (hv : a.eval s = v) (hown : Fresh (Rep.slice e R) B w [v] l)
    (u : α) (xs : Array Value) (t2 : TypeId) (k : Nat) (hx : a.eval x = .slice (some ⟨k, 0, none⟩) 1 1) (hk : k = w.heap.size) (hxs : xs.toList = enc u) (hok : ok u)
    (hlen : l.length + 1 ≤ 16777216) (hbytes : bytes ≤ 8388608) (hbase : B ≤ w.heap.size)
    (hgo : ∀ ao cap w', Fresh (Rep.slice e R) B w' [.slice ao (l.length + 1) cap] (l ++ [u]) → (w.alloc (.cells xs t2)).grownBy w' v.ownBlock → (∀ b, (Value.slice ao (l.length + 1) cap).ownBlock = some b → v.ownBlock = some b ∨ w.heap.size ≤ b) →
      wpList P ops Q rest (a.put o.dst (.slice ao (l.length + 1) cap)) w') : wpList P ops Q (o :: rest) a (w.alloc (.cells xs t2)) := by
  have hb : Below w.heap.size w (w.alloc (.cells xs t2)) := (Below.refl _ _).alloc (Nat.le_refl _) _
  have hmul : (l.length + 1) * bytes ≤ 16777216 * 8388608 := Nat.mul_le_mul hlen hbytes
  obtain ⟨ho1, ho2⟩ := h.own (hown.below hb)
  have hge := World.ownsRow.lt ho1
  have hsz := hb.size
  refine wpList_append_src (w.alloc (.cells xs t2)) hgd s x t tx ho B e i z R.n bytes ht hi hz hsize hby hzs v l.length (l.flatMap enc) hv ho1 (.slice (some ⟨k, 0, none⟩) 1 1) [u].length _ hx
    (lit_src' (us := [u]) (n := 1) h htx (by simpa using hxs) rfl (by simpa using hok) hk) (by simp only [List.length_cons, List.length_nil]; omega) (by simp only [List.length_cons, List.length_nil]; unfold maxLen; omega) (by omega) fun ao cap w' h1 h2 h3 => ?_
  refine hgo ao cap w' (h.fresh (B' := B) (by rw [List.length_append, List.flatMap_append]; exact h1) (fun y hy => (List.mem_append.1 hy).elim (ho2 y) (fun hm => by simp at hm; subst hm; exact hok)) fun b hb' => ?_) h2 fun b hb' => ?_
  · rcases h3 b hb' with hb' | rfl
    · exact (hge b (by simpa using hb')).1
    · omega
  · rcases h3 b (by simpa using hb') with hb' | rfl
    · exact .inl (by simpa using hb')
    · exact .inr hsz

set_option maxRecDepth 100000 in
set_option maxHeartbeats 1600000 in
theorem specByte (k : Kur) (w : World) (h : Cur w k) : Calls Try.prog 63 #[.pointer (some ⟨k.k, 0, none⟩)] w fun e w' => ∃ x : Int, e = .returned (.int .i64 x) ∧ 0 ≤ x ∧ x ≤ 255 ∧ Mov k w w' := by
  obtain ⟨v, l, i, hh, hb, ⟨fp, hr, hfp⟩, hi⟩ := h
  have HR := Lib.hid hr
  obtain ⟨ao, cp, rfl, hm, hlc, hu⟩ := slice_open hr
  clear hu hr
  have HX := Lib.hid hb
  go_enter Try.func63, Try.ntmps63
  have ⟨c_HX, z_HX, f_HX⟩ := HX.out
  go_upto_region 2 with fail
  refine settle (fun W => ∃ h2 : Int, WB W k.k #[.slice ao l.length cp, .int .i64 i, .int .i64 h2] ∧ Chg [k.k] w W) ⟨_, HX.out.setAt (i := 2) (by simp) rfl, Chg.set (by simp) Chg.refl⟩ ?_
  clear c_HX z_HX f_HX
  clear HX hb
  rintro w1 ⟨h2, hb1, hc1⟩
  have HX := Lib.hid hb1
  have HR1 : Hid (Reads Rep.bytes w1 [.slice ao l.length cp] l) := Lib.hid ⟨fp, hc1.keeps HR.out (fun b hb hn => by have := hfp b hb; have := hi.2; simp at hn; omega)⟩
  have KX := rg_var HX.out
  have i1 : (0 : Int) ≤ (i : Int) := by omega
  by_cases hlt : i < l.length
  · obtain ⟨b, off, cs_b, rfl, hw_b, hr_b, hcell_b⟩ := slice_at HR1.out i hlt
    obtain ⟨fe_b, hrd_b⟩ := hr_b
    obtain ⟨rfl, _, b_s0⟩ := hrd_b
    have b_c0 : w1.cell? ⟨b, off + i, none⟩ = some (.int .u8 l[i].toNat) := by have h := hcell_b 0 (by decide); rwa [show off + i * Rep.byte.n + 0 = off + i from by show off + i * 1 + 0 = off + i; omega] at h
    have b_u1 : (l[i].toNat : Int) ≤ 255 := by have := l[i].toNat_lt; omega
    clear hcell_b
    have i2 : (i : Int) < (l.length : Int) := by omega
    have C := rg_cell b_c0
    refine wp_region_rg (by kernel_rfl) (by kernel_rfl) ?_
    repeat (go_big_quiet_step (fail))
    refine wpQuiet_nil ?_
    rintro _ ⟨pq, rfl⟩
    have hq := rg_below w1 pq
    have HX2 := Lib.hid (HX.out.keep hq)
    have b2 := (hq.cell (p := ⟨b, off + i, none⟩) hw_b).trans b_c0
    have hw2 := Nat.lt_of_lt_of_le hw_b hq.size
    have hc2 := hc1.trans (Chg.of_below hq (Nat.le_refl _))
    generalize rg w1 pq = w2 at *
    clear KX C hq HX hb1 b_c0
    go_upto_region 3 with fail
    have KX := rg_var HX2.out
    have C := rg_cell b2
    refine wp_region_rg (by kernel_rfl) (by kernel_rfl) ?_
    repeat (go_big_quiet_step (fail))
    refine wpQuiet_nil ?_
    rintro _ ⟨pq, rfl⟩
    have hq := rg_below w2 pq
    have HX3 := Lib.hid (HX2.out.keep hq)
    have b3 := (hq.cell (p := ⟨b, off + i, none⟩) hw2).trans b2
    have hc3 := hc2.trans (Chg.of_below hq (Nat.le_refl _))
    generalize rg w2 pq = w3 at *
    clear KX C hq HX2 b2
    go_upto_region 4 with fail
    have KX := rg_var HX3.out
    have C := rg_cell b3
    refine wp_region_rg (by kernel_rfl) (by kernel_rfl) ?_
    repeat (go_big_quiet_step (fail))
    refine wpQuiet_nil ?_
    rintro _ ⟨pq, rfl⟩
    have hq := rg_below w3 pq
    have HX4 := Lib.hid (HX3.out.keep hq)
    have hc4 := hc3.trans (Chg.of_below hq (Nat.le_refl _))
    generalize rg w3 pq = w4 at *
    clear KX C hq HX3 b3
    have ⟨c_HX4, z_HX4, f_HX4⟩ := HX4.out
    go_wp2
    go_ret
    refine ⟨_, rfl, (and255 _).1, (and255 _).2, Chg.set (by simp) hc4, ?_⟩
    have hc5 : Chg [k.k] w (w4.setCell ⟨k.k, 1, none⟩ (.int .i64 ((i + 1 : Nat) : Int))) := Chg.set (by simp) hc4
    exact ⟨_, l, i + 1, h2, HX4.out.setAt (i := 1) (by simp) rfl, ⟨fp, hc5.keeps HR.out (fun b hb hn => by have := hfp b hb; have := hi.2; simp at hn; omega), hfp⟩, by omega, hi.2⟩
  · have i2 : ¬ (i : Int) < (l.length : Int) := by omega
    refine wp_region_rg (by kernel_rfl) (by kernel_rfl) ?_
    repeat (go_big_quiet_step (fail))
    refine wpQuiet_nil ?_
    rintro _ ⟨pq, rfl⟩
    have hq := rg_below w1 pq
    have HX2 := Lib.hid (HX.out.keep hq)
    have hc2 := hc1.trans (Chg.of_below hq (Nat.le_refl _))
    generalize rg w1 pq = w2 at *
    clear KX hq HX hb1
    go_upto_region 3 with fail
    have KX := rg_var HX2.out
    refine wp_region_rg (by kernel_rfl) (by kernel_rfl) ?_
    repeat (go_big_quiet_step (fail))
    refine wpQuiet_nil ?_
    rintro _ ⟨pq, rfl⟩
    have hq := rg_below w2 pq
    have HX3 := Lib.hid (HX2.out.keep hq)
    have hc3 := hc2.trans (Chg.of_below hq (Nat.le_refl _))
    generalize rg w2 pq = w3 at *
    clear KX hq HX2
    go_wp2
    go_ret
    refine ⟨_, rfl, (and255 _).1, (and255 _).2, hc3, ?_⟩
    exact ⟨_, l, i, h2, HX3.out, ⟨fp, hc3.keeps HR.out (fun b hb hn => by have := hfp b hb; have := hi.2; simp at hn; omega), hfp⟩, by omega, hi.2⟩

theorem emod_in (x : Int) {n : Int} (hn : 0 < n) : 0 ≤ x % n ∧ x % n < n := by
  exact ⟨Int.emod_nonneg _ (by omega), Int.emod_lt_of_pos _ hn⟩

set_option maxRecDepth 100000 in
set_option maxHeartbeats 1600000 in
theorem specBelow (k : Kur) (n : Int) (w : World) (h : Cur w k) : Calls Try.prog 35 #[.pointer (some ⟨k.k, 0, none⟩), .int .i64 n] w fun e w' => ∃ x : Int, e = .returned (.int .i64 x) ∧ 0 ≤ x ∧ (0 < n → x < n) ∧ Mov k w w' := by
  by_cases h0 : n ≤ 0
  · go_enter Try.func35, Try.ntmps35
    go_wp2
    go_ret
    exact ⟨0, rfl, by omega, by omega, Mov.refl h⟩
  · by_cases h1 : n ≤ 256
    · go_enter Try.func35, Try.ntmps35
      go_wp2_with (go_at_call 63; refine (specByte k _ h).mono ?_; rintro e w1 ⟨x, rfl, hx0, hx1, hm⟩)
      go_ret
      have y := emod_in x (n := n) (by omega)
      exact ⟨_, rfl, y.1, fun _ => y.2, hm⟩
    · go_enter Try.func35, Try.ntmps35
      go_wp2_with fail
      refine (specByte k _ h).mono ?_
      rintro e w1 ⟨x, rfl, hx0, hx1, hm⟩
      go_wp2_with fail
      refine (specByte k _ hm.2).mono ?_
      rintro e w2 ⟨y, rfl, hy0, hy1, hm2⟩
      go_wp2_with fail
      refine (specByte k _ hm2.2).mono ?_
      rintro e w3 ⟨z, rfl, hz0, hz1, hm3⟩
      go_wp2
      go_ret
      have q := emod_in (x * 65536 + y * 256 + z) (n := n) (by omega)
      exact ⟨_, rfl, q.1, fun _ => q.2, (hm.trans hm2).trans hm3⟩

set_option maxRecDepth 100000 in
set_option maxHeartbeats 1600000 in
theorem specOnce (k : Kur) (n : Int) (w : World) (h : Cur w k) : Calls Try.prog 37 #[.pointer (some ⟨k.k, 0, none⟩), .int .i64 n] w fun e w' => ∃ x : Bool, e = .returned (.bool x) ∧ Mov k w w' := by
  go_enter Try.func37, Try.ntmps37
  go_wp2_with (go_at_call 35; refine (specBelow k _ _ h).mono ?_; rintro e w1 ⟨x, rfl, hx0, hx1, hm⟩)
  go_ret
  exact ⟨_, rfl, hm⟩

set_option maxRecDepth 100000 in
set_option maxHeartbeats 1600000 in
theorem specDrawInt (k : Kur) (v : Value) (l : List Int) (w : World) (h : Cur w k) (hv : ReadsOff (Rep.slice 3 Rep.int) k w [v] l) (hl : 0 < l.length) : Calls Try.prog 51 #[.pointer (some ⟨k.k, 0, none⟩), v] w fun e w' => ∃ x : Int, e = .returned (.int .i64 x) ∧ x ∈ l ∧ Mov k w w' := by
  have HV := Lib.hid hv
  obtain ⟨fp, h', _⟩ := hv
  obtain ⟨ao, c1, rfl, hm, _, hu⟩ := slice_open h'
  clear hu h'
  go_enter Try.func51, Try.ntmps51
  go_wp2_with fail
  refine (specBelow k _ _ h).mono ?_
  rintro e w1 ⟨x, rfl, hx0, hx1, hm⟩
  obtain ⟨i, rfl⟩ := Int.eq_ofNat_of_zero_le hx0
  have hi : i < l.length := by have := hx1 (by omega); omega
  obtain ⟨b, off, cs_b, rfl, hw_b, hr_b, hcell_b⟩ := slice_at (HV.out.mov hm).reads i hi
  obtain ⟨fe_b, hrd_b⟩ := hr_b
  obtain ⟨rfl, _, b_s0⟩ := hrd_b
  have b_c0 : w1.cell? ⟨b, off + i, none⟩ = some (.int .i64 l[i]) := by have h := hcell_b 0 (by decide); rwa [show off + i * Rep.int.n + 0 = off + i from by show off + i * 1 + 0 = off + i; omega] at h
  clear hcell_b
  have i2 : (i : Int) < (l.length : Int) := by omega
  go_wp2
  go_ret
  exact ⟨_, rfl, List.getElem_mem _, hm⟩

set_option maxRecDepth 100000 in
set_option maxHeartbeats 1600000 in
theorem specDrawStr (k : Kur) (v : Value) (l : List ByteArray) (w : World) (h : Cur w k) (hv : ReadsOff (Rep.slice 9 Rep.str) k w [v] l) (hl : 0 < l.length) : Calls Try.prog 62 #[.pointer (some ⟨k.k, 0, none⟩), v] w fun e w' => ∃ x : ByteArray, e = .returned (.string x) ∧ x ∈ l ∧ Mov k w w' := by
  have HV := Lib.hid hv
  obtain ⟨fp, h', _⟩ := hv
  obtain ⟨ao, c1, rfl, hm, _, hu⟩ := slice_open h'
  clear hu h'
  go_enter Try.func62, Try.ntmps62
  go_wp2_with fail
  refine (specBelow k _ _ h).mono ?_
  rintro e w1 ⟨x, rfl, hx0, hx1, hm⟩
  obtain ⟨i, rfl⟩ := Int.eq_ofNat_of_zero_le hx0
  have hi : i < l.length := by have := hx1 (by omega); omega
  obtain ⟨b, off, cs_b, rfl, hw_b, hr_b, hcell_b⟩ := slice_at (HV.out.mov hm).reads i hi
  obtain ⟨fe_b, hrd_b⟩ := hr_b
  obtain ⟨rfl, _, b_s0⟩ := hrd_b
  have b_c0 : w1.cell? ⟨b, off + i, none⟩ = some (.string l[i]) := by have h := hcell_b 0 (by decide); rwa [show off + i * Rep.str.n + 0 = off + i from by show off + i * 1 + 0 = off + i; omega] at h
  clear hcell_b
  have i2 : (i : Int) < (l.length : Int) := by omega
  go_wp2
  go_ret
  exact ⟨_, rfl, List.getElem_mem _, hm⟩

set_option maxRecDepth 100000 in
set_option maxHeartbeats 1600000 in
theorem specDrawBytes (k : Kur) (n : Nat) (w : World) (h : Cur w k) (hn : n ≤ 1000) : Calls Try.prog 89 #[.pointer (some ⟨k.k, 0, none⟩), .int .i64 n] w fun e w' => ∃ (v : Value) (l : List UInt8), e = .returned v ∧ Fresh Rep.bytes w.heap.size w' [v] l ∧ l.length = n ∧ Mov k w w' := by
  obtain ⟨i0, hi, hz0, hz1, hz2⟩ := info_parts Try.infoByte
  have hkw := h.lt
  go_enter Try.func89, Try.ntmps89
  go_wp2
  go_loopw [5, 6] (fun r i wr => ∃ (j : Nat) (l : List UInt8), j ≤ n ∧ i = .int .i64 j ∧ l.length = j ∧ Fresh Rep.bytes w.heap.size wr [r] l ∧ Mov k w wr) (fun _ i _ => n - (intOf i).toNat)
  case atStart => exact ⟨0, [], by omega, rfl, rfl, lit_fresh FlatR.byte (w := w) (xs := #[]) (us := []) rfl rfl (by decide) (by simp) rfl, Mov.below (Mov.refl h) (by repeat (first | with_reducible exact belR | with_reducible apply belA | (with_reducible refine belS ?_ ?_; focus (first | omega | (simp; done) | (simp; omega))) | with_reducible apply belN | with_reducible apply belD | with_reducible assumption))⟩
  case round =>
    obtain ⟨j, l, hj, hi9, hlen, hf, hm⟩ := hrel
    subst hlen
    subst hi9
    obtain ⟨bo, cap, rfl⟩ := hf.slice
    have HM := Lib.hid hm; clear hm
    have HF := Lib.hid hf; clear hf
    by_cases hlt : l.length < n
    · have i2 : (l.length : Int) < (n : Int) := by omega
      go_wp2_with fail
      refine (specByte k _ HM.out.2).mono ?_
      rintro e w1 ⟨x, rfl, hx0, hx1, hm1⟩
      obtain ⟨u, hu⟩ : ∃ u : UInt8, x = (u.toNat : Int) := ⟨UInt8.ofNat x.toNat, by simp; omega⟩
      subst hu
      have hwr : IntKind.u8.wrap (u.toNat : Int) = (u.toNat : Int) := by simp [IntKind.wrap, IntKind.bits, IntKind.signed]; omega
      have HF1 := Lib.hid (HF.out.mov hm1 hkw)
      have HB := Lib.hid (HM.out.trans hm1)
      clear HF
      go_wp2_with (at_builtin; refine wpList_push _ rfl _ _ 22 22 rfl FlatR.byte w.heap.size 5 i0 _ _ Try.underlying22 Try.underlying22 hi hz0 hz1 hz2 rfl _ _ rfl (HF1.out.below (by repeat (first | with_reducible exact belR | with_reducible apply belA | (with_reducible refine belS ?_ ?_; focus (first | omega | (simp; done) | (simp; omega))) | with_reducible apply belN | with_reducible apply belD | with_reducible assumption))) u _ _ _ rfl ?p0a rfl trivial ?p1a ?p2a ?p3a ?_)
      case p0a => first | rfl | simp
      case p1a => omega
      case p2a => decide
      case p3a => have y := HB.out.size; simp; omega
      intro bo' cap' w2 hf2 hb2
      have HF2 := Lib.hid hf2
      have HM2 : Hid (Mov k w w2) := Lib.hid ((HB.out.below (by repeat (first | with_reducible exact belR | with_reducible apply belA | (with_reducible refine belS ?_ ?_; focus (first | omega | (simp; done) | (simp; omega))) | with_reducible apply belN | with_reducible apply belD | with_reducible assumption))).low hb2 (Nat.le_refl _) hkw)
      clear hf2 hb2 HF1 HM HB
      go_wp2
      go_light
      exact ⟨⟨l.length + 1, l ++ [u], by omega, by go_num, by simp, HF2.out, HM2.out⟩, by simp [intOf]; omega⟩
    · have e : l.length = n := by omega
      go_wp2
      go_ret
      exact ⟨_, l, rfl, HF.out, by omega, HM.out⟩

set_option maxRecDepth 100000 in
set_option maxHeartbeats 1600000 in
theorem specNew (v : Value) (l : List UInt8) (w : World) (B : Nat) (h : ∃ fp, Rep.bytes.rd false w [v] l fp ∧ ∀ b ∈ fp, b < B) (hB : B ≤ w.heap.size) (hl : l.length ≤ 1048576) : Calls Try.prog 22 #[v] w fun e w' => ∃ k : Kur, e = .returned (.pointer (some ⟨k.k, 0, none⟩)) ∧ w.heap.size ≤ k.k ∧ k.b = B ∧ Cur w' k ∧ Below w.heap.size w w' := by
  obtain ⟨fp, h', hlB⟩ := h
  have HR : Hid (Reads Rep.bytes w [v] l) := Lib.hid ⟨fp, h'⟩
  have hlt9 := Rep.bytes.lt h'
  have hr9 := Lib.hid h'
  obtain ⟨ao, c1, rfl, hm, _, hu⟩ := slice_open h'
  clear hu h'
  go_enter Try.func22, Try.ntmps22
  go_wp2
  go_loopw [3, 4] (fun x i wr => ∃ (j : Nat) (y : Int), j ≤ l.length ∧ i = .int .i64 j ∧ x = .int .i64 y ∧ wr = w) (fun _ i _ => l.length - (intOf i).toNat)
  case atStart => exact ⟨0, _, by omega, rfl, rfl, rfl⟩
  case round =>
    obtain ⟨j, y, hj, rfl, rfl, hwr⟩ := hrel
    subst hwr
    by_cases hlt : j < l.length
    · obtain ⟨b, off, cs_b, rfl, hw_b, hr_b, hcell_b⟩ := slice_at HR.out j hlt
      obtain ⟨fe_b, hrd_b⟩ := hr_b
      obtain ⟨rfl, _, b_s0⟩ := hrd_b
      have b_c0 : wr.cell? ⟨b, off + j, none⟩ = some (.int .u8 l[j].toNat) := by have h := hcell_b 0 (by decide); rwa [show off + j * Rep.byte.n + 0 = off + j from by show off + j * 1 + 0 = off + j; omega] at h
      have b_u1 : (l[j].toNat : Int) ≤ 255 := by have := l[j].toNat_lt; omega
      clear hcell_b
      have i2 : (j : Int) < (l.length : Int) := by omega
      by_cases hk : j < 4000
      · have i3 : (j : Int) < 4000 := by omega
        go_wp2
        go_light
        exact ⟨⟨j + 1, _, by omega, by go_num, rfl, trivial⟩, by simp [intOf]; omega⟩
      · have i3 : ¬ (j : Int) < 4000 := by omega
        go_wp2
        go_ret
        exact ⟨⟨wr.heap.size, B⟩, rfl, Nat.le_refl _, rfl, ⟨_, l, 0, _, WB.at rfl, ⟨fp, Rep.frame _ hr9.out fun b hb => Below.heap_alloc _ _ _ (hlt9 b hb), hlB⟩, by omega, hB⟩, (by repeat (first | with_reducible exact belR | with_reducible apply belA | (with_reducible refine belS ?_ ?_; focus (first | omega | (simp; done) | (simp; omega))) | with_reducible apply belN | with_reducible apply belD | with_reducible assumption))⟩
    · have i2 : ¬ (j : Int) < (l.length : Int) := by omega
      go_wp2
      go_ret
      exact ⟨⟨wr.heap.size, B⟩, rfl, Nat.le_refl _, rfl, ⟨_, l, 0, _, WB.at rfl, ⟨fp, Rep.frame _ hr9.out fun b hb => Below.heap_alloc _ _ _ (hlt9 b hb), hlB⟩, by omega, hB⟩, (by repeat (first | with_reducible exact belR | with_reducible apply belA | (with_reducible refine belS ?_ ?_; focus (first | omega | (simp; done) | (simp; omega))) | with_reducible apply belN | with_reducible apply belD | with_reducible assumption))⟩

theorem specLitInt (k : Kur) (us : List Int) {xs : Array Value} {n kb : Nat} (w : World) (h : Cur w k) (hkb : kb = w.heap.size) (hx : xs.toList = us.flatMap (fun n => [Value.int .i64 n])) (hn : n = us.length) (h0 : 0 < us.length) (h1 : us.length ≤ 100) :
    Calls Try.prog 51 #[.pointer (some ⟨k.k, 0, none⟩), .slice (some ⟨kb, 0, none⟩) n n] (w.alloc (.cells xs 3)) fun e w' => ∃ x : Int, e = .returned (.int .i64 x) ∧ x ∈ us ∧ Mov k w w' := by
  refine (specDrawInt k _ us _ (h.below (belA belR)) (Fresh.off (lit_fresh FlatR.int hx hn (by unfold maxLen; omega) (fun _ _ => trivial) hkb) (by have := h.lt; omega)) h0).mono ?_
  rintro e w1 ⟨x, rfl, hx, hm⟩
  exact ⟨x, rfl, hx, Mov.belowL (belA belR) hm⟩
theorem specLitStr (k : Kur) (us : List ByteArray) {xs : Array Value} {n kb : Nat} (w : World) (h : Cur w k) (hkb : kb = w.heap.size) (hx : xs.toList = us.flatMap (fun n => [Value.string n])) (hn : n = us.length) (h0 : 0 < us.length) (h1 : us.length ≤ 100) (hs : ∀ x ∈ us, x.size ≤ maxLen) :
    Calls Try.prog 62 #[.pointer (some ⟨k.k, 0, none⟩), .slice (some ⟨kb, 0, none⟩) n n] (w.alloc (.cells xs 9)) fun e w' => ∃ x : ByteArray, e = .returned (.string x) ∧ x ∈ us ∧ Mov k w w' := by
  refine (specDrawStr k _ us _ (h.below (belA belR)) (Fresh.off (lit_fresh FlatR.str hx hn (by unfold maxLen; omega) hs hkb) (by have := h.lt; omega)) h0).mono ?_
  rintro e w1 ⟨x, rfl, hx, hm⟩
  exact ⟨x, rfl, hx, Mov.belowL (belA belR) hm⟩

set_option maxRecDepth 100000 in
set_option maxHeartbeats 1600000 in
theorem specSite (k : Kur) (w : World) (h : Cur w k) : Calls Try.prog 61 #[.pointer (some ⟨k.k, 0, none⟩)] w fun e w' => ∃ x : ByteArray, e = .returned (.string x) ∧ x ∈ [⟨#[98, 97, 110, 107]⟩, ⟨#[115, 104, 111, 112]⟩, ⟨#[110, 101, 119, 115]⟩] ∧ Mov k w w' := by
  go_enter Try.func61, Try.ntmps61
  go_wp2_with fail
  refine (specLitStr k [⟨#[98, 97, 110, 107]⟩, ⟨#[115, 104, 111, 112]⟩, ⟨#[110, 101, 119, 115]⟩] _ h rfl rfl rfl (by decide) (by decide) (by decide)).mono ?_
  rintro e w1 ⟨x, rfl, hx, hm⟩
  go_wp2
  go_ret
  exact ⟨x, rfl, hx, hm⟩

theorem Reads.lo {v : Value} {l : List UInt8} {w w' : World} (h : Reads Rep.bytes w [v] l) (hb : Below w.heap.size w w') : ∃ fp, Rep.bytes.rd false w' [v] l fp ∧ ∀ b ∈ fp, b < w.heap.size := by
  obtain ⟨fp, h⟩ := h
  have hl := Rep.bytes.lt h
  exact ⟨fp, Rep.frame _ h fun b hb' => hb.block b (hl b hb'), hl⟩

end Go.Proofs.Yteajhmpppciicaa
