/-
 CurFam: At, Cur, Ord, Mv, in one text.
-/
import Derived.Deep.RegionLaw
import Derived.Deep.RegionHeld
import Derived.Test.YtlfebehpmefioaaGreatBase

/-
 laws.big, laws.at, laws.sameBytes.
-/
namespace Go.Proofs.YtlfebehpmefioaaGreat
open Go.RowKit

section
theorem lit_src {P : Program} {tx e' : TypeId} {w : World} {n : Nat} {size : Nat} {xs : Array Value} {t : TypeId} (hk : P.underlying tx = some (.slice e')) (hl : xs.size = n * size) (h1 : ∀ u ∈ xs.toList, u.oneCell' = true) :
  Src P size tx (.slice (some ⟨w.heap.size, 0, none⟩) n n) n xs.toList (w.alloc (.cells xs t)) :=
 Src.ofSlice _ hk _ n n _ (by simpa using hl) (fun j u hu => by
  rw [Addr.add_lit, Nat.zero_add, ← hu, Array.getElem?_toList]; simp [go_sem]) h1
end
section
variable {α : Type} {R : Rep α} {enc : α → List Value} {ok : α → Prop}

theorem lit_src' (h : FlatR R enc ok) {P : Program} {tx e' : TypeId} {w : World} {n : Nat} {xs : Array Value} {t : TypeId} {us : List α} (hk : P.underlying tx = some (.slice e')) (hx : xs.toList = us.flatMap enc) (hn : n = us.length) (hok : ∀ x ∈ us, ok x) {k : Nat} (hkk : k = w.heap.size) :
  Src P R.n tx (.slice (some ⟨k, 0, none⟩) n n) us.length (us.flatMap enc) (w.alloc (.cells xs t)) := by
 subst hn; subst hkk
 rw [← hx]
 exact lit_src hk (by rw [← Array.length_toList, hx]; exact flatMap_length h us hok) (by rw [hx]; exact flatMap_one h us hok)

end
def atN (l : List UInt8) (k : Nat) : Int := if h : k < l.length then (l[k].toNat : Int) else (((k * 31 + l.length * 7) % 256 : Nat) : Int)
set_option maxHeartbeats 800000 in
theorem lawBig (v : Value) (l : List UInt8) (w : World) (h : Reads Rep.bytes w [v] l) :
  Calls Tryz.prog 8 #[v] w fun e w' => e = .returned (.bool (decide (1048576 < l.length))) ∧ w = w' := by
 obtain ⟨fp, h⟩ := h
 obtain ⟨ao, c1, rfl, hm, _, hu⟩ := slice_open h
 clear hu h
 go_enter Tryz.func8, Tryz.ntmps8
 go_wp2
 go_ret
 exact ⟨ret_bool (by rw [decide_eq_decide]; omega), rfl⟩

end Go.Proofs.YtlfebehpmefioaaGreat

/-
 The cursor of the draws: l1New, l1Byte, l1Below, l1Once, l1Int, l1Str, l1Bytes.
-/
namespace Go.Proofs.YtlfebehpmefioaaGreat
open Go.RowKit

theorem bits_and_nat (y : Int) (m : Nat) (hm : m < 9223372036854775808) : 0 ≤ bits .and .i64 y m ∧ bits .and .i64 y m ≤ m := by
 unfold bits
 have h : ((BitVec.ofInt 64 y &&& BitVec.ofInt 64 (m : Int)).toNat) ≤ m := by
  have e : (BitVec.ofInt 64 (m : Int)).toNat = m := by simp; omega
  rw [BitVec.toNat_and, e]
  exact Nat.and_le_right
 have e2 := Go.IntWalk.i64_in ((BitVec.ofInt 64 y &&& BitVec.ofInt 64 (m : Int)).toNat : Int) (by omega)
 show 0 ≤ IntKind.i64.wrap ((BitVec.ofInt 64 y &&& BitVec.ofInt 64 (m : Int)).toNat : Int) ∧ IntKind.i64.wrap ((BitVec.ofInt 64 y &&& BitVec.ofInt 64 (m : Int)).toNat : Int) ≤ m
 rw [e2]
 omega
theorem and255 (y : Int) : 0 ≤ bits .and .i64 y 255 ∧ bits .and .i64 y 255 ≤ 255 := bits_and_nat y 255 (by decide)

structure Kur where
 k : Nat
 b : Nat
def Cur (w : World) (k : Kur) : Prop :=
 ∃ (v : Value) (l : List UInt8) (i : Nat) (h : Int), WB w k.k #[v, .int .i64 i, .int .i64 h] ∧ (∃ fp, Rep.bytes.rd false w [v] l fp ∧ ∀ b ∈ fp, b < k.b) ∧ i ≤ l.length ∧ k.b ≤ k.k

theorem Cur.lt {w : World} {k : Kur} (h : Cur w k) : k.k < w.heap.size := by
 obtain ⟨v, l, i, h, hb, _⟩ := h
 exact hb.lt
theorem Cur.below {w w' : World} {k : Kur} (h : Cur w k) (hb : Below w.heap.size w w') : Cur w' k := by
 obtain ⟨v, l, i, h, hw, ⟨fp, hr, hf⟩, hi⟩ := h
 exact ⟨v, l, i, h, hw.keep hb, ⟨fp, Rep.frame _ hr fun b hb' => hb.block b (Rep.lt _ hr b hb'), hf⟩, hi⟩
def Mov (k : Kur) (w w' : World) : Prop := Chg [k.k] w w' ∧ Cur w' k
theorem Mov.trans {k : Kur} {a b c : World} (h : Mov k a b) (h2 : Mov k b c) : Mov k a c := ⟨h.1.trans h2.1, h2.2⟩
theorem Mov.belowL {k : Kur} {a b c : World} (h : Below a.heap.size a b) (h2 : Mov k b c) : Mov k a c := ⟨(Chg.of_below h (Nat.le_refl _)).trans h2.1, h2.2⟩
theorem Mov.below {k : Kur} {a b c : World} (h : Mov k a b) (h2 : Below b.heap.size b c) : Mov k a c := ⟨h.1.trans (Chg.of_below h2 (Nat.le_refl _)), h.2.below h2⟩
theorem Mov.refl {k : Kur} {a : World} (h : Cur a k) : Mov k a a := ⟨Chg.refl, h⟩
theorem Chg.low {fp : List Nat} {B : Nat} {a b c : World} (h : Chg fp a b) (h2 : Below B b c) (hB : a.heap.size ≤ B) : Chg fp a c :=
 ⟨h2.os.trans h.os, h2.tape.trans h.tape, h2.output.trans h.output, Nat.le_trans h.size h2.size, fun i hi hn => (h2.block i (by omega)).trans (h.block i hi hn)⟩
theorem Cur.low {w w' : World} {k : Kur} {B : Nat} (h : Cur w k) (hb : Below B w w') (hk : k.k < B) : Cur w' k := by
 obtain ⟨v, l, i, h, hw, ⟨fp, hr, hf⟩, hi⟩ := h
 exact ⟨v, l, i, h, hw.grow hb hk, ⟨fp, Rep.frame _ hr fun b hb' => hb.block b (by have := hf b hb'; have := hi.2; omega), hf⟩, hi⟩
theorem Mov.low {k : Kur} {B : Nat} {a b c : World} (h : Mov k a b) (h2 : Below B b c) (hB : a.heap.size ≤ B) (hk : k.k < a.heap.size) : Mov k a c := ⟨h.1.low h2 hB, h.2.low h2 (by omega)⟩
theorem Mov.toBelow {k : Kur} {B : Nat} {a b : World} (h : Mov k a b) (hB : B ≤ k.k) (hk : k.k < a.heap.size) : Below B a b := h.1.below (by intro b hb; simp at hb; omega) (by omega)
theorem Fresh.mov {α : Type} {R : Rep α} {B : Nat} {k : Kur} {w w' : World} {cs : List Value} {x : α} (h : Fresh R B w cs x) (hm : Mov k w w') (hk : k.k < B) : Fresh R B w' cs x := by
 obtain ⟨fp, h, h2, h3⟩ := h
 exact ⟨fp, hm.1.keeps h (fun b hb hn => by have := h3 b hb; simp at hn; omega), h2, h3⟩
def ReadsOff {α : Type} (R : Rep α) (k : Kur) (w : World) (cs : List Value) (x : α) : Prop := ∃ fp, R.rd false w cs x fp ∧ k.k ∉ fp
theorem ReadsOff.reads {α : Type} {R : Rep α} {k : Kur} {w : World} {cs : List Value} {x : α} (h : ReadsOff R k w cs x) : Reads R w cs x := by
 obtain ⟨fp, h, _⟩ := h; exact ⟨fp, h⟩
theorem ReadsOff.mov {α : Type} {R : Rep α} {k : Kur} {w w' : World} {cs : List Value} {x : α} (h : ReadsOff R k w cs x) (hm : Mov k w w') : ReadsOff R k w' cs x := by
 obtain ⟨fp, h, hn⟩ := h
 exact ⟨fp, hm.1.keeps h (fun b hb hn' => by simp at hn'; subst hn'; exact hn hb), hn⟩
theorem Fresh.off {α : Type} {R : Rep α} {B : Nat} {k : Kur} {w : World} {cs : List Value} {x : α} (h : Fresh R B w cs x) (hk : k.k < B) : ReadsOff R k w cs x := by
 obtain ⟨fp, h, _, h3⟩ := h
 obtain ⟨fq, h, hs⟩ := R.weak h
 exact ⟨fq, h, fun hb => by have := h3 k.k (hs k.k hb); omega⟩
theorem WB.mov {w w' : World} {k : Kur} {j : Nat} {cs : Array Value} (h : WB w j cs) (hm : Mov k w w') (hk : j ≠ k.k) : WB w' j cs := h.chg hm.1 (by simp; exact hk)
theorem Cur.set {w : World} {k : Kur} {g o : Nat} {u : Value} (h : Cur w k) (h1 : k.b ≤ g) (h2 : k.k ≠ g) : Cur (w.setCell ⟨g, o, none⟩ u) k := by
 obtain ⟨v, l, i, h, hw, ⟨fp, hr, hf⟩, hi⟩ := h
 exact ⟨v, l, i, h, hw.setOther h2, ⟨fp, Rep.frame _ hr fun b hb => Below.heap_setCell _ _ _ _ (by have := hf b hb; simp only []; omega), hf⟩, hi⟩
theorem Mov.size {k : Kur} {a b : World} (h : Mov k a b) : a.heap.size ≤ b.heap.size := h.1.size

theorem wpList_pushC {α : Type} {R : Rep α} {enc : α → List Value} {ok : α → Prop} {P : Program} (w : World) {ops : Array Oper} {rest : List Oper} {o : Oper} {a : Act} {Q : Exit → Act → World → Prop} (hgd : o.guard = none) (s x : Operand) (t tx : TypeId)
  (ho : o.op = .call { callee := .builtin .append, args := #[s, x], argTypes := #[t, tx] })
  (h : FlatR R enc ok) (B : Nat) (e : TypeId) (i : TypeInfo) (z : Value) (bytes : Nat) (ht : P.underlying t = some (.slice e)) {e' : TypeId} (htx : P.underlying tx = some (.slice e')) (hi : P.info? e = some i) (hz : i.zero = some z)
  (hsize : i.size = R.n) (hby : i.bytes = bytes) (hzs : z.cells.size = R.n)
  (v : Value) (l : List α) (hv : a.eval s = v) (hown : Fresh (Rep.slice e R) B w [v] l)
  (u : α) (xs : Array Value) (t2 : TypeId) (k : Nat) (hx : a.eval x = .slice (some ⟨k, 0, none⟩) 1 1) (hk : k = w.heap.size) (hxs : xs.toList = enc u) (hok : ok u)
  (hlen : l.length + 1 ≤ 16777216) (hbytes : bytes ≤ 8388608) (hbase : B ≤ w.heap.size)
  (hgo : ∀ ao cap w', Fresh (Rep.slice e R) B w' [.slice ao (l.length + 1) cap] (l ++ [u]) → (w.alloc (.cells xs t2)).grownBy w' v.ownBlock → (∀ b, (Value.slice ao (l.length + 1) cap).ownBlock = some b → v.ownBlock = some b ∨ w.heap.size ≤ b) →
   wpList P ops Q rest (a.put o.dst (.slice ao (l.length + 1) cap)) w') : wpList P ops Q (o :: rest) a (w.alloc (.cells xs t2)) := by
 have hb : Below w.heap.size w (w.alloc (.cells xs t2)) := (Below.refl _ _).alloc (Nat.le_refl _) _
 have hmul : (l.length + 1) * bytes ≤ 16777216 * 8388608 := Nat.mul_le_mul hlen hbytes
 obtain ⟨ho1, ho2⟩ := h.own (hown.below hb)
 have hge := World.ownsRow.lt ho1
 have hsz := hb.size
 refine wpList_append_src (w.alloc (.cells xs t2)) hgd s x t tx ho B e i z R.n bytes ht hi hz hsize hby hzs v l.length (l.flatMap enc) hv ho1 (.slice (some ⟨k, 0, none⟩) 1 1) [u].length _ hx
  (lit_src' (us := [u]) (n := 1) h htx (by simpa using hxs) rfl (by simpa using hok) hk) (by simp only [List.length_cons, List.length_nil]; omega) (by simp only [List.length_cons, List.length_nil]; unfold maxLen; omega) (by omega) fun ao cap w' h1 h2 h3 => ?_
 refine hgo ao cap w' (h.fresh (B' := B) (by rw [List.length_append, List.flatMap_append]; exact h1) (fun y hy => (List.mem_append.1 hy).elim (ho2 y) (fun hm => by simp at hm; subst hm; exact hok)) fun b hb' => ?_) h2 fun b hb' => ?_
 ·rcases h3 b hb' with hb' | rfl
  ·exact (hge b (by simpa using hb')).1
  ·omega
 ·rcases h3 b (by simpa using hb') with hb' | rfl
  ·exact .inl (by simpa using hb')
  ·exact .inr hsz

set_option maxRecDepth 100000 in
set_option maxHeartbeats 1600000 in
theorem specByte (k : Kur) (w : World) (h : Cur w k) : Calls Tryz.prog 89 #[.pointer (some ⟨k.k, 0, none⟩)] w fun e w' => ∃ x : Int, e = .returned (.int .i64 x) ∧ 0 ≤ x ∧ x ≤ 255 ∧ Mov k w w' := by
 obtain ⟨v, l, i, hh, hb, ⟨fp, hr, hfp⟩, hi⟩ := h
 have HR := Lib.hid hr
 obtain ⟨ao, cp, rfl, hm, hlc, hu⟩ := slice_open hr
 clear hu hr
 have HX := Lib.hid hb
 go_enter Tryz.func89, Tryz.ntmps89
 have ⟨c_HX, z_HX, f_HX⟩ := HX.out
 go_upto_region 2 with fail
 refine settle (fun W => ∃ h2 : Int, WB W k.k #[.slice ao l.length cp, .int .i64 i, .int .i64 h2] ∧ Chg [k.k] w W) ⟨_, HX.out.setAt (i := 2) (by simp) rfl, Chg.set (by simp) Chg.refl⟩ ?_
 clear c_HX z_HX f_HX
 clear HX hb
 rintro w1 ⟨h2, hb1, hc1⟩
 have HX := Lib.hid hb1
 have HR1 : Hid (Reads Rep.bytes w1 [.slice ao l.length cp] l) := Lib.hid ⟨fp, hc1.keeps HR.out (fun b hb hn => by have := hfp b hb; have := hi.2; simp at hn; omega)⟩
 have KX := rg_var HX.out
 have i1 : (0 : Int) ≤ (i : Int) := by omega
 by_cases hlt : i < l.length
 ·obtain ⟨b, off, cs_b, rfl, hw_b, hr_b, hcell_b⟩ := slice_at HR1.out i hlt
  obtain ⟨fe_b, hrd_b⟩ := hr_b
  obtain ⟨rfl, _, b_s0⟩ := hrd_b
  have b_c0 : w1.cell? ⟨b, off + i, none⟩ = some (.int .u8 l[i].toNat) := by have h := hcell_b 0 (by decide); rwa [show off + i * Rep.byte.n + 0 = off + i from by show off + i * 1 + 0 = off + i; omega] at h
  have b_u1 : (l[i].toNat : Int) ≤ 255 := by have := l[i].toNat_lt; omega
  clear hcell_b
  have i2 : (i : Int) < (l.length : Int) := by omega
  have C := rg_cell b_c0
  refine wp_region_rg (by kernel_rfl) (by kernel_rfl) ?_
  repeat (go_big_quiet_step (fail))
  refine wpQuiet_nil ?_
  rintro _ ⟨pq, rfl⟩
  have hq := rg_below w1 pq
  have HX2 := Lib.hid (HX.out.keep hq)
  have b2 := (hq.cell (p := ⟨b, off + i, none⟩) hw_b).trans b_c0
  have hw2 := Nat.lt_of_lt_of_le hw_b hq.size
  have hc2 := hc1.trans (Chg.of_below hq (Nat.le_refl _))
  generalize rg w1 pq = w2 at *
  clear KX C hq HX hb1 b_c0
  go_upto_region 3 with fail
  have KX := rg_var HX2.out
  have C := rg_cell b2
  refine wp_region_rg (by kernel_rfl) (by kernel_rfl) ?_
  repeat (go_big_quiet_step (fail))
  refine wpQuiet_nil ?_
  rintro _ ⟨pq, rfl⟩
  have hq := rg_below w2 pq
  have HX3 := Lib.hid (HX2.out.keep hq)
  have b3 := (hq.cell (p := ⟨b, off + i, none⟩) hw2).trans b2
  have hc3 := hc2.trans (Chg.of_below hq (Nat.le_refl _))
  generalize rg w2 pq = w3 at *
  clear KX C hq HX2 b2
  go_upto_region 4 with fail
  have KX := rg_var HX3.out
  have C := rg_cell b3
  refine wp_region_rg (by kernel_rfl) (by kernel_rfl) ?_
  repeat (go_big_quiet_step (fail))
  refine wpQuiet_nil ?_
  rintro _ ⟨pq, rfl⟩
  have hq := rg_below w3 pq
  have HX4 := Lib.hid (HX3.out.keep hq)
  have hc4 := hc3.trans (Chg.of_below hq (Nat.le_refl _))
  generalize rg w3 pq = w4 at *
  clear KX C hq HX3 b3
  have ⟨c_HX4, z_HX4, f_HX4⟩ := HX4.out
  go_wp2
  go_ret
  refine ⟨_, rfl, (and255 _).1, (and255 _).2, Chg.set (by simp) hc4, ?_⟩
  have hc5 : Chg [k.k] w (w4.setCell ⟨k.k, 1, none⟩ (.int .i64 ((i + 1 : Nat) : Int))) := Chg.set (by simp) hc4
  exact ⟨_, l, i + 1, h2, HX4.out.setAt (i := 1) (by simp) rfl, ⟨fp, hc5.keeps HR.out (fun b hb hn => by have := hfp b hb; have := hi.2; simp at hn; omega), hfp⟩, by omega, hi.2⟩
 ·have i2 : ¬ (i : Int) < (l.length : Int) := by omega
  refine wp_region_rg (by kernel_rfl) (by kernel_rfl) ?_
  repeat (go_big_quiet_step (fail))
  refine wpQuiet_nil ?_
  rintro _ ⟨pq, rfl⟩
  have hq := rg_below w1 pq
  have HX2 := Lib.hid (HX.out.keep hq)
  have hc2 := hc1.trans (Chg.of_below hq (Nat.le_refl _))
  generalize rg w1 pq = w2 at *
  clear KX hq HX hb1
  go_upto_region 3 with fail
  have KX := rg_var HX2.out
  refine wp_region_rg (by kernel_rfl) (by kernel_rfl) ?_
  repeat (go_big_quiet_step (fail))
  refine wpQuiet_nil ?_
  rintro _ ⟨pq, rfl⟩
  have hq := rg_below w2 pq
  have HX3 := Lib.hid (HX2.out.keep hq)
  have hc3 := hc2.trans (Chg.of_below hq (Nat.le_refl _))
  generalize rg w2 pq = w3 at *
  clear KX hq HX2
  go_wp2
  go_ret
  refine ⟨_, rfl, (and255 _).1, (and255 _).2, hc3, ?_⟩
  exact ⟨_, l, i, h2, HX3.out, ⟨fp, hc3.keeps HR.out (fun b hb hn => by have := hfp b hb; have := hi.2; simp at hn; omega), hfp⟩, by omega, hi.2⟩

theorem emod_in (x : Int) {n : Int} (hn : 0 < n) : 0 ≤ x % n ∧ x % n < n := by
 exact ⟨Int.emod_nonneg _ (by omega), Int.emod_lt_of_pos _ hn⟩

set_option maxRecDepth 100000 in
set_option maxHeartbeats 1600000 in
theorem specBelow (k : Kur) (n : Int) (w : World) (h : Cur w k) : Calls Tryz.prog 43 #[.pointer (some ⟨k.k, 0, none⟩), .int .i64 n] w fun e w' => ∃ x : Int, e = .returned (.int .i64 x) ∧ 0 ≤ x ∧ (0 < n → x < n) ∧ Mov k w w' := by
 by_cases h0 : n ≤ 0
 ·go_enter Tryz.func43, Tryz.ntmps43
  go_wp2
  go_ret
  exact ⟨0, rfl, by omega, by omega, Mov.refl h⟩
 ·by_cases h1 : n ≤ 256
  ·go_enter Tryz.func43, Tryz.ntmps43
   go_wp2_with (go_at_call 89; refine (specByte k _ h).mono ?_; rintro e w1 ⟨x, rfl, hx0, hx1, hm⟩)
   go_ret
   have y := emod_in x (n := n) (by omega)
   exact ⟨_, rfl, y.1, fun _ => y.2, hm⟩
  ·go_enter Tryz.func43, Tryz.ntmps43
   go_wp2_with fail
   refine (specByte k _ h).mono ?_
   rintro e w1 ⟨x, rfl, hx0, hx1, hm⟩
   go_wp2_with fail
   refine (specByte k _ hm.2).mono ?_
   rintro e w2 ⟨y, rfl, hy0, hy1, hm2⟩
   go_wp2_with fail
   refine (specByte k _ hm2.2).mono ?_
   rintro e w3 ⟨z, rfl, hz0, hz1, hm3⟩
   go_wp2
   go_ret
   have q := emod_in (x * 65536 + y * 256 + z) (n := n) (by omega)
   exact ⟨_, rfl, q.1, fun _ => q.2, (hm.trans hm2).trans hm3⟩

set_option maxRecDepth 100000 in
set_option maxHeartbeats 1600000 in
theorem specOnce (k : Kur) (n : Int) (w : World) (h : Cur w k) : Calls Tryz.prog 42 #[.pointer (some ⟨k.k, 0, none⟩), .int .i64 n] w fun e w' => ∃ x : Bool, e = .returned (.bool x) ∧ Mov k w w' := by
 go_enter Tryz.func42, Tryz.ntmps42
 go_wp2_with (go_at_call 43; refine (specBelow k _ _ h).mono ?_; rintro e w1 ⟨x, rfl, hx0, hx1, hm⟩)
 go_ret
 exact ⟨_, rfl, hm⟩

set_option maxRecDepth 100000 in
set_option maxHeartbeats 1600000 in
theorem specDrawInt (k : Kur) (v : Value) (l : List Int) (w : World) (h : Cur w k) (hv : ReadsOff (Rep.slice 3 Rep.int) k w [v] l) (hl : 0 < l.length) : Calls Tryz.prog 85 #[.pointer (some ⟨k.k, 0, none⟩), v] w fun e w' => ∃ x : Int, e = .returned (.int .i64 x) ∧ x ∈ l ∧ Mov k w w' := by
 have HV := Lib.hid hv
 obtain ⟨fp, h', _⟩ := hv
 obtain ⟨ao, c1, rfl, hm, _, hu⟩ := slice_open h'
 clear hu h'
 go_enter Tryz.func85, Tryz.ntmps85
 go_wp2_with fail
 refine (specBelow k _ _ h).mono ?_
 rintro e w1 ⟨x, rfl, hx0, hx1, hm⟩
 obtain ⟨i, rfl⟩ := Int.eq_ofNat_of_zero_le hx0
 have hi : i < l.length := by have := hx1 (by omega); omega
 obtain ⟨b, off, cs_b, rfl, hw_b, hr_b, hcell_b⟩ := slice_at (HV.out.mov hm).reads i hi
 obtain ⟨fe_b, hrd_b⟩ := hr_b
 obtain ⟨rfl, _, b_s0⟩ := hrd_b
 have b_c0 : w1.cell? ⟨b, off + i, none⟩ = some (.int .i64 l[i]) := by have h := hcell_b 0 (by decide); rwa [show off + i * Rep.int.n + 0 = off + i from by show off + i * 1 + 0 = off + i; omega] at h
 clear hcell_b
 have i2 : (i : Int) < (l.length : Int) := by omega
 go_wp2
 go_ret
 exact ⟨_, rfl, List.getElem_mem _, hm⟩

set_option maxRecDepth 100000 in
set_option maxHeartbeats 1600000 in
theorem specDrawStr (k : Kur) (v : Value) (l : List ByteArray) (w : World) (h : Cur w k) (hv : ReadsOff (Rep.slice 9 Rep.str) k w [v] l) (hl : 0 < l.length) : Calls Tryz.prog 127 #[.pointer (some ⟨k.k, 0, none⟩), v] w fun e w' => ∃ x : ByteArray, e = .returned (.string x) ∧ x ∈ l ∧ Mov k w w' := by
 have HV := Lib.hid hv
 obtain ⟨fp, h', _⟩ := hv
 obtain ⟨ao, c1, rfl, hm, _, hu⟩ := slice_open h'
 clear hu h'
 go_enter Tryz.func127, Tryz.ntmps127
 go_wp2_with fail
 refine (specBelow k _ _ h).mono ?_
 rintro e w1 ⟨x, rfl, hx0, hx1, hm⟩
 obtain ⟨i, rfl⟩ := Int.eq_ofNat_of_zero_le hx0
 have hi : i < l.length := by have := hx1 (by omega); omega
 obtain ⟨b, off, cs_b, rfl, hw_b, hr_b, hcell_b⟩ := slice_at (HV.out.mov hm).reads i hi
 obtain ⟨fe_b, hrd_b⟩ := hr_b
 obtain ⟨rfl, _, b_s0⟩ := hrd_b
 have b_c0 : w1.cell? ⟨b, off + i, none⟩ = some (.string l[i]) := by have h := hcell_b 0 (by decide); rwa [show off + i * Rep.str.n + 0 = off + i from by show off + i * 1 + 0 = off + i; omega] at h
 clear hcell_b
 have i2 : (i : Int) < (l.length : Int) := by omega
 go_wp2
 go_ret
 exact ⟨_, rfl, List.getElem_mem _, hm⟩

set_option maxRecDepth 100000 in
set_option maxHeartbeats 1600000 in
theorem specNew (v : Value) (l : List UInt8) (w : World) (B : Nat) (h : ∃ fp, Rep.bytes.rd false w [v] l fp ∧ ∀ b ∈ fp, b < B) (hB : B ≤ w.heap.size) (hl : l.length ≤ 1048576) : Calls Tryz.prog 39 #[v] w fun e w' => ∃ k : Kur, e = .returned (.pointer (some ⟨k.k, 0, none⟩)) ∧ w.heap.size ≤ k.k ∧ k.b = B ∧ Cur w' k ∧ Below w.heap.size w w' := by
 obtain ⟨fp, h', hlB⟩ := h
 have HR : Hid (Reads Rep.bytes w [v] l) := Lib.hid ⟨fp, h'⟩
 have hlt9 := Rep.bytes.lt h'
 have hr9 := Lib.hid h'
 obtain ⟨ao, c1, rfl, hm, _, hu⟩ := slice_open h'
 clear hu h'
 go_enter Tryz.func39, Tryz.ntmps39
 go_wp2
 go_loopw [3, 4] (fun x i wr => ∃ (j : Nat) (y : Int), j ≤ l.length ∧ i = .int .i64 j ∧ x = .int .i64 y ∧ wr = w) (fun _ i _ => l.length - (intOf i).toNat)
 case atStart => exact ⟨0, _, by omega, rfl, rfl, rfl⟩
 case round =>
  obtain ⟨j, y, hj, rfl, rfl, hwr⟩ := hrel
  subst hwr
  by_cases hlt : j < l.length
  ·obtain ⟨b, off, cs_b, rfl, hw_b, hr_b, hcell_b⟩ := slice_at HR.out j hlt
   obtain ⟨fe_b, hrd_b⟩ := hr_b
   obtain ⟨rfl, _, b_s0⟩ := hrd_b
   have b_c0 : wr.cell? ⟨b, off + j, none⟩ = some (.int .u8 l[j].toNat) := by have h := hcell_b 0 (by decide); rwa [show off + j * Rep.byte.n + 0 = off + j from by show off + j * 1 + 0 = off + j; omega] at h
   have b_u1 : (l[j].toNat : Int) ≤ 255 := by have := l[j].toNat_lt; omega
   clear hcell_b
   have i2 : (j : Int) < (l.length : Int) := by omega
   by_cases hk : j < 4000
   ·have i3 : (j : Int) < 4000 := by omega
    go_wp2
    go_light
    exact ⟨⟨j + 1, _, by omega, by go_num, rfl, trivial⟩, by simp [intOf]; omega⟩
   ·have i3 : ¬ (j : Int) < 4000 := by omega
    go_wp2
    go_ret
    exact ⟨⟨wr.heap.size, B⟩, rfl, Nat.le_refl _, rfl, ⟨_, l, 0, _, WB.at rfl, ⟨fp, Rep.frame _ hr9.out fun b hb => Below.heap_alloc _ _ _ (hlt9 b hb), hlB⟩, by omega, hB⟩, bEl⟩
  ·have i2 : ¬ (j : Int) < (l.length : Int) := by omega
   go_wp2
   go_ret
   exact ⟨⟨wr.heap.size, B⟩, rfl, Nat.le_refl _, rfl, ⟨_, l, 0, _, WB.at rfl, ⟨fp, Rep.frame _ hr9.out fun b hb => Below.heap_alloc _ _ _ (hlt9 b hb), hlB⟩, by omega, hB⟩, bEl⟩

theorem specLitInt (k : Kur) (us : List Int) {xs : Array Value} {n kb : Nat} (w : World) (h : Cur w k) (hkb : kb = w.heap.size) (hx : xs.toList = us.flatMap (fun n => [Value.int .i64 n])) (hn : n = us.length) (h0 : 0 < us.length) (h1 : us.length ≤ 100) :
  Calls Tryz.prog 85 #[.pointer (some ⟨k.k, 0, none⟩), .slice (some ⟨kb, 0, none⟩) n n] (w.alloc (.cells xs 3)) fun e w' => ∃ x : Int, e = .returned (.int .i64 x) ∧ x ∈ us ∧ Mov k w w' := by
 refine (specDrawInt k _ us _ (h.below (belA belR)) (Fresh.off (lit_fresh FlatR.int hx hn (by unfold maxLen; omega) (fun _ _ => trivial) hkb) (by have := h.lt; omega)) h0).mono ?_
 rintro e w1 ⟨x, rfl, hx, hm⟩
 exact ⟨x, rfl, hx, Mov.belowL (belA belR) hm⟩
theorem specLitStr (k : Kur) (us : List ByteArray) {xs : Array Value} {n kb : Nat} (w : World) (h : Cur w k) (hkb : kb = w.heap.size) (hx : xs.toList = us.flatMap (fun n => [Value.string n])) (hn : n = us.length) (h0 : 0 < us.length) (h1 : us.length ≤ 100) (hs : ∀ x ∈ us, x.size ≤ maxLen) :
  Calls Tryz.prog 127 #[.pointer (some ⟨k.k, 0, none⟩), .slice (some ⟨kb, 0, none⟩) n n] (w.alloc (.cells xs 9)) fun e w' => ∃ x : ByteArray, e = .returned (.string x) ∧ x ∈ us ∧ Mov k w w' := by
 refine (specDrawStr k _ us _ (h.below (belA belR)) (Fresh.off (lit_fresh FlatR.str hx hn (by unfold maxLen; omega) hs hkb) (by have := h.lt; omega)) h0).mono ?_
 rintro e w1 ⟨x, rfl, hx, hm⟩
 exact ⟨x, rfl, hx, Mov.belowL (belA belR) hm⟩

theorem Reads.lo {v : Value} {l : List UInt8} {w w' : World} (h : Reads Rep.bytes w [v] l) (hb : Below w.heap.size w w') : ∃ fp, Rep.bytes.rd false w' [v] l fp ∧ ∀ b ∈ fp, b < w.heap.size := by
 obtain ⟨fp, h⟩ := h
 have hl := Rep.bytes.lt h
 exact ⟨fp, Rep.frame _ h fun b hb' => hb.block b (hl b hb'), hl⟩

end Go.Proofs.YtlfebehpmefioaaGreat

/-
 A region that draws its order, walked once: loads and what only reckons are taken first (in a class S of worlds that the calls keep), each call where nothing else may come up, the stores last.
-/
namespace Go.Proofs.YtlfebehpmefioaaGreat
open Go.RowKit

def waitsOn (o : Oper) (i : Nat) : Bool := o.after.any fun e => Region.binds .any e && e.on == i
def lowEdges (o : Oper) (n : Nat) : Bool := o.after.all fun e => !Region.binds .any e || decide (e.on < n)
def isExtr (o : Oper) : Bool := match o.op, o.guard with | .extract _ _, none => true | _, _ => false
theorem waitsOn_iff {o : Oper} {i : Nat} : waitsOn o i = true ↔ ∃ e ∈ o.after, Region.binds .any e = true ∧ e.on = i := by
 unfold waitsOn
 rw [← Array.any_toList, List.any_eq_true]
 simp
def isPlain (o : Oper) : Bool := match o.op with | .move _ | .indexAddr _ _ _ | .load _ _ | .fieldAddr _ _ _ | .binOp _ _ _ _ _ | .build _ _ | .extract _ _ | .field _ _ _ | .assign _ => true | _ => false

section
variable {P : Program} {ops : Array Oper} {Q : Exit → Act → World → Prop} {S : World → Prop} {M : List Nat}

theorem plain_value {o : Oper} (ho : isPlain o = true) {ρ : Operand → Value} {w w' : World} {n : Next} (h : (execOp ρ o).run P w = .ok n w') : ∃ u, n = .value u := by
 obtain ⟨dst, op, type, pos, after, guard⟩ := o
 unfold isPlain at ho
 have key : ∀ (x : Sem Value), ((do let u ← x; pure (Next.value u) : Sem Next).run P w = .ok n w') → ∃ u, n = .value u := by
  intro x hx
  simp only [Sem.run_bind] at hx
  cases hr : x.run P w with
  | ok u w2 =>
   rw [hr] at hx
   simp only [Result.andThen_ok, Sem.run_pure] at hx
   injection hx with e1 e2
   exact ⟨u, e1.symm⟩
  | halt y w2 =>
   rw [hr] at hx
   simp [Result.andThen] at hx
 cases op <;> first
  | (simp at ho; done)
  | exact key _ h
  | (rename_i y; have h' : (Result.ok (Next.value (ρ y)) w : Result Next) = .ok n w' := h; injection h' with e1; exact ⟨_, e1.symm⟩)

theorem extr_cases (x : Value) (ix : Nat) : (∃ v, Instr.extract x ix = pure v) ∨ ∃ m, Instr.extract x ix = stuck m := by
 unfold Instr.extract
 cases x
 case tuple vs =>
  cases hv : vs[ix]?
  ·right; exact ⟨"Extract: no such component", by simp only [hv]⟩
  ·left; rename_i v; exact ⟨v, by simp only [hv]⟩
 all_goals (right; exact ⟨_, rfl⟩)

theorem extr_yields {o : Oper} (ho : isExtr o = true) {a : Act} {w : World} {K : Act → World → Prop} {Q' : Exit → Act → World → Prop} {ops : Array Oper}
  (h : if Region.wanted o (yielded ops a.tmps) = true then o.wp P a w K Q' ∨ (o.asks P a w ∧ LetsOut Q') else K (a.put o.dst undef) w) : o.guard = none ∧ ∃ v, (∀ w, (execOp a.eval o).run P w = .ok (.value v) w) ∧ K (a.put o.dst v) w := by
 obtain ⟨dst, op, type, pos, after, guard⟩ := o
 unfold isExtr at ho
 cases op <;> try (simp at ho; done)
 rename_i t ix
 cases guard
 case some => simp at ho
 refine ⟨rfl, ?_⟩
 have hw : Region.wanted (⟨dst, .extract t ix, type, pos, after, none⟩ : Oper) (yielded ops a.tmps) = true := by simp [Region.wanted]
 rw [if_pos hw] at h
 rcases extr_cases (a.eval t) ix with ⟨v, hv⟩ | ⟨m, hm⟩
 ·have hr : ∀ w, (execOp a.eval (⟨dst, .extract t ix, type, pos, after, none⟩ : Oper)).run P w = .ok (.value v) w := fun w => by
   simp only [execOp, hv]; rfl
  refine ⟨v, hr, ?_⟩
  rcases h with h | ⟨h, _⟩
  ·unfold Oper.wp at h
   rw [hr] at h
   exact h
  ·unfold Oper.asks at h
   have h1 := h.1
   simp only [execOp, hv] at h1
   exact absurd h1 (by intro h; cases h; rename_i h; cases h)
 ·have hr : ∀ w, (execOp a.eval (⟨dst, .extract t ix, type, pos, after, none⟩ : Oper)).run P w = .halt (.stuck m) w := fun w => by
   simp only [execOp, hm]; rfl
  rcases h with h | ⟨h, _⟩
  ·unfold Oper.wp at h
   rw [hr] at h
   exact h.elim
  ·unfold Oper.asks at h
   have h1 := h.1
   simp only [execOp, hm] at h1
   exact absurd h1 (by intro h; cases h; rename_i h; cases h)

def mark (n : Nat) (D : List Nat) : Array Bool := D.foldl (fun l i => l.setIfInBounds i true) (Array.replicate n false)
theorem mark_snoc (n : Nat) (D : List Nat) (i : Nat) : mark n (D ++ [i]) = (mark n D).setIfInBounds i true := by unfold mark; simp

def wpAnyU (P : Program) (ops : Array Oper) (Q : Exit → Act → World → Prop) (S : World → Prop) (M : List Nat) : Nat → Array Bool → Act → World → Prop
 | 0, listed, a, w => Region.ready .any ops listed = [] ∧ Q .normal a w
 | fuel + 1, listed, a, w =>
  (Region.ready .any ops listed = [] → Q .normal a w) ∧
  ∀ i ∈ Region.ready .any ops listed, wpOp P ops Q i (fun a' w' => (i ∈ M ∨ S w') ∧ wpAnyU P ops Q S M fuel (listed.setIfInBounds i true) a' w') a w

theorem wpAny_of_u : ∀ (fuel : Nat) (listed : Array Bool) (a : Act) (w : World), wpAnyU P ops Q S M fuel listed a w → wpAny P .any ops Q fuel listed a w
 | 0, _, _, _, h => h
 | fuel + 1, _, _, _, h => ⟨h.1, fun i hi => wpOp_mono (fun a' w' h' => wpAny_of_u fuel _ a' w' h'.2) (h.2 i hi)⟩

def heldB (ops : Array Oper) (M : List Nat) (i : Nat) : Bool := M.all fun m => match ops[m]? with | none => true | some o => waitsOn o i || isExtr o

theorem wpAnyU_first {i : Nat} {oi : Oper} {v : Value} (hi : ops[i]? = some oi) (hsel : ∀ (j : Nat) (o : Oper) cs b, ops[j]? = some o → o.op ≠ .select cs b)
  (hQ : ∀ c a w, Q (.panic c) (a.put oi.dst v) w → Q (.panic c) a w) (hM : heldB ops M i = true) :
  ∀ (fuel : Nat) (listed : Array Bool) (a : Act) (w : World),
   (∀ j oj, ops[j]? = some oj → j ≠ i → listed.getD j true = false → (∀ e ∈ oj.after, Region.binds .any e = true → e.on ≠ i) → oi.apart ops oj = true) →
   i ∈ Region.ready .any ops listed → YieldsIf P ops S oi v a → S w →
   wpAnyU P ops Q S M fuel (listed.setIfInBounds i true) (a.put oi.dst v) w → wpAnyU P ops Q S M (fuel + 1) listed a w := by
 intro fuel
 induction fuel with
 | zero =>
  intro listed a w _ hr hy hS H
  refine ⟨fun h => (by rw [h] at hr; cases hr), fun j hj => ?_⟩
  by_cases hji : j = i
  ·subst hji; exact hy.wpOp hi hS ⟨.inr hS, H⟩
  ·have := ready_mono hj hji
   rw [H.1] at this
   cases this
 | succ fuel ih =>
  intro listed a w hfree hr hy hS H
  refine ⟨fun h => (by rw [h] at hr; cases hr), fun j hj => ?_⟩
  by_cases hji : j = i
  ·subst hji; exact hy.wpOp hi hS ⟨.inr hS, H⟩
  ·have h1 := H.2 j (ready_mono hj hji)
   obtain ⟨hjun, oj, hoj, hall⟩ := mem_ready.1 hj
   have hnot : ∀ e ∈ oj.after, Region.binds .any e = true → e.on ≠ i := fun e he hb heq => by
    have h1 := hall e he hb
    have h0 := (mem_ready.1 hr).1
    rw [heq] at h1
    rcases Nat.lt_or_ge i listed.size with h' | h'
    ·simp [h'] at h0 h1; rw [h0] at h1; cases h1
    ·simp [Array.getElem?_eq_none h'] at h1
   have hfree' : ∀ k ok, ops[k]? = some ok → k ≠ i → (listed.setIfInBounds j true).getD k true = false →
     (∀ e ∈ ok.after, Region.binds .any e = true → e.on ≠ i) → oi.apart ops ok = true := fun k ok hk hki hun hno => by
    refine hfree k ok hk hki ?_ hno
    by_cases hjk : j = k
    ·subst hjk; exact hjun
    ·rw [getD_set_ne true hjk] at hun; exact hun
   have hap := hfree j oj hoj hji hjun hnot
   by_cases hjM : j ∈ M
   ·-- an extract: the world stays
    have hex : isExtr oj = true := by
     unfold heldB at hM
     rw [List.all_eq_true] at hM
     have := hM j hjM
     rw [hoj] at this
     simp only [Bool.or_eq_true] at this
     rcases this with h | h
     ·obtain ⟨e, he, hb, h5⟩ := waitsOn_iff.1 h
      exact absurd h5 (hnot e he hb)
     ·exact h
    obtain ⟨p1, p2, p3⟩ := Oper.apart_spec hap
    have hsj := fun cs b => hsel j oj cs b hoj
    have hsi := fun cs b => hsel i oi cs b hi
    have h2 := h1
    unfold wpOp at h2 ⊢
    rw [hoj] at h2 ⊢
    obtain ⟨hg, u, hu, hK⟩ := extr_yields hex h2
    have hw : Region.wanted oj (yielded ops a.tmps) = true := by simp [Region.wanted, hg]
    simp only [hw, if_true]
    refine .inl ?_
    unfold Oper.wp
    have hu' := hu w
    rw [execOp_put oj hsj a oi.dst v p1] at hu'
    rw [hu']
    refine ⟨.inl hjM, ih (listed.setIfInBounds j true) _ w hfree' (ready_mono hr (Ne.symm hji)) (hy.of_same (execOp_put oi hsi a oj.dst u p3) (wanted_put oi a oj.dst u p3)) hS ?_⟩
    rw [Array.setIfInBounds_comm _ _ hji, ← Act.put_comm a v u p2]
    exact hK.2
   ·have h2 := wpOp_putIf hoj hap (fun cs b => hsel i oi cs b hi) (fun cs b => hsel j oj cs b hoj) hQ hy h1
    refine wpOp_mono (fun a' w' h3 => ⟨h3.2.1, ih (listed.setIfInBounds j true) a' w' hfree' (ready_mono hr (Ne.symm hji)) h3.1 (h3.2.1.resolve_left hjM) ?_⟩) h2
    rw [Array.setIfInBounds_comm _ _ hji]
    exact h3.2.2

theorem extr_first {i : Nat} {oi : Oper} {v : Value} (hi : ops[i]? = some oi) (hsel : ∀ (j : Nat) (o : Oper) cs b, ops[j]? = some o → o.op ≠ .select cs b)
  (hQ : ∀ c a w, Q (.panic c) (a.put oi.dst v) w → Q (.panic c) a w) (hM : i ∈ M) :
  ∀ (fuel : Nat) (listed : Array Bool) (a : Act) (w : World),
   (∀ j oj, ops[j]? = some oj → j ≠ i → listed.getD j true = false → (∀ e ∈ oj.after, Region.binds .any e = true → e.on ≠ i) → oi.apart ops oj = true) →
   i ∈ Region.ready .any ops listed → YieldsIf P ops (fun _ => True) oi v a →
   wpAnyU P ops Q S M fuel (listed.setIfInBounds i true) (a.put oi.dst v) w → wpAnyU P ops Q S M (fuel + 1) listed a w := by
 intro fuel
 induction fuel with
 | zero =>
  intro listed a w _ hr hy H
  refine ⟨fun h => (by rw [h] at hr; cases hr), fun j hj => ?_⟩
  by_cases hji : j = i
  ·subst hji; exact hy.wpOp hi trivial ⟨.inl hM, H⟩
  ·have := ready_mono hj hji
   rw [H.1] at this
   cases this
 | succ fuel ih =>
  intro listed a w hfree hr hy H
  refine ⟨fun h => (by rw [h] at hr; cases hr), fun j hj => ?_⟩
  by_cases hji : j = i
  ·subst hji; exact hy.wpOp hi trivial ⟨.inl hM, H⟩
  ·have h1 := H.2 j (ready_mono hj hji)
   obtain ⟨hjun, oj, hoj, hall⟩ := mem_ready.1 hj
   have hnot : ∀ e ∈ oj.after, Region.binds .any e = true → e.on ≠ i := fun e he hb heq => by
    have h1 := hall e he hb
    have h0 := (mem_ready.1 hr).1
    rw [heq] at h1
    rcases Nat.lt_or_ge i listed.size with h' | h'
    ·simp [h'] at h0 h1; rw [h0] at h1; cases h1
    ·simp [Array.getElem?_eq_none h'] at h1
   have hfree' : ∀ k ok, ops[k]? = some ok → k ≠ i → (listed.setIfInBounds j true).getD k true = false →
     (∀ e ∈ ok.after, Region.binds .any e = true → e.on ≠ i) → oi.apart ops ok = true := fun k ok hk hki hun hno => by
    refine hfree k ok hk hki ?_ hno
    by_cases hjk : j = k
    ·subst hjk; exact hjun
    ·rw [getD_set_ne true hjk] at hun; exact hun
   have hap := hfree j oj hoj hji hjun hnot
   have h2 := wpOp_putIf hoj hap (fun cs b => hsel i oi cs b hi) (fun cs b => hsel j oj cs b hoj) hQ hy h1
   refine wpOp_mono (fun a' w' h3 => ⟨h3.2.1, ih (listed.setIfInBounds j true) a' w' hfree' (ready_mono hr (Ne.symm hji)) h3.1 ?_⟩) h2
   rw [Array.setIfInBounds_comm _ _ hji]
   exact h3.2.2

theorem extr_any {o : Oper} (ho : isExtr o = true) {ρ : Operand → Value} {w : World} {v : Value} (h : (execOp ρ o).run P w = .ok (.value v) w) : o.guard = none ∧ ∀ w', (execOp ρ o).run P w' = .ok (.value v) w' := by
 obtain ⟨dst, op, type, pos, after, guard⟩ := o
 unfold isExtr at ho
 cases op <;> try (simp at ho; done)
 rename_i t ix
 cases guard
 case some => simp at ho
 refine ⟨rfl, fun w' => ?_⟩
 rcases extr_cases (ρ t) ix with ⟨u, hu⟩ | ⟨m, hm⟩
 ·have e : (Result.ok (Next.value u) w : Result Next) = .ok (.value v) w := by
   simp only [execOp, hu] at h
   exact h
  simp only [execOp, hu]
  injection e with e1
  injection e1 with e2
  subst e2
  rfl
 ·simp only [execOp, hm] at h
  cases h

theorem quiet_value {o : Oper} (ho : isPlain o = true) {a : Act} {v : Value} {w : World} {C : World → Prop} (h : o.quietAt P a C w v) : (execOp a.eval o).run P w = .ok (.value v) w := by
 unfold Oper.quietAt at h
 have hp := fun n w' => plain_value (P := P) ho (ρ := a.eval) (w := w) (w' := w') (n := n)
 generalize (execOp a.eval o).run P w = r at *
 cases r with
 | ok n w' =>
  obtain ⟨u, rfl⟩ := hp n w' rfl
  simp only [Oper.quietUpon] at h
  obtain ⟨rfl, rfl⟩ := h
  rfl
 | halt x w' => simp only [Oper.quietUpon] at h

def wpU (P : Program) (ops : Array Oper) (Q : Exit → Act → World → Prop) (S : World → Prop) (M D : List Nat) (a : Act) (w : World) : Prop := wpAnyU P ops Q S M (ops.size - D.length) (mark ops.size D) a w
def pick (l : List Oper) : List Nat → Option (List Oper)
 | [] => some []
 | i :: G => match l[i]?, pick l G with | some o, some os => some (o :: os) | _, _ => none
def groupB (ops : Array Oper) (M : List Nat) : List Nat → List Nat → Bool
 | _, [] => true
 | D, i :: G => (decide (D.length < ops.size) && ((Region.ready .any ops (mark ops.size D)).contains i && (Region.free .any ops (mark ops.size D) i && match ops[i]? with | none => false | some o => isPlain o && (heldB ops M i || (M.contains i && isExtr o))))) && groupB ops M (D ++ [i]) G

theorem pick_cons {l : List Oper} {i : Nat} {G : List Nat} {os : List Oper} (h : pick l (i :: G) = some os) : ∃ o os', l[i]? = some o ∧ pick l G = some os' ∧ os = o :: os' := by
 unfold pick at h
 split at h
 ·rename_i o os' h1 h2
  exact ⟨o, os', h1, h2, (Option.some.inj h).symm⟩
 ·cases h

theorem wpU_group {l : List Oper} (hQ : ∀ c (a : Act) (d : Option Tmp) (v : Value) w, Q (.panic c) (a.put d v) w → Q (.panic c) a w) (hn : Region.noSelect l.toArray = true) {w : World} (hS : S w) : ∀ (G D : List Nat) (os : List Oper) (a : Act), pick l G = some os → groupB l.toArray M D G = true →
  wpQuiet P l.toArray S (fun a' => wpU P l.toArray Q S M (D ++ G) a' w) os a → wpU P l.toArray Q S M D a w
 | [], D, os, a, hp, _, h => by
  obtain rfl := Option.some.inj hp
  simpa [wpQuiet] using h
 | i :: G, D, os, a, hp, hG, h => by
  obtain ⟨o, os', h1, h2, rfl⟩ := pick_cons hp
  unfold groupB at hG
  have hi : l.toArray[i]? = some o := by simpa using h1
  simp only [hi, Bool.and_eq_true, decide_eq_true_eq, Bool.or_eq_true] at hG
  obtain ⟨⟨hD, hr, hf, hpl, hM⟩, hG⟩ := hG
  unfold wpQuiet at h
  have hsz : l.toArray.size - D.length = (l.toArray.size - (D ++ [i]).length) + 1 := by simp at hD ⊢; omega
  have step : ∀ v, YieldsIf P l.toArray S o v a → (isExtr o = true → YieldsIf P l.toArray (fun _ => True) o v a) → wpQuiet P l.toArray S (fun a' => wpU P l.toArray Q S M (D ++ (i :: G)) a' w) os' (a.put o.dst v) → wpU P l.toArray Q S M D a w := by
   intro v hy hy2 hrest
   have hrest2 := wpU_group hQ hn hS G (D ++ [i]) os' _ h2 hG (by simpa using hrest)
   unfold wpU at hrest2 ⊢
   rw [mark_snoc] at hrest2
   rw [hsz]
   rcases hM with hM | ⟨hM, hex⟩
   ·exact wpAnyU_first hi (Region.noSelect_spec hn) (fun c a w => hQ c a _ v w) hM _ _ _ _ (Region.free_spec hi hf) (by simpa using hr) hy hS hrest2
   ·exact extr_first hi (Region.noSelect_spec hn) (fun c a w => hQ c a _ v w) (by simpa using hM) _ _ _ _ (Region.free_spec hi hf) (by simpa using hr) (hy2 hex) hrest2
  by_cases hw : Region.wanted o (yielded l.toArray a.tmps) = true
  ·rw [if_pos hw] at h
   obtain ⟨v, hv, hrest⟩ := h
   exact step v (.inl ⟨hw, fun w' hw' => quiet_value hpl (hv w' hw')⟩) (fun hex => .inl ⟨hw, fun w' _ => (extr_any hex (quiet_value hpl (hv w hS))).2 w'⟩) hrest
  ·rw [if_neg hw] at h
   have hw' : Region.wanted o (yielded l.toArray a.tmps) = false := by simpa using hw
   exact step undef (.inr ⟨hw', rfl⟩) (fun _ => .inr ⟨hw', rfl⟩) h

def HardPost (P : Program) (ops : Array Oper) (Q : Exit → Act → World → Prop) (S : World → Prop) (M D : List Nat) (i : Nat) : Exit → Act → World → Prop
 | .normal, a, w => (i ∈ M ∨ S w) ∧ wpU P ops Q S M (D ++ [i]) a w
 | x, a, w => Q x a w
theorem HardPost.mk {D : List Nat} {i : Nat} {a : Act} {w : World} (hS : S w) (h : wpU P ops Q S M (D ++ [i]) a w) : HardPost P ops Q S M D i .normal a w := ⟨.inr hS, h⟩

theorem wpOp_of_list {Q' : Exit → Act → World → Prop} {i : Nat} {o : Oper} (hi : ops[i]? = some o) {a : Act} {w : World} {K : Act → World → Prop} (hK : ∀ a w, Q' .normal a w → K a w) (hp : ∀ c a w, Q' (.panic c) a w → Q (.panic c) a w) (ho : LetsOut Q' → LetsOut Q)
  (h : wpList P ops Q' [o] a w) : wpOp P ops Q i K a w := by
 unfold wpOp
 rw [hi]
 unfold wpList at h
 simp only
 split
 ·rename_i hw
  rw [if_pos hw] at h
  rcases h with h | h
  ·refine .inl ?_
   have h2 := Oper.wp_mono (K' := K) (fun a w hk => hK a w hk) h
   unfold Oper.wp at h2 ⊢
   generalize (execOp a.eval o).run P w = r at *
   cases r with
   | ok n w' =>
    cases n <;> simp only [Oper.upon] at h2 ⊢ <;> try exact h2
    exact Calls.mono h2 fun e w'' he => by
     cases e with
     | returned u => exact he
     | panicked c => exact hp _ _ _ he
     | outgrown => exact ho he
   | halt x w' =>
    cases x <;> simp only [Oper.upon] at h2 ⊢
    case panic u => exact hp _ _ _ h2
  ·exact .inr ⟨h.1, ho h.2⟩
 ·rename_i hw
  rw [if_neg hw] at h
  exact hK _ _ h

def oneB (ops : Array Oper) (D : List Nat) (i : Nat) : Bool := decide (D.length < ops.size) && Region.ready .any ops (mark ops.size D) == [i]
theorem wpU_one {l : List Oper} {D : List Nat} (i : Nat) {o : Oper} (ho : l[i]? = some o) (hB : oneB l.toArray D i = true) {a : Act} {w : World} (h : wpList P l.toArray (HardPost P l.toArray Q S M D i) [o] a w) : wpU P l.toArray Q S M D a w := by
 unfold oneB at hB
 simp only [Bool.and_eq_true, decide_eq_true_eq, beq_iff_eq] at hB
 obtain ⟨hD, hr⟩ := hB
 have hsz : l.toArray.size - D.length = (l.toArray.size - (D ++ [i]).length) + 1 := by simp at hD ⊢; omega
 unfold wpU
 rw [hsz]
 refine ⟨fun h0 => (by rw [hr] at h0; cases h0), fun j hj => ?_⟩
 rw [hr] at hj
 obtain rfl : j = i := by simpa using hj
 refine wpOp_of_list (Q' := HardPost P l.toArray Q S M D j) (by simpa using ho) (fun a w hk => ⟨hk.1, ?_⟩) (fun _ _ _ h => h) (fun h => h) h
 have h2 := hk.2
 unfold wpU at h2
 rw [mark_snoc] at h2
 exact h2

def twoB (ops : Array Oper) (D : List Nat) (i j : Nat) : Bool := decide (D.length < ops.size) && Region.ready .any ops (mark ops.size D) == [i, j]
theorem wpU_two {l : List Oper} {D : List Nat} (i j : Nat) {o o' : Oper} (ho : l[i]? = some o) (ho' : l[j]? = some o') (hB : twoB l.toArray D i j = true) {a : Act} {w : World} (h : wpList P l.toArray (HardPost P l.toArray Q S M D i) [o] a w)
  (h' : wpList P l.toArray (HardPost P l.toArray Q S M D j) [o'] a w) : wpU P l.toArray Q S M D a w := by
 unfold twoB at hB
 simp only [Bool.and_eq_true, decide_eq_true_eq, beq_iff_eq] at hB
 obtain ⟨hD, hr⟩ := hB
 have hsz : l.toArray.size - D.length = (l.toArray.size - (D.length + 1)) + 1 := by simp at hD ⊢; omega
 have key : ∀ (i : Nat) (o : Oper), l[i]? = some o → wpList P l.toArray (HardPost P l.toArray Q S M D i) [o] a w → wpOp P l.toArray Q i (fun a' w' => (i ∈ M ∨ S w') ∧ wpAnyU P l.toArray Q S M (l.toArray.size - (D.length + 1)) ((mark l.toArray.size D).setIfInBounds i true) a' w') a w := fun i o ho h => by
  refine wpOp_of_list (Q' := HardPost P l.toArray Q S M D i) (by simpa using ho) (fun a w hk => ⟨hk.1, ?_⟩) (fun _ _ _ h => h) (fun h => h) h
  have h2 := hk.2
  unfold wpU at h2
  rw [mark_snoc, show (D ++ [i]).length = D.length + 1 by simp] at h2
  exact h2
 unfold wpU
 rw [hsz]
 refine ⟨fun h0 => (by rw [hr] at h0; cases h0), fun n hn => ?_⟩
 rw [hr] at hn
 have hn : n = i ∨ n = j := by simpa using hn
 rcases hn with rfl | rfl
 ·exact key _ _ ho h
 ·exact key _ _ ho' h'

def tailB (ops : Array Oper) (M : List Nat) : List Nat → List Nat → Bool
 | D, [] => Region.ready .any ops (mark ops.size D) == []
 | D, i :: T => (M.contains i && oneB ops D i) && tailB ops M (D ++ [i]) T
theorem wpU_tail {l : List Oper} : ∀ (T D : List Nat) (os : List Oper) (a : Act) (w : World), pick l T = some os → tailB l.toArray M D T = true → wpList P l.toArray Q os a w → wpU P l.toArray Q S M D a w
 | [], D, os, a, w, hp, hB, h => by
  obtain rfl := Option.some.inj hp
  unfold tailB at hB
  have hr : Region.ready .any l.toArray (mark l.toArray.size D) = [] := by simpa using hB
  unfold wpU
  cases l.toArray.size - D.length with
  | zero => exact ⟨hr, h⟩
  | succ n => exact ⟨fun _ => h, by rw [hr]; simp⟩
 | i :: T, D, os, a, w, hp, hB, h => by
  obtain ⟨o, os', h1, h2, rfl⟩ := pick_cons hp
  unfold tailB at hB
  simp only [Bool.and_eq_true] at hB
  obtain ⟨⟨hM, hO⟩, hT⟩ := hB
  have hM : i ∈ M := by simpa using hM
  refine wpU_one i h1 hO ?_
  unfold wpList at h ⊢
  split
  ·rename_i hw
   rw [if_pos hw] at h
   rcases h with h | h
   ·refine .inl ?_
    have h3 := Oper.wp_mono (K' := wpList P l.toArray (HardPost P l.toArray Q S M D i) []) (fun a w hk => ⟨.inl hM, wpU_tail T (D ++ [i]) os' a w h2 hT hk⟩) h
    unfold Oper.wp at h3 ⊢
    generalize (execOp a.eval o).run P w = r at *
    cases r with
    | ok n w' => cases n <;> simp only [Oper.upon] at h3 ⊢ <;> exact h3
    | halt x w' => cases x <;> simp only [Oper.upon] at h3 ⊢ <;> exact h3
   ·exact .inr h
  ·rename_i hw
   rw [if_neg hw] at h
   exact ⟨.inl hM, wpU_tail T (D ++ [i]) os' _ w h2 hT h⟩

theorem wp_region_u {l : List Oper} {id : Nat} {a : Act} {w : World} (M : List Nat) (S : World → World → Prop) (hm : P.follows .mixedOrders = true)
  (h : ∀ wd, Below w.heap.size w wd → wpU P l.toArray (NoPanic Q) (S wd) M [] a wd) : (Code.region id l.toArray true).wp P Q a w := by
 refine wp_region_noPanic (wp_region_any hm ?_)
 have := h w.drew (belD belR)
 exact wpAny_of_u _ _ _ _ (by simpa [wpU, mark] using this)

end
end Go.Proofs.YtlfebehpmefioaaGreat

/-
 The class of worlds in which a cursor has moved and new blocks have been laid: for a drawn region whose calls move the cursor.
-/
namespace Go.Proofs.YtlfebehpmefioaaGreat
open Go.RowKit

structure Moved (k : Kur) (w : World) where
 w' : World
 ok : Mov k w w'
def mv {k : Kur} {w : World} (p : Moved k w) : World := p.w'
theorem mv_mov {k : Kur} {w : World} (p : Moved k w) : Mov k w (mv p) := p.ok
theorem mv_of {k : Kur} {w w' : World} (h : Mov k w w') : ∃ p : Moved k w, w' = mv p := ⟨⟨w', h⟩, rfl⟩
theorem mv_var {k : Kur} {w : World} {j : Nat} {cs : Array Value} (h : WB w j cs) (hj : j ≠ k.k) : ∀ (p : Moved k w) o, (mv p).cell? ⟨j, o, none⟩ = cs[o]? := fun p o => (h.mov (mv_mov p) hj).cell o
attribute [irreducible] mv

theorem wp_region_mv {P : Program} {Q : Exit → Act → World → Prop} {l : List Oper} {id : Nat} {a : Act} {w : World} (k : Kur) (M : List Nat) (hm : P.follows .mixedOrders = true)
  (h : ∀ wd, Below w.heap.size w wd → wpU P l.toArray (NoPanic Q) (fun w' => ∃ p : Moved k wd, w' = mv p) M [] a wd) : (Code.region id l.toArray true).wp P Q a w := wp_region_u M (fun wd w' => ∃ p : Moved k wd, w' = mv p) hm h

def MovF (k : Kur) (fp : List Nat) (w w' : World) : Prop := Chg (k.k :: fp) w w' ∧ Cur w' k
theorem MovF.of {k : Kur} {fp : List Nat} {w w' : World} (h : Mov k w w') : MovF k fp w w' := ⟨⟨h.1.os, h.1.tape, h.1.output, h.1.size, fun i hi hn => h.1.block i hi (fun hm => hn (by simp at hm; simp [hm]))⟩, h.2⟩
theorem Cur.chg {w w' : World} {k : Kur} {fp : List Nat} (h : Cur w k) (hc : Chg fp w w') (hf : ∀ b ∈ fp, k.k < b) : Cur w' k := by
 obtain ⟨v, l, i, hh, hw, ⟨fq, hr, hq⟩, hi⟩ := h
 exact ⟨v, l, i, hh, hw.chg hc (fun hm => Nat.lt_irrefl _ (hf _ hm)), ⟨fq, Rep.frame _ hr fun b hb => hc.block b (Rep.lt _ hr b hb) (fun hm => by have h1 := hq b hb; have h2 := hi.2; have h3 := hf b hm; omega), hq⟩, hi⟩
theorem MovF.chg {k : Kur} {fp : List Nat} {w w1 w2 : World} (h : MovF k fp w w1) (h2 : Chg fp w1 w2) (hf : ∀ b ∈ fp, k.k < b) : MovF k fp w w2 :=
 ⟨h.1.trans ⟨h2.os, h2.tape, h2.output, h2.size, fun i hi hn => h2.block i hi (fun hm => hn (by simp [hm]))⟩, h.2.chg h2 hf⟩
theorem MovF.trans {k : Kur} {fp : List Nat} {w w1 w2 : World} (h : MovF k fp w w1) (h2 : Mov k w1 w2) : MovF k fp w w2 := ⟨h.1.trans (MovF.of h2).1, h2.2⟩
theorem MovF.below {k : Kur} {fp : List Nat} {w w1 w2 : World} (h : MovF k fp w w1) (h2 : Below w1.heap.size w1 w2) : MovF k fp w w2 := ⟨h.1.trans (Chg.of_below h2 (Nat.le_refl _)), h.2.below h2⟩
theorem MovF.low {k : Kur} {fp : List Nat} {w w1 w2 : World} (h : MovF k fp w1 w2) (h0 : Mov k w w1) (hf : ∀ b ∈ fp, w.heap.size ≤ b) : Mov k w w2 :=
 ⟨⟨h.1.os.trans h0.1.os, h.1.tape.trans h0.1.tape, h.1.output.trans h0.1.output, Nat.le_trans h0.1.size h.1.size, fun i hi hn => (h.1.block i (Nat.lt_of_lt_of_le hi h0.1.size) (fun hm => by simp at hm hn; rcases hm with hm | hm; exact hn hm; have := hf i hm; omega)).trans (h0.1.block i hi hn)⟩, h.2⟩
theorem MovF.set {k : Kur} {fp : List Nat} {w w1 : World} {b o : Nat} {u : Value} (h : MovF k fp w w1) (hb : b ∈ fp) (h1 : k.b ≤ b) (h2 : k.k ≠ b) : MovF k fp w (w1.setCell ⟨b, o, none⟩ u) := ⟨Chg.set (by simp [hb]) h.1, h.2.set h1 h2⟩
structure MovedF (k : Kur) (fp : List Nat) (w : World) where
 w' : World
 ok : MovF k fp w w'
def mvf {k : Kur} {fp : List Nat} {w : World} (p : MovedF k fp w) : World := p.w'
theorem mvf_ok {k : Kur} {fp : List Nat} {w : World} (p : MovedF k fp w) : MovF k fp w (mvf p) := p.ok
theorem mvf_of {k : Kur} {fp : List Nat} {w w' : World} (h : MovF k fp w w') : ∃ p : MovedF k fp w, w' = mvf p := ⟨⟨w', h⟩, rfl⟩
theorem mvf_var {k : Kur} {fp : List Nat} {w : World} {j : Nat} {cs : Array Value} (h : WB w j cs) (hj : j ≠ k.k) (hj2 : j ∉ fp) : ∀ (p : MovedF k fp w) o, (mvf p).cell? ⟨j, o, none⟩ = cs[o]? := fun p o => (h.chg (mvf_ok p).1 (by simp [hj, hj2])).cell o
attribute [irreducible] mvf
theorem wp_region_mvf {P : Program} {Q : Exit → Act → World → Prop} {l : List Oper} {id : Nat} {a : Act} {w : World} (k : Kur) (fp : List Nat) (M : List Nat) (hm : P.follows .mixedOrders = true)
  (h : ∀ wd, Below w.heap.size w wd → wpU P l.toArray (NoPanic Q) (fun w' => ∃ p : MovedF k fp wd, w' = mvf p) M [] a wd) : (Code.region id l.toArray true).wp P Q a w := wp_region_u M (fun wd w' => ∃ p : MovedF k fp wd, w' = mvf p) hm h

end Go.Proofs.YtlfebehpmefioaaGreat
