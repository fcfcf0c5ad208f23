/-
  The walk of the law FnPushes.
-/
import Derived.Test.YtmknfobkfimggaaAt
import Derived.Test.YtmknfobkfimggaaPushDraw
import Derived.Test.YtmknfobkfimggaaPushLaw
import Derived.Deep.RegionHeld
namespace Go.Proofs.Ytmknfobkfimggaa
open Go.RowKit

theorem lit_two {α : Type} {R : Rep α} {E : TypeId} {w : World} {xs : Array Value} {cs ds : List Value} {x y : α} {kb : Nat} (hx : xs.toList = cs ++ ds) (h1 : Reads R w cs x) (h2 : Reads R w ds y) (hk : kb = w.heap.size) :
    Reads (Rep.slice E R) (w.alloc (.cells xs E)) [.slice (some ⟨kb, 0, none⟩) 2 2] [x, y] := by
  subst hk
  obtain ⟨f, h1⟩ := h1
  obtain ⟨g, h2⟩ := h2
  have e1 := R.lt h1
  have e2 := R.lt h2
  refine ⟨_, _, [(cs, x, f), (ds, y, g)], rfl, rfl, rfl, ?_, ⟨_, 2, rfl, Nat.le_refl _, by decide, .inr ⟨w.heap.size, 0, rfl, by simp, fun j u hu => ?_⟩⟩, fun h => by cases h⟩
  · intro t ht
    simp only [List.mem_cons, List.not_mem_nil, or_false] at ht
    rcases ht with rfl | rfl
    · exact R.frame h1 fun b hb => Below.heap_alloc _ _ _ (e1 b hb)
    · exact R.frame h2 fun b hb => Below.heap_alloc _ _ _ (e2 b hb)
  · have hc : cellsOf [((cs, x, f) : El α), (ds, y, g)] = xs.toList := by rw [hx]; simp [cellsOf]
    rw [hc] at hu
    have hw := (WB.at (w := w) (cs := xs) (t := E) rfl).cell j
    rw [Nat.zero_add, hw, ← Array.getElem?_toList]
    exact hu

theorem implOpenAs (cs ds : List Value) (S : DSubscription) (p : DPush) (X : DSubscription) (D : List UInt8) (b : Bool) (hb : openPushB S p = b) (hF : openPushF S p = X) (hD : openPushD S p = D) (w : World) (h : Reads DSubscription.rep w cs S) (h' : Reads DPush.rep w ds p) (hs1 : p.site.size ≤ 4000000) (hs2 : p.data.length ≤ 4000000) :
    Calls Try.prog 10 #[.agg cs.toArray, .agg ds.toArray] w fun e w' => ∃ ao cap, e = .returned (.tuple #[.agg #[.string X.site, .int .i64 X.secret, .int .i64 X.last], .slice ao D.length cap, .bool b]) ∧ Reads Rep.bytes w' [.slice ao D.length cap] D ∧ Below w.heap.size w w' := by
  refine (implOpenPush cs ds S p w h h' hs1 hs2).mono ?_
  rintro e w1 ⟨d0, d1, rfl, hf0, hf1, hb1⟩
  rw [hF] at hf0
  rw [hD] at hf1
  rw [hb]
  obtain ⟨_, r0, _⟩ := hf0
  obtain ⟨rfl, _, _⟩ := DSubscription.rd.1 r0
  obtain ⟨ao, cap, rfl⟩ := hf1.slice
  exact ⟨ao, cap, rfl, hf1.reads, hb1⟩
theorem specOpenAs (cs ds : List Value) (S : DSubscription) (p : DPush) (X : DSubscription) (D : List UInt8) (b : Bool) (hb : openPushB S p = b) (hF : openPushF S p = X) (hD : openPushD S p = D) (w : World) (h : Reads DSubscription.rep w cs S) (h' : Reads DPush.rep w ds p) (hs1 : p.site.size ≤ 4000000) (hs2 : p.data.length ≤ 4000000) :
    Calls Try.prog 13 #[.agg cs.toArray, .agg ds.toArray] w fun e w' => ∃ ao cap, e = .returned (.tuple #[.agg #[.string X.site, .int .i64 X.secret, .int .i64 X.last], .slice ao D.length cap, .bool b]) ∧ Reads Rep.bytes w' [.slice ao D.length cap] D ∧ Below w.heap.size w w' := by
  refine (specOpenPush cs ds S p w h h' hs1 hs2).mono ?_
  rintro e w1 ⟨d0, d1, rfl, hf0, hf1, hb1⟩
  rw [hF] at hf0
  rw [hD] at hf1
  rw [hb]
  obtain ⟨_, r0, _⟩ := hf0
  obtain ⟨rfl, _, _⟩ := DSubscription.rd.1 r0
  obtain ⟨ao, cap, rfl⟩ := hf1.slice
  exact ⟨ao, cap, rfl, hf1.reads, hb1⟩
theorem implSealAs (cs : List Value) (s : DSubscription) (n : Int) (v : Value) (d : List UInt8) (p : DPush) (hb : sealPushB s n d = true) (hp : sealPushF s n d = p) (w : World) (h : Reads DSubscription.rep w cs s) (h' : Reads (Rep.slice 5 Rep.byte) w [v] d) (hs : s.site.size ≤ 4000000) (hd : d.length ≤ 4000000) :
    Calls Try.prog 9 #[.agg cs.toArray, .int .i64 n, v] w fun e w' => ∃ ap cp, e = .returned (.tuple #[.agg #[.string p.site, .int .i64 p.number, .slice ap p.data.length cp, .int .i64 p.mac], .bool true]) ∧ Fresh (Rep.slice 5 Rep.byte) w.heap.size w' [.slice ap p.data.length cp] p.data ∧ Below w.heap.size w w' := by
  refine (implSealPush cs s n v d w h h' hs hd).mono ?_
  rintro e w1 ⟨ds, rfl, hf, hb1⟩
  rw [hp] at hf
  rw [hb]
  obtain ⟨ap, cp, rfl, hf2⟩ := DPush.fopen hf
  exact ⟨ap, cp, rfl, hf2, hb1⟩
theorem two_small {p : DPush} (h1 : p.site.size ≤ 8) (h2 : p.data.length = 2) : wtS DPush.wt [p, ⟨p.site, p.number + 1, p.data, p.mac⟩] ≤ 1048576 := by
  have e : wtS wt0 p.data = 2 := (wtS_zero p.data).trans h2
  simp only [wtS, DPush.wt, List.map_cons, List.map_nil, List.sum_cons, List.sum_nil, List.length_cons, List.length_nil]
  have e' : p.data.length + (List.map wt0 p.data).sum = 2 := e
  omega
theorem one_small {p : DPush} (h1 : p.site.size ≤ 8) (h2 : p.data.length = 2) : wtS DPush.wt [p] ≤ 1048576 := by
  have e : wtS wt0 p.data = 2 := (wtS_zero p.data).trans h2
  simp only [wtS, DPush.wt, List.map_cons, List.map_nil, List.sum_cons, List.sum_nil, List.length_cons, List.length_nil]
  have e' : p.data.length + (List.map wt0 p.data).sum = 2 := e
  omega
theorem lawSelf (u v : Value) (l : List UInt8) (w : World) (h : Reads Rep.bytes w [u] l) (h' : Reads Rep.bytes w [v] l) : Calls Try.prog 14 #[u, v] w fun e w' => e = .returned (.bool true) ∧ Below w.heap.size w w' := by
  refine (lawSame u v l l w h h').mono ?_
  rintro e w1 ⟨rfl, hb⟩
  exact ⟨by rw [decide_eq_true rfl], hb⟩
theorem equalSelf (cs ds : List Value) (x : DPush) (w : World) (h : Reads DPush.rep w cs x) (h' : Reads DPush.rep w ds x) : Calls Try.prog 15 #[.agg cs.toArray, .agg ds.toArray] w fun e w' => e = .returned (.bool true) ∧ Below w.heap.size w w' := by
  refine (implEqualPushes cs ds x x w h h').mono ?_
  rintro e w1 ⟨rfl, hb⟩
  exact ⟨by rw [equal_self], hb⟩
theorem dropNone (cs : List Value) (v : Value) (p : DPush) (s : DSubscription) (hn : dropOldF [p] s = []) (w : World) (h : Reads (Rep.slice 28 DPush.rep) w [v] [p]) (h' : Reads DSubscription.rep w cs s) (hs : wtS DPush.wt [p] ≤ 1048576) : Calls Try.prog 11 #[v, .agg cs.toArray] w fun e w' => ∃ a c, e = .returned (.slice a 0 c) ∧ Below w.heap.size w w' := by
  refine (implDropOld cs v [p] s w h h' hs).mono ?_
  rintro e w1 ⟨d0, rfl, hf, hb⟩
  rw [hn] at hf
  obtain ⟨a, c, rfl⟩ := hf.slice
  exact ⟨a, c, rfl, hb⟩
theorem push_reads {W : World} {p : DPush} {ap : Option Addr} {cp : Nat} (h : Reads (Rep.slice 5 Rep.byte) W [.slice ap p.data.length cp] p.data) (s0 : p.site.size ≤ maxLen) : Reads DPush.rep W [.string p.site, .int .i64 p.number, .slice ap p.data.length cp, .int .i64 p.mac] p := by
  obtain ⟨f, h⟩ := h
  exact ⟨f, DPush.rd.2 ⟨_, _, rfl, rfl, s0, h⟩⟩
theorem open_none {S : DSubscription} {p : DPush} (h : openPushB S p = false) : openPushF S p = S ∧ openPushD S p = [] := by unfold openPushF openPushD; rw [h]; exact ⟨rfl, rfl⟩
theorem open_some {S : DSubscription} {p : DPush} (h : openPushB S p = true) : openPushF S p = opened S p := by unfold openPushF; rw [h]; rfl

theorem seal_facts (s1 s2 n : Int) (d : List UInt8) : (sealOut ⟨⟨#[98, 97, 110, 107]⟩, s1, s2⟩ n d).number = n ∧ (sealOut ⟨⟨#[98, 97, 110, 107]⟩, s1, s2⟩ n d).site.size ≤ 8 ∧ (sealOut ⟨⟨#[98, 97, 110, 107]⟩, s1, s2⟩ n d).data.length = d.length ∧ openPushB ⟨⟨#[98, 97, 110, 107]⟩, s1, (sealOut ⟨⟨#[98, 97, 110, 107]⟩, s1, s2⟩ n d).number⟩ (sealOut ⟨⟨#[98, 97, 110, 107]⟩, s1, s2⟩ n d) = false ∧ dropOldF [sealOut ⟨⟨#[98, 97, 110, 107]⟩, s1, s2⟩ n d] ⟨⟨#[98, 97, 110, 107]⟩, s1, (sealOut ⟨⟨#[98, 97, 110, 107]⟩, s1, s2⟩ n d).number⟩ = [] :=
  ⟨rfl, by show (⟨#[98, 97, 110, 107]⟩ : ByteArray).size ≤ 8; decide, encryptF_len _ _, twice_no ⟨⟨#[98, 97, 110, 107]⟩, s1, s2⟩ n d, drop_none ⟨⟨#[98, 97, 110, 107]⟩, s1, s2⟩ n d⟩
theorem seal_bad {s1 s2 n : Int} {d : List UInt8} (h : PushCase ⟨⟨#[98, 97, 110, 107]⟩, s1, s2⟩ n d) : openPushB ⟨⟨#[98, 97, 110, 107]⟩, s1, s2⟩ ⟨(sealOut ⟨⟨#[98, 97, 110, 107]⟩, s1, s2⟩ n d).site, (sealOut ⟨⟨#[98, 97, 110, 107]⟩, s1, s2⟩ n d).number + 1, (sealOut ⟨⟨#[98, 97, 110, 107]⟩, s1, s2⟩ n d).data, (sealOut ⟨⟨#[98, 97, 110, 107]⟩, s1, s2⟩ n d).mac⟩ = false ∧ dropOldF [sealOut ⟨⟨#[98, 97, 110, 107]⟩, s1, s2⟩ n d, ⟨(sealOut ⟨⟨#[98, 97, 110, 107]⟩, s1, s2⟩ n d).site, (sealOut ⟨⟨#[98, 97, 110, 107]⟩, s1, s2⟩ n d).number + 1, (sealOut ⟨⟨#[98, 97, 110, 107]⟩, s1, s2⟩ n d).data, (sealOut ⟨⟨#[98, 97, 110, 107]⟩, s1, s2⟩ n d).mac⟩] ⟨⟨#[98, 97, 110, 107]⟩, s1, s2⟩ = [sealOut ⟨⟨#[98, 97, 110, 107]⟩, s1, s2⟩ n d] := ⟨changed_no h, drop_two h⟩
theorem seal_open {s1 s2 n : Int} {d : List UInt8} (h : PushCase ⟨⟨#[98, 97, 110, 107]⟩, s1, s2⟩ n d) : openPushF ⟨⟨#[98, 97, 110, 107]⟩, s1, s2⟩ (sealOut ⟨⟨#[98, 97, 110, 107]⟩, s1, s2⟩ n d) = ⟨⟨#[98, 97, 110, 107]⟩, s1, (sealOut ⟨⟨#[98, 97, 110, 107]⟩, s1, s2⟩ n d).number⟩ ∧ sealPushF ⟨⟨#[98, 97, 110, 107]⟩, s1, s2⟩ n d = sealOut ⟨⟨#[98, 97, 110, 107]⟩, s1, s2⟩ n d := ⟨open_some (open_yes h), by unfold sealPushF; rw [seal_yes h]; rfl⟩

attribute [local irreducible] openPushB openPushD openPushF dropOldF sealPushF sealPushB sealOut

set_option maxRecDepth 100000 in
set_option maxHeartbeats 8000000 in
theorem lawPushes (v : Value) (l0 : List UInt8) (w : World) (h : Reads Rep.bytes w [v] l0) :
    Calls Try.prog 3 #[v] w fun e w' => e = .returned (.bool true) ∧ Below w.heap.size w w' := by
  have HK : Hid (Reads Rep.bytes w [v] l0) := Lib.hid h
  obtain ⟨fp, h⟩ := h
  obtain ⟨ao, c1, rfl, hm, _, hu⟩ := slice_open h
  clear hu h
  by_cases hbig : 1048576 < l0.length
  · go_enter Try.func3, Try.ntmps3
    go_wp2_with (go_at_call 7; refine (lawBig _ _ _ HK.out).mono ?_; rintro e w' ⟨rfl, rfl⟩)
    go_ret
    exact ⟨rfl, (by repeat (first | with_reducible exact belR | with_reducible apply belA | (with_reducible refine belS ?_ ?_; focus (first | omega | (simp; done) | (simp; omega))) | with_reducible apply belN | with_reducible apply belD | with_reducible assumption))⟩
  have hl0 : l0.length ≤ 1048576 := by omega
  have g0 := atN_ge l0 0
  have g1 := atN_ge l0 1
  have g2 := atN_ge l0 2
  have g3 := atN_ge l0 3
  obtain ⟨s1, hs1⟩ : ∃ x : Int, x = 1 + atN l0 0 := ⟨_, rfl⟩
  obtain ⟨s2, hs2⟩ : ∃ x : Int, x = atN l0 1 % 4 := ⟨_, rfl⟩
  obtain ⟨n, hn⟩ : ∃ x : Int, x = 4 + atN l0 3 := ⟨_, rfl⟩
  obtain ⟨u, hu⟩ : ∃ u : UInt8, atN l0 2 = (u.toNat : Int) := ⟨UInt8.ofNat (atN l0 2).toNat, by simp; omega⟩
  have hu1 : (u.toNat : Int) ≤ 255 := by have := u.toNat_lt; omega
  have hsr : 1 ≤ s1 ∧ s1 ≤ 256 := by omega
  have hsl : 0 ≤ s2 ∧ s2 ≤ 3 := by omega
  have hnr : 4 ≤ n ∧ n ≤ 259 := by omega
  have m0 : 1 + atN l0 0 = s1 := hs1.symm
  have m1 : (atN l0 1).tmod 4 = atN l0 1 % 4 := Int.tmod_eq_emod_of_nonneg g1.1
  have m2 : atN l0 1 % 4 = s2 := hs2.symm
  have m3 : 4 + atN l0 3 = n := hn.symm
  have ws1 : IntKind.i64.wrap s1 = s1 := Go.IntWalk.i64_in _ (by omega)
  have wn1 : IntKind.i64.wrap n = n := Go.IntWalk.i64_in _ (by omega)
  clear hs1 hs2 hn
  obtain ⟨d, hd⟩ : ∃ d : List UInt8, d = [u, 7] := ⟨_, rfl⟩
  have HD : Hid (d = [u, 7]) := Lib.hid hd
  have HC : Hid (PushCase ⟨⟨#[98, 97, 110, 107]⟩, s1, s2⟩ n d) := Lib.hid ⟨rfl, hsr, hsl, hnr, by rw [hd]; rfl⟩
  clear hd
  obtain ⟨p, hp⟩ : ∃ p, p = sealOut ⟨⟨#[98, 97, 110, 107]⟩, s1, s2⟩ n d := ⟨_, rfl⟩
  have HB1 : Hid (openPushB ⟨⟨#[98, 97, 110, 107]⟩, s1, s2⟩ p = true) := Lib.hid (by rw [hp]; exact open_yes HC.out)
  have HD1 : Hid (openPushD ⟨⟨#[98, 97, 110, 107]⟩, s1, s2⟩ p = d) := Lib.hid (by rw [hp]; exact open_data HC.out)
  have HF1 : Hid (openPushF ⟨⟨#[98, 97, 110, 107]⟩, s1, s2⟩ p = ⟨⟨#[98, 97, 110, 107]⟩, s1, p.number⟩) := Lib.hid (by rw [hp]; exact (seal_open HC.out).1)
  have HB2 : Hid (openPushB ⟨⟨#[98, 97, 110, 107]⟩, s1, p.number⟩ p = false) := Lib.hid (by rw [hp]; exact (seal_facts s1 s2 n d).2.2.2.1)
  have HB3 : Hid (openPushB ⟨⟨#[98, 97, 110, 107]⟩, s1 + 1, s2⟩ p = false) := Lib.hid (by rw [hp]; exact stranger_no HC.out)
  have HB4 : Hid (openPushB ⟨⟨#[98, 97, 110, 107]⟩, s1, s2⟩ ⟨p.site, p.number + 1, p.data, p.mac⟩ = false) := Lib.hid (by rw [hp]; exact (seal_bad HC.out).1)
  have HB5 : Hid (dropOldF [p, ⟨p.site, p.number + 1, p.data, p.mac⟩] ⟨⟨#[98, 97, 110, 107]⟩, s1, s2⟩ = [p]) := Lib.hid (by rw [hp]; exact (seal_bad HC.out).2)
  have HB6 : Hid (dropOldF [p] ⟨⟨#[98, 97, 110, 107]⟩, s1, p.number⟩ = []) := Lib.hid (by rw [hp]; exact (seal_facts s1 s2 n d).2.2.2.2)
  have HSE : Hid (sealPushF ⟨⟨#[98, 97, 110, 107]⟩, s1, s2⟩ n d = p) := Lib.hid (by rw [hp]; exact (seal_open HC.out).2)
  have hpn : p.number = n := by rw [hp]; exact (seal_facts s1 s2 n d).1
  have hps : p.site.size ≤ 8 := by rw [hp]; exact (seal_facts s1 s2 n d).2.1
  have hpl : p.data.length = 2 := by rw [hp]; exact (seal_facts s1 s2 n d).2.2.1.trans HC.out.len
  clear hp
  have hpn2 : 4 ≤ p.number ∧ p.number ≤ 259 := by omega
  have HPN := Lib.hid hpn
  have HPL := Lib.hid hpl
  clear hpn hpl
  have s0 : p.site.size ≤ maxLen := by unfold maxLen; omega
  have HRS : Hid (∀ (W : World) (x y : Int), Reads DSubscription.rep W [.string ⟨#[98, 97, 110, 107]⟩, .int .i64 x, .int .i64 y] ⟨⟨#[98, 97, 110, 107]⟩, x, y⟩) := Lib.hid fun W x y => ⟨[], DSubscription.rd.2 ⟨rfl, rfl, by show (⟨#[98, 97, 110, 107]⟩ : ByteArray).size ≤ maxLen; decide⟩⟩
  go_enter Try.func3, Try.ntmps3
  go_upto_region 5 with (first
    | (go_at_call 7; refine (lawBig _ _ _ HK.out).mono ?_; rintro e w' ⟨rfl, rfl⟩)
    | (go_at_call 8; refine (lawAt _ l0 _ 0 (by omega) (by decide) hl0 _ (HK.out.below (by repeat (first | with_reducible exact belR | with_reducible apply belA | (with_reducible refine belS ?_ ?_; focus (first | omega | (simp; done) | (simp; omega))) | with_reducible apply belN | with_reducible apply belD | with_reducible assumption)))).mono ?_; rintro e w' ⟨rfl, rfl⟩)
    | (go_at_call 8; refine (lawAt _ l0 _ 1 (by omega) (by decide) hl0 _ (HK.out.below (by repeat (first | with_reducible exact belR | with_reducible apply belA | (with_reducible refine belS ?_ ?_; focus (first | omega | (simp; done) | (simp; omega))) | with_reducible apply belN | with_reducible apply belD | with_reducible assumption)))).mono ?_; rintro e w' ⟨rfl, rfl⟩)
    | (go_at_call 8; refine (lawAt _ l0 _ 2 (by omega) (by decide) hl0 _ (HK.out.below (by repeat (first | with_reducible exact belR | with_reducible apply belA | (with_reducible refine belS ?_ ?_; focus (first | omega | (simp; done) | (simp; omega))) | with_reducible apply belN | with_reducible apply belD | with_reducible assumption)))).mono ?_; rintro e w' ⟨rfl, rfl⟩))
  refine settle (fun W => WB W w.heap.size #[.string ⟨#[98, 97, 110, 107]⟩, .int .i64 s1, .int .i64 s2] ∧ Reads Rep.bytes W [.slice (some ⟨w.heap.size + 1, 0, none⟩) 2 2] d ∧ Below w.heap.size w W ∧ w.heap.size + 2 ≤ W.heap.size) ⟨(WB.at rfl).growA, by rw [HD.out]; exact (lit_fresh FlatR.byte (us := [u, 7]) rfl rfl (by show 2 ≤ maxLen; decide) (by simp) (by simp)).reads, (by repeat (first | with_reducible exact belR | with_reducible apply belA | (with_reducible refine belS ?_ ?_; focus (first | omega | (simp; done) | (simp; omega))) | with_reducible apply belN | with_reducible apply belD | with_reducible assumption)), by simp⟩ ?_
  rintro w1 ⟨hx, hdr, hb, hz1⟩
  have HS := Lib.hid hx
  have HDR := Lib.hid hdr
  have HB := Lib.hid hb
  clear hx hdr hb
  have ⟨cx, zx, fx⟩ := HS.out
  have HW : Hid (∀ W', Below w1.heap.size w1 W' → (∀ o, W'.cell? ⟨w.heap.size, o, none⟩ = #[.string ⟨#[98, 97, 110, 107]⟩, .int .i64 s1, .int .i64 s2][o]?) ∧ Below w1.heap.size w1 W') := Lib.hid fun W' hW' => ⟨(HS.out.keep hW').cell, hW'⟩
  go_cut [5, 6] (fun x y W => ∃ (kb : Nat) (ap : Option Addr) (cp : Nat), x = .pointer (some ⟨kb, 0, none⟩) ∧ y = .bool true ∧ WB W kb #[.string p.site, .int .i64 p.number, .slice ap p.data.length cp, .int .i64 p.mac] ∧ WB W w.heap.size #[.string ⟨#[98, 97, 110, 107]⟩, .int .i64 s1, .int .i64 s2] ∧ Reads Rep.bytes W [.slice ap p.data.length cp] p.data ∧ w1.heap.size ≤ kb ∧ Below w1.heap.size w1 W)
  case first =>
    go_region_held3 (fun W' => (∀ o, W'.cell? ⟨w.heap.size, o, none⟩ = #[.string ⟨#[98, 97, 110, 107]⟩, .int .i64 s1, .int .i64 s2][o]?) ∧ Below w1.heap.size w1 W')
      (first | exact HW.out _ hq2 | (have y := hq2.size; exact HW.out _ (by repeat (first | with_reducible exact belR | (with_reducible refine belAB ?_ ?_; focus (first | omega | (simp; done) | (simp; omega))) | (with_reducible refine belS ?_ ?_; focus (first | omega | (simp; done) | (simp; omega))) | with_reducible apply belN | with_reducible apply belD | with_reducible assumption))) | exact HW.out _ (by repeat (first | with_reducible exact belR | (with_reducible refine belAB ?_ ?_; focus (first | omega | (simp; done) | (simp; omega))) | (with_reducible refine belS ?_ ?_; focus (first | omega | (simp; done) | (simp; omega))) | with_reducible apply belN | with_reducible apply belD | with_reducible assumption)))
      (first
        | (go_at_call 9; have hS1 := ‹_ ∧ Below w1.heap.size w1 _›; refine (implSealAs _ _ n _ d p (seal_yes HC.out) HSE.out _ (HRS.out _ _ _) (HDR.out.below hS1.2) (by show (⟨#[98, 97, 110, 107]⟩ : ByteArray).size ≤ 4000000; decide) (by rw [HC.out.len]; decide)).mono ?_; rintro e w2 ⟨ap, cp, rfl, hf2, hb2⟩; have hq2 : Below w1.heap.size w1 w2 := below_call hS1.2 hS1.2.size hb2; clear hS1; have hz2 := hq2.size; have hx2 := HS.out.keep hq2; (first | (have hwb : WB w2 w1.heap.size #[.string ⟨#[]⟩, .int .i64 0, .slice none 0 0, .int .i64 0] := (by with_reducible exact WB.keep (WB.growD (WB.at (Eq.refl _))) hb2); have ⟨we, wl, wf⟩ := hwb) | (have hwb : WB w2 w1.heap.size #[.string ⟨#[]⟩, .int .i64 0, .slice none 0 0, .int .i64 0] := (by with_reducible exact WB.keep (WB.at (Eq.refl _)) hb2); have ⟨we, wl, wf⟩ := hwb) | skip))
        | (go_at_call 8; have hS1 := ‹_ ∧ Below w1.heap.size w1 _›; refine (lawAt _ l0 _ 3 (by omega) (by decide) hl0 _ (HK.out.below (HB.out.trans (hS1.2.mono HB.out.size)))).mono ?_; rintro e w' ⟨rfl, rfl⟩; clear hS1))
    all_goals
      go_wp2_with fail
      go_meet
      first
        | exact ⟨w2.heap.size, ap, cp, rfl, rfl, WB.at rfl, hx2.growA, hf2.reads.below (by repeat (first | with_reducible exact belR | with_reducible apply belA | (with_reducible refine belS ?_ ?_; focus (first | omega | (simp; done) | (simp; omega))) | with_reducible apply belN | with_reducible apply belD | with_reducible assumption)), by omega, (by repeat (first | with_reducible exact belR | (with_reducible refine belAB ?_ ?_; focus (first | omega | (simp; done) | (simp; omega))) | (with_reducible refine belS ?_ ?_; focus (first | omega | (simp; done) | (simp; omega))) | with_reducible apply belN | with_reducible apply belD | with_reducible assumption))⟩
        | exact ⟨w1.heap.size, ap, cp, rfl, rfl, hwb.set4, (((hx2.setOther (by omega)).setOther (by omega)).setOther (by omega)).setOther (by omega), (Fresh.reads (B := w1.heap.size + 1) (by repeat (first | with_reducible exact (hf2.mono (B' := w1.heap.size + 1) (by first | omega | (simp; done) | (simp; omega))) | with_reducible refine Fresh.setLow ?_ (by omega)))), by omega, (by repeat (first | with_reducible exact belR | (with_reducible refine belAB ?_ ?_; focus (first | omega | (simp; done) | (simp; omega))) | (with_reducible refine belS ?_ ?_; focus (first | omega | (simp; done) | (simp; omega))) | with_reducible apply belN | with_reducible apply belD | with_reducible assumption))⟩
  case rest =>
    obtain ⟨kb, ap, cp, rfl, rfl, hp5, hx5, hr5, hkb, hb5⟩ := hcut
    have HP := Lib.hid hp5
    replace HS := Lib.hid hx5
    have HR := Lib.hid hr5
    replace HB := Lib.hid (HB.out.trans (hb5.mono HB.out.size))
    have hzw := HB.out.size
    replace HDR := Lib.hid (HDR.out.below hb5)
    clear hp5 hx5 hr5 hb5 hkb HW cx zx fx HSE
    have ⟨c_HS, z_HS, f_HS⟩ := HS.out
    have ⟨c_HP, z_HP, f_HP⟩ := HP.out
    go_wp2_with fail
    refine (implOpenAs _ _ _ p _ _ _ HB1.out HF1.out HD1.out _ (HRS.out _ _ _) (push_reads (HR.out.below (by repeat (first | with_reducible exact belR | with_reducible apply belA | (with_reducible refine belS ?_ ?_; focus (first | omega | (simp; done) | (simp; omega))) | with_reducible apply belN | with_reducible apply belD | with_reducible assumption))) s0) (by omega) (by rw [HPL.out]; decide)).mono ?_
    rintro e w6 ⟨ao6, cp6, rfl, hr6, hb⟩
    have hq : Below wc.heap.size wc w6 := below_call (by repeat (first | with_reducible exact belR | with_reducible apply belA | (with_reducible refine belS ?_ ?_; focus (first | omega | (simp; done) | (simp; omega))) | with_reducible apply belN | with_reducible apply belD | with_reducible assumption)) (by first | omega | (simp; done) | (simp; omega)) hb
    clear c_HS z_HS f_HS c_HP z_HP f_HP
    replace HS := Lib.hid (HS.out.keep hq)
    replace HP := Lib.hid (HP.out.keep hq)
    replace HR := Lib.hid (HR.out.below hq)
    replace HDR := Lib.hid (HDR.out.below hq)
    replace HB := Lib.hid (HB.out.trans (hq.mono HB.out.size))
    have HD6 := Lib.hid hr6
    clear hb hq hr6
    have ⟨c_HS, z_HS, f_HS⟩ := HS.out
    have ⟨c_HP, z_HP, f_HP⟩ := HP.out
    go_wp2_with fail
    refine (implOpenAs _ _ _ p _ _ _ HB2.out (open_none HB2.out).1 (open_none HB2.out).2 _ (HRS.out _ _ _) (push_reads (HR.out.below (by repeat (first | with_reducible exact belR | with_reducible apply belA | (with_reducible refine belS ?_ ?_; focus (first | omega | (simp; done) | (simp; omega))) | with_reducible apply belN | with_reducible apply belD | with_reducible assumption))) s0) (by omega) (by rw [HPL.out]; decide)).mono ?_
    rintro e w7 ⟨ao7, cp7, rfl, hr7, hb⟩
    have hq : Below w6.heap.size w6 w7 := below_call (by repeat (first | with_reducible exact belR | with_reducible apply belA | (with_reducible refine belS ?_ ?_; focus (first | omega | (simp; done) | (simp; omega))) | with_reducible apply belN | with_reducible apply belD | with_reducible assumption)) (by first | omega | (simp; done) | (simp; omega)) hb
    have HX : Hid (WB w7 w6.heap.size #[.string ⟨#[98, 97, 110, 107]⟩, .int .i64 s1, .int .i64 p.number]) := Lib.hid ((WB.at rfl).keep hb)
    clear c_HS z_HS f_HS c_HP z_HP f_HP
    replace HS := Lib.hid (HS.out.keep hq)
    replace HP := Lib.hid (HP.out.keep hq)
    replace HR := Lib.hid (HR.out.below hq)
    replace HDR := Lib.hid (HDR.out.below hq)
    replace HD6 := Lib.hid (HD6.out.below hq)
    replace HB := Lib.hid (HB.out.trans (hq.mono HB.out.size))
    clear hb hq hr7
    have hs1w : wrap64 (s1 + 1) = s1 + 1 := Go.IntWalk.wrap64_in _ (by omega)
    have ⟨c_HS, z_HS, f_HS⟩ := HS.out
    have ⟨c_HP, z_HP, f_HP⟩ := HP.out
    go_upto_region 10 with fail
    refine settle (fun W => WB W (w7.heap.size + 1) #[.string ⟨#[98, 97, 110, 107]⟩, .int .i64 (s1 + 1), .int .i64 s2] ∧ Below w7.heap.size w7 W) ⟨WB.at (by simp), (by repeat (first | with_reducible exact belR | with_reducible apply belA | (with_reducible refine belS ?_ ?_; focus (first | omega | (simp; done) | (simp; omega))) | with_reducible apply belN | with_reducible apply belD | with_reducible assumption))⟩ ?_
    rintro w8 ⟨ho, hq⟩
    have HO := Lib.hid ho
    clear c_HS z_HS f_HS c_HP z_HP f_HP
    replace HS := Lib.hid (HS.out.keep hq)
    replace HP := Lib.hid (HP.out.keep hq)
    replace HX := Lib.hid (HX.out.keep hq)
    replace HR := Lib.hid (HR.out.below hq)
    replace HDR := Lib.hid (HDR.out.below hq)
    replace HD6 := Lib.hid (HD6.out.below hq)
    replace HB := Lib.hid (HB.out.trans (hq.mono HB.out.size))
    clear ho hq
    have ⟨c_HP, z_HP, f_HP⟩ := HP.out
    have ⟨c_HO, z_HO, f_HO⟩ := HO.out
    go_wp2_with fail
    refine (implOpenAs _ _ _ p _ _ _ HB3.out (open_none HB3.out).1 (open_none HB3.out).2 _ (HRS.out _ _ _) (push_reads (HR.out.below (by repeat (first | with_reducible exact belR | with_reducible apply belA | (with_reducible refine belS ?_ ?_; focus (first | omega | (simp; done) | (simp; omega))) | with_reducible apply belN | with_reducible apply belD | with_reducible assumption))) s0) (by omega) (by rw [HPL.out]; decide)).mono ?_
    rintro e w9 ⟨ao9, cp9, rfl, hr9, hb⟩
    have hq : Below w8.heap.size w8 w9 := below_call (by repeat (first | with_reducible exact belR | with_reducible apply belA | (with_reducible refine belS ?_ ?_; focus (first | omega | (simp; done) | (simp; omega))) | with_reducible apply belN | with_reducible apply belD | with_reducible assumption)) (by first | omega | (simp; done) | (simp; omega)) hb
    clear c_HP z_HP f_HP c_HO z_HO f_HO
    replace HS := Lib.hid (HS.out.keep hq)
    replace HP := Lib.hid (HP.out.keep hq)
    replace HX := Lib.hid (HX.out.keep hq)
    replace HR := Lib.hid (HR.out.below hq)
    replace HDR := Lib.hid (HDR.out.below hq)
    replace HD6 := Lib.hid (HD6.out.below hq)
    replace HB := Lib.hid (HB.out.trans (hq.mono HB.out.size))
    clear hb hq hr9 HO
    have hpw : wrap64 (p.number + 1) = p.number + 1 := Go.IntWalk.wrap64_in _ (by omega)
    have ⟨c_HS, z_HS, f_HS⟩ := HS.out
    have ⟨c_HP, z_HP, f_HP⟩ := HP.out
    go_upto_region 13 with fail
    refine settle (fun W => WB W (w9.heap.size + 1) #[.string p.site, .int .i64 (p.number + 1), .slice ap p.data.length cp, .int .i64 p.mac] ∧ Below w9.heap.size w9 W) ⟨WB.at (by simp), (by repeat (first | with_reducible exact belR | with_reducible apply belA | (with_reducible refine belS ?_ ?_; focus (first | omega | (simp; done) | (simp; omega))) | with_reducible apply belN | with_reducible apply belD | with_reducible assumption))⟩ ?_
    rintro w10 ⟨ho, hq⟩
    have HO := Lib.hid ho
    clear c_HS z_HS f_HS c_HP z_HP f_HP
    replace HS := Lib.hid (HS.out.keep hq)
    replace HP := Lib.hid (HP.out.keep hq)
    replace HX := Lib.hid (HX.out.keep hq)
    replace HR := Lib.hid (HR.out.below hq)
    replace HDR := Lib.hid (HDR.out.below hq)
    replace HD6 := Lib.hid (HD6.out.below hq)
    replace HB := Lib.hid (HB.out.trans (hq.mono HB.out.size))
    clear ho hq
    have HBR : Hid (∀ W, Reads (Rep.slice 5 Rep.byte) W [.slice ap p.data.length cp] p.data → Reads DPush.rep W [.string p.site, .int .i64 (p.number + 1), .slice ap p.data.length cp, .int .i64 p.mac] ⟨p.site, p.number + 1, p.data, p.mac⟩) := Lib.hid fun W hW => push_reads (p := ⟨p.site, p.number + 1, p.data, p.mac⟩) hW s0
    have ⟨c_HS, z_HS, f_HS⟩ := HS.out
    have ⟨c_HO, z_HO, f_HO⟩ := HO.out
    go_wp2_with fail
    refine (implOpenAs _ _ _ ⟨p.site, p.number + 1, p.data, p.mac⟩ _ _ _ HB4.out (open_none HB4.out).1 (open_none HB4.out).2 _ (HRS.out _ _ _) (HBR.out _ (HR.out.below (by repeat (first | with_reducible exact belR | with_reducible apply belA | (with_reducible refine belS ?_ ?_; focus (first | omega | (simp; done) | (simp; omega))) | with_reducible apply belN | with_reducible apply belD | with_reducible assumption)))) (by show p.site.size ≤ 4000000; omega) (by show p.data.length ≤ 4000000; rw [HPL.out]; decide)).mono ?_
    rintro e w13 ⟨ao13, cp13, rfl, hr13, hb⟩
    have hq : Below w10.heap.size w10 w13 := below_call (by repeat (first | with_reducible exact belR | with_reducible apply belA | (with_reducible refine belS ?_ ?_; focus (first | omega | (simp; done) | (simp; omega))) | with_reducible apply belN | with_reducible apply belD | with_reducible assumption)) (by first | omega | (simp; done) | (simp; omega)) hb
    clear c_HS z_HS f_HS c_HO z_HO f_HO
    replace HS := Lib.hid (HS.out.keep hq)
    replace HP := Lib.hid (HP.out.keep hq)
    replace HX := Lib.hid (HX.out.keep hq)
    replace HO := Lib.hid (HO.out.keep hq)
    replace HR := Lib.hid (HR.out.below hq)
    replace HDR := Lib.hid (HDR.out.below hq)
    replace HD6 := Lib.hid (HD6.out.below hq)
    replace HB := Lib.hid (HB.out.trans (hq.mono HB.out.size))
    clear hb hq hr13
    have ⟨c_HS, z_HS, f_HS⟩ := HS.out
    have ⟨c_HP, z_HP, f_HP⟩ := HP.out
    have ⟨c_HO, z_HO, f_HO⟩ := HO.out
    go_wp2_with fail
    refine (implDropOld _ _ [p, ⟨p.site, p.number + 1, p.data, p.mac⟩] ⟨⟨#[98, 97, 110, 107]⟩, s1, s2⟩ _ (lit_two rfl (push_reads (HR.out.below (by repeat (first | with_reducible exact belR | with_reducible apply belA | (with_reducible refine belS ?_ ?_; focus (first | omega | (simp; done) | (simp; omega))) | with_reducible apply belN | with_reducible apply belD | with_reducible assumption))) s0) (HBR.out _ (HR.out.below (by repeat (first | with_reducible exact belR | with_reducible apply belA | (with_reducible refine belS ?_ ?_; focus (first | omega | (simp; done) | (simp; omega))) | with_reducible apply belN | with_reducible apply belD | with_reducible assumption)))) (by simp)) (HRS.out _ _ _) (two_small hps HPL.out)).mono ?_
    rintro e w14 ⟨d14, rfl, hf14, hb⟩
    rw [HB5.out] at hf14
    obtain ⟨a14, c14, rfl⟩ := hf14.slice
    have hq : Below w13.heap.size w13 w14 := below_call (by repeat (first | with_reducible exact belR | with_reducible apply belA | (with_reducible refine belS ?_ ?_; focus (first | omega | (simp; done) | (simp; omega))) | with_reducible apply belN | with_reducible apply belD | with_reducible assumption)) (by first | omega | (simp; done) | (simp; omega)) hb
    clear c_HS z_HS f_HS c_HP z_HP f_HP c_HO z_HO f_HO
    replace HS := Lib.hid (HS.out.keep hq)
    replace HP := Lib.hid (HP.out.keep hq)
    replace HX := Lib.hid (HX.out.keep hq)
    replace HR := Lib.hid (HR.out.below hq)
    replace HDR := Lib.hid (HDR.out.below hq)
    replace HD6 := Lib.hid (HD6.out.below hq)
    replace HB := Lib.hid (HB.out.trans (hq.mono HB.out.size))
    have HL : Hid (Reads (Rep.slice 28 DPush.rep) w14 [.slice a14 1 c14] [p]) := Lib.hid hf14.reads
    clear hb hq hf14 HO HBR
    have ⟨c_HS, z_HS, f_HS⟩ := HS.out
    have ⟨c_HP, z_HP, f_HP⟩ := HP.out
    go_wp2_with fail
    refine (specDrawOpen _ l0 _ (HK.out.below (by have y := HB.out; exact (by repeat (first | with_reducible exact belR | with_reducible apply belA | (with_reducible refine belS ?_ ?_; focus (first | omega | (simp; done) | (simp; omega))) | with_reducible apply belN | with_reducible apply belD | with_reducible assumption)))) hl0).mono ?_
    rintro e w15 ⟨x, q, aq, cq, rfl, hfq, hxs, hqs, hql, hb⟩
    have hq : Below w14.heap.size w14 w15 := below_call (by repeat (first | with_reducible exact belR | with_reducible apply belA | (with_reducible refine belS ?_ ?_; focus (first | omega | (simp; done) | (simp; omega))) | with_reducible apply belN | with_reducible apply belD | with_reducible assumption)) (by first | omega | (simp; done) | (simp; omega)) hb
    clear c_HS z_HS f_HS c_HP z_HP f_HP
    replace HS := Lib.hid (HS.out.keep hq)
    replace HP := Lib.hid (HP.out.keep hq)
    replace HX := Lib.hid (HX.out.keep hq)
    replace HR := Lib.hid (HR.out.below hq)
    replace HDR := Lib.hid (HDR.out.below hq)
    replace HD6 := Lib.hid (HD6.out.below hq)
    replace HL := Lib.hid (HL.out.below hq)
    replace HB := Lib.hid (HB.out.trans (hq.mono HB.out.size))
    have HQ := Lib.hid hfq.reads
    clear hb hq hfq HK
    have HRX : Hid (∀ W, Reads DSubscription.rep W [.string x.site, .int .i64 x.secret, .int .i64 x.last] x) := Lib.hid fun W => ⟨[], DSubscription.rd.2 ⟨rfl, rfl, by unfold maxLen; omega⟩⟩
    obtain ⟨gb, hbq⟩ : ∃ gb, openPushB x q = gb := ⟨_, rfl⟩
    obtain ⟨X, hXq⟩ : ∃ X, openPushF x q = X := ⟨_, rfl⟩
    obtain ⟨D, hDq⟩ : ∃ D, openPushD x q = D := ⟨_, rfl⟩
    go_wp2_with fail
    refine (implOpenAs _ _ x q X D gb hbq hXq hDq _ (HRX.out _) (HQ.out.below (by repeat (first | with_reducible exact belR | with_reducible apply belA | (with_reducible refine belS ?_ ?_; focus (first | omega | (simp; done) | (simp; omega))) | with_reducible apply belN | with_reducible apply belD | with_reducible assumption))) (by omega) (by omega)).mono ?_
    rintro e w16 ⟨ao16, cp16, rfl, hr16, hb⟩
    have hq : Below w15.heap.size w15 w16 := below_call (by repeat (first | with_reducible exact belR | with_reducible apply belA | (with_reducible refine belS ?_ ?_; focus (first | omega | (simp; done) | (simp; omega))) | with_reducible apply belN | with_reducible apply belD | with_reducible assumption)) (by first | omega | (simp; done) | (simp; omega)) hb
    have HT : Hid (WB w16 w15.heap.size #[.string x.site, .int .i64 x.secret, .int .i64 x.last]) := Lib.hid (((WB.at rfl).growA).keep hb)
    have HU : Hid (WB w16 (w15.heap.size + 1) #[.string q.site, .int .i64 q.number, .slice aq q.data.length cq, .int .i64 q.mac]) := Lib.hid ((WB.at (by simp)).keep hb)
    replace HS := Lib.hid (HS.out.keep hq)
    replace HP := Lib.hid (HP.out.keep hq)
    replace HX := Lib.hid (HX.out.keep hq)
    replace HR := Lib.hid (HR.out.below hq)
    replace HDR := Lib.hid (HDR.out.below hq)
    replace HD6 := Lib.hid (HD6.out.below hq)
    replace HL := Lib.hid (HL.out.below hq)
    replace HQ := Lib.hid (HQ.out.below hq)
    replace HB := Lib.hid (HB.out.trans (hq.mono HB.out.size))
    clear hb hq hr16
    have ⟨c_HT, z_HT, f_HT⟩ := HT.out
    have ⟨c_HU, z_HU, f_HU⟩ := HU.out
    go_wp2_with fail
    refine (specOpenAs _ _ x q X D gb hbq hXq hDq _ (HRX.out _) (HQ.out.below (by repeat (first | with_reducible exact belR | with_reducible apply belA | (with_reducible refine belS ?_ ?_; focus (first | omega | (simp; done) | (simp; omega))) | with_reducible apply belN | with_reducible apply belD | with_reducible assumption))) (by omega) (by omega)).mono ?_
    rintro e w17 ⟨ao17, cp17, rfl, hr17, hb⟩
    have hq : Below w16.heap.size w16 w17 := below_call (by repeat (first | with_reducible exact belR | with_reducible apply belA | (with_reducible refine belS ?_ ?_; focus (first | omega | (simp; done) | (simp; omega))) | with_reducible apply belN | with_reducible apply belD | with_reducible assumption)) (by first | omega | (simp; done) | (simp; omega)) hb
    clear c_HT z_HT f_HT c_HU z_HU f_HU
    replace HP := Lib.hid (HP.out.keep hq)
    replace HX := Lib.hid (HX.out.keep hq)
    replace HR := Lib.hid (HR.out.below hq)
    replace HDR := Lib.hid (HDR.out.below hq)
    replace HD6 := Lib.hid (HD6.out.below hq)
    replace HL := Lib.hid (HL.out.below hq)
    replace HB := Lib.hid (HB.out.trans (hq.mono HB.out.size))
    clear hb hq hr17 HT HU HQ HRX HS hbq hXq hDq
    go_upto_region 18 with fail
    refine settle (fun W => Below w17.heap.size w17 W) (by repeat (first | with_reducible exact belR | with_reducible apply belA | (with_reducible refine belS ?_ ?_; focus (first | omega | (simp; done) | (simp; omega))) | with_reducible apply belN | with_reducible apply belD | with_reducible assumption)) ?_
    rintro w18 hq
    replace HP := Lib.hid (HP.out.keep hq)
    replace HX := Lib.hid (HX.out.keep hq)
    replace HR := Lib.hid (HR.out.below hq)
    replace HDR := Lib.hid (HDR.out.below hq)
    replace HD6 := Lib.hid (HD6.out.below hq)
    replace HL := Lib.hid (HL.out.below hq)
    replace HB := Lib.hid (HB.out.trans (hq.mono HB.out.size))
    clear hq
    have h01 : 0 < [p].length := by simp
    obtain ⟨b, off, cs_b, rfl, hw_b, hr_b, hcell_b⟩ := slice_at HL.out 0 h01
    obtain ⟨fe_b, hrd_b⟩ := hr_b
    have HR_b : Hid (Reads DPush.rep w18 cs_b p) := ⟨_, hrd_b⟩
    obtain ⟨b_v1, b_f1, rfl, _, b_s0, b_r1⟩ := DPush.rd.1 hrd_b
    obtain ⟨b_a1, b_k1, rfl, _⟩ := slice_open b_r1
    have b_R1 : Hid (Reads (Rep.slice 5 Rep.byte) w18 [.slice b_a1 p.data.length b_k1] p.data) := ⟨_, b_r1⟩
    clear b_r1
    clear hrd_b
    have b_c0 : w18.cell? ⟨b, off + 0 * 4, none⟩ = some (.string p.site) := hcell_b 0 (by decide)
    have b_c1 : w18.cell? ⟨b, off + 0 * 4 + 1, none⟩ = some (.int .i64 p.number) := hcell_b 1 (by decide)
    have b_c2 : w18.cell? ⟨b, off + 0 * 4 + 2, none⟩ = some (.slice b_a1 p.data.length b_k1) := hcell_b 2 (by decide)
    have b_c3 : w18.cell? ⟨b, off + 0 * 4 + 3, none⟩ = some (.int .i64 p.mac) := hcell_b 3 (by decide)
    clear hcell_b
    have e0 : w18.cell? ⟨b, off, none⟩ = some (.string p.site) := by simpa using b_c0
    have e1 : w18.cell? ⟨b, off + 1, none⟩ = some (.int .i64 p.number) := by simpa using b_c1
    have e2 : w18.cell? ⟨b, off + 2, none⟩ = some (.slice b_a1 p.data.length b_k1) := by simpa using b_c2
    have e3 : w18.cell? ⟨b, off + 3, none⟩ = some (.int .i64 p.mac) := by simpa using b_c3
    have HRB : Hid (Reads DPush.rep w18 [.string p.site, .int .i64 p.number, .slice b_a1 p.data.length b_k1, .int .i64 p.mac] p) := Lib.hid HR_b.out
    clear b_c0 b_c1 b_c2 b_c3 HR_b b_R1
    have HW : Hid (∀ W, Below w18.heap.size w18 W → (∀ o, W.cell? ⟨w6.heap.size, o, none⟩ = #[.string ⟨#[98, 97, 110, 107]⟩, .int .i64 s1, .int .i64 p.number][o]?) ∧ (∀ o, W.cell? ⟨kb, o, none⟩ = #[.string p.site, .int .i64 p.number, .slice ap p.data.length cp, .int .i64 p.mac][o]?) ∧ W.cell? ⟨b, off, none⟩ = some (.string p.site) ∧ W.cell? ⟨b, off + 1, none⟩ = some (.int .i64 p.number) ∧ W.cell? ⟨b, off + 2, none⟩ = some (.slice b_a1 p.data.length b_k1) ∧ W.cell? ⟨b, off + 3, none⟩ = some (.int .i64 p.mac) ∧ Below w18.heap.size w18 W) := Lib.hid fun W hW => ⟨(HX.out.keep hW).cell, (HP.out.keep hW).cell, (hW.cell (p := ⟨b, off, none⟩) hw_b).trans e0, (hW.cell (p := ⟨b, off + 1, none⟩) hw_b).trans e1, (hW.cell (p := ⟨b, off + 2, none⟩) hw_b).trans e2, (hW.cell (p := ⟨b, off + 3, none⟩) hw_b).trans e3, hW⟩
    cases gb
    all_goals
      go_region_held3 (fun W => (∀ o, W.cell? ⟨w6.heap.size, o, none⟩ = #[.string ⟨#[98, 97, 110, 107]⟩, .int .i64 s1, .int .i64 p.number][o]?) ∧ (∀ o, W.cell? ⟨kb, o, none⟩ = #[.string p.site, .int .i64 p.number, .slice ap p.data.length cp, .int .i64 p.mac][o]?) ∧ W.cell? ⟨b, off, none⟩ = some (.string p.site) ∧ W.cell? ⟨b, off + 1, none⟩ = some (.int .i64 p.number) ∧ W.cell? ⟨b, off + 2, none⟩ = some (.slice b_a1 p.data.length b_k1) ∧ W.cell? ⟨b, off + 3, none⟩ = some (.int .i64 p.mac) ∧ Below w18.heap.size w18 W)
        (first | exact HW.out _ hq3 | exact HW.out _ hq2 | exact HW.out _ hq1 | exact HW.out _ (by repeat (first | with_reducible exact belR | (with_reducible refine belAB ?_ ?_; focus (first | omega | (simp; done) | (simp; omega))) | (with_reducible refine belS ?_ ?_; focus (first | omega | (simp; done) | (simp; omega))) | with_reducible apply belN | with_reducible apply belD | with_reducible assumption)))
        (first
          | (go_at_call 11; have hx := hq2; clear hx; have hS3 := ‹_ ∧ _ ∧ _ ∧ _ ∧ _ ∧ _ ∧ Below w18.heap.size w18 _›; refine (dropNone _ _ p ⟨⟨#[98, 97, 110, 107]⟩, s1, p.number⟩ HB6.out _ (HL.out.below hS3.2.2.2.2.2.2) (HRS.out _ _ _) (one_small hps HPL.out)).mono ?_; rintro e w21 ⟨a21, c21, rfl, hb3⟩; have hq3 : Below w18.heap.size w18 w21 := below_call hS3.2.2.2.2.2.2 hS3.2.2.2.2.2.2.size hb3; clear hS3)
          | (go_at_call 15; have hx := hq1; clear hx; have hS2 := ‹_ ∧ _ ∧ _ ∧ _ ∧ _ ∧ _ ∧ Below w18.heap.size w18 _›; refine (equalSelf _ _ p _ (HRB.out.below hS2.2.2.2.2.2.2) (push_reads (HR.out.below hS2.2.2.2.2.2.2) s0)).mono ?_; rintro e w20 ⟨rfl, hb2⟩; have hq2 : Below w18.heap.size w18 w20 := below_call hS2.2.2.2.2.2.2 hS2.2.2.2.2.2.2.size hb2; clear hS2)
          | (go_at_call 14; have hS1 := ‹_ ∧ _ ∧ _ ∧ _ ∧ _ ∧ _ ∧ Below w18.heap.size w18 _›; refine (lawSelf _ _ d _ (HD6.out.below hS1.2.2.2.2.2.2) (HDR.out.below hS1.2.2.2.2.2.2)).mono ?_; rintro e w19 ⟨rfl, hb1⟩; have hq1 : Below w18.heap.size w18 w19 := below_call hS1.2.2.2.2.2.2 hS1.2.2.2.2.2.2.size hb1; clear hS1))
      all_goals
        go_wp2_with fail
        go_ret
        exact ⟨rfl, HB.out.trans (hq3.mono HB.out.size)⟩

end Go.Proofs.Ytmknfobkfimggaa
