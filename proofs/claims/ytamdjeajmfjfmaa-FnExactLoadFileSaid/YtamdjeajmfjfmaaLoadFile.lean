/-
  LoadFile.
-/
import Derived.Test.YtamdjeajmfjfmaaPageCopy
import Derived.Test.YtamdjeajmfjfmaaTResponse
namespace Go.Proofs.Ytamdjeajmfjfmaa
open Go.RowKit

theorem WB.grown {w w' : World} {k : Nat} {cs : Array Value} {row : Option Nat} (h : WB w k cs) (hg : w.grownBy w' row) (hne : some k ≠ row) : WB w' k cs :=
  ⟨fun o => (World.cell?_of_block (a := ⟨k, o, none⟩) (hg.block k h.lt hne)).trans (h.cell o), Nat.lt_of_lt_of_le h.lt hg.size, fun o => (World.frozen?_of_block (a := ⟨k, o, none⟩) (hg.block k h.lt hne)).trans (h.free o)⟩
theorem wpList_pushW {α : Type} {R : Rep α} {enc : α → List Value} {ok : α → Prop} {P : Program} (w : World) {ops : Array Oper} {rest : List Oper} {o : Oper} {a : Act} {Q : Exit → Act → World → Prop} (hgd : o.guard = none) (s x : Operand) (t tx : TypeId)
    (ho : o.op = .call { callee := .builtin .append, args := #[s, x], argTypes := #[t, tx] })
    (h : FlatR R enc ok) (B : Nat) (e : TypeId) (i : TypeInfo) (z : Value) (bytes : Nat) (ht : P.underlying t = some (.slice e)) {e' : TypeId} (htx : P.underlying tx = some (.slice e')) (hi : P.info? e = some i) (hz : i.zero = some z)
    (hsize : i.size = R.n) (hby : i.bytes = bytes) (hzs : z.cells.size = R.n)
    (v : Value) (l : List α) (hv : a.eval s = v) (hown : Fresh (Rep.slice e R) B w [v] l)
    (u : α) (xs : Array Value) (t2 : TypeId) (k : Nat) (hx : a.eval x = .slice (some ⟨k, 0, none⟩) 1 1) (hk : k = w.heap.size) (hxs : xs.toList = enc u) (hok : ok u)
    (hlen : l.length + 1 ≤ 16777216) (hbytes : bytes ≤ 8388608) (hbase : B ≤ w.heap.size)
    (hgo : ∀ ao cap w', Fresh (Rep.slice e R) B w' [.slice ao (l.length + 1) cap] (l ++ [u]) → (w.alloc (.cells xs t2)).grownBy w' v.ownBlock → (∀ b, (Value.slice ao (l.length + 1) cap).ownBlock = some b → v.ownBlock = some b ∨ w.heap.size ≤ b) →
      wpList P ops Q rest (a.put o.dst (.slice ao (l.length + 1) cap)) w') : wpList P ops Q (o :: rest) a (w.alloc (.cells xs t2)) := by
  have hb : Below w.heap.size w (w.alloc (.cells xs t2)) := (Below.refl _ _).alloc (Nat.le_refl _) _
  have hmul : (l.length + 1) * bytes ≤ 16777216 * 8388608 := Nat.mul_le_mul hlen hbytes
  obtain ⟨ho1, ho2⟩ := h.own (hown.below hb)
  have hge := World.ownsRow.lt ho1
  have hsz := hb.size
  refine wpList_append_src (w.alloc (.cells xs t2)) hgd s x t tx ho B e i z R.n bytes ht hi hz hsize hby hzs v l.length (l.flatMap enc) hv ho1 (.slice (some ⟨k, 0, none⟩) 1 1) [u].length _ hx
    (lit_src' (us := [u]) (n := 1) h htx (by simpa using hxs) rfl (by simpa using hok) hk) (by simp only [List.length_cons, List.length_nil]; omega) (by simp only [List.length_cons, List.length_nil]; unfold maxLen; omega) (by omega) fun ao cap w' h1 h2 h3 => ?_
  refine hgo ao cap w' (h.fresh (B' := B) (by rw [List.length_append, List.flatMap_append]; exact h1) (fun y hy => (List.mem_append.1 hy).elim (ho2 y) (fun hm => by simp at hm; subst hm; exact hok)) fun b hb' => ?_) h2 fun b hb' => ?_
  · rcases h3 b hb' with hb' | rfl
    · exact (hge b (by simpa using hb')).1
    · omega
  · rcases h3 b (by simpa using hb') with hb' | rfl
    · exact .inl (by simpa using hb')
    · exact .inr hsz
theorem own_mem {α : Type} {R : Rep α} {E : TypeId} {w : World} {v : Value} {l : List α} {f : List Nat} (h : (Rep.slice E R).rd true w [v] l f) {b : Nat} (hb : v.ownBlock = some b) : b ∈ f := by
  obtain ⟨v', ts, hv, _, rfl, _⟩ := h
  simp only [List.cons.injEq, and_true] at hv
  subst hv
  exact List.mem_append.2 (.inl (by simp [head, hb]))
theorem FlatR.foot {α : Type} {R : Rep α} {enc : α → List Value} {ok : α → Prop} (h : FlatR R enc ok) {E : TypeId} {B : Nat} {w : World} {v : Value} {l : List α} (hf : Fresh (Rep.slice E R) B w [v] l) : (Rep.slice E R).rd true w [v] l v.ownBlock.toList := by
  obtain ⟨fp, ⟨v', ts, hv, rfl, rfl, hs⟩, _, _⟩ := hf
  simp only [List.cons.injEq, and_true] at hv
  subst hv
  refine ⟨v, ts, rfl, rfl, ?_, hs⟩
  rw [(cells_flat h ts hs.1).2.1, List.append_nil]
  simp [head]
theorem page_push {B : Nat} {w W w2 : World} {x : DPage} {u : DLoaded} {a1 a2 a3 ao2 : Option Addr} {k1 k2 k3 cap2 : Nat} (hf : Fresh DPage.rep B w [.int .i64 x.id, .string x.site, .string x.top, .int .i64 x.version, .slice a1 x.loaded.length k1, .slice a2 x.machine.script.length k2, .int .i64 x.machine.pc, .slice a3 x.machine.regs.length k3, .int .i64 x.machine.steps, .bool x.machine.done, .bool x.machine.wait] x) (hb : Below w.heap.size w W)
    (hg : W.grownBy w2 (Value.slice a1 x.loaded.length k1).ownBlock) (hn : Fresh (Rep.slice 123 DLoaded.rep) B w2 [.slice ao2 (x.loaded.length + 1) cap2] (x.loaded ++ [u]))
    (ho : ∀ b, (Value.slice ao2 (x.loaded.length + 1) cap2).ownBlock = some b → (Value.slice a1 x.loaded.length k1).ownBlock = some b ∨ w.heap.size + 1 ≤ b) (y : Value) :
    Fresh DPage.rep B (w2.setCell ⟨w.heap.size, 4, none⟩ y) [.int .i64 x.id, .string x.site, .string x.top, .int .i64 x.version, .slice ao2 (x.loaded.length + 1) cap2, .slice a2 x.machine.script.length k2, .int .i64 x.machine.pc, .slice a3 x.machine.regs.length k3, .int .i64 x.machine.steps, .bool x.machine.done, .bool x.machine.wait] { x with loaded := x.loaded ++ [u] } := by
  obtain ⟨fp, r0, n0, g0⟩ := hf
  obtain ⟨v1, v2, v3, f4, f5, he, rfl, s0, s1, r4, r5⟩ := DPage.parts r0
  simp only [List.cons.injEq, and_true, true_and] at he
  obtain ⟨rfl, rfl, rfl⟩ := he
  rw [List.nodup_append] at n0
  have hlt := Rep.lt _ r5
  have r5' := Rep.frame _ (w' := w2) r5 fun b hb' => by
    have h1 := hlt b hb'
    rw [hg.block b (Nat.lt_of_lt_of_le h1 hb.size) (fun e => n0.2.2 b (own_mem r4 e.symm) b hb' rfl)]
    exact hb.block b h1
  have hfoot := DLoaded.flat.foot hn
  have hge := World.ownsRow.lt (DLoaded.flat.own hn).1
  have hown : ∀ b ∈ (Value.slice ao2 (x.loaded.length + 1) cap2).ownBlock.toList ++ f5, b ≠ w.heap.size := by
    intro b hb' e
    rcases List.mem_append.1 hb' with hb' | hb'
    · rcases ho b (by simpa using hb') with h1 | h1
      · have := Rep.lt _ r4 b (own_mem r4 h1); omega
      · omega
    · have := hlt b hb'; omega
  have hj := DPage.join (x := { x with loaded := x.loaded ++ [u] }) _ _ hfoot _ f5 r5' s0 s1
  refine ⟨(Value.slice ao2 (x.loaded.length + 1) cap2).ownBlock.toList ++ f5, Rep.frame _ hj (fun b hb' => Below.heap_setCell _ _ _ _ (hown b hb')), ?_, ?_⟩
  · rw [List.nodup_append]
    refine ⟨by cases (Value.slice ao2 (x.loaded.length + 1) cap2).ownBlock <;> simp, n0.2.1, fun b hb1 c hc e => ?_⟩
    subst e
    rcases ho b (by simpa using hb1) with h1 | h1
    · exact n0.2.2 b (own_mem r4 h1) b hc rfl
    · have := hlt b hc; omega
  · intro b hb'
    rcases List.mem_append.1 hb' with hb' | hb'
    · exact (hge b (by simpa using hb')).1
    · exact g0 b (List.mem_append.2 (.inr hb'))

attribute [local irreducible] isPageF

def loadOut (x : DPage) (path : ByteArray) (r : DResponse) : DPage := { x with loaded := x.loaded ++ [⟨path, r.version⟩] }
def loadFileB (x : DPage) (path : ByteArray) (r : DResponse) : Bool := !(r.status != 200) && (!(r.version != x.version) && (isPageF x && isPageF (loadOut x path r)))
def loadFileF (x : DPage) (path : ByteArray) (r : DResponse) : DPage := if loadFileB x path r then loadOut x path r else x

set_option maxRecDepth 100000 in
set_option maxHeartbeats 1600000 in
theorem implLoadFile (cs : List Value) (x : DPage) (path : ByteArray) (ds : List Value) (r : DResponse) (w : World) (h : Reads DPage.rep w cs x) (h' : Reads DResponse.rep w ds r) (hs0 : x.loaded.length ≤ 1048576) (hs1 : x.machine.script.length ≤ 1048600) (hs2 : x.machine.regs.length ≤ 1048600) (hp : path.size ≤ maxLen) :
    Calls Try.prog 39 #[.agg cs.toArray, .string path, .agg ds.toArray] w fun e w' => ∃ ds, e = .returned (.tuple #[.agg ds.toArray, .bool (loadFileB x path r)]) ∧ Fresh DPage.rep w.heap.size w' ds (loadFileF x path r) ∧ Below w.heap.size w w' := by
  have HR := Lib.hid h
  obtain ⟨fp_q, h⟩ := h
  obtain ⟨q_v1, q_v2, q_v3, q_f1, q_f2, q_f3, rfl, _, q_s0, q_s1, q_r1, q_r2, q_r3⟩ := DPage.rd.1 h
  obtain ⟨q_a1, q_c1, rfl, q_hm1, q_lc1, q_hu1⟩ := slice_open q_r1; clear q_hu1
  have q_K1 : Hid (Reads (Rep.slice 123 DLoaded.rep) w [.slice q_a1 x.loaded.length q_c1] x.loaded) := ⟨_, q_r1⟩
  obtain ⟨q_a2, q_c2, rfl, q_hm2, q_lc2, q_hu2⟩ := slice_open q_r2; clear q_hu2
  have q_K2 : Hid (Reads (Rep.slice 113 DInstr.rep) w [.slice q_a2 x.machine.script.length q_c2] x.machine.script) := ⟨_, q_r2⟩
  obtain ⟨q_a3, q_c3, rfl, q_hm3, q_lc3, q_hu3⟩ := slice_open q_r3; clear q_hu3
  have q_K3 : Hid (Reads (Rep.slice 3 Rep.int) w [.slice q_a3 x.machine.regs.length q_c3] x.machine.regs) := ⟨_, q_r3⟩
  clear q_r1 q_r2 q_r3 h
  obtain ⟨fp_z, h'⟩ := h'
  obtain ⟨z_v1, z_f1, rfl, _, z_r1⟩ := DResponse.rd.1 h'
  obtain ⟨z_a1, z_c1, rfl, z_hm1, z_lc1, z_hu1⟩ := slice_open z_r1; clear z_hu1
  have z_K1 : Hid (Reads (Rep.slice 5 Rep.byte) w [.slice z_a1 r.body.length z_c1] r.body) := ⟨_, z_r1⟩
  clear z_r1 h'
  obtain ⟨i0, hi, hz0, hz1, hz2⟩ := info_parts infoLoaded
  go_enter Try.func39, Try.ntmps39
  go_wp2_with fail
  refine (implCopyPage _ x _ (HR.out.below (by repeat (first | with_reducible exact belR | with_reducible apply belA | (with_reducible refine belS ?_ ?_; focus (first | omega | (simp; done) | (simp; omega))) | with_reducible apply belN | with_reducible apply belD | with_reducible assumption))) (by omega) hs1 hs2).mono ?_
  rintro e w1 ⟨ds, rfl, hf, hb⟩
  obtain ⟨a1, k1, a2, k2, a3, k3, rfl⟩ := DPage.fshape hf
  have HX3 : Hid (WB w1 w.heap.size #[.int .i64 x.id, .string x.site, .string x.top, .int .i64 x.version, .slice q_a1 x.loaded.length q_c1, .slice q_a2 x.machine.script.length q_c2, .int .i64 x.machine.pc, .slice q_a3 x.machine.regs.length q_c3, .int .i64 x.machine.steps, .bool x.machine.done, .bool x.machine.wait]) := Lib.hid ((((WB.at rfl).growA).growA).keep hb)
  have HX5 : Hid (WB w1 (w.heap.size + 1) #[.int .i64 r.type_, .int .i64 r.status, .int .i64 r.version, .slice z_a1 r.body.length z_c1, .bool r.shares]) := Lib.hid (((WB.at (by simp)).growA).keep hb)
  have HX6 : Hid (WB w1 (w.heap.size + 2) #[.int .i64 0, .string ⟨#[]⟩, .string ⟨#[]⟩, .int .i64 0, .slice none 0 0, .slice none 0 0, .int .i64 0, .slice none 0 0, .int .i64 0, .bool false, .bool false]) := Lib.hid ((WB.at (by simp)).keep hb)
  have HB1 : Hid (Below w.heap.size w w1) := Lib.hid (below_call (by repeat (first | with_reducible exact belR | with_reducible apply belA | (with_reducible refine belS ?_ ?_; focus (first | omega | (simp; done) | (simp; omega))) | with_reducible apply belN | with_reducible apply belD | with_reducible assumption)) (by first | omega | (simp; done) | (simp; omega)) hb)
  have hsz : w.heap.size + 3 ≤ w1.heap.size := by have y := hb.size; simp at y; omega
  have HF : Hid (Fresh DPage.rep (w.heap.size + 3) w1 [.int .i64 x.id, .string x.site, .string x.top, .int .i64 x.version, .slice a1 x.loaded.length k1, .slice a2 x.machine.script.length k2, .int .i64 x.machine.pc, .slice a3 x.machine.regs.length k3, .int .i64 x.machine.steps, .bool x.machine.done, .bool x.machine.wait] x) := Lib.hid (hf.mono (by simp))
  clear hf hb
  have HL : Hid (Fresh (Rep.slice 123 DLoaded.rep) (w.heap.size + 3) w1 [.slice a1 x.loaded.length k1] x.loaded) := Lib.hid (by
    obtain ⟨fp, r0, n0, g0⟩ := HF.out
    obtain ⟨v1, v2, v3, f4, f5, he, rfl, s0, s1, r4, r5⟩ := DPage.parts r0
    simp only [List.cons.injEq, and_true, true_and] at he
    obtain ⟨rfl, rfl, rfl⟩ := he
    rw [List.nodup_append] at n0
    exact ⟨f4, r4, n0.1, fun b hb => g0 b (List.mem_append.2 (.inl hb))⟩)
  have HOL : Hid (∀ b, (Value.slice a1 x.loaded.length k1).ownBlock = some b → w.heap.size + 3 ≤ b ∧ b < w1.heap.size) := Lib.hid fun b hb => World.ownsRow.lt (DLoaded.flat.own HL.out).1 b hb
  have ⟨c_HX5, z_HX5, f_HX5⟩ := HX5.out
  go_wp2_with (at_builtin; refine wpList_pushW _ rfl _ _ 50 50 rfl DLoaded.flat (w.heap.size + 3) 123 i0 _ 24 Try.underlying50 Try.underlying50 hi hz0 hz1 hz2 rfl _ x.loaded rfl (HL.out.below (by repeat (first | with_reducible exact belR | with_reducible apply belA | (with_reducible refine belS ?_ ?_; focus (first | omega | (simp; done) | (simp; omega))) | with_reducible apply belN | with_reducible apply belD | with_reducible assumption))) ⟨path, r.version⟩ _ _ _ rfl ?p0 rfl hp ?p1 ?p2 ?p3 ?_)
  case p0 => first | rfl | simp
  case p1 => omega
  case p2 => decide
  case p3 => simp; omega
  intro ao2 cap2 w2 hf2 hg2 ho2
  clear c_HX5 z_HX5 f_HX5
  have HY3 := Lib.hid ((HX3.out.growA.growA).grown hg2 (by intro e; have y := HOL.out _ e.symm; omega))
  have HY5 := Lib.hid ((HX5.out.growA.growA).grown hg2 (by intro e; have y := HOL.out _ e.symm; omega))
  have HY6 := Lib.hid ((HX6.out.growA.growA).grown hg2 (by intro e; have y := HOL.out _ e.symm; omega))
  have HY8 : Hid (WB w2 w1.heap.size #[.int .i64 x.id, .string x.site, .string x.top, .int .i64 x.version, .slice a1 x.loaded.length k1, .slice a2 x.machine.script.length k2, .int .i64 x.machine.pc, .slice a3 x.machine.regs.length k3, .int .i64 x.machine.steps, .bool x.machine.done, .bool x.machine.wait]) := Lib.hid (((WB.at rfl).growA).grown hg2 (by intro e; have y := HOL.out _ e.symm; omega))
  have HP := Lib.hid (page_push (w := w1) HF.out (belA (belA belR)) hg2 hf2 (fun b hb => ho2 b hb) (.slice ao2 (x.loaded.length + 1) cap2))
  have HB2 : Hid (Below w.heap.size w w2) := Lib.hid (Below.trans (belA (belA HB1.out) : Below w.heap.size w _) (grow_below (v := .slice a1 x.loaded.length k1) hg2 (fun b hb => by have y := HOL.out b (by simpa using hb); omega) (by simp; omega)))
  clear hf2 hg2 ho2 HX3 HX5 HX6 HF HL HOL HB1 hi hz0 hz1 hz2
  have ⟨c_HY8, z_HY8, f_HY8⟩ := HY8.out
  go_upto_region 3 with fail
  refine settle (fun W => WB W w.heap.size #[.int .i64 x.id, .string x.site, .string x.top, .int .i64 x.version, .slice q_a1 x.loaded.length q_c1, .slice q_a2 x.machine.script.length q_c2, .int .i64 x.machine.pc, .slice q_a3 x.machine.regs.length q_c3, .int .i64 x.machine.steps, .bool x.machine.done, .bool x.machine.wait] ∧ WB W (w.heap.size + 1) #[.int .i64 r.type_, .int .i64 r.status, .int .i64 r.version, .slice z_a1 r.body.length z_c1, .bool r.shares] ∧ WB W (w.heap.size + 2) #[.int .i64 0, .string ⟨#[]⟩, .string ⟨#[]⟩, .int .i64 0, .slice none 0 0, .slice none 0 0, .int .i64 0, .slice none 0 0, .int .i64 0, .bool false, .bool false] ∧ WB W w1.heap.size #[.int .i64 x.id, .string x.site, .string x.top, .int .i64 x.version, .slice ao2 (x.loaded.length + 1) cap2, .slice a2 x.machine.script.length k2, .int .i64 x.machine.pc, .slice a3 x.machine.regs.length k3, .int .i64 x.machine.steps, .bool x.machine.done, .bool x.machine.wait] ∧ Fresh DPage.rep (w.heap.size + 3) W [.int .i64 x.id, .string x.site, .string x.top, .int .i64 x.version, .slice ao2 (x.loaded.length + 1) cap2, .slice a2 x.machine.script.length k2, .int .i64 x.machine.pc, .slice a3 x.machine.regs.length k3, .int .i64 x.machine.steps, .bool x.machine.done, .bool x.machine.wait] (loadOut x path r) ∧ Below w.heap.size w W ∧ w1.heap.size < W.heap.size) ⟨HY3.out.setOther (by omega), HY5.out.setOther (by omega), HY6.out.setOther (by omega), HY8.out.setAt (i := 4) (by simp) rfl, HP.out, (by have y := HB2.out; exact (by repeat (first | with_reducible exact belR | with_reducible apply belA | (with_reducible refine belS ?_ ?_; focus (first | omega | (simp; done) | (simp; omega))) | with_reducible apply belN | with_reducible apply belD | with_reducible assumption))), by have y := HY8.out.lt; simpa using y⟩ ?_
  rintro w3 ⟨hx3, hx5, hx6, hx8, hp3, hb3, hz3⟩
  clear c_HY8 z_HY8 f_HY8
  clear HY3 HY5 HY6 HY8 HP HB2
  go_cut [39] from 20 to 39 (fun v W => v = .bool (!loadFileB x path r) ∧ Below w3.heap.size w3 W)
  case first =>
    have ⟨c3, z3', f3⟩ := hx3
    have ⟨c5, z5', f5⟩ := hx5
    have ⟨c8, z8', f8⟩ := hx8
    cases n1 : (r.status != 200)
    case true =>
      have NB : Hid (loadFileB x path r = false) := Lib.hid (by unfold loadFileB; rw [n1]; rfl)
      go_wp2_with fail
      go_meet
      exact ⟨by rw [NB.out]; rfl, belR⟩
    case false =>
      cases n2 : (r.version != x.version)
      case true =>
        have NB : Hid (loadFileB x path r = false) := Lib.hid (by unfold loadFileB; rw [n1, n2]; rfl)
        go_wp2_with fail
        go_meet
        exact ⟨by rw [NB.out]; rfl, belR⟩
      case false =>
        cases n3 : isPageF x
        case false =>
          have NB : Hid (loadFileB x path r = false) := Lib.hid (by unfold loadFileB; rw [n1, n2, n3]; rfl)
          go_wp2_with (go_at_call 68; refine (implIsPage _ x _ (HR.out.below hb3)).mono ?_; rintro e w4 ⟨rfl, hb4⟩; have h8 := hx8.keep hb4; have ⟨c9, z9, f9⟩ := h8)
          go_meet
          exact ⟨by rw [NB.out]; rfl, hb4⟩
        case true =>
          cases n4 : isPageF (loadOut x path r)
          case false =>
            have NB : Hid (loadFileB x path r = false) := Lib.hid (by unfold loadFileB; rw [n1, n2, n3, n4]; rfl)
            go_wp2_with (first | (go_at_call 68; have hq := hb4; clear hq; refine (implIsPage _ (loadOut x path r) _ (hp3.reads.below hb4)).mono ?_; rintro e w5 ⟨rfl, hb5⟩; have hb6 := hb4.trans (hb5.mono hb4.size)) | (go_at_call 68; refine (implIsPage _ x _ (HR.out.below hb3)).mono ?_; rintro e w4 ⟨rfl, hb4⟩; have h8 := hx8.keep hb4; have ⟨c9, z9, f9⟩ := h8))
            go_meet
            exact ⟨by rw [NB.out]; rfl, hb6⟩
          case true =>
            have NB : Hid (loadFileB x path r = true) := Lib.hid (by unfold loadFileB; rw [n1, n2, n3, n4]; rfl)
            go_wp2_with (first | (go_at_call 68; have hq := hb4; clear hq; refine (implIsPage _ (loadOut x path r) _ (hp3.reads.below hb4)).mono ?_; rintro e w5 ⟨rfl, hb5⟩; have hb6 := hb4.trans (hb5.mono hb4.size)) | (go_at_call 68; refine (implIsPage _ x _ (HR.out.below hb3)).mono ?_; rintro e w4 ⟨rfl, hb4⟩; have h8 := hx8.keep hb4; have ⟨c9, z9, f9⟩ := h8))
            go_meet
            exact ⟨by rw [NB.out]; rfl, hb6⟩
  case rest =>
    obtain ⟨rfl, hbc⟩ := hcut
    have HX3 := Lib.hid (hx3.keep hbc)
    have HX6 := Lib.hid (hx6.keep hbc)
    have HX8 := Lib.hid (hx8.keep hbc)
    have HP := Lib.hid (hp3.below hbc)
    have HB := Lib.hid (hb3.trans (hbc.mono hb3.size))
    have hz4 := hbc.size
    clear hx3 hx5 hx6 hx8 hp3
    cases nb : loadFileB x path r
    · have HE : Hid (loadFileF x path r = x) := Lib.hid (by unfold loadFileF; rw [nb]; rfl)
      have ⟨c_HX3, z_HX3, f_HX3⟩ := HX3.out
      go_wp2_with fail
      refine (implCopyPage _ x _ (HR.out.below HB.out) (by omega) hs1 hs2).mono ?_
      rintro e w6 ⟨ds, rfl, hf6, hb6⟩
      obtain ⟨d1, e1, d2, e2, d3, e3, rfl⟩ := DPage.fshape hf6
      replace HX6 := Lib.hid (HX6.out.keep hb6)
      replace HB := Lib.hid (HB.out.trans (hb6.mono HB.out.size))
      have HF6 : Hid (Fresh DPage.rep (w.heap.size + 3) w6 [.int .i64 x.id, .string x.site, .string x.top, .int .i64 x.version, .slice d1 x.loaded.length e1, .slice d2 x.machine.script.length e2, .int .i64 x.machine.pc, .slice d3 x.machine.regs.length e3, .int .i64 x.machine.steps, .bool x.machine.done, .bool x.machine.wait] x) := Lib.hid (hf6.mono (by omega))
      clear hf6 hb6 HP HX8
      clear c_HX3 z_HX3 f_HX3
      have ⟨c_HX6, z_HX6, f_HX6⟩ := HX6.out
      go_wp2
      have cr := (sets11 (b0 := .int .i64 x.id) (b1 := .string x.site) (b2 := .string x.top) (b3 := .int .i64 x.version) (b4 := .slice d1 x.loaded.length e1) (b5 := .slice d2 x.machine.script.length e2) (b6 := .int .i64 x.machine.pc) (b7 := .slice d3 x.machine.regs.length e3) (b8 := .int .i64 x.machine.steps) (b9 := .bool x.machine.done) (b10 := .bool x.machine.wait) HX6.out).cell
      refine bodyPost_ret (v := .tuple #[.agg #[.int .i64 x.id, .string x.site, .string x.top, .int .i64 x.version, .slice d1 x.loaded.length e1, .slice d2 x.machine.script.length e2, .int .i64 x.machine.pc, .slice d3 x.machine.regs.length e3, .int .i64 x.machine.steps, .bool x.machine.done, .bool x.machine.wait], .bool false]) (by simp [results, Try.results39, go_sem, cr]) rfl ⟨_, by rw [nb], ?_, ?_⟩
      · rw [HE.out]
        exact (Fresh.mono (B := (w.heap.size + 3)) (by repeat (first | with_reducible exact HF6.out | with_reducible refine Fresh.setLow ?_ (by omega) | with_reducible refine Fresh.drew ?_)) (by omega))
      · have y := HB.out
        exact (by repeat (first | with_reducible exact belR | with_reducible apply belA | (with_reducible refine belS ?_ ?_; focus (first | omega | (simp; done) | (simp; omega))) | with_reducible apply belN | with_reducible apply belD | with_reducible assumption))
    · have HE : Hid (loadFileF x path r = loadOut x path r) := Lib.hid (by unfold loadFileF; rw [nb]; rfl)
      have ⟨c_HX6, z_HX6, f_HX6⟩ := HX6.out
      have ⟨c_HX8, z_HX8, f_HX8⟩ := HX8.out
      go_wp2
      have cr := (sets11 (b0 := .int .i64 x.id) (b1 := .string x.site) (b2 := .string x.top) (b3 := .int .i64 x.version) (b4 := .slice ao2 (x.loaded.length + 1) cap2) (b5 := .slice a2 x.machine.script.length k2) (b6 := .int .i64 x.machine.pc) (b7 := .slice a3 x.machine.regs.length k3) (b8 := .int .i64 x.machine.steps) (b9 := .bool x.machine.done) (b10 := .bool x.machine.wait) HX6.out).cell
      refine bodyPost_ret (v := .tuple #[.agg #[.int .i64 x.id, .string x.site, .string x.top, .int .i64 x.version, .slice ao2 (x.loaded.length + 1) cap2, .slice a2 x.machine.script.length k2, .int .i64 x.machine.pc, .slice a3 x.machine.regs.length k3, .int .i64 x.machine.steps, .bool x.machine.done, .bool x.machine.wait], .bool true]) (by simp [results, Try.results39, go_sem, cr]) rfl ⟨_, by rw [nb], ?_, ?_⟩
      · rw [HE.out]
        exact (Fresh.mono (B := (w.heap.size + 3)) (by repeat (first | with_reducible exact HP.out | with_reducible refine Fresh.setLow ?_ (by omega) | with_reducible refine Fresh.drew ?_)) (by omega))
      · have y := HB.out
        exact (by repeat (first | with_reducible exact belR | with_reducible apply belA | (with_reducible refine belS ?_ ?_; focus (first | omega | (simp; done) | (simp; omega))) | with_reducible apply belN | with_reducible apply belD | with_reducible assumption))


set_option maxRecDepth 100000 in
set_option maxHeartbeats 1600000 in
theorem specLoadFile (cs : List Value) (x : DPage) (path : ByteArray) (ds : List Value) (r : DResponse) (w : World) (h : Reads DPage.rep w cs x) (h' : Reads DResponse.rep w ds r) (hs0 : x.loaded.length ≤ 1048576) (hs1 : x.machine.script.length ≤ 1048600) (hs2 : x.machine.regs.length ≤ 1048600) (hp : path.size ≤ maxLen) :
    Calls Try.prog 36 #[.agg cs.toArray, .string path, .agg ds.toArray] w fun e w' => ∃ ds, e = .returned (.tuple #[.agg ds.toArray, .bool (loadFileB x path r)]) ∧ Fresh DPage.rep w.heap.size w' ds (loadFileF x path r) ∧ Below w.heap.size w w' := by
  have HR := Lib.hid h
  obtain ⟨fp_q, h⟩ := h
  obtain ⟨q_v1, q_v2, q_v3, q_f1, q_f2, q_f3, rfl, _, q_s0, q_s1, q_r1, q_r2, q_r3⟩ := DPage.rd.1 h
  obtain ⟨q_a1, q_c1, rfl, q_hm1, q_lc1, q_hu1⟩ := slice_open q_r1; clear q_hu1
  have q_K1 : Hid (Reads (Rep.slice 123 DLoaded.rep) w [.slice q_a1 x.loaded.length q_c1] x.loaded) := ⟨_, q_r1⟩
  obtain ⟨q_a2, q_c2, rfl, q_hm2, q_lc2, q_hu2⟩ := slice_open q_r2; clear q_hu2
  have q_K2 : Hid (Reads (Rep.slice 113 DInstr.rep) w [.slice q_a2 x.machine.script.length q_c2] x.machine.script) := ⟨_, q_r2⟩
  obtain ⟨q_a3, q_c3, rfl, q_hm3, q_lc3, q_hu3⟩ := slice_open q_r3; clear q_hu3
  have q_K3 : Hid (Reads (Rep.slice 3 Rep.int) w [.slice q_a3 x.machine.regs.length q_c3] x.machine.regs) := ⟨_, q_r3⟩
  clear q_r1 q_r2 q_r3 h
  obtain ⟨fp_z, h'⟩ := h'
  obtain ⟨z_v1, z_f1, rfl, _, z_r1⟩ := DResponse.rd.1 h'
  obtain ⟨z_a1, z_c1, rfl, z_hm1, z_lc1, z_hu1⟩ := slice_open z_r1; clear z_hu1
  have z_K1 : Hid (Reads (Rep.slice 5 Rep.byte) w [.slice z_a1 r.body.length z_c1] r.body) := ⟨_, z_r1⟩
  clear z_r1 h'
  obtain ⟨i0, hi, hz0, hz1, hz2⟩ := info_parts infoLoaded
  go_enter Try.func36, Try.ntmps36
  go_wp2_with fail
  refine (specCopyPage _ x _ (HR.out.below (by repeat (first | with_reducible exact belR | with_reducible apply belA | (with_reducible refine belS ?_ ?_; focus (first | omega | (simp; done) | (simp; omega))) | with_reducible apply belN | with_reducible apply belD | with_reducible assumption))) (by omega) hs1 hs2).mono ?_
  rintro e w1 ⟨ds, rfl, hf, hb⟩
  obtain ⟨a1, k1, a2, k2, a3, k3, rfl⟩ := DPage.fshape hf
  have HX3 : Hid (WB w1 w.heap.size #[.int .i64 x.id, .string x.site, .string x.top, .int .i64 x.version, .slice q_a1 x.loaded.length q_c1, .slice q_a2 x.machine.script.length q_c2, .int .i64 x.machine.pc, .slice q_a3 x.machine.regs.length q_c3, .int .i64 x.machine.steps, .bool x.machine.done, .bool x.machine.wait]) := Lib.hid ((((WB.at rfl).growA).growA).keep hb)
  have HX5 : Hid (WB w1 (w.heap.size + 1) #[.int .i64 r.type_, .int .i64 r.status, .int .i64 r.version, .slice z_a1 r.body.length z_c1, .bool r.shares]) := Lib.hid (((WB.at (by simp)).growA).keep hb)
  have HX6 : Hid (WB w1 (w.heap.size + 2) #[.int .i64 0, .string ⟨#[]⟩, .string ⟨#[]⟩, .int .i64 0, .slice none 0 0, .slice none 0 0, .int .i64 0, .slice none 0 0, .int .i64 0, .bool false, .bool false]) := Lib.hid ((WB.at (by simp)).keep hb)
  have HB1 : Hid (Below w.heap.size w w1) := Lib.hid (below_call (by repeat (first | with_reducible exact belR | with_reducible apply belA | (with_reducible refine belS ?_ ?_; focus (first | omega | (simp; done) | (simp; omega))) | with_reducible apply belN | with_reducible apply belD | with_reducible assumption)) (by first | omega | (simp; done) | (simp; omega)) hb)
  have hsz : w.heap.size + 3 ≤ w1.heap.size := by have y := hb.size; simp at y; omega
  have HF : Hid (Fresh DPage.rep (w.heap.size + 3) w1 [.int .i64 x.id, .string x.site, .string x.top, .int .i64 x.version, .slice a1 x.loaded.length k1, .slice a2 x.machine.script.length k2, .int .i64 x.machine.pc, .slice a3 x.machine.regs.length k3, .int .i64 x.machine.steps, .bool x.machine.done, .bool x.machine.wait] x) := Lib.hid (hf.mono (by simp))
  clear hf hb
  have HL : Hid (Fresh (Rep.slice 123 DLoaded.rep) (w.heap.size + 3) w1 [.slice a1 x.loaded.length k1] x.loaded) := Lib.hid (by
    obtain ⟨fp, r0, n0, g0⟩ := HF.out
    obtain ⟨v1, v2, v3, f4, f5, he, rfl, s0, s1, r4, r5⟩ := DPage.parts r0
    simp only [List.cons.injEq, and_true, true_and] at he
    obtain ⟨rfl, rfl, rfl⟩ := he
    rw [List.nodup_append] at n0
    exact ⟨f4, r4, n0.1, fun b hb => g0 b (List.mem_append.2 (.inl hb))⟩)
  have HOL : Hid (∀ b, (Value.slice a1 x.loaded.length k1).ownBlock = some b → w.heap.size + 3 ≤ b ∧ b < w1.heap.size) := Lib.hid fun b hb => World.ownsRow.lt (DLoaded.flat.own HL.out).1 b hb
  have ⟨c_HX5, z_HX5, f_HX5⟩ := HX5.out
  go_wp2_with (at_builtin; refine wpList_pushW _ rfl _ _ 50 50 rfl DLoaded.flat (w.heap.size + 3) 123 i0 _ 24 Try.underlying50 Try.underlying50 hi hz0 hz1 hz2 rfl _ x.loaded rfl (HL.out.below (by repeat (first | with_reducible exact belR | with_reducible apply belA | (with_reducible refine belS ?_ ?_; focus (first | omega | (simp; done) | (simp; omega))) | with_reducible apply belN | with_reducible apply belD | with_reducible assumption))) ⟨path, r.version⟩ _ _ _ rfl ?p0 rfl hp ?p1 ?p2 ?p3 ?_)
  case p0 => first | rfl | simp
  case p1 => omega
  case p2 => decide
  case p3 => simp; omega
  intro ao2 cap2 w2 hf2 hg2 ho2
  clear c_HX5 z_HX5 f_HX5
  have HY3 := Lib.hid ((HX3.out.growA.growA).grown hg2 (by intro e; have y := HOL.out _ e.symm; omega))
  have HY5 := Lib.hid ((HX5.out.growA.growA).grown hg2 (by intro e; have y := HOL.out _ e.symm; omega))
  have HY6 := Lib.hid ((HX6.out.growA.growA).grown hg2 (by intro e; have y := HOL.out _ e.symm; omega))
  have HY8 : Hid (WB w2 w1.heap.size #[.int .i64 x.id, .string x.site, .string x.top, .int .i64 x.version, .slice a1 x.loaded.length k1, .slice a2 x.machine.script.length k2, .int .i64 x.machine.pc, .slice a3 x.machine.regs.length k3, .int .i64 x.machine.steps, .bool x.machine.done, .bool x.machine.wait]) := Lib.hid (((WB.at rfl).growA).grown hg2 (by intro e; have y := HOL.out _ e.symm; omega))
  have HP := Lib.hid (page_push (w := w1) HF.out (belA (belA belR)) hg2 hf2 (fun b hb => ho2 b hb) (.slice ao2 (x.loaded.length + 1) cap2))
  have HB2 : Hid (Below w.heap.size w w2) := Lib.hid (Below.trans (belA (belA HB1.out) : Below w.heap.size w _) (grow_below (v := .slice a1 x.loaded.length k1) hg2 (fun b hb => by have y := HOL.out b (by simpa using hb); omega) (by simp; omega)))
  clear hf2 hg2 ho2 HX3 HX5 HX6 HF HL HOL HB1 hi hz0 hz1 hz2
  have ⟨c_HY8, z_HY8, f_HY8⟩ := HY8.out
  go_upto_region 3 with fail
  refine settle (fun W => WB W w.heap.size #[.int .i64 x.id, .string x.site, .string x.top, .int .i64 x.version, .slice q_a1 x.loaded.length q_c1, .slice q_a2 x.machine.script.length q_c2, .int .i64 x.machine.pc, .slice q_a3 x.machine.regs.length q_c3, .int .i64 x.machine.steps, .bool x.machine.done, .bool x.machine.wait] ∧ WB W (w.heap.size + 1) #[.int .i64 r.type_, .int .i64 r.status, .int .i64 r.version, .slice z_a1 r.body.length z_c1, .bool r.shares] ∧ WB W (w.heap.size + 2) #[.int .i64 0, .string ⟨#[]⟩, .string ⟨#[]⟩, .int .i64 0, .slice none 0 0, .slice none 0 0, .int .i64 0, .slice none 0 0, .int .i64 0, .bool false, .bool false] ∧ WB W w1.heap.size #[.int .i64 x.id, .string x.site, .string x.top, .int .i64 x.version, .slice ao2 (x.loaded.length + 1) cap2, .slice a2 x.machine.script.length k2, .int .i64 x.machine.pc, .slice a3 x.machine.regs.length k3, .int .i64 x.machine.steps, .bool x.machine.done, .bool x.machine.wait] ∧ Fresh DPage.rep (w.heap.size + 3) W [.int .i64 x.id, .string x.site, .string x.top, .int .i64 x.version, .slice ao2 (x.loaded.length + 1) cap2, .slice a2 x.machine.script.length k2, .int .i64 x.machine.pc, .slice a3 x.machine.regs.length k3, .int .i64 x.machine.steps, .bool x.machine.done, .bool x.machine.wait] (loadOut x path r) ∧ Below w.heap.size w W ∧ w1.heap.size < W.heap.size) ⟨HY3.out.setOther (by omega), HY5.out.setOther (by omega), HY6.out.setOther (by omega), HY8.out.setAt (i := 4) (by simp) rfl, HP.out, (by have y := HB2.out; exact (by repeat (first | with_reducible exact belR | with_reducible apply belA | (with_reducible refine belS ?_ ?_; focus (first | omega | (simp; done) | (simp; omega))) | with_reducible apply belN | with_reducible apply belD | with_reducible assumption))), by have y := HY8.out.lt; simpa using y⟩ ?_
  rintro w3 ⟨hx3, hx5, hx6, hx8, hp3, hb3, hz3⟩
  clear c_HY8 z_HY8 f_HY8
  clear HY3 HY5 HY6 HY8 HP HB2
  go_cut [39] from 20 to 39 (fun v W => v = .bool (!loadFileB x path r) ∧ Below w3.heap.size w3 W)
  case first =>
    have ⟨c3, z3', f3⟩ := hx3
    have ⟨c5, z5', f5⟩ := hx5
    have ⟨c8, z8', f8⟩ := hx8
    cases n1 : (r.status != 200)
    case true =>
      have NB : Hid (loadFileB x path r = false) := Lib.hid (by unfold loadFileB; rw [n1]; rfl)
      go_wp2_with fail
      go_meet
      exact ⟨by rw [NB.out]; rfl, belR⟩
    case false =>
      cases n2 : (r.version != x.version)
      case true =>
        have NB : Hid (loadFileB x path r = false) := Lib.hid (by unfold loadFileB; rw [n1, n2]; rfl)
        go_wp2_with fail
        go_meet
        exact ⟨by rw [NB.out]; rfl, belR⟩
      case false =>
        cases n3 : isPageF x
        case false =>
          have NB : Hid (loadFileB x path r = false) := Lib.hid (by unfold loadFileB; rw [n1, n2, n3]; rfl)
          go_wp2_with (go_at_call 65; refine (specIsPage _ x _ (HR.out.below hb3)).mono ?_; rintro e w4 ⟨rfl, hb4⟩; have h8 := hx8.keep hb4; have ⟨c9, z9, f9⟩ := h8)
          go_meet
          exact ⟨by rw [NB.out]; rfl, hb4⟩
        case true =>
          cases n4 : isPageF (loadOut x path r)
          case false =>
            have NB : Hid (loadFileB x path r = false) := Lib.hid (by unfold loadFileB; rw [n1, n2, n3, n4]; rfl)
            go_wp2_with (first | (go_at_call 65; have hq := hb4; clear hq; refine (specIsPage _ (loadOut x path r) _ (hp3.reads.below hb4)).mono ?_; rintro e w5 ⟨rfl, hb5⟩; have hb6 := hb4.trans (hb5.mono hb4.size)) | (go_at_call 65; refine (specIsPage _ x _ (HR.out.below hb3)).mono ?_; rintro e w4 ⟨rfl, hb4⟩; have h8 := hx8.keep hb4; have ⟨c9, z9, f9⟩ := h8))
            go_meet
            exact ⟨by rw [NB.out]; rfl, hb6⟩
          case true =>
            have NB : Hid (loadFileB x path r = true) := Lib.hid (by unfold loadFileB; rw [n1, n2, n3, n4]; rfl)
            go_wp2_with (first | (go_at_call 65; have hq := hb4; clear hq; refine (specIsPage _ (loadOut x path r) _ (hp3.reads.below hb4)).mono ?_; rintro e w5 ⟨rfl, hb5⟩; have hb6 := hb4.trans (hb5.mono hb4.size)) | (go_at_call 65; refine (specIsPage _ x _ (HR.out.below hb3)).mono ?_; rintro e w4 ⟨rfl, hb4⟩; have h8 := hx8.keep hb4; have ⟨c9, z9, f9⟩ := h8))
            go_meet
            exact ⟨by rw [NB.out]; rfl, hb6⟩
  case rest =>
    obtain ⟨rfl, hbc⟩ := hcut
    have HX3 := Lib.hid (hx3.keep hbc)
    have HX6 := Lib.hid (hx6.keep hbc)
    have HX8 := Lib.hid (hx8.keep hbc)
    have HP := Lib.hid (hp3.below hbc)
    have HB := Lib.hid (hb3.trans (hbc.mono hb3.size))
    have hz4 := hbc.size
    clear hx3 hx5 hx6 hx8 hp3
    cases nb : loadFileB x path r
    · have HE : Hid (loadFileF x path r = x) := Lib.hid (by unfold loadFileF; rw [nb]; rfl)
      have ⟨c_HX3, z_HX3, f_HX3⟩ := HX3.out
      go_wp2_with fail
      refine (specCopyPage _ x _ (HR.out.below HB.out) (by omega) hs1 hs2).mono ?_
      rintro e w6 ⟨ds, rfl, hf6, hb6⟩
      obtain ⟨d1, e1, d2, e2, d3, e3, rfl⟩ := DPage.fshape hf6
      replace HX6 := Lib.hid (HX6.out.keep hb6)
      replace HB := Lib.hid (HB.out.trans (hb6.mono HB.out.size))
      have HF6 : Hid (Fresh DPage.rep (w.heap.size + 3) w6 [.int .i64 x.id, .string x.site, .string x.top, .int .i64 x.version, .slice d1 x.loaded.length e1, .slice d2 x.machine.script.length e2, .int .i64 x.machine.pc, .slice d3 x.machine.regs.length e3, .int .i64 x.machine.steps, .bool x.machine.done, .bool x.machine.wait] x) := Lib.hid (hf6.mono (by omega))
      clear hf6 hb6 HP HX8
      clear c_HX3 z_HX3 f_HX3
      have ⟨c_HX6, z_HX6, f_HX6⟩ := HX6.out
      go_wp2
      have cr := (sets11 (b0 := .int .i64 x.id) (b1 := .string x.site) (b2 := .string x.top) (b3 := .int .i64 x.version) (b4 := .slice d1 x.loaded.length e1) (b5 := .slice d2 x.machine.script.length e2) (b6 := .int .i64 x.machine.pc) (b7 := .slice d3 x.machine.regs.length e3) (b8 := .int .i64 x.machine.steps) (b9 := .bool x.machine.done) (b10 := .bool x.machine.wait) HX6.out).cell
      refine bodyPost_ret (v := .tuple #[.agg #[.int .i64 x.id, .string x.site, .string x.top, .int .i64 x.version, .slice d1 x.loaded.length e1, .slice d2 x.machine.script.length e2, .int .i64 x.machine.pc, .slice d3 x.machine.regs.length e3, .int .i64 x.machine.steps, .bool x.machine.done, .bool x.machine.wait], .bool false]) (by simp [results, Try.results36, go_sem, cr]) rfl ⟨_, by rw [nb], ?_, ?_⟩
      · rw [HE.out]
        exact (Fresh.mono (B := (w.heap.size + 3)) (by repeat (first | with_reducible exact HF6.out | with_reducible refine Fresh.setLow ?_ (by omega) | with_reducible refine Fresh.drew ?_)) (by omega))
      · have y := HB.out
        exact (by repeat (first | with_reducible exact belR | with_reducible apply belA | (with_reducible refine belS ?_ ?_; focus (first | omega | (simp; done) | (simp; omega))) | with_reducible apply belN | with_reducible apply belD | with_reducible assumption))
    · have HE : Hid (loadFileF x path r = loadOut x path r) := Lib.hid (by unfold loadFileF; rw [nb]; rfl)
      have ⟨c_HX6, z_HX6, f_HX6⟩ := HX6.out
      have ⟨c_HX8, z_HX8, f_HX8⟩ := HX8.out
      go_wp2
      have cr := (sets11 (b0 := .int .i64 x.id) (b1 := .string x.site) (b2 := .string x.top) (b3 := .int .i64 x.version) (b4 := .slice ao2 (x.loaded.length + 1) cap2) (b5 := .slice a2 x.machine.script.length k2) (b6 := .int .i64 x.machine.pc) (b7 := .slice a3 x.machine.regs.length k3) (b8 := .int .i64 x.machine.steps) (b9 := .bool x.machine.done) (b10 := .bool x.machine.wait) HX6.out).cell
      refine bodyPost_ret (v := .tuple #[.agg #[.int .i64 x.id, .string x.site, .string x.top, .int .i64 x.version, .slice ao2 (x.loaded.length + 1) cap2, .slice a2 x.machine.script.length k2, .int .i64 x.machine.pc, .slice a3 x.machine.regs.length k3, .int .i64 x.machine.steps, .bool x.machine.done, .bool x.machine.wait], .bool true]) (by simp [results, Try.results36, go_sem, cr]) rfl ⟨_, by rw [nb], ?_, ?_⟩
      · rw [HE.out]
        exact (Fresh.mono (B := (w.heap.size + 3)) (by repeat (first | with_reducible exact HP.out | with_reducible refine Fresh.setLow ?_ (by omega) | with_reducible refine Fresh.drew ?_)) (by omega))
      · have y := HB.out
        exact (by repeat (first | with_reducible exact belR | with_reducible apply belA | (with_reducible refine belS ?_ ?_; focus (first | omega | (simp; done) | (simp; omega))) | with_reducible apply belN | with_reducible apply belD | with_reducible assumption))

end Go.Proofs.Ytamdjeajmfjfmaa
