/-
  ItemFam2: Raw, PutItemS, InsField, SetField, SetFieldS, SetItem, in one text.
-/
import Derived.Test.YtlfebehpmefioaaGreatItemFam
import Derived.Test.YtlfebehpmefioaaGreatLFamA
import Derived.Test.YtlfebehpmefioaaGreatBase
import Derived.Test.YtlfebehpmefioaaGreatTFam

/-
  Elements as raw cells: a row is copied and added to cell by cell; its elements' own memory is told apart. No function of the program is named here.
-/
namespace Go.Proofs.YtlfebehpmefioaaGreat
open Go.RowKit

structure RawEl (n : Nat) where
  cs : List Value
  len : cs.length = n
  one : ∀ u ∈ cs, u.oneCell' = true
def Rep.raw (n : Nat) : Rep (RawEl n) := Rep.flat n (fun x => x.cs) (fun _ => True) (fun x => x.len) (fun x => x.one)
theorem FlatR.raw (n : Nat) : FlatR (Rep.raw n) (fun x => x.cs) (fun _ => True) := ⟨fun {_ _ _ _ _} => Iff.rfl⟩
theorem raw_of {n : Nat} : ∀ (cs : List (List Value)), (∀ c ∈ cs, c.length = n ∧ ∀ u ∈ c, u.oneCell' = true) → ∃ raws : List (RawEl n), raws.map (fun x => x.cs) = cs
  | [], _ => ⟨[], rfl⟩
  | c :: cs, h => by
    obtain ⟨rs, hr⟩ := raw_of cs (fun c hc => h c (by simp [hc]))
    exact ⟨⟨c, (h c (by simp)).1, (h c (by simp)).2⟩ :: rs, by simp [hr]⟩
theorem raw_flat {n : Nat} (raws : List (RawEl n)) : raws.flatMap (fun x => x.cs) = (raws.map (fun x => x.cs)).flatten := List.flatMap_def ..
theorem mk_raw {α : Type} {R : Rep α} {w : World} {cs : List Value} {x : α} {B : Nat} (h : Fresh R B w cs x) : ∃ r : RawEl R.n, r.cs = cs := by
  obtain ⟨fp, h, _⟩ := h
  exact ⟨⟨cs, R.len h, R.one h⟩, rfl⟩

theorem Part.raws {α : Type} {R : Rep α} {E : TypeId} {B m : Nat} {w : World} {v : Value} {l : List α} (h : Part (Rep.slice E R) B m w [v] l) :
    ∃ raws : List (RawEl R.n), raws.length = l.length ∧ Fresh (Rep.slice E (Rep.raw R.n)) B w [v] raws ∧
      ∀ (w' : World) (v' : Value) (ds : List Value) (u : α) (k m2 A C : Nat) (r : RawEl R.n), Below m w w' → k ≤ l.length → r.cs = ds → Part R A C w' ds u → m ≤ m2 → m2 ≤ A → B ≤ m →
        Fresh (Rep.slice E (Rep.raw R.n)) m2 w' [v'] (insAt raws k r) → (∀ b ∈ v'.ownBlock.toList, b < A ∨ C ≤ b) → Gap (Rep.slice E R) B m m2 w' [v'] (insAt l k u) := by
  obtain ⟨ts, rfl, h1, h2, hnd, hge⟩ := h.owned
  obtain ⟨raws, hr⟩ := raw_of (n := R.n) (ts.map fun t => t.1) (fun c hc => by
    obtain ⟨t, ht, rfl⟩ := List.mem_map.1 hc
    exact ⟨R.len (h1 t ht), R.one (h1 t ht)⟩)
  have hlen : raws.length = ts.length := by have := congrArg List.length hr; simpa using this
  refine ⟨raws, by rw [vals_length]; exact hlen, ?_, ?_⟩
  · refine (FlatR.raw R.n).fresh (B' := B) ?_ (fun _ _ => trivial) (fun b hb => (hge b (List.mem_append.2 (.inl hb))).1)
    rw [raw_flat, hr, hlen, ← List.flatMap_def]
    exact h2
  · intro w' v' ds u k m2 A C r hb hk hrd hu hmm hmA hBm hf hv
    subst hrd
    obtain ⟨fu, r1, r2, r3⟩ := hu
    rw [vals_length] at hk
    have ho := ((FlatR.raw R.n).own hf).1
    have hvb := World.ownsRow.lt ho
    have e1 : (insAt raws k r).flatMap (fun x => x.cs) = cellsOf (ts.take k ++ (r.cs, u, fu) :: ts.drop k) := by
      rw [raw_flat]
      simp only [insAt, cellsOf, List.flatMap_append, List.flatMap_cons, List.map_append, List.map_cons, List.map_take, List.map_drop, hr, List.flatten_append, List.flatten_cons]
      simp only [List.flatMap_def, List.map_take, List.map_drop]
    have e2 : vals (ts.take k ++ (r.cs, u, fu) :: ts.drop k) = insAt (vals ts) k u := by simp [vals, insAt, List.map_take, List.map_drop]
    have e4 : feet (ts.take k ++ (r.cs, u, fu) :: ts.drop k) = feet (ts.take k) ++ (fu ++ feet (ts.drop k)) := by simp [feet]
    have e5 : feet ts = feet (ts.take k) ++ feet (ts.drop k) := by
      unfold feet
      rw [← List.flatMap_append, List.take_append_drop]
    have hnd0 := (List.nodup_append.1 hnd).2.1
    have hlt : ∀ b ∈ feet (ts.take k) ++ feet (ts.drop k), B ≤ b ∧ b < m := fun b hb => hge b (List.mem_append.2 (.inr (by rw [e5]; exact hb)))
    rw [e5, List.nodup_append] at hnd0
    have hfe : (feet (ts.take k) ++ (fu ++ feet (ts.drop k))).Nodup := by
      rw [List.nodup_append, List.nodup_append]
      refine ⟨hnd0.1, ⟨r2, hnd0.2.1, fun a ha b hb hab => ?_⟩, fun a ha b hb hab => ?_⟩
      · have := r3 a ha; have := (hlt b (List.mem_append.2 (.inr hb))).2; omega
      · rcases List.mem_append.1 hb with hb | hb
        · have := r3 b hb; have := (hlt a (List.mem_append.2 (.inl ha))).2; omega
        · exact hnd0.2.2 a ha b hb hab
    have hall : ∀ b ∈ feet (ts.take k) ++ (fu ++ feet (ts.drop k)), (B ≤ b ∧ (b < m ∨ m2 ≤ b)) ∧ b ∉ v'.ownBlock.toList := by
      intro b hb
      rcases List.mem_append.1 hb with hb | hb
      · have h3 := hlt b (List.mem_append.2 (.inl hb))
        exact ⟨⟨h3.1, .inl h3.2⟩, fun hv' => by have := (hvb b (by simpa using hv')).1; omega⟩
      · rcases List.mem_append.1 hb with hb | hb
        · have h3 := r3 b hb
          exact ⟨⟨by omega, .inr (by omega)⟩, fun hv' => by have := hv b hv'; omega⟩
        · have h3 := hlt b (List.mem_append.2 (.inr hb))
          exact ⟨⟨h3.1, .inl h3.2⟩, fun hv' => by have := (hvb b (by simpa using hv')).1; omega⟩
    rw [← e2]
    refine Gap.of_owned (B' := m2) (ts.take k ++ (r.cs, u, fu) :: ts.drop k) (fun t ht => ?_) ?_ ?_ ?_
    · have hold : ∀ t ∈ ts, R.rd true w' t.1 t.2.1 t.2.2 := fun t ht => R.frame (h1 t ht) fun b hb' => hb.block b (hge b (List.mem_append.2 (.inr (List.mem_flatMap.2 ⟨t, ht, hb'⟩)))).2
      rcases List.mem_append.1 ht with ht | ht
      · exact hold t (List.mem_of_mem_take ht)
      · rcases List.mem_cons.1 ht with rfl | ht
        · exact r1
        · exact hold t (List.mem_of_mem_drop ht)
    · have el : (ts.take k ++ (r.cs, u, fu) :: ts.drop k).length = (insAt raws k r).length := by
        rw [insAt_length (by omega), hlen]; simp; omega
      rw [el, ← e1]
      exact ho
    · rw [e4, List.nodup_append]
      exact ⟨by cases v'.ownBlock <;> simp, hfe, fun a ha b hb hab => (hall b hb).2 (hab ▸ ha)⟩
    · intro b hb
      rw [e4] at hb
      rcases List.mem_append.1 hb with hb | hb
      · have := (hvb b (by simpa using hb)).1; exact ⟨by omega, .inr (by omega)⟩
      · exact (hall b hb).1

theorem Part.off {α : Type} {R : Rep α} {lo hi : Nat} {w w' : World} {cs : List Value} {x : α} {fq : List Nat} (h : Part R lo hi w cs x) (hc : Chg fq w w') (hd : ∀ b ∈ fq, b < lo ∨ hi ≤ b) : Part R lo hi w' cs x := by
  obtain ⟨fp, h, h2, h3⟩ := h
  exact ⟨fp, hc.keeps h fun b hb hb' => by have := h3 b hb; have := hd b hb'; omega, h2, h3⟩

section
variable {α : Type} {R : Rep α} {enc : α → List Value} {ok : α → Prop}
theorem FlatR.grow3 (h : FlatR R enc ok) {P : Program} (w : World) {ops : Array Oper} {rest : List Oper} {o : Oper} {a : Act} {Q : Exit → Act → World → Prop} (hgd : o.guard = none) (s x : Operand) (t tx : TypeId)
    (ho : o.op = .call { callee := .builtin .append, args := #[s, x], argTypes := #[t, tx] })
    (B : Nat) (e : TypeId) (i : TypeInfo) (z : Value) (bytes : Nat) (ht : P.underlying t = some (.slice e)) {e' : TypeId} (htx : P.underlying tx = some (.slice e')) (hi : P.info? e = some i) (hz : i.zero = some z)
    (hsize : i.size = R.n) (hby : i.bytes = bytes) (hzs : z.cells.size = R.n)
    (v : Value) (l : List α) (hv : a.eval s = v) (hown : Fresh (Rep.slice e R) B w [v] l)
    (sv : Value) (us : List α) (hx : a.eval x = sv) (hr : Reads (Rep.slice e R) w [sv] us)
    (m : Nat) (hm : l.length + us.length = m) (hlen : m ≤ 16777216) (hbytes : bytes ≤ 8388608) (hbase : B ≤ w.heap.size)
    (hgo : ∀ ao cap w', Fresh (Rep.slice e R) B w' [.slice ao m cap] (l ++ us) → Chg v.ownBlock.toList w w' → Below B w w' → (∀ b ∈ (Value.slice ao m cap).ownBlock.toList, b ∈ v.ownBlock.toList ∨ b = w.heap.size) →
      wpList P ops Q rest (a.put o.dst (.slice ao m cap)) w') : wpList P ops Q (o :: rest) a w := by
  subst hm
  have hmul : (l.length + us.length) * bytes ≤ 16777216 * 8388608 := Nat.mul_le_mul hlen hbytes
  obtain ⟨ho1, ho2⟩ := h.own hown
  have hge := World.ownsRow.lt ho1
  have hs : Src P R.n tx sv us.length (us.flatMap enc) w := h.src htx hr
  have hok := (h.row hr).2
  obtain ⟨v', w', hrun, h2, h3, h4, ao, cap, rfl⟩ := run_append_src (P := P) w B t tx o.type e i z R.n bytes ht hi hz hsize hby hzs v l.length _ ho1 _ us.length (us.flatMap enc) hs (by omega) (by unfold maxLen; omega) hbase
  refine wpList_plain hgd fun K hK => ?_
  unfold Oper.wp execOp
  simp only [ho, resolve, invoke, builtin, Sem.run_bind, Sem.run_pure, Result.andThen_ok, List.map_toArray, List.map_cons, List.map_nil, hv, hx, hrun]
  refine hK _ _ (hgo ao cap w' (h.fresh (B' := B) (by rw [List.length_append, List.flatMap_append]; exact h2) (fun y hy => (List.mem_append.1 hy).elim (ho2 y) (hok y)) fun b hb => ?_) (Chg.of_grown h3) (grow_below h3 (fun b hb => (hge b (by simpa using hb)).1) hbase) h4)
  rcases h4 b hb with hb | rfl
  · exact (hge b (by simpa using hb)).1
  · exact hbase

theorem FlatR.step_growD (h : FlatR R enc ok) {P : Program} (w : World) {ops : Array Oper} {o : Oper} {a : Act} {K : Act → World → Prop} {Q : Exit → Act → World → Prop} {X : Prop} (hgd : o.guard = none) (s x : Operand) (t tx : TypeId)
    (ho : o.op = .call { callee := .builtin .append, args := #[s, x], argTypes := #[t, tx] })
    (B : Nat) (e : TypeId) (i : TypeInfo) (z : Value) (bytes : Nat) (ht : P.underlying t = some (.slice e)) {e' : TypeId} (htx : P.underlying tx = some (.slice e')) (hi : P.info? e = some i) (hz : i.zero = some z)
    (hsize : i.size = R.n) (hby : i.bytes = bytes) (hzs : z.cells.size = R.n)
    (v : Value) (l : List α) (hv : a.eval s = v) (hown : Fresh (Rep.slice e R) B w [v] l)
    (sv : Value) (us : List α) (hx : a.eval x = sv) (hr : Reads (Rep.slice e R) w [sv] us)
    (m : Nat) (hm : l.length + us.length = m) (hlen : m ≤ 16777216) (hbytes : bytes ≤ 8388608) (hbase : B ≤ w.heap.size)
    (hgo : ∀ ao cap w', Fresh (Rep.slice e R) B w' [.slice ao m cap] (l ++ us) → Chg v.ownBlock.toList w w' → Below B w w' → (∀ b ∈ (Value.slice ao m cap).ownBlock.toList, b ∈ v.ownBlock.toList ∨ b = w.heap.size) →
      K (a.put o.dst (.slice ao m cap)) w') : if Region.wanted o (yielded ops a.tmps) = true then Oper.wp P o a w K Q else X := by
  subst hm
  have hw : Region.wanted o (yielded ops a.tmps) = true := by simp [Region.wanted, hgd]
  rw [if_pos hw]
  have hmul : (l.length + us.length) * bytes ≤ 16777216 * 8388608 := Nat.mul_le_mul hlen hbytes
  obtain ⟨ho1, ho2⟩ := h.own hown
  have hge := World.ownsRow.lt ho1
  have hs : Src P R.n tx sv us.length (us.flatMap enc) w := h.src htx hr
  have hok := (h.row hr).2
  obtain ⟨v', w', hrun, h2, h3, h4, ao, cap, rfl⟩ := run_append_src (P := P) w B t tx o.type e i z R.n bytes ht hi hz hsize hby hzs v l.length _ ho1 _ us.length (us.flatMap enc) hs (by omega) (by unfold maxLen; omega) hbase
  unfold Oper.wp execOp
  simp only [ho, resolve, invoke, builtin, Sem.run_bind, Sem.run_pure, Result.andThen_ok, List.map_toArray, List.map_cons, List.map_nil, hv, hx, hrun]
  refine hgo ao cap w' (h.fresh (B' := B) (by rw [List.length_append, List.flatMap_append]; exact h2) (fun y hy => (List.mem_append.1 hy).elim (ho2 y) (hok y)) fun b hb => ?_) (Chg.of_grown h3) (grow_below h3 (fun b hb => (hge b (by simpa using hb)).1) hbase) h4
  rcases h4 b hb with hb | rfl
  · exact (hge b (by simpa using hb)).1
  · exact hbase
end

end Go.Proofs.YtlfebehpmefioaaGreat

/-
  spec.PutItem.
-/
namespace Go.Proofs.YtlfebehpmefioaaGreat
open Go.RowKit

theorem auto_in {a : Int} {k : DKey} (c : (k.kind == 1) = true) (h : within k.n (a + 1) 1000000 = true) : autoOf a k = k.n := by
  rw [auto_yes c]
  simp only [within, Bool.and_eq_true, decide_eq_true_eq] at h
  rw [if_pos ⟨by omega, h.2⟩]
theorem auto_out {a : Int} {k : DKey} (c : (k.kind == 1) = true) (h : within k.n (a + 1) 1000000 = false) : autoOf a k = a := by
  rw [auto_yes c]
  simp only [within, Bool.and_eq_false_iff, decide_eq_false_iff_not] at h
  rw [if_neg (by omega)]
theorem putB_new {s : DStore} {k : DKey} {r : DRecord} (h0 : isStoreF s = true) (h1 : isKeyF k = true) (h2 : isRecordF r = true) (hi : idxF (keyIs k) s.items = -1) : putItemB s k r = decide (s.items.length < 16) := by
  rw [← putItem_same, putItemS, h0, h1, h2, find_none hi]; simp
theorem putB_old {s : DStore} {k : DKey} {r : DRecord} {i : Nat} (h0 : isStoreF s = true) (h1 : isKeyF k = true) (h2 : isRecordF r = true) (hi : idxF (keyIs k) s.items = (i : Int)) : putItemB s k r = true := by
  rw [← putItem_same, putItemS, h0, h1, h2, find_some hi]; simp
theorem putB_norec {s : DStore} {k : DKey} {r : DRecord} (h2 : isRecordF r = false) : putItemB s k r = false := by
  rw [← putItem_same, putItemS, h2]; simp
theorem slice_cap {α : Type} {E : TypeId} {R : Rep α} {w : World} {ao : Option Addr} {n cap : Nat} {l : List α} (h : Reads (Rep.slice E R) w [.slice ao n cap] l) : n ≤ cap := by
  obtain ⟨fp, h⟩ := h
  obtain ⟨ao', cap', hv, h1, h2, _⟩ := slice_open h
  simp only [Value.slice.injEq] at hv
  obtain ⟨_, rfl, rfl⟩ := hv
  exact h2
theorem store_auto {s : DStore} (h : isStoreF s = true) : 0 ≤ s.auto ∧ s.auto ≤ 1000000 := by
  obtain ⟨_, _, _, _, h5⟩ := store_iff.1 h
  simpa [within] using h5
attribute [local irreducible] isStoreF isKeyF isRecordF putOut keyIs cmpKeysF

set_option maxRecDepth 100000 in
set_option maxHeartbeats 16000000 in
theorem specPutItem (cs ck cr : List Value) (s : DStore) (k : DKey) (r : DRecord) (w : World) (h : Reads DStore.rep w cs s) (h' : Reads DKey.rep w ck k) (h'' : Reads DRecord.rep w cr r) (hs : SmallStore s) (hr : r.fields.length ≤ 1048600) :
    Calls Tryz.prog 103 #[.agg cs.toArray, .agg ck.toArray, .agg cr.toArray] w fun e w' => ∃ ds, e = .returned (.tuple #[.agg ds.toArray, .bool (putItemB s k r)]) ∧ Fresh DStore.rep w.heap.size w' ds (putItemF s k r) ∧ Below w.heap.size w w' := by
  have HS := Lib.hid h
  have HRr := Lib.hid h''
  obtain ⟨fp_q, h⟩ := h
  obtain ⟨q_v1, q_f1, rfl, _, q_s0, q_r1⟩ := DStore.rd.1 h
  obtain ⟨q_a1, q_c1, rfl, q_hm1, q_lc1, q_hu1⟩ := slice_open q_r1; clear q_hu1
  have q_K1 : Hid (Reads (Rep.slice 71 DItem.rep) w [.slice q_a1 s.items.length q_c1] s.items) := ⟨_, q_r1⟩
  clear q_r1 h
  obtain ⟨fk, hk⟩ := h'
  obtain ⟨rfl, _, hkt⟩ := DKey.rd.1 hk
  clear hk
  obtain ⟨fp_r, h''⟩ := h''
  obtain ⟨r_v1, r_f1, rfl, _, r_r1⟩ := DRecord.rd.1 h''
  obtain ⟨r_a1, r_c1, rfl, r_hm1, r_lc1, r_hu1⟩ := slice_open r_r1; clear r_hu1
  have r_K1 : Hid (Reads (Rep.slice 112 DField.rep) w [.slice r_a1 r.fields.length r_c1] r.fields) := ⟨_, r_r1⟩
  clear r_r1 h''
  have HKr : Hid (∀ W, Reads DKey.rep W [.int .i64 k.kind, .int .i64 k.n, .string k.text] k) := Lib.hid fun W => ⟨[], DKey.rd.2 ⟨rfl, rfl, hkt⟩⟩
  have hsl := hs.items
  obtain ⟨i0, hi, hz0, hz1, hz2⟩ := info_parts infoItem
  go_enter Tryz.func103, Tryz.ntmps103
  go_wp2_with fail
  refine (specIsStore _ s _ (HS.out.below bEl)).mono ?_
  rintro e w1 ⟨rfl, hb⟩
  have HX : Hid (WB w1 w.heap.size #[.string s.name, .slice q_a1 s.items.length q_c1, .int .i64 s.auto]) := Lib.hid ((((WB.at rfl).growA).growA).growA.keep hb)
  have HK : Hid (WB w1 (w.heap.size + 1) #[.int .i64 k.kind, .int .i64 k.n, .string k.text]) := Lib.hid ((((WB.at (by simp)).growA).growA).keep hb)
  have HR : Hid (WB w1 (w.heap.size + 2) #[.slice r_a1 r.fields.length r_c1]) := Lib.hid (((WB.at (by simp)).growA).keep hb)
  have HT : Hid (WB w1 (w.heap.size + 3) #[.string ⟨#[]⟩, .slice none 0 0, .int .i64 0]) := Lib.hid ((WB.at (by simp)).keep hb)
  have HB : Hid (Below w.heap.size w w1) := Lib.hid (below_call bEl bSz hb)
  have hz : w.heap.size + 4 ≤ w1.heap.size := by have y := hb.size; simp at y; omega
  clear hb
  have ⟨c_HX, z_HX, f_HX⟩ := HX.out
  have ⟨c_HK, z_HK, f_HK⟩ := HK.out
  have ⟨c_HR, z_HR, f_HR⟩ := HR.out
  have ⟨c_HT, z_HT, f_HT⟩ := HT.out
  cases b0 : isStoreF s
  case' true => cases b1 : isKeyF k
  case' true.true => cases b2 : isRecordF r
  case false =>
    have hB : Hid (putItemB s k r = false) := Lib.hid (by rw [putItemB, b0]; rfl)
    go_wp2_with fail
    refine (specCopyStore _ s _ (HS.out.below HB.out) hs).mono ?_
    rintro e w7 ⟨ds, rfl, hf7, hb7⟩
    obtain ⟨ao7, cap7, rfl, hfw7, _⟩ := DStore.fopen hf7
    have HF7 := Lib.hid hfw7
    have HB7 := Lib.hid (HB.out.trans (hb7.mono HB.out.size))
    have ⟨cr7, zr7, fr7⟩ := HT.out.keep hb7
    have hz7 := HB.out.size
    clear hf7 hfw7 hb7
    go_wp2
    refine bodyPost_ret (v := .tuple #[.agg #[.string s.name, .slice ao7 s.items.length cap7, .int .i64 s.auto], .bool false]) (by simp [results, Tryz.results103, go_sem, cr7]) rfl ⟨_, by rw [hB.out], ?_, ?_⟩
    · have e : putItemF s k r = s := by rw [putItemF, hB.out]; rfl
      rw [e]
      exact DStore.fmk (Fresh.mono (B := w1.heap.size) (by repeat (first | exact HF7.out | refine Fresh.setLow ?_ (by omega) | refine Fresh.drew ?_)) (by omega)) q_s0
    · have y := HB7.out
      exact bEb
  case true.false =>
    have hB : Hid (putItemB s k r = false) := Lib.hid (by rw [putItemB, b1, Bool.false_and, Bool.and_false])
    go_wp2_with fail
    refine (specIsKey _ k _ (HKr.out _)).mono ?_
    rintro e w1b ⟨rfl, hb⟩
    rw [b1]
    clear c_HX z_HX f_HX c_HK z_HK f_HK c_HR z_HR f_HR c_HT z_HT f_HT
    have hzb := hb.size
    replace HX := Lib.hid (HX.out.keep hb)
    replace HK := Lib.hid (HK.out.keep hb)
    replace HR := Lib.hid (HR.out.keep hb)
    replace HT := Lib.hid (HT.out.keep hb)
    replace HB := Lib.hid (HB.out.trans (hb.mono HB.out.size))
    clear hb
    have ⟨c_HX, z_HX, f_HX⟩ := HX.out
    have ⟨c_HT, z_HT, f_HT⟩ := HT.out
    go_wp2_with fail
    refine (specCopyStore _ s _ (HS.out.below HB.out) hs).mono ?_
    rintro e w7 ⟨ds, rfl, hf7, hb7⟩
    obtain ⟨ao7, cap7, rfl, hfw7, _⟩ := DStore.fopen hf7
    have HF7 := Lib.hid hfw7
    have HB7 := Lib.hid (HB.out.trans (hb7.mono HB.out.size))
    have ⟨cr7, zr7, fr7⟩ := HT.out.keep hb7
    have hz7 := HB.out.size
    clear hf7 hfw7 hb7
    go_wp2
    refine bodyPost_ret (v := .tuple #[.agg #[.string s.name, .slice ao7 s.items.length cap7, .int .i64 s.auto], .bool false]) (by simp [results, Tryz.results103, go_sem, cr7]) rfl ⟨_, by rw [hB.out], ?_, ?_⟩
    · have e : putItemF s k r = s := by rw [putItemF, hB.out]; rfl
      rw [e]
      exact DStore.fmk (Fresh.mono (B := w1b.heap.size) (by repeat (first | exact HF7.out | refine Fresh.setLow ?_ (by omega) | refine Fresh.drew ?_)) (by omega)) q_s0
    · have y := HB7.out
      exact bEb
  case true.true.false =>
    have hB : Hid (putItemB s k r = false) := Lib.hid (putB_norec b2)
    go_wp2_with fail
    refine (specIsKey _ k _ (HKr.out _)).mono ?_
    rintro e w1b ⟨rfl, hb⟩
    rw [b1]
    clear c_HX z_HX f_HX c_HK z_HK f_HK c_HR z_HR f_HR c_HT z_HT f_HT
    have hzb := hb.size
    replace HX := Lib.hid (HX.out.keep hb)
    replace HK := Lib.hid (HK.out.keep hb)
    replace HR := Lib.hid (HR.out.keep hb)
    replace HT := Lib.hid (HT.out.keep hb)
    replace HB := Lib.hid (HB.out.trans (hb.mono HB.out.size))
    clear hb
    have ⟨c_HX, z_HX, f_HX⟩ := HX.out
    have ⟨c_HR, z_HR, f_HR⟩ := HR.out
    have ⟨c_HT, z_HT, f_HT⟩ := HT.out
    go_wp2_with fail
    refine (specIsRecord _ r _ (HRr.out.below HB.out)).mono ?_
    rintro e w1c ⟨rfl, hb⟩
    rw [b2]
    clear c_HX z_HX f_HX c_HR z_HR f_HR c_HT z_HT f_HT
    have hzc := hb.size
    replace HX := Lib.hid (HX.out.keep hb)
    replace HK := Lib.hid (HK.out.keep hb)
    replace HR := Lib.hid (HR.out.keep hb)
    replace HT := Lib.hid (HT.out.keep hb)
    replace HB := Lib.hid (HB.out.trans (hb.mono HB.out.size))
    clear hb
    have ⟨c_HX, z_HX, f_HX⟩ := HX.out
    have ⟨c_HT, z_HT, f_HT⟩ := HT.out
    go_wp2_with fail
    refine (specCopyStore _ s _ (HS.out.below HB.out) hs).mono ?_
    rintro e w7 ⟨ds, rfl, hf7, hb7⟩
    obtain ⟨ao7, cap7, rfl, hfw7, _⟩ := DStore.fopen hf7
    have HF7 := Lib.hid hfw7
    have HB7 := Lib.hid (HB.out.trans (hb7.mono HB.out.size))
    have ⟨cr7, zr7, fr7⟩ := HT.out.keep hb7
    have hz7 := HB.out.size
    clear hf7 hfw7 hb7
    go_wp2
    refine bodyPost_ret (v := .tuple #[.agg #[.string s.name, .slice ao7 s.items.length cap7, .int .i64 s.auto], .bool false]) (by simp [results, Tryz.results103, go_sem, cr7]) rfl ⟨_, by rw [hB.out], ?_, ?_⟩
    · have e : putItemF s k r = s := by rw [putItemF, hB.out]; rfl
      rw [e]
      exact DStore.fmk (Fresh.mono (B := w1c.heap.size) (by repeat (first | exact HF7.out | refine Fresh.setLow ?_ (by omega) | refine Fresh.drew ?_)) (by omega)) q_s0
    · have y := HB7.out
      exact bEb
  case true.true.true =>
    have a0 := Lib.hid b0
    have a1 := Lib.hid b1
    have a2 := Lib.hid b2
    have hauto := Lib.hid (store_auto b0)
    go_wp2_with fail
    refine (specIsKey _ k _ (HKr.out _)).mono ?_
    rintro e w1b ⟨rfl, hb⟩
    rw [b1]
    clear c_HX z_HX f_HX c_HK z_HK f_HK c_HR z_HR f_HR c_HT z_HT f_HT
    have hzb := hb.size
    replace HX := Lib.hid (HX.out.keep hb)
    replace HK := Lib.hid (HK.out.keep hb)
    replace HR := Lib.hid (HR.out.keep hb)
    replace HT := Lib.hid (HT.out.keep hb)
    replace HB := Lib.hid (HB.out.trans (hb.mono HB.out.size))
    clear hb
    have ⟨c_HX, z_HX, f_HX⟩ := HX.out
    have ⟨c_HR, z_HR, f_HR⟩ := HR.out
    go_wp2_with fail
    refine (specIsRecord _ r _ (HRr.out.below HB.out)).mono ?_
    rintro e w1c ⟨rfl, hb⟩
    rw [b2]
    clear c_HX z_HX f_HX c_HR z_HR f_HR
    have hzc := hb.size
    replace HX := Lib.hid (HX.out.keep hb)
    replace HK := Lib.hid (HK.out.keep hb)
    replace HR := Lib.hid (HR.out.keep hb)
    replace HT := Lib.hid (HT.out.keep hb)
    replace HB := Lib.hid (HB.out.trans (hb.mono HB.out.size))
    clear hb
    clear b0 b1 b2
    have ⟨c_HX, z_HX, f_HX⟩ := HX.out
    go_wp2_with fail
    refine (specCopyStore _ s _ (HS.out.below HB.out) hs).mono ?_
    rintro e w2 ⟨ds, rfl, hf, hb⟩
    obtain ⟨ao, cap, rfl, hfw, _⟩ := DStore.fopen hf
    have HF : Hid (Fresh (Rep.slice 71 DItem.rep) (w.heap.size + 4) w2 [.slice ao s.items.length cap] s.items) := Lib.hid (hfw.mono (by omega))
    have hz2' := hb.size
    clear c_HX z_HX f_HX
    replace HX := Lib.hid (HX.out.keep hb)
    replace HK := Lib.hid (HK.out.keep hb)
    replace HR := Lib.hid (HR.out.keep hb)
    replace HT := Lib.hid (HT.out.keep hb)
    replace HB := Lib.hid (HB.out.trans (hb.mono HB.out.size))
    clear hf hfw hb
    have ⟨c_HX, z_HX, f_HX⟩ := HX.out
    have ⟨c_HK, z_HK, f_HK⟩ := HK.out
    go_wp2_with fail
    refine (specFindItem _ _ s k _ (HS.out.below (by have y := HB.out; exact bEl)) (HKr.out _)).mono ?_
    rintro e w3 ⟨rfl, hb⟩
    have hq : Below w2.heap.size w2 w3 := below_call bEl bSz hb
    have HO : Hid (WB w3 w2.heap.size #[.string s.name, .slice ao s.items.length cap, .int .i64 s.auto]) := Lib.hid ((WB.at rfl).keep hb)
    have hsz3 : w2.heap.size + 1 ≤ w3.heap.size := by have y := hb.size; simp at y; omega
    have hlt : Hid (∀ b, (Value.slice ao s.items.length cap).ownBlock = some b → w.heap.size + 4 ≤ b ∧ b < w2.heap.size) := Lib.hid fun b hb => HF.out.ownlt b (by rw [hb]; simp)
    have hno : Hid (∀ b, b < w.heap.size + 4 ∨ w2.heap.size ≤ b → b ∉ (Value.slice ao s.items.length cap).ownBlock.toList) := Lib.hid fun b hb hm => by
      have := hlt.out b (by simpa using hm); omega
    have HP := Lib.hid (HF.out.partAt (Nat.le_refl _))
    clear c_HX z_HX f_HX c_HK z_HK f_HK
    replace HX := Lib.hid (HX.out.keep hq)
    replace HK := Lib.hid (HK.out.keep hq)
    replace HR := Lib.hid (HR.out.keep hq)
    replace HT := Lib.hid (HT.out.keep hq)
    replace HF := Lib.hid (HF.out.below hq)
    replace HP := Lib.hid (HP.out.below hq)
    replace HB := Lib.hid (HB.out.trans (hq.mono HB.out.size))
    clear hb hq
    rcases idxF_cases (keyIs k) s.items with ⟨he, hall⟩ | ⟨i, hi', he, hp, hall⟩
    · have HE := Lib.hid (putOut_none r he)
      have HPB := Lib.hid (putB_new (r := r) a0.out a1.out a2.out he)
      rw [he]
      clear he hall
      have ⟨c_HX, z_HX, f_HX⟩ := HX.out
      have ⟨c_HK, z_HK, f_HK⟩ := HK.out
      have ⟨c_HR, z_HR, f_HR⟩ := HR.out
      have ⟨c_HO, z_HO, f_HO⟩ := HO.out
      have ⟨c_HT, z_HT, f_HT⟩ := HT.out
      by_cases h16 : 16 ≤ s.items.length
      · have hB : Hid (putItemB s k r = false) := Lib.hid (by rw [HPB.out]; exact decide_eq_false (by omega))
        go_wp2
        refine bodyPost_ret (v := .tuple #[.agg #[.string s.name, .slice ao s.items.length cap, .int .i64 s.auto], .bool false]) (by simp [results, Tryz.results103, go_sem, c_HT]) rfl ⟨_, by rw [hB.out], ?_, ?_⟩
        · have e : putItemF s k r = s := by rw [putItemF, hB.out]; rfl
          rw [e]
          exact DStore.fmk (Fresh.mono (B := (w.heap.size + 4)) (by repeat (first | exact HF.out | refine Fresh.setLow ?_ (by omega) | refine Fresh.drew ?_)) (by omega)) q_s0
        · have y := HB.out
          exact bEb
      · have hB : Hid (putItemB s k r = true) := Lib.hid (by rw [HPB.out]; exact decide_eq_true (by omega))
        clear HPB
        go_wp2
        go_loopw [10] (fun i wr => ∃ a : Nat, a ≤ s.items.length ∧ i = .int .i64 a ∧ Hid (∀ j, (hj : j < s.items.length) → j < a → itemLess k s.items[j] = true) ∧ Below w3.heap.size w3 wr) (fun i _ => s.items.length - (intOf i).toNat)
        case atStart => exact ⟨0, by omega, rfl, Lib.hid (by intro j hj h; omega), belR⟩
        case round =>
          obtain ⟨a, ha, rfl, HA, hb⟩ := hrel
          clear c_HX z_HX f_HX c_HK z_HK f_HK c_HR z_HR f_HR c_HO z_HO f_HO c_HT z_HT f_HT
          have hsr := hb.size
          replace HX := Lib.hid (HX.out.keep hb)
          replace HK := Lib.hid (HK.out.keep hb)
          replace HR := Lib.hid (HR.out.keep hb)
          replace HT := Lib.hid (HT.out.keep hb)
          replace HO := Lib.hid (HO.out.keep hb)
          replace HF := Lib.hid (HF.out.below hb)
          replace HP := Lib.hid (HP.out.below hb)
          replace HB := Lib.hid (HB.out.trans (hb.mono HB.out.size))
          have HQ := Lib.hid hb
          clear hb
          have ⟨c_HX, z_HX, f_HX⟩ := HX.out
          have ⟨c_HK, z_HK, f_HK⟩ := HK.out
          have ⟨c_HR, z_HR, f_HR⟩ := HR.out
          have ⟨c_HO, z_HO, f_HO⟩ := HO.out
          have hstop : (Hid (∀ h : a < s.items.length, itemLess k s.items[a] = false)) ∨ ∃ h : a < s.items.length, itemLess k s.items[a] = true := by
            by_cases h1 : a < s.items.length
            · cases h2 : itemLess k s.items[a]
              · exact .inl (Lib.hid fun _ => h2)
              · exact .inr ⟨h1, h2⟩
            · exact .inl (Lib.hid fun h => absurd h h1)
          have j1 : (0 : Int) ≤ (a : Int) := by omega
          rcases hstop with HN | ⟨hlt', hle⟩
          · have HL := Lib.hid (lead_eq ha HA.out HN.out)
            have HE2 : Hid (putOut s k r = ⟨s.name, insAt s.items a ⟨k, r⟩, autoOf s.auto k⟩) := Lib.hid (by rw [HE.out, putNew, HL.out])
            clear HE HL HA
            go_upto_region 11 with fail
            go_cut [62] from 47 to 64 (fun v wx => v = .bool false ∧ Below wr.heap.size wr wx)
            case first =>
              by_cases hkl : a < s.items.length
              · obtain ⟨b, off, cs_b, rfl, hw_b, hr_b, hcell_b⟩ := slice_at (q_K1.out.below HB.out) a hkl
                obtain ⟨fe_b, hrd_b⟩ := hr_b
                have HR_b : Hid (Reads DItem.rep wr cs_b s.items[a]) := ⟨_, hrd_b⟩
                obtain ⟨b_v1, b_f1, rfl, _, b_s0, b_r1⟩ := DItem.rd.1 hrd_b
                obtain ⟨b_a1, b_k1, rfl, _⟩ := slice_open b_r1
                have b_R1 : Hid (Reads (Rep.slice 112 DField.rep) wr [.slice b_a1 s.items[a].record.fields.length b_k1] s.items[a].record.fields) := ⟨_, b_r1⟩
                clear b_r1
                clear hrd_b
                have b_c0 : wr.cell? ⟨b, off + a * 4, none⟩ = some (.int .i64 s.items[a].key.kind) := hcell_b 0 (by decide)
                have b_c1 : wr.cell? ⟨b, off + a * 4 + 1, none⟩ = some (.int .i64 s.items[a].key.n) := hcell_b 1 (by decide)
                have b_c2 : wr.cell? ⟨b, off + a * 4 + 2, none⟩ = some (.string s.items[a].key.text) := hcell_b 2 (by decide)
                have b_c3 : wr.cell? ⟨b, off + a * 4 + 3, none⟩ = some (.slice b_a1 s.items[a].record.fields.length b_k1) := hcell_b 3 (by decide)
                clear hcell_b
                clear HR_b b_R1
                have i2 : (a : Int) < (s.items.length : Int) := by omega
                have n5 : decide (cmpKeysF s.items[a].key k < 0) = false := HN.out hkl
                have HKj : Hid (∀ W, Reads DKey.rep W [.int .i64 s.items[a].key.kind, .int .i64 s.items[a].key.n, .string s.items[a].key.text] s.items[a].key) := Lib.hid fun W => ⟨[], DKey.rd.2 ⟨rfl, rfl, b_s0⟩⟩
                have n6 : decide (a < s.items.length) = true := decide_eq_true hkl
                go_wp2_with fail
                have K0 := rg_var HX.out
                have K1 := rg_var HK.out
                have C3 := rg_cell b_c0
                have C4 := rg_cell b_c1
                have C5 := rg_cell b_c2
                refine wp_region_rg (by kernel_rfl) (by kernel_rfl) ?_
                repeat (go_big_quiet_step ((go_at_call 125; exact calls_rg (specCompareKeys _ _ s.items[a].key k _ (HKj.out _) (HKr.out _)))))
                refine wpQuiet_nil ?_
                rintro _ ⟨pq, rfl⟩
                have hb := rg_below wr pq
                go_wp2_with fail
                go_meet
                exact ⟨rfl, hb⟩
              · have n6 : decide (a < s.items.length) = false := decide_eq_false hkl
                go_wp2_with fail
                have K0 := rg_var HX.out
                have K1 := rg_var HK.out
                refine wp_region_rg (by kernel_rfl) (by kernel_rfl) ?_
                repeat (go_big_quiet_step (fail))
                refine wpQuiet_nil ?_
                rintro _ ⟨pq, rfl⟩
                have hb := rg_below wr pq
                go_wp2_with fail
                go_meet
                exact ⟨rfl, hb⟩
            case rest =>
              obtain ⟨rfl, hb⟩ := hcut
              obtain ⟨wx, hwx⟩ : ∃ wx : World, wx = wc := ⟨_, rfl⟩
              subst hwx
              clear c_HX z_HX f_HX c_HK z_HK f_HK c_HR z_HR f_HR c_HO z_HO f_HO
              have hsx := hb.size
              replace HX := Lib.hid (HX.out.keep hb)
              replace HK := Lib.hid (HK.out.keep hb)
              replace HR := Lib.hid (HR.out.keep hb)
              replace HT := Lib.hid (HT.out.keep hb)
              replace HO := Lib.hid (HO.out.keep hb)
              replace HF := Lib.hid (HF.out.below hb)
              replace HP := Lib.hid (HP.out.below hb)
              replace HB := Lib.hid (HB.out.trans (hb.mono HB.out.size))
              clear hb HQ
              have ⟨c_HX, z_HX, f_HX⟩ := HX.out
              have ⟨c_HK, z_HK, f_HK⟩ := HK.out
              have ⟨c_HR, z_HR, f_HR⟩ := HR.out
              have ⟨c_HO, z_HO, f_HO⟩ := HO.out
              obtain ⟨raws, hrl, hrf, hclose⟩ := Part.raws HP.out
              have HRF := Lib.hid hrf
              have HCL := Lib.hid hclose
              have HPre := Lib.hid (hrf.reads.pre a ha)
              have HTl := Lib.hid (Reads.tail hrf.reads a ha)
              have hsl := fun W => run_tail (P := Tryz.prog) (t := 24) (n := 4) (by kernel_rfl) (fun _ => by kernel_rfl) ao a s.items.length cap ha W
              have hle : s.items.length ≤ cap := slice_cap HF.out.reads
              have j2 : (a : Int) ≤ (s.items.length : Int) := by omega
              have j3 : (a : Int) ≤ (cap : Int) := by omega
              have j4 : a ≤ cap := by omega
              have ht1 : (raws.take a).length = a := by rw [List.length_take]; omega
              clear hrf hclose
              go_wp2_with (at_builtin; refine (FlatR.raw DItem.rep.n).grow3 _ rfl _ _ 24 24 rfl wx.heap.size 71 i0 _ _ Tryz.underlying24 Tryz.underlying24 hi hz0 hz1 hz2 rfl _ [] rfl (Fresh.lit0 rfl) _ (raws.take a) rfl (HPre.out.below bEl) a ?c1 ?c2 ?c3 ?c4 ?_)
              case c1 => rw [ht1]; simp
              case c2 => omega
              case c3 => decide
              case c4 => simp
              intro ao1 cap1 wy hf1 hc1 hb1 hv1
              have HF1 : Hid (Fresh (Rep.slice 71 (Rep.raw DItem.rep.n)) wx.heap.size wy [.slice ao1 a cap1] (raws.take a)) := Lib.hid (by simpa using hf1)
              have hqy : Below wx.heap.size wx wy := Below.trans bEb hb1
              have hzy := hqy.size
              have hvy : Hid (∀ b ∈ (Value.slice ao1 a cap1).ownBlock.toList, wx.heap.size ≤ b ∧ b < wy.heap.size) := Lib.hid HF1.out.ownlt
              clear hf1 hc1 hb1 hv1
              clear c_HX z_HX f_HX c_HK z_HK f_HK c_HR z_HR f_HR c_HO z_HO f_HO
              replace HX := Lib.hid (HX.out.keep hqy)
              replace HK := Lib.hid (HK.out.keep hqy)
              replace HR := Lib.hid (HR.out.keep hqy)
              replace HT := Lib.hid (HT.out.keep hqy)
              replace HO := Lib.hid (HO.out.keep hqy)
              replace HB := Lib.hid (HB.out.trans (hqy.mono HB.out.size))
              have HQY := Lib.hid hqy
              clear hqy
              have ⟨c_HX, z_HX, f_HX⟩ := HX.out
              have ⟨c_HK, z_HK, f_HK⟩ := HK.out
              have ⟨c_HR, z_HR, f_HR⟩ := HR.out
              have ⟨c_HO, z_HO, f_HO⟩ := HO.out
              go_upto_region 14 with fail
              go_cut [11] (fun v W => ∃ ao2 cap2 a4 c4 C, ∃ rk : RawEl DItem.rep.n, v = .slice ao2 (a + 1) cap2 ∧ rk.cs = [.int .i64 k.kind, .int .i64 k.n, .string k.text, .slice a4 r.fields.length c4] ∧ Part DItem.rep wy.heap.size C W [.int .i64 k.kind, .int .i64 k.n, .string k.text, .slice a4 r.fields.length c4] ⟨k, r⟩ ∧ Fresh (Rep.slice 71 (Rep.raw DItem.rep.n)) wx.heap.size W [.slice ao2 (a + 1) cap2] (raws.take a ++ [rk]) ∧ (∀ b ∈ (Value.slice ao2 (a + 1) cap2).ownBlock.toList, b < wy.heap.size ∨ C ≤ b) ∧ Below wx.heap.size wy W ∧ C ≤ W.heap.size)
              case first =>
                go_region_law (first
                  | (go_simp; go_at_call 142; refine (specCopyRecord _ r _ (HRr.out.below (by have y := HB.out; exact bEb)) hr).mono ?_; rintro e w4 ⟨ds, rfl, hf4, hb4⟩; obtain ⟨a4, c4, rfl⟩ := DRecord.fshape hf4; have hq4 : Below wy.heap.size wy w4 := (Below.trans bEb (hb4.mono bSz)); have hsz4 := hq4.size; have hfi := item_fmk hkt (hf4.mono (B' := wy.heap.size) (by first | exact Nat.le_refl _ | (simp; done) | omega)); obtain ⟨rk, hrk⟩ := mk_raw hfi; have hwk := HK.out.keep hq4; have ⟨ck4, zk4, fk4⟩ := hwk)
                  | ((refine (FlatR.raw DItem.rep.n).step_growD _ (by rfl) (.tmp 71) (.tmp 76) 24 24 (by rfl) wx.heap.size 71 i0 _ _ Tryz.underlying24 Tryz.underlying24 hi hz0 hz1 hz2 rfl (.slice ao1 a cap1) (raws.take a) (by rfl) ?ownA _ [rk] (by rfl) ?rdA (a + 1) ?lmA ?lnA (by decide) ?bsA ?_); (case ownA => exact ((HF1.out.below hq4).below bEl)); (case rdA => exact (FlatR.raw DItem.rep.n).one_reads rfl hrk.symm trivial); (case lmA => rw [ht1]; rfl); (case lnA => omega); (case bsA => (simp; omega)); (intro ao2 cap2 w6 hf6 hc6 hb6 hv6)))
                all_goals
                  have hp4 : Part DItem.rep wy.heap.size w4.heap.size w6 [.int .i64 k.kind, .int .i64 k.n, .string k.text, .slice a4 r.fields.length c4] ⟨k, r⟩ := Part.off ((hfi.partAt (Nat.le_refl _)).below bEl) hc6 (fun b hb => .inl (hvy.out b hb).2)
                  have hg6 : ∀ b ∈ (Value.slice ao2 (a + 1) cap2).ownBlock.toList, b < wy.heap.size ∨ w4.heap.size ≤ b := fun b hb => by
                    rcases hv6 b (by first | exact hb | simpa using hb) with h | h
                    · exact .inl (hvy.out b (by first | exact h | simpa using h)).2
                    · right; simp at h; omega
                  have hb7 : Below wx.heap.size wy w6 := Below.trans (Below.trans (hq4.mono hzy) (Below.trans (Below.refl _ _) bEb)) hb6
                  have hs6 : w4.heap.size ≤ w6.heap.size := by have y := hb6.size; simp at y; omega
                  go_wp2_with fail
                  go_meet
                  exact ⟨ao2, cap2, a4, c4, w4.heap.size, rk, rfl, hrk, hp4, hf6, hg6, hb7, hs6⟩
              case rest =>
                obtain ⟨ao2, cap2, a4, c4, C, rk, rfl, hrk, hp4, hf6, hg6, hb7, hC⟩ := hcut
                obtain ⟨wz, hwz⟩ : ∃ wz : World, wz = wc := ⟨_, rfl⟩
                subst hwz
                clear c_HX z_HX f_HX c_HK z_HK f_HK c_HR z_HR f_HR c_HO z_HO f_HO
                have hsz := hb7.size
                have HX7 := Lib.hid (HX.out.grow hb7 (by omega))
                have HK7 := Lib.hid (HK.out.grow hb7 (by omega))
                have HT7 := Lib.hid (HT.out.grow hb7 (by omega))
                have HO7 := Lib.hid (HO.out.grow hb7 (by omega))
                have HB7 := Lib.hid (HB.out.trans (hb7.mono (by omega)))
                have HQ7 := Lib.hid (HQY.out.trans hb7)
                have HTl7 := Lib.hid (HTl.out.below HQ7.out)
                have HP4 := Lib.hid hp4
                have HF6 := Lib.hid hf6
                have HG6 := Lib.hid hg6
                clear hp4 hf6 hg6 hb7 HX HK HR HT HO HB
                have ⟨c_HX7, z_HX7, f_HX7⟩ := HX7.out
                have ⟨c_HO7, z_HO7, f_HO7⟩ := HO7.out
                go_wp2_with (at_builtin; refine (FlatR.raw DItem.rep.n).grow3 _ rfl _ _ 24 24 rfl wx.heap.size 71 i0 _ _ Tryz.underlying24 Tryz.underlying24 hi hz0 hz1 hz2 rfl _ (raws.take a ++ [rk]) rfl HF6.out _ (raws.drop a) rfl HTl7.out (s.items.length + 1) ?c1 ?c2 ?c3 ?c4 ?_)
                case c1 => rw [List.length_append, ht1, List.length_drop]; simp; omega
                case c2 => omega
                case c3 => decide
                case c4 => omega
                intro ao3 cap3 wt hf8 hc8 hb8 hv8
                have hgap := HCL.out wt (.slice ao3 (s.items.length + 1) cap3) [.int .i64 k.kind, .int .i64 k.n, .string k.text, .slice a4 r.fields.length c4] ⟨k, r⟩ a (w2.heap.size + 1) wy.heap.size C rk ((HQ7.out.mono (by omega)).trans (hb8.mono (by omega))) ha hrk (Part.off HP4.out hc8 HG6.out) (by omega) (by omega) (by omega) (by
                  have y := hf8.mono (B' := w2.heap.size + 1) (by omega)
                  first
                    | exact y
                    | (have e : raws.take a ++ [rk] ++ raws.drop a = insAt raws a rk := by simp [insAt]
                       rw [e] at y
                       exact y)) (fun b hb => by
                    rcases hv8 b (by first | exact hb | simpa using hb) with h | h
                    · exact HG6.out b (by first | exact h | simpa using h)
                    · right; omega)
                have HGap := Lib.hid hgap
                have hb9 : Below (w2.heap.size + 1) wz wt := hb8.mono (by omega)
                have hs9 := hb9.size
                clear c_HX7 z_HX7 f_HX7 c_HO7 z_HO7 f_HO7
                have HX := Lib.hid (HX7.out.grow hb9 (by omega))
                have HK := Lib.hid (HK7.out.grow hb9 (by omega))
                have HT := Lib.hid (HT7.out.grow hb9 (by omega))
                have HO := Lib.hid (HO7.out.grow hb9 (by omega))
                have HB := Lib.hid (HB7.out.trans (hb9.mono (by omega)))
                clear hf8 hc8 hb8 hv8 hgap hb9 HX7 HK7 HT7 HO7 HB7 HQ7 HQY HTl7 HP4 HF6 HG6 HF1 hvy HPre HTl HRF HCL
                have ⟨c_HO, z_HO, f_HO⟩ := HO.out
                go_upto_region 16 with fail
                refine settle (fun W => ∃ v6, WB W w.heap.size #[.string s.name, .slice q_a1 s.items.length q_c1, .int .i64 s.auto] ∧ WB W (w.heap.size + 1) #[.int .i64 k.kind, .int .i64 k.n, .string k.text] ∧ WB W (w.heap.size + 3) #[.string ⟨#[]⟩, .slice none 0 0, .int .i64 0] ∧ WB W w2.heap.size #[.string s.name, v6, .int .i64 s.auto] ∧ Gap (Rep.slice 71 DItem.rep) (w.heap.size + 4) w2.heap.size (w2.heap.size + 1) W [v6] (insAt s.items a ⟨k, r⟩) ∧ Below w.heap.size w W) ⟨_, HX.out.setOther (by omega), HK.out.setOther (by omega), HT.out.setOther (by omega), HO.out.setAt (by simp) rfl, HGap.out.set (by omega), by have y := HB.out; exact bEb⟩ ?_
                clear c_HO z_HO f_HO
                clear HX HK HT HO HB HGap HF HP
                rintro w8 ⟨v6, hx, hk8, ht, ho, hf, hb⟩
                have HX := Lib.hid hx
                have HK := Lib.hid hk8
                have HT := Lib.hid ht
                have HO := Lib.hid ho
                have HF := Lib.hid hf
                have HB := Lib.hid hb
                clear hx hk8 ht ho hf hb
                have ⟨c_HX, z_HX, f_HX⟩ := HX.out
                have ⟨c_HK, z_HK, f_HK⟩ := HK.out
                have ⟨c_HO, z_HO, f_HO⟩ := HO.out
                have hw : IntKind.i64.wrap (s.auto + 1) = s.auto + 1 := Go.IntWalk.i64_in _ (by have := hauto.out; omega)
                cases c1 : (k.kind == 1)
                case' true => cases c2 : within k.n (s.auto + 1) 1000000
                case false =>
                  go_upto_region 18 with fail
                  refine settle (fun W => ∃ v5, WB W w.heap.size #[.string s.name, .slice q_a1 s.items.length q_c1, .int .i64 s.auto] ∧ WB W (w.heap.size + 3) #[.string ⟨#[]⟩, .slice none 0 0, .int .i64 0] ∧ WB W w2.heap.size #[.string s.name, v5, .int .i64 (putOut s k r).auto] ∧ Fresh (Rep.slice 71 DItem.rep) (w.heap.size + 4) W [v5] (putOut s k r).items ∧ Below w.heap.size w W) ⟨v6, HX.out, HT.out, by rw [HE2.out]; show WB _ _ #[_, _, .int .i64 (autoOf s.auto k)]; rw [auto_no c1]; exact HO.out, by rw [HE2.out]; exact HF.out.fresh, HB.out⟩ ?_
                  clear c_HX z_HX f_HX c_HK z_HK f_HK c_HO z_HO f_HO
                  clear HX HK HT HO HF HB HE2 hlt hno
                  rintro w5 ⟨v5, hx, ht, ho, hf, hb⟩
                  obtain ⟨ao5, cap5, rfl⟩ := hf.slice
                  have HT5 := Lib.hid ht
                  have HO5 := Lib.hid ho
                  have HF5 := Lib.hid hf
                  have HB5 := Lib.hid hb
                  clear hx ht ho hf hb
                  have ⟨c_HT5, z_HT5, f_HT5⟩ := HT5.out
                  have ⟨c_HO5, z_HO5, f_HO5⟩ := HO5.out
                  go_wp2
                  refine bodyPost_ret (v := .tuple #[.agg #[.string s.name, .slice ao5 (putOut s k r).items.length cap5, .int .i64 (putOut s k r).auto], .bool true]) (by simp [results, Tryz.results103, go_sem, c_HT5]) rfl ⟨_, by rw [hB.out], ?_, ?_⟩
                  · have e : putItemF s k r = putOut s k r := by rw [putItemF, hB.out]; rfl
                    rw [e]
                    exact putOut_fmk (Fresh.mono (B := (w.heap.size + 4)) (by repeat (first | exact HF5.out | refine Fresh.setLow ?_ (by omega) | refine Fresh.drew ?_)) (by omega)) q_s0
                  · have y := HB5.out
                    exact bEb
                all_goals
                  go_wp2_with fail
                  refine (specIn _ _ _ _).mono ?_
                  rintro e w9 ⟨rfl, rfl⟩
                  rw [c2]
                  go_upto_region 18 with fail
                  refine settle (fun W => ∃ v5, WB W w.heap.size #[.string s.name, .slice q_a1 s.items.length q_c1, .int .i64 s.auto] ∧ WB W (w.heap.size + 3) #[.string ⟨#[]⟩, .slice none 0 0, .int .i64 0] ∧ WB W w2.heap.size #[.string s.name, v5, .int .i64 (putOut s k r).auto] ∧ Fresh (Rep.slice 71 DItem.rep) (w.heap.size + 4) W [v5] (putOut s k r).items ∧ Below w.heap.size w W) ?hE ?_
                  case hE => exact ⟨v6, by first | exact HX.out | exact HX.out.setOther (by omega), by first | exact HT.out | exact HT.out.setOther (by omega), by rw [HE2.out]; show WB _ _ #[_, _, .int .i64 (autoOf s.auto k)]; first | (rw [auto_in c1 c2]; exact HO.out.setAt (by simp) rfl) | (rw [auto_out c1 c2]; exact HO.out), by rw [HE2.out]; first | exact HF.out.fresh | exact (HF.out.set (by omega)).fresh, by have y := HB.out; exact bEb⟩
                  clear c_HX z_HX f_HX c_HK z_HK f_HK c_HO z_HO f_HO
                  clear HX HK HT HO HF HB HE2 hlt hno
                  rintro w5 ⟨v5, hx, ht, ho, hf, hb⟩
                  obtain ⟨ao5, cap5, rfl⟩ := hf.slice
                  have HT5 := Lib.hid ht
                  have HO5 := Lib.hid ho
                  have HF5 := Lib.hid hf
                  have HB5 := Lib.hid hb
                  clear hx ht ho hf hb
                  have ⟨c_HT5, z_HT5, f_HT5⟩ := HT5.out
                  have ⟨c_HO5, z_HO5, f_HO5⟩ := HO5.out
                  go_wp2
                  refine bodyPost_ret (v := .tuple #[.agg #[.string s.name, .slice ao5 (putOut s k r).items.length cap5, .int .i64 (putOut s k r).auto], .bool true]) (by simp [results, Tryz.results103, go_sem, c_HT5]) rfl ⟨_, by rw [hB.out], ?_, ?_⟩
                  · have e : putItemF s k r = putOut s k r := by rw [putItemF, hB.out]; rfl
                    rw [e]
                    exact putOut_fmk (Fresh.mono (B := (w.heap.size + 4)) (by repeat (first | exact HF5.out | refine Fresh.setLow ?_ (by omega) | refine Fresh.drew ?_)) (by omega)) q_s0
                  · have y := HB5.out
                    exact bEb

          · obtain ⟨b, off, cs_b, rfl, hw_b, hr_b, hcell_b⟩ := slice_at (q_K1.out.below HB.out) a hlt'
            obtain ⟨fe_b, hrd_b⟩ := hr_b
            have HR_b : Hid (Reads DItem.rep wr cs_b s.items[a]) := ⟨_, hrd_b⟩
            obtain ⟨b_v1, b_f1, rfl, _, b_s0, b_r1⟩ := DItem.rd.1 hrd_b
            obtain ⟨b_a1, b_k1, rfl, _⟩ := slice_open b_r1
            have b_R1 : Hid (Reads (Rep.slice 112 DField.rep) wr [.slice b_a1 s.items[a].record.fields.length b_k1] s.items[a].record.fields) := ⟨_, b_r1⟩
            clear b_r1
            clear hrd_b
            have b_c0 : wr.cell? ⟨b, off + a * 4, none⟩ = some (.int .i64 s.items[a].key.kind) := hcell_b 0 (by decide)
            have b_c1 : wr.cell? ⟨b, off + a * 4 + 1, none⟩ = some (.int .i64 s.items[a].key.n) := hcell_b 1 (by decide)
            have b_c2 : wr.cell? ⟨b, off + a * 4 + 2, none⟩ = some (.string s.items[a].key.text) := hcell_b 2 (by decide)
            have b_c3 : wr.cell? ⟨b, off + a * 4 + 3, none⟩ = some (.slice b_a1 s.items[a].record.fields.length b_k1) := hcell_b 3 (by decide)
            clear hcell_b
            clear HR_b b_R1
            have i2 : (a : Int) < (s.items.length : Int) := by omega
            have n5 : decide (cmpKeysF s.items[a].key k < 0) = true := hle
            have HKj : Hid (∀ W, Reads DKey.rep W [.int .i64 s.items[a].key.kind, .int .i64 s.items[a].key.n, .string s.items[a].key.text] s.items[a].key) := Lib.hid fun W => ⟨[], DKey.rd.2 ⟨rfl, rfl, b_s0⟩⟩
            have n6 : decide (a < s.items.length) = true := decide_eq_true hlt'
            go_wp2_with fail
            have K0 := rg_var HX.out
            have K1 := rg_var HK.out
            have C3 := rg_cell b_c0
            have C4 := rg_cell b_c1
            have C5 := rg_cell b_c2
            refine wp_region_rg (by kernel_rfl) (by kernel_rfl) ?_
            repeat (go_big_quiet_step ((go_at_call 125; exact calls_rg (specCompareKeys _ _ s.items[a].key k _ (HKj.out _) (HKr.out _)))))
            refine wpQuiet_nil ?_
            rintro _ ⟨pq, rfl⟩
            clear K0 K1 C3 C4 C5 n5 HKj
            have hb := rg_below wr pq
            go_wp2
            go_light
            exact ⟨⟨a + 1, by omega, by go_num, Lib.hid (by
              intro j hj hjk
              by_cases e : j = a
              · subst e; exact hle
              · exact HA.out j hj (by omega)), HQ.out.trans (hb.mono hsr)⟩, by simp [intOf]; omega⟩
    · have HE2 := Lib.hid (putOut_some r hi' he)
      have hB := Lib.hid (putB_old (r := r) a0.out a1.out a2.out he)
      rw [he]
      clear he hall hp
      obtain ⟨g0, vc, hv, hg2, hfz, hex⟩ := owned_at HF.out i hi'
      simp only [Value.slice.injEq] at hv
      obtain ⟨rfl, hq0, rfl⟩ := hv
      clear hq0
      obtain ⟨u3, e3⟩ := hex 3 (by decide)
      have e3 : w3.cell? ⟨g0, i * 4 + 3, none⟩ = some u3 := e3
      clear hex
      have hgl := hlt.out g0 (by simp [Value.ownBlock])
      have i1 : (0 : Int) ≤ (i : Int) := by omega
      have i2 : (i : Int) < (s.items.length : Int) := by omega
      have HSx : Hid (∀ w', Chg [g0] w3 w' → (∀ o, w'.cell? ⟨w2.heap.size, o, none⟩ = #[.string s.name, .slice (some ⟨g0, 0, none⟩) s.items.length cap, .int .i64 s.auto][o]?) ∧ (∀ o, w'.cell? ⟨w.heap.size + 2, o, none⟩ = #[.slice r_a1 r.fields.length r_c1][o]?) ∧ Chg [g0] w3 w') := Lib.hid fun w' hw' => ⟨(HO.out.chg hw' (by simp; omega)).cell, (HR.out.chg hw' (by simp; omega)).cell, hw'⟩
      have ⟨c_HO, z_HO, f_HO⟩ := HO.out
      have ⟨c_HR, z_HR, f_HR⟩ := HR.out
      go_wp2_with fail
      go_region_held3 (fun w' => (∀ o, w'.cell? ⟨w2.heap.size, o, none⟩ = #[.string s.name, .slice (some ⟨g0, 0, none⟩) s.items.length cap, .int .i64 s.auto][o]?) ∧ (∀ o, w'.cell? ⟨w.heap.size + 2, o, none⟩ = #[.slice r_a1 r.fields.length r_c1][o]?) ∧ Chg [g0] w3 w')
        (first | exact HSx.out _ (chgD Chg.refl) | exact HSx.out _ hc4 | exact HSx.out _ (Chg.set (by simp) hc4))
        (first | (go_at_call 142; refine (specCopyRecord _ r _ (HRr.out.below (by have y := HB.out; exact bEb)) hr).mono ?_; rintro e w4 ⟨ds, rfl, hf4, hb4⟩; obtain ⟨a4, c4, rfl⟩ := DRecord.fshape hf4; have hq4 : Below w3.heap.size w3 w4 := (Below.trans bEb (hb4.mono bSz)); have hc4 : Chg [g0] w3 w4 := Chg.of_below hq4 (Nat.le_refl _); have e4' := (hq4.cell (p := ⟨g0, i * 4 + 3, none⟩) hg2).trans e3; have f4' : ∀ j, w4.frozen? ⟨g0, j, none⟩ = false := (fun j => (hq4.frozen (p := ⟨g0, j, none⟩) hg2).trans (hfz j))))
      all_goals
        have hset := items_set (Part.below HP.out hq4) i hi' (hf4.mono (B' := w2.heap.size) (by first | omega | (simp; omega))) (by omega)
        have HF5 := Lib.hid hset
        have HX5 := Lib.hid ((HX.out.keep hq4).setOther (g := g0) (o := i * 4 + 3) (u := .slice a4 r.fields.length c4) (by omega))
        have HT5 := Lib.hid ((HT.out.keep hq4).setOther (g := g0) (o := i * 4 + 3) (u := .slice a4 r.fields.length c4) (by omega))
        have HO5 := Lib.hid ((HO.out.keep hq4).setOther (g := g0) (o := i * 4 + 3) (u := .slice a4 r.fields.length c4) (by omega))
        have HB5 : Hid (Below w.heap.size w w4) := Lib.hid (HB.out.trans (hq4.mono HB.out.size))
        clear hset hf4 hq4 hc4 hb4 e4' f4' hfz e3 HSx
        clear c_HO z_HO f_HO c_HR z_HR f_HR
        clear HX HK HR HT HO HF HB HP
        refine settleP (fun W => ∃ v5, WB W w.heap.size #[.string s.name, .slice q_a1 s.items.length q_c1, .int .i64 s.auto] ∧ WB W (w.heap.size + 3) #[.string ⟨#[]⟩, .slice none 0 0, .int .i64 0] ∧ WB W w2.heap.size #[.string s.name, v5, .int .i64 (putOut s k r).auto] ∧ Fresh (Rep.slice 71 DItem.rep) (w.heap.size + 4) W [v5] (putOut s k r).items ∧ Below w.heap.size w W) ?hE ?_
        case hE => exact ⟨_, HX5.out, HT5.out, by rw [HE2.out]; exact HO5.out, by rw [HE2.out]; exact HF5.out, by have y := HB5.out; exact bEb⟩
        clear HX5 HT5 HO5 HF5 HB5 HE2 hlt hno
        rintro w5 ⟨v5, hx, ht, ho, hf, hb⟩
        obtain ⟨ao5, cap5, rfl⟩ := hf.slice
        have HT5 := Lib.hid ht
        have HO5 := Lib.hid ho
        have HF5 := Lib.hid hf
        have HB5 := Lib.hid hb
        clear hx ht ho hf hb
        have ⟨c_HT5, z_HT5, f_HT5⟩ := HT5.out
        have ⟨c_HO5, z_HO5, f_HO5⟩ := HO5.out
        go_wp2
        refine bodyPost_ret (v := .tuple #[.agg #[.string s.name, .slice ao5 (putOut s k r).items.length cap5, .int .i64 (putOut s k r).auto], .bool true]) (by simp [results, Tryz.results103, go_sem, c_HT5]) rfl ⟨_, by rw [hB.out], ?_, ?_⟩
        · have e : putItemF s k r = putOut s k r := by rw [putItemF, hB.out]; rfl
          rw [e]
          exact putOut_fmk (Fresh.mono (B := (w.heap.size + 4)) (by repeat (first | exact HF5.out | refine Fresh.setLow ?_ (by omega) | refine Fresh.drew ?_)) (by omega)) q_s0
        · have y := HB5.out
          exact bEb

end Go.Proofs.YtlfebehpmefioaaGreat

/-
  slices.Insert at []Field: one element into a slice that the call owns.
-/
namespace Go.Proofs.YtlfebehpmefioaaGreat
open Go.RowKit

set_option maxRecDepth 100000 in
set_option maxHeartbeats 4000000 in
theorem insField_end (v : Value) (n : Nat) (xs us : List Value) (k B : Nat) (w : World) (ho : w.ownsRow B 112 2 v n xs) (hn : n ≤ 1100000) (hus : us.length = 2) (hu1 : ∀ u ∈ us, u.oneCell' = true) (hk : ∀ j u, us[j]? = some u → w.cell? ⟨k, j, none⟩ = some u) (hB : B ≤ w.heap.size) :
    Calls Tryz.prog 137 #[v, .int .i64 (n : Int), .slice (some ⟨k, 0, none⟩) 1 1] w fun e w' => ∃ ao cap, e = .returned (.slice ao (n + 1) cap) ∧ w'.ownsRow B 112 2 (.slice ao (n + 1) cap) (n + 1) (xs ++ us) ∧ w.grownBy w' v.ownBlock ∧ ∀ b ∈ (Value.slice ao (n + 1) cap).ownBlock.toList, b ∈ v.ownBlock.toList ∨ w.heap.size ≤ b := by
  obtain ⟨i0, hi, hz0, hz1, hz2⟩ := info_parts infoField
  have hsrc : Src Tryz.prog 2 67 (.slice (some ⟨k, 0, none⟩) 1 1) 1 us w := Src.ofSlice w Tryz.underlying67 ⟨k, 0, none⟩ 1 1 us (by rw [hus]) (fun j u hj => by rw [Addr.add_lit, Nat.zero_add]; exact hk j u hj) hu1
  clear hk
  rcases id ho.2 with ⟨rfl, rfl⟩ | ⟨g, cap, cur, rfl, _, _, hnc, hcm, _, _⟩
  · obtain rfl : xs = [] := List.eq_nil_of_length_eq_zero (by have := ho.1; simpa using this)
    have HO := Lib.hid ho
    clear ho
    go_enter Tryz.func137, Tryz.ntmps137
    go_wp2_with (at_builtin; refine wpList_append_src _ rfl _ _ 67 67 rfl B 112 i0 _ 2 _ Tryz.underlying67 hi hz0 hz1 hz2 rfl _ 0 [] rfl HO.out _ 1 us rfl hsrc ?c1 ?c2 hB ?_)
    case c1 => omega
    case c2 => unfold maxLen; omega
    intro ao2 cap2 w2 h1 h2 h3
    have H1 := Lib.hid h1; have H2 := Lib.hid h2; have H3 := Lib.hid h3; clear h1 h2 h3
    go_wp2
    go_ret
    exact ⟨ao2, cap2, rfl, H1.out, H2.out, fun b hb => by have h := H3.out b (by simpa using hb); simp [Value.ownBlock] at h ⊢; omega⟩
  · unfold maxLen at hcm
    by_cases hcn : cap = n
    case' pos => subst hcn
    all_goals
      have HO := Lib.hid ho
      clear ho
      go_enter Tryz.func137, Tryz.ntmps137
      go_wp2_with (at_builtin; refine wpList_append_src _ rfl _ _ 67 67 rfl B 112 i0 _ 2 _ Tryz.underlying67 hi hz0 hz1 hz2 rfl _ _ xs rfl HO.out _ 1 us rfl hsrc ?c1 ?c2 hB ?_)
      case c1 => omega
      case c2 => unfold maxLen; omega
      intro ao2 cap2 w2 h1 h2 h3
      have H1 := Lib.hid h1; have H2 := Lib.hid h2; have H3 := Lib.hid h3; clear h1 h2 h3
      go_wp2
      go_ret
      exact ⟨ao2, cap2, rfl, H1.out, H2.out, fun b hb => by have h := H3.out b (by simpa using hb); simp [Value.ownBlock] at h ⊢; omega⟩

set_option maxRecDepth 100000 in
set_option maxHeartbeats 4000000 in
theorem insField_room (g n cap i : Nat) (cur : Array Value) (xs us : List Value) (k : Nat) (tk : TypeId) (w : World) (hg : w.heap[g]? = some (.cells cur 112 (0, 0))) (hcs : cur.size = cap * 2) (htake : cur.toList.take (n * 2) = xs) (hi : i < n) (hnc : n + 1 ≤ cap) (hcm : cap ≤ 9223372036854775807) (hx1 : ∀ u ∈ xs, u.oneCell' = true) (hus : us.length = 2) (hu1 : ∀ u ∈ us, u.oneCell' = true) (hk : w.heap[k]? = some (.cells us.toArray tk (0, 0))) (hkg : k ≠ g) :
    Calls Tryz.prog 137 #[.slice (some ⟨g, 0, none⟩) n cap, .int .i64 (i : Int), .slice (some ⟨k, 0, none⟩) 1 1] w fun e w' => e = .returned (.slice (some ⟨g, 0, none⟩) (n + 1) cap) ∧ Hid (w'.heap[g]? = some (.cells (splice (splice cur.toList ((i + 1) * 2) (xs.drop (i * 2))) (i * 2) us).toArray 112 (0, 0))) ∧ Hid (w.grownBy w' (some g)) := by
  have hxl : xs.length = n * 2 := by rw [← htake, List.length_take, Array.length_toList, hcs]; omega
  have hdl : (xs.drop (i * 2)).length = (n - i) * 2 := by rw [List.length_drop, hxl]; omega
  have hov : ∀ off lb cb, (callFunc 159 #[.slice (some ⟨k, 0, none⟩) 1 1, .slice (some ⟨g, off, none⟩) lb cb]).run Tryz.prog w = .ok (.value (.bool false)) w := fun off lb cb => by
    rw [run_callFunc_extern Tryz.func159 (by kernel_rfl) (by kernel_rfl) (by kernel_rfl) (e := Extern.SlicesOverlaps.overlaps #[67, 67] #[4]) (by kernel_rfl),
      Lib.run_overlaps_apart w 67 4 112 Tryz.underlying67 2 (fun _ => by kernel_rfl) ⟨k, 0, none⟩ ⟨g, off, none⟩ 1 1 lb cb hkg tk 112 us.toArray.size cur.size (by simp [World.shape?, hk]) (by simp [World.shape?, hg]) (by omega) (by simp [World.frozen?, hk]) (by simp [World.frozen?, hk])]
    rfl
  have HG := Lib.hid hg
  have HK := Lib.hid hk
  have hsz : (Tryz.prog.info? 112).map (·.size) = some 2 := by kernel_rfl
  have HS : Hid (∀ j v, (xs.drop (i * 2))[j]? = some v → w.cell? ((⟨g, i * 2, none⟩ : Addr).add j) = some v) := Lib.hid fun j v hj => by
    rw [Addr.add_lit, cell_of_row w g _ cur _ (0, 0) hg]
    rw [List.getElem?_drop, ← htake, List.getElem?_take] at hj
    split at hj
    · simpa using hj
    · cases hj
  have HX : Hid (∀ v ∈ xs.drop (i * 2), v.oneCell' = true) := Lib.hid fun v hv => hx1 v (List.mem_of_mem_drop hv)
  have HU := Lib.hid hu1
  have hz2 : ((i : Int) == (n : Int)) = false := beq_eq_false_iff_ne.2 (by omega)
  have hw1 : IntKind.i64.wrap ((i : Int) + 1) = (i : Int) + 1 := Go.IntWalk.i64_in _ (by omega)
  have hw2 : IntKind.i64.wrap ((n : Int) + 1) = (n : Int) + 1 := Go.IntWalk.i64_in _ (by omega)
  have hb3 : (i : Int) ≤ (n : Int) := by omega
  have hb1 : (0 : Int) ≤ (i : Int) + 1 := by omega
  have hb8 : (i : Int) ≤ (n : Int) + 1 := by omega
  have hb9 : (0 : Int) ≤ (i : Int) := by omega
  have hb4 : ¬ (cap = i) := by omega
  have hb5 : ¬ (cap = i + 1) := by omega
  clear hg hk hx1 hu1 htake
  go_enter Tryz.func137, Tryz.ntmps137
  go_wp2_with (simp only [hov])
  go_region_law (refine step_copy_rows (by rfl) _ _ 67 67 (by rfl) 112 2 Tryz.underlying67 hsz (some ⟨g, (i + 1) * 2, none⟩) (some ⟨g, i * 2, none⟩) (n - i) (cap - (i + 1)) (n + 1 - i) (cap - i) (by simp [Act.eval, Act.put]) (by simp [Act.eval, Act.put]) g ((i + 1) * 2) cur.toList 112 (by exact HG.out) (xs.drop (i * 2)) ⟨g, i * 2, none⟩ rfl rfl (by rw [hdl]; congr 1; simp only [Nat.min_def]; split <;> omega) (by exact HS.out) (by rw [hdl, Array.length_toList, hcs]; omega) HX.out ?_; intro w2 HG2 HW2')
  all_goals
    have HW2 := Lib.hid (grown_drew HW2'.out)
    clear HW2'
    have HK2 : Hid (w2.heap[k]? = some (.cells us.toArray tk (0, 0))) := Lib.hid ((HW2.out.block k (Array.getElem?_eq_some_iff.1 HK.out).1 (fun e => hkg (by simpa using e))).trans HK.out)
    have HS2 : Hid (∀ j v, us[j]? = some v → w2.cell? ((⟨k, 0, none⟩ : Addr).add j) = some v) := Lib.hid fun j v hj => by rw [Addr.add_lit, cell_of_row w2 k _ us.toArray _ (0, 0) HK2.out, Nat.zero_add]; simpa using hj
    have hl2 : (splice cur.toList ((i + 1) * 2) (xs.drop (i * 2))).length = cap * 2 := by rw [length_splice _ _ _ (by rw [hdl, Array.length_toList, hcs]; omega), Array.length_toList, hcs]
    go_wp2_with (refine wpList_copy_rows (by rfl) _ _ 67 67 rfl 112 2 Tryz.underlying67 hsz _ _ _ _ _ _ rfl rfl g (i * 2) _ 112 HG2.out us ⟨k, 0, none⟩ ?d1 ?d2 ?d3 HS2.out ?d4 HU.out ?_)
    case d1 => first | rfl | (simp; done) | (simp; omega)
    case d2 => first | rfl | (simp; done) | (simp; omega)
    case d3 => rw [hus, show Nat.min 1 (n + 1 - i) = 1 by simp only [Nat.min_def]; split <;> omega]
    case d4 => rw [hl2, hus]; omega
    intro w3 HG3 HW3
    go_wp2
    go_ret
    exact ⟨rfl, HG3, Lib.hid (HW2.out.trans HW3.out)⟩

set_option maxRecDepth 100000 in
set_option maxHeartbeats 4000000 in
theorem insField_grow (g n cap i : Nat) (xs us : List Value) (k B : Nat) (w : World) (ho : w.ownsRow B 112 2 (.slice (some ⟨g, 0, none⟩) n cap) n xs) (hi : i < n) (hnc : n ≤ cap) (hgr : cap < n + 1) (hn : n ≤ 1100000) (hx1 : ∀ u ∈ xs, u.oneCell' = true) (hus : us.length = 2) (hu1 : ∀ u ∈ us, u.oneCell' = true) (hk : ∀ j u, us[j]? = some u → w.cell? ⟨k, j, none⟩ = some u) :
    Calls Tryz.prog 137 #[.slice (some ⟨g, 0, none⟩) n cap, .int .i64 (i : Int), .slice (some ⟨k, 0, none⟩) 1 1] w fun e w' => ∃ c row, e = .returned (.slice (some ⟨w.heap.size, 0, none⟩) (n + 1) c) ∧ Hid (row.length = c * 2 ∧ n + 1 ≤ c ∧ c ≤ maxLen ∧ row.take (i * 2) = xs.take (i * 2) ∧ w'.heap[w.heap.size]? = some (.cells (splice (splice row (i * 2) us) ((i + 1) * 2) (xs.drop (i * 2))).toArray 112 (0, 0))) ∧ Hid (Below w.heap.size w w') := by
  obtain ⟨i0, hi0, hz0, hz1, hz2⟩ := info_parts infoField
  have hxl : xs.length = n * 2 := ho.1
  have hkw : k < w.heap.size := block_lt_of_cell (hk 0 _ (List.getElem?_eq_getElem (by omega)))
  have hgw : g < w.heap.size := (World.ownsRow.lt ho g (by simp [Value.ownBlock])).2
  have hdl : (xs.drop (i * 2)).length = (n - i) * 2 := by rw [List.length_drop, hxl]; omega
  have hsz : (Tryz.prog.info? 112).map (·.size) = some 2 := by kernel_rfl
  have HO : Hid (∀ j u, (xs.take (i * 2))[j]? = some u → w.cell? ⟨g, j, none⟩ = some u) := Lib.hid fun j u hj => by
    rw [List.getElem?_take] at hj
    split at hj
    · rw [World.ownsRow.cellAt ho j (by have := (List.getElem?_eq_some_iff.1 hj).1; omega)]; exact hj
    · cases hj
  have HS : Hid (∀ j v, (xs.drop (i * 2))[j]? = some v → w.cell? ((⟨g, i * 2, none⟩ : Addr).add j) = some v) := Lib.hid fun j v hj => by
    rw [List.getElem?_drop] at hj
    rw [Addr.add_lit, World.ownsRow.cellAt ho _ (by have := (List.getElem?_eq_some_iff.1 hj).1; omega)]; exact hj
  have HX : Hid (∀ v ∈ xs.drop (i * 2), v.oneCell' = true) := Lib.hid fun v hv => hx1 v (List.mem_of_mem_drop hv)
  have HU := Lib.hid hu1
  have HK := Lib.hid hk
  have htl : (xs.take (i * 2)).length = i * 2 := by rw [List.length_take, hxl]; omega
  have hz3 : ((i : Int) == (n : Int)) = false := beq_eq_false_iff_ne.2 (by omega)
  have hw1 : IntKind.i64.wrap ((i : Int) + 1) = (i : Int) + 1 := Go.IntWalk.i64_in _ (by omega)
  have hw2 : IntKind.i64.wrap ((n : Int) + 1) = (n : Int) + 1 := Go.IntWalk.i64_in _ (by omega)
  have hb3 : (i : Int) ≤ (n : Int) := by omega
  have hb1 : (0 : Int) ≤ (i : Int) + 1 := by omega
  have hb8 : (i : Int) ≤ (n : Int) + 1 := by omega
  have hb9 : (0 : Int) ≤ (i : Int) := by omega
  have hb4 : ¬ (cap = i) := by omega
  clear ho hx1 hu1 hk
  go_enter Tryz.func137, Tryz.ntmps137
  go_wp2_with (at_builtin; refine wpList_append_zeros rfl _ _ 67 3 rfl 112 i0 _ 2 _ .i64 .i64 Tryz.underlying67 Tryz.underlying3 hi0 hz0 hz1 hz2 rfl (by decide) _ _ rfl rfl g i cap (n + 1 - i) (n + 1) ?e0 ?e1 ?e2 (xs.take (i * 2)) htl HO.out ?e3 ?e4 ?e5 (by decide) ?_)
  case e0 => omega
  case e1 => first | rfl | (simp; done) | (simp; omega)
  case e2 => omega
  case e3 => omega
  case e4 => omega
  case e5 => omega
  intro c row w1 HR1 HC1 HB1
  have hnc1 := HC1.out.2.1
  have hcm1 := HC1.out.2.2.1
  unfold maxLen at hcm1
  have hrl : row.toList.length = c * 2 := by rw [Array.length_toList]; exact HC1.out.1
  have hs1 := HB1.out.2
  have HU1 : Hid (∀ j v, us[j]? = some v → w1.cell? ((⟨k, 0, none⟩ : Addr).add j) = some v) := Lib.hid fun j v hj => by rw [Addr.add_lit, Nat.zero_add]; exact (HB1.out.1.cell (p := ⟨k, j, none⟩) hkw).trans (HK.out j v hj)
  have hb6 : ¬ (c = i) := by omega
  have hb7 : ¬ (c = i + 1) := by omega
  go_wp2_with (refine wpList_copy_rows (by rfl) _ _ 67 67 rfl 112 2 Tryz.underlying67 hsz _ _ _ _ _ _ rfl rfl w.heap.size (i * 2) row.toList 112 HR1.out us ⟨k, 0, none⟩ ?d1 ?d2 ?d3 HU1.out ?d4 HU.out ?_)
  case d1 => first | rfl | (simp; done) | (simp; omega)
  case d2 => first | rfl | (simp; done) | (simp; omega)
  case d3 => rw [hus, show Nat.min 1 (n + 1 - i) = 1 by simp only [Nat.min_def]; split <;> omega]
  case d4 => rw [hrl, hus]; omega
  intro w2 HR2 HW2
  have hl2 : (splice row.toList (i * 2) us).length = c * 2 := by rw [length_splice _ _ _ (by rw [hrl, hus]; omega), hrl]
  have HB2 : Hid (Below w.heap.size w w2) := Lib.hid (HB1.out.1.trans (grow_below (v := .slice (some ⟨w.heap.size, 0, none⟩) 0 0) (by simpa [Value.ownBlock] using HW2.out) (by simp [Value.ownBlock]) (by omega)))
  have HS2 : Hid (∀ j v, (xs.drop (i * 2))[j]? = some v → w2.cell? ((⟨g, i * 2, none⟩ : Addr).add j) = some v) := Lib.hid fun j v hj => by
    have h := HS.out j v hj
    rw [Addr.add_lit] at h ⊢
    exact (HB2.out.cell (p := ⟨g, i * 2 + j, none⟩) hgw).trans h
  have hs2 := HW2.out.size
  go_wp2
  go_region_law (refine step_copy_rows (by rfl) _ _ 67 67 (by rfl) 112 2 Tryz.underlying67 hsz (some ⟨w.heap.size, (i + 1) * 2, none⟩) (some ⟨g, i * 2, none⟩) (n - i) (c - (i + 1)) (n - i) (cap - i) (by simp [Act.eval, Act.put]) (by simp [Act.eval, Act.put]) w.heap.size ((i + 1) * 2) (splice row.toList (i * 2) us) 112 (by exact HR2.out) (xs.drop (i * 2)) ⟨g, i * 2, none⟩ rfl rfl (by rw [hdl]; congr 1; simp only [Nat.min_def]; split <;> omega) (by exact HS2.out) (by rw [hdl, hl2]; omega) HX.out ?_; intro w3 HR3 HW3)
  all_goals
    go_wp2
    go_ret
    exact ⟨c, row.toList, rfl, Lib.hid ⟨hrl, hnc1, HC1.out.2.2.1, HC1.out.2.2.2, HR3.out⟩, Lib.hid (HB2.out.trans (grow_below (v := .slice (some ⟨w.heap.size, 0, none⟩) 0 0) (by simpa [Value.ownBlock] using grown_drew HW3.out) (by simp [Value.ownBlock]) (by omega)))⟩

theorem insCellsField (v : Value) (n : Nat) (xs us : List Value) (k i B : Nat) (tk : TypeId) (w : World) (ho : w.ownsRow B 112 2 v n xs) (hn : n ≤ 1100000) (hi : i ≤ n) (hx1 : ∀ u ∈ xs, u.oneCell' = true) (hus : us.length = 2) (hu1 : ∀ u ∈ us, u.oneCell' = true) (hk : w.heap[k]? = some (.cells us.toArray tk (0, 0))) (hkv : k ∉ v.ownBlock.toList) (hB : B ≤ w.heap.size) :
    Calls Tryz.prog 137 #[v, .int .i64 (i : Int), .slice (some ⟨k, 0, none⟩) 1 1] w fun e w' => ∃ ao cap, e = .returned (.slice ao (n + 1) cap) ∧ w'.ownsRow B 112 2 (.slice ao (n + 1) cap) (n + 1) (xs.take (i * 2) ++ us ++ xs.drop (i * 2)) ∧ w.grownBy w' v.ownBlock ∧ ∀ b ∈ (Value.slice ao (n + 1) cap).ownBlock.toList, b ∈ v.ownBlock.toList ∨ w.heap.size ≤ b := by
  have hkc : ∀ j u, us[j]? = some u → w.cell? ⟨k, j, none⟩ = some u := fun j u hj => by rw [cell_of_row w k j us.toArray tk (0, 0) hk]; simpa using hj
  have hxl : xs.length = n * 2 := ho.1
  by_cases hin : i = n
  · subst hin
    have e1 : xs.take (i * 2) ++ us ++ xs.drop (i * 2) = xs ++ us := by rw [List.take_of_length_le (by omega), List.drop_of_length_le (by omega), List.append_nil]
    rw [e1]
    exact insField_end v i xs us k B w ho hn hus hu1 hkc hB
  have hlt : i < n := by omega
  rcases id ho.2 with ⟨rfl, rfl⟩ | ⟨g, cap, cur, rfl, hbg, hg, hnc, hcm, hcs, htake⟩
  · omega
  have hll : (xs.take (i * 2) ++ us ++ xs.drop (i * 2)).length = (n + 1) * 2 := by
    simp only [List.length_append, List.length_take, List.length_drop, hxl, hus]; omega
  by_cases hr : n + 1 ≤ cap
  · refine (insField_room g n cap i cur xs us k tk w hg hcs htake hlt hr (by unfold maxLen at hcm; omega) hx1 hus hu1 hk (fun e => hkv (by rw [e]; simp [Value.ownBlock]))).mono ?_
    rintro e w' ⟨rfl, hg', hw'⟩
    obtain ⟨q1, q2⟩ := insert_room (S := 2) (cap := cap) (cur := cur.toList) hlt hr (by rw [Array.length_toList, hcs]) htake hus
    exact ⟨some ⟨g, 0, none⟩, cap, rfl, ⟨hll, .inr ⟨g, cap, _, rfl, hbg, hg'.out, hr, hcm, by simpa using q1, by simpa using q2⟩⟩, hw'.out, fun b hb => .inl hb⟩
  · refine (insField_grow g n cap i xs us k B w ho hlt hnc (by omega) hn hx1 hus hu1 hkc).mono ?_
    rintro e w' ⟨c, row, rfl, hr1, hb'⟩
    obtain ⟨r1, r2, r3, r4, r5⟩ := hr1.out
    obtain ⟨q1, q2⟩ := insert_grow (S := 2) hlt r2 r1 hxl r4 hus
    exact ⟨some ⟨w.heap.size, 0, none⟩, c, rfl, ⟨hll, .inr ⟨w.heap.size, c, _, rfl, hB, r5, r2, r3, by simpa using q1, by simpa using q2⟩⟩, grown_of_below hb'.out, fun b hb => .inr (by simp [Value.ownBlock] at hb; omega)⟩

theorem insertGField (v : Value) (l : List DField) (u : DField) (us : List Value) (k i B m m2 : Nat) (tk : TypeId) (w : World) (h : Part (Rep.slice 112 DField.rep) B m w [v] l) (hu : Fresh DField.rep m2 w us u) (hB : B ≤ m) (hmm : m ≤ m2) (hm : m2 ≤ w.heap.size) (hn : l.length ≤ 1100000) (hi : i ≤ l.length) (hk : w.heap[k]? = some (.cells us.toArray tk (0, 0))) (hkv : k ∉ v.ownBlock.toList) :
    Calls Tryz.prog 137 #[v, .int .i64 (i : Int), .slice (some ⟨k, 0, none⟩) 1 1] w fun e w' => ∃ ao cap, e = .returned (.slice ao (l.length + 1) cap) ∧ Gap (Rep.slice 112 DField.rep) B m m2 w' [.slice ao (l.length + 1) cap] (insAt l i u) ∧ Chg v.ownBlock.toList w w' ∧ ∀ b ∈ (Value.slice ao (l.length + 1) cap).ownBlock.toList, b ∈ v.ownBlock.toList ∨ w.heap.size ≤ b := by
  obtain ⟨ts, hl, h1, h2, _, _⟩ := h.owned
  have hlt : l.length = ts.length := by rw [hl, vals_length]
  have hone : ∀ x ∈ cellsOf ts, x.oneCell' = true := fun x hx => by
    obtain ⟨t, ht, hx⟩ := List.mem_flatMap.1 hx
    exact DField.rep.one (h1 t ht) x hx
  have hu' := hu
  obtain ⟨fu, r1, _, _⟩ := hu'
  have hus : us.length = 2 := DField.rep.len r1
  rw [← hlt] at h2
  refine (insCellsField v l.length (cellsOf ts) us k i B tk w h2 hn hi hone hus (DField.rep.one r1) hk hkv (by omega)).mono ?_
  rintro e w' ⟨ao, cap, rfl, k1, k2, k3⟩
  refine ⟨ao, cap, rfl, Part.inserted (B' := B) h hu hB hmm hm k2 k3 (fun xs hxs _ => ?_) hi, Chg.of_grown k2, k3⟩
  rw [ownsRow_unique hxs h2]
  exact k1

theorem insertField (v : Value) (l : List DField) (u : DField) (us : List Value) (k i B m : Nat) (tk : TypeId) (w : World) (h : Part (Rep.slice 112 DField.rep) B m w [v] l) (hu : Fresh DField.rep m w us u) (hB : B ≤ m) (hm : m ≤ w.heap.size) (hn : l.length ≤ 1100000) (hi : i ≤ l.length) (hk : w.heap[k]? = some (.cells us.toArray tk (0, 0))) (hkv : k ∉ v.ownBlock.toList) :
    Calls Tryz.prog 137 #[v, .int .i64 (i : Int), .slice (some ⟨k, 0, none⟩) 1 1] w fun e w' => ∃ ao cap, e = .returned (.slice ao (l.length + 1) cap) ∧ Fresh (Rep.slice 112 DField.rep) B w' [.slice ao (l.length + 1) cap] (insAt l i u) ∧ Chg v.ownBlock.toList w w' ∧ ∀ b ∈ (Value.slice ao (l.length + 1) cap).ownBlock.toList, b ∈ v.ownBlock.toList ∨ w.heap.size ≤ b := by
  refine (insertGField v l u us k i B m m tk w h hu hB (Nat.le_refl _) hm hn hi hk hkv).mono ?_
  rintro e w' ⟨ao, cap, rfl, k1, k2, k3⟩
  exact ⟨ao, cap, rfl, k1.fresh, k2, k3⟩

end Go.Proofs.YtlfebehpmefioaaGreat

/-
  impl.SetField.
-/
namespace Go.Proofs.YtlfebehpmefioaaGreat
open Go.RowKit
attribute [local irreducible] isRecordF setFieldI

theorem findF_none {x : DRecord} {name : ByteArray} (n : Int) (h : idxF (namedAs name) x.fields = -1) : setFieldI x name n = insField x name n := by
  unfold idxF at h
  unfold setFieldI
  split at h
  · omega
  · rename_i hj; rw [hj]
theorem findF_some {x : DRecord} {name : ByteArray} (n : Int) {i : Nat} (hi : i < x.fields.length) (h : idxF (namedAs name) x.fields = (i : Int)) : setFieldI x name n = ⟨x.fields.set i ⟨x.fields[i].name, n⟩⟩ := by
  unfold idxF at h
  unfold setFieldI
  split at h
  · rename_i j hj
    obtain rfl : j = i := by omega
    rw [hj]
    simp only [putField, List.getElem?_eq_getElem hi]
  · omega

set_option maxRecDepth 100000 in
set_option maxHeartbeats 8000000 in
theorem implSetField (cs : List Value) (x : DRecord) (name : ByteArray) (n : Int) (w : World) (h : Reads DRecord.rep w cs x) (hs : x.fields.length ≤ 1048600) (hn : name.size ≤ maxLen) :
    Calls Tryz.prog 95 #[.agg cs.toArray, .string name, .int .i64 n] w fun e w' => ∃ ds, e = .returned (.tuple #[.agg ds.toArray, .bool (setFieldB x name n)]) ∧ Fresh DRecord.rep w.heap.size w' ds (setFieldF x name n) ∧ Below w.heap.size w w' := by
  have HH := Lib.hid h
  obtain ⟨fp_q, h⟩ := h
  obtain ⟨q_v1, q_f1, rfl, _, q_r1⟩ := DRecord.rd.1 h
  obtain ⟨q_a1, q_c1, rfl, q_hm1, q_lc1, q_hu1⟩ := slice_open q_r1; clear q_hu1
  have q_K1 : Hid (Reads (Rep.slice 112 DField.rep) w [.slice q_a1 x.fields.length q_c1] x.fields) := ⟨_, q_r1⟩
  clear q_r1 h
  obtain ⟨i0, hi0, hz0, hz1, hz2⟩ := info_parts infoField
  go_enter Tryz.func95, Tryz.ntmps95
  go_wp2_with fail
  refine (implCopyRecord _ x _ (HH.out.below bEl) hs).mono ?_
  rintro e w1 ⟨ds, rfl, hf, hb⟩
  obtain ⟨ao, cap, rfl, hfw⟩ := DRecord.fopen hf
  have HF : Hid (Fresh (Rep.slice 112 DField.rep) (w.heap.size + 2) w1 [.slice ao x.fields.length cap] x.fields) := Lib.hid (hfw.mono (by simp))
  have hb3 := hb.mono (B' := w.heap.size + 2) (by simp)
  have HX : Hid (WB w1 w.heap.size #[.slice q_a1 x.fields.length q_c1]) := Lib.hid (((WB.at rfl).growA).grow hb3 (by omega))
  have HR : Hid (WB w1 (w.heap.size + 1) #[.slice none 0 0]) := Lib.hid ((WB.at (by simp)).grow hb3 (by omega))
  have HB : Hid (Below w.heap.size w w1) := Lib.hid (Below.trans bEb (hb3.mono (by omega)))
  have hz : w.heap.size + 2 ≤ w1.heap.size := by have y := hb3.size; simp at y; omega
  clear hf hfw hb hb3
  have ⟨c_HX, z_HX, f_HX⟩ := HX.out
  go_wp2_with fail
  refine (implFieldAt _ x name _ (HH.out.below (by have y := HB.out; exact bEl))).mono ?_
  rintro e w2 ⟨rfl, hb⟩
  have hq : Below w1.heap.size w1 w2 := below_call bEl bSz hb
  have HO : Hid (WB w2 w1.heap.size #[.slice ao x.fields.length cap]) := Lib.hid ((WB.at rfl).keep hb)
  have hsz2 : w1.heap.size + 1 ≤ w2.heap.size := by have y := hb.size; simp at y; omega
  have hlt : Hid (∀ b, (Value.slice ao x.fields.length cap).ownBlock = some b → w.heap.size + 2 ≤ b ∧ b < w1.heap.size) := Lib.hid fun b hb => HF.out.ownlt b (by rw [hb]; simp)
  have hno : Hid (∀ b, b < w.heap.size + 2 ∨ w1.heap.size ≤ b → b ∉ (Value.slice ao x.fields.length cap).ownBlock.toList) := Lib.hid fun b hb hm => by
    have := hlt.out b (by simpa using hm); omega
  clear c_HX z_HX f_HX
  replace HX := Lib.hid (HX.out.keep hq)
  replace HR := Lib.hid (HR.out.keep hq)
  replace HF := Lib.hid (HF.out.below hq)
  replace HB := Lib.hid (HB.out.trans (hq.mono HB.out.size))
  clear hb hq
  have ⟨c_HX, z_HX, f_HX⟩ := HX.out
  have ⟨c_HR, z_HR, f_HR⟩ := HR.out
  have ⟨c_HO, z_HO, f_HO⟩ := HO.out
  rcases idxF_cases (namedAs name) x.fields with ⟨he, hall⟩ | ⟨i, hi, he, hp, hall⟩
  · have HE := Lib.hid (findF_none n he)
    rw [he]
    clear he hall
    go_wp2
    go_loop [10] (fun i => ∃ k : Nat, k ≤ x.fields.length ∧ i = .int .i64 k ∧ Hid (∀ j, (hj : j < x.fields.length) → j < k → fieldLess name x.fields[j] = true)) (fun i => x.fields.length - (intOf i).toNat)
    case atStart => exact ⟨0, by omega, rfl, Lib.hid (by intro j hj h; omega)⟩
    case round =>
      obtain ⟨k, hk, rfl, HA⟩ := hrel
      have hstop : (Hid (∀ hk : k < x.fields.length, fieldLess name x.fields[k] = false)) ∨ ∃ hk : k < x.fields.length, fieldLess name x.fields[k] = true := by
        by_cases h1 : k < x.fields.length
        · cases h2 : fieldLess name x.fields[k]
          · exact .inl (Lib.hid fun _ => h2)
          · exact .inr ⟨h1, h2⟩
        · exact .inl (Lib.hid fun h => absurd h h1)
      rcases hstop with HS | ⟨hlt', hle⟩
      · have HL := Lib.hid (lead_eq hk HA.out HS.out)
        have HE2 : Hid (setFieldI x name n = ⟨insAt x.fields k ⟨name, n⟩⟩) := Lib.hid (by rw [HE.out, insField, HL.out])
        have j1 : (0 : Int) ≤ (k : Int) := by omega
        by_cases hkl : k < x.fields.length
        case' pos =>
          have hns := HS.out hkl
          obtain ⟨b, off, cs_b, rfl, hw_b, hr_b, hcell_b⟩ := slice_at HF.out.reads k hkl
          obtain ⟨fe_b, hrd_b⟩ := hr_b
          have HR_b : Hid (Reads DField.rep w2 cs_b x.fields[k]) := ⟨_, hrd_b⟩
          obtain ⟨rfl, _, b_s0⟩ := DField.rd.1 hrd_b
          clear hrd_b
          have b_c0 : w2.cell? ⟨b, off + k * 2, none⟩ = some (.string x.fields[k].name) := hcell_b 0 (by decide)
          have b_c1 : w2.cell? ⟨b, off + k * 2 + 1, none⟩ = some (.int .i64 x.fields[k].n) := hcell_b 1 (by decide)
          clear hcell_b
          have i2 : (k : Int) < (x.fields.length : Int) := by omega
          have n5 : Op.bytesLess x.fields[k].name.toList name.toList = false := hns
        all_goals
          go_wp2_with fail
          refine (insertField _ x.fields ⟨name, n⟩ [.string name, .int .i64 n] _ k (w.heap.size + 2) w2.heap.size _ _ ((HF.out.partAt (Nat.le_refl _)).below bEl) ⟨[], DField.rd.2 ⟨rfl, rfl, hn⟩, by simp, by simp⟩ (by omega) bSz (by omega) hk (heap_alloc_new w2 _) (hno.out _ (.inr (by omega)))).mono ?_
          rintro e w4 ⟨ao4, cap4, rfl, hf4, hc4, hv4⟩
          have HF4 := Lib.hid hf4
          have hap : Hid (w1.heap.size ∉ (Value.slice ao4 (x.fields.length + 1) cap4).ownBlock.toList) := Lib.hid fun hm => by
            rcases hv4 _ hm with hq | hq
            · exact hno.out _ (.inr (by omega)) hq
            · simp at hq; omega
          have HX4 := Lib.hid (HX.out.growA.chg hc4 (hno.out _ (.inl (by omega))))
          have HR4 := Lib.hid (HR.out.growA.chg hc4 (hno.out _ (.inl (by omega))))
          have HO4 := Lib.hid (HO.out.growA.chg hc4 (hno.out _ (.inr (by omega))))
          have HB4 : Hid (Below w.heap.size w w4) := Lib.hid (by have y := HB.out; exact Below.trans bEl (hc4.below (fun b hm => by have := hlt.out b (by simpa using hm); omega) (by simp; omega)))
          clear hf4 hc4 hv4
          clear c_HX z_HX f_HX c_HR z_HR f_HR c_HO z_HO f_HO
          have ⟨c_HO4, z_HO4, f_HO4⟩ := HO4.out
          have ⟨c_HX4, z_HX4, f_HX4⟩ := HX4.out
          go_wp2_with fail
          refine settleC (fun W => ∃ v5, WB W w.heap.size #[.slice q_a1 x.fields.length q_c1] ∧ WB W (w.heap.size + 1) #[.slice none 0 0] ∧ WB W w1.heap.size #[v5] ∧ Fresh (Rep.slice 112 DField.rep) (w.heap.size + 2) W [v5] (setFieldI x name n).fields ∧ Below w.heap.size w W) ?hE ?_
          case hE => exact ⟨_, HX4.out.setOther (by omega), HR4.out.setOther (by omega), HO4.out.setAt (by simp) rfl, by rw [HE2.out]; exact DField.flat.setApart HF4.out hap.out, by have y := HB4.out; exact bEb⟩
          clear c_HO4 z_HO4 f_HO4 c_HX4 z_HX4 f_HX4 HX4 HR4 HO4 HF4 HB4 hap HX HR HO HF HB HE HE2 HL
          rintro w3 ⟨v5, hx, hr, ho, hf, hb⟩
          obtain ⟨ao5, cap5, rfl⟩ := hf.slice
          have HX3 := Lib.hid hx
          have HR3 := Lib.hid hr
          have HO3 := Lib.hid ho
          have HF3 := Lib.hid hf
          have HB3 := Lib.hid hb
          clear hx hr ho hf hb
          have ⟨c_HX3, z_HX3, f_HX3⟩ := HX3.out
          refine (implIsRecord _ x _ (HH.out.below HB3.out)).mono ?_
          rintro e w4 ⟨rfl, hb4⟩
          have hbx : Below w.heap.size w w4 := HB3.out.trans (hb4.mono HB3.out.size)
          have HXy := Lib.hid (HX3.out.keep hb4)
          have HRy := Lib.hid (HR3.out.keep hb4)
          have HOy := Lib.hid (HO3.out.keep hb4)
          have HFy := Lib.hid (HF3.out.below hb4)
          clear hb4 c_HX3 z_HX3 f_HX3
          have ⟨c_HXy, z_HXy, f_HXy⟩ := HXy.out
          have ⟨c_HRy, z_HRy, f_HRy⟩ := HRy.out
          have ⟨c_HOy, z_HOy, f_HOy⟩ := HOy.out
          cases a1 : isRecordF x
          · have hB : Hid (setFieldB x name n = false) := Lib.hid (by rw [setFieldB, a1]; rfl)
            go_wp2_with fail
            refine (implCopyRecord _ x _ (HH.out.below hbx) (by omega)).mono ?_
            rintro e w6 ⟨ds, rfl, hf6, hb6⟩
            obtain ⟨ao6, cap6, rfl, hfw6⟩ := DRecord.fopen hf6
            have HF6 := Lib.hid hfw6
            have HB6 := Lib.hid (hbx.trans (hb6.mono hbx.size))
            have ⟨cr6, zr6, fr6⟩ := HRy.out.keep hb6
            have hz6 := hbx.size
            clear hf6 hfw6 hb6
            go_wp2
            refine bodyPost_ret (v := .tuple #[.agg #[.slice ao6 x.fields.length cap6], .bool false]) (by simp [results, Tryz.results95, go_sem, cr6]) rfl ⟨_, by rw [hB.out], ?_, ?_⟩
            · have e : setFieldF x name n = x := by rw [setFieldF, hB.out]; rfl
              rw [e]
              exact DRecord.fmk (Fresh.mono (B := w4.heap.size) (by repeat (first | exact HF6.out | refine Fresh.setLow ?_ (by omega) | refine Fresh.drew ?_)) (by omega))
            · have y := HB6.out
              exact bEb
          · skip
            go_wp2_with fail
            refine (implIsRecord _ (setFieldI x name n) _ (DRecord.fmk (x := setFieldI x name n) HFy.out).reads).mono ?_
            rintro e w5 ⟨rfl, hb5⟩
            have hbx : Below w.heap.size w w5 := hbx.trans (hb5.mono hbx.size)
            clear c_HXy z_HXy f_HXy c_HRy z_HRy f_HRy c_HOy z_HOy f_HOy
            have HXz := Lib.hid (HXy.out.keep hb5)
            have HRz := Lib.hid (HRy.out.keep hb5)
            have HOz := Lib.hid (HOy.out.keep hb5)
            have HFz := Lib.hid (HFy.out.below hb5)
            clear hb5 HXy HRy HOy HFy
            have ⟨c_HXz, z_HXz, f_HXz⟩ := HXz.out
            have ⟨c_HRz, z_HRz, f_HRz⟩ := HRz.out
            have ⟨c_HOz, z_HOz, f_HOz⟩ := HOz.out
            cases a2 : isRecordF (setFieldI x name n)
            · have hB : Hid (setFieldB x name n = false) := Lib.hid (by rw [setFieldB, a2, Bool.and_false])
              go_wp2_with fail
              refine (implCopyRecord _ x _ (HH.out.below hbx) (by omega)).mono ?_
              rintro e w6 ⟨ds, rfl, hf6, hb6⟩
              obtain ⟨ao6, cap6, rfl, hfw6⟩ := DRecord.fopen hf6
              have HF6 := Lib.hid hfw6
              have HB6 := Lib.hid (hbx.trans (hb6.mono hbx.size))
              have ⟨cr6, zr6, fr6⟩ := HRz.out.keep hb6
              have hz6 := hbx.size
              clear hf6 hfw6 hb6
              go_wp2
              refine bodyPost_ret (v := .tuple #[.agg #[.slice ao6 x.fields.length cap6], .bool false]) (by simp [results, Tryz.results95, go_sem, cr6]) rfl ⟨_, by rw [hB.out], ?_, ?_⟩
              · have e : setFieldF x name n = x := by rw [setFieldF, hB.out]; rfl
                rw [e]
                exact DRecord.fmk (Fresh.mono (B := w5.heap.size) (by repeat (first | exact HF6.out | refine Fresh.setLow ?_ (by omega) | refine Fresh.drew ?_)) (by omega))
              · have y := HB6.out
                exact bEb
            · have hB : Hid (setFieldB x name n = true) := Lib.hid (by rw [setFieldB, a1, a2]; rfl)
              go_wp2
              refine bodyPost_ret (v := .tuple #[.agg #[.slice ao5 (setFieldI x name n).fields.length cap5], .bool true]) (by simp [results, Tryz.results95, go_sem, c_HRz]) rfl ⟨_, by rw [hB.out], ?_, ?_⟩
              · have e : setFieldF x name n = setFieldI x name n := by rw [setFieldF, hB.out]; rfl
                rw [e]
                exact DRecord.fmk (x := setFieldI x name n) (Fresh.mono (B := (w.heap.size + 2)) (by repeat (first | exact HFz.out | refine Fresh.setLow ?_ (by omega) | refine Fresh.drew ?_)) (by omega))
              · exact bEb
      · obtain ⟨b, off, cs_b, rfl, hw_b, hr_b, hcell_b⟩ := slice_at HF.out.reads k hlt'
        obtain ⟨fe_b, hrd_b⟩ := hr_b
        have HR_b : Hid (Reads DField.rep w2 cs_b x.fields[k]) := ⟨_, hrd_b⟩
        obtain ⟨rfl, _, b_s0⟩ := DField.rd.1 hrd_b
        clear hrd_b
        have b_c0 : w2.cell? ⟨b, off + k * 2, none⟩ = some (.string x.fields[k].name) := hcell_b 0 (by decide)
        have b_c1 : w2.cell? ⟨b, off + k * 2 + 1, none⟩ = some (.int .i64 x.fields[k].n) := hcell_b 1 (by decide)
        clear hcell_b
        have i1 : (0 : Int) ≤ (k : Int) := by omega
        have i2 : (k : Int) < (x.fields.length : Int) := by omega
        have n5 : Op.bytesLess x.fields[k].name.toList name.toList = true := hle
        go_wp2
        go_light
        exact ⟨⟨k + 1, by omega, by go_num, Lib.hid (by
          intro j hj hjk
          by_cases e : j = k
          · subst e; exact hle
          · exact HA.out j hj (by omega))⟩, by simp [intOf]; omega⟩
  · have HE2 := Lib.hid (findF_some n hi he)
    rw [he]
    clear he hall hp
    obtain ⟨g0, vc, hv, hc1, _, hg1, hg2, hci, hfz⟩ := DField.flat.at HF.out i hi
    simp only [Value.slice.injEq] at hv
    obtain ⟨rfl, hq0, rfl⟩ := hv
    clear hq0 hc1
    have e1 : w2.cell? ⟨g0, i * 2 + 1, none⟩ = some (.int .i64 x.fields[i].n) := hci 1 (by decide)
    clear hci
    have hgl := hlt.out g0 (by simp [Value.ownBlock])
    have i1 : (0 : Int) ≤ (i : Int) := by omega
    have i2 : (i : Int) < (x.fields.length : Int) := by omega
    go_wp2_with fail
    refine settleC (fun W => ∃ v5, WB W w.heap.size #[.slice q_a1 x.fields.length q_c1] ∧ WB W (w.heap.size + 1) #[.slice none 0 0] ∧ WB W w1.heap.size #[v5] ∧ Fresh (Rep.slice 112 DField.rep) (w.heap.size + 2) W [v5] (setFieldI x name n).fields ∧ Below w.heap.size w W) ?hE ?_
    case hE => exact ⟨_, HX.out.setOther (by omega), HR.out.setOther (by omega), HO.out.setOther (by omega), by rw [HE2.out]; exact DField.flat.setAt HF.out i hi 1 [.int .i64 n] ⟨x.fields[i].name, n⟩ (by simp [DField.enc]) (Nat.le_refl 2) (show x.fields[i].name.size ≤ maxLen from DField.flat.ok_of HF.out x.fields[i] (List.getElem_mem hi)), by have y := HB.out; exact bEb⟩
    clear c_HX z_HX f_HX c_HR z_HR f_HR c_HO z_HO f_HO
    clear hfz e1 HX HR HO HF HB HE2 hlt hno
    rintro w3 ⟨v5, hx, hr, ho, hf, hb⟩
    obtain ⟨ao5, cap5, rfl⟩ := hf.slice
    have HX3 := Lib.hid hx
    have HR3 := Lib.hid hr
    have HO3 := Lib.hid ho
    have HF3 := Lib.hid hf
    have HB3 := Lib.hid hb
    clear hx hr ho hf hb
    have ⟨c_HX3, z_HX3, f_HX3⟩ := HX3.out
    refine (implIsRecord _ x _ (HH.out.below HB3.out)).mono ?_
    rintro e w4 ⟨rfl, hb4⟩
    have hbx : Below w.heap.size w w4 := HB3.out.trans (hb4.mono HB3.out.size)
    have HXy := Lib.hid (HX3.out.keep hb4)
    have HRy := Lib.hid (HR3.out.keep hb4)
    have HOy := Lib.hid (HO3.out.keep hb4)
    have HFy := Lib.hid (HF3.out.below hb4)
    clear hb4 c_HX3 z_HX3 f_HX3
    have ⟨c_HXy, z_HXy, f_HXy⟩ := HXy.out
    have ⟨c_HRy, z_HRy, f_HRy⟩ := HRy.out
    have ⟨c_HOy, z_HOy, f_HOy⟩ := HOy.out
    cases a1 : isRecordF x
    · have hB : Hid (setFieldB x name n = false) := Lib.hid (by rw [setFieldB, a1]; rfl)
      go_wp2_with fail
      refine (implCopyRecord _ x _ (HH.out.below hbx) (by omega)).mono ?_
      rintro e w6 ⟨ds, rfl, hf6, hb6⟩
      obtain ⟨ao6, cap6, rfl, hfw6⟩ := DRecord.fopen hf6
      have HF6 := Lib.hid hfw6
      have HB6 := Lib.hid (hbx.trans (hb6.mono hbx.size))
      have ⟨cr6, zr6, fr6⟩ := HRy.out.keep hb6
      have hz6 := hbx.size
      clear hf6 hfw6 hb6
      go_wp2
      refine bodyPost_ret (v := .tuple #[.agg #[.slice ao6 x.fields.length cap6], .bool false]) (by simp [results, Tryz.results95, go_sem, cr6]) rfl ⟨_, by rw [hB.out], ?_, ?_⟩
      · have e : setFieldF x name n = x := by rw [setFieldF, hB.out]; rfl
        rw [e]
        exact DRecord.fmk (Fresh.mono (B := w4.heap.size) (by repeat (first | exact HF6.out | refine Fresh.setLow ?_ (by omega) | refine Fresh.drew ?_)) (by omega))
      · have y := HB6.out
        exact bEb
    · skip
      go_wp2_with fail
      refine (implIsRecord _ (setFieldI x name n) _ (DRecord.fmk (x := setFieldI x name n) HFy.out).reads).mono ?_
      rintro e w5 ⟨rfl, hb5⟩
      have hbx : Below w.heap.size w w5 := hbx.trans (hb5.mono hbx.size)
      clear c_HXy z_HXy f_HXy c_HRy z_HRy f_HRy c_HOy z_HOy f_HOy
      have HXz := Lib.hid (HXy.out.keep hb5)
      have HRz := Lib.hid (HRy.out.keep hb5)
      have HOz := Lib.hid (HOy.out.keep hb5)
      have HFz := Lib.hid (HFy.out.below hb5)
      clear hb5 HXy HRy HOy HFy
      have ⟨c_HXz, z_HXz, f_HXz⟩ := HXz.out
      have ⟨c_HRz, z_HRz, f_HRz⟩ := HRz.out
      have ⟨c_HOz, z_HOz, f_HOz⟩ := HOz.out
      cases a2 : isRecordF (setFieldI x name n)
      · have hB : Hid (setFieldB x name n = false) := Lib.hid (by rw [setFieldB, a2, Bool.and_false])
        go_wp2_with fail
        refine (implCopyRecord _ x _ (HH.out.below hbx) (by omega)).mono ?_
        rintro e w6 ⟨ds, rfl, hf6, hb6⟩
        obtain ⟨ao6, cap6, rfl, hfw6⟩ := DRecord.fopen hf6
        have HF6 := Lib.hid hfw6
        have HB6 := Lib.hid (hbx.trans (hb6.mono hbx.size))
        have ⟨cr6, zr6, fr6⟩ := HRz.out.keep hb6
        have hz6 := hbx.size
        clear hf6 hfw6 hb6
        go_wp2
        refine bodyPost_ret (v := .tuple #[.agg #[.slice ao6 x.fields.length cap6], .bool false]) (by simp [results, Tryz.results95, go_sem, cr6]) rfl ⟨_, by rw [hB.out], ?_, ?_⟩
        · have e : setFieldF x name n = x := by rw [setFieldF, hB.out]; rfl
          rw [e]
          exact DRecord.fmk (Fresh.mono (B := w5.heap.size) (by repeat (first | exact HF6.out | refine Fresh.setLow ?_ (by omega) | refine Fresh.drew ?_)) (by omega))
        · have y := HB6.out
          exact bEb
      · have hB : Hid (setFieldB x name n = true) := Lib.hid (by rw [setFieldB, a1, a2]; rfl)
        go_wp2
        refine bodyPost_ret (v := .tuple #[.agg #[.slice ao5 (setFieldI x name n).fields.length cap5], .bool true]) (by simp [results, Tryz.results95, go_sem, c_HRz]) rfl ⟨_, by rw [hB.out], ?_, ?_⟩
        · have e : setFieldF x name n = setFieldI x name n := by rw [setFieldF, hB.out]; rfl
          rw [e]
          exact DRecord.fmk (x := setFieldI x name n) (Fresh.mono (B := (w.heap.size + 2)) (by repeat (first | exact HFz.out | refine Fresh.setLow ?_ (by omega) | refine Fresh.drew ?_)) (by omega))
        · exact bEb

end Go.Proofs.YtlfebehpmefioaaGreat

/-
  spec.SetField.
-/
namespace Go.Proofs.YtlfebehpmefioaaGreat
open Go.RowKit
theorem setFieldS_new {x : DRecord} {name : ByteArray} (n : Int) {k : Nat} (hk : lead (fieldLess name) x.fields = k) (h : ∀ h : k < x.fields.length, (x.fields[k].name.toList == name.toList) = false) : setFieldS x name n = ⟨insAt x.fields k ⟨name, n⟩⟩ := by
  unfold setFieldS insField
  rw [hk]
  by_cases hlt : k < x.fields.length
  · rw [List.getElem?_eq_getElem hlt]
    have h1 : namedAs name x.fields[k] = false := h hlt
    simp only [h1, Bool.false_eq_true, if_false]
  · rw [List.getElem?_eq_none (by omega)]
theorem setFieldS_old {x : DRecord} {name : ByteArray} (n : Int) {k : Nat} (hlt : k < x.fields.length) (hk : lead (fieldLess name) x.fields = k) (h : (x.fields[k].name.toList == name.toList) = true) : setFieldS x name n = ⟨x.fields.set k ⟨x.fields[k].name, n⟩⟩ := by
  unfold setFieldS putField
  rw [hk, List.getElem?_eq_getElem hlt]
  have h1 : namedAs name x.fields[k] = true := h
  simp only [h1, if_true]
attribute [local irreducible] isRecordF setFieldI setFieldS

set_option maxRecDepth 100000 in
set_option maxHeartbeats 8000000 in
theorem specSetField (cs : List Value) (x : DRecord) (name : ByteArray) (n : Int) (w : World) (h : Reads DRecord.rep w cs x) (hs : x.fields.length ≤ 1048600) (hn : name.size ≤ maxLen) :
    Calls Tryz.prog 102 #[.agg cs.toArray, .string name, .int .i64 n] w fun e w' => ∃ ds, e = .returned (.tuple #[.agg ds.toArray, .bool (setFieldB x name n)]) ∧ Fresh DRecord.rep w.heap.size w' ds (setFieldF x name n) ∧ Below w.heap.size w w' := by
  have HH := Lib.hid h
  obtain ⟨fp_q, h⟩ := h
  obtain ⟨q_v1, q_f1, rfl, _, q_r1⟩ := DRecord.rd.1 h
  obtain ⟨q_a1, q_c1, rfl, q_hm1, q_lc1, q_hu1⟩ := slice_open q_r1; clear q_hu1
  have q_K1 : Hid (Reads (Rep.slice 112 DField.rep) w [.slice q_a1 x.fields.length q_c1] x.fields) := ⟨_, q_r1⟩
  clear q_r1 h
  obtain ⟨i0, hi0, hz0, hz1, hz2⟩ := info_parts infoField
  go_enter Tryz.func102, Tryz.ntmps102
  go_wp2_with fail
  refine (specCopyRecord _ x _ (HH.out.below bEl) hs).mono ?_
  rintro e w1 ⟨ds, rfl, hf, hb⟩
  obtain ⟨ao, cap, rfl, hfw⟩ := DRecord.fopen hf
  have HF : Hid (Fresh (Rep.slice 112 DField.rep) (w.heap.size + 2) w1 [.slice ao x.fields.length cap] x.fields) := Lib.hid (hfw.mono (by simp))
  have hb3 := hb.mono (B' := w.heap.size + 2) (by simp)
  have HX : Hid (WB w1 w.heap.size #[.slice q_a1 x.fields.length q_c1]) := Lib.hid (((WB.at rfl).growA).grow hb3 (by omega))
  have HR : Hid (WB w1 (w.heap.size + 1) #[.slice none 0 0]) := Lib.hid ((WB.at (by simp)).grow hb3 (by omega))
  have HB : Hid (Below w.heap.size w w1) := Lib.hid (Below.trans bEb (hb3.mono (by omega)))
  have hz : w.heap.size + 2 ≤ w1.heap.size := by have y := hb3.size; simp at y; omega
  clear hf hfw hb hb3
  have ⟨c_HX, z_HX, f_HX⟩ := HX.out
  go_upto_region 2 with fail
  refine settle (fun W => WB W w.heap.size #[.slice q_a1 x.fields.length q_c1] ∧ WB W (w.heap.size + 1) #[.slice none 0 0] ∧ WB W w1.heap.size #[.slice ao x.fields.length cap] ∧ Fresh (Rep.slice 112 DField.rep) (w.heap.size + 2) W [.slice ao x.fields.length cap] x.fields ∧ Below w.heap.size w W ∧ w1.heap.size + 1 ≤ W.heap.size) ⟨HX.out.growA, HR.out.growA, WB.at rfl, HF.out.below bEl, by have y := HB.out; exact bEl, by simp⟩ ?_
  have hlt : Hid (∀ b, (Value.slice ao x.fields.length cap).ownBlock = some b → w.heap.size + 2 ≤ b ∧ b < w1.heap.size) := Lib.hid fun b hb => HF.out.ownlt b (by rw [hb]; simp)
  clear c_HX z_HX f_HX
  clear HX HR HF HB
  rintro w2 ⟨hx, hr, ho, hf, hb, hsz2⟩
  have HX := Lib.hid hx
  have HR := Lib.hid hr
  have HO := Lib.hid ho
  have HF := Lib.hid hf
  have HB := Lib.hid hb
  clear hx hr ho hf hb
  have ⟨c_HX, z_HX, f_HX⟩ := HX.out
  have ⟨c_HR, z_HR, f_HR⟩ := HR.out
  have ⟨c_HO, z_HO, f_HO⟩ := HO.out
  go_wp2
  go_loop [9] (fun i => ∃ k : Nat, k ≤ x.fields.length ∧ i = .int .i64 k ∧ Hid (∀ j, (hj : j < x.fields.length) → j < k → fieldLess name x.fields[j] = true)) (fun i => x.fields.length - (intOf i).toNat)
  case atStart => exact ⟨0, by omega, rfl, Lib.hid (by intro j hj h; omega)⟩
  case round =>
    obtain ⟨k, hk, rfl, HA⟩ := hrel
    have hstop : (Hid (∀ hk : k < x.fields.length, fieldLess name x.fields[k] = false)) ∨ ∃ hk : k < x.fields.length, fieldLess name x.fields[k] = true := by
      by_cases h1 : k < x.fields.length
      · cases h2 : fieldLess name x.fields[k]
        · exact .inl (Lib.hid fun _ => h2)
        · exact .inr ⟨h1, h2⟩
      · exact .inl (Lib.hid fun h => absurd h h1)
    rcases hstop with HS | ⟨hlt', hle⟩
    · have HL := Lib.hid (lead_eq hk HA.out HS.out)
      have j1 : (0 : Int) ≤ (k : Int) := by omega
      by_cases hkl : k < x.fields.length
      · have hns := HS.out hkl
        obtain ⟨b, off, cs_b, rfl, hw_b, hr_b, hcell_b⟩ := slice_at (q_K1.out.below HB.out) k hkl
        obtain ⟨fe_b, hrd_b⟩ := hr_b
        have HR_b : Hid (Reads DField.rep w2 cs_b x.fields[k]) := ⟨_, hrd_b⟩
        obtain ⟨rfl, _, b_s0⟩ := DField.rd.1 hrd_b
        clear hrd_b
        have b_c0 : w2.cell? ⟨b, off + k * 2, none⟩ = some (.string x.fields[k].name) := hcell_b 0 (by decide)
        have b_c1 : w2.cell? ⟨b, off + k * 2 + 1, none⟩ = some (.int .i64 x.fields[k].n) := hcell_b 1 (by decide)
        clear hcell_b
        have i2 : (k : Int) < (x.fields.length : Int) := by omega
        have n5 : Op.bytesLess x.fields[k].name.toList name.toList = false := hns
        cases n7 : (x.fields[k].name.toList == name.toList)
        · have HE2 : Hid (setFieldS x name n = ⟨insAt x.fields k ⟨name, n⟩⟩) := Lib.hid (setFieldS_new n HL.out (fun h => n7))
          have HPre := Lib.hid (q_K1.out.pre k hk)
          have HTl := Lib.hid (Reads.tail q_K1.out k hk)
          have hsl := fun W => run_tail (P := Tryz.prog) (t := 67) (n := 2) (by kernel_rfl) (fun _ => by kernel_rfl) (some ⟨b, off, none⟩) k x.fields.length q_c1 hk W
          have j2 : (k : Int) ≤ (x.fields.length : Int) := by omega
          have j3 : (k : Int) ≤ (q_c1 : Int) := by omega
          have j4 : k ≤ q_c1 := by omega
          go_upto_region 7 with fail
          go_cut [65] (fun _ W => ∃ v5, WB W w.heap.size #[.slice (some ⟨b, off, none⟩) x.fields.length q_c1] ∧ WB W (w.heap.size + 1) #[.slice none 0 0] ∧ WB W w1.heap.size #[v5] ∧ Fresh (Rep.slice 112 DField.rep) (w.heap.size + 2) W [v5] (setFieldS x name n).fields ∧ Below w.heap.size w W)
          case first =>
            have HSx : Hid (∀ w', Chg [w1.heap.size] w2 w' → (∀ o, w'.cell? ⟨w.heap.size, o, none⟩ = #[.slice (some ⟨b, off, none⟩) x.fields.length q_c1][o]?) ∧ Chg [w1.heap.size] w2 w') := Lib.hid fun w' hw' => ⟨(HX.out.chg hw' (by simp; omega)).cell, hw'⟩
            go_region_held3 (fun w' => (∀ o, w'.cell? ⟨w.heap.size, o, none⟩ = #[.slice (some ⟨b, off, none⟩) x.fields.length q_c1][o]?) ∧ Chg [w1.heap.size] w2 w')
              (first | (refine HSx.out _ ?_; (first | (with_reducible refine Chg.set (by simp) ?_; refine Chg.of_below (B := w2.heap.size) (by (repeat (first | with_reducible exact belR | with_reducible apply belA | with_reducible apply belN | with_reducible apply belD | with_reducible assumption)); done) (Nat.le_refl _)) | (refine Chg.of_below (B := w2.heap.size) (by (repeat (first | with_reducible exact belR | with_reducible apply belA | with_reducible apply belN | with_reducible apply belD | with_reducible assumption)); done) (Nat.le_refl _)) | fail)) | fail)
              (first
                | ((refine DField.flat.step_growC _ (by rfl) (.tmp 50) (.tmp 54) 67 67 (by rfl) w2.heap.size 112 i0 _ _ Tryz.underlying67 Tryz.underlying67 hi0 hz0 hz1 hz2 rfl _ [] (by rfl) ?ownA _ (x.fields.take k) (by rfl) ?rdA k ?lmA ?lnA (by decide) ?bsA ?_); (case ownA => (first | exact (Fresh.mono (Fresh.lit0 (w := w2) rfl) (Nat.le_refl _)).below (by (repeat (first | with_reducible exact belR | with_reducible apply belA | with_reducible apply belN | with_reducible apply belD | with_reducible assumption)); done) | exact (Fresh.mono (Fresh.lit0 (k := w2.heap.size + 1) (w := w2.alloc (.cells #[.string name, .int .i64 n] 112)) (by simp)) (by omega)).below (by (repeat (first | with_reducible exact belR | with_reducible apply belA | with_reducible apply belN | with_reducible apply belD | with_reducible assumption)); done) | fail)); (case rdA => (exact HPre.out.below (by have y := HB.out; exact bEb))); (case lmA => (first | (simp; done) | (simp; omega))); (case lnA => omega); (case bsA => (first | exact Nat.le_refl _ | (simp; done) | omega | (simp; omega))); (intro aoA capA wA hfA hcA hgA); have hbA : Below w2.heap.size w2 wA := Below.trans bEl hgA; have hzA := hbA.size; have HFA := Lib.hid hfA; simp [Act.eval, Value.ownBlock] at hcA; (first | (have hLit := (DField.flat.reads_chg ((DField.flat.one_reads (E := 112) (u := (⟨name, n⟩ : DField)) (xs := #[.string name, .int .i64 n]) (t := 112) rfl rfl hn).below (by (repeat (first | with_reducible exact belR | with_reducible apply belA | with_reducible apply belN | with_reducible apply belD | with_reducible assumption)); done)) hcA (by simp; done)); (try simp at hLit); have HLit := Lib.hid hLit; clear hLit) | skip); clear hfA hcA hgA)
                | ((refine DField.flat.step_growC _ (by rfl) (.tmp 55) (.tmp 59) 67 67 (by rfl) w2.heap.size 112 i0 _ _ Tryz.underlying67 Tryz.underlying67 hi0 hz0 hz1 hz2 rfl (.slice aoA k capA) ([] ++ x.fields.take k) (by rfl) ?ownB _ [(⟨name, n⟩ : DField)] (by rfl) ?rdB (k + 1) ?lmB ?lnB (by decide) ?bsB ?_); (case ownB => (exact HFA.out.below bEl)); (case rdB => (first | exact HLit.out.below (by (repeat (first | with_reducible exact belR | with_reducible apply belA | with_reducible apply belN | with_reducible apply belD | with_reducible assumption)); done) | exact (DField.flat.one_reads (u := (⟨name, n⟩ : DField)) (xs := #[.string name, .int .i64 n]) rfl rfl hn).below (by (repeat (first | with_reducible exact belR | with_reducible apply belA | with_reducible apply belN | with_reducible apply belD | with_reducible assumption)); done) | fail)); (case lmB => (first | (simp; done) | (simp; omega))); (case lnB => omega); (case bsB => (first | exact Nat.le_refl _ | (simp; done) | omega | (simp; omega))); (intro aoB capB wB hfB hcB hgB); have hbB : Below w2.heap.size w2 wB := Below.trans (by have y := hbA; exact bEl) hgB; have hzB := hbB.size; have HFB := Lib.hid hfB; clear hfB hcB hgB)
                | ((refine DField.flat.step_growC _ (by rfl) (.tmp 60) (.tmp 64) 67 67 (by rfl) w2.heap.size 112 i0 _ _ Tryz.underlying67 Tryz.underlying67 hi0 hz0 hz1 hz2 rfl (.slice aoB (k + 1) capB) ([] ++ x.fields.take k ++ [(⟨name, n⟩ : DField)]) (by rfl) ?ownC _ (x.fields.drop k) (by rfl) ?rdC (x.fields.length + 1) ?lmC ?lnC (by decide) ?bsC ?_); (case ownC => (exact HFB.out.below bEl)); (case rdC => (exact HTl.out.below (by have y := HB.out.trans (hbB.mono HB.out.size); exact bEb))); (case lmC => (first | (simp; done) | (simp; omega))); (case lnC => omega); (case bsC => (first | exact Nat.le_refl _ | (simp; done) | omega | (simp; omega))); (intro aoC capC wC hfC hcC hgC); have hbC : Below w2.heap.size w2 wC := Below.trans (by have y := hbB; exact bEl) hgC; have hzC := hbC.size; have HFC := Lib.hid hfC; have ⟨coC, zoC, foC⟩ := HO.out.keep hbC; clear hfC hcC hgC)
                | fail)
            all_goals
              have HI : Hid (([] ++ x.fields.take k ++ [(⟨name, n⟩ : DField)] ++ x.fields.drop k) = insAt x.fields k ⟨name, n⟩) := Lib.hid (by simp [insAt])
              go_wp2_with fail
              go_meet
              exact ⟨_, (HX.out.keep hbC).setOther (by omega), (HR.out.keep hbC).setOther (by omega), (HO.out.keep hbC).setAt (by simp) rfl, by rw [HE2.out]; show Fresh _ _ _ _ (insAt x.fields k ⟨name, n⟩); rw [← HI.out]; exact (HFC.out.setLow (by omega)).mono (by omega), by have y := HB.out.trans (hbC.mono HB.out.size); exact bEb⟩
          case rest =>
            obtain ⟨v5, hx, hr, ho, hf, hb⟩ := hcut
            have HX0 := Lib.hid hx
            clear c_HX z_HX f_HX c_HR z_HR f_HR c_HO z_HO f_HO
            clear HX HR HO HF HB
            have ⟨c_HX0, z_HX0, f_HX0⟩ := HX0.out
            go_wp2_with fail
            refine settleC (fun W => ∃ v5, WB W w.heap.size #[.slice (some ⟨b, off, none⟩) x.fields.length q_c1] ∧ WB W (w.heap.size + 1) #[.slice none 0 0] ∧ WB W w1.heap.size #[v5] ∧ Fresh (Rep.slice 112 DField.rep) (w.heap.size + 2) W [v5] (setFieldS x name n).fields ∧ Below w.heap.size w W) ⟨v5, HX0.out, hr, ho, hf, hb⟩ ?_
            clear c_HX0 z_HX0 f_HX0 HX0 hr ho hf hb hx
            rintro w3 ⟨v5, hx, hr, ho, hf, hb⟩
            obtain ⟨ao5, cap5, rfl⟩ := hf.slice
            have HX3 := Lib.hid hx
            have HR3 := Lib.hid hr
            have HO3 := Lib.hid ho
            have HF3 := Lib.hid hf
            have HB3 := Lib.hid hb
            clear hx hr ho hf hb
            have ⟨c_HX3, z_HX3, f_HX3⟩ := HX3.out
            refine (specIsRecord _ x _ (HH.out.below HB3.out)).mono ?_
            rintro e w4 ⟨rfl, hb4⟩
            have hbx : Below w.heap.size w w4 := HB3.out.trans (hb4.mono HB3.out.size)
            have HXy := Lib.hid (HX3.out.keep hb4)
            have HRy := Lib.hid (HR3.out.keep hb4)
            have HOy := Lib.hid (HO3.out.keep hb4)
            have HFy := Lib.hid (HF3.out.below hb4)
            clear hb4 c_HX3 z_HX3 f_HX3
            have ⟨c_HXy, z_HXy, f_HXy⟩ := HXy.out
            have ⟨c_HRy, z_HRy, f_HRy⟩ := HRy.out
            have ⟨c_HOy, z_HOy, f_HOy⟩ := HOy.out
            cases a1 : isRecordF x
            · have hB : Hid (setFieldB x name n = false) := Lib.hid (by rw [setFieldB, a1]; rfl)
              go_wp2_with fail
              refine (specCopyRecord _ x _ (HH.out.below hbx) (by omega)).mono ?_
              rintro e w6 ⟨ds, rfl, hf6, hb6⟩
              obtain ⟨ao6, cap6, rfl, hfw6⟩ := DRecord.fopen hf6
              have HF6 := Lib.hid hfw6
              have HB6 := Lib.hid (hbx.trans (hb6.mono hbx.size))
              have ⟨cr6, zr6, fr6⟩ := HRy.out.keep hb6
              have hz6 := hbx.size
              clear hf6 hfw6 hb6
              go_wp2
              refine bodyPost_ret (v := .tuple #[.agg #[.slice ao6 x.fields.length cap6], .bool false]) (by simp [results, Tryz.results102, go_sem, cr6]) rfl ⟨_, by rw [hB.out], ?_, ?_⟩
              · have e : setFieldF x name n = x := by rw [setFieldF, hB.out]; rfl
                rw [e]
                exact DRecord.fmk (Fresh.mono (B := w4.heap.size) (by repeat (first | exact HF6.out | refine Fresh.setLow ?_ (by omega) | refine Fresh.drew ?_)) (by omega))
              · have y := HB6.out
                exact bEb
            ·
              have HS := Lib.hid (setField_same name n a1)
              clear c_HOy z_HOy f_HOy
              rw [HS.out] at HFy HOy
              have ⟨c_HOy, z_HOy, f_HOy⟩ := HOy.out
              go_wp2_with fail
              refine (specIsRecord _ (setFieldI x name n) _ (DRecord.fmk (x := setFieldI x name n) HFy.out).reads).mono ?_
              rintro e w5 ⟨rfl, hb5⟩
              have hbx : Below w.heap.size w w5 := hbx.trans (hb5.mono hbx.size)
              clear c_HXy z_HXy f_HXy c_HRy z_HRy f_HRy c_HOy z_HOy f_HOy
              have HXz := Lib.hid (HXy.out.keep hb5)
              have HRz := Lib.hid (HRy.out.keep hb5)
              have HOz := Lib.hid (HOy.out.keep hb5)
              have HFz := Lib.hid (HFy.out.below hb5)
              clear hb5 HXy HRy HOy HFy
              have ⟨c_HXz, z_HXz, f_HXz⟩ := HXz.out
              have ⟨c_HRz, z_HRz, f_HRz⟩ := HRz.out
              have ⟨c_HOz, z_HOz, f_HOz⟩ := HOz.out
              cases a2 : isRecordF (setFieldI x name n)
              · have hB : Hid (setFieldB x name n = false) := Lib.hid (by rw [setFieldB, a2, Bool.and_false])
                go_wp2_with fail
                refine (specCopyRecord _ x _ (HH.out.below hbx) (by omega)).mono ?_
                rintro e w6 ⟨ds, rfl, hf6, hb6⟩
                obtain ⟨ao6, cap6, rfl, hfw6⟩ := DRecord.fopen hf6
                have HF6 := Lib.hid hfw6
                have HB6 := Lib.hid (hbx.trans (hb6.mono hbx.size))
                have ⟨cr6, zr6, fr6⟩ := HRz.out.keep hb6
                have hz6 := hbx.size
                clear hf6 hfw6 hb6
                go_wp2
                refine bodyPost_ret (v := .tuple #[.agg #[.slice ao6 x.fields.length cap6], .bool false]) (by simp [results, Tryz.results102, go_sem, cr6]) rfl ⟨_, by rw [hB.out], ?_, ?_⟩
                · have e : setFieldF x name n = x := by rw [setFieldF, hB.out]; rfl
                  rw [e]
                  exact DRecord.fmk (Fresh.mono (B := w5.heap.size) (by repeat (first | exact HF6.out | refine Fresh.setLow ?_ (by omega) | refine Fresh.drew ?_)) (by omega))
                · have y := HB6.out
                  exact bEb
              · have hB : Hid (setFieldB x name n = true) := Lib.hid (by rw [setFieldB, a1, a2]; rfl)
                go_wp2
                refine bodyPost_ret (v := .tuple #[.agg #[.slice ao5 (setFieldI x name n).fields.length cap5], .bool true]) (by simp [results, Tryz.results102, go_sem, c_HRz]) rfl ⟨_, by rw [hB.out], ?_, ?_⟩
                · have e : setFieldF x name n = setFieldI x name n := by rw [setFieldF, hB.out]; rfl
                  rw [e]
                  exact DRecord.fmk (x := setFieldI x name n) (Fresh.mono (B := (w.heap.size + 2)) (by repeat (first | exact HFz.out | refine Fresh.setLow ?_ (by omega) | refine Fresh.drew ?_)) (by omega))
                · exact bEb
        · have HE2 : Hid (setFieldS x name n = ⟨x.fields.set k ⟨x.fields[k].name, n⟩⟩) := Lib.hid (setFieldS_old n hkl HL.out n7)
          obtain ⟨g0, vc, hv, hc1, _, hg1, hg2, hci, hfz⟩ := DField.flat.at HF.out k hkl
          simp only [Value.slice.injEq] at hv
          obtain ⟨rfl, hq0, rfl⟩ := hv
          clear hq0 hc1
          have e1 : w2.cell? ⟨g0, k * 2 + 1, none⟩ = some (.int .i64 x.fields[k].n) := hci 1 (by decide)
          clear hci
          have hgl := hlt.out g0 (by simp [Value.ownBlock])
          go_wp2_with fail
          refine settleC (fun W => ∃ v5, WB W w.heap.size #[.slice (some ⟨b, off, none⟩) x.fields.length q_c1] ∧ WB W (w.heap.size + 1) #[.slice none 0 0] ∧ WB W w1.heap.size #[v5] ∧ Fresh (Rep.slice 112 DField.rep) (w.heap.size + 2) W [v5] (setFieldS x name n).fields ∧ Below w.heap.size w W) ?hE ?_
          case hE => exact ⟨_, HX.out.setOther (by omega), HR.out.setOther (by omega), HO.out.setOther (by omega), by rw [HE2.out]; exact DField.flat.setAt HF.out k hkl 1 [.int .i64 n] ⟨x.fields[k].name, n⟩ (by simp [DField.enc]) (Nat.le_refl 2) (show x.fields[k].name.size ≤ maxLen from DField.flat.ok_of HF.out x.fields[k] (List.getElem_mem hkl)), by have y := HB.out; exact bEb⟩
          clear c_HX z_HX f_HX c_HR z_HR f_HR c_HO z_HO f_HO
          clear hfz e1 HX HR HO HF HB HE2 hlt b_c0 b_c1 HR_b
          rintro w3 ⟨v5, hx, hr, ho, hf, hb⟩
          obtain ⟨ao5, cap5, rfl⟩ := hf.slice
          have HX3 := Lib.hid hx
          have HR3 := Lib.hid hr
          have HO3 := Lib.hid ho
          have HF3 := Lib.hid hf
          have HB3 := Lib.hid hb
          clear hx hr ho hf hb
          have ⟨c_HX3, z_HX3, f_HX3⟩ := HX3.out
          refine (specIsRecord _ x _ (HH.out.below HB3.out)).mono ?_
          rintro e w4 ⟨rfl, hb4⟩
          have hbx : Below w.heap.size w w4 := HB3.out.trans (hb4.mono HB3.out.size)
          have HXy := Lib.hid (HX3.out.keep hb4)
          have HRy := Lib.hid (HR3.out.keep hb4)
          have HOy := Lib.hid (HO3.out.keep hb4)
          have HFy := Lib.hid (HF3.out.below hb4)
          clear hb4 c_HX3 z_HX3 f_HX3
          have ⟨c_HXy, z_HXy, f_HXy⟩ := HXy.out
          have ⟨c_HRy, z_HRy, f_HRy⟩ := HRy.out
          have ⟨c_HOy, z_HOy, f_HOy⟩ := HOy.out
          cases a1 : isRecordF x
          · have hB : Hid (setFieldB x name n = false) := Lib.hid (by rw [setFieldB, a1]; rfl)
            go_wp2_with fail
            refine (specCopyRecord _ x _ (HH.out.below hbx) (by omega)).mono ?_
            rintro e w6 ⟨ds, rfl, hf6, hb6⟩
            obtain ⟨ao6, cap6, rfl, hfw6⟩ := DRecord.fopen hf6
            have HF6 := Lib.hid hfw6
            have HB6 := Lib.hid (hbx.trans (hb6.mono hbx.size))
            have ⟨cr6, zr6, fr6⟩ := HRy.out.keep hb6
            have hz6 := hbx.size
            clear hf6 hfw6 hb6
            go_wp2
            refine bodyPost_ret (v := .tuple #[.agg #[.slice ao6 x.fields.length cap6], .bool false]) (by simp [results, Tryz.results102, go_sem, cr6]) rfl ⟨_, by rw [hB.out], ?_, ?_⟩
            · have e : setFieldF x name n = x := by rw [setFieldF, hB.out]; rfl
              rw [e]
              exact DRecord.fmk (Fresh.mono (B := w4.heap.size) (by repeat (first | exact HF6.out | refine Fresh.setLow ?_ (by omega) | refine Fresh.drew ?_)) (by omega))
            · have y := HB6.out
              exact bEb
          ·
            have HS := Lib.hid (setField_same name n a1)
            clear c_HOy z_HOy f_HOy
            rw [HS.out] at HFy HOy
            have ⟨c_HOy, z_HOy, f_HOy⟩ := HOy.out
            go_wp2_with fail
            refine (specIsRecord _ (setFieldI x name n) _ (DRecord.fmk (x := setFieldI x name n) HFy.out).reads).mono ?_
            rintro e w5 ⟨rfl, hb5⟩
            have hbx : Below w.heap.size w w5 := hbx.trans (hb5.mono hbx.size)
            clear c_HXy z_HXy f_HXy c_HRy z_HRy f_HRy c_HOy z_HOy f_HOy
            have HXz := Lib.hid (HXy.out.keep hb5)
            have HRz := Lib.hid (HRy.out.keep hb5)
            have HOz := Lib.hid (HOy.out.keep hb5)
            have HFz := Lib.hid (HFy.out.below hb5)
            clear hb5 HXy HRy HOy HFy
            have ⟨c_HXz, z_HXz, f_HXz⟩ := HXz.out
            have ⟨c_HRz, z_HRz, f_HRz⟩ := HRz.out
            have ⟨c_HOz, z_HOz, f_HOz⟩ := HOz.out
            cases a2 : isRecordF (setFieldI x name n)
            · have hB : Hid (setFieldB x name n = false) := Lib.hid (by rw [setFieldB, a2, Bool.and_false])
              go_wp2_with fail
              refine (specCopyRecord _ x _ (HH.out.below hbx) (by omega)).mono ?_
              rintro e w6 ⟨ds, rfl, hf6, hb6⟩
              obtain ⟨ao6, cap6, rfl, hfw6⟩ := DRecord.fopen hf6
              have HF6 := Lib.hid hfw6
              have HB6 := Lib.hid (hbx.trans (hb6.mono hbx.size))
              have ⟨cr6, zr6, fr6⟩ := HRz.out.keep hb6
              have hz6 := hbx.size
              clear hf6 hfw6 hb6
              go_wp2
              refine bodyPost_ret (v := .tuple #[.agg #[.slice ao6 x.fields.length cap6], .bool false]) (by simp [results, Tryz.results102, go_sem, cr6]) rfl ⟨_, by rw [hB.out], ?_, ?_⟩
              · have e : setFieldF x name n = x := by rw [setFieldF, hB.out]; rfl
                rw [e]
                exact DRecord.fmk (Fresh.mono (B := w5.heap.size) (by repeat (first | exact HF6.out | refine Fresh.setLow ?_ (by omega) | refine Fresh.drew ?_)) (by omega))
              · have y := HB6.out
                exact bEb
            · have hB : Hid (setFieldB x name n = true) := Lib.hid (by rw [setFieldB, a1, a2]; rfl)
              go_wp2
              refine bodyPost_ret (v := .tuple #[.agg #[.slice ao5 (setFieldI x name n).fields.length cap5], .bool true]) (by simp [results, Tryz.results102, go_sem, c_HRz]) rfl ⟨_, by rw [hB.out], ?_, ?_⟩
              · have e : setFieldF x name n = setFieldI x name n := by rw [setFieldF, hB.out]; rfl
                rw [e]
                exact DRecord.fmk (x := setFieldI x name n) (Fresh.mono (B := (w.heap.size + 2)) (by repeat (first | exact HFz.out | refine Fresh.setLow ?_ (by omega) | refine Fresh.drew ?_)) (by omega))
              · exact bEb
      · have HE2 : Hid (setFieldS x name n = ⟨insAt x.fields k ⟨name, n⟩⟩) := Lib.hid (setFieldS_new n HL.out (fun h => absurd h hkl))
        have HPre := Lib.hid (q_K1.out.pre k hk)
        have HTl := Lib.hid (Reads.tail q_K1.out k hk)
        have hsl := fun W => run_tail (P := Tryz.prog) (t := 67) (n := 2) (by kernel_rfl) (fun _ => by kernel_rfl) q_a1 k x.fields.length q_c1 hk W
        have j2 : (k : Int) ≤ (x.fields.length : Int) := by omega
        have j3 : (k : Int) ≤ (q_c1 : Int) := by omega
        have j4 : k ≤ q_c1 := by omega
        go_upto_region 7 with fail
        go_cut [65] (fun _ W => ∃ v5, WB W w.heap.size #[.slice q_a1 x.fields.length q_c1] ∧ WB W (w.heap.size + 1) #[.slice none 0 0] ∧ WB W w1.heap.size #[v5] ∧ Fresh (Rep.slice 112 DField.rep) (w.heap.size + 2) W [v5] (setFieldS x name n).fields ∧ Below w.heap.size w W)
        case first =>
          have HSx : Hid (∀ w', Chg [w1.heap.size] w2 w' → (∀ o, w'.cell? ⟨w.heap.size, o, none⟩ = #[.slice q_a1 x.fields.length q_c1][o]?) ∧ Chg [w1.heap.size] w2 w') := Lib.hid fun w' hw' => ⟨(HX.out.chg hw' (by simp; omega)).cell, hw'⟩
          go_region_held3 (fun w' => (∀ o, w'.cell? ⟨w.heap.size, o, none⟩ = #[.slice q_a1 x.fields.length q_c1][o]?) ∧ Chg [w1.heap.size] w2 w')
            (first | (refine HSx.out _ ?_; (first | (with_reducible refine Chg.set (by simp) ?_; refine Chg.of_below (B := w2.heap.size) (by (repeat (first | with_reducible exact belR | with_reducible apply belA | with_reducible apply belN | with_reducible apply belD | with_reducible assumption)); done) (Nat.le_refl _)) | (refine Chg.of_below (B := w2.heap.size) (by (repeat (first | with_reducible exact belR | with_reducible apply belA | with_reducible apply belN | with_reducible apply belD | with_reducible assumption)); done) (Nat.le_refl _)) | fail)) | fail)
            (first
              | ((refine DField.flat.step_growC _ (by rfl) (.tmp 50) (.tmp 54) 67 67 (by rfl) w2.heap.size 112 i0 _ _ Tryz.underlying67 Tryz.underlying67 hi0 hz0 hz1 hz2 rfl _ [] (by rfl) ?ownA _ (x.fields.take k) (by rfl) ?rdA k ?lmA ?lnA (by decide) ?bsA ?_); (case ownA => (first | exact (Fresh.mono (Fresh.lit0 (w := w2) rfl) (Nat.le_refl _)).below (by (repeat (first | with_reducible exact belR | with_reducible apply belA | with_reducible apply belN | with_reducible apply belD | with_reducible assumption)); done) | exact (Fresh.mono (Fresh.lit0 (k := w2.heap.size + 1) (w := w2.alloc (.cells #[.string name, .int .i64 n] 112)) (by simp)) (by omega)).below (by (repeat (first | with_reducible exact belR | with_reducible apply belA | with_reducible apply belN | with_reducible apply belD | with_reducible assumption)); done) | fail)); (case rdA => (exact HPre.out.below (by have y := HB.out; exact bEb))); (case lmA => (first | (simp; done) | (simp; omega))); (case lnA => omega); (case bsA => (first | exact Nat.le_refl _ | (simp; done) | omega | (simp; omega))); (intro aoA capA wA hfA hcA hgA); have hbA : Below w2.heap.size w2 wA := Below.trans bEl hgA; have hzA := hbA.size; have HFA := Lib.hid hfA; simp [Act.eval, Value.ownBlock] at hcA; (first | (have hLit := (DField.flat.reads_chg ((DField.flat.one_reads (E := 112) (u := (⟨name, n⟩ : DField)) (xs := #[.string name, .int .i64 n]) (t := 112) rfl rfl hn).below (by (repeat (first | with_reducible exact belR | with_reducible apply belA | with_reducible apply belN | with_reducible apply belD | with_reducible assumption)); done)) hcA (by simp; done)); (try simp at hLit); have HLit := Lib.hid hLit; clear hLit) | skip); clear hfA hcA hgA)
              | ((refine DField.flat.step_growC _ (by rfl) (.tmp 55) (.tmp 59) 67 67 (by rfl) w2.heap.size 112 i0 _ _ Tryz.underlying67 Tryz.underlying67 hi0 hz0 hz1 hz2 rfl (.slice aoA k capA) ([] ++ x.fields.take k) (by rfl) ?ownB _ [(⟨name, n⟩ : DField)] (by rfl) ?rdB (k + 1) ?lmB ?lnB (by decide) ?bsB ?_); (case ownB => (exact HFA.out.below bEl)); (case rdB => (first | exact HLit.out.below (by (repeat (first | with_reducible exact belR | with_reducible apply belA | with_reducible apply belN | with_reducible apply belD | with_reducible assumption)); done) | exact (DField.flat.one_reads (u := (⟨name, n⟩ : DField)) (xs := #[.string name, .int .i64 n]) rfl rfl hn).below (by (repeat (first | with_reducible exact belR | with_reducible apply belA | with_reducible apply belN | with_reducible apply belD | with_reducible assumption)); done) | fail)); (case lmB => (first | (simp; done) | (simp; omega))); (case lnB => omega); (case bsB => (first | exact Nat.le_refl _ | (simp; done) | omega | (simp; omega))); (intro aoB capB wB hfB hcB hgB); have hbB : Below w2.heap.size w2 wB := Below.trans (by have y := hbA; exact bEl) hgB; have hzB := hbB.size; have HFB := Lib.hid hfB; clear hfB hcB hgB)
              | ((refine DField.flat.step_growC _ (by rfl) (.tmp 60) (.tmp 64) 67 67 (by rfl) w2.heap.size 112 i0 _ _ Tryz.underlying67 Tryz.underlying67 hi0 hz0 hz1 hz2 rfl (.slice aoB (k + 1) capB) ([] ++ x.fields.take k ++ [(⟨name, n⟩ : DField)]) (by rfl) ?ownC _ (x.fields.drop k) (by rfl) ?rdC (x.fields.length + 1) ?lmC ?lnC (by decide) ?bsC ?_); (case ownC => (exact HFB.out.below bEl)); (case rdC => (exact HTl.out.below (by have y := HB.out.trans (hbB.mono HB.out.size); exact bEb))); (case lmC => (first | (simp; done) | (simp; omega))); (case lnC => omega); (case bsC => (first | exact Nat.le_refl _ | (simp; done) | omega | (simp; omega))); (intro aoC capC wC hfC hcC hgC); have hbC : Below w2.heap.size w2 wC := Below.trans (by have y := hbB; exact bEl) hgC; have hzC := hbC.size; have HFC := Lib.hid hfC; have ⟨coC, zoC, foC⟩ := HO.out.keep hbC; clear hfC hcC hgC)
              | fail)
          all_goals
            have HI : Hid (([] ++ x.fields.take k ++ [(⟨name, n⟩ : DField)] ++ x.fields.drop k) = insAt x.fields k ⟨name, n⟩) := Lib.hid (by simp [insAt])
            go_wp2_with fail
            go_meet
            exact ⟨_, (HX.out.keep hbC).setOther (by omega), (HR.out.keep hbC).setOther (by omega), (HO.out.keep hbC).setAt (by simp) rfl, by rw [HE2.out]; show Fresh _ _ _ _ (insAt x.fields k ⟨name, n⟩); rw [← HI.out]; exact (HFC.out.setLow (by omega)).mono (by omega), by have y := HB.out.trans (hbC.mono HB.out.size); exact bEb⟩
        case rest =>
          obtain ⟨v5, hx, hr, ho, hf, hb⟩ := hcut
          have HX0 := Lib.hid hx
          clear c_HX z_HX f_HX c_HR z_HR f_HR c_HO z_HO f_HO
          clear HX HR HO HF HB
          have ⟨c_HX0, z_HX0, f_HX0⟩ := HX0.out
          go_wp2_with fail
          refine settleC (fun W => ∃ v5, WB W w.heap.size #[.slice q_a1 x.fields.length q_c1] ∧ WB W (w.heap.size + 1) #[.slice none 0 0] ∧ WB W w1.heap.size #[v5] ∧ Fresh (Rep.slice 112 DField.rep) (w.heap.size + 2) W [v5] (setFieldS x name n).fields ∧ Below w.heap.size w W) ⟨v5, HX0.out, hr, ho, hf, hb⟩ ?_
          clear c_HX0 z_HX0 f_HX0 HX0 hr ho hf hb hx
          rintro w3 ⟨v5, hx, hr, ho, hf, hb⟩
          obtain ⟨ao5, cap5, rfl⟩ := hf.slice
          have HX3 := Lib.hid hx
          have HR3 := Lib.hid hr
          have HO3 := Lib.hid ho
          have HF3 := Lib.hid hf
          have HB3 := Lib.hid hb
          clear hx hr ho hf hb
          have ⟨c_HX3, z_HX3, f_HX3⟩ := HX3.out
          refine (specIsRecord _ x _ (HH.out.below HB3.out)).mono ?_
          rintro e w4 ⟨rfl, hb4⟩
          have hbx : Below w.heap.size w w4 := HB3.out.trans (hb4.mono HB3.out.size)
          have HXy := Lib.hid (HX3.out.keep hb4)
          have HRy := Lib.hid (HR3.out.keep hb4)
          have HOy := Lib.hid (HO3.out.keep hb4)
          have HFy := Lib.hid (HF3.out.below hb4)
          clear hb4 c_HX3 z_HX3 f_HX3
          have ⟨c_HXy, z_HXy, f_HXy⟩ := HXy.out
          have ⟨c_HRy, z_HRy, f_HRy⟩ := HRy.out
          have ⟨c_HOy, z_HOy, f_HOy⟩ := HOy.out
          cases a1 : isRecordF x
          · have hB : Hid (setFieldB x name n = false) := Lib.hid (by rw [setFieldB, a1]; rfl)
            go_wp2_with fail
            refine (specCopyRecord _ x _ (HH.out.below hbx) (by omega)).mono ?_
            rintro e w6 ⟨ds, rfl, hf6, hb6⟩
            obtain ⟨ao6, cap6, rfl, hfw6⟩ := DRecord.fopen hf6
            have HF6 := Lib.hid hfw6
            have HB6 := Lib.hid (hbx.trans (hb6.mono hbx.size))
            have ⟨cr6, zr6, fr6⟩ := HRy.out.keep hb6
            have hz6 := hbx.size
            clear hf6 hfw6 hb6
            go_wp2
            refine bodyPost_ret (v := .tuple #[.agg #[.slice ao6 x.fields.length cap6], .bool false]) (by simp [results, Tryz.results102, go_sem, cr6]) rfl ⟨_, by rw [hB.out], ?_, ?_⟩
            · have e : setFieldF x name n = x := by rw [setFieldF, hB.out]; rfl
              rw [e]
              exact DRecord.fmk (Fresh.mono (B := w4.heap.size) (by repeat (first | exact HF6.out | refine Fresh.setLow ?_ (by omega) | refine Fresh.drew ?_)) (by omega))
            · have y := HB6.out
              exact bEb
          ·
            have HS := Lib.hid (setField_same name n a1)
            clear c_HOy z_HOy f_HOy
            rw [HS.out] at HFy HOy
            have ⟨c_HOy, z_HOy, f_HOy⟩ := HOy.out
            go_wp2_with fail
            refine (specIsRecord _ (setFieldI x name n) _ (DRecord.fmk (x := setFieldI x name n) HFy.out).reads).mono ?_
            rintro e w5 ⟨rfl, hb5⟩
            have hbx : Below w.heap.size w w5 := hbx.trans (hb5.mono hbx.size)
            clear c_HXy z_HXy f_HXy c_HRy z_HRy f_HRy c_HOy z_HOy f_HOy
            have HXz := Lib.hid (HXy.out.keep hb5)
            have HRz := Lib.hid (HRy.out.keep hb5)
            have HOz := Lib.hid (HOy.out.keep hb5)
            have HFz := Lib.hid (HFy.out.below hb5)
            clear hb5 HXy HRy HOy HFy
            have ⟨c_HXz, z_HXz, f_HXz⟩ := HXz.out
            have ⟨c_HRz, z_HRz, f_HRz⟩ := HRz.out
            have ⟨c_HOz, z_HOz, f_HOz⟩ := HOz.out
            cases a2 : isRecordF (setFieldI x name n)
            · have hB : Hid (setFieldB x name n = false) := Lib.hid (by rw [setFieldB, a2, Bool.and_false])
              go_wp2_with fail
              refine (specCopyRecord _ x _ (HH.out.below hbx) (by omega)).mono ?_
              rintro e w6 ⟨ds, rfl, hf6, hb6⟩
              obtain ⟨ao6, cap6, rfl, hfw6⟩ := DRecord.fopen hf6
              have HF6 := Lib.hid hfw6
              have HB6 := Lib.hid (hbx.trans (hb6.mono hbx.size))
              have ⟨cr6, zr6, fr6⟩ := HRz.out.keep hb6
              have hz6 := hbx.size
              clear hf6 hfw6 hb6
              go_wp2
              refine bodyPost_ret (v := .tuple #[.agg #[.slice ao6 x.fields.length cap6], .bool false]) (by simp [results, Tryz.results102, go_sem, cr6]) rfl ⟨_, by rw [hB.out], ?_, ?_⟩
              · have e : setFieldF x name n = x := by rw [setFieldF, hB.out]; rfl
                rw [e]
                exact DRecord.fmk (Fresh.mono (B := w5.heap.size) (by repeat (first | exact HF6.out | refine Fresh.setLow ?_ (by omega) | refine Fresh.drew ?_)) (by omega))
              · have y := HB6.out
                exact bEb
            · have hB : Hid (setFieldB x name n = true) := Lib.hid (by rw [setFieldB, a1, a2]; rfl)
              go_wp2
              refine bodyPost_ret (v := .tuple #[.agg #[.slice ao5 (setFieldI x name n).fields.length cap5], .bool true]) (by simp [results, Tryz.results102, go_sem, c_HRz]) rfl ⟨_, by rw [hB.out], ?_, ?_⟩
              · have e : setFieldF x name n = setFieldI x name n := by rw [setFieldF, hB.out]; rfl
                rw [e]
                exact DRecord.fmk (x := setFieldI x name n) (Fresh.mono (B := (w.heap.size + 2)) (by repeat (first | exact HFz.out | refine Fresh.setLow ?_ (by omega) | refine Fresh.drew ?_)) (by omega))
              · exact bEb
    · obtain ⟨b, off, cs_b, rfl, hw_b, hr_b, hcell_b⟩ := slice_at (q_K1.out.below HB.out) k hlt'
      obtain ⟨fe_b, hrd_b⟩ := hr_b
      have HR_b : Hid (Reads DField.rep w2 cs_b x.fields[k]) := ⟨_, hrd_b⟩
      obtain ⟨rfl, _, b_s0⟩ := DField.rd.1 hrd_b
      clear hrd_b
      have b_c0 : w2.cell? ⟨b, off + k * 2, none⟩ = some (.string x.fields[k].name) := hcell_b 0 (by decide)
      have b_c1 : w2.cell? ⟨b, off + k * 2 + 1, none⟩ = some (.int .i64 x.fields[k].n) := hcell_b 1 (by decide)
      clear hcell_b
      have i1 : (0 : Int) ≤ (k : Int) := by omega
      have i2 : (k : Int) < (x.fields.length : Int) := by omega
      have n5 : Op.bytesLess x.fields[k].name.toList name.toList = true := hle
      go_wp2
      go_light
      exact ⟨⟨k + 1, by omega, by go_num, Lib.hid (by
        intro j hj hjk
        by_cases e : j = k
        · subst e; exact hle
        · exact HA.out j hj (by omega))⟩, by simp [intOf]; omega⟩

end Go.Proofs.YtlfebehpmefioaaGreat

/-
  SetItemField.
-/
namespace Go.Proofs.YtlfebehpmefioaaGreat
open Go.RowKit
theorem setField_yes {s : DStore} {y : DWrite} (h : setFieldB (itemRec s y.key) y.field y.n = true) : setFieldF (itemRec s y.key) y.field y.n = setItemR s y := by
  unfold setFieldF setItemR; rw [h]; rfl
theorem setItemR_len {s : DStore} {y : DWrite} (h : setFieldB (itemRec s y.key) y.field y.n = true) : (setItemR s y).fields.length ≤ 1048600 := by
  unfold setFieldB at h
  simp only [Bool.and_eq_true] at h
  have := isRecord_len h.2
  unfold setItemR; omega
theorem reads_old {β : Type} {w W : World} {cs : List Value} {R2 : Rep β} {x : β} {g o : Nat} {u : Value} {B : Nat} (h : ∃ fp, R2.rd false w cs x fp) (hb : Below B w W) (hB : w.heap.size ≤ B) (hg : B ≤ g) : Reads R2 (W.setCell ⟨g, o, none⟩ u) cs x := by
  obtain ⟨fp, h⟩ := h
  exact ⟨fp, R2.frame h fun b hb' => ((hb.setCell (p := ⟨g, o, none⟩) hg u).block b (Nat.lt_of_lt_of_le (R2.lt h b hb') hB))⟩
attribute [local irreducible] setFieldB setFieldF putItemB putItemF itemRec

set_option maxRecDepth 100000 in
set_option maxHeartbeats 8000000 in
theorem implSetItemField (cs cy : List Value) (s : DStore) (y : DWrite) (w : World) (h : Reads DStore.rep w cs s) (h' : Reads DWrite.rep w cy y) (hs : SmallStore s) :
    Calls Tryz.prog 47 #[.agg cs.toArray, .agg cy.toArray] w fun e w' => ∃ ds, e = .returned (.tuple #[.agg ds.toArray, .bool (setItemB s y)]) ∧ Fresh DStore.rep w.heap.size w' ds (setItemF s y) ∧ Below w.heap.size w w' := by
  have HS := Lib.hid h
  obtain ⟨fp_q, h⟩ := h
  obtain ⟨q_v1, q_f1, rfl, _, q_s0, q_r1⟩ := DStore.rd.1 h
  obtain ⟨q_a1, q_c1, rfl, q_hm1, q_lc1, q_hu1⟩ := slice_open q_r1; clear q_hu1
  have q_K1 : Hid (Reads (Rep.slice 71 DItem.rep) w [.slice q_a1 s.items.length q_c1] s.items) := ⟨_, q_r1⟩
  clear q_r1 h
  obtain ⟨fy, hy⟩ := h'
  obtain ⟨rfl, _, hyt, hyf⟩ := DWrite.rd.1 hy
  clear hy
  have HKr : Hid (∀ W, Reads DKey.rep W [.int .i64 y.key.kind, .int .i64 y.key.n, .string y.key.text] y.key) := Lib.hid fun W => ⟨[], DKey.rd.2 ⟨rfl, rfl, hyt⟩⟩
  have hrl := itemRec_small hs y.key
  go_enter Tryz.func47, Tryz.ntmps47
  go_wp2_with fail
  refine (implFindItem _ _ s y.key _ (HS.out.below bEl) (HKr.out _)).mono ?_
  rintro e w1 ⟨rfl, hb⟩
  have HX : Hid (WB w1 w.heap.size #[.string s.name, .slice q_a1 s.items.length q_c1, .int .i64 s.auto]) := Lib.hid ((((WB.at rfl).growA).growA).growA.keep hb)
  have HY : Hid (WB w1 (w.heap.size + 1) #[.int .i64 y.device, .int .i64 y.seq, .int .i64 y.key.kind, .int .i64 y.key.n, .string y.key.text, .string y.field, .int .i64 y.n]) := Lib.hid ((((WB.at (by simp)).growA).growA).keep hb)
  have HT : Hid (WB w1 (w.heap.size + 2) #[.string ⟨#[]⟩, .slice none 0 0, .int .i64 0]) := Lib.hid (((WB.at (by simp)).growA).keep hb)
  have HO : Hid (WB w1 (w.heap.size + 3) #[.slice none 0 0]) := Lib.hid ((WB.at (by simp)).keep hb)
  have HB : Hid (Below w.heap.size w w1) := Lib.hid (below_call bEl bSz hb)
  have hz : w.heap.size + 4 ≤ w1.heap.size := by have y := hb.size; simp at y; omega
  clear hb
  have ⟨c_HX, z_HX, f_HX⟩ := HX.out
  have ⟨c_HO, z_HO, f_HO⟩ := HO.out
  rcases idxF_cases (keyIs y.key) s.items with ⟨he, hall⟩ | ⟨i, hi, he, hp, hall⟩
  case' inl =>
    have HE := Lib.hid (itemRec_none hall)
    rw [he]
    clear he hall
    go_upto_region 5 with fail
    refine settle (fun W => ∃ a0 n0 c0, WB W w.heap.size #[.string s.name, .slice q_a1 s.items.length q_c1, .int .i64 s.auto] ∧ WB W (w.heap.size + 1) #[.int .i64 y.device, .int .i64 y.seq, .int .i64 y.key.kind, .int .i64 y.key.n, .string y.key.text, .string y.field, .int .i64 y.n] ∧ WB W (w.heap.size + 2) #[.string ⟨#[]⟩, .slice none 0 0, .int .i64 0] ∧ WB W (w.heap.size + 3) #[.slice a0 n0 c0] ∧ Reads DRecord.rep W [.slice a0 n0 c0] (itemRec s y.key) ∧ Below w.heap.size w W) ⟨_, _, _, HX.out, HY.out, HT.out, HO.out, by rw [HE.out]; exact (DRecord.fmk (x := noRecord) (B := 0) Fresh.nil).reads, HB.out⟩ ?_
  case' inr =>
    have HE := Lib.hid (itemRec_hit hi hp hall)
    rw [he]
    clear he hall hp
    obtain ⟨b, off, cs_b, rfl, hw_b, hr_b, hcell_b⟩ := slice_at q_K1.out i hi
    obtain ⟨fe_b, hrd_b⟩ := hr_b
    have HR_b : Hid (Reads DItem.rep w cs_b s.items[i]) := ⟨_, hrd_b⟩
    obtain ⟨b_v1, b_f1, rfl, _, b_s0, b_r1⟩ := DItem.rd.1 hrd_b
    obtain ⟨b_a1, b_k1, rfl, _⟩ := slice_open b_r1
    have b_R1 : Hid (Reads (Rep.slice 112 DField.rep) w [.slice b_a1 s.items[i].record.fields.length b_k1] s.items[i].record.fields) := ⟨_, b_r1⟩
    clear b_r1
    clear hrd_b
    have b_c0 : w.cell? ⟨b, off + i * 4, none⟩ = some (.int .i64 s.items[i].key.kind) := hcell_b 0 (by decide)
    have b_c1 : w.cell? ⟨b, off + i * 4 + 1, none⟩ = some (.int .i64 s.items[i].key.n) := hcell_b 1 (by decide)
    have b_c2 : w.cell? ⟨b, off + i * 4 + 2, none⟩ = some (.string s.items[i].key.text) := hcell_b 2 (by decide)
    have b_c3 : w.cell? ⟨b, off + i * 4 + 3, none⟩ = some (.slice b_a1 s.items[i].record.fields.length b_k1) := hcell_b 3 (by decide)
    clear hcell_b
    have e0 := (HB.out.cell (block_lt_of_cell b_c0)).trans b_c0
    have e1 := (HB.out.cell (block_lt_of_cell b_c1)).trans b_c1
    have e2 := (HB.out.cell (block_lt_of_cell b_c2)).trans b_c2
    have e3 := (HB.out.cell (block_lt_of_cell b_c3)).trans b_c3
    have HRi : Hid (Reads DRecord.rep w [.slice b_a1 s.items[i].record.fields.length b_k1] s.items[i].record) := by
      obtain ⟨f, r⟩ := b_R1.out
      exact ⟨f, DRecord.rd.2 ⟨_, _, rfl, rfl, r⟩⟩
    have i1 : (0 : Int) ≤ (i : Int) := by omega
    have i2 : (i : Int) < (s.items.length : Int) := by omega
    go_upto_region 5 with fail
    refine settle (fun W => ∃ a0 n0 c0, WB W w.heap.size #[.string s.name, .slice (some ⟨b, off, none⟩) s.items.length q_c1, .int .i64 s.auto] ∧ WB W (w.heap.size + 1) #[.int .i64 y.device, .int .i64 y.seq, .int .i64 y.key.kind, .int .i64 y.key.n, .string y.key.text, .string y.field, .int .i64 y.n] ∧ WB W (w.heap.size + 2) #[.string ⟨#[]⟩, .slice none 0 0, .int .i64 0] ∧ WB W (w.heap.size + 3) #[.slice a0 n0 c0] ∧ Reads DRecord.rep W [.slice a0 n0 c0] (itemRec s y.key) ∧ Below w.heap.size w W) ⟨_, _, _, HX.out.setOther (by omega), HY.out.setOther (by omega), HT.out.setOther (by omega), HO.out.setAt (by simp) rfl, by rw [HE.out]; exact reads_old HRi.out HB.out (Nat.le_refl _) (by omega), by have y := HB.out; exact bEb⟩ ?_
    clear HR_b b_R1 b_c0 b_c1 b_c2 b_c3 HRi e0 e1 e2 e3
  all_goals
    clear c_HX z_HX f_HX c_HO z_HO f_HO
    clear HX HY HT HO HB HE
    rintro w2 ⟨a0, n0, c0, hx, hy, ht, ho, hr, hb⟩
    have HX := Lib.hid hx
    have HY := Lib.hid hy
    have HT := Lib.hid ht
    have HO := Lib.hid ho
    have HR := Lib.hid hr
    have HB := Lib.hid hb
    clear hx hy ht ho hr hb
    have ⟨c_HY, z_HY, f_HY⟩ := HY.out
    have ⟨c_HO, z_HO, f_HO⟩ := HO.out
    go_wp2_with fail
    refine (implSetField _ (itemRec s y.key) y.field y.n _ HR.out hrl hyf).mono ?_
    rintro e w3 ⟨ds, rfl, hf, hb⟩
    obtain ⟨ao, cap, rfl, hfw⟩ := DRecord.fopen hf
    have HF : Hid (Fresh DRecord.rep (w.heap.size + 4) w3 [.slice ao (setFieldF (itemRec s y.key) y.field y.n).fields.length cap] (setFieldF (itemRec s y.key) y.field y.n)) := Lib.hid (hf.mono (by have := HO.out.lt; omega))
    have hz2 := hb.size
    have hz3 := HO.out.lt
    clear c_HY z_HY f_HY c_HO z_HO f_HO
    replace HX := Lib.hid (HX.out.keep hb)
    replace HY := Lib.hid (HY.out.keep hb)
    replace HT := Lib.hid (HT.out.keep hb)
    replace HO := Lib.hid (HO.out.keep hb)
    replace HB := Lib.hid (HB.out.trans (hb.mono HB.out.size))
    clear hf hfw hb HR
    have ⟨c_HX, z_HX, f_HX⟩ := HX.out
    have ⟨c_HY, z_HY, f_HY⟩ := HY.out
    have ⟨c_HO, z_HO, f_HO⟩ := HO.out
    cases a1 : setFieldB (itemRec s y.key) y.field y.n
    · have hB : Hid (setItemB s y = false) := Lib.hid (by rw [setItemB, a1]; rfl)
      have hF : Hid (setItemF s y = s) := Lib.hid (by rw [setItemF, hB.out]; rfl)
      go_wp2_with fail
      refine (implCopyStore _ s _ (HS.out.below (by have y := HB.out; exact bEb)) hs).mono ?_
      rintro e w4 ⟨ds, rfl, hf4, hb4⟩
      obtain ⟨ao4, cap4, rfl, hfw4, _⟩ := DStore.fopen hf4
      have HF4 : Hid (Fresh (Rep.slice 71 DItem.rep) w3.heap.size w4 [.slice ao4 s.items.length cap4] s.items) := Lib.hid (hfw4.mono (by first | exact Nat.le_refl _ | (simp; done) | (simp; omega)))
      have hq4 : Below w.heap.size w w4 := Below.trans (by have y := HB.out; exact bEb) (hb4.mono (by first | (simp; omega) | omega))
      have HT4 : Hid (WB w4 (w.heap.size + 2) #[.string ⟨#[]⟩, .slice none 0 0, .int .i64 0]) := Lib.hid ((by first | exact HT.out.setOther (by omega) | exact (HT.out.growA).setOther (by omega) | exact HT.out.growA : WB _ (w.heap.size + 2) _).keep hb4)
      have HB4 := Lib.hid hq4
      have ⟨cr4, zr4, fr4⟩ := HT4.out
      have hz4 := HO.out.lt
      clear hf4 hfw4 hb4 hq4
      go_wp2
      refine bodyPost_ret (v := .tuple #[.agg #[.string s.name, .slice ao4 s.items.length cap4, .int .i64 s.auto], .bool false]) (by simp [results, Tryz.results47, go_sem, cr4]) rfl ⟨_, by rw [hB.out], ?_, ?_⟩
      · rw [hF.out]
        exact DStore.fmk (Fresh.mono (B := w3.heap.size) (by repeat (first | exact HF4.out | refine Fresh.setLow ?_ (by omega) | refine Fresh.drew ?_)) (by omega)) q_s0
      · have y := HB4.out
        exact bEb
    · have hR := setField_yes a1
      have hrl2 := setItemR_len a1
      have hB : Hid (setItemB s y = putItemB s y.key (setItemR s y)) := Lib.hid (by rw [setItemB, a1]; rfl)
      have hF : Hid (setItemF s y = putItemF s y.key (setItemR s y)) := Lib.hid (by rw [setItemF_eq, a1, if_pos rfl, hR])
      rw [hR] at HF ⊢
      clear hR
      go_wp2_with fail
      refine (implPutItem _ _ _ s y.key (setItemR s y) _ (HS.out.below (by have y := HB.out; exact bEb)) (HKr.out _) (by first | exact (Fresh.setLow HF.out (by omega)).reads | exact (HF.out.below (belA belR)).reads) hs hrl2).mono ?_
      rintro e w4 ⟨ds, rfl, hf4, hb4⟩
      obtain ⟨ao4, cap4, rfl, hfw4, hsn⟩ := DStore.fopen hf4
      have HF4 : Hid (Fresh (Rep.slice 71 DItem.rep) w3.heap.size w4 [.slice ao4 (putItemF s y.key (setItemR s y)).items.length cap4] (putItemF s y.key (setItemR s y)).items) := Lib.hid (hfw4.mono (by first | exact Nat.le_refl _ | (simp; done) | (simp; omega)))
      have hq4 : Below w.heap.size w w4 := Below.trans (by have y := HB.out; exact bEb) (hb4.mono (by first | (simp; omega) | omega))
      have HT4 : Hid (WB w4 (w.heap.size + 2) #[.string ⟨#[]⟩, .slice none 0 0, .int .i64 0]) := Lib.hid ((by first | exact HT.out.setOther (by omega) | exact HT.out.growA : WB _ (w.heap.size + 2) _).keep hb4)
      have HB4 := Lib.hid hq4
      have ⟨cr4, zr4, fr4⟩ := HT4.out
      have hz4 := HO.out.lt
      clear hf4 hfw4 hb4 hq4
      go_wp2
      refine bodyPost_ret (v := .tuple #[.agg #[.string (putItemF s y.key (setItemR s y)).name, .slice ao4 (putItemF s y.key (setItemR s y)).items.length cap4, .int .i64 (putItemF s y.key (setItemR s y)).auto], .bool (putItemB s y.key (setItemR s y))]) (by simp [results, Tryz.results47, go_sem, cr4]) rfl ⟨_, by rw [hB.out], ?_, ?_⟩
      · rw [hF.out]
        exact DStore.fmk (Fresh.mono (B := w3.heap.size) (by repeat (first | exact HF4.out | refine Fresh.setLow ?_ (by omega) | refine Fresh.drew ?_)) (by omega)) hsn
      · have y := HB4.out
        exact bEb

set_option maxRecDepth 100000 in
set_option maxHeartbeats 8000000 in
theorem specSetItemField (cs cy : List Value) (s : DStore) (y : DWrite) (w : World) (h : Reads DStore.rep w cs s) (h' : Reads DWrite.rep w cy y) (hs : SmallStore s) :
    Calls Tryz.prog 52 #[.agg cs.toArray, .agg cy.toArray] w fun e w' => ∃ ds, e = .returned (.tuple #[.agg ds.toArray, .bool (setItemB s y)]) ∧ Fresh DStore.rep w.heap.size w' ds (setItemF s y) ∧ Below w.heap.size w w' := by
  have HS := Lib.hid h
  obtain ⟨fp_q, h⟩ := h
  obtain ⟨q_v1, q_f1, rfl, _, q_s0, q_r1⟩ := DStore.rd.1 h
  obtain ⟨q_a1, q_c1, rfl, q_hm1, q_lc1, q_hu1⟩ := slice_open q_r1; clear q_hu1
  have q_K1 : Hid (Reads (Rep.slice 71 DItem.rep) w [.slice q_a1 s.items.length q_c1] s.items) := ⟨_, q_r1⟩
  clear q_r1 h
  obtain ⟨fy, hy⟩ := h'
  obtain ⟨rfl, _, hyt, hyf⟩ := DWrite.rd.1 hy
  clear hy
  have HKr : Hid (∀ W, Reads DKey.rep W [.int .i64 y.key.kind, .int .i64 y.key.n, .string y.key.text] y.key) := Lib.hid fun W => ⟨[], DKey.rd.2 ⟨rfl, rfl, hyt⟩⟩
  have hrl := itemRec_small hs y.key
  go_enter Tryz.func52, Tryz.ntmps52
  go_wp2_with fail
  refine (specFindItem _ _ s y.key _ (HS.out.below bEl) (HKr.out _)).mono ?_
  rintro e w1 ⟨rfl, hb⟩
  have HX : Hid (WB w1 w.heap.size #[.string s.name, .slice q_a1 s.items.length q_c1, .int .i64 s.auto]) := Lib.hid ((((WB.at rfl).growA).growA).growA.keep hb)
  have HY : Hid (WB w1 (w.heap.size + 1) #[.int .i64 y.device, .int .i64 y.seq, .int .i64 y.key.kind, .int .i64 y.key.n, .string y.key.text, .string y.field, .int .i64 y.n]) := Lib.hid ((((WB.at (by simp)).growA).growA).keep hb)
  have HT : Hid (WB w1 (w.heap.size + 2) #[.string ⟨#[]⟩, .slice none 0 0, .int .i64 0]) := Lib.hid (((WB.at (by simp)).growA).keep hb)
  have HO : Hid (WB w1 (w.heap.size + 3) #[.slice none 0 0]) := Lib.hid ((WB.at (by simp)).keep hb)
  have HB : Hid (Below w.heap.size w w1) := Lib.hid (below_call bEl bSz hb)
  have hz : w.heap.size + 4 ≤ w1.heap.size := by have y := hb.size; simp at y; omega
  clear hb
  have ⟨c_HX, z_HX, f_HX⟩ := HX.out
  have ⟨c_HO, z_HO, f_HO⟩ := HO.out
  rcases idxF_cases (keyIs y.key) s.items with ⟨he, hall⟩ | ⟨i, hi, he, hp, hall⟩
  case' inl =>
    have HE := Lib.hid (itemRec_none hall)
    rw [he]
    clear he hall
    go_upto_region 5 with fail
    refine settle (fun W => ∃ a0 n0 c0, WB W w.heap.size #[.string s.name, .slice q_a1 s.items.length q_c1, .int .i64 s.auto] ∧ WB W (w.heap.size + 1) #[.int .i64 y.device, .int .i64 y.seq, .int .i64 y.key.kind, .int .i64 y.key.n, .string y.key.text, .string y.field, .int .i64 y.n] ∧ WB W (w.heap.size + 2) #[.string ⟨#[]⟩, .slice none 0 0, .int .i64 0] ∧ WB W (w.heap.size + 3) #[.slice a0 n0 c0] ∧ Reads DRecord.rep W [.slice a0 n0 c0] (itemRec s y.key) ∧ Below w.heap.size w W) ⟨_, _, _, HX.out, HY.out, HT.out, HO.out, by rw [HE.out]; exact (DRecord.fmk (x := noRecord) (B := 0) Fresh.nil).reads, HB.out⟩ ?_
  case' inr =>
    have HE := Lib.hid (itemRec_hit hi hp hall)
    rw [he]
    clear he hall hp
    obtain ⟨b, off, cs_b, rfl, hw_b, hr_b, hcell_b⟩ := slice_at q_K1.out i hi
    obtain ⟨fe_b, hrd_b⟩ := hr_b
    have HR_b : Hid (Reads DItem.rep w cs_b s.items[i]) := ⟨_, hrd_b⟩
    obtain ⟨b_v1, b_f1, rfl, _, b_s0, b_r1⟩ := DItem.rd.1 hrd_b
    obtain ⟨b_a1, b_k1, rfl, _⟩ := slice_open b_r1
    have b_R1 : Hid (Reads (Rep.slice 112 DField.rep) w [.slice b_a1 s.items[i].record.fields.length b_k1] s.items[i].record.fields) := ⟨_, b_r1⟩
    clear b_r1
    clear hrd_b
    have b_c0 : w.cell? ⟨b, off + i * 4, none⟩ = some (.int .i64 s.items[i].key.kind) := hcell_b 0 (by decide)
    have b_c1 : w.cell? ⟨b, off + i * 4 + 1, none⟩ = some (.int .i64 s.items[i].key.n) := hcell_b 1 (by decide)
    have b_c2 : w.cell? ⟨b, off + i * 4 + 2, none⟩ = some (.string s.items[i].key.text) := hcell_b 2 (by decide)
    have b_c3 : w.cell? ⟨b, off + i * 4 + 3, none⟩ = some (.slice b_a1 s.items[i].record.fields.length b_k1) := hcell_b 3 (by decide)
    clear hcell_b
    have e0 := (HB.out.cell (block_lt_of_cell b_c0)).trans b_c0
    have e1 := (HB.out.cell (block_lt_of_cell b_c1)).trans b_c1
    have e2 := (HB.out.cell (block_lt_of_cell b_c2)).trans b_c2
    have e3 := (HB.out.cell (block_lt_of_cell b_c3)).trans b_c3
    have HRi : Hid (Reads DRecord.rep w [.slice b_a1 s.items[i].record.fields.length b_k1] s.items[i].record) := by
      obtain ⟨f, r⟩ := b_R1.out
      exact ⟨f, DRecord.rd.2 ⟨_, _, rfl, rfl, r⟩⟩
    have i1 : (0 : Int) ≤ (i : Int) := by omega
    have i2 : (i : Int) < (s.items.length : Int) := by omega
    go_upto_region 5 with fail
    refine settle (fun W => ∃ a0 n0 c0, WB W w.heap.size #[.string s.name, .slice (some ⟨b, off, none⟩) s.items.length q_c1, .int .i64 s.auto] ∧ WB W (w.heap.size + 1) #[.int .i64 y.device, .int .i64 y.seq, .int .i64 y.key.kind, .int .i64 y.key.n, .string y.key.text, .string y.field, .int .i64 y.n] ∧ WB W (w.heap.size + 2) #[.string ⟨#[]⟩, .slice none 0 0, .int .i64 0] ∧ WB W (w.heap.size + 3) #[.slice a0 n0 c0] ∧ Reads DRecord.rep W [.slice a0 n0 c0] (itemRec s y.key) ∧ Below w.heap.size w W) ⟨_, _, _, HX.out.setOther (by omega), HY.out.setOther (by omega), HT.out.setOther (by omega), HO.out.setAt (by simp) rfl, by rw [HE.out]; exact reads_old HRi.out HB.out (Nat.le_refl _) (by omega), by have y := HB.out; exact bEb⟩ ?_
    clear HR_b b_R1 b_c0 b_c1 b_c2 b_c3 HRi e0 e1 e2 e3
  all_goals
    clear c_HX z_HX f_HX c_HO z_HO f_HO
    clear HX HY HT HO HB HE
    rintro w2 ⟨a0, n0, c0, hx, hy, ht, ho, hr, hb⟩
    have HX := Lib.hid hx
    have HY := Lib.hid hy
    have HT := Lib.hid ht
    have HO := Lib.hid ho
    have HR := Lib.hid hr
    have HB := Lib.hid hb
    clear hx hy ht ho hr hb
    have ⟨c_HY, z_HY, f_HY⟩ := HY.out
    have ⟨c_HO, z_HO, f_HO⟩ := HO.out
    go_wp2_with fail
    refine (specSetField _ (itemRec s y.key) y.field y.n _ HR.out hrl hyf).mono ?_
    rintro e w3 ⟨ds, rfl, hf, hb⟩
    obtain ⟨ao, cap, rfl, hfw⟩ := DRecord.fopen hf
    have HF : Hid (Fresh DRecord.rep (w.heap.size + 4) w3 [.slice ao (setFieldF (itemRec s y.key) y.field y.n).fields.length cap] (setFieldF (itemRec s y.key) y.field y.n)) := Lib.hid (hf.mono (by have := HO.out.lt; omega))
    have hz2 := hb.size
    have hz3 := HO.out.lt
    clear c_HY z_HY f_HY c_HO z_HO f_HO
    replace HX := Lib.hid (HX.out.keep hb)
    replace HY := Lib.hid (HY.out.keep hb)
    replace HT := Lib.hid (HT.out.keep hb)
    replace HO := Lib.hid (HO.out.keep hb)
    replace HB := Lib.hid (HB.out.trans (hb.mono HB.out.size))
    clear hf hfw hb HR
    have ⟨c_HX, z_HX, f_HX⟩ := HX.out
    have ⟨c_HY, z_HY, f_HY⟩ := HY.out
    have ⟨c_HO, z_HO, f_HO⟩ := HO.out
    cases a1 : setFieldB (itemRec s y.key) y.field y.n
    · have hB : Hid (setItemB s y = false) := Lib.hid (by rw [setItemB, a1]; rfl)
      have hF : Hid (setItemF s y = s) := Lib.hid (by rw [setItemF, hB.out]; rfl)
      go_wp2_with fail
      refine (specCopyStore _ s _ (HS.out.below (by have y := HB.out; exact bEb)) hs).mono ?_
      rintro e w4 ⟨ds, rfl, hf4, hb4⟩
      obtain ⟨ao4, cap4, rfl, hfw4, _⟩ := DStore.fopen hf4
      have HF4 : Hid (Fresh (Rep.slice 71 DItem.rep) w3.heap.size w4 [.slice ao4 s.items.length cap4] s.items) := Lib.hid (hfw4.mono (by first | exact Nat.le_refl _ | (simp; done) | (simp; omega)))
      have hq4 : Below w.heap.size w w4 := Below.trans (by have y := HB.out; exact bEb) (hb4.mono (by first | (simp; omega) | omega))
      have HT4 : Hid (WB w4 (w.heap.size + 2) #[.string ⟨#[]⟩, .slice none 0 0, .int .i64 0]) := Lib.hid ((by first | exact HT.out.setOther (by omega) | exact (HT.out.growA).setOther (by omega) | exact HT.out.growA : WB _ (w.heap.size + 2) _).keep hb4)
      have HB4 := Lib.hid hq4
      have ⟨cr4, zr4, fr4⟩ := HT4.out
      have hz4 := HO.out.lt
      clear hf4 hfw4 hb4 hq4
      go_wp2
      refine bodyPost_ret (v := .tuple #[.agg #[.string s.name, .slice ao4 s.items.length cap4, .int .i64 s.auto], .bool false]) (by simp [results, Tryz.results52, go_sem, cr4]) rfl ⟨_, by rw [hB.out], ?_, ?_⟩
      · rw [hF.out]
        exact DStore.fmk (Fresh.mono (B := w3.heap.size) (by repeat (first | exact HF4.out | refine Fresh.setLow ?_ (by omega) | refine Fresh.drew ?_)) (by omega)) q_s0
      · have y := HB4.out
        exact bEb
    · have hR := setField_yes a1
      have hrl2 := setItemR_len a1
      have hB : Hid (setItemB s y = putItemB s y.key (setItemR s y)) := Lib.hid (by rw [setItemB, a1]; rfl)
      have hF : Hid (setItemF s y = putItemF s y.key (setItemR s y)) := Lib.hid (by rw [setItemF_eq, a1, if_pos rfl, hR])
      rw [hR] at HF ⊢
      clear hR
      go_wp2_with fail
      refine (specPutItem _ _ _ s y.key (setItemR s y) _ (HS.out.below (by have y := HB.out; exact bEb)) (HKr.out _) (by first | exact (Fresh.setLow HF.out (by omega)).reads | exact (HF.out.below (belA belR)).reads) hs hrl2).mono ?_
      rintro e w4 ⟨ds, rfl, hf4, hb4⟩
      obtain ⟨ao4, cap4, rfl, hfw4, hsn⟩ := DStore.fopen hf4
      have HF4 : Hid (Fresh (Rep.slice 71 DItem.rep) w3.heap.size w4 [.slice ao4 (putItemF s y.key (setItemR s y)).items.length cap4] (putItemF s y.key (setItemR s y)).items) := Lib.hid (hfw4.mono (by first | exact Nat.le_refl _ | (simp; done) | (simp; omega)))
      have hq4 : Below w.heap.size w w4 := Below.trans (by have y := HB.out; exact bEb) (hb4.mono (by first | (simp; omega) | omega))
      have HT4 : Hid (WB w4 (w.heap.size + 2) #[.string ⟨#[]⟩, .slice none 0 0, .int .i64 0]) := Lib.hid ((by first | exact HT.out.setOther (by omega) | exact HT.out.growA : WB _ (w.heap.size + 2) _).keep hb4)
      have HB4 := Lib.hid hq4
      have ⟨cr4, zr4, fr4⟩ := HT4.out
      have hz4 := HO.out.lt
      clear hf4 hfw4 hb4 hq4
      go_wp2
      refine bodyPost_ret (v := .tuple #[.agg #[.string (putItemF s y.key (setItemR s y)).name, .slice ao4 (putItemF s y.key (setItemR s y)).items.length cap4, .int .i64 (putItemF s y.key (setItemR s y)).auto], .bool (putItemB s y.key (setItemR s y))]) (by simp [results, Tryz.results52, go_sem, cr4]) rfl ⟨_, by rw [hB.out], ?_, ?_⟩
      · rw [hF.out]
        exact DStore.fmk (Fresh.mono (B := w3.heap.size) (by repeat (first | exact HF4.out | refine Fresh.setLow ?_ (by omega) | refine Fresh.drew ?_)) (by omega)) hsn
      · have y := HB4.out
        exact bEb

end Go.Proofs.YtlfebehpmefioaaGreat
