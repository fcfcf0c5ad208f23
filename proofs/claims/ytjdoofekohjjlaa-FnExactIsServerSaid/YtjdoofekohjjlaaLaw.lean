/-
  From a law's walk to its row: a law that answers true and leaves all that was there as it was. No function of the program is named here.
-/
import Derived.Test.YtjdoofekohjjlaaLib
namespace Go.Proofs.Ytjdoofekohjjlaa
open Go.RowKit Go.ChangeShapes

theorem trodAll_below {H : Type} {enc : TypeId × Value → H} {P : Program} {W W' : World} (hl : laidOutB P = true) (hb : Below W.heap.size W W') :
    ∀ (ts : List TypeId) (vs : List Value) (ds : List (DataW H)) (ps : List MemPlace), (∀ t ∈ ts, P.readableRec t = true ∧ t < P.types.size) →
      DataW.TrodAll enc P W 0 (fun _ => true) true ts vs ds ps → (∀ x ∈ ps, x.block < W.heap.size) →
      DataW.TrodAll enc P W' 0 (fun b => decide (b < W.heap.size)) true ts vs ds ps
  | [], [], [], _, _, h, _ => h
  | t :: ts, v :: vs, d :: ds, ps, hr, h, hlt => by
    obtain ⟨p, q, h1, h2, rfl⟩ := h
    exact ⟨p, q, Below.trod hl (hr t (by simp)).1 (hr t (by simp)).2 h1 hb fun x hx => hlt x (by simp [hx]),
      trodAll_below hl hb ts vs ds q (fun t ht => hr t (by simp [ht])) h2 fun x hx => hlt x (by simp [hx]), rfl⟩
  | [], _ :: _, _, _, _, h, _ => by simp [DataW.TrodAll] at h
  | [], [], _ :: _, _, _, h, _ => by simp [DataW.TrodAll] at h
  | _ :: _, [], _, _, _, h, _ => by simp [DataW.TrodAll] at h
  | _ :: _, _ :: _, [], _, _, h, _ => by simp [DataW.TrodAll] at h

theorem trodAll_length {H : Type} {enc : TypeId × Value → H} {P : Program} {W : World} {sp : Nat → Bool} {hd : Bool} {b : Nat} :
    ∀ (ts : List TypeId) (vs : List Value) (ds : List (DataW H)) (ps : List MemPlace), DataW.TrodAll enc P W b sp hd ts vs ds ps → ds.length = ts.length
  | [], [], [], _, _ => rfl
  | _ :: ts, _ :: vs, _ :: ds, _, h => by
    obtain ⟨p, q, _, h2, _⟩ := h
    simp [trodAll_length ts vs ds q h2]
  | [], _ :: _, _, _, h => by simp [DataW.TrodAll] at h
  | [], [], _ :: _, _, h => by simp [DataW.TrodAll] at h
  | _ :: _, [], _, _, h => by simp [DataW.TrodAll] at h
  | _ :: _, _ :: _, [], _, h => by simp [DataW.TrodAll] at h

theorem law_lift {H : Type} {enc : TypeId × Value → H} {C : Checked} {os : Os} {f : FuncId} {F : Func} {s : ChangeSpec} {tb : TypeId}
    (own : ownKnob C.prog.godebug = none) (started : os.Started) (noInit : C.prog.inits.idxOf? f = none) (hF : C.prog.funcs[f]? = some F)
    (hl : laidOutB C.prog = true) (hr : F.params.toList.all (fun t => C.prog.readableRec t && decide (t < C.prog.types.size)) = true)
    (hres : F.resultTypes = #[tb]) (htb : C.prog.underlying tb = some .bool) (hv : s.vars = [])
    (hfn : ∀ ds : List (DataW H), ds.length = F.params.toList.length → s.fn H ds = { results := [.lit (.bool true)], args := ds })
    (witness : ∃ (w : World) (tape : Tape) (i : Input), w.os = os ∧ (w.forCall tape i).Shaped C.prog ∧ i.vars = [] ∧ Input.okWide C.prog (w.forCall tape i) .any w.heap.size f i ∧
      s.pre6 enc C.prog F [] false (w.forCall tape i).memory i.args ∧ ({} : Assume).holds C.prog (lone (Frame.enter C.prog f i.args .normal) [] (w.forCall tape i)))
    (walk : ∀ (W : World) (base : Nat) (args : Array Value) (ds : List (DataW H)) (ps : List MemPlace),
      (∀ (j : Nat) t v, F.params[j]? = some t → args[j]? = some v → Value.okWide C.prog W .any base t v) →
      DataW.TrodAll enc C.prog W 0 (fun _ => true) true F.params.toList args.toList ds ps →
      Calls C.prog f args W fun e W' => e = .returned (.bool true) ∧ Below W.heap.size W W') :
    ReturnsInHanded {} C os f .any (s.pre6 enc C.prog F [] false) (s.post enc C.prog F false true false false) := by
  refine returnsInHanded_of_change (C := C) own started noInit hF witness ?_
  intro W base args ds gs before hval hW _ _
  have hW' := hW
  obtain ⟨p, q, hA, hV, rfl, hfz, hnd⟩ := hW
  rw [hv] at hV
  obtain ⟨rfl, rfl⟩ := trodVars_none hV
  have hlt : ∀ x ∈ p ++ [], x.block < W.heap.size := fun x hx => by simpa using hW'.lt x hx
  simp only [List.append_nil] at hlt hW'
  refine (walk W base args ds p hval hA).mono fun e W' h => ?_
  obtain ⟨rfl, hb⟩ := h
  have hlen := trodAll_length _ _ _ _ hA
  have hr' : ∀ t ∈ F.params.toList, C.prog.readableRec t = true ∧ t < C.prog.types.size := by
    intro t ht
    have := List.all_eq_true.1 hr t ht
    simpa using this
  refine ⟨_, rfl, ds, [], p, [], p, [], hW', ?_, ?_, ?_, hb.frame _, fun h => by cases h⟩
  · rw [List.append_nil, hfn ds hlen, hres]
    exact ⟨[], [], ⟨1, by simp [DataW.trod, htb, Value.cells]⟩, rfl, rfl⟩
  · rw [List.append_nil, hfn ds hlen]
    exact trodAll_below hl hb _ _ _ _ hr' hA hlt
  · rw [List.append_nil, hfn ds hlen, hv]
    rfl

section
variable {H : Type} {enc : TypeId × Value → H} {P : Program} {W : World} {base : Nat} {t : TypeId} {v : Value} {d : DataW H} {p : List MemPlace}

theorem arg_int (ht : P.underlying t = some (.int .i64)) (hval : Value.okWide P W .any base t v) (h : DataW.Trod enc P W 0 (fun _ => true) true t v d p) : ∃ a : Int, v = .int .i64 a := by
  obtain ⟨a, rfl, _⟩ := open_int ht hval h
  exact ⟨a, rfl⟩

theorem arg_bool (ht : P.underlying t = some .bool) (hval : Value.okWide P W .any base t v) (_h : DataW.Trod enc P W 0 (fun _ => true) true t v d p) : ∃ a : Bool, v = .bool a := by
  exact Go.WideShapes.okWide_bool ht hval

theorem arg_str (ht : P.underlying t = some .string) (hval : Value.okWide P W .any base t v) (h : DataW.Trod enc P W 0 (fun _ => true) true t v d p) : ∃ a : ByteArray, v = .string a ∧ a.size ≤ maxLen := by
  obtain ⟨a, rfl⟩ := Go.WideShapes.okWide_string ht hval
  obtain ⟨fuel, h⟩ := h
  obtain ⟨s, h1, _, hs⟩ := DataW.trod_string ht h
  simp [Value.cells] at h1
  subst h1
  exact ⟨a, rfl, hs⟩

theorem trodAll_open1 {t : TypeId} {args : Array Value} {ds : List (DataW H)} {ps : List MemPlace} (h : DataW.TrodAll enc P W 0 (fun _ => true) true [t] args.toList ds ps) :
    ∃ v d p, args = #[v] ∧ DataW.Trod enc P W 0 (fun _ => true) true t v d p := by
  obtain ⟨v, d, rfl, _, h⟩ := trodAll_one h
  exact ⟨v, d, _, rfl, h⟩
theorem trodAll_open2 {t t1 : TypeId} {args : Array Value} {ds : List (DataW H)} {ps : List MemPlace} (h : DataW.TrodAll enc P W 0 (fun _ => true) true [t, t1] args.toList ds ps) :
    ∃ v v1 d d1 p p1, args = #[v, v1] ∧ DataW.Trod enc P W 0 (fun _ => true) true t v d p ∧ DataW.Trod enc P W 0 (fun _ => true) true t1 v1 d1 p1 := by
  obtain ⟨v, vs, d, ds', p, q, ha, _, _, h0, h⟩ := trodAll_cons h
  obtain ⟨v1, vs1, d1, _, p1, q1, rfl, _, _, h1, h⟩ := trodAll_cons h
  obtain ⟨rfl, _, _⟩ := trodAll_nil h
  exact ⟨v, v1, d, d1, p, p1, by cases args; simp_all, h0, h1⟩
theorem trodAll_open3 {t t1 t2 : TypeId} {args : Array Value} {ds : List (DataW H)} {ps : List MemPlace} (h : DataW.TrodAll enc P W 0 (fun _ => true) true [t, t1, t2] args.toList ds ps) :
    ∃ v v1 v2 d d1 d2 p p1 p2, args = #[v, v1, v2] ∧ DataW.Trod enc P W 0 (fun _ => true) true t v d p ∧ DataW.Trod enc P W 0 (fun _ => true) true t1 v1 d1 p1 ∧ DataW.Trod enc P W 0 (fun _ => true) true t2 v2 d2 p2 := by
  obtain ⟨v, vs, d, ds', p, q, ha, _, _, h0, h⟩ := trodAll_cons h
  obtain ⟨v1, vs1, d1, _, p1, q1, rfl, _, _, h1, h⟩ := trodAll_cons h
  obtain ⟨v2, vs2, d2, _, p2, q2, rfl, _, _, h2, h⟩ := trodAll_cons h
  obtain ⟨rfl, _, _⟩ := trodAll_nil h
  exact ⟨v, v1, v2, d, d1, d2, p, p1, p2, by cases args; simp_all, h0, h1, h2⟩
theorem trodAll_open4 {t t1 t2 t3 : TypeId} {args : Array Value} {ds : List (DataW H)} {ps : List MemPlace} (h : DataW.TrodAll enc P W 0 (fun _ => true) true [t, t1, t2, t3] args.toList ds ps) :
    ∃ v v1 v2 v3 d d1 d2 d3 p p1 p2 p3, args = #[v, v1, v2, v3] ∧ DataW.Trod enc P W 0 (fun _ => true) true t v d p ∧ DataW.Trod enc P W 0 (fun _ => true) true t1 v1 d1 p1 ∧ DataW.Trod enc P W 0 (fun _ => true) true t2 v2 d2 p2 ∧ DataW.Trod enc P W 0 (fun _ => true) true t3 v3 d3 p3 := by
  obtain ⟨v, vs, d, ds', p, q, ha, _, _, h0, h⟩ := trodAll_cons h
  obtain ⟨v1, vs1, d1, _, p1, q1, rfl, _, _, h1, h⟩ := trodAll_cons h
  obtain ⟨v2, vs2, d2, _, p2, q2, rfl, _, _, h2, h⟩ := trodAll_cons h
  obtain ⟨v3, vs3, d3, _, p3, q3, rfl, _, _, h3, h⟩ := trodAll_cons h
  obtain ⟨rfl, _, _⟩ := trodAll_nil h
  exact ⟨v, v1, v2, v3, d, d1, d2, d3, p, p1, p2, p3, by cases args; simp_all, h0, h1, h2, h3⟩
end

end Go.Proofs.Ytjdoofekohjjlaa
