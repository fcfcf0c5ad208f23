/-
  What was written locally is found; spec.GetField.
-/
import Derived.Test.YtlfebehpmefioaaGreatItemFam
import Derived.Test.YtlfebehpmefioaaGreatSrvFam
namespace Go.Proofs.YtlfebehpmefioaaGreat
open Go.RowKit

theorem find_set {α : Type} {p : α → Bool} {l : List α} {i : Nat} {u : α} (hf : l.findIdx? p = some i) (hu : p u = true) : (l.set i u).find? p = some u := by
  obtain ⟨hi, _, hall⟩ := List.findIdx?_eq_some_iff_getElem.1 hf
  refine List.find?_eq_some_iff_getElem.2 ⟨hu, i, by rw [List.length_set]; exact hi, by simp, fun j hj => ?_⟩
  rw [List.getElem_set_ne (by omega)]
  have := hall j hj
  simpa using this
theorem find_ins {α : Type} {p : α → Bool} {l : List α} {k : Nat} {u : α} (hf : l.findIdx? p = none) (hu : p u = true) : (insAt l k u).find? p = some u := by
  have h : ∀ x ∈ l, p x = false := List.findIdx?_eq_none_iff.1 hf
  unfold insAt
  rw [List.find?_append, List.find?_eq_none.2 (fun x hx => by rw [h x (List.mem_of_mem_take hx)]; decide)]
  simp [hu]
theorem idx_find {α β : Type} {p : α → Bool} {g : α → β} {l : List α} {R : β} (h : (l.find? p).map g = some R) : ∃ i, ∃ hi : i < l.length, idxF p l = (i : Int) ∧ g l[i] = R := by
  rcases idxF_cases p l with ⟨_, hall⟩ | ⟨i, hi, e, hp, hall⟩
  · rw [List.find?_eq_none.2 (fun x hx => by obtain ⟨j, hj, rfl⟩ := List.getElem_of_mem hx; rw [hall j hj]; decide)] at h
    cases h
  · refine ⟨i, hi, e, ?_⟩
    rw [List.find?_eq_some_iff_getElem.2 ⟨hp, i, hi, rfl, fun j hj => by rw [hall j (by omega) hj]; rfl⟩] at h
    exact Option.some.inj h

def getHit (x : DRecord) (name : ByteArray) : Option Int := (x.fields.find? (namedAs name)).map (·.n)
theorem get_set (R : DRecord) (f : ByteArray) (n : Int) : getHit (setFieldI R f n) f = some n := by
  unfold getHit setFieldI
  cases hf : R.fields.findIdx? (namedAs f) with
  | none =>
    show ((insAt R.fields (lead (fieldLess f) R.fields) ⟨f, n⟩).find? (namedAs f)).map (·.n) = some n
    rw [find_ins hf (by unfold namedAs; exact beq_self_eq_true _)]
    rfl
  | some i =>
    obtain ⟨hi, hp, _⟩ := List.findIdx?_eq_some_iff_getElem.1 hf
    show (((putField R n i).fields.find? (namedAs f)).map (·.n)) = some n
    unfold putField
    rw [List.getElem?_eq_getElem hi]
    show (((R.fields.set i ⟨R.fields[i].name, n⟩).find? (namedAs f)).map (·.n)) = some n
    rw [find_set hf (by unfold namedAs at hp ⊢; exact hp)]
    rfl
theorem put_find (S : DStore) (k : DKey) (R : DRecord) : ((putOut S k R).items.find? (keyIs k)).map (·.record) = some R := by
  unfold putOut
  cases hf : S.items.findIdx? (keyIs k) with
  | none =>
    show ((insAt S.items (lead (itemLess k) S.items) ⟨k, R⟩).find? (keyIs k)).map (·.record) = some R
    rw [find_ins hf (by unfold keyIs; exact decide_eq_true rfl)]
    rfl
  | some i =>
    obtain ⟨hi, hp, _⟩ := List.findIdx?_eq_some_iff_getElem.1 hf
    show (((putAt S R i).items.find? (keyIs k)).map (·.record)) = some R
    unfold putAt
    rw [List.getElem?_eq_getElem hi]
    show (((S.items.set i ⟨S.items[i].key, R⟩).find? (keyIs k)).map (·.record)) = some R
    rw [find_set hf (by unfold keyIs at hp ⊢; exact hp)]
    rfl
theorem written_found {r : DReplica} {k : DKey} {f : ByteArray} {n : Int} (h : writeLocalB r k f n = true) : ∃ R, getHit R f = some n ∧ ((localStoreF (writeLocalF r k f n)).items.find? (keyIs k)).map (·.record) = some R := by
  have hb : setItemB (localStoreF r) (writeLocalW r k f n) = true := by
    unfold writeLocalB at h
    simp only [Bool.and_eq_true] at h
    exact h.2.2
  refine ⟨setItemR (localStoreF r) (writeLocalW r k f n), get_set _ _ _, ?_⟩
  have e : localStoreF (writeLocalF r k f n) = putOut (localStoreF r) k (setItemR (localStoreF r) (writeLocalW r k f n)) := by
    unfold writeLocalF
    rw [h, if_pos rfl]
    show appliedF r.base (r.sync.outbox.writes ++ [newWrite r.sync.outbox k f n]) = _
    unfold appliedF
    rw [List.foldl_append]
    show setItemF (localStoreF r) (writeLocalW r k f n) = _
    unfold setItemF
    rw [hb, if_pos rfl]
    rfl
  rw [e]
  exact put_find _ _ _

theorem getHit_at {x : DRecord} {name : ByteArray} {k : Nat} (hk : k < x.fields.length) (hp : namedAs name x.fields[k] = true) (hall : ∀ j, (hj : j < x.fields.length) → j < k → namedAs name x.fields[j] = false) : getHit x name = some x.fields[k].n := by
  unfold getHit
  rw [List.find?_eq_some_iff_getElem.2 ⟨hp, k, hk, rfl, fun j hj => by rw [hall j (by omega) hj]; rfl⟩]
  rfl
theorem getHit_no {x : DRecord} {name : ByteArray} (hall : ∀ j, (hj : j < x.fields.length) → namedAs name x.fields[j] = false) : getHit x name = none := by
  unfold getHit
  rw [List.find?_eq_none.2 (fun y hy => by obtain ⟨j, hj, rfl⟩ := List.getElem_of_mem hy; rw [hall j hj]; decide)]
  rfl

set_option maxRecDepth 100000 in
set_option maxHeartbeats 1600000 in
theorem specGetField (cs : List Value) (x : DRecord) (name : ByteArray) (n : Int) (hg : getHit x name = some n) (w : World) (h : Reads DRecord.rep w cs x) :
    Calls Tryz.prog 27 #[.agg cs.toArray, .string name] w fun e w' => e = .returned (.tuple #[.int .i64 n, .bool true]) ∧ Below w.heap.size w w' := by
  have HG := Lib.hid hg
  clear hg
  obtain ⟨fp_q, h⟩ := h
  obtain ⟨q_v1, q_f1, rfl, _, q_r1⟩ := DRecord.rd.1 h
  obtain ⟨q_a1, q_c1, rfl, q_hm1, q_lc1, q_hu1⟩ := slice_open q_r1; clear q_hu1
  have q_K1 : Hid (Reads (Rep.slice 112 DField.rep) w [.slice q_a1 x.fields.length q_c1] x.fields) := ⟨_, q_r1⟩
  clear q_r1 h
  go_enter Tryz.func27, Tryz.ntmps27
  go_wp2
  go_loopw [6] (fun i wr => ∃ k : Nat, k ≤ x.fields.length ∧ i = .int .i64 k ∧ Hid (∀ j, (hj : j < x.fields.length) → j < k → namedAs name x.fields[j] = false) ∧ WB wr w.heap.size #[.slice q_a1 x.fields.length q_c1] ∧ Below w.heap.size w wr) (fun i _ => x.fields.length - (intOf i).toNat)
  case atStart => exact ⟨0, by omega, rfl, Lib.hid (by intro j hj h; omega), WB.at rfl, bEl⟩
  case round =>
    obtain ⟨k, hk, rfl, HA, hx, hb⟩ := hrel
    have HB := Lib.hid hb
    have HX := Lib.hid hx
    clear hb hx
    have ⟨c_HX, z_HX, f_HX⟩ := HX.out
    by_cases hlt : k < x.fields.length
    · obtain ⟨b, off, cs_b, rfl, hw_b, hr_b, hcell_b⟩ := slice_at (q_K1.out.below HB.out) k hlt
      obtain ⟨fe_b, hrd_b⟩ := hr_b
      have HR_b : Hid (Reads DField.rep wr cs_b x.fields[k]) := ⟨_, hrd_b⟩
      obtain ⟨rfl, _, b_s0⟩ := DField.rd.1 hrd_b
      clear hrd_b
      have b_c0 : wr.cell? ⟨b, off + k * 2, none⟩ = some (.string x.fields[k].name) := hcell_b 0 (by decide)
      have b_c1 : wr.cell? ⟨b, off + k * 2 + 1, none⟩ = some (.int .i64 x.fields[k].n) := hcell_b 1 (by decide)
      clear hcell_b
      have j1 : (0 : Int) ≤ (k : Int) := by omega
      have j3 : (k : Int) < (x.fields.length : Int) := by omega
      cases hq : namedAs name x.fields[k]
      case' true => have n5 : (x.fields[k].name.toList == name.toList) = true := hq
      case' false => have n5 : (x.fields[k].name.toList == name.toList) = false := hq
      all_goals
        have HQ := Lib.hid hq
        clear hq
      · have HE := Lib.hid (none_snoc hlt HA.out HQ.out)
        go_wp2
        go_light
        exact ⟨⟨k + 1, by omega, by go_num, HE, HX.out, HB.out⟩, by simp [intOf]; omega⟩
      · have HE : Hid (x.fields[k].n = n) := Lib.hid (Option.some.inj ((getHit_at hlt HQ.out HA.out).symm.trans HG.out))
        rw [HE.out] at b_c1
        go_wp2
        exact bodyPost_ret (v := .tuple #[.int .i64 n, .bool true]) (by simp [results, Tryz.results27, go_sem]) rfl ⟨rfl, HB.out⟩
    · have e := (getHit_no (x := x) (name := name) (fun j hj => HA.out j hj (by omega))).symm.trans HG.out
      cases e

end Go.Proofs.YtlfebehpmefioaaGreat
