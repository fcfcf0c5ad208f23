/-
  The draws of sites.
-/
import Derived.Test.YteajhmpppciicaaDrawResp
import Derived.Test.YteajhmpppciicaaTSite
namespace Go.Proofs.Yteajhmpppciicaa
open Go.RowKit

theorem Mov.cur {k : Kur} {a b : World} (h : Mov k a b) : Cur b k := h.2
/-- A slice of the first n of the four files' names, in block kf. -/
def FilesAt (B kf : Nat) (W : World) (n : Nat) : Prop := W.ownsRow B 9 1 (.slice (some ⟨kf, 0, none⟩) n 4) n ([.string ⟨#[99, 111, 100, 101]⟩, .string ⟨#[100, 97, 116, 97]⟩, .string ⟨#[105, 110, 100, 101, 120]⟩, .string ⟨#[115, 116, 121, 108, 101]⟩].take n)
theorem FilesAt.below {B kf n : Nat} {W W' : World} (h : FilesAt B kf W n) (hb : Below W.heap.size W W') : FilesAt B kf W' n := own_below h hb (Nat.le_refl _)
theorem FilesAt.mov {B kf n : Nat} {W W' : World} {k : Kur} (h : FilesAt B kf W n) (hm : Mov k W W') (hk : kf ≠ k.k) : FilesAt B kf W' n := own_chg h hm.1 (by simp; exact hk)
theorem FilesAt.set {B kf n g o : Nat} {u : Value} {W : World} (h : FilesAt B kf W n) (hg : kf ≠ g) : FilesAt B kf (W.setCell ⟨g, o, none⟩ u) n :=
  ownsRow_frame h fun b hb => by simp [Value.ownBlock] at hb; subst hb; exact Below.heap_setCell _ _ _ _ hg
theorem FilesAt.take {B kf n : Nat} {W : World} (h : FilesAt B kf W 4) (hn : n ≤ 4) : FilesAt B kf W n := by
  obtain ⟨h1, h2 | ⟨g, cap, cur, e, hb, hg, h3, h4, h5, h6⟩⟩ := h
  · exact absurd h2.2 (by decide)
  · obtain ⟨⟨rfl⟩, _, rfl⟩ := e
    exact ⟨by simp; omega, .inr ⟨_, 4, cur, rfl, hb, hg, hn, h4, h5, by
      have h7 : cur.toList.take 4 = [.string ⟨#[99, 111, 100, 101]⟩, .string ⟨#[100, 97, 116, 97]⟩, .string ⟨#[105, 110, 100, 101, 120]⟩, .string ⟨#[115, 116, 121, 108, 101]⟩] := by simpa using h6
      rw [← h7, List.take_take, Nat.min_eq_left hn, Nat.mul_one]⟩⟩

def fileNames : List ByteArray := [⟨#[99, 111, 100, 101]⟩, ⟨#[100, 97, 116, 97]⟩, ⟨#[105, 110, 100, 101, 120]⟩, ⟨#[115, 116, 121, 108, 101]⟩]

theorem file_names {x : ByteArray} (h : x ∈ fileNames) : x.size ≤ 20 := by
  unfold fileNames at h
  simp only [List.mem_cons, List.not_mem_nil, or_false] at h
  rcases h with rfl | rfl | rfl | rfl <;> decide
theorem flat_take {α : Type} (f : α → Value) : ∀ (l : List α) (n : Nat), (l.take n).flatMap (fun x => [f x]) = (l.map f).take n
  | [], n => by simp
  | x :: l, 0 => rfl
  | x :: l, n + 1 => by
    have := flat_take f l n
    simp only [List.take_succ_cons, List.flatMap_cons, List.map_cons, this, List.singleton_append]
theorem site_fresh {B kf n : Nat} {W : World} {name : ByteArray} {ver : Int} {b : Bool} (hn : name.size ≤ 20) (hn4 : n ≤ 4) (h : FilesAt (B + 1) kf W n) : Fresh DSite.rep B W [.string name, .int .i64 ver, .slice (some ⟨kf, 0, none⟩) n 4, .bool b] ⟨name, ver, fileNames.take n, b⟩ := by
  have hl : (fileNames.take n).length = n := by simp [fileNames]; omega
  have hf : Fresh (Rep.slice 9 Rep.str) B W [.slice (some ⟨kf, 0, none⟩) n 4] (fileNames.take n) :=
    FlatR.str.fresh (B' := B + 1) (by rw [hl, flat_take]; exact h) (fun x hx => by have := file_names (List.mem_of_mem_take hx); unfold maxLen; omega) (fun c hc => by have := (World.ownsRow.lt h c (by simpa using hc)).1; omega)
  obtain ⟨fp, h1, h2, h3⟩ := hf
  exact ⟨fp, DSite.rd.2 ⟨_, fp, rfl, rfl, by show name.size ≤ maxLen; unfold maxLen; omega, h1⟩, h2, h3⟩

set_option maxRecDepth 100000 in
set_option maxHeartbeats 6400000 in
theorem specSite16 (k : Kur) (name : ByteArray) (w : World) (h : Cur w k) (hn : name.size ≤ 20) : Calls Try.prog 60 #[.pointer (some ⟨k.k, 0, none⟩), .string name] w fun e w' => ∃ (x : DSite) (f n : Nat) (c : Nat), e = .returned (.agg #[.string x.name, .int .i64 x.version, .slice (some ⟨f, 0, none⟩) n c, .bool x.shared]) ∧ Fresh DSite.rep w.heap.size w' [.string x.name, .int .i64 x.version, .slice (some ⟨f, 0, none⟩) n c, .bool x.shared] x ∧ x.name = name ∧ x.files.length ≤ 4 ∧ n = x.files.length ∧ (∀ f ∈ x.files, f.size ≤ 20) ∧ Mov k w w' := by
  have hk := h.lt
  go_enter Try.func60, Try.ntmps60
  go_wp2_with fail
  refine (specBelow k _ _ (h.below (by repeat (first | with_reducible exact belR | with_reducible apply belA | (with_reducible refine belS ?_ ?_; focus (first | omega | (simp; done) | (simp; omega))) | with_reducible apply belN | with_reducible apply belD | with_reducible assumption)))).mono ?_
  rintro e w1 ⟨ver, rfl, _, _, hm⟩
  have HT : Hid (WB w1 w.heap.size #[.string ⟨#[]⟩, .int .i64 0, .slice none 0 0, .bool false]) := Lib.hid ((WB.at rfl).mov hm (by omega))
  have HM : Hid (Mov k w w1) := Lib.hid (Mov.belowL (by repeat (first | with_reducible exact belR | with_reducible apply belA | (with_reducible refine belS ?_ ?_; focus (first | omega | (simp; done) | (simp; omega))) | with_reducible apply belN | with_reducible apply belD | with_reducible assumption)) hm)
  have hz1 := HT.out.lt
  clear hm
  go_wp2_with fail
  refine (specOnce k _ _ (HM.out.2.below (belA belR))).mono ?_
  rintro e w2 ⟨b, rfl, hm⟩
  have hz2 := hm.size
  have hz3 : w1.heap.size < w2.heap.size := by simp at hz2; omega
  obtain ⟨kf, hkf⟩ : ∃ kf, kf = w1.heap.size := ⟨_, rfl⟩
  have HR : Hid (FilesAt (w.heap.size + 1) kf w2 4) := Lib.hid (by rw [hkf]; exact own_chg (ownsRow_rebase (own_eq (own_lit (w := w1) (e := 9) (size := 1) (xs := #[.string ⟨#[99, 111, 100, 101]⟩, .string ⟨#[100, 97, 116, 97]⟩, .string ⟨#[105, 110, 100, 101, 120]⟩, .string ⟨#[115, 116, 121, 108, 101]⟩]) (n := 4) rfl (by decide)) rfl) (by simp [Value.ownBlock]; omega)) hm.1 (by have := HM.out.2.lt; simp; omega))
  replace HT := Lib.hid (HT.out.growA.mov hm (by omega))
  replace HM := Lib.hid (HM.out.trans (Mov.belowL (belA belR) hm))
  rw [← hkf]
  have hkk : w.heap.size < kf ∧ kf < w2.heap.size ∧ k.k < kf := by omega
  clear hm hkf hz1 hz2 hz3
  go_upto_region 2 with fail
  refine settle (fun W => ∃ kb, kb = w2.heap.size ∧ (∃ ver : Int, WB W kb #[.string name, .int .i64 ver, .slice (some ⟨kf, 0, none⟩) 4 4, .bool b]) ∧ WB W w.heap.size #[.string ⟨#[]⟩, .int .i64 0, .slice none 0 0, .bool false] ∧ FilesAt (w.heap.size + 1) kf W 4 ∧ Mov k w W) ⟨_, rfl, ⟨_, WB.at rfl⟩, HT.out.growA, HR.out.below (belA belR), HM.out.below (by repeat (first | with_reducible exact belR | with_reducible apply belA | (with_reducible refine belS ?_ ?_; focus (first | omega | (simp; done) | (simp; omega))) | with_reducible apply belN | with_reducible apply belD | with_reducible assumption))⟩ ?_
  clear HT HM HR
  rintro w3 ⟨kb, hkb, ⟨ver, hx⟩, ht, hr, hm⟩
  have hkb2 : kf < kb := by omega
  rw [← hkb]
  have HX := Lib.hid hx
  have HT := Lib.hid ht
  have HR := Lib.hid hr
  have HM := Lib.hid hm
  clear hx ht hr hm hkb
  go_wp2_with fail
  refine (specOnce k _ _ HM.out.2).mono ?_
  rintro e w4 ⟨b2, rfl, hm⟩
  have hzb := HX.out.lt
  replace HX := Lib.hid (HX.out.mov hm (by omega))
  replace HT := Lib.hid (HT.out.mov hm (by omega))
  replace HR := Lib.hid (HR.out.mov hm (by omega))
  replace HM := Lib.hid (HM.out.trans hm)
  clear hm hzb
  cases b2
  case' false =>
    go_upto_region 4 with fail
    refine settle (fun W => (∃ (n : Nat) (ver : Int), n ≤ 4 ∧ WB W kb #[.string name, .int .i64 ver, .slice (some ⟨kf, 0, none⟩) n 4, .bool b] ∧ FilesAt (w.heap.size + 1) kf W n) ∧ WB W w.heap.size #[.string ⟨#[]⟩, .int .i64 0, .slice none 0 0, .bool false] ∧ Mov k w W) ⟨⟨_, _, by decide, HX.out, HR.out⟩, HT.out, HM.out⟩ ?_
  case' true =>
    go_upto_region 3 with fail
    refine wp_region_mv k [7] (by kernel_rfl) ?_
    intro wd hbd
    have hwz := hbd.size
    replace HX := Lib.hid (HX.out.keep hbd)
    replace HT := Lib.hid (HT.out.keep hbd)
    replace HR := Lib.hid (HR.out.below hbd)
    replace HM := Lib.hid (HM.out.below hbd)
    clear hbd
    have hne : Nonempty (Moved k wd) := ⟨⟨wd, Mov.refl HM.out.cur⟩⟩
    have K_HX := mv_var (k := k) HX.out (by omega)
    refine wpU_group (fun _ _ _ _ _ h => h) (by kernel_rfl) (mv_of ((Mov.refl HM.out.2))) [0,1,2] _ _ _ rfl (by kernel_rfl) ?_
    repeat (go_big_quiet_step (fail))
    refine wpQuiet_nil ?_
    clear K_HX
    refine wpU_one 3 rfl (by kernel_rfl) ?_
    go_wp2_with fail
    refine (specBelow k _ _ HM.out.2).mono ?_
    rintro e w5 ⟨n, rfl, hn0, hn1, hm⟩
    have hn2 := hn1 (by decide)
    obtain ⟨n, rfl⟩ : ∃ m : Nat, n = m := ⟨n.toNat, by omega⟩
    go_wp2_with fail
    refine HardPost.mk (mv_of (hm)) ?_
    refine wpU_group (fun _ _ _ _ _ h => h) (by kernel_rfl) (mv_of (hm)) [4] _ _ _ rfl (by kernel_rfl) ?_
    repeat (go_big_quiet_step (fail))
    refine wpQuiet_nil ?_
    refine wpU_one 5 rfl (by kernel_rfl) ?_
    go_wp2_with fail
    refine HardPost.mk (mv_of hm) ?_
    refine wpU_group (fun _ _ _ _ _ h => h) (by kernel_rfl) (mv_of (hm)) [6] _ _ _ rfl (by kernel_rfl) ?_
    repeat (go_big_quiet_step (fail))
    refine wpQuiet_nil ?_
    have hzb := HX.out.lt
    replace HX := Lib.hid (HX.out.mov hm (by omega))
    replace HT := Lib.hid (HT.out.mov hm (by omega))
    replace HR := Lib.hid (HR.out.mov hm (by omega))
    replace HM := Lib.hid (HM.out.trans hm)
    clear hm hzb
    have ⟨c_HX, z_HX, f_HX⟩ := HX.out
    refine wpU_tail [7] _ _ _ _ rfl (by kernel_rfl) ?_
    go_wp2_with fail
    refine NoPanic.normal ?_
    clear c_HX z_HX f_HX
    go_upto_region 4 with fail
    refine settle (fun W => (∃ (n : Nat) (ver : Int), n ≤ 4 ∧ WB W kb #[.string name, .int .i64 ver, .slice (some ⟨kf, 0, none⟩) n 4, .bool b] ∧ FilesAt (w.heap.size + 1) kf W n) ∧ WB W w.heap.size #[.string ⟨#[]⟩, .int .i64 0, .slice none 0 0, .bool false] ∧ Mov k w W) ⟨⟨1 + n, _, by omega, HX.out.setAt (i := 2) (by simp) rfl, (HR.out.take (by omega)).set (by omega)⟩, HT.out.setOther (by omega), HM.out.low (B := w.heap.size) (by repeat (first | with_reducible exact belR | (with_reducible refine belAB ?_ ?_; focus (first | omega | (simp; done) | (simp; omega))) | (with_reducible refine belS ?_ ?_; focus (first | omega | (simp; done) | (simp; omega))) | with_reducible apply belN | with_reducible apply belD | with_reducible assumption)) (Nat.le_refl _) hk⟩ ?_
  all_goals
    clear HX HT HM HR
    rintro w8 ⟨⟨n, ver, hn4, hx, hr⟩, ht, hm⟩
    have HX := Lib.hid hx
    have HT := Lib.hid ht
    have HR := Lib.hid hr
    have HM := Lib.hid hm
    clear hx ht hr hm
    have ⟨c_HX, z_HX, f_HX⟩ := HX.out
    have ⟨c_HT, z_HT, f_HT⟩ := HT.out
    go_wp2
    exact bodyPost_ret (v := .agg #[.string name, .int .i64 ver, .slice (some ⟨kf, 0, none⟩) n 4, .bool b]) (by simp [results, Try.results60, go_sem, c_HT]) rfl ⟨⟨name, ver, fileNames.take n, b⟩, kf, n, 4, rfl, site_fresh hn hn4 (by repeat (first | with_reducible exact HR.out | with_reducible refine FilesAt.set ?_ (by omega))), rfl, by simp [fileNames]; omega, by simp [fileNames]; omega, fun f hf => file_names (List.mem_of_mem_take hf), HM.out.low (B := w.heap.size) (by repeat (first | with_reducible exact belR | (with_reducible refine belAB ?_ ?_; focus (first | omega | (simp; done) | (simp; omega))) | (with_reducible refine belS ?_ ?_; focus (first | omega | (simp; done) | (simp; omega))) | with_reducible apply belN | with_reducible apply belD | with_reducible assumption)) (Nat.le_refl _) hk⟩

end Go.Proofs.Yteajhmpppciicaa
