/-
  FirstWrite.
-/
import Derived.Test.YteajhmpppciicaaBase
import Derived.Test.YteajhmpppciicaaTFam
namespace Go.Proofs.Yteajhmpppciicaa
open Go.RowKit

def zeroWrite : DWrite := ⟨0, 0, ⟨0, 0, ⟨#[]⟩⟩, ⟨#[]⟩, 0⟩
def firstWriteF (x : DOutbox) : DWrite := x.writes.headD zeroWrite
def firstWriteB (x : DOutbox) : Bool := decide (0 < x.writes.length)

set_option maxHeartbeats 800000 in
theorem implFirstWrite (cs : List Value) (x : DOutbox) (w : World) (h : Reads DOutbox.rep w cs x) :
    Calls Try.prog 10 #[.agg cs.toArray] w fun e w' => ∃ ds, e = .returned (.tuple #[.agg ds.toArray, .bool (firstWriteB x)]) ∧ Fresh DWrite.rep w.heap.size w' ds (firstWriteF x) ∧ Below w.heap.size w w' := by
  obtain ⟨fp, h⟩ := h
  obtain ⟨v1, f1, rfl, _, r1⟩ := DOutbox.rd.1 h
  obtain ⟨ao, c1, rfl, hm, _, hu⟩ := slice_open r1
  have HK : Hid (Reads (Rep.slice 35 DWrite.rep) w [.slice ao x.writes.length c1] x.writes) := ⟨_, r1⟩
  clear hu h r1
  by_cases h0 : 0 < x.writes.length
  · obtain ⟨b, off, cs, rfl, bw, ⟨fe, hr⟩, hcell⟩ := slice_at HK.out 0 h0
    obtain ⟨rfl, _, s0, s1⟩ := DWrite.rd.1 hr
    clear hr
    have q0 : w.cell? ⟨b, off, none⟩ = some (.int .i64 x.writes[0].device) := hcell 0 (by decide)
    have q1 : w.cell? ⟨b, off + 1, none⟩ = some (.int .i64 x.writes[0].seq) := hcell 1 (by decide)
    have q2 : w.cell? ⟨b, off + 2, none⟩ = some (.int .i64 x.writes[0].key.kind) := hcell 2 (by decide)
    have q3 : w.cell? ⟨b, off + 3, none⟩ = some (.int .i64 x.writes[0].key.n) := hcell 3 (by decide)
    have q4 : w.cell? ⟨b, off + 4, none⟩ = some (.string x.writes[0].key.text) := hcell 4 (by decide)
    have q5 : w.cell? ⟨b, off + 5, none⟩ = some (.string x.writes[0].field) := hcell 5 (by decide)
    have q6 : w.cell? ⟨b, off + 6, none⟩ = some (.int .i64 x.writes[0].n) := hcell 6 (by decide)
    clear hcell
    have e1 : firstWriteB x = true := by simp [firstWriteB]; omega
    have e2 : firstWriteF x = x.writes[0] := by unfold firstWriteF; rw [List.headD_eq_head?_getD, List.head?_eq_getElem?, List.getElem?_eq_getElem h0]; rfl
    rw [e1, e2]
    go_enter Try.func10, Try.ntmps10
    go_wp2
    refine bodyPost_ret (v := .tuple #[.agg #[.int .i64 x.writes[0].device, .int .i64 x.writes[0].seq, .int .i64 x.writes[0].key.kind, .int .i64 x.writes[0].key.n, .string x.writes[0].key.text, .string x.writes[0].field, .int .i64 x.writes[0].n], .bool true]) (by simp [results, Try.results10, go_sem]) rfl ⟨_, rfl, ⟨[], DWrite.rd.2 ⟨rfl, rfl, s0, s1⟩, by simp, by simp⟩, (by repeat (first | with_reducible exact belR | with_reducible apply belA | (with_reducible refine belS ?_ ?_; focus (first | omega | (simp; done) | (simp; omega))) | with_reducible apply belN | with_reducible apply belD | with_reducible assumption))⟩
  · have hx : x.writes = [] := List.eq_nil_of_length_eq_zero (by omega)
    have e1 : firstWriteB x = false := by simp [firstWriteB, hx]
    have e2 : firstWriteF x = zeroWrite := by simp [firstWriteF, hx]
    rw [e1, e2]
    go_enter Try.func10, Try.ntmps10
    go_wp2
    refine bodyPost_ret (v := .tuple #[.agg #[.int .i64 0, .int .i64 0, .int .i64 0, .int .i64 0, .string ⟨#[]⟩, .string ⟨#[]⟩, .int .i64 0], .bool false]) (by simp [results, Try.results10, go_sem]) rfl ⟨_, rfl, ⟨[], DWrite.rd.2 ⟨rfl, rfl, by decide, by decide⟩, by simp, by simp⟩, (by repeat (first | with_reducible exact belR | with_reducible apply belA | (with_reducible refine belS ?_ ?_; focus (first | omega | (simp; done) | (simp; omega))) | with_reducible apply belN | with_reducible apply belD | with_reducible assumption))⟩

end Go.Proofs.Yteajhmpppciicaa
