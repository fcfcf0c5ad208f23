/-
  Two slices of bytes compared, as the reference does it.
-/
import Derived.Test.YtmknfobkfimggaaBase
import Derived.Laws.BytesArg
namespace Go.Proofs.Ytmknfobkfimggaa
open Go.RowKit

theorem strOfNums_bytes (l : List UInt8) : strOfNums (l.map fun x => (x.toNat : Int)) = ⟨l.toArray⟩ := by
  unfold strOfNums
  congr 2
  rw [List.map_map]
  have : ((fun n : Int => UInt8.ofNat n.toNat) ∘ fun x : UInt8 => (x.toNat : Int)) = id := by funext x; simp
  rw [this, List.map_id]

theorem conv_bytes {P : Program} {src e dst E : TypeId} {w : World} {v : Value} {l : List UInt8} (hs : P.underlying src = some (.slice e)) (he : P.underlying e = some (.int .u8)) (hd : P.underlying dst = some .string)
    (h : Reads (Rep.slice E Rep.byte) w [v] l) : (convert src dst v).run P w = .ok (.string ⟨l.toArray⟩) w := by
  obtain ⟨fp, h⟩ := h
  obtain ⟨ao, cap, rfl, _, _, hu⟩ := slice_flat h
  by_cases h0 : l = []
  · subst h0
    cases ao with
    | none => exact run_convert_bytes_nil w src e hs he _ _ dst hd
    | some a =>
      rw [run_convert_bytes_string w src dst e _ _ _ hs he hd]
      simp [Conv.bytesToString, loadCells]
      rfl
  · have hp : 0 < l.length := List.length_pos_iff.2 h0
    obtain ⟨b, off, rfl, _, _⟩ := hu 0 hp
    rw [← strOfNums_bytes]
    refine run_convert_bytes_arg w src e hs he b off l.length cap _ (by simp) (fun i hi => ?_) dst hd
    obtain ⟨b', off', e1, _, hc⟩ := hu i hi
    simp only [Option.some.injEq, Addr.mk.injEq, and_true] at e1
    obtain ⟨rfl, rfl⟩ := e1
    rw [hc]
    simp [List.getD, List.getElem?_eq_getElem hi]

theorem bytes_inj {l m : List UInt8} : ((⟨l.toArray⟩ : ByteArray) = ⟨m.toArray⟩) ↔ l = m := by
  constructor
  · intro h
    have := congrArg (fun s : ByteArray => s.data.toList) h
    simpa using this
  · rintro rfl; rfl

end Go.Proofs.Ytmknfobkfimggaa
