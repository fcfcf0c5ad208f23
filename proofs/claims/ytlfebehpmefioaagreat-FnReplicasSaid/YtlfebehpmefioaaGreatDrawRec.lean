/-
  The draw of any record: what is drawn is small.
-/
import Derived.Test.YtlfebehpmefioaaGreatDrawFam
namespace Go.Proofs.YtlfebehpmefioaaGreat
open Go.RowKit

theorem ReadsOff.below {α : Type} {R : Rep α} {k : Kur} {w w' : World} {cs : List Value} {x : α} (h : ReadsOff R k w cs x) (hb : Below w.heap.size w w') : ReadsOff R k w' cs x := by
  obtain ⟨fp, h, hn⟩ := h
  exact ⟨fp, Rep.frame _ h fun b hb' => hb.block b (Rep.lt _ h b hb'), hn⟩

def anyNames : List ByteArray := [⟨#[]⟩, ⟨#[65]⟩, ⟨#[122, 122, 122, 122, 122, 122, 122, 122, 122]⟩, ⟨#[122]⟩, ⟨#[97]⟩]
def moreNames : List ByteArray := [⟨#[100]⟩, ⟨#[101]⟩, ⟨#[102]⟩, ⟨#[103]⟩, ⟨#[104]⟩, ⟨#[105]⟩]
end Go.Proofs.YtlfebehpmefioaaGreat
