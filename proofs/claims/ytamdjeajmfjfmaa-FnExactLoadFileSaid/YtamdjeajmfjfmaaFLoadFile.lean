/-
  FnExactLoadFile: for every argument the program's LoadFile returns what the reference's returns. No condition.
-/
import Derived.Test.YtamdjeajmfjfmaaELoadFile
import Derived.Test.YtamdjeajmfjfmaaLoadFile
import Derived.Test.YtamdjeajmfjfmaaPageCnt
namespace Go.Proofs.Ytamdjeajmfjfmaa
open Go.RowKit Go.ChangeShapes

theorem page_lens {x : DPage} (h : x.wt ≤ 1048576) : x.loaded.length ≤ 1048576 ∧ x.machine.script.length ≤ 1048600 ∧ x.machine.regs.length ≤ 1048600 := by
  have h4 := wtS_ge DLoaded.wt x.loaded
  have h5 := wtS_ge DInstr.wt x.machine.script
  have h6 := wtS_ge wt0 x.machine.regs
  unfold DPage.wt DMachine.wt at h
  omega
theorem loadFile_holds : Rows.FnExactLoadFileSaid :=
  loadFile_of loadFileF loadFileB
    (fun cs x p ds r w h h' h1 h2 h3 => specLoadFile cs x p ds r w h h' (page_lens h1).1 (page_lens h1).2.1 (page_lens h1).2.2 (by unfold maxLen; omega))
    (fun cs x p ds r w h h' h1 h2 h3 => implLoadFile cs x p ds r w h h' (page_lens h1).1 (page_lens h1).2.1 (page_lens h1).2.2 (by unfold maxLen; omega))
    (fun x p r h1 h2 h3 => by
      have h4 := page_mcnt x
      unfold loadFileF
      split
      · have h5 := wtT_const DLoaded.cnt 2 (x.loaded ++ [(⟨p, r.version⟩ : DLoaded)]) (fun _ => Nat.le_refl _)
        have h6 := machine_mcnt x.machine
        have h7 := (page_lens h1).1
        have h8 : x.machine.wt ≤ x.wt := by unfold DPage.wt; omega
        show wtT DLoaded.cnt (x.loaded ++ [(⟨p, r.version⟩ : DLoaded)]) (x.loaded ++ [(⟨p, r.version⟩ : DLoaded)]).length + x.machine.mcnt ≤ _
        simp only [List.length_append, List.length_singleton] at *
        omega
      · omega)
    (fun x h1 => by have h4 := page_mcnt x; omega)
    (fun r h3 => by
      have h4 := wtT_const cnt1 1 r.body (fun _ => Nat.le_refl _)
      have h5 := wtS_ge wt0 r.body
      unfold DResponse.mcnt
      unfold DResponse.wt at h3
      omega)

end Go.Proofs.Ytamdjeajmfjfmaa
