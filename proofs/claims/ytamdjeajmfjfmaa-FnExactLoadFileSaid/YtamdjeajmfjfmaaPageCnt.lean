/-
  How many marks a page bears. No function of the program is named here.
-/
import Derived.Test.YtamdjeajmfjfmaaLPage
namespace Go.Proofs.Ytamdjeajmfjfmaa
open Go.RowKit

theorem machine_mcnt (x : DMachine) : x.mcnt ≤ 4 * x.wt := by
  have h2 := wtT_const DInstr.cnt 4 x.script (fun _ => Nat.le_refl _)
  have h3 := wtT_const cnt1 1 x.regs (fun _ => Nat.le_refl _)
  have h5 := wtS_ge DInstr.wt x.script
  have h6 := wtS_ge wt0 x.regs
  unfold DMachine.mcnt DMachine.wt; omega
theorem page_mcnt (x : DPage) : x.mcnt ≤ 4 * x.wt := by
  have h1 := wtT_const DLoaded.cnt 2 x.loaded (fun _ => Nat.le_refl _)
  have h2 := machine_mcnt x.machine
  have h4 := wtS_ge DLoaded.wt x.loaded
  unfold DPage.mcnt DPage.wt; omega
theorem page_cntS {l : List DPage} (h : wtS DPage.wt l ≤ 1048576) : wtT DPage.cnt l l.length ≤ 400000000 := by
  have := wtT_small DPage.cnt DPage.wt 8 4 8 l (fun x => by
    have h1 := wtT_const DLoaded.cnt 2 x.loaded (fun _ => Nat.le_refl _)
    have h2 := wtT_const DInstr.cnt 4 x.machine.script (fun _ => Nat.le_refl _)
    have h3 := wtT_const cnt1 1 x.machine.regs (fun _ => Nat.le_refl _)
    have h4 := wtS_ge DLoaded.wt x.loaded
    have h5 := wtS_ge DInstr.wt x.machine.script
    have h6 := wtS_ge wt0 x.machine.regs
    unfold DPage.cnt DPage.wt DMachine.wt; omega) (by decide) (by decide)
  omega

end Go.Proofs.Ytamdjeajmfjfmaa
