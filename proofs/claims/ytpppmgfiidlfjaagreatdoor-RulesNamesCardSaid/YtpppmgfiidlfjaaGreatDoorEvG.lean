/-
  The second part of awake, by the kernel.
-/
import Derived.Test.YtpppmgfiidlfjaaGreatDoorEvE
set_option linter.unusedSimpArgs false
set_option linter.unusedVariables false
set_option linter.unusedSectionVars false
namespace Go.Proofs.YtpppmgfiidlfjaaGreatDoor
open Go Sim
set_option maxRecDepth 1000000
theorem awake_2 : ((mach.exec fn7.ntmps (dropSeq 8 fn7.body) cut8.T (cut8.H G0)).bind fun x => (callK tyf fn7 x).map fun y => eqv 2 y.1 (.b true)) = some true := by kernel_rfl
end Go.Proofs.YtpppmgfiidlfjaaGreatDoor
