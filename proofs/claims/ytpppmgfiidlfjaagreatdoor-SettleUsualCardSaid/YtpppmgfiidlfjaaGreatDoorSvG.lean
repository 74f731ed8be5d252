/-
  The seventh of these calls, by the kernel.
-/
import Derived.Test.YtpppmgfiidlfjaaGreatDoorSvE
set_option linter.unusedSimpArgs false
set_option linter.unusedVariables false
set_option linter.unusedSectionVars false
namespace Go.Proofs.YtpppmgfiidlfjaaGreatDoor
open Go Sim
set_option maxRecDepth 1000000
theorem next6_run : hChk mach G0 next6 = true := by kernel_rfl
end Go.Proofs.YtpppmgfiidlfjaaGreatDoor
