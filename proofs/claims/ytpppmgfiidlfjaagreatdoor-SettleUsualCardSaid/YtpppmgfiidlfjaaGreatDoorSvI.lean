/-
  The sixth and the fifth of these calls, by the kernel.
-/
import Derived.Test.YtpppmgfiidlfjaaGreatDoorSvE
set_option linter.unusedSimpArgs false
set_option linter.unusedVariables false
set_option linter.unusedSectionVars false
namespace Go.Proofs.YtpppmgfiidlfjaaGreatDoor
open Go Sim
set_option maxRecDepth 1000000
theorem next5_run : hChk mach G0 next5 = true := by kernel_rfl
theorem next4_run : hChk mach G0 next4 = true := by kernel_rfl
end Go.Proofs.YtpppmgfiidlfjaaGreatDoor
