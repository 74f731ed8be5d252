/-
  The other ones of these calls, by the kernel.
-/
import Derived.Test.YtpppmgfiidlfjaaGreatDoorSvE
set_option linter.unusedSimpArgs false
set_option linter.unusedVariables false
set_option linter.unusedSectionVars false
namespace Go.Proofs.YtpppmgfiidlfjaaGreatDoor
open Go Sim
set_option maxRecDepth 1000000
theorem next3_run : hChk mach G0 next3 = true := by kernel_rfl
theorem next2_run : hChk mach G0 next2 = true := by kernel_rfl
theorem next0_run : hChk mach G0 next0 = true := by kernel_rfl
end Go.Proofs.YtpppmgfiidlfjaaGreatDoor
