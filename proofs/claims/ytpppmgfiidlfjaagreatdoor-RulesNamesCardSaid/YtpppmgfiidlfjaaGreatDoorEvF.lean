/-
  The first part of awake, by the kernel.
-/
import Derived.Test.YtpppmgfiidlfjaaGreatDoorEvE
set_option linter.unusedSimpArgs false
set_option linter.unusedVariables false
set_option linter.unusedSectionVars false
namespace Go.Proofs.YtpppmgfiidlfjaaGreatDoor
open Go Sim
set_option maxRecDepth 1000000
theorem awake_1 : (execs mach fn7.ntmps (takeSeq 8 fn7.body) (enterT 0 [] .e) (H0of G0)).map (litOk fn7.ntmps cut8) = some true := by kernel_rfl
end Go.Proofs.YtpppmgfiidlfjaaGreatDoor
