/-
  The other 128 arguments, by the kernel.
-/
import Derived.Test.YtpppmgfiidlfjaaGreatDoorEvH
set_option linter.unusedSimpArgs false
set_option linter.unusedVariables false
set_option linter.unusedSectionVars false
namespace Go.Proofs.YtpppmgfiidlfjaaGreatDoor
open Go Sim
set_option maxRecDepth 1000000
theorem values4 : (List.range 32).all (fun i => okAt (4 * 32 + i)) = true := by kernel_rfl
theorem values5 : (List.range 32).all (fun i => okAt (5 * 32 + i)) = true := by kernel_rfl
theorem values6 : (List.range 32).all (fun i => okAt (6 * 32 + i)) = true := by kernel_rfl
theorem values7 : (List.range 32).all (fun i => okAt (7 * 32 + i)) = true := by kernel_rfl
end Go.Proofs.YtpppmgfiidlfjaaGreatDoor
