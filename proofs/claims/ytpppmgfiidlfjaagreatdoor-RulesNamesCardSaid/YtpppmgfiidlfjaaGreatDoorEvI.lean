/-
  The first 128 arguments, by the kernel.
-/
import Derived.Test.YtpppmgfiidlfjaaGreatDoorEvH
set_option linter.unusedSimpArgs false
set_option linter.unusedVariables false
set_option linter.unusedSectionVars false
namespace Go.Proofs.YtpppmgfiidlfjaaGreatDoor
open Go Sim
set_option maxRecDepth 1000000
theorem values0 : (List.range 32).all (fun i => okAt (0 * 32 + i)) = true := by kernel_rfl
theorem values1 : (List.range 32).all (fun i => okAt (1 * 32 + i)) = true := by kernel_rfl
theorem values2 : (List.range 32).all (fun i => okAt (2 * 32 + i)) = true := by kernel_rfl
theorem values3 : (List.range 32).all (fun i => okAt (3 * 32 + i)) = true := by kernel_rfl
end Go.Proofs.YtpppmgfiidlfjaaGreatDoor
