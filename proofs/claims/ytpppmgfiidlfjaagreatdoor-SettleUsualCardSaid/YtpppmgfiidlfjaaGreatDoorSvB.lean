/-
  Facts on the names of the functions and on the orders.
-/
import Derived.Test.YtpppmgfiidlfjaaGreatDoorSuR
import Derived.Test.YtpppmgfiidlfjaaGreatDoorRows
import Derived.KernelRfl
set_option linter.unusedSimpArgs false
set_option linter.unusedVariables false
set_option linter.unusedSectionVars false
namespace Go.Proofs.YtpppmgfiidlfjaaGreatDoor
open Go Sim
theorem namesOk : Tryz.prog.funcs.toList.all nameOk = true := by kernel_rfl
theorem mixedOk : Tryz.prog.follows .mixedOrders = true := by kernel_rfl
end Go.Proofs.YtpppmgfiidlfjaaGreatDoor
