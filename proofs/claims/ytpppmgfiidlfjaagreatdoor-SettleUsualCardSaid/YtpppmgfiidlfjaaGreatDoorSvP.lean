/-
  Closed facts of the row (the heavy ones, first part).
-/
import Derived.Test.YtpppmgfiidlfjaaGreatDoorCards
import Derived.JoinedTies
import Derived.JoinedOf
import Derived.KernelRfl
import Derived.SevenTiedAt
namespace Go.Proofs.YtpppmgfiidlfjaaGreatDoor
open Go
theorem rnNamed : Tryz.pinned.checked.prog.funcNamed Rows.settleUsualRow.func = some 4 := by kernel_rfl
theorem rnLooks : false = Tryz.pinned.checked.prog.looks [] := by kernel_rfl
theorem rnJ2 : (laidOutB Tryz.pinned.checked.prog) = true := by kernel_rfl
theorem rnJ25 : (Tryz.pinned.checked.prog.stopsHeard) = true := by kernel_rfl
theorem rnJ26 : (Tryz.pinned.checked.prog.mayEnter) = true := by kernel_rfl
end Go.Proofs.YtpppmgfiidlfjaaGreatDoor
