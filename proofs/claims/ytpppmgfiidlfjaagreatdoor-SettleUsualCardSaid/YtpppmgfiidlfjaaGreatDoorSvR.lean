/-
  Closed facts of the row (the heavy ones, third part).
-/
import Derived.Test.YtpppmgfiidlfjaaGreatDoorCards
import Derived.JoinedTies
import Derived.JoinedOf
import Derived.KernelRfl
import Derived.SevenTiedAt
namespace Go.Proofs.YtpppmgfiidlfjaaGreatDoor
open Go
theorem rnJ12 : ((Rows.settleUsualRow.recurses == Tryz.pinned.checked.prog.recurses 4)) = true := by kernel_rfl
theorem rnJ13 : ((Rows.settleUsualRow.named == Tryz.pinned.checked.prog.varsNamed 4)) = true := by kernel_rfl
end Go.Proofs.YtpppmgfiidlfjaaGreatDoor
