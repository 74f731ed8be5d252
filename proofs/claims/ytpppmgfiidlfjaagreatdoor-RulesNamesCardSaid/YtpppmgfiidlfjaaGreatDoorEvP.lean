/-
  Closed facts of the row (the heavy ones, third part).
-/
import Derived.Test.YtpppmgfiidlfjaaGreatDoorCards
import Derived.JoinedTies
import Derived.JoinedOf
import Derived.KernelRfl
import Derived.SevenTiedAt
namespace Go.Proofs.YtpppmgfiidlfjaaGreatDoor
open Go
theorem rnJ12 : ((Rows.rulesNamesRow.recurses == Tryz.pinned.checked.prog.recurses 3)) = true := by kernel_rfl
theorem rnJ13 : ((Rows.rulesNamesRow.named == Tryz.pinned.checked.prog.varsNamed 3)) = true := by kernel_rfl
end Go.Proofs.YtpppmgfiidlfjaaGreatDoor
