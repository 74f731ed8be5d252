/-
  Closed facts of the row (the heavy ones, second part).
-/
import Derived.Test.YtpppmgfiidlfjaaGreatDoorCards
import Derived.JoinedTies
import Derived.JoinedOf
import Derived.KernelRfl
import Derived.SevenTiedAt
namespace Go.Proofs.YtpppmgfiidlfjaaGreatDoor
open Go
theorem rnJ10 : ((Rows.settleUsualRow.inPlace == Tryz.pinned.checked.prog.inPlace 4)) = true := by kernel_rfl
theorem rnJ11 : ((Rows.settleUsualRow.unfollowed == Tryz.pinned.checked.prog.unfollowed 4)) = true := by kernel_rfl
end Go.Proofs.YtpppmgfiidlfjaaGreatDoor
