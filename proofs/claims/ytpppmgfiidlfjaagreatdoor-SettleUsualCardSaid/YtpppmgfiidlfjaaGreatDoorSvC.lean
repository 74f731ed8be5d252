/-
  The machine of this program is sound.
-/
import Derived.Test.YtpppmgfiidlfjaaGreatDoorSvA
import Derived.Test.YtpppmgfiidlfjaaGreatDoorSvB
set_option linter.unusedSimpArgs false
set_option linter.unusedVariables false
set_option linter.unusedSectionVars false
namespace Go.Proofs.YtpppmgfiidlfjaaGreatDoor
open Go Sim
set_option maxRecDepth 100000
noncomputable def ascii : List IV := (List.range 256).map fun i => .i .u8 (if i == 9 || i == 10 || i == 11 || i == 12 || i == 13 || i == 32 then 1 else 0)
noncomputable def G0 : Tr (List IV) := Tr.set ascii (Sim.bits 0) .e
noncomputable def tt : Tr TI := build tl
noncomputable def tyf (t : TypeId) : Option TI := tt.get (Sim.bits t)
theorem ascii_flat : ascii.all IV.flat = true := by kernel_rfl
theorem sound : Sound Tryz.prog G0 tyf (fnOf Tryz.prog) where
  ty := tysOk_of tlOk
  fns := fnOk_of namesOk
  mixed := mixedOk
  flat := fun g c h => by
    unfold G0 at h
    rw [get_set] at h
    split at h
    · cases h; exact ascii_flat
    · simp at h
end Go.Proofs.YtpppmgfiidlfjaaGreatDoor
