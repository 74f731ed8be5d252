/-
  awake answers true.
-/
import Derived.Test.YtpppmgfiidlfjaaGreatDoorSvE
import Derived.Test.YtpppmgfiidlfjaaGreatDoorSvH
import Derived.Test.YtpppmgfiidlfjaaGreatDoorSvJ
import Derived.Test.YtpppmgfiidlfjaaGreatDoorSvI
import Derived.Test.YtpppmgfiidlfjaaGreatDoorSvG
import Derived.Test.YtpppmgfiidlfjaaGreatDoorSvF
set_option linter.unusedSimpArgs false
set_option linter.unusedVariables false
set_option linter.unusedSectionVars false
namespace Go.Proofs.YtpppmgfiidlfjaaGreatDoor
open Go Sim
set_option maxRecDepth 1000000
noncomputable def told : List HEnt := [next0, next1, next2, next3, next4, next5, next6, next7]
theorem toldOk : OrcOk Tryz.prog G0 (orcHOf answers told) := orcHOf_ok answersOk told fun x hx => by
  simp only [told, List.mem_cons, List.not_mem_nil, or_false] at hx
  rcases hx with rfl | rfl | rfl | rfl | rfl | rfl | rfl | rfl
  · exact hanswer_of mach_ok next0_run
  · exact hanswer_of mach_ok next1_run
  · exact hanswer_of mach_ok next2_run
  · exact hanswer_of mach_ok next3_run
  · exact hanswer_of mach_ok next4_run
  · exact hanswer_of mach_ok next5_run
  · exact hanswer_of mach_ok next6_run
  · exact hanswer_of mach_ok next7_run
theorem awake_ok : Answer Tryz.prog G0 (10, [], .b true) :=
  sound.answer (orc := orcHOf answers told) (k := 100000) toldOk (by kernel_rfl) (by kernel_rfl) (by kernel_rfl)
end Go.Proofs.YtpppmgfiidlfjaaGreatDoor
