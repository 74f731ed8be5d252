/-
  Answers of lexicon.IsName.
-/
import Derived.Test.YtpppmgfiidlfjaaGreatDoorSvC
set_option linter.unusedSimpArgs false
set_option linter.unusedVariables false
set_option linter.unusedSectionVars false
namespace Go.Proofs.YtpppmgfiidlfjaaGreatDoor
open Go Sim
set_option maxRecDepth 1000000
theorem isName_t : Answer Tryz.prog G0 (348, [.s "t".toUTF8], .b true) :=
  sound.answer (orc := orcOf []) (k := 100000) (orcOf_ok [] (fun _ h => nomatch h)) (by kernel_rfl) (by kernel_rfl) (by kernel_rfl)
theorem isName_a : Answer Tryz.prog G0 (348, [.s "a".toUTF8], .b true) :=
  sound.answer (orc := orcOf []) (k := 100000) (orcOf_ok [] (fun _ h => nomatch h)) (by kernel_rfl) (by kernel_rfl) (by kernel_rfl)
theorem isName_b : Answer Tryz.prog G0 (348, [.s "b".toUTF8], .b true) :=
  sound.answer (orc := orcOf []) (k := 100000) (orcOf_ok [] (fun _ h => nomatch h)) (by kernel_rfl) (by kernel_rfl) (by kernel_rfl)
end Go.Proofs.YtpppmgfiidlfjaaGreatDoor
