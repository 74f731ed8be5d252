/-
  All arguments, by the kernel.
-/
import Derived.Test.YtpppmgfiidlfjaaGreatDoorSvK
set_option linter.unusedSimpArgs false
set_option linter.unusedVariables false
set_option linter.unusedSectionVars false
namespace Go.Proofs.YtpppmgfiidlfjaaGreatDoor
open Go Sim
set_option maxRecDepth 1000000
noncomputable def answers2 : List (FuncId × List IV × IV) := [(10, [], .b true)]
theorem answers2Ok : OrcOk Tryz.prog G0 (orcOf answers2) := orcOf_ok answers2 fun x hx => by
  simp only [answers2, List.mem_cons, List.not_mem_nil, or_false] at hx
  subst hx
  exact awake_ok
/-- The call of settle.Usual. -/
noncomputable def usual : HEnt where
  f := 8
  args := []
  pre := []
  nx := 0
  v := (.sl 99 0 29 33 false 1)
  post := [(99, .cells none [(.s ("truth".toUTF8)), (.s ("merge".toUTF8)), (.s ("sinkmap".toUTF8)), (.s ("sinkjoin".toUTF8)), (.s ("sinkgroup".toUTF8)), (.s ("sinkunion".toUTF8)), (.s ("sinkset".toUTF8)), (.s ("sinksort".toUTF8)), (.s ("fuse".toUTF8)), (.s ("identity".toUTF8)), (.s ("mapunion".toUTF8)), (.s ("nothing".toUTF8)), (.s ("without".toUTF8)), (.s ("given".toUTF8)), (.s ("inner".toUTF8)), (.s ("drop".toUTF8)), (.s ("tosemi".toUTF8)), (.s ("single".toUTF8)), (.s ("coarse".toUTF8)), (.s ("roll".toUTF8)), (.s ("groupmap".toUTF8)), (.s ("flatten".toUTF8)), (.s ("twice".toUTF8)), (.s ("unsort".toUTF8)), (.s ("none".toUTF8)), (.s ("atmost".toUTF8)), (.s ("keys".toUTF8)), (.s ("values".toUTF8)), (.s ("simple".toUTF8)), (.s ByteArray.empty), (.s ByteArray.empty), (.s ByteArray.empty), (.s ByteArray.empty)])]
  nx' := 100
/-- The call of the reference. -/
noncomputable def wanted : HEnt where
  f := 9
  args := []
  pre := []
  nx := 100
  v := (.sl 158 0 29 29 false 1)
  post := [(156, .cells (some 158) [(.s ("truth".toUTF8)), (.s ("merge".toUTF8)), (.s ("sinkmap".toUTF8)), (.s ("sinkjoin".toUTF8)), (.s ("sinkgroup".toUTF8)), (.s ("sinkunion".toUTF8)), (.s ("sinkset".toUTF8)), (.s ("sinksort".toUTF8)), (.s ("fuse".toUTF8)), (.s ("identity".toUTF8)), (.s ("mapunion".toUTF8)), (.s ("nothing".toUTF8)), (.s ("without".toUTF8)), (.s ("given".toUTF8)), (.s ("inner".toUTF8)), (.s ("drop".toUTF8)), (.s ("tosemi".toUTF8)), (.s ("single".toUTF8)), (.s ("coarse".toUTF8)), (.s ("roll".toUTF8)), (.s ("groupmap".toUTF8)), (.s ("flatten".toUTF8)), (.s ("twice".toUTF8)), (.s ("unsort".toUTF8)), (.s ("none".toUTF8)), (.s ("atmost".toUTF8)), (.s ("keys".toUTF8)), (.s ("values".toUTF8))]),
    (158, .cells (some 156) [(.s ("truth".toUTF8)), (.s ("merge".toUTF8)), (.s ("sinkmap".toUTF8)), (.s ("sinkjoin".toUTF8)), (.s ("sinkgroup".toUTF8)), (.s ("sinkunion".toUTF8)), (.s ("sinkset".toUTF8)), (.s ("sinksort".toUTF8)), (.s ("fuse".toUTF8)), (.s ("identity".toUTF8)), (.s ("mapunion".toUTF8)), (.s ("nothing".toUTF8)), (.s ("without".toUTF8)), (.s ("given".toUTF8)), (.s ("inner".toUTF8)), (.s ("drop".toUTF8)), (.s ("tosemi".toUTF8)), (.s ("single".toUTF8)), (.s ("coarse".toUTF8)), (.s ("roll".toUTF8)), (.s ("groupmap".toUTF8)), (.s ("flatten".toUTF8)), (.s ("twice".toUTF8)), (.s ("unsort".toUTF8)), (.s ("none".toUTF8)), (.s ("atmost".toUTF8)), (.s ("keys".toUTF8)), (.s ("values".toUTF8)), (.s ("simple".toUTF8))])]
  nx' := 159
theorem usual_run : hChk mach G0 usual = true := by kernel_rfl
theorem wanted_run : hChk mach G0 wanted = true := by kernel_rfl
noncomputable def told2 : List HEnt := [usual, wanted]
theorem told2Ok : OrcOk Tryz.prog G0 (orcHOf answers2 told2) := orcHOf_ok answers2Ok told2 fun x hx => by
  simp only [told2, List.mem_cons, List.not_mem_nil, or_false] at hx
  rcases hx with rfl | rfl
  · exact hanswer_of mach_ok usual_run
  · exact hanswer_of mach_ok wanted_run
noncomputable def mach2 : Fns := run tyf (fnOf Tryz.prog) (orcHOf answers2 told2) 100000
noncomputable def okAt (w : Nat) : Bool :=
  match mach2.call 4 [.i .u8 (.ofNat w)] (H0of G0) with
  | some (v, _) => eqv 2 v (.b true)
  | none => false
theorem values : (List.range 256).all okAt = true := by kernel_rfl
end Go.Proofs.YtpppmgfiidlfjaaGreatDoor
