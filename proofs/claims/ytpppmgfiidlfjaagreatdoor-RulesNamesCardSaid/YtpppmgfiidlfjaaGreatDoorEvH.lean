/-
  awake answers true; the test of one argument.
-/
import Derived.Test.YtpppmgfiidlfjaaGreatDoorEvF
import Derived.Test.YtpppmgfiidlfjaaGreatDoorEvG
set_option linter.unusedSimpArgs false
set_option linter.unusedVariables false
set_option linter.unusedSectionVars false
namespace Go.Proofs.YtpppmgfiidlfjaaGreatDoor
open Go Sim
set_option maxRecDepth 1000000
theorem fn7_ok : FnOk Tryz.prog 7 fn7 := fnOk_of namesOk 7 fn7 fn7_some
theorem mach_exec : ExecOk Tryz.prog G0 mach := (sim_run sound.ty sound.fns answersOk (fun _ hr => sim_drawn sound.ty sound.mixed hr) 100000).2.1
theorem fn7_args : Nat.ble ([] : List IV).length fn7.ntmps = true := by kernel_rfl
theorem awake_ok : Answer Tryz.prog G0 (7, [], .b true) := by
  have h1 := awake_1
  have h2 := awake_2
  simp only [Option.map_eq_some_iff] at h1
  obtain ⟨⟨T1, H1⟩, h1, hl⟩ := h1
  rw [Option.bind_eq_some_iff] at h2
  obtain ⟨⟨x, T2, H2⟩, h2, hk⟩ := h2
  have hc := codeOk_part (P := Tryz.prog) (G := G0) (c := dropSeq 8 fn7.body) hl (mach_exec _ _ _ _ _ _ _ h2)
  have hs := codeOk_seqs mach_exec (takeSeq 8 fn7.body) _ _ T1 H1 h1 hc
  rw [seqs_take] at hs
  exact answer_of_code sound.ty sound.flat fn7_ok (args := []) rfl fn7_args rfl hs hk
noncomputable def answers2 : List (FuncId × List IV × IV) := [(7, [], .b true)]
theorem answers2Ok : OrcOk Tryz.prog G0 (orcOf answers2) := orcOf_ok answers2 fun x hx => by
  simp only [answers2, List.mem_cons, List.not_mem_nil, or_false] at hx
  subst hx
  exact awake_ok
noncomputable def mach2 : Fns := run tyf (fnOf Tryz.prog) (orcOf answers2) 100000
noncomputable def okAt (w : Nat) : Bool :=
  match mach2.call 3 [.i .u8 (.ofNat w)] (H0of G0) with
  | some (v, _) => eqv 2 v (.b true)
  | none => false
end Go.Proofs.YtpppmgfiidlfjaaGreatDoor
