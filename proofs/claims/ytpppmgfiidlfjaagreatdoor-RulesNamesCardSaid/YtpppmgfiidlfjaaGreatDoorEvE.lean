/-
  The machine with these answers; a state of the call of awake.
-/
import Derived.Test.YtpppmgfiidlfjaaGreatDoorSimS
import Derived.Test.YtpppmgfiidlfjaaGreatDoorEvD
set_option linter.unusedSimpArgs false
set_option linter.unusedVariables false
set_option linter.unusedSectionVars false
namespace Go.Proofs.YtpppmgfiidlfjaaGreatDoor
open Go Sim
set_option maxRecDepth 1000000
noncomputable def answers : List (FuncId × List IV × IV) := [(348, [.s "t".toUTF8], .b true), (348, [.s "a".toUTF8], .b true), (348, [.s "b".toUTF8], .b true)]
theorem answersOk : OrcOk Tryz.prog G0 (orcOf answers) := orcOf_ok answers fun x hx => by
  simp only [answers, List.mem_cons, List.not_mem_nil, or_false] at hx
  rcases hx with rfl | rfl | rfl
  · exact isName_t
  · exact isName_a
  · exact isName_b
noncomputable def mach : Fns := run tyf (fnOf Tryz.prog) (orcOf answers) 100000
noncomputable def fn7 : IFn := (fnOf Tryz.prog 7).getD ⟨0, [], .skip⟩
theorem fn7_isSome : (fnOf Tryz.prog 7).isSome = true := by kernel_rfl
theorem fn7_some : fnOf Tryz.prog 7 = some fn7 := by
  have h := fn7_isSome
  unfold fn7
  cases hh : fnOf Tryz.prog 7 with
  | none => rw [hh] at h; cases h
  | some x => rfl
noncomputable def cut8 : Sim.Lit where
  tmps := [(0, (.b false)), (1, (.p 5 0)), (2, (.p 6 0)), (3, (.sl 11 0 1 1 true 9)), (4, (.p 13 0)), (5, (.p 15 0)), (6, (.sl 22 0 1 1 true 9)), (7, (.p 1188 0)), (8, (.b true)), (9, (.i .i64 (0))), (18, (.agg [(.sl 4 0 1 1 true 5)])), (19, (.agg [(.i .i64 (1)), (.s ("t".toUTF8)), (.i .i64 (0)), (.i .i64 (0)), (.b false), .s0, .s0, .s0, .s0, .s0, .s0, .s0, (.i .i64 (0)), (.i .i64 (0)), .s0])), (20, (.agg [(.i .i64 (1)), (.i .i64 (0)), (.i .i64 (0)), (.i .i64 (0)), (.i .i64 (0)), (.i .i64 (0)), (.s ByteArray.empty), .s0, .s0])), (21, (.agg [(.i .i64 (1)), (.i .i64 (2)), (.i .i64 (0)), (.i .i64 (0)), (.i .i64 (0)), (.i .i64 (0)), (.s ByteArray.empty), .s0, .s0])), (22, (.sl 9 0 2 2 true 9)), (23, (.agg [(.i .i64 (12)), (.i .i64 (0)), (.i .i64 (0)), (.i .i64 (0)), (.i .i64 (0)), (.i .i64 (0)), (.s ByteArray.empty), (.sl 9 0 2 2 true 9), .s0])), (24, (.sl 11 0 1 1 true 9)), (25, (.sl 11 0 1 1 true 9)), (26, (.agg [(.i .i64 (1)), (.s ("t".toUTF8)), (.i .i64 (0)), (.i .i64 (0)), (.b false), .s0, .s0, .s0, .s0, .s0, .s0, .s0, (.i .i64 (0)), (.i .i64 (0)), .s0])), (27, (.agg [(.i .i64 (1)), (.s ("t".toUTF8)), (.i .i64 (0)), (.i .i64 (0)), (.b false), .s0, .s0, .s0, .s0, .s0, .s0, .s0, (.i .i64 (0)), (.i .i64 (0)), .s0])), (28, (.sl 12 0 2 2 true 15)), (29, (.agg [(.i .i64 (5)), (.s ByteArray.empty), (.i .i64 (0)), (.i .i64 (1)), (.b false), .s0, .s0, .s0, (.sl 11 0 1 1 true 9), .s0, .s0, .s0, (.i .i64 (0)), (.i .i64 (0)), (.sl 12 0 2 2 true 15)])), (30, (.sl 11 0 1 1 true 9)), (31, (.agg [(.i .i64 (1)), (.s ("t".toUTF8)), (.i .i64 (0)), (.i .i64 (0)), (.b false), .s0, .s0, .s0, .s0, .s0, .s0, .s0, (.i .i64 (0)), (.i .i64 (0)), .s0])), (32, (.agg [(.i .i64 (1)), (.s ("t".toUTF8)), (.i .i64 (0)), (.i .i64 (0)), (.b false), .s0, .s0, .s0, .s0, .s0, .s0, .s0, (.i .i64 (0)), (.i .i64 (0)), .s0])), (33, (.sl 14 0 2 2 true 15)), (34, (.agg [(.i .i64 (5)), (.s ByteArray.empty), (.i .i64 (0)), (.i .i64 (0)), (.b false), .s0, .s0, .s0, (.sl 11 0 1 1 true 9), .s0, .s0, .s0, (.i .i64 (0)), (.i .i64 (0)), (.sl 14 0 2 2 true 15)])), (35, (.agg [(.i .i64 (1)), (.i .i64 (3)), (.i .i64 (0)), (.i .i64 (0)), (.i .i64 (0)), (.i .i64 (0)), (.s ByteArray.empty), .s0, .s0])), (36, (.agg [(.i .i64 (1)), (.i .i64 (5)), (.s ByteArray.empty)])), (37, (.agg [(.i .i64 (3)), (.i .i64 (0)), (.i .i64 (0)), (.i .i64 (1)), (.i .i64 (1)), (.i .i64 (5)), (.s ByteArray.empty), .s0, .s0])), (38, (.sl 20 0 2 2 true 9)), (39, (.agg [(.i .i64 (16)), (.i .i64 (0)), (.i .i64 (0)), (.i .i64 (0)), (.i .i64 (0)), (.i .i64 (0)), (.s ByteArray.empty), (.sl 20 0 2 2 true 9), .s0])), (40, (.sl 22 0 1 1 true 9)), (41, (.tup [(.agg [(.i .i64 (3)), (.s ByteArray.empty), (.i .i64 (0)), (.i .i64 (0)), (.b false), .s0, .s0, .s0, (.sl 1156 0 1 1 false 9), .s0, .s0, .s0, (.i .i64 (0)), (.i .i64 (0)), (.sl 1186 0 1 1 false 15)]), (.b true), (.i .i64 (0))])), (42, (.agg [(.sl 4 0 1 1 true 5)])), (43, (.sl 22 0 1 1 true 9)), (44, (.agg [(.i .i64 (5)), (.s ByteArray.empty), (.i .i64 (0)), (.i .i64 (1)), (.b false), .s0, .s0, .s0, (.sl 11 0 1 1 true 9), .s0, .s0, .s0, (.i .i64 (0)), (.i .i64 (0)), (.sl 12 0 2 2 true 15)])), (45, (.sl 23 0 1 1 true 15)), (46, (.agg [(.i .i64 (3)), (.s ByteArray.empty), (.i .i64 (0)), (.i .i64 (0)), (.b false), .s0, .s0, .s0, (.sl 22 0 1 1 true 9), .s0, .s0, .s0, (.i .i64 (0)), (.i .i64 (0)), (.sl 23 0 1 1 true 15)])), (47, (.tup [(.agg [(.i .i64 (3)), (.s ByteArray.empty), (.i .i64 (0)), (.i .i64 (0)), (.b false), .s0, .s0, .s0, (.sl 1156 0 1 1 false 9), .s0, .s0, .s0, (.i .i64 (0)), (.i .i64 (0)), (.sl 1186 0 1 1 false 15)]), (.b true), (.i .i64 (0))])), (48, (.agg [(.i .i64 (3)), (.s ByteArray.empty), (.i .i64 (0)), (.i .i64 (0)), (.b false), .s0, .s0, .s0, (.sl 1156 0 1 1 false 9), .s0, .s0, .s0, (.i .i64 (0)), (.i .i64 (0)), (.sl 1186 0 1 1 false 15)])), (49, (.b true)), (50, (.i .i64 (0)))]
  heap := [(1, .cells none [(.s ("a".toUTF8)), (.i .i64 (1)), (.b false), (.s ("b".toUTF8)), (.i .i64 (1)), (.b true)]),
    (2, .cells none [(.i .i64 (0))]),
    (3, .cells none [(.sl 2 0 1 1 true 1)]),
    (4, .cells none [(.s ("t".toUTF8)), (.sl 1 0 2 2 true 3), (.sl 3 0 1 1 true 1), .s0, .s0]),
    (5, .cells none [(.sl 4 0 1 1 true 5)]),
    (6, .cells none [(.i .i64 (1)), (.s ("t".toUTF8)), (.i .i64 (0)), (.i .i64 (0)), (.b false), .s0, .s0, .s0, .s0, .s0, .s0, .s0, (.i .i64 (0)), (.i .i64 (0)), .s0]),
    (9, .cells none [(.i .i64 (1)), (.i .i64 (0)), (.i .i64 (0)), (.i .i64 (0)), (.i .i64 (0)), (.i .i64 (0)), (.s ByteArray.empty), .s0, .s0, (.i .i64 (1)), (.i .i64 (2)), (.i .i64 (0)), (.i .i64 (0)), (.i .i64 (0)), (.i .i64 (0)), (.s ByteArray.empty), .s0, .s0]),
    (11, .cells none [(.i .i64 (12)), (.i .i64 (0)), (.i .i64 (0)), (.i .i64 (0)), (.i .i64 (0)), (.i .i64 (0)), (.s ByteArray.empty), (.sl 9 0 2 2 true 9), .s0]),
    (12, .cells none [(.i .i64 (1)), (.s ("t".toUTF8)), (.i .i64 (0)), (.i .i64 (0)), (.b false), .s0, .s0, .s0, .s0, .s0, .s0, .s0, (.i .i64 (0)), (.i .i64 (0)), .s0, (.i .i64 (1)), (.s ("t".toUTF8)), (.i .i64 (0)), (.i .i64 (0)), (.b false), .s0, .s0, .s0, .s0, .s0, .s0, .s0, (.i .i64 (0)), (.i .i64 (0)), .s0]),
    (13, .cells none [(.i .i64 (5)), (.s ByteArray.empty), (.i .i64 (0)), (.i .i64 (1)), (.b false), .s0, .s0, .s0, (.sl 11 0 1 1 true 9), .s0, .s0, .s0, (.i .i64 (0)), (.i .i64 (0)), (.sl 12 0 2 2 true 15)]),
    (14, .cells none [(.i .i64 (1)), (.s ("t".toUTF8)), (.i .i64 (0)), (.i .i64 (0)), (.b false), .s0, .s0, .s0, .s0, .s0, .s0, .s0, (.i .i64 (0)), (.i .i64 (0)), .s0, (.i .i64 (1)), (.s ("t".toUTF8)), (.i .i64 (0)), (.i .i64 (0)), (.b false), .s0, .s0, .s0, .s0, .s0, .s0, .s0, (.i .i64 (0)), (.i .i64 (0)), .s0]),
    (15, .cells none [(.i .i64 (5)), (.s ByteArray.empty), (.i .i64 (0)), (.i .i64 (0)), (.b false), .s0, .s0, .s0, (.sl 11 0 1 1 true 9), .s0, .s0, .s0, (.i .i64 (0)), (.i .i64 (0)), (.sl 14 0 2 2 true 15)]),
    (20, .cells none [(.i .i64 (1)), (.i .i64 (3)), (.i .i64 (0)), (.i .i64 (0)), (.i .i64 (0)), (.i .i64 (0)), (.s ByteArray.empty), .s0, .s0, (.i .i64 (3)), (.i .i64 (0)), (.i .i64 (0)), (.i .i64 (1)), (.i .i64 (1)), (.i .i64 (5)), (.s ByteArray.empty), .s0, .s0]),
    (22, .cells none [(.i .i64 (16)), (.i .i64 (0)), (.i .i64 (0)), (.i .i64 (0)), (.i .i64 (0)), (.i .i64 (0)), (.s ByteArray.empty), (.sl 20 0 2 2 true 9), .s0]),
    (23, .cells none [(.i .i64 (5)), (.s ByteArray.empty), (.i .i64 (0)), (.i .i64 (1)), (.b false), .s0, .s0, .s0, (.sl 11 0 1 1 true 9), .s0, .s0, .s0, (.i .i64 (0)), (.i .i64 (0)), (.sl 12 0 2 2 true 15)]),
    (1149, .cells (some 1154) [(.i .i64 (1)), (.i .i64 (3)), (.i .i64 (0)), (.i .i64 (0)), (.i .i64 (0)), (.i .i64 (0)), (.s ByteArray.empty), .s0, .s0]),
    (1154, .cells (some 1149) [(.i .i64 (1)), (.i .i64 (3)), (.i .i64 (0)), (.i .i64 (0)), (.i .i64 (0)), (.i .i64 (0)), (.s ByteArray.empty), .s0, .s0, (.i .i64 (3)), (.i .i64 (0)), (.i .i64 (0)), (.i .i64 (1)), (.i .i64 (1)), (.i .i64 (5)), (.s ByteArray.empty), .s0, .s0]),
    (1156, .cells none [(.i .i64 (16)), (.i .i64 (0)), (.i .i64 (0)), (.i .i64 (0)), (.i .i64 (0)), (.i .i64 (0)), (.s ByteArray.empty), (.sl 1154 0 2 2 false 9), .s0]),
    (1167, .cells (some 1172) [(.i .i64 (1)), (.i .i64 (0)), (.i .i64 (0)), (.i .i64 (0)), (.i .i64 (0)), (.i .i64 (0)), (.s ByteArray.empty), .s0, .s0]),
    (1172, .cells (some 1167) [(.i .i64 (1)), (.i .i64 (0)), (.i .i64 (0)), (.i .i64 (0)), (.i .i64 (0)), (.i .i64 (0)), (.s ByteArray.empty), .s0, .s0, (.i .i64 (1)), (.i .i64 (2)), (.i .i64 (0)), (.i .i64 (0)), (.i .i64 (0)), (.i .i64 (0)), (.s ByteArray.empty), .s0, .s0]),
    (1174, .cells none [(.i .i64 (12)), (.i .i64 (0)), (.i .i64 (0)), (.i .i64 (0)), (.i .i64 (0)), (.i .i64 (0)), (.s ByteArray.empty), (.sl 1172 0 2 2 false 9), .s0]),
    (1179, .cells (some 1184) [(.i .i64 (1)), (.s ("t".toUTF8)), (.i .i64 (0)), (.i .i64 (0)), (.b false), .s0, .s0, .s0, .s0, .s0, .s0, .s0, (.i .i64 (0)), (.i .i64 (0)), .s0]),
    (1184, .cells (some 1179) [(.i .i64 (1)), (.s ("t".toUTF8)), (.i .i64 (0)), (.i .i64 (0)), (.b false), .s0, .s0, .s0, .s0, .s0, .s0, .s0, (.i .i64 (0)), (.i .i64 (0)), .s0, (.i .i64 (1)), (.s ("t".toUTF8)), (.i .i64 (0)), (.i .i64 (0)), (.b false), .s0, .s0, .s0, .s0, .s0, .s0, .s0, (.i .i64 (0)), (.i .i64 (0)), .s0]),
    (1186, .cells none [(.i .i64 (5)), (.s ByteArray.empty), (.i .i64 (0)), (.i .i64 (0)), (.b false), .s0, .s0, .s0, (.sl 1174 0 1 1 false 9), .s0, .s0, .s0, (.i .i64 (0)), (.i .i64 (0)), (.sl 1184 0 2 2 false 15)]),
    (1188, .cells none [(.i .i64 (3)), (.s ByteArray.empty), (.i .i64 (0)), (.i .i64 (0)), (.b false), .s0, .s0, .s0, (.sl 1156 0 1 1 false 9), .s0, .s0, .s0, (.i .i64 (0)), (.i .i64 (0)), (.sl 1186 0 1 1 false 15)])]
  nx := 1189
end Go.Proofs.YtpppmgfiidlfjaaGreatDoor
