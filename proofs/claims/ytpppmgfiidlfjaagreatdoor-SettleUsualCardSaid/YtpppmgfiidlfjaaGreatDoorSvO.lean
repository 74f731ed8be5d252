/-
  Closed facts of the row (the light ones).
-/
import Derived.Test.YtpppmgfiidlfjaaGreatDoorCards
import Derived.JoinedTies
import Derived.JoinedOf
import Derived.KernelRfl
import Derived.SevenTiedAt
namespace Go.Proofs.YtpppmgfiidlfjaaGreatDoor
open Go
theorem goes_none {P : Program} (h : P.funcs.toList.any Func.goes = false) (f : FuncId) : P.goes f = false := by
  have h1 : ∀ (g : FuncId), (P.funcs[g]?).any Func.goes = false := fun g => by
    cases hg : P.funcs[g]? with
    | none => rfl
    | some F =>
      have hm : F ∈ P.funcs.toList := List.mem_of_getElem? (by rw [Array.getElem?_toList]; exact hg)
      have := List.any_eq_false.1 h F hm
      simpa using this
  unfold Program.goes
  have h2 : P.funcs.any Func.goes = false := by rw [← Array.any_toList]; exact h
  rw [h2, Bool.and_false, Bool.or_false]
  exact List.any_eq_false.2 fun g _ => by rw [h1 g]; simp
theorem goesBy_none {P : Program} (h : P.funcs.toList.any Func.goes = false) (c : OpenClaim) (hs : c.start = .entering) : false = c.goesBy P := by
  unfold OpenClaim.goesBy Program.goesAt Program.goesFrom
  rw [hs]
  cases hf : P.funcNamed c.func with
  | none => rfl
  | some f => simp [goes_none h f]
theorem aa {a b : Bool} (ha : a = true) (hb : b = true) : (a && b) = true := by rw [ha, hb]; rfl
theorem goesAll : Tryz.prog.funcs.toList.any Func.goes = false := by kernel_rfl
theorem rnInst : Tryz.f4.isInstance Tryz.pinned.checked.prog Rows.settleUsualRow.origin Rows.settleUsualRow.targs := of_decide_eq_true (by kernel_rfl)
theorem rnWrap : Tryz.f4.isWrapper Tryz.pinned.checked.prog Rows.settleUsualRow.wrapper Rows.settleUsualRow.mainSum := by unfold Func.isWrapper; first | (rw [if_pos (by decide +kernel)]; kernel_rfl) | (rw [if_neg (by decide +kernel)]; exact ⟨rfl, rfl⟩)
theorem rnWf : Rows.settleUsualRow.wfByText (OpenSpec.ofChange Rows.settleUsualSpec) = true := by kernel_rfl
theorem rnMain : Tryz.pinned.checked.prog.mainIs = some (true, "e01b00e781218e58d7f8d799cae43b88a3b0a2ae3f1685ae6538e65ef804eab1".toList) := by kernel_rfl
theorem rnStand : ([5].all fun u => !Tryz.pinned.checked.prog.wantsStandIn u) = true := by kernel_rfl
theorem rnJ1 : (Rows.settleUsualRow.wf (OpenSpec.ofChange Rows.settleUsualSpec)) = true := by kernel_rfl
theorem rnJ3 : (mapsRowed Tryz.pinned.checked.prog) = true := by kernel_rfl
theorem rnJ4 : (Tryz.f4.params.all (Tryz.pinned.checked.prog.readableRec ·)) = true := by kernel_rfl
theorem rnJ5 : (namedTie Tryz.pinned.checked.prog Rows.settleUsualRow.named Rows.settleUsualSpec.vars) = true := by kernel_rfl
theorem rnJ6 : ((Rows.settleUsualRow.stops == [])) = true := by kernel_rfl
theorem rnJ7 : ((Tryz.pinned.checked.prog.stops == [])) = true := by kernel_rfl
theorem rnJ8 : ((Rows.settleUsualRow.knobs == [])) = true := by kernel_rfl
theorem rnJ9 : ((Tryz.pinned.checked.prog.stopKnobs == [])) = true := by kernel_rfl
theorem rnJ14 : ((Rows.settleUsualRow.maps == (Tryz.f4.params.toList ++ Rows.settleUsualSpec.plain.varTypes Tryz.pinned.checked.prog).any (Tryz.pinned.checked.prog.mapsRec ·))) = true := by kernel_rfl
theorem rnJ15 : ((Rows.settleUsualRow.ifaces == (Tryz.f4.params.toList ++ Rows.settleUsualSpec.plain.varTypes Tryz.pinned.checked.prog).any (Tryz.pinned.checked.prog.ifacesRec ·))) = true := by kernel_rfl
theorem rnJ16 : ((Rows.settleUsualRow.mapsOut == Tryz.pinned.checked.prog.mapsAmong Tryz.f4.resultTypes.toList)) = true := by kernel_rfl
theorem rnJ17 : ((Rows.settleUsualRow.loops == (Tryz.f4.params.toList ++ Rows.settleUsualSpec.plain.varTypes Tryz.pinned.checked.prog).any (Tryz.pinned.checked.prog.loopsFrom ·))) = true := by kernel_rfl
theorem rnJ18 : ((Rows.settleUsualRow.wideKeys == (Tryz.f4.params.toList ++ Rows.settleUsualSpec.plain.varTypes Tryz.pinned.checked.prog ++ Tryz.f4.resultTypes.toList).any (Tryz.pinned.checked.prog.wideKeysFrom ·))) = true := by kernel_rfl
theorem rnJ19 : (Rows.settleUsualSpec.vars.all (Tryz.pinned.checked.prog.varReadable ·)) = true := by kernel_rfl
theorem rnJ20 : (Tryz.f4.resultTypes.all (fun t => Tryz.pinned.checked.prog.readableRec t && decide (t < Tryz.pinned.checked.prog.types.size))) = true := by kernel_rfl
theorem rnJ21 : ((Rows.settleUsualRow.ifacesOut == Tryz.f4.resultTypes.toList.any (Tryz.pinned.checked.prog.ifacesRec ·))) = true := by kernel_rfl
theorem rnJ22 : ((Rows.settleUsualRow.loopsOut == Tryz.f4.resultTypes.toList.any (Tryz.pinned.checked.prog.loopsFrom ·))) = true := by kernel_rfl
theorem rnJ23 : ((Rows.settleUsualRow.plainKeys == Tryz.pinned.checked.prog.plainKeys)) = true := by kernel_rfl
theorem rnJ24 : (Rows.settleUsualRow.shortTexts.isNone) = true := by kernel_rfl
theorem rnJ27 : ((Rows.settleUsualRow.lifted == Tryz.pinned.checked.prog.liftsFinal)) = true := by kernel_rfl
theorem rnJ28 : ((Tryz.pinned.checked.prog.make == some Rows.settleUsualRow.make)) = true := by kernel_rfl
theorem rnJ29 : ((Rows.settleUsualRow.kinds == (if Rows.settleUsualRow.domain.isEmpty then [] else Tryz.f4.params.toList.map fun t => match Tryz.pinned.checked.prog.underlying t with | some (.int k) => some k | _ => none))) = true := by kernel_rfl
theorem rnJ30 : ((Rows.settleUsualRow.pinned == Rows.settleUsualRow.pinnedBy)) = true := by kernel_rfl
theorem rnJ31 : ((Rows.settleUsualRow.veiled == (Tryz.f4.params.toList ++ Rows.settleUsualSpec.plain.varTypes Tryz.pinned.checked.prog ++ Tryz.f4.resultTypes.toList).any (Tryz.pinned.checked.prog.veiledRec ·))) = true := by kernel_rfl
theorem rnJ32 : (Rows.settleUsualRow.veiledFits Tryz.pinned.checked.prog Tryz.f4.params.toList (Tryz.f4.params.toList ++ Rows.settleUsualSpec.plain.varTypes Tryz.pinned.checked.prog ++ Tryz.f4.resultTypes.toList)) = true := by kernel_rfl
end Go.Proofs.YtpppmgfiidlfjaaGreatDoor
