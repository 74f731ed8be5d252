/-
  The row and its tied card.
-/
import Derived.Test.YtpppmgfiidlfjaaGreatDoorSvM
import Derived.Test.YtpppmgfiidlfjaaGreatDoorSvN
import Derived.Test.YtpppmgfiidlfjaaGreatDoorSvO
import Derived.Test.YtpppmgfiidlfjaaGreatDoorSvP
import Derived.Test.YtpppmgfiidlfjaaGreatDoorSvQ
import Derived.Test.YtpppmgfiidlfjaaGreatDoorSvR
import Derived.Test.YtpppmgfiidlfjaaGreatDoorCards
import Derived.SevenTiedAt
set_option linter.unusedSimpArgs false
set_option linter.unusedVariables false
set_option linter.unusedSectionVars false
namespace Go.Proofs.YtpppmgfiidlfjaaGreatDoor
open Go Go.ChangeShapes Go.WideShapes Go.ChangeAt Go.RowKit

theorem own : ownKnob Tryz.prog.godebug = none := by kernel_rfl

set_option maxRecDepth 100000 in
theorem lifted (os : Os) (started : os.Started) (H : Type) (enc : TypeId × Value → H) :
    ReturnsInHanded {} Tryz.checked os 4 .any (fun w args => (Rows.settleUsualSpec.pre enc Tryz.prog Tryz.f4 Rows.settleUsualRow.domain false w args ∧ laidMetH Tryz.prog Rows.settleUsualRow.laid w) ∧ sizedMet enc Tryz.prog Tryz.f4 (OpenSpec.ofChange Rows.settleUsualSpec) false w args)
      (Rows.settleUsualSpec.post enc Tryz.prog Tryz.f4 false true false false) := by
  refine returnsInHanded_of_change_and (C := Tryz.checked) (X := fun w _ => laidMetH Tryz.prog Rows.settleUsualRow.laid w) (fun _ _ _ hh h => h.of_heap hh) own started (by kernel_rfl) Tryz.func4
    (ChangeSpec.witness_shaped (enc := enc) (C := Tryz.checked) (os := os) (X := fun w _ => laidMetH Tryz.prog Rows.settleUsualRow.laid w) false (World.laidAll Tryz.prog os Rows.settleUsualRow.laid) #[.int .u8 0] 8 (World.laidAll_os _ _ _)
      (World.shaped_of_ZipB (by kernel_rfl) (by kernel_rfl)) (by kernel_rfl) (by kernel_rfl) (by kernel_rfl)
      (by rw [MakeChecks.laidMetH_plain _ _ _ (by kernel_rfl)]; exact laidMet_laidAll _ (by kernel_rfl) (by kernel_rfl))) ?_
  intro W base args ds gs before hval0 hW _ _ hL _
  have hval : ∀ (j : Nat) t v, Tryz.f4.params[j]? = some t → args[j]? = some v → Value.okWide Tryz.prog W .any base t v := hval0
  have hW' := hW
  obtain ⟨p, q, hA0, hV, rfl, _, _⟩ := hW
  have hA : DataW.TrodAll enc Tryz.prog W 0 (fun _ => true) true Tryz.f4.params.toList args.toList ds p := hA0
  rw [Tryz.params4] at hA hval
  obtain ⟨v0, d0, rfl, rfl, h0⟩ := trodAll_one hA
  obtain ⟨rfl, rfl⟩ := trodVars_none hV
  obtain ⟨x, rfl, rfl, rfl, wx⟩ := open_int Tryz.underlying5 (hval 0 5 v0 rfl rfl) h0
  simp only [List.append_nil] at hW'
  refine (walk x wx W hL).mono fun e W' ⟨he, hb⟩ => ?_
  subst he
  exact ⟨_, rfl, _, _, _, [], [], [], hW', trodAll_mk1 (shut_bool Tryz.underlying4 _), trodAll_mk1 (shut_int Tryz.underlying5 wx), rfl, hb.frame _, fun h => by cases h⟩

theorem k29 {a : List (Option IntKind)} {b : Bool} {x : List (Option IntKind)} (ha : a = []) (hb : b = true) : (a == (if b then [] else x)) = true := by
  subst ha hb
  rfl
theorem rnClosed : joinedFacts Tryz.pinned.checked.prog 4 Tryz.f4 Rows.settleUsualSpec Rows.settleUsualRow = true := by
  unfold joinedFacts
  exact aa (aa (aa (aa (aa (aa (aa (aa (aa (aa (aa (aa (aa (aa (aa (aa (aa (aa (aa (aa (aa (aa (aa (aa (aa (aa (aa (aa (aa (aa (aa rnJ1 rnJ2) rnJ3) rnJ4) rnJ5) rnJ6) rnJ7) rnJ8) rnJ9) rnJ10) rnJ11) rnJ12) rnJ13) rnJ14) rnJ15) rnJ16) rnJ17) rnJ18) rnJ19) rnJ20) rnJ21) rnJ22) rnJ23) rnJ24) rnJ25) rnJ26) rnJ27) rnJ28) (k29 rfl rfl)) rnJ30) rnJ31) rnJ32

theorem settleUsualHolds : Rows.SettleUsualSaid :=
  OpenClaim.holds_of_wide 4 Tryz.f4 rfl rfl rfl rfl rfl rfl rfl ⟨rfl, rfl, rfl, rfl, rfl⟩ rfl rfl rfl rfl rfl rnNamed Tryz.func4 rnClosed rnInst rnWrap
    (fun os started H enc _ => lifted os started H enc)

set_option maxRecDepth 100000 in
theorem settleUsualCardHolds : Rows.SettleUsualCardSaid :=
  Claim7.holds_tied_plain_at .later [] [.data, .data, .data, .pinned, .data, .data, .listed] true (true, "e01b00e781218e58d7f8d799cae43b88a3b0a2ae3f1685ae6538e65ef804eab1") false settleUsualHolds (fun _ h => by cases h) rnWf (fun _ h => by cases h) settleUsualRowTie rfl ⟨rfl, rfl⟩ rnMain rfl
    (fun f fn hf hfn => by
      obtain rfl : f = 4 := Option.some.inj (rnNamed.symm.trans hf) |>.symm
      obtain rfl : fn = Tryz.f4 := (Option.some.inj (Tryz.func4.symm.trans hfn)).symm
      exact ⟨rnLooks, fun j t ht => by
        rw [Tryz.params4] at ht
        have hm : t ∈ [5] := by simpa using Array.mem_of_getElem? ht
        have hs := List.all_eq_true.1 rnStand t hm
        simpa using hs⟩)
    (goesBy_none goesAll Rows.settleUsualRow rfl)
#print axioms settleUsualCardHolds
end Go.Proofs.YtpppmgfiidlfjaaGreatDoor
