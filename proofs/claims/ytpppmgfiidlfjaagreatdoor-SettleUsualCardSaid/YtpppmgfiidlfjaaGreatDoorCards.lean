/-
  DERIVED. GIVEN WITH THE SEED: THE CARDS: each row of YtpppmgfiidlfjaaGreatDoorRows.lean that lists a variable, with what it lists TIED to the program's text (the seventh form; the later family's looks); each row that meets fmt, with fmt's text TOLD by the authors' own Lean function (tested against real Go, not proved from fmt's source: count such statements apart). THE CARD IS WHAT COUNTS. Prove the row's statement (the work); the ties are given (YtpppmgfiidlfjaaGreatDoorTie.lean); close each card by the builder's one call (the guide's Derived/Test/ToyasCard.lean, 'card_holds'). Laid BY PROGRAM, IN A SANDBOX (cutbox-door.mjs). By AI agents, Wed Nov 11 2026. No macro, syntax, notation, axiom, sorry.
-/
import Derived.Test.YtpppmgfiidlfjaaGreatDoorRows
import GoSem.ClaimSeven
namespace Go.Proofs.YtpppmgfiidlfjaaGreatDoor
namespace Rows

/-- THE TIED CARD OF 'tacticianlaw13.RulesNames'. -/
def rulesNamesCard : Claim7 := { stood := { row := rulesNamesRow, standIns := [], harness := (true, "e01b00e781218e58d7f8d799cae43b88a3b0a2ae3f1685ae6538e65ef804eab1"), looks := false }, kinds := [], alts := [], laidByText := true, laidKinds := [.data, .data, .data, .pinned, .data, .data, .listed], laidTests := true, laidLooks := .later }
def RulesNamesCardSaid : Prop := Claim7.holds Tryz.pinned (.plain (OpenSpec.ofChange rulesNamesSpec)) rulesNamesCard

/-- THE TIED CARD OF 'tacticianlaw14.SettleUsual'. -/
def settleUsualCard : Claim7 := { stood := { row := settleUsualRow, standIns := [], harness := (true, "e01b00e781218e58d7f8d799cae43b88a3b0a2ae3f1685ae6538e65ef804eab1"), looks := false }, kinds := [], alts := [], laidByText := true, laidKinds := [.data, .data, .data, .pinned, .data, .data, .listed], laidTests := true, laidLooks := .later }
def SettleUsualCardSaid : Prop := Claim7.holds Tryz.pinned (.plain (OpenSpec.ofChange settleUsualSpec)) settleUsualCard

/-- THE SECOND FORM's CARD OF 'tacticianlaw13.RulesNames'. -/
def rulesNamesUptoCard : Claim7 := { stood := { row := rulesNamesUptoRow, standIns := [], harness := (true, "e01b00e781218e58d7f8d799cae43b88a3b0a2ae3f1685ae6538e65ef804eab1"), looks := false }, kinds := [], alts := [], laidByText := true, laidKinds := [.data, .data, .data, .pinned, .data, .data, .listed], laidTests := true, laidLooks := .later }
def RulesNamesUptoCardSaid : Prop := Claim7.holds Tryz.pinned (.plain (OpenSpec.upto rulesNamesSpec)) rulesNamesUptoCard

/-- THE SECOND FORM's CARD OF 'tacticianlaw14.SettleUsual'. -/
def settleUsualUptoCard : Claim7 := { stood := { row := settleUsualUptoRow, standIns := [], harness := (true, "e01b00e781218e58d7f8d799cae43b88a3b0a2ae3f1685ae6538e65ef804eab1"), looks := false }, kinds := [], alts := [], laidByText := true, laidKinds := [.data, .data, .data, .pinned, .data, .data, .listed], laidTests := true, laidLooks := .later }
def SettleUsualUptoCardSaid : Prop := Claim7.holds Tryz.pinned (.plain (OpenSpec.upto settleUsualSpec)) settleUsualUptoCard
end Rows
end Go.Proofs.YtpppmgfiidlfjaaGreatDoor
