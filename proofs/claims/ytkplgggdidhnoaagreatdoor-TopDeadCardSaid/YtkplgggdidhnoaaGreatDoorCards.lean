/-
  DERIVED. GIVEN WITH THE SEED: THE CARDS: each row of YtkplgggdidhnoaaGreatDoorRows.lean that lists a variable, with what it lists TIED to the program's text (the seventh form; the later family's looks); each row that meets fmt, with fmt's text TOLD by the authors' own Lean function (tested against real Go, not proved from fmt's source: count such statements apart). THE CARD IS WHAT COUNTS. Prove the row's statement (the work); the ties are given (YtkplgggdidhnoaaGreatDoorTie.lean); close each card by the builder's one call (the guide's Derived/Test/ToyasCard.lean, 'card_holds'). Laid BY PROGRAM, IN A SANDBOX (cutbox-door.mjs). By AI agents, Wed Nov 11 2026. No macro, syntax, notation, axiom, sorry.
-/
import Derived.Test.YtkplgggdidhnoaaGreatDoorRows
import GoSem.ClaimSeven
namespace Go.Proofs.YtkplgggdidhnoaaGreatDoor
namespace Rows

/-- THE TIED CARD OF 'pointsmantop.TopOne'. -/
def topOneCard : Claim7 := { stood := { row := topOneRow, standIns := [], harness := (true, "eeeaf83c13e8670083b49034c3ff6a1ecedc554761fb8a9fd6c465afece5afae"), looks := true }, kinds := [], alts := [], laidByText := true, laidKinds := [.data, .pinned], laidTests := true, laidLooks := .later }
def TopOneCardSaid : Prop := Claim7.holds Tryz.pinned (.plain (OpenSpec.ofChange topOneSpec)) topOneCard

/-- THE TIED CARD OF 'pointsmantop.TopCalls'. -/
def topCallsCard : Claim7 := { stood := { row := topCallsRow, standIns := [], harness := (true, "eeeaf83c13e8670083b49034c3ff6a1ecedc554761fb8a9fd6c465afece5afae"), looks := true }, kinds := [], alts := [], laidByText := true, laidKinds := [.data, .pinned], laidTests := true, laidLooks := .later }
def TopCallsCardSaid : Prop := Claim7.holds Tryz.pinned (.plain (OpenSpec.ofChange topCallsSpec)) topCallsCard

/-- THE TIED CARD OF 'pointsmantop.TopForced'. -/
def topForcedCard : Claim7 := { stood := { row := topForcedRow, standIns := [], harness := (true, "eeeaf83c13e8670083b49034c3ff6a1ecedc554761fb8a9fd6c465afece5afae"), looks := true }, kinds := [], alts := [], laidByText := true, laidKinds := [.data, .pinned], laidTests := true, laidLooks := .later }
def TopForcedCardSaid : Prop := Claim7.holds Tryz.pinned (.plain (OpenSpec.ofChange topForcedSpec)) topForcedCard

/-- THE TIED CARD OF 'pointsmantop.TopDead'. -/
def topDeadCard : Claim7 := { stood := { row := topDeadRow, standIns := [], harness := (true, "eeeaf83c13e8670083b49034c3ff6a1ecedc554761fb8a9fd6c465afece5afae"), looks := true }, kinds := [], alts := [], laidByText := true, laidKinds := [.data, .pinned], laidTests := true, laidLooks := .later }
def TopDeadCardSaid : Prop := Claim7.holds Tryz.pinned (.plain (OpenSpec.ofChange topDeadSpec)) topDeadCard

/-- THE SECOND FORM's CARD OF 'pointsmantop.TopOne'. -/
def topOneUptoCard : Claim7 := { stood := { row := topOneUptoRow, standIns := [], harness := (true, "eeeaf83c13e8670083b49034c3ff6a1ecedc554761fb8a9fd6c465afece5afae"), looks := true }, kinds := [], alts := [], laidByText := true, laidKinds := [.data, .pinned], laidTests := true, laidLooks := .later }
def TopOneUptoCardSaid : Prop := Claim7.holds Tryz.pinned (.plain (OpenSpec.upto topOneSpec)) topOneUptoCard

/-- THE SECOND FORM's CARD OF 'pointsmantop.TopCalls'. -/
def topCallsUptoCard : Claim7 := { stood := { row := topCallsUptoRow, standIns := [], harness := (true, "eeeaf83c13e8670083b49034c3ff6a1ecedc554761fb8a9fd6c465afece5afae"), looks := true }, kinds := [], alts := [], laidByText := true, laidKinds := [.data, .pinned], laidTests := true, laidLooks := .later }
def TopCallsUptoCardSaid : Prop := Claim7.holds Tryz.pinned (.plain (OpenSpec.upto topCallsSpec)) topCallsUptoCard

/-- THE SECOND FORM's CARD OF 'pointsmantop.TopForced'. -/
def topForcedUptoCard : Claim7 := { stood := { row := topForcedUptoRow, standIns := [], harness := (true, "eeeaf83c13e8670083b49034c3ff6a1ecedc554761fb8a9fd6c465afece5afae"), looks := true }, kinds := [], alts := [], laidByText := true, laidKinds := [.data, .pinned], laidTests := true, laidLooks := .later }
def TopForcedUptoCardSaid : Prop := Claim7.holds Tryz.pinned (.plain (OpenSpec.upto topForcedSpec)) topForcedUptoCard

/-- THE SECOND FORM's CARD OF 'pointsmantop.TopDead'. -/
def topDeadUptoCard : Claim7 := { stood := { row := topDeadUptoRow, standIns := [], harness := (true, "eeeaf83c13e8670083b49034c3ff6a1ecedc554761fb8a9fd6c465afece5afae"), looks := true }, kinds := [], alts := [], laidByText := true, laidKinds := [.data, .pinned], laidTests := true, laidLooks := .later }
def TopDeadUptoCardSaid : Prop := Claim7.holds Tryz.pinned (.plain (OpenSpec.upto topDeadSpec)) topDeadUptoCard
end Rows
end Go.Proofs.YtkplgggdidhnoaaGreatDoor
