/-
  DERIVED. GIVEN WITH THE SEED: THE CARDS: each row of YtklelmfgdgndaaaGreatDoorRows.lean that lists a variable, with what it lists TIED to the program's text (the seventh form; the later family's looks); each row that meets fmt, with fmt's text TOLD by the authors' own Lean function (tested against real Go, not proved from fmt's source: count such statements apart). THE CARD IS WHAT COUNTS. Prove the row's statement (the work); the ties are given (YtklelmfgdgndaaaGreatDoorTie.lean); close each card by the builder's one call (the guide's Derived/Test/ToyasCard.lean, 'card_holds'). Laid BY PROGRAM, IN A SANDBOX (cutbox-door.mjs). By AI agents, Wed Nov 11 2026. No macro, syntax, notation, axiom, sorry.
-/
import Derived.Test.YtklelmfgdgndaaaGreatDoorRows
import GoSem.ClaimSeven
namespace Go.Proofs.YtklelmfgdgndaaaGreatDoor
namespace Rows

/-- THE TIED CARD OF 'burgesslaw28.WorldOfNothing'. -/
def worldOfNothingCard : Claim7 := { stood := { row := worldOfNothingRow, standIns := [], harness := (true, "3c5506d7c2faa61d5adc65a689e75b7def5d07c0c92e3566ecf48636362e0b0d"), looks := true }, kinds := [], alts := [], laidByText := true, laidKinds := [.data, .data, .data, .pinned, .data, .data, .listed, .sentinel, .sentinel], laidTests := true, laidLooks := .later }
def WorldOfNothingCardSaid : Prop := Claim7.holds Tryz.pinned (.plain (OpenSpec.ofChange worldOfNothingSpec)) worldOfNothingCard

/-- THE SECOND FORM's CARD OF 'burgesslaw28.WorldOfNothing'. -/
def worldOfNothingUptoCard : Claim7 := { stood := { row := worldOfNothingUptoRow, standIns := [], harness := (true, "3c5506d7c2faa61d5adc65a689e75b7def5d07c0c92e3566ecf48636362e0b0d"), looks := true }, kinds := [], alts := [], laidByText := true, laidKinds := [.data, .data, .data, .pinned, .data, .data, .listed, .sentinel, .sentinel], laidTests := true, laidLooks := .later }
def WorldOfNothingUptoCardSaid : Prop := Claim7.holds Tryz.pinned (.plain (OpenSpec.upto worldOfNothingSpec)) worldOfNothingUptoCard
end Rows
end Go.Proofs.YtklelmfgdgndaaaGreatDoor
