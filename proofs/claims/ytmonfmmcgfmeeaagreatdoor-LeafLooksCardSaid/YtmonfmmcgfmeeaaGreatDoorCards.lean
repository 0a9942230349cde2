/-
  DERIVED. GIVEN WITH THE SEED: THE CARDS: each row of YtmonfmmcgfmeeaaGreatDoorRows.lean that lists a variable, with what it lists TIED to the program's text (the seventh form; the later family's looks); each row that meets fmt, with fmt's text TOLD by the authors' own Lean function (tested against real Go, not proved from fmt's source: count such statements apart). THE CARD IS WHAT COUNTS. Prove the row's statement (the work); the ties are given (YtmonfmmcgfmeeaaGreatDoorTie.lean); close each card by the builder's one call (the guide's Derived/Test/ToyasCard.lean, 'card_holds'). Laid BY PROGRAM, IN A SANDBOX (cutbox-door.mjs). By AI agents, Wed Nov 11 2026. No macro, syntax, notation, axiom, sorry.
-/
import Derived.Test.YtmonfmmcgfmeeaaGreatDoorRows
import GoSem.ClaimSeven
namespace Go.Proofs.YtmonfmmcgfmeeaaGreatDoor
namespace Rows

/-- THE TIED CARD OF 'oubliettelaw31.LeafLooks'. -/
def leafLooksCard : Claim7 := { stood := { row := leafLooksRow, standIns := [], harness := (true, "201a2050fe2e801d53ca3a04fd9db2add57d2806b4b7375b6f68bee56ea0b43c"), looks := false }, kinds := [], alts := [], laidByText := true, laidKinds := [.data, .pinned], laidTests := true, laidLooks := .later }
def LeafLooksCardSaid : Prop := Claim7.holds Tryz.pinned (.plain (OpenSpec.ofChange leafLooksSpec)) leafLooksCard

/-- THE SECOND FORM's CARD OF 'oubliettelaw31.LeafLooks'. -/
def leafLooksUptoCard : Claim7 := { stood := { row := leafLooksUptoRow, standIns := [], harness := (true, "201a2050fe2e801d53ca3a04fd9db2add57d2806b4b7375b6f68bee56ea0b43c"), looks := false }, kinds := [], alts := [], laidByText := true, laidKinds := [.data, .pinned], laidTests := true, laidLooks := .later }
def LeafLooksUptoCardSaid : Prop := Claim7.holds Tryz.pinned (.plain (OpenSpec.upto leafLooksSpec)) leafLooksUptoCard
end Rows
end Go.Proofs.YtmonfmmcgfmeeaaGreatDoor
