/-
  DERIVED. GIVEN WITH THE SEED: THE CARDS: each row of YtkpdfahdgodajaaGreatDoorRows.lean that lists a variable, with what it lists TIED to the program's text (the seventh form; the later family's looks); each row that meets fmt, with fmt's text TOLD by the authors' own Lean function (tested against real Go, not proved from fmt's source: count such statements apart). THE CARD IS WHAT COUNTS. Prove the row's statement (the work); the ties are given (YtkpdfahdgodajaaGreatDoorTie.lean); close each card by the builder's one call (the guide's Derived/Test/ToyasCard.lean, 'card_holds'). Laid BY PROGRAM, IN A SANDBOX (cutbox-door.mjs). By AI agents, Wed Nov 11 2026. No macro, syntax, notation, axiom, sorry.
-/
import Derived.Test.YtkpdfahdgodajaaGreatDoorRows
import GoSem.ClaimSeven
namespace Go.Proofs.YtkpdfahdgodajaaGreatDoor
namespace Rows

/-- THE TIED CARD OF 'barographlaw22.ParseSigns'. -/
def parseSignsCard : Claim7 := { stood := { row := parseSignsRow, standIns := [], harness := (true, "ee988f5d2954225b9360a3ad6a8f0ba1c4574af42f1efed514f39a57dc282581"), looks := true }, kinds := [], alts := [], laidByText := true, laidKinds := [.data, .data, .widerDeep, .widerDeep, .data, .data, .data, .data, .data, .data, .handle, .sentinel, .sentinel, .data, .data, .sentinel, .sentinel, .pinned, .pinned, .pinned, .pinned], laidTests := true, laidLooks := .later }
def ParseSignsCardSaid : Prop := Claim7.holds Tryz.pinned (.plain (OpenSpec.ofChange parseSignsSpec)) parseSignsCard

/-- THE SECOND FORM's CARD OF 'barographlaw22.ParseSigns'. -/
def parseSignsUptoCard : Claim7 := { stood := { row := parseSignsUptoRow, standIns := [], harness := (true, "ee988f5d2954225b9360a3ad6a8f0ba1c4574af42f1efed514f39a57dc282581"), looks := true }, kinds := [], alts := [], laidByText := true, laidKinds := [.data, .data, .widerDeep, .widerDeep, .data, .data, .data, .data, .data, .data, .handle, .sentinel, .sentinel, .data, .data, .sentinel, .sentinel, .pinned, .pinned, .pinned, .pinned], laidTests := true, laidLooks := .later }
def ParseSignsUptoCardSaid : Prop := Claim7.holds Tryz.pinned (.plain (OpenSpec.upto parseSignsSpec)) parseSignsUptoCard
end Rows
end Go.Proofs.YtkpdfahdgodajaaGreatDoor
