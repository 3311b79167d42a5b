/-
  DERIVED. GIVEN WITH THE SEED: THE CARDS: each row of YtmkhgngckgcpeaaGreatDoorRows.lean that lists a variable, with what it lists TIED to the program's text (the seventh form; the later family's looks); each row that meets fmt, with fmt's text TOLD by the authors' own Lean function (tested against real Go, not proved from fmt's source: count such statements apart). THE CARD IS WHAT COUNTS. Prove the row's statement (the work); the ties are given (YtmkhgngckgcpeaaGreatDoorTie.lean); close each card by the builder's one call (the guide's Derived/Test/ToyasCard.lean, 'card_holds'). Laid BY PROGRAM, IN A SANDBOX (cutbox-door.mjs). By AI agents, Wed Nov 11 2026. No macro, syntax, notation, axiom, sorry.
-/
import Derived.Test.YtmkhgngckgcpeaaGreatDoorRows
import GoSem.ClaimSeven
namespace Go.Proofs.YtmkhgngckgcpeaaGreatDoor
namespace Rows

/-- THE TIED CARD OF 'laws.FnFormats'. -/
def fnFormatsCard : Claim7 := { stood := { row := fnFormatsRow, standIns := [], harness := (true, "2225223d516a3f4960951d00a76842f76d3cb58fde96c36f01c3df8b66171fbd"), looks := false }, kinds := [], alts := [], laidByText := true, laidKinds := [.data, .data, .data], laidTests := true, laidLooks := .later }
def FnFormatsCardSaid : Prop := Claim7.holds Tryz.pinned (.plain (OpenSpec.ofChange fnFormatsSpec)) fnFormatsCard

/-- THE SECOND FORM's CARD OF 'laws.FnFormats'. -/
def fnFormatsUptoCard : Claim7 := { stood := { row := fnFormatsUptoRow, standIns := [], harness := (true, "2225223d516a3f4960951d00a76842f76d3cb58fde96c36f01c3df8b66171fbd"), looks := false }, kinds := [], alts := [], laidByText := true, laidKinds := [.data, .data, .data], laidTests := true, laidLooks := .later }
def FnFormatsUptoCardSaid : Prop := Claim7.holds Tryz.pinned (.plain (OpenSpec.upto fnFormatsSpec)) fnFormatsUptoCard
end Rows
end Go.Proofs.YtmkhgngckgcpeaaGreatDoor
