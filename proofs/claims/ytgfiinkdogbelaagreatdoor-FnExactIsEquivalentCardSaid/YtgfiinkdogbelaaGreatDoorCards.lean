/-
  DERIVED. GIVEN WITH THE SEED: THE CARDS: each row of YtgfiinkdogbelaaGreatDoorRows.lean that lists a variable, with what it lists TIED to the program's text (the seventh form; the later family's looks); each row that meets fmt, with fmt's text TOLD by the authors' own Lean function (tested against real Go, not proved from fmt's source: count such statements apart). THE CARD IS WHAT COUNTS. Prove the row's statement (the work); the ties are given (YtgfiinkdogbelaaGreatDoorTie.lean); close each card by the builder's one call (the guide's Derived/Test/ToyasCard.lean, 'card_holds'). Laid BY PROGRAM, IN A SANDBOX (cutbox-door.mjs). By AI agents, Wed Nov 11 2026. No macro, syntax, notation, axiom, sorry.
-/
import Derived.Test.YtgfiinkdogbelaaGreatDoorRows
import GoSem.ClaimSeven
namespace Go.Proofs.YtgfiinkdogbelaaGreatDoor
namespace Rows

/-- THE TIED CARD OF 'laws.FnExactSameVisits'. -/
def fnExactSameVisitsCard : Claim7 := { stood := { row := fnExactSameVisitsRow, standIns := [], harness := (true, "b2a9bcc59c696e9be3758f16f96117df850cffbac0f293f4eebc556d5d78eaf4"), looks := true }, kinds := [], alts := [], laidByText := true, laidKinds := [.data, .data, .data, .data, .sentinel, .sentinel, .pinned], laidTests := true, laidLooks := .later }
def FnExactSameVisitsCardSaid : Prop := Claim7.holds Tryz.pinned (.plain (OpenSpec.ofChange fnExactSameVisitsSpec)) fnExactSameVisitsCard

/-- THE TIED CARD OF 'laws.FnExactIsEquivalent'. -/
def fnExactIsEquivalentCard : Claim7 := { stood := { row := fnExactIsEquivalentRow, standIns := [], harness := (true, "b2a9bcc59c696e9be3758f16f96117df850cffbac0f293f4eebc556d5d78eaf4"), looks := true }, kinds := [], alts := [], laidByText := true, laidKinds := [.data, .data, .data, .data, .sentinel, .sentinel, .pinned], laidTests := true, laidLooks := .later }
def FnExactIsEquivalentCardSaid : Prop := Claim7.holds Tryz.pinned (.plain (OpenSpec.ofChange fnExactIsEquivalentSpec)) fnExactIsEquivalentCard

/-- THE SECOND FORM's CARD OF 'laws.FnExactSameVisits'. -/
def fnExactSameVisitsUptoCard : Claim7 := { stood := { row := fnExactSameVisitsUptoRow, standIns := [], harness := (true, "b2a9bcc59c696e9be3758f16f96117df850cffbac0f293f4eebc556d5d78eaf4"), looks := true }, kinds := [], alts := [], laidByText := true, laidKinds := [.data, .data, .data, .data, .sentinel, .sentinel, .pinned], laidTests := true, laidLooks := .later }
def FnExactSameVisitsUptoCardSaid : Prop := Claim7.holds Tryz.pinned (.plain (OpenSpec.upto fnExactSameVisitsSpec)) fnExactSameVisitsUptoCard

/-- THE SECOND FORM's CARD OF 'laws.FnExactIsEquivalent'. -/
def fnExactIsEquivalentUptoCard : Claim7 := { stood := { row := fnExactIsEquivalentUptoRow, standIns := [], harness := (true, "b2a9bcc59c696e9be3758f16f96117df850cffbac0f293f4eebc556d5d78eaf4"), looks := true }, kinds := [], alts := [], laidByText := true, laidKinds := [.data, .data, .data, .data, .sentinel, .sentinel, .pinned], laidTests := true, laidLooks := .later }
def FnExactIsEquivalentUptoCardSaid : Prop := Claim7.holds Tryz.pinned (.plain (OpenSpec.upto fnExactIsEquivalentSpec)) fnExactIsEquivalentUptoCard
end Rows
end Go.Proofs.YtgfiinkdogbelaaGreatDoor
