/-
  DERIVED. GIVEN WITH THE SEED: THE CARDS: each row of YtbpoaadkjjfmgaaGreatDoorRows.lean that lists a variable, with what it lists TIED to the program's text (the seventh form; the later family's looks); each row that meets fmt, with fmt's text TOLD by the authors' own Lean function (tested against real Go, not proved from fmt's source: count such statements apart). THE CARD IS WHAT COUNTS. Prove the row's statement (the work); the ties are given (YtbpoaadkjjfmgaaGreatDoorTie.lean); close each card by the builder's one call (the guide's Derived/Test/ToyasCard.lean, 'card_holds'). Laid BY PROGRAM, IN A SANDBOX (cutbox-door.mjs). By AI agents, Wed Nov 11 2026. No macro, syntax, notation, axiom, sorry.
-/
import Derived.Test.YtbpoaadkjjfmgaaGreatDoorRows
import GoSem.ClaimSeven
namespace Go.Proofs.YtbpoaadkjjfmgaaGreatDoor
namespace Rows

/-- THE TIED CARD OF 'laws.FnExactIsWorld'. -/
def fnExactIsWorldCard : Claim7 := { stood := { row := fnExactIsWorldRow, standIns := [], harness := (true, "f34f10f3f0d0d2b0166262c64aaca0cded7f682901cbcf7a46b5c2cc64f74592"), looks := false }, kinds := [], alts := [], laidByText := true, laidKinds := [.data, .pinned], laidTests := true, laidLooks := .later }
def FnExactIsWorldCardSaid : Prop := Claim7.holds Tryz.pinned (.plain (OpenSpec.ofChange fnExactIsWorldSpec)) fnExactIsWorldCard

/-- THE TIED CARD OF 'laws.FnExactAuditWorld'. -/
def fnExactAuditWorldCard : Claim7 := { stood := { row := fnExactAuditWorldRow, standIns := [], harness := (true, "f34f10f3f0d0d2b0166262c64aaca0cded7f682901cbcf7a46b5c2cc64f74592"), looks := false }, kinds := [], alts := [], laidByText := true, laidKinds := [.data, .pinned], laidTests := true, laidLooks := .later }
def FnExactAuditWorldCardSaid : Prop := Claim7.holds Tryz.pinned (.plain (OpenSpec.ofChange fnExactAuditWorldSpec)) fnExactAuditWorldCard

/-- THE SECOND FORM's CARD OF 'laws.FnExactIsWorld'. -/
def fnExactIsWorldUptoCard : Claim7 := { stood := { row := fnExactIsWorldUptoRow, standIns := [], harness := (true, "f34f10f3f0d0d2b0166262c64aaca0cded7f682901cbcf7a46b5c2cc64f74592"), looks := false }, kinds := [], alts := [], laidByText := true, laidKinds := [.data, .pinned], laidTests := true, laidLooks := .later }
def FnExactIsWorldUptoCardSaid : Prop := Claim7.holds Tryz.pinned (.plain (OpenSpec.upto fnExactIsWorldSpec)) fnExactIsWorldUptoCard

/-- THE SECOND FORM's CARD OF 'laws.FnExactAuditWorld'. -/
def fnExactAuditWorldUptoCard : Claim7 := { stood := { row := fnExactAuditWorldUptoRow, standIns := [], harness := (true, "f34f10f3f0d0d2b0166262c64aaca0cded7f682901cbcf7a46b5c2cc64f74592"), looks := false }, kinds := [], alts := [], laidByText := true, laidKinds := [.data, .pinned], laidTests := true, laidLooks := .later }
def FnExactAuditWorldUptoCardSaid : Prop := Claim7.holds Tryz.pinned (.plain (OpenSpec.upto fnExactAuditWorldSpec)) fnExactAuditWorldUptoCard
end Rows
end Go.Proofs.YtbpoaadkjjfmgaaGreatDoor
