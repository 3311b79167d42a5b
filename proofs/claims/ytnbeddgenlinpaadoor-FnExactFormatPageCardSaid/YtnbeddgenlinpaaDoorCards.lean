/-
  DERIVED. GIVEN WITH THE SEED: THE CARDS: each row of YtnbeddgenlinpaaDoorRows.lean that lists a variable, with what it lists TIED to the program's text (the seventh form; the later family's looks); each row that meets fmt, with fmt's text TOLD by the authors' own Lean function (tested against real Go, not proved from fmt's source: count such statements apart). THE CARD IS WHAT COUNTS. Prove the row's statement (the work); the ties are given (YtnbeddgenlinpaaDoorTie.lean); close each card by the builder's one call (the guide's Derived/Test/ToyasCard.lean, 'card_holds'). Laid BY PROGRAM, IN A SANDBOX (cutbox-door.mjs). By AI agents, Wed Nov 11 2026. No macro, syntax, notation, axiom, sorry.
-/
import Derived.Test.YtnbeddgenlinpaaDoorRows
import GoSem.ClaimSeven
namespace Go.Proofs.YtnbeddgenlinpaaDoor
namespace Rows

/-- THE TIED CARD OF 'laws.FnExactFormatResponse'. -/
def fnExactFormatResponseCard : Claim7 := { stood := { row := fnExactFormatResponseRow, standIns := [], harness := (true, "1ee541d126394c66806bd8fad3aadf7658142ca6db14ac8ee469c5ba88454e50"), looks := false }, kinds := [], alts := [], laidByText := true, laidKinds := [.data, .data, .data], laidTests := true, laidLooks := .later }
def FnExactFormatResponseCardSaid : Prop := Claim7.holds Tryd.pinned (.plain (OpenSpec.ofChange fnExactFormatResponseSpec)) fnExactFormatResponseCard

/-- THE TIED CARD OF 'laws.FnExactFormatCache'. -/
def fnExactFormatCacheCard : Claim7 := { stood := { row := fnExactFormatCacheRow, standIns := [], harness := (true, "1ee541d126394c66806bd8fad3aadf7658142ca6db14ac8ee469c5ba88454e50"), looks := false }, kinds := [], alts := [], laidByText := true, laidKinds := [.data, .data, .data], laidTests := true, laidLooks := .later }
def FnExactFormatCacheCardSaid : Prop := Claim7.holds Tryd.pinned (.plain (OpenSpec.ofChange fnExactFormatCacheSpec)) fnExactFormatCacheCard

/-- THE TIED CARD OF 'laws.FnExactCacheSound'. -/
def fnExactCacheSoundCard : Claim7 := { stood := { row := fnExactCacheSoundRow, standIns := [], harness := (true, "1ee541d126394c66806bd8fad3aadf7658142ca6db14ac8ee469c5ba88454e50"), looks := false }, kinds := [], alts := [], laidByText := true, laidKinds := [.data, .pinned], laidTests := true, laidLooks := .later }
def FnExactCacheSoundCardSaid : Prop := Claim7.holds Tryd.pinned (.plain (OpenSpec.ofChange fnExactCacheSoundSpec)) fnExactCacheSoundCard

/-- THE TIED CARD OF 'laws.FnExactFormatPage'. -/
def fnExactFormatPageCard : Claim7 := { stood := { row := fnExactFormatPageRow, standIns := [], harness := (true, "1ee541d126394c66806bd8fad3aadf7658142ca6db14ac8ee469c5ba88454e50"), looks := false }, kinds := [], alts := [], laidByText := true, laidKinds := [.data, .data, .data], laidTests := true, laidLooks := .later }
def FnExactFormatPageCardSaid : Prop := Claim7.holds Tryd.pinned (.plain (OpenSpec.ofChange fnExactFormatPageSpec)) fnExactFormatPageCard

/-- THE SECOND FORM's CARD OF 'laws.FnExactFormatResponse'. -/
def fnExactFormatResponseUptoCard : Claim7 := { stood := { row := fnExactFormatResponseUptoRow, standIns := [], harness := (true, "1ee541d126394c66806bd8fad3aadf7658142ca6db14ac8ee469c5ba88454e50"), looks := false }, kinds := [], alts := [], laidByText := true, laidKinds := [.data, .data, .data], laidTests := true, laidLooks := .later }
def FnExactFormatResponseUptoCardSaid : Prop := Claim7.holds Tryd.pinned (.plain (OpenSpec.upto fnExactFormatResponseSpec)) fnExactFormatResponseUptoCard

/-- THE SECOND FORM's CARD OF 'laws.FnExactFormatCache'. -/
def fnExactFormatCacheUptoCard : Claim7 := { stood := { row := fnExactFormatCacheUptoRow, standIns := [], harness := (true, "1ee541d126394c66806bd8fad3aadf7658142ca6db14ac8ee469c5ba88454e50"), looks := false }, kinds := [], alts := [], laidByText := true, laidKinds := [.data, .data, .data], laidTests := true, laidLooks := .later }
def FnExactFormatCacheUptoCardSaid : Prop := Claim7.holds Tryd.pinned (.plain (OpenSpec.upto fnExactFormatCacheSpec)) fnExactFormatCacheUptoCard

/-- THE SECOND FORM's CARD OF 'laws.FnExactCacheSound'. -/
def fnExactCacheSoundUptoCard : Claim7 := { stood := { row := fnExactCacheSoundUptoRow, standIns := [], harness := (true, "1ee541d126394c66806bd8fad3aadf7658142ca6db14ac8ee469c5ba88454e50"), looks := false }, kinds := [], alts := [], laidByText := true, laidKinds := [.data, .pinned], laidTests := true, laidLooks := .later }
def FnExactCacheSoundUptoCardSaid : Prop := Claim7.holds Tryd.pinned (.plain (OpenSpec.upto fnExactCacheSoundSpec)) fnExactCacheSoundUptoCard

/-- THE SECOND FORM's CARD OF 'laws.FnExactFormatPage'. -/
def fnExactFormatPageUptoCard : Claim7 := { stood := { row := fnExactFormatPageUptoRow, standIns := [], harness := (true, "1ee541d126394c66806bd8fad3aadf7658142ca6db14ac8ee469c5ba88454e50"), looks := false }, kinds := [], alts := [], laidByText := true, laidKinds := [.data, .data, .data], laidTests := true, laidLooks := .later }
def FnExactFormatPageUptoCardSaid : Prop := Claim7.holds Tryd.pinned (.plain (OpenSpec.upto fnExactFormatPageSpec)) fnExactFormatPageUptoCard
end Rows
end Go.Proofs.YtnbeddgenlinpaaDoor
