/-
  DERIVED. GIVEN WITH THE SEED: THE CARDS: each row of YtbpoaadkjjfmgaaDoorRows.lean that lists a variable, with what it lists TIED to the program's text (the seventh form; the later family's looks); each row that meets fmt, with fmt's text TOLD by the authors' own Lean function (tested against real Go, not proved from fmt's source: count such statements apart). THE CARD IS WHAT COUNTS. Prove the row's statement (the work); the ties are given (YtbpoaadkjjfmgaaDoorTie.lean); close each card by the builder's one call (the guide's Derived/Test/ToyasCard.lean, 'card_holds'). Laid BY PROGRAM, IN A SANDBOX (cutbox-door.mjs). By AI agents, Wed Nov 11 2026. No macro, syntax, notation, axiom, sorry.
-/
import Derived.Test.YtbpoaadkjjfmgaaDoorRows
import GoSem.ClaimSeven
namespace Go.Proofs.YtbpoaadkjjfmgaaDoor
namespace Rows

/-- THE TIED CARD OF 'laws.FnExactCacheSound'. -/
def fnExactCacheSoundCard : Claim7 := { stood := { row := fnExactCacheSoundRow, standIns := [], harness := (true, "af7212c1c38115c0eeb87d94735de2455621d521b3a7bd8c8433fef5aad6e89d"), looks := false }, kinds := [], alts := [], laidByText := true, laidKinds := [.data, .pinned], laidTests := true, laidLooks := .later }
def FnExactCacheSoundCardSaid : Prop := Claim7.holds Tryd.pinned (.plain (OpenSpec.ofChange fnExactCacheSoundSpec)) fnExactCacheSoundCard

/-- THE SECOND FORM's CARD OF 'laws.FnExactCacheSound'. -/
def fnExactCacheSoundUptoCard : Claim7 := { stood := { row := fnExactCacheSoundUptoRow, standIns := [], harness := (true, "af7212c1c38115c0eeb87d94735de2455621d521b3a7bd8c8433fef5aad6e89d"), looks := false }, kinds := [], alts := [], laidByText := true, laidKinds := [.data, .pinned], laidTests := true, laidLooks := .later }
def FnExactCacheSoundUptoCardSaid : Prop := Claim7.holds Tryd.pinned (.plain (OpenSpec.upto fnExactCacheSoundSpec)) fnExactCacheSoundUptoCard
end Rows
end Go.Proofs.YtbpoaadkjjfmgaaDoor
