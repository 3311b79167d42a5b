/-
  No cell of these rows narrows 'for every input' (looked for: loops, veiled, ifaces, maps, wideKeys, modest, calm, conditions, laid).
  DERIVED. THE GIVEN ROWS OF THIS SEAT. 8 by the template 'for every input the law returns true; each argument reads behind the call as it read before'; 0 by the template 'total and deterministic' (their statements: YtnbeddgenlinpaaTotals.lean).
  GIVEN WITH THE SEED: the statements are not yours to turn. If you find one false, say at which input.
  Laid BY PROGRAM, IN A SANDBOX (cutbox-rows.mjs): the forced cells as the released guide's own fill.sh prints them over the translation 53f9d3131776ace1… (all of the seat's roots in one cut). By AI agents, Wed Nov 11 2026. No macro, syntax, notation, axiom, sorry.
-/
import Derived.Test.YtnbeddgenlinpaaChecked
import GoSem.Claim
import GoSem.ClaimJoined
import GoSem.ClaimMapViews
import Derived.JoinedTies
import Derived.KernelRfl
namespace Go.Proofs.Ytnbeddgenlinpaa
/- THE CELL 'sum', in the pinned program and in every row, IS THE sha256 OF THE DUMP (.gsa) THAT YtnbeddgenlinpaaProg.lean LOADS. Nothing in Lean hashes anything: it is a label: what it is worth is what the hold of that sum in a sandbox is worth. -/
noncomputable def Try.pinned : Pinned := { name := "ytnbeddgenlinpaa", sum := "53f9d3131776ace14b5f52c96dfd834e00a9c9f87bfa786138cab764aad90b30", checked := Try.checked }
namespace Rows
def none {H : Type} : Left H := { results := [], args := [] }

/-- 'laws.FnExactSameCaches': WHATEVER THE INPUT: true; the input reads as it did. -/
def fnExactSameCachesSpec : ChangeSpec := { name := "fnExactSameCaches", fn := fun _ => fun
  | [d1, d2] => { results := [.lit (.bool true)], args := [d1, d2] }
  | _ => none }
def fnExactSameCachesRow : OpenClaim := { program := "ytnbeddgenlinpaa", sum := "53f9d3131776ace14b5f52c96dfd834e00a9c9f87bfa786138cab764aad90b30", func := "loop.example/g00586/laws.FnExactSameCaches", spec := "fnExactSameCaches", apart := false }
def FnExactSameCachesSaid : Prop := fnExactSameCachesRow.holds Try.pinned (OpenSpec.ofChange fnExactSameCachesSpec)

/-- ITS FALSE NEIGHBOUR: 'it returns false'. Refute it at one input. -/
def fnExactSameCachesWrong : ChangeSpec := { name := "fnExactSameCaches", fn := fun _ => fun
  | [d1, d2] => { results := [.lit (.bool false)], args := [d1, d2] }
  | _ => none }
def FnExactSameCachesWrongFalsely : Prop := fnExactSameCachesRow.holds Try.pinned (OpenSpec.ofChange fnExactSameCachesWrong)

/-- 'laws.FnExactStandardServers': WHATEVER THE INPUT: true; the input reads as it did. -/
def fnExactStandardServersSpec : ChangeSpec := { name := "fnExactStandardServers", fn := fun _ => fun
  | [] => { results := [.lit (.bool true)], args := [] }
  | _ => none }
def fnExactStandardServersRow : OpenClaim := { program := "ytnbeddgenlinpaa", sum := "53f9d3131776ace14b5f52c96dfd834e00a9c9f87bfa786138cab764aad90b30", func := "loop.example/g00586/laws.FnExactStandardServers", spec := "fnExactStandardServers", apart := false }
def FnExactStandardServersSaid : Prop := fnExactStandardServersRow.holds Try.pinned (OpenSpec.ofChange fnExactStandardServersSpec)

/-- ITS FALSE NEIGHBOUR: 'it returns false'. Refute it at one input. -/
def fnExactStandardServersWrong : ChangeSpec := { name := "fnExactStandardServers", fn := fun _ => fun
  | [] => { results := [.lit (.bool false)], args := [] }
  | _ => none }
def FnExactStandardServersWrongFalsely : Prop := fnExactStandardServersRow.holds Try.pinned (OpenSpec.ofChange fnExactStandardServersWrong)

/-- 'laws.FnExactGuessesSound': WHATEVER THE INPUT: true; the input reads as it did. -/
def fnExactGuessesSoundSpec : ChangeSpec := { name := "fnExactGuessesSound", fn := fun _ => fun
  | [d] => { results := [.lit (.bool true)], args := [d] }
  | _ => none }
def fnExactGuessesSoundRow : OpenClaim := { program := "ytnbeddgenlinpaa", sum := "53f9d3131776ace14b5f52c96dfd834e00a9c9f87bfa786138cab764aad90b30", func := "loop.example/g00586/laws.FnExactGuessesSound", spec := "fnExactGuessesSound", unfollowed := true, recurses := true, apart := false }
def FnExactGuessesSoundSaid : Prop := fnExactGuessesSoundRow.holds Try.pinned (OpenSpec.ofChange fnExactGuessesSoundSpec)

/-- ITS FALSE NEIGHBOUR: 'it returns false'. Refute it at one input. -/
def fnExactGuessesSoundWrong : ChangeSpec := { name := "fnExactGuessesSound", fn := fun _ => fun
  | [d] => { results := [.lit (.bool false)], args := [d] }
  | _ => none }
def FnExactGuessesSoundWrongFalsely : Prop := fnExactGuessesSoundRow.holds Try.pinned (OpenSpec.ofChange fnExactGuessesSoundWrong)

/-- 'laws.FnExactGuessedFor': WHATEVER THE INPUT: true; the input reads as it did. -/
def fnExactGuessedForSpec : ChangeSpec := { name := "fnExactGuessedFor", fn := fun _ => fun
  | [d1, d2] => { results := [.lit (.bool true)], args := [d1, d2] }
  | _ => none }
def fnExactGuessedForRow : OpenClaim := { program := "ytnbeddgenlinpaa", sum := "53f9d3131776ace14b5f52c96dfd834e00a9c9f87bfa786138cab764aad90b30", func := "loop.example/g00586/laws.FnExactGuessedFor", spec := "fnExactGuessedFor", apart := false }
def FnExactGuessedForSaid : Prop := fnExactGuessedForRow.holds Try.pinned (OpenSpec.ofChange fnExactGuessedForSpec)

/-- ITS FALSE NEIGHBOUR: 'it returns false'. Refute it at one input. -/
def fnExactGuessedForWrong : ChangeSpec := { name := "fnExactGuessedFor", fn := fun _ => fun
  | [d1, d2] => { results := [.lit (.bool false)], args := [d1, d2] }
  | _ => none }
def FnExactGuessedForWrongFalsely : Prop := fnExactGuessedForRow.holds Try.pinned (OpenSpec.ofChange fnExactGuessedForWrong)

/-- 'laws.FnExactKeptLoaded': WHATEVER THE INPUT: true; the input reads as it did. -/
def fnExactKeptLoadedSpec : ChangeSpec := { name := "fnExactKeptLoaded", fn := fun _ => fun
  | [d] => { results := [.lit (.bool true)], args := [d] }
  | _ => none }
def fnExactKeptLoadedRow : OpenClaim := { program := "ytnbeddgenlinpaa", sum := "53f9d3131776ace14b5f52c96dfd834e00a9c9f87bfa786138cab764aad90b30", func := "loop.example/g00586/laws.FnExactKeptLoaded", spec := "fnExactKeptLoaded", apart := false }
def FnExactKeptLoadedSaid : Prop := fnExactKeptLoadedRow.holds Try.pinned (OpenSpec.ofChange fnExactKeptLoadedSpec)

/-- ITS FALSE NEIGHBOUR: 'it returns false'. Refute it at one input. -/
def fnExactKeptLoadedWrong : ChangeSpec := { name := "fnExactKeptLoaded", fn := fun _ => fun
  | [d] => { results := [.lit (.bool false)], args := [d] }
  | _ => none }
def FnExactKeptLoadedWrongFalsely : Prop := fnExactKeptLoadedRow.holds Try.pinned (OpenSpec.ofChange fnExactKeptLoadedWrong)

/-- 'laws.FnExactFormatTab': WHATEVER THE INPUT: true; the input reads as it did. -/
def fnExactFormatTabSpec : ChangeSpec := { name := "fnExactFormatTab", fn := fun _ => fun
  | [d] => { results := [.lit (.bool true)], args := [d] }
  | _ => none }
def fnExactFormatTabRow : OpenClaim := { program := "ytnbeddgenlinpaa", sum := "53f9d3131776ace14b5f52c96dfd834e00a9c9f87bfa786138cab764aad90b30", func := "loop.example/g00586/laws.FnExactFormatTab", spec := "fnExactFormatTab", inPlace := ["internal/abi.NoEscape", "internal/bytealg.MakeNoZero"], apart := false }
def FnExactFormatTabSaid : Prop := fnExactFormatTabRow.holds Try.pinned (OpenSpec.ofChange fnExactFormatTabSpec)

/-- ITS FALSE NEIGHBOUR: 'it returns false'. Refute it at one input. -/
def fnExactFormatTabWrong : ChangeSpec := { name := "fnExactFormatTab", fn := fun _ => fun
  | [d] => { results := [.lit (.bool false)], args := [d] }
  | _ => none }
def FnExactFormatTabWrongFalsely : Prop := fnExactFormatTabRow.holds Try.pinned (OpenSpec.ofChange fnExactFormatTabWrong)

/-- 'laws.FnExactTopsAround': WHATEVER THE INPUT: true; the input reads as it did. -/
def fnExactTopsAroundSpec : ChangeSpec := { name := "fnExactTopsAround", fn := fun _ => fun
  | [d1, d2] => { results := [.lit (.bool true)], args := [d1, d2] }
  | _ => none }
def fnExactTopsAroundRow : OpenClaim := { program := "ytnbeddgenlinpaa", sum := "53f9d3131776ace14b5f52c96dfd834e00a9c9f87bfa786138cab764aad90b30", func := "loop.example/g00586/laws.FnExactTopsAround", spec := "fnExactTopsAround", unfollowed := true, recurses := true, apart := false }
def FnExactTopsAroundSaid : Prop := fnExactTopsAroundRow.holds Try.pinned (OpenSpec.ofChange fnExactTopsAroundSpec)

/-- ITS FALSE NEIGHBOUR: 'it returns false'. Refute it at one input. -/
def fnExactTopsAroundWrong : ChangeSpec := { name := "fnExactTopsAround", fn := fun _ => fun
  | [d1, d2] => { results := [.lit (.bool false)], args := [d1, d2] }
  | _ => none }
def FnExactTopsAroundWrongFalsely : Prop := fnExactTopsAroundRow.holds Try.pinned (OpenSpec.ofChange fnExactTopsAroundWrong)

/-- 'laws.FnExactCrossLearned': WHATEVER THE INPUT: true; the input reads as it did. -/
def fnExactCrossLearnedSpec : ChangeSpec := { name := "fnExactCrossLearned", fn := fun _ => fun
  | [d1, d2] => { results := [.lit (.bool true)], args := [d1, d2] }
  | _ => none }
def fnExactCrossLearnedRow : OpenClaim := { program := "ytnbeddgenlinpaa", sum := "53f9d3131776ace14b5f52c96dfd834e00a9c9f87bfa786138cab764aad90b30", func := "loop.example/g00586/laws.FnExactCrossLearned", spec := "fnExactCrossLearned", inPlace := ["internal/bytealg.abigen_runtime_cmpstring"], unfollowed := true, recurses := true, apart := false }
def FnExactCrossLearnedSaid : Prop := fnExactCrossLearnedRow.holds Try.pinned (OpenSpec.ofChange fnExactCrossLearnedSpec)

/-- ITS FALSE NEIGHBOUR: 'it returns false'. Refute it at one input. -/
def fnExactCrossLearnedWrong : ChangeSpec := { name := "fnExactCrossLearned", fn := fun _ => fun
  | [d1, d2] => { results := [.lit (.bool false)], args := [d1, d2] }
  | _ => none }
def FnExactCrossLearnedWrongFalsely : Prop := fnExactCrossLearnedRow.holds Try.pinned (OpenSpec.ofChange fnExactCrossLearnedWrong)

/- THE SECOND FORM. 'bulk': how many values and letters a reading holds, each counted each time it is reached (what is shared counts as often as it is met; a slice's spare places count too). A statement '..UptoSaid' is the law's where the arguments, and the package variables that the reading takes, are together of bulk at most 1048576: NARROWER than '..Said'. Prove '..Said' where nothing that the law and all that it calls make is longer than what came in: it says more and counts as full. Else prove '..UptoSaid'. A law counts once. -/
mutual
def uptoBulk {H : Type} : DataW H → Nat
  | .lit (.string bytes) => bytes.length + 1
  | .lit _ => 1
  | .nil => 1
  | .ptr d => uptoBulk d + 1
  | .slice elems spare => uptoBulkAll elems + uptoBulkAll spare + 1
  | .agg parts => uptoBulkAll parts + 1
  | .iface _ d => uptoBulk d + 1
  | .map entries => uptoBulkEntries entries + 1
  | .held _ => 1
def uptoBulkAll {H : Type} : List (DataW H) → Nat
  | [] => 0
  | d :: r => uptoBulk d + uptoBulkAll r
def uptoBulkEntries {H : Type} : List (Lit × DataW H) → Nat
  | [] => 0
  | x :: r => uptoBulkEntry x + uptoBulkEntries r
def uptoBulkEntry {H : Type} : Lit × DataW H → Nat
  | (.string bytes, d) => bytes.length + uptoBulk d + 1
  | (_, d) => uptoBulk d + 1
 end
def uptoSmall : (H : Type) → List (DataW H) → Bool := fun _ ds => decide (uptoBulkAll ds ≤ 1048576)
def OpenSpec.upto (s : _root_.Go.ChangeSpec) : _root_.Go.OpenSpec := { _root_.Go.OpenSpec.ofChange s with cond := some uptoSmall }

/-- 'laws.FnExactSameCaches', WHERE WHAT IT READS IS OF BULK AT MOST 1048576: true; the input reads as it did. -/
def fnExactSameCachesUptoRow : OpenClaim := { program := "ytnbeddgenlinpaa", sum := "53f9d3131776ace14b5f52c96dfd834e00a9c9f87bfa786138cab764aad90b30", func := "loop.example/g00586/laws.FnExactSameCaches", spec := "fnExactSameCaches", apart := false, narrowed := true }
def FnExactSameCachesUptoSaid : Prop := fnExactSameCachesUptoRow.holds Try.pinned (OpenSpec.upto fnExactSameCachesSpec)

/-- 'laws.FnExactStandardServers', WHERE WHAT IT READS IS OF BULK AT MOST 1048576: true; the input reads as it did. -/
def fnExactStandardServersUptoRow : OpenClaim := { program := "ytnbeddgenlinpaa", sum := "53f9d3131776ace14b5f52c96dfd834e00a9c9f87bfa786138cab764aad90b30", func := "loop.example/g00586/laws.FnExactStandardServers", spec := "fnExactStandardServers", apart := false, narrowed := true }
def FnExactStandardServersUptoSaid : Prop := fnExactStandardServersUptoRow.holds Try.pinned (OpenSpec.upto fnExactStandardServersSpec)

/-- 'laws.FnExactGuessesSound', WHERE WHAT IT READS IS OF BULK AT MOST 1048576: true; the input reads as it did. -/
def fnExactGuessesSoundUptoRow : OpenClaim := { program := "ytnbeddgenlinpaa", sum := "53f9d3131776ace14b5f52c96dfd834e00a9c9f87bfa786138cab764aad90b30", func := "loop.example/g00586/laws.FnExactGuessesSound", spec := "fnExactGuessesSound", unfollowed := true, recurses := true, apart := false, narrowed := true }
def FnExactGuessesSoundUptoSaid : Prop := fnExactGuessesSoundUptoRow.holds Try.pinned (OpenSpec.upto fnExactGuessesSoundSpec)

/-- 'laws.FnExactGuessedFor', WHERE WHAT IT READS IS OF BULK AT MOST 1048576: true; the input reads as it did. -/
def fnExactGuessedForUptoRow : OpenClaim := { program := "ytnbeddgenlinpaa", sum := "53f9d3131776ace14b5f52c96dfd834e00a9c9f87bfa786138cab764aad90b30", func := "loop.example/g00586/laws.FnExactGuessedFor", spec := "fnExactGuessedFor", apart := false, narrowed := true }
def FnExactGuessedForUptoSaid : Prop := fnExactGuessedForUptoRow.holds Try.pinned (OpenSpec.upto fnExactGuessedForSpec)

/-- 'laws.FnExactKeptLoaded', WHERE WHAT IT READS IS OF BULK AT MOST 1048576: true; the input reads as it did. -/
def fnExactKeptLoadedUptoRow : OpenClaim := { program := "ytnbeddgenlinpaa", sum := "53f9d3131776ace14b5f52c96dfd834e00a9c9f87bfa786138cab764aad90b30", func := "loop.example/g00586/laws.FnExactKeptLoaded", spec := "fnExactKeptLoaded", apart := false, narrowed := true }
def FnExactKeptLoadedUptoSaid : Prop := fnExactKeptLoadedUptoRow.holds Try.pinned (OpenSpec.upto fnExactKeptLoadedSpec)

/-- 'laws.FnExactFormatTab', WHERE WHAT IT READS IS OF BULK AT MOST 1048576: true; the input reads as it did. -/
def fnExactFormatTabUptoRow : OpenClaim := { program := "ytnbeddgenlinpaa", sum := "53f9d3131776ace14b5f52c96dfd834e00a9c9f87bfa786138cab764aad90b30", func := "loop.example/g00586/laws.FnExactFormatTab", spec := "fnExactFormatTab", inPlace := ["internal/abi.NoEscape", "internal/bytealg.MakeNoZero"], apart := false, narrowed := true }
def FnExactFormatTabUptoSaid : Prop := fnExactFormatTabUptoRow.holds Try.pinned (OpenSpec.upto fnExactFormatTabSpec)

/-- 'laws.FnExactTopsAround', WHERE WHAT IT READS IS OF BULK AT MOST 1048576: true; the input reads as it did. -/
def fnExactTopsAroundUptoRow : OpenClaim := { program := "ytnbeddgenlinpaa", sum := "53f9d3131776ace14b5f52c96dfd834e00a9c9f87bfa786138cab764aad90b30", func := "loop.example/g00586/laws.FnExactTopsAround", spec := "fnExactTopsAround", unfollowed := true, recurses := true, apart := false, narrowed := true }
def FnExactTopsAroundUptoSaid : Prop := fnExactTopsAroundUptoRow.holds Try.pinned (OpenSpec.upto fnExactTopsAroundSpec)

/-- 'laws.FnExactCrossLearned', WHERE WHAT IT READS IS OF BULK AT MOST 1048576: true; the input reads as it did. -/
def fnExactCrossLearnedUptoRow : OpenClaim := { program := "ytnbeddgenlinpaa", sum := "53f9d3131776ace14b5f52c96dfd834e00a9c9f87bfa786138cab764aad90b30", func := "loop.example/g00586/laws.FnExactCrossLearned", spec := "fnExactCrossLearned", inPlace := ["internal/bytealg.abigen_runtime_cmpstring"], unfollowed := true, recurses := true, apart := false, narrowed := true }
def FnExactCrossLearnedUptoSaid : Prop := fnExactCrossLearnedUptoRow.holds Try.pinned (OpenSpec.upto fnExactCrossLearnedSpec)

end Rows
end Go.Proofs.Ytnbeddgenlinpaa
