/-
  No cell of these rows narrows 'for every input' (looked for: loops, veiled, ifaces, maps, wideKeys, modest, calm, conditions, laid).
  DERIVED. THE GIVEN ROWS OF THIS SEAT. 5 by the template 'for every input the law returns true; each argument reads behind the call as it read before'; 0 by the template 'total and deterministic' (their statements: YtlgbgnlpbnhhfaaGreatTotals.lean).
  GIVEN WITH THE SEED: the statements are not yours to turn. If you find one false, say at which input.
  Laid BY PROGRAM, IN A SANDBOX (cutbox-rows.mjs): the forced cells as the released guide's own fill.sh prints them over the translation aac5511b184ff75a… (all of the seat's roots in one cut). By AI agents, Wed Nov 11 2026. No macro, syntax, notation, axiom, sorry.
-/
import Derived.Test.YtlgbgnlpbnhhfaaGreatChecked
import GoSem.Claim
import GoSem.ClaimJoined
import GoSem.ClaimMapViews
import Derived.JoinedTies
import Derived.KernelRfl
namespace Go.Proofs.YtlgbgnlpbnhhfaaGreat
/- THE CELL 'sum', in the pinned program and in every row, IS THE sha256 OF THE DUMP (.gsa) THAT YtlgbgnlpbnhhfaaGreatProg.lean LOADS. Nothing in Lean hashes anything: it is a label: what it is worth is what the hold of that sum in a sandbox is worth. -/
noncomputable def Tryz.pinned : Pinned := { name := "ytlgbgnlpbnhhfaagreat", sum := "aac5511b184ff75ae2381f25300a2bc93883b8746d7b0888f939d49c68fbe5d4", checked := Tryz.checked }
namespace Rows
def none {H : Type} : Left H := { results := [], args := [] }

/-- 'laws.FnExactEqualHidden': WHATEVER THE INPUT: true; the input reads as it did. -/
def fnExactEqualHiddenSpec : ChangeSpec := { name := "fnExactEqualHidden", fn := fun _ => fun
  | [d1, d2] => { results := [.lit (.bool true)], args := [d1, d2] }
  | _ => none }
def fnExactEqualHiddenRow : OpenClaim := { program := "ytlgbgnlpbnhhfaagreat", sum := "aac5511b184ff75ae2381f25300a2bc93883b8746d7b0888f939d49c68fbe5d4", func := "loop.example/g00586/laws.FnExactEqualHidden", spec := "fnExactEqualHidden", unfollowed := true, recurses := true, apart := false }
def FnExactEqualHiddenSaid : Prop := fnExactEqualHiddenRow.holds Tryz.pinned (OpenSpec.ofChange fnExactEqualHiddenSpec)

/-- ITS FALSE NEIGHBOUR: 'it returns false'. Refute it at one input. -/
def fnExactEqualHiddenWrong : ChangeSpec := { name := "fnExactEqualHidden", fn := fun _ => fun
  | [d1, d2] => { results := [.lit (.bool false)], args := [d1, d2] }
  | _ => none }
def FnExactEqualHiddenWrongFalsely : Prop := fnExactEqualHiddenRow.holds Tryz.pinned (OpenSpec.ofChange fnExactEqualHiddenWrong)

/-- 'laws.FnExactIsStale': WHATEVER THE INPUT: true; the input reads as it did. -/
def fnExactIsStaleSpec : ChangeSpec := { name := "fnExactIsStale", fn := fun _ => fun
  | [d1, d2] => { results := [.lit (.bool true)], args := [d1, d2] }
  | _ => none }
def fnExactIsStaleRow : OpenClaim := { program := "ytlgbgnlpbnhhfaagreat", sum := "aac5511b184ff75ae2381f25300a2bc93883b8746d7b0888f939d49c68fbe5d4", func := "loop.example/g00586/laws.FnExactIsStale", spec := "fnExactIsStale", unfollowed := true, recurses := true, apart := false }
def FnExactIsStaleSaid : Prop := fnExactIsStaleRow.holds Tryz.pinned (OpenSpec.ofChange fnExactIsStaleSpec)

/-- ITS FALSE NEIGHBOUR: 'it returns false'. Refute it at one input. -/
def fnExactIsStaleWrong : ChangeSpec := { name := "fnExactIsStale", fn := fun _ => fun
  | [d1, d2] => { results := [.lit (.bool false)], args := [d1, d2] }
  | _ => none }
def FnExactIsStaleWrongFalsely : Prop := fnExactIsStaleRow.holds Tryz.pinned (OpenSpec.ofChange fnExactIsStaleWrong)

/-- 'laws.FnExactPageSound': WHATEVER THE INPUT: true; the input reads as it did. -/
def fnExactPageSoundSpec : ChangeSpec := { name := "fnExactPageSound", fn := fun _ => fun
  | [d] => { results := [.lit (.bool true)], args := [d] }
  | _ => none }
def fnExactPageSoundRow : OpenClaim := { program := "ytlgbgnlpbnhhfaagreat", sum := "aac5511b184ff75ae2381f25300a2bc93883b8746d7b0888f939d49c68fbe5d4", func := "loop.example/g00586/laws.FnExactPageSound", spec := "fnExactPageSound", inPlace := ["internal/bytealg.abigen_runtime_cmpstring"], unfollowed := true, recurses := true, apart := false }
def FnExactPageSoundSaid : Prop := fnExactPageSoundRow.holds Tryz.pinned (OpenSpec.ofChange fnExactPageSoundSpec)

/-- ITS FALSE NEIGHBOUR: 'it returns false'. Refute it at one input. -/
def fnExactPageSoundWrong : ChangeSpec := { name := "fnExactPageSound", fn := fun _ => fun
  | [d] => { results := [.lit (.bool false)], args := [d] }
  | _ => none }
def FnExactPageSoundWrongFalsely : Prop := fnExactPageSoundRow.holds Tryz.pinned (OpenSpec.ofChange fnExactPageSoundWrong)

/-- 'laws.FnExactTabSound': WHATEVER THE INPUT: true; the input reads as it did. -/
def fnExactTabSoundSpec : ChangeSpec := { name := "fnExactTabSound", fn := fun _ => fun
  | [d] => { results := [.lit (.bool true)], args := [d] }
  | _ => none }
def fnExactTabSoundRow : OpenClaim := { program := "ytlgbgnlpbnhhfaagreat", sum := "aac5511b184ff75ae2381f25300a2bc93883b8746d7b0888f939d49c68fbe5d4", func := "loop.example/g00586/laws.FnExactTabSound", spec := "fnExactTabSound", inPlace := ["internal/bytealg.abigen_runtime_cmpstring"], unfollowed := true, recurses := true, apart := false }
def FnExactTabSoundSaid : Prop := fnExactTabSoundRow.holds Tryz.pinned (OpenSpec.ofChange fnExactTabSoundSpec)

/-- ITS FALSE NEIGHBOUR: 'it returns false'. Refute it at one input. -/
def fnExactTabSoundWrong : ChangeSpec := { name := "fnExactTabSound", fn := fun _ => fun
  | [d] => { results := [.lit (.bool false)], args := [d] }
  | _ => none }
def FnExactTabSoundWrongFalsely : Prop := fnExactTabSoundRow.holds Tryz.pinned (OpenSpec.ofChange fnExactTabSoundWrong)

/-- 'laws.FnExactEqualWorlds': WHATEVER THE INPUT: true; the input reads as it did. -/
def fnExactEqualWorldsSpec : ChangeSpec := { name := "fnExactEqualWorlds", fn := fun _ => fun
  | [d1, d2] => { results := [.lit (.bool true)], args := [d1, d2] }
  | _ => none }
def fnExactEqualWorldsRow : OpenClaim := { program := "ytlgbgnlpbnhhfaagreat", sum := "aac5511b184ff75ae2381f25300a2bc93883b8746d7b0888f939d49c68fbe5d4", func := "loop.example/g00586/laws.FnExactEqualWorlds", spec := "fnExactEqualWorlds", unfollowed := true, recurses := true, apart := false }
def FnExactEqualWorldsSaid : Prop := fnExactEqualWorldsRow.holds Tryz.pinned (OpenSpec.ofChange fnExactEqualWorldsSpec)

/-- ITS FALSE NEIGHBOUR: 'it returns false'. Refute it at one input. -/
def fnExactEqualWorldsWrong : ChangeSpec := { name := "fnExactEqualWorlds", fn := fun _ => fun
  | [d1, d2] => { results := [.lit (.bool false)], args := [d1, d2] }
  | _ => none }
def FnExactEqualWorldsWrongFalsely : Prop := fnExactEqualWorldsRow.holds Tryz.pinned (OpenSpec.ofChange fnExactEqualWorldsWrong)

/- THE SECOND FORM. 'bulk': how many values and letters a reading holds, each counted each time it is reached (what is shared counts as often as it is met; a slice's spare places count too). A statement '..UptoSaid' is the law's where the arguments, and the package variables that the reading takes, are together of bulk at most 1048576: NARROWER than '..Said'. Prove '..Said' where nothing that the law and all that it calls make is longer than what came in: it says more and counts as full. Else prove '..UptoSaid'. A law counts once. -/
mutual
def uptoBulk {H : Type} : DataW H → Nat
  | .lit (.string bytes) => bytes.length + 1
  | .lit _ => 1
  | .nil => 1
  | .ptr d => uptoBulk d + 1
  | .slice elems spare => uptoBulkAll elems + uptoBulkAll spare + 1
  | .agg parts => uptoBulkAll parts + 1
  | .iface _ d => uptoBulk d + 1
  | .map entries => uptoBulkEntries entries + 1
  | .held _ => 1
def uptoBulkAll {H : Type} : List (DataW H) → Nat
  | [] => 0
  | d :: r => uptoBulk d + uptoBulkAll r
def uptoBulkEntries {H : Type} : List (Lit × DataW H) → Nat
  | [] => 0
  | x :: r => uptoBulkEntry x + uptoBulkEntries r
def uptoBulkEntry {H : Type} : Lit × DataW H → Nat
  | (.string bytes, d) => bytes.length + uptoBulk d + 1
  | (_, d) => uptoBulk d + 1
 end
def uptoSmall : (H : Type) → List (DataW H) → Bool := fun _ ds => decide (uptoBulkAll ds ≤ 1048576)
def OpenSpec.upto (s : _root_.Go.ChangeSpec) : _root_.Go.OpenSpec := { _root_.Go.OpenSpec.ofChange s with cond := some uptoSmall }

/-- 'laws.FnExactEqualHidden', WHERE WHAT IT READS IS OF BULK AT MOST 1048576: true; the input reads as it did. -/
def fnExactEqualHiddenUptoRow : OpenClaim := { program := "ytlgbgnlpbnhhfaagreat", sum := "aac5511b184ff75ae2381f25300a2bc93883b8746d7b0888f939d49c68fbe5d4", func := "loop.example/g00586/laws.FnExactEqualHidden", spec := "fnExactEqualHidden", unfollowed := true, recurses := true, apart := false, narrowed := true }
def FnExactEqualHiddenUptoSaid : Prop := fnExactEqualHiddenUptoRow.holds Tryz.pinned (OpenSpec.upto fnExactEqualHiddenSpec)

/-- 'laws.FnExactIsStale', WHERE WHAT IT READS IS OF BULK AT MOST 1048576: true; the input reads as it did. -/
def fnExactIsStaleUptoRow : OpenClaim := { program := "ytlgbgnlpbnhhfaagreat", sum := "aac5511b184ff75ae2381f25300a2bc93883b8746d7b0888f939d49c68fbe5d4", func := "loop.example/g00586/laws.FnExactIsStale", spec := "fnExactIsStale", unfollowed := true, recurses := true, apart := false, narrowed := true }
def FnExactIsStaleUptoSaid : Prop := fnExactIsStaleUptoRow.holds Tryz.pinned (OpenSpec.upto fnExactIsStaleSpec)

/-- 'laws.FnExactPageSound', WHERE WHAT IT READS IS OF BULK AT MOST 1048576: true; the input reads as it did. -/
def fnExactPageSoundUptoRow : OpenClaim := { program := "ytlgbgnlpbnhhfaagreat", sum := "aac5511b184ff75ae2381f25300a2bc93883b8746d7b0888f939d49c68fbe5d4", func := "loop.example/g00586/laws.FnExactPageSound", spec := "fnExactPageSound", inPlace := ["internal/bytealg.abigen_runtime_cmpstring"], unfollowed := true, recurses := true, apart := false, narrowed := true }
def FnExactPageSoundUptoSaid : Prop := fnExactPageSoundUptoRow.holds Tryz.pinned (OpenSpec.upto fnExactPageSoundSpec)

/-- 'laws.FnExactTabSound', WHERE WHAT IT READS IS OF BULK AT MOST 1048576: true; the input reads as it did. -/
def fnExactTabSoundUptoRow : OpenClaim := { program := "ytlgbgnlpbnhhfaagreat", sum := "aac5511b184ff75ae2381f25300a2bc93883b8746d7b0888f939d49c68fbe5d4", func := "loop.example/g00586/laws.FnExactTabSound", spec := "fnExactTabSound", inPlace := ["internal/bytealg.abigen_runtime_cmpstring"], unfollowed := true, recurses := true, apart := false, narrowed := true }
def FnExactTabSoundUptoSaid : Prop := fnExactTabSoundUptoRow.holds Tryz.pinned (OpenSpec.upto fnExactTabSoundSpec)

/-- 'laws.FnExactEqualWorlds', WHERE WHAT IT READS IS OF BULK AT MOST 1048576: true; the input reads as it did. -/
def fnExactEqualWorldsUptoRow : OpenClaim := { program := "ytlgbgnlpbnhhfaagreat", sum := "aac5511b184ff75ae2381f25300a2bc93883b8746d7b0888f939d49c68fbe5d4", func := "loop.example/g00586/laws.FnExactEqualWorlds", spec := "fnExactEqualWorlds", unfollowed := true, recurses := true, apart := false, narrowed := true }
def FnExactEqualWorldsUptoSaid : Prop := fnExactEqualWorldsUptoRow.holds Tryz.pinned (OpenSpec.upto fnExactEqualWorldsSpec)

end Rows
end Go.Proofs.YtlgbgnlpbnhhfaaGreat
