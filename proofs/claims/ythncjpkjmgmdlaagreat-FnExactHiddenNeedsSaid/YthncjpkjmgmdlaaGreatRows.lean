/-
  No cell of these rows narrows 'for every input' (looked for: loops, veiled, ifaces, maps, wideKeys, modest, calm, conditions, laid).
  DERIVED. THE GIVEN ROWS OF THIS SEAT. 4 by the template 'for every input the law returns true; each argument reads behind the call as it read before'; 0 by the template 'total and deterministic' (their statements: YthncjpkjmgmdlaaGreatTotals.lean).
  GIVEN WITH THE SEED: the statements are not yours to turn. If you find one false, say at which input.
  Laid BY PROGRAM, IN A SANDBOX (cutbox-rows.mjs): the forced cells as the released guide's own fill.sh prints them over the translation fb09e4376242e173… (all of the seat's roots in one cut). By AI agents, Wed Nov 11 2026. No macro, syntax, notation, axiom, sorry.
-/
import Derived.Test.YthncjpkjmgmdlaaGreatChecked
import GoSem.Claim
import GoSem.ClaimJoined
import GoSem.ClaimMapViews
import Derived.JoinedTies
import Derived.KernelRfl
namespace Go.Proofs.YthncjpkjmgmdlaaGreat
/- THE CELL 'sum', in the pinned program and in every row, IS THE sha256 OF THE DUMP (.gsa) THAT YthncjpkjmgmdlaaGreatProg.lean LOADS. Nothing in Lean hashes anything: it is a label: what it is worth is what the hold of that sum in a sandbox is worth. -/
noncomputable def Tryz.pinned : Pinned := { name := "ythncjpkjmgmdlaagreat", sum := "fb09e4376242e17311dfeb367ee815a96d3eb92ed83a0a08fca2cf6fd11721e3", checked := Tryz.checked }
namespace Rows
def none {H : Type} : Left H := { results := [], args := [] }

/-- 'laws.FnExactSetPresent': WHATEVER THE INPUT: true; the input reads as it did. -/
def fnExactSetPresentSpec : ChangeSpec := { name := "fnExactSetPresent", fn := fun _ => fun
  | [d1, d2] => { results := [.lit (.bool true)], args := [d1, d2] }
  | _ => none }
def fnExactSetPresentRow : OpenClaim := { program := "ythncjpkjmgmdlaagreat", sum := "fb09e4376242e17311dfeb367ee815a96d3eb92ed83a0a08fca2cf6fd11721e3", func := "loop.example/g00586/laws.FnExactSetPresent", spec := "fnExactSetPresent", apart := false }
def FnExactSetPresentSaid : Prop := fnExactSetPresentRow.holds Tryz.pinned (OpenSpec.ofChange fnExactSetPresentSpec)

/-- ITS FALSE NEIGHBOUR: 'it returns false'. Refute it at one input. -/
def fnExactSetPresentWrong : ChangeSpec := { name := "fnExactSetPresent", fn := fun _ => fun
  | [d1, d2] => { results := [.lit (.bool false)], args := [d1, d2] }
  | _ => none }
def FnExactSetPresentWrongFalsely : Prop := fnExactSetPresentRow.holds Tryz.pinned (OpenSpec.ofChange fnExactSetPresentWrong)

/-- 'laws.FnExactLeavePage': WHATEVER THE INPUT: true; the input reads as it did. -/
def fnExactLeavePageSpec : ChangeSpec := { name := "fnExactLeavePage", fn := fun _ => fun
  | [d] => { results := [.lit (.bool true)], args := [d] }
  | _ => none }
def fnExactLeavePageRow : OpenClaim := { program := "ythncjpkjmgmdlaagreat", sum := "fb09e4376242e17311dfeb367ee815a96d3eb92ed83a0a08fca2cf6fd11721e3", func := "loop.example/g00586/laws.FnExactLeavePage", spec := "fnExactLeavePage", apart := false }
def FnExactLeavePageSaid : Prop := fnExactLeavePageRow.holds Tryz.pinned (OpenSpec.ofChange fnExactLeavePageSpec)

/-- ITS FALSE NEIGHBOUR: 'it returns false'. Refute it at one input. -/
def fnExactLeavePageWrong : ChangeSpec := { name := "fnExactLeavePage", fn := fun _ => fun
  | [d] => { results := [.lit (.bool false)], args := [d] }
  | _ => none }
def FnExactLeavePageWrongFalsely : Prop := fnExactLeavePageRow.holds Tryz.pinned (OpenSpec.ofChange fnExactLeavePageWrong)

/-- 'laws.FnExactHiddenNeeds': WHATEVER THE INPUT: true; the input reads as it did. -/
def fnExactHiddenNeedsSpec : ChangeSpec := { name := "fnExactHiddenNeeds", fn := fun _ => fun
  | [d] => { results := [.lit (.bool true)], args := [d] }
  | _ => none }
def fnExactHiddenNeedsRow : OpenClaim := { program := "ythncjpkjmgmdlaagreat", sum := "fb09e4376242e17311dfeb367ee815a96d3eb92ed83a0a08fca2cf6fd11721e3", func := "loop.example/g00586/laws.FnExactHiddenNeeds", spec := "fnExactHiddenNeeds", inPlace := ["internal/bytealg.abigen_runtime_cmpstring"], unfollowed := true, recurses := true, apart := false }
def FnExactHiddenNeedsSaid : Prop := fnExactHiddenNeedsRow.holds Tryz.pinned (OpenSpec.ofChange fnExactHiddenNeedsSpec)

/-- ITS FALSE NEIGHBOUR: 'it returns false'. Refute it at one input. -/
def fnExactHiddenNeedsWrong : ChangeSpec := { name := "fnExactHiddenNeeds", fn := fun _ => fun
  | [d] => { results := [.lit (.bool false)], args := [d] }
  | _ => none }
def FnExactHiddenNeedsWrongFalsely : Prop := fnExactHiddenNeedsRow.holds Tryz.pinned (OpenSpec.ofChange fnExactHiddenNeedsWrong)

/-- 'laws.FnExactSlowWorld': WHATEVER THE INPUT: true; the input reads as it did. -/
def fnExactSlowWorldSpec : ChangeSpec := { name := "fnExactSlowWorld", fn := fun _ => fun
  | [d] => { results := [.lit (.bool true)], args := [d] }
  | _ => none }
def fnExactSlowWorldRow : OpenClaim := { program := "ythncjpkjmgmdlaagreat", sum := "fb09e4376242e17311dfeb367ee815a96d3eb92ed83a0a08fca2cf6fd11721e3", func := "loop.example/g00586/laws.FnExactSlowWorld", spec := "fnExactSlowWorld", apart := false }
def FnExactSlowWorldSaid : Prop := fnExactSlowWorldRow.holds Tryz.pinned (OpenSpec.ofChange fnExactSlowWorldSpec)

/-- ITS FALSE NEIGHBOUR: 'it returns false'. Refute it at one input. -/
def fnExactSlowWorldWrong : ChangeSpec := { name := "fnExactSlowWorld", fn := fun _ => fun
  | [d] => { results := [.lit (.bool false)], args := [d] }
  | _ => none }
def FnExactSlowWorldWrongFalsely : Prop := fnExactSlowWorldRow.holds Tryz.pinned (OpenSpec.ofChange fnExactSlowWorldWrong)

/- THE SECOND FORM. 'bulk': how many values and letters a reading holds, each counted each time it is reached (what is shared counts as often as it is met; a slice's spare places count too). A statement '..UptoSaid' is the law's where the arguments, and the package variables that the reading takes, are together of bulk at most 1048576: NARROWER than '..Said'. Prove '..Said' where nothing that the law and all that it calls make is longer than what came in: it says more and counts as full. Else prove '..UptoSaid'. A law counts once. -/
mutual
def uptoBulk {H : Type} : DataW H → Nat
  | .lit (.string bytes) => bytes.length + 1
  | .lit _ => 1
  | .nil => 1
  | .ptr d => uptoBulk d + 1
  | .slice elems spare => uptoBulkAll elems + uptoBulkAll spare + 1
  | .agg parts => uptoBulkAll parts + 1
  | .iface _ d => uptoBulk d + 1
  | .map entries => uptoBulkEntries entries + 1
  | .held _ => 1
def uptoBulkAll {H : Type} : List (DataW H) → Nat
  | [] => 0
  | d :: r => uptoBulk d + uptoBulkAll r
def uptoBulkEntries {H : Type} : List (Lit × DataW H) → Nat
  | [] => 0
  | x :: r => uptoBulkEntry x + uptoBulkEntries r
def uptoBulkEntry {H : Type} : Lit × DataW H → Nat
  | (.string bytes, d) => bytes.length + uptoBulk d + 1
  | (_, d) => uptoBulk d + 1
 end
def uptoSmall : (H : Type) → List (DataW H) → Bool := fun _ ds => decide (uptoBulkAll ds ≤ 1048576)
def OpenSpec.upto (s : _root_.Go.ChangeSpec) : _root_.Go.OpenSpec := { _root_.Go.OpenSpec.ofChange s with cond := some uptoSmall }

/-- 'laws.FnExactSetPresent', WHERE WHAT IT READS IS OF BULK AT MOST 1048576: true; the input reads as it did. -/
def fnExactSetPresentUptoRow : OpenClaim := { program := "ythncjpkjmgmdlaagreat", sum := "fb09e4376242e17311dfeb367ee815a96d3eb92ed83a0a08fca2cf6fd11721e3", func := "loop.example/g00586/laws.FnExactSetPresent", spec := "fnExactSetPresent", apart := false, narrowed := true }
def FnExactSetPresentUptoSaid : Prop := fnExactSetPresentUptoRow.holds Tryz.pinned (OpenSpec.upto fnExactSetPresentSpec)

/-- 'laws.FnExactLeavePage', WHERE WHAT IT READS IS OF BULK AT MOST 1048576: true; the input reads as it did. -/
def fnExactLeavePageUptoRow : OpenClaim := { program := "ythncjpkjmgmdlaagreat", sum := "fb09e4376242e17311dfeb367ee815a96d3eb92ed83a0a08fca2cf6fd11721e3", func := "loop.example/g00586/laws.FnExactLeavePage", spec := "fnExactLeavePage", apart := false, narrowed := true }
def FnExactLeavePageUptoSaid : Prop := fnExactLeavePageUptoRow.holds Tryz.pinned (OpenSpec.upto fnExactLeavePageSpec)

/-- 'laws.FnExactHiddenNeeds', WHERE WHAT IT READS IS OF BULK AT MOST 1048576: true; the input reads as it did. -/
def fnExactHiddenNeedsUptoRow : OpenClaim := { program := "ythncjpkjmgmdlaagreat", sum := "fb09e4376242e17311dfeb367ee815a96d3eb92ed83a0a08fca2cf6fd11721e3", func := "loop.example/g00586/laws.FnExactHiddenNeeds", spec := "fnExactHiddenNeeds", inPlace := ["internal/bytealg.abigen_runtime_cmpstring"], unfollowed := true, recurses := true, apart := false, narrowed := true }
def FnExactHiddenNeedsUptoSaid : Prop := fnExactHiddenNeedsUptoRow.holds Tryz.pinned (OpenSpec.upto fnExactHiddenNeedsSpec)

/-- 'laws.FnExactSlowWorld', WHERE WHAT IT READS IS OF BULK AT MOST 1048576: true; the input reads as it did. -/
def fnExactSlowWorldUptoRow : OpenClaim := { program := "ythncjpkjmgmdlaagreat", sum := "fb09e4376242e17311dfeb367ee815a96d3eb92ed83a0a08fca2cf6fd11721e3", func := "loop.example/g00586/laws.FnExactSlowWorld", spec := "fnExactSlowWorld", apart := false, narrowed := true }
def FnExactSlowWorldUptoSaid : Prop := fnExactSlowWorldUptoRow.holds Tryz.pinned (OpenSpec.upto fnExactSlowWorldSpec)

end Rows
end Go.Proofs.YthncjpkjmgmdlaaGreat
