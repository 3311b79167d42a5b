/-
  No cell of these rows narrows 'for every input' (looked for: loops, veiled, ifaces, maps, wideKeys, modest, calm, conditions, laid).
  DERIVED. THE GIVEN ROWS OF THIS SEAT. 7 by the template 'for every input the law returns true; each argument reads behind the call as it read before'; 0 by the template 'total and deterministic' (their statements: YtlbilfobehdidaaTotals.lean).
  GIVEN WITH THE SEED: the statements are not yours to turn. If you find one false, say at which input.
  Laid BY PROGRAM, IN A SANDBOX (cutbox-rows.mjs): the forced cells as the released guide's own fill.sh prints them over the translation 7b91f2601d5fd18b… (all of the seat's roots in one cut). By AI agents, Wed Nov 11 2026. No macro, syntax, notation, axiom, sorry.
-/
import Derived.Test.YtlbilfobehdidaaChecked
import GoSem.Claim
import GoSem.ClaimJoined
import GoSem.ClaimMapViews
import Derived.JoinedTies
import Derived.KernelRfl
namespace Go.Proofs.Ytlbilfobehdidaa
/- THE CELL 'sum', in the pinned program and in every row, IS THE sha256 OF THE DUMP (.gsa) THAT YtlbilfobehdidaaProg.lean LOADS. Nothing in Lean hashes anything: it is a label: what it is worth is what the hold of that sum in a sandbox is worth. -/
noncomputable def Try.pinned : Pinned := { name := "ytlbilfobehdidaa", sum := "7b91f2601d5fd18b74e85c391b17d31e0f88177bf486d9967327f6f6cff42b50", checked := Try.checked }
namespace Rows
def none {H : Type} : Left H := { results := [], args := [] }

/-- 'laws.FnExactEventName': WHATEVER THE INPUT: true; the input reads as it did. -/
def fnExactEventNameSpec : ChangeSpec := { name := "fnExactEventName", fn := fun _ => fun
  | [d] => { results := [.lit (.bool true)], args := [d] }
  | _ => none }
def fnExactEventNameRow : OpenClaim := { program := "ytlbilfobehdidaa", sum := "7b91f2601d5fd18b74e85c391b17d31e0f88177bf486d9967327f6f6cff42b50", func := "loop.example/g00586/laws.FnExactEventName", spec := "fnExactEventName", apart := false }
def FnExactEventNameSaid : Prop := fnExactEventNameRow.holds Try.pinned (OpenSpec.ofChange fnExactEventNameSpec)

/-- ITS FALSE NEIGHBOUR: 'it returns false'. Refute it at one input. -/
def fnExactEventNameWrong : ChangeSpec := { name := "fnExactEventName", fn := fun _ => fun
  | [d] => { results := [.lit (.bool false)], args := [d] }
  | _ => none }
def FnExactEventNameWrongFalsely : Prop := fnExactEventNameRow.holds Try.pinned (OpenSpec.ofChange fnExactEventNameWrong)

/-- 'laws.FnExactCanPrepare': WHATEVER THE INPUT: true; the input reads as it did. -/
def fnExactCanPrepareSpec : ChangeSpec := { name := "fnExactCanPrepare", fn := fun _ => fun
  | [d1, d2] => { results := [.lit (.bool true)], args := [d1, d2] }
  | _ => none }
def fnExactCanPrepareRow : OpenClaim := { program := "ytlbilfobehdidaa", sum := "7b91f2601d5fd18b74e85c391b17d31e0f88177bf486d9967327f6f6cff42b50", func := "loop.example/g00586/laws.FnExactCanPrepare", spec := "fnExactCanPrepare", apart := false }
def FnExactCanPrepareSaid : Prop := fnExactCanPrepareRow.holds Try.pinned (OpenSpec.ofChange fnExactCanPrepareSpec)

/-- ITS FALSE NEIGHBOUR: 'it returns false'. Refute it at one input. -/
def fnExactCanPrepareWrong : ChangeSpec := { name := "fnExactCanPrepare", fn := fun _ => fun
  | [d1, d2] => { results := [.lit (.bool false)], args := [d1, d2] }
  | _ => none }
def FnExactCanPrepareWrongFalsely : Prop := fnExactCanPrepareRow.holds Try.pinned (OpenSpec.ofChange fnExactCanPrepareWrong)

/-- 'laws.FnExactFileOf': WHATEVER THE INPUT: true; the input reads as it did. -/
def fnExactFileOfSpec : ChangeSpec := { name := "fnExactFileOf", fn := fun _ => fun
  | [d] => { results := [.lit (.bool true)], args := [d] }
  | _ => none }
def fnExactFileOfRow : OpenClaim := { program := "ytlbilfobehdidaa", sum := "7b91f2601d5fd18b74e85c391b17d31e0f88177bf486d9967327f6f6cff42b50", func := "loop.example/g00586/laws.FnExactFileOf", spec := "fnExactFileOf", apart := false }
def FnExactFileOfSaid : Prop := fnExactFileOfRow.holds Try.pinned (OpenSpec.ofChange fnExactFileOfSpec)

/-- ITS FALSE NEIGHBOUR: 'it returns false'. Refute it at one input. -/
def fnExactFileOfWrong : ChangeSpec := { name := "fnExactFileOf", fn := fun _ => fun
  | [d] => { results := [.lit (.bool false)], args := [d] }
  | _ => none }
def FnExactFileOfWrongFalsely : Prop := fnExactFileOfRow.holds Try.pinned (OpenSpec.ofChange fnExactFileOfWrong)

/-- 'laws.FnExactCutsOf': WHATEVER THE INPUT: true; the input reads as it did. -/
def fnExactCutsOfSpec : ChangeSpec := { name := "fnExactCutsOf", fn := fun _ => fun
  | [d] => { results := [.lit (.bool true)], args := [d] }
  | _ => none }
def fnExactCutsOfRow : OpenClaim := { program := "ytlbilfobehdidaa", sum := "7b91f2601d5fd18b74e85c391b17d31e0f88177bf486d9967327f6f6cff42b50", func := "loop.example/g00586/laws.FnExactCutsOf", spec := "fnExactCutsOf", apart := false }
def FnExactCutsOfSaid : Prop := fnExactCutsOfRow.holds Try.pinned (OpenSpec.ofChange fnExactCutsOfSpec)

/-- ITS FALSE NEIGHBOUR: 'it returns false'. Refute it at one input. -/
def fnExactCutsOfWrong : ChangeSpec := { name := "fnExactCutsOf", fn := fun _ => fun
  | [d] => { results := [.lit (.bool false)], args := [d] }
  | _ => none }
def FnExactCutsOfWrongFalsely : Prop := fnExactCutsOfRow.holds Try.pinned (OpenSpec.ofChange fnExactCutsOfWrong)

/-- 'laws.FnExactChoicesOf': WHATEVER THE INPUT: true; the input reads as it did. -/
def fnExactChoicesOfSpec : ChangeSpec := { name := "fnExactChoicesOf", fn := fun _ => fun
  | [d] => { results := [.lit (.bool true)], args := [d] }
  | _ => none }
def fnExactChoicesOfRow : OpenClaim := { program := "ytlbilfobehdidaa", sum := "7b91f2601d5fd18b74e85c391b17d31e0f88177bf486d9967327f6f6cff42b50", func := "loop.example/g00586/laws.FnExactChoicesOf", spec := "fnExactChoicesOf", apart := false }
def FnExactChoicesOfSaid : Prop := fnExactChoicesOfRow.holds Try.pinned (OpenSpec.ofChange fnExactChoicesOfSpec)

/-- ITS FALSE NEIGHBOUR: 'it returns false'. Refute it at one input. -/
def fnExactChoicesOfWrong : ChangeSpec := { name := "fnExactChoicesOf", fn := fun _ => fun
  | [d] => { results := [.lit (.bool false)], args := [d] }
  | _ => none }
def FnExactChoicesOfWrongFalsely : Prop := fnExactChoicesOfRow.holds Try.pinned (OpenSpec.ofChange fnExactChoicesOfWrong)

/-- 'laws.FnExactFormatSent': WHATEVER THE INPUT: true; the input reads as it did. -/
def fnExactFormatSentSpec : ChangeSpec := { name := "fnExactFormatSent", fn := fun _ => fun
  | [d] => { results := [.lit (.bool true)], args := [d] }
  | _ => none }
def fnExactFormatSentRow : OpenClaim := { program := "ytlbilfobehdidaa", sum := "7b91f2601d5fd18b74e85c391b17d31e0f88177bf486d9967327f6f6cff42b50", func := "loop.example/g00586/laws.FnExactFormatSent", spec := "fnExactFormatSent", apart := false }
def FnExactFormatSentSaid : Prop := fnExactFormatSentRow.holds Try.pinned (OpenSpec.ofChange fnExactFormatSentSpec)

/-- ITS FALSE NEIGHBOUR: 'it returns false'. Refute it at one input. -/
def fnExactFormatSentWrong : ChangeSpec := { name := "fnExactFormatSent", fn := fun _ => fun
  | [d] => { results := [.lit (.bool false)], args := [d] }
  | _ => none }
def FnExactFormatSentWrongFalsely : Prop := fnExactFormatSentRow.holds Try.pinned (OpenSpec.ofChange fnExactFormatSentWrong)

/-- 'laws.FnExactFormatLog': WHATEVER THE INPUT: true; the input reads as it did. -/
def fnExactFormatLogSpec : ChangeSpec := { name := "fnExactFormatLog", fn := fun _ => fun
  | [d] => { results := [.lit (.bool true)], args := [d] }
  | _ => none }
def fnExactFormatLogRow : OpenClaim := { program := "ytlbilfobehdidaa", sum := "7b91f2601d5fd18b74e85c391b17d31e0f88177bf486d9967327f6f6cff42b50", func := "loop.example/g00586/laws.FnExactFormatLog", spec := "fnExactFormatLog", inPlace := ["internal/abi.NoEscape", "internal/bytealg.MakeNoZero"], apart := false }
def FnExactFormatLogSaid : Prop := fnExactFormatLogRow.holds Try.pinned (OpenSpec.ofChange fnExactFormatLogSpec)

/-- ITS FALSE NEIGHBOUR: 'it returns false'. Refute it at one input. -/
def fnExactFormatLogWrong : ChangeSpec := { name := "fnExactFormatLog", fn := fun _ => fun
  | [d] => { results := [.lit (.bool false)], args := [d] }
  | _ => none }
def FnExactFormatLogWrongFalsely : Prop := fnExactFormatLogRow.holds Try.pinned (OpenSpec.ofChange fnExactFormatLogWrong)

/- THE SECOND FORM. 'bulk': how many values and letters a reading holds, each counted each time it is reached (what is shared counts as often as it is met; a slice's spare places count too). A statement '..UptoSaid' is the law's where the arguments, and the package variables that the reading takes, are together of bulk at most 1048576: NARROWER than '..Said'. Prove '..Said' where nothing that the law and all that it calls make is longer than what came in: it says more and counts as full. Else prove '..UptoSaid'. A law counts once. -/
mutual
def uptoBulk {H : Type} : DataW H → Nat
  | .lit (.string bytes) => bytes.length + 1
  | .lit _ => 1
  | .nil => 1
  | .ptr d => uptoBulk d + 1
  | .slice elems spare => uptoBulkAll elems + uptoBulkAll spare + 1
  | .agg parts => uptoBulkAll parts + 1
  | .iface _ d => uptoBulk d + 1
  | .map entries => uptoBulkEntries entries + 1
  | .held _ => 1
def uptoBulkAll {H : Type} : List (DataW H) → Nat
  | [] => 0
  | d :: r => uptoBulk d + uptoBulkAll r
def uptoBulkEntries {H : Type} : List (Lit × DataW H) → Nat
  | [] => 0
  | x :: r => uptoBulkEntry x + uptoBulkEntries r
def uptoBulkEntry {H : Type} : Lit × DataW H → Nat
  | (.string bytes, d) => bytes.length + uptoBulk d + 1
  | (_, d) => uptoBulk d + 1
 end
def uptoSmall : (H : Type) → List (DataW H) → Bool := fun _ ds => decide (uptoBulkAll ds ≤ 1048576)
def OpenSpec.upto (s : _root_.Go.ChangeSpec) : _root_.Go.OpenSpec := { _root_.Go.OpenSpec.ofChange s with cond := some uptoSmall }

/-- 'laws.FnExactEventName', WHERE WHAT IT READS IS OF BULK AT MOST 1048576: true; the input reads as it did. -/
def fnExactEventNameUptoRow : OpenClaim := { program := "ytlbilfobehdidaa", sum := "7b91f2601d5fd18b74e85c391b17d31e0f88177bf486d9967327f6f6cff42b50", func := "loop.example/g00586/laws.FnExactEventName", spec := "fnExactEventName", apart := false, narrowed := true }
def FnExactEventNameUptoSaid : Prop := fnExactEventNameUptoRow.holds Try.pinned (OpenSpec.upto fnExactEventNameSpec)

/-- 'laws.FnExactCanPrepare', WHERE WHAT IT READS IS OF BULK AT MOST 1048576: true; the input reads as it did. -/
def fnExactCanPrepareUptoRow : OpenClaim := { program := "ytlbilfobehdidaa", sum := "7b91f2601d5fd18b74e85c391b17d31e0f88177bf486d9967327f6f6cff42b50", func := "loop.example/g00586/laws.FnExactCanPrepare", spec := "fnExactCanPrepare", apart := false, narrowed := true }
def FnExactCanPrepareUptoSaid : Prop := fnExactCanPrepareUptoRow.holds Try.pinned (OpenSpec.upto fnExactCanPrepareSpec)

/-- 'laws.FnExactFileOf', WHERE WHAT IT READS IS OF BULK AT MOST 1048576: true; the input reads as it did. -/
def fnExactFileOfUptoRow : OpenClaim := { program := "ytlbilfobehdidaa", sum := "7b91f2601d5fd18b74e85c391b17d31e0f88177bf486d9967327f6f6cff42b50", func := "loop.example/g00586/laws.FnExactFileOf", spec := "fnExactFileOf", apart := false, narrowed := true }
def FnExactFileOfUptoSaid : Prop := fnExactFileOfUptoRow.holds Try.pinned (OpenSpec.upto fnExactFileOfSpec)

/-- 'laws.FnExactCutsOf', WHERE WHAT IT READS IS OF BULK AT MOST 1048576: true; the input reads as it did. -/
def fnExactCutsOfUptoRow : OpenClaim := { program := "ytlbilfobehdidaa", sum := "7b91f2601d5fd18b74e85c391b17d31e0f88177bf486d9967327f6f6cff42b50", func := "loop.example/g00586/laws.FnExactCutsOf", spec := "fnExactCutsOf", apart := false, narrowed := true }
def FnExactCutsOfUptoSaid : Prop := fnExactCutsOfUptoRow.holds Try.pinned (OpenSpec.upto fnExactCutsOfSpec)

/-- 'laws.FnExactChoicesOf', WHERE WHAT IT READS IS OF BULK AT MOST 1048576: true; the input reads as it did. -/
def fnExactChoicesOfUptoRow : OpenClaim := { program := "ytlbilfobehdidaa", sum := "7b91f2601d5fd18b74e85c391b17d31e0f88177bf486d9967327f6f6cff42b50", func := "loop.example/g00586/laws.FnExactChoicesOf", spec := "fnExactChoicesOf", apart := false, narrowed := true }
def FnExactChoicesOfUptoSaid : Prop := fnExactChoicesOfUptoRow.holds Try.pinned (OpenSpec.upto fnExactChoicesOfSpec)

/-- 'laws.FnExactFormatSent', WHERE WHAT IT READS IS OF BULK AT MOST 1048576: true; the input reads as it did. -/
def fnExactFormatSentUptoRow : OpenClaim := { program := "ytlbilfobehdidaa", sum := "7b91f2601d5fd18b74e85c391b17d31e0f88177bf486d9967327f6f6cff42b50", func := "loop.example/g00586/laws.FnExactFormatSent", spec := "fnExactFormatSent", apart := false, narrowed := true }
def FnExactFormatSentUptoSaid : Prop := fnExactFormatSentUptoRow.holds Try.pinned (OpenSpec.upto fnExactFormatSentSpec)

/-- 'laws.FnExactFormatLog', WHERE WHAT IT READS IS OF BULK AT MOST 1048576: true; the input reads as it did. -/
def fnExactFormatLogUptoRow : OpenClaim := { program := "ytlbilfobehdidaa", sum := "7b91f2601d5fd18b74e85c391b17d31e0f88177bf486d9967327f6f6cff42b50", func := "loop.example/g00586/laws.FnExactFormatLog", spec := "fnExactFormatLog", inPlace := ["internal/abi.NoEscape", "internal/bytealg.MakeNoZero"], apart := false, narrowed := true }
def FnExactFormatLogUptoSaid : Prop := fnExactFormatLogUptoRow.holds Try.pinned (OpenSpec.upto fnExactFormatLogSpec)

end Rows
end Go.Proofs.Ytlbilfobehdidaa
