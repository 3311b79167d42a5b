/-
  Functions of Go's library: what they answer, by their contracts. Written by program (ext.py).
-/
import Derived.Test.YtkfcbnbmekljnaaWalk
import Derived.Test.YtkfcbnbmekljnaaWalkT
import Derived.Test.YtkfcbnbmekljnaaAmCfg
import Derived.Test.YtkfcbnbmekljnaaShelf
set_option linter.unusedVariables false
namespace Go.Am
open Go Go.Proofs
theorem extAns1 : Answers Go.Proofs.Try.prog ext1 := ext_cons (ext_sortPr Try.func57 (by kernel_rfl) (by kernel_rfl) Try.SortAddrs_none Try.SortAddrs_some) (ext_cons (ext_cmp Try.func94 (by kernel_rfl) (by kernel_rfl) Try.strings_Compare) (ext_nil))
theorem ans1 : Answers Go.Proofs.Try.prog D1 := sound_den agree (fun den hD => drawOk agree (by kernel_rfl) hD) extAns1
theorem extAns : Answers Go.Proofs.Try.prog ext0 := ext_cons (Try.sortedTops_ok ans1) (extAns1)
end Go.Am
