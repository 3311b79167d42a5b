/-
  Functions of Go's library: what they answer, by their contracts. Written by program (ext.py).
-/
import Derived.Test.YtcajalfelmgeiaaWalk
import Derived.Test.YtcajalfelmgeiaaAmCfg
import Derived.Test.YtcajalfelmgeiaaShelf
set_option linter.unusedVariables false
namespace Go.Am
open Go Go.Proofs
theorem extAns : Answers Go.Proofs.Try.prog ext0 := ext_cons (ext_sortPr Try.func42 (by kernel_rfl) (by kernel_rfl) Try.SortAddrs_none Try.SortAddrs_some) (ext_cons (ext_cmp Try.func76 (by kernel_rfl) (by kernel_rfl) Try.strings_Compare) (ext_nil))
end Go.Am
