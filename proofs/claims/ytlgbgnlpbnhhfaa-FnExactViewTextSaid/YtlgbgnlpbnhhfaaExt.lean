/-
  Functions of Go's library: what they answer, by their contracts. Written by program (ext.py).
-/
import Derived.Test.YtlgbgnlpbnhhfaaWalk
import Derived.Test.YtlgbgnlpbnhhfaaAmCfg
set_option linter.unusedVariables false
namespace Go.Am
open Go Go.Proofs
theorem extAns : Answers Go.Proofs.Try.prog ext0 := ext_cons (ext_join Try.func22 (by kernel_rfl) (by kernel_rfl) Try.strings_Join_none Try.strings_Join) (ext_cons (ext_sortPr Try.func44 (by kernel_rfl) (by kernel_rfl) Try.SortAddrs_none Try.SortAddrs_some) (ext_cons (ext_cmp Try.func81 (by kernel_rfl) (by kernel_rfl) Try.strings_Compare) (ext_nil)))
end Go.Am
