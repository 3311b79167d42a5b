/-
  Functions of Go's library: what they answer, by their contracts. Written by program (ext.py).
-/
import Derived.Test.YtlgbgnlpbnhhfaaGreatWalk
import Derived.Test.YtlgbgnlpbnhhfaaGreatAmCfg
set_option linter.unusedVariables false
namespace Go.Am
open Go Go.Proofs
theorem extAns : Answers Go.Proofs.Tryz.prog ext0 := ext_cons (ext_sortPr Tryz.func141 (by kernel_rfl) (by kernel_rfl) Tryz.SortAddrs_none Tryz.SortAddrs_some) (ext_cons (ext_cmp Tryz.func196 (by kernel_rfl) (by kernel_rfl) Tryz.strings_Compare) (ext_nil))
end Go.Am
