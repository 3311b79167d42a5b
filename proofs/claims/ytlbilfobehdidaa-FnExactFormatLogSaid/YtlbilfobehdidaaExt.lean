/-
  Functions of Go's library: what they answer, by their contracts. Written by program (ext.py).
-/
import Derived.Test.YtlbilfobehdidaaAmCfg
import Derived.Test.YtlbilfobehdidaaShelf
set_option linter.unusedVariables false
namespace Go.Am
open Go Go.Proofs
theorem extAns : Answers Go.Proofs.Try.prog ext0 := ext_cons (ext_join Try.func46 (by kernel_rfl) (by kernel_rfl) Try.strings_Join_none Try.strings_Join) (ext_nil)
end Go.Am
