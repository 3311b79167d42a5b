/-
  Functions of Go's library: what they answer, by their contracts. Written by program (ext.py).
-/
import Derived.Test.YtdalkeoadcnneaaWalkM
import Derived.Test.YtdalkeoadcnneaaAmCfg
set_option linter.unusedVariables false
namespace Go.Am
open Go Go.Proofs
theorem extAns1 : Answers Go.Proofs.Try.prog ext1 := ext_nil
theorem extAns : Answers Go.Proofs.Try.prog ext0 := ext_cons Try.mark_ok3 (ext_cons Try.mark_ok4 (extAns1))
end Go.Am
