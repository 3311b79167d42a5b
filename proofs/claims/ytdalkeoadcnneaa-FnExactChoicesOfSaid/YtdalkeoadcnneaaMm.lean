/-
  The laws' typed forms.
-/
import Derived.Test.YtdalkeoadcnneaaEm
import Derived.Test.YtdalkeoadcnneaaTm
import Derived.Test.YtdalkeoadcnneaaAmOk
import Derived.Test.YtdalkeoadcnneaaAmEq
import Derived.Test.YtdalkeoadcnneaaAmMore
set_option linter.unusedVariables false
set_option linter.unusedSimpArgs false
namespace Go.Am
open Go
variable {β : Type}
theorem le_FnExactCutsOf (a : Int) (h : okI a) : lFnExactCutsOf a = some true := if_pos h
theorem le_FnExactChoicesOf (a : Int) (h : okI a) : lFnExactChoicesOf a = some true := if_pos h
theorem law3 (a0 : Int) (o0 : okI a0) (k : Bool → Option β) : F3 β a0 k = k true :=
  ei_lFnExactCutsOf a0 k true (le_FnExactCutsOf a0 o0)
theorem law4 (a0 : Int) (o0 : okI a0) (k : Bool → Option β) : F4 β a0 k = k true :=
  ei_lFnExactChoicesOf a0 k true (le_FnExactChoicesOf a0 o0)
end Go.Am
