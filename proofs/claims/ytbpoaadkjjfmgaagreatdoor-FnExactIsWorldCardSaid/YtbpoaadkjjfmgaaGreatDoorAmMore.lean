/-
  More steps for reckoning with loops over rows. No theorem about a Go program stands here.
-/
import Derived.Test.YtbpoaadkjjfmgaaGreatDoorAmSize
set_option linter.unusedVariables false
set_option linter.unusedSimpArgs false
namespace Go.Am
open Go
section
variable {β : Type}
end
end Go.Am
