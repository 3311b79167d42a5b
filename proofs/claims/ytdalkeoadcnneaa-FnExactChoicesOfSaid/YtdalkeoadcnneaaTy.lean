/-
  The data of the functions: structures and their rows. Written by program (eform.py).
-/
import Derived.Test.YtdalkeoadcnneaaAmSize
set_option linter.unusedSimpArgs false
namespace Go.Am
open Go

end Go.Am

