/-
  What is told of the package's variables: here nothing. No theorem about a Go program stands here.
-/
import Derived.Below
namespace Go.Am
open Go
def globN : Nat := 0
def globAt (_ : World) : Prop := True
theorem globStable (w w' : World) (h : globAt w) (_ : ∀ k, k < globN → w'.heap[k]? = w.heap[k]?) : globAt w' := h
end Go.Am
