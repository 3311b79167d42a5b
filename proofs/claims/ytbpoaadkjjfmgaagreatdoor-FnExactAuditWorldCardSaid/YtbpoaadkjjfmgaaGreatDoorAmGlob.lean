/-
  What is told of the package's variables: internal/bytealg.MaxLen holds some number. (In the place of XAmGlob, for seats that meet strings.Split; the variable must be the seat's global 0.)
-/
import Derived.Test.YtbpoaadkjjfmgaaGreatDoorProg
import GoSem.Claims
import Derived.KernelRfl
namespace Go.Am
open Go Go.Proofs
def globN : Nat := 1
def globAt (w : World) : Prop := ∃ m, w.cell? ⟨0, 0, none⟩ = some (.int .i64 m)
theorem globStable (w w' : World) (h : globAt w) (hk : ∀ k, k < globN → w'.heap[k]? = w.heap[k]?) : globAt w' := by
 obtain ⟨m, hm⟩ := h
 refine ⟨m, ?_⟩
 simp only [World.cell?, hk 0 (by decide)] at hm ⊢
 exact hm
theorem globLt {w : World} (h : globAt w) : globN ≤ w.heap.size := by
 obtain ⟨m, hm⟩ := h
 unfold World.cell? at hm
 cases hh : w.heap[0]? with
 | none => rw [hh] at hm; cases hm
 | some o => exact (Array.getElem?_eq_some_iff.1 hh).1
end Go.Am
