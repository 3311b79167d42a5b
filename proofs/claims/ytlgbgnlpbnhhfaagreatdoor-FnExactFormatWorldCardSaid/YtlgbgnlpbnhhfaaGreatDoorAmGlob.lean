/-
  What is told of the package's variables: the table of powers of ten that strconv reads. (In the place of XAmGlob, for seats that meet strconv.Itoa; Tryz stands for the seat's alias.) No theorem about a Go program stands here.
-/
import Derived.Test.YtlgbgnlpbnhhfaaGreatDoorProg
import Derived.Lib.LaidTab
import Derived.Lib.ItoaNum
import GoSem.Claims
import Derived.KernelRfl
namespace Go.Am
open Go Go.Proofs
def globN : Nat := 1
def globAt (w : World) : Prop := Lib.TabIs Tryz.prog w "internal/strconv.uint64pow10" .u64 Lib.pow10Tab
theorem globNo : Tryz.prog.globalNamed "internal/strconv.uint64pow10" = some 0 := by kernel_rfl
theorem globStable (w w' : World) (h : globAt w) (hk : ∀ k, k < globN → w'.heap[k]? = w.heap[k]?) : globAt w' := by
  unfold globAt Lib.TabIs World.var? at h ⊢
  rw [globNo] at h ⊢
  simp only [Option.bind_some] at h ⊢
  rw [hk 0 (by decide)]
  exact h
theorem globLt {w : World} (h : globAt w) : globN ≤ w.heap.size := by
  unfold globAt Lib.TabIs World.var? at h
  rw [globNo] at h
  simp only [Option.bind_some] at h
  cases hh : w.heap[0]? with
  | none => rw [hh] at h; cases h
  | some o => exact (Array.getElem?_eq_some_iff.1 hh).1
end Go.Am
