/-
  The data of the laws: structures, their rows, their sizes; and what laws.sz.., laws.to.., laws.eq.. compute on them. Written by program (typed.py).
-/
import Derived.Test.YtdalkeoadcnneaaExt
import Derived.Test.YtdalkeoadcnneaaFm
import Derived.Test.YtdalkeoadcnneaaAmTyped
import Derived.Test.YtdalkeoadcnneaaTy
import Derived.Test.YtdalkeoadcnneaaAmData
namespace Go.Am
open Go Go.Proofs
set_option linter.unusedVariables false
set_option linter.unusedSimpArgs false
variable {β : Type}
theorem eqIntS (a b : List Int) (h : okL okI a) (k : Bool → Option β) : F7 β (rInt a) (rInt b) k = k (decide (a = b)) := by
  simp only [F7, P7]
  refine eqLen (rInt_len ..) (rInt_len ..) (fun hl => ?_)
  refine while_eq (fun i : Nat => ([.l (rInt a), .l (rInt b), .i (i : Int)] : List Leaf)) a b hl (fun i x y hi hx hy => ?_) (brN rirr1 rfl) rfl rfl rfl
  have hb := h.1
  unfold maxLen at hb
  exact brE (rlt1 hi) (chkE (Int.natCast_nonneg _) (idxE1 (i := i) hx (chkE (Int.natCast_nonneg _) (idxE1 (i := i) hy (brB (c := !decide (x = y)) (by rw [Bool.eq_iff_iff]; simp) rfl (congrArg (fun j : Int => (some (Sum.inl ([.l (rInt a), .l (rInt b), .i j] : List Leaf)) : Option (List Leaf ⊕ (Nat × List Leaf)))) (wrapS (i := i) (by omega))))))))
open Classical in noncomputable def leqIntS (a b : List Int) : Option Bool := if okL okI a then some (decide (a = b)) else none
theorem ei_leqIntS (a b : List Int) (k : Bool → Option β) : Imp (F7 β (rInt a) (rInt b) k) (leqIntS a b) (fun r => k r) := by
  intro r h
  unfold leqIntS at h
  split at h
  · rename_i c; cases h; refine (eqIntS a b c k).trans ?_; congr
  · cases h

/-! ### arguments -/
def fl : Nat → Bool := fun t => true
def L : List Nat := [3]
theorem kids : kidsOk Try.prog L = true := by kernel_rfl
theorem flArgs : flOk Try.prog L fl = true := by kernel_rfl
theorem cells3 : Try.prog.cellsOf 3 = 1 := by kernel_rfl
theorem answers : Answers Try.prog D := sound_den agree (fun den hD => drawOk agree (by kernel_rfl) hD) extAns
end Go.Am
