/-
  The data of the laws: structures, their rows, their sizes; and what laws.sz.., laws.to.., laws.eq.. compute on them. Written by program (typed.py).
-/
import Derived.Test.YtlbilfobehdidaaExt
import Derived.Test.YtlbilfobehdidaaFl
import Derived.Test.YtlbilfobehdidaaAmTyped
import Derived.Test.YtlbilfobehdidaaTy
import Derived.Test.YtlbilfobehdidaaAmData
namespace Go.Am
open Go Go.Proofs
set_option linter.unusedVariables false
set_option linter.unusedSimpArgs false
variable {β : Type}
theorem szStringS (a : List (List UInt8)) (l : Int) (h0 : 0 ≤ l) (h1 : l ≤ 1048576) (h : okL okS a) (k : Int → Option β) : F30 β (rStr a) l k = k (szL l (a.length + sumL List.length a)) := by
  simp only [F30, P30, rStr_len]
  refine szCut h0 h1 h.1 (fun m e h0 h1 => ?_)
  rw [e]
  refine while_sz (fun (i : Nat) (m : Int) => ([.l (rStr a), .i m, .i (i : Int)] : List Leaf)) a List.length (fun m => (1, [.i m])) (fun i y m hi hm0 hm1 => ?_) (fun m => brN rirr1 rfl) (fun m => rfl) h0 h1 rfl
  have hlt : i < a.length := (List.getElem?_eq_some_iff.1 hi).1
  have hb := h.1
  unfold maxLen at hb
  have hw := wrap_sub hm0 hm1 (h.2 y (List.mem_of_getElem? hi))
  by_cases c : m < (y.length : Int)
  · exact .inl ⟨_, c, brE (rlt1 hlt) (chkE (Int.natCast_nonneg _) (idxE1 (i := i) hi (brE (show IntKind.wrap .i64 (m - (y.length : Int)) < 0 by rw [hw]; omega) rfl))), rfl⟩
  · have c := Int.not_lt.1 c
    exact .inr ⟨c, brE (rlt1 hlt) (chkE (Int.natCast_nonneg _) (idxE1 (i := i) hi (brN (fun h => by have h : IntKind.wrap .i64 (m - (y.length : Int)) < 0 := h; rw [hw] at h; omega) (two (fun m j : Int => (some (Sum.inl ([.l (rStr a), .i m, .i j] : List Leaf)) : Option (List Leaf ⊕ (Nat × List Leaf)))) hw (wrapS (i := i) (by omega))))))⟩
theorem toStringS (a : List (List UInt8)) (h : a.length + sumL List.length a ≤ 1048576) (k : List V → Option β) : F32 β (rStr a) k = k (rStr a) := by
  simp only [F32, P32, rStr_len, whileK, Int.toNat_natCast]
  refine chkE ⟨by omega, by omega, by omega, by omega⟩ ?_
  rw [while_each (fun i : Nat => ([.l (rStr a), .l (rStr (copyS a ([] : List UInt8) i)), .i (i : Int)] : List Leaf)) a (0, [.l (rStr a)]) ?h1 ?h2 _ ?hs]
  case hs => rw [← rStr_copy0]; rfl
  case h1 =>
    intro i y hi
    have hlt : i < a.length := (List.getElem?_eq_some_iff.1 hi).1
    have hl := copyS_len (a := a) (n := ([] : List UInt8)) (i := i) (by omega)
    refine brE (rlt1 hlt) (chkE (Int.natCast_nonneg _) (idxE1 (i := i) hi (chkE ⟨Int.natCast_nonneg _, ?_⟩ (storeE1 (kd := .str) (g1 := fun e => e) (y := y) (i := i) rfl (Nat.lt_of_lt_of_eq hlt hl.symm) ?_))))
    · show (Int.toNat (i : Int)) < (rStr (copyS a ([] : List UInt8) i)).length
      rw [rStr_len]; exact Nat.lt_of_lt_of_eq hlt hl.symm
    · exact two (fun (c : List (List UInt8)) (j : Int) => (some (Sum.inl ([.l (rStr a), .l (rStr c), .i j] : List Leaf)) : Option (List Leaf ⊕ (Nat × List Leaf)))) (copyS_set hi) (wrapS (i := i) (by omega))
  case h2 =>
    rw [copyS_end]
    exact brN rirr1 rfl
  · rfl
theorem eqStringS (a b : List (List UInt8)) (h : okL okS a) (k : Bool → Option β) : F34 β (rStr a) (rStr b) k = k (decide (a = b)) := by
  simp only [F34, P34]
  refine eqLen (rStr_len ..) (rStr_len ..) (fun hl => ?_)
  refine while_eq (fun i : Nat => ([.l (rStr a), .l (rStr b), .i (i : Int)] : List Leaf)) a b hl (fun i x y hi hx hy => ?_) (brN rirr1 rfl) rfl rfl rfl
  have hb := h.1
  unfold maxLen at hb
  exact brE (rlt1 hi) (chkE (Int.natCast_nonneg _) (idxE1 (i := i) hx (chkE (Int.natCast_nonneg _) (idxE1 (i := i) hy (brB (c := !decide (x = y)) (by rw [Bool.eq_iff_iff]; simp) rfl (congrArg (fun j : Int => (some (Sum.inl ([.l (rStr a), .l (rStr b), .i j] : List Leaf)) : Option (List Leaf ⊕ (Nat × List Leaf)))) (wrapS (i := i) (by omega))))))))
open Classical in noncomputable def lszStringS (a : List (List UInt8)) (l : Int) : Option Int := if 0 ≤ l ∧ l ≤ 1048576 ∧ okL okS a then some (szL l (a.length + sumL List.length a)) else none
theorem ei_lszStringS (a : List (List UInt8)) (l : Int) (k : Int → Option β) : Imp (F30 β (rStr a) l k) (lszStringS a l) (fun r => k r) := by
  intro r h
  unfold lszStringS at h
  split at h
  · rename_i c; cases h; exact szStringS a l c.1 c.2.1 c.2.2 k
  · cases h
def ltoStringS (a : List (List UInt8)) : Option (List (List UInt8)) := if a.length + sumL List.length a ≤ 1048576 then some a else none
theorem ei_ltoStringS (a : List (List UInt8)) (k : List V → Option β) : Imp (F32 β (rStr a) k) (ltoStringS a) (fun r => k (rStr r)) := by
  intro r h
  unfold ltoStringS at h
  split at h
  · rename_i c; cases h; exact toStringS a c k
  · cases h
open Classical in noncomputable def leqStringS (a b : List (List UInt8)) : Option Bool := if okL okS a then some (decide (a = b)) else none
theorem ei_leqStringS (a b : List (List UInt8)) (k : Bool → Option β) : Imp (F34 β (rStr a) (rStr b) k) (leqStringS a b) (fun r => k r) := by
  intro r h
  unfold leqStringS at h
  split at h
  · rename_i c; cases h; refine (eqStringS a b c k).trans ?_; congr
  · cases h

/-! ### arguments -/
def fl : Nat → Bool := fun t => t != 47
def L : List Nat := [47, 9]
theorem kids : kidsOk Try.prog L = true := by kernel_rfl
theorem flArgs : flOk Try.prog L fl = true := by kernel_rfl
theorem cells47 : Try.prog.cellsOf 47 = 1 := by kernel_rfl
theorem cells9 : Try.prog.cellsOf 9 = 1 := by kernel_rfl
theorem answers : Answers Try.prog D := sound_den agree (fun den hD => drawOk agree (by kernel_rfl) hD) extAns
end Go.Am
