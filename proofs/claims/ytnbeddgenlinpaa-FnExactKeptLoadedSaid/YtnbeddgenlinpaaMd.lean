/-
  What spec.KeptLoaded and impl.KeptLoaded compute, and the law between them.
-/
import Derived.Test.YtnbeddgenlinpaaTd
import Derived.Test.YtnbeddgenlinpaaAmMore
set_option linter.unusedVariables false
set_option linter.unusedSimpArgs false
namespace Go.Am
open Go
variable {β : Type}
def unloaded (at' : Int) (i : Nat) (v : TVisit) : Bool := v.xKept && (((i : Int) != at') && !v.xPage.xLoaded)
theorem specKept (t : TTab) (h : t.ok) (k : Bool → Option β) : F29 β (rows kVisit TVisit.row t.xVisits) t.xAt k = k (!anyI (unloaded t.xAt) 0 t.xVisits) := by
  obtain ⟨h, _⟩ := h
  have hb := h.1
  unfold maxLen at hb
  simp only [F29, P29, whileK]
  rw [while_anyI (fun i : Nat => ([.i (i : Int), .l (rows kVisit TVisit.row t.xVisits), .i t.xAt] : List Leaf)) t.xVisits (unloaded t.xAt) (0, [.b false]) (1, []) ?h1 ?h2 _ ?hs]
  case hs => rfl
  case h1 =>
    intro i y hi
    have hlt : i < t.xVisits.length := (List.getElem?_eq_some_iff.1 hi).1
    exact brE (rlt hlt) (chkE (Int.natCast_nonneg _) (idxE (i := i) hi (brKeep (r := !y.xPage.xLoaded) (chkE (Int.natCast_nonneg _) (idxE (i := i) hi rfl)) rfl (congrArg (fun j : Int => (some (Sum.inl ([.i j, .l (rows kVisit TVisit.row t.xVisits), .i t.xAt] : List Leaf)) : Option (List Leaf ⊕ (Nat × List Leaf)))) (wrapS (i := i) (by omega))))))
  case h2 => exact brN rirr rfl
  cases anyI (unloaded t.xAt) 0 t.xVisits <;> rfl
theorem implKept (t : TTab) (h : t.ok) (k : Bool → Option β) : F31 β (rows kVisit TVisit.row t.xVisits) t.xAt k = k (!anyI (unloaded t.xAt) 0 t.xVisits) := by
  obtain ⟨h, _⟩ := h
  have hb := h.1
  unfold maxLen at hb
  simp only [F31, P31, whileK, rows_len]
  rw [while_anyI (fun i : Nat => ([.l (rows kVisit TVisit.row t.xVisits), .i (t.xVisits.length : Int), .i (i : Int), .l (rows kVisit TVisit.row t.xVisits), .i t.xAt] : List Leaf)) t.xVisits (unloaded t.xAt) (0, [.b false]) (1, []) ?h1 ?h2 _ ?hs]
  case hs => rfl
  case h1 =>
    intro i y hi
    have hlt : i < t.xVisits.length := (List.getElem?_eq_some_iff.1 hi).1
    exact brE (Int.ofNat_lt.2 hlt) (chkE (Int.natCast_nonneg _) (idxE (i := i) hi (brKeep (r := !y.xPage.xLoaded) rfl rfl (congrArg (fun j : Int => (some (Sum.inl ([.l (rows kVisit TVisit.row t.xVisits), .i (t.xVisits.length : Int), .i j, .l (rows kVisit TVisit.row t.xVisits), .i t.xAt] : List Leaf)) : Option (List Leaf ⊕ (Nat × List Leaf)))) (wrapS (i := i) (by omega))))))
  case h2 => exact brN (Int.lt_irrefl _) rfl
  cases anyI (unloaded t.xAt) 0 t.xVisits <;> rfl
theorem law7 (t : TTab) (h : t.ok) (k : Bool → Option β) : F7 β (rows kVisit TVisit.row t.xVisits) t.xAt k = k true := by
  simp only [F7, P7]
  refine (szTab t _ (by omega) (by omega) h _).trans (szLaw (by omega) (fun m _ _ _ hs => ?_))
  have hs : t.size ≤ 1048576 := by omega
  exact (toTab t hs _).trans ((specKept t h _).trans ((toTab t hs _).trans ((implKept t h _).trans (sameB ((toTab t hs _).trans ((eqTab t t h _).trans (sameD rfl)))))))
end Go.Am
