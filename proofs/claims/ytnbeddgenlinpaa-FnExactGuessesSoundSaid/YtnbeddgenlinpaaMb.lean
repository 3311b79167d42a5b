/-
  What spec.GuessesSound and impl.GuessesSound compute, and the law between them.
-/
import Derived.Test.YtnbeddgenlinpaaTb
namespace Go.Am
open Go
variable {β : Type}
def ownGuess (s : TSent) : Bool := !s.xGuess || (s.xTo.xHost == s.xTop)
theorem specOwn (s : TSent) (k : Bool → Option β) : F59 β s.xTop s.xTo.xHost s.xTo.xPath s.xGuess k = k (ownGuess s) := by
  simp only [F59, P59]
  unfold ownGuess
  cases s.xGuess <;> rfl
theorem implOwn (s : TSent) (k : Bool → Option β) : F63 β s.xTop s.xTo.xHost s.xTo.xPath s.xGuess k = k (!ownGuess s) := by
  simp only [F63, P63, F64, P64]
  unfold ownGuess
  cases s.xGuess <;> rfl
theorem specSound (n : TNet) (h : n.ok) (k : Bool → Option β) : F22 β (rows kServer TServer.row n.xServers) (rows kEntry TEntry.row n.xCache.xEntries) (rows kSent TSent.row n.xLog) n.xNow k = k (n.xLog.all ownGuess) := by
  obtain ⟨_, _, h, _⟩ := h
  have hb := h.1
  unfold maxLen at hb
  simp only [F22, P22, whileK]
  rw [while_any (fun i : Nat => ([.i (i : Int), .l (rows kServer TServer.row n.xServers), .l (rows kEntry TEntry.row n.xCache.xEntries), .l (rows kSent TSent.row n.xLog), .i n.xNow] : List Leaf)) n.xLog (fun y => !ownGuess y) (0, [.b false]) (1, []) ?h1 ?h2 _ ?hs]
  case hs => rfl
  case h1 =>
    intro i y hi
    have hlt : i < n.xLog.length := (List.getElem?_eq_some_iff.1 hi).1
    exact brE (rlt hlt) (chkE (Int.natCast_nonneg _) (idxE (i := i) hi ((specOwn y _).trans (brB rfl rfl (congrArg (fun j : Int => (some (Sum.inl ([.i j, .l (rows kServer TServer.row n.xServers), .l (rows kEntry TEntry.row n.xCache.xEntries), .l (rows kSent TSent.row n.xLog), .i n.xNow] : List Leaf)) : Option (List Leaf ⊕ (Nat × List Leaf)))) (wrapS (i := i) (by omega)))))))
  case h2 => exact brN rirr rfl
  rw [← List.not_all_eq_any_not]
  cases n.xLog.all ownGuess <;> rfl
theorem implFind (l : List TSent) (h : l.length ≤ maxLen) (k : Bool → Option β) : F62c63 β (rows kSent TSent.row l) k = k (!(l.all ownGuess)) := by
  have hb := h
  unfold maxLen at hb
  simp only [F62c63, P62c63, F100c63, P100c63, whileK, rows_len]
  rw [while_find (fun i : Nat => ([.l (rows kSent TSent.row l), .i (l.length : Int), .i (i : Int)] : List Leaf)) l (fun y => !ownGuess y) (fun i _ => (0, [.i (i : Int)])) (1, []) ?h1 ?h2 _ ?hs]
  case hs => rfl
  case h1 =>
    intro i y hi
    have hlt : i < l.length := (List.getElem?_eq_some_iff.1 hi).1
    exact brE (Int.ofNat_lt.2 hlt) (chkE (Int.natCast_nonneg _) (idxE (i := i) hi ((implOwn y _).trans (brB rfl rfl (congrArg (fun j : Int => (some (Sum.inl ([.l (rows kSent TSent.row l), .i (l.length : Int), .i j] : List Leaf)) : Option (List Leaf ⊕ (Nat × List Leaf)))) (wrapS (i := i) (by omega)))))))
  case h2 => exact brN (Int.lt_irrefl _) rfl
  cases hf : l.findIdx? (fun y => !ownGuess y) with
  | none =>
    have ha : l.all ownGuess = true := by
      rw [List.all_eq_true]
      intro x hx
      simpa using List.findIdx?_eq_none_iff.1 hf x hx
    rw [ha]
    rfl
  | some i =>
    obtain ⟨hi, hp, _⟩ := List.findIdx?_eq_some_iff_getElem.1 hf
    have ha : l.all ownGuess = false := by
      rw [List.all_eq_false]
      exact ⟨l[i], List.getElem_mem hi, by simpa using hp⟩
    simp [ha, hi, lI]
theorem implSound (n : TNet) (h : n.ok) (k : Bool → Option β) : F24 β (rows kServer TServer.row n.xServers) (rows kEntry TEntry.row n.xCache.xEntries) (rows kSent TSent.row n.xLog) n.xNow k = k (n.xLog.all ownGuess) := by
  obtain ⟨_, _, h, _⟩ := h
  simp only [F24, P24]
  refine (implFind n.xLog h.1 _).trans ?_
  rw [Bool.not_not]
theorem law5 (n : TNet) (h : n.ok) (k : Bool → Option β) : F5 β (rows kServer TServer.row n.xServers) (rows kEntry TEntry.row n.xCache.xEntries) (rows kSent TSent.row n.xLog) n.xNow k = k true := by
  simp only [F5, P5]
  refine (szNet n _ (by omega) (by omega) h _).trans (szLaw (by omega) (fun m _ _ _ hs => ?_))
  have hs : n.size ≤ 1048576 := by omega
  exact (toNet n hs _).trans ((specSound n h _).trans ((toNet n hs _).trans ((implSound n h _).trans (sameB ((toNet n hs _).trans ((eqNet n n h _).trans (sameD rfl)))))))
end Go.Am
