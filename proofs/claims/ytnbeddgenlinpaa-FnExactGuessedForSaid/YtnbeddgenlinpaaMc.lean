/-
  What spec.GuessedFor and impl.GuessedFor compute, and the law between them.
-/
import Derived.Test.YtnbeddgenlinpaaTb
import Derived.Test.YtnbeddgenlinpaaAmMore
namespace Go.Am
open Go
variable {β : Type}
theorem specSent (n : TNet) (host : List UInt8) (h : n.ok) (hl : n.xLog.length ≤ 1048576) (k : List V → Option β) : F66 β (rows kServer TServer.row n.xServers) (rows kEntry TEntry.row n.xCache.xEntries) (rows kSent TSent.row n.xLog) n.xNow host k = k (rows kSent TSent.row (n.xLog.filter fun s => s.xTo.xHost == host)) := by
  simp only [F66, P66, whileK]
  rw [while_fold (fun (i : Nat) (a : List TSent) => ([.s host, .l (rows kSent TSent.row a), .i (i : Int), .l (rows kServer TServer.row n.xServers), .l (rows kEntry TEntry.row n.xCache.xEntries), .l (rows kSent TSent.row n.xLog), .i n.xNow] : List Leaf)) n.xLog (fun a y => if (y.xTo.xHost == host) then a ++ [y] else a) (fun i a => a.length ≤ i) (fun a => (0, [.l (rows kSent TSent.row a)])) ?h1 ?h2 [] (by simp) _ ?hs]
  case hs => rfl
  case h2 =>
    intro a _
    exact brN rirr rfl
  case h1 =>
    intro i y a hi ha
    have hlt : i < n.xLog.length := (List.getElem?_eq_some_iff.1 hi).1
    have hw : ∀ b : List TSent, (some (Sum.inl ([.s host, .l (rows kSent TSent.row b), .i (IntKind.wrap .i64 ((i : Int) + 1)), .l (rows kServer TServer.row n.xServers), .l (rows kEntry TEntry.row n.xCache.xEntries), .l (rows kSent TSent.row n.xLog), .i n.xNow] : List Leaf)) : Option (List Leaf ⊕ (Nat × List Leaf))) = some (Sum.inl ([.s host, .l (rows kSent TSent.row b), .i ((i + 1 : Nat) : Int), .l (rows kServer TServer.row n.xServers), .l (rows kEntry TEntry.row n.xCache.xEntries), .l (rows kSent TSent.row n.xLog), .i n.xNow] : List Leaf)) := fun b => by rw [wrapS (by omega)]
    refine ⟨brE (rlt hlt) (chkE (Int.natCast_nonneg _) (idxE (i := i) hi (brIf (fun c => ?_) (fun c => ?_)))), ?_⟩
    · have c : (y.xTo.xHost == host) = true := c
      rw [if_pos c, ← hw, ← rows_push (v := .agg [.str y.xTop, .str y.xTo.xHost, .str y.xTo.xPath, .bool y.xGuess]) rfl]
      refine chkE (Int.natCast_nonneg _) (idxE (i := i) hi (chkE ?_ rfl))
      show (((rows kSent TSent.row a).length + 1) * 56 ≤ 140737488355328 ∧ (rows kSent TSent.row a).length + 1 ≤ 140737488355328)
      rw [rows_len]
      omega
    · have c : (y.xTo.xHost == host) = false := c
      rw [c, if_neg Bool.false_ne_true, ← hw]
      rfl
    · show (if (y.xTo.xHost == host) = true then a ++ [y] else a).length ≤ i + 1
      split
      · simp; omega
      · omega
  rw [foldl_filter]
  rfl
theorem implSent (n : TNet) (host : List UInt8) (h : n.ok) (hl : n.xLog.length ≤ 1048576) (k : List V → Option β) : F68 β (rows kServer TServer.row n.xServers) (rows kEntry TEntry.row n.xCache.xEntries) (rows kSent TSent.row n.xLog) n.xNow host k = k (rows kSent TSent.row (n.xLog.filter fun s => s.xTo.xHost == host)) := by
  simp only [F68, P68, whileK, rows_len]
  rw [while_fold (fun (i : Nat) (a : List TSent) => ([.s host, .l (rows kSent TSent.row a), .l (rows kSent TSent.row n.xLog), .i (n.xLog.length : Int), .i (i : Int)] : List Leaf)) n.xLog (fun a y => if (y.xTo.xHost == host) then a ++ [y] else a) (fun i a => a.length ≤ i) (fun a => (0, [.l (rows kSent TSent.row a)])) ?h1 ?h2 [] (by simp) _ ?hs]
  case hs => rfl
  case h2 =>
    intro a _
    exact brN (Int.lt_irrefl _) rfl
  case h1 =>
    intro i y a hi ha
    have hlt : i < n.xLog.length := (List.getElem?_eq_some_iff.1 hi).1
    have hw : ∀ b : List TSent, (some (Sum.inl ([.s host, .l (rows kSent TSent.row b), .l (rows kSent TSent.row n.xLog), .i (n.xLog.length : Int), .i (IntKind.wrap .i64 ((i : Int) + 1))] : List Leaf)) : Option (List Leaf ⊕ (Nat × List Leaf))) = some (Sum.inl ([.s host, .l (rows kSent TSent.row b), .l (rows kSent TSent.row n.xLog), .i (n.xLog.length : Int), .i ((i + 1 : Nat) : Int)] : List Leaf)) := fun b => by rw [wrapS (by omega)]
    refine ⟨brE (Int.ofNat_lt.2 hlt) (chkE (Int.natCast_nonneg _) (idxE (i := i) hi (brIf (fun c => ?_) (fun c => ?_)))), ?_⟩
    · have c : (y.xTo.xHost == host) = true := c
      rw [if_pos c, ← hw, ← rows_push (v := .agg [.str y.xTop, .str y.xTo.xHost, .str y.xTo.xPath, .bool y.xGuess]) rfl]
      refine chkE ?_ rfl
      show (((rows kSent TSent.row a).length + 1) * 56 ≤ 140737488355328 ∧ (rows kSent TSent.row a).length + 1 ≤ 140737488355328)
      rw [rows_len]
      omega
    · have c : (y.xTo.xHost == host) = false := c
      rw [c, if_neg Bool.false_ne_true, ← hw]
      rfl
    · show (if (y.xTo.xHost == host) = true then a ++ [y] else a).length ≤ i + 1
      split
      · simp; omega
      · omega
  rw [foldl_filter]
  rfl
theorem implCount (l : List TSent) (hl : l.length ≤ 1048576) (k : Int → Option β) : F67 β (rows kSent TSent.row l) k = k ((l.countP (fun s => s.xGuess) : Nat) : Int) := by
  simp only [F67, P67, whileK, rows_len]
  rw [while_fold (fun (i : Nat) (a : Nat) => ([.i (a : Int), .l (rows kSent TSent.row l), .i (l.length : Int), .i (i : Int)] : List Leaf)) l (fun a y => if y.xGuess then a + 1 else a) (fun i a => a ≤ i) (fun a => (0, [.i (a : Int)])) ?h1 ?h2 0 (by simp) _ ?hs]
  case hs => rfl
  case h2 =>
    intro a _
    exact brN (Int.lt_irrefl _) rfl
  case h1 =>
    intro i y a hi ha
    have hlt : i < l.length := (List.getElem?_eq_some_iff.1 hi).1
    refine ⟨brE (Int.ofNat_lt.2 hlt) (chkE (Int.natCast_nonneg _) (idxE (i := i) hi (brIf (fun c => ?_) (fun c => ?_)))), ?_⟩
    · have c : y.xGuess = true := c
      rw [if_pos c]
      exact two (fun (c j : Int) => (some (Sum.inl ([.i c, .l (rows kSent TSent.row l), .i (l.length : Int), .i j] : List Leaf)) : Option (List Leaf ⊕ (Nat × List Leaf)))) (wrapS (i := a) (by omega)) (wrapS (i := i) (by omega))
    · have c : y.xGuess = false := c
      rw [c, if_neg Bool.false_ne_true]
      exact congrArg (fun (j : Int) => (some (Sum.inl ([.i (a : Int), .l (rows kSent TSent.row l), .i (l.length : Int), .i j] : List Leaf)) : Option (List Leaf ⊕ (Nat × List Leaf)))) (wrapS (i := i) (by omega))
    · show (if y.xGuess = true then a + 1 else a) ≤ i + 1
      split <;> omega
  rw [foldl_count, Nat.zero_add]
  rfl
theorem specGuessed (n : TNet) (host : List UInt8) (h : n.ok) (hl : n.xLog.length ≤ 1048576) (k : Int → Option β) : F26 β (rows kServer TServer.row n.xServers) (rows kEntry TEntry.row n.xCache.xEntries) (rows kSent TSent.row n.xLog) n.xNow host k = k (((n.xLog.filter fun s => s.xTo.xHost == host).countP (fun s => s.xGuess) : Nat) : Int) := by
  simp only [F26, P26]
  refine (specSent n host h hl _).trans ?_
  have hl2 : (n.xLog.filter fun s => s.xTo.xHost == host).length ≤ 1048576 := Nat.le_trans (List.length_filter_le ..) hl
  generalize (n.xLog.filter fun s => s.xTo.xHost == host) = l at hl2 ⊢
  simp only [whileK]
  rw [while_fold (fun (i : Nat) (a : Nat) => ([.i (a : Int), .l (rows kSent TSent.row l), .i (i : Int)] : List Leaf)) l (fun a y => if y.xGuess then a + 1 else a) (fun i a => a ≤ i) (fun a => (0, [.i (a : Int)])) ?h1 ?h2 0 (by simp) _ ?hs]
  case hs => rfl
  case h2 =>
    intro a _
    exact brN rirr rfl
  case h1 =>
    intro i y a hi ha
    have hlt : i < l.length := (List.getElem?_eq_some_iff.1 hi).1
    refine ⟨brE (rlt hlt) (chkE ⟨Int.natCast_nonneg _, ?_⟩ (idxAtE (ks' := [.bool]) (i := i) (e := (y.xGuess, ())) hi rfl (brIf (fun c => ?_) (fun c => ?_)))), ?_⟩
    · show (Int.toNat (i : Int)) < (rows kSent TSent.row l).length
      rw [rows_len]; exact hlt
    · have c : y.xGuess = true := c
      rw [if_pos c]
      exact two (fun (c j : Int) => (some (Sum.inl ([.i c, .l (rows kSent TSent.row l), .i j] : List Leaf)) : Option (List Leaf ⊕ (Nat × List Leaf)))) (wrapS (i := a) (by omega)) (wrapS (i := i) (by omega))
    · have c : y.xGuess = false := c
      rw [c, if_neg Bool.false_ne_true]
      exact congrArg (fun (j : Int) => (some (Sum.inl ([.i (a : Int), .l (rows kSent TSent.row l), .i j] : List Leaf)) : Option (List Leaf ⊕ (Nat × List Leaf)))) (wrapS (i := i) (by omega))
    · show (if y.xGuess = true then a + 1 else a) ≤ i + 1
      split <;> omega
  rw [foldl_count, Nat.zero_add]
  rfl
theorem implGuessed (n : TNet) (host : List UInt8) (h : n.ok) (hl : n.xLog.length ≤ 1048576) (k : Int → Option β) : F27 β (rows kServer TServer.row n.xServers) (rows kEntry TEntry.row n.xCache.xEntries) (rows kSent TSent.row n.xLog) n.xNow host k = k (((n.xLog.filter fun s => s.xTo.xHost == host).countP (fun s => s.xGuess) : Nat) : Int) := by
  simp only [F27, P27]
  exact (implSent n host h hl _).trans ((implCount _ (Nat.le_trans (List.length_filter_le ..) hl) _).trans rfl)
theorem law6 (n : TNet) (host : List UInt8) (h : n.ok) (_ : okS host) (k : Bool → Option β) : F6 β (rows kServer TServer.row n.xServers) (rows kEntry TEntry.row n.xCache.xEntries) (rows kSent TSent.row n.xLog) n.xNow host k = k true := by
  simp only [F6, P6]
  by_cases c : (host.length : Int) > 1048576
  · exact brE c rfl
  · refine brN c ?_
    refine (szNet n _ (by omega) (by omega) h _).trans (szLaw (by omega) (fun m _ _ _ hs => ?_))
    have hs : n.size ≤ 1048576 := by omega
    have hl : n.xLog.length ≤ 1048576 := by unfold TNet.size at hs; omega
    exact (toNet n hs _).trans ((specGuessed n host h hl _).trans ((toNet n hs _).trans ((implGuessed n host h hl _).trans (sameI ((toNet n hs _).trans ((eqNet n n h _).trans (sameD rfl)))))))
end Go.Am
