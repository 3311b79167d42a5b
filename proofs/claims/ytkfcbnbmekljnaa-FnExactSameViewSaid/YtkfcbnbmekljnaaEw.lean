/-
  Typed forms of functions of the program, written by program (eform.py): each over structures and lists, and that, where it answers, the extracted function hands on that answer.
-/
import Derived.Test.YtkfcbnbmekljnaaAmTyped
import Derived.Test.YtkfcbnbmekljnaaTy
import Derived.Test.YtkfcbnbmekljnaaFw
import Derived.Test.YtkfcbnbmekljnaaTw
set_option maxRecDepth 10000
set_option linter.unusedVariables false
namespace Go.Am
open Go Go.Proofs
variable {β : Type}
/-- spec.SentTo -/
noncomputable def sSentTo (n : TNet) (host : List UInt8) : Option (List TSent) :=
  (forE n.xLog (fun (i_1 : Nat) (x_1 : TSent) (s1 : List TSent) => (
    br (x_1.xTo.xHost == host) (
      chk ((s1.length + 1) * 56 ≤ 140737488355328 ∧ s1.length + 1 ≤ 140737488355328) <|
      some (.inl (s1 ++ [x_1]))
    ) (
      some (.inl s1)
    )
  : Option ((List TSent) ⊕ (List TSent)))) (fun (s1 : List TSent) => (s1 : List TSent)) ([] : List TSent)).bind <|
  fun (r4 : List TSent) =>
  some r4
theorem ei_sSentTo (n : TNet) (host : List UInt8) (k : List V → Option β) : Imp (F43 β (rows kServer TServer.row n.xServers) (rows kEntry TEntry.row n.xCache.xEntries) (rows kSent TSent.row n.xLog) n.xNow host k) (sSentTo n host) (fun r => k (rows kSent TSent.row r)) := by
  delta F43 P43 sSentTo
  refine Imp.for (enc := fun (i_1 : Nat) (s1 : List TSent) => [.s host, .l (rows kSent TSent.row s1), .i (i_1 : Int), .l (rows kServer TServer.row n.xServers), .l (rows kEntry TEntry.row n.xCache.xEntries), .l (rows kSent TSent.row n.xLog), .i n.xNow]) (encR := fun (u : List TSent) => (((0, [.l (rows kSent TSent.row u)]) : Nat × List Leaf))) rfl (fun i_1 x_1 s1 hx1 hl1 hm1 => Imp.brT (T_lt (ks := kSent) (g := TSent.row) hl1) ?_) (fun s1 => brN (T_irr (ks := kSent) (g := TSent.row) n.xLog) rfl) (fun r4 => ?_)
  · refine Imp.idxFor (ks := kSent) (g := TSent.row) hx1 ?_
    refine Imp.br rfl ?_ ?_
    · refine Imp.idxFor (ks := kSent) (g := TSent.row) hx1 ?_
      refine Imp.chk (c2 (fun z0 z1 : Nat => (z0 + 1) * 56 ≤ 140737488355328 ∧ z1 + 1 ≤ 140737488355328) (T_len (ks := kSent) (g := TSent.row) s1) (T_len (ks := kSent) (g := TSent.row) s1)) (fun _ => ?_)
      exact Imp.ret (c2 (fun (h1 : List V) (h2 : Int) => (some (Sum.inl [.s host, .l h1, .i h2, .l (rows kServer TServer.row n.xServers), .l (rows kEntry TEntry.row n.xCache.xEntries), .l (rows kSent TSent.row n.xLog), .i n.xNow]) : Option (List Leaf ⊕ (Nat × List Leaf)))) (T_app (ks := kSent) (g := TSent.row) s1 [x_1]) (wrapJ hl1))
    · exact Imp.ret (c1 (fun (h1 : Int) => (some (Sum.inl [.s host, .l (rows kSent TSent.row s1), .i h1, .l (rows kServer TServer.row n.xServers), .l (rows kEntry TEntry.row n.xCache.xEntries), .l (rows kSent TSent.row n.xLog), .i n.xNow]) : Option (List Leaf ⊕ (Nat × List Leaf)))) (wrapJ hl1))
  · exact Imp.ret rfl

/-- spec.HasAddr -/
noncomputable def sHasAddr (l : List TAddr) (a : TAddr) : Option Bool :=
  (forE l (fun (i_1 : Nat) (x_1 : TAddr) (s1 : Unit) => (
    br ((x_1.xHost == a.xHost) && ((x_1.xPath == a.xPath) && true)) (
      some (.inr (.inl ()))
    ) (
      some (.inl ())
    )
  : Option (Unit ⊕ (Unit ⊕ Unit)))) (fun (s1 : Unit) => (.inr () : Unit ⊕ Unit)) (() : Unit)).bind <|
  Sum.elim
    (fun (r3 : Unit) =>
      some true
    )
    (fun (r3 : Unit) =>
      some false
    )
theorem ei_sHasAddr (l : List TAddr) (a : TAddr) (k : Bool → Option β) : Imp (F70 β (rows kAddr TAddr.row l) a.xHost a.xPath k) (sHasAddr l a) (fun r => k r) := by
  delta F70 P70 sHasAddr
  refine Imp.for (enc := fun (i_1 : Nat) (s1 : Unit) => [.l (rows kAddr TAddr.row l), .i (i_1 : Int), .s a.xHost, .s a.xPath]) (encR := Sum.elim (fun (u : Unit) => (((0, [.b true]) : Nat × List Leaf))) (fun (u : Unit) => (((1, []) : Nat × List Leaf)))) rfl (fun i_1 x_1 s1 hx1 hl1 hm1 => Imp.brT (T_lt (ks := kAddr) (g := TAddr.row) hl1) ?_) (fun s1 => brN (T_irr (ks := kAddr) (g := TAddr.row) l) rfl) (fun r3 => ?_)
  · refine Imp.idxFor (ks := kAddr) (g := TAddr.row) hx1 ?_
    refine Imp.br rfl ?_ ?_
    · exact Imp.ret rfl
    · exact Imp.ret (c1 (fun (h1 : Int) => (some (Sum.inl [.l (rows kAddr TAddr.row l), .i h1, .s a.xHost, .s a.xPath]) : Option (List Leaf ⊕ (Nat × List Leaf)))) (wrapJ hl1))
  · cases r3 with
    | inl r3 =>
      refine Imp.ifT rfl ?_
      exact Imp.ret rfl
    | inr r3 =>
      refine Imp.ifF (show ¬ ((1 : Nat) = 0) by decide) ?_
      exact Imp.ret rfl

/-- spec.CompareAddrs -/
noncomputable def sCompareAddrs (a : TAddr) (b : TAddr) : Option Int :=
  br ((a.xHost == b.xHost) && ((a.xPath == b.xPath) && true)) (
    some 0
  ) (
    br (less a.xHost b.xHost) (
      some (-1)
    ) (
      br (a.xHost == b.xHost) (
        br (less a.xPath b.xPath) (
          some (-1)
        ) (
          some 1
        )
      ) (
        some 1
      )
    )
  )
theorem ei_sCompareAddrs (a : TAddr) (b : TAddr) (k : Int → Option β) : Imp (F71 β a.xHost a.xPath b.xHost b.xPath k) (sCompareAddrs a b) (fun r => k r) := by
  delta F71 P71 sCompareAddrs
  refine Imp.br rfl ?_ ?_
  · exact Imp.ret rfl
  · refine Imp.br rfl ?_ ?_
    · exact Imp.ret rfl
    · refine Imp.br rfl ?_ ?_
      · refine Imp.br rfl ?_ ?_
        · exact Imp.ret rfl
        · exact Imp.ret rfl
      · exact Imp.ret rfl

/-- spec.SortAddrs -/
noncomputable def sSortAddrs (l : List TAddr) : Option (List TAddr) :=
  (forE l (fun (i_1 : Nat) (x_1 : TAddr) (s1 : List TAddr) => (
    (sHasAddr s1 x_1).bind fun (r3 : Bool) =>
    br r3 (
      some (.inl s1)
    ) (
      (whileE (fun (s4 : Int) => (
        br (decide (s4 > 0)) (
          chk (0 ≤ IntKind.wrap .i64 (s4 - 1) ∧ (IntKind.wrap .i64 (s4 - 1)).toNat < s1.length) <|
          (getI s1 (IntKind.wrap .i64 (s4 - 1))).bind fun (e6 : TAddr) =>
          (sCompareAddrs x_1 e6).bind fun (r7 : Int) =>
          br (decide (r7 < 0)) (
            some (.inl (IntKind.wrap .i64 (s4 - 1)))
          ) (
            some (.inr s4)
          )
        ) (
          some (.inr s4)
        )
      : Option (Int ⊕ Int))) ((s1.length : Int) : Int)).bind <|
      fun (r8 : Int) =>
      chk (0 ≤ (0 : Int) ∧ (0 : Int) ≤ r8 ∧ r8 ≤ (s1.length : Int)) <|
      chk ((0 + ((s1.take (r8.toNat)).drop 0).length) * 32 ≤ 140737488355328 ∧ 0 + ((s1.take (r8.toNat)).drop 0).length ≤ 140737488355328) <|
      chk ((([] ++ ((s1.take (r8.toNat)).drop 0)).length + 1) * 32 ≤ 140737488355328 ∧ ([] ++ ((s1.take (r8.toNat)).drop 0)).length + 1 ≤ 140737488355328) <|
      chk (0 ≤ r8 ∧ r8 ≤ (s1.length : Int) ∧ (s1.length : Int) ≤ (s1.length : Int)) <|
      chk (((([] ++ ((s1.take (r8.toNat)).drop 0)) ++ [x_1]).length + ((s1.take ((s1.length : Int).toNat)).drop (r8.toNat)).length) * 32 ≤ 140737488355328 ∧ (([] ++ ((s1.take (r8.toNat)).drop 0)) ++ [x_1]).length + ((s1.take ((s1.length : Int).toNat)).drop (r8.toNat)).length ≤ 140737488355328) <|
      some (.inl ((([] ++ ((s1.take (r8.toNat)).drop 0)) ++ [x_1]) ++ ((s1.take ((s1.length : Int).toNat)).drop (r8.toNat))))
    )
  : Option ((List TAddr) ⊕ (List TAddr)))) (fun (s1 : List TAddr) => (s1 : List TAddr)) ([] : List TAddr)).bind <|
  fun (r10 : List TAddr) =>
  some r10
theorem ei_sSortAddrs (l : List TAddr) (k : List V → Option β) : Imp (F55 β (rows kAddr TAddr.row l) k) (sSortAddrs l) (fun r => k (rows kAddr TAddr.row r)) := by
  delta F55 P55 sSortAddrs
  refine Imp.for (enc := fun (i_1 : Nat) (s1 : List TAddr) => [.l (rows kAddr TAddr.row l), .l (rows kAddr TAddr.row s1), .i (i_1 : Int)]) (encR := fun (u : List TAddr) => (((0, [.l (rows kAddr TAddr.row u)]) : Nat × List Leaf))) rfl (fun i_1 x_1 s1 hx1 hl1 hm1 => Imp.brT (T_lt (ks := kAddr) (g := TAddr.row) hl1) ?_) (fun s1 => brN (T_irr (ks := kAddr) (g := TAddr.row) l) rfl) (fun r10 => ?_)
  · refine Imp.idxFor (ks := kAddr) (g := TAddr.row) hx1 ?_
    refine Imp.call rfl (ei_sHasAddr s1 x_1 _) (fun r3 _ => ?_)
    refine Imp.br rfl ?_ ?_
    · exact Imp.ret (c1 (fun (h1 : Int) => (some (Sum.inl [.l (rows kAddr TAddr.row l), .l (rows kAddr TAddr.row s1), .i h1]) : Option (List Leaf ⊕ (Nat × List Leaf)))) (wrapJ hl1))
    · refine Imp.while (enc := fun (s4 : Int) => [.l (rows kAddr TAddr.row l), .l (rows kAddr TAddr.row s1), .i (i_1 : Int), .i s4]) (encR := fun (u : Int) => (((0, [.l (rows kAddr TAddr.row l), .l (rows kAddr TAddr.row s1), .i (i_1 : Int), .i u]) : Nat × List Leaf))) (c1 (fun (h1 : Int) => ([.l (rows kAddr TAddr.row l), .l (rows kAddr TAddr.row s1), .i (i_1 : Int), .i h1] : List Leaf)) (c1 (fun z0 : Nat => (z0 : Int)) (T_len (ks := kAddr) (g := TAddr.row) s1))) (fun s4 => ?_) (fun r8 => ?_)
      · refine Imp.br rfl ?_ ?_
        · refine Imp.idxFor (ks := kAddr) (g := TAddr.row) hx1 ?_
          refine Imp.chk (c1 (fun z0 : Nat => 0 ≤ IntKind.wrap .i64 (s4 - 1) ∧ (IntKind.wrap .i64 (s4 - 1)).toNat < z0) (T_len (ks := kAddr) (g := TAddr.row) s1)) (fun _ => ?_)
          refine Imp.idxAt (ks := kAddr) (g := TAddr.row) rfl rfl (fun e6 => rfl) (fun e6 _ => ?_)
          refine Imp.call rfl (ei_sCompareAddrs x_1 e6 _) (fun r7 _ => ?_)
          refine Imp.br rfl ?_ ?_
          · exact Imp.ret rfl
          · exact Imp.ret rfl
        · exact Imp.ret rfl
      · refine Imp.chk (c1 (fun z0 : Nat => 0 ≤ (0 : Int) ∧ (0 : Int) ≤ r8 ∧ r8 ≤ (z0 : Int)) (T_len (ks := kAddr) (g := TAddr.row) s1)) (fun _ => ?_)
        refine Imp.chk (c2 (fun z0 z1 : Nat => (0 + z0) * 32 ≤ 140737488355328 ∧ 0 + z1 ≤ 140737488355328) ((c1 (fun u : List V => u.length) (T_cut (ks := kAddr) (g := TAddr.row) s1 (r8.toNat) 0)).trans (T_len (ks := kAddr) (g := TAddr.row) ((s1.take (r8.toNat)).drop 0))) ((c1 (fun u : List V => u.length) (T_cut (ks := kAddr) (g := TAddr.row) s1 (r8.toNat) 0)).trans (T_len (ks := kAddr) (g := TAddr.row) ((s1.take (r8.toNat)).drop 0)))) (fun _ => ?_)
        refine Imp.idxFor (ks := kAddr) (g := TAddr.row) hx1 ?_
        refine Imp.chk (c2 (fun z0 z1 : Nat => (z0 + 1) * 32 ≤ 140737488355328 ∧ z1 + 1 ≤ 140737488355328) ((c1 (fun u : List V => u.length) ((c2 (fun u v : List V => u ++ v) rfl (T_cut (ks := kAddr) (g := TAddr.row) s1 (r8.toNat) 0)).trans (T_app (ks := kAddr) (g := TAddr.row) [] ((s1.take (r8.toNat)).drop 0)))).trans (T_len (ks := kAddr) (g := TAddr.row) ([] ++ ((s1.take (r8.toNat)).drop 0)))) ((c1 (fun u : List V => u.length) ((c2 (fun u v : List V => u ++ v) rfl (T_cut (ks := kAddr) (g := TAddr.row) s1 (r8.toNat) 0)).trans (T_app (ks := kAddr) (g := TAddr.row) [] ((s1.take (r8.toNat)).drop 0)))).trans (T_len (ks := kAddr) (g := TAddr.row) ([] ++ ((s1.take (r8.toNat)).drop 0))))) (fun _ => ?_)
        refine Imp.chk (c3 (fun z0 z1 z2 : Nat => 0 ≤ r8 ∧ r8 ≤ (z0 : Int) ∧ (z1 : Int) ≤ (z2 : Int)) (T_len (ks := kAddr) (g := TAddr.row) s1) (T_len (ks := kAddr) (g := TAddr.row) s1) (T_len (ks := kAddr) (g := TAddr.row) s1)) (fun _ => ?_)
        refine Imp.chk (c4 (fun z0 z1 z2 z3 : Nat => (z0 + z1) * 32 ≤ 140737488355328 ∧ z2 + z3 ≤ 140737488355328) ((c1 (fun u : List V => u.length) ((c2 (fun u v : List V => u ++ v) ((c2 (fun u v : List V => u ++ v) rfl (T_cut (ks := kAddr) (g := TAddr.row) s1 (r8.toNat) 0)).trans (T_app (ks := kAddr) (g := TAddr.row) [] ((s1.take (r8.toNat)).drop 0))) rfl).trans (T_app (ks := kAddr) (g := TAddr.row) ([] ++ ((s1.take (r8.toNat)).drop 0)) [x_1]))).trans (T_len (ks := kAddr) (g := TAddr.row) (([] ++ ((s1.take (r8.toNat)).drop 0)) ++ [x_1]))) ((c1 (fun u : List V => u.length) ((c3 (fun (u : List V) (a b : Nat) => (u.take a).drop b) rfl (c1 (fun z0 : Nat => ((z0 : Int).toNat)) (T_len (ks := kAddr) (g := TAddr.row) s1)) rfl).trans (T_cut (ks := kAddr) (g := TAddr.row) s1 ((s1.length : Int).toNat) (r8.toNat)))).trans (T_len (ks := kAddr) (g := TAddr.row) ((s1.take ((s1.length : Int).toNat)).drop (r8.toNat)))) ((c1 (fun u : List V => u.length) ((c2 (fun u v : List V => u ++ v) ((c2 (fun u v : List V => u ++ v) rfl (T_cut (ks := kAddr) (g := TAddr.row) s1 (r8.toNat) 0)).trans (T_app (ks := kAddr) (g := TAddr.row) [] ((s1.take (r8.toNat)).drop 0))) rfl).trans (T_app (ks := kAddr) (g := TAddr.row) ([] ++ ((s1.take (r8.toNat)).drop 0)) [x_1]))).trans (T_len (ks := kAddr) (g := TAddr.row) (([] ++ ((s1.take (r8.toNat)).drop 0)) ++ [x_1]))) ((c1 (fun u : List V => u.length) ((c3 (fun (u : List V) (a b : Nat) => (u.take a).drop b) rfl (c1 (fun z0 : Nat => ((z0 : Int).toNat)) (T_len (ks := kAddr) (g := TAddr.row) s1)) rfl).trans (T_cut (ks := kAddr) (g := TAddr.row) s1 ((s1.length : Int).toNat) (r8.toNat)))).trans (T_len (ks := kAddr) (g := TAddr.row) ((s1.take ((s1.length : Int).toNat)).drop (r8.toNat))))) (fun _ => ?_)
        exact Imp.ret (c2 (fun (h1 : List V) (h2 : Int) => (some (Sum.inl [.l (rows kAddr TAddr.row l), .l h1, .i h2]) : Option (List Leaf ⊕ (Nat × List Leaf)))) ((c2 (fun u v : List V => u ++ v) ((c2 (fun u v : List V => u ++ v) ((c2 (fun u v : List V => u ++ v) rfl (T_cut (ks := kAddr) (g := TAddr.row) s1 (r8.toNat) 0)).trans (T_app (ks := kAddr) (g := TAddr.row) [] ((s1.take (r8.toNat)).drop 0))) rfl).trans (T_app (ks := kAddr) (g := TAddr.row) ([] ++ ((s1.take (r8.toNat)).drop 0)) [x_1])) ((c3 (fun (u : List V) (a b : Nat) => (u.take a).drop b) rfl (c1 (fun z0 : Nat => ((z0 : Int).toNat)) (T_len (ks := kAddr) (g := TAddr.row) s1)) rfl).trans (T_cut (ks := kAddr) (g := TAddr.row) s1 ((s1.length : Int).toNat) (r8.toNat)))).trans (T_app (ks := kAddr) (g := TAddr.row) (([] ++ ((s1.take (r8.toNat)).drop 0)) ++ [x_1]) ((s1.take ((s1.length : Int).toNat)).drop (r8.toNat)))) (wrapJ hl1))
  · exact Imp.ret rfl

/-- spec.CrossLearned -/
noncomputable def sCrossLearned (n : TNet) (host : List UInt8) : Option (List TAddr) :=
  (sSentTo n host).bind fun (r1 : List TSent) =>
  (forE r1 (fun (i_2 : Nat) (x_2 : TSent) (s2 : List TAddr) => (
    br (!(x_2.xTop == host)) (
      chk ((s2.length + 1) * 32 ≤ 140737488355328 ∧ s2.length + 1 ≤ 140737488355328) <|
      some (.inl (s2 ++ [x_2.xTo]))
    ) (
      some (.inl s2)
    )
  : Option ((List TAddr) ⊕ (List TAddr)))) (fun (s2 : List TAddr) => (s2 : List TAddr)) ([] : List TAddr)).bind <|
  fun (r5 : List TAddr) =>
  (sSortAddrs r5).bind fun (r6 : List TAddr) =>
  some r6
theorem ei_sCrossLearned (n : TNet) (host : List UInt8) (k : List V → Option β) : Imp (F34 β (rows kServer TServer.row n.xServers) (rows kEntry TEntry.row n.xCache.xEntries) (rows kSent TSent.row n.xLog) n.xNow host k) (sCrossLearned n host) (fun r => k (rows kAddr TAddr.row r)) := by
  delta F34 P34 sCrossLearned
  refine Imp.call rfl (ei_sSentTo n host _) (fun r1 _ => ?_)
  refine Imp.for (enc := fun (i_2 : Nat) (s2 : List TAddr) => [.s host, .l (rows kAddr TAddr.row s2), .l (rows kSent TSent.row r1), .i (i_2 : Int)]) (encR := fun (u : List TAddr) => (((0, [.l (rows kAddr TAddr.row u)]) : Nat × List Leaf))) rfl (fun i_2 x_2 s2 hx2 hl2 hm2 => Imp.brT (T_lt (ks := kSent) (g := TSent.row) hl2) ?_) (fun s2 => brN (T_irr (ks := kSent) (g := TSent.row) r1) rfl) (fun r5 => ?_)
  · refine Imp.chkE ⟨Int.natCast_nonneg _, Nat.lt_of_lt_of_eq hl2 (T_len (ks := kSent) (g := TSent.row) r1).symm⟩ ?_
    refine Imp.idxAtFor (ks := kSent) (g := TSent.row) hx2 rfl ?_
    refine Imp.br rfl ?_ ?_
    · refine Imp.chkE ⟨Int.natCast_nonneg _, Nat.lt_of_lt_of_eq hl2 (T_len (ks := kSent) (g := TSent.row) r1).symm⟩ ?_
      refine Imp.idxAtFor (ks := kSent) (g := TSent.row) hx2 rfl ?_
      refine Imp.chk (c2 (fun z0 z1 : Nat => (z0 + 1) * 32 ≤ 140737488355328 ∧ z1 + 1 ≤ 140737488355328) (T_len (ks := kAddr) (g := TAddr.row) s2) (T_len (ks := kAddr) (g := TAddr.row) s2)) (fun _ => ?_)
      exact Imp.ret (c2 (fun (h1 : List V) (h2 : Int) => (some (Sum.inl [.s host, .l h1, .l (rows kSent TSent.row r1), .i h2]) : Option (List Leaf ⊕ (Nat × List Leaf)))) (T_app (ks := kAddr) (g := TAddr.row) s2 [x_2.xTo]) (wrapJ hl2))
    · exact Imp.ret (c1 (fun (h1 : Int) => (some (Sum.inl [.s host, .l (rows kAddr TAddr.row s2), .l (rows kSent TSent.row r1), .i h1]) : Option (List Leaf ⊕ (Nat × List Leaf)))) (wrapJ hl2))
  · refine Imp.call rfl (ei_sSortAddrs r5 _) (fun r6 _ => ?_)
    exact Imp.ret rfl

/-- spec.l15Addrs -/
noncomputable def sl15Addrs (a : List TAddr) (b : List TAddr) : Option Bool :=
  br ((a.length : Int) != (b.length : Int)) (
    some false
  ) (
    (forE a (fun (i_1 : Nat) (x_1 : TAddr) (s1 : Unit) => (
      (getI b (i_1 : Int)).bind fun (e3 : TAddr) =>
      br (!((x_1.xHost == e3.xHost) && ((x_1.xPath == e3.xPath) && true))) (
        some (.inr (.inl ()))
      ) (
        some (.inl ())
      )
    : Option (Unit ⊕ (Unit ⊕ Unit)))) (fun (s1 : Unit) => (.inr () : Unit ⊕ Unit)) (() : Unit)).bind <|
    Sum.elim
      (fun (r4 : Unit) =>
        some false
      )
      (fun (r4 : Unit) =>
        some true
      )
  )
theorem ei_sl15Addrs (a : List TAddr) (b : List TAddr) (k : Bool → Option β) : Imp (F33 β (rows kAddr TAddr.row a) (rows kAddr TAddr.row b) k) (sl15Addrs a b) (fun r => k r) := by
  delta F33 P33 sl15Addrs
  refine Imp.br (c2 (fun z0 z1 : Nat => ((z0 : Int) != (z1 : Int))) (T_len (ks := kAddr) (g := TAddr.row) a) (T_len (ks := kAddr) (g := TAddr.row) b)) ?_ ?_
  · exact Imp.ret rfl
  · refine Imp.for (enc := fun (i_1 : Nat) (s1 : Unit) => [.l (rows kAddr TAddr.row a), .l (rows kAddr TAddr.row b), .i (i_1 : Int)]) (encR := Sum.elim (fun (u : Unit) => (((0, [.b false]) : Nat × List Leaf))) (fun (u : Unit) => (((1, []) : Nat × List Leaf)))) rfl (fun i_1 x_1 s1 hx1 hl1 hm1 => Imp.brT (T_lt (ks := kAddr) (g := TAddr.row) hl1) ?_) (fun s1 => brN (T_irr (ks := kAddr) (g := TAddr.row) a) rfl) (fun r4 => ?_)
    · refine Imp.idxFor (ks := kAddr) (g := TAddr.row) hx1 ?_
      refine Imp.idx (ks := kAddr) (g := TAddr.row) rfl rfl (fun e3 _ => ?_)
      refine Imp.br rfl ?_ ?_
      · exact Imp.ret rfl
      · exact Imp.ret (c1 (fun (h1 : Int) => (some (Sum.inl [.l (rows kAddr TAddr.row a), .l (rows kAddr TAddr.row b), .i h1]) : Option (List Leaf ⊕ (Nat × List Leaf)))) (wrapJ hl1))
    · cases r4 with
      | inl r4 =>
        refine Imp.ifT rfl ?_
        exact Imp.ret rfl
      | inr r4 =>
        refine Imp.ifF (show ¬ ((1 : Nat) = 0) by decide) ?_
        exact Imp.ret rfl

/-- spec.l9Has -/
noncomputable def sl9Has (l : List (List UInt8)) (s : List UInt8) : Option Bool :=
  (forE l (fun (i_1 : Nat) (x_1 : List UInt8) (s1 : Unit) => (
    br (x_1 == s) (
      some (.inr (.inl ()))
    ) (
      some (.inl ())
    )
  : Option (Unit ⊕ (Unit ⊕ Unit)))) (fun (s1 : Unit) => (.inr () : Unit ⊕ Unit)) (() : Unit)).bind <|
  Sum.elim
    (fun (r3 : Unit) =>
      some true
    )
    (fun (r3 : Unit) =>
      some false
    )
theorem ei_sl9Has (l : List (List UInt8)) (s : List UInt8) (k : Bool → Option β) : Imp (F36 β (rStr l) s k) (sl9Has l s) (fun r => k r) := by
  delta F36 P36 sl9Has
  refine Imp.for (enc := fun (i_1 : Nat) (s1 : Unit) => [.l (rStr l), .s s, .i (i_1 : Int)]) (encR := Sum.elim (fun (u : Unit) => (((0, [.b true]) : Nat × List Leaf))) (fun (u : Unit) => (((1, []) : Nat × List Leaf)))) rfl (fun i_1 x_1 s1 hx1 hl1 hm1 => Imp.brT (U_lt (T := List UInt8) (kd := .str) (g1 := fun e => e) hl1) ?_) (fun s1 => brN (U_irr (T := List UInt8) (kd := .str) (g1 := fun e => e) l) rfl) (fun r3 => ?_)
  · refine Imp.idxFor1 (kd := .str) (g1 := fun e => e) hx1 ?_
    refine Imp.br rfl ?_ ?_
    · exact Imp.ret rfl
    · exact Imp.ret (c1 (fun (h1 : Int) => (some (Sum.inl [.l (rStr l), .s s, .i h1]) : Option (List Leaf ⊕ (Nat × List Leaf)))) (wrapJ hl1))
  · cases r3 with
    | inl r3 =>
      refine Imp.ifT rfl ?_
      exact Imp.ret rfl
    | inr r3 =>
      refine Imp.ifF (show ¬ ((1 : Nat) = 0) by decide) ?_
      exact Imp.ret rfl

/-- spec.TopsOf -/
noncomputable def sTopsOf (n : TNet) (host : List UInt8) : Option (List (List UInt8)) :=
  (sSentTo n host).bind fun (r1 : List TSent) =>
  (forE r1 (fun (i_2 : Nat) (x_2 : TSent) (s2 : List (List UInt8)) => (
    (sl9Has s2 x_2.xTop).bind fun (r4 : Bool) =>
    br (!r4) (
      chk ((s2.length + 1) * 16 ≤ 140737488355328 ∧ s2.length + 1 ≤ 140737488355328) <|
      some (.inl (s2 ++ [x_2.xTop]))
    ) (
      some (.inl s2)
    )
  : Option ((List (List UInt8)) ⊕ (List (List UInt8))))) (fun (s2 : List (List UInt8)) => (s2 : List (List UInt8))) ([] : List (List UInt8))).bind <|
  fun (r6 : List (List UInt8)) =>
  some r6
theorem ei_sTopsOf (n : TNet) (host : List UInt8) (k : List V → Option β) : Imp (F19 β (rows kServer TServer.row n.xServers) (rows kEntry TEntry.row n.xCache.xEntries) (rows kSent TSent.row n.xLog) n.xNow host k) (sTopsOf n host) (fun r => k (rStr r)) := by
  delta F19 P19 sTopsOf
  refine Imp.call rfl (ei_sSentTo n host _) (fun r1 _ => ?_)
  refine Imp.for (enc := fun (i_2 : Nat) (s2 : List (List UInt8)) => [.l (rStr s2), .l (rows kSent TSent.row r1), .i (i_2 : Int)]) (encR := fun (u : List (List UInt8)) => (((0, [.l (rStr u)]) : Nat × List Leaf))) rfl (fun i_2 x_2 s2 hx2 hl2 hm2 => Imp.brT (T_lt (ks := kSent) (g := TSent.row) hl2) ?_) (fun s2 => brN (T_irr (ks := kSent) (g := TSent.row) r1) rfl) (fun r6 => ?_)
  · refine Imp.chkE ⟨Int.natCast_nonneg _, Nat.lt_of_lt_of_eq hl2 (T_len (ks := kSent) (g := TSent.row) r1).symm⟩ ?_
    refine Imp.idxAtFor (ks := kSent) (g := TSent.row) hx2 rfl ?_
    refine Imp.call rfl (ei_sl9Has s2 x_2.xTop _) (fun r4 _ => ?_)
    refine Imp.br rfl ?_ ?_
    · refine Imp.chkE ⟨Int.natCast_nonneg _, Nat.lt_of_lt_of_eq hl2 (T_len (ks := kSent) (g := TSent.row) r1).symm⟩ ?_
      refine Imp.idxAtFor (ks := kSent) (g := TSent.row) hx2 rfl ?_
      refine Imp.chk (c2 (fun z0 z1 : Nat => (z0 + 1) * 16 ≤ 140737488355328 ∧ z1 + 1 ≤ 140737488355328) (U_len (T := List UInt8) (kd := .str) (g1 := fun e => e) s2) (U_len (T := List UInt8) (kd := .str) (g1 := fun e => e) s2)) (fun _ => ?_)
      exact Imp.ret (c2 (fun (h1 : List V) (h2 : Int) => (some (Sum.inl [.l h1, .l (rows kSent TSent.row r1), .i h2]) : Option (List Leaf ⊕ (Nat × List Leaf)))) (U_app (T := List UInt8) (kd := .str) (g1 := fun e => e) s2 [x_2.xTop]) (wrapJ hl2))
    · exact Imp.ret (c1 (fun (h1 : Int) => (some (Sum.inl [.l (rStr s2), .l (rows kSent TSent.row r1), .i h1]) : Option (List Leaf ⊕ (Nat × List Leaf)))) (wrapJ hl2))
  · exact Imp.ret rfl

/-- spec.TopsAround -/
noncomputable def sTopsAround (n : TNet) (host : List UInt8) : Option (List (List UInt8)) :=
  (sTopsOf n host).bind fun (r1 : List (List UInt8)) =>
  (forE r1 (fun (i_2 : Nat) (x_2 : List UInt8) (s2 : List (List UInt8)) => (
    br (x_2 == host) (
      some (.inl s2)
    ) (
      (whileE (fun (s4 : Int) => (
        br (decide (s4 > 0)) (
          chk (0 ≤ IntKind.wrap .i64 (s4 - 1) ∧ (IntKind.wrap .i64 (s4 - 1)).toNat < s2.length) <|
          (getI s2 (IntKind.wrap .i64 (s4 - 1))).bind fun (e6 : List UInt8) =>
          br (less x_2 e6) (
            some (.inl (IntKind.wrap .i64 (s4 - 1)))
          ) (
            some (.inr s4)
          )
        ) (
          some (.inr s4)
        )
      : Option (Int ⊕ Int))) ((s2.length : Int) : Int)).bind <|
      fun (r7 : Int) =>
      chk (0 ≤ (0 : Int) ∧ (0 : Int) ≤ r7 ∧ r7 ≤ (s2.length : Int)) <|
      chk ((0 + ((s2.take (r7.toNat)).drop 0).length) * 16 ≤ 140737488355328 ∧ 0 + ((s2.take (r7.toNat)).drop 0).length ≤ 140737488355328) <|
      chk ((([] ++ ((s2.take (r7.toNat)).drop 0)).length + 1) * 16 ≤ 140737488355328 ∧ ([] ++ ((s2.take (r7.toNat)).drop 0)).length + 1 ≤ 140737488355328) <|
      chk (0 ≤ r7 ∧ r7 ≤ (s2.length : Int) ∧ (s2.length : Int) ≤ (s2.length : Int)) <|
      chk (((([] ++ ((s2.take (r7.toNat)).drop 0)) ++ [x_2]).length + ((s2.take ((s2.length : Int).toNat)).drop (r7.toNat)).length) * 16 ≤ 140737488355328 ∧ (([] ++ ((s2.take (r7.toNat)).drop 0)) ++ [x_2]).length + ((s2.take ((s2.length : Int).toNat)).drop (r7.toNat)).length ≤ 140737488355328) <|
      some (.inl ((([] ++ ((s2.take (r7.toNat)).drop 0)) ++ [x_2]) ++ ((s2.take ((s2.length : Int).toNat)).drop (r7.toNat))))
    )
  : Option ((List (List UInt8)) ⊕ (List (List UInt8))))) (fun (s2 : List (List UInt8)) => (s2 : List (List UInt8))) ([] : List (List UInt8))).bind <|
  fun (r9 : List (List UInt8)) =>
  some r9
theorem ei_sTopsAround (n : TNet) (host : List UInt8) (k : List V → Option β) : Imp (F6 β (rows kServer TServer.row n.xServers) (rows kEntry TEntry.row n.xCache.xEntries) (rows kSent TSent.row n.xLog) n.xNow host k) (sTopsAround n host) (fun r => k (rStr r)) := by
  delta F6 P6 sTopsAround
  refine Imp.call rfl (ei_sTopsOf n host _) (fun r1 _ => ?_)
  refine Imp.for (enc := fun (i_2 : Nat) (s2 : List (List UInt8)) => [.s host, .l (rStr s2), .l (rStr r1), .i (i_2 : Int)]) (encR := fun (u : List (List UInt8)) => (((0, [.l (rStr u)]) : Nat × List Leaf))) rfl (fun i_2 x_2 s2 hx2 hl2 hm2 => Imp.brT (U_lt (T := List UInt8) (kd := .str) (g1 := fun e => e) hl2) ?_) (fun s2 => brN (U_irr (T := List UInt8) (kd := .str) (g1 := fun e => e) r1) rfl) (fun r9 => ?_)
  · refine Imp.chkE ⟨Int.natCast_nonneg _, Nat.lt_of_lt_of_eq hl2 (U_len (T := List UInt8) (kd := .str) (g1 := fun e => e) r1).symm⟩ ?_
    refine Imp.idxAtFor1 (kd := .str) (g1 := fun e => e) hx2 rfl ?_
    refine Imp.br rfl ?_ ?_
    · exact Imp.ret (c1 (fun (h1 : Int) => (some (Sum.inl [.s host, .l (rStr s2), .l (rStr r1), .i h1]) : Option (List Leaf ⊕ (Nat × List Leaf)))) (wrapJ hl2))
    · refine Imp.while (enc := fun (s4 : Int) => [.s host, .l (rStr s2), .l (rStr r1), .i (i_2 : Int), .i s4]) (encR := fun (u : Int) => (((0, [.s host, .l (rStr s2), .l (rStr r1), .i (i_2 : Int), .i u]) : Nat × List Leaf))) (c1 (fun (h1 : Int) => ([.s host, .l (rStr s2), .l (rStr r1), .i (i_2 : Int), .i h1] : List Leaf)) (c1 (fun z0 : Nat => (z0 : Int)) (U_len (T := List UInt8) (kd := .str) (g1 := fun e => e) s2))) (fun s4 => ?_) (fun r7 => ?_)
      · refine Imp.br rfl ?_ ?_
        · refine Imp.chkE ⟨Int.natCast_nonneg _, Nat.lt_of_lt_of_eq hl2 (U_len (T := List UInt8) (kd := .str) (g1 := fun e => e) r1).symm⟩ ?_
          refine Imp.idxAtFor1 (kd := .str) (g1 := fun e => e) hx2 rfl ?_
          refine Imp.chk (c1 (fun z0 : Nat => 0 ≤ IntKind.wrap .i64 (s4 - 1) ∧ (IntKind.wrap .i64 (s4 - 1)).toNat < z0) (U_len (T := List UInt8) (kd := .str) (g1 := fun e => e) s2)) (fun _ => ?_)
          refine Imp.idxAt1 (kd := .str) (g1 := fun e => e) rfl rfl (fun e6 => rfl) (fun e6 _ => ?_)
          refine Imp.br rfl ?_ ?_
          · exact Imp.ret rfl
          · exact Imp.ret rfl
        · exact Imp.ret rfl
      · refine Imp.chk (c1 (fun z0 : Nat => 0 ≤ (0 : Int) ∧ (0 : Int) ≤ r7 ∧ r7 ≤ (z0 : Int)) (U_len (T := List UInt8) (kd := .str) (g1 := fun e => e) s2)) (fun _ => ?_)
        refine Imp.chk (c2 (fun z0 z1 : Nat => (0 + z0) * 16 ≤ 140737488355328 ∧ 0 + z1 ≤ 140737488355328) ((c1 (fun u : List V => u.length) (U_cut (T := List UInt8) (kd := .str) (g1 := fun e => e) s2 (r7.toNat) 0)).trans (U_len (T := List UInt8) (kd := .str) (g1 := fun e => e) ((s2.take (r7.toNat)).drop 0))) ((c1 (fun u : List V => u.length) (U_cut (T := List UInt8) (kd := .str) (g1 := fun e => e) s2 (r7.toNat) 0)).trans (U_len (T := List UInt8) (kd := .str) (g1 := fun e => e) ((s2.take (r7.toNat)).drop 0)))) (fun _ => ?_)
        refine Imp.chkE ⟨Int.natCast_nonneg _, Nat.lt_of_lt_of_eq hl2 (U_len (T := List UInt8) (kd := .str) (g1 := fun e => e) r1).symm⟩ ?_
        refine Imp.idxAtFor1 (kd := .str) (g1 := fun e => e) hx2 rfl ?_
        refine Imp.chk (c2 (fun z0 z1 : Nat => (z0 + 1) * 16 ≤ 140737488355328 ∧ z1 + 1 ≤ 140737488355328) ((c1 (fun u : List V => u.length) ((c2 (fun u v : List V => u ++ v) rfl (U_cut (T := List UInt8) (kd := .str) (g1 := fun e => e) s2 (r7.toNat) 0)).trans (U_app (T := List UInt8) (kd := .str) (g1 := fun e => e) [] ((s2.take (r7.toNat)).drop 0)))).trans (U_len (T := List UInt8) (kd := .str) (g1 := fun e => e) ([] ++ ((s2.take (r7.toNat)).drop 0)))) ((c1 (fun u : List V => u.length) ((c2 (fun u v : List V => u ++ v) rfl (U_cut (T := List UInt8) (kd := .str) (g1 := fun e => e) s2 (r7.toNat) 0)).trans (U_app (T := List UInt8) (kd := .str) (g1 := fun e => e) [] ((s2.take (r7.toNat)).drop 0)))).trans (U_len (T := List UInt8) (kd := .str) (g1 := fun e => e) ([] ++ ((s2.take (r7.toNat)).drop 0))))) (fun _ => ?_)
        refine Imp.chk (c3 (fun z0 z1 z2 : Nat => 0 ≤ r7 ∧ r7 ≤ (z0 : Int) ∧ (z1 : Int) ≤ (z2 : Int)) (U_len (T := List UInt8) (kd := .str) (g1 := fun e => e) s2) (U_len (T := List UInt8) (kd := .str) (g1 := fun e => e) s2) (U_len (T := List UInt8) (kd := .str) (g1 := fun e => e) s2)) (fun _ => ?_)
        refine Imp.chk (c4 (fun z0 z1 z2 z3 : Nat => (z0 + z1) * 16 ≤ 140737488355328 ∧ z2 + z3 ≤ 140737488355328) ((c1 (fun u : List V => u.length) ((c2 (fun u v : List V => u ++ v) ((c2 (fun u v : List V => u ++ v) rfl (U_cut (T := List UInt8) (kd := .str) (g1 := fun e => e) s2 (r7.toNat) 0)).trans (U_app (T := List UInt8) (kd := .str) (g1 := fun e => e) [] ((s2.take (r7.toNat)).drop 0))) rfl).trans (U_app (T := List UInt8) (kd := .str) (g1 := fun e => e) ([] ++ ((s2.take (r7.toNat)).drop 0)) [x_2]))).trans (U_len (T := List UInt8) (kd := .str) (g1 := fun e => e) (([] ++ ((s2.take (r7.toNat)).drop 0)) ++ [x_2]))) ((c1 (fun u : List V => u.length) ((c3 (fun (u : List V) (a b : Nat) => (u.take a).drop b) rfl (c1 (fun z0 : Nat => ((z0 : Int).toNat)) (U_len (T := List UInt8) (kd := .str) (g1 := fun e => e) s2)) rfl).trans (U_cut (T := List UInt8) (kd := .str) (g1 := fun e => e) s2 ((s2.length : Int).toNat) (r7.toNat)))).trans (U_len (T := List UInt8) (kd := .str) (g1 := fun e => e) ((s2.take ((s2.length : Int).toNat)).drop (r7.toNat)))) ((c1 (fun u : List V => u.length) ((c2 (fun u v : List V => u ++ v) ((c2 (fun u v : List V => u ++ v) rfl (U_cut (T := List UInt8) (kd := .str) (g1 := fun e => e) s2 (r7.toNat) 0)).trans (U_app (T := List UInt8) (kd := .str) (g1 := fun e => e) [] ((s2.take (r7.toNat)).drop 0))) rfl).trans (U_app (T := List UInt8) (kd := .str) (g1 := fun e => e) ([] ++ ((s2.take (r7.toNat)).drop 0)) [x_2]))).trans (U_len (T := List UInt8) (kd := .str) (g1 := fun e => e) (([] ++ ((s2.take (r7.toNat)).drop 0)) ++ [x_2]))) ((c1 (fun u : List V => u.length) ((c3 (fun (u : List V) (a b : Nat) => (u.take a).drop b) rfl (c1 (fun z0 : Nat => ((z0 : Int).toNat)) (U_len (T := List UInt8) (kd := .str) (g1 := fun e => e) s2)) rfl).trans (U_cut (T := List UInt8) (kd := .str) (g1 := fun e => e) s2 ((s2.length : Int).toNat) (r7.toNat)))).trans (U_len (T := List UInt8) (kd := .str) (g1 := fun e => e) ((s2.take ((s2.length : Int).toNat)).drop (r7.toNat))))) (fun _ => ?_)
        exact Imp.ret (c2 (fun (h1 : List V) (h2 : Int) => (some (Sum.inl [.s host, .l h1, .l (rStr r1), .i h2]) : Option (List Leaf ⊕ (Nat × List Leaf)))) ((c2 (fun u v : List V => u ++ v) ((c2 (fun u v : List V => u ++ v) ((c2 (fun u v : List V => u ++ v) rfl (U_cut (T := List UInt8) (kd := .str) (g1 := fun e => e) s2 (r7.toNat) 0)).trans (U_app (T := List UInt8) (kd := .str) (g1 := fun e => e) [] ((s2.take (r7.toNat)).drop 0))) rfl).trans (U_app (T := List UInt8) (kd := .str) (g1 := fun e => e) ([] ++ ((s2.take (r7.toNat)).drop 0)) [x_2])) ((c3 (fun (u : List V) (a b : Nat) => (u.take a).drop b) rfl (c1 (fun z0 : Nat => ((z0 : Int).toNat)) (U_len (T := List UInt8) (kd := .str) (g1 := fun e => e) s2)) rfl).trans (U_cut (T := List UInt8) (kd := .str) (g1 := fun e => e) s2 ((s2.length : Int).toNat) (r7.toNat)))).trans (U_app (T := List UInt8) (kd := .str) (g1 := fun e => e) (([] ++ ((s2.take (r7.toNat)).drop 0)) ++ [x_2]) ((s2.take ((s2.length : Int).toNat)).drop (r7.toNat)))) (wrapJ hl2))
  · exact Imp.ret rfl

/-- spec.l9Same -/
noncomputable def sl9Same (a : List (List UInt8)) (b : List (List UInt8)) : Option Bool :=
  br ((a.length : Int) != (b.length : Int)) (
    some false
  ) (
    (forE a (fun (i_1 : Nat) (x_1 : List UInt8) (s1 : Unit) => (
      (getI b (i_1 : Int)).bind fun (e3 : List UInt8) =>
      br (!(x_1 == e3)) (
        some (.inr (.inl ()))
      ) (
        some (.inl ())
      )
    : Option (Unit ⊕ (Unit ⊕ Unit)))) (fun (s1 : Unit) => (.inr () : Unit ⊕ Unit)) (() : Unit)).bind <|
    Sum.elim
      (fun (r4 : Unit) =>
        some false
      )
      (fun (r4 : Unit) =>
        some true
      )
  )
theorem ei_sl9Same (a : List (List UInt8)) (b : List (List UInt8)) (k : Bool → Option β) : Imp (F35 β (rStr a) (rStr b) k) (sl9Same a b) (fun r => k r) := by
  delta F35 P35 sl9Same
  refine Imp.br (c2 (fun z0 z1 : Nat => ((z0 : Int) != (z1 : Int))) (U_len (T := List UInt8) (kd := .str) (g1 := fun e => e) a) (U_len (T := List UInt8) (kd := .str) (g1 := fun e => e) b)) ?_ ?_
  · exact Imp.ret rfl
  · refine Imp.for (enc := fun (i_1 : Nat) (s1 : Unit) => [.l (rStr a), .l (rStr b), .i (i_1 : Int)]) (encR := Sum.elim (fun (u : Unit) => (((0, [.b false]) : Nat × List Leaf))) (fun (u : Unit) => (((1, []) : Nat × List Leaf)))) rfl (fun i_1 x_1 s1 hx1 hl1 hm1 => Imp.brT (U_lt (T := List UInt8) (kd := .str) (g1 := fun e => e) hl1) ?_) (fun s1 => brN (U_irr (T := List UInt8) (kd := .str) (g1 := fun e => e) a) rfl) (fun r4 => ?_)
    · refine Imp.idxFor1 (kd := .str) (g1 := fun e => e) hx1 ?_
      refine Imp.idx1 (kd := .str) (g1 := fun e => e) rfl rfl (fun e3 _ => ?_)
      refine Imp.br rfl ?_ ?_
      · exact Imp.ret rfl
      · exact Imp.ret (c1 (fun (h1 : Int) => (some (Sum.inl [.l (rStr a), .l (rStr b), .i h1]) : Option (List Leaf ⊕ (Nat × List Leaf)))) (wrapJ hl1))
    · cases r4 with
      | inl r4 =>
        refine Imp.ifT rfl ?_
        exact Imp.ret rfl
      | inr r4 =>
        refine Imp.ifF (show ¬ ((1 : Nat) = 0) by decide) ?_
        exact Imp.ret rfl

/-- spec.SameView -/
noncomputable def sSameView (a : TNet) (b : TNet) (host : List UInt8) : Option Bool :=
  (sCrossLearned a host).bind fun (r1 : List TAddr) =>
  (sCrossLearned b host).bind fun (r2 : List TAddr) =>
  (sl15Addrs r1 r2).bind fun (r3 : Bool) =>
  br r3 (
    (sTopsAround a host).bind fun (r4 : List (List UInt8)) =>
    (sTopsAround b host).bind fun (r5 : List (List UInt8)) =>
    (sl9Same r4 r5).bind fun (r6 : Bool) =>
    br r6 (
      (sTopsOf a host).bind fun (r7 : List (List UInt8)) =>
      (sl9Has r7 host).bind fun (r8 : Bool) =>
      (sTopsOf b host).bind fun (r9 : List (List UInt8)) =>
      (sl9Has r9 host).bind fun (r10 : Bool) =>
      some (r8 == r10)
    ) (
      some false
    )
  ) (
    some false
  )
theorem ei_sSameView (a : TNet) (b : TNet) (host : List UInt8) (k : Bool → Option β) : Imp (F14 β (rows kServer TServer.row a.xServers) (rows kEntry TEntry.row a.xCache.xEntries) (rows kSent TSent.row a.xLog) a.xNow (rows kServer TServer.row b.xServers) (rows kEntry TEntry.row b.xCache.xEntries) (rows kSent TSent.row b.xLog) b.xNow host k) (sSameView a b host) (fun r => k r) := by
  delta F14 P14 sSameView
  refine Imp.call rfl (ei_sCrossLearned a host _) (fun r1 _ => ?_)
  refine Imp.call rfl (ei_sCrossLearned b host _) (fun r2 _ => ?_)
  refine Imp.call rfl (ei_sl15Addrs r1 r2 _) (fun r3 _ => ?_)
  refine Imp.br rfl ?_ ?_
  · refine Imp.call rfl (ei_sTopsAround a host _) (fun r4 _ => ?_)
    refine Imp.call rfl (ei_sTopsAround b host _) (fun r5 _ => ?_)
    refine Imp.call rfl (ei_sl9Same r4 r5 _) (fun r6 _ => ?_)
    refine Imp.br rfl ?_ ?_
    · refine Imp.call rfl (ei_sTopsOf a host _) (fun r7 _ => ?_)
      refine Imp.call rfl (ei_sl9Has r7 host _) (fun r8 _ => ?_)
      refine Imp.call rfl (ei_sTopsOf b host _) (fun r9 _ => ?_)
      refine Imp.call rfl (ei_sl9Has r9 host _) (fun r10 _ => ?_)
      exact Imp.ret rfl
    · exact Imp.ret rfl
  · exact Imp.ret rfl

/-- impl.SentTo -/
noncomputable def iSentTo (n : TNet) (host : List UInt8) : Option (List TSent) :=
  (forE n.xLog (fun (i_1 : Nat) (x_1 : TSent) (s1 : List TSent) => (
    br (x_1.xTo.xHost == host) (
      chk ((s1.length + 1) * 56 ≤ 140737488355328 ∧ s1.length + 1 ≤ 140737488355328) <|
      some (.inl (s1 ++ [x_1]))
    ) (
      some (.inl s1)
    )
  : Option ((List TSent) ⊕ (List TSent)))) (fun (s1 : List TSent) => (s1 : List TSent)) ([] : List TSent)).bind <|
  fun (r3 : List TSent) =>
  some r3
theorem ei_iSentTo (n : TNet) (host : List UInt8) (k : List V → Option β) : Imp (F56 β (rows kServer TServer.row n.xServers) (rows kEntry TEntry.row n.xCache.xEntries) (rows kSent TSent.row n.xLog) n.xNow host k) (iSentTo n host) (fun r => k (rows kSent TSent.row r)) := by
  delta F56 P56 iSentTo
  refine Imp.for (enc := fun (i_1 : Nat) (s1 : List TSent) => [.s host, .l (rows kSent TSent.row s1), .l (rows kSent TSent.row n.xLog), .i (n.xLog.length : Int), .i (i_1 : Int)]) (encR := fun (u : List TSent) => (((0, [.l (rows kSent TSent.row u)]) : Nat × List Leaf))) (c1 (fun (h1 : Int) => ([.s host, .l (rows kSent TSent.row []), .l (rows kSent TSent.row n.xLog), .i h1, .i 0] : List Leaf)) (c1 (fun z0 : Nat => (z0 : Int)) (T_len (ks := kSent) (g := TSent.row) n.xLog))) (fun i_1 x_1 s1 hx1 hl1 hm1 => Imp.brT (Int.ofNat_lt.2 hl1) ?_) (fun s1 => brN (Int.lt_irrefl _) rfl) (fun r3 => ?_)
  · refine Imp.idxFor (ks := kSent) (g := TSent.row) hx1 ?_
    refine Imp.br rfl ?_ ?_
    · refine Imp.chk (c2 (fun z0 z1 : Nat => (z0 + 1) * 56 ≤ 140737488355328 ∧ z1 + 1 ≤ 140737488355328) (T_len (ks := kSent) (g := TSent.row) s1) (T_len (ks := kSent) (g := TSent.row) s1)) (fun _ => ?_)
      exact Imp.ret (c2 (fun (h1 : List V) (h2 : Int) => (some (Sum.inl [.s host, .l h1, .l (rows kSent TSent.row n.xLog), .i (n.xLog.length : Int), .i h2]) : Option (List Leaf ⊕ (Nat × List Leaf)))) (T_app (ks := kSent) (g := TSent.row) s1 [x_1]) (wrapJ hl1))
    · exact Imp.ret (c1 (fun (h1 : Int) => (some (Sum.inl [.s host, .l (rows kSent TSent.row s1), .l (rows kSent TSent.row n.xLog), .i (n.xLog.length : Int), .i h1]) : Option (List Leaf ⊕ (Nat × List Leaf)))) (wrapJ hl1))
  · exact Imp.ret rfl

/-- loop.example/g00586/impl.SortAddrs -/
noncomputable def iSortAddrs (a0 : List TAddr) : Option (List TAddr) := sortPrE (fun (a : TAddr) => (a.xHost, a.xPath)) (fun p => (⟨p.1, p.2⟩ : TAddr)) a0
theorem ei_iSortAddrs (a0 : List TAddr) (k : List V → Option β) : Imp (F57 β (rows kAddr TAddr.row a0) k) (iSortAddrs a0) (fun r => k (rows kAddr TAddr.row r)) := ei_sortPrE (fun (a : TAddr) => (a.xHost, a.xPath)) (fun p => (⟨p.1, p.2⟩ : TAddr)) (fun _ => rfl) (fun _ => rfl) a0 k

/-- impl.CrossLearned -/
noncomputable def iCrossLearned (n : TNet) (host : List UInt8) : Option (List TAddr) :=
  (iSentTo n host).bind fun (r1 : List TSent) =>
  (forE r1 (fun (i_2 : Nat) (x_2 : TSent) (s2 : List TAddr) => (
    br (!(x_2.xTop == host)) (
      chk ((s2.length + 1) * 32 ≤ 140737488355328 ∧ s2.length + 1 ≤ 140737488355328) <|
      some (.inl (s2 ++ [x_2.xTo]))
    ) (
      some (.inl s2)
    )
  : Option ((List TAddr) ⊕ (List TAddr)))) (fun (s2 : List TAddr) => (s2 : List TAddr)) ([] : List TAddr)).bind <|
  fun (r4 : List TAddr) =>
  (iSortAddrs r4).bind fun (r5 : List TAddr) =>
  some r5
theorem ei_iCrossLearned (n : TNet) (host : List UInt8) (k : List V → Option β) : Imp (F38 β (rows kServer TServer.row n.xServers) (rows kEntry TEntry.row n.xCache.xEntries) (rows kSent TSent.row n.xLog) n.xNow host k) (iCrossLearned n host) (fun r => k (rows kAddr TAddr.row r)) := by
  delta F38 P38 iCrossLearned
  refine Imp.call rfl (ei_iSentTo n host _) (fun r1 _ => ?_)
  refine Imp.for (enc := fun (i_2 : Nat) (s2 : List TAddr) => [.s host, .l (rows kAddr TAddr.row s2), .l (rows kSent TSent.row r1), .i (r1.length : Int), .i (i_2 : Int)]) (encR := fun (u : List TAddr) => (((0, [.l (rows kAddr TAddr.row u)]) : Nat × List Leaf))) (c1 (fun (h1 : Int) => ([.s host, .l (rows kAddr TAddr.row []), .l (rows kSent TSent.row r1), .i h1, .i 0] : List Leaf)) (c1 (fun z0 : Nat => (z0 : Int)) (T_len (ks := kSent) (g := TSent.row) r1))) (fun i_2 x_2 s2 hx2 hl2 hm2 => Imp.brT (Int.ofNat_lt.2 hl2) ?_) (fun s2 => brN (Int.lt_irrefl _) rfl) (fun r4 => ?_)
  · refine Imp.chkE ⟨Int.natCast_nonneg _, Nat.lt_of_lt_of_eq hl2 (T_len (ks := kSent) (g := TSent.row) r1).symm⟩ ?_
    refine Imp.idxAtFor (ks := kSent) (g := TSent.row) hx2 rfl ?_
    refine Imp.br rfl ?_ ?_
    · refine Imp.chk (c2 (fun z0 z1 : Nat => (z0 + 1) * 32 ≤ 140737488355328 ∧ z1 + 1 ≤ 140737488355328) (T_len (ks := kAddr) (g := TAddr.row) s2) (T_len (ks := kAddr) (g := TAddr.row) s2)) (fun _ => ?_)
      exact Imp.ret (c2 (fun (h1 : List V) (h2 : Int) => (some (Sum.inl [.s host, .l h1, .l (rows kSent TSent.row r1), .i (r1.length : Int), .i h2]) : Option (List Leaf ⊕ (Nat × List Leaf)))) (T_app (ks := kAddr) (g := TAddr.row) s2 [x_2.xTo]) (wrapJ hl2))
    · exact Imp.ret (c1 (fun (h1 : Int) => (some (Sum.inl [.s host, .l (rows kAddr TAddr.row s2), .l (rows kSent TSent.row r1), .i (r1.length : Int), .i h1]) : Option (List Leaf ⊕ (Nat × List Leaf)))) (wrapJ hl2))
  · refine Imp.call rfl (ei_iSortAddrs r4 _) (fun r5 _ => ?_)
    exact Imp.ret rfl

/-- slices.Equal[[]impl.Addr,impl.Addr] -/
noncomputable def g_slices_Equal_Addr_Addr (s1 : List TAddr) (s2 : List TAddr) : Option Bool :=
  br ((s1.length : Int) != (s2.length : Int)) (
    some false
  ) (
    (forE s1 (fun (i_3 : Nat) (x_3 : TAddr) (s3 : Unit) => (
      (getI s2 (i_3 : Int)).bind fun (e5 : TAddr) =>
      br (!((x_3.xHost == e5.xHost) && ((x_3.xPath == e5.xPath) && true))) (
        some (.inr (.inl ()))
      ) (
        some (.inl ())
      )
    : Option (Unit ⊕ (Unit ⊕ Unit)))) (fun (s3 : Unit) => (.inr () : Unit ⊕ Unit)) (() : Unit)).bind <|
    Sum.elim
      (fun (r6 : Unit) =>
        some false
      )
      (fun (r6 : Unit) =>
        some true
      )
  )
theorem ei_g_slices_Equal_Addr_Addr (s1 : List TAddr) (s2 : List TAddr) (k : Bool → Option β) : Imp (F37 β (rows kAddr TAddr.row s1) (rows kAddr TAddr.row s2) k) (g_slices_Equal_Addr_Addr s1 s2) (fun r => k r) := by
  delta F37 P37 g_slices_Equal_Addr_Addr
  refine Imp.br (c2 (fun z0 z1 : Nat => ((z0 : Int) != (z1 : Int))) (T_len (ks := kAddr) (g := TAddr.row) s1) (T_len (ks := kAddr) (g := TAddr.row) s2)) ?_ ?_
  · exact Imp.ret rfl
  · refine Imp.for (enc := fun (i_3 : Nat) (s3 : Unit) => [.l (rows kAddr TAddr.row s1), .l (rows kAddr TAddr.row s2), .i (s1.length : Int), .i (i_3 : Int)]) (encR := Sum.elim (fun (u : Unit) => (((0, [.b false]) : Nat × List Leaf))) (fun (u : Unit) => (((1, []) : Nat × List Leaf)))) (c1 (fun (h1 : Int) => ([.l (rows kAddr TAddr.row s1), .l (rows kAddr TAddr.row s2), .i h1, .i 0] : List Leaf)) (c1 (fun z0 : Nat => (z0 : Int)) (T_len (ks := kAddr) (g := TAddr.row) s1))) (fun i_3 x_3 s3 hx3 hl3 hm3 => Imp.brT (Int.ofNat_lt.2 hl3) ?_) (fun s3 => brN (Int.lt_irrefl _) rfl) (fun r6 => ?_)
    · refine Imp.idxFor (ks := kAddr) (g := TAddr.row) hx3 ?_
      refine Imp.idx (ks := kAddr) (g := TAddr.row) rfl rfl (fun e5 _ => ?_)
      refine Imp.br rfl ?_ ?_
      · exact Imp.ret rfl
      · exact Imp.ret (c1 (fun (h1 : Int) => (some (Sum.inl [.l (rows kAddr TAddr.row s1), .l (rows kAddr TAddr.row s2), .i (s1.length : Int), .i h1]) : Option (List Leaf ⊕ (Nat × List Leaf)))) (wrapJ hl3))
    · cases r6 with
      | inl r6 =>
        refine Imp.ifT rfl ?_
        exact Imp.ret rfl
      | inr r6 =>
        refine Imp.ifF (show ¬ ((1 : Nat) = 0) by decide) ?_
        exact Imp.ret rfl

/-- slices.Index[[]string,string] -/
noncomputable def g_slices_Index_string_string (s : List (List UInt8)) (v : List UInt8) : Option Int :=
  (forE s (fun (i_1 : Nat) (x_1 : List UInt8) (s1 : Unit) => (
    br (v == x_1) (
      some (.inr (.inl (i_1 : Int)))
    ) (
      some (.inl ())
    )
  : Option (Unit ⊕ (Int ⊕ Unit)))) (fun (s1 : Unit) => (.inr () : Int ⊕ Unit)) (() : Unit)).bind <|
  Sum.elim
    (fun (r3 : Int) =>
      some r3
    )
    (fun (r3 : Unit) =>
      some (-1)
    )
theorem ei_g_slices_Index_string_string (s : List (List UInt8)) (v : List UInt8) (k : Int → Option β) : Imp (F79 β (rStr s) v k) (g_slices_Index_string_string s v) (fun r => k r) := by
  delta F79 P79 g_slices_Index_string_string
  refine Imp.for (enc := fun (i_1 : Nat) (s1 : Unit) => [.l (rStr s), .s v, .i (s.length : Int), .i (i_1 : Int)]) (encR := Sum.elim (fun (u : Int) => (((0, [.i u]) : Nat × List Leaf))) (fun (u : Unit) => (((1, []) : Nat × List Leaf)))) (c1 (fun (h1 : Int) => ([.l (rStr s), .s v, .i h1, .i 0] : List Leaf)) (c1 (fun z0 : Nat => (z0 : Int)) (U_len (T := List UInt8) (kd := .str) (g1 := fun e => e) s))) (fun i_1 x_1 s1 hx1 hl1 hm1 => Imp.brT (Int.ofNat_lt.2 hl1) ?_) (fun s1 => brN (Int.lt_irrefl _) rfl) (fun r3 => ?_)
  · refine Imp.idxFor1 (kd := .str) (g1 := fun e => e) hx1 ?_
    refine Imp.br rfl ?_ ?_
    · exact Imp.ret rfl
    · exact Imp.ret (c1 (fun (h1 : Int) => (some (Sum.inl [.l (rStr s), .s v, .i (s.length : Int), .i h1]) : Option (List Leaf ⊕ (Nat × List Leaf)))) (wrapJ hl1))
  · cases r3 with
    | inl r3 =>
      refine Imp.ifT rfl ?_
      exact Imp.ret rfl
    | inr r3 =>
      refine Imp.ifF (show ¬ ((1 : Nat) = 0) by decide) ?_
      exact Imp.ret rfl

/-- slices.Contains[[]string,string] -/
noncomputable def g_slices_Contains_string_string (s : List (List UInt8)) (v : List UInt8) : Option Bool :=
  (g_slices_Index_string_string s v).bind fun (r1 : Int) =>
  some (decide (r1 ≥ 0))
theorem ei_g_slices_Contains_string_string (s : List (List UInt8)) (v : List UInt8) (k : Bool → Option β) : Imp (F64 β (rStr s) v k) (g_slices_Contains_string_string s v) (fun r => k r) := by
  delta F64 P64 g_slices_Contains_string_string
  refine Imp.call rfl (ei_g_slices_Index_string_string s v _) (fun r1 _ => ?_)
  exact Imp.ret rfl

/-- impl.TopsOf -/
noncomputable def iTopsOf (n : TNet) (host : List UInt8) : Option (List (List UInt8)) :=
  (iSentTo n host).bind fun (r1 : List TSent) =>
  (forE r1 (fun (i_2 : Nat) (x_2 : TSent) (s2 : List (List UInt8)) => (
    (g_slices_Contains_string_string s2 x_2.xTop).bind fun (r4 : Bool) =>
    br (!r4) (
      chk ((s2.length + 1) * 16 ≤ 140737488355328 ∧ s2.length + 1 ≤ 140737488355328) <|
      some (.inl (s2 ++ [x_2.xTop]))
    ) (
      some (.inl s2)
    )
  : Option ((List (List UInt8)) ⊕ (List (List UInt8))))) (fun (s2 : List (List UInt8)) => (s2 : List (List UInt8))) ([] : List (List UInt8))).bind <|
  fun (r5 : List (List UInt8)) =>
  some r5
theorem ei_iTopsOf (n : TNet) (host : List UInt8) (k : List V → Option β) : Imp (F48 β (rows kServer TServer.row n.xServers) (rows kEntry TEntry.row n.xCache.xEntries) (rows kSent TSent.row n.xLog) n.xNow host k) (iTopsOf n host) (fun r => k (rStr r)) := by
  delta F48 P48 iTopsOf
  refine Imp.call rfl (ei_iSentTo n host _) (fun r1 _ => ?_)
  refine Imp.for (enc := fun (i_2 : Nat) (s2 : List (List UInt8)) => [.l (rStr s2), .l (rows kSent TSent.row r1), .i (r1.length : Int), .i (i_2 : Int)]) (encR := fun (u : List (List UInt8)) => (((0, [.l (rStr u)]) : Nat × List Leaf))) (c1 (fun (h1 : Int) => ([.l (rStr []), .l (rows kSent TSent.row r1), .i h1, .i 0] : List Leaf)) (c1 (fun z0 : Nat => (z0 : Int)) (T_len (ks := kSent) (g := TSent.row) r1))) (fun i_2 x_2 s2 hx2 hl2 hm2 => Imp.brT (Int.ofNat_lt.2 hl2) ?_) (fun s2 => brN (Int.lt_irrefl _) rfl) (fun r5 => ?_)
  · refine Imp.chkE ⟨Int.natCast_nonneg _, Nat.lt_of_lt_of_eq hl2 (T_len (ks := kSent) (g := TSent.row) r1).symm⟩ ?_
    refine Imp.idxAtFor (ks := kSent) (g := TSent.row) hx2 rfl ?_
    refine Imp.call rfl (ei_g_slices_Contains_string_string s2 x_2.xTop _) (fun r4 _ => ?_)
    refine Imp.br rfl ?_ ?_
    · refine Imp.chk (c2 (fun z0 z1 : Nat => (z0 + 1) * 16 ≤ 140737488355328 ∧ z1 + 1 ≤ 140737488355328) (U_len (T := List UInt8) (kd := .str) (g1 := fun e => e) s2) (U_len (T := List UInt8) (kd := .str) (g1 := fun e => e) s2)) (fun _ => ?_)
      exact Imp.ret (c2 (fun (h1 : List V) (h2 : Int) => (some (Sum.inl [.l h1, .l (rows kSent TSent.row r1), .i (r1.length : Int), .i h2]) : Option (List Leaf ⊕ (Nat × List Leaf)))) (U_app (T := List UInt8) (kd := .str) (g1 := fun e => e) s2 [x_2.xTop]) (wrapJ hl2))
    · exact Imp.ret (c1 (fun (h1 : Int) => (some (Sum.inl [.l (rStr s2), .l (rows kSent TSent.row r1), .i (r1.length : Int), .i h1]) : Option (List Leaf ⊕ (Nat × List Leaf)))) (wrapJ hl2))
  · exact Imp.ret rfl

/-- loop.example/g00586/impl.sortedTops -/
noncomputable def isortedTops (a0 : TNet) (a1 : List UInt8) : Option (List (List UInt8)) := (iTopsOf a0 a1).bind fun l => sortStrE l
theorem ei_isortedTops (a0 : TNet) (a1 : List UInt8) (k : List V → Option β) : Imp (F24 β (rows kServer TServer.row a0.xServers) (rows kEntry TEntry.row a0.xCache.xEntries) (rows kSent TSent.row a0.xLog) a0.xNow a1 k) (isortedTops a0 a1) (fun r => k (rStr r)) := Imp.call rfl (ei_iTopsOf a0 a1 _) (fun r _ => ei_sortStrE r k)

/-- slices.Equal[[]string,string] -/
noncomputable def g_slices_Equal_string_string (s1 : List (List UInt8)) (s2 : List (List UInt8)) : Option Bool :=
  br ((s1.length : Int) != (s2.length : Int)) (
    some false
  ) (
    (forE s1 (fun (i_3 : Nat) (x_3 : List UInt8) (s3 : Unit) => (
      (getI s2 (i_3 : Int)).bind fun (e5 : List UInt8) =>
      br (!(x_3 == e5)) (
        some (.inr (.inl ()))
      ) (
        some (.inl ())
      )
    : Option (Unit ⊕ (Unit ⊕ Unit)))) (fun (s3 : Unit) => (.inr () : Unit ⊕ Unit)) (() : Unit)).bind <|
    Sum.elim
      (fun (r6 : Unit) =>
        some false
      )
      (fun (r6 : Unit) =>
        some true
      )
  )
theorem ei_g_slices_Equal_string_string (s1 : List (List UInt8)) (s2 : List (List UInt8)) (k : Bool → Option β) : Imp (F39 β (rStr s1) (rStr s2) k) (g_slices_Equal_string_string s1 s2) (fun r => k r) := by
  delta F39 P39 g_slices_Equal_string_string
  refine Imp.br (c2 (fun z0 z1 : Nat => ((z0 : Int) != (z1 : Int))) (U_len (T := List UInt8) (kd := .str) (g1 := fun e => e) s1) (U_len (T := List UInt8) (kd := .str) (g1 := fun e => e) s2)) ?_ ?_
  · exact Imp.ret rfl
  · refine Imp.for (enc := fun (i_3 : Nat) (s3 : Unit) => [.l (rStr s1), .l (rStr s2), .i (s1.length : Int), .i (i_3 : Int)]) (encR := Sum.elim (fun (u : Unit) => (((0, [.b false]) : Nat × List Leaf))) (fun (u : Unit) => (((1, []) : Nat × List Leaf)))) (c1 (fun (h1 : Int) => ([.l (rStr s1), .l (rStr s2), .i h1, .i 0] : List Leaf)) (c1 (fun z0 : Nat => (z0 : Int)) (U_len (T := List UInt8) (kd := .str) (g1 := fun e => e) s1))) (fun i_3 x_3 s3 hx3 hl3 hm3 => Imp.brT (Int.ofNat_lt.2 hl3) ?_) (fun s3 => brN (Int.lt_irrefl _) rfl) (fun r6 => ?_)
    · refine Imp.idxFor1 (kd := .str) (g1 := fun e => e) hx3 ?_
      refine Imp.idx1 (kd := .str) (g1 := fun e => e) rfl rfl (fun e5 _ => ?_)
      refine Imp.br rfl ?_ ?_
      · exact Imp.ret rfl
      · exact Imp.ret (c1 (fun (h1 : Int) => (some (Sum.inl [.l (rStr s1), .l (rStr s2), .i (s1.length : Int), .i h1]) : Option (List Leaf ⊕ (Nat × List Leaf)))) (wrapJ hl3))
    · cases r6 with
      | inl r6 =>
        refine Imp.ifT rfl ?_
        exact Imp.ret rfl
      | inr r6 =>
        refine Imp.ifF (show ¬ ((1 : Nat) = 0) by decide) ?_
        exact Imp.ret rfl

/-- impl.SameView -/
noncomputable def iSameView (a : TNet) (b : TNet) (host : List UInt8) : Option Bool :=
  (iCrossLearned a host).bind fun (r1 : List TAddr) =>
  (iCrossLearned b host).bind fun (r2 : List TAddr) =>
  (g_slices_Equal_Addr_Addr r1 r2).bind fun (r3 : Bool) =>
  br r3 (
    (isortedTops a host).bind fun (r4 : List (List UInt8)) =>
    (isortedTops b host).bind fun (r5 : List (List UInt8)) =>
    (g_slices_Equal_string_string r4 r5).bind fun (r6 : Bool) =>
    some r6
  ) (
    some false
  )
theorem ei_iSameView (a : TNet) (b : TNet) (host : List UInt8) (k : Bool → Option β) : Imp (F15 β (rows kServer TServer.row a.xServers) (rows kEntry TEntry.row a.xCache.xEntries) (rows kSent TSent.row a.xLog) a.xNow (rows kServer TServer.row b.xServers) (rows kEntry TEntry.row b.xCache.xEntries) (rows kSent TSent.row b.xLog) b.xNow host k) (iSameView a b host) (fun r => k r) := by
  delta F15 P15 iSameView
  refine Imp.call rfl (ei_iCrossLearned a host _) (fun r1 _ => ?_)
  refine Imp.call rfl (ei_iCrossLearned b host _) (fun r2 _ => ?_)
  refine Imp.call rfl (ei_g_slices_Equal_Addr_Addr r1 r2 _) (fun r3 _ => ?_)
  refine Imp.br rfl ?_ ?_
  · refine Imp.call rfl (ei_isortedTops a host _) (fun r4 _ => ?_)
    refine Imp.call rfl (ei_isortedTops b host _) (fun r5 _ => ?_)
    refine Imp.call rfl (ei_g_slices_Equal_string_string r4 r5 _) (fun r6 _ => ?_)
    exact Imp.ret rfl
  · exact Imp.ret rfl

/-- laws.FnExactSameView -/
noncomputable def lFnExactSameView (aA : TNet) (aB : TNet) (aHost : List UInt8) : Option Bool :=
  br (decide ((aHost.length : Int) > 1048576)) (
    some true
  ) (
    (lszNet aA 1048576).bind fun (r1 : Int) =>
    br (decide (r1 < 0)) (
      some true
    ) (
      (lszNet aB r1).bind fun (r2 : Int) =>
      br (decide (r2 < 0)) (
        some true
      ) (
        (ltoNet aA).bind fun (r3 : TNet) =>
        (ltoNet aB).bind fun (r7 : TNet) =>
        (sSameView r3 r7 aHost).bind fun (r11 : Bool) =>
        (ltoNet aA).bind fun (r12 : TNet) =>
        (ltoNet aB).bind fun (r16 : TNet) =>
        (iSameView r12 r16 aHost).bind fun (r20 : Bool) =>
        br (!(r20 == r11)) (
          some false
        ) (
          (ltoNet aA).bind fun (r21 : TNet) =>
          (leqNet r12 r21).bind fun (r25 : Bool) =>
          br (!r25) (
            some false
          ) (
            (ltoNet aB).bind fun (r26 : TNet) =>
            (leqNet r16 r26).bind fun (r30 : Bool) =>
            br (!r30) (
              some false
            ) (
              some true
            )
          )
        )
      )
    )
  )
theorem ei_lFnExactSameView (aA : TNet) (aB : TNet) (aHost : List UInt8) (k : Bool → Option β) : Imp (F4 β (rows kServer TServer.row aA.xServers) (rows kEntry TEntry.row aA.xCache.xEntries) (rows kSent TSent.row aA.xLog) aA.xNow (rows kServer TServer.row aB.xServers) (rows kEntry TEntry.row aB.xCache.xEntries) (rows kSent TSent.row aB.xLog) aB.xNow aHost k) (lFnExactSameView aA aB aHost) (fun r => k r) := by
  delta F4 P4 lFnExactSameView
  refine Imp.br rfl ?_ ?_
  · exact Imp.ret rfl
  · refine Imp.call rfl (ei_lszNet aA 1048576 _) (fun r1 _ => ?_)
    refine Imp.br rfl ?_ ?_
    · exact Imp.ret rfl
    · refine Imp.call rfl (ei_lszNet aB r1 _) (fun r2 _ => ?_)
      refine Imp.br rfl ?_ ?_
      · exact Imp.ret rfl
      · refine Imp.call rfl (ei_ltoNet aA _) (fun r3 _ => ?_)
        refine Imp.call rfl (ei_ltoNet aB _) (fun r7 _ => ?_)
        refine Imp.call rfl (ei_sSameView r3 r7 aHost _) (fun r11 _ => ?_)
        refine Imp.call rfl (ei_ltoNet aA _) (fun r12 _ => ?_)
        refine Imp.call rfl (ei_ltoNet aB _) (fun r16 _ => ?_)
        refine Imp.call rfl (ei_iSameView r12 r16 aHost _) (fun r20 _ => ?_)
        refine Imp.br rfl ?_ ?_
        · exact Imp.ret rfl
        · refine Imp.call rfl (ei_ltoNet aA _) (fun r21 _ => ?_)
          refine Imp.call rfl (ei_leqNet r12 r21 _) (fun r25 _ => ?_)
          refine Imp.br rfl ?_ ?_
          · exact Imp.ret rfl
          · refine Imp.call rfl (ei_ltoNet aB _) (fun r26 _ => ?_)
            refine Imp.call rfl (ei_leqNet r16 r26 _) (fun r30 _ => ?_)
            refine Imp.br rfl ?_ ?_
            · exact Imp.ret rfl
            · exact Imp.ret rfl

end Go.Am
