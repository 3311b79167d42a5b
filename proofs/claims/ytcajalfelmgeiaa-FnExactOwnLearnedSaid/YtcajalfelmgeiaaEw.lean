/-
  Typed forms of functions of the program, written by program (eform.py): each over structures and lists, and that, where it answers, the extracted function hands on that answer.
-/
import Derived.Test.YtcajalfelmgeiaaAmTyped
import Derived.Test.YtcajalfelmgeiaaTy
import Derived.Test.YtcajalfelmgeiaaFw
import Derived.Test.YtcajalfelmgeiaaTw
set_option maxRecDepth 10000
set_option linter.unusedVariables false
namespace Go.Am
open Go Go.Proofs
variable {β : Type}
/-- spec.SentTo -/
noncomputable def sSentTo (n : TNet) (host : List UInt8) : Option (List TSent) :=
  (forE n.xLog (fun (i_1 : Nat) (x_1 : TSent) (s1 : List TSent) => (
    br (x_1.xTo.xHost == host) (
      chk ((s1.length + 1) * 56 ≤ 140737488355328 ∧ s1.length + 1 ≤ 140737488355328) <|
      some (.inl (s1 ++ [x_1]))
    ) (
      some (.inl s1)
    )
  : Option ((List TSent) ⊕ (List TSent)))) (fun (s1 : List TSent) => (s1 : List TSent)) ([] : List TSent)).bind <|
  fun (r4 : List TSent) =>
  some r4
theorem ei_sSentTo (n : TNet) (host : List UInt8) (k : List V → Option β) : Imp (F39 β (rows kServer TServer.row n.xServers) (rows kEntry TEntry.row n.xCache.xEntries) (rows kSent TSent.row n.xLog) n.xNow host k) (sSentTo n host) (fun r => k (rows kSent TSent.row r)) := by
  delta F39 P39 sSentTo
  refine Imp.for (enc := fun (i_1 : Nat) (s1 : List TSent) => [.s host, .l (rows kSent TSent.row s1), .i (i_1 : Int), .l (rows kServer TServer.row n.xServers), .l (rows kEntry TEntry.row n.xCache.xEntries), .l (rows kSent TSent.row n.xLog), .i n.xNow]) (encR := fun (u : List TSent) => (((0, [.l (rows kSent TSent.row u)]) : Nat × List Leaf))) rfl (fun i_1 x_1 s1 hx1 hl1 hm1 => Imp.brT (T_lt (ks := kSent) (g := TSent.row) hl1) ?_) (fun s1 => brN (T_irr (ks := kSent) (g := TSent.row) n.xLog) rfl) (fun r4 => ?_)
  · refine Imp.idxFor (ks := kSent) (g := TSent.row) hx1 ?_
    refine Imp.br rfl ?_ ?_
    · refine Imp.idxFor (ks := kSent) (g := TSent.row) hx1 ?_
      refine Imp.chk (c2 (fun z0 z1 : Nat => (z0 + 1) * 56 ≤ 140737488355328 ∧ z1 + 1 ≤ 140737488355328) (T_len (ks := kSent) (g := TSent.row) s1) (T_len (ks := kSent) (g := TSent.row) s1)) (fun _ => ?_)
      exact Imp.ret (c2 (fun (h1 : List V) (h2 : Int) => (some (Sum.inl [.s host, .l h1, .i h2, .l (rows kServer TServer.row n.xServers), .l (rows kEntry TEntry.row n.xCache.xEntries), .l (rows kSent TSent.row n.xLog), .i n.xNow]) : Option (List Leaf ⊕ (Nat × List Leaf)))) (T_app (ks := kSent) (g := TSent.row) s1 [x_1]) (wrapJ hl1))
    · exact Imp.ret (c1 (fun (h1 : Int) => (some (Sum.inl [.s host, .l (rows kSent TSent.row s1), .i h1, .l (rows kServer TServer.row n.xServers), .l (rows kEntry TEntry.row n.xCache.xEntries), .l (rows kSent TSent.row n.xLog), .i n.xNow]) : Option (List Leaf ⊕ (Nat × List Leaf)))) (wrapJ hl1))
  · exact Imp.ret rfl

/-- spec.HasAddr -/
noncomputable def sHasAddr (l : List TAddr) (a : TAddr) : Option Bool :=
  (forE l (fun (i_1 : Nat) (x_1 : TAddr) (s1 : Unit) => (
    br ((x_1.xHost == a.xHost) && ((x_1.xPath == a.xPath) && true)) (
      some (.inr (.inl ()))
    ) (
      some (.inl ())
    )
  : Option (Unit ⊕ (Unit ⊕ Unit)))) (fun (s1 : Unit) => (.inr () : Unit ⊕ Unit)) (() : Unit)).bind <|
  Sum.elim
    (fun (r3 : Unit) =>
      some true
    )
    (fun (r3 : Unit) =>
      some false
    )
theorem ei_sHasAddr (l : List TAddr) (a : TAddr) (k : Bool → Option β) : Imp (F59 β (rows kAddr TAddr.row l) a.xHost a.xPath k) (sHasAddr l a) (fun r => k r) := by
  delta F59 P59 sHasAddr
  refine Imp.for (enc := fun (i_1 : Nat) (s1 : Unit) => [.l (rows kAddr TAddr.row l), .i (i_1 : Int), .s a.xHost, .s a.xPath]) (encR := Sum.elim (fun (u : Unit) => (((0, [.b true]) : Nat × List Leaf))) (fun (u : Unit) => (((1, []) : Nat × List Leaf)))) rfl (fun i_1 x_1 s1 hx1 hl1 hm1 => Imp.brT (T_lt (ks := kAddr) (g := TAddr.row) hl1) ?_) (fun s1 => brN (T_irr (ks := kAddr) (g := TAddr.row) l) rfl) (fun r3 => ?_)
  · refine Imp.idxFor (ks := kAddr) (g := TAddr.row) hx1 ?_
    refine Imp.br rfl ?_ ?_
    · exact Imp.ret rfl
    · exact Imp.ret (c1 (fun (h1 : Int) => (some (Sum.inl [.l (rows kAddr TAddr.row l), .i h1, .s a.xHost, .s a.xPath]) : Option (List Leaf ⊕ (Nat × List Leaf)))) (wrapJ hl1))
  · cases r3 with
    | inl r3 =>
      refine Imp.ifT rfl ?_
      exact Imp.ret rfl
    | inr r3 =>
      refine Imp.ifF (show ¬ ((1 : Nat) = 0) by decide) ?_
      exact Imp.ret rfl

/-- spec.CompareAddrs -/
noncomputable def sCompareAddrs (a : TAddr) (b : TAddr) : Option Int :=
  br ((a.xHost == b.xHost) && ((a.xPath == b.xPath) && true)) (
    some 0
  ) (
    br (less a.xHost b.xHost) (
      some (-1)
    ) (
      br (a.xHost == b.xHost) (
        br (less a.xPath b.xPath) (
          some (-1)
        ) (
          some 1
        )
      ) (
        some 1
      )
    )
  )
theorem ei_sCompareAddrs (a : TAddr) (b : TAddr) (k : Int → Option β) : Imp (F60 β a.xHost a.xPath b.xHost b.xPath k) (sCompareAddrs a b) (fun r => k r) := by
  delta F60 P60 sCompareAddrs
  refine Imp.br rfl ?_ ?_
  · exact Imp.ret rfl
  · refine Imp.br rfl ?_ ?_
    · exact Imp.ret rfl
    · refine Imp.br rfl ?_ ?_
      · refine Imp.br rfl ?_ ?_
        · exact Imp.ret rfl
        · exact Imp.ret rfl
      · exact Imp.ret rfl

/-- spec.SortAddrs -/
noncomputable def sSortAddrs (l : List TAddr) : Option (List TAddr) :=
  (forE l (fun (i_1 : Nat) (x_1 : TAddr) (s1 : List TAddr) => (
    (sHasAddr s1 x_1).bind fun (r3 : Bool) =>
    br r3 (
      some (.inl s1)
    ) (
      (whileE (fun (s4 : Int) => (
        br (decide (s4 > 0)) (
          chk (0 ≤ IntKind.wrap .i64 (s4 - 1) ∧ (IntKind.wrap .i64 (s4 - 1)).toNat < s1.length) <|
          (getI s1 (IntKind.wrap .i64 (s4 - 1))).bind fun (e6 : TAddr) =>
          (sCompareAddrs x_1 e6).bind fun (r7 : Int) =>
          br (decide (r7 < 0)) (
            some (.inl (IntKind.wrap .i64 (s4 - 1)))
          ) (
            some (.inr s4)
          )
        ) (
          some (.inr s4)
        )
      : Option (Int ⊕ Int))) ((s1.length : Int) : Int)).bind <|
      fun (r8 : Int) =>
      chk (0 ≤ (0 : Int) ∧ (0 : Int) ≤ r8 ∧ r8 ≤ (s1.length : Int)) <|
      chk ((0 + ((s1.take (r8.toNat)).drop 0).length) * 32 ≤ 140737488355328 ∧ 0 + ((s1.take (r8.toNat)).drop 0).length ≤ 140737488355328) <|
      chk ((([] ++ ((s1.take (r8.toNat)).drop 0)).length + 1) * 32 ≤ 140737488355328 ∧ ([] ++ ((s1.take (r8.toNat)).drop 0)).length + 1 ≤ 140737488355328) <|
      chk (0 ≤ r8 ∧ r8 ≤ (s1.length : Int) ∧ (s1.length : Int) ≤ (s1.length : Int)) <|
      chk (((([] ++ ((s1.take (r8.toNat)).drop 0)) ++ [x_1]).length + ((s1.take ((s1.length : Int).toNat)).drop (r8.toNat)).length) * 32 ≤ 140737488355328 ∧ (([] ++ ((s1.take (r8.toNat)).drop 0)) ++ [x_1]).length + ((s1.take ((s1.length : Int).toNat)).drop (r8.toNat)).length ≤ 140737488355328) <|
      some (.inl ((([] ++ ((s1.take (r8.toNat)).drop 0)) ++ [x_1]) ++ ((s1.take ((s1.length : Int).toNat)).drop (r8.toNat))))
    )
  : Option ((List TAddr) ⊕ (List TAddr)))) (fun (s1 : List TAddr) => (s1 : List TAddr)) ([] : List TAddr)).bind <|
  fun (r10 : List TAddr) =>
  some r10
theorem ei_sSortAddrs (l : List TAddr) (k : List V → Option β) : Imp (F40 β (rows kAddr TAddr.row l) k) (sSortAddrs l) (fun r => k (rows kAddr TAddr.row r)) := by
  delta F40 P40 sSortAddrs
  refine Imp.for (enc := fun (i_1 : Nat) (s1 : List TAddr) => [.l (rows kAddr TAddr.row l), .l (rows kAddr TAddr.row s1), .i (i_1 : Int)]) (encR := fun (u : List TAddr) => (((0, [.l (rows kAddr TAddr.row u)]) : Nat × List Leaf))) rfl (fun i_1 x_1 s1 hx1 hl1 hm1 => Imp.brT (T_lt (ks := kAddr) (g := TAddr.row) hl1) ?_) (fun s1 => brN (T_irr (ks := kAddr) (g := TAddr.row) l) rfl) (fun r10 => ?_)
  · refine Imp.idxFor (ks := kAddr) (g := TAddr.row) hx1 ?_
    refine Imp.call rfl (ei_sHasAddr s1 x_1 _) (fun r3 _ => ?_)
    refine Imp.br rfl ?_ ?_
    · exact Imp.ret (c1 (fun (h1 : Int) => (some (Sum.inl [.l (rows kAddr TAddr.row l), .l (rows kAddr TAddr.row s1), .i h1]) : Option (List Leaf ⊕ (Nat × List Leaf)))) (wrapJ hl1))
    · refine Imp.while (enc := fun (s4 : Int) => [.l (rows kAddr TAddr.row l), .l (rows kAddr TAddr.row s1), .i (i_1 : Int), .i s4]) (encR := fun (u : Int) => (((0, [.l (rows kAddr TAddr.row l), .l (rows kAddr TAddr.row s1), .i (i_1 : Int), .i u]) : Nat × List Leaf))) (c1 (fun (h1 : Int) => ([.l (rows kAddr TAddr.row l), .l (rows kAddr TAddr.row s1), .i (i_1 : Int), .i h1] : List Leaf)) (c1 (fun z0 : Nat => (z0 : Int)) (T_len (ks := kAddr) (g := TAddr.row) s1))) (fun s4 => ?_) (fun r8 => ?_)
      · refine Imp.br rfl ?_ ?_
        · refine Imp.idxFor (ks := kAddr) (g := TAddr.row) hx1 ?_
          refine Imp.chk (c1 (fun z0 : Nat => 0 ≤ IntKind.wrap .i64 (s4 - 1) ∧ (IntKind.wrap .i64 (s4 - 1)).toNat < z0) (T_len (ks := kAddr) (g := TAddr.row) s1)) (fun _ => ?_)
          refine Imp.idxAt (ks := kAddr) (g := TAddr.row) rfl rfl (fun e6 => rfl) (fun e6 _ => ?_)
          refine Imp.call rfl (ei_sCompareAddrs x_1 e6 _) (fun r7 _ => ?_)
          refine Imp.br rfl ?_ ?_
          · exact Imp.ret rfl
          · exact Imp.ret rfl
        · exact Imp.ret rfl
      · refine Imp.chk (c1 (fun z0 : Nat => 0 ≤ (0 : Int) ∧ (0 : Int) ≤ r8 ∧ r8 ≤ (z0 : Int)) (T_len (ks := kAddr) (g := TAddr.row) s1)) (fun _ => ?_)
        refine Imp.chk (c2 (fun z0 z1 : Nat => (0 + z0) * 32 ≤ 140737488355328 ∧ 0 + z1 ≤ 140737488355328) ((c1 (fun u : List V => u.length) (T_cut (ks := kAddr) (g := TAddr.row) s1 (r8.toNat) 0)).trans (T_len (ks := kAddr) (g := TAddr.row) ((s1.take (r8.toNat)).drop 0))) ((c1 (fun u : List V => u.length) (T_cut (ks := kAddr) (g := TAddr.row) s1 (r8.toNat) 0)).trans (T_len (ks := kAddr) (g := TAddr.row) ((s1.take (r8.toNat)).drop 0)))) (fun _ => ?_)
        refine Imp.idxFor (ks := kAddr) (g := TAddr.row) hx1 ?_
        refine Imp.chk (c2 (fun z0 z1 : Nat => (z0 + 1) * 32 ≤ 140737488355328 ∧ z1 + 1 ≤ 140737488355328) ((c1 (fun u : List V => u.length) ((c2 (fun u v : List V => u ++ v) rfl (T_cut (ks := kAddr) (g := TAddr.row) s1 (r8.toNat) 0)).trans (T_app (ks := kAddr) (g := TAddr.row) [] ((s1.take (r8.toNat)).drop 0)))).trans (T_len (ks := kAddr) (g := TAddr.row) ([] ++ ((s1.take (r8.toNat)).drop 0)))) ((c1 (fun u : List V => u.length) ((c2 (fun u v : List V => u ++ v) rfl (T_cut (ks := kAddr) (g := TAddr.row) s1 (r8.toNat) 0)).trans (T_app (ks := kAddr) (g := TAddr.row) [] ((s1.take (r8.toNat)).drop 0)))).trans (T_len (ks := kAddr) (g := TAddr.row) ([] ++ ((s1.take (r8.toNat)).drop 0))))) (fun _ => ?_)
        refine Imp.chk (c3 (fun z0 z1 z2 : Nat => 0 ≤ r8 ∧ r8 ≤ (z0 : Int) ∧ (z1 : Int) ≤ (z2 : Int)) (T_len (ks := kAddr) (g := TAddr.row) s1) (T_len (ks := kAddr) (g := TAddr.row) s1) (T_len (ks := kAddr) (g := TAddr.row) s1)) (fun _ => ?_)
        refine Imp.chk (c4 (fun z0 z1 z2 z3 : Nat => (z0 + z1) * 32 ≤ 140737488355328 ∧ z2 + z3 ≤ 140737488355328) ((c1 (fun u : List V => u.length) ((c2 (fun u v : List V => u ++ v) ((c2 (fun u v : List V => u ++ v) rfl (T_cut (ks := kAddr) (g := TAddr.row) s1 (r8.toNat) 0)).trans (T_app (ks := kAddr) (g := TAddr.row) [] ((s1.take (r8.toNat)).drop 0))) rfl).trans (T_app (ks := kAddr) (g := TAddr.row) ([] ++ ((s1.take (r8.toNat)).drop 0)) [x_1]))).trans (T_len (ks := kAddr) (g := TAddr.row) (([] ++ ((s1.take (r8.toNat)).drop 0)) ++ [x_1]))) ((c1 (fun u : List V => u.length) ((c3 (fun (u : List V) (a b : Nat) => (u.take a).drop b) rfl (c1 (fun z0 : Nat => ((z0 : Int).toNat)) (T_len (ks := kAddr) (g := TAddr.row) s1)) rfl).trans (T_cut (ks := kAddr) (g := TAddr.row) s1 ((s1.length : Int).toNat) (r8.toNat)))).trans (T_len (ks := kAddr) (g := TAddr.row) ((s1.take ((s1.length : Int).toNat)).drop (r8.toNat)))) ((c1 (fun u : List V => u.length) ((c2 (fun u v : List V => u ++ v) ((c2 (fun u v : List V => u ++ v) rfl (T_cut (ks := kAddr) (g := TAddr.row) s1 (r8.toNat) 0)).trans (T_app (ks := kAddr) (g := TAddr.row) [] ((s1.take (r8.toNat)).drop 0))) rfl).trans (T_app (ks := kAddr) (g := TAddr.row) ([] ++ ((s1.take (r8.toNat)).drop 0)) [x_1]))).trans (T_len (ks := kAddr) (g := TAddr.row) (([] ++ ((s1.take (r8.toNat)).drop 0)) ++ [x_1]))) ((c1 (fun u : List V => u.length) ((c3 (fun (u : List V) (a b : Nat) => (u.take a).drop b) rfl (c1 (fun z0 : Nat => ((z0 : Int).toNat)) (T_len (ks := kAddr) (g := TAddr.row) s1)) rfl).trans (T_cut (ks := kAddr) (g := TAddr.row) s1 ((s1.length : Int).toNat) (r8.toNat)))).trans (T_len (ks := kAddr) (g := TAddr.row) ((s1.take ((s1.length : Int).toNat)).drop (r8.toNat))))) (fun _ => ?_)
        exact Imp.ret (c2 (fun (h1 : List V) (h2 : Int) => (some (Sum.inl [.l (rows kAddr TAddr.row l), .l h1, .i h2]) : Option (List Leaf ⊕ (Nat × List Leaf)))) ((c2 (fun u v : List V => u ++ v) ((c2 (fun u v : List V => u ++ v) ((c2 (fun u v : List V => u ++ v) rfl (T_cut (ks := kAddr) (g := TAddr.row) s1 (r8.toNat) 0)).trans (T_app (ks := kAddr) (g := TAddr.row) [] ((s1.take (r8.toNat)).drop 0))) rfl).trans (T_app (ks := kAddr) (g := TAddr.row) ([] ++ ((s1.take (r8.toNat)).drop 0)) [x_1])) ((c3 (fun (u : List V) (a b : Nat) => (u.take a).drop b) rfl (c1 (fun z0 : Nat => ((z0 : Int).toNat)) (T_len (ks := kAddr) (g := TAddr.row) s1)) rfl).trans (T_cut (ks := kAddr) (g := TAddr.row) s1 ((s1.length : Int).toNat) (r8.toNat)))).trans (T_app (ks := kAddr) (g := TAddr.row) (([] ++ ((s1.take (r8.toNat)).drop 0)) ++ [x_1]) ((s1.take ((s1.length : Int).toNat)).drop (r8.toNat)))) (wrapJ hl1))
  · exact Imp.ret rfl

/-- spec.CrossLearned -/
noncomputable def sCrossLearned (n : TNet) (host : List UInt8) : Option (List TAddr) :=
  (sSentTo n host).bind fun (r1 : List TSent) =>
  (forE r1 (fun (i_2 : Nat) (x_2 : TSent) (s2 : List TAddr) => (
    br (!(x_2.xTop == host)) (
      chk ((s2.length + 1) * 32 ≤ 140737488355328 ∧ s2.length + 1 ≤ 140737488355328) <|
      some (.inl (s2 ++ [x_2.xTo]))
    ) (
      some (.inl s2)
    )
  : Option ((List TAddr) ⊕ (List TAddr)))) (fun (s2 : List TAddr) => (s2 : List TAddr)) ([] : List TAddr)).bind <|
  fun (r5 : List TAddr) =>
  (sSortAddrs r5).bind fun (r6 : List TAddr) =>
  some r6
theorem ei_sCrossLearned (n : TNet) (host : List UInt8) (k : List V → Option β) : Imp (F15 β (rows kServer TServer.row n.xServers) (rows kEntry TEntry.row n.xCache.xEntries) (rows kSent TSent.row n.xLog) n.xNow host k) (sCrossLearned n host) (fun r => k (rows kAddr TAddr.row r)) := by
  delta F15 P15 sCrossLearned
  refine Imp.call rfl (ei_sSentTo n host _) (fun r1 _ => ?_)
  refine Imp.for (enc := fun (i_2 : Nat) (s2 : List TAddr) => [.s host, .l (rows kAddr TAddr.row s2), .l (rows kSent TSent.row r1), .i (i_2 : Int)]) (encR := fun (u : List TAddr) => (((0, [.l (rows kAddr TAddr.row u)]) : Nat × List Leaf))) rfl (fun i_2 x_2 s2 hx2 hl2 hm2 => Imp.brT (T_lt (ks := kSent) (g := TSent.row) hl2) ?_) (fun s2 => brN (T_irr (ks := kSent) (g := TSent.row) r1) rfl) (fun r5 => ?_)
  · refine Imp.chkE ⟨Int.natCast_nonneg _, Nat.lt_of_lt_of_eq hl2 (T_len (ks := kSent) (g := TSent.row) r1).symm⟩ ?_
    refine Imp.idxAtFor (ks := kSent) (g := TSent.row) hx2 rfl ?_
    refine Imp.br rfl ?_ ?_
    · refine Imp.chkE ⟨Int.natCast_nonneg _, Nat.lt_of_lt_of_eq hl2 (T_len (ks := kSent) (g := TSent.row) r1).symm⟩ ?_
      refine Imp.idxAtFor (ks := kSent) (g := TSent.row) hx2 rfl ?_
      refine Imp.chk (c2 (fun z0 z1 : Nat => (z0 + 1) * 32 ≤ 140737488355328 ∧ z1 + 1 ≤ 140737488355328) (T_len (ks := kAddr) (g := TAddr.row) s2) (T_len (ks := kAddr) (g := TAddr.row) s2)) (fun _ => ?_)
      exact Imp.ret (c2 (fun (h1 : List V) (h2 : Int) => (some (Sum.inl [.s host, .l h1, .l (rows kSent TSent.row r1), .i h2]) : Option (List Leaf ⊕ (Nat × List Leaf)))) (T_app (ks := kAddr) (g := TAddr.row) s2 [x_2.xTo]) (wrapJ hl2))
    · exact Imp.ret (c1 (fun (h1 : Int) => (some (Sum.inl [.s host, .l (rows kAddr TAddr.row s2), .l (rows kSent TSent.row r1), .i h1]) : Option (List Leaf ⊕ (Nat × List Leaf)))) (wrapJ hl2))
  · refine Imp.call rfl (ei_sSortAddrs r5 _) (fun r6 _ => ?_)
    exact Imp.ret rfl

/-- impl.SentTo -/
noncomputable def iSentTo (n : TNet) (host : List UInt8) : Option (List TSent) :=
  (forE n.xLog (fun (i_1 : Nat) (x_1 : TSent) (s1 : List TSent) => (
    br (x_1.xTo.xHost == host) (
      chk ((s1.length + 1) * 56 ≤ 140737488355328 ∧ s1.length + 1 ≤ 140737488355328) <|
      some (.inl (s1 ++ [x_1]))
    ) (
      some (.inl s1)
    )
  : Option ((List TSent) ⊕ (List TSent)))) (fun (s1 : List TSent) => (s1 : List TSent)) ([] : List TSent)).bind <|
  fun (r3 : List TSent) =>
  some r3
theorem ei_iSentTo (n : TNet) (host : List UInt8) (k : List V → Option β) : Imp (F41 β (rows kServer TServer.row n.xServers) (rows kEntry TEntry.row n.xCache.xEntries) (rows kSent TSent.row n.xLog) n.xNow host k) (iSentTo n host) (fun r => k (rows kSent TSent.row r)) := by
  delta F41 P41 iSentTo
  refine Imp.for (enc := fun (i_1 : Nat) (s1 : List TSent) => [.s host, .l (rows kSent TSent.row s1), .l (rows kSent TSent.row n.xLog), .i (n.xLog.length : Int), .i (i_1 : Int)]) (encR := fun (u : List TSent) => (((0, [.l (rows kSent TSent.row u)]) : Nat × List Leaf))) (c1 (fun (h1 : Int) => ([.s host, .l (rows kSent TSent.row []), .l (rows kSent TSent.row n.xLog), .i h1, .i 0] : List Leaf)) (c1 (fun z0 : Nat => (z0 : Int)) (T_len (ks := kSent) (g := TSent.row) n.xLog))) (fun i_1 x_1 s1 hx1 hl1 hm1 => Imp.brT (Int.ofNat_lt.2 hl1) ?_) (fun s1 => brN (Int.lt_irrefl _) rfl) (fun r3 => ?_)
  · refine Imp.idxFor (ks := kSent) (g := TSent.row) hx1 ?_
    refine Imp.br rfl ?_ ?_
    · refine Imp.chk (c2 (fun z0 z1 : Nat => (z0 + 1) * 56 ≤ 140737488355328 ∧ z1 + 1 ≤ 140737488355328) (T_len (ks := kSent) (g := TSent.row) s1) (T_len (ks := kSent) (g := TSent.row) s1)) (fun _ => ?_)
      exact Imp.ret (c2 (fun (h1 : List V) (h2 : Int) => (some (Sum.inl [.s host, .l h1, .l (rows kSent TSent.row n.xLog), .i (n.xLog.length : Int), .i h2]) : Option (List Leaf ⊕ (Nat × List Leaf)))) (T_app (ks := kSent) (g := TSent.row) s1 [x_1]) (wrapJ hl1))
    · exact Imp.ret (c1 (fun (h1 : Int) => (some (Sum.inl [.s host, .l (rows kSent TSent.row s1), .l (rows kSent TSent.row n.xLog), .i (n.xLog.length : Int), .i h1]) : Option (List Leaf ⊕ (Nat × List Leaf)))) (wrapJ hl1))
  · exact Imp.ret rfl

/-- loop.example/g00586/impl.SortAddrs -/
noncomputable def iSortAddrs (a0 : List TAddr) : Option (List TAddr) := sortPrE (fun (a : TAddr) => (a.xHost, a.xPath)) (fun p => (⟨p.1, p.2⟩ : TAddr)) a0
theorem ei_iSortAddrs (a0 : List TAddr) (k : List V → Option β) : Imp (F42 β (rows kAddr TAddr.row a0) k) (iSortAddrs a0) (fun r => k (rows kAddr TAddr.row r)) := ei_sortPrE (fun (a : TAddr) => (a.xHost, a.xPath)) (fun p => (⟨p.1, p.2⟩ : TAddr)) (fun _ => rfl) (fun _ => rfl) a0 k

/-- impl.CrossLearned -/
noncomputable def iCrossLearned (n : TNet) (host : List UInt8) : Option (List TAddr) :=
  (iSentTo n host).bind fun (r1 : List TSent) =>
  (forE r1 (fun (i_2 : Nat) (x_2 : TSent) (s2 : List TAddr) => (
    br (!(x_2.xTop == host)) (
      chk ((s2.length + 1) * 32 ≤ 140737488355328 ∧ s2.length + 1 ≤ 140737488355328) <|
      some (.inl (s2 ++ [x_2.xTo]))
    ) (
      some (.inl s2)
    )
  : Option ((List TAddr) ⊕ (List TAddr)))) (fun (s2 : List TAddr) => (s2 : List TAddr)) ([] : List TAddr)).bind <|
  fun (r4 : List TAddr) =>
  (iSortAddrs r4).bind fun (r5 : List TAddr) =>
  some r5
theorem ei_iCrossLearned (n : TNet) (host : List UInt8) (k : List V → Option β) : Imp (F16 β (rows kServer TServer.row n.xServers) (rows kEntry TEntry.row n.xCache.xEntries) (rows kSent TSent.row n.xLog) n.xNow host k) (iCrossLearned n host) (fun r => k (rows kAddr TAddr.row r)) := by
  delta F16 P16 iCrossLearned
  refine Imp.call rfl (ei_iSentTo n host _) (fun r1 _ => ?_)
  refine Imp.for (enc := fun (i_2 : Nat) (s2 : List TAddr) => [.s host, .l (rows kAddr TAddr.row s2), .l (rows kSent TSent.row r1), .i (r1.length : Int), .i (i_2 : Int)]) (encR := fun (u : List TAddr) => (((0, [.l (rows kAddr TAddr.row u)]) : Nat × List Leaf))) (c1 (fun (h1 : Int) => ([.s host, .l (rows kAddr TAddr.row []), .l (rows kSent TSent.row r1), .i h1, .i 0] : List Leaf)) (c1 (fun z0 : Nat => (z0 : Int)) (T_len (ks := kSent) (g := TSent.row) r1))) (fun i_2 x_2 s2 hx2 hl2 hm2 => Imp.brT (Int.ofNat_lt.2 hl2) ?_) (fun s2 => brN (Int.lt_irrefl _) rfl) (fun r4 => ?_)
  · refine Imp.chkE ⟨Int.natCast_nonneg _, Nat.lt_of_lt_of_eq hl2 (T_len (ks := kSent) (g := TSent.row) r1).symm⟩ ?_
    refine Imp.idxAtFor (ks := kSent) (g := TSent.row) hx2 rfl ?_
    refine Imp.br rfl ?_ ?_
    · refine Imp.chk (c2 (fun z0 z1 : Nat => (z0 + 1) * 32 ≤ 140737488355328 ∧ z1 + 1 ≤ 140737488355328) (T_len (ks := kAddr) (g := TAddr.row) s2) (T_len (ks := kAddr) (g := TAddr.row) s2)) (fun _ => ?_)
      exact Imp.ret (c2 (fun (h1 : List V) (h2 : Int) => (some (Sum.inl [.s host, .l h1, .l (rows kSent TSent.row r1), .i (r1.length : Int), .i h2]) : Option (List Leaf ⊕ (Nat × List Leaf)))) (T_app (ks := kAddr) (g := TAddr.row) s2 [x_2.xTo]) (wrapJ hl2))
    · exact Imp.ret (c1 (fun (h1 : Int) => (some (Sum.inl [.s host, .l (rows kAddr TAddr.row s2), .l (rows kSent TSent.row r1), .i (r1.length : Int), .i h1]) : Option (List Leaf ⊕ (Nat × List Leaf)))) (wrapJ hl2))
  · refine Imp.call rfl (ei_iSortAddrs r4 _) (fun r5 _ => ?_)
    exact Imp.ret rfl

/-- spec.OwnLearned -/
noncomputable def sOwnLearned (n : TNet) (host : List UInt8) : Option (List TAddr) :=
  (sSentTo n host).bind fun (r1 : List TSent) =>
  (forE r1 (fun (i_2 : Nat) (x_2 : TSent) (s2 : List TAddr) => (
    br (x_2.xTop == host) (
      br (!x_2.xGuess) (
        chk ((s2.length + 1) * 32 ≤ 140737488355328 ∧ s2.length + 1 ≤ 140737488355328) <|
        some (.inl (s2 ++ [x_2.xTo]))
      ) (
        some (.inl s2)
      )
    ) (
      some (.inl s2)
    )
  : Option ((List TAddr) ⊕ (List TAddr)))) (fun (s2 : List TAddr) => (s2 : List TAddr)) ([] : List TAddr)).bind <|
  fun (r6 : List TAddr) =>
  (sSortAddrs r6).bind fun (r7 : List TAddr) =>
  some r7
theorem ei_sOwnLearned (n : TNet) (host : List UInt8) (k : List V → Option β) : Imp (F20 β (rows kServer TServer.row n.xServers) (rows kEntry TEntry.row n.xCache.xEntries) (rows kSent TSent.row n.xLog) n.xNow host k) (sOwnLearned n host) (fun r => k (rows kAddr TAddr.row r)) := by
  delta F20 P20 sOwnLearned
  refine Imp.call rfl (ei_sSentTo n host _) (fun r1 _ => ?_)
  refine Imp.for (enc := fun (i_2 : Nat) (s2 : List TAddr) => [.s host, .l (rows kAddr TAddr.row s2), .l (rows kSent TSent.row r1), .i (i_2 : Int)]) (encR := fun (u : List TAddr) => (((0, [.l (rows kAddr TAddr.row u)]) : Nat × List Leaf))) rfl (fun i_2 x_2 s2 hx2 hl2 hm2 => Imp.brT (T_lt (ks := kSent) (g := TSent.row) hl2) ?_) (fun s2 => brN (T_irr (ks := kSent) (g := TSent.row) r1) rfl) (fun r6 => ?_)
  · refine Imp.chkE ⟨Int.natCast_nonneg _, Nat.lt_of_lt_of_eq hl2 (T_len (ks := kSent) (g := TSent.row) r1).symm⟩ ?_
    refine Imp.idxAtFor (ks := kSent) (g := TSent.row) hx2 rfl ?_
    refine Imp.br rfl ?_ ?_
    · refine Imp.chkE ⟨Int.natCast_nonneg _, Nat.lt_of_lt_of_eq hl2 (T_len (ks := kSent) (g := TSent.row) r1).symm⟩ ?_
      refine Imp.idxAtFor (ks := kSent) (g := TSent.row) hx2 rfl ?_
      refine Imp.br rfl ?_ ?_
      · refine Imp.chkE ⟨Int.natCast_nonneg _, Nat.lt_of_lt_of_eq hl2 (T_len (ks := kSent) (g := TSent.row) r1).symm⟩ ?_
        refine Imp.idxAtFor (ks := kSent) (g := TSent.row) hx2 rfl ?_
        refine Imp.chk (c2 (fun z0 z1 : Nat => (z0 + 1) * 32 ≤ 140737488355328 ∧ z1 + 1 ≤ 140737488355328) (T_len (ks := kAddr) (g := TAddr.row) s2) (T_len (ks := kAddr) (g := TAddr.row) s2)) (fun _ => ?_)
        exact Imp.ret (c2 (fun (h1 : List V) (h2 : Int) => (some (Sum.inl [.s host, .l h1, .l (rows kSent TSent.row r1), .i h2]) : Option (List Leaf ⊕ (Nat × List Leaf)))) (T_app (ks := kAddr) (g := TAddr.row) s2 [x_2.xTo]) (wrapJ hl2))
      · exact Imp.ret (c1 (fun (h1 : Int) => (some (Sum.inl [.s host, .l (rows kAddr TAddr.row s2), .l (rows kSent TSent.row r1), .i h1]) : Option (List Leaf ⊕ (Nat × List Leaf)))) (wrapJ hl2))
    · exact Imp.ret (c1 (fun (h1 : Int) => (some (Sum.inl [.s host, .l (rows kAddr TAddr.row s2), .l (rows kSent TSent.row r1), .i h1]) : Option (List Leaf ⊕ (Nat × List Leaf)))) (wrapJ hl2))
  · refine Imp.call rfl (ei_sSortAddrs r6 _) (fun r7 _ => ?_)
    exact Imp.ret rfl

/-- impl.OwnLearned -/
noncomputable def iOwnLearned (n : TNet) (host : List UInt8) : Option (List TAddr) :=
  (iSentTo n host).bind fun (r1 : List TSent) =>
  (forE r1 (fun (i_2 : Nat) (x_2 : TSent) (s2 : List TAddr) => (
    br (x_2.xTop == host) (
      br (!x_2.xGuess) (
        chk ((s2.length + 1) * 32 ≤ 140737488355328 ∧ s2.length + 1 ≤ 140737488355328) <|
        some (.inl (s2 ++ [x_2.xTo]))
      ) (
        some (.inl s2)
      )
    ) (
      some (.inl s2)
    )
  : Option ((List TAddr) ⊕ (List TAddr)))) (fun (s2 : List TAddr) => (s2 : List TAddr)) ([] : List TAddr)).bind <|
  fun (r4 : List TAddr) =>
  (iSortAddrs r4).bind fun (r5 : List TAddr) =>
  some r5
theorem ei_iOwnLearned (n : TNet) (host : List UInt8) (k : List V → Option β) : Imp (F21 β (rows kServer TServer.row n.xServers) (rows kEntry TEntry.row n.xCache.xEntries) (rows kSent TSent.row n.xLog) n.xNow host k) (iOwnLearned n host) (fun r => k (rows kAddr TAddr.row r)) := by
  delta F21 P21 iOwnLearned
  refine Imp.call rfl (ei_iSentTo n host _) (fun r1 _ => ?_)
  refine Imp.for (enc := fun (i_2 : Nat) (s2 : List TAddr) => [.s host, .l (rows kAddr TAddr.row s2), .l (rows kSent TSent.row r1), .i (r1.length : Int), .i (i_2 : Int)]) (encR := fun (u : List TAddr) => (((0, [.l (rows kAddr TAddr.row u)]) : Nat × List Leaf))) (c1 (fun (h1 : Int) => ([.s host, .l (rows kAddr TAddr.row []), .l (rows kSent TSent.row r1), .i h1, .i 0] : List Leaf)) (c1 (fun z0 : Nat => (z0 : Int)) (T_len (ks := kSent) (g := TSent.row) r1))) (fun i_2 x_2 s2 hx2 hl2 hm2 => Imp.brT (Int.ofNat_lt.2 hl2) ?_) (fun s2 => brN (Int.lt_irrefl _) rfl) (fun r4 => ?_)
  · refine Imp.chkE ⟨Int.natCast_nonneg _, Nat.lt_of_lt_of_eq hl2 (T_len (ks := kSent) (g := TSent.row) r1).symm⟩ ?_
    refine Imp.idxAtFor (ks := kSent) (g := TSent.row) hx2 rfl ?_
    refine Imp.br rfl ?_ ?_
    · refine Imp.br rfl ?_ ?_
      · refine Imp.chk (c2 (fun z0 z1 : Nat => (z0 + 1) * 32 ≤ 140737488355328 ∧ z1 + 1 ≤ 140737488355328) (T_len (ks := kAddr) (g := TAddr.row) s2) (T_len (ks := kAddr) (g := TAddr.row) s2)) (fun _ => ?_)
        exact Imp.ret (c2 (fun (h1 : List V) (h2 : Int) => (some (Sum.inl [.s host, .l h1, .l (rows kSent TSent.row r1), .i (r1.length : Int), .i h2]) : Option (List Leaf ⊕ (Nat × List Leaf)))) (T_app (ks := kAddr) (g := TAddr.row) s2 [x_2.xTo]) (wrapJ hl2))
      · exact Imp.ret (c1 (fun (h1 : Int) => (some (Sum.inl [.s host, .l (rows kAddr TAddr.row s2), .l (rows kSent TSent.row r1), .i (r1.length : Int), .i h1]) : Option (List Leaf ⊕ (Nat × List Leaf)))) (wrapJ hl2))
    · exact Imp.ret (c1 (fun (h1 : Int) => (some (Sum.inl [.s host, .l (rows kAddr TAddr.row s2), .l (rows kSent TSent.row r1), .i (r1.length : Int), .i h1]) : Option (List Leaf ⊕ (Nat × List Leaf)))) (wrapJ hl2))
  · refine Imp.call rfl (ei_iSortAddrs r4 _) (fun r5 _ => ?_)
    exact Imp.ret rfl

/-- laws.markText -/
noncomputable def lmarkText (xk : Int) : Option (List UInt8) :=
  br (decide (xk ≤ 0)) (
    some [109, 48]
  ) (
    (whileE (fun (s1 : Int × (List UInt8)) => (
      br (decide (s1.1 > 0)) (
        chk ((strI [(IntKind.wrap .u8 (IntKind.wrap .i64 (48 + (Int.tmod s1.1 10))))]).length + s1.2.length ≤ 9223372036854775807) <|
        some (.inl ((IntKind.wrap .i64 (Int.tdiv s1.1 10)), ((strI [(IntKind.wrap .u8 (IntKind.wrap .i64 (48 + (Int.tmod s1.1 10))))]) ++ s1.2)))
      ) (
        some (.inr s1.2)
      )
    : Option ((Int × (List UInt8)) ⊕ (List UInt8)))) ((xk, []) : Int × (List UInt8))).bind <|
    fun (r3 : List UInt8) =>
    chk (1 + r3.length ≤ 9223372036854775807) <|
    some ([109] ++ r3)
  )
theorem ei_lmarkText (xk : Int) (k : List UInt8 → Option β) : Imp (F38 β xk k) (lmarkText xk) (fun r => k r) := by
  delta F38 P38 lmarkText
  refine Imp.br rfl ?_ ?_
  · exact Imp.ret rfl
  · refine Imp.while (enc := fun (s1 : Int × (List UInt8)) => [.i s1.1, .s s1.2]) (encR := fun (u : List UInt8) => (((0, [.s u]) : Nat × List Leaf))) rfl (fun s1 => ?_) (fun r3 => ?_)
    · refine Imp.br rfl ?_ ?_
      · refine Imp.strO (l := [(IntKind.wrap .u8 (IntKind.wrap .i64 (48 + (Int.tmod s1.1 10))))]) rfl ?_
        refine Imp.chk rfl (fun _ => ?_)
        exact Imp.ret rfl
      · exact Imp.ret rfl
    · refine Imp.chk rfl (fun _ => ?_)
      exact Imp.ret rfl

/-- laws.heldAddrS -/
noncomputable def lheldAddrS (a : List TAddr) (xk : Int) : Option Int :=
  (forE a (fun (i_1 : Nat) (x_1 : TAddr) (s1 : Int) => (
    (lmarkText s1).bind fun (r3 : List UInt8) =>
    br (!(x_1.xHost == r3)) (
      some (.inr (.inl s1))
    ) (
      (lmarkText (IntKind.wrap .i64 (s1 + 1))).bind fun (r5 : List UInt8) =>
      br (!(x_1.xPath == r5)) (
        some (.inr (.inl (IntKind.wrap .i64 (s1 + 1))))
      ) (
        some (.inl (IntKind.wrap .i64 ((IntKind.wrap .i64 (s1 + 1)) + 1)))
      )
    )
  : Option (Int ⊕ (Int ⊕ Int)))) (fun (s1 : Int) => (.inr s1 : Int ⊕ Int)) (xk : Int)).bind <|
  Sum.elim
    (fun (r6 : Int) =>
      some (-1)
    )
    (fun (r6 : Int) =>
      some r6
    )
theorem ei_lheldAddrS (a : List TAddr) (xk : Int) (k : Int → Option β) : Imp (F19 β (rows kAddr TAddr.row a) xk k) (lheldAddrS a xk) (fun r => k r) := by
  delta F19 P19 lheldAddrS
  refine Imp.for (enc := fun (i_1 : Nat) (s1 : Int) => [.l (rows kAddr TAddr.row a), .i s1, .i (i_1 : Int)]) (encR := Sum.elim (fun (u : Int) => (((0, [.i u, .i (-1)]) : Nat × List Leaf))) (fun (u : Int) => (((1, [.i u]) : Nat × List Leaf)))) rfl (fun i_1 x_1 s1 hx1 hl1 hm1 => Imp.brT (T_lt (ks := kAddr) (g := TAddr.row) hl1) ?_) (fun s1 => brN (T_irr (ks := kAddr) (g := TAddr.row) a) rfl) (fun r6 => ?_)
  · refine Imp.idxFor (ks := kAddr) (g := TAddr.row) hx1 ?_
    refine Imp.call rfl (ei_lmarkText s1 _) (fun r3 _ => ?_)
    refine Imp.br rfl ?_ ?_
    · exact Imp.ret rfl
    · refine Imp.idxFor (ks := kAddr) (g := TAddr.row) hx1 ?_
      refine Imp.call rfl (ei_lmarkText (IntKind.wrap .i64 (s1 + 1)) _) (fun r5 _ => ?_)
      refine Imp.br rfl ?_ ?_
      · exact Imp.ret rfl
      · exact Imp.ret (c1 (fun (h1 : Int) => (some (Sum.inl [.l (rows kAddr TAddr.row a), .i (IntKind.wrap .i64 ((IntKind.wrap .i64 (s1 + 1)) + 1)), .i h1]) : Option (List Leaf ⊕ (Nat × List Leaf)))) (wrapJ hl1))
  · cases r6 with
    | inl r6 =>
      refine Imp.ifT rfl ?_
      exact Imp.ret rfl
    | inr r6 =>
      refine Imp.ifF (show ¬ ((1 : Nat) = 0) by decide) ?_
      exact Imp.ret rfl

end Go.Am
