/-
  Typed forms of functions of the program, written by program (eform.py): each over structures and lists, and that, where it answers, the extracted function hands on that answer.
-/
import Derived.Test.YtlgbgnlpbnhhfaaAmTyped
import Derived.Test.YtlgbgnlpbnhhfaaTy
import Derived.Test.YtlgbgnlpbnhhfaaFvt
import Derived.Test.YtlgbgnlpbnhhfaaTvt
set_option maxRecDepth 10000
set_option linter.unusedVariables false
namespace Go.Am
open Go Go.Proofs
variable {β : Type}
/-- spec.SentTo -/
noncomputable def sSentTo (n : TNet) (host : List UInt8) : Option (List TSent) :=
  (forE n.xLog (fun (i_1 : Nat) (x_1 : TSent) (s1 : List TSent) => (
    br (x_1.xTo.xHost == host) (
      chk ((s1.length + 1) * 56 ≤ 140737488355328 ∧ s1.length + 1 ≤ 140737488355328) <|
      some (.inl (s1 ++ [x_1]))
    ) (
      some (.inl s1)
    )
  : Option ((List TSent) ⊕ (List TSent)))) (fun (s1 : List TSent) => (s1 : List TSent)) ([] : List TSent)).bind <|
  fun (r4 : List TSent) =>
  some r4
theorem ei_sSentTo (n : TNet) (host : List UInt8) (k : List V → Option β) : Imp (F37 β (rows kServer TServer.row n.xServers) (rows kEntry TEntry.row n.xCache.xEntries) (rows kSent TSent.row n.xLog) n.xNow host k) (sSentTo n host) (fun r => k (rows kSent TSent.row r)) := by
  delta F37 P37 sSentTo
  refine Imp.for (enc := fun (i_1 : Nat) (s1 : List TSent) => [.s host, .l (rows kSent TSent.row s1), .i (i_1 : Int), .l (rows kServer TServer.row n.xServers), .l (rows kEntry TEntry.row n.xCache.xEntries), .l (rows kSent TSent.row n.xLog), .i n.xNow]) (encR := fun (u : List TSent) => (((0, [.l (rows kSent TSent.row u)]) : Nat × List Leaf))) rfl (fun i_1 x_1 s1 hx1 hl1 hm1 => Imp.brT (T_lt (ks := kSent) (g := TSent.row) hl1) ?_) (fun s1 => brN (T_irr (ks := kSent) (g := TSent.row) n.xLog) rfl) (fun r4 => ?_)
  · refine Imp.idxFor (ks := kSent) (g := TSent.row) hx1 ?_
    refine Imp.br rfl ?_ ?_
    · refine Imp.idxFor (ks := kSent) (g := TSent.row) hx1 ?_
      refine Imp.chk (c2 (fun z0 z1 : Nat => (z0 + 1) * 56 ≤ 140737488355328 ∧ z1 + 1 ≤ 140737488355328) (T_len (ks := kSent) (g := TSent.row) s1) (T_len (ks := kSent) (g := TSent.row) s1)) (fun _ => ?_)
      exact Imp.ret (c2 (fun (h1 : List V) (h2 : Int) => (some (Sum.inl [.s host, .l h1, .i h2, .l (rows kServer TServer.row n.xServers), .l (rows kEntry TEntry.row n.xCache.xEntries), .l (rows kSent TSent.row n.xLog), .i n.xNow]) : Option (List Leaf ⊕ (Nat × List Leaf)))) (T_app (ks := kSent) (g := TSent.row) s1 [x_1]) (wrapJ hl1))
    · exact Imp.ret (c1 (fun (h1 : Int) => (some (Sum.inl [.s host, .l (rows kSent TSent.row s1), .i h1, .l (rows kServer TServer.row n.xServers), .l (rows kEntry TEntry.row n.xCache.xEntries), .l (rows kSent TSent.row n.xLog), .i n.xNow]) : Option (List Leaf ⊕ (Nat × List Leaf)))) (wrapJ hl1))
  · exact Imp.ret rfl

/-- spec.HasAddr -/
noncomputable def sHasAddr (l : List TAddr) (a : TAddr) : Option Bool :=
  (forE l (fun (i_1 : Nat) (x_1 : TAddr) (s1 : Unit) => (
    br ((x_1.xHost == a.xHost) && ((x_1.xPath == a.xPath) && true)) (
      some (.inr (.inl ()))
    ) (
      some (.inl ())
    )
  : Option (Unit ⊕ (Unit ⊕ Unit)))) (fun (s1 : Unit) => (.inr () : Unit ⊕ Unit)) (() : Unit)).bind <|
  Sum.elim
    (fun (r3 : Unit) =>
      some true
    )
    (fun (r3 : Unit) =>
      some false
    )
theorem ei_sHasAddr (l : List TAddr) (a : TAddr) (k : Bool → Option β) : Imp (F57 β (rows kAddr TAddr.row l) a.xHost a.xPath k) (sHasAddr l a) (fun r => k r) := by
  delta F57 P57 sHasAddr
  refine Imp.for (enc := fun (i_1 : Nat) (s1 : Unit) => [.l (rows kAddr TAddr.row l), .i (i_1 : Int), .s a.xHost, .s a.xPath]) (encR := Sum.elim (fun (u : Unit) => (((0, [.b true]) : Nat × List Leaf))) (fun (u : Unit) => (((1, []) : Nat × List Leaf)))) rfl (fun i_1 x_1 s1 hx1 hl1 hm1 => Imp.brT (T_lt (ks := kAddr) (g := TAddr.row) hl1) ?_) (fun s1 => brN (T_irr (ks := kAddr) (g := TAddr.row) l) rfl) (fun r3 => ?_)
  · refine Imp.idxFor (ks := kAddr) (g := TAddr.row) hx1 ?_
    refine Imp.br rfl ?_ ?_
    · exact Imp.ret rfl
    · exact Imp.ret (c1 (fun (h1 : Int) => (some (Sum.inl [.l (rows kAddr TAddr.row l), .i h1, .s a.xHost, .s a.xPath]) : Option (List Leaf ⊕ (Nat × List Leaf)))) (wrapJ hl1))
  · cases r3 with
    | inl r3 =>
      refine Imp.ifT rfl ?_
      exact Imp.ret rfl
    | inr r3 =>
      refine Imp.ifF (show ¬ ((1 : Nat) = 0) by decide) ?_
      exact Imp.ret rfl

/-- spec.CompareAddrs -/
noncomputable def sCompareAddrs (a : TAddr) (b : TAddr) : Option Int :=
  br ((a.xHost == b.xHost) && ((a.xPath == b.xPath) && true)) (
    some 0
  ) (
    br (less a.xHost b.xHost) (
      some (-1)
    ) (
      br (a.xHost == b.xHost) (
        br (less a.xPath b.xPath) (
          some (-1)
        ) (
          some 1
        )
      ) (
        some 1
      )
    )
  )
theorem ei_sCompareAddrs (a : TAddr) (b : TAddr) (k : Int → Option β) : Imp (F58 β a.xHost a.xPath b.xHost b.xPath k) (sCompareAddrs a b) (fun r => k r) := by
  delta F58 P58 sCompareAddrs
  refine Imp.br rfl ?_ ?_
  · exact Imp.ret rfl
  · refine Imp.br rfl ?_ ?_
    · exact Imp.ret rfl
    · refine Imp.br rfl ?_ ?_
      · refine Imp.br rfl ?_ ?_
        · exact Imp.ret rfl
        · exact Imp.ret rfl
      · exact Imp.ret rfl

/-- spec.SortAddrs -/
noncomputable def sSortAddrs (l : List TAddr) : Option (List TAddr) :=
  (forE l (fun (i_1 : Nat) (x_1 : TAddr) (s1 : List TAddr) => (
    (sHasAddr s1 x_1).bind fun (r3 : Bool) =>
    br r3 (
      some (.inl s1)
    ) (
      (whileE (fun (s4 : Int) => (
        br (decide (s4 > 0)) (
          chk (0 ≤ IntKind.wrap .i64 (s4 - 1) ∧ (IntKind.wrap .i64 (s4 - 1)).toNat < s1.length) <|
          (getI s1 (IntKind.wrap .i64 (s4 - 1))).bind fun (e6 : TAddr) =>
          (sCompareAddrs x_1 e6).bind fun (r7 : Int) =>
          br (decide (r7 < 0)) (
            some (.inl (IntKind.wrap .i64 (s4 - 1)))
          ) (
            some (.inr s4)
          )
        ) (
          some (.inr s4)
        )
      : Option (Int ⊕ Int))) ((s1.length : Int) : Int)).bind <|
      fun (r8 : Int) =>
      chk (0 ≤ (0 : Int) ∧ (0 : Int) ≤ r8 ∧ r8 ≤ (s1.length : Int)) <|
      chk ((0 + ((s1.take (r8.toNat)).drop 0).length) * 32 ≤ 140737488355328 ∧ 0 + ((s1.take (r8.toNat)).drop 0).length ≤ 140737488355328) <|
      chk ((([] ++ ((s1.take (r8.toNat)).drop 0)).length + 1) * 32 ≤ 140737488355328 ∧ ([] ++ ((s1.take (r8.toNat)).drop 0)).length + 1 ≤ 140737488355328) <|
      chk (0 ≤ r8 ∧ r8 ≤ (s1.length : Int) ∧ (s1.length : Int) ≤ (s1.length : Int)) <|
      chk (((([] ++ ((s1.take (r8.toNat)).drop 0)) ++ [x_1]).length + ((s1.take ((s1.length : Int).toNat)).drop (r8.toNat)).length) * 32 ≤ 140737488355328 ∧ (([] ++ ((s1.take (r8.toNat)).drop 0)) ++ [x_1]).length + ((s1.take ((s1.length : Int).toNat)).drop (r8.toNat)).length ≤ 140737488355328) <|
      some (.inl ((([] ++ ((s1.take (r8.toNat)).drop 0)) ++ [x_1]) ++ ((s1.take ((s1.length : Int).toNat)).drop (r8.toNat))))
    )
  : Option ((List TAddr) ⊕ (List TAddr)))) (fun (s1 : List TAddr) => (s1 : List TAddr)) ([] : List TAddr)).bind <|
  fun (r10 : List TAddr) =>
  some r10
theorem ei_sSortAddrs (l : List TAddr) (k : List V → Option β) : Imp (F38 β (rows kAddr TAddr.row l) k) (sSortAddrs l) (fun r => k (rows kAddr TAddr.row r)) := by
  delta F38 P38 sSortAddrs
  refine Imp.for (enc := fun (i_1 : Nat) (s1 : List TAddr) => [.l (rows kAddr TAddr.row l), .l (rows kAddr TAddr.row s1), .i (i_1 : Int)]) (encR := fun (u : List TAddr) => (((0, [.l (rows kAddr TAddr.row u)]) : Nat × List Leaf))) rfl (fun i_1 x_1 s1 hx1 hl1 hm1 => Imp.brT (T_lt (ks := kAddr) (g := TAddr.row) hl1) ?_) (fun s1 => brN (T_irr (ks := kAddr) (g := TAddr.row) l) rfl) (fun r10 => ?_)
  · refine Imp.idxFor (ks := kAddr) (g := TAddr.row) hx1 ?_
    refine Imp.call rfl (ei_sHasAddr s1 x_1 _) (fun r3 _ => ?_)
    refine Imp.br rfl ?_ ?_
    · exact Imp.ret (c1 (fun (h1 : Int) => (some (Sum.inl [.l (rows kAddr TAddr.row l), .l (rows kAddr TAddr.row s1), .i h1]) : Option (List Leaf ⊕ (Nat × List Leaf)))) (wrapJ hl1))
    · refine Imp.while (enc := fun (s4 : Int) => [.l (rows kAddr TAddr.row l), .l (rows kAddr TAddr.row s1), .i (i_1 : Int), .i s4]) (encR := fun (u : Int) => (((0, [.l (rows kAddr TAddr.row l), .l (rows kAddr TAddr.row s1), .i (i_1 : Int), .i u]) : Nat × List Leaf))) (c1 (fun (h1 : Int) => ([.l (rows kAddr TAddr.row l), .l (rows kAddr TAddr.row s1), .i (i_1 : Int), .i h1] : List Leaf)) (c1 (fun z0 : Nat => (z0 : Int)) (T_len (ks := kAddr) (g := TAddr.row) s1))) (fun s4 => ?_) (fun r8 => ?_)
      · refine Imp.br rfl ?_ ?_
        · refine Imp.idxFor (ks := kAddr) (g := TAddr.row) hx1 ?_
          refine Imp.chk (c1 (fun z0 : Nat => 0 ≤ IntKind.wrap .i64 (s4 - 1) ∧ (IntKind.wrap .i64 (s4 - 1)).toNat < z0) (T_len (ks := kAddr) (g := TAddr.row) s1)) (fun _ => ?_)
          refine Imp.idxAt (ks := kAddr) (g := TAddr.row) rfl rfl (fun e6 => rfl) (fun e6 _ => ?_)
          refine Imp.call rfl (ei_sCompareAddrs x_1 e6 _) (fun r7 _ => ?_)
          refine Imp.br rfl ?_ ?_
          · exact Imp.ret rfl
          · exact Imp.ret rfl
        · exact Imp.ret rfl
      · refine Imp.chk (c1 (fun z0 : Nat => 0 ≤ (0 : Int) ∧ (0 : Int) ≤ r8 ∧ r8 ≤ (z0 : Int)) (T_len (ks := kAddr) (g := TAddr.row) s1)) (fun _ => ?_)
        refine Imp.chk (c2 (fun z0 z1 : Nat => (0 + z0) * 32 ≤ 140737488355328 ∧ 0 + z1 ≤ 140737488355328) ((c1 (fun u : List V => u.length) (T_cut (ks := kAddr) (g := TAddr.row) s1 (r8.toNat) 0)).trans (T_len (ks := kAddr) (g := TAddr.row) ((s1.take (r8.toNat)).drop 0))) ((c1 (fun u : List V => u.length) (T_cut (ks := kAddr) (g := TAddr.row) s1 (r8.toNat) 0)).trans (T_len (ks := kAddr) (g := TAddr.row) ((s1.take (r8.toNat)).drop 0)))) (fun _ => ?_)
        refine Imp.idxFor (ks := kAddr) (g := TAddr.row) hx1 ?_
        refine Imp.chk (c2 (fun z0 z1 : Nat => (z0 + 1) * 32 ≤ 140737488355328 ∧ z1 + 1 ≤ 140737488355328) ((c1 (fun u : List V => u.length) ((c2 (fun u v : List V => u ++ v) rfl (T_cut (ks := kAddr) (g := TAddr.row) s1 (r8.toNat) 0)).trans (T_app (ks := kAddr) (g := TAddr.row) [] ((s1.take (r8.toNat)).drop 0)))).trans (T_len (ks := kAddr) (g := TAddr.row) ([] ++ ((s1.take (r8.toNat)).drop 0)))) ((c1 (fun u : List V => u.length) ((c2 (fun u v : List V => u ++ v) rfl (T_cut (ks := kAddr) (g := TAddr.row) s1 (r8.toNat) 0)).trans (T_app (ks := kAddr) (g := TAddr.row) [] ((s1.take (r8.toNat)).drop 0)))).trans (T_len (ks := kAddr) (g := TAddr.row) ([] ++ ((s1.take (r8.toNat)).drop 0))))) (fun _ => ?_)
        refine Imp.chk (c3 (fun z0 z1 z2 : Nat => 0 ≤ r8 ∧ r8 ≤ (z0 : Int) ∧ (z1 : Int) ≤ (z2 : Int)) (T_len (ks := kAddr) (g := TAddr.row) s1) (T_len (ks := kAddr) (g := TAddr.row) s1) (T_len (ks := kAddr) (g := TAddr.row) s1)) (fun _ => ?_)
        refine Imp.chk (c4 (fun z0 z1 z2 z3 : Nat => (z0 + z1) * 32 ≤ 140737488355328 ∧ z2 + z3 ≤ 140737488355328) ((c1 (fun u : List V => u.length) ((c2 (fun u v : List V => u ++ v) ((c2 (fun u v : List V => u ++ v) rfl (T_cut (ks := kAddr) (g := TAddr.row) s1 (r8.toNat) 0)).trans (T_app (ks := kAddr) (g := TAddr.row) [] ((s1.take (r8.toNat)).drop 0))) rfl).trans (T_app (ks := kAddr) (g := TAddr.row) ([] ++ ((s1.take (r8.toNat)).drop 0)) [x_1]))).trans (T_len (ks := kAddr) (g := TAddr.row) (([] ++ ((s1.take (r8.toNat)).drop 0)) ++ [x_1]))) ((c1 (fun u : List V => u.length) ((c3 (fun (u : List V) (a b : Nat) => (u.take a).drop b) rfl (c1 (fun z0 : Nat => ((z0 : Int).toNat)) (T_len (ks := kAddr) (g := TAddr.row) s1)) rfl).trans (T_cut (ks := kAddr) (g := TAddr.row) s1 ((s1.length : Int).toNat) (r8.toNat)))).trans (T_len (ks := kAddr) (g := TAddr.row) ((s1.take ((s1.length : Int).toNat)).drop (r8.toNat)))) ((c1 (fun u : List V => u.length) ((c2 (fun u v : List V => u ++ v) ((c2 (fun u v : List V => u ++ v) rfl (T_cut (ks := kAddr) (g := TAddr.row) s1 (r8.toNat) 0)).trans (T_app (ks := kAddr) (g := TAddr.row) [] ((s1.take (r8.toNat)).drop 0))) rfl).trans (T_app (ks := kAddr) (g := TAddr.row) ([] ++ ((s1.take (r8.toNat)).drop 0)) [x_1]))).trans (T_len (ks := kAddr) (g := TAddr.row) (([] ++ ((s1.take (r8.toNat)).drop 0)) ++ [x_1]))) ((c1 (fun u : List V => u.length) ((c3 (fun (u : List V) (a b : Nat) => (u.take a).drop b) rfl (c1 (fun z0 : Nat => ((z0 : Int).toNat)) (T_len (ks := kAddr) (g := TAddr.row) s1)) rfl).trans (T_cut (ks := kAddr) (g := TAddr.row) s1 ((s1.length : Int).toNat) (r8.toNat)))).trans (T_len (ks := kAddr) (g := TAddr.row) ((s1.take ((s1.length : Int).toNat)).drop (r8.toNat))))) (fun _ => ?_)
        exact Imp.ret (c2 (fun (h1 : List V) (h2 : Int) => (some (Sum.inl [.l (rows kAddr TAddr.row l), .l h1, .i h2]) : Option (List Leaf ⊕ (Nat × List Leaf)))) ((c2 (fun u v : List V => u ++ v) ((c2 (fun u v : List V => u ++ v) ((c2 (fun u v : List V => u ++ v) rfl (T_cut (ks := kAddr) (g := TAddr.row) s1 (r8.toNat) 0)).trans (T_app (ks := kAddr) (g := TAddr.row) [] ((s1.take (r8.toNat)).drop 0))) rfl).trans (T_app (ks := kAddr) (g := TAddr.row) ([] ++ ((s1.take (r8.toNat)).drop 0)) [x_1])) ((c3 (fun (u : List V) (a b : Nat) => (u.take a).drop b) rfl (c1 (fun z0 : Nat => ((z0 : Int).toNat)) (T_len (ks := kAddr) (g := TAddr.row) s1)) rfl).trans (T_cut (ks := kAddr) (g := TAddr.row) s1 ((s1.length : Int).toNat) (r8.toNat)))).trans (T_app (ks := kAddr) (g := TAddr.row) (([] ++ ((s1.take (r8.toNat)).drop 0)) ++ [x_1]) ((s1.take ((s1.length : Int).toNat)).drop (r8.toNat)))) (wrapJ hl1))
  · exact Imp.ret rfl

/-- spec.CrossLearned -/
noncomputable def sCrossLearned (n : TNet) (host : List UInt8) : Option (List TAddr) :=
  (sSentTo n host).bind fun (r1 : List TSent) =>
  (forE r1 (fun (i_2 : Nat) (x_2 : TSent) (s2 : List TAddr) => (
    br (!(x_2.xTop == host)) (
      chk ((s2.length + 1) * 32 ≤ 140737488355328 ∧ s2.length + 1 ≤ 140737488355328) <|
      some (.inl (s2 ++ [x_2.xTo]))
    ) (
      some (.inl s2)
    )
  : Option ((List TAddr) ⊕ (List TAddr)))) (fun (s2 : List TAddr) => (s2 : List TAddr)) ([] : List TAddr)).bind <|
  fun (r5 : List TAddr) =>
  (sSortAddrs r5).bind fun (r6 : List TAddr) =>
  some r6
theorem ei_sCrossLearned (n : TNet) (host : List UInt8) (k : List V → Option β) : Imp (F15 β (rows kServer TServer.row n.xServers) (rows kEntry TEntry.row n.xCache.xEntries) (rows kSent TSent.row n.xLog) n.xNow host k) (sCrossLearned n host) (fun r => k (rows kAddr TAddr.row r)) := by
  delta F15 P15 sCrossLearned
  refine Imp.call rfl (ei_sSentTo n host _) (fun r1 _ => ?_)
  refine Imp.for (enc := fun (i_2 : Nat) (s2 : List TAddr) => [.s host, .l (rows kAddr TAddr.row s2), .l (rows kSent TSent.row r1), .i (i_2 : Int)]) (encR := fun (u : List TAddr) => (((0, [.l (rows kAddr TAddr.row u)]) : Nat × List Leaf))) rfl (fun i_2 x_2 s2 hx2 hl2 hm2 => Imp.brT (T_lt (ks := kSent) (g := TSent.row) hl2) ?_) (fun s2 => brN (T_irr (ks := kSent) (g := TSent.row) r1) rfl) (fun r5 => ?_)
  · refine Imp.chkE ⟨Int.natCast_nonneg _, Nat.lt_of_lt_of_eq hl2 (T_len (ks := kSent) (g := TSent.row) r1).symm⟩ ?_
    refine Imp.idxAtFor (ks := kSent) (g := TSent.row) hx2 rfl ?_
    refine Imp.br rfl ?_ ?_
    · refine Imp.chkE ⟨Int.natCast_nonneg _, Nat.lt_of_lt_of_eq hl2 (T_len (ks := kSent) (g := TSent.row) r1).symm⟩ ?_
      refine Imp.idxAtFor (ks := kSent) (g := TSent.row) hx2 rfl ?_
      refine Imp.chk (c2 (fun z0 z1 : Nat => (z0 + 1) * 32 ≤ 140737488355328 ∧ z1 + 1 ≤ 140737488355328) (T_len (ks := kAddr) (g := TAddr.row) s2) (T_len (ks := kAddr) (g := TAddr.row) s2)) (fun _ => ?_)
      exact Imp.ret (c2 (fun (h1 : List V) (h2 : Int) => (some (Sum.inl [.s host, .l h1, .l (rows kSent TSent.row r1), .i h2]) : Option (List Leaf ⊕ (Nat × List Leaf)))) (T_app (ks := kAddr) (g := TAddr.row) s2 [x_2.xTo]) (wrapJ hl2))
    · exact Imp.ret (c1 (fun (h1 : Int) => (some (Sum.inl [.s host, .l (rows kAddr TAddr.row s2), .l (rows kSent TSent.row r1), .i h1]) : Option (List Leaf ⊕ (Nat × List Leaf)))) (wrapJ hl2))
  · refine Imp.call rfl (ei_sSortAddrs r5 _) (fun r6 _ => ?_)
    exact Imp.ret rfl

/-- spec.l1In -/
noncomputable def sl1In (x : Int) (least : Int) (most : Int) : Option Bool :=
  br (decide (x ≥ least)) (
    some (decide (x ≤ most))
  ) (
    some false
  )
theorem ei_sl1In (x : Int) (least : Int) (most : Int) (k : Bool → Option β) : Imp (F77 β x least most k) (sl1In x least most) (fun r => k r) := by
  delta F77 P77 sl1In
  refine Imp.br rfl ?_ ?_
  · exact Imp.ret rfl
  · exact Imp.ret rfl

/-- spec.IsName -/
noncomputable def sIsName (s : List UInt8) : Option Bool :=
  (forE s (fun (i_1 : Nat) (x_1 : UInt8) (s1 : Unit) => (
    br (decide ((x_1.toNat : Int) < 97)) (
      some (.inr (.inl ()))
    ) (
      br (decide ((x_1.toNat : Int) > 122)) (
        some (.inr (.inl ()))
      ) (
        some (.inl ())
      )
    )
  : Option (Unit ⊕ (Unit ⊕ Unit)))) (fun (s1 : Unit) => (.inr () : Unit ⊕ Unit)) (() : Unit)).bind <|
  Sum.elim
    (fun (r4 : Unit) =>
      some false
    )
    (fun (r4 : Unit) =>
      (sl1In (s.length : Int) 1 8).bind fun (r5 : Bool) =>
      some r5
    )
theorem ei_sIsName (s : List UInt8) (k : Bool → Option β) : Imp (F59 β s k) (sIsName s) (fun r => k r) := by
  delta F59 P59 sIsName
  refine Imp.for (enc := fun (i_1 : Nat) (s1 : Unit) => [.s s, .i (i_1 : Int)]) (encR := Sum.elim (fun (u : Unit) => (((0, [.s s, .b false]) : Nat × List Leaf))) (fun (u : Unit) => (((1, [.s s]) : Nat × List Leaf)))) rfl (fun i_1 x_1 s1 hx1 hl1 hm1 => Imp.brT (Int.ofNat_lt.2 hl1) ?_) (fun s1 => brN (Int.lt_irrefl _) rfl) (fun r4 => ?_)
  · refine Imp.idxSFor hx1 ?_
    refine Imp.br rfl ?_ ?_
    · exact Imp.ret rfl
    · refine Imp.idxSFor hx1 ?_
      refine Imp.br rfl ?_ ?_
      · exact Imp.ret rfl
      · exact Imp.ret (c1 (fun (h1 : Int) => (some (Sum.inl [.s s, .i h1]) : Option (List Leaf ⊕ (Nat × List Leaf)))) (wrapJ hl1))
  · cases r4 with
    | inl r4 =>
      refine Imp.ifT rfl ?_
      exact Imp.ret rfl
    | inr r4 =>
      refine Imp.ifF (show ¬ ((1 : Nat) = 0) by decide) ?_
      refine Imp.call rfl (ei_sl1In (s.length : Int) 1 8 _) (fun r5 _ => ?_)
      exact Imp.ret rfl

/-- spec.IsAddr -/
noncomputable def sIsAddr (a : TAddr) : Option Bool :=
  (sIsName a.xHost).bind fun (r1 : Bool) =>
  br r1 (
    (sIsName a.xPath).bind fun (r2 : Bool) =>
    some r2
  ) (
    some false
  )
theorem ei_sIsAddr (a : TAddr) (k : Bool → Option β) : Imp (F39 β a.xHost a.xPath k) (sIsAddr a) (fun r => k r) := by
  delta F39 P39 sIsAddr
  refine Imp.call rfl (ei_sIsName a.xHost _) (fun r1 _ => ?_)
  refine Imp.br rfl ?_ ?_
  · refine Imp.call rfl (ei_sIsName a.xPath _) (fun r2 _ => ?_)
    exact Imp.ret rfl
  · exact Imp.ret rfl

/-- spec.FormatAddr -/
noncomputable def sFormatAddr (a : TAddr) : Option (List UInt8) :=
  (sIsAddr a).bind fun (r1 : Bool) =>
  br (!r1) (
    some []
  ) (
    chk (a.xHost.length + 1 ≤ 9223372036854775807) <|
    chk ((a.xHost ++ [47]).length + a.xPath.length ≤ 9223372036854775807) <|
    some ((a.xHost ++ [47]) ++ a.xPath)
  )
theorem ei_sFormatAddr (a : TAddr) (k : List UInt8 → Option β) : Imp (F16 β a.xHost a.xPath k) (sFormatAddr a) (fun r => k r) := by
  delta F16 P16 sFormatAddr
  refine Imp.call rfl (ei_sIsAddr a _) (fun r1 _ => ?_)
  refine Imp.br rfl ?_ ?_
  · exact Imp.ret rfl
  · refine Imp.chk rfl (fun _ => ?_)
    refine Imp.chk rfl (fun _ => ?_)
    exact Imp.ret rfl

/-- spec.ViewText -/
noncomputable def sViewText (n : TNet) (host : List UInt8) : Option (List UInt8) :=
  (sCrossLearned n host).bind fun (r1 : List TAddr) =>
  br ((r1.length : Int) == 0) (
    some [45]
  ) (
    (forE r1 (fun (i_2 : Nat) (x_2 : TAddr) (s2 : List UInt8) => (
      br (decide ((i_2 : Int) > 0)) (
        chk (s2.length + 1 ≤ 9223372036854775807) <|
        (sFormatAddr x_2).bind fun (r4 : List UInt8) =>
        chk ((s2 ++ [32]).length + r4.length ≤ 9223372036854775807) <|
        some (.inl ((s2 ++ [32]) ++ r4))
      ) (
        (sFormatAddr x_2).bind fun (r6 : List UInt8) =>
        chk (s2.length + r6.length ≤ 9223372036854775807) <|
        some (.inl (s2 ++ r6))
      )
    : Option ((List UInt8) ⊕ (List UInt8)))) (fun (s2 : List UInt8) => (s2 : List UInt8)) ([] : List UInt8)).bind <|
    fun (r7 : List UInt8) =>
    some r7
  )
theorem ei_sViewText (n : TNet) (host : List UInt8) (k : List UInt8 → Option β) : Imp (F6 β (rows kServer TServer.row n.xServers) (rows kEntry TEntry.row n.xCache.xEntries) (rows kSent TSent.row n.xLog) n.xNow host k) (sViewText n host) (fun r => k r) := by
  delta F6 P6 sViewText
  refine Imp.call rfl (ei_sCrossLearned n host _) (fun r1 _ => ?_)
  refine Imp.br (c1 (fun z0 : Nat => ((z0 : Int) == 0)) (T_len (ks := kAddr) (g := TAddr.row) r1)) ?_ ?_
  · exact Imp.ret rfl
  · refine Imp.for (enc := fun (i_2 : Nat) (s2 : List UInt8) => [.l (rows kAddr TAddr.row r1), .s s2, .i (i_2 : Int)]) (encR := fun (u : List UInt8) => (((0, [.s u]) : Nat × List Leaf))) rfl (fun i_2 x_2 s2 hx2 hl2 hm2 => Imp.brT (T_lt (ks := kAddr) (g := TAddr.row) hl2) ?_) (fun s2 => brN (T_irr (ks := kAddr) (g := TAddr.row) r1) rfl) (fun r7 => ?_)
    · refine Imp.br rfl ?_ ?_
      · refine Imp.chk rfl (fun _ => ?_)
        refine Imp.chkE ⟨Int.natCast_nonneg _, Nat.lt_of_lt_of_eq hl2 (T_len (ks := kAddr) (g := TAddr.row) r1).symm⟩ ?_
        refine Imp.idxAtFor (ks := kAddr) (g := TAddr.row) hx2 rfl ?_
        refine Imp.call rfl (ei_sFormatAddr x_2 _) (fun r4 _ => ?_)
        refine Imp.chk rfl (fun _ => ?_)
        exact Imp.ret (c1 (fun (h1 : Int) => (some (Sum.inl [.l (rows kAddr TAddr.row r1), .s ((s2 ++ [32]) ++ r4), .i h1]) : Option (List Leaf ⊕ (Nat × List Leaf)))) (wrapJ hl2))
      · refine Imp.chkE ⟨Int.natCast_nonneg _, Nat.lt_of_lt_of_eq hl2 (T_len (ks := kAddr) (g := TAddr.row) r1).symm⟩ ?_
        refine Imp.idxAtFor (ks := kAddr) (g := TAddr.row) hx2 rfl ?_
        refine Imp.call rfl (ei_sFormatAddr x_2 _) (fun r6 _ => ?_)
        refine Imp.chk rfl (fun _ => ?_)
        exact Imp.ret (c1 (fun (h1 : Int) => (some (Sum.inl [.l (rows kAddr TAddr.row r1), .s (s2 ++ r6), .i h1]) : Option (List Leaf ⊕ (Nat × List Leaf)))) (wrapJ hl2))
    · exact Imp.ret rfl

/-- impl.SentTo -/
noncomputable def iSentTo (n : TNet) (host : List UInt8) : Option (List TSent) :=
  (forE n.xLog (fun (i_1 : Nat) (x_1 : TSent) (s1 : List TSent) => (
    br (x_1.xTo.xHost == host) (
      chk ((s1.length + 1) * 56 ≤ 140737488355328 ∧ s1.length + 1 ≤ 140737488355328) <|
      some (.inl (s1 ++ [x_1]))
    ) (
      some (.inl s1)
    )
  : Option ((List TSent) ⊕ (List TSent)))) (fun (s1 : List TSent) => (s1 : List TSent)) ([] : List TSent)).bind <|
  fun (r3 : List TSent) =>
  some r3
theorem ei_iSentTo (n : TNet) (host : List UInt8) (k : List V → Option β) : Imp (F43 β (rows kServer TServer.row n.xServers) (rows kEntry TEntry.row n.xCache.xEntries) (rows kSent TSent.row n.xLog) n.xNow host k) (iSentTo n host) (fun r => k (rows kSent TSent.row r)) := by
  delta F43 P43 iSentTo
  refine Imp.for (enc := fun (i_1 : Nat) (s1 : List TSent) => [.s host, .l (rows kSent TSent.row s1), .l (rows kSent TSent.row n.xLog), .i (n.xLog.length : Int), .i (i_1 : Int)]) (encR := fun (u : List TSent) => (((0, [.l (rows kSent TSent.row u)]) : Nat × List Leaf))) (c1 (fun (h1 : Int) => ([.s host, .l (rows kSent TSent.row []), .l (rows kSent TSent.row n.xLog), .i h1, .i 0] : List Leaf)) (c1 (fun z0 : Nat => (z0 : Int)) (T_len (ks := kSent) (g := TSent.row) n.xLog))) (fun i_1 x_1 s1 hx1 hl1 hm1 => Imp.brT (Int.ofNat_lt.2 hl1) ?_) (fun s1 => brN (Int.lt_irrefl _) rfl) (fun r3 => ?_)
  · refine Imp.idxFor (ks := kSent) (g := TSent.row) hx1 ?_
    refine Imp.br rfl ?_ ?_
    · refine Imp.chk (c2 (fun z0 z1 : Nat => (z0 + 1) * 56 ≤ 140737488355328 ∧ z1 + 1 ≤ 140737488355328) (T_len (ks := kSent) (g := TSent.row) s1) (T_len (ks := kSent) (g := TSent.row) s1)) (fun _ => ?_)
      exact Imp.ret (c2 (fun (h1 : List V) (h2 : Int) => (some (Sum.inl [.s host, .l h1, .l (rows kSent TSent.row n.xLog), .i (n.xLog.length : Int), .i h2]) : Option (List Leaf ⊕ (Nat × List Leaf)))) (T_app (ks := kSent) (g := TSent.row) s1 [x_1]) (wrapJ hl1))
    · exact Imp.ret (c1 (fun (h1 : Int) => (some (Sum.inl [.s host, .l (rows kSent TSent.row s1), .l (rows kSent TSent.row n.xLog), .i (n.xLog.length : Int), .i h1]) : Option (List Leaf ⊕ (Nat × List Leaf)))) (wrapJ hl1))
  · exact Imp.ret rfl

/-- loop.example/g00586/impl.SortAddrs -/
noncomputable def iSortAddrs (a0 : List TAddr) : Option (List TAddr) := sortPrE (fun (a : TAddr) => (a.xHost, a.xPath)) (fun p => (⟨p.1, p.2⟩ : TAddr)) a0
theorem ei_iSortAddrs (a0 : List TAddr) (k : List V → Option β) : Imp (F44 β (rows kAddr TAddr.row a0) k) (iSortAddrs a0) (fun r => k (rows kAddr TAddr.row r)) := ei_sortPrE (fun (a : TAddr) => (a.xHost, a.xPath)) (fun p => (⟨p.1, p.2⟩ : TAddr)) (fun _ => rfl) (fun _ => rfl) a0 k

/-- impl.CrossLearned -/
noncomputable def iCrossLearned (n : TNet) (host : List UInt8) : Option (List TAddr) :=
  (iSentTo n host).bind fun (r1 : List TSent) =>
  (forE r1 (fun (i_2 : Nat) (x_2 : TSent) (s2 : List TAddr) => (
    br (!(x_2.xTop == host)) (
      chk ((s2.length + 1) * 32 ≤ 140737488355328 ∧ s2.length + 1 ≤ 140737488355328) <|
      some (.inl (s2 ++ [x_2.xTo]))
    ) (
      some (.inl s2)
    )
  : Option ((List TAddr) ⊕ (List TAddr)))) (fun (s2 : List TAddr) => (s2 : List TAddr)) ([] : List TAddr)).bind <|
  fun (r4 : List TAddr) =>
  (iSortAddrs r4).bind fun (r5 : List TAddr) =>
  some r5
theorem ei_iCrossLearned (n : TNet) (host : List UInt8) (k : List V → Option β) : Imp (F20 β (rows kServer TServer.row n.xServers) (rows kEntry TEntry.row n.xCache.xEntries) (rows kSent TSent.row n.xLog) n.xNow host k) (iCrossLearned n host) (fun r => k (rows kAddr TAddr.row r)) := by
  delta F20 P20 iCrossLearned
  refine Imp.call rfl (ei_iSentTo n host _) (fun r1 _ => ?_)
  refine Imp.for (enc := fun (i_2 : Nat) (s2 : List TAddr) => [.s host, .l (rows kAddr TAddr.row s2), .l (rows kSent TSent.row r1), .i (r1.length : Int), .i (i_2 : Int)]) (encR := fun (u : List TAddr) => (((0, [.l (rows kAddr TAddr.row u)]) : Nat × List Leaf))) (c1 (fun (h1 : Int) => ([.s host, .l (rows kAddr TAddr.row []), .l (rows kSent TSent.row r1), .i h1, .i 0] : List Leaf)) (c1 (fun z0 : Nat => (z0 : Int)) (T_len (ks := kSent) (g := TSent.row) r1))) (fun i_2 x_2 s2 hx2 hl2 hm2 => Imp.brT (Int.ofNat_lt.2 hl2) ?_) (fun s2 => brN (Int.lt_irrefl _) rfl) (fun r4 => ?_)
  · refine Imp.chkE ⟨Int.natCast_nonneg _, Nat.lt_of_lt_of_eq hl2 (T_len (ks := kSent) (g := TSent.row) r1).symm⟩ ?_
    refine Imp.idxAtFor (ks := kSent) (g := TSent.row) hx2 rfl ?_
    refine Imp.br rfl ?_ ?_
    · refine Imp.chk (c2 (fun z0 z1 : Nat => (z0 + 1) * 32 ≤ 140737488355328 ∧ z1 + 1 ≤ 140737488355328) (T_len (ks := kAddr) (g := TAddr.row) s2) (T_len (ks := kAddr) (g := TAddr.row) s2)) (fun _ => ?_)
      exact Imp.ret (c2 (fun (h1 : List V) (h2 : Int) => (some (Sum.inl [.s host, .l h1, .l (rows kSent TSent.row r1), .i (r1.length : Int), .i h2]) : Option (List Leaf ⊕ (Nat × List Leaf)))) (T_app (ks := kAddr) (g := TAddr.row) s2 [x_2.xTo]) (wrapJ hl2))
    · exact Imp.ret (c1 (fun (h1 : Int) => (some (Sum.inl [.s host, .l (rows kAddr TAddr.row s2), .l (rows kSent TSent.row r1), .i (r1.length : Int), .i h1]) : Option (List Leaf ⊕ (Nat × List Leaf)))) (wrapJ hl2))
  · refine Imp.call rfl (ei_iSortAddrs r4 _) (fun r5 _ => ?_)
    exact Imp.ret rfl

/-- impl.InRange -/
noncomputable def iInRange (n : Int) (low : Int) (high : Int) : Option Bool :=
  br (decide (low ≤ n)) (
    some (decide (n ≤ high))
  ) (
    some false
  )
theorem ei_iInRange (n : Int) (low : Int) (high : Int) (k : Bool → Option β) : Imp (F82 β n low high k) (iInRange n low high) (fun r => k r) := by
  delta F82 P82 iInRange
  refine Imp.br rfl ?_ ?_
  · exact Imp.ret rfl
  · exact Imp.ret rfl

/-- impl.IsName -/
noncomputable def iIsName (s : List UInt8) : Option Bool :=
  (forE s (fun (i_1 : Nat) (x_1 : UInt8) (s1 : Unit) => (
    br (decide ((x_1.toNat : Int) < 97)) (
      some (.inr (.inl ()))
    ) (
      br (decide ((x_1.toNat : Int) > 122)) (
        some (.inr (.inl ()))
      ) (
        some (.inl ())
      )
    )
  : Option (Unit ⊕ (Unit ⊕ Unit)))) (fun (s1 : Unit) => (.inr () : Unit ⊕ Unit)) (() : Unit)).bind <|
  Sum.elim
    (fun (r4 : Unit) =>
      some false
    )
    (fun (r4 : Unit) =>
      (iInRange (s.length : Int) 1 8).bind fun (r5 : Bool) =>
      some r5
    )
theorem ei_iIsName (s : List UInt8) (k : Bool → Option β) : Imp (F66 β s k) (iIsName s) (fun r => k r) := by
  delta F66 P66 iIsName
  refine Imp.for (enc := fun (i_1 : Nat) (s1 : Unit) => [.s s, .i (i_1 : Int)]) (encR := Sum.elim (fun (u : Unit) => (((0, [.s s, .b false]) : Nat × List Leaf))) (fun (u : Unit) => (((1, [.s s]) : Nat × List Leaf)))) rfl (fun i_1 x_1 s1 hx1 hl1 hm1 => Imp.brT (Int.ofNat_lt.2 hl1) ?_) (fun s1 => brN (Int.lt_irrefl _) rfl) (fun r4 => ?_)
  · refine Imp.idxSFor hx1 ?_
    refine Imp.br rfl ?_ ?_
    · exact Imp.ret rfl
    · refine Imp.idxSFor hx1 ?_
      refine Imp.br rfl ?_ ?_
      · exact Imp.ret rfl
      · exact Imp.ret (c1 (fun (h1 : Int) => (some (Sum.inl [.s s, .i h1]) : Option (List Leaf ⊕ (Nat × List Leaf)))) (wrapJ hl1))
  · cases r4 with
    | inl r4 =>
      refine Imp.ifT rfl ?_
      exact Imp.ret rfl
    | inr r4 =>
      refine Imp.ifF (show ¬ ((1 : Nat) = 0) by decide) ?_
      refine Imp.call rfl (ei_iInRange (s.length : Int) 1 8 _) (fun r5 _ => ?_)
      exact Imp.ret rfl

/-- impl.IsAddr -/
noncomputable def iIsAddr (a : TAddr) : Option Bool :=
  (iIsName a.xHost).bind fun (r1 : Bool) =>
  br r1 (
    (iIsName a.xPath).bind fun (r2 : Bool) =>
    some r2
  ) (
    some false
  )
theorem ei_iIsAddr (a : TAddr) (k : Bool → Option β) : Imp (F45 β a.xHost a.xPath k) (iIsAddr a) (fun r => k r) := by
  delta F45 P45 iIsAddr
  refine Imp.call rfl (ei_iIsName a.xHost _) (fun r1 _ => ?_)
  refine Imp.br rfl ?_ ?_
  · refine Imp.call rfl (ei_iIsName a.xPath _) (fun r2 _ => ?_)
    exact Imp.ret rfl
  · exact Imp.ret rfl

/-- impl.FormatAddr -/
noncomputable def iFormatAddr (a : TAddr) : Option (List UInt8) :=
  (iIsAddr a).bind fun (r1 : Bool) =>
  br (!r1) (
    some []
  ) (
    chk (a.xHost.length + 1 ≤ 9223372036854775807) <|
    chk ((a.xHost ++ [47]).length + a.xPath.length ≤ 9223372036854775807) <|
    some ((a.xHost ++ [47]) ++ a.xPath)
  )
theorem ei_iFormatAddr (a : TAddr) (k : List UInt8 → Option β) : Imp (F21 β a.xHost a.xPath k) (iFormatAddr a) (fun r => k r) := by
  delta F21 P21 iFormatAddr
  refine Imp.call rfl (ei_iIsAddr a _) (fun r1 _ => ?_)
  refine Imp.br rfl ?_ ?_
  · exact Imp.ret rfl
  · refine Imp.chk rfl (fun _ => ?_)
    refine Imp.chk rfl (fun _ => ?_)
    exact Imp.ret rfl

/-- strings.Join -/
noncomputable def g_strings_Join (a0 : List (List UInt8)) (a1 : List UInt8) : Option (List UInt8) := joinE a0 a1
theorem ei_g_strings_Join (a0 : List (List UInt8)) (a1 : List UInt8) (k : List UInt8 → Option β) : Imp (F22 β (rStr a0) a1 k) (g_strings_Join a0 a1) (fun r => k r) := ei_joinE a0 a1 k

/-- impl.ViewText -/
noncomputable def iViewText (n : TNet) (host : List UInt8) : Option (List UInt8) :=
  (iCrossLearned n host).bind fun (r1 : List TAddr) =>
  (forE r1 (fun (i_2 : Nat) (x_2 : TAddr) (s2 : List (List UInt8)) => (
    (iFormatAddr x_2).bind fun (r4 : List UInt8) =>
    chk ((s2.length + 1) * 16 ≤ 140737488355328 ∧ s2.length + 1 ≤ 140737488355328) <|
    some (.inl (s2 ++ [r4]))
  : Option ((List (List UInt8)) ⊕ (List (List UInt8))))) (fun (s2 : List (List UInt8)) => (s2 : List (List UInt8))) ([] : List (List UInt8))).bind <|
  fun (r5 : List (List UInt8)) =>
  br ((r5.length : Int) == 0) (
    some [45]
  ) (
    (g_strings_Join r5 [32]).bind fun (r6 : List UInt8) =>
    some r6
  )
theorem ei_iViewText (n : TNet) (host : List UInt8) (k : List UInt8 → Option β) : Imp (F8 β (rows kServer TServer.row n.xServers) (rows kEntry TEntry.row n.xCache.xEntries) (rows kSent TSent.row n.xLog) n.xNow host k) (iViewText n host) (fun r => k r) := by
  delta F8 P8 iViewText
  refine Imp.call rfl (ei_iCrossLearned n host _) (fun r1 _ => ?_)
  refine Imp.for (enc := fun (i_2 : Nat) (s2 : List (List UInt8)) => [.l (rStr s2), .l (rows kAddr TAddr.row r1), .i (r1.length : Int), .i (i_2 : Int)]) (encR := fun (u : List (List UInt8)) => (((0, [.l (rStr u)]) : Nat × List Leaf))) (c1 (fun (h1 : Int) => ([.l (rStr []), .l (rows kAddr TAddr.row r1), .i h1, .i 0] : List Leaf)) (c1 (fun z0 : Nat => (z0 : Int)) (T_len (ks := kAddr) (g := TAddr.row) r1))) (fun i_2 x_2 s2 hx2 hl2 hm2 => Imp.brT (Int.ofNat_lt.2 hl2) ?_) (fun s2 => brN (Int.lt_irrefl _) rfl) (fun r5 => ?_)
  · refine Imp.chkE ⟨Int.natCast_nonneg _, Nat.lt_of_lt_of_eq hl2 (T_len (ks := kAddr) (g := TAddr.row) r1).symm⟩ ?_
    refine Imp.idxAtFor (ks := kAddr) (g := TAddr.row) hx2 rfl ?_
    refine Imp.call rfl (ei_iFormatAddr x_2 _) (fun r4 _ => ?_)
    refine Imp.chk (c2 (fun z0 z1 : Nat => (z0 + 1) * 16 ≤ 140737488355328 ∧ z1 + 1 ≤ 140737488355328) (U_len (kd := .str) (g1 := fun e => e) s2) (U_len (kd := .str) (g1 := fun e => e) s2)) (fun _ => ?_)
    exact Imp.ret (c2 (fun (h1 : List V) (h2 : Int) => (some (Sum.inl [.l h1, .l (rows kAddr TAddr.row r1), .i (r1.length : Int), .i h2]) : Option (List Leaf ⊕ (Nat × List Leaf)))) (U_app (kd := .str) (g1 := fun e => e) s2 [r4]) (wrapJ hl2))
  · refine Imp.br (c1 (fun z0 : Nat => ((z0 : Int) == 0)) (U_len (kd := .str) (g1 := fun e => e) r5)) ?_ ?_
    · exact Imp.ret rfl
    · refine Imp.call rfl (ei_g_strings_Join r5 [32] _) (fun r6 _ => ?_)
      exact Imp.ret rfl

/-- laws.FnExactViewText -/
noncomputable def lFnExactViewText (aN : TNet) (aHost : List UInt8) : Option Bool :=
  br (decide ((aHost.length : Int) > 1048576)) (
    some true
  ) (
    (lszNet aN 1048576).bind fun (r1 : Int) =>
    br (decide (r1 < 0)) (
      some true
    ) (
      (ltoNet aN).bind fun (r2 : TNet) =>
      (sViewText r2 aHost).bind fun (r6 : List UInt8) =>
      (ltoNet aN).bind fun (r7 : TNet) =>
      (iViewText r7 aHost).bind fun (r11 : List UInt8) =>
      br (!(r11 == r6)) (
        some false
      ) (
        (ltoNet aN).bind fun (r12 : TNet) =>
        (leqNet r7 r12).bind fun (r16 : Bool) =>
        br (!r16) (
          some false
        ) (
          some true
        )
      )
    )
  )
theorem ei_lFnExactViewText (aN : TNet) (aHost : List UInt8) (k : Bool → Option β) : Imp (F3 β (rows kServer TServer.row aN.xServers) (rows kEntry TEntry.row aN.xCache.xEntries) (rows kSent TSent.row aN.xLog) aN.xNow aHost k) (lFnExactViewText aN aHost) (fun r => k r) := by
  delta F3 P3 lFnExactViewText
  refine Imp.br rfl ?_ ?_
  · exact Imp.ret rfl
  · refine Imp.call rfl (ei_lszNet aN 1048576 _) (fun r1 _ => ?_)
    refine Imp.br rfl ?_ ?_
    · exact Imp.ret rfl
    · refine Imp.call rfl (ei_ltoNet aN _) (fun r2 _ => ?_)
      refine Imp.call rfl (ei_sViewText r2 aHost _) (fun r6 _ => ?_)
      refine Imp.call rfl (ei_ltoNet aN _) (fun r7 _ => ?_)
      refine Imp.call rfl (ei_iViewText r7 aHost _) (fun r11 _ => ?_)
      refine Imp.br rfl ?_ ?_
      · exact Imp.ret rfl
      · refine Imp.call rfl (ei_ltoNet aN _) (fun r12 _ => ?_)
        refine Imp.call rfl (ei_leqNet r7 r12 _) (fun r16 _ => ?_)
        refine Imp.br rfl ?_ ?_
        · exact Imp.ret rfl
        · exact Imp.ret rfl

end Go.Am
