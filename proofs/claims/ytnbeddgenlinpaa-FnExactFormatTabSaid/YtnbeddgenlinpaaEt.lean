/-
  Typed forms of functions of the program, written by program (eform.py): each over structures and lists, and that, where it answers, the extracted function hands on that answer.
-/
import Derived.Test.YtnbeddgenlinpaaAmTyped
import Derived.Test.YtnbeddgenlinpaaTy
import Derived.Test.YtnbeddgenlinpaaFt
import Derived.Test.YtnbeddgenlinpaaTt
set_option maxRecDepth 10000
set_option linter.unusedVariables false
namespace Go.Am
open Go Go.Proofs
variable {β : Type}
/-- spec.l1In -/
noncomputable def sl1In (x : Int) (least : Int) (most : Int) : Option Bool :=
  br (decide (x ≥ least)) (
    some (decide (x ≤ most))
  ) (
    some false
  )
theorem ei_sl1In (x : Int) (least : Int) (most : Int) (k : Bool → Option β) : Imp (F142 β x least most k) (sl1In x least most) (fun r => k r) := by
  delta F142 P142 sl1In
  refine Imp.br rfl ?_ ?_
  · exact Imp.ret rfl
  · exact Imp.ret rfl

/-- spec.IsName -/
noncomputable def sIsName (s : List UInt8) : Option Bool :=
  (forE s (fun (i_1 : Nat) (x_1 : UInt8) (s1 : Unit) => (
    br (decide ((x_1.toNat : Int) < 97)) (
      some (.inr (.inl ()))
    ) (
      br (decide ((x_1.toNat : Int) > 122)) (
        some (.inr (.inl ()))
      ) (
        some (.inl ())
      )
    )
  : Option (Unit ⊕ (Unit ⊕ Unit)))) (fun (s1 : Unit) => (.inr () : Unit ⊕ Unit)) (() : Unit)).bind <|
  Sum.elim
    (fun (r4 : Unit) =>
      some false
    )
    (fun (r4 : Unit) =>
      (sl1In (s.length : Int) 1 8).bind fun (r5 : Bool) =>
      some r5
    )
theorem ei_sIsName (s : List UInt8) (k : Bool → Option β) : Imp (F126 β s k) (sIsName s) (fun r => k r) := by
  delta F126 P126 sIsName
  refine Imp.for (enc := fun (i_1 : Nat) (s1 : Unit) => [.s s, .i (i_1 : Int)]) (encR := Sum.elim (fun (u : Unit) => (((0, [.s s, .b false]) : Nat × List Leaf))) (fun (u : Unit) => (((1, [.s s]) : Nat × List Leaf)))) rfl (fun i_1 x_1 s1 hx1 hl1 hm1 => Imp.brT (Int.ofNat_lt.2 hl1) ?_) (fun s1 => brN (Int.lt_irrefl _) rfl) (fun r4 => ?_)
  · refine Imp.idxSFor hx1 ?_
    refine Imp.br rfl ?_ ?_
    · exact Imp.ret rfl
    · refine Imp.idxSFor hx1 ?_
      refine Imp.br rfl ?_ ?_
      · exact Imp.ret rfl
      · exact Imp.ret (c1 (fun (h1 : Int) => (some (Sum.inl [.s s, .i h1]) : Option (List Leaf ⊕ (Nat × List Leaf)))) (wrapJ hl1))
  · cases r4 with
    | inl r4 =>
      refine Imp.ifT rfl ?_
      exact Imp.ret rfl
    | inr r4 =>
      refine Imp.ifF (show ¬ ((1 : Nat) = 0) by decide) ?_
      refine Imp.call rfl (ei_sl1In (s.length : Int) 1 8 _) (fun r5 _ => ?_)
      exact Imp.ret rfl

/-- spec.IsAddr -/
noncomputable def sIsAddr (a : TAddr) : Option Bool :=
  (sIsName a.xHost).bind fun (r1 : Bool) =>
  br r1 (
    (sIsName a.xPath).bind fun (r2 : Bool) =>
    some r2
  ) (
    some false
  )
theorem ei_sIsAddr (a : TAddr) (k : Bool → Option β) : Imp (F105 β a.xHost a.xPath k) (sIsAddr a) (fun r => k r) := by
  delta F105 P105 sIsAddr
  refine Imp.call rfl (ei_sIsName a.xHost _) (fun r1 _ => ?_)
  refine Imp.br rfl ?_ ?_
  · refine Imp.call rfl (ei_sIsName a.xPath _) (fun r2 _ => ?_)
    exact Imp.ret rfl
  · exact Imp.ret rfl

/-- spec.FormatAddr -/
noncomputable def sFormatAddr (a : TAddr) : Option (List UInt8) :=
  (sIsAddr a).bind fun (r1 : Bool) =>
  br (!r1) (
    some []
  ) (
    chk (a.xHost.length + 1 ≤ 9223372036854775807) <|
    chk ((a.xHost ++ [47]).length + a.xPath.length ≤ 9223372036854775807) <|
    some ((a.xHost ++ [47]) ++ a.xPath)
  )
theorem ei_sFormatAddr (a : TAddr) (k : List UInt8 → Option β) : Imp (F74 β a.xHost a.xPath k) (sFormatAddr a) (fun r => k r) := by
  delta F74 P74 sFormatAddr
  refine Imp.call rfl (ei_sIsAddr a _) (fun r1 _ => ?_)
  refine Imp.br rfl ?_ ?_
  · exact Imp.ret rfl
  · refine Imp.chk rfl (fun _ => ?_)
    refine Imp.chk rfl (fun _ => ?_)
    exact Imp.ret rfl

/-- spec.l39Join -/
noncomputable def sl39Join (l : List (List UInt8)) (xby : List UInt8) : Option (List UInt8) :=
  br ((l.length : Int) == 0) (
    some [45]
  ) (
    (getI l (0 : Int)).bind fun (e1 : List UInt8) =>
    (whileE (fun (s2 : (List UInt8) × Int) => (
      br (decide (s2.2 < (l.length : Int))) (
        chk (s2.1.length + xby.length ≤ 9223372036854775807) <|
        (getI l s2.2).bind fun (e3 : List UInt8) =>
        chk ((s2.1 ++ xby).length + e3.length ≤ 9223372036854775807) <|
        some (.inl (((s2.1 ++ xby) ++ e3), (IntKind.wrap .i64 (s2.2 + 1))))
      ) (
        some (.inr s2.1)
      )
    : Option (((List UInt8) × Int) ⊕ (List UInt8)))) ((e1, 1) : (List UInt8) × Int)).bind <|
    fun (r4 : List UInt8) =>
    some r4
  )
theorem ei_sl39Join (l : List (List UInt8)) (xby : List UInt8) (k : List UInt8 → Option β) : Imp (F75 β (rStr l) xby k) (sl39Join l xby) (fun r => k r) := by
  delta F75 P75 sl39Join
  refine Imp.br (c1 (fun z0 : Nat => ((z0 : Int) == 0)) (U_len (kd := .str) (g1 := fun e => e) l)) ?_ ?_
  · exact Imp.ret rfl
  · refine Imp.idxC1 (kd := .str) (g1 := fun e => e) rfl rfl (fun e1 _ => ?_)
    refine Imp.while (enc := fun (s2 : (List UInt8) × Int) => [.l (rStr l), .s xby, .s s2.1, .i s2.2]) (encR := fun (u : List UInt8) => (((0, [.s u]) : Nat × List Leaf))) rfl (fun s2 => ?_) (fun r4 => ?_)
    · refine Imp.br (c1 (fun z0 : Nat => (decide (s2.2 < (z0 : Int)))) (U_len (kd := .str) (g1 := fun e => e) l)) ?_ ?_
      · refine Imp.chk rfl (fun _ => ?_)
        refine Imp.idx1 (kd := .str) (g1 := fun e => e) rfl rfl (fun e3 _ => ?_)
        refine Imp.chk rfl (fun _ => ?_)
        exact Imp.ret rfl
      · exact Imp.ret rfl
    · exact Imp.ret rfl

/-- spec.FormatTab -/
noncomputable def sFormatTab (t : TTab) : Option (List UInt8) :=
  (forE t.xVisits (fun (i_1 : Nat) (x_1 : TVisit) (s1 : List (List UInt8)) => (
    (sFormatAddr x_1.xAddr).bind fun (r3 : List UInt8) =>
    br ((i_1 : Int) == t.xAt) (
      chk (1 + r3.length ≤ 9223372036854775807) <|
      br x_1.xKept (
        chk (([42] ++ r3 : List UInt8).length + 1 ≤ 9223372036854775807) <|
        chk ((s1.length + 1) * 16 ≤ 140737488355328 ∧ s1.length + 1 ≤ 140737488355328) <|
        some (.inl (s1 ++ [(([42] ++ r3) ++ [43])]))
      ) (
        chk ((s1.length + 1) * 16 ≤ 140737488355328 ∧ s1.length + 1 ≤ 140737488355328) <|
        some (.inl (s1 ++ [([42] ++ r3)]))
      )
    ) (
      br x_1.xKept (
        chk (r3.length + 1 ≤ 9223372036854775807) <|
        chk ((s1.length + 1) * 16 ≤ 140737488355328 ∧ s1.length + 1 ≤ 140737488355328) <|
        some (.inl (s1 ++ [(r3 ++ [43])]))
      ) (
        chk ((s1.length + 1) * 16 ≤ 140737488355328 ∧ s1.length + 1 ≤ 140737488355328) <|
        some (.inl (s1 ++ [r3]))
      )
    )
  : Option ((List (List UInt8)) ⊕ (List (List UInt8))))) (fun (s1 : List (List UInt8)) => (s1 : List (List UInt8))) ([] : List (List UInt8))).bind <|
  fun (r6 : List (List UInt8)) =>
  (sl39Join r6 [32]).bind fun (r7 : List UInt8) =>
  some r7
theorem ei_sFormatTab (t : TTab) (k : List UInt8 → Option β) : Imp (F33 β (rows kVisit TVisit.row t.xVisits) t.xAt k) (sFormatTab t) (fun r => k r) := by
  delta F33 P33 sFormatTab
  refine Imp.for (enc := fun (i_1 : Nat) (s1 : List (List UInt8)) => [.l (rStr s1), .i (i_1 : Int), .l (rows kVisit TVisit.row t.xVisits), .i t.xAt]) (encR := fun (u : List (List UInt8)) => (((0, [.l (rStr u)]) : Nat × List Leaf))) rfl (fun i_1 x_1 s1 hx1 hl1 hm1 => Imp.brT (T_lt (ks := kVisit) (g := TVisit.row) hl1) ?_) (fun s1 => brN (T_irr (ks := kVisit) (g := TVisit.row) t.xVisits) rfl) (fun r6 => ?_)
  · refine Imp.idxFor (ks := kVisit) (g := TVisit.row) hx1 ?_
    refine Imp.call rfl (ei_sFormatAddr x_1.xAddr _) (fun r3 _ => ?_)
    refine Imp.br rfl ?_ ?_
    · refine Imp.chk rfl (fun _ => ?_)
      refine Imp.idxFor (ks := kVisit) (g := TVisit.row) hx1 ?_
      refine Imp.br rfl ?_ ?_
      · refine Imp.chk rfl (fun _ => ?_)
        refine Imp.chk (c2 (fun z0 z1 : Nat => (z0 + 1) * 16 ≤ 140737488355328 ∧ z1 + 1 ≤ 140737488355328) (U_len (kd := .str) (g1 := fun e => e) s1) (U_len (kd := .str) (g1 := fun e => e) s1)) (fun _ => ?_)
        exact Imp.ret (c2 (fun (h1 : List V) (h2 : Int) => (some (Sum.inl [.l h1, .i h2, .l (rows kVisit TVisit.row t.xVisits), .i t.xAt]) : Option (List Leaf ⊕ (Nat × List Leaf)))) (U_app (kd := .str) (g1 := fun e => e) s1 [(([42] ++ r3) ++ [43])]) (wrapJ hl1))
      · refine Imp.chk (c2 (fun z0 z1 : Nat => (z0 + 1) * 16 ≤ 140737488355328 ∧ z1 + 1 ≤ 140737488355328) (U_len (kd := .str) (g1 := fun e => e) s1) (U_len (kd := .str) (g1 := fun e => e) s1)) (fun _ => ?_)
        exact Imp.ret (c2 (fun (h1 : List V) (h2 : Int) => (some (Sum.inl [.l h1, .i h2, .l (rows kVisit TVisit.row t.xVisits), .i t.xAt]) : Option (List Leaf ⊕ (Nat × List Leaf)))) (U_app (kd := .str) (g1 := fun e => e) s1 [([42] ++ r3)]) (wrapJ hl1))
    · refine Imp.idxFor (ks := kVisit) (g := TVisit.row) hx1 ?_
      refine Imp.br rfl ?_ ?_
      · refine Imp.chk rfl (fun _ => ?_)
        refine Imp.chk (c2 (fun z0 z1 : Nat => (z0 + 1) * 16 ≤ 140737488355328 ∧ z1 + 1 ≤ 140737488355328) (U_len (kd := .str) (g1 := fun e => e) s1) (U_len (kd := .str) (g1 := fun e => e) s1)) (fun _ => ?_)
        exact Imp.ret (c2 (fun (h1 : List V) (h2 : Int) => (some (Sum.inl [.l h1, .i h2, .l (rows kVisit TVisit.row t.xVisits), .i t.xAt]) : Option (List Leaf ⊕ (Nat × List Leaf)))) (U_app (kd := .str) (g1 := fun e => e) s1 [(r3 ++ [43])]) (wrapJ hl1))
      · refine Imp.chk (c2 (fun z0 z1 : Nat => (z0 + 1) * 16 ≤ 140737488355328 ∧ z1 + 1 ≤ 140737488355328) (U_len (kd := .str) (g1 := fun e => e) s1) (U_len (kd := .str) (g1 := fun e => e) s1)) (fun _ => ?_)
        exact Imp.ret (c2 (fun (h1 : List V) (h2 : Int) => (some (Sum.inl [.l h1, .i h2, .l (rows kVisit TVisit.row t.xVisits), .i t.xAt]) : Option (List Leaf ⊕ (Nat × List Leaf)))) (U_app (kd := .str) (g1 := fun e => e) s1 [r3]) (wrapJ hl1))
  · refine Imp.call rfl (ei_sl39Join r6 [32] _) (fun r7 _ => ?_)
    exact Imp.ret rfl

/-- impl.InRange -/
noncomputable def iInRange (n : Int) (low : Int) (high : Int) : Option Bool :=
  br (decide (low ≤ n)) (
    some (decide (n ≤ high))
  ) (
    some false
  )
theorem ei_iInRange (n : Int) (low : Int) (high : Int) (k : Bool → Option β) : Imp (F168 β n low high k) (iInRange n low high) (fun r => k r) := by
  delta F168 P168 iInRange
  refine Imp.br rfl ?_ ?_
  · exact Imp.ret rfl
  · exact Imp.ret rfl

/-- impl.IsName -/
noncomputable def iIsName (s : List UInt8) : Option Bool :=
  (forE s (fun (i_1 : Nat) (x_1 : UInt8) (s1 : Unit) => (
    br (decide ((x_1.toNat : Int) < 97)) (
      some (.inr (.inl ()))
    ) (
      br (decide ((x_1.toNat : Int) > 122)) (
        some (.inr (.inl ()))
      ) (
        some (.inl ())
      )
    )
  : Option (Unit ⊕ (Unit ⊕ Unit)))) (fun (s1 : Unit) => (.inr () : Unit ⊕ Unit)) (() : Unit)).bind <|
  Sum.elim
    (fun (r4 : Unit) =>
      some false
    )
    (fun (r4 : Unit) =>
      (iInRange (s.length : Int) 1 8).bind fun (r5 : Bool) =>
      some r5
    )
theorem ei_iIsName (s : List UInt8) (k : Bool → Option β) : Imp (F134 β s k) (iIsName s) (fun r => k r) := by
  delta F134 P134 iIsName
  refine Imp.for (enc := fun (i_1 : Nat) (s1 : Unit) => [.s s, .i (i_1 : Int)]) (encR := Sum.elim (fun (u : Unit) => (((0, [.s s, .b false]) : Nat × List Leaf))) (fun (u : Unit) => (((1, [.s s]) : Nat × List Leaf)))) rfl (fun i_1 x_1 s1 hx1 hl1 hm1 => Imp.brT (Int.ofNat_lt.2 hl1) ?_) (fun s1 => brN (Int.lt_irrefl _) rfl) (fun r4 => ?_)
  · refine Imp.idxSFor hx1 ?_
    refine Imp.br rfl ?_ ?_
    · exact Imp.ret rfl
    · refine Imp.idxSFor hx1 ?_
      refine Imp.br rfl ?_ ?_
      · exact Imp.ret rfl
      · exact Imp.ret (c1 (fun (h1 : Int) => (some (Sum.inl [.s s, .i h1]) : Option (List Leaf ⊕ (Nat × List Leaf)))) (wrapJ hl1))
  · cases r4 with
    | inl r4 =>
      refine Imp.ifT rfl ?_
      exact Imp.ret rfl
    | inr r4 =>
      refine Imp.ifF (show ¬ ((1 : Nat) = 0) by decide) ?_
      refine Imp.call rfl (ei_iInRange (s.length : Int) 1 8 _) (fun r5 _ => ?_)
      exact Imp.ret rfl

/-- impl.IsAddr -/
noncomputable def iIsAddr (a : TAddr) : Option Bool :=
  (iIsName a.xHost).bind fun (r1 : Bool) =>
  br r1 (
    (iIsName a.xPath).bind fun (r2 : Bool) =>
    some r2
  ) (
    some false
  )
theorem ei_iIsAddr (a : TAddr) (k : Bool → Option β) : Imp (F106 β a.xHost a.xPath k) (iIsAddr a) (fun r => k r) := by
  delta F106 P106 iIsAddr
  refine Imp.call rfl (ei_iIsName a.xHost _) (fun r1 _ => ?_)
  refine Imp.br rfl ?_ ?_
  · refine Imp.call rfl (ei_iIsName a.xPath _) (fun r2 _ => ?_)
    exact Imp.ret rfl
  · exact Imp.ret rfl

/-- impl.FormatAddr -/
noncomputable def iFormatAddr (a : TAddr) : Option (List UInt8) :=
  (iIsAddr a).bind fun (r1 : Bool) =>
  br (!r1) (
    some []
  ) (
    chk (a.xHost.length + 1 ≤ 9223372036854775807) <|
    chk ((a.xHost ++ [47]).length + a.xPath.length ≤ 9223372036854775807) <|
    some ((a.xHost ++ [47]) ++ a.xPath)
  )
theorem ei_iFormatAddr (a : TAddr) (k : List UInt8 → Option β) : Imp (F76 β a.xHost a.xPath k) (iFormatAddr a) (fun r => k r) := by
  delta F76 P76 iFormatAddr
  refine Imp.call rfl (ei_iIsAddr a _) (fun r1 _ => ?_)
  refine Imp.br rfl ?_ ?_
  · exact Imp.ret rfl
  · refine Imp.chk rfl (fun _ => ?_)
    refine Imp.chk rfl (fun _ => ?_)
    exact Imp.ret rfl

/-- strings.Join -/
noncomputable def g_strings_Join (a0 : List (List UInt8)) (a1 : List UInt8) : Option (List UInt8) := joinE a0 a1
theorem ei_g_strings_Join (a0 : List (List UInt8)) (a1 : List UInt8) (k : List UInt8 → Option β) : Imp (F77 β (rStr a0) a1 k) (g_strings_Join a0 a1) (fun r => k r) := ei_joinE a0 a1 k

/-- impl.FormatTab -/
noncomputable def iFormatTab (t : TTab) : Option (List UInt8) :=
  br ((t.xVisits.length : Int) == 0) (
    some [45]
  ) (
    (forE t.xVisits (fun (i_1 : Nat) (x_1 : TVisit) (s1 : List (List UInt8)) => (
      (iFormatAddr x_1.xAddr).bind fun (r3 : List UInt8) =>
      br ((i_1 : Int) == t.xAt) (
        chk (1 + r3.length ≤ 9223372036854775807) <|
        br x_1.xKept (
          chk (([42] ++ r3 : List UInt8).length + 1 ≤ 9223372036854775807) <|
          chk ((s1.length + 1) * 16 ≤ 140737488355328 ∧ s1.length + 1 ≤ 140737488355328) <|
          some (.inl (s1 ++ [(([42] ++ r3) ++ [43])]))
        ) (
          chk ((s1.length + 1) * 16 ≤ 140737488355328 ∧ s1.length + 1 ≤ 140737488355328) <|
          some (.inl (s1 ++ [([42] ++ r3)]))
        )
      ) (
        br x_1.xKept (
          chk (r3.length + 1 ≤ 9223372036854775807) <|
          chk ((s1.length + 1) * 16 ≤ 140737488355328 ∧ s1.length + 1 ≤ 140737488355328) <|
          some (.inl (s1 ++ [(r3 ++ [43])]))
        ) (
          chk ((s1.length + 1) * 16 ≤ 140737488355328 ∧ s1.length + 1 ≤ 140737488355328) <|
          some (.inl (s1 ++ [r3]))
        )
      )
    : Option ((List (List UInt8)) ⊕ (List (List UInt8))))) (fun (s1 : List (List UInt8)) => (s1 : List (List UInt8))) ([] : List (List UInt8))).bind <|
    fun (r4 : List (List UInt8)) =>
    (g_strings_Join r4 [32]).bind fun (r5 : List UInt8) =>
    some r5
  )
theorem ei_iFormatTab (t : TTab) (k : List UInt8 → Option β) : Imp (F34 β (rows kVisit TVisit.row t.xVisits) t.xAt k) (iFormatTab t) (fun r => k r) := by
  delta F34 P34 iFormatTab
  refine Imp.br (c1 (fun z0 : Nat => ((z0 : Int) == 0)) (T_len (ks := kVisit) (g := TVisit.row) t.xVisits)) ?_ ?_
  · exact Imp.ret rfl
  · refine Imp.for (enc := fun (i_1 : Nat) (s1 : List (List UInt8)) => [.l (rStr s1), .l (rows kVisit TVisit.row t.xVisits), .i (t.xVisits.length : Int), .i (i_1 : Int), .l (rows kVisit TVisit.row t.xVisits), .i t.xAt]) (encR := fun (u : List (List UInt8)) => (((0, [.l (rStr u)]) : Nat × List Leaf))) (c1 (fun (h1 : Int) => ([.l (rStr []), .l (rows kVisit TVisit.row t.xVisits), .i h1, .i 0, .l (rows kVisit TVisit.row t.xVisits), .i t.xAt] : List Leaf)) (c1 (fun z0 : Nat => (z0 : Int)) (T_len (ks := kVisit) (g := TVisit.row) t.xVisits))) (fun i_1 x_1 s1 hx1 hl1 hm1 => Imp.brT (Int.ofNat_lt.2 hl1) ?_) (fun s1 => brN (Int.lt_irrefl _) rfl) (fun r4 => ?_)
    · refine Imp.idxFor (ks := kVisit) (g := TVisit.row) hx1 ?_
      refine Imp.call rfl (ei_iFormatAddr x_1.xAddr _) (fun r3 _ => ?_)
      refine Imp.br rfl ?_ ?_
      · refine Imp.chk rfl (fun _ => ?_)
        refine Imp.br rfl ?_ ?_
        · refine Imp.chk rfl (fun _ => ?_)
          refine Imp.chk (c2 (fun z0 z1 : Nat => (z0 + 1) * 16 ≤ 140737488355328 ∧ z1 + 1 ≤ 140737488355328) (U_len (kd := .str) (g1 := fun e => e) s1) (U_len (kd := .str) (g1 := fun e => e) s1)) (fun _ => ?_)
          exact Imp.ret (c2 (fun (h1 : List V) (h2 : Int) => (some (Sum.inl [.l h1, .l (rows kVisit TVisit.row t.xVisits), .i (t.xVisits.length : Int), .i h2, .l (rows kVisit TVisit.row t.xVisits), .i t.xAt]) : Option (List Leaf ⊕ (Nat × List Leaf)))) (U_app (kd := .str) (g1 := fun e => e) s1 [(([42] ++ r3) ++ [43])]) (wrapJ hl1))
        · refine Imp.chk (c2 (fun z0 z1 : Nat => (z0 + 1) * 16 ≤ 140737488355328 ∧ z1 + 1 ≤ 140737488355328) (U_len (kd := .str) (g1 := fun e => e) s1) (U_len (kd := .str) (g1 := fun e => e) s1)) (fun _ => ?_)
          exact Imp.ret (c2 (fun (h1 : List V) (h2 : Int) => (some (Sum.inl [.l h1, .l (rows kVisit TVisit.row t.xVisits), .i (t.xVisits.length : Int), .i h2, .l (rows kVisit TVisit.row t.xVisits), .i t.xAt]) : Option (List Leaf ⊕ (Nat × List Leaf)))) (U_app (kd := .str) (g1 := fun e => e) s1 [([42] ++ r3)]) (wrapJ hl1))
      · refine Imp.br rfl ?_ ?_
        · refine Imp.chk rfl (fun _ => ?_)
          refine Imp.chk (c2 (fun z0 z1 : Nat => (z0 + 1) * 16 ≤ 140737488355328 ∧ z1 + 1 ≤ 140737488355328) (U_len (kd := .str) (g1 := fun e => e) s1) (U_len (kd := .str) (g1 := fun e => e) s1)) (fun _ => ?_)
          exact Imp.ret (c2 (fun (h1 : List V) (h2 : Int) => (some (Sum.inl [.l h1, .l (rows kVisit TVisit.row t.xVisits), .i (t.xVisits.length : Int), .i h2, .l (rows kVisit TVisit.row t.xVisits), .i t.xAt]) : Option (List Leaf ⊕ (Nat × List Leaf)))) (U_app (kd := .str) (g1 := fun e => e) s1 [(r3 ++ [43])]) (wrapJ hl1))
        · refine Imp.chk (c2 (fun z0 z1 : Nat => (z0 + 1) * 16 ≤ 140737488355328 ∧ z1 + 1 ≤ 140737488355328) (U_len (kd := .str) (g1 := fun e => e) s1) (U_len (kd := .str) (g1 := fun e => e) s1)) (fun _ => ?_)
          exact Imp.ret (c2 (fun (h1 : List V) (h2 : Int) => (some (Sum.inl [.l h1, .l (rows kVisit TVisit.row t.xVisits), .i (t.xVisits.length : Int), .i h2, .l (rows kVisit TVisit.row t.xVisits), .i t.xAt]) : Option (List Leaf ⊕ (Nat × List Leaf)))) (U_app (kd := .str) (g1 := fun e => e) s1 [r3]) (wrapJ hl1))
    · refine Imp.call rfl (ei_g_strings_Join r4 [32] _) (fun r5 _ => ?_)
      exact Imp.ret rfl

/-- laws.FnExactFormatTab -/
noncomputable def lFnExactFormatTab (aT : TTab) : Option Bool :=
  (lszTab aT 1048576).bind fun (r1 : Int) =>
  br (decide (r1 < 0)) (
    some true
  ) (
    (ltoTab aT).bind fun (r2 : TTab) =>
    (sFormatTab r2).bind fun (r4 : List UInt8) =>
    (ltoTab aT).bind fun (r5 : TTab) =>
    (iFormatTab r5).bind fun (r7 : List UInt8) =>
    br (!(r7 == r4)) (
      some false
    ) (
      (ltoTab aT).bind fun (r8 : TTab) =>
      (leqTab r5 r8).bind fun (r10 : Bool) =>
      br (!r10) (
        some false
      ) (
        some true
      )
    )
  )
theorem ei_lFnExactFormatTab (aT : TTab) (k : Bool → Option β) : Imp (F8 β (rows kVisit TVisit.row aT.xVisits) aT.xAt k) (lFnExactFormatTab aT) (fun r => k r) := by
  delta F8 P8 lFnExactFormatTab
  refine Imp.call rfl (ei_lszTab aT 1048576 _) (fun r1 _ => ?_)
  refine Imp.br rfl ?_ ?_
  · exact Imp.ret rfl
  · refine Imp.call rfl (ei_ltoTab aT _) (fun r2 _ => ?_)
    refine Imp.call rfl (ei_sFormatTab r2 _) (fun r4 _ => ?_)
    refine Imp.call rfl (ei_ltoTab aT _) (fun r5 _ => ?_)
    refine Imp.call rfl (ei_iFormatTab r5 _) (fun r7 _ => ?_)
    refine Imp.br rfl ?_ ?_
    · exact Imp.ret rfl
    · refine Imp.call rfl (ei_ltoTab aT _) (fun r8 _ => ?_)
      refine Imp.call rfl (ei_leqTab r5 r8 _) (fun r10 _ => ?_)
      refine Imp.br rfl ?_ ?_
      · exact Imp.ret rfl
      · exact Imp.ret rfl

end Go.Am
