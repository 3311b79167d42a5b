/-
  Typed forms of functions of the program, written by program (eform.py): each over structures and lists, and that, where it answers, the extracted function hands on that answer.
-/
import Derived.Test.YtbpoaadkjjfmgaaGreatDoorAmTyped
import Derived.Test.YtbpoaadkjjfmgaaGreatDoorFw
import Derived.Test.YtbpoaadkjjfmgaaGreatDoorTw
set_option maxRecDepth 10000
set_option linter.unusedVariables false
namespace Go.Am
open Go Go.Proofs
variable {β : Type}
noncomputable def sl1In (x : Int) (least : Int) (most : Int) : Option Bool :=
 br (decide (x ≥ least)) (
 some (decide (x ≤ most))
 ) (
 some false
 )
theorem ei_sl1In (x : Int) (least : Int) (most : Int) (k : Bool → Option β) : Imp (F41 β x least most k) (sl1In x least most) (fun r => k r) := by
  delta F41 P41 sl1In
  refine Imp.br rfl ?_ ?_
  · exact Imp.ret rfl
  · exact Imp.ret rfl
noncomputable def sIsName (s : List UInt8) : Option Bool :=
 (forE s (fun (i_1 : Nat) (x_1 : UInt8) (s1 : Unit) => (
 br (decide ((x_1.toNat : Int) < 97)) (
 some (.inr (.inl ()))
 ) (
 br (decide ((x_1.toNat : Int) > 122)) (
 some (.inr (.inl ()))
 ) (
 some (.inl ())
 )
 )
 : Option (Unit ⊕ (Unit ⊕ Unit)))) (fun (s1 : Unit) => (.inr () : Unit ⊕ Unit)) (() : Unit)).bind <|
 Sum.elim
 (fun (r4 : Unit) =>
 some false
 )
 (fun (r4 : Unit) =>
 (sl1In (s.length : Int) 1 8).bind fun (r5 : Bool) =>
 some r5
 )
theorem ei_sIsName (s : List UInt8) (k : Bool → Option β) : Imp (F90 β s k) (sIsName s) (fun r => k r) := by
  delta F90 P90 sIsName
  refine Imp.for (enc := fun (i_1 : Nat) (s1 : Unit) => [.s s, .i (i_1 : Int)]) (encR := Sum.elim (fun (u : Unit) => (((0, [.s s, .b false]) : Nat × List Leaf))) (fun (u : Unit) => (((1, [.s s]) : Nat × List Leaf)))) rfl (fun i_1 x_1 s1 hx1 hl1 hm1 => Imp.brT (Int.ofNat_lt.2 hl1) ?_) (fun s1 => brN (Int.lt_irrefl _) rfl) (fun r4 => ?_)
  · refine Imp.idxSFor hx1 ?_
    refine Imp.br rfl ?_ ?_
    · exact Imp.ret rfl
    · refine Imp.idxSFor hx1 ?_
      refine Imp.br rfl ?_ ?_
      · exact Imp.ret rfl
      · exact Imp.ret (c1 (fun (h1 : Int) => (some (Sum.inl [.s s, .i h1]) : Option (List Leaf ⊕ (Nat × List Leaf)))) (wrapJ hl1))
  · cases r4 with
    | inl r4 =>
      refine Imp.ifT rfl ?_
      exact Imp.ret rfl
    | inr r4 =>
      refine Imp.ifF (show ¬ ((1 : Nat) = 0) by decide) ?_
      refine Imp.call rfl (ei_sl1In (s.length : Int) 1 8 _) (fun r5 _ => ?_)
      exact Imp.ret rfl
noncomputable def sl5Split (s : List UInt8) (xby : Int) : Option (List (List UInt8)) :=
 (whileE (fun (s1 : (List (List UInt8)) × Int × Int) => (
 br (decide (s1.2.2 ≤ (s.length : Int))) (
 br (s1.2.2 == (s.length : Int)) (
 chk (0 ≤ s1.2.1 ∧ s1.2.1 ≤ s1.2.2 ∧ s1.2.2 ≤ (s.length : Int)) <|
 chk ((s1.1.length + 1) * 16 ≤ 140737488355328 ∧ s1.1.length + 1 ≤ 140737488355328) <|
 some (.inl ((s1.1 ++ [((s.take (s1.2.2.toNat)).drop (s1.2.1.toNat))]), (IntKind.wrap .i64 (s1.2.2 + 1)), (IntKind.wrap .i64 (s1.2.2 + 1))))
 ) (
 (getS s s1.2.2).bind fun (b2 : Int) =>
 br (b2 == xby) (
 chk (0 ≤ s1.2.1 ∧ s1.2.1 ≤ s1.2.2 ∧ s1.2.2 ≤ (s.length : Int)) <|
 chk ((s1.1.length + 1) * 16 ≤ 140737488355328 ∧ s1.1.length + 1 ≤ 140737488355328) <|
 some (.inl ((s1.1 ++ [((s.take (s1.2.2.toNat)).drop (s1.2.1.toNat))]), (IntKind.wrap .i64 (s1.2.2 + 1)), (IntKind.wrap .i64 (s1.2.2 + 1))))
 ) (
 some (.inl (s1.1, s1.2.1, (IntKind.wrap .i64 (s1.2.2 + 1))))
 )
 )
 ) (
 some (.inr s1.1)
 )
 : Option (((List (List UInt8)) × Int × Int) ⊕ (List (List UInt8))))) (([], 0, 0) : (List (List UInt8)) × Int × Int)).bind <|
 fun (r3 : List (List UInt8)) =>
 some r3
theorem ei_sl5Split (s : List UInt8) (xby : Int) (k : List V → Option β) : Imp (F173 β s xby k) (sl5Split s xby) (fun r => k (rStr r)) := by
  delta F173 P173 sl5Split
  refine Imp.while (enc := fun (s1 : (List (List UInt8)) × Int × Int) => [.s s, .i xby, .l (rStr s1.1), .i s1.2.1, .i s1.2.2]) (encR := fun (u : List (List UInt8)) => (((0, [.l (rStr u)]) : Nat × List Leaf))) rfl (fun s1 => ?_) (fun r3 => ?_)
  · refine Imp.br rfl ?_ ?_
    · refine Imp.br rfl ?_ ?_
      · refine Imp.chk rfl (fun _ => ?_)
        refine Imp.chk (c2 (fun z0 z1 : Nat => (z0 + 1) * 16 ≤ 140737488355328 ∧ z1 + 1 ≤ 140737488355328) (U_len (kd := .str) (g1 := fun e => e) s1.1) (U_len (kd := .str) (g1 := fun e => e) s1.1)) (fun _ => ?_)
        exact Imp.ret (c1 (fun (h1 : List V) => (some (Sum.inl [.s s, .i xby, .l h1, .i (IntKind.wrap .i64 (s1.2.2 + 1)), .i (IntKind.wrap .i64 (s1.2.2 + 1))]) : Option (List Leaf ⊕ (Nat × List Leaf)))) (U_app (kd := .str) (g1 := fun e => e) s1.1 [((s.take (s1.2.2.toNat)).drop (s1.2.1.toNat))]))
      · refine Imp.idxS rfl (fun b2 _ => ?_)
        refine Imp.br rfl ?_ ?_
        · refine Imp.chk rfl (fun _ => ?_)
          refine Imp.chk (c2 (fun z0 z1 : Nat => (z0 + 1) * 16 ≤ 140737488355328 ∧ z1 + 1 ≤ 140737488355328) (U_len (kd := .str) (g1 := fun e => e) s1.1) (U_len (kd := .str) (g1 := fun e => e) s1.1)) (fun _ => ?_)
          exact Imp.ret (c1 (fun (h1 : List V) => (some (Sum.inl [.s s, .i xby, .l h1, .i (IntKind.wrap .i64 (s1.2.2 + 1)), .i (IntKind.wrap .i64 (s1.2.2 + 1))]) : Option (List Leaf ⊕ (Nat × List Leaf)))) (U_app (kd := .str) (g1 := fun e => e) s1.1 [((s.take (s1.2.2.toNat)).drop (s1.2.1.toNat))]))
        · exact Imp.ret rfl
    · exact Imp.ret rfl
  · exact Imp.ret rfl
noncomputable def sl9Names (l : List (List UInt8)) : Option Bool :=
 (forE l (fun (i_1 : Nat) (x_1 : List UInt8) (s1 : Unit) => (
 (sIsName x_1).bind fun (r3 : Bool) =>
 br (!r3) (
 some (.inr (.inl ()))
 ) (
 some (.inl ())
 )
 : Option (Unit ⊕ (Unit ⊕ Unit)))) (fun (s1 : Unit) => (.inr () : Unit ⊕ Unit)) (() : Unit)).bind <|
 Sum.elim
 (fun (r4 : Unit) =>
 some false
 )
 (fun (r4 : Unit) =>
 some (decide ((l.length : Int) ≤ 4))
 )
theorem ei_sl9Names (l : List (List UInt8)) (k : Bool → Option β) : Imp (F210 β (rStr l) k) (sl9Names l) (fun r => k r) := by
  delta F210 P210 sl9Names
  refine Imp.for (enc := fun (i_1 : Nat) (s1 : Unit) => [.l (rStr l), .i (i_1 : Int)]) (encR := Sum.elim (fun (u : Unit) => (((0, [.l (rStr l), .b false]) : Nat × List Leaf))) (fun (u : Unit) => (((1, [.l (rStr l)]) : Nat × List Leaf)))) rfl (fun i_1 x_1 s1 hx1 hl1 hm1 => Imp.brT (U_lt (kd := .str) (g1 := fun e => e) hl1) ?_) (fun s1 => brN (U_irr (kd := .str) (g1 := fun e => e) l) rfl) (fun r4 => ?_)
  · refine Imp.idxFor1 (kd := .str) (g1 := fun e => e) hx1 ?_
    refine Imp.call rfl (ei_sIsName x_1 _) (fun r3 _ => ?_)
    refine Imp.br rfl ?_ ?_
    · exact Imp.ret rfl
    · exact Imp.ret (c1 (fun (h1 : Int) => (some (Sum.inl [.l (rStr l), .i h1]) : Option (List Leaf ⊕ (Nat × List Leaf)))) (wrapJ hl1))
  · cases r4 with
    | inl r4 =>
      refine Imp.ifT rfl ?_
      exact Imp.ret rfl
    | inr r4 =>
      refine Imp.ifF (show ¬ ((1 : Nat) = 0) by decide) ?_
      exact Imp.ret (c1 (fun (h1 : Bool) => k h1) (c1 (fun z0 : Nat => (decide ((z0 : Int) ≤ 4))) (U_len (kd := .str) (g1 := fun e => e) l)))
noncomputable def sIsValue (s : List UInt8) : Option Bool :=
 (forE s (fun (i_1 : Nat) (x_1 : UInt8) (s1 : Unit) => (
 br (decide ((x_1.toNat : Int) < 97)) (
 br (decide ((x_1.toNat : Int) < 48)) (
 br ((x_1.toNat : Int) != 47) (
 some (.inr (.inl ()))
 ) (
 some (.inl ())
 )
 ) (
 br (decide ((x_1.toNat : Int) > 57)) (
 br ((x_1.toNat : Int) != 47) (
 some (.inr (.inl ()))
 ) (
 some (.inl ())
 )
 ) (
 some (.inl ())
 )
 )
 ) (
 br (decide ((x_1.toNat : Int) > 122)) (
 br (decide ((x_1.toNat : Int) < 48)) (
 br ((x_1.toNat : Int) != 47) (
 some (.inr (.inl ()))
 ) (
 some (.inl ())
 )
 ) (
 br (decide ((x_1.toNat : Int) > 57)) (
 br ((x_1.toNat : Int) != 47) (
 some (.inr (.inl ()))
 ) (
 some (.inl ())
 )
 ) (
 some (.inl ())
 )
 )
 ) (
 some (.inl ())
 )
 )
 : Option (Unit ⊕ (Unit ⊕ Unit)))) (fun (s1 : Unit) => (.inr () : Unit ⊕ Unit)) (() : Unit)).bind <|
 Sum.elim
 (fun (r12 : Unit) =>
 some false
 )
 (fun (r12 : Unit) =>
 (sl1In (s.length : Int) 1 20).bind fun (r13 : Bool) =>
 some r13
 )
theorem ei_sIsValue (s : List UInt8) (k : Bool → Option β) : Imp (F211 β s k) (sIsValue s) (fun r => k r) := by
  delta F211 P211 sIsValue
  refine Imp.for (enc := fun (i_1 : Nat) (s1 : Unit) => [.s s, .i (i_1 : Int)]) (encR := Sum.elim (fun (u : Unit) => (((0, [.s s, .b false]) : Nat × List Leaf))) (fun (u : Unit) => (((1, [.s s]) : Nat × List Leaf)))) rfl (fun i_1 x_1 s1 hx1 hl1 hm1 => Imp.brT (Int.ofNat_lt.2 hl1) ?_) (fun s1 => brN (Int.lt_irrefl _) rfl) (fun r12 => ?_)
  · refine Imp.idxSFor hx1 ?_
    refine Imp.br rfl ?_ ?_
    · refine Imp.idxSFor hx1 ?_
      refine Imp.br rfl ?_ ?_
      · refine Imp.idxSFor hx1 ?_
        refine Imp.br rfl ?_ ?_
        · exact Imp.ret rfl
        · exact Imp.ret (c1 (fun (h1 : Int) => (some (Sum.inl [.s s, .i h1]) : Option (List Leaf ⊕ (Nat × List Leaf)))) (wrapJ hl1))
      · refine Imp.idxSFor hx1 ?_
        refine Imp.br rfl ?_ ?_
        · refine Imp.idxSFor hx1 ?_
          refine Imp.br rfl ?_ ?_
          · exact Imp.ret rfl
          · exact Imp.ret (c1 (fun (h1 : Int) => (some (Sum.inl [.s s, .i h1]) : Option (List Leaf ⊕ (Nat × List Leaf)))) (wrapJ hl1))
        · exact Imp.ret (c1 (fun (h1 : Int) => (some (Sum.inl [.s s, .i h1]) : Option (List Leaf ⊕ (Nat × List Leaf)))) (wrapJ hl1))
    · refine Imp.idxSFor hx1 ?_
      refine Imp.br rfl ?_ ?_
      · refine Imp.idxSFor hx1 ?_
        refine Imp.br rfl ?_ ?_
        · refine Imp.idxSFor hx1 ?_
          refine Imp.br rfl ?_ ?_
          · exact Imp.ret rfl
          · exact Imp.ret (c1 (fun (h1 : Int) => (some (Sum.inl [.s s, .i h1]) : Option (List Leaf ⊕ (Nat × List Leaf)))) (wrapJ hl1))
        · refine Imp.idxSFor hx1 ?_
          refine Imp.br rfl ?_ ?_
          · refine Imp.idxSFor hx1 ?_
            refine Imp.br rfl ?_ ?_
            · exact Imp.ret rfl
            · exact Imp.ret (c1 (fun (h1 : Int) => (some (Sum.inl [.s s, .i h1]) : Option (List Leaf ⊕ (Nat × List Leaf)))) (wrapJ hl1))
          · exact Imp.ret (c1 (fun (h1 : Int) => (some (Sum.inl [.s s, .i h1]) : Option (List Leaf ⊕ (Nat × List Leaf)))) (wrapJ hl1))
      · exact Imp.ret (c1 (fun (h1 : Int) => (some (Sum.inl [.s s, .i h1]) : Option (List Leaf ⊕ (Nat × List Leaf)))) (wrapJ hl1))
  · cases r12 with
    | inl r12 =>
      refine Imp.ifT rfl ?_
      exact Imp.ret rfl
    | inr r12 =>
      refine Imp.ifF (show ¬ ((1 : Nat) = 0) by decide) ?_
      refine Imp.call rfl (ei_sl1In (s.length : Int) 1 20 _) (fun r13 _ => ?_)
      exact Imp.ret rfl
noncomputable def sIsPolicy (p : TPolicy) : Option Bool :=
 br (!p.xSet) (
 br ((p.xScripts.length : Int) == 0) (
 br ((p.xStyles.length : Int) == 0) (
 br ((p.xImages.length : Int) == 0) (
 some (p.xNonce == [])
 ) (
 some false
 )
 ) (
 some false
 )
 ) (
 some false
 )
 ) (
 (sl9Names p.xScripts).bind fun (r1 : Bool) =>
 br r1 (
 (sl9Names p.xStyles).bind fun (r2 : Bool) =>
 br r2 (
 (sl9Names p.xImages).bind fun (r3 : Bool) =>
 br r3 (
 br (p.xNonce == []) (
 some true
 ) (
 (sIsValue p.xNonce).bind fun (r4 : Bool) =>
 some r4
 )
 ) (
 some false
 )
 ) (
 some false
 )
 ) (
 some false
 )
 )
theorem ei_sIsPolicy (p : TPolicy) (k : Bool → Option β) : Imp (F191 β p.xSet (rStr p.xScripts) (rStr p.xStyles) (rStr p.xImages) p.xNonce k) (sIsPolicy p) (fun r => k r) := by
  delta F191 P191 sIsPolicy
  refine Imp.br rfl ?_ ?_
  · refine Imp.br (c1 (fun z0 : Nat => ((z0 : Int) == 0)) (U_len (kd := .str) (g1 := fun e => e) p.xScripts)) ?_ ?_
    · refine Imp.br (c1 (fun z0 : Nat => ((z0 : Int) == 0)) (U_len (kd := .str) (g1 := fun e => e) p.xStyles)) ?_ ?_
      · refine Imp.br (c1 (fun z0 : Nat => ((z0 : Int) == 0)) (U_len (kd := .str) (g1 := fun e => e) p.xImages)) ?_ ?_
        · exact Imp.ret rfl
        · exact Imp.ret rfl
      · exact Imp.ret rfl
    · exact Imp.ret rfl
  · refine Imp.call rfl (ei_sl9Names p.xScripts _) (fun r1 _ => ?_)
    refine Imp.br rfl ?_ ?_
    · refine Imp.call rfl (ei_sl9Names p.xStyles _) (fun r2 _ => ?_)
      refine Imp.br rfl ?_ ?_
      · refine Imp.call rfl (ei_sl9Names p.xImages _) (fun r3 _ => ?_)
        refine Imp.br rfl ?_ ?_
        · refine Imp.br rfl ?_ ?_
          · exact Imp.ret rfl
          · refine Imp.call rfl (ei_sIsValue p.xNonce _) (fun r4 _ => ?_)
            exact Imp.ret rfl
        · exact Imp.ret rfl
      · exact Imp.ret rfl
    · exact Imp.ret rfl
noncomputable def sl9Words (word : List UInt8) (l : List (List UInt8)) : Option (List UInt8) :=
 (forE l (fun (i_1 : Nat) (x_1 : List UInt8) (s1 : List UInt8) => (
 chk (s1.length + 1 ≤ 9223372036854775807) <|
 chk ((s1 ++ [32]).length + x_1.length ≤ 9223372036854775807) <|
 some (.inl ((s1 ++ [32]) ++ x_1))
 : Option ((List UInt8) ⊕ (List UInt8)))) (fun (s1 : List UInt8) => (s1 : List UInt8)) (word : List UInt8)).bind <|
 fun (r3 : List UInt8) =>
 some r3
theorem ei_sl9Words (word : List UInt8) (l : List (List UInt8)) (k : List UInt8 → Option β) : Imp (F192 β word (rStr l) k) (sl9Words word l) (fun r => k r) := by
  delta F192 P192 sl9Words
  refine Imp.for (enc := fun (i_1 : Nat) (s1 : List UInt8) => [.s s1, .l (rStr l), .i (i_1 : Int)]) (encR := fun (u : List UInt8) => (((0, [.s u]) : Nat × List Leaf))) rfl (fun i_1 x_1 s1 hx1 hl1 hm1 => Imp.brT (U_lt (kd := .str) (g1 := fun e => e) hl1) ?_) (fun s1 => brN (U_irr (kd := .str) (g1 := fun e => e) l) rfl) (fun r3 => ?_)
  · refine Imp.chk rfl (fun _ => ?_)
    refine Imp.idxFor1 (kd := .str) (g1 := fun e => e) hx1 ?_
    refine Imp.chk rfl (fun _ => ?_)
    exact Imp.ret (c1 (fun (h1 : Int) => (some (Sum.inl [.s ((s1 ++ [32]) ++ x_1), .l (rStr l), .i h1]) : Option (List Leaf ⊕ (Nat × List Leaf)))) (wrapJ hl1))
  · exact Imp.ret rfl
noncomputable def sFormatPolicy (p : TPolicy) : Option (List UInt8) :=
 (sIsPolicy p).bind fun (r1 : Bool) =>
 br (!r1) (
 some []
 ) (
 br (!p.xSet) (
 some []
 ) (
 (sl9Words [115, 99, 114, 105, 112, 116] p.xScripts).bind fun (r2 : List UInt8) =>
 chk (r2.length + 1 ≤ 9223372036854775807) <|
 (sl9Words [115, 116, 121, 108, 101] p.xStyles).bind fun (r3 : List UInt8) =>
 chk ((r2 ++ [59]).length + r3.length ≤ 9223372036854775807) <|
 chk (((r2 ++ [59]) ++ r3).length + 1 ≤ 9223372036854775807) <|
 (sl9Words [105, 109, 103] p.xImages).bind fun (r4 : List UInt8) =>
 chk ((((r2 ++ [59]) ++ r3) ++ [59]).length + r4.length ≤ 9223372036854775807) <|
 br (!(p.xNonce == [])) (
 chk (((((r2 ++ [59]) ++ r3) ++ [59]) ++ r4).length + 7 ≤ 9223372036854775807) <|
 chk ((((((r2 ++ [59]) ++ r3) ++ [59]) ++ r4) ++ [59, 110, 111, 110, 99, 101, 32]).length + p.xNonce.length ≤ 9223372036854775807) <|
 some ((((((r2 ++ [59]) ++ r3) ++ [59]) ++ r4) ++ [59, 110, 111, 110, 99, 101, 32]) ++ p.xNonce)
 ) (
 some ((((r2 ++ [59]) ++ r3) ++ [59]) ++ r4)
 )
 )
 )
theorem ei_sFormatPolicy (p : TPolicy) (k : List UInt8 → Option β) : Imp (F174 β p.xSet (rStr p.xScripts) (rStr p.xStyles) (rStr p.xImages) p.xNonce k) (sFormatPolicy p) (fun r => k r) := by
  delta F174 P174 sFormatPolicy
  refine Imp.call rfl (ei_sIsPolicy p _) (fun r1 _ => ?_)
  refine Imp.br rfl ?_ ?_
  · exact Imp.ret rfl
  · refine Imp.br rfl ?_ ?_
    · exact Imp.ret rfl
    · refine Imp.call rfl (ei_sl9Words [115, 99, 114, 105, 112, 116] p.xScripts _) (fun r2 _ => ?_)
      refine Imp.chk rfl (fun _ => ?_)
      refine Imp.call rfl (ei_sl9Words [115, 116, 121, 108, 101] p.xStyles _) (fun r3 _ => ?_)
      refine Imp.chk rfl (fun _ => ?_)
      refine Imp.chk rfl (fun _ => ?_)
      refine Imp.call rfl (ei_sl9Words [105, 109, 103] p.xImages _) (fun r4 _ => ?_)
      refine Imp.chk rfl (fun _ => ?_)
      refine Imp.br rfl ?_ ?_
      · refine Imp.chk rfl (fun _ => ?_)
        refine Imp.chk rfl (fun _ => ?_)
        exact Imp.ret rfl
      · exact Imp.ret rfl
noncomputable def sParsePolicy (s : List UInt8) : Option (TPolicy × Bool) :=
 br (s == []) (
 some ((⟨false, [], [], [], []⟩ : TPolicy), true)
 ) (
 (sl5Split s 59).bind fun (r1 : List (List UInt8)) =>
 br (decide ((r1.length : Int) < 3)) (
 some ((⟨false, [], [], [], []⟩ : TPolicy), false)
 ) (
 chk (0 ≤ (0 : Int) ∧ 0 < r1.length) <|
 (getI r1 (0 : Int)).bind fun (e2 : List UInt8) =>
 (sl5Split e2 32).bind fun (r3 : List (List UInt8)) =>
 chk (0 ≤ (1 : Int) ∧ (1 : Int) ≤ (r3.length : Int) ∧ (r3.length : Int) ≤ (r3.length : Int)) <|
 chk (0 ≤ (1 : Int) ∧ 1 < r1.length) <|
 (getI r1 (1 : Int)).bind fun (e4 : List UInt8) =>
 (sl5Split e4 32).bind fun (r5 : List (List UInt8)) =>
 chk (0 ≤ (1 : Int) ∧ (1 : Int) ≤ (r5.length : Int) ∧ (r5.length : Int) ≤ (r5.length : Int)) <|
 chk (0 ≤ (2 : Int) ∧ 2 < r1.length) <|
 (getI r1 (2 : Int)).bind fun (e6 : List UInt8) =>
 (sl5Split e6 32).bind fun (r7 : List (List UInt8)) =>
 chk (0 ≤ (1 : Int) ∧ (1 : Int) ≤ (r7.length : Int) ∧ (r7.length : Int) ≤ (r7.length : Int)) <|
 br (decide ((r1.length : Int) > 3)) (
 chk (0 ≤ (3 : Int) ∧ 3 < r1.length) <|
 (getI r1 (3 : Int)).bind fun (e8 : List UInt8) =>
 br (decide ((e8.length : Int) > 6)) (
 chk (0 ≤ (3 : Int) ∧ 3 < r1.length) <|
 (getI r1 (3 : Int)).bind fun (e9 : List UInt8) =>
 chk (0 ≤ (6 : Int) ∧ (6 : Int) ≤ (e9.length : Int) ∧ (e9.length : Int) ≤ (e9.length : Int)) <|
 (sFormatPolicy (⟨true, ((r3.take ((r3.length : Int).toNat)).drop 1), ((r5.take ((r5.length : Int).toNat)).drop 1), ((r7.take ((r7.length : Int).toNat)).drop 1), ((e9.take ((e9.length : Int).toNat)).drop 6)⟩ : TPolicy)).bind fun (r10 : List UInt8) =>
 br (!(r10 == s)) (
 some ((⟨false, [], [], [], []⟩ : TPolicy), false)
 ) (
 some ((⟨true, ((r3.take ((r3.length : Int).toNat)).drop 1), ((r5.take ((r5.length : Int).toNat)).drop 1), ((r7.take ((r7.length : Int).toNat)).drop 1), ((e9.take ((e9.length : Int).toNat)).drop 6)⟩ : TPolicy), true)
 )
 ) (
 (sFormatPolicy (⟨true, ((r3.take ((r3.length : Int).toNat)).drop 1), ((r5.take ((r5.length : Int).toNat)).drop 1), ((r7.take ((r7.length : Int).toNat)).drop 1), []⟩ : TPolicy)).bind fun (r11 : List UInt8) =>
 br (!(r11 == s)) (
 some ((⟨false, [], [], [], []⟩ : TPolicy), false)
 ) (
 some ((⟨true, ((r3.take ((r3.length : Int).toNat)).drop 1), ((r5.take ((r5.length : Int).toNat)).drop 1), ((r7.take ((r7.length : Int).toNat)).drop 1), []⟩ : TPolicy), true)
 )
 )
 ) (
 (sFormatPolicy (⟨true, ((r3.take ((r3.length : Int).toNat)).drop 1), ((r5.take ((r5.length : Int).toNat)).drop 1), ((r7.take ((r7.length : Int).toNat)).drop 1), []⟩ : TPolicy)).bind fun (r12 : List UInt8) =>
 br (!(r12 == s)) (
 some ((⟨false, [], [], [], []⟩ : TPolicy), false)
 ) (
 some ((⟨true, ((r3.take ((r3.length : Int).toNat)).drop 1), ((r5.take ((r5.length : Int).toNat)).drop 1), ((r7.take ((r7.length : Int).toNat)).drop 1), []⟩ : TPolicy), true)
 )
 )
 )
 )
theorem ei_sParsePolicy (s : List UInt8) (k : Bool → List V → List V → List V → List UInt8 → Bool → Option β) : Imp (F143 β s k) (sParsePolicy s) (fun r => k r.1.xSet (rStr r.1.xScripts) (rStr r.1.xStyles) (rStr r.1.xImages) r.1.xNonce r.2) := by
  delta F143 P143 sParsePolicy
  refine Imp.br rfl ?_ ?_
  · exact Imp.ret rfl
  · refine Imp.call rfl (ei_sl5Split s 59 _) (fun r1 _ => ?_)
    refine Imp.br (c1 (fun z0 : Nat => (decide ((z0 : Int) < 3))) (U_len (kd := .str) (g1 := fun e => e) r1)) ?_ ?_
    · exact Imp.ret rfl
    · refine Imp.chk (c1 (fun z0 : Nat => 0 ≤ (0 : Int) ∧ 0 < z0) (U_len (kd := .str) (g1 := fun e => e) r1)) (fun _ => ?_)
      refine Imp.idxAt1 (kd := .str) (g1 := fun e => e) rfl rfl (fun e2 => rfl) (fun e2 _ => ?_)
      refine Imp.call rfl (ei_sl5Split e2 32 _) (fun r3 _ => ?_)
      refine Imp.chk (c3 (fun z0 z1 z2 : Nat => 0 ≤ (1 : Int) ∧ (1 : Int) ≤ (z0 : Int) ∧ (z1 : Int) ≤ (z2 : Int)) (U_len (kd := .str) (g1 := fun e => e) r3) (U_len (kd := .str) (g1 := fun e => e) r3) (U_len (kd := .str) (g1 := fun e => e) r3)) (fun _ => ?_)
      refine Imp.chk (c1 (fun z0 : Nat => 0 ≤ (1 : Int) ∧ 1 < z0) (U_len (kd := .str) (g1 := fun e => e) r1)) (fun _ => ?_)
      refine Imp.idxAt1 (kd := .str) (g1 := fun e => e) rfl rfl (fun e4 => rfl) (fun e4 _ => ?_)
      refine Imp.call rfl (ei_sl5Split e4 32 _) (fun r5 _ => ?_)
      refine Imp.chk (c3 (fun z0 z1 z2 : Nat => 0 ≤ (1 : Int) ∧ (1 : Int) ≤ (z0 : Int) ∧ (z1 : Int) ≤ (z2 : Int)) (U_len (kd := .str) (g1 := fun e => e) r5) (U_len (kd := .str) (g1 := fun e => e) r5) (U_len (kd := .str) (g1 := fun e => e) r5)) (fun _ => ?_)
      refine Imp.chk (c1 (fun z0 : Nat => 0 ≤ (2 : Int) ∧ 2 < z0) (U_len (kd := .str) (g1 := fun e => e) r1)) (fun _ => ?_)
      refine Imp.idxAt1 (kd := .str) (g1 := fun e => e) rfl rfl (fun e6 => rfl) (fun e6 _ => ?_)
      refine Imp.call rfl (ei_sl5Split e6 32 _) (fun r7 _ => ?_)
      refine Imp.chk (c3 (fun z0 z1 z2 : Nat => 0 ≤ (1 : Int) ∧ (1 : Int) ≤ (z0 : Int) ∧ (z1 : Int) ≤ (z2 : Int)) (U_len (kd := .str) (g1 := fun e => e) r7) (U_len (kd := .str) (g1 := fun e => e) r7) (U_len (kd := .str) (g1 := fun e => e) r7)) (fun _ => ?_)
      refine Imp.br (c1 (fun z0 : Nat => (decide ((z0 : Int) > 3))) (U_len (kd := .str) (g1 := fun e => e) r1)) ?_ ?_
      · refine Imp.chk (c1 (fun z0 : Nat => 0 ≤ (3 : Int) ∧ 3 < z0) (U_len (kd := .str) (g1 := fun e => e) r1)) (fun _ => ?_)
        refine Imp.idxAt1 (kd := .str) (g1 := fun e => e) rfl rfl (fun e8 => rfl) (fun e8 _ => ?_)
        refine Imp.br rfl ?_ ?_
        · refine Imp.chk (c1 (fun z0 : Nat => 0 ≤ (3 : Int) ∧ 3 < z0) (U_len (kd := .str) (g1 := fun e => e) r1)) (fun _ => ?_)
          refine Imp.idxAt1 (kd := .str) (g1 := fun e => e) rfl rfl (fun e9 => rfl) (fun e9 _ => ?_)
          refine Imp.chk rfl (fun _ => ?_)
          refine Imp.call (c3 (fun (w1 : List V) (w2 : List V) (w3 : List V) => F174 _ true w1 w2 w3 ((e9.take ((e9.length : Int).toNat)).drop 6)) ((c3 (fun (u : List V) (a b : Nat) => (u.take a).drop b) rfl (c1 (fun z0 : Nat => ((z0 : Int).toNat)) (U_len (kd := .str) (g1 := fun e => e) r3)) rfl).trans (U_cut (kd := .str) (g1 := fun e => e) r3 ((r3.length : Int).toNat) 1)) ((c3 (fun (u : List V) (a b : Nat) => (u.take a).drop b) rfl (c1 (fun z0 : Nat => ((z0 : Int).toNat)) (U_len (kd := .str) (g1 := fun e => e) r5)) rfl).trans (U_cut (kd := .str) (g1 := fun e => e) r5 ((r5.length : Int).toNat) 1)) ((c3 (fun (u : List V) (a b : Nat) => (u.take a).drop b) rfl (c1 (fun z0 : Nat => ((z0 : Int).toNat)) (U_len (kd := .str) (g1 := fun e => e) r7)) rfl).trans (U_cut (kd := .str) (g1 := fun e => e) r7 ((r7.length : Int).toNat) 1))) (ei_sFormatPolicy (⟨true, ((r3.take ((r3.length : Int).toNat)).drop 1), ((r5.take ((r5.length : Int).toNat)).drop 1), ((r7.take ((r7.length : Int).toNat)).drop 1), ((e9.take ((e9.length : Int).toNat)).drop 6)⟩ : TPolicy) _) (fun r10 _ => ?_)
          refine Imp.br rfl ?_ ?_
          · exact Imp.ret rfl
          · exact Imp.ret (c3 (fun (h1 : List V) (h2 : List V) (h3 : List V) => k true h1 h2 h3 ((e9.take ((e9.length : Int).toNat)).drop 6) true) ((c3 (fun (u : List V) (a b : Nat) => (u.take a).drop b) rfl (c1 (fun z0 : Nat => ((z0 : Int).toNat)) (U_len (kd := .str) (g1 := fun e => e) r3)) rfl).trans (U_cut (kd := .str) (g1 := fun e => e) r3 ((r3.length : Int).toNat) 1)) ((c3 (fun (u : List V) (a b : Nat) => (u.take a).drop b) rfl (c1 (fun z0 : Nat => ((z0 : Int).toNat)) (U_len (kd := .str) (g1 := fun e => e) r5)) rfl).trans (U_cut (kd := .str) (g1 := fun e => e) r5 ((r5.length : Int).toNat) 1)) ((c3 (fun (u : List V) (a b : Nat) => (u.take a).drop b) rfl (c1 (fun z0 : Nat => ((z0 : Int).toNat)) (U_len (kd := .str) (g1 := fun e => e) r7)) rfl).trans (U_cut (kd := .str) (g1 := fun e => e) r7 ((r7.length : Int).toNat) 1)))
        · refine Imp.call (c3 (fun (w1 : List V) (w2 : List V) (w3 : List V) => F174 _ true w1 w2 w3 []) ((c3 (fun (u : List V) (a b : Nat) => (u.take a).drop b) rfl (c1 (fun z0 : Nat => ((z0 : Int).toNat)) (U_len (kd := .str) (g1 := fun e => e) r3)) rfl).trans (U_cut (kd := .str) (g1 := fun e => e) r3 ((r3.length : Int).toNat) 1)) ((c3 (fun (u : List V) (a b : Nat) => (u.take a).drop b) rfl (c1 (fun z0 : Nat => ((z0 : Int).toNat)) (U_len (kd := .str) (g1 := fun e => e) r5)) rfl).trans (U_cut (kd := .str) (g1 := fun e => e) r5 ((r5.length : Int).toNat) 1)) ((c3 (fun (u : List V) (a b : Nat) => (u.take a).drop b) rfl (c1 (fun z0 : Nat => ((z0 : Int).toNat)) (U_len (kd := .str) (g1 := fun e => e) r7)) rfl).trans (U_cut (kd := .str) (g1 := fun e => e) r7 ((r7.length : Int).toNat) 1))) (ei_sFormatPolicy (⟨true, ((r3.take ((r3.length : Int).toNat)).drop 1), ((r5.take ((r5.length : Int).toNat)).drop 1), ((r7.take ((r7.length : Int).toNat)).drop 1), []⟩ : TPolicy) _) (fun r11 _ => ?_)
          refine Imp.br rfl ?_ ?_
          · exact Imp.ret rfl
          · exact Imp.ret (c3 (fun (h1 : List V) (h2 : List V) (h3 : List V) => k true h1 h2 h3 [] true) ((c3 (fun (u : List V) (a b : Nat) => (u.take a).drop b) rfl (c1 (fun z0 : Nat => ((z0 : Int).toNat)) (U_len (kd := .str) (g1 := fun e => e) r3)) rfl).trans (U_cut (kd := .str) (g1 := fun e => e) r3 ((r3.length : Int).toNat) 1)) ((c3 (fun (u : List V) (a b : Nat) => (u.take a).drop b) rfl (c1 (fun z0 : Nat => ((z0 : Int).toNat)) (U_len (kd := .str) (g1 := fun e => e) r5)) rfl).trans (U_cut (kd := .str) (g1 := fun e => e) r5 ((r5.length : Int).toNat) 1)) ((c3 (fun (u : List V) (a b : Nat) => (u.take a).drop b) rfl (c1 (fun z0 : Nat => ((z0 : Int).toNat)) (U_len (kd := .str) (g1 := fun e => e) r7)) rfl).trans (U_cut (kd := .str) (g1 := fun e => e) r7 ((r7.length : Int).toNat) 1)))
      · refine Imp.call (c3 (fun (w1 : List V) (w2 : List V) (w3 : List V) => F174 _ true w1 w2 w3 []) ((c3 (fun (u : List V) (a b : Nat) => (u.take a).drop b) rfl (c1 (fun z0 : Nat => ((z0 : Int).toNat)) (U_len (kd := .str) (g1 := fun e => e) r3)) rfl).trans (U_cut (kd := .str) (g1 := fun e => e) r3 ((r3.length : Int).toNat) 1)) ((c3 (fun (u : List V) (a b : Nat) => (u.take a).drop b) rfl (c1 (fun z0 : Nat => ((z0 : Int).toNat)) (U_len (kd := .str) (g1 := fun e => e) r5)) rfl).trans (U_cut (kd := .str) (g1 := fun e => e) r5 ((r5.length : Int).toNat) 1)) ((c3 (fun (u : List V) (a b : Nat) => (u.take a).drop b) rfl (c1 (fun z0 : Nat => ((z0 : Int).toNat)) (U_len (kd := .str) (g1 := fun e => e) r7)) rfl).trans (U_cut (kd := .str) (g1 := fun e => e) r7 ((r7.length : Int).toNat) 1))) (ei_sFormatPolicy (⟨true, ((r3.take ((r3.length : Int).toNat)).drop 1), ((r5.take ((r5.length : Int).toNat)).drop 1), ((r7.take ((r7.length : Int).toNat)).drop 1), []⟩ : TPolicy) _) (fun r12 _ => ?_)
        refine Imp.br rfl ?_ ?_
        · exact Imp.ret rfl
        · exact Imp.ret (c3 (fun (h1 : List V) (h2 : List V) (h3 : List V) => k true h1 h2 h3 [] true) ((c3 (fun (u : List V) (a b : Nat) => (u.take a).drop b) rfl (c1 (fun z0 : Nat => ((z0 : Int).toNat)) (U_len (kd := .str) (g1 := fun e => e) r3)) rfl).trans (U_cut (kd := .str) (g1 := fun e => e) r3 ((r3.length : Int).toNat) 1)) ((c3 (fun (u : List V) (a b : Nat) => (u.take a).drop b) rfl (c1 (fun z0 : Nat => ((z0 : Int).toNat)) (U_len (kd := .str) (g1 := fun e => e) r5)) rfl).trans (U_cut (kd := .str) (g1 := fun e => e) r5 ((r5.length : Int).toNat) 1)) ((c3 (fun (u : List V) (a b : Nat) => (u.take a).drop b) rfl (c1 (fun z0 : Nat => ((z0 : Int).toNat)) (U_len (kd := .str) (g1 := fun e => e) r7)) rfl).trans (U_cut (kd := .str) (g1 := fun e => e) r7 ((r7.length : Int).toNat) 1)))
noncomputable def sIsResponse (x : TResponse) : Option Bool :=
 (sParsePolicy x.xPolicy).bind fun (r1 : TPolicy × Bool) =>
 (sl1In x.xStatus 100 599).bind fun (r7 : Bool) =>
 br r7 (
 (sl1In x.xKind 1 5).bind fun (r8 : Bool) =>
 br r8 (
 br (decide ((x.xBody.length : Int) ≤ 400)) (
 (sl1In x.xAge 0 1000).bind fun (r9 : Bool) =>
 br r9 (
 some r1.2
 ) (
 some false
 )
 ) (
 some false
 )
 ) (
 some false
 )
 ) (
 some false
 )
theorem ei_sIsResponse (x : TResponse) (k : Bool → Option β) : Imp (F92 β x.xStatus x.xKind x.xBody x.xAge x.xShares x.xPolicy k) (sIsResponse x) (fun r => k r) := by
  delta F92 P92 sIsResponse
  refine Imp.call rfl (ei_sParsePolicy x.xPolicy _) (fun r1 _ => ?_)
  refine Imp.call rfl (ei_sl1In x.xStatus 100 599 _) (fun r7 _ => ?_)
  refine Imp.br rfl ?_ ?_
  · refine Imp.call rfl (ei_sl1In x.xKind 1 5 _) (fun r8 _ => ?_)
    refine Imp.br rfl ?_ ?_
    · refine Imp.br rfl ?_ ?_
      · refine Imp.call rfl (ei_sl1In x.xAge 0 1000 _) (fun r9 _ => ?_)
        refine Imp.br rfl ?_ ?_
        · exact Imp.ret rfl
        · exact Imp.ret rfl
      · exact Imp.ret rfl
    · exact Imp.ret rfl
  · exact Imp.ret rfl
noncomputable def sIsServer (s : TServer) : Option Bool :=
 (forE s.xFiles (fun (i_1 : Nat) (x_1 : TFile) (s1 : Unit) => (
 (sIsName x_1.xPath).bind fun (r3 : Bool) =>
 br (!r3) (
 some (.inr (.inl ()))
 ) (
 (sIsResponse x_1.xResponse).bind fun (r5 : Bool) =>
 br (!r5) (
 some (.inr (.inl ()))
 ) (
 (forI (i_1 : Int) (fun (i_6 : Nat) (s6 : Unit) => (
 (getI s.xFiles (i_6 : Int)).bind fun (e7 : TFile) =>
 br (e7.xPath == x_1.xPath) (
 some (.inr (.inl ()))
 ) (
 some (.inl ())
 )
 : Option (Unit ⊕ (Unit ⊕ Unit)))) (fun (s6 : Unit) => (.inr () : Unit ⊕ Unit)) (() : Unit)).bind <|
 Sum.elim
 (fun (r9 : Unit) =>
 some (.inr (.inl ()))
 )
 (fun (r9 : Unit) =>
 some (.inl ())
 )
 )
 )
 : Option (Unit ⊕ (Unit ⊕ Unit)))) (fun (s1 : Unit) => (.inr () : Unit ⊕ Unit)) (() : Unit)).bind <|
 Sum.elim
 (fun (r10 : Unit) =>
 some false
 )
 (fun (r10 : Unit) =>
 (sIsName s.xHost).bind fun (r11 : Bool) =>
 br r11 (
 some (decide ((s.xFiles.length : Int) ≤ 10))
 ) (
 some false
 )
 )
theorem ei_sIsServer (s : TServer) (k : Bool → Option β) : Imp (F88 β s.xHost (rows kFile TFile.row s.xFiles) k) (sIsServer s) (fun r => k r) := by
  delta F88 P88 sIsServer
  refine Imp.for (enc := fun (i_1 : Nat) (s1 : Unit) => [.i (i_1 : Int), .s s.xHost, .l (rows kFile TFile.row s.xFiles)]) (encR := Sum.elim (fun (u : Unit) => (((0, [.b false, .s s.xHost, .l (rows kFile TFile.row s.xFiles)]) : Nat × List Leaf))) (fun (u : Unit) => (((1, [.s s.xHost, .l (rows kFile TFile.row s.xFiles)]) : Nat × List Leaf)))) rfl (fun i_1 x_1 s1 hx1 hl1 hm1 => Imp.brT (T_lt (ks := kFile) (g := TFile.row) hl1) ?_) (fun s1 => brN (T_irr (ks := kFile) (g := TFile.row) s.xFiles) rfl) (fun r10 => ?_)
  · refine Imp.idxFor (ks := kFile) (g := TFile.row) hx1 ?_
    refine Imp.call rfl (ei_sIsName x_1.xPath _) (fun r3 _ => ?_)
    refine Imp.br rfl ?_ ?_
    · exact Imp.ret rfl
    · refine Imp.idxFor (ks := kFile) (g := TFile.row) hx1 ?_
      refine Imp.call rfl (ei_sIsResponse x_1.xResponse _) (fun r5 _ => ?_)
      refine Imp.br rfl ?_ ?_
      · exact Imp.ret rfl
      · refine Imp.forI (enc := fun (i_6 : Nat) (s6 : Unit) => [.i (i_1 : Int), .i (i_6 : Int), .s s.xHost, .l (rows kFile TFile.row s.xFiles)]) (encR := Sum.elim (fun (u : Unit) => (((0, [.b false, .i (i_1 : Int), .s s.xHost, .l (rows kFile TFile.row s.xFiles)]) : Nat × List Leaf))) (fun (u : Unit) => (((1, [.i (i_1 : Int), .s s.xHost, .l (rows kFile TFile.row s.xFiles)]) : Nat × List Leaf)))) rfl (fun i_6 s6 hb6 hl6 hm6 => Imp.brT hb6 ?_) (fun s6 hb6 => brN hb6 rfl) (fun r9 => ?_)
        · refine Imp.idx (ks := kFile) (g := TFile.row) rfl rfl (fun e7 _ => ?_)
          refine Imp.idxFor (ks := kFile) (g := TFile.row) hx1 ?_
          refine Imp.br rfl ?_ ?_
          · exact Imp.ret rfl
          · exact Imp.ret (c1 (fun (h1 : Int) => (some (Sum.inl [.i (i_1 : Int), .i h1, .s s.xHost, .l (rows kFile TFile.row s.xFiles)]) : Option (List Leaf ⊕ (Nat × List Leaf)))) (wrapJ hl6))
        · cases r9 with
          | inl r9 =>
            refine Imp.ifT rfl ?_
            exact Imp.ret rfl
          | inr r9 =>
            refine Imp.ifF (show ¬ ((1 : Nat) = 0) by decide) ?_
            exact Imp.ret (c1 (fun (h1 : Int) => (some (Sum.inl [.i h1, .s s.xHost, .l (rows kFile TFile.row s.xFiles)]) : Option (List Leaf ⊕ (Nat × List Leaf)))) (wrapJ hl1))
  · cases r10 with
    | inl r10 =>
      refine Imp.ifT rfl ?_
      exact Imp.ret rfl
    | inr r10 =>
      refine Imp.ifF (show ¬ ((1 : Nat) = 0) by decide) ?_
      refine Imp.call rfl (ei_sIsName s.xHost _) (fun r11 _ => ?_)
      refine Imp.br rfl ?_ ?_
      · exact Imp.ret (c1 (fun (h1 : Bool) => k h1) (c1 (fun z0 : Nat => (decide ((z0 : Int) ≤ 10))) (T_len (ks := kFile) (g := TFile.row) s.xFiles)))
      · exact Imp.ret rfl
noncomputable def sl12Server (l : List TServer) (host : List UInt8) : Option Int :=
 (forE l (fun (i_1 : Nat) (x_1 : TServer) (s1 : Unit) => (
 br (x_1.xHost == host) (
 some (.inr (.inl (i_1 : Int)))
 ) (
 some (.inl ())
 )
 : Option (Unit ⊕ (Int ⊕ Unit)))) (fun (s1 : Unit) => (.inr () : Int ⊕ Unit)) (() : Unit)).bind <|
 Sum.elim
 (fun (r3 : Int) =>
 some r3
 )
 (fun (r3 : Unit) =>
 some (-1)
 )
theorem ei_sl12Server (l : List TServer) (host : List UInt8) (k : Int → Option β) : Imp (F89 β (rows kServer TServer.row l) host k) (sl12Server l host) (fun r => k r) := by
  delta F89 P89 sl12Server
  refine Imp.for (enc := fun (i_1 : Nat) (s1 : Unit) => [.l (rows kServer TServer.row l), .s host, .i (i_1 : Int)]) (encR := Sum.elim (fun (u : Int) => (((0, [.i u]) : Nat × List Leaf))) (fun (u : Unit) => (((1, []) : Nat × List Leaf)))) rfl (fun i_1 x_1 s1 hx1 hl1 hm1 => Imp.brT (T_lt (ks := kServer) (g := TServer.row) hl1) ?_) (fun s1 => brN (T_irr (ks := kServer) (g := TServer.row) l) rfl) (fun r3 => ?_)
  · refine Imp.idxFor (ks := kServer) (g := TServer.row) hx1 ?_
    refine Imp.br rfl ?_ ?_
    · exact Imp.ret rfl
    · exact Imp.ret (c1 (fun (h1 : Int) => (some (Sum.inl [.l (rows kServer TServer.row l), .s host, .i h1]) : Option (List Leaf ⊕ (Nat × List Leaf)))) (wrapJ hl1))
  · cases r3 with
    | inl r3 =>
      refine Imp.ifT rfl ?_
      exact Imp.ret rfl
    | inr r3 =>
      refine Imp.ifF (show ¬ ((1 : Nat) = 0) by decide) ?_
      exact Imp.ret rfl
noncomputable def sAreServers (l : List TServer) : Option Bool :=
 (forE l (fun (i_1 : Nat) (x_1 : TServer) (s1 : Unit) => (
 (sIsServer x_1).bind fun (r3 : Bool) =>
 br (!r3) (
 some (.inr (.inl ()))
 ) (
 (sl12Server l x_1.xHost).bind fun (r5 : Int) =>
 br (r5 != (i_1 : Int)) (
 some (.inr (.inl ()))
 ) (
 some (.inl ())
 )
 )
 : Option (Unit ⊕ (Unit ⊕ Unit)))) (fun (s1 : Unit) => (.inr () : Unit ⊕ Unit)) (() : Unit)).bind <|
 Sum.elim
 (fun (r6 : Unit) =>
 some false
 )
 (fun (r6 : Unit) =>
 some (decide ((l.length : Int) ≤ 4))
 )
theorem ei_sAreServers (l : List TServer) (k : Bool → Option β) : Imp (F39 β (rows kServer TServer.row l) k) (sAreServers l) (fun r => k r) := by
  delta F39 P39 sAreServers
  refine Imp.for (enc := fun (i_1 : Nat) (s1 : Unit) => [.l (rows kServer TServer.row l), .i (i_1 : Int)]) (encR := Sum.elim (fun (u : Unit) => (((0, [.l (rows kServer TServer.row l), .b false]) : Nat × List Leaf))) (fun (u : Unit) => (((1, [.l (rows kServer TServer.row l)]) : Nat × List Leaf)))) rfl (fun i_1 x_1 s1 hx1 hl1 hm1 => Imp.brT (T_lt (ks := kServer) (g := TServer.row) hl1) ?_) (fun s1 => brN (T_irr (ks := kServer) (g := TServer.row) l) rfl) (fun r6 => ?_)
  · refine Imp.idxFor (ks := kServer) (g := TServer.row) hx1 ?_
    refine Imp.call rfl (ei_sIsServer x_1 _) (fun r3 _ => ?_)
    refine Imp.br rfl ?_ ?_
    · exact Imp.ret rfl
    · refine Imp.idxFor (ks := kServer) (g := TServer.row) hx1 ?_
      refine Imp.call rfl (ei_sl12Server l x_1.xHost _) (fun r5 _ => ?_)
      refine Imp.br rfl ?_ ?_
      · exact Imp.ret rfl
      · exact Imp.ret (c1 (fun (h1 : Int) => (some (Sum.inl [.l (rows kServer TServer.row l), .i h1]) : Option (List Leaf ⊕ (Nat × List Leaf)))) (wrapJ hl1))
  · cases r6 with
    | inl r6 =>
      refine Imp.ifT rfl ?_
      exact Imp.ret rfl
    | inr r6 =>
      refine Imp.ifF (show ¬ ((1 : Nat) = 0) by decide) ?_
      exact Imp.ret (c1 (fun (h1 : Bool) => k h1) (c1 (fun z0 : Nat => (decide ((z0 : Int) ≤ 4))) (T_len (ks := kServer) (g := TServer.row) l)))
noncomputable def sIsAddr (a : TAddr) : Option Bool :=
 (sIsName a.xHost).bind fun (r1 : Bool) =>
 br r1 (
 (sIsName a.xPath).bind fun (r2 : Bool) =>
 some r2
 ) (
 some false
 )
theorem ei_sIsAddr (a : TAddr) (k : Bool → Option β) : Imp (F91 β a.xHost a.xPath k) (sIsAddr a) (fun r => k r) := by
  delta F91 P91 sIsAddr
  refine Imp.call rfl (ei_sIsName a.xHost _) (fun r1 _ => ?_)
  refine Imp.br rfl ?_ ?_
  · refine Imp.call rfl (ei_sIsName a.xPath _) (fun r2 _ => ?_)
    exact Imp.ret rfl
  · exact Imp.ret rfl
noncomputable def sl13Find (c : TCache) (top : List UInt8) (a : TAddr) : Option Int :=
 (forE c.xEntries (fun (i_1 : Nat) (x_1 : TEntry) (s1 : Unit) => (
 br (x_1.xTop == top) (
 br ((x_1.xTo.xHost == a.xHost) && ((x_1.xTo.xPath == a.xPath) && true)) (
 some (.inr (.inl (i_1 : Int)))
 ) (
 some (.inl ())
 )
 ) (
 some (.inl ())
 )
 : Option (Unit ⊕ (Int ⊕ Unit)))) (fun (s1 : Unit) => (.inr () : Int ⊕ Unit)) (() : Unit)).bind <|
 Sum.elim
 (fun (r4 : Int) =>
 some r4
 )
 (fun (r4 : Unit) =>
 some (-1)
 )
theorem ei_sl13Find (c : TCache) (top : List UInt8) (a : TAddr) (k : Int → Option β) : Imp (F93 β (rows kEntry TEntry.row c.xEntries) top a.xHost a.xPath k) (sl13Find c top a) (fun r => k r) := by
  delta F93 P93 sl13Find
  refine Imp.for (enc := fun (i_1 : Nat) (s1 : Unit) => [.s top, .i (i_1 : Int), .l (rows kEntry TEntry.row c.xEntries), .s a.xHost, .s a.xPath]) (encR := Sum.elim (fun (u : Int) => (((0, [.i u]) : Nat × List Leaf))) (fun (u : Unit) => (((1, []) : Nat × List Leaf)))) rfl (fun i_1 x_1 s1 hx1 hl1 hm1 => Imp.brT (T_lt (ks := kEntry) (g := TEntry.row) hl1) ?_) (fun s1 => brN (T_irr (ks := kEntry) (g := TEntry.row) c.xEntries) rfl) (fun r4 => ?_)
  · refine Imp.idxFor (ks := kEntry) (g := TEntry.row) hx1 ?_
    refine Imp.br rfl ?_ ?_
    · refine Imp.idxFor (ks := kEntry) (g := TEntry.row) hx1 ?_
      refine Imp.br rfl ?_ ?_
      · exact Imp.ret rfl
      · exact Imp.ret (c1 (fun (h1 : Int) => (some (Sum.inl [.s top, .i h1, .l (rows kEntry TEntry.row c.xEntries), .s a.xHost, .s a.xPath]) : Option (List Leaf ⊕ (Nat × List Leaf)))) (wrapJ hl1))
    · exact Imp.ret (c1 (fun (h1 : Int) => (some (Sum.inl [.s top, .i h1, .l (rows kEntry TEntry.row c.xEntries), .s a.xHost, .s a.xPath]) : Option (List Leaf ⊕ (Nat × List Leaf)))) (wrapJ hl1))
  · cases r4 with
    | inl r4 =>
      refine Imp.ifT rfl ?_
      exact Imp.ret rfl
    | inr r4 =>
      refine Imp.ifF (show ¬ ((1 : Nat) = 0) by decide) ?_
      exact Imp.ret rfl
noncomputable def sIsCache (c : TCache) : Option Bool :=
 (forE c.xEntries (fun (i_1 : Nat) (x_1 : TEntry) (s1 : Unit) => (
 (sIsName x_1.xTop).bind fun (r3 : Bool) =>
 br (!r3) (
 some (.inr (.inl ()))
 ) (
 (sIsAddr x_1.xTo).bind fun (r4 : Bool) =>
 br (!r4) (
 some (.inr (.inl ()))
 ) (
 (sIsResponse x_1.xResponse).bind fun (r5 : Bool) =>
 br (!r5) (
 some (.inr (.inl ()))
 ) (
 br (x_1.xResponse.xStatus != 200) (
 some (.inr (.inl ()))
 ) (
 (sl13Find c x_1.xTop x_1.xTo).bind fun (r6 : Int) =>
 br (r6 != (i_1 : Int)) (
 some (.inr (.inl ()))
 ) (
 some (.inl ())
 )
 )
 )
 )
 )
 : Option (Unit ⊕ (Unit ⊕ Unit)))) (fun (s1 : Unit) => (.inr () : Unit ⊕ Unit)) (() : Unit)).bind <|
 Sum.elim
 (fun (r7 : Unit) =>
 some false
 )
 (fun (r7 : Unit) =>
 some (decide ((c.xEntries.length : Int) ≤ 100))
 )
theorem ei_sIsCache (c : TCache) (k : Bool → Option β) : Imp (F40 β (rows kEntry TEntry.row c.xEntries) k) (sIsCache c) (fun r => k r) := by
  delta F40 P40 sIsCache
  refine Imp.for (enc := fun (i_1 : Nat) (s1 : Unit) => [.i (i_1 : Int), .l (rows kEntry TEntry.row c.xEntries)]) (encR := Sum.elim (fun (u : Unit) => (((0, [.b false, .l (rows kEntry TEntry.row c.xEntries)]) : Nat × List Leaf))) (fun (u : Unit) => (((1, [.l (rows kEntry TEntry.row c.xEntries)]) : Nat × List Leaf)))) rfl (fun i_1 x_1 s1 hx1 hl1 hm1 => Imp.brT (T_lt (ks := kEntry) (g := TEntry.row) hl1) ?_) (fun s1 => brN (T_irr (ks := kEntry) (g := TEntry.row) c.xEntries) rfl) (fun r7 => ?_)
  · refine Imp.idxFor (ks := kEntry) (g := TEntry.row) hx1 ?_
    refine Imp.call rfl (ei_sIsName x_1.xTop _) (fun r3 _ => ?_)
    refine Imp.br rfl ?_ ?_
    · exact Imp.ret rfl
    · refine Imp.call rfl (ei_sIsAddr x_1.xTo _) (fun r4 _ => ?_)
      refine Imp.br rfl ?_ ?_
      · exact Imp.ret rfl
      · refine Imp.call rfl (ei_sIsResponse x_1.xResponse _) (fun r5 _ => ?_)
        refine Imp.br rfl ?_ ?_
        · exact Imp.ret rfl
        · refine Imp.br rfl ?_ ?_
          · exact Imp.ret rfl
          · refine Imp.call rfl (ei_sl13Find c x_1.xTop x_1.xTo _) (fun r6 _ => ?_)
            refine Imp.br rfl ?_ ?_
            · exact Imp.ret rfl
            · exact Imp.ret (c1 (fun (h1 : Int) => (some (Sum.inl [.i h1, .l (rows kEntry TEntry.row c.xEntries)]) : Option (List Leaf ⊕ (Nat × List Leaf)))) (wrapJ hl1))
  · cases r7 with
    | inl r7 =>
      refine Imp.ifT rfl ?_
      exact Imp.ret rfl
    | inr r7 =>
      refine Imp.ifF (show ¬ ((1 : Nat) = 0) by decide) ?_
      exact Imp.ret (c1 (fun (h1 : Bool) => k h1) (c1 (fun z0 : Nat => (decide ((z0 : Int) ≤ 100))) (T_len (ks := kEntry) (g := TEntry.row) c.xEntries)))
noncomputable def sIsNet (n : TNet) : Option Bool :=
 (sAreServers n.xServers).bind fun (r1 : Bool) =>
 br r1 (
 (sIsCache n.xCache).bind fun (r2 : Bool) =>
 br r2 (
 br (decide ((n.xLog.length : Int) ≤ 400)) (
 (sl1In n.xNow 0 999999998000).bind fun (r3 : Bool) =>
 some r3
 ) (
 some false
 )
 ) (
 some false
 )
 ) (
 some false
 )
theorem ei_sIsNet (n : TNet) (k : Bool → Option β) : Imp (F15 β (rows kServer TServer.row n.xServers) (rows kEntry TEntry.row n.xCache.xEntries) (rows kSent TSent.row n.xLog) n.xNow k) (sIsNet n) (fun r => k r) := by
  delta F15 P15 sIsNet
  refine Imp.call rfl (ei_sAreServers n.xServers _) (fun r1 _ => ?_)
  refine Imp.br rfl ?_ ?_
  · refine Imp.call rfl (ei_sIsCache n.xCache _) (fun r2 _ => ?_)
    refine Imp.br rfl ?_ ?_
    · refine Imp.br (c1 (fun z0 : Nat => (decide ((z0 : Int) ≤ 400))) (T_len (ks := kSent) (g := TSent.row) n.xLog)) ?_ ?_
      · refine Imp.call rfl (ei_sl1In n.xNow 0 999999998000 _) (fun r3 _ => ?_)
        exact Imp.ret rfl
      · exact Imp.ret rfl
    · exact Imp.ret rfl
  · exact Imp.ret rfl
noncomputable def sIsTab (t : TTab) : Option Bool :=
 (forE t.xVisits (fun (i_1 : Nat) (x_1 : TVisit) (s1 : Unit) => (
 br x_1.xKept (
 br (!((x_1.xAddr.xHost == x_1.xPage.xAddr.xHost) && ((x_1.xAddr.xPath == x_1.xPage.xAddr.xPath) && true))) (
 some (.inr (.inl ()))
 ) (
 some (.inl ())
 )
 ) (
 some (.inl ())
 )
 : Option (Unit ⊕ (Unit ⊕ Unit)))) (fun (s1 : Unit) => (.inr () : Unit ⊕ Unit)) (() : Unit)).bind <|
 Sum.elim
 (fun (r5 : Unit) =>
 some false
 )
 (fun (r5 : Unit) =>
 br (decide ((t.xVisits.length : Int) ≤ 6)) (
 br ((t.xVisits.length : Int) == 0) (
 br (t.xAt == (-1)) (
 some true
 ) (
 (sl1In t.xAt 0 (IntKind.wrap .i64 ((t.xVisits.length : Int) - 1))).bind fun (r6 : Bool) =>
 some r6
 )
 ) (
 (sl1In t.xAt 0 (IntKind.wrap .i64 ((t.xVisits.length : Int) - 1))).bind fun (r7 : Bool) =>
 some r7
 )
 ) (
 some false
 )
 )
theorem ei_sIsTab (t : TTab) (k : Bool → Option β) : Imp (F16 β (rows kVisit TVisit.row t.xVisits) t.xAt k) (sIsTab t) (fun r => k r) := by
  delta F16 P16 sIsTab
  refine Imp.for (enc := fun (i_1 : Nat) (s1 : Unit) => [.i (i_1 : Int), .l (rows kVisit TVisit.row t.xVisits), .i t.xAt]) (encR := Sum.elim (fun (u : Unit) => (((0, [.b false, .l (rows kVisit TVisit.row t.xVisits), .i t.xAt]) : Nat × List Leaf))) (fun (u : Unit) => (((1, [.l (rows kVisit TVisit.row t.xVisits), .i t.xAt]) : Nat × List Leaf)))) rfl (fun i_1 x_1 s1 hx1 hl1 hm1 => Imp.brT (T_lt (ks := kVisit) (g := TVisit.row) hl1) ?_) (fun s1 => brN (T_irr (ks := kVisit) (g := TVisit.row) t.xVisits) rfl) (fun r5 => ?_)
  · refine Imp.idxFor (ks := kVisit) (g := TVisit.row) hx1 ?_
    refine Imp.br rfl ?_ ?_
    · refine Imp.idxFor (ks := kVisit) (g := TVisit.row) hx1 ?_
      refine Imp.idxFor (ks := kVisit) (g := TVisit.row) hx1 ?_
      refine Imp.br rfl ?_ ?_
      · exact Imp.ret rfl
      · exact Imp.ret (c1 (fun (h1 : Int) => (some (Sum.inl [.i h1, .l (rows kVisit TVisit.row t.xVisits), .i t.xAt]) : Option (List Leaf ⊕ (Nat × List Leaf)))) (wrapJ hl1))
    · exact Imp.ret (c1 (fun (h1 : Int) => (some (Sum.inl [.i h1, .l (rows kVisit TVisit.row t.xVisits), .i t.xAt]) : Option (List Leaf ⊕ (Nat × List Leaf)))) (wrapJ hl1))
  · cases r5 with
    | inl r5 =>
      refine Imp.ifT rfl ?_
      exact Imp.ret rfl
    | inr r5 =>
      refine Imp.ifF (show ¬ ((1 : Nat) = 0) by decide) ?_
      refine Imp.br (c1 (fun z0 : Nat => (decide ((z0 : Int) ≤ 6))) (T_len (ks := kVisit) (g := TVisit.row) t.xVisits)) ?_ ?_
      · refine Imp.br (c1 (fun z0 : Nat => ((z0 : Int) == 0)) (T_len (ks := kVisit) (g := TVisit.row) t.xVisits)) ?_ ?_
        · refine Imp.br rfl ?_ ?_
          · exact Imp.ret rfl
          · refine Imp.call (c1 (fun (w1 : Int) => F41 _ t.xAt 0 w1) (c1 (fun z0 : Nat => (IntKind.wrap .i64 ((z0 : Int) - 1))) (T_len (ks := kVisit) (g := TVisit.row) t.xVisits))) (ei_sl1In t.xAt 0 (IntKind.wrap .i64 ((t.xVisits.length : Int) - 1)) _) (fun r6 _ => ?_)
            exact Imp.ret rfl
        · refine Imp.call (c1 (fun (w1 : Int) => F41 _ t.xAt 0 w1) (c1 (fun z0 : Nat => (IntKind.wrap .i64 ((z0 : Int) - 1))) (T_len (ks := kVisit) (g := TVisit.row) t.xVisits))) (ei_sl1In t.xAt 0 (IntKind.wrap .i64 ((t.xVisits.length : Int) - 1)) _) (fun r7 _ => ?_)
          exact Imp.ret rfl
      · exact Imp.ret rfl
noncomputable def sIsWorld (w : TWorld) : Option Bool :=
 (sIsNet w.xNet).bind fun (r1 : Bool) =>
 br r1 (
 (sIsTab w.xTab).bind fun (r2 : Bool) =>
 some r2
 ) (
 some false
 )
theorem ei_sIsWorld (w : TWorld) (k : Bool → Option β) : Imp (F6 β (rows kServer TServer.row w.xNet.xServers) (rows kEntry TEntry.row w.xNet.xCache.xEntries) (rows kSent TSent.row w.xNet.xLog) w.xNet.xNow (rows kVisit TVisit.row w.xTab.xVisits) w.xTab.xAt w.xHidden.xReady w.xHidden.xPage.xAddr.xHost w.xHidden.xPage.xAddr.xPath w.xHidden.xPage.xPolicy.xSet (rStr w.xHidden.xPage.xPolicy.xScripts) (rStr w.xHidden.xPage.xPolicy.xStyles) (rStr w.xHidden.xPage.xPolicy.xImages) w.xHidden.xPage.xPolicy.xNonce w.xHidden.xPage.xTok.xRest (rows kToken TToken.row w.xHidden.xPage.xQueue) w.xHidden.xPage.xEnded (rows kNode TNode.row w.xHidden.xPage.xBuilder.xNodes) (rInt w.xHidden.xPage.xBuilder.xOpen) (rows kSlot TSlot.row w.xHidden.xPage.xSlots) (rows kModule TModule.row w.xHidden.xPage.xMods) (rows kAddr TAddr.row w.xHidden.xPage.xEntries) w.xHidden.xPage.xBlock w.xHidden.xPage.xInline w.xHidden.xPage.xDeferred w.xHidden.xPage.xEntered (rows kAddr TAddr.row w.xHidden.xPage.xRan) (rStr w.xHidden.xPage.xLog) w.xHidden.xPage.xLoaded (rows kKept TKept.row w.xHidden.xTaken) (rows kServer TServer.row w.xHidden.xServers) w.xHidden.xNow w.xFast k) (sIsWorld w) (fun r => k r) := by
  delta F6 P6 sIsWorld
  refine Imp.call rfl (ei_sIsNet w.xNet _) (fun r1 _ => ?_)
  refine Imp.br rfl ?_ ?_
  · refine Imp.call rfl (ei_sIsTab w.xTab _) (fun r2 _ => ?_)
    exact Imp.ret rfl
  · exact Imp.ret rfl
noncomputable def iInRange (n : Int) (low : Int) (high : Int) : Option Bool :=
 br (decide (low ≤ n)) (
 some (decide (n ≤ high))
 ) (
 some false
 )
theorem ei_iInRange (n : Int) (low : Int) (high : Int) (k : Bool → Option β) : Imp (F50 β n low high k) (iInRange n low high) (fun r => k r) := by
  delta F50 P50 iInRange
  refine Imp.br rfl ?_ ?_
  · exact Imp.ret rfl
  · exact Imp.ret rfl
noncomputable def iIsName (s : List UInt8) : Option Bool :=
 (forE s (fun (i_1 : Nat) (x_1 : UInt8) (s1 : Unit) => (
 br (decide ((x_1.toNat : Int) < 97)) (
 some (.inr (.inl ()))
 ) (
 br (decide ((x_1.toNat : Int) > 122)) (
 some (.inr (.inl ()))
 ) (
 some (.inl ())
 )
 )
 : Option (Unit ⊕ (Unit ⊕ Unit)))) (fun (s1 : Unit) => (.inr () : Unit ⊕ Unit)) (() : Unit)).bind <|
 Sum.elim
 (fun (r4 : Unit) =>
 some false
 )
 (fun (r4 : Unit) =>
 (iInRange (s.length : Int) 1 8).bind fun (r5 : Bool) =>
 some r5
 )
theorem ei_iIsName (s : List UInt8) (k : Bool → Option β) : Imp (F110 β s k) (iIsName s) (fun r => k r) := by
  delta F110 P110 iIsName
  refine Imp.for (enc := fun (i_1 : Nat) (s1 : Unit) => [.s s, .i (i_1 : Int)]) (encR := Sum.elim (fun (u : Unit) => (((0, [.s s, .b false]) : Nat × List Leaf))) (fun (u : Unit) => (((1, [.s s]) : Nat × List Leaf)))) rfl (fun i_1 x_1 s1 hx1 hl1 hm1 => Imp.brT (Int.ofNat_lt.2 hl1) ?_) (fun s1 => brN (Int.lt_irrefl _) rfl) (fun r4 => ?_)
  · refine Imp.idxSFor hx1 ?_
    refine Imp.br rfl ?_ ?_
    · exact Imp.ret rfl
    · refine Imp.idxSFor hx1 ?_
      refine Imp.br rfl ?_ ?_
      · exact Imp.ret rfl
      · exact Imp.ret (c1 (fun (h1 : Int) => (some (Sum.inl [.s s, .i h1]) : Option (List Leaf ⊕ (Nat × List Leaf)))) (wrapJ hl1))
  · cases r4 with
    | inl r4 =>
      refine Imp.ifT rfl ?_
      exact Imp.ret rfl
    | inr r4 =>
      refine Imp.ifF (show ¬ ((1 : Nat) = 0) by decide) ?_
      refine Imp.call rfl (ei_iInRange (s.length : Int) 1 8 _) (fun r5 _ => ?_)
      exact Imp.ret rfl
noncomputable def ifileAt_1_iptr (f : TFile) (c1_1 : List UInt8) : Option Bool :=
 some (f.xPath == c1_1)
theorem ei_ifileAt_1_iptr (f : TFile) (c1_1 : List UInt8) (k : Bool → Option β) : Imp (F179cAs β f.xPath f.xResponse.xStatus f.xResponse.xKind f.xResponse.xBody f.xResponse.xAge f.xResponse.xShares f.xResponse.xPolicy c1_1 k) (ifileAt_1_iptr f c1_1) (fun r => k r) := by
  delta F179cAs P179cAs ifileAt_1_iptr
  exact Imp.ret rfl
noncomputable def g_slices_IndexFunc_File_File_ifileAt_1 (s : List TFile) (f_1 : List UInt8) : Option Int :=
 (forE s (fun (i_1 : Nat) (x_1 : TFile) (s1 : Unit) => (
 (ifileAt_1_iptr x_1 f_1).bind fun (r3 : Bool) =>
 br r3 (
 some (.inr (.inl (i_1 : Int)))
 ) (
 some (.inl ())
 )
 : Option (Unit ⊕ (Int ⊕ Unit)))) (fun (s1 : Unit) => (.inr () : Int ⊕ Unit)) (() : Unit)).bind <|
 Sum.elim
 (fun (r4 : Int) =>
 some r4
 )
 (fun (r4 : Unit) =>
 some (-1)
 )
theorem ei_g_slices_IndexFunc_File_File_ifileAt_1 (s : List TFile) (f_1 : List UInt8) (k : Int → Option β) : Imp (F178c179 β (rows kFile TFile.row s) f_1 k) (g_slices_IndexFunc_File_File_ifileAt_1 s f_1) (fun r => k r) := by
  delta F178c179 P178c179 g_slices_IndexFunc_File_File_ifileAt_1
  refine Imp.for (enc := fun (i_1 : Nat) (s1 : Unit) => [.l (rows kFile TFile.row s), .s f_1, .i (s.length : Int), .i (i_1 : Int)]) (encR := Sum.elim (fun (u : Int) => (((0, [.i u]) : Nat × List Leaf))) (fun (u : Unit) => (((1, []) : Nat × List Leaf)))) (c1 (fun (h1 : Int) => ([.l (rows kFile TFile.row s), .s f_1, .i h1, .i 0] : List Leaf)) (c1 (fun z0 : Nat => (z0 : Int)) (T_len (ks := kFile) (g := TFile.row) s))) (fun i_1 x_1 s1 hx1 hl1 hm1 => Imp.brT (Int.ofNat_lt.2 hl1) ?_) (fun s1 => brN (Int.lt_irrefl _) rfl) (fun r4 => ?_)
  · refine Imp.idxFor (ks := kFile) (g := TFile.row) hx1 ?_
    refine Imp.call rfl (ei_ifileAt_1_iptr x_1 f_1 _) (fun r3 _ => ?_)
    refine Imp.br rfl ?_ ?_
    · exact Imp.ret rfl
    · exact Imp.ret (c1 (fun (h1 : Int) => (some (Sum.inl [.l (rows kFile TFile.row s), .s f_1, .i (s.length : Int), .i h1]) : Option (List Leaf ⊕ (Nat × List Leaf)))) (wrapJ hl1))
  · cases r4 with
    | inl r4 =>
      refine Imp.ifT rfl ?_
      exact Imp.ret rfl
    | inr r4 =>
      refine Imp.ifF (show ¬ ((1 : Nat) = 0) by decide) ?_
      exact Imp.ret rfl
noncomputable def ifileAt (s : TServer) (path : List UInt8) : Option Int :=
 (g_slices_IndexFunc_File_File_ifileAt_1 s.xFiles path).bind fun (r1 : Int) =>
 some r1
theorem ei_ifileAt (s : TServer) (path : List UInt8) (k : Int → Option β) : Imp (F152 β s.xHost (rows kFile TFile.row s.xFiles) path k) (ifileAt s path) (fun r => k r) := by
  delta F152 P152 ifileAt
  refine Imp.call rfl (ei_g_slices_IndexFunc_File_File_ifileAt_1 s.xFiles path _) (fun r1 _ => ?_)
  exact Imp.ret rfl
noncomputable def iareHosts_1 (s : List UInt8) : Option Bool :=
 (iIsName s).bind fun (r1 : Bool) =>
 some (!r1)
theorem ei_iareHosts_1 (s : List UInt8) (k : Bool → Option β) : Imp (F232 β s k) (iareHosts_1 s) (fun r => k r) := by
  delta F232 P232 iareHosts_1
  refine Imp.call rfl (ei_iIsName s _) (fun r1 _ => ?_)
  exact Imp.ret rfl
noncomputable def g_slices_IndexFunc_string_string_iareHosts_1 (s : List (List UInt8)) : Option Int :=
 (forE s (fun (i_1 : Nat) (x_1 : List UInt8) (s1 : Unit) => (
 (iareHosts_1 x_1).bind fun (r3 : Bool) =>
 br r3 (
 some (.inr (.inl (i_1 : Int)))
 ) (
 some (.inl ())
 )
 : Option (Unit ⊕ (Int ⊕ Unit)))) (fun (s1 : Unit) => (.inr () : Int ⊕ Unit)) (() : Unit)).bind <|
 Sum.elim
 (fun (r4 : Int) =>
 some r4
 )
 (fun (r4 : Unit) =>
 some (-1)
 )
theorem ei_g_slices_IndexFunc_string_string_iareHosts_1 (s : List (List UInt8)) (k : Int → Option β) : Imp (F241c232 β (rStr s) k) (g_slices_IndexFunc_string_string_iareHosts_1 s) (fun r => k r) := by
  delta F241c232 P241c232 g_slices_IndexFunc_string_string_iareHosts_1
  refine Imp.for (enc := fun (i_1 : Nat) (s1 : Unit) => [.l (rStr s), .i (s.length : Int), .i (i_1 : Int)]) (encR := Sum.elim (fun (u : Int) => (((0, [.i u]) : Nat × List Leaf))) (fun (u : Unit) => (((1, []) : Nat × List Leaf)))) (c1 (fun (h1 : Int) => ([.l (rStr s), .i h1, .i 0] : List Leaf)) (c1 (fun z0 : Nat => (z0 : Int)) (U_len (kd := .str) (g1 := fun e => e) s))) (fun i_1 x_1 s1 hx1 hl1 hm1 => Imp.brT (Int.ofNat_lt.2 hl1) ?_) (fun s1 => brN (Int.lt_irrefl _) rfl) (fun r4 => ?_)
  · refine Imp.idxFor1 (kd := .str) (g1 := fun e => e) hx1 ?_
    refine Imp.call rfl (ei_iareHosts_1 x_1 _) (fun r3 _ => ?_)
    refine Imp.br rfl ?_ ?_
    · exact Imp.ret rfl
    · exact Imp.ret (c1 (fun (h1 : Int) => (some (Sum.inl [.l (rStr s), .i (s.length : Int), .i h1]) : Option (List Leaf ⊕ (Nat × List Leaf)))) (wrapJ hl1))
  · cases r4 with
    | inl r4 =>
      refine Imp.ifT rfl ?_
      exact Imp.ret rfl
    | inr r4 =>
      refine Imp.ifF (show ¬ ((1 : Nat) = 0) by decide) ?_
      exact Imp.ret rfl
noncomputable def g_slices_ContainsFunc_string_string_iareHosts_1 (s : List (List UInt8)) : Option Bool :=
 (g_slices_IndexFunc_string_string_iareHosts_1 s).bind fun (r1 : Int) =>
 some (decide (r1 ≥ 0))
theorem ei_g_slices_ContainsFunc_string_string_iareHosts_1 (s : List (List UInt8)) (k : Bool → Option β) : Imp (F231c232 β (rStr s) k) (g_slices_ContainsFunc_string_string_iareHosts_1 s) (fun r => k r) := by
  delta F231c232 P231c232 g_slices_ContainsFunc_string_string_iareHosts_1
  refine Imp.call rfl (ei_g_slices_IndexFunc_string_string_iareHosts_1 s _) (fun r1 _ => ?_)
  exact Imp.ret rfl
noncomputable def iareHosts (l : List (List UInt8)) : Option Bool :=
 br (decide ((l.length : Int) ≤ 4)) (
 (g_slices_ContainsFunc_string_string_iareHosts_1 l).bind fun (r1 : Bool) =>
 some (!r1)
 ) (
 some false
 )
theorem ei_iareHosts (l : List (List UInt8)) (k : Bool → Option β) : Imp (F216 β (rStr l) k) (iareHosts l) (fun r => k r) := by
  delta F216 P216 iareHosts
  refine Imp.br (c1 (fun z0 : Nat => (decide ((z0 : Int) ≤ 4))) (U_len (kd := .str) (g1 := fun e => e) l)) ?_ ?_
  · refine Imp.call rfl (ei_g_slices_ContainsFunc_string_string_iareHosts_1 l _) (fun r1 _ => ?_)
    exact Imp.ret rfl
  · exact Imp.ret rfl
noncomputable def iIsValue (s : List UInt8) : Option Bool :=
 (forE s (fun (i_1 : Nat) (x_1 : UInt8) (s1 : Unit) => (
 br (decide ((x_1.toNat : Int) ≥ 97)) (
 br (decide ((x_1.toNat : Int) ≤ 122)) (
 some (.inl ())
 ) (
 br (decide ((x_1.toNat : Int) ≥ 48)) (
 br (decide ((x_1.toNat : Int) ≤ 57)) (
 some (.inl ())
 ) (
 br (!((x_1.toNat : Int) == 47)) (
 some (.inr (.inl ()))
 ) (
 some (.inl ())
 )
 )
 ) (
 br (!((x_1.toNat : Int) == 47)) (
 some (.inr (.inl ()))
 ) (
 some (.inl ())
 )
 )
 )
 ) (
 br (decide ((x_1.toNat : Int) ≥ 48)) (
 br (decide ((x_1.toNat : Int) ≤ 57)) (
 some (.inl ())
 ) (
 br (!((x_1.toNat : Int) == 47)) (
 some (.inr (.inl ()))
 ) (
 some (.inl ())
 )
 )
 ) (
 br (!((x_1.toNat : Int) == 47)) (
 some (.inr (.inl ()))
 ) (
 some (.inl ())
 )
 )
 )
 : Option (Unit ⊕ (Unit ⊕ Unit)))) (fun (s1 : Unit) => (.inr () : Unit ⊕ Unit)) (() : Unit)).bind <|
 Sum.elim
 (fun (r12 : Unit) =>
 some false
 )
 (fun (r12 : Unit) =>
 (iInRange (s.length : Int) 1 20).bind fun (r13 : Bool) =>
 some r13
 )
theorem ei_iIsValue (s : List UInt8) (k : Bool → Option β) : Imp (F217 β s k) (iIsValue s) (fun r => k r) := by
  delta F217 P217 iIsValue
  refine Imp.for (enc := fun (i_1 : Nat) (s1 : Unit) => [.s s, .i (i_1 : Int)]) (encR := Sum.elim (fun (u : Unit) => (((0, [.s s, .b false]) : Nat × List Leaf))) (fun (u : Unit) => (((1, [.s s]) : Nat × List Leaf)))) rfl (fun i_1 x_1 s1 hx1 hl1 hm1 => Imp.brT (Int.ofNat_lt.2 hl1) ?_) (fun s1 => brN (Int.lt_irrefl _) rfl) (fun r12 => ?_)
  · refine Imp.idxSFor hx1 ?_
    refine Imp.br rfl ?_ ?_
    · refine Imp.idxSFor hx1 ?_
      refine Imp.br rfl ?_ ?_
      · exact Imp.ret (c1 (fun (h1 : Int) => (some (Sum.inl [.s s, .i h1]) : Option (List Leaf ⊕ (Nat × List Leaf)))) (wrapJ hl1))
      · refine Imp.idxSFor hx1 ?_
        refine Imp.br rfl ?_ ?_
        · refine Imp.idxSFor hx1 ?_
          refine Imp.br rfl ?_ ?_
          · exact Imp.ret (c1 (fun (h1 : Int) => (some (Sum.inl [.s s, .i h1]) : Option (List Leaf ⊕ (Nat × List Leaf)))) (wrapJ hl1))
          · refine Imp.idxSFor hx1 ?_
            refine Imp.br rfl ?_ ?_
            · exact Imp.ret rfl
            · exact Imp.ret (c1 (fun (h1 : Int) => (some (Sum.inl [.s s, .i h1]) : Option (List Leaf ⊕ (Nat × List Leaf)))) (wrapJ hl1))
        · refine Imp.idxSFor hx1 ?_
          refine Imp.br rfl ?_ ?_
          · exact Imp.ret rfl
          · exact Imp.ret (c1 (fun (h1 : Int) => (some (Sum.inl [.s s, .i h1]) : Option (List Leaf ⊕ (Nat × List Leaf)))) (wrapJ hl1))
    · refine Imp.idxSFor hx1 ?_
      refine Imp.br rfl ?_ ?_
      · refine Imp.idxSFor hx1 ?_
        refine Imp.br rfl ?_ ?_
        · exact Imp.ret (c1 (fun (h1 : Int) => (some (Sum.inl [.s s, .i h1]) : Option (List Leaf ⊕ (Nat × List Leaf)))) (wrapJ hl1))
        · refine Imp.idxSFor hx1 ?_
          refine Imp.br rfl ?_ ?_
          · exact Imp.ret rfl
          · exact Imp.ret (c1 (fun (h1 : Int) => (some (Sum.inl [.s s, .i h1]) : Option (List Leaf ⊕ (Nat × List Leaf)))) (wrapJ hl1))
      · refine Imp.idxSFor hx1 ?_
        refine Imp.br rfl ?_ ?_
        · exact Imp.ret rfl
        · exact Imp.ret (c1 (fun (h1 : Int) => (some (Sum.inl [.s s, .i h1]) : Option (List Leaf ⊕ (Nat × List Leaf)))) (wrapJ hl1))
  · cases r12 with
    | inl r12 =>
      refine Imp.ifT rfl ?_
      exact Imp.ret rfl
    | inr r12 =>
      refine Imp.ifF (show ¬ ((1 : Nat) = 0) by decide) ?_
      refine Imp.call rfl (ei_iInRange (s.length : Int) 1 20 _) (fun r13 _ => ?_)
      exact Imp.ret rfl
noncomputable def iIsPolicy (p : TPolicy) : Option Bool :=
 br (!p.xSet) (
 br ((p.xScripts.length : Int) == 0) (
 br ((p.xStyles.length : Int) == 0) (
 br ((p.xImages.length : Int) == 0) (
 some (p.xNonce == [])
 ) (
 some false
 )
 ) (
 some false
 )
 ) (
 some false
 )
 ) (
 (iareHosts p.xScripts).bind fun (r1 : Bool) =>
 br r1 (
 (iareHosts p.xStyles).bind fun (r2 : Bool) =>
 br r2 (
 (iareHosts p.xImages).bind fun (r3 : Bool) =>
 br r3 (
 br (p.xNonce == []) (
 some true
 ) (
 (iIsValue p.xNonce).bind fun (r4 : Bool) =>
 some r4
 )
 ) (
 some false
 )
 ) (
 some false
 )
 ) (
 some false
 )
 )
theorem ei_iIsPolicy (p : TPolicy) (k : Bool → Option β) : Imp (F196 β p.xSet (rStr p.xScripts) (rStr p.xStyles) (rStr p.xImages) p.xNonce k) (iIsPolicy p) (fun r => k r) := by
  delta F196 P196 iIsPolicy
  refine Imp.br rfl ?_ ?_
  · refine Imp.br (c1 (fun z0 : Nat => ((z0 : Int) == 0)) (U_len (kd := .str) (g1 := fun e => e) p.xScripts)) ?_ ?_
    · refine Imp.br (c1 (fun z0 : Nat => ((z0 : Int) == 0)) (U_len (kd := .str) (g1 := fun e => e) p.xStyles)) ?_ ?_
      · refine Imp.br (c1 (fun z0 : Nat => ((z0 : Int) == 0)) (U_len (kd := .str) (g1 := fun e => e) p.xImages)) ?_ ?_
        · exact Imp.ret rfl
        · exact Imp.ret rfl
      · exact Imp.ret rfl
    · exact Imp.ret rfl
  · refine Imp.call rfl (ei_iareHosts p.xScripts _) (fun r1 _ => ?_)
    refine Imp.br rfl ?_ ?_
    · refine Imp.call rfl (ei_iareHosts p.xStyles _) (fun r2 _ => ?_)
      refine Imp.br rfl ?_ ?_
      · refine Imp.call rfl (ei_iareHosts p.xImages _) (fun r3 _ => ?_)
        refine Imp.br rfl ?_ ?_
        · refine Imp.br rfl ?_ ?_
          · exact Imp.ret rfl
          · refine Imp.call rfl (ei_iIsValue p.xNonce _) (fun r4 _ => ?_)
            exact Imp.ret rfl
        · exact Imp.ret rfl
      · exact Imp.ret rfl
    · exact Imp.ret rfl
noncomputable def g_strings_Join (a0 : List (List UInt8)) (a1 : List UInt8) : Option (List UInt8) := joinE a0 a1
theorem ei_g_strings_Join (a0 : List (List UInt8)) (a1 : List UInt8) (k : List UInt8 → Option β) : Imp (F197 β (rStr a0) a1 k) (g_strings_Join a0 a1) (fun r => k r) := ei_joinE a0 a1 k
noncomputable def iFormatPolicy (p : TPolicy) : Option (List UInt8) :=
 (iIsPolicy p).bind fun (r1 : Bool) =>
 br (!r1) (
 some []
 ) (
 br (!p.xSet) (
 some []
 ) (
 chk ((1 + p.xScripts.length) * 16 ≤ 140737488355328 ∧ 1 + p.xScripts.length ≤ 140737488355328) <|
 (g_strings_Join ([[115, 99, 114, 105, 112, 116]] ++ p.xScripts) [32]).bind fun (r2 : List UInt8) =>
 chk (r2.length + 1 ≤ 9223372036854775807) <|
 chk ((1 + p.xStyles.length) * 16 ≤ 140737488355328 ∧ 1 + p.xStyles.length ≤ 140737488355328) <|
 (g_strings_Join ([[115, 116, 121, 108, 101]] ++ p.xStyles) [32]).bind fun (r3 : List UInt8) =>
 chk ((r2 ++ [59]).length + r3.length ≤ 9223372036854775807) <|
 chk (((r2 ++ [59]) ++ r3).length + 1 ≤ 9223372036854775807) <|
 chk ((1 + p.xImages.length) * 16 ≤ 140737488355328 ∧ 1 + p.xImages.length ≤ 140737488355328) <|
 (g_strings_Join ([[105, 109, 103]] ++ p.xImages) [32]).bind fun (r4 : List UInt8) =>
 chk ((((r2 ++ [59]) ++ r3) ++ [59]).length + r4.length ≤ 9223372036854775807) <|
 br (!(p.xNonce == [])) (
 chk (7 + p.xNonce.length ≤ 9223372036854775807) <|
 chk (((((r2 ++ [59]) ++ r3) ++ [59]) ++ r4).length + ([59, 110, 111, 110, 99, 101, 32] ++ p.xNonce : List UInt8).length ≤ 9223372036854775807) <|
 some (((((r2 ++ [59]) ++ r3) ++ [59]) ++ r4) ++ ([59, 110, 111, 110, 99, 101, 32] ++ p.xNonce))
 ) (
 some ((((r2 ++ [59]) ++ r3) ++ [59]) ++ r4)
 )
 )
 )
theorem ei_iFormatPolicy (p : TPolicy) (k : List UInt8 → Option β) : Imp (F182 β p.xSet (rStr p.xScripts) (rStr p.xStyles) (rStr p.xImages) p.xNonce k) (iFormatPolicy p) (fun r => k r) := by
  delta F182 P182 iFormatPolicy
  refine Imp.call rfl (ei_iIsPolicy p _) (fun r1 _ => ?_)
  refine Imp.br rfl ?_ ?_
  · exact Imp.ret rfl
  · refine Imp.br rfl ?_ ?_
    · exact Imp.ret rfl
    · refine Imp.chk (c2 (fun z0 z1 : Nat => (1 + z0) * 16 ≤ 140737488355328 ∧ 1 + z1 ≤ 140737488355328) (U_len (kd := .str) (g1 := fun e => e) p.xScripts) (U_len (kd := .str) (g1 := fun e => e) p.xScripts)) (fun _ => ?_)
      refine Imp.call (c1 (fun (w1 : List V) => F197 _ w1 [32]) (U_app (kd := .str) (g1 := fun e => e) [[115, 99, 114, 105, 112, 116]] p.xScripts)) (ei_g_strings_Join ([[115, 99, 114, 105, 112, 116]] ++ p.xScripts) [32] _) (fun r2 _ => ?_)
      refine Imp.chk rfl (fun _ => ?_)
      refine Imp.chk (c2 (fun z0 z1 : Nat => (1 + z0) * 16 ≤ 140737488355328 ∧ 1 + z1 ≤ 140737488355328) (U_len (kd := .str) (g1 := fun e => e) p.xStyles) (U_len (kd := .str) (g1 := fun e => e) p.xStyles)) (fun _ => ?_)
      refine Imp.call (c1 (fun (w1 : List V) => F197 _ w1 [32]) (U_app (kd := .str) (g1 := fun e => e) [[115, 116, 121, 108, 101]] p.xStyles)) (ei_g_strings_Join ([[115, 116, 121, 108, 101]] ++ p.xStyles) [32] _) (fun r3 _ => ?_)
      refine Imp.chk rfl (fun _ => ?_)
      refine Imp.chk rfl (fun _ => ?_)
      refine Imp.chk (c2 (fun z0 z1 : Nat => (1 + z0) * 16 ≤ 140737488355328 ∧ 1 + z1 ≤ 140737488355328) (U_len (kd := .str) (g1 := fun e => e) p.xImages) (U_len (kd := .str) (g1 := fun e => e) p.xImages)) (fun _ => ?_)
      refine Imp.call (c1 (fun (w1 : List V) => F197 _ w1 [32]) (U_app (kd := .str) (g1 := fun e => e) [[105, 109, 103]] p.xImages)) (ei_g_strings_Join ([[105, 109, 103]] ++ p.xImages) [32] _) (fun r4 _ => ?_)
      refine Imp.chk rfl (fun _ => ?_)
      refine Imp.br rfl ?_ ?_
      · refine Imp.chk rfl (fun _ => ?_)
        refine Imp.chk rfl (fun _ => ?_)
        exact Imp.ret rfl
      · exact Imp.ret rfl
noncomputable def icopyPolicy (p : TPolicy) : Option TPolicy :=
 chk ((0 + p.xScripts.length) * 16 ≤ 140737488355328 ∧ 0 + p.xScripts.length ≤ 140737488355328) <|
 chk ((0 + p.xStyles.length) * 16 ≤ 140737488355328 ∧ 0 + p.xStyles.length ≤ 140737488355328) <|
 chk ((0 + p.xImages.length) * 16 ≤ 140737488355328 ∧ 0 + p.xImages.length ≤ 140737488355328) <|
 some (⟨p.xSet, ([] ++ p.xScripts), ([] ++ p.xStyles), ([] ++ p.xImages), p.xNonce⟩ : TPolicy)
theorem ei_icopyPolicy (p : TPolicy) (k : Bool → List V → List V → List V → List UInt8 → Option β) : Imp (F183 β p.xSet (rStr p.xScripts) (rStr p.xStyles) (rStr p.xImages) p.xNonce k) (icopyPolicy p) (fun r => k r.xSet (rStr r.xScripts) (rStr r.xStyles) (rStr r.xImages) r.xNonce) := by
  delta F183 P183 icopyPolicy
  refine Imp.chk (c2 (fun z0 z1 : Nat => (0 + z0) * 16 ≤ 140737488355328 ∧ 0 + z1 ≤ 140737488355328) (U_len (kd := .str) (g1 := fun e => e) p.xScripts) (U_len (kd := .str) (g1 := fun e => e) p.xScripts)) (fun _ => ?_)
  refine Imp.chk (c2 (fun z0 z1 : Nat => (0 + z0) * 16 ≤ 140737488355328 ∧ 0 + z1 ≤ 140737488355328) (U_len (kd := .str) (g1 := fun e => e) p.xStyles) (U_len (kd := .str) (g1 := fun e => e) p.xStyles)) (fun _ => ?_)
  refine Imp.chk (c2 (fun z0 z1 : Nat => (0 + z0) * 16 ≤ 140737488355328 ∧ 0 + z1 ≤ 140737488355328) (U_len (kd := .str) (g1 := fun e => e) p.xImages) (U_len (kd := .str) (g1 := fun e => e) p.xImages)) (fun _ => ?_)
  exact Imp.ret (c3 (fun (h1 : List V) (h2 : List V) (h3 : List V) => k p.xSet h1 h2 h3 p.xNonce) (U_app (kd := .str) (g1 := fun e => e) [] p.xScripts) (U_app (kd := .str) (g1 := fun e => e) [] p.xStyles) (U_app (kd := .str) (g1 := fun e => e) [] p.xImages))
noncomputable def iIsResponse (a0 : TResponse) : Option Bool := respE (fun a b e n => iFormatPolicy (⟨true, a, b, e, n⟩ : TPolicy)) (fun a b e n => icopyPolicy (⟨true, a, b, e, n⟩ : TPolicy)) a0.xStatus a0.xKind a0.xBody a0.xAge a0.xPolicy
theorem ei_iIsResponse (a0 : TResponse) (k : Bool → Option β) : Imp (F112 β a0.xStatus a0.xKind a0.xBody a0.xAge a0.xShares a0.xPolicy k) (iIsResponse a0) (fun r => k r) := ei_respE (fun β a b e n k => ei_iFormatPolicy (⟨true, a, b, e, n⟩ : TPolicy) k) (fun β a b e n k => ei_icopyPolicy (⟨true, a, b, e, n⟩ : TPolicy) (fun _ _ _ _ _ => k)) a0.xStatus a0.xKind a0.xBody a0.xAge a0.xShares a0.xPolicy k
noncomputable def iIsServer (s : TServer) : Option Bool :=
 (forE s.xFiles (fun (i_1 : Nat) (x_1 : TFile) (s1 : Unit) => (
 (iIsName x_1.xPath).bind fun (r3 : Bool) =>
 br (!r3) (
 some (.inr (.inl ()))
 ) (
 (ifileAt s x_1.xPath).bind fun (r4 : Int) =>
 br (r4 != (i_1 : Int)) (
 some (.inr (.inl ()))
 ) (
 (iIsResponse x_1.xResponse).bind fun (r5 : Bool) =>
 br (!r5) (
 some (.inr (.inl ()))
 ) (
 some (.inl ())
 )
 )
 )
 : Option (Unit ⊕ (Unit ⊕ Unit)))) (fun (s1 : Unit) => (.inr () : Unit ⊕ Unit)) (() : Unit)).bind <|
 Sum.elim
 (fun (r6 : Unit) =>
 some false
 )
 (fun (r6 : Unit) =>
 (iIsName s.xHost).bind fun (r7 : Bool) =>
 br r7 (
 some (decide ((s.xFiles.length : Int) ≤ 10))
 ) (
 some false
 )
 )
theorem ei_iIsServer (s : TServer) (k : Bool → Option β) : Imp (F108 β s.xHost (rows kFile TFile.row s.xFiles) k) (iIsServer s) (fun r => k r) := by
  delta F108 P108 iIsServer
  refine Imp.for (enc := fun (i_1 : Nat) (s1 : Unit) => [.l (rows kFile TFile.row s.xFiles), .i (s.xFiles.length : Int), .i (i_1 : Int), .s s.xHost, .l (rows kFile TFile.row s.xFiles)]) (encR := Sum.elim (fun (u : Unit) => (((0, [.b false, .s s.xHost, .l (rows kFile TFile.row s.xFiles)]) : Nat × List Leaf))) (fun (u : Unit) => (((1, [.s s.xHost, .l (rows kFile TFile.row s.xFiles)]) : Nat × List Leaf)))) (c1 (fun (h1 : Int) => ([.l (rows kFile TFile.row s.xFiles), .i h1, .i 0, .s s.xHost, .l (rows kFile TFile.row s.xFiles)] : List Leaf)) (c1 (fun z0 : Nat => (z0 : Int)) (T_len (ks := kFile) (g := TFile.row) s.xFiles))) (fun i_1 x_1 s1 hx1 hl1 hm1 => Imp.brT (Int.ofNat_lt.2 hl1) ?_) (fun s1 => brN (Int.lt_irrefl _) rfl) (fun r6 => ?_)
  · refine Imp.idxFor (ks := kFile) (g := TFile.row) hx1 ?_
    refine Imp.call rfl (ei_iIsName x_1.xPath _) (fun r3 _ => ?_)
    refine Imp.br rfl ?_ ?_
    · exact Imp.ret rfl
    · refine Imp.call rfl (ei_ifileAt s x_1.xPath _) (fun r4 _ => ?_)
      refine Imp.br rfl ?_ ?_
      · exact Imp.ret rfl
      · refine Imp.call rfl (ei_iIsResponse x_1.xResponse _) (fun r5 _ => ?_)
        refine Imp.br rfl ?_ ?_
        · exact Imp.ret rfl
        · exact Imp.ret (c1 (fun (h1 : Int) => (some (Sum.inl [.l (rows kFile TFile.row s.xFiles), .i (s.xFiles.length : Int), .i h1, .s s.xHost, .l (rows kFile TFile.row s.xFiles)]) : Option (List Leaf ⊕ (Nat × List Leaf)))) (wrapJ hl1))
  · cases r6 with
    | inl r6 =>
      refine Imp.ifT rfl ?_
      exact Imp.ret rfl
    | inr r6 =>
      refine Imp.ifF (show ¬ ((1 : Nat) = 0) by decide) ?_
      refine Imp.call rfl (ei_iIsName s.xHost _) (fun r7 _ => ?_)
      refine Imp.br rfl ?_ ?_
      · exact Imp.ret (c1 (fun (h1 : Bool) => k h1) (c1 (fun z0 : Nat => (decide ((z0 : Int) ≤ 10))) (T_len (ks := kFile) (g := TFile.row) s.xFiles)))
      · exact Imp.ret rfl
noncomputable def iserverAt_1_iptr (s : TServer) (c1_1 : List UInt8) : Option Bool :=
 some (s.xHost == c1_1)
theorem ei_iserverAt_1_iptr (s : TServer) (c1_1 : List UInt8) (k : Bool → Option β) : Imp (F154cAs β s.xHost (rows kFile TFile.row s.xFiles) c1_1 k) (iserverAt_1_iptr s c1_1) (fun r => k r) := by
  delta F154cAs P154cAs iserverAt_1_iptr
  exact Imp.ret rfl
noncomputable def g_slices_IndexFunc_Server_Server_iserverAt_1 (s : List TServer) (f_1 : List UInt8) : Option Int :=
 (forE s (fun (i_1 : Nat) (x_1 : TServer) (s1 : Unit) => (
 (iserverAt_1_iptr x_1 f_1).bind fun (r3 : Bool) =>
 br r3 (
 some (.inr (.inl (i_1 : Int)))
 ) (
 some (.inl ())
 )
 : Option (Unit ⊕ (Int ⊕ Unit)))) (fun (s1 : Unit) => (.inr () : Int ⊕ Unit)) (() : Unit)).bind <|
 Sum.elim
 (fun (r4 : Int) =>
 some r4
 )
 (fun (r4 : Unit) =>
 some (-1)
 )
theorem ei_g_slices_IndexFunc_Server_Server_iserverAt_1 (s : List TServer) (f_1 : List UInt8) (k : Int → Option β) : Imp (F153c154 β (rows kServer TServer.row s) f_1 k) (g_slices_IndexFunc_Server_Server_iserverAt_1 s f_1) (fun r => k r) := by
  delta F153c154 P153c154 g_slices_IndexFunc_Server_Server_iserverAt_1
  refine Imp.for (enc := fun (i_1 : Nat) (s1 : Unit) => [.l (rows kServer TServer.row s), .s f_1, .i (s.length : Int), .i (i_1 : Int)]) (encR := Sum.elim (fun (u : Int) => (((0, [.i u]) : Nat × List Leaf))) (fun (u : Unit) => (((1, []) : Nat × List Leaf)))) (c1 (fun (h1 : Int) => ([.l (rows kServer TServer.row s), .s f_1, .i h1, .i 0] : List Leaf)) (c1 (fun z0 : Nat => (z0 : Int)) (T_len (ks := kServer) (g := TServer.row) s))) (fun i_1 x_1 s1 hx1 hl1 hm1 => Imp.brT (Int.ofNat_lt.2 hl1) ?_) (fun s1 => brN (Int.lt_irrefl _) rfl) (fun r4 => ?_)
  · refine Imp.idxFor (ks := kServer) (g := TServer.row) hx1 ?_
    refine Imp.call rfl (ei_iserverAt_1_iptr x_1 f_1 _) (fun r3 _ => ?_)
    refine Imp.br rfl ?_ ?_
    · exact Imp.ret rfl
    · exact Imp.ret (c1 (fun (h1 : Int) => (some (Sum.inl [.l (rows kServer TServer.row s), .s f_1, .i (s.length : Int), .i h1]) : Option (List Leaf ⊕ (Nat × List Leaf)))) (wrapJ hl1))
  · cases r4 with
    | inl r4 =>
      refine Imp.ifT rfl ?_
      exact Imp.ret rfl
    | inr r4 =>
      refine Imp.ifF (show ¬ ((1 : Nat) = 0) by decide) ?_
      exact Imp.ret rfl
noncomputable def iserverAt (l : List TServer) (host : List UInt8) : Option Int :=
 (g_slices_IndexFunc_Server_Server_iserverAt_1 l host).bind fun (r1 : Int) =>
 some r1
theorem ei_iserverAt (l : List TServer) (host : List UInt8) (k : Int → Option β) : Imp (F109 β (rows kServer TServer.row l) host k) (iserverAt l host) (fun r => k r) := by
  delta F109 P109 iserverAt
  refine Imp.call rfl (ei_g_slices_IndexFunc_Server_Server_iserverAt_1 l host _) (fun r1 _ => ?_)
  exact Imp.ret rfl
noncomputable def iAreServers (l : List TServer) : Option Bool :=
 (forE l (fun (i_1 : Nat) (x_1 : TServer) (s1 : Unit) => (
 (iIsServer x_1).bind fun (r3 : Bool) =>
 br (!r3) (
 some (.inr (.inl ()))
 ) (
 (iserverAt l x_1.xHost).bind fun (r4 : Int) =>
 br (r4 != (i_1 : Int)) (
 some (.inr (.inl ()))
 ) (
 some (.inl ())
 )
 )
 : Option (Unit ⊕ (Unit ⊕ Unit)))) (fun (s1 : Unit) => (.inr () : Unit ⊕ Unit)) (() : Unit)).bind <|
 Sum.elim
 (fun (r5 : Unit) =>
 some false
 )
 (fun (r5 : Unit) =>
 some (decide ((l.length : Int) ≤ 4))
 )
theorem ei_iAreServers (l : List TServer) (k : Bool → Option β) : Imp (F48 β (rows kServer TServer.row l) k) (iAreServers l) (fun r => k r) := by
  delta F48 P48 iAreServers
  refine Imp.for (enc := fun (i_1 : Nat) (s1 : Unit) => [.l (rows kServer TServer.row l), .l (rows kServer TServer.row l), .i (l.length : Int), .i (i_1 : Int)]) (encR := Sum.elim (fun (u : Unit) => (((0, [.l (rows kServer TServer.row l), .b false]) : Nat × List Leaf))) (fun (u : Unit) => (((1, [.l (rows kServer TServer.row l)]) : Nat × List Leaf)))) (c1 (fun (h1 : Int) => ([.l (rows kServer TServer.row l), .l (rows kServer TServer.row l), .i h1, .i 0] : List Leaf)) (c1 (fun z0 : Nat => (z0 : Int)) (T_len (ks := kServer) (g := TServer.row) l))) (fun i_1 x_1 s1 hx1 hl1 hm1 => Imp.brT (Int.ofNat_lt.2 hl1) ?_) (fun s1 => brN (Int.lt_irrefl _) rfl) (fun r5 => ?_)
  · refine Imp.idxFor (ks := kServer) (g := TServer.row) hx1 ?_
    refine Imp.call rfl (ei_iIsServer x_1 _) (fun r3 _ => ?_)
    refine Imp.br rfl ?_ ?_
    · exact Imp.ret rfl
    · refine Imp.call rfl (ei_iserverAt l x_1.xHost _) (fun r4 _ => ?_)
      refine Imp.br rfl ?_ ?_
      · exact Imp.ret rfl
      · exact Imp.ret (c1 (fun (h1 : Int) => (some (Sum.inl [.l (rows kServer TServer.row l), .l (rows kServer TServer.row l), .i (l.length : Int), .i h1]) : Option (List Leaf ⊕ (Nat × List Leaf)))) (wrapJ hl1))
  · cases r5 with
    | inl r5 =>
      refine Imp.ifT rfl ?_
      exact Imp.ret rfl
    | inr r5 =>
      refine Imp.ifF (show ¬ ((1 : Nat) = 0) by decide) ?_
      exact Imp.ret (c1 (fun (h1 : Bool) => k h1) (c1 (fun z0 : Nat => (decide ((z0 : Int) ≤ 4))) (T_len (ks := kServer) (g := TServer.row) l)))
noncomputable def iIsAddr (a : TAddr) : Option Bool :=
 (iIsName a.xHost).bind fun (r1 : Bool) =>
 br r1 (
 (iIsName a.xPath).bind fun (r2 : Bool) =>
 some r2
 ) (
 some false
 )
theorem ei_iIsAddr (a : TAddr) (k : Bool → Option β) : Imp (F111 β a.xHost a.xPath k) (iIsAddr a) (fun r => k r) := by
  delta F111 P111 iIsAddr
  refine Imp.call rfl (ei_iIsName a.xHost _) (fun r1 _ => ?_)
  refine Imp.br rfl ?_ ?_
  · refine Imp.call rfl (ei_iIsName a.xPath _) (fun r2 _ => ?_)
    exact Imp.ret rfl
  · exact Imp.ret rfl
noncomputable def ientryAt_1_iptr_iptr (e : TEntry) (c1_1 : List UInt8) (c2_1 : List UInt8) (c2_2 : List UInt8) : Option Bool :=
 br (e.xTop == c1_1) (
 some ((e.xTo.xHost == c2_1) && ((e.xTo.xPath == c2_2) && true))
 ) (
 some false
 )
theorem ei_ientryAt_1_iptr_iptr (e : TEntry) (c1_1 : List UInt8) (c2_1 : List UInt8) (c2_2 : List UInt8) (k : Bool → Option β) : Imp (F157cAs_Ass β e.xTop e.xTo.xHost e.xTo.xPath e.xResponse.xStatus e.xResponse.xKind e.xResponse.xBody e.xResponse.xAge e.xResponse.xShares e.xResponse.xPolicy e.xUntil c1_1 c2_1 c2_2 k) (ientryAt_1_iptr_iptr e c1_1 c2_1 c2_2) (fun r => k r) := by
  delta F157cAs_Ass P157cAs_Ass ientryAt_1_iptr_iptr
  refine Imp.br rfl ?_ ?_
  · exact Imp.ret rfl
  · exact Imp.ret rfl
noncomputable def g_slices_IndexFunc_Entry_Entry_ientryAt_1 (s : List TEntry) (f_1 : List UInt8) (f_2 : List UInt8) (f_3 : List UInt8) : Option Int :=
 (forE s (fun (i_1 : Nat) (x_1 : TEntry) (s1 : Unit) => (
 (ientryAt_1_iptr_iptr x_1 f_1 f_2 f_3).bind fun (r3 : Bool) =>
 br r3 (
 some (.inr (.inl (i_1 : Int)))
 ) (
 some (.inl ())
 )
 : Option (Unit ⊕ (Int ⊕ Unit)))) (fun (s1 : Unit) => (.inr () : Int ⊕ Unit)) (() : Unit)).bind <|
 Sum.elim
 (fun (r4 : Int) =>
 some r4
 )
 (fun (r4 : Unit) =>
 some (-1)
 )
theorem ei_g_slices_IndexFunc_Entry_Entry_ientryAt_1 (s : List TEntry) (f_1 : List UInt8) (f_2 : List UInt8) (f_3 : List UInt8) (k : Int → Option β) : Imp (F156c157 β (rows kEntry TEntry.row s) f_1 f_2 f_3 k) (g_slices_IndexFunc_Entry_Entry_ientryAt_1 s f_1 f_2 f_3) (fun r => k r) := by
  delta F156c157 P156c157 g_slices_IndexFunc_Entry_Entry_ientryAt_1
  refine Imp.for (enc := fun (i_1 : Nat) (s1 : Unit) => [.l (rows kEntry TEntry.row s), .s f_1, .s f_2, .s f_3, .i (s.length : Int), .i (i_1 : Int)]) (encR := Sum.elim (fun (u : Int) => (((0, [.i u]) : Nat × List Leaf))) (fun (u : Unit) => (((1, []) : Nat × List Leaf)))) (c1 (fun (h1 : Int) => ([.l (rows kEntry TEntry.row s), .s f_1, .s f_2, .s f_3, .i h1, .i 0] : List Leaf)) (c1 (fun z0 : Nat => (z0 : Int)) (T_len (ks := kEntry) (g := TEntry.row) s))) (fun i_1 x_1 s1 hx1 hl1 hm1 => Imp.brT (Int.ofNat_lt.2 hl1) ?_) (fun s1 => brN (Int.lt_irrefl _) rfl) (fun r4 => ?_)
  · refine Imp.idxFor (ks := kEntry) (g := TEntry.row) hx1 ?_
    refine Imp.call rfl (ei_ientryAt_1_iptr_iptr x_1 f_1 f_2 f_3 _) (fun r3 _ => ?_)
    refine Imp.br rfl ?_ ?_
    · exact Imp.ret rfl
    · exact Imp.ret (c1 (fun (h1 : Int) => (some (Sum.inl [.l (rows kEntry TEntry.row s), .s f_1, .s f_2, .s f_3, .i (s.length : Int), .i h1]) : Option (List Leaf ⊕ (Nat × List Leaf)))) (wrapJ hl1))
  · cases r4 with
    | inl r4 =>
      refine Imp.ifT rfl ?_
      exact Imp.ret rfl
    | inr r4 =>
      refine Imp.ifF (show ¬ ((1 : Nat) = 0) by decide) ?_
      exact Imp.ret rfl
noncomputable def ientryAt (c : TCache) (top : List UInt8) (a : TAddr) : Option Int :=
 (g_slices_IndexFunc_Entry_Entry_ientryAt_1 c.xEntries top a.xHost a.xPath).bind fun (r1 : Int) =>
 some r1
theorem ei_ientryAt (c : TCache) (top : List UInt8) (a : TAddr) (k : Int → Option β) : Imp (F113 β (rows kEntry TEntry.row c.xEntries) top a.xHost a.xPath k) (ientryAt c top a) (fun r => k r) := by
  delta F113 P113 ientryAt
  refine Imp.call rfl (ei_g_slices_IndexFunc_Entry_Entry_ientryAt_1 c.xEntries top a.xHost a.xPath _) (fun r1 _ => ?_)
  exact Imp.ret rfl
noncomputable def iIsCache (c : TCache) : Option Bool :=
 (forE c.xEntries (fun (i_1 : Nat) (x_1 : TEntry) (s1 : Unit) => (
 (iIsName x_1.xTop).bind fun (r3 : Bool) =>
 br (!r3) (
 some (.inr (.inl ()))
 ) (
 (iIsAddr x_1.xTo).bind fun (r4 : Bool) =>
 br (!r4) (
 some (.inr (.inl ()))
 ) (
 (iIsResponse x_1.xResponse).bind fun (r5 : Bool) =>
 br (!r5) (
 some (.inr (.inl ()))
 ) (
 br (x_1.xResponse.xStatus != 200) (
 some (.inr (.inl ()))
 ) (
 (ientryAt c x_1.xTop x_1.xTo).bind fun (r6 : Int) =>
 br (r6 != (i_1 : Int)) (
 some (.inr (.inl ()))
 ) (
 some (.inl ())
 )
 )
 )
 )
 )
 : Option (Unit ⊕ (Unit ⊕ Unit)))) (fun (s1 : Unit) => (.inr () : Unit ⊕ Unit)) (() : Unit)).bind <|
 Sum.elim
 (fun (r7 : Unit) =>
 some false
 )
 (fun (r7 : Unit) =>
 some (decide ((c.xEntries.length : Int) ≤ 100))
 )
theorem ei_iIsCache (c : TCache) (k : Bool → Option β) : Imp (F49 β (rows kEntry TEntry.row c.xEntries) k) (iIsCache c) (fun r => k r) := by
  delta F49 P49 iIsCache
  refine Imp.for (enc := fun (i_1 : Nat) (s1 : Unit) => [.l (rows kEntry TEntry.row c.xEntries), .i (c.xEntries.length : Int), .i (i_1 : Int), .l (rows kEntry TEntry.row c.xEntries)]) (encR := Sum.elim (fun (u : Unit) => (((0, [.b false, .l (rows kEntry TEntry.row c.xEntries)]) : Nat × List Leaf))) (fun (u : Unit) => (((1, [.l (rows kEntry TEntry.row c.xEntries)]) : Nat × List Leaf)))) (c1 (fun (h1 : Int) => ([.l (rows kEntry TEntry.row c.xEntries), .i h1, .i 0, .l (rows kEntry TEntry.row c.xEntries)] : List Leaf)) (c1 (fun z0 : Nat => (z0 : Int)) (T_len (ks := kEntry) (g := TEntry.row) c.xEntries))) (fun i_1 x_1 s1 hx1 hl1 hm1 => Imp.brT (Int.ofNat_lt.2 hl1) ?_) (fun s1 => brN (Int.lt_irrefl _) rfl) (fun r7 => ?_)
  · refine Imp.idxFor (ks := kEntry) (g := TEntry.row) hx1 ?_
    refine Imp.call rfl (ei_iIsName x_1.xTop _) (fun r3 _ => ?_)
    refine Imp.br rfl ?_ ?_
    · exact Imp.ret rfl
    · refine Imp.call rfl (ei_iIsAddr x_1.xTo _) (fun r4 _ => ?_)
      refine Imp.br rfl ?_ ?_
      · exact Imp.ret rfl
      · refine Imp.call rfl (ei_iIsResponse x_1.xResponse _) (fun r5 _ => ?_)
        refine Imp.br rfl ?_ ?_
        · exact Imp.ret rfl
        · refine Imp.br rfl ?_ ?_
          · exact Imp.ret rfl
          · refine Imp.call rfl (ei_ientryAt c x_1.xTop x_1.xTo _) (fun r6 _ => ?_)
            refine Imp.br rfl ?_ ?_
            · exact Imp.ret rfl
            · exact Imp.ret (c1 (fun (h1 : Int) => (some (Sum.inl [.l (rows kEntry TEntry.row c.xEntries), .i (c.xEntries.length : Int), .i h1, .l (rows kEntry TEntry.row c.xEntries)]) : Option (List Leaf ⊕ (Nat × List Leaf)))) (wrapJ hl1))
  · cases r7 with
    | inl r7 =>
      refine Imp.ifT rfl ?_
      exact Imp.ret rfl
    | inr r7 =>
      refine Imp.ifF (show ¬ ((1 : Nat) = 0) by decide) ?_
      exact Imp.ret (c1 (fun (h1 : Bool) => k h1) (c1 (fun z0 : Nat => (decide ((z0 : Int) ≤ 100))) (T_len (ks := kEntry) (g := TEntry.row) c.xEntries)))
noncomputable def iIsNet (n : TNet) : Option Bool :=
 (iAreServers n.xServers).bind fun (r1 : Bool) =>
 br r1 (
 (iIsCache n.xCache).bind fun (r2 : Bool) =>
 br r2 (
 br (decide ((n.xLog.length : Int) ≤ 400)) (
 (iInRange n.xNow 0 999999998000).bind fun (r3 : Bool) =>
 some r3
 ) (
 some false
 )
 ) (
 some false
 )
 ) (
 some false
 )
theorem ei_iIsNet (n : TNet) (k : Bool → Option β) : Imp (F20 β (rows kServer TServer.row n.xServers) (rows kEntry TEntry.row n.xCache.xEntries) (rows kSent TSent.row n.xLog) n.xNow k) (iIsNet n) (fun r => k r) := by
  delta F20 P20 iIsNet
  refine Imp.call rfl (ei_iAreServers n.xServers _) (fun r1 _ => ?_)
  refine Imp.br rfl ?_ ?_
  · refine Imp.call rfl (ei_iIsCache n.xCache _) (fun r2 _ => ?_)
    refine Imp.br rfl ?_ ?_
    · refine Imp.br (c1 (fun z0 : Nat => (decide ((z0 : Int) ≤ 400))) (T_len (ks := kSent) (g := TSent.row) n.xLog)) ?_ ?_
      · refine Imp.call rfl (ei_iInRange n.xNow 0 999999998000 _) (fun r3 _ => ?_)
        exact Imp.ret rfl
      · exact Imp.ret rfl
    · exact Imp.ret rfl
  · exact Imp.ret rfl
noncomputable def ihasPresent (t : TTab) : Option Bool :=
 br (decide (t.xAt ≥ 0)) (
 some (decide (t.xAt < (t.xVisits.length : Int)))
 ) (
 some false
 )
theorem ei_ihasPresent (t : TTab) (k : Bool → Option β) : Imp (F51 β (rows kVisit TVisit.row t.xVisits) t.xAt k) (ihasPresent t) (fun r => k r) := by
  delta F51 P51 ihasPresent
  refine Imp.br rfl ?_ ?_
  · exact Imp.ret (c1 (fun (h1 : Bool) => k h1) (c1 (fun z0 : Nat => (decide (t.xAt < (z0 : Int)))) (T_len (ks := kVisit) (g := TVisit.row) t.xVisits)))
  · exact Imp.ret rfl
noncomputable def iIsTab (t : TTab) : Option Bool :=
 (forE t.xVisits (fun (i_1 : Nat) (x_1 : TVisit) (s1 : Unit) => (
 br x_1.xKept (
 br (!((x_1.xPage.xAddr.xHost == x_1.xAddr.xHost) && ((x_1.xPage.xAddr.xPath == x_1.xAddr.xPath) && true))) (
 some (.inr (.inl ()))
 ) (
 some (.inl ())
 )
 ) (
 some (.inl ())
 )
 : Option (Unit ⊕ (Unit ⊕ Unit)))) (fun (s1 : Unit) => (.inr () : Unit ⊕ Unit)) (() : Unit)).bind <|
 Sum.elim
 (fun (r3 : Unit) =>
 some false
 )
 (fun (r3 : Unit) =>
 br (decide ((t.xVisits.length : Int) ≤ 6)) (
 (ihasPresent t).bind fun (r4 : Bool) =>
 br r4 (
 some true
 ) (
 br ((t.xVisits.length : Int) == 0) (
 some (t.xAt == (-1))
 ) (
 some false
 )
 )
 ) (
 some false
 )
 )
theorem ei_iIsTab (t : TTab) (k : Bool → Option β) : Imp (F21 β (rows kVisit TVisit.row t.xVisits) t.xAt k) (iIsTab t) (fun r => k r) := by
  delta F21 P21 iIsTab
  refine Imp.for (enc := fun (i_1 : Nat) (s1 : Unit) => [.l (rows kVisit TVisit.row t.xVisits), .i (t.xVisits.length : Int), .i (i_1 : Int), .l (rows kVisit TVisit.row t.xVisits), .i t.xAt]) (encR := Sum.elim (fun (u : Unit) => (((0, [.b false, .l (rows kVisit TVisit.row t.xVisits), .i t.xAt]) : Nat × List Leaf))) (fun (u : Unit) => (((1, [.l (rows kVisit TVisit.row t.xVisits), .i t.xAt]) : Nat × List Leaf)))) (c1 (fun (h1 : Int) => ([.l (rows kVisit TVisit.row t.xVisits), .i h1, .i 0, .l (rows kVisit TVisit.row t.xVisits), .i t.xAt] : List Leaf)) (c1 (fun z0 : Nat => (z0 : Int)) (T_len (ks := kVisit) (g := TVisit.row) t.xVisits))) (fun i_1 x_1 s1 hx1 hl1 hm1 => Imp.brT (Int.ofNat_lt.2 hl1) ?_) (fun s1 => brN (Int.lt_irrefl _) rfl) (fun r3 => ?_)
  · refine Imp.idxFor (ks := kVisit) (g := TVisit.row) hx1 ?_
    refine Imp.br rfl ?_ ?_
    · refine Imp.br rfl ?_ ?_
      · exact Imp.ret rfl
      · exact Imp.ret (c1 (fun (h1 : Int) => (some (Sum.inl [.l (rows kVisit TVisit.row t.xVisits), .i (t.xVisits.length : Int), .i h1, .l (rows kVisit TVisit.row t.xVisits), .i t.xAt]) : Option (List Leaf ⊕ (Nat × List Leaf)))) (wrapJ hl1))
    · exact Imp.ret (c1 (fun (h1 : Int) => (some (Sum.inl [.l (rows kVisit TVisit.row t.xVisits), .i (t.xVisits.length : Int), .i h1, .l (rows kVisit TVisit.row t.xVisits), .i t.xAt]) : Option (List Leaf ⊕ (Nat × List Leaf)))) (wrapJ hl1))
  · cases r3 with
    | inl r3 =>
      refine Imp.ifT rfl ?_
      exact Imp.ret rfl
    | inr r3 =>
      refine Imp.ifF (show ¬ ((1 : Nat) = 0) by decide) ?_
      refine Imp.br (c1 (fun z0 : Nat => (decide ((z0 : Int) ≤ 6))) (T_len (ks := kVisit) (g := TVisit.row) t.xVisits)) ?_ ?_
      · refine Imp.call rfl (ei_ihasPresent t _) (fun r4 _ => ?_)
        refine Imp.br rfl ?_ ?_
        · exact Imp.ret rfl
        · refine Imp.br (c1 (fun z0 : Nat => ((z0 : Int) == 0)) (T_len (ks := kVisit) (g := TVisit.row) t.xVisits)) ?_ ?_
          · exact Imp.ret rfl
          · exact Imp.ret rfl
      · exact Imp.ret rfl
noncomputable def iIsWorld (w : TWorld) : Option Bool :=
 (iIsNet w.xNet).bind fun (r1 : Bool) =>
 br r1 (
 (iIsTab w.xTab).bind fun (r2 : Bool) =>
 some r2
 ) (
 some false
 )
theorem ei_iIsWorld (w : TWorld) (k : Bool → Option β) : Imp (F8 β (rows kServer TServer.row w.xNet.xServers) (rows kEntry TEntry.row w.xNet.xCache.xEntries) (rows kSent TSent.row w.xNet.xLog) w.xNet.xNow (rows kVisit TVisit.row w.xTab.xVisits) w.xTab.xAt w.xHidden.xReady w.xHidden.xPage.xAddr.xHost w.xHidden.xPage.xAddr.xPath w.xHidden.xPage.xPolicy.xSet (rStr w.xHidden.xPage.xPolicy.xScripts) (rStr w.xHidden.xPage.xPolicy.xStyles) (rStr w.xHidden.xPage.xPolicy.xImages) w.xHidden.xPage.xPolicy.xNonce w.xHidden.xPage.xTok.xRest (rows kToken TToken.row w.xHidden.xPage.xQueue) w.xHidden.xPage.xEnded (rows kNode TNode.row w.xHidden.xPage.xBuilder.xNodes) (rInt w.xHidden.xPage.xBuilder.xOpen) (rows kSlot TSlot.row w.xHidden.xPage.xSlots) (rows kModule TModule.row w.xHidden.xPage.xMods) (rows kAddr TAddr.row w.xHidden.xPage.xEntries) w.xHidden.xPage.xBlock w.xHidden.xPage.xInline w.xHidden.xPage.xDeferred w.xHidden.xPage.xEntered (rows kAddr TAddr.row w.xHidden.xPage.xRan) (rStr w.xHidden.xPage.xLog) w.xHidden.xPage.xLoaded (rows kKept TKept.row w.xHidden.xTaken) (rows kServer TServer.row w.xHidden.xServers) w.xHidden.xNow w.xFast k) (iIsWorld w) (fun r => k r) := by
  delta F8 P8 iIsWorld
  refine Imp.call rfl (ei_iIsNet w.xNet _) (fun r1 _ => ?_)
  refine Imp.br rfl ?_ ?_
  · refine Imp.call rfl (ei_iIsTab w.xTab _) (fun r2 _ => ?_)
    exact Imp.ret rfl
  · exact Imp.ret rfl
noncomputable def lFnExactIsWorld (aW : TWorld) : Option Bool :=
 (lszWorld aW 1048576).bind fun (r1 : Int) =>
 br (decide (r1 < 0)) (
 some true
 ) (
 (ltoWorld aW).bind fun (r2 : TWorld) =>
 (sIsWorld r2).bind fun (r35 : Bool) =>
 (ltoWorld aW).bind fun (r36 : TWorld) =>
 (iIsWorld r36).bind fun (r69 : Bool) =>
 br (!(r69 == r35)) (
 some false
 ) (
 (ltoWorld aW).bind fun (r70 : TWorld) =>
 (leqWorld r36 r70).bind fun (r103 : Bool) =>
 br (!r103) (
 some false
 ) (
 some true
 )
 )
 )
theorem ei_lFnExactIsWorld (aW : TWorld) (k : Bool → Option β) : Imp (F3 β (rows kServer TServer.row aW.xNet.xServers) (rows kEntry TEntry.row aW.xNet.xCache.xEntries) (rows kSent TSent.row aW.xNet.xLog) aW.xNet.xNow (rows kVisit TVisit.row aW.xTab.xVisits) aW.xTab.xAt aW.xHidden.xReady aW.xHidden.xPage.xAddr.xHost aW.xHidden.xPage.xAddr.xPath aW.xHidden.xPage.xPolicy.xSet (rStr aW.xHidden.xPage.xPolicy.xScripts) (rStr aW.xHidden.xPage.xPolicy.xStyles) (rStr aW.xHidden.xPage.xPolicy.xImages) aW.xHidden.xPage.xPolicy.xNonce aW.xHidden.xPage.xTok.xRest (rows kToken TToken.row aW.xHidden.xPage.xQueue) aW.xHidden.xPage.xEnded (rows kNode TNode.row aW.xHidden.xPage.xBuilder.xNodes) (rInt aW.xHidden.xPage.xBuilder.xOpen) (rows kSlot TSlot.row aW.xHidden.xPage.xSlots) (rows kModule TModule.row aW.xHidden.xPage.xMods) (rows kAddr TAddr.row aW.xHidden.xPage.xEntries) aW.xHidden.xPage.xBlock aW.xHidden.xPage.xInline aW.xHidden.xPage.xDeferred aW.xHidden.xPage.xEntered (rows kAddr TAddr.row aW.xHidden.xPage.xRan) (rStr aW.xHidden.xPage.xLog) aW.xHidden.xPage.xLoaded (rows kKept TKept.row aW.xHidden.xTaken) (rows kServer TServer.row aW.xHidden.xServers) aW.xHidden.xNow aW.xFast k) (lFnExactIsWorld aW) (fun r => k r) := by
  delta F3 P3 lFnExactIsWorld
  refine Imp.call rfl (ei_lszWorld aW 1048576 _) (fun r1 _ => ?_)
  refine Imp.br rfl ?_ ?_
  · exact Imp.ret rfl
  · refine Imp.call rfl (ei_ltoWorld aW _) (fun r2 _ => ?_)
    refine Imp.call rfl (ei_sIsWorld r2 _) (fun r35 _ => ?_)
    refine Imp.call rfl (ei_ltoWorld aW _) (fun r36 _ => ?_)
    refine Imp.call rfl (ei_iIsWorld r36 _) (fun r69 _ => ?_)
    refine Imp.br rfl ?_ ?_
    · exact Imp.ret rfl
    · refine Imp.call rfl (ei_ltoWorld aW _) (fun r70 _ => ?_)
      refine Imp.call rfl (ei_leqWorld r36 r70 _) (fun r103 _ => ?_)
      refine Imp.br rfl ?_ ?_
      · exact Imp.ret rfl
      · exact Imp.ret rfl
end Go.Am
