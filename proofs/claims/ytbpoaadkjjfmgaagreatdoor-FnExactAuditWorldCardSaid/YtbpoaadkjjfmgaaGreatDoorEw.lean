/-
  Typed forms of functions of the program, written by program (eform.py): each over structures and lists, and that, where it answers, the extracted function hands on that answer.
-/
import Derived.Test.YtbpoaadkjjfmgaaGreatDoorAmTyped
import Derived.Test.YtbpoaadkjjfmgaaGreatDoorFw
import Derived.Test.YtbpoaadkjjfmgaaGreatDoorTw
set_option maxRecDepth 10000
set_option linter.unusedVariables false
namespace Go.Am
open Go Go.Proofs
variable {β : Type}
abbrev OLL := Option (List Leaf ⊕ (Nat × List Leaf))
abbrev OU := Option (Unit ⊕ (Unit ⊕ Unit))
abbrev RAddr (l : List TAddr) : List V := rows kAddr TAddr.row l
abbrev REntry (l : List TEntry) : List V := rows kEntry TEntry.row l
abbrev RFile (l : List TFile) : List V := rows kFile TFile.row l
abbrev RKept (l : List TKept) : List V := rows kKept TKept.row l
abbrev RModule (l : List TModule) : List V := rows kModule TModule.row l
abbrev RNode (l : List TNode) : List V := rows kNode TNode.row l
abbrev RSent (l : List TSent) : List V := rows kSent TSent.row l
abbrev RServer (l : List TServer) : List V := rows kServer TServer.row l
abbrev RSlot (l : List TSlot) : List V := rows kSlot TSlot.row l
abbrev RToken (l : List TToken) : List V := rows kToken TToken.row l
abbrev RVisit (l : List TVisit) : List V := rows kVisit TVisit.row l
theorem S_len (l : List LU) : (rStr l).length = l.length := U_len (T := LU) (kd := .str) (g1 := fun e => e) l
theorem S_app (a b : List LU) : rStr a ++ rStr b = rStr (a ++ b) := U_app (T := LU) (kd := .str) (g1 := fun e => e) a b
theorem S_cut (l : List LU) (n m : Nat) : ((rStr l).take n).drop m = rStr ((l.take n).drop m) := U_cut (T := LU) (kd := .str) (g1 := fun e => e) l n m
theorem S_lt {l : List LU} {i : Nat} (h : i < l.length) : (i : Int) < ((rStr l).length : Int) := U_lt (T := LU) (kd := .str) (g1 := fun e => e) h
theorem S_irr (l : List LU) : ¬ (l.length : Int) < ((rStr l).length : Int) := U_irr (T := LU) (kd := .str) (g1 := fun e => e) l
section
variable {α γ : Type} {x y : Option α} {x' y' : Option γ} {k : γ → Option α}
theorem irr {r : γ} (h : x = k r := by exact rfl) : Imp x (some r) k := Imp.ret h
theorem ibr {b : Bool} (hx : Imp x x' k) (hy : Imp y y' k) : Imp (br b x y) (Go.Am.br b x' y') k := Imp.br rfl hx hy
theorem if1 {d : Decidable ((1 : Nat) = 0)} (hy : Imp y x' k) : Imp (@ite _ ((1 : Nat) = 0) d x y) x' k := Imp.ifF Nat.one_ne_zero hy
theorem if0 {d : Decidable ((0 : Nat) = 0)} (hx : Imp x x' k) : Imp (@ite _ ((0 : Nat) = 0) d x y) x' k := Imp.ifT rfl hx
end
abbrev tl0 (p : TPage) : List Leaf := [.s p.xAddr.xHost, .s p.xAddr.xPath, .b p.xPolicy.xSet, .l (rStr p.xPolicy.xScripts), .l (rStr p.xPolicy.xStyles), .l (rStr p.xPolicy.xImages), .s p.xPolicy.xNonce, .s p.xTok.xRest, .l (RToken p.xQueue), .b p.xEnded, .l (RNode p.xBuilder.xNodes), .l (rInt p.xBuilder.xOpen), .l (RSlot p.xSlots), .l (RModule p.xMods), .l (RAddr p.xEntries), .i p.xBlock, .i p.xInline, .i p.xDeferred, .i p.xEntered, .l (RAddr p.xRan), .l (rStr p.xLog), .b p.xLoaded]
noncomputable def sl1In (x : Int) (least : Int) (most : Int) : Option Bool :=
 br (decide (x ≥ least)) (
 some (decide (x ≤ most))
 ) (
 some false
 )
theorem ei_sl1In (x : Int) (least : Int) (most : Int) (k : Bool → Option β) : Imp (F41 β x least most k) (sl1In x least most) k := by
 delta F41 P41 sl1In
 refine ibr ?_ ?_
 ·exact irr
 ·exact irr
noncomputable def sIsName (s : LU) : Option Bool :=
 (forE s (fun (i_1 : Nat) (x_1 : UInt8) (s1 : Unit) => (
 br (decide ((x_1.toNat : Int) < 97)) (
 some (.inr (.inl ()))
 ) (
 br (decide ((x_1.toNat : Int) > 122)) (
 some (.inr (.inl ()))
 ) (
 some (.inl ())
 )
 )
 : OU)) (fun (s1 : Unit) => (.inr () : Unit ⊕ Unit)) (() : Unit)).bind <|
 Sum.elim
 (fun (r4 : Unit) =>
 some false
 )
 (fun (r4 : Unit) =>
 (sl1In (s.length : Int) 1 8).bind fun (r5 : Bool) =>
 some r5
 )
theorem ei_sIsName (s : LU) (k : Bool → Option β) : Imp (F90 β s k) (sIsName s) k := by
 delta F90 P90 sIsName
 refine Imp.for (enc := fun (i_1 : Nat) (s1 : Unit) => [.s s, .i (i_1 : Int)]) (encR := Sum.elim (fun (u : Unit) => (((0, [.s s, .b false]) : Nat × List Leaf))) (fun (u : Unit) => (((1, [.s s]) : Nat × List Leaf)))) rfl (fun i_1 x_1 s1 hx1 hl1 hm1 => Imp.brT (Int.ofNat_lt.2 hl1) ?_) (fun s1 => brN (Int.lt_irrefl _) rfl) (fun r4 => ?_)
 ·refine Imp.idxSFor hx1 ?_
  refine ibr ?_ ?_
  ·exact irr
  ·refine Imp.idxSFor hx1 ?_
   refine ibr ?_ ?_
   ·exact irr
   ·exact Imp.ret (c1 (fun (h1 : Int) => (some (Sum.inl [.s s, .i h1]) : OLL)) (wrapJ hl1))
 ·cases r4 with
  | inl r4 =>
   refine if0 ?_
   exact irr
  | inr r4 =>
   refine if1 ?_
   refine Imp.call rfl (ei_sl1In (s.length : Int) 1 8 _) (fun r5 _ => ?_)
   exact irr
noncomputable def sl5Split (s : LU) (xby : Int) : Option (List (LU)) :=
 (whileE (fun (s1 : (List (LU)) × Int × Int) => (
 br (decide (s1.2.2 ≤ (s.length : Int))) (
 br (s1.2.2 == (s.length : Int)) (
 chk (0 ≤ s1.2.1 ∧ s1.2.1 ≤ s1.2.2 ∧ s1.2.2 ≤ (s.length : Int)) <|
 chk ((s1.1.length + 1) * 16 ≤ 140737488355328 ∧ s1.1.length + 1 ≤ 140737488355328) <|
 some (.inl ((s1.1 ++ [((s.take (s1.2.2.toNat)).drop (s1.2.1.toNat))]), (IntKind.wrap .i64 (s1.2.2 + 1)), (IntKind.wrap .i64 (s1.2.2 + 1))))
 ) (
 (getS s s1.2.2).bind fun (b2 : Int) =>
 br (b2 == xby) (
 chk (0 ≤ s1.2.1 ∧ s1.2.1 ≤ s1.2.2 ∧ s1.2.2 ≤ (s.length : Int)) <|
 chk ((s1.1.length + 1) * 16 ≤ 140737488355328 ∧ s1.1.length + 1 ≤ 140737488355328) <|
 some (.inl ((s1.1 ++ [((s.take (s1.2.2.toNat)).drop (s1.2.1.toNat))]), (IntKind.wrap .i64 (s1.2.2 + 1)), (IntKind.wrap .i64 (s1.2.2 + 1))))
 ) (
 some (.inl (s1.1, s1.2.1, (IntKind.wrap .i64 (s1.2.2 + 1))))
 )
 )
 ) (
 some (.inr s1.1)
 )
 : Option (((List (LU)) × Int × Int) ⊕ (List (LU))))) (([], 0, 0) : (List (LU)) × Int × Int)).bind <|
 fun (r3 : List (LU)) =>
 some r3
theorem ei_sl5Split (s : LU) (xby : Int) (k : List V → Option β) : Imp (F173 β s xby k) (sl5Split s xby) (fun r => k (rStr r)) := by
 delta F173 P173 sl5Split
 refine Imp.while (enc := fun (s1 : (List (LU)) × Int × Int) => [.s s, .i xby, .l (rStr s1.1), .i s1.2.1, .i s1.2.2]) (encR := fun (u : List (LU)) => (((0, [.l (rStr u)]) : Nat × List Leaf))) rfl (fun s1 => ?_) (fun r3 => ?_)
 ·refine ibr ?_ ?_
  ·refine ibr ?_ ?_
   ·refine Imp.chk rfl (fun _ => ?_)
    refine Imp.chk (c2 (fun z0 z1 : Nat => (z0 + 1) * 16 ≤ 140737488355328 ∧ z1 + 1 ≤ 140737488355328) (S_len s1.1) (S_len s1.1)) (fun _ => ?_)
    exact Imp.ret (c1 (fun (h1 : List V) => (some (Sum.inl [.s s, .i xby, .l h1, .i (IntKind.wrap .i64 (s1.2.2 + 1)), .i (IntKind.wrap .i64 (s1.2.2 + 1))]) : OLL)) (S_app s1.1 [((s.take (s1.2.2.toNat)).drop (s1.2.1.toNat))]))
   ·refine Imp.idxS rfl (fun b2 _ => ?_)
    refine ibr ?_ ?_
    ·refine Imp.chk rfl (fun _ => ?_)
     refine Imp.chk (c2 (fun z0 z1 : Nat => (z0 + 1) * 16 ≤ 140737488355328 ∧ z1 + 1 ≤ 140737488355328) (S_len s1.1) (S_len s1.1)) (fun _ => ?_)
     exact Imp.ret (c1 (fun (h1 : List V) => (some (Sum.inl [.s s, .i xby, .l h1, .i (IntKind.wrap .i64 (s1.2.2 + 1)), .i (IntKind.wrap .i64 (s1.2.2 + 1))]) : OLL)) (S_app s1.1 [((s.take (s1.2.2.toNat)).drop (s1.2.1.toNat))]))
    ·exact irr
  ·exact irr
 ·exact irr
noncomputable def sl9Names (l : List (LU)) : Option Bool :=
 (forE l (fun (i_1 : Nat) (x_1 : LU) (s1 : Unit) => (
 (sIsName x_1).bind fun (r3 : Bool) =>
 br (!r3) (
 some (.inr (.inl ()))
 ) (
 some (.inl ())
 )
 : OU)) (fun (s1 : Unit) => (.inr () : Unit ⊕ Unit)) (() : Unit)).bind <|
 Sum.elim
 (fun (r4 : Unit) =>
 some false
 )
 (fun (r4 : Unit) =>
 some (decide ((l.length : Int) ≤ 4))
 )
theorem ei_sl9Names (l : List (LU)) (k : Bool → Option β) : Imp (F210 β (rStr l) k) (sl9Names l) k := by
 delta F210 P210 sl9Names
 refine Imp.for (enc := fun (i_1 : Nat) (s1 : Unit) => [.l (rStr l), .i (i_1 : Int)]) (encR := Sum.elim (fun (u : Unit) => (((0, [.l (rStr l), .b false]) : Nat × List Leaf))) (fun (u : Unit) => (((1, [.l (rStr l)]) : Nat × List Leaf)))) rfl (fun i_1 x_1 s1 hx1 hl1 hm1 => Imp.brT (S_lt hl1) ?_) (fun s1 => brN (S_irr l) rfl) (fun r4 => ?_)
 ·refine Imp.idxFor1 (kd := .str) (g1 := fun e => e) hx1 ?_
  refine Imp.call rfl (ei_sIsName x_1 _) (fun r3 _ => ?_)
  refine ibr ?_ ?_
  ·exact irr
  ·exact Imp.ret (c1 (fun (h1 : Int) => (some (Sum.inl [.l (rStr l), .i h1]) : OLL)) (wrapJ hl1))
 ·cases r4 with
  | inl r4 =>
   refine if0 ?_
   exact irr
  | inr r4 =>
   refine if1 ?_
   exact Imp.ret (c1 (fun (h1 : Bool) => k h1) (c1 (fun z0 : Nat => (decide ((z0 : Int) ≤ 4))) (S_len l)))
noncomputable def sIsValue (s : LU) : Option Bool :=
 (forE s (fun (i_1 : Nat) (x_1 : UInt8) (s1 : Unit) => (
 br (decide ((x_1.toNat : Int) < 97)) (
 br (decide ((x_1.toNat : Int) < 48)) (
 br ((x_1.toNat : Int) != 47) (
 some (.inr (.inl ()))
 ) (
 some (.inl ())
 )
 ) (
 br (decide ((x_1.toNat : Int) > 57)) (
 br ((x_1.toNat : Int) != 47) (
 some (.inr (.inl ()))
 ) (
 some (.inl ())
 )
 ) (
 some (.inl ())
 )
 )
 ) (
 br (decide ((x_1.toNat : Int) > 122)) (
 br (decide ((x_1.toNat : Int) < 48)) (
 br ((x_1.toNat : Int) != 47) (
 some (.inr (.inl ()))
 ) (
 some (.inl ())
 )
 ) (
 br (decide ((x_1.toNat : Int) > 57)) (
 br ((x_1.toNat : Int) != 47) (
 some (.inr (.inl ()))
 ) (
 some (.inl ())
 )
 ) (
 some (.inl ())
 )
 )
 ) (
 some (.inl ())
 )
 )
 : OU)) (fun (s1 : Unit) => (.inr () : Unit ⊕ Unit)) (() : Unit)).bind <|
 Sum.elim
 (fun (r12 : Unit) =>
 some false
 )
 (fun (r12 : Unit) =>
 (sl1In (s.length : Int) 1 20).bind fun (r13 : Bool) =>
 some r13
 )
theorem ei_sIsValue (s : LU) (k : Bool → Option β) : Imp (F211 β s k) (sIsValue s) k := by
 delta F211 P211 sIsValue
 refine Imp.for (enc := fun (i_1 : Nat) (s1 : Unit) => [.s s, .i (i_1 : Int)]) (encR := Sum.elim (fun (u : Unit) => (((0, [.s s, .b false]) : Nat × List Leaf))) (fun (u : Unit) => (((1, [.s s]) : Nat × List Leaf)))) rfl (fun i_1 x_1 s1 hx1 hl1 hm1 => Imp.brT (Int.ofNat_lt.2 hl1) ?_) (fun s1 => brN (Int.lt_irrefl _) rfl) (fun r12 => ?_)
 ·refine Imp.idxSFor hx1 ?_
  refine ibr ?_ ?_
  ·refine Imp.idxSFor hx1 ?_
   refine ibr ?_ ?_
   ·refine Imp.idxSFor hx1 ?_
    refine ibr ?_ ?_
    ·exact irr
    ·exact Imp.ret (c1 (fun (h1 : Int) => (some (Sum.inl [.s s, .i h1]) : OLL)) (wrapJ hl1))
   ·refine Imp.idxSFor hx1 ?_
    refine ibr ?_ ?_
    ·refine Imp.idxSFor hx1 ?_
     refine ibr ?_ ?_
     ·exact irr
     ·exact Imp.ret (c1 (fun (h1 : Int) => (some (Sum.inl [.s s, .i h1]) : OLL)) (wrapJ hl1))
    ·exact Imp.ret (c1 (fun (h1 : Int) => (some (Sum.inl [.s s, .i h1]) : OLL)) (wrapJ hl1))
  ·refine Imp.idxSFor hx1 ?_
   refine ibr ?_ ?_
   ·refine Imp.idxSFor hx1 ?_
    refine ibr ?_ ?_
    ·refine Imp.idxSFor hx1 ?_
     refine ibr ?_ ?_
     ·exact irr
     ·exact Imp.ret (c1 (fun (h1 : Int) => (some (Sum.inl [.s s, .i h1]) : OLL)) (wrapJ hl1))
    ·refine Imp.idxSFor hx1 ?_
     refine ibr ?_ ?_
     ·refine Imp.idxSFor hx1 ?_
      refine ibr ?_ ?_
      ·exact irr
      ·exact Imp.ret (c1 (fun (h1 : Int) => (some (Sum.inl [.s s, .i h1]) : OLL)) (wrapJ hl1))
     ·exact Imp.ret (c1 (fun (h1 : Int) => (some (Sum.inl [.s s, .i h1]) : OLL)) (wrapJ hl1))
   ·exact Imp.ret (c1 (fun (h1 : Int) => (some (Sum.inl [.s s, .i h1]) : OLL)) (wrapJ hl1))
 ·cases r12 with
  | inl r12 =>
   refine if0 ?_
   exact irr
  | inr r12 =>
   refine if1 ?_
   refine Imp.call rfl (ei_sl1In (s.length : Int) 1 20 _) (fun r13 _ => ?_)
   exact irr
noncomputable def sIsPolicy (p : TPolicy) : Option Bool :=
 br (!p.xSet) (
 br ((p.xScripts.length : Int) == 0) (
 br ((p.xStyles.length : Int) == 0) (
 br ((p.xImages.length : Int) == 0) (
 some (p.xNonce == [])
 ) (
 some false
 )
 ) (
 some false
 )
 ) (
 some false
 )
 ) (
 (sl9Names p.xScripts).bind fun (r1 : Bool) =>
 br r1 (
 (sl9Names p.xStyles).bind fun (r2 : Bool) =>
 br r2 (
 (sl9Names p.xImages).bind fun (r3 : Bool) =>
 br r3 (
 br (p.xNonce == []) (
 some true
 ) (
 (sIsValue p.xNonce).bind fun (r4 : Bool) =>
 some r4
 )
 ) (
 some false
 )
 ) (
 some false
 )
 ) (
 some false
 )
 )
theorem ei_sIsPolicy (p : TPolicy) (k : Bool → Option β) : Imp (F191 β p.xSet (rStr p.xScripts) (rStr p.xStyles) (rStr p.xImages) p.xNonce k) (sIsPolicy p) k := by
 delta F191 P191 sIsPolicy
 refine ibr ?_ ?_
 ·refine Imp.br (c1 (fun z0 : Nat => ((z0 : Int) == 0)) (S_len p.xScripts)) ?_ ?_
  ·refine Imp.br (c1 (fun z0 : Nat => ((z0 : Int) == 0)) (S_len p.xStyles)) ?_ ?_
   ·refine Imp.br (c1 (fun z0 : Nat => ((z0 : Int) == 0)) (S_len p.xImages)) ?_ ?_
    ·exact irr
    ·exact irr
   ·exact irr
  ·exact irr
 ·refine Imp.call rfl (ei_sl9Names p.xScripts _) (fun r1 _ => ?_)
  refine ibr ?_ ?_
  ·refine Imp.call rfl (ei_sl9Names p.xStyles _) (fun r2 _ => ?_)
   refine ibr ?_ ?_
   ·refine Imp.call rfl (ei_sl9Names p.xImages _) (fun r3 _ => ?_)
    refine ibr ?_ ?_
    ·refine ibr ?_ ?_
     ·exact irr
     ·refine Imp.call rfl (ei_sIsValue p.xNonce _) (fun r4 _ => ?_)
      exact irr
    ·exact irr
   ·exact irr
  ·exact irr
noncomputable def sl9Words (word : LU) (l : List (LU)) : Option (LU) :=
 (forE l (fun (i_1 : Nat) (x_1 : LU) (s1 : LU) => (
 chk (s1.length + 1 ≤ 9223372036854775807) <|
 chk ((s1 ++ [32]).length + x_1.length ≤ 9223372036854775807) <|
 some (.inl ((s1 ++ [32]) ++ x_1))
 : Option ((LU) ⊕ (LU)))) (fun (s1 : LU) => (s1 : LU)) (word : LU)).bind <|
 fun (r3 : LU) =>
 some r3
theorem ei_sl9Words (word : LU) (l : List (LU)) (k : LU → Option β) : Imp (F192 β word (rStr l) k) (sl9Words word l) k := by
 delta F192 P192 sl9Words
 refine Imp.for (enc := fun (i_1 : Nat) (s1 : LU) => [.s s1, .l (rStr l), .i (i_1 : Int)]) (encR := fun (u : LU) => (((0, [.s u]) : Nat × List Leaf))) rfl (fun i_1 x_1 s1 hx1 hl1 hm1 => Imp.brT (S_lt hl1) ?_) (fun s1 => brN (S_irr l) rfl) (fun r3 => ?_)
 ·refine Imp.chk rfl (fun _ => ?_)
  refine Imp.idxFor1 (kd := .str) (g1 := fun e => e) hx1 ?_
  refine Imp.chk rfl (fun _ => ?_)
  exact Imp.ret (c1 (fun (h1 : Int) => (some (Sum.inl [.s ((s1 ++ [32]) ++ x_1), .l (rStr l), .i h1]) : OLL)) (wrapJ hl1))
 ·exact irr
noncomputable def sFormatPolicy (p : TPolicy) : Option (LU) :=
 (sIsPolicy p).bind fun (r1 : Bool) =>
 br (!r1) (
 some []
 ) (
 br (!p.xSet) (
 some []
 ) (
 (sl9Words [115, 99, 114, 105, 112, 116] p.xScripts).bind fun (r2 : LU) =>
 chk (r2.length + 1 ≤ 9223372036854775807) <|
 (sl9Words [115, 116, 121, 108, 101] p.xStyles).bind fun (r3 : LU) =>
 chk ((r2 ++ [59]).length + r3.length ≤ 9223372036854775807) <|
 chk (((r2 ++ [59]) ++ r3).length + 1 ≤ 9223372036854775807) <|
 (sl9Words [105, 109, 103] p.xImages).bind fun (r4 : LU) =>
 chk ((((r2 ++ [59]) ++ r3) ++ [59]).length + r4.length ≤ 9223372036854775807) <|
 br (!(p.xNonce == [])) (
 chk (((((r2 ++ [59]) ++ r3) ++ [59]) ++ r4).length + 7 ≤ 9223372036854775807) <|
 chk ((((((r2 ++ [59]) ++ r3) ++ [59]) ++ r4) ++ [59, 110, 111, 110, 99, 101, 32]).length + p.xNonce.length ≤ 9223372036854775807) <|
 some ((((((r2 ++ [59]) ++ r3) ++ [59]) ++ r4) ++ [59, 110, 111, 110, 99, 101, 32]) ++ p.xNonce)
 ) (
 some ((((r2 ++ [59]) ++ r3) ++ [59]) ++ r4)
 )
 )
 )
theorem ei_sFormatPolicy (p : TPolicy) (k : LU → Option β) : Imp (F174 β p.xSet (rStr p.xScripts) (rStr p.xStyles) (rStr p.xImages) p.xNonce k) (sFormatPolicy p) k := by
 delta F174 P174 sFormatPolicy
 refine Imp.call rfl (ei_sIsPolicy p _) (fun r1 _ => ?_)
 refine ibr ?_ ?_
 ·exact irr
 ·refine ibr ?_ ?_
  ·exact irr
  ·refine Imp.call rfl (ei_sl9Words [115, 99, 114, 105, 112, 116] p.xScripts _) (fun r2 _ => ?_)
   refine Imp.chk rfl (fun _ => ?_)
   refine Imp.call rfl (ei_sl9Words [115, 116, 121, 108, 101] p.xStyles _) (fun r3 _ => ?_)
   refine Imp.chk rfl (fun _ => ?_)
   refine Imp.chk rfl (fun _ => ?_)
   refine Imp.call rfl (ei_sl9Words [105, 109, 103] p.xImages _) (fun r4 _ => ?_)
   refine Imp.chk rfl (fun _ => ?_)
   refine ibr ?_ ?_
   ·refine Imp.chk rfl (fun _ => ?_)
    refine Imp.chk rfl (fun _ => ?_)
    exact irr
   ·exact irr
noncomputable def sParsePolicy (s : LU) : Option (TPolicy × Bool) :=
 br (s == []) (
 some ((⟨false, [], [], [], []⟩ : TPolicy), true)
 ) (
 (sl5Split s 59).bind fun (r1 : List (LU)) =>
 br (decide ((r1.length : Int) < 3)) (
 some ((⟨false, [], [], [], []⟩ : TPolicy), false)
 ) (
 chk (0 ≤ (0 : Int) ∧ 0 < r1.length) <|
 (getI r1 (0 : Int)).bind fun (e2 : LU) =>
 (sl5Split e2 32).bind fun (r3 : List (LU)) =>
 chk (0 ≤ (1 : Int) ∧ (1 : Int) ≤ (r3.length : Int) ∧ (r3.length : Int) ≤ (r3.length : Int)) <|
 chk (0 ≤ (1 : Int) ∧ 1 < r1.length) <|
 (getI r1 (1 : Int)).bind fun (e4 : LU) =>
 (sl5Split e4 32).bind fun (r5 : List (LU)) =>
 chk (0 ≤ (1 : Int) ∧ (1 : Int) ≤ (r5.length : Int) ∧ (r5.length : Int) ≤ (r5.length : Int)) <|
 chk (0 ≤ (2 : Int) ∧ 2 < r1.length) <|
 (getI r1 (2 : Int)).bind fun (e6 : LU) =>
 (sl5Split e6 32).bind fun (r7 : List (LU)) =>
 chk (0 ≤ (1 : Int) ∧ (1 : Int) ≤ (r7.length : Int) ∧ (r7.length : Int) ≤ (r7.length : Int)) <|
 br (decide ((r1.length : Int) > 3)) (
 chk (0 ≤ (3 : Int) ∧ 3 < r1.length) <|
 (getI r1 (3 : Int)).bind fun (e8 : LU) =>
 br (decide ((e8.length : Int) > 6)) (
 chk (0 ≤ (3 : Int) ∧ 3 < r1.length) <|
 (getI r1 (3 : Int)).bind fun (e9 : LU) =>
 chk (0 ≤ (6 : Int) ∧ (6 : Int) ≤ (e9.length : Int) ∧ (e9.length : Int) ≤ (e9.length : Int)) <|
 (sFormatPolicy (⟨true, ((r3.take ((r3.length : Int).toNat)).drop 1), ((r5.take ((r5.length : Int).toNat)).drop 1), ((r7.take ((r7.length : Int).toNat)).drop 1), ((e9.take ((e9.length : Int).toNat)).drop 6)⟩ : TPolicy)).bind fun (r10 : LU) =>
 br (!(r10 == s)) (
 some ((⟨false, [], [], [], []⟩ : TPolicy), false)
 ) (
 some ((⟨true, ((r3.take ((r3.length : Int).toNat)).drop 1), ((r5.take ((r5.length : Int).toNat)).drop 1), ((r7.take ((r7.length : Int).toNat)).drop 1), ((e9.take ((e9.length : Int).toNat)).drop 6)⟩ : TPolicy), true)
 )
 ) (
 (sFormatPolicy (⟨true, ((r3.take ((r3.length : Int).toNat)).drop 1), ((r5.take ((r5.length : Int).toNat)).drop 1), ((r7.take ((r7.length : Int).toNat)).drop 1), []⟩ : TPolicy)).bind fun (r11 : LU) =>
 br (!(r11 == s)) (
 some ((⟨false, [], [], [], []⟩ : TPolicy), false)
 ) (
 some ((⟨true, ((r3.take ((r3.length : Int).toNat)).drop 1), ((r5.take ((r5.length : Int).toNat)).drop 1), ((r7.take ((r7.length : Int).toNat)).drop 1), []⟩ : TPolicy), true)
 )
 )
 ) (
 (sFormatPolicy (⟨true, ((r3.take ((r3.length : Int).toNat)).drop 1), ((r5.take ((r5.length : Int).toNat)).drop 1), ((r7.take ((r7.length : Int).toNat)).drop 1), []⟩ : TPolicy)).bind fun (r12 : LU) =>
 br (!(r12 == s)) (
 some ((⟨false, [], [], [], []⟩ : TPolicy), false)
 ) (
 some ((⟨true, ((r3.take ((r3.length : Int).toNat)).drop 1), ((r5.take ((r5.length : Int).toNat)).drop 1), ((r7.take ((r7.length : Int).toNat)).drop 1), []⟩ : TPolicy), true)
 )
 )
 )
 )
theorem ei_sParsePolicy (s : LU) (k : Bool → List V → List V → List V → LU → Bool → Option β) : Imp (F143 β s k) (sParsePolicy s) (fun r => k r.1.xSet (rStr r.1.xScripts) (rStr r.1.xStyles) (rStr r.1.xImages) r.1.xNonce r.2) := by
 delta F143 P143 sParsePolicy
 refine ibr ?_ ?_
 ·exact irr
 ·refine Imp.call rfl (ei_sl5Split s 59 _) (fun r1 _ => ?_)
  refine Imp.br (c1 (fun z0 : Nat => (decide ((z0 : Int) < 3))) (S_len r1)) ?_ ?_
  ·exact irr
  ·refine Imp.chk (c1 (fun z0 : Nat => 0 ≤ (0 : Int) ∧ 0 < z0) (S_len r1)) (fun _ => ?_)
   refine Imp.idxAt1 (kd := .str) (g1 := fun e => e) rfl rfl (fun e2 => rfl) (fun e2 _ => ?_)
   refine Imp.call rfl (ei_sl5Split e2 32 _) (fun r3 _ => ?_)
   refine Imp.chk (c3 (fun z0 z1 z2 : Nat => 0 ≤ (1 : Int) ∧ (1 : Int) ≤ (z0 : Int) ∧ (z1 : Int) ≤ (z2 : Int)) (S_len r3) (S_len r3) (S_len r3)) (fun _ => ?_)
   refine Imp.chk (c1 (fun z0 : Nat => 0 ≤ (1 : Int) ∧ 1 < z0) (S_len r1)) (fun _ => ?_)
   refine Imp.idxAt1 (kd := .str) (g1 := fun e => e) rfl rfl (fun e4 => rfl) (fun e4 _ => ?_)
   refine Imp.call rfl (ei_sl5Split e4 32 _) (fun r5 _ => ?_)
   refine Imp.chk (c3 (fun z0 z1 z2 : Nat => 0 ≤ (1 : Int) ∧ (1 : Int) ≤ (z0 : Int) ∧ (z1 : Int) ≤ (z2 : Int)) (S_len r5) (S_len r5) (S_len r5)) (fun _ => ?_)
   refine Imp.chk (c1 (fun z0 : Nat => 0 ≤ (2 : Int) ∧ 2 < z0) (S_len r1)) (fun _ => ?_)
   refine Imp.idxAt1 (kd := .str) (g1 := fun e => e) rfl rfl (fun e6 => rfl) (fun e6 _ => ?_)
   refine Imp.call rfl (ei_sl5Split e6 32 _) (fun r7 _ => ?_)
   refine Imp.chk (c3 (fun z0 z1 z2 : Nat => 0 ≤ (1 : Int) ∧ (1 : Int) ≤ (z0 : Int) ∧ (z1 : Int) ≤ (z2 : Int)) (S_len r7) (S_len r7) (S_len r7)) (fun _ => ?_)
   refine Imp.br (c1 (fun z0 : Nat => (decide ((z0 : Int) > 3))) (S_len r1)) ?_ ?_
   ·refine Imp.chk (c1 (fun z0 : Nat => 0 ≤ (3 : Int) ∧ 3 < z0) (S_len r1)) (fun _ => ?_)
    refine Imp.idxAt1 (kd := .str) (g1 := fun e => e) rfl rfl (fun e8 => rfl) (fun e8 _ => ?_)
    refine ibr ?_ ?_
    ·refine Imp.chk (c1 (fun z0 : Nat => 0 ≤ (3 : Int) ∧ 3 < z0) (S_len r1)) (fun _ => ?_)
     refine Imp.idxAt1 (kd := .str) (g1 := fun e => e) rfl rfl (fun e9 => rfl) (fun e9 _ => ?_)
     refine Imp.chk rfl (fun _ => ?_)
     refine Imp.call (c3 (fun (w1 : List V) (w2 : List V) (w3 : List V) => F174 _ true w1 w2 w3 ((e9.take ((e9.length : Int).toNat)).drop 6)) ((c3 (fun (u : List V) (a b : Nat) => (u.take a).drop b) rfl (c1 (fun z0 : Nat => ((z0 : Int).toNat)) (S_len r3)) rfl).trans (S_cut r3 ((r3.length : Int).toNat) 1)) ((c3 (fun (u : List V) (a b : Nat) => (u.take a).drop b) rfl (c1 (fun z0 : Nat => ((z0 : Int).toNat)) (S_len r5)) rfl).trans (S_cut r5 ((r5.length : Int).toNat) 1)) ((c3 (fun (u : List V) (a b : Nat) => (u.take a).drop b) rfl (c1 (fun z0 : Nat => ((z0 : Int).toNat)) (S_len r7)) rfl).trans (S_cut r7 ((r7.length : Int).toNat) 1))) (ei_sFormatPolicy (⟨true, ((r3.take ((r3.length : Int).toNat)).drop 1), ((r5.take ((r5.length : Int).toNat)).drop 1), ((r7.take ((r7.length : Int).toNat)).drop 1), ((e9.take ((e9.length : Int).toNat)).drop 6)⟩ : TPolicy) _) (fun r10 _ => ?_)
     refine ibr ?_ ?_
     ·exact irr
     ·exact Imp.ret (c3 (fun (h1 : List V) (h2 : List V) (h3 : List V) => k true h1 h2 h3 ((e9.take ((e9.length : Int).toNat)).drop 6) true) ((c3 (fun (u : List V) (a b : Nat) => (u.take a).drop b) rfl (c1 (fun z0 : Nat => ((z0 : Int).toNat)) (S_len r3)) rfl).trans (S_cut r3 ((r3.length : Int).toNat) 1)) ((c3 (fun (u : List V) (a b : Nat) => (u.take a).drop b) rfl (c1 (fun z0 : Nat => ((z0 : Int).toNat)) (S_len r5)) rfl).trans (S_cut r5 ((r5.length : Int).toNat) 1)) ((c3 (fun (u : List V) (a b : Nat) => (u.take a).drop b) rfl (c1 (fun z0 : Nat => ((z0 : Int).toNat)) (S_len r7)) rfl).trans (S_cut r7 ((r7.length : Int).toNat) 1)))
    ·refine Imp.call (c3 (fun (w1 : List V) (w2 : List V) (w3 : List V) => F174 _ true w1 w2 w3 []) ((c3 (fun (u : List V) (a b : Nat) => (u.take a).drop b) rfl (c1 (fun z0 : Nat => ((z0 : Int).toNat)) (S_len r3)) rfl).trans (S_cut r3 ((r3.length : Int).toNat) 1)) ((c3 (fun (u : List V) (a b : Nat) => (u.take a).drop b) rfl (c1 (fun z0 : Nat => ((z0 : Int).toNat)) (S_len r5)) rfl).trans (S_cut r5 ((r5.length : Int).toNat) 1)) ((c3 (fun (u : List V) (a b : Nat) => (u.take a).drop b) rfl (c1 (fun z0 : Nat => ((z0 : Int).toNat)) (S_len r7)) rfl).trans (S_cut r7 ((r7.length : Int).toNat) 1))) (ei_sFormatPolicy (⟨true, ((r3.take ((r3.length : Int).toNat)).drop 1), ((r5.take ((r5.length : Int).toNat)).drop 1), ((r7.take ((r7.length : Int).toNat)).drop 1), []⟩ : TPolicy) _) (fun r11 _ => ?_)
     refine ibr ?_ ?_
     ·exact irr
     ·exact Imp.ret (c3 (fun (h1 : List V) (h2 : List V) (h3 : List V) => k true h1 h2 h3 [] true) ((c3 (fun (u : List V) (a b : Nat) => (u.take a).drop b) rfl (c1 (fun z0 : Nat => ((z0 : Int).toNat)) (S_len r3)) rfl).trans (S_cut r3 ((r3.length : Int).toNat) 1)) ((c3 (fun (u : List V) (a b : Nat) => (u.take a).drop b) rfl (c1 (fun z0 : Nat => ((z0 : Int).toNat)) (S_len r5)) rfl).trans (S_cut r5 ((r5.length : Int).toNat) 1)) ((c3 (fun (u : List V) (a b : Nat) => (u.take a).drop b) rfl (c1 (fun z0 : Nat => ((z0 : Int).toNat)) (S_len r7)) rfl).trans (S_cut r7 ((r7.length : Int).toNat) 1)))
   ·refine Imp.call (c3 (fun (w1 : List V) (w2 : List V) (w3 : List V) => F174 _ true w1 w2 w3 []) ((c3 (fun (u : List V) (a b : Nat) => (u.take a).drop b) rfl (c1 (fun z0 : Nat => ((z0 : Int).toNat)) (S_len r3)) rfl).trans (S_cut r3 ((r3.length : Int).toNat) 1)) ((c3 (fun (u : List V) (a b : Nat) => (u.take a).drop b) rfl (c1 (fun z0 : Nat => ((z0 : Int).toNat)) (S_len r5)) rfl).trans (S_cut r5 ((r5.length : Int).toNat) 1)) ((c3 (fun (u : List V) (a b : Nat) => (u.take a).drop b) rfl (c1 (fun z0 : Nat => ((z0 : Int).toNat)) (S_len r7)) rfl).trans (S_cut r7 ((r7.length : Int).toNat) 1))) (ei_sFormatPolicy (⟨true, ((r3.take ((r3.length : Int).toNat)).drop 1), ((r5.take ((r5.length : Int).toNat)).drop 1), ((r7.take ((r7.length : Int).toNat)).drop 1), []⟩ : TPolicy) _) (fun r12 _ => ?_)
    refine ibr ?_ ?_
    ·exact irr
    ·exact Imp.ret (c3 (fun (h1 : List V) (h2 : List V) (h3 : List V) => k true h1 h2 h3 [] true) ((c3 (fun (u : List V) (a b : Nat) => (u.take a).drop b) rfl (c1 (fun z0 : Nat => ((z0 : Int).toNat)) (S_len r3)) rfl).trans (S_cut r3 ((r3.length : Int).toNat) 1)) ((c3 (fun (u : List V) (a b : Nat) => (u.take a).drop b) rfl (c1 (fun z0 : Nat => ((z0 : Int).toNat)) (S_len r5)) rfl).trans (S_cut r5 ((r5.length : Int).toNat) 1)) ((c3 (fun (u : List V) (a b : Nat) => (u.take a).drop b) rfl (c1 (fun z0 : Nat => ((z0 : Int).toNat)) (S_len r7)) rfl).trans (S_cut r7 ((r7.length : Int).toNat) 1)))
noncomputable def sIsResponse (x : TResponse) : Option Bool :=
 (sParsePolicy x.xPolicy).bind fun (r1 : TPolicy × Bool) =>
 (sl1In x.xStatus 100 599).bind fun (r7 : Bool) =>
 br r7 (
 (sl1In x.xKind 1 5).bind fun (r8 : Bool) =>
 br r8 (
 br (decide ((x.xBody.length : Int) ≤ 400)) (
 (sl1In x.xAge 0 1000).bind fun (r9 : Bool) =>
 br r9 (
 some r1.2
 ) (
 some false
 )
 ) (
 some false
 )
 ) (
 some false
 )
 ) (
 some false
 )
theorem ei_sIsResponse (x : TResponse) (k : Bool → Option β) : Imp (F92 β x.xStatus x.xKind x.xBody x.xAge x.xShares x.xPolicy k) (sIsResponse x) k := by
 delta F92 P92 sIsResponse
 refine Imp.call rfl (ei_sParsePolicy x.xPolicy _) (fun r1 _ => ?_)
 refine Imp.call rfl (ei_sl1In x.xStatus 100 599 _) (fun r7 _ => ?_)
 refine ibr ?_ ?_
 ·refine Imp.call rfl (ei_sl1In x.xKind 1 5 _) (fun r8 _ => ?_)
  refine ibr ?_ ?_
  ·refine ibr ?_ ?_
   ·refine Imp.call rfl (ei_sl1In x.xAge 0 1000 _) (fun r9 _ => ?_)
    refine ibr ?_ ?_
    ·exact irr
    ·exact irr
   ·exact irr
  ·exact irr
 ·exact irr
noncomputable def sIsServer (s : TServer) : Option Bool :=
 (forE s.xFiles (fun (i_1 : Nat) (x_1 : TFile) (s1 : Unit) => (
 (sIsName x_1.xPath).bind fun (r3 : Bool) =>
 br (!r3) (
 some (.inr (.inl ()))
 ) (
 (sIsResponse x_1.xResponse).bind fun (r5 : Bool) =>
 br (!r5) (
 some (.inr (.inl ()))
 ) (
 (forI (i_1 : Int) (fun (i_6 : Nat) (s6 : Unit) => (
 (getI s.xFiles (i_6 : Int)).bind fun (e7 : TFile) =>
 br (e7.xPath == x_1.xPath) (
 some (.inr (.inl ()))
 ) (
 some (.inl ())
 )
 : OU)) (fun (s6 : Unit) => (.inr () : Unit ⊕ Unit)) (() : Unit)).bind <|
 Sum.elim
 (fun (r9 : Unit) =>
 some (.inr (.inl ()))
 )
 (fun (r9 : Unit) =>
 some (.inl ())
 )
 )
 )
 : OU)) (fun (s1 : Unit) => (.inr () : Unit ⊕ Unit)) (() : Unit)).bind <|
 Sum.elim
 (fun (r10 : Unit) =>
 some false
 )
 (fun (r10 : Unit) =>
 (sIsName s.xHost).bind fun (r11 : Bool) =>
 br r11 (
 some (decide ((s.xFiles.length : Int) ≤ 10))
 ) (
 some false
 )
 )
theorem ei_sIsServer (s : TServer) (k : Bool → Option β) : Imp (F88 β s.xHost (RFile s.xFiles) k) (sIsServer s) k := by
 delta F88 P88 sIsServer
 refine Imp.for (enc := fun (i_1 : Nat) (s1 : Unit) => [.i (i_1 : Int), .s s.xHost, .l (RFile s.xFiles)]) (encR := Sum.elim (fun (u : Unit) => (((0, [.b false, .s s.xHost, .l (RFile s.xFiles)]) : Nat × List Leaf))) (fun (u : Unit) => (((1, [.s s.xHost, .l (RFile s.xFiles)]) : Nat × List Leaf)))) rfl (fun i_1 x_1 s1 hx1 hl1 hm1 => Imp.brT (T_lt (g := TFile.row) hl1) ?_) (fun s1 => brN (T_irr (g := TFile.row) s.xFiles) rfl) (fun r10 => ?_)
 ·refine Imp.idxFor (g := TFile.row) hx1 ?_
  refine Imp.call rfl (ei_sIsName x_1.xPath _) (fun r3 _ => ?_)
  refine ibr ?_ ?_
  ·exact irr
  ·refine Imp.idxFor (g := TFile.row) hx1 ?_
   refine Imp.call rfl (ei_sIsResponse x_1.xResponse _) (fun r5 _ => ?_)
   refine ibr ?_ ?_
   ·exact irr
   ·refine Imp.forI (enc := fun (i_6 : Nat) (s6 : Unit) => [.i (i_1 : Int), .i (i_6 : Int), .s s.xHost, .l (RFile s.xFiles)]) (encR := Sum.elim (fun (u : Unit) => (((0, [.b false, .i (i_1 : Int), .s s.xHost, .l (RFile s.xFiles)]) : Nat × List Leaf))) (fun (u : Unit) => (((1, [.i (i_1 : Int), .s s.xHost, .l (RFile s.xFiles)]) : Nat × List Leaf)))) rfl (fun i_6 s6 hb6 hl6 hm6 => Imp.brT hb6 ?_) (fun s6 hb6 => brN hb6 rfl) (fun r9 => ?_)
    ·refine Imp.idx (g := TFile.row) rfl rfl (fun e7 _ => ?_)
     refine Imp.idxFor (g := TFile.row) hx1 ?_
     refine ibr ?_ ?_
     ·exact irr
     ·exact Imp.ret (c1 (fun (h1 : Int) => (some (Sum.inl [.i (i_1 : Int), .i h1, .s s.xHost, .l (RFile s.xFiles)]) : OLL)) (wrapJ hl6))
    ·cases r9 with
     | inl r9 =>
      refine if0 ?_
      exact irr
     | inr r9 =>
      refine if1 ?_
      exact Imp.ret (c1 (fun (h1 : Int) => (some (Sum.inl [.i h1, .s s.xHost, .l (RFile s.xFiles)]) : OLL)) (wrapJ hl1))
 ·cases r10 with
  | inl r10 =>
   refine if0 ?_
   exact irr
  | inr r10 =>
   refine if1 ?_
   refine Imp.call rfl (ei_sIsName s.xHost _) (fun r11 _ => ?_)
   refine ibr ?_ ?_
   ·exact Imp.ret (c1 (fun (h1 : Bool) => k h1) (c1 (fun z0 : Nat => (decide ((z0 : Int) ≤ 10))) (T_len (g := TFile.row) s.xFiles)))
   ·exact irr
noncomputable def sl12Server (l : List TServer) (host : LU) : Option Int :=
 (forE l (fun (i_1 : Nat) (x_1 : TServer) (s1 : Unit) => (
 br (x_1.xHost == host) (
 some (.inr (.inl (i_1 : Int)))
 ) (
 some (.inl ())
 )
 : Option (Unit ⊕ (Int ⊕ Unit)))) (fun (s1 : Unit) => (.inr () : Int ⊕ Unit)) (() : Unit)).bind <|
 Sum.elim
 (fun (r3 : Int) =>
 some r3
 )
 (fun (r3 : Unit) =>
 some (-1)
 )
theorem ei_sl12Server (l : List TServer) (host : LU) (k : Int → Option β) : Imp (F89 β (RServer l) host k) (sl12Server l host) k := by
 delta F89 P89 sl12Server
 refine Imp.for (enc := fun (i_1 : Nat) (s1 : Unit) => [.l (RServer l), .s host, .i (i_1 : Int)]) (encR := Sum.elim (fun (u : Int) => (((0, [.i u]) : Nat × List Leaf))) (fun (u : Unit) => (((1, []) : Nat × List Leaf)))) rfl (fun i_1 x_1 s1 hx1 hl1 hm1 => Imp.brT (T_lt (g := TServer.row) hl1) ?_) (fun s1 => brN (T_irr (g := TServer.row) l) rfl) (fun r3 => ?_)
 ·refine Imp.idxFor (g := TServer.row) hx1 ?_
  refine ibr ?_ ?_
  ·exact irr
  ·exact Imp.ret (c1 (fun (h1 : Int) => (some (Sum.inl [.l (RServer l), .s host, .i h1]) : OLL)) (wrapJ hl1))
 ·cases r3 with
  | inl r3 =>
   refine if0 ?_
   exact irr
  | inr r3 =>
   refine if1 ?_
   exact irr
noncomputable def sAreServers (l : List TServer) : Option Bool :=
 (forE l (fun (i_1 : Nat) (x_1 : TServer) (s1 : Unit) => (
 (sIsServer x_1).bind fun (r3 : Bool) =>
 br (!r3) (
 some (.inr (.inl ()))
 ) (
 (sl12Server l x_1.xHost).bind fun (r5 : Int) =>
 br (r5 != (i_1 : Int)) (
 some (.inr (.inl ()))
 ) (
 some (.inl ())
 )
 )
 : OU)) (fun (s1 : Unit) => (.inr () : Unit ⊕ Unit)) (() : Unit)).bind <|
 Sum.elim
 (fun (r6 : Unit) =>
 some false
 )
 (fun (r6 : Unit) =>
 some (decide ((l.length : Int) ≤ 4))
 )
theorem ei_sAreServers (l : List TServer) (k : Bool → Option β) : Imp (F39 β (RServer l) k) (sAreServers l) k := by
 delta F39 P39 sAreServers
 refine Imp.for (enc := fun (i_1 : Nat) (s1 : Unit) => [.l (RServer l), .i (i_1 : Int)]) (encR := Sum.elim (fun (u : Unit) => (((0, [.l (RServer l), .b false]) : Nat × List Leaf))) (fun (u : Unit) => (((1, [.l (RServer l)]) : Nat × List Leaf)))) rfl (fun i_1 x_1 s1 hx1 hl1 hm1 => Imp.brT (T_lt (g := TServer.row) hl1) ?_) (fun s1 => brN (T_irr (g := TServer.row) l) rfl) (fun r6 => ?_)
 ·refine Imp.idxFor (g := TServer.row) hx1 ?_
  refine Imp.call rfl (ei_sIsServer x_1 _) (fun r3 _ => ?_)
  refine ibr ?_ ?_
  ·exact irr
  ·refine Imp.idxFor (g := TServer.row) hx1 ?_
   refine Imp.call rfl (ei_sl12Server l x_1.xHost _) (fun r5 _ => ?_)
   refine ibr ?_ ?_
   ·exact irr
   ·exact Imp.ret (c1 (fun (h1 : Int) => (some (Sum.inl [.l (RServer l), .i h1]) : OLL)) (wrapJ hl1))
 ·cases r6 with
  | inl r6 =>
   refine if0 ?_
   exact irr
  | inr r6 =>
   refine if1 ?_
   exact Imp.ret (c1 (fun (h1 : Bool) => k h1) (c1 (fun z0 : Nat => (decide ((z0 : Int) ≤ 4))) (T_len (g := TServer.row) l)))
noncomputable def sIsAddr (a : TAddr) : Option Bool :=
 (sIsName a.xHost).bind fun (r1 : Bool) =>
 br r1 (
 (sIsName a.xPath).bind fun (r2 : Bool) =>
 some r2
 ) (
 some false
 )
theorem ei_sIsAddr (a : TAddr) (k : Bool → Option β) : Imp (F91 β a.xHost a.xPath k) (sIsAddr a) k := by
 delta F91 P91 sIsAddr
 refine Imp.call rfl (ei_sIsName a.xHost _) (fun r1 _ => ?_)
 refine ibr ?_ ?_
 ·refine Imp.call rfl (ei_sIsName a.xPath _) (fun r2 _ => ?_)
  exact irr
 ·exact irr
noncomputable def sl13Find (c : TCache) (top : LU) (a : TAddr) : Option Int :=
 (forE c.xEntries (fun (i_1 : Nat) (x_1 : TEntry) (s1 : Unit) => (
 br (x_1.xTop == top) (
 br ((x_1.xTo.xHost == a.xHost) && ((x_1.xTo.xPath == a.xPath) && true)) (
 some (.inr (.inl (i_1 : Int)))
 ) (
 some (.inl ())
 )
 ) (
 some (.inl ())
 )
 : Option (Unit ⊕ (Int ⊕ Unit)))) (fun (s1 : Unit) => (.inr () : Int ⊕ Unit)) (() : Unit)).bind <|
 Sum.elim
 (fun (r4 : Int) =>
 some r4
 )
 (fun (r4 : Unit) =>
 some (-1)
 )
theorem ei_sl13Find (c : TCache) (top : LU) (a : TAddr) (k : Int → Option β) : Imp (F93 β (REntry c.xEntries) top a.xHost a.xPath k) (sl13Find c top a) k := by
 delta F93 P93 sl13Find
 refine Imp.for (enc := fun (i_1 : Nat) (s1 : Unit) => [.s top, .i (i_1 : Int), .l (REntry c.xEntries), .s a.xHost, .s a.xPath]) (encR := Sum.elim (fun (u : Int) => (((0, [.i u]) : Nat × List Leaf))) (fun (u : Unit) => (((1, []) : Nat × List Leaf)))) rfl (fun i_1 x_1 s1 hx1 hl1 hm1 => Imp.brT (T_lt (g := TEntry.row) hl1) ?_) (fun s1 => brN (T_irr (g := TEntry.row) c.xEntries) rfl) (fun r4 => ?_)
 ·refine Imp.idxFor (g := TEntry.row) hx1 ?_
  refine ibr ?_ ?_
  ·refine Imp.idxFor (g := TEntry.row) hx1 ?_
   refine ibr ?_ ?_
   ·exact irr
   ·exact Imp.ret (c1 (fun (h1 : Int) => (some (Sum.inl [.s top, .i h1, .l (REntry c.xEntries), .s a.xHost, .s a.xPath]) : OLL)) (wrapJ hl1))
  ·exact Imp.ret (c1 (fun (h1 : Int) => (some (Sum.inl [.s top, .i h1, .l (REntry c.xEntries), .s a.xHost, .s a.xPath]) : OLL)) (wrapJ hl1))
 ·cases r4 with
  | inl r4 =>
   refine if0 ?_
   exact irr
  | inr r4 =>
   refine if1 ?_
   exact irr
noncomputable def sIsCache (c : TCache) : Option Bool :=
 (forE c.xEntries (fun (i_1 : Nat) (x_1 : TEntry) (s1 : Unit) => (
 (sIsName x_1.xTop).bind fun (r3 : Bool) =>
 br (!r3) (
 some (.inr (.inl ()))
 ) (
 (sIsAddr x_1.xTo).bind fun (r4 : Bool) =>
 br (!r4) (
 some (.inr (.inl ()))
 ) (
 (sIsResponse x_1.xResponse).bind fun (r5 : Bool) =>
 br (!r5) (
 some (.inr (.inl ()))
 ) (
 br (x_1.xResponse.xStatus != 200) (
 some (.inr (.inl ()))
 ) (
 (sl13Find c x_1.xTop x_1.xTo).bind fun (r6 : Int) =>
 br (r6 != (i_1 : Int)) (
 some (.inr (.inl ()))
 ) (
 some (.inl ())
 )
 )
 )
 )
 )
 : OU)) (fun (s1 : Unit) => (.inr () : Unit ⊕ Unit)) (() : Unit)).bind <|
 Sum.elim
 (fun (r7 : Unit) =>
 some false
 )
 (fun (r7 : Unit) =>
 some (decide ((c.xEntries.length : Int) ≤ 100))
 )
theorem ei_sIsCache (c : TCache) (k : Bool → Option β) : Imp (F40 β (REntry c.xEntries) k) (sIsCache c) k := by
 delta F40 P40 sIsCache
 refine Imp.for (enc := fun (i_1 : Nat) (s1 : Unit) => [.i (i_1 : Int), .l (REntry c.xEntries)]) (encR := Sum.elim (fun (u : Unit) => (((0, [.b false, .l (REntry c.xEntries)]) : Nat × List Leaf))) (fun (u : Unit) => (((1, [.l (REntry c.xEntries)]) : Nat × List Leaf)))) rfl (fun i_1 x_1 s1 hx1 hl1 hm1 => Imp.brT (T_lt (g := TEntry.row) hl1) ?_) (fun s1 => brN (T_irr (g := TEntry.row) c.xEntries) rfl) (fun r7 => ?_)
 ·refine Imp.idxFor (g := TEntry.row) hx1 ?_
  refine Imp.call rfl (ei_sIsName x_1.xTop _) (fun r3 _ => ?_)
  refine ibr ?_ ?_
  ·exact irr
  ·refine Imp.call rfl (ei_sIsAddr x_1.xTo _) (fun r4 _ => ?_)
   refine ibr ?_ ?_
   ·exact irr
   ·refine Imp.call rfl (ei_sIsResponse x_1.xResponse _) (fun r5 _ => ?_)
    refine ibr ?_ ?_
    ·exact irr
    ·refine ibr ?_ ?_
     ·exact irr
     ·refine Imp.call rfl (ei_sl13Find c x_1.xTop x_1.xTo _) (fun r6 _ => ?_)
      refine ibr ?_ ?_
      ·exact irr
      ·exact Imp.ret (c1 (fun (h1 : Int) => (some (Sum.inl [.i h1, .l (REntry c.xEntries)]) : OLL)) (wrapJ hl1))
 ·cases r7 with
  | inl r7 =>
   refine if0 ?_
   exact irr
  | inr r7 =>
   refine if1 ?_
   exact Imp.ret (c1 (fun (h1 : Bool) => k h1) (c1 (fun z0 : Nat => (decide ((z0 : Int) ≤ 100))) (T_len (g := TEntry.row) c.xEntries)))
noncomputable def sIsNet (n : TNet) : Option Bool :=
 (sAreServers n.xServers).bind fun (r1 : Bool) =>
 br r1 (
 (sIsCache n.xCache).bind fun (r2 : Bool) =>
 br r2 (
 br (decide ((n.xLog.length : Int) ≤ 400)) (
 (sl1In n.xNow 0 999999998000).bind fun (r3 : Bool) =>
 some r3
 ) (
 some false
 )
 ) (
 some false
 )
 ) (
 some false
 )
theorem ei_sIsNet (n : TNet) (k : Bool → Option β) : Imp (F15 β (RServer n.xServers) (REntry n.xCache.xEntries) (RSent n.xLog) n.xNow k) (sIsNet n) k := by
 delta F15 P15 sIsNet
 refine Imp.call rfl (ei_sAreServers n.xServers _) (fun r1 _ => ?_)
 refine ibr ?_ ?_
 ·refine Imp.call rfl (ei_sIsCache n.xCache _) (fun r2 _ => ?_)
  refine ibr ?_ ?_
  ·refine Imp.br (c1 (fun z0 : Nat => (decide ((z0 : Int) ≤ 400))) (T_len (g := TSent.row) n.xLog)) ?_ ?_
   ·refine Imp.call rfl (ei_sl1In n.xNow 0 999999998000 _) (fun r3 _ => ?_)
    exact irr
   ·exact irr
  ·exact irr
 ·exact irr
noncomputable def sIsTab (t : TTab) : Option Bool :=
 (forE t.xVisits (fun (i_1 : Nat) (x_1 : TVisit) (s1 : Unit) => (
 br x_1.xKept (
 br (!((x_1.xAddr.xHost == x_1.xPage.xAddr.xHost) && ((x_1.xAddr.xPath == x_1.xPage.xAddr.xPath) && true))) (
 some (.inr (.inl ()))
 ) (
 some (.inl ())
 )
 ) (
 some (.inl ())
 )
 : OU)) (fun (s1 : Unit) => (.inr () : Unit ⊕ Unit)) (() : Unit)).bind <|
 Sum.elim
 (fun (r5 : Unit) =>
 some false
 )
 (fun (r5 : Unit) =>
 br (decide ((t.xVisits.length : Int) ≤ 6)) (
 br ((t.xVisits.length : Int) == 0) (
 br (t.xAt == (-1)) (
 some true
 ) (
 (sl1In t.xAt 0 (IntKind.wrap .i64 ((t.xVisits.length : Int) - 1))).bind fun (r6 : Bool) =>
 some r6
 )
 ) (
 (sl1In t.xAt 0 (IntKind.wrap .i64 ((t.xVisits.length : Int) - 1))).bind fun (r7 : Bool) =>
 some r7
 )
 ) (
 some false
 )
 )
theorem ei_sIsTab (t : TTab) (k : Bool → Option β) : Imp (F16 β (RVisit t.xVisits) t.xAt k) (sIsTab t) k := by
 delta F16 P16 sIsTab
 refine Imp.for (enc := fun (i_1 : Nat) (s1 : Unit) => [.i (i_1 : Int), .l (RVisit t.xVisits), .i t.xAt]) (encR := Sum.elim (fun (u : Unit) => (((0, [.b false, .l (RVisit t.xVisits), .i t.xAt]) : Nat × List Leaf))) (fun (u : Unit) => (((1, [.l (RVisit t.xVisits), .i t.xAt]) : Nat × List Leaf)))) rfl (fun i_1 x_1 s1 hx1 hl1 hm1 => Imp.brT (T_lt (g := TVisit.row) hl1) ?_) (fun s1 => brN (T_irr (g := TVisit.row) t.xVisits) rfl) (fun r5 => ?_)
 ·refine Imp.idxFor (g := TVisit.row) hx1 ?_
  refine ibr ?_ ?_
  ·refine Imp.idxFor (g := TVisit.row) hx1 ?_
   refine Imp.idxFor (g := TVisit.row) hx1 ?_
   refine ibr ?_ ?_
   ·exact irr
   ·exact Imp.ret (c1 (fun (h1 : Int) => (some (Sum.inl [.i h1, .l (RVisit t.xVisits), .i t.xAt]) : OLL)) (wrapJ hl1))
  ·exact Imp.ret (c1 (fun (h1 : Int) => (some (Sum.inl [.i h1, .l (RVisit t.xVisits), .i t.xAt]) : OLL)) (wrapJ hl1))
 ·cases r5 with
  | inl r5 =>
   refine if0 ?_
   exact irr
  | inr r5 =>
   refine if1 ?_
   refine Imp.br (c1 (fun z0 : Nat => (decide ((z0 : Int) ≤ 6))) (T_len (g := TVisit.row) t.xVisits)) ?_ ?_
   ·refine Imp.br (c1 (fun z0 : Nat => ((z0 : Int) == 0)) (T_len (g := TVisit.row) t.xVisits)) ?_ ?_
    ·refine ibr ?_ ?_
     ·exact irr
     ·refine Imp.call (c1 (fun (w1 : Int) => F41 _ t.xAt 0 w1) (c1 (fun z0 : Nat => (IntKind.wrap .i64 ((z0 : Int) - 1))) (T_len (g := TVisit.row) t.xVisits))) (ei_sl1In t.xAt 0 (IntKind.wrap .i64 ((t.xVisits.length : Int) - 1)) _) (fun r6 _ => ?_)
      exact irr
    ·refine Imp.call (c1 (fun (w1 : Int) => F41 _ t.xAt 0 w1) (c1 (fun z0 : Nat => (IntKind.wrap .i64 ((z0 : Int) - 1))) (T_len (g := TVisit.row) t.xVisits))) (ei_sl1In t.xAt 0 (IntKind.wrap .i64 ((t.xVisits.length : Int) - 1)) _) (fun r7 _ => ?_)
     exact irr
   ·exact irr
noncomputable def sIsWorld (w : TWorld) : Option Bool :=
 (sIsNet w.xNet).bind fun (r1 : Bool) =>
 br r1 (
 (sIsTab w.xTab).bind fun (r2 : Bool) =>
 some r2
 ) (
 some false
 )
theorem ei_sIsWorld (w : TWorld) (k : Bool → Option β) : Imp (F6 β (RServer w.xNet.xServers) (REntry w.xNet.xCache.xEntries) (RSent w.xNet.xLog) w.xNet.xNow (RVisit w.xTab.xVisits) w.xTab.xAt w.xHidden.xReady w.xHidden.xPage.xAddr.xHost w.xHidden.xPage.xAddr.xPath w.xHidden.xPage.xPolicy.xSet (rStr w.xHidden.xPage.xPolicy.xScripts) (rStr w.xHidden.xPage.xPolicy.xStyles) (rStr w.xHidden.xPage.xPolicy.xImages) w.xHidden.xPage.xPolicy.xNonce w.xHidden.xPage.xTok.xRest (RToken w.xHidden.xPage.xQueue) w.xHidden.xPage.xEnded (RNode w.xHidden.xPage.xBuilder.xNodes) (rInt w.xHidden.xPage.xBuilder.xOpen) (RSlot w.xHidden.xPage.xSlots) (RModule w.xHidden.xPage.xMods) (RAddr w.xHidden.xPage.xEntries) w.xHidden.xPage.xBlock w.xHidden.xPage.xInline w.xHidden.xPage.xDeferred w.xHidden.xPage.xEntered (RAddr w.xHidden.xPage.xRan) (rStr w.xHidden.xPage.xLog) w.xHidden.xPage.xLoaded (RKept w.xHidden.xTaken) (RServer w.xHidden.xServers) w.xHidden.xNow w.xFast k) (sIsWorld w) k := by
 delta F6 P6 sIsWorld
 refine Imp.call rfl (ei_sIsNet w.xNet _) (fun r1 _ => ?_)
 refine ibr ?_ ?_
 ·refine Imp.call rfl (ei_sIsTab w.xTab _) (fun r2 _ => ?_)
  exact irr
 ·exact irr
noncomputable def iInRange (n : Int) (low : Int) (high : Int) : Option Bool :=
 br (decide (low ≤ n)) (
 some (decide (n ≤ high))
 ) (
 some false
 )
theorem ei_iInRange (n : Int) (low : Int) (high : Int) (k : Bool → Option β) : Imp (F50 β n low high k) (iInRange n low high) k := by
 delta F50 P50 iInRange
 refine ibr ?_ ?_
 ·exact irr
 ·exact irr
noncomputable def iIsName (s : LU) : Option Bool :=
 (forE s (fun (i_1 : Nat) (x_1 : UInt8) (s1 : Unit) => (
 br (decide ((x_1.toNat : Int) < 97)) (
 some (.inr (.inl ()))
 ) (
 br (decide ((x_1.toNat : Int) > 122)) (
 some (.inr (.inl ()))
 ) (
 some (.inl ())
 )
 )
 : OU)) (fun (s1 : Unit) => (.inr () : Unit ⊕ Unit)) (() : Unit)).bind <|
 Sum.elim
 (fun (r4 : Unit) =>
 some false
 )
 (fun (r4 : Unit) =>
 (iInRange (s.length : Int) 1 8).bind fun (r5 : Bool) =>
 some r5
 )
theorem ei_iIsName (s : LU) (k : Bool → Option β) : Imp (F110 β s k) (iIsName s) k := by
 delta F110 P110 iIsName
 refine Imp.for (enc := fun (i_1 : Nat) (s1 : Unit) => [.s s, .i (i_1 : Int)]) (encR := Sum.elim (fun (u : Unit) => (((0, [.s s, .b false]) : Nat × List Leaf))) (fun (u : Unit) => (((1, [.s s]) : Nat × List Leaf)))) rfl (fun i_1 x_1 s1 hx1 hl1 hm1 => Imp.brT (Int.ofNat_lt.2 hl1) ?_) (fun s1 => brN (Int.lt_irrefl _) rfl) (fun r4 => ?_)
 ·refine Imp.idxSFor hx1 ?_
  refine ibr ?_ ?_
  ·exact irr
  ·refine Imp.idxSFor hx1 ?_
   refine ibr ?_ ?_
   ·exact irr
   ·exact Imp.ret (c1 (fun (h1 : Int) => (some (Sum.inl [.s s, .i h1]) : OLL)) (wrapJ hl1))
 ·cases r4 with
  | inl r4 =>
   refine if0 ?_
   exact irr
  | inr r4 =>
   refine if1 ?_
   refine Imp.call rfl (ei_iInRange (s.length : Int) 1 8 _) (fun r5 _ => ?_)
   exact irr
noncomputable def ifileAt_1_iptr (f : TFile) (c1_1 : LU) : Option Bool :=
 some (f.xPath == c1_1)
theorem ei_ifileAt_1_iptr (f : TFile) (c1_1 : LU) (k : Bool → Option β) : Imp (F179cAs β f.xPath f.xResponse.xStatus f.xResponse.xKind f.xResponse.xBody f.xResponse.xAge f.xResponse.xShares f.xResponse.xPolicy c1_1 k) (ifileAt_1_iptr f c1_1) k := by
 delta F179cAs P179cAs ifileAt_1_iptr
 exact irr
noncomputable def g_slices_IndexFunc_File_File_ifileAt_1 (s : List TFile) (f_1 : LU) : Option Int :=
 (forE s (fun (i_1 : Nat) (x_1 : TFile) (s1 : Unit) => (
 (ifileAt_1_iptr x_1 f_1).bind fun (r3 : Bool) =>
 br r3 (
 some (.inr (.inl (i_1 : Int)))
 ) (
 some (.inl ())
 )
 : Option (Unit ⊕ (Int ⊕ Unit)))) (fun (s1 : Unit) => (.inr () : Int ⊕ Unit)) (() : Unit)).bind <|
 Sum.elim
 (fun (r4 : Int) =>
 some r4
 )
 (fun (r4 : Unit) =>
 some (-1)
 )
theorem ei_g_slices_IndexFunc_File_File_ifileAt_1 (s : List TFile) (f_1 : LU) (k : Int → Option β) : Imp (F178c179 β (RFile s) f_1 k) (g_slices_IndexFunc_File_File_ifileAt_1 s f_1) k := by
 delta F178c179 P178c179 g_slices_IndexFunc_File_File_ifileAt_1
 refine Imp.for (enc := fun (i_1 : Nat) (s1 : Unit) => [.l (RFile s), .s f_1, .i (s.length : Int), .i (i_1 : Int)]) (encR := Sum.elim (fun (u : Int) => (((0, [.i u]) : Nat × List Leaf))) (fun (u : Unit) => (((1, []) : Nat × List Leaf)))) (c1 (fun (h1 : Int) => ([.l (RFile s), .s f_1, .i h1, .i 0] : List Leaf)) (c1 (fun z0 : Nat => (z0 : Int)) (T_len (g := TFile.row) s))) (fun i_1 x_1 s1 hx1 hl1 hm1 => Imp.brT (Int.ofNat_lt.2 hl1) ?_) (fun s1 => brN (Int.lt_irrefl _) rfl) (fun r4 => ?_)
 ·refine Imp.idxFor (g := TFile.row) hx1 ?_
  refine Imp.call rfl (ei_ifileAt_1_iptr x_1 f_1 _) (fun r3 _ => ?_)
  refine ibr ?_ ?_
  ·exact irr
  ·exact Imp.ret (c1 (fun (h1 : Int) => (some (Sum.inl [.l (RFile s), .s f_1, .i (s.length : Int), .i h1]) : OLL)) (wrapJ hl1))
 ·cases r4 with
  | inl r4 =>
   refine if0 ?_
   exact irr
  | inr r4 =>
   refine if1 ?_
   exact irr
noncomputable def ifileAt (s : TServer) (path : LU) : Option Int :=
 (g_slices_IndexFunc_File_File_ifileAt_1 s.xFiles path).bind fun (r1 : Int) =>
 some r1
theorem ei_ifileAt (s : TServer) (path : LU) (k : Int → Option β) : Imp (F152 β s.xHost (RFile s.xFiles) path k) (ifileAt s path) k := by
 delta F152 P152 ifileAt
 refine Imp.call rfl (ei_g_slices_IndexFunc_File_File_ifileAt_1 s.xFiles path _) (fun r1 _ => ?_)
 exact irr
noncomputable def iareHosts_1 (s : LU) : Option Bool :=
 (iIsName s).bind fun (r1 : Bool) =>
 some (!r1)
theorem ei_iareHosts_1 (s : LU) (k : Bool → Option β) : Imp (F232 β s k) (iareHosts_1 s) k := by
 delta F232 P232 iareHosts_1
 refine Imp.call rfl (ei_iIsName s _) (fun r1 _ => ?_)
 exact irr
noncomputable def g_slices_IndexFunc_string_string_iareHosts_1 (s : List (LU)) : Option Int :=
 (forE s (fun (i_1 : Nat) (x_1 : LU) (s1 : Unit) => (
 (iareHosts_1 x_1).bind fun (r3 : Bool) =>
 br r3 (
 some (.inr (.inl (i_1 : Int)))
 ) (
 some (.inl ())
 )
 : Option (Unit ⊕ (Int ⊕ Unit)))) (fun (s1 : Unit) => (.inr () : Int ⊕ Unit)) (() : Unit)).bind <|
 Sum.elim
 (fun (r4 : Int) =>
 some r4
 )
 (fun (r4 : Unit) =>
 some (-1)
 )
theorem ei_g_slices_IndexFunc_string_string_iareHosts_1 (s : List (LU)) (k : Int → Option β) : Imp (F241c232 β (rStr s) k) (g_slices_IndexFunc_string_string_iareHosts_1 s) k := by
 delta F241c232 P241c232 g_slices_IndexFunc_string_string_iareHosts_1
 refine Imp.for (enc := fun (i_1 : Nat) (s1 : Unit) => [.l (rStr s), .i (s.length : Int), .i (i_1 : Int)]) (encR := Sum.elim (fun (u : Int) => (((0, [.i u]) : Nat × List Leaf))) (fun (u : Unit) => (((1, []) : Nat × List Leaf)))) (c1 (fun (h1 : Int) => ([.l (rStr s), .i h1, .i 0] : List Leaf)) (c1 (fun z0 : Nat => (z0 : Int)) (S_len s))) (fun i_1 x_1 s1 hx1 hl1 hm1 => Imp.brT (Int.ofNat_lt.2 hl1) ?_) (fun s1 => brN (Int.lt_irrefl _) rfl) (fun r4 => ?_)
 ·refine Imp.idxFor1 (kd := .str) (g1 := fun e => e) hx1 ?_
  refine Imp.call rfl (ei_iareHosts_1 x_1 _) (fun r3 _ => ?_)
  refine ibr ?_ ?_
  ·exact irr
  ·exact Imp.ret (c1 (fun (h1 : Int) => (some (Sum.inl [.l (rStr s), .i (s.length : Int), .i h1]) : OLL)) (wrapJ hl1))
 ·cases r4 with
  | inl r4 =>
   refine if0 ?_
   exact irr
  | inr r4 =>
   refine if1 ?_
   exact irr
noncomputable def g_slices_ContainsFunc_string_string_iareHosts_1 (s : List (LU)) : Option Bool :=
 (g_slices_IndexFunc_string_string_iareHosts_1 s).bind fun (r1 : Int) =>
 some (decide (r1 ≥ 0))
theorem ei_g_slices_ContainsFunc_string_string_iareHosts_1 (s : List (LU)) (k : Bool → Option β) : Imp (F231c232 β (rStr s) k) (g_slices_ContainsFunc_string_string_iareHosts_1 s) k := by
 delta F231c232 P231c232 g_slices_ContainsFunc_string_string_iareHosts_1
 refine Imp.call rfl (ei_g_slices_IndexFunc_string_string_iareHosts_1 s _) (fun r1 _ => ?_)
 exact irr
noncomputable def iareHosts (l : List (LU)) : Option Bool :=
 br (decide ((l.length : Int) ≤ 4)) (
 (g_slices_ContainsFunc_string_string_iareHosts_1 l).bind fun (r1 : Bool) =>
 some (!r1)
 ) (
 some false
 )
theorem ei_iareHosts (l : List (LU)) (k : Bool → Option β) : Imp (F216 β (rStr l) k) (iareHosts l) k := by
 delta F216 P216 iareHosts
 refine Imp.br (c1 (fun z0 : Nat => (decide ((z0 : Int) ≤ 4))) (S_len l)) ?_ ?_
 ·refine Imp.call rfl (ei_g_slices_ContainsFunc_string_string_iareHosts_1 l _) (fun r1 _ => ?_)
  exact irr
 ·exact irr
noncomputable def iIsValue (s : LU) : Option Bool :=
 (forE s (fun (i_1 : Nat) (x_1 : UInt8) (s1 : Unit) => (
 br (decide ((x_1.toNat : Int) ≥ 97)) (
 br (decide ((x_1.toNat : Int) ≤ 122)) (
 some (.inl ())
 ) (
 br (decide ((x_1.toNat : Int) ≥ 48)) (
 br (decide ((x_1.toNat : Int) ≤ 57)) (
 some (.inl ())
 ) (
 br (!((x_1.toNat : Int) == 47)) (
 some (.inr (.inl ()))
 ) (
 some (.inl ())
 )
 )
 ) (
 br (!((x_1.toNat : Int) == 47)) (
 some (.inr (.inl ()))
 ) (
 some (.inl ())
 )
 )
 )
 ) (
 br (decide ((x_1.toNat : Int) ≥ 48)) (
 br (decide ((x_1.toNat : Int) ≤ 57)) (
 some (.inl ())
 ) (
 br (!((x_1.toNat : Int) == 47)) (
 some (.inr (.inl ()))
 ) (
 some (.inl ())
 )
 )
 ) (
 br (!((x_1.toNat : Int) == 47)) (
 some (.inr (.inl ()))
 ) (
 some (.inl ())
 )
 )
 )
 : OU)) (fun (s1 : Unit) => (.inr () : Unit ⊕ Unit)) (() : Unit)).bind <|
 Sum.elim
 (fun (r12 : Unit) =>
 some false
 )
 (fun (r12 : Unit) =>
 (iInRange (s.length : Int) 1 20).bind fun (r13 : Bool) =>
 some r13
 )
theorem ei_iIsValue (s : LU) (k : Bool → Option β) : Imp (F217 β s k) (iIsValue s) k := by
 delta F217 P217 iIsValue
 refine Imp.for (enc := fun (i_1 : Nat) (s1 : Unit) => [.s s, .i (i_1 : Int)]) (encR := Sum.elim (fun (u : Unit) => (((0, [.s s, .b false]) : Nat × List Leaf))) (fun (u : Unit) => (((1, [.s s]) : Nat × List Leaf)))) rfl (fun i_1 x_1 s1 hx1 hl1 hm1 => Imp.brT (Int.ofNat_lt.2 hl1) ?_) (fun s1 => brN (Int.lt_irrefl _) rfl) (fun r12 => ?_)
 ·refine Imp.idxSFor hx1 ?_
  refine ibr ?_ ?_
  ·refine Imp.idxSFor hx1 ?_
   refine ibr ?_ ?_
   ·exact Imp.ret (c1 (fun (h1 : Int) => (some (Sum.inl [.s s, .i h1]) : OLL)) (wrapJ hl1))
   ·refine Imp.idxSFor hx1 ?_
    refine ibr ?_ ?_
    ·refine Imp.idxSFor hx1 ?_
     refine ibr ?_ ?_
     ·exact Imp.ret (c1 (fun (h1 : Int) => (some (Sum.inl [.s s, .i h1]) : OLL)) (wrapJ hl1))
     ·refine Imp.idxSFor hx1 ?_
      refine ibr ?_ ?_
      ·exact irr
      ·exact Imp.ret (c1 (fun (h1 : Int) => (some (Sum.inl [.s s, .i h1]) : OLL)) (wrapJ hl1))
    ·refine Imp.idxSFor hx1 ?_
     refine ibr ?_ ?_
     ·exact irr
     ·exact Imp.ret (c1 (fun (h1 : Int) => (some (Sum.inl [.s s, .i h1]) : OLL)) (wrapJ hl1))
  ·refine Imp.idxSFor hx1 ?_
   refine ibr ?_ ?_
   ·refine Imp.idxSFor hx1 ?_
    refine ibr ?_ ?_
    ·exact Imp.ret (c1 (fun (h1 : Int) => (some (Sum.inl [.s s, .i h1]) : OLL)) (wrapJ hl1))
    ·refine Imp.idxSFor hx1 ?_
     refine ibr ?_ ?_
     ·exact irr
     ·exact Imp.ret (c1 (fun (h1 : Int) => (some (Sum.inl [.s s, .i h1]) : OLL)) (wrapJ hl1))
   ·refine Imp.idxSFor hx1 ?_
    refine ibr ?_ ?_
    ·exact irr
    ·exact Imp.ret (c1 (fun (h1 : Int) => (some (Sum.inl [.s s, .i h1]) : OLL)) (wrapJ hl1))
 ·cases r12 with
  | inl r12 =>
   refine if0 ?_
   exact irr
  | inr r12 =>
   refine if1 ?_
   refine Imp.call rfl (ei_iInRange (s.length : Int) 1 20 _) (fun r13 _ => ?_)
   exact irr
noncomputable def iIsPolicy (p : TPolicy) : Option Bool :=
 br (!p.xSet) (
 br ((p.xScripts.length : Int) == 0) (
 br ((p.xStyles.length : Int) == 0) (
 br ((p.xImages.length : Int) == 0) (
 some (p.xNonce == [])
 ) (
 some false
 )
 ) (
 some false
 )
 ) (
 some false
 )
 ) (
 (iareHosts p.xScripts).bind fun (r1 : Bool) =>
 br r1 (
 (iareHosts p.xStyles).bind fun (r2 : Bool) =>
 br r2 (
 (iareHosts p.xImages).bind fun (r3 : Bool) =>
 br r3 (
 br (p.xNonce == []) (
 some true
 ) (
 (iIsValue p.xNonce).bind fun (r4 : Bool) =>
 some r4
 )
 ) (
 some false
 )
 ) (
 some false
 )
 ) (
 some false
 )
 )
theorem ei_iIsPolicy (p : TPolicy) (k : Bool → Option β) : Imp (F196 β p.xSet (rStr p.xScripts) (rStr p.xStyles) (rStr p.xImages) p.xNonce k) (iIsPolicy p) k := by
 delta F196 P196 iIsPolicy
 refine ibr ?_ ?_
 ·refine Imp.br (c1 (fun z0 : Nat => ((z0 : Int) == 0)) (S_len p.xScripts)) ?_ ?_
  ·refine Imp.br (c1 (fun z0 : Nat => ((z0 : Int) == 0)) (S_len p.xStyles)) ?_ ?_
   ·refine Imp.br (c1 (fun z0 : Nat => ((z0 : Int) == 0)) (S_len p.xImages)) ?_ ?_
    ·exact irr
    ·exact irr
   ·exact irr
  ·exact irr
 ·refine Imp.call rfl (ei_iareHosts p.xScripts _) (fun r1 _ => ?_)
  refine ibr ?_ ?_
  ·refine Imp.call rfl (ei_iareHosts p.xStyles _) (fun r2 _ => ?_)
   refine ibr ?_ ?_
   ·refine Imp.call rfl (ei_iareHosts p.xImages _) (fun r3 _ => ?_)
    refine ibr ?_ ?_
    ·refine ibr ?_ ?_
     ·exact irr
     ·refine Imp.call rfl (ei_iIsValue p.xNonce _) (fun r4 _ => ?_)
      exact irr
    ·exact irr
   ·exact irr
  ·exact irr
noncomputable def g_strings_Join (a0 : List (LU)) (a1 : LU) : Option (LU) := joinE a0 a1
theorem ei_g_strings_Join (a0 : List (LU)) (a1 : LU) (k : LU → Option β) : Imp (F197 β (rStr a0) a1 k) (g_strings_Join a0 a1) (fun r => k r) := ei_joinE a0 a1 k
noncomputable def iFormatPolicy (p : TPolicy) : Option (LU) :=
 (iIsPolicy p).bind fun (r1 : Bool) =>
 br (!r1) (
 some []
 ) (
 br (!p.xSet) (
 some []
 ) (
 chk ((1 + p.xScripts.length) * 16 ≤ 140737488355328 ∧ 1 + p.xScripts.length ≤ 140737488355328) <|
 (g_strings_Join ([[115, 99, 114, 105, 112, 116]] ++ p.xScripts) [32]).bind fun (r2 : LU) =>
 chk (r2.length + 1 ≤ 9223372036854775807) <|
 chk ((1 + p.xStyles.length) * 16 ≤ 140737488355328 ∧ 1 + p.xStyles.length ≤ 140737488355328) <|
 (g_strings_Join ([[115, 116, 121, 108, 101]] ++ p.xStyles) [32]).bind fun (r3 : LU) =>
 chk ((r2 ++ [59]).length + r3.length ≤ 9223372036854775807) <|
 chk (((r2 ++ [59]) ++ r3).length + 1 ≤ 9223372036854775807) <|
 chk ((1 + p.xImages.length) * 16 ≤ 140737488355328 ∧ 1 + p.xImages.length ≤ 140737488355328) <|
 (g_strings_Join ([[105, 109, 103]] ++ p.xImages) [32]).bind fun (r4 : LU) =>
 chk ((((r2 ++ [59]) ++ r3) ++ [59]).length + r4.length ≤ 9223372036854775807) <|
 br (!(p.xNonce == [])) (
 chk (7 + p.xNonce.length ≤ 9223372036854775807) <|
 chk (((((r2 ++ [59]) ++ r3) ++ [59]) ++ r4).length + ([59, 110, 111, 110, 99, 101, 32] ++ p.xNonce : LU).length ≤ 9223372036854775807) <|
 some (((((r2 ++ [59]) ++ r3) ++ [59]) ++ r4) ++ ([59, 110, 111, 110, 99, 101, 32] ++ p.xNonce))
 ) (
 some ((((r2 ++ [59]) ++ r3) ++ [59]) ++ r4)
 )
 )
 )
theorem ei_iFormatPolicy (p : TPolicy) (k : LU → Option β) : Imp (F182 β p.xSet (rStr p.xScripts) (rStr p.xStyles) (rStr p.xImages) p.xNonce k) (iFormatPolicy p) k := by
 delta F182 P182 iFormatPolicy
 refine Imp.call rfl (ei_iIsPolicy p _) (fun r1 _ => ?_)
 refine ibr ?_ ?_
 ·exact irr
 ·refine ibr ?_ ?_
  ·exact irr
  ·refine Imp.chk (c2 (fun z0 z1 : Nat => (1 + z0) * 16 ≤ 140737488355328 ∧ 1 + z1 ≤ 140737488355328) (S_len p.xScripts) (S_len p.xScripts)) (fun _ => ?_)
   refine Imp.call (c1 (fun (w1 : List V) => F197 _ w1 [32]) (S_app [[115, 99, 114, 105, 112, 116]] p.xScripts)) (ei_g_strings_Join ([[115, 99, 114, 105, 112, 116]] ++ p.xScripts) [32] _) (fun r2 _ => ?_)
   refine Imp.chk rfl (fun _ => ?_)
   refine Imp.chk (c2 (fun z0 z1 : Nat => (1 + z0) * 16 ≤ 140737488355328 ∧ 1 + z1 ≤ 140737488355328) (S_len p.xStyles) (S_len p.xStyles)) (fun _ => ?_)
   refine Imp.call (c1 (fun (w1 : List V) => F197 _ w1 [32]) (S_app [[115, 116, 121, 108, 101]] p.xStyles)) (ei_g_strings_Join ([[115, 116, 121, 108, 101]] ++ p.xStyles) [32] _) (fun r3 _ => ?_)
   refine Imp.chk rfl (fun _ => ?_)
   refine Imp.chk rfl (fun _ => ?_)
   refine Imp.chk (c2 (fun z0 z1 : Nat => (1 + z0) * 16 ≤ 140737488355328 ∧ 1 + z1 ≤ 140737488355328) (S_len p.xImages) (S_len p.xImages)) (fun _ => ?_)
   refine Imp.call (c1 (fun (w1 : List V) => F197 _ w1 [32]) (S_app [[105, 109, 103]] p.xImages)) (ei_g_strings_Join ([[105, 109, 103]] ++ p.xImages) [32] _) (fun r4 _ => ?_)
   refine Imp.chk rfl (fun _ => ?_)
   refine ibr ?_ ?_
   ·refine Imp.chk rfl (fun _ => ?_)
    refine Imp.chk rfl (fun _ => ?_)
    exact irr
   ·exact irr
noncomputable def icopyPolicy (p : TPolicy) : Option TPolicy :=
 chk ((0 + p.xScripts.length) * 16 ≤ 140737488355328 ∧ 0 + p.xScripts.length ≤ 140737488355328) <|
 chk ((0 + p.xStyles.length) * 16 ≤ 140737488355328 ∧ 0 + p.xStyles.length ≤ 140737488355328) <|
 chk ((0 + p.xImages.length) * 16 ≤ 140737488355328 ∧ 0 + p.xImages.length ≤ 140737488355328) <|
 some (⟨p.xSet, ([] ++ p.xScripts), ([] ++ p.xStyles), ([] ++ p.xImages), p.xNonce⟩ : TPolicy)
theorem ei_icopyPolicy (p : TPolicy) (k : Bool → List V → List V → List V → LU → Option β) : Imp (F183 β p.xSet (rStr p.xScripts) (rStr p.xStyles) (rStr p.xImages) p.xNonce k) (icopyPolicy p) (fun r => k r.xSet (rStr r.xScripts) (rStr r.xStyles) (rStr r.xImages) r.xNonce) := by
 delta F183 P183 icopyPolicy
 refine Imp.chk (c2 (fun z0 z1 : Nat => (0 + z0) * 16 ≤ 140737488355328 ∧ 0 + z1 ≤ 140737488355328) (S_len p.xScripts) (S_len p.xScripts)) (fun _ => ?_)
 refine Imp.chk (c2 (fun z0 z1 : Nat => (0 + z0) * 16 ≤ 140737488355328 ∧ 0 + z1 ≤ 140737488355328) (S_len p.xStyles) (S_len p.xStyles)) (fun _ => ?_)
 refine Imp.chk (c2 (fun z0 z1 : Nat => (0 + z0) * 16 ≤ 140737488355328 ∧ 0 + z1 ≤ 140737488355328) (S_len p.xImages) (S_len p.xImages)) (fun _ => ?_)
 exact Imp.ret (c3 (fun (h1 : List V) (h2 : List V) (h3 : List V) => k p.xSet h1 h2 h3 p.xNonce) (S_app [] p.xScripts) (S_app [] p.xStyles) (S_app [] p.xImages))
noncomputable def iIsResponse (a0 : TResponse) : Option Bool := respE (fun a b e n => iFormatPolicy (⟨true, a, b, e, n⟩ : TPolicy)) (fun a b e n => icopyPolicy (⟨true, a, b, e, n⟩ : TPolicy)) a0.xStatus a0.xKind a0.xBody a0.xAge a0.xPolicy
theorem ei_iIsResponse (a0 : TResponse) (k : Bool → Option β) : Imp (F112 β a0.xStatus a0.xKind a0.xBody a0.xAge a0.xShares a0.xPolicy k) (iIsResponse a0) (fun r => k r) := ei_respE (fun β a b e n k => ei_iFormatPolicy (⟨true, a, b, e, n⟩ : TPolicy) k) (fun β a b e n k => ei_icopyPolicy (⟨true, a, b, e, n⟩ : TPolicy) (fun _ _ _ _ _ => k)) a0.xStatus a0.xKind a0.xBody a0.xAge a0.xShares a0.xPolicy k
noncomputable def iIsServer (s : TServer) : Option Bool :=
 (forE s.xFiles (fun (i_1 : Nat) (x_1 : TFile) (s1 : Unit) => (
 (iIsName x_1.xPath).bind fun (r3 : Bool) =>
 br (!r3) (
 some (.inr (.inl ()))
 ) (
 (ifileAt s x_1.xPath).bind fun (r4 : Int) =>
 br (r4 != (i_1 : Int)) (
 some (.inr (.inl ()))
 ) (
 (iIsResponse x_1.xResponse).bind fun (r5 : Bool) =>
 br (!r5) (
 some (.inr (.inl ()))
 ) (
 some (.inl ())
 )
 )
 )
 : OU)) (fun (s1 : Unit) => (.inr () : Unit ⊕ Unit)) (() : Unit)).bind <|
 Sum.elim
 (fun (r6 : Unit) =>
 some false
 )
 (fun (r6 : Unit) =>
 (iIsName s.xHost).bind fun (r7 : Bool) =>
 br r7 (
 some (decide ((s.xFiles.length : Int) ≤ 10))
 ) (
 some false
 )
 )
theorem ei_iIsServer (s : TServer) (k : Bool → Option β) : Imp (F108 β s.xHost (RFile s.xFiles) k) (iIsServer s) k := by
 delta F108 P108 iIsServer
 refine Imp.for (enc := fun (i_1 : Nat) (s1 : Unit) => [.l (RFile s.xFiles), .i (s.xFiles.length : Int), .i (i_1 : Int), .s s.xHost, .l (RFile s.xFiles)]) (encR := Sum.elim (fun (u : Unit) => (((0, [.b false, .s s.xHost, .l (RFile s.xFiles)]) : Nat × List Leaf))) (fun (u : Unit) => (((1, [.s s.xHost, .l (RFile s.xFiles)]) : Nat × List Leaf)))) (c1 (fun (h1 : Int) => ([.l (RFile s.xFiles), .i h1, .i 0, .s s.xHost, .l (RFile s.xFiles)] : List Leaf)) (c1 (fun z0 : Nat => (z0 : Int)) (T_len (g := TFile.row) s.xFiles))) (fun i_1 x_1 s1 hx1 hl1 hm1 => Imp.brT (Int.ofNat_lt.2 hl1) ?_) (fun s1 => brN (Int.lt_irrefl _) rfl) (fun r6 => ?_)
 ·refine Imp.idxFor (g := TFile.row) hx1 ?_
  refine Imp.call rfl (ei_iIsName x_1.xPath _) (fun r3 _ => ?_)
  refine ibr ?_ ?_
  ·exact irr
  ·refine Imp.call rfl (ei_ifileAt s x_1.xPath _) (fun r4 _ => ?_)
   refine ibr ?_ ?_
   ·exact irr
   ·refine Imp.call rfl (ei_iIsResponse x_1.xResponse _) (fun r5 _ => ?_)
    refine ibr ?_ ?_
    ·exact irr
    ·exact Imp.ret (c1 (fun (h1 : Int) => (some (Sum.inl [.l (RFile s.xFiles), .i (s.xFiles.length : Int), .i h1, .s s.xHost, .l (RFile s.xFiles)]) : OLL)) (wrapJ hl1))
 ·cases r6 with
  | inl r6 =>
   refine if0 ?_
   exact irr
  | inr r6 =>
   refine if1 ?_
   refine Imp.call rfl (ei_iIsName s.xHost _) (fun r7 _ => ?_)
   refine ibr ?_ ?_
   ·exact Imp.ret (c1 (fun (h1 : Bool) => k h1) (c1 (fun z0 : Nat => (decide ((z0 : Int) ≤ 10))) (T_len (g := TFile.row) s.xFiles)))
   ·exact irr
noncomputable def iserverAt_1_iptr (s : TServer) (c1_1 : LU) : Option Bool :=
 some (s.xHost == c1_1)
theorem ei_iserverAt_1_iptr (s : TServer) (c1_1 : LU) (k : Bool → Option β) : Imp (F154cAs β s.xHost (RFile s.xFiles) c1_1 k) (iserverAt_1_iptr s c1_1) k := by
 delta F154cAs P154cAs iserverAt_1_iptr
 exact irr
noncomputable def g_slices_IndexFunc_Server_Server_iserverAt_1 (s : List TServer) (f_1 : LU) : Option Int :=
 (forE s (fun (i_1 : Nat) (x_1 : TServer) (s1 : Unit) => (
 (iserverAt_1_iptr x_1 f_1).bind fun (r3 : Bool) =>
 br r3 (
 some (.inr (.inl (i_1 : Int)))
 ) (
 some (.inl ())
 )
 : Option (Unit ⊕ (Int ⊕ Unit)))) (fun (s1 : Unit) => (.inr () : Int ⊕ Unit)) (() : Unit)).bind <|
 Sum.elim
 (fun (r4 : Int) =>
 some r4
 )
 (fun (r4 : Unit) =>
 some (-1)
 )
theorem ei_g_slices_IndexFunc_Server_Server_iserverAt_1 (s : List TServer) (f_1 : LU) (k : Int → Option β) : Imp (F153c154 β (RServer s) f_1 k) (g_slices_IndexFunc_Server_Server_iserverAt_1 s f_1) k := by
 delta F153c154 P153c154 g_slices_IndexFunc_Server_Server_iserverAt_1
 refine Imp.for (enc := fun (i_1 : Nat) (s1 : Unit) => [.l (RServer s), .s f_1, .i (s.length : Int), .i (i_1 : Int)]) (encR := Sum.elim (fun (u : Int) => (((0, [.i u]) : Nat × List Leaf))) (fun (u : Unit) => (((1, []) : Nat × List Leaf)))) (c1 (fun (h1 : Int) => ([.l (RServer s), .s f_1, .i h1, .i 0] : List Leaf)) (c1 (fun z0 : Nat => (z0 : Int)) (T_len (g := TServer.row) s))) (fun i_1 x_1 s1 hx1 hl1 hm1 => Imp.brT (Int.ofNat_lt.2 hl1) ?_) (fun s1 => brN (Int.lt_irrefl _) rfl) (fun r4 => ?_)
 ·refine Imp.idxFor (g := TServer.row) hx1 ?_
  refine Imp.call rfl (ei_iserverAt_1_iptr x_1 f_1 _) (fun r3 _ => ?_)
  refine ibr ?_ ?_
  ·exact irr
  ·exact Imp.ret (c1 (fun (h1 : Int) => (some (Sum.inl [.l (RServer s), .s f_1, .i (s.length : Int), .i h1]) : OLL)) (wrapJ hl1))
 ·cases r4 with
  | inl r4 =>
   refine if0 ?_
   exact irr
  | inr r4 =>
   refine if1 ?_
   exact irr
noncomputable def iserverAt (l : List TServer) (host : LU) : Option Int :=
 (g_slices_IndexFunc_Server_Server_iserverAt_1 l host).bind fun (r1 : Int) =>
 some r1
theorem ei_iserverAt (l : List TServer) (host : LU) (k : Int → Option β) : Imp (F109 β (RServer l) host k) (iserverAt l host) k := by
 delta F109 P109 iserverAt
 refine Imp.call rfl (ei_g_slices_IndexFunc_Server_Server_iserverAt_1 l host _) (fun r1 _ => ?_)
 exact irr
noncomputable def iAreServers (l : List TServer) : Option Bool :=
 (forE l (fun (i_1 : Nat) (x_1 : TServer) (s1 : Unit) => (
 (iIsServer x_1).bind fun (r3 : Bool) =>
 br (!r3) (
 some (.inr (.inl ()))
 ) (
 (iserverAt l x_1.xHost).bind fun (r4 : Int) =>
 br (r4 != (i_1 : Int)) (
 some (.inr (.inl ()))
 ) (
 some (.inl ())
 )
 )
 : OU)) (fun (s1 : Unit) => (.inr () : Unit ⊕ Unit)) (() : Unit)).bind <|
 Sum.elim
 (fun (r5 : Unit) =>
 some false
 )
 (fun (r5 : Unit) =>
 some (decide ((l.length : Int) ≤ 4))
 )
theorem ei_iAreServers (l : List TServer) (k : Bool → Option β) : Imp (F48 β (RServer l) k) (iAreServers l) k := by
 delta F48 P48 iAreServers
 refine Imp.for (enc := fun (i_1 : Nat) (s1 : Unit) => [.l (RServer l), .l (RServer l), .i (l.length : Int), .i (i_1 : Int)]) (encR := Sum.elim (fun (u : Unit) => (((0, [.l (RServer l), .b false]) : Nat × List Leaf))) (fun (u : Unit) => (((1, [.l (RServer l)]) : Nat × List Leaf)))) (c1 (fun (h1 : Int) => ([.l (RServer l), .l (RServer l), .i h1, .i 0] : List Leaf)) (c1 (fun z0 : Nat => (z0 : Int)) (T_len (g := TServer.row) l))) (fun i_1 x_1 s1 hx1 hl1 hm1 => Imp.brT (Int.ofNat_lt.2 hl1) ?_) (fun s1 => brN (Int.lt_irrefl _) rfl) (fun r5 => ?_)
 ·refine Imp.idxFor (g := TServer.row) hx1 ?_
  refine Imp.call rfl (ei_iIsServer x_1 _) (fun r3 _ => ?_)
  refine ibr ?_ ?_
  ·exact irr
  ·refine Imp.call rfl (ei_iserverAt l x_1.xHost _) (fun r4 _ => ?_)
   refine ibr ?_ ?_
   ·exact irr
   ·exact Imp.ret (c1 (fun (h1 : Int) => (some (Sum.inl [.l (RServer l), .l (RServer l), .i (l.length : Int), .i h1]) : OLL)) (wrapJ hl1))
 ·cases r5 with
  | inl r5 =>
   refine if0 ?_
   exact irr
  | inr r5 =>
   refine if1 ?_
   exact Imp.ret (c1 (fun (h1 : Bool) => k h1) (c1 (fun z0 : Nat => (decide ((z0 : Int) ≤ 4))) (T_len (g := TServer.row) l)))
noncomputable def iIsAddr (a : TAddr) : Option Bool :=
 (iIsName a.xHost).bind fun (r1 : Bool) =>
 br r1 (
 (iIsName a.xPath).bind fun (r2 : Bool) =>
 some r2
 ) (
 some false
 )
theorem ei_iIsAddr (a : TAddr) (k : Bool → Option β) : Imp (F111 β a.xHost a.xPath k) (iIsAddr a) k := by
 delta F111 P111 iIsAddr
 refine Imp.call rfl (ei_iIsName a.xHost _) (fun r1 _ => ?_)
 refine ibr ?_ ?_
 ·refine Imp.call rfl (ei_iIsName a.xPath _) (fun r2 _ => ?_)
  exact irr
 ·exact irr
noncomputable def ientryAt_1_iptr_iptr (e : TEntry) (c1_1 : LU) (c2_1 : LU) (c2_2 : LU) : Option Bool :=
 br (e.xTop == c1_1) (
 some ((e.xTo.xHost == c2_1) && ((e.xTo.xPath == c2_2) && true))
 ) (
 some false
 )
theorem ei_ientryAt_1_iptr_iptr (e : TEntry) (c1_1 : LU) (c2_1 : LU) (c2_2 : LU) (k : Bool → Option β) : Imp (F157cAs_Ass β e.xTop e.xTo.xHost e.xTo.xPath e.xResponse.xStatus e.xResponse.xKind e.xResponse.xBody e.xResponse.xAge e.xResponse.xShares e.xResponse.xPolicy e.xUntil c1_1 c2_1 c2_2 k) (ientryAt_1_iptr_iptr e c1_1 c2_1 c2_2) k := by
 delta F157cAs_Ass P157cAs_Ass ientryAt_1_iptr_iptr
 refine ibr ?_ ?_
 ·exact irr
 ·exact irr
noncomputable def g_slices_IndexFunc_Entry_Entry_ientryAt_1 (s : List TEntry) (f_1 : LU) (f_2 : LU) (f_3 : LU) : Option Int :=
 (forE s (fun (i_1 : Nat) (x_1 : TEntry) (s1 : Unit) => (
 (ientryAt_1_iptr_iptr x_1 f_1 f_2 f_3).bind fun (r3 : Bool) =>
 br r3 (
 some (.inr (.inl (i_1 : Int)))
 ) (
 some (.inl ())
 )
 : Option (Unit ⊕ (Int ⊕ Unit)))) (fun (s1 : Unit) => (.inr () : Int ⊕ Unit)) (() : Unit)).bind <|
 Sum.elim
 (fun (r4 : Int) =>
 some r4
 )
 (fun (r4 : Unit) =>
 some (-1)
 )
theorem ei_g_slices_IndexFunc_Entry_Entry_ientryAt_1 (s : List TEntry) (f_1 : LU) (f_2 : LU) (f_3 : LU) (k : Int → Option β) : Imp (F156c157 β (REntry s) f_1 f_2 f_3 k) (g_slices_IndexFunc_Entry_Entry_ientryAt_1 s f_1 f_2 f_3) k := by
 delta F156c157 P156c157 g_slices_IndexFunc_Entry_Entry_ientryAt_1
 refine Imp.for (enc := fun (i_1 : Nat) (s1 : Unit) => [.l (REntry s), .s f_1, .s f_2, .s f_3, .i (s.length : Int), .i (i_1 : Int)]) (encR := Sum.elim (fun (u : Int) => (((0, [.i u]) : Nat × List Leaf))) (fun (u : Unit) => (((1, []) : Nat × List Leaf)))) (c1 (fun (h1 : Int) => ([.l (REntry s), .s f_1, .s f_2, .s f_3, .i h1, .i 0] : List Leaf)) (c1 (fun z0 : Nat => (z0 : Int)) (T_len (g := TEntry.row) s))) (fun i_1 x_1 s1 hx1 hl1 hm1 => Imp.brT (Int.ofNat_lt.2 hl1) ?_) (fun s1 => brN (Int.lt_irrefl _) rfl) (fun r4 => ?_)
 ·refine Imp.idxFor (g := TEntry.row) hx1 ?_
  refine Imp.call rfl (ei_ientryAt_1_iptr_iptr x_1 f_1 f_2 f_3 _) (fun r3 _ => ?_)
  refine ibr ?_ ?_
  ·exact irr
  ·exact Imp.ret (c1 (fun (h1 : Int) => (some (Sum.inl [.l (REntry s), .s f_1, .s f_2, .s f_3, .i (s.length : Int), .i h1]) : OLL)) (wrapJ hl1))
 ·cases r4 with
  | inl r4 =>
   refine if0 ?_
   exact irr
  | inr r4 =>
   refine if1 ?_
   exact irr
noncomputable def ientryAt (c : TCache) (top : LU) (a : TAddr) : Option Int :=
 (g_slices_IndexFunc_Entry_Entry_ientryAt_1 c.xEntries top a.xHost a.xPath).bind fun (r1 : Int) =>
 some r1
theorem ei_ientryAt (c : TCache) (top : LU) (a : TAddr) (k : Int → Option β) : Imp (F113 β (REntry c.xEntries) top a.xHost a.xPath k) (ientryAt c top a) k := by
 delta F113 P113 ientryAt
 refine Imp.call rfl (ei_g_slices_IndexFunc_Entry_Entry_ientryAt_1 c.xEntries top a.xHost a.xPath _) (fun r1 _ => ?_)
 exact irr
noncomputable def iIsCache (c : TCache) : Option Bool :=
 (forE c.xEntries (fun (i_1 : Nat) (x_1 : TEntry) (s1 : Unit) => (
 (iIsName x_1.xTop).bind fun (r3 : Bool) =>
 br (!r3) (
 some (.inr (.inl ()))
 ) (
 (iIsAddr x_1.xTo).bind fun (r4 : Bool) =>
 br (!r4) (
 some (.inr (.inl ()))
 ) (
 (iIsResponse x_1.xResponse).bind fun (r5 : Bool) =>
 br (!r5) (
 some (.inr (.inl ()))
 ) (
 br (x_1.xResponse.xStatus != 200) (
 some (.inr (.inl ()))
 ) (
 (ientryAt c x_1.xTop x_1.xTo).bind fun (r6 : Int) =>
 br (r6 != (i_1 : Int)) (
 some (.inr (.inl ()))
 ) (
 some (.inl ())
 )
 )
 )
 )
 )
 : OU)) (fun (s1 : Unit) => (.inr () : Unit ⊕ Unit)) (() : Unit)).bind <|
 Sum.elim
 (fun (r7 : Unit) =>
 some false
 )
 (fun (r7 : Unit) =>
 some (decide ((c.xEntries.length : Int) ≤ 100))
 )
theorem ei_iIsCache (c : TCache) (k : Bool → Option β) : Imp (F49 β (REntry c.xEntries) k) (iIsCache c) k := by
 delta F49 P49 iIsCache
 refine Imp.for (enc := fun (i_1 : Nat) (s1 : Unit) => [.l (REntry c.xEntries), .i (c.xEntries.length : Int), .i (i_1 : Int), .l (REntry c.xEntries)]) (encR := Sum.elim (fun (u : Unit) => (((0, [.b false, .l (REntry c.xEntries)]) : Nat × List Leaf))) (fun (u : Unit) => (((1, [.l (REntry c.xEntries)]) : Nat × List Leaf)))) (c1 (fun (h1 : Int) => ([.l (REntry c.xEntries), .i h1, .i 0, .l (REntry c.xEntries)] : List Leaf)) (c1 (fun z0 : Nat => (z0 : Int)) (T_len (g := TEntry.row) c.xEntries))) (fun i_1 x_1 s1 hx1 hl1 hm1 => Imp.brT (Int.ofNat_lt.2 hl1) ?_) (fun s1 => brN (Int.lt_irrefl _) rfl) (fun r7 => ?_)
 ·refine Imp.idxFor (g := TEntry.row) hx1 ?_
  refine Imp.call rfl (ei_iIsName x_1.xTop _) (fun r3 _ => ?_)
  refine ibr ?_ ?_
  ·exact irr
  ·refine Imp.call rfl (ei_iIsAddr x_1.xTo _) (fun r4 _ => ?_)
   refine ibr ?_ ?_
   ·exact irr
   ·refine Imp.call rfl (ei_iIsResponse x_1.xResponse _) (fun r5 _ => ?_)
    refine ibr ?_ ?_
    ·exact irr
    ·refine ibr ?_ ?_
     ·exact irr
     ·refine Imp.call rfl (ei_ientryAt c x_1.xTop x_1.xTo _) (fun r6 _ => ?_)
      refine ibr ?_ ?_
      ·exact irr
      ·exact Imp.ret (c1 (fun (h1 : Int) => (some (Sum.inl [.l (REntry c.xEntries), .i (c.xEntries.length : Int), .i h1, .l (REntry c.xEntries)]) : OLL)) (wrapJ hl1))
 ·cases r7 with
  | inl r7 =>
   refine if0 ?_
   exact irr
  | inr r7 =>
   refine if1 ?_
   exact Imp.ret (c1 (fun (h1 : Bool) => k h1) (c1 (fun z0 : Nat => (decide ((z0 : Int) ≤ 100))) (T_len (g := TEntry.row) c.xEntries)))
noncomputable def iIsNet (n : TNet) : Option Bool :=
 (iAreServers n.xServers).bind fun (r1 : Bool) =>
 br r1 (
 (iIsCache n.xCache).bind fun (r2 : Bool) =>
 br r2 (
 br (decide ((n.xLog.length : Int) ≤ 400)) (
 (iInRange n.xNow 0 999999998000).bind fun (r3 : Bool) =>
 some r3
 ) (
 some false
 )
 ) (
 some false
 )
 ) (
 some false
 )
theorem ei_iIsNet (n : TNet) (k : Bool → Option β) : Imp (F20 β (RServer n.xServers) (REntry n.xCache.xEntries) (RSent n.xLog) n.xNow k) (iIsNet n) k := by
 delta F20 P20 iIsNet
 refine Imp.call rfl (ei_iAreServers n.xServers _) (fun r1 _ => ?_)
 refine ibr ?_ ?_
 ·refine Imp.call rfl (ei_iIsCache n.xCache _) (fun r2 _ => ?_)
  refine ibr ?_ ?_
  ·refine Imp.br (c1 (fun z0 : Nat => (decide ((z0 : Int) ≤ 400))) (T_len (g := TSent.row) n.xLog)) ?_ ?_
   ·refine Imp.call rfl (ei_iInRange n.xNow 0 999999998000 _) (fun r3 _ => ?_)
    exact irr
   ·exact irr
  ·exact irr
 ·exact irr
noncomputable def ihasPresent (t : TTab) : Option Bool :=
 br (decide (t.xAt ≥ 0)) (
 some (decide (t.xAt < (t.xVisits.length : Int)))
 ) (
 some false
 )
theorem ei_ihasPresent (t : TTab) (k : Bool → Option β) : Imp (F51 β (RVisit t.xVisits) t.xAt k) (ihasPresent t) k := by
 delta F51 P51 ihasPresent
 refine ibr ?_ ?_
 ·exact Imp.ret (c1 (fun (h1 : Bool) => k h1) (c1 (fun z0 : Nat => (decide (t.xAt < (z0 : Int)))) (T_len (g := TVisit.row) t.xVisits)))
 ·exact irr
noncomputable def iIsTab (t : TTab) : Option Bool :=
 (forE t.xVisits (fun (i_1 : Nat) (x_1 : TVisit) (s1 : Unit) => (
 br x_1.xKept (
 br (!((x_1.xPage.xAddr.xHost == x_1.xAddr.xHost) && ((x_1.xPage.xAddr.xPath == x_1.xAddr.xPath) && true))) (
 some (.inr (.inl ()))
 ) (
 some (.inl ())
 )
 ) (
 some (.inl ())
 )
 : OU)) (fun (s1 : Unit) => (.inr () : Unit ⊕ Unit)) (() : Unit)).bind <|
 Sum.elim
 (fun (r3 : Unit) =>
 some false
 )
 (fun (r3 : Unit) =>
 br (decide ((t.xVisits.length : Int) ≤ 6)) (
 (ihasPresent t).bind fun (r4 : Bool) =>
 br r4 (
 some true
 ) (
 br ((t.xVisits.length : Int) == 0) (
 some (t.xAt == (-1))
 ) (
 some false
 )
 )
 ) (
 some false
 )
 )
theorem ei_iIsTab (t : TTab) (k : Bool → Option β) : Imp (F21 β (RVisit t.xVisits) t.xAt k) (iIsTab t) k := by
 delta F21 P21 iIsTab
 refine Imp.for (enc := fun (i_1 : Nat) (s1 : Unit) => [.l (RVisit t.xVisits), .i (t.xVisits.length : Int), .i (i_1 : Int), .l (RVisit t.xVisits), .i t.xAt]) (encR := Sum.elim (fun (u : Unit) => (((0, [.b false, .l (RVisit t.xVisits), .i t.xAt]) : Nat × List Leaf))) (fun (u : Unit) => (((1, [.l (RVisit t.xVisits), .i t.xAt]) : Nat × List Leaf)))) (c1 (fun (h1 : Int) => ([.l (RVisit t.xVisits), .i h1, .i 0, .l (RVisit t.xVisits), .i t.xAt] : List Leaf)) (c1 (fun z0 : Nat => (z0 : Int)) (T_len (g := TVisit.row) t.xVisits))) (fun i_1 x_1 s1 hx1 hl1 hm1 => Imp.brT (Int.ofNat_lt.2 hl1) ?_) (fun s1 => brN (Int.lt_irrefl _) rfl) (fun r3 => ?_)
 ·refine Imp.idxFor (g := TVisit.row) hx1 ?_
  refine ibr ?_ ?_
  ·refine ibr ?_ ?_
   ·exact irr
   ·exact Imp.ret (c1 (fun (h1 : Int) => (some (Sum.inl [.l (RVisit t.xVisits), .i (t.xVisits.length : Int), .i h1, .l (RVisit t.xVisits), .i t.xAt]) : OLL)) (wrapJ hl1))
  ·exact Imp.ret (c1 (fun (h1 : Int) => (some (Sum.inl [.l (RVisit t.xVisits), .i (t.xVisits.length : Int), .i h1, .l (RVisit t.xVisits), .i t.xAt]) : OLL)) (wrapJ hl1))
 ·cases r3 with
  | inl r3 =>
   refine if0 ?_
   exact irr
  | inr r3 =>
   refine if1 ?_
   refine Imp.br (c1 (fun z0 : Nat => (decide ((z0 : Int) ≤ 6))) (T_len (g := TVisit.row) t.xVisits)) ?_ ?_
   ·refine Imp.call rfl (ei_ihasPresent t _) (fun r4 _ => ?_)
    refine ibr ?_ ?_
    ·exact irr
    ·refine Imp.br (c1 (fun z0 : Nat => ((z0 : Int) == 0)) (T_len (g := TVisit.row) t.xVisits)) ?_ ?_
     ·exact irr
     ·exact irr
   ·exact irr
noncomputable def iIsWorld (w : TWorld) : Option Bool :=
 (iIsNet w.xNet).bind fun (r1 : Bool) =>
 br r1 (
 (iIsTab w.xTab).bind fun (r2 : Bool) =>
 some r2
 ) (
 some false
 )
theorem ei_iIsWorld (w : TWorld) (k : Bool → Option β) : Imp (F8 β (RServer w.xNet.xServers) (REntry w.xNet.xCache.xEntries) (RSent w.xNet.xLog) w.xNet.xNow (RVisit w.xTab.xVisits) w.xTab.xAt w.xHidden.xReady w.xHidden.xPage.xAddr.xHost w.xHidden.xPage.xAddr.xPath w.xHidden.xPage.xPolicy.xSet (rStr w.xHidden.xPage.xPolicy.xScripts) (rStr w.xHidden.xPage.xPolicy.xStyles) (rStr w.xHidden.xPage.xPolicy.xImages) w.xHidden.xPage.xPolicy.xNonce w.xHidden.xPage.xTok.xRest (RToken w.xHidden.xPage.xQueue) w.xHidden.xPage.xEnded (RNode w.xHidden.xPage.xBuilder.xNodes) (rInt w.xHidden.xPage.xBuilder.xOpen) (RSlot w.xHidden.xPage.xSlots) (RModule w.xHidden.xPage.xMods) (RAddr w.xHidden.xPage.xEntries) w.xHidden.xPage.xBlock w.xHidden.xPage.xInline w.xHidden.xPage.xDeferred w.xHidden.xPage.xEntered (RAddr w.xHidden.xPage.xRan) (rStr w.xHidden.xPage.xLog) w.xHidden.xPage.xLoaded (RKept w.xHidden.xTaken) (RServer w.xHidden.xServers) w.xHidden.xNow w.xFast k) (iIsWorld w) k := by
 delta F8 P8 iIsWorld
 refine Imp.call rfl (ei_iIsNet w.xNet _) (fun r1 _ => ?_)
 refine ibr ?_ ?_
 ·refine Imp.call rfl (ei_iIsTab w.xTab _) (fun r2 _ => ?_)
  exact irr
 ·exact irr
noncomputable def sHasAddr (l : List TAddr) (a : TAddr) : Option Bool :=
 (forE l (fun (i_1 : Nat) (x_1 : TAddr) (s1 : Unit) => (
 br ((x_1.xHost == a.xHost) && ((x_1.xPath == a.xPath) && true)) (
 some (.inr (.inl ()))
 ) (
 some (.inl ())
 )
 : OU)) (fun (s1 : Unit) => (.inr () : Unit ⊕ Unit)) (() : Unit)).bind <|
 Sum.elim
 (fun (r3 : Unit) =>
 some true
 )
 (fun (r3 : Unit) =>
 some false
 )
theorem ei_sHasAddr (l : List TAddr) (a : TAddr) (k : Bool → Option β) : Imp (F128 β (RAddr l) a.xHost a.xPath k) (sHasAddr l a) k := by
 delta F128 P128 sHasAddr
 refine Imp.for (enc := fun (i_1 : Nat) (s1 : Unit) => [.l (RAddr l), .i (i_1 : Int), .s a.xHost, .s a.xPath]) (encR := Sum.elim (fun (u : Unit) => (((0, [.b true]) : Nat × List Leaf))) (fun (u : Unit) => (((1, []) : Nat × List Leaf)))) rfl (fun i_1 x_1 s1 hx1 hl1 hm1 => Imp.brT (T_lt (g := TAddr.row) hl1) ?_) (fun s1 => brN (T_irr (g := TAddr.row) l) rfl) (fun r3 => ?_)
 ·refine Imp.idxFor (g := TAddr.row) hx1 ?_
  refine ibr ?_ ?_
  ·exact irr
  ·exact Imp.ret (c1 (fun (h1 : Int) => (some (Sum.inl [.l (RAddr l), .i h1, .s a.xHost, .s a.xPath]) : OLL)) (wrapJ hl1))
 ·cases r3 with
  | inl r3 =>
   refine if0 ?_
   exact irr
  | inr r3 =>
   refine if1 ?_
   exact irr
noncomputable def sRanOnce (p : TPage) : Option Bool :=
 (forE p.xRan (fun (i_1 : Nat) (x_1 : TAddr) (s1 : Unit) => (
 chk (0 ≤ (0 : Int) ∧ (0 : Int) ≤ (i_1 : Int) ∧ (i_1 : Int) ≤ (p.xRan.length : Int)) <|
 (sHasAddr ((p.xRan.take ((i_1 : Int).toNat)).drop 0) x_1).bind fun (r3 : Bool) =>
 br r3 (
 some (.inr (.inl ()))
 ) (
 some (.inl ())
 )
 : OU)) (fun (s1 : Unit) => (.inr () : Unit ⊕ Unit)) (() : Unit)).bind <|
 Sum.elim
 (fun (r4 : Unit) =>
 some false
 )
 (fun (r4 : Unit) =>
 some true
 )
theorem ei_sRanOnce (p : TPage) (k : Bool → Option β) : Imp (F59 β p.xAddr.xHost p.xAddr.xPath p.xPolicy.xSet (rStr p.xPolicy.xScripts) (rStr p.xPolicy.xStyles) (rStr p.xPolicy.xImages) p.xPolicy.xNonce p.xTok.xRest (RToken p.xQueue) p.xEnded (RNode p.xBuilder.xNodes) (rInt p.xBuilder.xOpen) (RSlot p.xSlots) (RModule p.xMods) (RAddr p.xEntries) p.xBlock p.xInline p.xDeferred p.xEntered (RAddr p.xRan) (rStr p.xLog) p.xLoaded k) (sRanOnce p) k := by
 delta F59 P59 sRanOnce
 refine Imp.for (enc := fun (i_1 : Nat) (s1 : Unit) => (.i (i_1 : Int) :: tl0 p)) (encR := Sum.elim (fun (u : Unit) => (((0, [.b false]) : Nat × List Leaf))) (fun (u : Unit) => (((1, []) : Nat × List Leaf)))) rfl (fun i_1 x_1 s1 hx1 hl1 hm1 => Imp.brT (T_lt (g := TAddr.row) hl1) ?_) (fun s1 => brN (T_irr (g := TAddr.row) p.xRan) rfl) (fun r4 => ?_)
 ·refine Imp.chk (c1 (fun z0 : Nat => 0 ≤ (0 : Int) ∧ (0 : Int) ≤ (i_1 : Int) ∧ (i_1 : Int) ≤ (z0 : Int)) (T_len (g := TAddr.row) p.xRan)) (fun _ => ?_)
  refine Imp.idxFor (g := TAddr.row) hx1 ?_
  refine Imp.call (c1 (fun (w1 : List V) => F128 _ w1 x_1.xHost x_1.xPath) (T_cut (g := TAddr.row) p.xRan ((i_1 : Int).toNat) 0)) (ei_sHasAddr ((p.xRan.take ((i_1 : Int).toNat)).drop 0) x_1 _) (fun r3 _ => ?_)
  refine ibr ?_ ?_
  ·exact irr
  ·exact Imp.ret (c1 (fun (h1 : Int) => (some (Sum.inl (.i h1 :: tl0 p)) : OLL)) (wrapJ hl1))
 ·cases r4 with
  | inl r4 =>
   refine if0 ?_
   exact irr
  | inr r4 =>
   refine if1 ?_
   exact irr
noncomputable def sIsVoid (name : LU) : Option Bool :=
 br (name == [105, 109, 103]) (
 some true
 ) (
 some (name == [108, 105, 110, 107])
 )
theorem ei_sIsVoid (name : LU) (k : Bool → Option β) : Imp (F130 β name k) (sIsVoid name) k := by
 delta F130 P130 sIsVoid
 refine ibr ?_ ?_
 ·exact irr
 ·exact irr
noncomputable def sl6Node (b : TBuilder) (i : Int) : Option Bool :=
 (getI b.xNodes i).bind fun (e1 : TNode) =>
 (sl1In e1.xParent 0 (IntKind.wrap .i64 (i - 1))).bind fun (r2 : Bool) =>
 br (!r2) (
 some false
 ) (
 (getI b.xNodes e1.xParent).bind fun (e3 : TNode) =>
 br (e3.xName == []) (
 some false
 ) (
 (getI b.xNodes e1.xParent).bind fun (e4 : TNode) =>
 (sIsVoid e4.xName).bind fun (r5 : Bool) =>
 br r5 (
 some false
 ) (
 br (e1.xName == []) (
 br (!(e1.xText == [])) (
 some ((e1.xAttrs.length : Int) == 0)
 ) (
 some false
 )
 ) (
 (sIsName e1.xName).bind fun (r6 : Bool) =>
 br r6 (
 some (e1.xText == [])
 ) (
 some false
 )
 )
 )
 )
 )
theorem ei_sl6Node (b : TBuilder) (i : Int) (k : Bool → Option β) : Imp (F129 β (RNode b.xNodes) (rInt b.xOpen) i k) (sl6Node b i) k := by
 delta F129 P129 sl6Node
 refine Imp.idx (g := TNode.row) rfl rfl (fun e1 _ => ?_)
 refine Imp.call rfl (ei_sl1In e1.xParent 0 (IntKind.wrap .i64 (i - 1)) _) (fun r2 _ => ?_)
 refine ibr ?_ ?_
 ·exact irr
 ·refine Imp.idx (g := TNode.row) rfl rfl (fun e3 _ => ?_)
  refine ibr ?_ ?_
  ·exact irr
  ·refine Imp.idx (g := TNode.row) rfl rfl (fun e4 _ => ?_)
   refine Imp.call rfl (ei_sIsVoid e4.xName _) (fun r5 _ => ?_)
   refine ibr ?_ ?_
   ·exact irr
   ·refine ibr ?_ ?_
    ·refine ibr ?_ ?_
     ·exact Imp.ret (c1 (fun (h1 : Bool) => k h1) (c1 (fun z0 : Nat => ((z0 : Int) == 0)) (T_len (g := TAttr.row) e1.xAttrs)))
     ·exact irr
    ·refine Imp.call rfl (ei_sIsName e1.xName _) (fun r6 _ => ?_)
     refine ibr ?_ ?_
     ·exact irr
     ·exact irr
noncomputable def sIsBuilder (b : TBuilder) : Option Bool :=
 (sl1In (b.xNodes.length : Int) 1 40).bind fun (r1 : Bool) =>
 br (!r1) (
 some false
 ) (
 (sl1In (b.xOpen.length : Int) 1 8).bind fun (r2 : Bool) =>
 br (!r2) (
 some false
 ) (
 (getI b.xOpen (0 : Int)).bind fun (e3 : Int) =>
 br (e3 != 0) (
 some false
 ) (
 (getI b.xNodes (0 : Int)).bind fun (e4 : TNode) =>
 br (!(e4.xName == [112, 97, 103, 101])) (
 some false
 ) (
 br (e4.xParent != (-1)) (
 some false
 ) (
 br (!(e4.xText == [])) (
 some false
 ) (
 br ((e4.xAttrs.length : Int) != 0) (
 some false
 ) (
 (whileE (fun (s5 : Int) => (
 br (decide (s5 < (b.xNodes.length : Int))) (
 (sl6Node b s5).bind fun (r6 : Bool) =>
 br (!r6) (
 some (.inr (.inl ()))
 ) (
 some (.inl (IntKind.wrap .i64 (s5 + 1)))
 )
 ) (
 some (.inr (.inr ()))
 )
 : Option (Int ⊕ (Unit ⊕ Unit)))) (1 : Int)).bind <|
 Sum.elim
 (fun (r7 : Unit) =>
 some false
 )
 (fun (r7 : Unit) =>
 (whileE (fun (s8 : Int) => (
 br (decide (s8 < (b.xOpen.length : Int))) (
 (getI b.xOpen s8).bind fun (e9 : Int) =>
 (sl1In e9 1 (IntKind.wrap .i64 ((b.xNodes.length : Int) - 1))).bind fun (r10 : Bool) =>
 br (!r10) (
 some (.inr (.inl ()))
 ) (
 (getI b.xNodes e9).bind fun (e11 : TNode) =>
 br (e11.xName == []) (
 some (.inr (.inl ()))
 ) (
 (getI b.xNodes e9).bind fun (e12 : TNode) =>
 (sIsVoid e12.xName).bind fun (r13 : Bool) =>
 br r13 (
 some (.inr (.inl ()))
 ) (
 (getI b.xNodes e9).bind fun (e14 : TNode) =>
 (getI b.xOpen (IntKind.wrap .i64 (s8 - 1))).bind fun (e15 : Int) =>
 br (e14.xParent != e15) (
 some (.inr (.inl ()))
 ) (
 some (.inl (IntKind.wrap .i64 (s8 + 1)))
 )
 )
 )
 )
 ) (
 some (.inr (.inr ()))
 )
 : Option (Int ⊕ (Unit ⊕ Unit)))) (1 : Int)).bind <|
 Sum.elim
 (fun (r16 : Unit) =>
 some false
 )
 (fun (r16 : Unit) =>
 some true
 )
 )
 )
 )
 )
 )
 )
 )
 )
theorem ei_sIsBuilder (b : TBuilder) (k : Bool → Option β) : Imp (F60 β (RNode b.xNodes) (rInt b.xOpen) k) (sIsBuilder b) k := by
 delta F60 P60 sIsBuilder
 refine Imp.call (c1 (fun (w1 : Int) => F41 _ w1 1 40) (c1 (fun z0 : Nat => (z0 : Int)) (T_len (g := TNode.row) b.xNodes))) (ei_sl1In (b.xNodes.length : Int) 1 40 _) (fun r1 _ => ?_)
 refine ibr ?_ ?_
 ·exact irr
 ·refine Imp.call (c1 (fun (w1 : Int) => F41 _ w1 1 8) (c1 (fun z0 : Nat => (z0 : Int)) (U_len (kd := (.int .i64)) (g1 := fun e => e) b.xOpen))) (ei_sl1In (b.xOpen.length : Int) 1 8 _) (fun r2 _ => ?_)
  refine ibr ?_ ?_
  ·exact irr
  ·refine Imp.idxC1 (kd := (.int .i64)) (g1 := fun e => e) rfl rfl (fun e3 _ => ?_)
   refine ibr ?_ ?_
   ·exact irr
   ·refine Imp.idxC (g := TNode.row) rfl rfl (fun e4 _ => ?_)
    refine ibr ?_ ?_
    ·exact irr
    ·refine ibr ?_ ?_
     ·exact irr
     ·refine ibr ?_ ?_
      ·exact irr
      ·refine Imp.br (c1 (fun z0 : Nat => ((z0 : Int) != 0)) (T_len (g := TAttr.row) e4.xAttrs)) ?_ ?_
       ·exact irr
       ·refine Imp.while (enc := fun (s5 : Int) => [.i s5, .l (RNode b.xNodes), .l (rInt b.xOpen)]) (encR := Sum.elim (fun (u : Unit) => (((0, [.b false, .l (RNode b.xNodes), .l (rInt b.xOpen)]) : Nat × List Leaf))) (fun (u : Unit) => (((1, [.l (RNode b.xNodes), .l (rInt b.xOpen)]) : Nat × List Leaf)))) rfl (fun s5 => ?_) (fun r7 => ?_)
        ·refine Imp.br (c1 (fun z0 : Nat => (decide (s5 < (z0 : Int)))) (T_len (g := TNode.row) b.xNodes)) ?_ ?_
         ·refine Imp.call rfl (ei_sl6Node b s5 _) (fun r6 _ => ?_)
          refine ibr ?_ ?_
          ·exact irr
          ·exact irr
         ·exact irr
        ·cases r7 with
         | inl r7 =>
          refine if0 ?_
          exact irr
         | inr r7 =>
          refine if1 ?_
          refine Imp.while (enc := fun (s8 : Int) => [.i s8, .l (RNode b.xNodes), .l (rInt b.xOpen)]) (encR := Sum.elim (fun (u : Unit) => (((0, [.b false]) : Nat × List Leaf))) (fun (u : Unit) => (((1, []) : Nat × List Leaf)))) rfl (fun s8 => ?_) (fun r16 => ?_)
          ·refine Imp.br (c1 (fun z0 : Nat => (decide (s8 < (z0 : Int)))) (U_len (kd := (.int .i64)) (g1 := fun e => e) b.xOpen)) ?_ ?_
           ·refine Imp.idx1 (kd := (.int .i64)) (g1 := fun e => e) rfl rfl (fun e9 _ => ?_)
            refine Imp.call (c1 (fun (w1 : Int) => F41 _ e9 1 w1) (c1 (fun z0 : Nat => (IntKind.wrap .i64 ((z0 : Int) - 1))) (T_len (g := TNode.row) b.xNodes))) (ei_sl1In e9 1 (IntKind.wrap .i64 ((b.xNodes.length : Int) - 1)) _) (fun r10 _ => ?_)
            refine ibr ?_ ?_
            ·exact irr
            ·refine Imp.idx (g := TNode.row) rfl rfl (fun e11 _ => ?_)
             refine ibr ?_ ?_
             ·exact irr
             ·refine Imp.idx (g := TNode.row) rfl rfl (fun e12 _ => ?_)
              refine Imp.call rfl (ei_sIsVoid e12.xName _) (fun r13 _ => ?_)
              refine ibr ?_ ?_
              ·exact irr
              ·refine Imp.idx (g := TNode.row) rfl rfl (fun e14 _ => ?_)
               refine Imp.idx1 (kd := (.int .i64)) (g1 := fun e => e) rfl rfl (fun e15 _ => ?_)
               refine ibr ?_ ?_
               ·exact irr
               ·exact irr
           ·exact irr
          ·cases r16 with
           | inl r16 =>
            refine if0 ?_
            exact irr
           | inr r16 =>
            refine if1 ?_
            exact irr
noncomputable def sIsParsed (p : TPage) : Option Bool :=
 br p.xEnded (
 br ((p.xQueue.length : Int) == 0) (
 br (p.xBlock == 0) (
 some (p.xInline == 0)
 ) (
 some false
 )
 ) (
 some false
 )
 ) (
 some false
 )
theorem ei_sIsParsed (p : TPage) (k : Bool → Option β) : Imp (F61 β p.xAddr.xHost p.xAddr.xPath p.xPolicy.xSet (rStr p.xPolicy.xScripts) (rStr p.xPolicy.xStyles) (rStr p.xPolicy.xImages) p.xPolicy.xNonce p.xTok.xRest (RToken p.xQueue) p.xEnded (RNode p.xBuilder.xNodes) (rInt p.xBuilder.xOpen) (RSlot p.xSlots) (RModule p.xMods) (RAddr p.xEntries) p.xBlock p.xInline p.xDeferred p.xEntered (RAddr p.xRan) (rStr p.xLog) p.xLoaded k) (sIsParsed p) k := by
 delta F61 P61 sIsParsed
 refine ibr ?_ ?_
 ·refine Imp.br (c1 (fun z0 : Nat => ((z0 : Int) == 0)) (T_len (g := TToken.row) p.xQueue)) ?_ ?_
  ·refine ibr ?_ ?_
   ·exact irr
   ·exact irr
  ·exact irr
 ·exact irr
noncomputable def sOpenSlots (p : TPage) : Option (List Int) :=
 (forE p.xSlots (fun (i_1 : Nat) (x_1 : TSlot) (s1 : List Int) => (
 br (!x_1.xDone) (
 chk ((s1.length + 1) * 8 ≤ 140737488355328 ∧ s1.length + 1 ≤ 140737488355328) <|
 some (.inl (s1 ++ [(i_1 : Int)]))
 ) (
 some (.inl s1)
 )
 : Option ((List Int) ⊕ (List Int)))) (fun (s1 : List Int) => (s1 : List Int)) ([] : List Int)).bind <|
 fun (r3 : List Int) =>
 some r3
theorem ei_sOpenSlots (p : TPage) (k : List V → Option β) : Imp (F62 β p.xAddr.xHost p.xAddr.xPath p.xPolicy.xSet (rStr p.xPolicy.xScripts) (rStr p.xPolicy.xStyles) (rStr p.xPolicy.xImages) p.xPolicy.xNonce p.xTok.xRest (RToken p.xQueue) p.xEnded (RNode p.xBuilder.xNodes) (rInt p.xBuilder.xOpen) (RSlot p.xSlots) (RModule p.xMods) (RAddr p.xEntries) p.xBlock p.xInline p.xDeferred p.xEntered (RAddr p.xRan) (rStr p.xLog) p.xLoaded k) (sOpenSlots p) (fun r => k (rInt r)) := by
 delta F62 P62 sOpenSlots
 refine Imp.for (enc := fun (i_1 : Nat) (s1 : List Int) => (.l (rInt s1) :: .i (i_1 : Int) :: tl0 p)) (encR := fun (u : List Int) => (((0, [.l (rInt u)]) : Nat × List Leaf))) rfl (fun i_1 x_1 s1 hx1 hl1 hm1 => Imp.brT (T_lt (g := TSlot.row) hl1) ?_) (fun s1 => brN (T_irr (g := TSlot.row) p.xSlots) rfl) (fun r3 => ?_)
 ·refine Imp.idxFor (g := TSlot.row) hx1 ?_
  refine ibr ?_ ?_
  ·refine Imp.chk (c2 (fun z0 z1 : Nat => (z0 + 1) * 8 ≤ 140737488355328 ∧ z1 + 1 ≤ 140737488355328) (U_len (kd := (.int .i64)) (g1 := fun e => e) s1) (U_len (kd := (.int .i64)) (g1 := fun e => e) s1)) (fun _ => ?_)
   exact Imp.ret (c2 (fun (h1 : List V) (h2 : Int) => (some (Sum.inl (.l h1 :: .i h2 :: tl0 p)) : OLL)) (U_app (kd := (.int .i64)) (g1 := fun e => e) s1 [(i_1 : Int)]) (wrapJ hl1))
  ·exact Imp.ret (c1 (fun (h1 : Int) => (some (Sum.inl (.l (rInt s1) :: .i h1 :: tl0 p)) : OLL)) (wrapJ hl1))
 ·exact irr
noncomputable def sOpenMods (p : TPage) : Option (List Int) :=
 (forE p.xMods (fun (i_1 : Nat) (x_1 : TModule) (s1 : List Int) => (
 br (!x_1.xDone) (
 chk ((s1.length + 1) * 8 ≤ 140737488355328 ∧ s1.length + 1 ≤ 140737488355328) <|
 some (.inl (s1 ++ [(i_1 : Int)]))
 ) (
 some (.inl s1)
 )
 : Option ((List Int) ⊕ (List Int)))) (fun (s1 : List Int) => (s1 : List Int)) ([] : List Int)).bind <|
 fun (r3 : List Int) =>
 some r3
theorem ei_sOpenMods (p : TPage) (k : List V → Option β) : Imp (F63 β p.xAddr.xHost p.xAddr.xPath p.xPolicy.xSet (rStr p.xPolicy.xScripts) (rStr p.xPolicy.xStyles) (rStr p.xPolicy.xImages) p.xPolicy.xNonce p.xTok.xRest (RToken p.xQueue) p.xEnded (RNode p.xBuilder.xNodes) (rInt p.xBuilder.xOpen) (RSlot p.xSlots) (RModule p.xMods) (RAddr p.xEntries) p.xBlock p.xInline p.xDeferred p.xEntered (RAddr p.xRan) (rStr p.xLog) p.xLoaded k) (sOpenMods p) (fun r => k (rInt r)) := by
 delta F63 P63 sOpenMods
 refine Imp.for (enc := fun (i_1 : Nat) (s1 : List Int) => (.l (rInt s1) :: .i (i_1 : Int) :: tl0 p)) (encR := fun (u : List Int) => (((0, [.l (rInt u)]) : Nat × List Leaf))) rfl (fun i_1 x_1 s1 hx1 hl1 hm1 => Imp.brT (T_lt (g := TModule.row) hl1) ?_) (fun s1 => brN (T_irr (g := TModule.row) p.xMods) rfl) (fun r3 => ?_)
 ·refine Imp.idxFor (g := TModule.row) hx1 ?_
  refine ibr ?_ ?_
  ·refine Imp.chk (c2 (fun z0 z1 : Nat => (z0 + 1) * 8 ≤ 140737488355328 ∧ z1 + 1 ≤ 140737488355328) (U_len (kd := (.int .i64)) (g1 := fun e => e) s1) (U_len (kd := (.int .i64)) (g1 := fun e => e) s1)) (fun _ => ?_)
   exact Imp.ret (c2 (fun (h1 : List V) (h2 : Int) => (some (Sum.inl (.l h1 :: .i h2 :: tl0 p)) : OLL)) (U_app (kd := (.int .i64)) (g1 := fun e => e) s1 [(i_1 : Int)]) (wrapJ hl1))
  ·exact Imp.ret (c1 (fun (h1 : Int) => (some (Sum.inl (.l (rInt s1) :: .i h1 :: tl0 p)) : OLL)) (wrapJ hl1))
 ·exact irr
noncomputable def sl9Has (l : List (LU)) (s : LU) : Option Bool :=
 (forE l (fun (i_1 : Nat) (x_1 : LU) (s1 : Unit) => (
 br (x_1 == s) (
 some (.inr (.inl ()))
 ) (
 some (.inl ())
 )
 : OU)) (fun (s1 : Unit) => (.inr () : Unit ⊕ Unit)) (() : Unit)).bind <|
 Sum.elim
 (fun (r3 : Unit) =>
 some true
 )
 (fun (r3 : Unit) =>
 some false
 )
theorem ei_sl9Has (l : List (LU)) (s : LU) (k : Bool → Option β) : Imp (F64 β (rStr l) s k) (sl9Has l s) k := by
 delta F64 P64 sl9Has
 refine Imp.for (enc := fun (i_1 : Nat) (s1 : Unit) => [.l (rStr l), .s s, .i (i_1 : Int)]) (encR := Sum.elim (fun (u : Unit) => (((0, [.b true]) : Nat × List Leaf))) (fun (u : Unit) => (((1, []) : Nat × List Leaf)))) rfl (fun i_1 x_1 s1 hx1 hl1 hm1 => Imp.brT (S_lt hl1) ?_) (fun s1 => brN (S_irr l) rfl) (fun r3 => ?_)
 ·refine Imp.idxFor1 (kd := .str) (g1 := fun e => e) hx1 ?_
  refine ibr ?_ ?_
  ·exact irr
  ·exact Imp.ret (c1 (fun (h1 : Int) => (some (Sum.inl [.l (rStr l), .s s, .i h1]) : OLL)) (wrapJ hl1))
 ·cases r3 with
  | inl r3 =>
   refine if0 ?_
   exact irr
  | inr r3 =>
   refine if1 ?_
   exact irr
noncomputable def sPageSound (p : TPage) : Option Bool :=
 (forE p.xSlots (fun (i_1 : Nat) (x_1 : TSlot) (s1 : Unit) => (
 br (x_1.xCode != 1) (
 br (!(x_1.xBody == [])) (
 some (.inr (.inl ()))
 ) (
 some (.inl ())
 )
 ) (
 some (.inl ())
 )
 : OU)) (fun (s1 : Unit) => (.inr () : Unit ⊕ Unit)) (() : Unit)).bind <|
 Sum.elim
 (fun (r4 : Unit) =>
 some false
 )
 (fun (r4 : Unit) =>
 (forE p.xMods (fun (i_5 : Nat) (x_5 : TModule) (s5 : Unit) => (
 br (x_5.xCode != 1) (
 br (!(x_5.xBody == [])) (
 some (.inr (.inl ()))
 ) (
 some (.inl ())
 )
 ) (
 some (.inl ())
 )
 : OU)) (fun (s5 : Unit) => (.inr () : Unit ⊕ Unit)) (() : Unit)).bind <|
 Sum.elim
 (fun (r8 : Unit) =>
 some false
 )
 (fun (r8 : Unit) =>
 (sRanOnce p).bind fun (r9 : Bool) =>
 br (!r9) (
 some false
 ) (
 (sIsBuilder p.xBuilder).bind fun (r10 : Bool) =>
 br (!r10) (
 some false
 ) (
 br (!p.xLoaded) (
 some true
 ) (
 (sIsParsed p).bind fun (r11 : Bool) =>
 br r11 (
 (sOpenSlots p).bind fun (r12 : List Int) =>
 br ((r12.length : Int) == 0) (
 (sOpenMods p).bind fun (r13 : List Int) =>
 br ((r13.length : Int) == 0) (
 (sl9Has p.xLog [108, 111, 97, 100]).bind fun (r14 : Bool) =>
 br r14 (
 some true
 ) (
 some ((p.xLog.length : Int) == 40)
 )
 ) (
 some false
 )
 ) (
 some false
 )
 ) (
 some false
 )
 )
 )
 )
 )
 )
theorem ei_sPageSound (p : TPage) (k : Bool → Option β) : Imp (F28 β p.xAddr.xHost p.xAddr.xPath p.xPolicy.xSet (rStr p.xPolicy.xScripts) (rStr p.xPolicy.xStyles) (rStr p.xPolicy.xImages) p.xPolicy.xNonce p.xTok.xRest (RToken p.xQueue) p.xEnded (RNode p.xBuilder.xNodes) (rInt p.xBuilder.xOpen) (RSlot p.xSlots) (RModule p.xMods) (RAddr p.xEntries) p.xBlock p.xInline p.xDeferred p.xEntered (RAddr p.xRan) (rStr p.xLog) p.xLoaded k) (sPageSound p) k := by
 delta F28 P28 sPageSound
 refine Imp.for (enc := fun (i_1 : Nat) (s1 : Unit) => (.i (i_1 : Int) :: tl0 p)) (encR := Sum.elim (fun (u : Unit) => (((0, (.b false :: tl0 p)) : Nat × List Leaf))) (fun (u : Unit) => (((1, (tl0 p)) : Nat × List Leaf)))) rfl (fun i_1 x_1 s1 hx1 hl1 hm1 => Imp.brT (T_lt (g := TSlot.row) hl1) ?_) (fun s1 => brN (T_irr (g := TSlot.row) p.xSlots) rfl) (fun r4 => ?_)
 ·refine Imp.idxFor (g := TSlot.row) hx1 ?_
  refine ibr ?_ ?_
  ·refine Imp.idxFor (g := TSlot.row) hx1 ?_
   refine ibr ?_ ?_
   ·exact irr
   ·exact Imp.ret (c1 (fun (h1 : Int) => (some (Sum.inl (.i h1 :: tl0 p)) : OLL)) (wrapJ hl1))
  ·exact Imp.ret (c1 (fun (h1 : Int) => (some (Sum.inl (.i h1 :: tl0 p)) : OLL)) (wrapJ hl1))
 ·cases r4 with
  | inl r4 =>
   refine if0 ?_
   exact irr
  | inr r4 =>
   refine if1 ?_
   refine Imp.for (enc := fun (i_5 : Nat) (s5 : Unit) => (.i (i_5 : Int) :: tl0 p)) (encR := Sum.elim (fun (u : Unit) => (((0, (.b false :: tl0 p)) : Nat × List Leaf))) (fun (u : Unit) => (((1, (tl0 p)) : Nat × List Leaf)))) rfl (fun i_5 x_5 s5 hx5 hl5 hm5 => Imp.brT (T_lt (g := TModule.row) hl5) ?_) (fun s5 => brN (T_irr (g := TModule.row) p.xMods) rfl) (fun r8 => ?_)
   ·refine Imp.idxFor (g := TModule.row) hx5 ?_
    refine ibr ?_ ?_
    ·refine Imp.idxFor (g := TModule.row) hx5 ?_
     refine ibr ?_ ?_
     ·exact irr
     ·exact Imp.ret (c1 (fun (h1 : Int) => (some (Sum.inl (.i h1 :: tl0 p)) : OLL)) (wrapJ hl5))
    ·exact Imp.ret (c1 (fun (h1 : Int) => (some (Sum.inl (.i h1 :: tl0 p)) : OLL)) (wrapJ hl5))
   ·cases r8 with
    | inl r8 =>
     refine if0 ?_
     exact irr
    | inr r8 =>
     refine if1 ?_
     refine Imp.call rfl (ei_sRanOnce p _) (fun r9 _ => ?_)
     refine ibr ?_ ?_
     ·exact irr
     ·refine Imp.call rfl (ei_sIsBuilder p.xBuilder _) (fun r10 _ => ?_)
      refine ibr ?_ ?_
      ·exact irr
      ·refine ibr ?_ ?_
       ·exact irr
       ·refine Imp.call rfl (ei_sIsParsed p _) (fun r11 _ => ?_)
        refine ibr ?_ ?_
        ·refine Imp.call rfl (ei_sOpenSlots p _) (fun r12 _ => ?_)
         refine Imp.br (c1 (fun z0 : Nat => ((z0 : Int) == 0)) (U_len (kd := (.int .i64)) (g1 := fun e => e) r12)) ?_ ?_
         ·refine Imp.call rfl (ei_sOpenMods p _) (fun r13 _ => ?_)
          refine Imp.br (c1 (fun z0 : Nat => ((z0 : Int) == 0)) (U_len (kd := (.int .i64)) (g1 := fun e => e) r13)) ?_ ?_
          ·refine Imp.call rfl (ei_sl9Has p.xLog [108, 111, 97, 100] _) (fun r14 _ => ?_)
           refine ibr ?_ ?_
           ·exact irr
           ·exact Imp.ret (c1 (fun (h1 : Bool) => k h1) (c1 (fun z0 : Nat => ((z0 : Int) == 40)) (S_len p.xLog)))
          ·exact irr
         ·exact irr
        ·exact irr
noncomputable def sTabSound (t : TTab) : Option Bool :=
 (forE t.xVisits (fun (i_1 : Nat) (x_1 : TVisit) (s1 : Unit) => (
 br x_1.xKept (
 br (decide ((x_1.xPage.xBuilder.xNodes.length : Int) > 0)) (
 (sPageSound x_1.xPage).bind fun (r5 : Bool) =>
 br (!r5) (
 some (.inr (.inl ()))
 ) (
 some (.inl ())
 )
 ) (
 some (.inl ())
 )
 ) (
 some (.inl ())
 )
 : OU)) (fun (s1 : Unit) => (.inr () : Unit ⊕ Unit)) (() : Unit)).bind <|
 Sum.elim
 (fun (r6 : Unit) =>
 some false
 )
 (fun (r6 : Unit) =>
 (sIsTab t).bind fun (r7 : Bool) =>
 some r7
 )
theorem ei_sTabSound (t : TTab) (k : Bool → Option β) : Imp (F25 β (RVisit t.xVisits) t.xAt k) (sTabSound t) k := by
 delta F25 P25 sTabSound
 refine Imp.for (enc := fun (i_1 : Nat) (s1 : Unit) => [.i (i_1 : Int), .l (RVisit t.xVisits), .i t.xAt]) (encR := Sum.elim (fun (u : Unit) => (((0, [.b false, .l (RVisit t.xVisits), .i t.xAt]) : Nat × List Leaf))) (fun (u : Unit) => (((1, [.l (RVisit t.xVisits), .i t.xAt]) : Nat × List Leaf)))) rfl (fun i_1 x_1 s1 hx1 hl1 hm1 => Imp.brT (T_lt (g := TVisit.row) hl1) ?_) (fun s1 => brN (T_irr (g := TVisit.row) t.xVisits) rfl) (fun r6 => ?_)
 ·refine Imp.idxFor (g := TVisit.row) hx1 ?_
  refine ibr ?_ ?_
  ·refine Imp.idxFor (g := TVisit.row) hx1 ?_
   refine Imp.br (c1 (fun z0 : Nat => (decide ((z0 : Int) > 0))) (T_len (g := TNode.row) x_1.xPage.xBuilder.xNodes)) ?_ ?_
   ·refine Imp.idxFor (g := TVisit.row) hx1 ?_
    refine Imp.call rfl (ei_sPageSound x_1.xPage _) (fun r5 _ => ?_)
    refine ibr ?_ ?_
    ·exact irr
    ·exact Imp.ret (c1 (fun (h1 : Int) => (some (Sum.inl [.i h1, .l (RVisit t.xVisits), .i t.xAt]) : OLL)) (wrapJ hl1))
   ·exact Imp.ret (c1 (fun (h1 : Int) => (some (Sum.inl [.i h1, .l (RVisit t.xVisits), .i t.xAt]) : OLL)) (wrapJ hl1))
  ·exact Imp.ret (c1 (fun (h1 : Int) => (some (Sum.inl [.i h1, .l (RVisit t.xVisits), .i t.xAt]) : OLL)) (wrapJ hl1))
 ·cases r6 with
  | inl r6 =>
   refine if0 ?_
   exact irr
  | inr r6 =>
   refine if1 ?_
   refine Imp.call rfl (ei_sIsTab t _) (fun r7 _ => ?_)
   exact irr
noncomputable def sIsOwnGuess (s : TSent) : Option Bool :=
 br (!s.xGuess) (
 some true
 ) (
 some (s.xTo.xHost == s.xTop)
 )
theorem ei_sIsOwnGuess (s : TSent) (k : Bool → Option β) : Imp (F58 β s.xTop s.xTo.xHost s.xTo.xPath s.xGuess k) (sIsOwnGuess s) k := by
 delta F58 P58 sIsOwnGuess
 refine ibr ?_ ?_
 ·exact irr
 ·exact irr
noncomputable def sGuessesSound (n : TNet) : Option Bool :=
 (forE n.xLog (fun (i_1 : Nat) (x_1 : TSent) (s1 : Unit) => (
 (sIsOwnGuess x_1).bind fun (r3 : Bool) =>
 br (!r3) (
 some (.inr (.inl ()))
 ) (
 some (.inl ())
 )
 : OU)) (fun (s1 : Unit) => (.inr () : Unit ⊕ Unit)) (() : Unit)).bind <|
 Sum.elim
 (fun (r4 : Unit) =>
 some false
 )
 (fun (r4 : Unit) =>
 some true
 )
theorem ei_sGuessesSound (n : TNet) (k : Bool → Option β) : Imp (F26 β (RServer n.xServers) (REntry n.xCache.xEntries) (RSent n.xLog) n.xNow k) (sGuessesSound n) k := by
 delta F26 P26 sGuessesSound
 refine Imp.for (enc := fun (i_1 : Nat) (s1 : Unit) => [.i (i_1 : Int), .l (RServer n.xServers), .l (REntry n.xCache.xEntries), .l (RSent n.xLog), .i n.xNow]) (encR := Sum.elim (fun (u : Unit) => (((0, [.b false]) : Nat × List Leaf))) (fun (u : Unit) => (((1, []) : Nat × List Leaf)))) rfl (fun i_1 x_1 s1 hx1 hl1 hm1 => Imp.brT (T_lt (g := TSent.row) hl1) ?_) (fun s1 => brN (T_irr (g := TSent.row) n.xLog) rfl) (fun r4 => ?_)
 ·refine Imp.idxFor (g := TSent.row) hx1 ?_
  refine Imp.call rfl (ei_sIsOwnGuess x_1 _) (fun r3 _ => ?_)
  refine ibr ?_ ?_
  ·exact irr
  ·exact Imp.ret (c1 (fun (h1 : Int) => (some (Sum.inl [.i h1, .l (RServer n.xServers), .l (REntry n.xCache.xEntries), .l (RSent n.xLog), .i n.xNow]) : OLL)) (wrapJ hl1))
 ·cases r4 with
  | inl r4 =>
   refine if0 ?_
   exact irr
  | inr r4 =>
   refine if1 ?_
   exact irr
noncomputable def sCacheSound (n : TNet) : Option Bool :=
 (forE n.xCache.xEntries (fun (i_1 : Nat) (x_1 : TEntry) (s1 : Unit) => (
 br (decide (x_1.xUntil > IntKind.wrap .i64 (n.xNow + 1000))) (
 some (.inr (.inl ()))
 ) (
 some (.inl ())
 )
 : OU)) (fun (s1 : Unit) => (.inr () : Unit ⊕ Unit)) (() : Unit)).bind <|
 Sum.elim
 (fun (r3 : Unit) =>
 some false
 )
 (fun (r3 : Unit) =>
 (sIsCache n.xCache).bind fun (r4 : Bool) =>
 some r4
 )
theorem ei_sCacheSound (n : TNet) (k : Bool → Option β) : Imp (F27 β (RServer n.xServers) (REntry n.xCache.xEntries) (RSent n.xLog) n.xNow k) (sCacheSound n) k := by
 delta F27 P27 sCacheSound
 refine Imp.for (enc := fun (i_1 : Nat) (s1 : Unit) => [.i (i_1 : Int), .l (RServer n.xServers), .l (REntry n.xCache.xEntries), .l (RSent n.xLog), .i n.xNow]) (encR := Sum.elim (fun (u : Unit) => (((0, [.b false, .l (RServer n.xServers), .l (REntry n.xCache.xEntries), .l (RSent n.xLog), .i n.xNow]) : Nat × List Leaf))) (fun (u : Unit) => (((1, [.l (RServer n.xServers), .l (REntry n.xCache.xEntries), .l (RSent n.xLog), .i n.xNow]) : Nat × List Leaf)))) rfl (fun i_1 x_1 s1 hx1 hl1 hm1 => Imp.brT (T_lt (g := TEntry.row) hl1) ?_) (fun s1 => brN (T_irr (g := TEntry.row) n.xCache.xEntries) rfl) (fun r3 => ?_)
 ·refine Imp.idxFor (g := TEntry.row) hx1 ?_
  refine ibr ?_ ?_
  ·exact irr
  ·exact Imp.ret (c1 (fun (h1 : Int) => (some (Sum.inl [.i h1, .l (RServer n.xServers), .l (REntry n.xCache.xEntries), .l (RSent n.xLog), .i n.xNow]) : OLL)) (wrapJ hl1))
 ·cases r3 with
  | inl r3 =>
   refine if0 ?_
   exact irr
  | inr r3 =>
   refine if1 ?_
   refine Imp.call rfl (ei_sIsCache n.xCache _) (fun r4 _ => ?_)
   exact irr
noncomputable def sAuditWorld (w : TWorld) : Option Bool :=
 (sIsWorld w).bind fun (r1 : Bool) =>
 br r1 (
 (sTabSound w.xTab).bind fun (r2 : Bool) =>
 br r2 (
 (sGuessesSound w.xNet).bind fun (r3 : Bool) =>
 br r3 (
 (sCacheSound w.xNet).bind fun (r4 : Bool) =>
 br r4 (
 br (!w.xHidden.xReady) (
 some true
 ) (
 (sPageSound w.xHidden.xPage).bind fun (r5 : Bool) =>
 some r5
 )
 ) (
 some false
 )
 ) (
 some false
 )
 ) (
 some false
 )
 ) (
 some false
 )
theorem ei_sAuditWorld (w : TWorld) (k : Bool → Option β) : Imp (F10 β (RServer w.xNet.xServers) (REntry w.xNet.xCache.xEntries) (RSent w.xNet.xLog) w.xNet.xNow (RVisit w.xTab.xVisits) w.xTab.xAt w.xHidden.xReady w.xHidden.xPage.xAddr.xHost w.xHidden.xPage.xAddr.xPath w.xHidden.xPage.xPolicy.xSet (rStr w.xHidden.xPage.xPolicy.xScripts) (rStr w.xHidden.xPage.xPolicy.xStyles) (rStr w.xHidden.xPage.xPolicy.xImages) w.xHidden.xPage.xPolicy.xNonce w.xHidden.xPage.xTok.xRest (RToken w.xHidden.xPage.xQueue) w.xHidden.xPage.xEnded (RNode w.xHidden.xPage.xBuilder.xNodes) (rInt w.xHidden.xPage.xBuilder.xOpen) (RSlot w.xHidden.xPage.xSlots) (RModule w.xHidden.xPage.xMods) (RAddr w.xHidden.xPage.xEntries) w.xHidden.xPage.xBlock w.xHidden.xPage.xInline w.xHidden.xPage.xDeferred w.xHidden.xPage.xEntered (RAddr w.xHidden.xPage.xRan) (rStr w.xHidden.xPage.xLog) w.xHidden.xPage.xLoaded (RKept w.xHidden.xTaken) (RServer w.xHidden.xServers) w.xHidden.xNow w.xFast k) (sAuditWorld w) k := by
 delta F10 P10 sAuditWorld
 refine Imp.call rfl (ei_sIsWorld w _) (fun r1 _ => ?_)
 refine ibr ?_ ?_
 ·refine Imp.call rfl (ei_sTabSound w.xTab _) (fun r2 _ => ?_)
  refine ibr ?_ ?_
  ·refine Imp.call rfl (ei_sGuessesSound w.xNet _) (fun r3 _ => ?_)
   refine ibr ?_ ?_
   ·refine Imp.call rfl (ei_sCacheSound w.xNet _) (fun r4 _ => ?_)
    refine ibr ?_ ?_
    ·refine ibr ?_ ?_
     ·exact irr
     ·refine Imp.call rfl (ei_sPageSound w.xHidden.xPage _) (fun r5 _ => ?_)
      exact irr
    ·exact irr
   ·exact irr
  ·exact irr
 ·exact irr
noncomputable def iSortAddrs (a0 : List TAddr) : Option (List TAddr) := sortPrE (fun (a : TAddr) => (a.xHost, a.xPath)) (fun p => (⟨p.1, p.2⟩ : TAddr)) a0
theorem ei_iSortAddrs (a0 : List TAddr) (k : List V → Option β) : Imp (F132 β (RAddr a0) k) (iSortAddrs a0) (fun r => k (RAddr r)) := ei_sortPrE (fun (a : TAddr) => (a.xHost, a.xPath)) (fun p => (⟨p.1, p.2⟩ : TAddr)) (fun _ => rfl) (fun _ => rfl) a0 k
noncomputable def iRanOnce (p : TPage) : Option Bool :=
 (iSortAddrs p.xRan).bind fun (r1 : List TAddr) =>
 some ((r1.length : Int) == (p.xRan.length : Int))
theorem ei_iRanOnce (p : TPage) (k : Bool → Option β) : Imp (F68 β p.xAddr.xHost p.xAddr.xPath p.xPolicy.xSet (rStr p.xPolicy.xScripts) (rStr p.xPolicy.xStyles) (rStr p.xPolicy.xImages) p.xPolicy.xNonce p.xTok.xRest (RToken p.xQueue) p.xEnded (RNode p.xBuilder.xNodes) (rInt p.xBuilder.xOpen) (RSlot p.xSlots) (RModule p.xMods) (RAddr p.xEntries) p.xBlock p.xInline p.xDeferred p.xEntered (RAddr p.xRan) (rStr p.xLog) p.xLoaded k) (iRanOnce p) k := by
 delta F68 P68 iRanOnce
 refine Imp.call rfl (ei_iSortAddrs p.xRan _) (fun r1 _ => ?_)
 exact Imp.ret (c1 (fun (h1 : Bool) => k h1) (c2 (fun z0 z1 : Nat => ((z0 : Int) == (z1 : Int))) (T_len (g := TAddr.row) r1) (T_len (g := TAddr.row) p.xRan)))
noncomputable def iIsVoid (name : LU) : Option Bool :=
 br (name == [105, 109, 103]) (
 some true
 ) (
 some (name == [108, 105, 110, 107])
 )
theorem ei_iIsVoid (name : LU) (k : Bool → Option β) : Imp (F169 β name k) (iIsVoid name) k := by
 delta F169 P169 iIsVoid
 refine ibr ?_ ?_
 ·exact irr
 ·exact irr
noncomputable def iisOpenable (b : TBuilder) (n : Int) : Option Bool :=
 br (decide (n ≥ 0)) (
 br (decide (n < (b.xNodes.length : Int))) (
 (getI b.xNodes n).bind fun (e1 : TNode) =>
 br (!(e1.xName == [])) (
 (getI b.xNodes n).bind fun (e2 : TNode) =>
 (iIsVoid e2.xName).bind fun (r3 : Bool) =>
 some (!r3)
 ) (
 some false
 )
 ) (
 some false
 )
 ) (
 some false
 )
theorem ei_iisOpenable (b : TBuilder) (n : Int) (k : Bool → Option β) : Imp (F133 β (RNode b.xNodes) (rInt b.xOpen) n k) (iisOpenable b n) k := by
 delta F133 P133 iisOpenable
 refine ibr ?_ ?_
 ·refine Imp.br (c1 (fun z0 : Nat => (decide (n < (z0 : Int)))) (T_len (g := TNode.row) b.xNodes)) ?_ ?_
  ·refine Imp.idx (g := TNode.row) rfl rfl (fun e1 _ => ?_)
   refine ibr ?_ ?_
   ·refine Imp.idx (g := TNode.row) rfl rfl (fun e2 _ => ?_)
    refine Imp.call rfl (ei_iIsVoid e2.xName _) (fun r3 _ => ?_)
    exact irr
   ·exact irr
  ·exact irr
 ·exact irr
noncomputable def iIsBuilder (b : TBuilder) : Option Bool :=
 (iInRange (b.xNodes.length : Int) 1 40).bind fun (r1 : Bool) =>
 br (!r1) (
 some false
 ) (
 (iInRange (b.xOpen.length : Int) 1 8).bind fun (r2 : Bool) =>
 br (!r2) (
 some false
 ) (
 (getI b.xOpen (0 : Int)).bind fun (e3 : Int) =>
 br (e3 != 0) (
 some false
 ) (
 (getI b.xNodes (0 : Int)).bind fun (e4 : TNode) =>
 br (!(e4.xName == [112, 97, 103, 101])) (
 some false
 ) (
 br (e4.xParent != (-1)) (
 some false
 ) (
 br (!(e4.xText == [])) (
 some false
 ) (
 br (decide ((e4.xAttrs.length : Int) > 0)) (
 some false
 ) (
 (forE b.xNodes (fun (i_5 : Nat) (x_5 : TNode) (s5 : Unit) => (
 br ((i_5 : Int) == 0) (
 some (.inl ())
 ) (
 (iIsName x_5.xName).bind fun (r7 : Bool) =>
 br r7 (
 br (x_5.xName == []) (
 br (!(x_5.xText == [])) (
 br (decide (x_5.xParent ≥ (i_5 : Int))) (
 some (.inr (.inl ()))
 ) (
 (iisOpenable b x_5.xParent).bind fun (r8 : Bool) =>
 br (!r8) (
 some (.inr (.inl ()))
 ) (
 br (!(x_5.xText == [])) (
 br (!((x_5.xAttrs.length : Int) == 0)) (
 some (.inr (.inl ()))
 ) (
 some (.inl ())
 )
 ) (
 some (.inl ())
 )
 )
 )
 ) (
 br (decide (x_5.xParent ≥ (i_5 : Int))) (
 some (.inr (.inl ()))
 ) (
 (iisOpenable b x_5.xParent).bind fun (r9 : Bool) =>
 br (!r9) (
 some (.inr (.inl ()))
 ) (
 br (!(x_5.xText == [])) (
 some (.inr (.inl ()))
 ) (
 some (.inl ())
 )
 )
 )
 )
 ) (
 br (decide (x_5.xParent ≥ (i_5 : Int))) (
 some (.inr (.inl ()))
 ) (
 (iisOpenable b x_5.xParent).bind fun (r10 : Bool) =>
 br (!r10) (
 some (.inr (.inl ()))
 ) (
 br (!(x_5.xText == [])) (
 some (.inr (.inl ()))
 ) (
 some (.inl ())
 )
 )
 )
 )
 ) (
 br (x_5.xName == []) (
 br (!(x_5.xText == [])) (
 br (decide (x_5.xParent ≥ (i_5 : Int))) (
 some (.inr (.inl ()))
 ) (
 (iisOpenable b x_5.xParent).bind fun (r11 : Bool) =>
 br (!r11) (
 some (.inr (.inl ()))
 ) (
 br (!((x_5.xAttrs.length : Int) == 0)) (
 some (.inr (.inl ()))
 ) (
 some (.inl ())
 )
 )
 )
 ) (
 br (decide (x_5.xParent ≥ (i_5 : Int))) (
 some (.inr (.inl ()))
 ) (
 (iisOpenable b x_5.xParent).bind fun (r12 : Bool) =>
 br (!r12) (
 some (.inr (.inl ()))
 ) (
 some (.inr (.inl ()))
 )
 )
 )
 ) (
 br (decide (x_5.xParent ≥ (i_5 : Int))) (
 some (.inr (.inl ()))
 ) (
 (iisOpenable b x_5.xParent).bind fun (r13 : Bool) =>
 br (!r13) (
 some (.inr (.inl ()))
 ) (
 some (.inr (.inl ()))
 )
 )
 )
 )
 )
 : OU)) (fun (s5 : Unit) => (.inr () : Unit ⊕ Unit)) (() : Unit)).bind <|
 Sum.elim
 (fun (r14 : Unit) =>
 some false
 )
 (fun (r14 : Unit) =>
 (forE b.xOpen (fun (i_15 : Nat) (x_15 : Int) (s15 : Unit) => (
 br (decide ((i_15 : Int) > 0)) (
 (iisOpenable b x_15).bind fun (r17 : Bool) =>
 br (!r17) (
 some (.inr (.inl ()))
 ) (
 (getI b.xNodes x_15).bind fun (e18 : TNode) =>
 (getI b.xOpen (IntKind.wrap .i64 ((i_15 : Int) - 1))).bind fun (e19 : Int) =>
 br (e18.xParent != e19) (
 some (.inr (.inl ()))
 ) (
 some (.inl ())
 )
 )
 ) (
 some (.inl ())
 )
 : OU)) (fun (s15 : Unit) => (.inr () : Unit ⊕ Unit)) (() : Unit)).bind <|
 Sum.elim
 (fun (r20 : Unit) =>
 some false
 )
 (fun (r20 : Unit) =>
 some true
 )
 )
 )
 )
 )
 )
 )
 )
 )
theorem ei_iIsBuilder (b : TBuilder) (k : Bool → Option β) : Imp (F69 β (RNode b.xNodes) (rInt b.xOpen) k) (iIsBuilder b) k := by
 delta F69 P69 iIsBuilder
 refine Imp.call (c1 (fun (w1 : Int) => F50 _ w1 1 40) (c1 (fun z0 : Nat => (z0 : Int)) (T_len (g := TNode.row) b.xNodes))) (ei_iInRange (b.xNodes.length : Int) 1 40 _) (fun r1 _ => ?_)
 refine ibr ?_ ?_
 ·exact irr
 ·refine Imp.call (c1 (fun (w1 : Int) => F50 _ w1 1 8) (c1 (fun z0 : Nat => (z0 : Int)) (U_len (kd := (.int .i64)) (g1 := fun e => e) b.xOpen))) (ei_iInRange (b.xOpen.length : Int) 1 8 _) (fun r2 _ => ?_)
  refine ibr ?_ ?_
  ·exact irr
  ·refine Imp.idxC1 (kd := (.int .i64)) (g1 := fun e => e) rfl rfl (fun e3 _ => ?_)
   refine ibr ?_ ?_
   ·exact irr
   ·refine Imp.idxC (g := TNode.row) rfl rfl (fun e4 _ => ?_)
    refine ibr ?_ ?_
    ·exact irr
    ·refine ibr ?_ ?_
     ·exact irr
     ·refine ibr ?_ ?_
      ·exact irr
      ·refine Imp.br (c1 (fun z0 : Nat => (decide ((z0 : Int) > 0))) (T_len (g := TAttr.row) e4.xAttrs)) ?_ ?_
       ·exact irr
       ·refine Imp.for (enc := fun (i_5 : Nat) (s5 : Unit) => [.l (RNode b.xNodes), .i (b.xNodes.length : Int), .i (i_5 : Int), .l (RNode b.xNodes), .l (rInt b.xOpen)]) (encR := Sum.elim (fun (u : Unit) => (((0, [.b false, .l (RNode b.xNodes), .l (rInt b.xOpen)]) : Nat × List Leaf))) (fun (u : Unit) => (((1, [.l (RNode b.xNodes), .l (rInt b.xOpen)]) : Nat × List Leaf)))) (c1 (fun (h1 : Int) => ([.l (RNode b.xNodes), .i h1, .i 0, .l (RNode b.xNodes), .l (rInt b.xOpen)] : List Leaf)) (c1 (fun z0 : Nat => (z0 : Int)) (T_len (g := TNode.row) b.xNodes))) (fun i_5 x_5 s5 hx5 hl5 hm5 => Imp.brT (Int.ofNat_lt.2 hl5) ?_) (fun s5 => brN (Int.lt_irrefl _) rfl) (fun r14 => ?_)
        ·refine Imp.idxFor (g := TNode.row) hx5 ?_
         refine ibr ?_ ?_
         ·exact Imp.ret (c1 (fun (h1 : Int) => (some (Sum.inl [.l (RNode b.xNodes), .i (b.xNodes.length : Int), .i h1, .l (RNode b.xNodes), .l (rInt b.xOpen)]) : OLL)) (wrapJ hl5))
         ·refine Imp.call rfl (ei_iIsName x_5.xName _) (fun r7 _ => ?_)
          refine ibr ?_ ?_
          ·refine ibr ?_ ?_
           ·refine ibr ?_ ?_
            ·refine ibr ?_ ?_
             ·exact irr
             ·refine Imp.call rfl (ei_iisOpenable b x_5.xParent _) (fun r8 _ => ?_)
              refine ibr ?_ ?_
              ·exact irr
              ·refine ibr ?_ ?_
               ·refine Imp.br (c1 (fun z0 : Nat => (!((z0 : Int) == 0))) (T_len (g := TAttr.row) x_5.xAttrs)) ?_ ?_
                ·exact irr
                ·exact Imp.ret (c1 (fun (h1 : Int) => (some (Sum.inl [.l (RNode b.xNodes), .i (b.xNodes.length : Int), .i h1, .l (RNode b.xNodes), .l (rInt b.xOpen)]) : OLL)) (wrapJ hl5))
               ·exact Imp.ret (c1 (fun (h1 : Int) => (some (Sum.inl [.l (RNode b.xNodes), .i (b.xNodes.length : Int), .i h1, .l (RNode b.xNodes), .l (rInt b.xOpen)]) : OLL)) (wrapJ hl5))
            ·refine ibr ?_ ?_
             ·exact irr
             ·refine Imp.call rfl (ei_iisOpenable b x_5.xParent _) (fun r9 _ => ?_)
              refine ibr ?_ ?_
              ·exact irr
              ·refine ibr ?_ ?_
               ·exact irr
               ·exact Imp.ret (c1 (fun (h1 : Int) => (some (Sum.inl [.l (RNode b.xNodes), .i (b.xNodes.length : Int), .i h1, .l (RNode b.xNodes), .l (rInt b.xOpen)]) : OLL)) (wrapJ hl5))
           ·refine ibr ?_ ?_
            ·exact irr
            ·refine Imp.call rfl (ei_iisOpenable b x_5.xParent _) (fun r10 _ => ?_)
             refine ibr ?_ ?_
             ·exact irr
             ·refine ibr ?_ ?_
              ·exact irr
              ·exact Imp.ret (c1 (fun (h1 : Int) => (some (Sum.inl [.l (RNode b.xNodes), .i (b.xNodes.length : Int), .i h1, .l (RNode b.xNodes), .l (rInt b.xOpen)]) : OLL)) (wrapJ hl5))
          ·refine ibr ?_ ?_
           ·refine ibr ?_ ?_
            ·refine ibr ?_ ?_
             ·exact irr
             ·refine Imp.call rfl (ei_iisOpenable b x_5.xParent _) (fun r11 _ => ?_)
              refine ibr ?_ ?_
              ·exact irr
              ·refine Imp.br (c1 (fun z0 : Nat => (!((z0 : Int) == 0))) (T_len (g := TAttr.row) x_5.xAttrs)) ?_ ?_
               ·exact irr
               ·exact Imp.ret (c1 (fun (h1 : Int) => (some (Sum.inl [.l (RNode b.xNodes), .i (b.xNodes.length : Int), .i h1, .l (RNode b.xNodes), .l (rInt b.xOpen)]) : OLL)) (wrapJ hl5))
            ·refine ibr ?_ ?_
             ·exact irr
             ·refine Imp.call rfl (ei_iisOpenable b x_5.xParent _) (fun r12 _ => ?_)
              refine ibr ?_ ?_
              ·exact irr
              ·exact irr
           ·refine ibr ?_ ?_
            ·exact irr
            ·refine Imp.call rfl (ei_iisOpenable b x_5.xParent _) (fun r13 _ => ?_)
             refine ibr ?_ ?_
             ·exact irr
             ·exact irr
        ·cases r14 with
         | inl r14 =>
          refine if0 ?_
          exact irr
         | inr r14 =>
          refine if1 ?_
          refine Imp.for (enc := fun (i_15 : Nat) (s15 : Unit) => [.l (rInt b.xOpen), .i (b.xOpen.length : Int), .i (i_15 : Int), .l (RNode b.xNodes), .l (rInt b.xOpen)]) (encR := Sum.elim (fun (u : Unit) => (((0, [.b false]) : Nat × List Leaf))) (fun (u : Unit) => (((1, []) : Nat × List Leaf)))) (c1 (fun (h1 : Int) => ([.l (rInt b.xOpen), .i h1, .i 0, .l (RNode b.xNodes), .l (rInt b.xOpen)] : List Leaf)) (c1 (fun z0 : Nat => (z0 : Int)) (U_len (kd := (.int .i64)) (g1 := fun e => e) b.xOpen))) (fun i_15 x_15 s15 hx15 hl15 hm15 => Imp.brT (Int.ofNat_lt.2 hl15) ?_) (fun s15 => brN (Int.lt_irrefl _) rfl) (fun r20 => ?_)
          ·refine Imp.idxFor1 (kd := (.int .i64)) (g1 := fun e => e) hx15 ?_
           refine ibr ?_ ?_
           ·refine Imp.call rfl (ei_iisOpenable b x_15 _) (fun r17 _ => ?_)
            refine ibr ?_ ?_
            ·exact irr
            ·refine Imp.idx (g := TNode.row) rfl rfl (fun e18 _ => ?_)
             refine Imp.idx1 (kd := (.int .i64)) (g1 := fun e => e) rfl rfl (fun e19 _ => ?_)
             refine ibr ?_ ?_
             ·exact irr
             ·exact Imp.ret (c1 (fun (h1 : Int) => (some (Sum.inl [.l (rInt b.xOpen), .i (b.xOpen.length : Int), .i h1, .l (RNode b.xNodes), .l (rInt b.xOpen)]) : OLL)) (wrapJ hl15))
           ·exact Imp.ret (c1 (fun (h1 : Int) => (some (Sum.inl [.l (rInt b.xOpen), .i (b.xOpen.length : Int), .i h1, .l (RNode b.xNodes), .l (rInt b.xOpen)]) : OLL)) (wrapJ hl15))
          ·cases r20 with
           | inl r20 =>
            refine if0 ?_
            exact irr
           | inr r20 =>
            refine if1 ?_
            exact irr
noncomputable def iIsParsed (p : TPage) : Option Bool :=
 br p.xEnded (
 br ((p.xQueue.length : Int) == 0) (
 br (p.xBlock == 0) (
 some (p.xInline == 0)
 ) (
 some false
 )
 ) (
 some false
 )
 ) (
 some false
 )
theorem ei_iIsParsed (p : TPage) (k : Bool → Option β) : Imp (F70 β p.xAddr.xHost p.xAddr.xPath p.xPolicy.xSet (rStr p.xPolicy.xScripts) (rStr p.xPolicy.xStyles) (rStr p.xPolicy.xImages) p.xPolicy.xNonce p.xTok.xRest (RToken p.xQueue) p.xEnded (RNode p.xBuilder.xNodes) (rInt p.xBuilder.xOpen) (RSlot p.xSlots) (RModule p.xMods) (RAddr p.xEntries) p.xBlock p.xInline p.xDeferred p.xEntered (RAddr p.xRan) (rStr p.xLog) p.xLoaded k) (iIsParsed p) k := by
 delta F70 P70 iIsParsed
 refine ibr ?_ ?_
 ·refine Imp.br (c1 (fun z0 : Nat => ((z0 : Int) == 0)) (T_len (g := TToken.row) p.xQueue)) ?_ ?_
  ·refine ibr ?_ ?_
   ·exact irr
   ·exact irr
  ·exact irr
 ·exact irr
noncomputable def iOpenSlots (p : TPage) : Option (List Int) :=
 (forE p.xSlots (fun (i_1 : Nat) (x_1 : TSlot) (s1 : List Int) => (
 br (!x_1.xDone) (
 chk ((s1.length + 1) * 8 ≤ 140737488355328 ∧ s1.length + 1 ≤ 140737488355328) <|
 some (.inl (s1 ++ [(i_1 : Int)]))
 ) (
 some (.inl s1)
 )
 : Option ((List Int) ⊕ (List Int)))) (fun (s1 : List Int) => (s1 : List Int)) ([] : List Int)).bind <|
 fun (r3 : List Int) =>
 some r3
theorem ei_iOpenSlots (p : TPage) (k : List V → Option β) : Imp (F71 β p.xAddr.xHost p.xAddr.xPath p.xPolicy.xSet (rStr p.xPolicy.xScripts) (rStr p.xPolicy.xStyles) (rStr p.xPolicy.xImages) p.xPolicy.xNonce p.xTok.xRest (RToken p.xQueue) p.xEnded (RNode p.xBuilder.xNodes) (rInt p.xBuilder.xOpen) (RSlot p.xSlots) (RModule p.xMods) (RAddr p.xEntries) p.xBlock p.xInline p.xDeferred p.xEntered (RAddr p.xRan) (rStr p.xLog) p.xLoaded k) (iOpenSlots p) (fun r => k (rInt r)) := by
 delta F71 P71 iOpenSlots
 refine Imp.for (enc := fun (i_1 : Nat) (s1 : List Int) => [.l (rInt s1), .l (RSlot p.xSlots), .i (p.xSlots.length : Int), .i (i_1 : Int)]) (encR := fun (u : List Int) => (((0, [.l (rInt u)]) : Nat × List Leaf))) (c1 (fun (h1 : Int) => ([.l (rInt []), .l (RSlot p.xSlots), .i h1, .i 0] : List Leaf)) (c1 (fun z0 : Nat => (z0 : Int)) (T_len (g := TSlot.row) p.xSlots))) (fun i_1 x_1 s1 hx1 hl1 hm1 => Imp.brT (Int.ofNat_lt.2 hl1) ?_) (fun s1 => brN (Int.lt_irrefl _) rfl) (fun r3 => ?_)
 ·refine Imp.idxFor (g := TSlot.row) hx1 ?_
  refine ibr ?_ ?_
  ·refine Imp.chk (c2 (fun z0 z1 : Nat => (z0 + 1) * 8 ≤ 140737488355328 ∧ z1 + 1 ≤ 140737488355328) (U_len (kd := (.int .i64)) (g1 := fun e => e) s1) (U_len (kd := (.int .i64)) (g1 := fun e => e) s1)) (fun _ => ?_)
   exact Imp.ret (c2 (fun (h1 : List V) (h2 : Int) => (some (Sum.inl [.l h1, .l (RSlot p.xSlots), .i (p.xSlots.length : Int), .i h2]) : OLL)) (U_app (kd := (.int .i64)) (g1 := fun e => e) s1 [(i_1 : Int)]) (wrapJ hl1))
  ·exact Imp.ret (c1 (fun (h1 : Int) => (some (Sum.inl [.l (rInt s1), .l (RSlot p.xSlots), .i (p.xSlots.length : Int), .i h1]) : OLL)) (wrapJ hl1))
 ·exact irr
noncomputable def iOpenMods (p : TPage) : Option (List Int) :=
 (forE p.xMods (fun (i_1 : Nat) (x_1 : TModule) (s1 : List Int) => (
 br (!x_1.xDone) (
 chk ((s1.length + 1) * 8 ≤ 140737488355328 ∧ s1.length + 1 ≤ 140737488355328) <|
 some (.inl (s1 ++ [(i_1 : Int)]))
 ) (
 some (.inl s1)
 )
 : Option ((List Int) ⊕ (List Int)))) (fun (s1 : List Int) => (s1 : List Int)) ([] : List Int)).bind <|
 fun (r3 : List Int) =>
 some r3
theorem ei_iOpenMods (p : TPage) (k : List V → Option β) : Imp (F72 β p.xAddr.xHost p.xAddr.xPath p.xPolicy.xSet (rStr p.xPolicy.xScripts) (rStr p.xPolicy.xStyles) (rStr p.xPolicy.xImages) p.xPolicy.xNonce p.xTok.xRest (RToken p.xQueue) p.xEnded (RNode p.xBuilder.xNodes) (rInt p.xBuilder.xOpen) (RSlot p.xSlots) (RModule p.xMods) (RAddr p.xEntries) p.xBlock p.xInline p.xDeferred p.xEntered (RAddr p.xRan) (rStr p.xLog) p.xLoaded k) (iOpenMods p) (fun r => k (rInt r)) := by
 delta F72 P72 iOpenMods
 refine Imp.for (enc := fun (i_1 : Nat) (s1 : List Int) => [.l (rInt s1), .l (RModule p.xMods), .i (p.xMods.length : Int), .i (i_1 : Int)]) (encR := fun (u : List Int) => (((0, [.l (rInt u)]) : Nat × List Leaf))) (c1 (fun (h1 : Int) => ([.l (rInt []), .l (RModule p.xMods), .i h1, .i 0] : List Leaf)) (c1 (fun z0 : Nat => (z0 : Int)) (T_len (g := TModule.row) p.xMods))) (fun i_1 x_1 s1 hx1 hl1 hm1 => Imp.brT (Int.ofNat_lt.2 hl1) ?_) (fun s1 => brN (Int.lt_irrefl _) rfl) (fun r3 => ?_)
 ·refine Imp.idxFor (g := TModule.row) hx1 ?_
  refine ibr ?_ ?_
  ·refine Imp.chk (c2 (fun z0 z1 : Nat => (z0 + 1) * 8 ≤ 140737488355328 ∧ z1 + 1 ≤ 140737488355328) (U_len (kd := (.int .i64)) (g1 := fun e => e) s1) (U_len (kd := (.int .i64)) (g1 := fun e => e) s1)) (fun _ => ?_)
   exact Imp.ret (c2 (fun (h1 : List V) (h2 : Int) => (some (Sum.inl [.l h1, .l (RModule p.xMods), .i (p.xMods.length : Int), .i h2]) : OLL)) (U_app (kd := (.int .i64)) (g1 := fun e => e) s1 [(i_1 : Int)]) (wrapJ hl1))
  ·exact Imp.ret (c1 (fun (h1 : Int) => (some (Sum.inl [.l (rInt s1), .l (RModule p.xMods), .i (p.xMods.length : Int), .i h1]) : OLL)) (wrapJ hl1))
 ·exact irr
noncomputable def g_slices_Index_string_string (s : List (LU)) (v : LU) : Option Int :=
 (forE s (fun (i_1 : Nat) (x_1 : LU) (s1 : Unit) => (
 br (v == x_1) (
 some (.inr (.inl (i_1 : Int)))
 ) (
 some (.inl ())
 )
 : Option (Unit ⊕ (Int ⊕ Unit)))) (fun (s1 : Unit) => (.inr () : Int ⊕ Unit)) (() : Unit)).bind <|
 Sum.elim
 (fun (r3 : Int) =>
 some r3
 )
 (fun (r3 : Unit) =>
 some (-1)
 )
theorem ei_g_slices_Index_string_string (s : List (LU)) (v : LU) (k : Int → Option β) : Imp (F134 β (rStr s) v k) (g_slices_Index_string_string s v) k := by
 delta F134 P134 g_slices_Index_string_string
 refine Imp.for (enc := fun (i_1 : Nat) (s1 : Unit) => [.l (rStr s), .s v, .i (s.length : Int), .i (i_1 : Int)]) (encR := Sum.elim (fun (u : Int) => (((0, [.i u]) : Nat × List Leaf))) (fun (u : Unit) => (((1, []) : Nat × List Leaf)))) (c1 (fun (h1 : Int) => ([.l (rStr s), .s v, .i h1, .i 0] : List Leaf)) (c1 (fun z0 : Nat => (z0 : Int)) (S_len s))) (fun i_1 x_1 s1 hx1 hl1 hm1 => Imp.brT (Int.ofNat_lt.2 hl1) ?_) (fun s1 => brN (Int.lt_irrefl _) rfl) (fun r3 => ?_)
 ·refine Imp.idxFor1 (kd := .str) (g1 := fun e => e) hx1 ?_
  refine ibr ?_ ?_
  ·exact irr
  ·exact Imp.ret (c1 (fun (h1 : Int) => (some (Sum.inl [.l (rStr s), .s v, .i (s.length : Int), .i h1]) : OLL)) (wrapJ hl1))
 ·cases r3 with
  | inl r3 =>
   refine if0 ?_
   exact irr
  | inr r3 =>
   refine if1 ?_
   exact irr
noncomputable def g_slices_Contains_string_string (s : List (LU)) (v : LU) : Option Bool :=
 (g_slices_Index_string_string s v).bind fun (r1 : Int) =>
 some (decide (r1 ≥ 0))
theorem ei_g_slices_Contains_string_string (s : List (LU)) (v : LU) (k : Bool → Option β) : Imp (F73 β (rStr s) v k) (g_slices_Contains_string_string s v) k := by
 delta F73 P73 g_slices_Contains_string_string
 refine Imp.call rfl (ei_g_slices_Index_string_string s v _) (fun r1 _ => ?_)
 exact irr
noncomputable def iPageSound (p : TPage) : Option Bool :=
 (forE p.xSlots (fun (i_1 : Nat) (x_1 : TSlot) (s1 : Unit) => (
 br (x_1.xCode != 1) (
 br (!(x_1.xBody == [])) (
 some (.inr (.inl ()))
 ) (
 some (.inl ())
 )
 ) (
 some (.inl ())
 )
 : OU)) (fun (s1 : Unit) => (.inr () : Unit ⊕ Unit)) (() : Unit)).bind <|
 Sum.elim
 (fun (r3 : Unit) =>
 some false
 )
 (fun (r3 : Unit) =>
 (forE p.xMods (fun (i_4 : Nat) (x_4 : TModule) (s4 : Unit) => (
 br (x_4.xCode != 1) (
 br (!(x_4.xBody == [])) (
 some (.inr (.inl ()))
 ) (
 some (.inl ())
 )
 ) (
 some (.inl ())
 )
 : OU)) (fun (s4 : Unit) => (.inr () : Unit ⊕ Unit)) (() : Unit)).bind <|
 Sum.elim
 (fun (r6 : Unit) =>
 some false
 )
 (fun (r6 : Unit) =>
 (iRanOnce p).bind fun (r7 : Bool) =>
 br (!r7) (
 some false
 ) (
 (iIsBuilder p.xBuilder).bind fun (r8 : Bool) =>
 br (!r8) (
 some false
 ) (
 br (!p.xLoaded) (
 some true
 ) (
 (iIsParsed p).bind fun (r9 : Bool) =>
 br r9 (
 (iOpenSlots p).bind fun (r10 : List Int) =>
 br ((r10.length : Int) == 0) (
 (iOpenMods p).bind fun (r11 : List Int) =>
 br ((r11.length : Int) == 0) (
 (g_slices_Contains_string_string p.xLog [108, 111, 97, 100]).bind fun (r12 : Bool) =>
 br r12 (
 some true
 ) (
 some ((p.xLog.length : Int) == 40)
 )
 ) (
 some false
 )
 ) (
 some false
 )
 ) (
 some false
 )
 )
 )
 )
 )
 )
theorem ei_iPageSound (p : TPage) (k : Bool → Option β) : Imp (F32 β p.xAddr.xHost p.xAddr.xPath p.xPolicy.xSet (rStr p.xPolicy.xScripts) (rStr p.xPolicy.xStyles) (rStr p.xPolicy.xImages) p.xPolicy.xNonce p.xTok.xRest (RToken p.xQueue) p.xEnded (RNode p.xBuilder.xNodes) (rInt p.xBuilder.xOpen) (RSlot p.xSlots) (RModule p.xMods) (RAddr p.xEntries) p.xBlock p.xInline p.xDeferred p.xEntered (RAddr p.xRan) (rStr p.xLog) p.xLoaded k) (iPageSound p) k := by
 delta F32 P32 iPageSound
 refine Imp.for (enc := fun (i_1 : Nat) (s1 : Unit) => (.l (RSlot p.xSlots) :: .i (p.xSlots.length : Int) :: .i (i_1 : Int) :: tl0 p)) (encR := Sum.elim (fun (u : Unit) => (((0, (.b false :: tl0 p)) : Nat × List Leaf))) (fun (u : Unit) => (((1, (tl0 p)) : Nat × List Leaf)))) (c1 (fun (h1 : Int) => ((.l (RSlot p.xSlots) :: .i h1 :: .i 0 :: tl0 p) : List Leaf)) (c1 (fun z0 : Nat => (z0 : Int)) (T_len (g := TSlot.row) p.xSlots))) (fun i_1 x_1 s1 hx1 hl1 hm1 => Imp.brT (Int.ofNat_lt.2 hl1) ?_) (fun s1 => brN (Int.lt_irrefl _) rfl) (fun r3 => ?_)
 ·refine Imp.idxFor (g := TSlot.row) hx1 ?_
  refine ibr ?_ ?_
  ·refine ibr ?_ ?_
   ·exact irr
   ·exact Imp.ret (c1 (fun (h1 : Int) => (some (Sum.inl (.l (RSlot p.xSlots) :: .i (p.xSlots.length : Int) :: .i h1 :: tl0 p)) : OLL)) (wrapJ hl1))
  ·exact Imp.ret (c1 (fun (h1 : Int) => (some (Sum.inl (.l (RSlot p.xSlots) :: .i (p.xSlots.length : Int) :: .i h1 :: tl0 p)) : OLL)) (wrapJ hl1))
 ·cases r3 with
  | inl r3 =>
   refine if0 ?_
   exact irr
  | inr r3 =>
   refine if1 ?_
   refine Imp.for (enc := fun (i_4 : Nat) (s4 : Unit) => (.l (RModule p.xMods) :: .i (p.xMods.length : Int) :: .i (i_4 : Int) :: tl0 p)) (encR := Sum.elim (fun (u : Unit) => (((0, (.b false :: tl0 p)) : Nat × List Leaf))) (fun (u : Unit) => (((1, (tl0 p)) : Nat × List Leaf)))) (c1 (fun (h1 : Int) => ((.l (RModule p.xMods) :: .i h1 :: .i 0 :: tl0 p) : List Leaf)) (c1 (fun z0 : Nat => (z0 : Int)) (T_len (g := TModule.row) p.xMods))) (fun i_4 x_4 s4 hx4 hl4 hm4 => Imp.brT (Int.ofNat_lt.2 hl4) ?_) (fun s4 => brN (Int.lt_irrefl _) rfl) (fun r6 => ?_)
   ·refine Imp.idxFor (g := TModule.row) hx4 ?_
    refine ibr ?_ ?_
    ·refine ibr ?_ ?_
     ·exact irr
     ·exact Imp.ret (c1 (fun (h1 : Int) => (some (Sum.inl (.l (RModule p.xMods) :: .i (p.xMods.length : Int) :: .i h1 :: tl0 p)) : OLL)) (wrapJ hl4))
    ·exact Imp.ret (c1 (fun (h1 : Int) => (some (Sum.inl (.l (RModule p.xMods) :: .i (p.xMods.length : Int) :: .i h1 :: tl0 p)) : OLL)) (wrapJ hl4))
   ·cases r6 with
    | inl r6 =>
     refine if0 ?_
     exact irr
    | inr r6 =>
     refine if1 ?_
     refine Imp.call rfl (ei_iRanOnce p _) (fun r7 _ => ?_)
     refine ibr ?_ ?_
     ·exact irr
     ·refine Imp.call rfl (ei_iIsBuilder p.xBuilder _) (fun r8 _ => ?_)
      refine ibr ?_ ?_
      ·exact irr
      ·refine ibr ?_ ?_
       ·exact irr
       ·refine Imp.call rfl (ei_iIsParsed p _) (fun r9 _ => ?_)
        refine ibr ?_ ?_
        ·refine Imp.call rfl (ei_iOpenSlots p _) (fun r10 _ => ?_)
         refine Imp.br (c1 (fun z0 : Nat => ((z0 : Int) == 0)) (U_len (kd := (.int .i64)) (g1 := fun e => e) r10)) ?_ ?_
         ·refine Imp.call rfl (ei_iOpenMods p _) (fun r11 _ => ?_)
          refine Imp.br (c1 (fun z0 : Nat => ((z0 : Int) == 0)) (U_len (kd := (.int .i64)) (g1 := fun e => e) r11)) ?_ ?_
          ·refine Imp.call rfl (ei_g_slices_Contains_string_string p.xLog [108, 111, 97, 100] _) (fun r12 _ => ?_)
           refine ibr ?_ ?_
           ·exact irr
           ·exact Imp.ret (c1 (fun (h1 : Bool) => k h1) (c1 (fun z0 : Nat => ((z0 : Int) == 40)) (S_len p.xLog)))
          ·exact irr
         ·exact irr
        ·exact irr
noncomputable def iTabSound (t : TTab) : Option Bool :=
 (forE t.xVisits (fun (i_1 : Nat) (x_1 : TVisit) (s1 : Unit) => (
 br x_1.xKept (
 br (decide ((x_1.xPage.xBuilder.xNodes.length : Int) > 0)) (
 (iPageSound x_1.xPage).bind fun (r3 : Bool) =>
 br (!r3) (
 some (.inr (.inl ()))
 ) (
 some (.inl ())
 )
 ) (
 some (.inl ())
 )
 ) (
 some (.inl ())
 )
 : OU)) (fun (s1 : Unit) => (.inr () : Unit ⊕ Unit)) (() : Unit)).bind <|
 Sum.elim
 (fun (r4 : Unit) =>
 some false
 )
 (fun (r4 : Unit) =>
 (iIsTab t).bind fun (r5 : Bool) =>
 some r5
 )
theorem ei_iTabSound (t : TTab) (k : Bool → Option β) : Imp (F29 β (RVisit t.xVisits) t.xAt k) (iTabSound t) k := by
 delta F29 P29 iTabSound
 refine Imp.for (enc := fun (i_1 : Nat) (s1 : Unit) => [.l (RVisit t.xVisits), .i (t.xVisits.length : Int), .i (i_1 : Int), .l (RVisit t.xVisits), .i t.xAt]) (encR := Sum.elim (fun (u : Unit) => (((0, [.b false, .l (RVisit t.xVisits), .i t.xAt]) : Nat × List Leaf))) (fun (u : Unit) => (((1, [.l (RVisit t.xVisits), .i t.xAt]) : Nat × List Leaf)))) (c1 (fun (h1 : Int) => ([.l (RVisit t.xVisits), .i h1, .i 0, .l (RVisit t.xVisits), .i t.xAt] : List Leaf)) (c1 (fun z0 : Nat => (z0 : Int)) (T_len (g := TVisit.row) t.xVisits))) (fun i_1 x_1 s1 hx1 hl1 hm1 => Imp.brT (Int.ofNat_lt.2 hl1) ?_) (fun s1 => brN (Int.lt_irrefl _) rfl) (fun r4 => ?_)
 ·refine Imp.idxFor (g := TVisit.row) hx1 ?_
  refine ibr ?_ ?_
  ·refine Imp.br (c1 (fun z0 : Nat => (decide ((z0 : Int) > 0))) (T_len (g := TNode.row) x_1.xPage.xBuilder.xNodes)) ?_ ?_
   ·refine Imp.call rfl (ei_iPageSound x_1.xPage _) (fun r3 _ => ?_)
    refine ibr ?_ ?_
    ·exact irr
    ·exact Imp.ret (c1 (fun (h1 : Int) => (some (Sum.inl [.l (RVisit t.xVisits), .i (t.xVisits.length : Int), .i h1, .l (RVisit t.xVisits), .i t.xAt]) : OLL)) (wrapJ hl1))
   ·exact Imp.ret (c1 (fun (h1 : Int) => (some (Sum.inl [.l (RVisit t.xVisits), .i (t.xVisits.length : Int), .i h1, .l (RVisit t.xVisits), .i t.xAt]) : OLL)) (wrapJ hl1))
  ·exact Imp.ret (c1 (fun (h1 : Int) => (some (Sum.inl [.l (RVisit t.xVisits), .i (t.xVisits.length : Int), .i h1, .l (RVisit t.xVisits), .i t.xAt]) : OLL)) (wrapJ hl1))
 ·cases r4 with
  | inl r4 =>
   refine if0 ?_
   exact irr
  | inr r4 =>
   refine if1 ?_
   refine Imp.call rfl (ei_iIsTab t _) (fun r5 _ => ?_)
   exact irr
noncomputable def iIsOwnGuess (s : TSent) : Option Bool :=
 br (!s.xGuess) (
 some true
 ) (
 some (s.xTo.xHost == s.xTop)
 )
theorem ei_iIsOwnGuess (s : TSent) (k : Bool → Option β) : Imp (F67 β s.xTop s.xTo.xHost s.xTo.xPath s.xGuess k) (iIsOwnGuess s) k := by
 delta F67 P67 iIsOwnGuess
 refine ibr ?_ ?_
 ·exact irr
 ·exact irr
noncomputable def iGuessesSound_1 (s : TSent) : Option Bool :=
 (iIsOwnGuess s).bind fun (r1 : Bool) =>
 some (!r1)
theorem ei_iGuessesSound_1 (s : TSent) (k : Bool → Option β) : Imp (F66 β s.xTop s.xTo.xHost s.xTo.xPath s.xGuess k) (iGuessesSound_1 s) k := by
 delta F66 P66 iGuessesSound_1
 refine Imp.call rfl (ei_iIsOwnGuess s _) (fun r1 _ => ?_)
 exact irr
noncomputable def g_slices_IndexFunc_Sent_Sent_iGuessesSound_1 (s : List TSent) : Option Int :=
 (forE s (fun (i_1 : Nat) (x_1 : TSent) (s1 : Unit) => (
 (iGuessesSound_1 x_1).bind fun (r3 : Bool) =>
 br r3 (
 some (.inr (.inl (i_1 : Int)))
 ) (
 some (.inl ())
 )
 : Option (Unit ⊕ (Int ⊕ Unit)))) (fun (s1 : Unit) => (.inr () : Int ⊕ Unit)) (() : Unit)).bind <|
 Sum.elim
 (fun (r4 : Int) =>
 some r4
 )
 (fun (r4 : Unit) =>
 some (-1)
 )
theorem ei_g_slices_IndexFunc_Sent_Sent_iGuessesSound_1 (s : List TSent) (k : Int → Option β) : Imp (F131c66 β (RSent s) k) (g_slices_IndexFunc_Sent_Sent_iGuessesSound_1 s) k := by
 delta F131c66 P131c66 g_slices_IndexFunc_Sent_Sent_iGuessesSound_1
 refine Imp.for (enc := fun (i_1 : Nat) (s1 : Unit) => [.l (RSent s), .i (s.length : Int), .i (i_1 : Int)]) (encR := Sum.elim (fun (u : Int) => (((0, [.i u]) : Nat × List Leaf))) (fun (u : Unit) => (((1, []) : Nat × List Leaf)))) (c1 (fun (h1 : Int) => ([.l (RSent s), .i h1, .i 0] : List Leaf)) (c1 (fun z0 : Nat => (z0 : Int)) (T_len (g := TSent.row) s))) (fun i_1 x_1 s1 hx1 hl1 hm1 => Imp.brT (Int.ofNat_lt.2 hl1) ?_) (fun s1 => brN (Int.lt_irrefl _) rfl) (fun r4 => ?_)
 ·refine Imp.idxFor (g := TSent.row) hx1 ?_
  refine Imp.call rfl (ei_iGuessesSound_1 x_1 _) (fun r3 _ => ?_)
  refine ibr ?_ ?_
  ·exact irr
  ·exact Imp.ret (c1 (fun (h1 : Int) => (some (Sum.inl [.l (RSent s), .i (s.length : Int), .i h1]) : OLL)) (wrapJ hl1))
 ·cases r4 with
  | inl r4 =>
   refine if0 ?_
   exact irr
  | inr r4 =>
   refine if1 ?_
   exact irr
noncomputable def g_slices_ContainsFunc_Sent_Sent_iGuessesSound_1 (s : List TSent) : Option Bool :=
 (g_slices_IndexFunc_Sent_Sent_iGuessesSound_1 s).bind fun (r1 : Int) =>
 some (decide (r1 ≥ 0))
theorem ei_g_slices_ContainsFunc_Sent_Sent_iGuessesSound_1 (s : List TSent) (k : Bool → Option β) : Imp (F65c66 β (RSent s) k) (g_slices_ContainsFunc_Sent_Sent_iGuessesSound_1 s) k := by
 delta F65c66 P65c66 g_slices_ContainsFunc_Sent_Sent_iGuessesSound_1
 refine Imp.call rfl (ei_g_slices_IndexFunc_Sent_Sent_iGuessesSound_1 s _) (fun r1 _ => ?_)
 exact irr
noncomputable def iGuessesSound (n : TNet) : Option Bool :=
 (g_slices_ContainsFunc_Sent_Sent_iGuessesSound_1 n.xLog).bind fun (r1 : Bool) =>
 some (!r1)
theorem ei_iGuessesSound (n : TNet) (k : Bool → Option β) : Imp (F30 β (RServer n.xServers) (REntry n.xCache.xEntries) (RSent n.xLog) n.xNow k) (iGuessesSound n) k := by
 delta F30 P30 iGuessesSound
 refine Imp.call rfl (ei_g_slices_ContainsFunc_Sent_Sent_iGuessesSound_1 n.xLog _) (fun r1 _ => ?_)
 exact irr
noncomputable def iCacheSound (n : TNet) : Option Bool :=
 (forE n.xCache.xEntries (fun (i_1 : Nat) (x_1 : TEntry) (s1 : Unit) => (
 br (decide (x_1.xUntil > IntKind.wrap .i64 (n.xNow + 1000))) (
 some (.inr (.inl ()))
 ) (
 some (.inl ())
 )
 : OU)) (fun (s1 : Unit) => (.inr () : Unit ⊕ Unit)) (() : Unit)).bind <|
 Sum.elim
 (fun (r3 : Unit) =>
 some false
 )
 (fun (r3 : Unit) =>
 (iIsCache n.xCache).bind fun (r4 : Bool) =>
 some r4
 )
theorem ei_iCacheSound (n : TNet) (k : Bool → Option β) : Imp (F31 β (RServer n.xServers) (REntry n.xCache.xEntries) (RSent n.xLog) n.xNow k) (iCacheSound n) k := by
 delta F31 P31 iCacheSound
 refine Imp.for (enc := fun (i_1 : Nat) (s1 : Unit) => [.l (REntry n.xCache.xEntries), .i (n.xCache.xEntries.length : Int), .i (i_1 : Int), .l (RServer n.xServers), .l (REntry n.xCache.xEntries), .l (RSent n.xLog), .i n.xNow]) (encR := Sum.elim (fun (u : Unit) => (((0, [.b false, .l (RServer n.xServers), .l (REntry n.xCache.xEntries), .l (RSent n.xLog), .i n.xNow]) : Nat × List Leaf))) (fun (u : Unit) => (((1, [.l (RServer n.xServers), .l (REntry n.xCache.xEntries), .l (RSent n.xLog), .i n.xNow]) : Nat × List Leaf)))) (c1 (fun (h1 : Int) => ([.l (REntry n.xCache.xEntries), .i h1, .i 0, .l (RServer n.xServers), .l (REntry n.xCache.xEntries), .l (RSent n.xLog), .i n.xNow] : List Leaf)) (c1 (fun z0 : Nat => (z0 : Int)) (T_len (g := TEntry.row) n.xCache.xEntries))) (fun i_1 x_1 s1 hx1 hl1 hm1 => Imp.brT (Int.ofNat_lt.2 hl1) ?_) (fun s1 => brN (Int.lt_irrefl _) rfl) (fun r3 => ?_)
 ·refine Imp.idxFor (g := TEntry.row) hx1 ?_
  refine ibr ?_ ?_
  ·exact irr
  ·exact Imp.ret (c1 (fun (h1 : Int) => (some (Sum.inl [.l (REntry n.xCache.xEntries), .i (n.xCache.xEntries.length : Int), .i h1, .l (RServer n.xServers), .l (REntry n.xCache.xEntries), .l (RSent n.xLog), .i n.xNow]) : OLL)) (wrapJ hl1))
 ·cases r3 with
  | inl r3 =>
   refine if0 ?_
   exact irr
  | inr r3 =>
   refine if1 ?_
   refine Imp.call rfl (ei_iIsCache n.xCache _) (fun r4 _ => ?_)
   exact irr
noncomputable def iAuditWorld (w : TWorld) : Option Bool :=
 (iIsWorld w).bind fun (r1 : Bool) =>
 br r1 (
 (iTabSound w.xTab).bind fun (r2 : Bool) =>
 br r2 (
 (iGuessesSound w.xNet).bind fun (r3 : Bool) =>
 br r3 (
 (iCacheSound w.xNet).bind fun (r4 : Bool) =>
 br r4 (
 br (!w.xHidden.xReady) (
 some true
 ) (
 (iPageSound w.xHidden.xPage).bind fun (r5 : Bool) =>
 some r5
 )
 ) (
 some false
 )
 ) (
 some false
 )
 ) (
 some false
 )
 ) (
 some false
 )
theorem ei_iAuditWorld (w : TWorld) (k : Bool → Option β) : Imp (F11 β (RServer w.xNet.xServers) (REntry w.xNet.xCache.xEntries) (RSent w.xNet.xLog) w.xNet.xNow (RVisit w.xTab.xVisits) w.xTab.xAt w.xHidden.xReady w.xHidden.xPage.xAddr.xHost w.xHidden.xPage.xAddr.xPath w.xHidden.xPage.xPolicy.xSet (rStr w.xHidden.xPage.xPolicy.xScripts) (rStr w.xHidden.xPage.xPolicy.xStyles) (rStr w.xHidden.xPage.xPolicy.xImages) w.xHidden.xPage.xPolicy.xNonce w.xHidden.xPage.xTok.xRest (RToken w.xHidden.xPage.xQueue) w.xHidden.xPage.xEnded (RNode w.xHidden.xPage.xBuilder.xNodes) (rInt w.xHidden.xPage.xBuilder.xOpen) (RSlot w.xHidden.xPage.xSlots) (RModule w.xHidden.xPage.xMods) (RAddr w.xHidden.xPage.xEntries) w.xHidden.xPage.xBlock w.xHidden.xPage.xInline w.xHidden.xPage.xDeferred w.xHidden.xPage.xEntered (RAddr w.xHidden.xPage.xRan) (rStr w.xHidden.xPage.xLog) w.xHidden.xPage.xLoaded (RKept w.xHidden.xTaken) (RServer w.xHidden.xServers) w.xHidden.xNow w.xFast k) (iAuditWorld w) k := by
 delta F11 P11 iAuditWorld
 refine Imp.call rfl (ei_iIsWorld w _) (fun r1 _ => ?_)
 refine ibr ?_ ?_
 ·refine Imp.call rfl (ei_iTabSound w.xTab _) (fun r2 _ => ?_)
  refine ibr ?_ ?_
  ·refine Imp.call rfl (ei_iGuessesSound w.xNet _) (fun r3 _ => ?_)
   refine ibr ?_ ?_
   ·refine Imp.call rfl (ei_iCacheSound w.xNet _) (fun r4 _ => ?_)
    refine ibr ?_ ?_
    ·refine ibr ?_ ?_
     ·exact irr
     ·refine Imp.call rfl (ei_iPageSound w.xHidden.xPage _) (fun r5 _ => ?_)
      exact irr
    ·exact irr
   ·exact irr
  ·exact irr
 ·exact irr
noncomputable def lFnExactAuditWorld (aW : TWorld) : Option Bool :=
 (lszWorld aW 1048576).bind fun (r1 : Int) =>
 br (decide (r1 < 0)) (
 some true
 ) (
 (ltoWorld aW).bind fun (r2 : TWorld) =>
 (sAuditWorld r2).bind fun (r35 : Bool) =>
 (ltoWorld aW).bind fun (r36 : TWorld) =>
 (iAuditWorld r36).bind fun (r69 : Bool) =>
 br (!(r69 == r35)) (
 some false
 ) (
 (ltoWorld aW).bind fun (r70 : TWorld) =>
 (leqWorld r36 r70).bind fun (r103 : Bool) =>
 br (!r103) (
 some false
 ) (
 some true
 )
 )
 )
theorem ei_lFnExactAuditWorld (aW : TWorld) (k : Bool → Option β) : Imp (F4 β (RServer aW.xNet.xServers) (REntry aW.xNet.xCache.xEntries) (RSent aW.xNet.xLog) aW.xNet.xNow (RVisit aW.xTab.xVisits) aW.xTab.xAt aW.xHidden.xReady aW.xHidden.xPage.xAddr.xHost aW.xHidden.xPage.xAddr.xPath aW.xHidden.xPage.xPolicy.xSet (rStr aW.xHidden.xPage.xPolicy.xScripts) (rStr aW.xHidden.xPage.xPolicy.xStyles) (rStr aW.xHidden.xPage.xPolicy.xImages) aW.xHidden.xPage.xPolicy.xNonce aW.xHidden.xPage.xTok.xRest (RToken aW.xHidden.xPage.xQueue) aW.xHidden.xPage.xEnded (RNode aW.xHidden.xPage.xBuilder.xNodes) (rInt aW.xHidden.xPage.xBuilder.xOpen) (RSlot aW.xHidden.xPage.xSlots) (RModule aW.xHidden.xPage.xMods) (RAddr aW.xHidden.xPage.xEntries) aW.xHidden.xPage.xBlock aW.xHidden.xPage.xInline aW.xHidden.xPage.xDeferred aW.xHidden.xPage.xEntered (RAddr aW.xHidden.xPage.xRan) (rStr aW.xHidden.xPage.xLog) aW.xHidden.xPage.xLoaded (RKept aW.xHidden.xTaken) (RServer aW.xHidden.xServers) aW.xHidden.xNow aW.xFast k) (lFnExactAuditWorld aW) k := by
 delta F4 P4 lFnExactAuditWorld
 refine Imp.call rfl (ei_lszWorld aW 1048576 _) (fun r1 _ => ?_)
 refine ibr ?_ ?_
 ·exact irr
 ·refine Imp.call rfl (ei_ltoWorld aW _) (fun r2 _ => ?_)
  refine Imp.call rfl (ei_sAuditWorld r2 _) (fun r35 _ => ?_)
  refine Imp.call rfl (ei_ltoWorld aW _) (fun r36 _ => ?_)
  refine Imp.call rfl (ei_iAuditWorld r36 _) (fun r69 _ => ?_)
  refine ibr ?_ ?_
  ·exact irr
  ·refine Imp.call rfl (ei_ltoWorld aW _) (fun r70 _ => ?_)
   refine Imp.call rfl (ei_leqWorld r36 r70 _) (fun r103 _ => ?_)
   refine ibr ?_ ?_
   ·exact irr
   ·exact irr
end Go.Am
