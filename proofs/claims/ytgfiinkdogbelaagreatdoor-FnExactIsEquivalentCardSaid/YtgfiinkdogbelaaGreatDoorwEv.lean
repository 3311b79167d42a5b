/-
  Typed forms of functions of the program, written by program (eform.py): each over structures and lists, and that, where it answers, the extracted function hands on that answer.
-/
import Derived.Test.YtgfiinkdogbelaaGreatDoorwAmWrite
import Derived.Test.YtgfiinkdogbelaaGreatDoorwFv
import Derived.Test.YtgfiinkdogbelaaGreatDoorwTv
set_option maxRecDepth 10000
set_option linter.unusedVariables false
namespace Go.Am
noncomputable section
open Go Go.Proofs
variable {M : Type}
abbrev OLL := Option (List Leaf ⊕ (Nat × List Leaf))
abbrev OU := Option (Unit ⊕ (Unit ⊕ Unit))
abbrev RAddr (l : List TAddr) : List V := rows kAddr TAddr.row l
abbrev RAttr (l : List TAttr) : List V := rows kAttr TAttr.row l
abbrev REntry (l : List TEntry) : List V := rows kEntry TEntry.row l
abbrev RFile (l : List TFile) : List V := rows kFile TFile.row l
abbrev RKept (l : List TKept) : List V := rows kKept TKept.row l
abbrev RModule (l : List TModule) : List V := rows kModule TModule.row l
abbrev RNode (l : List TNode) : List V := rows kNode TNode.row l
abbrev RRule (l : List TRule) : List V := rows kRule TRule.row l
abbrev RSent (l : List TSent) : List V := rows kSent TSent.row l
abbrev RServer (l : List TServer) : List V := rows kServer TServer.row l
abbrev RSheet (l : List TSheet) : List V := rows kSheet TSheet.row l
abbrev RSlot (l : List TSlot) : List V := rows kSlot TSlot.row l
abbrev RToken (l : List TToken) : List V := rows kToken TToken.row l
abbrev RVisit (l : List TVisit) : List V := rows kVisit TVisit.row l
theorem S_len (l : List LU) : (rStr l).length = l.length := U_len (T := LU) (kd := .str) (g1 := fun e => e) l
theorem S_app (a b : List LU) : rStr a ++ rStr b = rStr (a ++ b) := U_app (T := LU) (kd := .str) (g1 := fun e => e) a b
theorem S_lt {l : List LU} {i : Nat} (h : i < l.length) : (i : Int) < ((rStr l).length : Int) := U_lt (T := LU) (kd := .str) (g1 := fun e => e) h
theorem S_irr (l : List LU) : ¬ (l.length : Int) < ((rStr l).length : Int) := U_irr (T := LU) (kd := .str) (g1 := fun e => e) l
section
variable {α γ : Type} {x y : Option α} {x' y' : Option γ} {k : γ -> Option α}
theorem irr {r : γ} (h : x = k r := by exact rfl) : Imp x (some r) k := Imp.ret h
theorem ibr {b : Bool} (hx : Imp x x' k) (hy : Imp y y' k) : Imp (br b x y) (Go.Am.br b x' y') k := Imp.br rfl hx hy
theorem if1 {d : Decidable ((1 : Nat) = 0)} (hy : Imp y x' k) : Imp (@ite _ ((1 : Nat) = 0) d x y) x' k := Imp.ifF Nat.one_ne_zero hy
theorem if0 {d : Decidable ((0 : Nat) = 0)} (hx : Imp x x' k) : Imp (@ite _ ((0 : Nat) = 0) d x y) x' k := Imp.ifT rfl hx
end
abbrev tl0 (p : TPage) : List Leaf := [.s p.xAddr.xHost, .s p.xAddr.xPath, .b p.xPolicy.xSet, .l (rStr p.xPolicy.xScripts), .l (rStr p.xPolicy.xStyles), .l (rStr p.xPolicy.xImages), .s p.xPolicy.xNonce, .s p.xTok.xRest, .l (RToken p.xQueue), .b p.xEnded, .l (RNode p.xBuilder.xNodes), .l (rInt p.xBuilder.xOpen), .l (RSlot p.xSlots), .l (RModule p.xMods), .l (RAddr p.xEntries), .i p.xBlock, .i p.xInline, .i p.xDeferred, .i p.xEntered, .l (RAddr p.xRan), .l (rStr p.xLog), .b p.xLoaded]
abbrev tl1 (p : TEntry) : List Leaf := [.s p.xTop, .s p.xTo.xHost, .s p.xTo.xPath, .i p.xResponse.xStatus, .i p.xResponse.xKind, .s p.xResponse.xBody, .i p.xResponse.xAge, .b p.xResponse.xShares, .s p.xResponse.xPolicy, .i p.xUntil]
def sl6Attrs (l : List TAttr) : Option (List TAttr) :=
 chk ((0 + l.length) * 32 <= 140737488355328 /\ 0 + l.length <= 140737488355328) <|
 some ([] ++ l)
theorem ei_sl6Attrs (l : List TAttr) (k : List V -> Option M) : Imp (F74 M (RAttr l) k) (sl6Attrs l) (fun r => k (RAttr r)) := by
 delta F74 P74 sl6Attrs
 refine Imp.chk (c2 (fun z0 z1 : Nat => (0 + z0) * 32 <= 140737488355328 /\ 0 + z1 <= 140737488355328) (T_len (g := TAttr.row) l) (T_len (g := TAttr.row) l)) (fun _ => ?_)
 exact Imp.ret (c1 (fun (h1 : List V) => k h1) (T_app (g := TAttr.row) [] l))
def sl6Copy (b : TBuilder) : Option TBuilder :=
 chk ((0 + b.xOpen.length) * 8 <= 140737488355328 /\ 0 + b.xOpen.length <= 140737488355328) <|
 (forE b.xNodes (fun (i_1 : Nat) (x_1 : TNode) (s1 : List TNode) => (
  (sl6Attrs x_1.xAttrs).bind fun (r4 : List TAttr) =>
  chk ((s1.length + 1) * 64 <= 140737488355328 /\ s1.length + 1 <= 140737488355328) <|
  some (.inl (s1 ++ [{ x_1 with xAttrs := r4 }]))
 : Option ((List TNode) ⊕ (List TNode)))) (fun (s1 : List TNode) => (s1 : List TNode)) ([] : List TNode)).bind <|
 fun (r5 : List TNode) =>
 some (⟨r5, ([] ++ b.xOpen)⟩ : TBuilder)
theorem ei_sl6Copy (b : TBuilder) (k : List V -> List V -> Option M) : Imp (F38 M (RNode b.xNodes) (rInt b.xOpen) k) (sl6Copy b) (fun r => k (RNode r.xNodes) (rInt r.xOpen)) := by
 delta F38 P38 sl6Copy
 refine Imp.chk (c2 (fun z0 z1 : Nat => (0 + z0) * 8 <= 140737488355328 /\ 0 + z1 <= 140737488355328) (U_len (T := Int) (kd := (.int .i64)) (g1 := fun e => e) b.xOpen) (U_len (T := Int) (kd := (.int .i64)) (g1 := fun e => e) b.xOpen)) (fun _ => ?_)
 refine Imp.for (enc := fun (i_1 : Nat) (s1 : List TNode) => [.i (i_1 : Int), .l (RNode b.xNodes), .l (rInt b.xOpen), .l (RNode s1), .l (rInt ([] ++ b.xOpen))]) (encR := fun (u : List TNode) => (((0, [.l (RNode u), .l (rInt ([] ++ b.xOpen))]) : Nat × List Leaf))) (c1 (fun (h1 : List V) => ([.i 0, .l (RNode b.xNodes), .l (rInt b.xOpen), .l (RNode []), .l h1] : List Leaf)) (U_app (T := Int) (kd := (.int .i64)) (g1 := fun e => e) [] b.xOpen)) (fun i_1 x_1 s1 hx1 hl1 hm1 => Imp.brT (T_lt (g := TNode.row) hl1) ?_) (fun s1 => brN (T_irr (g := TNode.row) b.xNodes) rfl) (fun r5 => ?_)
 ·refine Imp.idxFor (g := TNode.row) hx1 ?_
  refine Imp.idxFor (g := TNode.row) hx1 ?_
  refine Imp.call rfl (ei_sl6Attrs x_1.xAttrs _) (fun r4 _ => ?_)
  refine Imp.chk (c2 (fun z0 z1 : Nat => (z0 + 1) * 64 <= 140737488355328 /\ z1 + 1 <= 140737488355328) (T_len (g := TNode.row) s1) (T_len (g := TNode.row) s1)) (fun _ => ?_)
  exact Imp.ret (c2 (fun (h1 : Int) (h2 : List V) => (some (Sum.inl [.i h1, .l (RNode b.xNodes), .l (rInt b.xOpen), .l h2, .l (rInt ([] ++ b.xOpen))]) : OLL)) (wrapJ hl1) (T_app (g := TNode.row) s1 [{ x_1 with xAttrs := r4 }]))
 ·exact irr
def sKindOfMode (mode : Int) : Option Int :=
 br (mode == 1) (
 some 4
 ) (
 br (mode == 2) (
 some 3
 ) (
 br (mode == 3) (
 some 2
 ) (
 br (mode == 4) (
 some 2
 ) (
 some 0
 )
 )
 )
 )
theorem ei_sKindOfMode (mode : Int) (k : Int -> Option M) : Imp (F76 M mode k) (sKindOfMode mode) k := by
 delta F76 P76 sKindOfMode
 refine ibr ?_ ?_
 ·exact irr
 ·refine ibr ?_ ?_
  ·exact irr
  ·refine ibr ?_ ?_
   ·exact irr
   ·refine ibr ?_ ?_
    ·exact irr
    ·exact irr
def sl1In (x : Int) (least : Int) (most : Int) : Option Bool :=
 br (decide (x >= least)) (
 some (decide (x <= most))
 ) (
 some false
 )
theorem ei_sl1In (x : Int) (least : Int) (most : Int) (k : Bool -> Option M) : Imp (F134 M x least most k) (sl1In x least most) k := by
 delta F134 P134 sl1In
 refine ibr ?_ ?_
 ·exact irr
 ·exact irr
def sIsName (s : LU) : Option Bool :=
 (forE s (fun (i_1 : Nat) (x_1 : UInt8) (s1 : Unit) => (
 br (decide ((x_1.toNat : Int) < 97)) (
 some (.inr (.inl ()))
 ) (
 br (decide ((x_1.toNat : Int) > 122)) (
 some (.inr (.inl ()))
 ) (
 some (.inl ())
 )
 )
 : OU)) (fun (s1 : Unit) => (.inr () : Unit ⊕ Unit)) (() : Unit)).bind <|
 Sum.elim
 (fun (r4 : Unit) =>
 some false
 )
 (fun (r4 : Unit) =>
 (sl1In (s.length : Int) 1 8).bind fun (r5 : Bool) =>
 some r5
 )
theorem ei_sIsName (s : LU) (k : Bool -> Option M) : Imp (F132 M s k) (sIsName s) k := by
 delta F132 P132 sIsName
 refine Imp.for (enc := fun (i_1 : Nat) (s1 : Unit) => [.s s, .i (i_1 : Int)]) (encR := Sum.elim (fun (u : Unit) => (((0, [.s s, .b false]) : Nat × List Leaf))) (fun (u : Unit) => (((1, [.s s]) : Nat × List Leaf)))) rfl (fun i_1 x_1 s1 hx1 hl1 hm1 => Imp.brT (Int.ofNat_lt.2 hl1) ?_) (fun s1 => brN (Int.lt_irrefl _) rfl) (fun r4 => ?_)
 ·refine Imp.idxSFor hx1 ?_
  refine ibr ?_ ?_
  ·exact irr
  ·refine Imp.idxSFor hx1 ?_
   refine ibr ?_ ?_
   ·exact irr
   ·exact Imp.ret (c1 (fun (h1 : Int) => (some (Sum.inl [.s s, .i h1]) : OLL)) (wrapJ hl1))
 ·cases r4 with
  | inl r4 =>
   refine if0 ?_
   exact irr
  | inr r4 =>
   refine if1 ?_
   refine Imp.call rfl (ei_sl1In (s.length : Int) 1 8 _) (fun r5 _ => ?_)
   exact irr
def sIsAddr (a : TAddr) : Option Bool :=
 (sIsName a.xHost).bind fun (r1 : Bool) =>
 br r1 (
 (sIsName a.xPath).bind fun (r2 : Bool) =>
 some r2
 ) (
 some false
 )
theorem ei_sIsAddr (a : TAddr) (k : Bool -> Option M) : Imp (F171 M a.xHost a.xPath k) (sIsAddr a) k := by
 delta F171 P171 sIsAddr
 refine Imp.call rfl (ei_sIsName a.xHost _) (fun r1 _ => ?_)
 refine ibr ?_ ?_
 ·refine Imp.call rfl (ei_sIsName a.xPath _) (fun r2 _ => ?_)
  exact irr
 ·exact irr
def sFormatAddr (a : TAddr) : Option (LU) :=
 (sIsAddr a).bind fun (r1 : Bool) =>
 br (!r1) (
 some []
 ) (
 chk (a.xHost.length + 1 <= 9223372036854775807) <|
 chk ((a.xHost ++ [47]).length + a.xPath.length <= 9223372036854775807) <|
 some ((a.xHost ++ [47]) ++ a.xPath)
 )
theorem ei_sFormatAddr (a : TAddr) (k : LU -> Option M) : Imp (F128 M a.xHost a.xPath k) (sFormatAddr a) k := by
 delta F128 P128 sFormatAddr
 refine Imp.call rfl (ei_sIsAddr a _) (fun r1 _ => ?_)
 refine ibr ?_ ?_
 ·exact irr
 ·refine Imp.chk rfl (fun _ => ?_)
  refine Imp.chk rfl (fun _ => ?_)
  exact irr
def sVerdictName (code : Int) : Option (LU) :=
 (sl1In code 1 6).bind fun (r1 : Bool) =>
 br (!r1) (
 some []
 ) (
 chk (0 <= code /\ code.toNat < 7) <|
 (getI [[], [111, 107], [112, 111, 108, 105, 99, 121], [115, 116, 97, 116, 117, 115], [107, 105, 110, 100], [115, 104, 97, 114, 101], [100, 105, 103, 101, 115, 116]] code).bind fun (e2 : LU) =>
 some e2
 )
theorem ei_sVerdictName (code : Int) (k : LU -> Option M) : Imp (F129 M code k) (sVerdictName code) k := by
 delta F129 P129 sVerdictName
 refine Imp.call rfl (ei_sl1In code 1 6 _) (fun r1 _ => ?_)
 refine ibr ?_ ?_
 ·exact irr
 ·refine Imp.chk rfl (fun _ => ?_)
  refine Imp.idxAt1 (kd := .str) (g1 := fun e => e) rfl rfl (fun e2 => rfl) (fun e2 _ => ?_)
  exact irr
def sKindName (kind : Int) : Option (LU) :=
 (sl1In kind 1 5).bind fun (r1 : Bool) =>
 br (!r1) (
 some []
 ) (
 chk (0 <= kind /\ kind.toNat < 6) <|
 (getI [[], [112, 97, 103, 101], [115, 99, 114, 105, 112, 116], [115, 116, 121, 108, 101], [105, 109, 97, 103, 101], [109, 111, 100, 117, 108, 101]] kind).bind fun (e2 : LU) =>
 some e2
 )
theorem ei_sKindName (kind : Int) (k : LU -> Option M) : Imp (F130 M kind k) (sKindName kind) k := by
 delta F130 P130 sKindName
 refine Imp.call rfl (ei_sl1In kind 1 5 _) (fun r1 _ => ?_)
 refine ibr ?_ ?_
 ·exact irr
 ·refine Imp.chk rfl (fun _ => ?_)
  refine Imp.idxAt1 (kd := .str) (g1 := fun e => e) rfl rfl (fun e2 => rfl) (fun e2 _ => ?_)
  exact irr
def sl21Verdict (kind : Int) (a : TAddr) (done : Bool) (code : Int) : Option (LU) :=
 (sFormatAddr a).bind fun (r1 : LU) =>
 br (r1 == []) (
 br done (
 (sVerdictName code).bind fun (r2 : LU) =>
 (sKindName kind).bind fun (r3 : LU) =>
 chk (r3.length + 1 <= 9223372036854775807) <|
 chk ((r3 ++ [32]).length + 1 <= 9223372036854775807) <|
 chk (((r3 ++ [32]) ++ [45]).length + 1 <= 9223372036854775807) <|
 chk ((((r3 ++ [32]) ++ [45]) ++ [32]).length + r2.length <= 9223372036854775807) <|
 some ((((r3 ++ [32]) ++ [45]) ++ [32]) ++ r2)
 ) (
 (sKindName kind).bind fun (r4 : LU) =>
 chk (r4.length + 1 <= 9223372036854775807) <|
 chk ((r4 ++ [32]).length + 1 <= 9223372036854775807) <|
 chk (((r4 ++ [32]) ++ [45]).length + 1 <= 9223372036854775807) <|
 chk ((((r4 ++ [32]) ++ [45]) ++ [32]).length + 4 <= 9223372036854775807) <|
 some ((((r4 ++ [32]) ++ [45]) ++ [32]) ++ [111, 112, 101, 110])
 )
 ) (
 br done (
 (sVerdictName code).bind fun (r5 : LU) =>
 (sKindName kind).bind fun (r6 : LU) =>
 chk (r6.length + 1 <= 9223372036854775807) <|
 chk ((r6 ++ [32]).length + r1.length <= 9223372036854775807) <|
 chk (((r6 ++ [32]) ++ r1).length + 1 <= 9223372036854775807) <|
 chk ((((r6 ++ [32]) ++ r1) ++ [32]).length + r5.length <= 9223372036854775807) <|
 some ((((r6 ++ [32]) ++ r1) ++ [32]) ++ r5)
 ) (
 (sKindName kind).bind fun (r7 : LU) =>
 chk (r7.length + 1 <= 9223372036854775807) <|
 chk ((r7 ++ [32]).length + r1.length <= 9223372036854775807) <|
 chk (((r7 ++ [32]) ++ r1).length + 1 <= 9223372036854775807) <|
 chk ((((r7 ++ [32]) ++ r1) ++ [32]).length + 4 <= 9223372036854775807) <|
 some ((((r7 ++ [32]) ++ r1) ++ [32]) ++ [111, 112, 101, 110])
 )
 )
theorem ei_sl21Verdict (kind : Int) (a : TAddr) (done : Bool) (code : Int) (k : LU -> Option M) : Imp (F75 M kind a.xHost a.xPath done code k) (sl21Verdict kind a done code) k := by
 delta F75 P75 sl21Verdict
 refine Imp.call rfl (ei_sFormatAddr a _) (fun r1 _ => ?_)
 refine ibr ?_ ?_
 ·refine ibr ?_ ?_
  ·refine Imp.call rfl (ei_sVerdictName code _) (fun r2 _ => ?_)
   refine Imp.call rfl (ei_sKindName kind _) (fun r3 _ => ?_)
   refine Imp.chk rfl (fun _ => ?_)
   refine Imp.chk rfl (fun _ => ?_)
   refine Imp.chk rfl (fun _ => ?_)
   refine Imp.chk rfl (fun _ => ?_)
   exact irr
  ·refine Imp.call rfl (ei_sKindName kind _) (fun r4 _ => ?_)
   refine Imp.chk rfl (fun _ => ?_)
   refine Imp.chk rfl (fun _ => ?_)
   refine Imp.chk rfl (fun _ => ?_)
   refine Imp.chk rfl (fun _ => ?_)
   exact irr
 ·refine ibr ?_ ?_
  ·refine Imp.call rfl (ei_sVerdictName code _) (fun r5 _ => ?_)
   refine Imp.call rfl (ei_sKindName kind _) (fun r6 _ => ?_)
   refine Imp.chk rfl (fun _ => ?_)
   refine Imp.chk rfl (fun _ => ?_)
   refine Imp.chk rfl (fun _ => ?_)
   refine Imp.chk rfl (fun _ => ?_)
   exact irr
  ·refine Imp.call rfl (ei_sKindName kind _) (fun r7 _ => ?_)
   refine Imp.chk rfl (fun _ => ?_)
   refine Imp.chk rfl (fun _ => ?_)
   refine Imp.chk rfl (fun _ => ?_)
   refine Imp.chk rfl (fun _ => ?_)
   exact irr
def sVerdictsOf (p : TPage) : Option (List (LU)) :=
 (forE p.xSlots (fun (i_1 : Nat) (x_1 : TSlot) (s1 : List (LU)) => (
 (sKindOfMode x_1.xMode).bind fun (r3 : Int) =>
 (sl21Verdict r3 x_1.xTo x_1.xDone x_1.xCode).bind fun (r4 : LU) =>
 chk ((s1.length + 1) * 16 <= 140737488355328 /\ s1.length + 1 <= 140737488355328) <|
 some (.inl (s1 ++ [r4]))
 : Option ((List (LU)) ⊕ (List (LU))))) (fun (s1 : List (LU)) => (s1 : List (LU))) ([] : List (LU))).bind <|
 fun (r5 : List (LU)) =>
 (forE p.xMods (fun (i_6 : Nat) (x_6 : TModule) (s6 : List (LU)) => (
 (sl21Verdict 5 x_6.xTo x_6.xDone x_6.xCode).bind fun (r8 : LU) =>
 chk ((s6.length + 1) * 16 <= 140737488355328 /\ s6.length + 1 <= 140737488355328) <|
 some (.inl (s6 ++ [r8]))
 : Option ((List (LU)) ⊕ (List (LU))))) (fun (s6 : List (LU)) => (s6 : List (LU))) (r5 : List (LU))).bind <|
 fun (r9 : List (LU)) =>
 some r9
theorem ei_sVerdictsOf (p : TPage) (k : List V -> Option M) : Imp (F39 M p.xAddr.xHost p.xAddr.xPath p.xPolicy.xSet (rStr p.xPolicy.xScripts) (rStr p.xPolicy.xStyles) (rStr p.xPolicy.xImages) p.xPolicy.xNonce p.xTok.xRest (RToken p.xQueue) p.xEnded (RNode p.xBuilder.xNodes) (rInt p.xBuilder.xOpen) (RSlot p.xSlots) (RModule p.xMods) (RAddr p.xEntries) p.xBlock p.xInline p.xDeferred p.xEntered (RAddr p.xRan) (rStr p.xLog) p.xLoaded k) (sVerdictsOf p) (fun r => k (rStr r)) := by
 delta F39 P39 sVerdictsOf
 refine Imp.for (enc := fun (i_1 : Nat) (s1 : List (LU)) => (.l (rStr s1) :: .i (i_1 : Int) :: tl0 p)) (encR := fun (u : List (LU)) => (((0, (.l (rStr u) :: tl0 p)) : Nat × List Leaf))) rfl (fun i_1 x_1 s1 hx1 hl1 hm1 => Imp.brT (T_lt (g := TSlot.row) hl1) ?_) (fun s1 => brN (T_irr (g := TSlot.row) p.xSlots) rfl) (fun r5 => ?_)
 ·refine Imp.idxFor (g := TSlot.row) hx1 ?_
  refine Imp.call rfl (ei_sKindOfMode x_1.xMode _) (fun r3 _ => ?_)
  refine Imp.call rfl (ei_sl21Verdict r3 x_1.xTo x_1.xDone x_1.xCode _) (fun r4 _ => ?_)
  refine Imp.chk (c2 (fun z0 z1 : Nat => (z0 + 1) * 16 <= 140737488355328 /\ z1 + 1 <= 140737488355328) (S_len s1) (S_len s1)) (fun _ => ?_)
  exact Imp.ret (c2 (fun (h1 : List V) (h2 : Int) => (some (Sum.inl (.l h1 :: .i h2 :: tl0 p)) : OLL)) (S_app s1 [r4]) (wrapJ hl1))
 ·refine Imp.for (enc := fun (i_6 : Nat) (s6 : List (LU)) => (.l (rStr s6) :: .i (i_6 : Int) :: tl0 p)) (encR := fun (u : List (LU)) => (((0, [.l (rStr u)]) : Nat × List Leaf))) rfl (fun i_6 x_6 s6 hx6 hl6 hm6 => Imp.brT (T_lt (g := TModule.row) hl6) ?_) (fun s6 => brN (T_irr (g := TModule.row) p.xMods) rfl) (fun r9 => ?_)
  ·refine Imp.idxFor (g := TModule.row) hx6 ?_
   refine Imp.call rfl (ei_sl21Verdict 5 x_6.xTo x_6.xDone x_6.xCode _) (fun r8 _ => ?_)
   refine Imp.chk (c2 (fun z0 z1 : Nat => (z0 + 1) * 16 <= 140737488355328 /\ z1 + 1 <= 140737488355328) (S_len s6) (S_len s6)) (fun _ => ?_)
   exact Imp.ret (c2 (fun (h1 : List V) (h2 : Int) => (some (Sum.inl (.l h1 :: .i h2 :: tl0 p)) : OLL)) (S_app s6 [r8]) (wrapJ hl6))
  ·exact irr
def sl5Split (s : LU) (xby : Int) : Option (List (LU)) :=
 (whileE (fun (s1 : (List (LU)) × Int × Int) => (
 br (decide (s1.2.2 <= (s.length : Int))) (
 br (s1.2.2 == (s.length : Int)) (
 chk (0 <= s1.2.1 /\ s1.2.1 <= s1.2.2 /\ s1.2.2 <= (s.length : Int)) <|
 chk ((s1.1.length + 1) * 16 <= 140737488355328 /\ s1.1.length + 1 <= 140737488355328) <|
 some (.inl ((s1.1 ++ [((s.take (s1.2.2.toNat)).drop (s1.2.1.toNat))]), (IntKind.wrap .i64 (s1.2.2 + 1)), (IntKind.wrap .i64 (s1.2.2 + 1))))
 ) (
 (getS s s1.2.2).bind fun (b2 : Int) =>
 br (b2 == xby) (
 chk (0 <= s1.2.1 /\ s1.2.1 <= s1.2.2 /\ s1.2.2 <= (s.length : Int)) <|
 chk ((s1.1.length + 1) * 16 <= 140737488355328 /\ s1.1.length + 1 <= 140737488355328) <|
 some (.inl ((s1.1 ++ [((s.take (s1.2.2.toNat)).drop (s1.2.1.toNat))]), (IntKind.wrap .i64 (s1.2.2 + 1)), (IntKind.wrap .i64 (s1.2.2 + 1))))
 ) (
 some (.inl (s1.1, s1.2.1, (IntKind.wrap .i64 (s1.2.2 + 1))))
 )
 )
 ) (
 some (.inr s1.1)
 )
 : Option (((List (LU)) × Int × Int) ⊕ (List (LU))))) (([], 0, 0) : (List (LU)) × Int × Int)).bind <|
 fun (r3 : List (LU)) =>
 some r3
theorem ei_sl5Split (s : LU) (xby : Int) (k : List V -> Option M) : Imp (F131 M s xby k) (sl5Split s xby) (fun r => k (rStr r)) := by
 delta F131 P131 sl5Split
 refine Imp.while (enc := fun (s1 : (List (LU)) × Int × Int) => [.s s, .i xby, .l (rStr s1.1), .i s1.2.1, .i s1.2.2]) (encR := fun (u : List (LU)) => (((0, [.l (rStr u)]) : Nat × List Leaf))) rfl (fun s1 => ?_) (fun r3 => ?_)
 ·refine ibr ?_ ?_
  ·refine ibr ?_ ?_
   ·refine Imp.chk rfl (fun _ => ?_)
    refine Imp.chk (c2 (fun z0 z1 : Nat => (z0 + 1) * 16 <= 140737488355328 /\ z1 + 1 <= 140737488355328) (S_len s1.1) (S_len s1.1)) (fun _ => ?_)
    exact Imp.ret (c1 (fun (h1 : List V) => (some (Sum.inl [.s s, .i xby, .l h1, .i (IntKind.wrap .i64 (s1.2.2 + 1)), .i (IntKind.wrap .i64 (s1.2.2 + 1))]) : OLL)) (S_app s1.1 [((s.take (s1.2.2.toNat)).drop (s1.2.1.toNat))]))
   ·refine Imp.idxS rfl (fun b2 _ => ?_)
    refine ibr ?_ ?_
    ·refine Imp.chk rfl (fun _ => ?_)
     refine Imp.chk (c2 (fun z0 z1 : Nat => (z0 + 1) * 16 <= 140737488355328 /\ z1 + 1 <= 140737488355328) (S_len s1.1) (S_len s1.1)) (fun _ => ?_)
     exact Imp.ret (c1 (fun (h1 : List V) => (some (Sum.inl [.s s, .i xby, .l h1, .i (IntKind.wrap .i64 (s1.2.2 + 1)), .i (IntKind.wrap .i64 (s1.2.2 + 1))]) : OLL)) (S_app s1.1 [((s.take (s1.2.2.toNat)).drop (s1.2.1.toNat))]))
    ·exact irr
  ·exact irr
 ·exact irr
def sFormatInt (n : Int) : Option (LU) :=
 br (n == 0) (
 some [48]
 ) (
 (whileE (fun (s1 : (LU) × Int) => (
 br (s1.2 != 0) (
 br (decide (Int.tmod s1.2 10 < 0)) (
 chk ((strI [(IntKind.wrap .u8 (IntKind.wrap .i64 (48 + (IntKind.wrap .i64 (0 - (Int.tmod s1.2 10))))))]).length + s1.1.length <= 9223372036854775807) <|
 some (.inl (((strI [(IntKind.wrap .u8 (IntKind.wrap .i64 (48 + (IntKind.wrap .i64 (0 - (Int.tmod s1.2 10))))))]) ++ s1.1), (IntKind.wrap .i64 (Int.tdiv s1.2 10))))
 ) (
 chk ((strI [(IntKind.wrap .u8 (IntKind.wrap .i64 (48 + (Int.tmod s1.2 10))))]).length + s1.1.length <= 9223372036854775807) <|
 some (.inl (((strI [(IntKind.wrap .u8 (IntKind.wrap .i64 (48 + (Int.tmod s1.2 10))))]) ++ s1.1), (IntKind.wrap .i64 (Int.tdiv s1.2 10))))
 )
 ) (
 some (.inr s1.1)
 )
 : Option (((LU) × Int) ⊕ (LU)))) (([], n) : (LU) × Int)).bind <|
 fun (r4 : LU) =>
 br (decide (n < 0)) (
 chk (1 + r4.length <= 9223372036854775807) <|
 some ([45] ++ r4)
 ) (
 some r4
 )
 )
theorem ei_sFormatInt (n : Int) (k : LU -> Option M) : Imp (F172 M n k) (sFormatInt n) k := by
 delta F172 P172 sFormatInt
 refine ibr ?_ ?_
 ·exact irr
 ·refine Imp.while (enc := fun (s1 : (LU) × Int) => [.i n, .s s1.1, .i s1.2]) (encR := fun (u : LU) => (((0, [.i n, .s u]) : Nat × List Leaf))) rfl (fun s1 => ?_) (fun r4 => ?_)
  ·refine ibr ?_ ?_
   ·refine ibr ?_ ?_
    ·refine Imp.strO (l := [(IntKind.wrap .u8 (IntKind.wrap .i64 (48 + (IntKind.wrap .i64 (0 - (Int.tmod s1.2 10))))))]) rfl ?_
     refine Imp.chk rfl (fun _ => ?_)
     exact irr
    ·refine Imp.strO (l := [(IntKind.wrap .u8 (IntKind.wrap .i64 (48 + (Int.tmod s1.2 10))))]) rfl ?_
     refine Imp.chk rfl (fun _ => ?_)
     exact irr
   ·exact irr
  ·refine ibr ?_ ?_
   ·refine Imp.chk rfl (fun _ => ?_)
    exact irr
   ·exact irr
def sParseInt (s : LU) : Option (Int × Bool) :=
 (sl1In (s.length : Int) 1 13).bind fun (r1 : Bool) =>
 br (!r1) (
 some (0, false)
 ) (
 (forE s (fun (i_2 : Nat) (x_2 : UInt8) (s2 : Int) => (
 (sl1In (IntKind.wrap .i64 (x_2.toNat : Int)) 48 57).bind fun (r4 : Bool) =>
 br (!r4) (
 some (.inr (.inl s2))
 ) (
 some (.inl (IntKind.wrap .i64 ((IntKind.wrap .i64 (10 * s2)) + (IntKind.wrap .i64 (IntKind.wrap .u8 ((x_2.toNat : Int) - 48))))))
 )
 : Option (Int ⊕ (Int ⊕ Int)))) (fun (s2 : Int) => (.inr s2 : Int ⊕ Int)) (0 : Int)).bind <|
 Sum.elim
 (fun (r6 : Int) =>
 some (0, false)
 )
 (fun (r6 : Int) =>
 br (decide (r6 > 1000000000000)) (
 some (0, false)
 ) (
 (sFormatInt r6).bind fun (r7 : LU) =>
 br (!(r7 == s)) (
 some (0, false)
 ) (
 some (r6, true)
 )
 )
 )
 )
theorem ei_sParseInt (s : LU) (k : Int -> Bool -> Option M) : Imp (F133 M s k) (sParseInt s) (fun r => k r.1 r.2) := by
 delta F133 P133 sParseInt
 refine Imp.call rfl (ei_sl1In (s.length : Int) 1 13 _) (fun r1 _ => ?_)
 refine ibr ?_ ?_
 ·exact irr
 ·refine Imp.for (enc := fun (i_2 : Nat) (s2 : Int) => [.s s, .i s2, .i (i_2 : Int)]) (encR := Sum.elim (fun (u : Int) => (((0, [.s s, .i 0, .b false, .i u]) : Nat × List Leaf))) (fun (u : Int) => (((1, [.s s, .i u]) : Nat × List Leaf)))) rfl (fun i_2 x_2 s2 hx2 hl2 hm2 => Imp.brT (Int.ofNat_lt.2 hl2) ?_) (fun s2 => brN (Int.lt_irrefl _) rfl) (fun r6 => ?_)
  ·refine Imp.idxSFor hx2 ?_
   refine Imp.call rfl (ei_sl1In (IntKind.wrap .i64 (x_2.toNat : Int)) 48 57 _) (fun r4 _ => ?_)
   refine ibr ?_ ?_
   ·exact irr
   ·refine Imp.idxSFor hx2 ?_
    exact Imp.ret (c1 (fun (h1 : Int) => (some (Sum.inl [.s s, .i (IntKind.wrap .i64 ((IntKind.wrap .i64 (10 * s2)) + (IntKind.wrap .i64 (IntKind.wrap .u8 ((x_2.toNat : Int) - 48))))), .i h1]) : OLL)) (wrapJ hl2))
  ·cases r6 with
   | inl r6 =>
    refine if0 ?_
    exact irr
   | inr r6 =>
    refine if1 ?_
    refine ibr ?_ ?_
    ·exact irr
    ·refine Imp.call rfl (ei_sFormatInt r6 _) (fun r7 _ => ?_)
     refine ibr ?_ ?_
     ·exact irr
     ·exact irr
def sParseSheet (s : LU) : Option TSheet :=
 (sl5Split s 59).bind fun (r1 : List (LU)) =>
 (forE r1 (fun (i_2 : Nat) (x_2 : LU) (s2 : List TRule) => (
 br (decide ((s2.length : Int) < 8)) (
 (sl5Split x_2 58).bind fun (r4 : List (LU)) =>
 br ((r4.length : Int) != 2) (
 some (.inl s2)
 ) (
 chk (0 <= (0 : Int) /\ 0 < r4.length) <|
 (getI r4 (0 : Int)).bind fun (e5 : LU) =>
 (sIsName e5).bind fun (r6 : Bool) =>
 br (!r6) (
 some (.inl s2)
 ) (
 chk (0 <= (1 : Int) /\ 1 < r4.length) <|
 (getI r4 (1 : Int)).bind fun (e7 : LU) =>
 (sParseInt e7).bind fun (r8 : Int × Bool) =>
 br r8.2 (
 (sl1In r8.1 1 999).bind fun (r10 : Bool) =>
 br r10 (
 chk (0 <= (0 : Int) /\ 0 < r4.length) <|
 (getI r4 (0 : Int)).bind fun (e11 : LU) =>
 chk ((s2.length + 1) * 24 <= 140737488355328 /\ s2.length + 1 <= 140737488355328) <|
 some (.inl (s2 ++ [(⟨e11, r8.1⟩ : TRule)]))
 ) (
 some (.inl s2)
 )
 ) (
 some (.inl s2)
 )
 )
 )
 ) (
 some (.inr s2)
 )
 : Option ((List TRule) ⊕ (List TRule)))) (fun (s2 : List TRule) => (s2 : List TRule)) ([] : List TRule)).bind <|
 fun (r12 : List TRule) =>
 some (⟨r12⟩ : TSheet)
theorem ei_sParseSheet (s : LU) (k : List V -> Option M) : Imp (F78 M s k) (sParseSheet s) (fun r => k (RRule r.xRules)) := by
 delta F78 P78 sParseSheet
 refine Imp.call rfl (ei_sl5Split s 59 _) (fun r1 _ => ?_)
 refine Imp.for (enc := fun (i_2 : Nat) (s2 : List TRule) => [.l (rStr r1), .i (i_2 : Int), .l (RRule s2)]) (encR := fun (u : List TRule) => (((0, [.l (RRule u)]) : Nat × List Leaf))) rfl (fun i_2 x_2 s2 hx2 hl2 hm2 => Imp.brT (S_lt hl2) ?_) (fun s2 => brN (S_irr r1) rfl) (fun r12 => ?_)
 ·refine Imp.br (c1 (fun z0 : Nat => (decide ((z0 : Int) < 8))) (T_len (g := TRule.row) s2)) ?_ ?_
  ·refine Imp.chkE ⟨Int.natCast_nonneg _, Nat.lt_of_lt_of_eq hl2 (S_len r1).symm⟩ ?_
   refine Imp.idxAtFor1 (kd := .str) (g1 := fun e => e) hx2 rfl ?_
   refine Imp.call rfl (ei_sl5Split x_2 58 _) (fun r4 _ => ?_)
   refine Imp.br (c1 (fun z0 : Nat => ((z0 : Int) != 2)) (S_len r4)) ?_ ?_
   ·exact Imp.ret (c1 (fun (h1 : Int) => (some (Sum.inl [.l (rStr r1), .i h1, .l (RRule s2)]) : OLL)) (wrapJ hl2))
   ·refine Imp.chk (c1 (fun z0 : Nat => 0 <= (0 : Int) /\ 0 < z0) (S_len r4)) (fun _ => ?_)
    refine Imp.idxAt1 (kd := .str) (g1 := fun e => e) rfl rfl (fun e5 => rfl) (fun e5 _ => ?_)
    refine Imp.call rfl (ei_sIsName e5 _) (fun r6 _ => ?_)
    refine ibr ?_ ?_
    ·exact Imp.ret (c1 (fun (h1 : Int) => (some (Sum.inl [.l (rStr r1), .i h1, .l (RRule s2)]) : OLL)) (wrapJ hl2))
    ·refine Imp.chk (c1 (fun z0 : Nat => 0 <= (1 : Int) /\ 1 < z0) (S_len r4)) (fun _ => ?_)
     refine Imp.idxAt1 (kd := .str) (g1 := fun e => e) rfl rfl (fun e7 => rfl) (fun e7 _ => ?_)
     refine Imp.call rfl (ei_sParseInt e7 _) (fun r8 _ => ?_)
     refine ibr ?_ ?_
     ·refine Imp.call rfl (ei_sl1In r8.1 1 999 _) (fun r10 _ => ?_)
      refine ibr ?_ ?_
      ·refine Imp.chk (c1 (fun z0 : Nat => 0 <= (0 : Int) /\ 0 < z0) (S_len r4)) (fun _ => ?_)
       refine Imp.idxAt1 (kd := .str) (g1 := fun e => e) rfl rfl (fun e11 => rfl) (fun e11 _ => ?_)
       refine Imp.chk (c2 (fun z0 z1 : Nat => (z0 + 1) * 24 <= 140737488355328 /\ z1 + 1 <= 140737488355328) (T_len (g := TRule.row) s2) (T_len (g := TRule.row) s2)) (fun _ => ?_)
       exact Imp.ret (c2 (fun (h1 : Int) (h2 : List V) => (some (Sum.inl [.l (rStr r1), .i h1, .l h2]) : OLL)) (wrapJ hl2) (T_app (g := TRule.row) s2 [(⟨e11, r8.1⟩ : TRule)]))
      ·exact Imp.ret (c1 (fun (h1 : Int) => (some (Sum.inl [.l (rStr r1), .i h1, .l (RRule s2)]) : OLL)) (wrapJ hl2))
     ·exact Imp.ret (c1 (fun (h1 : Int) => (some (Sum.inl [.l (rStr r1), .i h1, .l (RRule s2)]) : OLL)) (wrapJ hl2))
  ·exact irr
 ·exact irr
def sSheetsOf (p : TPage) : Option (List TSheet) :=
 (forE p.xSlots (fun (i_1 : Nat) (x_1 : TSlot) (s1 : List TSheet) => (
 br (x_1.xMode == 2) (
 br x_1.xDone (
 br (x_1.xCode == 1) (
 (sParseSheet x_1.xBody).bind fun (r3 : TSheet) =>
 chk ((s1.length + 1) * 24 <= 140737488355328 /\ s1.length + 1 <= 140737488355328) <|
 some (.inl (s1 ++ [r3]))
 ) (
 some (.inl s1)
 )
 ) (
 some (.inl s1)
 )
 ) (
 some (.inl s1)
 )
 : Option ((List TSheet) ⊕ (List TSheet)))) (fun (s1 : List TSheet) => (s1 : List TSheet)) ([] : List TSheet)).bind <|
 fun (r4 : List TSheet) =>
 some r4
theorem ei_sSheetsOf (p : TPage) (k : List V -> Option M) : Imp (F41 M p.xAddr.xHost p.xAddr.xPath p.xPolicy.xSet (rStr p.xPolicy.xScripts) (rStr p.xPolicy.xStyles) (rStr p.xPolicy.xImages) p.xPolicy.xNonce p.xTok.xRest (RToken p.xQueue) p.xEnded (RNode p.xBuilder.xNodes) (rInt p.xBuilder.xOpen) (RSlot p.xSlots) (RModule p.xMods) (RAddr p.xEntries) p.xBlock p.xInline p.xDeferred p.xEntered (RAddr p.xRan) (rStr p.xLog) p.xLoaded k) (sSheetsOf p) (fun r => k (RSheet r)) := by
 delta F41 P41 sSheetsOf
 refine Imp.for (enc := fun (i_1 : Nat) (s1 : List TSheet) => (.l (RSheet s1) :: .i (i_1 : Int) :: tl0 p)) (encR := fun (u : List TSheet) => (((0, [.l (RSheet u)]) : Nat × List Leaf))) rfl (fun i_1 x_1 s1 hx1 hl1 hm1 => Imp.brT (T_lt (g := TSlot.row) hl1) ?_) (fun s1 => brN (T_irr (g := TSlot.row) p.xSlots) rfl) (fun r4 => ?_)
 ·refine Imp.idxFor (g := TSlot.row) hx1 ?_
  refine ibr ?_ ?_
  ·refine ibr ?_ ?_
   ·refine ibr ?_ ?_
    ·refine Imp.call rfl (ei_sParseSheet x_1.xBody _) (fun r3 _ => ?_)
     refine Imp.chk (c2 (fun z0 z1 : Nat => (z0 + 1) * 24 <= 140737488355328 /\ z1 + 1 <= 140737488355328) (T_len (g := TSheet.row) s1) (T_len (g := TSheet.row) s1)) (fun _ => ?_)
     exact Imp.ret (c2 (fun (h1 : List V) (h2 : Int) => (some (Sum.inl (.l h1 :: .i h2 :: tl0 p)) : OLL)) (T_app (g := TSheet.row) s1 [r3]) (wrapJ hl1))
    ·exact Imp.ret (c1 (fun (h1 : Int) => (some (Sum.inl (.l (RSheet s1) :: .i h1 :: tl0 p)) : OLL)) (wrapJ hl1))
   ·exact Imp.ret (c1 (fun (h1 : Int) => (some (Sum.inl (.l (RSheet s1) :: .i h1 :: tl0 p)) : OLL)) (wrapJ hl1))
  ·exact Imp.ret (c1 (fun (h1 : Int) => (some (Sum.inl (.l (RSheet s1) :: .i h1 :: tl0 p)) : OLL)) (wrapJ hl1))
 ·exact irr
def sColorOf (l : List TSheet) (name : LU) : Option Int :=
 (whileE (fun (s1 : Int) => (
 br (decide (s1 >= 0)) (
 (getI l s1).bind fun (e2 : TSheet) =>
 (whileE (fun (s3 : Int) => (
 br (decide (s3 >= 0)) (
 (getI l s1).bind fun (e4 : TSheet) =>
 (getI e4.xRules s3).bind fun (e5 : TRule) =>
 br (e5.xName == name) (
 (getI l s1).bind fun (e6 : TSheet) =>
 (getI e6.xRules s3).bind fun (e7 : TRule) =>
 some (.inr (.inl e7.xColor))
 ) (
 some (.inl (IntKind.wrap .i64 (s3 - 1)))
 )
 ) (
 some (.inr (.inr ()))
 )
 : Option (Int ⊕ (Int ⊕ Unit)))) ((IntKind.wrap .i64 ((e2.xRules.length : Int) - 1)) : Int)).bind <|
 Sum.elim
 (fun (r8 : Int) =>
 some (.inr (.inl r8))
 )
 (fun (r8 : Unit) =>
 some (.inl (IntKind.wrap .i64 (s1 - 1)))
 )
 ) (
 some (.inr (.inr ()))
 )
 : Option (Int ⊕ (Int ⊕ Unit)))) ((IntKind.wrap .i64 ((l.length : Int) - 1)) : Int)).bind <|
 Sum.elim
 (fun (r9 : Int) =>
 some r9
 )
 (fun (r9 : Unit) =>
 some 0
 )
theorem ei_sColorOf (l : List TSheet) (name : LU) (k : Int -> Option M) : Imp (F77 M (RSheet l) name k) (sColorOf l name) k := by
 delta F77 P77 sColorOf
 refine Imp.while (enc := fun (s1 : Int) => [.l (RSheet l), .s name, .i s1]) (encR := Sum.elim (fun (u : Int) => (((0, [.i u]) : Nat × List Leaf))) (fun (u : Unit) => (((1, []) : Nat × List Leaf)))) (c1 (fun (h1 : Int) => ([.l (RSheet l), .s name, .i h1] : List Leaf)) (c1 (fun z0 : Nat => (IntKind.wrap .i64 ((z0 : Int) - 1))) (T_len (g := TSheet.row) l))) (fun s1 => ?_) (fun r9 => ?_)
 ·refine ibr ?_ ?_
  ·refine Imp.idx (g := TSheet.row) rfl rfl (fun e2 _ => ?_)
   refine Imp.while (enc := fun (s3 : Int) => [.l (RSheet l), .s name, .i s1, .i s3]) (encR := Sum.elim (fun (u : Int) => (((0, [.l (RSheet l), .s name, .i u, .i s1]) : Nat × List Leaf))) (fun (u : Unit) => (((1, [.l (RSheet l), .s name, .i s1]) : Nat × List Leaf)))) (c1 (fun (h1 : Int) => ([.l (RSheet l), .s name, .i s1, .i h1] : List Leaf)) (c1 (fun z0 : Nat => (IntKind.wrap .i64 ((z0 : Int) - 1))) (T_len (g := TRule.row) e2.xRules))) (fun s3 => ?_) (fun r8 => ?_)
   ·refine ibr ?_ ?_
    ·refine Imp.idx (g := TSheet.row) rfl rfl (fun e4 _ => ?_)
     refine Imp.idx (g := TRule.row) rfl rfl (fun e5 _ => ?_)
     refine ibr ?_ ?_
     ·refine Imp.idx (g := TSheet.row) rfl rfl (fun e6 _ => ?_)
      refine Imp.idx (g := TRule.row) rfl rfl (fun e7 _ => ?_)
      exact irr
     ·exact irr
    ·exact irr
   ·cases r8 with
    | inl r8 =>
     refine if0 ?_
     exact irr
    | inr r8 =>
     refine if1 ?_
     exact irr
  ·exact irr
 ·cases r9 with
  | inl r9 =>
   refine if0 ?_
   exact irr
  | inr r9 =>
   refine if1 ?_
   exact irr
def sJoinSheets (l : List TSheet) : Option TSheet :=
 (forE l (fun (i_1 : Nat) (x_1 : TSheet) (s1 : List TRule) => (
  (whileE (fun (s2 : Int × (List TRule)) => (
   br (decide (s2.1 < (x_1.xRules.length : Int))) (
    (getI x_1.xRules s2.1).bind fun (e5 : TRule) =>
    (whileE (fun (s6 : Int) => (
     br (decide (s6 > 0)) (
      chk (0 <= IntKind.wrap .i64 (s6 - 1) /\ (IntKind.wrap .i64 (s6 - 1)).toNat < s2.2.length) <|
      (getI s2.2 (IntKind.wrap .i64 (s6 - 1))).bind fun (e7 : TRule) =>
      br (less e5.xName e7.xName) (
       some (.inl (IntKind.wrap .i64 (s6 - 1)))
      ) (
       some (.inr s6)
      )
     ) (
      some (.inr s6)
     )
    : Option (Int ⊕ Int))) ((s2.2.length : Int) : Int)).bind <|
    fun (r8 : Int) =>
    br (decide (r8 > 0)) (
     chk (0 <= IntKind.wrap .i64 (r8 - 1) /\ (IntKind.wrap .i64 (r8 - 1)).toNat < s2.2.length) <|
     (getI s2.2 (IntKind.wrap .i64 (r8 - 1))).bind fun (e9 : TRule) =>
     br (e9.xName == e5.xName) (
      some (.inl ((IntKind.wrap .i64 (s2.1 + 1)), s2.2))
     ) (
      chk (0 <= (0 : Int) /\ (0 : Int) <= r8 /\ r8 <= (s2.2.length : Int)) <|
      chk ((0 + ((s2.2.take (r8.toNat)).drop 0).length) * 24 <= 140737488355328 /\ 0 + ((s2.2.take (r8.toNat)).drop 0).length <= 140737488355328) <|
      (sColorOf l e5.xName).bind fun (r10 : Int) =>
      chk ((([] ++ ((s2.2.take (r8.toNat)).drop 0)).length + 1) * 24 <= 140737488355328 /\ ([] ++ ((s2.2.take (r8.toNat)).drop 0)).length + 1 <= 140737488355328) <|
      chk (0 <= r8 /\ r8 <= (s2.2.length : Int) /\ (s2.2.length : Int) <= (s2.2.length : Int)) <|
      chk (((([] ++ ((s2.2.take (r8.toNat)).drop 0)) ++ [{ e5 with xColor := r10 }]).length + ((s2.2.take ((s2.2.length : Int).toNat)).drop (r8.toNat)).length) * 24 <= 140737488355328 /\ (([] ++ ((s2.2.take (r8.toNat)).drop 0)) ++ [{ e5 with xColor := r10 }]).length + ((s2.2.take ((s2.2.length : Int).toNat)).drop (r8.toNat)).length <= 140737488355328) <|
      some (.inl ((IntKind.wrap .i64 (s2.1 + 1)), ((([] ++ ((s2.2.take (r8.toNat)).drop 0)) ++ [{ e5 with xColor := r10 }]) ++ ((s2.2.take ((s2.2.length : Int).toNat)).drop (r8.toNat)))))
     )
    ) (
     chk (0 <= (0 : Int) /\ (0 : Int) <= r8 /\ r8 <= (s2.2.length : Int)) <|
     chk ((0 + ((s2.2.take (r8.toNat)).drop 0).length) * 24 <= 140737488355328 /\ 0 + ((s2.2.take (r8.toNat)).drop 0).length <= 140737488355328) <|
     (sColorOf l e5.xName).bind fun (r11 : Int) =>
     chk ((([] ++ ((s2.2.take (r8.toNat)).drop 0)).length + 1) * 24 <= 140737488355328 /\ ([] ++ ((s2.2.take (r8.toNat)).drop 0)).length + 1 <= 140737488355328) <|
     chk (0 <= r8 /\ r8 <= (s2.2.length : Int) /\ (s2.2.length : Int) <= (s2.2.length : Int)) <|
     chk (((([] ++ ((s2.2.take (r8.toNat)).drop 0)) ++ [{ e5 with xColor := r11 }]).length + ((s2.2.take ((s2.2.length : Int).toNat)).drop (r8.toNat)).length) * 24 <= 140737488355328 /\ (([] ++ ((s2.2.take (r8.toNat)).drop 0)) ++ [{ e5 with xColor := r11 }]).length + ((s2.2.take ((s2.2.length : Int).toNat)).drop (r8.toNat)).length <= 140737488355328) <|
     some (.inl ((IntKind.wrap .i64 (s2.1 + 1)), ((([] ++ ((s2.2.take (r8.toNat)).drop 0)) ++ [{ e5 with xColor := r11 }]) ++ ((s2.2.take ((s2.2.length : Int).toNat)).drop (r8.toNat)))))
    )
   ) (
    some (.inr s2.2)
   )
  : Option ((Int × (List TRule)) ⊕ (List TRule)))) ((0, s1) : Int × (List TRule))).bind <|
  fun (r12 : List TRule) =>
  some (.inl r12)
 : Option ((List TRule) ⊕ (List TRule)))) (fun (s1 : List TRule) => (s1 : List TRule)) ([] : List TRule)).bind <|
 fun (r13 : List TRule) =>
 some (⟨r13⟩ : TSheet)
theorem ei_sJoinSheets (l : List TSheet) (k : List V -> Option M) : Imp (F40 M (RSheet l) k) (sJoinSheets l) (fun r => k (RRule r.xRules)) := by
 delta F40 P40 sJoinSheets
 refine Imp.for (enc := fun (i_1 : Nat) (s1 : List TRule) => [.l (RSheet l), .i (i_1 : Int), .l (rStr []), .l (RRule s1)]) (encR := fun (u : List TRule) => (((0, [.l (rStr []), .l (RRule u)]) : Nat × List Leaf))) rfl (fun i_1 x_1 s1 hx1 hl1 hm1 => Imp.brT (T_lt (g := TSheet.row) hl1) ?_) (fun s1 => brN (T_irr (g := TSheet.row) l) rfl) (fun r13 => ?_)
 ·refine Imp.while (enc := fun (s2 : Int × (List TRule)) => [.l (RSheet l), .i (i_1 : Int), .i s2.1, .l (rStr []), .l (RRule s2.2)]) (encR := fun (u : List TRule) => (((0, [.l (RSheet l), .i (i_1 : Int), .l (rStr []), .l (RRule u)]) : Nat × List Leaf))) rfl (fun s2 => ?_) (fun r12 => ?_)
  ·refine Imp.idxFor (g := TSheet.row) hx1 ?_
   refine Imp.br (c1 (fun z0 : Nat => (decide (s2.1 < (z0 : Int)))) (T_len (g := TRule.row) x_1.xRules)) ?_ ?_
   ·refine Imp.idxFor (g := TSheet.row) hx1 ?_
    refine Imp.idx (g := TRule.row) rfl rfl (fun e5 _ => ?_)
    refine Imp.while (enc := fun (s6 : Int) => [.l (RSheet l), .i (i_1 : Int), .i s2.1, .s e5.xName, .i s6, .l (rStr []), .l (RRule s2.2)]) (encR := fun (u : Int) => (((0, [.l (RSheet l), .i (i_1 : Int), .i s2.1, .s e5.xName, .i u, .l (rStr []), .l (RRule s2.2)]) : Nat × List Leaf))) (c1 (fun (h1 : Int) => ([.l (RSheet l), .i (i_1 : Int), .i s2.1, .s e5.xName, .i h1, .l (rStr []), .l (RRule s2.2)] : List Leaf)) (c1 (fun z0 : Nat => (z0 : Int)) (T_len (g := TRule.row) s2.2))) (fun s6 => ?_) (fun r8 => ?_)
    ·refine ibr ?_ ?_
     ·refine Imp.chk (c1 (fun z0 : Nat => 0 <= IntKind.wrap .i64 (s6 - 1) /\ (IntKind.wrap .i64 (s6 - 1)).toNat < z0) (T_len (g := TRule.row) s2.2)) (fun _ => ?_)
      refine Imp.idxAt (g := TRule.row) rfl rfl (fun e7 => rfl) (fun e7 _ => ?_)
      refine ibr ?_ ?_
      ·exact irr
      ·exact irr
     ·exact irr
    ·refine ibr ?_ ?_
     ·refine Imp.chk (c1 (fun z0 : Nat => 0 <= IntKind.wrap .i64 (r8 - 1) /\ (IntKind.wrap .i64 (r8 - 1)).toNat < z0) (T_len (g := TRule.row) s2.2)) (fun _ => ?_)
      refine Imp.idxAt (g := TRule.row) rfl rfl (fun e9 => rfl) (fun e9 _ => ?_)
      refine ibr ?_ ?_
      ·exact irr
      ·refine Imp.chk (c1 (fun z0 : Nat => 0 <= (0 : Int) /\ (0 : Int) <= r8 /\ r8 <= (z0 : Int)) (T_len (g := TRule.row) s2.2)) (fun _ => ?_)
       refine Imp.chk (c2 (fun z0 z1 : Nat => (0 + z0) * 24 <= 140737488355328 /\ 0 + z1 <= 140737488355328) ((c1 (fun u : List V => u.length) (T_cut (g := TRule.row) s2.2 (r8.toNat) 0)).trans (T_len (g := TRule.row) ((s2.2.take (r8.toNat)).drop 0))) ((c1 (fun u : List V => u.length) (T_cut (g := TRule.row) s2.2 (r8.toNat) 0)).trans (T_len (g := TRule.row) ((s2.2.take (r8.toNat)).drop 0)))) (fun _ => ?_)
       refine Imp.call rfl (ei_sColorOf l e5.xName _) (fun r10 _ => ?_)
       refine Imp.chk (c2 (fun z0 z1 : Nat => (z0 + 1) * 24 <= 140737488355328 /\ z1 + 1 <= 140737488355328) ((c1 (fun u : List V => u.length) ((c2 (fun u v : List V => u ++ v) rfl (T_cut (g := TRule.row) s2.2 (r8.toNat) 0)).trans (T_app (g := TRule.row) [] ((s2.2.take (r8.toNat)).drop 0)))).trans (T_len (g := TRule.row) ([] ++ ((s2.2.take (r8.toNat)).drop 0)))) ((c1 (fun u : List V => u.length) ((c2 (fun u v : List V => u ++ v) rfl (T_cut (g := TRule.row) s2.2 (r8.toNat) 0)).trans (T_app (g := TRule.row) [] ((s2.2.take (r8.toNat)).drop 0)))).trans (T_len (g := TRule.row) ([] ++ ((s2.2.take (r8.toNat)).drop 0))))) (fun _ => ?_)
       refine Imp.chk (c3 (fun z0 z1 z2 : Nat => 0 <= r8 /\ r8 <= (z0 : Int) /\ (z1 : Int) <= (z2 : Int)) (T_len (g := TRule.row) s2.2) (T_len (g := TRule.row) s2.2) (T_len (g := TRule.row) s2.2)) (fun _ => ?_)
       refine Imp.chk (c4 (fun z0 z1 z2 z3 : Nat => (z0 + z1) * 24 <= 140737488355328 /\ z2 + z3 <= 140737488355328) ((c1 (fun u : List V => u.length) ((c2 (fun u v : List V => u ++ v) ((c2 (fun u v : List V => u ++ v) rfl (T_cut (g := TRule.row) s2.2 (r8.toNat) 0)).trans (T_app (g := TRule.row) [] ((s2.2.take (r8.toNat)).drop 0))) rfl).trans (T_app (g := TRule.row) ([] ++ ((s2.2.take (r8.toNat)).drop 0)) [{ e5 with xColor := r10 }]))).trans (T_len (g := TRule.row) (([] ++ ((s2.2.take (r8.toNat)).drop 0)) ++ [{ e5 with xColor := r10 }]))) ((c1 (fun u : List V => u.length) ((c3 (fun (u : List V) (a b : Nat) => (u.take a).drop b) rfl (c1 (fun z0 : Nat => ((z0 : Int).toNat)) (T_len (g := TRule.row) s2.2)) rfl).trans (T_cut (g := TRule.row) s2.2 ((s2.2.length : Int).toNat) (r8.toNat)))).trans (T_len (g := TRule.row) ((s2.2.take ((s2.2.length : Int).toNat)).drop (r8.toNat)))) ((c1 (fun u : List V => u.length) ((c2 (fun u v : List V => u ++ v) ((c2 (fun u v : List V => u ++ v) rfl (T_cut (g := TRule.row) s2.2 (r8.toNat) 0)).trans (T_app (g := TRule.row) [] ((s2.2.take (r8.toNat)).drop 0))) rfl).trans (T_app (g := TRule.row) ([] ++ ((s2.2.take (r8.toNat)).drop 0)) [{ e5 with xColor := r10 }]))).trans (T_len (g := TRule.row) (([] ++ ((s2.2.take (r8.toNat)).drop 0)) ++ [{ e5 with xColor := r10 }]))) ((c1 (fun u : List V => u.length) ((c3 (fun (u : List V) (a b : Nat) => (u.take a).drop b) rfl (c1 (fun z0 : Nat => ((z0 : Int).toNat)) (T_len (g := TRule.row) s2.2)) rfl).trans (T_cut (g := TRule.row) s2.2 ((s2.2.length : Int).toNat) (r8.toNat)))).trans (T_len (g := TRule.row) ((s2.2.take ((s2.2.length : Int).toNat)).drop (r8.toNat))))) (fun _ => ?_)
       exact Imp.ret (c1 (fun (h1 : List V) => (some (Sum.inl [.l (RSheet l), .i (i_1 : Int), .i (IntKind.wrap .i64 (s2.1 + 1)), .l (rStr []), .l h1]) : OLL)) ((c2 (fun u v : List V => u ++ v) ((c2 (fun u v : List V => u ++ v) ((c2 (fun u v : List V => u ++ v) rfl (T_cut (g := TRule.row) s2.2 (r8.toNat) 0)).trans (T_app (g := TRule.row) [] ((s2.2.take (r8.toNat)).drop 0))) rfl).trans (T_app (g := TRule.row) ([] ++ ((s2.2.take (r8.toNat)).drop 0)) [{ e5 with xColor := r10 }])) ((c3 (fun (u : List V) (a b : Nat) => (u.take a).drop b) rfl (c1 (fun z0 : Nat => ((z0 : Int).toNat)) (T_len (g := TRule.row) s2.2)) rfl).trans (T_cut (g := TRule.row) s2.2 ((s2.2.length : Int).toNat) (r8.toNat)))).trans (T_app (g := TRule.row) (([] ++ ((s2.2.take (r8.toNat)).drop 0)) ++ [{ e5 with xColor := r10 }]) ((s2.2.take ((s2.2.length : Int).toNat)).drop (r8.toNat)))))
     ·refine Imp.chk (c1 (fun z0 : Nat => 0 <= (0 : Int) /\ (0 : Int) <= r8 /\ r8 <= (z0 : Int)) (T_len (g := TRule.row) s2.2)) (fun _ => ?_)
      refine Imp.chk (c2 (fun z0 z1 : Nat => (0 + z0) * 24 <= 140737488355328 /\ 0 + z1 <= 140737488355328) ((c1 (fun u : List V => u.length) (T_cut (g := TRule.row) s2.2 (r8.toNat) 0)).trans (T_len (g := TRule.row) ((s2.2.take (r8.toNat)).drop 0))) ((c1 (fun u : List V => u.length) (T_cut (g := TRule.row) s2.2 (r8.toNat) 0)).trans (T_len (g := TRule.row) ((s2.2.take (r8.toNat)).drop 0)))) (fun _ => ?_)
      refine Imp.call rfl (ei_sColorOf l e5.xName _) (fun r11 _ => ?_)
      refine Imp.chk (c2 (fun z0 z1 : Nat => (z0 + 1) * 24 <= 140737488355328 /\ z1 + 1 <= 140737488355328) ((c1 (fun u : List V => u.length) ((c2 (fun u v : List V => u ++ v) rfl (T_cut (g := TRule.row) s2.2 (r8.toNat) 0)).trans (T_app (g := TRule.row) [] ((s2.2.take (r8.toNat)).drop 0)))).trans (T_len (g := TRule.row) ([] ++ ((s2.2.take (r8.toNat)).drop 0)))) ((c1 (fun u : List V => u.length) ((c2 (fun u v : List V => u ++ v) rfl (T_cut (g := TRule.row) s2.2 (r8.toNat) 0)).trans (T_app (g := TRule.row) [] ((s2.2.take (r8.toNat)).drop 0)))).trans (T_len (g := TRule.row) ([] ++ ((s2.2.take (r8.toNat)).drop 0))))) (fun _ => ?_)
      refine Imp.chk (c3 (fun z0 z1 z2 : Nat => 0 <= r8 /\ r8 <= (z0 : Int) /\ (z1 : Int) <= (z2 : Int)) (T_len (g := TRule.row) s2.2) (T_len (g := TRule.row) s2.2) (T_len (g := TRule.row) s2.2)) (fun _ => ?_)
      refine Imp.chk (c4 (fun z0 z1 z2 z3 : Nat => (z0 + z1) * 24 <= 140737488355328 /\ z2 + z3 <= 140737488355328) ((c1 (fun u : List V => u.length) ((c2 (fun u v : List V => u ++ v) ((c2 (fun u v : List V => u ++ v) rfl (T_cut (g := TRule.row) s2.2 (r8.toNat) 0)).trans (T_app (g := TRule.row) [] ((s2.2.take (r8.toNat)).drop 0))) rfl).trans (T_app (g := TRule.row) ([] ++ ((s2.2.take (r8.toNat)).drop 0)) [{ e5 with xColor := r11 }]))).trans (T_len (g := TRule.row) (([] ++ ((s2.2.take (r8.toNat)).drop 0)) ++ [{ e5 with xColor := r11 }]))) ((c1 (fun u : List V => u.length) ((c3 (fun (u : List V) (a b : Nat) => (u.take a).drop b) rfl (c1 (fun z0 : Nat => ((z0 : Int).toNat)) (T_len (g := TRule.row) s2.2)) rfl).trans (T_cut (g := TRule.row) s2.2 ((s2.2.length : Int).toNat) (r8.toNat)))).trans (T_len (g := TRule.row) ((s2.2.take ((s2.2.length : Int).toNat)).drop (r8.toNat)))) ((c1 (fun u : List V => u.length) ((c2 (fun u v : List V => u ++ v) ((c2 (fun u v : List V => u ++ v) rfl (T_cut (g := TRule.row) s2.2 (r8.toNat) 0)).trans (T_app (g := TRule.row) [] ((s2.2.take (r8.toNat)).drop 0))) rfl).trans (T_app (g := TRule.row) ([] ++ ((s2.2.take (r8.toNat)).drop 0)) [{ e5 with xColor := r11 }]))).trans (T_len (g := TRule.row) (([] ++ ((s2.2.take (r8.toNat)).drop 0)) ++ [{ e5 with xColor := r11 }]))) ((c1 (fun u : List V => u.length) ((c3 (fun (u : List V) (a b : Nat) => (u.take a).drop b) rfl (c1 (fun z0 : Nat => ((z0 : Int).toNat)) (T_len (g := TRule.row) s2.2)) rfl).trans (T_cut (g := TRule.row) s2.2 ((s2.2.length : Int).toNat) (r8.toNat)))).trans (T_len (g := TRule.row) ((s2.2.take ((s2.2.length : Int).toNat)).drop (r8.toNat))))) (fun _ => ?_)
      exact Imp.ret (c1 (fun (h1 : List V) => (some (Sum.inl [.l (RSheet l), .i (i_1 : Int), .i (IntKind.wrap .i64 (s2.1 + 1)), .l (rStr []), .l h1]) : OLL)) ((c2 (fun u v : List V => u ++ v) ((c2 (fun u v : List V => u ++ v) ((c2 (fun u v : List V => u ++ v) rfl (T_cut (g := TRule.row) s2.2 (r8.toNat) 0)).trans (T_app (g := TRule.row) [] ((s2.2.take (r8.toNat)).drop 0))) rfl).trans (T_app (g := TRule.row) ([] ++ ((s2.2.take (r8.toNat)).drop 0)) [{ e5 with xColor := r11 }])) ((c3 (fun (u : List V) (a b : Nat) => (u.take a).drop b) rfl (c1 (fun z0 : Nat => ((z0 : Int).toNat)) (T_len (g := TRule.row) s2.2)) rfl).trans (T_cut (g := TRule.row) s2.2 ((s2.2.length : Int).toNat) (r8.toNat)))).trans (T_app (g := TRule.row) (([] ++ ((s2.2.take (r8.toNat)).drop 0)) ++ [{ e5 with xColor := r11 }]) ((s2.2.take ((s2.2.length : Int).toNat)).drop (r8.toNat)))))
   ·exact irr
  ·exact Imp.ret (c1 (fun (h1 : Int) => (some (Sum.inl [.l (RSheet l), .i h1, .l (rStr []), .l (RRule r12)]) : OLL)) (wrapJ hl1))
 ·exact irr
def sResultOf (p : TPage) : Option TResult :=
 (sl6Copy p.xBuilder).bind fun (r1 : TBuilder) =>
 chk ((0 + p.xLog.length) * 16 <= 140737488355328 /\ 0 + p.xLog.length <= 140737488355328) <|
 (sVerdictsOf p).bind fun (r3 : List (LU)) =>
 (sSheetsOf p).bind fun (r4 : List TSheet) =>
 (sJoinSheets r4).bind fun (r5 : TSheet) =>
 some (⟨r1, ([] ++ p.xLog), r3, r5, p.xLoaded⟩ : TResult)
theorem ei_sResultOf (p : TPage) (k : List V -> List V -> List V -> List V -> List V -> Bool -> Option M) : Imp (F17 M p.xAddr.xHost p.xAddr.xPath p.xPolicy.xSet (rStr p.xPolicy.xScripts) (rStr p.xPolicy.xStyles) (rStr p.xPolicy.xImages) p.xPolicy.xNonce p.xTok.xRest (RToken p.xQueue) p.xEnded (RNode p.xBuilder.xNodes) (rInt p.xBuilder.xOpen) (RSlot p.xSlots) (RModule p.xMods) (RAddr p.xEntries) p.xBlock p.xInline p.xDeferred p.xEntered (RAddr p.xRan) (rStr p.xLog) p.xLoaded k) (sResultOf p) (fun r => k (RNode r.xBuilder.xNodes) (rInt r.xBuilder.xOpen) (rStr r.xLog) (rStr r.xVerdicts) (RRule r.xSheet.xRules) r.xLoaded) := by
 delta F17 P17 sResultOf
 refine Imp.call rfl (ei_sl6Copy p.xBuilder _) (fun r1 _ => ?_)
 refine Imp.chk (c2 (fun z0 z1 : Nat => (0 + z0) * 16 <= 140737488355328 /\ 0 + z1 <= 140737488355328) (S_len p.xLog) (S_len p.xLog)) (fun _ => ?_)
 refine Imp.call rfl (ei_sVerdictsOf p _) (fun r3 _ => ?_)
 refine Imp.call rfl (ei_sSheetsOf p _) (fun r4 _ => ?_)
 refine Imp.call rfl (ei_sJoinSheets r4 _) (fun r5 _ => ?_)
 exact Imp.ret (c1 (fun (h1 : List V) => k (RNode r1.xNodes) (rInt r1.xOpen) h1 (rStr r3) (RRule r5.xRules) p.xLoaded) (S_app [] p.xLog))
def sEqualInts (a : List Int) (b : List Int) : Option Bool :=
 br ((a.length : Int) != (b.length : Int)) (
 some false
 ) (
 (forE a (fun (i_1 : Nat) (x_1 : Int) (s1 : Unit) => (
 (getI b (i_1 : Int)).bind fun (e3 : Int) =>
 br (x_1 != e3) (
 some (.inr (.inl ()))
 ) (
 some (.inl ())
 )
 : OU)) (fun (s1 : Unit) => (.inr () : Unit ⊕ Unit)) (() : Unit)).bind <|
 Sum.elim
 (fun (r4 : Unit) =>
 some false
 )
 (fun (r4 : Unit) =>
 some true
 )
 )
theorem ei_sEqualInts (a : List Int) (b : List Int) (k : Bool -> Option M) : Imp (F72 M (rInt a) (rInt b) k) (sEqualInts a b) k := by
 delta F72 P72 sEqualInts
 refine Imp.br (c2 (fun z0 z1 : Nat => ((z0 : Int) != (z1 : Int))) (U_len (T := Int) (kd := (.int .i64)) (g1 := fun e => e) a) (U_len (T := Int) (kd := (.int .i64)) (g1 := fun e => e) b)) ?_ ?_
 ·exact irr
 ·refine Imp.for (enc := fun (i_1 : Nat) (s1 : Unit) => [.l (rInt a), .l (rInt b), .i (i_1 : Int)]) (encR := Sum.elim (fun (u : Unit) => (((0, [.b false]) : Nat × List Leaf))) (fun (u : Unit) => (((1, []) : Nat × List Leaf)))) rfl (fun i_1 x_1 s1 hx1 hl1 hm1 => Imp.brT (U_lt (T := Int) (kd := (.int .i64)) (g1 := fun e => e) hl1) ?_) (fun s1 => brN (U_irr (T := Int) (kd := (.int .i64)) (g1 := fun e => e) a) rfl) (fun r4 => ?_)
  ·refine Imp.idxFor1 (kd := (.int .i64)) (g1 := fun e => e) hx1 ?_
   refine Imp.idx1 (kd := (.int .i64)) (g1 := fun e => e) rfl rfl (fun e3 _ => ?_)
   refine ibr ?_ ?_
   ·exact irr
   ·exact Imp.ret (c1 (fun (h1 : Int) => (some (Sum.inl [.l (rInt a), .l (rInt b), .i h1]) : OLL)) (wrapJ hl1))
  ·cases r4 with
   | inl r4 =>
    refine if0 ?_
    exact irr
   | inr r4 =>
    refine if1 ?_
    exact irr
def sl6Same (a : TNode) (b : TNode) : Option Bool :=
 br (!(a.xName == b.xName)) (
 some false
 ) (
 br (!(a.xText == b.xText)) (
 some false
 ) (
 br (a.xParent != b.xParent) (
 some false
 ) (
 br ((a.xAttrs.length : Int) != (b.xAttrs.length : Int)) (
 some false
 ) (
 (forE a.xAttrs (fun (i_1 : Nat) (x_1 : TAttr) (s1 : Unit) => (
 (getI b.xAttrs (i_1 : Int)).bind fun (e3 : TAttr) =>
 br (!((x_1.xName == e3.xName) && ((x_1.xValue == e3.xValue) && true))) (
 some (.inr (.inl ()))
 ) (
 some (.inl ())
 )
 : OU)) (fun (s1 : Unit) => (.inr () : Unit ⊕ Unit)) (() : Unit)).bind <|
 Sum.elim
 (fun (r4 : Unit) =>
 some false
 )
 (fun (r4 : Unit) =>
 some true
 )
 )
 )
 )
 )
theorem ei_sl6Same (a : TNode) (b : TNode) (k : Bool -> Option M) : Imp (F73 M a.xName a.xText a.xParent (RAttr a.xAttrs) b.xName b.xText b.xParent (RAttr b.xAttrs) k) (sl6Same a b) k := by
 delta F73 P73 sl6Same
 refine ibr ?_ ?_
 ·exact irr
 ·refine ibr ?_ ?_
  ·exact irr
  ·refine ibr ?_ ?_
   ·exact irr
   ·refine Imp.br (c2 (fun z0 z1 : Nat => ((z0 : Int) != (z1 : Int))) (T_len (g := TAttr.row) a.xAttrs) (T_len (g := TAttr.row) b.xAttrs)) ?_ ?_
    ·exact irr
    ·refine Imp.for (enc := fun (i_1 : Nat) (s1 : Unit) => [.i (i_1 : Int), .s a.xName, .s a.xText, .i a.xParent, .l (RAttr a.xAttrs), .s b.xName, .s b.xText, .i b.xParent, .l (RAttr b.xAttrs)]) (encR := Sum.elim (fun (u : Unit) => (((0, [.b false]) : Nat × List Leaf))) (fun (u : Unit) => (((1, []) : Nat × List Leaf)))) rfl (fun i_1 x_1 s1 hx1 hl1 hm1 => Imp.brT (T_lt (g := TAttr.row) hl1) ?_) (fun s1 => brN (T_irr (g := TAttr.row) a.xAttrs) rfl) (fun r4 => ?_)
     ·refine Imp.idxFor (g := TAttr.row) hx1 ?_
      refine Imp.idx (g := TAttr.row) rfl rfl (fun e3 _ => ?_)
      refine ibr ?_ ?_
      ·exact irr
      ·exact Imp.ret (c1 (fun (h1 : Int) => (some (Sum.inl [.i h1, .s a.xName, .s a.xText, .i a.xParent, .l (RAttr a.xAttrs), .s b.xName, .s b.xText, .i b.xParent, .l (RAttr b.xAttrs)]) : OLL)) (wrapJ hl1))
     ·cases r4 with
      | inl r4 =>
       refine if0 ?_
       exact irr
      | inr r4 =>
       refine if1 ?_
       exact irr
def sEqualBuilders (a : TBuilder) (b : TBuilder) : Option Bool :=
 br ((a.xNodes.length : Int) != (b.xNodes.length : Int)) (
 some false
 ) (
 (sEqualInts a.xOpen b.xOpen).bind fun (r1 : Bool) =>
 br (!r1) (
 some false
 ) (
 (forE a.xNodes (fun (i_2 : Nat) (x_2 : TNode) (s2 : Unit) => (
 (getI b.xNodes (i_2 : Int)).bind fun (e4 : TNode) =>
 (sl6Same x_2 e4).bind fun (r5 : Bool) =>
 br (!r5) (
 some (.inr (.inl ()))
 ) (
 some (.inl ())
 )
 : OU)) (fun (s2 : Unit) => (.inr () : Unit ⊕ Unit)) (() : Unit)).bind <|
 Sum.elim
 (fun (r6 : Unit) =>
 some false
 )
 (fun (r6 : Unit) =>
 some true
 )
 )
 )
theorem ei_sEqualBuilders (a : TBuilder) (b : TBuilder) (k : Bool -> Option M) : Imp (F35 M (RNode a.xNodes) (rInt a.xOpen) (RNode b.xNodes) (rInt b.xOpen) k) (sEqualBuilders a b) k := by
 delta F35 P35 sEqualBuilders
 refine Imp.br (c2 (fun z0 z1 : Nat => ((z0 : Int) != (z1 : Int))) (T_len (g := TNode.row) a.xNodes) (T_len (g := TNode.row) b.xNodes)) ?_ ?_
 ·exact irr
 ·refine Imp.call rfl (ei_sEqualInts a.xOpen b.xOpen _) (fun r1 _ => ?_)
  refine ibr ?_ ?_
  ·exact irr
  ·refine Imp.for (enc := fun (i_2 : Nat) (s2 : Unit) => [.i (i_2 : Int), .l (RNode a.xNodes), .l (rInt a.xOpen), .l (RNode b.xNodes), .l (rInt b.xOpen)]) (encR := Sum.elim (fun (u : Unit) => (((0, [.b false]) : Nat × List Leaf))) (fun (u : Unit) => (((1, []) : Nat × List Leaf)))) rfl (fun i_2 x_2 s2 hx2 hl2 hm2 => Imp.brT (T_lt (g := TNode.row) hl2) ?_) (fun s2 => brN (T_irr (g := TNode.row) a.xNodes) rfl) (fun r6 => ?_)
   ·refine Imp.idxFor (g := TNode.row) hx2 ?_
    refine Imp.idx (g := TNode.row) rfl rfl (fun e4 _ => ?_)
    refine Imp.call rfl (ei_sl6Same x_2 e4 _) (fun r5 _ => ?_)
    refine ibr ?_ ?_
    ·exact irr
    ·exact Imp.ret (c1 (fun (h1 : Int) => (some (Sum.inl [.i h1, .l (RNode a.xNodes), .l (rInt a.xOpen), .l (RNode b.xNodes), .l (rInt b.xOpen)]) : OLL)) (wrapJ hl2))
   ·cases r6 with
    | inl r6 =>
     refine if0 ?_
     exact irr
    | inr r6 =>
     refine if1 ?_
     exact irr
def sl9Same (a : List (LU)) (b : List (LU)) : Option Bool :=
 br ((a.length : Int) != (b.length : Int)) (
 some false
 ) (
 (forE a (fun (i_1 : Nat) (x_1 : LU) (s1 : Unit) => (
 (getI b (i_1 : Int)).bind fun (e3 : LU) =>
 br (!(x_1 == e3)) (
 some (.inr (.inl ()))
 ) (
 some (.inl ())
 )
 : OU)) (fun (s1 : Unit) => (.inr () : Unit ⊕ Unit)) (() : Unit)).bind <|
 Sum.elim
 (fun (r4 : Unit) =>
 some false
 )
 (fun (r4 : Unit) =>
 some true
 )
 )
theorem ei_sl9Same (a : List (LU)) (b : List (LU)) (k : Bool -> Option M) : Imp (F36 M (rStr a) (rStr b) k) (sl9Same a b) k := by
 delta F36 P36 sl9Same
 refine Imp.br (c2 (fun z0 z1 : Nat => ((z0 : Int) != (z1 : Int))) (S_len a) (S_len b)) ?_ ?_
 ·exact irr
 ·refine Imp.for (enc := fun (i_1 : Nat) (s1 : Unit) => [.l (rStr a), .l (rStr b), .i (i_1 : Int)]) (encR := Sum.elim (fun (u : Unit) => (((0, [.b false]) : Nat × List Leaf))) (fun (u : Unit) => (((1, []) : Nat × List Leaf)))) rfl (fun i_1 x_1 s1 hx1 hl1 hm1 => Imp.brT (S_lt hl1) ?_) (fun s1 => brN (S_irr a) rfl) (fun r4 => ?_)
  ·refine Imp.idxFor1 (kd := .str) (g1 := fun e => e) hx1 ?_
   refine Imp.idx1 (kd := .str) (g1 := fun e => e) rfl rfl (fun e3 _ => ?_)
   refine ibr ?_ ?_
   ·exact irr
   ·exact Imp.ret (c1 (fun (h1 : Int) => (some (Sum.inl [.l (rStr a), .l (rStr b), .i h1]) : OLL)) (wrapJ hl1))
  ·cases r4 with
   | inl r4 =>
    refine if0 ?_
    exact irr
   | inr r4 =>
    refine if1 ?_
    exact irr
def sEqualSheets (a : List TSheet) (b : List TSheet) : Option Bool :=
 br ((a.length : Int) != (b.length : Int)) (
 some false
 ) (
 (forE a (fun (i_1 : Nat) (x_1 : TSheet) (s1 : Unit) => (
 (getI b (i_1 : Int)).bind fun (e3 : TSheet) =>
 br ((x_1.xRules.length : Int) != (e3.xRules.length : Int)) (
 some (.inr (.inl ()))
 ) (
 (whileE (fun (s4 : Int) => (
 br (decide (s4 < (x_1.xRules.length : Int))) (
 (getI x_1.xRules s4).bind fun (e7 : TRule) =>
 (getI b (i_1 : Int)).bind fun (e8 : TSheet) =>
 (getI e8.xRules s4).bind fun (e9 : TRule) =>
 br (!((e7.xName == e9.xName) && ((e7.xColor == e9.xColor) && true))) (
 some (.inr (.inl ()))
 ) (
 some (.inl (IntKind.wrap .i64 (s4 + 1)))
 )
 ) (
 some (.inr (.inr ()))
 )
 : Option (Int ⊕ (Unit ⊕ Unit)))) (0 : Int)).bind <|
 Sum.elim
 (fun (r10 : Unit) =>
 some (.inr (.inl ()))
 )
 (fun (r10 : Unit) =>
 some (.inl ())
 )
 )
 : OU)) (fun (s1 : Unit) => (.inr () : Unit ⊕ Unit)) (() : Unit)).bind <|
 Sum.elim
 (fun (r11 : Unit) =>
 some false
 )
 (fun (r11 : Unit) =>
 some true
 )
 )
theorem ei_sEqualSheets (a : List TSheet) (b : List TSheet) (k : Bool -> Option M) : Imp (F37 M (RSheet a) (RSheet b) k) (sEqualSheets a b) k := by
 delta F37 P37 sEqualSheets
 refine Imp.br (c2 (fun z0 z1 : Nat => ((z0 : Int) != (z1 : Int))) (T_len (g := TSheet.row) a) (T_len (g := TSheet.row) b)) ?_ ?_
 ·exact irr
 ·refine Imp.for (enc := fun (i_1 : Nat) (s1 : Unit) => [.l (RSheet a), .l (RSheet b), .i (i_1 : Int)]) (encR := Sum.elim (fun (u : Unit) => (((0, [.b false]) : Nat × List Leaf))) (fun (u : Unit) => (((1, []) : Nat × List Leaf)))) rfl (fun i_1 x_1 s1 hx1 hl1 hm1 => Imp.brT (T_lt (g := TSheet.row) hl1) ?_) (fun s1 => brN (T_irr (g := TSheet.row) a) rfl) (fun r11 => ?_)
  ·refine Imp.idxFor (g := TSheet.row) hx1 ?_
   refine Imp.idx (g := TSheet.row) rfl rfl (fun e3 _ => ?_)
   refine Imp.br (c2 (fun z0 z1 : Nat => ((z0 : Int) != (z1 : Int))) (T_len (g := TRule.row) x_1.xRules) (T_len (g := TRule.row) e3.xRules)) ?_ ?_
   ·exact irr
   ·refine Imp.while (enc := fun (s4 : Int) => [.l (RSheet a), .l (RSheet b), .i (i_1 : Int), .i s4]) (encR := Sum.elim (fun (u : Unit) => (((0, [.l (RSheet a), .l (RSheet b), .b false, .i (i_1 : Int)]) : Nat × List Leaf))) (fun (u : Unit) => (((1, [.l (RSheet a), .l (RSheet b), .i (i_1 : Int)]) : Nat × List Leaf)))) rfl (fun s4 => ?_) (fun r10 => ?_)
    ·refine Imp.idxFor (g := TSheet.row) hx1 ?_
     refine Imp.br (c1 (fun z0 : Nat => (decide (s4 < (z0 : Int)))) (T_len (g := TRule.row) x_1.xRules)) ?_ ?_
     ·refine Imp.idxFor (g := TSheet.row) hx1 ?_
      refine Imp.idx (g := TRule.row) rfl rfl (fun e7 _ => ?_)
      refine Imp.idx (g := TSheet.row) rfl rfl (fun e8 _ => ?_)
      refine Imp.idx (g := TRule.row) rfl rfl (fun e9 _ => ?_)
      refine ibr ?_ ?_
      ·exact irr
      ·exact irr
     ·exact irr
    ·cases r10 with
     | inl r10 =>
      refine if0 ?_
      exact irr
     | inr r10 =>
      refine if1 ?_
      exact Imp.ret (c1 (fun (h1 : Int) => (some (Sum.inl [.l (RSheet a), .l (RSheet b), .i h1]) : OLL)) (wrapJ hl1))
  ·cases r11 with
   | inl r11 =>
    refine if0 ?_
    exact irr
   | inr r11 =>
    refine if1 ?_
    exact irr
def sEqualResults (a : TResult) (b : TResult) : Option Bool :=
 (sEqualBuilders a.xBuilder b.xBuilder).bind fun (r1 : Bool) =>
 br r1 (
 (sl9Same a.xLog b.xLog).bind fun (r2 : Bool) =>
 br r2 (
 (sl9Same a.xVerdicts b.xVerdicts).bind fun (r3 : Bool) =>
 br r3 (
 (sEqualSheets [a.xSheet] [b.xSheet]).bind fun (r4 : Bool) =>
 br r4 (
 some (a.xLoaded == b.xLoaded)
 ) (
 some false
 )
 ) (
 some false
 )
 ) (
 some false
 )
 ) (
 some false
 )
theorem ei_sEqualResults (a : TResult) (b : TResult) (k : Bool -> Option M) : Imp (F16 M (RNode a.xBuilder.xNodes) (rInt a.xBuilder.xOpen) (rStr a.xLog) (rStr a.xVerdicts) (RRule a.xSheet.xRules) a.xLoaded (RNode b.xBuilder.xNodes) (rInt b.xBuilder.xOpen) (rStr b.xLog) (rStr b.xVerdicts) (RRule b.xSheet.xRules) b.xLoaded k) (sEqualResults a b) k := by
 delta F16 P16 sEqualResults
 refine Imp.call rfl (ei_sEqualBuilders a.xBuilder b.xBuilder _) (fun r1 _ => ?_)
 refine ibr ?_ ?_
 ·refine Imp.call rfl (ei_sl9Same a.xLog b.xLog _) (fun r2 _ => ?_)
  refine ibr ?_ ?_
  ·refine Imp.call rfl (ei_sl9Same a.xVerdicts b.xVerdicts _) (fun r3 _ => ?_)
   refine ibr ?_ ?_
   ·refine Imp.call rfl (ei_sEqualSheets [a.xSheet] [b.xSheet] _) (fun r4 _ => ?_)
    refine ibr ?_ ?_
    ·exact irr
    ·exact irr
   ·exact irr
  ·exact irr
 ·exact irr
def sSameVisits (a : TTab) (b : TTab) : Option Bool :=
 br (a.xAt != b.xAt) (
 some false
 ) (
 br ((a.xVisits.length : Int) != (b.xVisits.length : Int)) (
 some false
 ) (
 (forE a.xVisits (fun (i_1 : Nat) (x_1 : TVisit) (s1 : Unit) => (
 (getI b.xVisits (i_1 : Int)).bind fun (e3 : TVisit) =>
 br (!((x_1.xAddr.xHost == e3.xAddr.xHost) && ((x_1.xAddr.xPath == e3.xAddr.xPath) && true))) (
 some (.inr (.inl ()))
 ) (
 br (!(x_1.xKept == e3.xKept)) (
 some (.inr (.inl ()))
 ) (
 (sResultOf x_1.xPage).bind fun (r4 : TResult) =>
 (sResultOf e3.xPage).bind fun (r10 : TResult) =>
 (sEqualResults r4 r10).bind fun (r16 : Bool) =>
 br (!r16) (
 some (.inr (.inl ()))
 ) (
 some (.inl ())
 )
 )
 )
 : OU)) (fun (s1 : Unit) => (.inr () : Unit ⊕ Unit)) (() : Unit)).bind <|
 Sum.elim
 (fun (r17 : Unit) =>
 some false
 )
 (fun (r17 : Unit) =>
 some true
 )
 )
 )
theorem ei_sSameVisits (a : TTab) (b : TTab) (k : Bool -> Option M) : Imp (F6 M (RVisit a.xVisits) a.xAt (RVisit b.xVisits) b.xAt k) (sSameVisits a b) k := by
 delta F6 P6 sSameVisits
 refine ibr ?_ ?_
 ·exact irr
 ·refine Imp.br (c2 (fun z0 z1 : Nat => ((z0 : Int) != (z1 : Int))) (T_len (g := TVisit.row) a.xVisits) (T_len (g := TVisit.row) b.xVisits)) ?_ ?_
  ·exact irr
  ·refine Imp.for (enc := fun (i_1 : Nat) (s1 : Unit) => [.i (i_1 : Int), .l (RVisit a.xVisits), .i a.xAt, .l (RVisit b.xVisits), .i b.xAt]) (encR := Sum.elim (fun (u : Unit) => (((0, [.b false]) : Nat × List Leaf))) (fun (u : Unit) => (((1, []) : Nat × List Leaf)))) rfl (fun i_1 x_1 s1 hx1 hl1 hm1 => Imp.brT (T_lt (g := TVisit.row) hl1) ?_) (fun s1 => brN (T_irr (g := TVisit.row) a.xVisits) rfl) (fun r17 => ?_)
   ·refine Imp.idxFor (g := TVisit.row) hx1 ?_
    refine Imp.idx (g := TVisit.row) rfl rfl (fun e3 _ => ?_)
    refine ibr ?_ ?_
    ·exact irr
    ·refine ibr ?_ ?_
     ·exact irr
     ·refine Imp.call rfl (ei_sResultOf x_1.xPage _) (fun r4 _ => ?_)
      refine Imp.call rfl (ei_sResultOf e3.xPage _) (fun r10 _ => ?_)
      refine Imp.call rfl (ei_sEqualResults r4 r10 _) (fun r16 _ => ?_)
      refine ibr ?_ ?_
      ·exact irr
      ·exact Imp.ret (c1 (fun (h1 : Int) => (some (Sum.inl [.i h1, .l (RVisit a.xVisits), .i a.xAt, .l (RVisit b.xVisits), .i b.xAt]) : OLL)) (wrapJ hl1))
   ·cases r17 with
    | inl r17 =>
     refine if0 ?_
     exact irr
    | inr r17 =>
     refine if1 ?_
     exact irr
def icopyBuilder (b : TBuilder) : Option TBuilder :=
 chk ((0 + b.xOpen.length) * 8 <= 140737488355328 /\ 0 + b.xOpen.length <= 140737488355328) <|
 (forE b.xNodes (fun (i_1 : Nat) (x_1 : TNode) (s1 : List TNode) => (
  chk ((0 + x_1.xAttrs.length) * 32 <= 140737488355328 /\ 0 + x_1.xAttrs.length <= 140737488355328) <|
  chk ((s1.length + 1) * 64 <= 140737488355328 /\ s1.length + 1 <= 140737488355328) <|
  some (.inl (s1 ++ [{ x_1 with xAttrs := ([] ++ x_1.xAttrs) }]))
 : Option ((List TNode) ⊕ (List TNode)))) (fun (s1 : List TNode) => (s1 : List TNode)) ([] : List TNode)).bind <|
 fun (r3 : List TNode) =>
 some (⟨r3, ([] ++ b.xOpen)⟩ : TBuilder)
theorem ei_icopyBuilder (b : TBuilder) (k : List V -> List V -> Option M) : Imp (F46 M (RNode b.xNodes) (rInt b.xOpen) k) (icopyBuilder b) (fun r => k (RNode r.xNodes) (rInt r.xOpen)) := by
 delta F46 P46 icopyBuilder
 refine Imp.chk (c2 (fun z0 z1 : Nat => (0 + z0) * 8 <= 140737488355328 /\ 0 + z1 <= 140737488355328) (U_len (T := Int) (kd := (.int .i64)) (g1 := fun e => e) b.xOpen) (U_len (T := Int) (kd := (.int .i64)) (g1 := fun e => e) b.xOpen)) (fun _ => ?_)
 refine Imp.for (enc := fun (i_1 : Nat) (s1 : List TNode) => [.l (RNode b.xNodes), .i (b.xNodes.length : Int), .i (i_1 : Int), .l (RNode s1), .l (rInt ([] ++ b.xOpen))]) (encR := fun (u : List TNode) => (((0, [.l (RNode u), .l (rInt ([] ++ b.xOpen))]) : Nat × List Leaf))) (c2 (fun (h1 : Int) (h2 : List V) => ([.l (RNode b.xNodes), .i h1, .i 0, .l (RNode []), .l h2] : List Leaf)) (c1 (fun z0 : Nat => (z0 : Int)) (T_len (g := TNode.row) b.xNodes)) (U_app (T := Int) (kd := (.int .i64)) (g1 := fun e => e) [] b.xOpen)) (fun i_1 x_1 s1 hx1 hl1 hm1 => Imp.brT (Int.ofNat_lt.2 hl1) ?_) (fun s1 => brN (Int.lt_irrefl _) rfl) (fun r3 => ?_)
 ·refine Imp.idxFor (g := TNode.row) hx1 ?_
  refine Imp.chk (c2 (fun z0 z1 : Nat => (0 + z0) * 32 <= 140737488355328 /\ 0 + z1 <= 140737488355328) (T_len (g := TAttr.row) x_1.xAttrs) (T_len (g := TAttr.row) x_1.xAttrs)) (fun _ => ?_)
  refine Imp.chk (c2 (fun z0 z1 : Nat => (z0 + 1) * 64 <= 140737488355328 /\ z1 + 1 <= 140737488355328) (T_len (g := TNode.row) s1) (T_len (g := TNode.row) s1)) (fun _ => ?_)
  exact Imp.ret (c2 (fun (h1 : Int) (h2 : List V) => (some (Sum.inl [.l (RNode b.xNodes), .i (b.xNodes.length : Int), .i h1, .l h2, .l (rInt ([] ++ b.xOpen))]) : OLL)) (wrapJ hl1) ((c2 (fun u v : List V => u ++ v) rfl (c1 (fun (u0 : List V) => ([V.agg [V.str x_1.xName, V.str x_1.xText, V.int .i64 x_1.xParent, V.sl 2 true u0]] : List V)) (T_app (g := TAttr.row) [] x_1.xAttrs))).trans (T_app (g := TNode.row) s1 [{ x_1 with xAttrs := ([] ++ x_1.xAttrs) }])))
 ·exact irr
def iKindOfMode (mode : Int) : Option Int :=
 br (mode == 1) (
 some 4
 ) (
 br (mode == 2) (
 some 3
 ) (
 br (mode == 3) (
 some 2
 ) (
 br (mode == 4) (
 some 2
 ) (
 some 0
 )
 )
 )
 )
theorem ei_iKindOfMode (mode : Int) (k : Int -> Option M) : Imp (F85 M mode k) (iKindOfMode mode) k := by
 delta F85 P85 iKindOfMode
 refine ibr ?_ ?_
 ·exact irr
 ·refine ibr ?_ ?_
  ·exact irr
  ·refine ibr ?_ ?_
   ·exact irr
   ·refine ibr ?_ ?_
    ·exact irr
    ·exact irr
def iInRange (n : Int) (low : Int) (high : Int) : Option Bool :=
 br (decide (low <= n)) (
 some (decide (n <= high))
 ) (
 some false
 )
theorem ei_iInRange (n : Int) (low : Int) (high : Int) (k : Bool -> Option M) : Imp (F145 M n low high k) (iInRange n low high) k := by
 delta F145 P145 iInRange
 refine ibr ?_ ?_
 ·exact irr
 ·exact irr
def iIsName (s : LU) : Option Bool :=
 (forE s (fun (i_1 : Nat) (x_1 : UInt8) (s1 : Unit) => (
 br (decide ((x_1.toNat : Int) < 97)) (
 some (.inr (.inl ()))
 ) (
 br (decide ((x_1.toNat : Int) > 122)) (
 some (.inr (.inl ()))
 ) (
 some (.inl ())
 )
 )
 : OU)) (fun (s1 : Unit) => (.inr () : Unit ⊕ Unit)) (() : Unit)).bind <|
 Sum.elim
 (fun (r4 : Unit) =>
 some false
 )
 (fun (r4 : Unit) =>
 (iInRange (s.length : Int) 1 8).bind fun (r5 : Bool) =>
 some r5
 )
theorem ei_iIsName (s : LU) (k : Bool -> Option M) : Imp (F144 M s k) (iIsName s) k := by
 delta F144 P144 iIsName
 refine Imp.for (enc := fun (i_1 : Nat) (s1 : Unit) => [.s s, .i (i_1 : Int)]) (encR := Sum.elim (fun (u : Unit) => (((0, [.s s, .b false]) : Nat × List Leaf))) (fun (u : Unit) => (((1, [.s s]) : Nat × List Leaf)))) rfl (fun i_1 x_1 s1 hx1 hl1 hm1 => Imp.brT (Int.ofNat_lt.2 hl1) ?_) (fun s1 => brN (Int.lt_irrefl _) rfl) (fun r4 => ?_)
 ·refine Imp.idxSFor hx1 ?_
  refine ibr ?_ ?_
  ·exact irr
  ·refine Imp.idxSFor hx1 ?_
   refine ibr ?_ ?_
   ·exact irr
   ·exact Imp.ret (c1 (fun (h1 : Int) => (some (Sum.inl [.s s, .i h1]) : OLL)) (wrapJ hl1))
 ·cases r4 with
  | inl r4 =>
   refine if0 ?_
   exact irr
  | inr r4 =>
   refine if1 ?_
   refine Imp.call rfl (ei_iInRange (s.length : Int) 1 8 _) (fun r5 _ => ?_)
   exact irr
def iIsAddr (a : TAddr) : Option Bool :=
 (iIsName a.xHost).bind fun (r1 : Bool) =>
 br r1 (
 (iIsName a.xPath).bind fun (r2 : Bool) =>
 some r2
 ) (
 some false
 )
theorem ei_iIsAddr (a : TAddr) (k : Bool -> Option M) : Imp (F173 M a.xHost a.xPath k) (iIsAddr a) k := by
 delta F173 P173 iIsAddr
 refine Imp.call rfl (ei_iIsName a.xHost _) (fun r1 _ => ?_)
 refine ibr ?_ ?_
 ·refine Imp.call rfl (ei_iIsName a.xPath _) (fun r2 _ => ?_)
  exact irr
 ·exact irr
def iFormatAddr (a : TAddr) : Option (LU) :=
 (iIsAddr a).bind fun (r1 : Bool) =>
 br (!r1) (
 some []
 ) (
 chk (a.xHost.length + 1 <= 9223372036854775807) <|
 chk ((a.xHost ++ [47]).length + a.xPath.length <= 9223372036854775807) <|
 some ((a.xHost ++ [47]) ++ a.xPath)
 )
theorem ei_iFormatAddr (a : TAddr) (k : LU -> Option M) : Imp (F136 M a.xHost a.xPath k) (iFormatAddr a) k := by
 delta F136 P136 iFormatAddr
 refine Imp.call rfl (ei_iIsAddr a _) (fun r1 _ => ?_)
 refine ibr ?_ ?_
 ·exact irr
 ·refine Imp.chk rfl (fun _ => ?_)
  refine Imp.chk rfl (fun _ => ?_)
  exact irr
def iVerdictName (code : Int) : Option (LU) :=
 (iInRange code 1 6).bind fun (r1 : Bool) =>
 br (!r1) (
 some []
 ) (
 chk (0 <= IntKind.wrap .i64 (code - 1) /\ (IntKind.wrap .i64 (code - 1)).toNat < 6) <|
 (getI [[111, 107], [112, 111, 108, 105, 99, 121], [115, 116, 97, 116, 117, 115], [107, 105, 110, 100], [115, 104, 97, 114, 101], [100, 105, 103, 101, 115, 116]] (IntKind.wrap .i64 (code - 1))).bind fun (e2 : LU) =>
 some e2
 )
theorem ei_iVerdictName (code : Int) (k : LU -> Option M) : Imp (F137 M code k) (iVerdictName code) k := by
 delta F137 P137 iVerdictName
 refine Imp.call rfl (ei_iInRange code 1 6 _) (fun r1 _ => ?_)
 refine ibr ?_ ?_
 ·exact irr
 ·refine Imp.chk rfl (fun _ => ?_)
  refine Imp.idxAt1 (kd := .str) (g1 := fun e => e) rfl rfl (fun e2 => rfl) (fun e2 _ => ?_)
  exact irr
def iKindName (kind : Int) : Option (LU) :=
 (iInRange kind 1 5).bind fun (r1 : Bool) =>
 br (!r1) (
 some []
 ) (
 chk (0 <= IntKind.wrap .i64 (kind - 1) /\ (IntKind.wrap .i64 (kind - 1)).toNat < 5) <|
 (getI [[112, 97, 103, 101], [115, 99, 114, 105, 112, 116], [115, 116, 121, 108, 101], [105, 109, 97, 103, 101], [109, 111, 100, 117, 108, 101]] (IntKind.wrap .i64 (kind - 1))).bind fun (e2 : LU) =>
 some e2
 )
theorem ei_iKindName (kind : Int) (k : LU -> Option M) : Imp (F138 M kind k) (iKindName kind) k := by
 delta F138 P138 iKindName
 refine Imp.call rfl (ei_iInRange kind 1 5 _) (fun r1 _ => ?_)
 refine ibr ?_ ?_
 ·exact irr
 ·refine Imp.chk rfl (fun _ => ?_)
  refine Imp.idxAt1 (kd := .str) (g1 := fun e => e) rfl rfl (fun e2 => rfl) (fun e2 _ => ?_)
  exact irr
def iverdict (kind : Int) (xto : TAddr) (done : Bool) (code : Int) : Option (LU) :=
 (iFormatAddr xto).bind fun (r1 : LU) =>
 br (r1 == []) (
 br done (
 (iVerdictName code).bind fun (r2 : LU) =>
 (iKindName kind).bind fun (r3 : LU) =>
 chk (r3.length + 1 <= 9223372036854775807) <|
 chk ((r3 ++ [32]).length + 1 <= 9223372036854775807) <|
 chk (((r3 ++ [32]) ++ [45]).length + 1 <= 9223372036854775807) <|
 chk ((((r3 ++ [32]) ++ [45]) ++ [32]).length + r2.length <= 9223372036854775807) <|
 some ((((r3 ++ [32]) ++ [45]) ++ [32]) ++ r2)
 ) (
 (iKindName kind).bind fun (r4 : LU) =>
 chk (r4.length + 1 <= 9223372036854775807) <|
 chk ((r4 ++ [32]).length + 1 <= 9223372036854775807) <|
 chk (((r4 ++ [32]) ++ [45]).length + 1 <= 9223372036854775807) <|
 chk ((((r4 ++ [32]) ++ [45]) ++ [32]).length + 4 <= 9223372036854775807) <|
 some ((((r4 ++ [32]) ++ [45]) ++ [32]) ++ [111, 112, 101, 110])
 )
 ) (
 br done (
 (iVerdictName code).bind fun (r5 : LU) =>
 (iKindName kind).bind fun (r6 : LU) =>
 chk (r6.length + 1 <= 9223372036854775807) <|
 chk ((r6 ++ [32]).length + r1.length <= 9223372036854775807) <|
 chk (((r6 ++ [32]) ++ r1).length + 1 <= 9223372036854775807) <|
 chk ((((r6 ++ [32]) ++ r1) ++ [32]).length + r5.length <= 9223372036854775807) <|
 some ((((r6 ++ [32]) ++ r1) ++ [32]) ++ r5)
 ) (
 (iKindName kind).bind fun (r7 : LU) =>
 chk (r7.length + 1 <= 9223372036854775807) <|
 chk ((r7 ++ [32]).length + r1.length <= 9223372036854775807) <|
 chk (((r7 ++ [32]) ++ r1).length + 1 <= 9223372036854775807) <|
 chk ((((r7 ++ [32]) ++ r1) ++ [32]).length + 4 <= 9223372036854775807) <|
 some ((((r7 ++ [32]) ++ r1) ++ [32]) ++ [111, 112, 101, 110])
 )
 )
theorem ei_iverdict (kind : Int) (xto : TAddr) (done : Bool) (code : Int) (k : LU -> Option M) : Imp (F84 M kind xto.xHost xto.xPath done code k) (iverdict kind xto done code) k := by
 delta F84 P84 iverdict
 refine Imp.call rfl (ei_iFormatAddr xto _) (fun r1 _ => ?_)
 refine ibr ?_ ?_
 ·refine ibr ?_ ?_
  ·refine Imp.call rfl (ei_iVerdictName code _) (fun r2 _ => ?_)
   refine Imp.call rfl (ei_iKindName kind _) (fun r3 _ => ?_)
   refine Imp.chk rfl (fun _ => ?_)
   refine Imp.chk rfl (fun _ => ?_)
   refine Imp.chk rfl (fun _ => ?_)
   refine Imp.chk rfl (fun _ => ?_)
   exact irr
  ·refine Imp.call rfl (ei_iKindName kind _) (fun r4 _ => ?_)
   refine Imp.chk rfl (fun _ => ?_)
   refine Imp.chk rfl (fun _ => ?_)
   refine Imp.chk rfl (fun _ => ?_)
   refine Imp.chk rfl (fun _ => ?_)
   exact irr
 ·refine ibr ?_ ?_
  ·refine Imp.call rfl (ei_iVerdictName code _) (fun r5 _ => ?_)
   refine Imp.call rfl (ei_iKindName kind _) (fun r6 _ => ?_)
   refine Imp.chk rfl (fun _ => ?_)
   refine Imp.chk rfl (fun _ => ?_)
   refine Imp.chk rfl (fun _ => ?_)
   refine Imp.chk rfl (fun _ => ?_)
   exact irr
  ·refine Imp.call rfl (ei_iKindName kind _) (fun r7 _ => ?_)
   refine Imp.chk rfl (fun _ => ?_)
   refine Imp.chk rfl (fun _ => ?_)
   refine Imp.chk rfl (fun _ => ?_)
   refine Imp.chk rfl (fun _ => ?_)
   exact irr
def iVerdictsOf (p : TPage) : Option (List (LU)) :=
 (forE p.xSlots (fun (i_1 : Nat) (x_1 : TSlot) (s1 : List (LU)) => (
 (iKindOfMode x_1.xMode).bind fun (r3 : Int) =>
 (iverdict r3 x_1.xTo x_1.xDone x_1.xCode).bind fun (r4 : LU) =>
 chk ((s1.length + 1) * 16 <= 140737488355328 /\ s1.length + 1 <= 140737488355328) <|
 some (.inl (s1 ++ [r4]))
 : Option ((List (LU)) ⊕ (List (LU))))) (fun (s1 : List (LU)) => (s1 : List (LU))) ([] : List (LU))).bind <|
 fun (r5 : List (LU)) =>
 (forE p.xMods (fun (i_6 : Nat) (x_6 : TModule) (s6 : List (LU)) => (
 (iverdict 5 x_6.xTo x_6.xDone x_6.xCode).bind fun (r8 : LU) =>
 chk ((s6.length + 1) * 16 <= 140737488355328 /\ s6.length + 1 <= 140737488355328) <|
 some (.inl (s6 ++ [r8]))
 : Option ((List (LU)) ⊕ (List (LU))))) (fun (s6 : List (LU)) => (s6 : List (LU))) (r5 : List (LU))).bind <|
 fun (r9 : List (LU)) =>
 some r9
theorem ei_iVerdictsOf (p : TPage) (k : List V -> Option M) : Imp (F47 M p.xAddr.xHost p.xAddr.xPath p.xPolicy.xSet (rStr p.xPolicy.xScripts) (rStr p.xPolicy.xStyles) (rStr p.xPolicy.xImages) p.xPolicy.xNonce p.xTok.xRest (RToken p.xQueue) p.xEnded (RNode p.xBuilder.xNodes) (rInt p.xBuilder.xOpen) (RSlot p.xSlots) (RModule p.xMods) (RAddr p.xEntries) p.xBlock p.xInline p.xDeferred p.xEntered (RAddr p.xRan) (rStr p.xLog) p.xLoaded k) (iVerdictsOf p) (fun r => k (rStr r)) := by
 delta F47 P47 iVerdictsOf
 refine Imp.for (enc := fun (i_1 : Nat) (s1 : List (LU)) => (.l (rStr s1) :: .l (RSlot p.xSlots) :: .i (p.xSlots.length : Int) :: .i (i_1 : Int) :: tl0 p)) (encR := fun (u : List (LU)) => (((0, (.l (rStr u) :: tl0 p)) : Nat × List Leaf))) (c1 (fun (h1 : Int) => ([.l (rStr []), .l (RSlot p.xSlots), .i h1, .i 0, .s p.xAddr.xHost, .s p.xAddr.xPath, .b p.xPolicy.xSet, .l (rStr p.xPolicy.xScripts), .l (rStr p.xPolicy.xStyles), .l (rStr p.xPolicy.xImages), .s p.xPolicy.xNonce, .s p.xTok.xRest, .l (RToken p.xQueue), .b p.xEnded, .l (RNode p.xBuilder.xNodes), .l (rInt p.xBuilder.xOpen), .l (RSlot p.xSlots), .l (RModule p.xMods), .l (RAddr p.xEntries), .i p.xBlock, .i p.xInline, .i p.xDeferred, .i p.xEntered, .l (RAddr p.xRan), .l (rStr p.xLog), .b p.xLoaded] : List Leaf)) (c1 (fun z0 : Nat => (z0 : Int)) (T_len (g := TSlot.row) p.xSlots))) (fun i_1 x_1 s1 hx1 hl1 hm1 => Imp.brT (Int.ofNat_lt.2 hl1) ?_) (fun s1 => brN (Int.lt_irrefl _) rfl) (fun r5 => ?_)
 ·refine Imp.idxFor (g := TSlot.row) hx1 ?_
  refine Imp.call rfl (ei_iKindOfMode x_1.xMode _) (fun r3 _ => ?_)
  refine Imp.call rfl (ei_iverdict r3 x_1.xTo x_1.xDone x_1.xCode _) (fun r4 _ => ?_)
  refine Imp.chk (c2 (fun z0 z1 : Nat => (z0 + 1) * 16 <= 140737488355328 /\ z1 + 1 <= 140737488355328) (S_len s1) (S_len s1)) (fun _ => ?_)
  exact Imp.ret (c2 (fun (h1 : List V) (h2 : Int) => (some (Sum.inl (.l h1 :: .l (RSlot p.xSlots) :: .i (p.xSlots.length : Int) :: .i h2 :: tl0 p)) : OLL)) (S_app s1 [r4]) (wrapJ hl1))
 ·refine Imp.for (enc := fun (i_6 : Nat) (s6 : List (LU)) => [.l (rStr s6), .l (RModule p.xMods), .i (p.xMods.length : Int), .i (i_6 : Int)]) (encR := fun (u : List (LU)) => (((0, [.l (rStr u)]) : Nat × List Leaf))) (c1 (fun (h1 : Int) => ([.l (rStr r5), .l (RModule p.xMods), .i h1, .i 0] : List Leaf)) (c1 (fun z0 : Nat => (z0 : Int)) (T_len (g := TModule.row) p.xMods))) (fun i_6 x_6 s6 hx6 hl6 hm6 => Imp.brT (Int.ofNat_lt.2 hl6) ?_) (fun s6 => brN (Int.lt_irrefl _) rfl) (fun r9 => ?_)
  ·refine Imp.idxFor (g := TModule.row) hx6 ?_
   refine Imp.call rfl (ei_iverdict 5 x_6.xTo x_6.xDone x_6.xCode _) (fun r8 _ => ?_)
   refine Imp.chk (c2 (fun z0 z1 : Nat => (z0 + 1) * 16 <= 140737488355328 /\ z1 + 1 <= 140737488355328) (S_len s6) (S_len s6)) (fun _ => ?_)
   exact Imp.ret (c2 (fun (h1 : List V) (h2 : Int) => (some (Sum.inl [.l h1, .l (RModule p.xMods), .i (p.xMods.length : Int), .i h2]) : OLL)) (S_app s6 [r8]) (wrapJ hl6))
  ·exact irr
def g_strings_Split (a0 : LU) (a1 : LU) : Option (List (LU)) := splitE a0 a1
theorem ei_g_strings_Split (a0 : LU) (a1 : LU) (k : List V -> Option M) : Imp (F141 M a0 a1 k) (g_strings_Split a0 a1) (fun r => k (rStr r)) := ei_splitE a0 a1 k
def g_strings_Cut (a0 : LU) (a1 : LU) : Option ((LU) × (LU) × Bool) := scutE a0 a1
theorem ei_g_strings_Cut (a0 : LU) (a1 : LU) (k : LU -> LU -> Bool -> Option M) : Imp (F142 M a0 a1 k) (g_strings_Cut a0 a1) (fun r => k r.1 r.2.1 r.2.2) := ei_scutE a0 a1 k
def iParseInt (a0 : LU) : Option (Int × Bool) := pintE a0
theorem ei_iParseInt (a0 : LU) (k : Int -> Bool -> Option M) : Imp (F143 M a0 k) (iParseInt a0) (fun r => k r.1 r.2) := ei_pintE a0 k
def iParseSheet (s : LU) : Option TSheet :=
 (g_strings_Split s [59]).bind fun (r1 : List (LU)) =>
 (forE r1 (fun (i_2 : Nat) (x_2 : LU) (s2 : List TRule) => (
 (g_strings_Cut x_2 [58]).bind fun (r4 : (LU) × (LU) × Bool) =>
 (iParseInt r4.2.1).bind fun (r7 : Int × Bool) =>
 br r7.2 (
 (iIsName r4.1).bind fun (r9 : Bool) =>
 br r9 (
 (iInRange r7.1 1 999).bind fun (r10 : Bool) =>
 br r10 (
 br (decide ((s2.length : Int) < 8)) (
 chk ((s2.length + 1) * 24 <= 140737488355328 /\ s2.length + 1 <= 140737488355328) <|
 some (.inl (s2 ++ [(⟨r4.1, r7.1⟩ : TRule)]))
 ) (
 some (.inl s2)
 )
 ) (
 some (.inl s2)
 )
 ) (
 some (.inl s2)
 )
 ) (
 some (.inl s2)
 )
 : Option ((List TRule) ⊕ (List TRule)))) (fun (s2 : List TRule) => (s2 : List TRule)) ([] : List TRule)).bind <|
 fun (r11 : List TRule) =>
 some (⟨r11⟩ : TSheet)
theorem ei_iParseSheet (s : LU) (k : List V -> Option M) : Imp (F89 M s k) (iParseSheet s) (fun r => k (RRule r.xRules)) := by
 delta F89 P89 iParseSheet
 refine Imp.call rfl (ei_g_strings_Split s [59] _) (fun r1 _ => ?_)
 refine Imp.for (enc := fun (i_2 : Nat) (s2 : List TRule) => [.l (rStr r1), .i (r1.length : Int), .i (i_2 : Int), .l (RRule s2)]) (encR := fun (u : List TRule) => (((0, [.l (RRule u)]) : Nat × List Leaf))) (c1 (fun (h1 : Int) => ([.l (rStr r1), .i h1, .i 0, .l (RRule [])] : List Leaf)) (c1 (fun z0 : Nat => (z0 : Int)) (S_len r1))) (fun i_2 x_2 s2 hx2 hl2 hm2 => Imp.brT (Int.ofNat_lt.2 hl2) ?_) (fun s2 => brN (Int.lt_irrefl _) rfl) (fun r11 => ?_)
 ·refine Imp.chkE ⟨Int.natCast_nonneg _, Nat.lt_of_lt_of_eq hl2 (S_len r1).symm⟩ ?_
  refine Imp.idxAtFor1 (kd := .str) (g1 := fun e => e) hx2 rfl ?_
  refine Imp.call rfl (ei_g_strings_Cut x_2 [58] _) (fun r4 _ => ?_)
  refine Imp.call rfl (ei_iParseInt r4.2.1 _) (fun r7 _ => ?_)
  refine ibr ?_ ?_
  ·refine Imp.call rfl (ei_iIsName r4.1 _) (fun r9 _ => ?_)
   refine ibr ?_ ?_
   ·refine Imp.call rfl (ei_iInRange r7.1 1 999 _) (fun r10 _ => ?_)
    refine ibr ?_ ?_
    ·refine Imp.br (c1 (fun z0 : Nat => (decide ((z0 : Int) < 8))) (T_len (g := TRule.row) s2)) ?_ ?_
     ·refine Imp.chk (c2 (fun z0 z1 : Nat => (z0 + 1) * 24 <= 140737488355328 /\ z1 + 1 <= 140737488355328) (T_len (g := TRule.row) s2) (T_len (g := TRule.row) s2)) (fun _ => ?_)
      exact Imp.ret (c2 (fun (h1 : Int) (h2 : List V) => (some (Sum.inl [.l (rStr r1), .i (r1.length : Int), .i h1, .l h2]) : OLL)) (wrapJ hl2) (T_app (g := TRule.row) s2 [(⟨r4.1, r7.1⟩ : TRule)]))
     ·exact Imp.ret (c1 (fun (h1 : Int) => (some (Sum.inl [.l (rStr r1), .i (r1.length : Int), .i h1, .l (RRule s2)]) : OLL)) (wrapJ hl2))
    ·exact Imp.ret (c1 (fun (h1 : Int) => (some (Sum.inl [.l (rStr r1), .i (r1.length : Int), .i h1, .l (RRule s2)]) : OLL)) (wrapJ hl2))
   ·exact Imp.ret (c1 (fun (h1 : Int) => (some (Sum.inl [.l (rStr r1), .i (r1.length : Int), .i h1, .l (RRule s2)]) : OLL)) (wrapJ hl2))
  ·exact Imp.ret (c1 (fun (h1 : Int) => (some (Sum.inl [.l (rStr r1), .i (r1.length : Int), .i h1, .l (RRule s2)]) : OLL)) (wrapJ hl2))
 ·exact irr
def iSheetsOf (p : TPage) : Option (List TSheet) :=
 (forE p.xSlots (fun (i_1 : Nat) (x_1 : TSlot) (s1 : List TSheet) => (
 br (x_1.xMode == 2) (
 br x_1.xDone (
 br (x_1.xCode == 1) (
 (iParseSheet x_1.xBody).bind fun (r3 : TSheet) =>
 chk ((s1.length + 1) * 24 <= 140737488355328 /\ s1.length + 1 <= 140737488355328) <|
 some (.inl (s1 ++ [r3]))
 ) (
 some (.inl s1)
 )
 ) (
 some (.inl s1)
 )
 ) (
 some (.inl s1)
 )
 : Option ((List TSheet) ⊕ (List TSheet)))) (fun (s1 : List TSheet) => (s1 : List TSheet)) ([] : List TSheet)).bind <|
 fun (r4 : List TSheet) =>
 some r4
theorem ei_iSheetsOf (p : TPage) (k : List V -> Option M) : Imp (F49 M p.xAddr.xHost p.xAddr.xPath p.xPolicy.xSet (rStr p.xPolicy.xScripts) (rStr p.xPolicy.xStyles) (rStr p.xPolicy.xImages) p.xPolicy.xNonce p.xTok.xRest (RToken p.xQueue) p.xEnded (RNode p.xBuilder.xNodes) (rInt p.xBuilder.xOpen) (RSlot p.xSlots) (RModule p.xMods) (RAddr p.xEntries) p.xBlock p.xInline p.xDeferred p.xEntered (RAddr p.xRan) (rStr p.xLog) p.xLoaded k) (iSheetsOf p) (fun r => k (RSheet r)) := by
 delta F49 P49 iSheetsOf
 refine Imp.for (enc := fun (i_1 : Nat) (s1 : List TSheet) => [.l (RSheet s1), .l (RSlot p.xSlots), .i (p.xSlots.length : Int), .i (i_1 : Int)]) (encR := fun (u : List TSheet) => (((0, [.l (RSheet u)]) : Nat × List Leaf))) (c1 (fun (h1 : Int) => ([.l (RSheet []), .l (RSlot p.xSlots), .i h1, .i 0] : List Leaf)) (c1 (fun z0 : Nat => (z0 : Int)) (T_len (g := TSlot.row) p.xSlots))) (fun i_1 x_1 s1 hx1 hl1 hm1 => Imp.brT (Int.ofNat_lt.2 hl1) ?_) (fun s1 => brN (Int.lt_irrefl _) rfl) (fun r4 => ?_)
 ·refine Imp.idxFor (g := TSlot.row) hx1 ?_
  refine ibr ?_ ?_
  ·refine ibr ?_ ?_
   ·refine ibr ?_ ?_
    ·refine Imp.call rfl (ei_iParseSheet x_1.xBody _) (fun r3 _ => ?_)
     refine Imp.chk (c2 (fun z0 z1 : Nat => (z0 + 1) * 24 <= 140737488355328 /\ z1 + 1 <= 140737488355328) (T_len (g := TSheet.row) s1) (T_len (g := TSheet.row) s1)) (fun _ => ?_)
     exact Imp.ret (c2 (fun (h1 : List V) (h2 : Int) => (some (Sum.inl [.l h1, .l (RSlot p.xSlots), .i (p.xSlots.length : Int), .i h2]) : OLL)) (T_app (g := TSheet.row) s1 [r3]) (wrapJ hl1))
    ·exact Imp.ret (c1 (fun (h1 : Int) => (some (Sum.inl [.l (RSheet s1), .l (RSlot p.xSlots), .i (p.xSlots.length : Int), .i h1]) : OLL)) (wrapJ hl1))
   ·exact Imp.ret (c1 (fun (h1 : Int) => (some (Sum.inl [.l (RSheet s1), .l (RSlot p.xSlots), .i (p.xSlots.length : Int), .i h1]) : OLL)) (wrapJ hl1))
  ·exact Imp.ret (c1 (fun (h1 : Int) => (some (Sum.inl [.l (RSheet s1), .l (RSlot p.xSlots), .i (p.xSlots.length : Int), .i h1]) : OLL)) (wrapJ hl1))
 ·exact irr
def iColorOf (l : List TSheet) (name : LU) : Option Int :=
 (whileE (fun (s1 : Int) => (
 br (decide (s1 >= 0)) (
 (getI l s1).bind fun (e2 : TSheet) =>
 (whileE (fun (s3 : Int) => (
 br (decide (s3 >= 0)) (
 (getI l s1).bind fun (e4 : TSheet) =>
 (getI e4.xRules s3).bind fun (e5 : TRule) =>
 br (e5.xName == name) (
 (getI l s1).bind fun (e6 : TSheet) =>
 (getI e6.xRules s3).bind fun (e7 : TRule) =>
 some (.inr (.inl e7.xColor))
 ) (
 some (.inl (IntKind.wrap .i64 (s3 - 1)))
 )
 ) (
 some (.inr (.inr ()))
 )
 : Option (Int ⊕ (Int ⊕ Unit)))) ((IntKind.wrap .i64 ((e2.xRules.length : Int) - 1)) : Int)).bind <|
 Sum.elim
 (fun (r8 : Int) =>
 some (.inr (.inl r8))
 )
 (fun (r8 : Unit) =>
 some (.inl (IntKind.wrap .i64 (s1 - 1)))
 )
 ) (
 some (.inr (.inr ()))
 )
 : Option (Int ⊕ (Int ⊕ Unit)))) ((IntKind.wrap .i64 ((l.length : Int) - 1)) : Int)).bind <|
 Sum.elim
 (fun (r9 : Int) =>
 some r9
 )
 (fun (r9 : Unit) =>
 some 0
 )
theorem ei_iColorOf (l : List TSheet) (name : LU) (k : Int -> Option M) : Imp (F88 M (RSheet l) name k) (iColorOf l name) k := by
 delta F88 P88 iColorOf
 refine Imp.while (enc := fun (s1 : Int) => [.l (RSheet l), .s name, .i s1]) (encR := Sum.elim (fun (u : Int) => (((0, [.i u]) : Nat × List Leaf))) (fun (u : Unit) => (((1, []) : Nat × List Leaf)))) (c1 (fun (h1 : Int) => ([.l (RSheet l), .s name, .i h1] : List Leaf)) (c1 (fun z0 : Nat => (IntKind.wrap .i64 ((z0 : Int) - 1))) (T_len (g := TSheet.row) l))) (fun s1 => ?_) (fun r9 => ?_)
 ·refine ibr ?_ ?_
  ·refine Imp.idx (g := TSheet.row) rfl rfl (fun e2 _ => ?_)
   refine Imp.while (enc := fun (s3 : Int) => [.l (RSheet l), .s name, .i s1, .i s3]) (encR := Sum.elim (fun (u : Int) => (((0, [.l (RSheet l), .s name, .i u, .i s1]) : Nat × List Leaf))) (fun (u : Unit) => (((1, [.l (RSheet l), .s name, .i s1]) : Nat × List Leaf)))) (c1 (fun (h1 : Int) => ([.l (RSheet l), .s name, .i s1, .i h1] : List Leaf)) (c1 (fun z0 : Nat => (IntKind.wrap .i64 ((z0 : Int) - 1))) (T_len (g := TRule.row) e2.xRules))) (fun s3 => ?_) (fun r8 => ?_)
   ·refine ibr ?_ ?_
    ·refine Imp.idx (g := TSheet.row) rfl rfl (fun e4 _ => ?_)
     refine Imp.idx (g := TRule.row) rfl rfl (fun e5 _ => ?_)
     refine ibr ?_ ?_
     ·refine Imp.idx (g := TSheet.row) rfl rfl (fun e6 _ => ?_)
      refine Imp.idx (g := TRule.row) rfl rfl (fun e7 _ => ?_)
      exact irr
     ·exact irr
    ·exact irr
   ·cases r8 with
    | inl r8 =>
     refine if0 ?_
     exact irr
    | inr r8 =>
     refine if1 ?_
     exact irr
  ·exact irr
 ·cases r9 with
  | inl r9 =>
   refine if0 ?_
   exact irr
  | inr r9 =>
   refine if1 ?_
   exact irr
def iJoinSheets (l : List TSheet) : Option TSheet :=
 (forE l (fun (i_1 : Nat) (x_1 : TSheet) (s1 : List (LU)) => (
 (forE x_1.xRules (fun (i_3 : Nat) (x_3 : TRule) (s3 : List (LU)) => (
 chk ((s3.length + 1) * 16 <= 140737488355328 /\ s3.length + 1 <= 140737488355328) <|
 some (.inl (s3 ++ [x_3.xName]))
 : Option ((List (LU)) ⊕ (List (LU))))) (fun (s3 : List (LU)) => (s3 : List (LU))) (s1 : List (LU))).bind <|
 fun (r5 : List (LU)) =>
 some (.inl r5)
 : Option ((List (LU)) ⊕ (List (LU))))) (fun (s1 : List (LU)) => (s1 : List (LU))) ([] : List (LU))).bind <|
 fun (r6 : List (LU)) =>
 (sortStrE r6).bind fun (l7 : List (LU)) =>
 (compStrE l7).bind fun (l9 : List (LU)) =>
 (forE l9 (fun (i_10 : Nat) (x_10 : LU) (s10 : List TRule) => (
 (iColorOf l x_10).bind fun (r12 : Int) =>
 chk ((s10.length + 1) * 24 <= 140737488355328 /\ s10.length + 1 <= 140737488355328) <|
 some (.inl (s10 ++ [(⟨x_10, r12⟩ : TRule)]))
 : Option ((List TRule) ⊕ (List TRule)))) (fun (s10 : List TRule) => (s10 : List TRule)) ([] : List TRule)).bind <|
 fun (r13 : List TRule) =>
 some (⟨r13⟩ : TSheet)
theorem ei_iJoinSheets (l : List TSheet) (k : List V -> Option M) : Imp (F48 M (RSheet l) k) (iJoinSheets l) (fun r => k (RRule r.xRules)) := by
 delta F48 P48 iJoinSheets
 refine Imp.for (enc := fun (i_1 : Nat) (s1 : List (LU)) => [.l (RSheet l), .l (rStr s1), .l (RSheet l), .i (l.length : Int), .i (i_1 : Int)]) (encR := fun (u : List (LU)) => (((0, [.l (RSheet l), .l (rStr u)]) : Nat × List Leaf))) (c1 (fun (h1 : Int) => ([.l (RSheet l), .l (rStr []), .l (RSheet l), .i h1, .i 0] : List Leaf)) (c1 (fun z0 : Nat => (z0 : Int)) (T_len (g := TSheet.row) l))) (fun i_1 x_1 s1 hx1 hl1 hm1 => Imp.brT (Int.ofNat_lt.2 hl1) ?_) (fun s1 => brN (Int.lt_irrefl _) rfl) (fun r6 => ?_)
 ·refine Imp.idxFor (g := TSheet.row) hx1 ?_
  refine Imp.for (enc := fun (i_3 : Nat) (s3 : List (LU)) => [.l (RSheet l), .l (rStr s3), .l (RSheet l), .i (l.length : Int), .i (i_1 : Int), .l (RRule x_1.xRules), .i (x_1.xRules.length : Int), .i (i_3 : Int)]) (encR := fun (u : List (LU)) => (((0, [.l (RSheet l), .l (rStr u), .l (RSheet l), .i (l.length : Int), .i (i_1 : Int)]) : Nat × List Leaf))) (c1 (fun (h1 : Int) => ([.l (RSheet l), .l (rStr s1), .l (RSheet l), .i (l.length : Int), .i (i_1 : Int), .l (RRule x_1.xRules), .i h1, .i 0] : List Leaf)) (c1 (fun z0 : Nat => (z0 : Int)) (T_len (g := TRule.row) x_1.xRules))) (fun i_3 x_3 s3 hx3 hl3 hm3 => Imp.brT (Int.ofNat_lt.2 hl3) ?_) (fun s3 => brN (Int.lt_irrefl _) rfl) (fun r5 => ?_)
  ·refine Imp.idxFor (g := TRule.row) hx3 ?_
   refine Imp.chk (c2 (fun z0 z1 : Nat => (z0 + 1) * 16 <= 140737488355328 /\ z1 + 1 <= 140737488355328) (S_len s3) (S_len s3)) (fun _ => ?_)
   exact Imp.ret (c2 (fun (h1 : List V) (h2 : Int) => (some (Sum.inl [.l (RSheet l), .l h1, .l (RSheet l), .i (l.length : Int), .i (i_1 : Int), .l (RRule x_1.xRules), .i (x_1.xRules.length : Int), .i h2]) : OLL)) (S_app s3 [x_3.xName]) (wrapJ hl3))
  ·exact Imp.ret (c1 (fun (h1 : Int) => (some (Sum.inl [.l (RSheet l), .l (rStr r5), .l (RSheet l), .i (l.length : Int), .i h1]) : OLL)) (wrapJ hl1))
 ·refine Imp.wrSort (l := r6) rfl (fun l7 => ?_)
  refine Imp.wrComp (l := l7) rfl (fun _ l9 => ?_)
  refine Imp.for (enc := fun (i_10 : Nat) (s10 : List TRule) => [.l (RSheet l), .l (rStr l9), .i (l9.length : Int), .i (i_10 : Int), .l (RRule s10)]) (encR := fun (u : List TRule) => (((0, [.l (RRule u)]) : Nat × List Leaf))) (c1 (fun (h1 : Int) => ([.l (RSheet l), .l (rStr l9), .i h1, .i 0, .l (RRule [])] : List Leaf)) (c1 (fun z0 : Nat => (z0 : Int)) (S_len l9))) (fun i_10 x_10 s10 hx10 hl10 hm10 => Imp.brT (Int.ofNat_lt.2 hl10) ?_) (fun s10 => brN (Int.lt_irrefl _) rfl) (fun r13 => ?_)
  ·refine Imp.idxFor1 (kd := .str) (g1 := fun e => e) hx10 ?_
   refine Imp.call rfl (ei_iColorOf l x_10 _) (fun r12 _ => ?_)
   refine Imp.chk (c2 (fun z0 z1 : Nat => (z0 + 1) * 24 <= 140737488355328 /\ z1 + 1 <= 140737488355328) (T_len (g := TRule.row) s10) (T_len (g := TRule.row) s10)) (fun _ => ?_)
   exact Imp.ret (c2 (fun (h1 : Int) (h2 : List V) => (some (Sum.inl [.l (RSheet l), .l (rStr l9), .i (l9.length : Int), .i h1, .l h2]) : OLL)) (wrapJ hl10) (T_app (g := TRule.row) s10 [(⟨x_10, r12⟩ : TRule)]))
  ·exact irr
def iResultOf (p : TPage) : Option TResult :=
 (icopyBuilder p.xBuilder).bind fun (r1 : TBuilder) =>
 chk ((0 + p.xLog.length) * 16 <= 140737488355328 /\ 0 + p.xLog.length <= 140737488355328) <|
 (iVerdictsOf p).bind fun (r3 : List (LU)) =>
 (iSheetsOf p).bind fun (r4 : List TSheet) =>
 (iJoinSheets r4).bind fun (r5 : TSheet) =>
 some (⟨r1, ([] ++ p.xLog), r3, r5, p.xLoaded⟩ : TResult)
theorem ei_iResultOf (p : TPage) (k : List V -> List V -> List V -> List V -> List V -> Bool -> Option M) : Imp (F22 M p.xAddr.xHost p.xAddr.xPath p.xPolicy.xSet (rStr p.xPolicy.xScripts) (rStr p.xPolicy.xStyles) (rStr p.xPolicy.xImages) p.xPolicy.xNonce p.xTok.xRest (RToken p.xQueue) p.xEnded (RNode p.xBuilder.xNodes) (rInt p.xBuilder.xOpen) (RSlot p.xSlots) (RModule p.xMods) (RAddr p.xEntries) p.xBlock p.xInline p.xDeferred p.xEntered (RAddr p.xRan) (rStr p.xLog) p.xLoaded k) (iResultOf p) (fun r => k (RNode r.xBuilder.xNodes) (rInt r.xBuilder.xOpen) (rStr r.xLog) (rStr r.xVerdicts) (RRule r.xSheet.xRules) r.xLoaded) := by
 delta F22 P22 iResultOf
 refine Imp.call rfl (ei_icopyBuilder p.xBuilder _) (fun r1 _ => ?_)
 refine Imp.chk (c2 (fun z0 z1 : Nat => (0 + z0) * 16 <= 140737488355328 /\ 0 + z1 <= 140737488355328) (S_len p.xLog) (S_len p.xLog)) (fun _ => ?_)
 refine Imp.call rfl (ei_iVerdictsOf p _) (fun r3 _ => ?_)
 refine Imp.call rfl (ei_iSheetsOf p _) (fun r4 _ => ?_)
 refine Imp.call rfl (ei_iJoinSheets r4 _) (fun r5 _ => ?_)
 exact Imp.ret (c1 (fun (h1 : List V) => k (RNode r1.xNodes) (rInt r1.xOpen) h1 (rStr r3) (RRule r5.xRules) p.xLoaded) (S_app [] p.xLog))
def g_slices_Equal_Attr_Attr (s1 : List TAttr) (s2 : List TAttr) : Option Bool :=
 br ((s1.length : Int) != (s2.length : Int)) (
 some false
 ) (
 (forE s1 (fun (i_3 : Nat) (x_3 : TAttr) (s3 : Unit) => (
 (getI s2 (i_3 : Int)).bind fun (e5 : TAttr) =>
 br (!((x_3.xName == e5.xName) && ((x_3.xValue == e5.xValue) && true))) (
 some (.inr (.inl ()))
 ) (
 some (.inl ())
 )
 : OU)) (fun (s3 : Unit) => (.inr () : Unit ⊕ Unit)) (() : Unit)).bind <|
 Sum.elim
 (fun (r6 : Unit) =>
 some false
 )
 (fun (r6 : Unit) =>
 some true
 )
 )
theorem ei_g_slices_Equal_Attr_Attr (s1 : List TAttr) (s2 : List TAttr) (k : Bool -> Option M) : Imp (F135 M (RAttr s1) (RAttr s2) k) (g_slices_Equal_Attr_Attr s1 s2) k := by
 delta F135 P135 g_slices_Equal_Attr_Attr
 refine Imp.br (c2 (fun z0 z1 : Nat => ((z0 : Int) != (z1 : Int))) (T_len (g := TAttr.row) s1) (T_len (g := TAttr.row) s2)) ?_ ?_
 ·exact irr
 ·refine Imp.for (enc := fun (i_3 : Nat) (s3 : Unit) => [.l (RAttr s1), .l (RAttr s2), .i (s1.length : Int), .i (i_3 : Int)]) (encR := Sum.elim (fun (u : Unit) => (((0, [.b false]) : Nat × List Leaf))) (fun (u : Unit) => (((1, []) : Nat × List Leaf)))) (c1 (fun (h1 : Int) => ([.l (RAttr s1), .l (RAttr s2), .i h1, .i 0] : List Leaf)) (c1 (fun z0 : Nat => (z0 : Int)) (T_len (g := TAttr.row) s1))) (fun i_3 x_3 s3 hx3 hl3 hm3 => Imp.brT (Int.ofNat_lt.2 hl3) ?_) (fun s3 => brN (Int.lt_irrefl _) rfl) (fun r6 => ?_)
  ·refine Imp.idxFor (g := TAttr.row) hx3 ?_
   refine Imp.idx (g := TAttr.row) rfl rfl (fun e5 _ => ?_)
   refine ibr ?_ ?_
   ·exact irr
   ·exact Imp.ret (c1 (fun (h1 : Int) => (some (Sum.inl [.l (RAttr s1), .l (RAttr s2), .i (s1.length : Int), .i h1]) : OLL)) (wrapJ hl3))
  ·cases r6 with
   | inl r6 =>
    refine if0 ?_
    exact irr
   | inr r6 =>
    refine if1 ?_
    exact irr
def iequalNodes (a : TNode) (b : TNode) : Option Bool :=
 br (a.xName == b.xName) (
 br (a.xText == b.xText) (
 br (a.xParent == b.xParent) (
 (g_slices_Equal_Attr_Attr a.xAttrs b.xAttrs).bind fun (r1 : Bool) =>
 some r1
 ) (
 some false
 )
 ) (
 some false
 )
 ) (
 some false
 )
theorem ei_iequalNodes (a : TNode) (b : TNode) (k : Bool -> Option M) : Imp (F81 M a.xName a.xText a.xParent (RAttr a.xAttrs) b.xName b.xText b.xParent (RAttr b.xAttrs) k) (iequalNodes a b) k := by
 delta F81 P81 iequalNodes
 refine ibr ?_ ?_
 ·refine ibr ?_ ?_
  ·refine ibr ?_ ?_
   ·refine Imp.call rfl (ei_g_slices_Equal_Attr_Attr a.xAttrs b.xAttrs _) (fun r1 _ => ?_)
    exact irr
   ·exact irr
  ·exact irr
 ·exact irr
def g_slices_EqualFunc_Node_Node_Node_Node_iequalNodes (s1 : List TNode) (s2 : List TNode) : Option Bool :=
 br ((s1.length : Int) != (s2.length : Int)) (
 some false
 ) (
 (forE s1 (fun (i_3 : Nat) (x_3 : TNode) (s3 : Unit) => (
 (getI s2 (i_3 : Int)).bind fun (e5 : TNode) =>
 (iequalNodes x_3 e5).bind fun (r6 : Bool) =>
 br (!r6) (
 some (.inr (.inl ()))
 ) (
 some (.inl ())
 )
 : OU)) (fun (s3 : Unit) => (.inr () : Unit ⊕ Unit)) (() : Unit)).bind <|
 Sum.elim
 (fun (r7 : Unit) =>
 some false
 )
 (fun (r7 : Unit) =>
 some true
 )
 )
theorem ei_g_slices_EqualFunc_Node_Node_Node_Node_iequalNodes (s1 : List TNode) (s2 : List TNode) (k : Bool -> Option M) : Imp (F80c81 M (RNode s1) (RNode s2) k) (g_slices_EqualFunc_Node_Node_Node_Node_iequalNodes s1 s2) k := by
 delta F80c81 P80c81 g_slices_EqualFunc_Node_Node_Node_Node_iequalNodes
 refine Imp.br (c2 (fun z0 z1 : Nat => ((z0 : Int) != (z1 : Int))) (T_len (g := TNode.row) s1) (T_len (g := TNode.row) s2)) ?_ ?_
 ·exact irr
 ·refine Imp.for (enc := fun (i_3 : Nat) (s3 : Unit) => [.l (RNode s2), .l (RNode s1), .i (s1.length : Int), .i (i_3 : Int)]) (encR := Sum.elim (fun (u : Unit) => (((0, [.b false]) : Nat × List Leaf))) (fun (u : Unit) => (((1, []) : Nat × List Leaf)))) (c1 (fun (h1 : Int) => ([.l (RNode s2), .l (RNode s1), .i h1, .i 0] : List Leaf)) (c1 (fun z0 : Nat => (z0 : Int)) (T_len (g := TNode.row) s1))) (fun i_3 x_3 s3 hx3 hl3 hm3 => Imp.brT (Int.ofNat_lt.2 hl3) ?_) (fun s3 => brN (Int.lt_irrefl _) rfl) (fun r7 => ?_)
  ·refine Imp.idxFor (g := TNode.row) hx3 ?_
   refine Imp.idx (g := TNode.row) rfl rfl (fun e5 _ => ?_)
   refine Imp.call rfl (ei_iequalNodes x_3 e5 _) (fun r6 _ => ?_)
   refine ibr ?_ ?_
   ·exact irr
   ·exact Imp.ret (c1 (fun (h1 : Int) => (some (Sum.inl [.l (RNode s2), .l (RNode s1), .i (s1.length : Int), .i h1]) : OLL)) (wrapJ hl3))
  ·cases r7 with
   | inl r7 =>
    refine if0 ?_
    exact irr
   | inr r7 =>
    refine if1 ?_
    exact irr
def g_slices_Equal_int_int (s1 : List Int) (s2 : List Int) : Option Bool :=
 br ((s1.length : Int) != (s2.length : Int)) (
 some false
 ) (
 (forE s1 (fun (i_3 : Nat) (x_3 : Int) (s3 : Unit) => (
 (getI s2 (i_3 : Int)).bind fun (e5 : Int) =>
 br (x_3 != e5) (
 some (.inr (.inl ()))
 ) (
 some (.inl ())
 )
 : OU)) (fun (s3 : Unit) => (.inr () : Unit ⊕ Unit)) (() : Unit)).bind <|
 Sum.elim
 (fun (r6 : Unit) =>
 some false
 )
 (fun (r6 : Unit) =>
 some true
 )
 )
theorem ei_g_slices_Equal_int_int (s1 : List Int) (s2 : List Int) (k : Bool -> Option M) : Imp (F82 M (rInt s1) (rInt s2) k) (g_slices_Equal_int_int s1 s2) k := by
 delta F82 P82 g_slices_Equal_int_int
 refine Imp.br (c2 (fun z0 z1 : Nat => ((z0 : Int) != (z1 : Int))) (U_len (T := Int) (kd := (.int .i64)) (g1 := fun e => e) s1) (U_len (T := Int) (kd := (.int .i64)) (g1 := fun e => e) s2)) ?_ ?_
 ·exact irr
 ·refine Imp.for (enc := fun (i_3 : Nat) (s3 : Unit) => [.l (rInt s1), .l (rInt s2), .i (s1.length : Int), .i (i_3 : Int)]) (encR := Sum.elim (fun (u : Unit) => (((0, [.b false]) : Nat × List Leaf))) (fun (u : Unit) => (((1, []) : Nat × List Leaf)))) (c1 (fun (h1 : Int) => ([.l (rInt s1), .l (rInt s2), .i h1, .i 0] : List Leaf)) (c1 (fun z0 : Nat => (z0 : Int)) (U_len (T := Int) (kd := (.int .i64)) (g1 := fun e => e) s1))) (fun i_3 x_3 s3 hx3 hl3 hm3 => Imp.brT (Int.ofNat_lt.2 hl3) ?_) (fun s3 => brN (Int.lt_irrefl _) rfl) (fun r6 => ?_)
  ·refine Imp.idxFor1 (kd := (.int .i64)) (g1 := fun e => e) hx3 ?_
   refine Imp.idx1 (kd := (.int .i64)) (g1 := fun e => e) rfl rfl (fun e5 _ => ?_)
   refine ibr ?_ ?_
   ·exact irr
   ·exact Imp.ret (c1 (fun (h1 : Int) => (some (Sum.inl [.l (rInt s1), .l (rInt s2), .i (s1.length : Int), .i h1]) : OLL)) (wrapJ hl3))
  ·cases r6 with
   | inl r6 =>
    refine if0 ?_
    exact irr
   | inr r6 =>
    refine if1 ?_
    exact irr
def iEqualBuilders (a : TBuilder) (b : TBuilder) : Option Bool :=
 (g_slices_EqualFunc_Node_Node_Node_Node_iequalNodes a.xNodes b.xNodes).bind fun (r1 : Bool) =>
 br r1 (
 (g_slices_Equal_int_int a.xOpen b.xOpen).bind fun (r2 : Bool) =>
 some r2
 ) (
 some false
 )
theorem ei_iEqualBuilders (a : TBuilder) (b : TBuilder) (k : Bool -> Option M) : Imp (F43 M (RNode a.xNodes) (rInt a.xOpen) (RNode b.xNodes) (rInt b.xOpen) k) (iEqualBuilders a b) k := by
 delta F43 P43 iEqualBuilders
 refine Imp.call rfl (ei_g_slices_EqualFunc_Node_Node_Node_Node_iequalNodes a.xNodes b.xNodes _) (fun r1 _ => ?_)
 refine ibr ?_ ?_
 ·refine Imp.call rfl (ei_g_slices_Equal_int_int a.xOpen b.xOpen _) (fun r2 _ => ?_)
  exact irr
 ·exact irr
def g_slices_Equal_string_string (s1 : List (LU)) (s2 : List (LU)) : Option Bool :=
 br ((s1.length : Int) != (s2.length : Int)) (
 some false
 ) (
 (forE s1 (fun (i_3 : Nat) (x_3 : LU) (s3 : Unit) => (
 (getI s2 (i_3 : Int)).bind fun (e5 : LU) =>
 br (!(x_3 == e5)) (
 some (.inr (.inl ()))
 ) (
 some (.inl ())
 )
 : OU)) (fun (s3 : Unit) => (.inr () : Unit ⊕ Unit)) (() : Unit)).bind <|
 Sum.elim
 (fun (r6 : Unit) =>
 some false
 )
 (fun (r6 : Unit) =>
 some true
 )
 )
theorem ei_g_slices_Equal_string_string (s1 : List (LU)) (s2 : List (LU)) (k : Bool -> Option M) : Imp (F44 M (rStr s1) (rStr s2) k) (g_slices_Equal_string_string s1 s2) k := by
 delta F44 P44 g_slices_Equal_string_string
 refine Imp.br (c2 (fun z0 z1 : Nat => ((z0 : Int) != (z1 : Int))) (S_len s1) (S_len s2)) ?_ ?_
 ·exact irr
 ·refine Imp.for (enc := fun (i_3 : Nat) (s3 : Unit) => [.l (rStr s1), .l (rStr s2), .i (s1.length : Int), .i (i_3 : Int)]) (encR := Sum.elim (fun (u : Unit) => (((0, [.b false]) : Nat × List Leaf))) (fun (u : Unit) => (((1, []) : Nat × List Leaf)))) (c1 (fun (h1 : Int) => ([.l (rStr s1), .l (rStr s2), .i h1, .i 0] : List Leaf)) (c1 (fun z0 : Nat => (z0 : Int)) (S_len s1))) (fun i_3 x_3 s3 hx3 hl3 hm3 => Imp.brT (Int.ofNat_lt.2 hl3) ?_) (fun s3 => brN (Int.lt_irrefl _) rfl) (fun r6 => ?_)
  ·refine Imp.idxFor1 (kd := .str) (g1 := fun e => e) hx3 ?_
   refine Imp.idx1 (kd := .str) (g1 := fun e => e) rfl rfl (fun e5 _ => ?_)
   refine ibr ?_ ?_
   ·exact irr
   ·exact Imp.ret (c1 (fun (h1 : Int) => (some (Sum.inl [.l (rStr s1), .l (rStr s2), .i (s1.length : Int), .i h1]) : OLL)) (wrapJ hl3))
  ·cases r6 with
   | inl r6 =>
    refine if0 ?_
    exact irr
   | inr r6 =>
    refine if1 ?_
    exact irr
def g_slices_Equal_Rule_Rule (s1 : List TRule) (s2 : List TRule) : Option Bool :=
 br ((s1.length : Int) != (s2.length : Int)) (
 some false
 ) (
 (forE s1 (fun (i_3 : Nat) (x_3 : TRule) (s3 : Unit) => (
 (getI s2 (i_3 : Int)).bind fun (e5 : TRule) =>
 br (!((x_3.xName == e5.xName) && ((x_3.xColor == e5.xColor) && true))) (
 some (.inr (.inl ()))
 ) (
 some (.inl ())
 )
 : OU)) (fun (s3 : Unit) => (.inr () : Unit ⊕ Unit)) (() : Unit)).bind <|
 Sum.elim
 (fun (r6 : Unit) =>
 some false
 )
 (fun (r6 : Unit) =>
 some true
 )
 )
theorem ei_g_slices_Equal_Rule_Rule (s1 : List TRule) (s2 : List TRule) (k : Bool -> Option M) : Imp (F83 M (RRule s1) (RRule s2) k) (g_slices_Equal_Rule_Rule s1 s2) k := by
 delta F83 P83 g_slices_Equal_Rule_Rule
 refine Imp.br (c2 (fun z0 z1 : Nat => ((z0 : Int) != (z1 : Int))) (T_len (g := TRule.row) s1) (T_len (g := TRule.row) s2)) ?_ ?_
 ·exact irr
 ·refine Imp.for (enc := fun (i_3 : Nat) (s3 : Unit) => [.l (RRule s1), .l (RRule s2), .i (s1.length : Int), .i (i_3 : Int)]) (encR := Sum.elim (fun (u : Unit) => (((0, [.b false]) : Nat × List Leaf))) (fun (u : Unit) => (((1, []) : Nat × List Leaf)))) (c1 (fun (h1 : Int) => ([.l (RRule s1), .l (RRule s2), .i h1, .i 0] : List Leaf)) (c1 (fun z0 : Nat => (z0 : Int)) (T_len (g := TRule.row) s1))) (fun i_3 x_3 s3 hx3 hl3 hm3 => Imp.brT (Int.ofNat_lt.2 hl3) ?_) (fun s3 => brN (Int.lt_irrefl _) rfl) (fun r6 => ?_)
  ·refine Imp.idxFor (g := TRule.row) hx3 ?_
   refine Imp.idx (g := TRule.row) rfl rfl (fun e5 _ => ?_)
   refine ibr ?_ ?_
   ·exact irr
   ·exact Imp.ret (c1 (fun (h1 : Int) => (some (Sum.inl [.l (RRule s1), .l (RRule s2), .i (s1.length : Int), .i h1]) : OLL)) (wrapJ hl3))
  ·cases r6 with
   | inl r6 =>
    refine if0 ?_
    exact irr
   | inr r6 =>
    refine if1 ?_
    exact irr
def iequalSheet (a : TSheet) (b : TSheet) : Option Bool :=
 (g_slices_Equal_Rule_Rule a.xRules b.xRules).bind fun (r1 : Bool) =>
 some r1
theorem ei_iequalSheet (a : TSheet) (b : TSheet) (k : Bool -> Option M) : Imp (F45 M (RRule a.xRules) (RRule b.xRules) k) (iequalSheet a b) k := by
 delta F45 P45 iequalSheet
 refine Imp.call rfl (ei_g_slices_Equal_Rule_Rule a.xRules b.xRules _) (fun r1 _ => ?_)
 exact irr
def iEqualResults (a : TResult) (b : TResult) : Option Bool :=
 (iEqualBuilders a.xBuilder b.xBuilder).bind fun (r1 : Bool) =>
 br r1 (
 (g_slices_Equal_string_string a.xLog b.xLog).bind fun (r2 : Bool) =>
 br r2 (
 (g_slices_Equal_string_string a.xVerdicts b.xVerdicts).bind fun (r3 : Bool) =>
 br r3 (
 (iequalSheet a.xSheet b.xSheet).bind fun (r4 : Bool) =>
 br r4 (
 some (a.xLoaded == b.xLoaded)
 ) (
 some false
 )
 ) (
 some false
 )
 ) (
 some false
 )
 ) (
 some false
 )
theorem ei_iEqualResults (a : TResult) (b : TResult) (k : Bool -> Option M) : Imp (F21 M (RNode a.xBuilder.xNodes) (rInt a.xBuilder.xOpen) (rStr a.xLog) (rStr a.xVerdicts) (RRule a.xSheet.xRules) a.xLoaded (RNode b.xBuilder.xNodes) (rInt b.xBuilder.xOpen) (rStr b.xLog) (rStr b.xVerdicts) (RRule b.xSheet.xRules) b.xLoaded k) (iEqualResults a b) k := by
 delta F21 P21 iEqualResults
 refine Imp.call rfl (ei_iEqualBuilders a.xBuilder b.xBuilder _) (fun r1 _ => ?_)
 refine ibr ?_ ?_
 ·refine Imp.call rfl (ei_g_slices_Equal_string_string a.xLog b.xLog _) (fun r2 _ => ?_)
  refine ibr ?_ ?_
  ·refine Imp.call rfl (ei_g_slices_Equal_string_string a.xVerdicts b.xVerdicts _) (fun r3 _ => ?_)
   refine ibr ?_ ?_
   ·refine Imp.call rfl (ei_iequalSheet a.xSheet b.xSheet _) (fun r4 _ => ?_)
    refine ibr ?_ ?_
    ·exact irr
    ·exact irr
   ·exact irr
  ·exact irr
 ·exact irr
def iSameVisits_1 (x : TVisit) (y : TVisit) : Option Bool :=
 br ((x.xAddr.xHost == y.xAddr.xHost) && ((x.xAddr.xPath == y.xAddr.xPath) && true)) (
 br (x.xKept == y.xKept) (
 (iResultOf x.xPage).bind fun (r1 : TResult) =>
 (iResultOf y.xPage).bind fun (r7 : TResult) =>
 (iEqualResults r1 r7).bind fun (r13 : Bool) =>
 some r13
 ) (
 some false
 )
 ) (
 some false
 )
theorem ei_iSameVisits_1 (x : TVisit) (y : TVisit) (k : Bool -> Option M) : Imp (F20 M x.xAddr.xHost x.xAddr.xPath x.xPage.xAddr.xHost x.xPage.xAddr.xPath x.xPage.xPolicy.xSet (rStr x.xPage.xPolicy.xScripts) (rStr x.xPage.xPolicy.xStyles) (rStr x.xPage.xPolicy.xImages) x.xPage.xPolicy.xNonce x.xPage.xTok.xRest (RToken x.xPage.xQueue) x.xPage.xEnded (RNode x.xPage.xBuilder.xNodes) (rInt x.xPage.xBuilder.xOpen) (RSlot x.xPage.xSlots) (RModule x.xPage.xMods) (RAddr x.xPage.xEntries) x.xPage.xBlock x.xPage.xInline x.xPage.xDeferred x.xPage.xEntered (RAddr x.xPage.xRan) (rStr x.xPage.xLog) x.xPage.xLoaded x.xKept y.xAddr.xHost y.xAddr.xPath y.xPage.xAddr.xHost y.xPage.xAddr.xPath y.xPage.xPolicy.xSet (rStr y.xPage.xPolicy.xScripts) (rStr y.xPage.xPolicy.xStyles) (rStr y.xPage.xPolicy.xImages) y.xPage.xPolicy.xNonce y.xPage.xTok.xRest (RToken y.xPage.xQueue) y.xPage.xEnded (RNode y.xPage.xBuilder.xNodes) (rInt y.xPage.xBuilder.xOpen) (RSlot y.xPage.xSlots) (RModule y.xPage.xMods) (RAddr y.xPage.xEntries) y.xPage.xBlock y.xPage.xInline y.xPage.xDeferred y.xPage.xEntered (RAddr y.xPage.xRan) (rStr y.xPage.xLog) y.xPage.xLoaded y.xKept k) (iSameVisits_1 x y) k := by
 delta F20 P20 iSameVisits_1
 refine ibr ?_ ?_
 ·refine ibr ?_ ?_
  ·refine Imp.call rfl (ei_iResultOf x.xPage _) (fun r1 _ => ?_)
   refine Imp.call rfl (ei_iResultOf y.xPage _) (fun r7 _ => ?_)
   refine Imp.call rfl (ei_iEqualResults r1 r7 _) (fun r13 _ => ?_)
   exact irr
  ·exact irr
 ·exact irr
def g_slices_EqualFunc_Visit_Visit_Visit_Visit_iSameVisits_1 (s1 : List TVisit) (s2 : List TVisit) : Option Bool :=
 br ((s1.length : Int) != (s2.length : Int)) (
 some false
 ) (
 (forE s1 (fun (i_3 : Nat) (x_3 : TVisit) (s3 : Unit) => (
 (getI s2 (i_3 : Int)).bind fun (e5 : TVisit) =>
 (iSameVisits_1 x_3 e5).bind fun (r6 : Bool) =>
 br (!r6) (
 some (.inr (.inl ()))
 ) (
 some (.inl ())
 )
 : OU)) (fun (s3 : Unit) => (.inr () : Unit ⊕ Unit)) (() : Unit)).bind <|
 Sum.elim
 (fun (r7 : Unit) =>
 some false
 )
 (fun (r7 : Unit) =>
 some true
 )
 )
theorem ei_g_slices_EqualFunc_Visit_Visit_Visit_Visit_iSameVisits_1 (s1 : List TVisit) (s2 : List TVisit) (k : Bool -> Option M) : Imp (F19c20 M (RVisit s1) (RVisit s2) k) (g_slices_EqualFunc_Visit_Visit_Visit_Visit_iSameVisits_1 s1 s2) k := by
 delta F19c20 P19c20 g_slices_EqualFunc_Visit_Visit_Visit_Visit_iSameVisits_1
 refine Imp.br (c2 (fun z0 z1 : Nat => ((z0 : Int) != (z1 : Int))) (T_len (g := TVisit.row) s1) (T_len (g := TVisit.row) s2)) ?_ ?_
 ·exact irr
 ·refine Imp.for (enc := fun (i_3 : Nat) (s3 : Unit) => [.l (RVisit s2), .l (RVisit s1), .i (s1.length : Int), .i (i_3 : Int)]) (encR := Sum.elim (fun (u : Unit) => (((0, [.b false]) : Nat × List Leaf))) (fun (u : Unit) => (((1, []) : Nat × List Leaf)))) (c1 (fun (h1 : Int) => ([.l (RVisit s2), .l (RVisit s1), .i h1, .i 0] : List Leaf)) (c1 (fun z0 : Nat => (z0 : Int)) (T_len (g := TVisit.row) s1))) (fun i_3 x_3 s3 hx3 hl3 hm3 => Imp.brT (Int.ofNat_lt.2 hl3) ?_) (fun s3 => brN (Int.lt_irrefl _) rfl) (fun r7 => ?_)
  ·refine Imp.idxFor (g := TVisit.row) hx3 ?_
   refine Imp.idx (g := TVisit.row) rfl rfl (fun e5 _ => ?_)
   refine Imp.call rfl (ei_iSameVisits_1 x_3 e5 _) (fun r6 _ => ?_)
   refine ibr ?_ ?_
   ·exact irr
   ·exact Imp.ret (c1 (fun (h1 : Int) => (some (Sum.inl [.l (RVisit s2), .l (RVisit s1), .i (s1.length : Int), .i h1]) : OLL)) (wrapJ hl3))
  ·cases r7 with
   | inl r7 =>
    refine if0 ?_
    exact irr
   | inr r7 =>
    refine if1 ?_
    exact irr
def iSameVisits (a : TTab) (b : TTab) : Option Bool :=
 br (a.xAt == b.xAt) (
 (g_slices_EqualFunc_Visit_Visit_Visit_Visit_iSameVisits_1 a.xVisits b.xVisits).bind fun (r1 : Bool) =>
 some r1
 ) (
 some false
 )
theorem ei_iSameVisits (a : TTab) (b : TTab) (k : Bool -> Option M) : Imp (F8 M (RVisit a.xVisits) a.xAt (RVisit b.xVisits) b.xAt k) (iSameVisits a b) k := by
 delta F8 P8 iSameVisits
 refine ibr ?_ ?_
 ·refine Imp.call rfl (ei_g_slices_EqualFunc_Visit_Visit_Visit_Visit_iSameVisits_1 a.xVisits b.xVisits _) (fun r1 _ => ?_)
  exact irr
 ·exact irr
def sl37Has (c : TCache) (e : TEntry) : Option Bool :=
 (forE c.xEntries (fun (i_1 : Nat) (x_1 : TEntry) (s1 : Unit) => (
 br ((x_1.xTop == e.xTop) && ((x_1.xTo.xHost == e.xTo.xHost) && ((x_1.xTo.xPath == e.xTo.xPath) && ((x_1.xResponse.xStatus == e.xResponse.xStatus) && ((x_1.xResponse.xKind == e.xResponse.xKind) && ((x_1.xResponse.xBody == e.xResponse.xBody) && ((x_1.xResponse.xAge == e.xResponse.xAge) && ((x_1.xResponse.xShares == e.xResponse.xShares) && ((x_1.xResponse.xPolicy == e.xResponse.xPolicy) && ((x_1.xUntil == e.xUntil) && true)))))))))) (
 some (.inr (.inl ()))
 ) (
 some (.inl ())
 )
 : OU)) (fun (s1 : Unit) => (.inr () : Unit ⊕ Unit)) (() : Unit)).bind <|
 Sum.elim
 (fun (r3 : Unit) =>
 some true
 )
 (fun (r3 : Unit) =>
 some false
 )
theorem ei_sl37Has (c : TCache) (e : TEntry) (k : Bool -> Option M) : Imp (F56 M (REntry c.xEntries) e.xTop e.xTo.xHost e.xTo.xPath e.xResponse.xStatus e.xResponse.xKind e.xResponse.xBody e.xResponse.xAge e.xResponse.xShares e.xResponse.xPolicy e.xUntil k) (sl37Has c e) k := by
 delta F56 P56 sl37Has
 refine Imp.for (enc := fun (i_1 : Nat) (s1 : Unit) => (.i (i_1 : Int) :: .l (REntry c.xEntries) :: tl1 e)) (encR := Sum.elim (fun (u : Unit) => (((0, [.b true]) : Nat × List Leaf))) (fun (u : Unit) => (((1, []) : Nat × List Leaf)))) rfl (fun i_1 x_1 s1 hx1 hl1 hm1 => Imp.brT (T_lt (g := TEntry.row) hl1) ?_) (fun s1 => brN (T_irr (g := TEntry.row) c.xEntries) rfl) (fun r3 => ?_)
 ·refine Imp.idxFor (g := TEntry.row) hx1 ?_
  refine ibr ?_ ?_
  ·exact irr
  ·exact Imp.ret (c1 (fun (h1 : Int) => (some (Sum.inl (.i h1 :: .l (REntry c.xEntries) :: tl1 e)) : OLL)) (wrapJ hl1))
 ·cases r3 with
  | inl r3 =>
   refine if0 ?_
   exact irr
  | inr r3 =>
   refine if1 ?_
   exact irr
def sSameCaches (a : TCache) (b : TCache) : Option Bool :=
 (forE a.xEntries (fun (i_1 : Nat) (x_1 : TEntry) (s1 : Unit) => (
 (sl37Has b x_1).bind fun (r3 : Bool) =>
 br (!r3) (
 some (.inr (.inl ()))
 ) (
 some (.inl ())
 )
 : OU)) (fun (s1 : Unit) => (.inr () : Unit ⊕ Unit)) (() : Unit)).bind <|
 Sum.elim
 (fun (r4 : Unit) =>
 some false
 )
 (fun (r4 : Unit) =>
 (forE b.xEntries (fun (i_5 : Nat) (x_5 : TEntry) (s5 : Unit) => (
 (sl37Has a x_5).bind fun (r7 : Bool) =>
 br (!r7) (
 some (.inr (.inl ()))
 ) (
 some (.inl ())
 )
 : OU)) (fun (s5 : Unit) => (.inr () : Unit ⊕ Unit)) (() : Unit)).bind <|
 Sum.elim
 (fun (r8 : Unit) =>
 some false
 )
 (fun (r8 : Unit) =>
 some true
 )
 )
theorem ei_sSameCaches (a : TCache) (b : TCache) (k : Bool -> Option M) : Imp (F26 M (REntry a.xEntries) (REntry b.xEntries) k) (sSameCaches a b) k := by
 delta F26 P26 sSameCaches
 refine Imp.for (enc := fun (i_1 : Nat) (s1 : Unit) => [.i (i_1 : Int), .l (REntry a.xEntries), .l (REntry b.xEntries)]) (encR := Sum.elim (fun (u : Unit) => (((0, [.b false, .l (REntry a.xEntries), .l (REntry b.xEntries)]) : Nat × List Leaf))) (fun (u : Unit) => (((1, [.l (REntry a.xEntries), .l (REntry b.xEntries)]) : Nat × List Leaf)))) rfl (fun i_1 x_1 s1 hx1 hl1 hm1 => Imp.brT (T_lt (g := TEntry.row) hl1) ?_) (fun s1 => brN (T_irr (g := TEntry.row) a.xEntries) rfl) (fun r4 => ?_)
 ·refine Imp.idxFor (g := TEntry.row) hx1 ?_
  refine Imp.call rfl (ei_sl37Has b x_1 _) (fun r3 _ => ?_)
  refine ibr ?_ ?_
  ·exact irr
  ·exact Imp.ret (c1 (fun (h1 : Int) => (some (Sum.inl [.i h1, .l (REntry a.xEntries), .l (REntry b.xEntries)]) : OLL)) (wrapJ hl1))
 ·cases r4 with
  | inl r4 =>
   refine if0 ?_
   exact irr
  | inr r4 =>
   refine if1 ?_
   refine Imp.for (enc := fun (i_5 : Nat) (s5 : Unit) => [.i (i_5 : Int), .l (REntry a.xEntries), .l (REntry b.xEntries)]) (encR := Sum.elim (fun (u : Unit) => (((0, [.b false]) : Nat × List Leaf))) (fun (u : Unit) => (((1, []) : Nat × List Leaf)))) rfl (fun i_5 x_5 s5 hx5 hl5 hm5 => Imp.brT (T_lt (g := TEntry.row) hl5) ?_) (fun s5 => brN (T_irr (g := TEntry.row) b.xEntries) rfl) (fun r8 => ?_)
   ·refine Imp.idxFor (g := TEntry.row) hx5 ?_
    refine Imp.call rfl (ei_sl37Has a x_5 _) (fun r7 _ => ?_)
    refine ibr ?_ ?_
    ·exact irr
    ·exact Imp.ret (c1 (fun (h1 : Int) => (some (Sum.inl [.i h1, .l (REntry a.xEntries), .l (REntry b.xEntries)]) : OLL)) (wrapJ hl5))
   ·cases r8 with
    | inl r8 =>
     refine if0 ?_
     exact irr
    | inr r8 =>
     refine if1 ?_
     exact irr
def sEqualServers (a : List TServer) (b : List TServer) : Option Bool :=
 br ((a.length : Int) != (b.length : Int)) (
 some false
 ) (
 (forE a (fun (i_1 : Nat) (x_1 : TServer) (s1 : Unit) => (
 (getI b (i_1 : Int)).bind fun (e3 : TServer) =>
 br (!(x_1.xHost == e3.xHost)) (
 some (.inr (.inl ()))
 ) (
 (getI b (i_1 : Int)).bind fun (e5 : TServer) =>
 br ((x_1.xFiles.length : Int) != (e5.xFiles.length : Int)) (
 some (.inr (.inl ()))
 ) (
 (whileE (fun (s6 : Int) => (
 br (decide (s6 < (x_1.xFiles.length : Int))) (
 (getI x_1.xFiles s6).bind fun (e9 : TFile) =>
 (getI b (i_1 : Int)).bind fun (e10 : TServer) =>
 (getI e10.xFiles s6).bind fun (e11 : TFile) =>
 br (!((e9.xPath == e11.xPath) && ((e9.xResponse.xStatus == e11.xResponse.xStatus) && ((e9.xResponse.xKind == e11.xResponse.xKind) && ((e9.xResponse.xBody == e11.xResponse.xBody) && ((e9.xResponse.xAge == e11.xResponse.xAge) && ((e9.xResponse.xShares == e11.xResponse.xShares) && ((e9.xResponse.xPolicy == e11.xResponse.xPolicy) && true)))))))) (
 some (.inr (.inl ()))
 ) (
 some (.inl (IntKind.wrap .i64 (s6 + 1)))
 )
 ) (
 some (.inr (.inr ()))
 )
 : Option (Int ⊕ (Unit ⊕ Unit)))) (0 : Int)).bind <|
 Sum.elim
 (fun (r12 : Unit) =>
 some (.inr (.inl ()))
 )
 (fun (r12 : Unit) =>
 some (.inl ())
 )
 )
 )
 : OU)) (fun (s1 : Unit) => (.inr () : Unit ⊕ Unit)) (() : Unit)).bind <|
 Sum.elim
 (fun (r13 : Unit) =>
 some false
 )
 (fun (r13 : Unit) =>
 some true
 )
 )
theorem ei_sEqualServers (a : List TServer) (b : List TServer) (k : Bool -> Option M) : Imp (F27 M (RServer a) (RServer b) k) (sEqualServers a b) k := by
 delta F27 P27 sEqualServers
 refine Imp.br (c2 (fun z0 z1 : Nat => ((z0 : Int) != (z1 : Int))) (T_len (g := TServer.row) a) (T_len (g := TServer.row) b)) ?_ ?_
 ·exact irr
 ·refine Imp.for (enc := fun (i_1 : Nat) (s1 : Unit) => [.l (RServer a), .l (RServer b), .i (i_1 : Int)]) (encR := Sum.elim (fun (u : Unit) => (((0, [.b false]) : Nat × List Leaf))) (fun (u : Unit) => (((1, []) : Nat × List Leaf)))) rfl (fun i_1 x_1 s1 hx1 hl1 hm1 => Imp.brT (T_lt (g := TServer.row) hl1) ?_) (fun s1 => brN (T_irr (g := TServer.row) a) rfl) (fun r13 => ?_)
  ·refine Imp.idxFor (g := TServer.row) hx1 ?_
   refine Imp.idx (g := TServer.row) rfl rfl (fun e3 _ => ?_)
   refine ibr ?_ ?_
   ·exact irr
   ·refine Imp.idxFor (g := TServer.row) hx1 ?_
    refine Imp.idx (g := TServer.row) rfl rfl (fun e5 _ => ?_)
    refine Imp.br (c2 (fun z0 z1 : Nat => ((z0 : Int) != (z1 : Int))) (T_len (g := TFile.row) x_1.xFiles) (T_len (g := TFile.row) e5.xFiles)) ?_ ?_
    ·exact irr
    ·refine Imp.while (enc := fun (s6 : Int) => [.l (RServer a), .l (RServer b), .i (i_1 : Int), .i s6]) (encR := Sum.elim (fun (u : Unit) => (((0, [.l (RServer a), .l (RServer b), .b false, .i (i_1 : Int)]) : Nat × List Leaf))) (fun (u : Unit) => (((1, [.l (RServer a), .l (RServer b), .i (i_1 : Int)]) : Nat × List Leaf)))) rfl (fun s6 => ?_) (fun r12 => ?_)
     ·refine Imp.idxFor (g := TServer.row) hx1 ?_
      refine Imp.br (c1 (fun z0 : Nat => (decide (s6 < (z0 : Int)))) (T_len (g := TFile.row) x_1.xFiles)) ?_ ?_
      ·refine Imp.idxFor (g := TServer.row) hx1 ?_
       refine Imp.idx (g := TFile.row) rfl rfl (fun e9 _ => ?_)
       refine Imp.idx (g := TServer.row) rfl rfl (fun e10 _ => ?_)
       refine Imp.idx (g := TFile.row) rfl rfl (fun e11 _ => ?_)
       refine ibr ?_ ?_
       ·exact irr
       ·exact irr
      ·exact irr
     ·cases r12 with
      | inl r12 =>
       refine if0 ?_
       exact irr
      | inr r12 =>
       refine if1 ?_
       exact Imp.ret (c1 (fun (h1 : Int) => (some (Sum.inl [.l (RServer a), .l (RServer b), .i h1]) : OLL)) (wrapJ hl1))
  ·cases r13 with
   | inl r13 =>
    refine if0 ?_
    exact irr
   | inr r13 =>
    refine if1 ?_
    exact irr
def sIsEquivalent (a : TWorld) (b : TWorld) : Option Bool :=
 (sSameVisits a.xTab b.xTab).bind fun (r1 : Bool) =>
 br r1 (
 (sSameCaches a.xNet.xCache b.xNet.xCache).bind fun (r2 : Bool) =>
 br r2 (
 (sEqualServers a.xNet.xServers b.xNet.xServers).bind fun (r3 : Bool) =>
 br r3 (
 some (a.xNet.xNow == b.xNet.xNow)
 ) (
 some false
 )
 ) (
 some false
 )
 ) (
 some false
 )
theorem ei_sIsEquivalent (a : TWorld) (b : TWorld) (k : Bool -> Option M) : Imp (F11 M (RServer a.xNet.xServers) (REntry a.xNet.xCache.xEntries) (RSent a.xNet.xLog) a.xNet.xNow (RVisit a.xTab.xVisits) a.xTab.xAt a.xHidden.xReady a.xHidden.xPage.xAddr.xHost a.xHidden.xPage.xAddr.xPath a.xHidden.xPage.xPolicy.xSet (rStr a.xHidden.xPage.xPolicy.xScripts) (rStr a.xHidden.xPage.xPolicy.xStyles) (rStr a.xHidden.xPage.xPolicy.xImages) a.xHidden.xPage.xPolicy.xNonce a.xHidden.xPage.xTok.xRest (RToken a.xHidden.xPage.xQueue) a.xHidden.xPage.xEnded (RNode a.xHidden.xPage.xBuilder.xNodes) (rInt a.xHidden.xPage.xBuilder.xOpen) (RSlot a.xHidden.xPage.xSlots) (RModule a.xHidden.xPage.xMods) (RAddr a.xHidden.xPage.xEntries) a.xHidden.xPage.xBlock a.xHidden.xPage.xInline a.xHidden.xPage.xDeferred a.xHidden.xPage.xEntered (RAddr a.xHidden.xPage.xRan) (rStr a.xHidden.xPage.xLog) a.xHidden.xPage.xLoaded (RKept a.xHidden.xTaken) (RServer a.xHidden.xServers) a.xHidden.xNow a.xFast (RServer b.xNet.xServers) (REntry b.xNet.xCache.xEntries) (RSent b.xNet.xLog) b.xNet.xNow (RVisit b.xTab.xVisits) b.xTab.xAt b.xHidden.xReady b.xHidden.xPage.xAddr.xHost b.xHidden.xPage.xAddr.xPath b.xHidden.xPage.xPolicy.xSet (rStr b.xHidden.xPage.xPolicy.xScripts) (rStr b.xHidden.xPage.xPolicy.xStyles) (rStr b.xHidden.xPage.xPolicy.xImages) b.xHidden.xPage.xPolicy.xNonce b.xHidden.xPage.xTok.xRest (RToken b.xHidden.xPage.xQueue) b.xHidden.xPage.xEnded (RNode b.xHidden.xPage.xBuilder.xNodes) (rInt b.xHidden.xPage.xBuilder.xOpen) (RSlot b.xHidden.xPage.xSlots) (RModule b.xHidden.xPage.xMods) (RAddr b.xHidden.xPage.xEntries) b.xHidden.xPage.xBlock b.xHidden.xPage.xInline b.xHidden.xPage.xDeferred b.xHidden.xPage.xEntered (RAddr b.xHidden.xPage.xRan) (rStr b.xHidden.xPage.xLog) b.xHidden.xPage.xLoaded (RKept b.xHidden.xTaken) (RServer b.xHidden.xServers) b.xHidden.xNow b.xFast k) (sIsEquivalent a b) k := by
 delta F11 P11 sIsEquivalent
 refine Imp.call rfl (ei_sSameVisits a.xTab b.xTab _) (fun r1 _ => ?_)
 refine ibr ?_ ?_
 ·refine Imp.call rfl (ei_sSameCaches a.xNet.xCache b.xNet.xCache _) (fun r2 _ => ?_)
  refine ibr ?_ ?_
  ·refine Imp.call rfl (ei_sEqualServers a.xNet.xServers b.xNet.xServers _) (fun r3 _ => ?_)
   refine ibr ?_ ?_
   ·exact irr
   ·exact irr
  ·exact irr
 ·exact irr
def g_slices_Index_Entry_Entry (s : List TEntry) (v : TEntry) : Option Int :=
 (forE s (fun (i_1 : Nat) (x_1 : TEntry) (s1 : Unit) => (
 br ((v.xTop == x_1.xTop) && ((v.xTo.xHost == x_1.xTo.xHost) && ((v.xTo.xPath == x_1.xTo.xPath) && ((v.xResponse.xStatus == x_1.xResponse.xStatus) && ((v.xResponse.xKind == x_1.xResponse.xKind) && ((v.xResponse.xBody == x_1.xResponse.xBody) && ((v.xResponse.xAge == x_1.xResponse.xAge) && ((v.xResponse.xShares == x_1.xResponse.xShares) && ((v.xResponse.xPolicy == x_1.xResponse.xPolicy) && ((v.xUntil == x_1.xUntil) && true)))))))))) (
 some (.inr (.inl (i_1 : Int)))
 ) (
 some (.inl ())
 )
 : Option (Unit ⊕ (Int ⊕ Unit)))) (fun (s1 : Unit) => (.inr () : Int ⊕ Unit)) (() : Unit)).bind <|
 Sum.elim
 (fun (r3 : Int) =>
 some r3
 )
 (fun (r3 : Unit) =>
 some (-1)
 )
theorem ei_g_slices_Index_Entry_Entry (s : List TEntry) (v : TEntry) (k : Int -> Option M) : Imp (F162 M (REntry s) v.xTop v.xTo.xHost v.xTo.xPath v.xResponse.xStatus v.xResponse.xKind v.xResponse.xBody v.xResponse.xAge v.xResponse.xShares v.xResponse.xPolicy v.xUntil k) (g_slices_Index_Entry_Entry s v) k := by
 delta F162 P162 g_slices_Index_Entry_Entry
 refine Imp.for (enc := fun (i_1 : Nat) (s1 : Unit) => (.l (REntry s) :: .i (s.length : Int) :: .i (i_1 : Int) :: tl1 v)) (encR := Sum.elim (fun (u : Int) => (((0, [.i u]) : Nat × List Leaf))) (fun (u : Unit) => (((1, []) : Nat × List Leaf)))) (c1 (fun (h1 : Int) => ((.l (REntry s) :: .i h1 :: .i 0 :: tl1 v) : List Leaf)) (c1 (fun z0 : Nat => (z0 : Int)) (T_len (g := TEntry.row) s))) (fun i_1 x_1 s1 hx1 hl1 hm1 => Imp.brT (Int.ofNat_lt.2 hl1) ?_) (fun s1 => brN (Int.lt_irrefl _) rfl) (fun r3 => ?_)
 ·refine Imp.idxFor (g := TEntry.row) hx1 ?_
  refine ibr ?_ ?_
  ·exact irr
  ·exact Imp.ret (c1 (fun (h1 : Int) => (some (Sum.inl (.l (REntry s) :: .i (s.length : Int) :: .i h1 :: tl1 v)) : OLL)) (wrapJ hl1))
 ·cases r3 with
  | inl r3 =>
   refine if0 ?_
   exact irr
  | inr r3 =>
   refine if1 ?_
   exact irr
def g_slices_Contains_Entry_Entry (s : List TEntry) (v : TEntry) : Option Bool :=
 (g_slices_Index_Entry_Entry s v).bind fun (r1 : Int) =>
 some (decide (r1 >= 0))
theorem ei_g_slices_Contains_Entry_Entry (s : List TEntry) (v : TEntry) (k : Bool -> Option M) : Imp (F115 M (REntry s) v.xTop v.xTo.xHost v.xTo.xPath v.xResponse.xStatus v.xResponse.xKind v.xResponse.xBody v.xResponse.xAge v.xResponse.xShares v.xResponse.xPolicy v.xUntil k) (g_slices_Contains_Entry_Entry s v) k := by
 delta F115 P115 g_slices_Contains_Entry_Entry
 refine Imp.call rfl (ei_g_slices_Index_Entry_Entry s v _) (fun r1 _ => ?_)
 exact irr
def icoveredBy (a : TCache) (b : TCache) : Option Bool :=
 (forE a.xEntries (fun (i_1 : Nat) (x_1 : TEntry) (s1 : Unit) => (
 (g_slices_Contains_Entry_Entry b.xEntries x_1).bind fun (r3 : Bool) =>
 br (!r3) (
 some (.inr (.inl ()))
 ) (
 some (.inl ())
 )
 : OU)) (fun (s1 : Unit) => (.inr () : Unit ⊕ Unit)) (() : Unit)).bind <|
 Sum.elim
 (fun (r4 : Unit) =>
 some false
 )
 (fun (r4 : Unit) =>
 some true
 )
theorem ei_icoveredBy (a : TCache) (b : TCache) (k : Bool -> Option M) : Imp (F62 M (REntry a.xEntries) (REntry b.xEntries) k) (icoveredBy a b) k := by
 delta F62 P62 icoveredBy
 refine Imp.for (enc := fun (i_1 : Nat) (s1 : Unit) => [.l (REntry a.xEntries), .i (a.xEntries.length : Int), .i (i_1 : Int), .l (REntry b.xEntries)]) (encR := Sum.elim (fun (u : Unit) => (((0, [.b false]) : Nat × List Leaf))) (fun (u : Unit) => (((1, []) : Nat × List Leaf)))) (c1 (fun (h1 : Int) => ([.l (REntry a.xEntries), .i h1, .i 0, .l (REntry b.xEntries)] : List Leaf)) (c1 (fun z0 : Nat => (z0 : Int)) (T_len (g := TEntry.row) a.xEntries))) (fun i_1 x_1 s1 hx1 hl1 hm1 => Imp.brT (Int.ofNat_lt.2 hl1) ?_) (fun s1 => brN (Int.lt_irrefl _) rfl) (fun r4 => ?_)
 ·refine Imp.idxFor (g := TEntry.row) hx1 ?_
  refine Imp.call rfl (ei_g_slices_Contains_Entry_Entry b.xEntries x_1 _) (fun r3 _ => ?_)
  refine ibr ?_ ?_
  ·exact irr
  ·exact Imp.ret (c1 (fun (h1 : Int) => (some (Sum.inl [.l (REntry a.xEntries), .i (a.xEntries.length : Int), .i h1, .l (REntry b.xEntries)]) : OLL)) (wrapJ hl1))
 ·cases r4 with
  | inl r4 =>
   refine if0 ?_
   exact irr
  | inr r4 =>
   refine if1 ?_
   exact irr
def iSameCaches (a : TCache) (b : TCache) : Option Bool :=
 (icoveredBy a b).bind fun (r1 : Bool) =>
 br r1 (
 (icoveredBy b a).bind fun (r2 : Bool) =>
 some r2
 ) (
 some false
 )
theorem ei_iSameCaches (a : TCache) (b : TCache) (k : Bool -> Option M) : Imp (F30 M (REntry a.xEntries) (REntry b.xEntries) k) (iSameCaches a b) k := by
 delta F30 P30 iSameCaches
 refine Imp.call rfl (ei_icoveredBy a b _) (fun r1 _ => ?_)
 refine ibr ?_ ?_
 ·refine Imp.call rfl (ei_icoveredBy b a _) (fun r2 _ => ?_)
  exact irr
 ·exact irr
def g_slices_Equal_File_File (s1 : List TFile) (s2 : List TFile) : Option Bool :=
 br ((s1.length : Int) != (s2.length : Int)) (
 some false
 ) (
 (forE s1 (fun (i_3 : Nat) (x_3 : TFile) (s3 : Unit) => (
 (getI s2 (i_3 : Int)).bind fun (e5 : TFile) =>
 br (!((x_3.xPath == e5.xPath) && ((x_3.xResponse.xStatus == e5.xResponse.xStatus) && ((x_3.xResponse.xKind == e5.xResponse.xKind) && ((x_3.xResponse.xBody == e5.xResponse.xBody) && ((x_3.xResponse.xAge == e5.xResponse.xAge) && ((x_3.xResponse.xShares == e5.xResponse.xShares) && ((x_3.xResponse.xPolicy == e5.xResponse.xPolicy) && true)))))))) (
 some (.inr (.inl ()))
 ) (
 some (.inl ())
 )
 : OU)) (fun (s3 : Unit) => (.inr () : Unit ⊕ Unit)) (() : Unit)).bind <|
 Sum.elim
 (fun (r6 : Unit) =>
 some false
 )
 (fun (r6 : Unit) =>
 some true
 )
 )
theorem ei_g_slices_Equal_File_File (s1 : List TFile) (s2 : List TFile) (k : Bool -> Option M) : Imp (F65 M (RFile s1) (RFile s2) k) (g_slices_Equal_File_File s1 s2) k := by
 delta F65 P65 g_slices_Equal_File_File
 refine Imp.br (c2 (fun z0 z1 : Nat => ((z0 : Int) != (z1 : Int))) (T_len (g := TFile.row) s1) (T_len (g := TFile.row) s2)) ?_ ?_
 ·exact irr
 ·refine Imp.for (enc := fun (i_3 : Nat) (s3 : Unit) => [.l (RFile s1), .l (RFile s2), .i (s1.length : Int), .i (i_3 : Int)]) (encR := Sum.elim (fun (u : Unit) => (((0, [.b false]) : Nat × List Leaf))) (fun (u : Unit) => (((1, []) : Nat × List Leaf)))) (c1 (fun (h1 : Int) => ([.l (RFile s1), .l (RFile s2), .i h1, .i 0] : List Leaf)) (c1 (fun z0 : Nat => (z0 : Int)) (T_len (g := TFile.row) s1))) (fun i_3 x_3 s3 hx3 hl3 hm3 => Imp.brT (Int.ofNat_lt.2 hl3) ?_) (fun s3 => brN (Int.lt_irrefl _) rfl) (fun r6 => ?_)
  ·refine Imp.idxFor (g := TFile.row) hx3 ?_
   refine Imp.idx (g := TFile.row) rfl rfl (fun e5 _ => ?_)
   refine ibr ?_ ?_
   ·exact irr
   ·exact Imp.ret (c1 (fun (h1 : Int) => (some (Sum.inl [.l (RFile s1), .l (RFile s2), .i (s1.length : Int), .i h1]) : OLL)) (wrapJ hl3))
  ·cases r6 with
   | inl r6 =>
    refine if0 ?_
    exact irr
   | inr r6 =>
    refine if1 ?_
    exact irr
def iEqualServers_1 (x : TServer) (y : TServer) : Option Bool :=
 br (x.xHost == y.xHost) (
 (g_slices_Equal_File_File x.xFiles y.xFiles).bind fun (r1 : Bool) =>
 some r1
 ) (
 some false
 )
theorem ei_iEqualServers_1 (x : TServer) (y : TServer) (k : Bool -> Option M) : Imp (F64 M x.xHost (RFile x.xFiles) y.xHost (RFile y.xFiles) k) (iEqualServers_1 x y) k := by
 delta F64 P64 iEqualServers_1
 refine ibr ?_ ?_
 ·refine Imp.call rfl (ei_g_slices_Equal_File_File x.xFiles y.xFiles _) (fun r1 _ => ?_)
  exact irr
 ·exact irr
def g_slices_EqualFunc_Server_Server_Server_Server_iEqualServers_1 (s1 : List TServer) (s2 : List TServer) : Option Bool :=
 br ((s1.length : Int) != (s2.length : Int)) (
 some false
 ) (
 (forE s1 (fun (i_3 : Nat) (x_3 : TServer) (s3 : Unit) => (
 (getI s2 (i_3 : Int)).bind fun (e5 : TServer) =>
 (iEqualServers_1 x_3 e5).bind fun (r6 : Bool) =>
 br (!r6) (
 some (.inr (.inl ()))
 ) (
 some (.inl ())
 )
 : OU)) (fun (s3 : Unit) => (.inr () : Unit ⊕ Unit)) (() : Unit)).bind <|
 Sum.elim
 (fun (r7 : Unit) =>
 some false
 )
 (fun (r7 : Unit) =>
 some true
 )
 )
theorem ei_g_slices_EqualFunc_Server_Server_Server_Server_iEqualServers_1 (s1 : List TServer) (s2 : List TServer) (k : Bool -> Option M) : Imp (F63c64 M (RServer s1) (RServer s2) k) (g_slices_EqualFunc_Server_Server_Server_Server_iEqualServers_1 s1 s2) k := by
 delta F63c64 P63c64 g_slices_EqualFunc_Server_Server_Server_Server_iEqualServers_1
 refine Imp.br (c2 (fun z0 z1 : Nat => ((z0 : Int) != (z1 : Int))) (T_len (g := TServer.row) s1) (T_len (g := TServer.row) s2)) ?_ ?_
 ·exact irr
 ·refine Imp.for (enc := fun (i_3 : Nat) (s3 : Unit) => [.l (RServer s2), .l (RServer s1), .i (s1.length : Int), .i (i_3 : Int)]) (encR := Sum.elim (fun (u : Unit) => (((0, [.b false]) : Nat × List Leaf))) (fun (u : Unit) => (((1, []) : Nat × List Leaf)))) (c1 (fun (h1 : Int) => ([.l (RServer s2), .l (RServer s1), .i h1, .i 0] : List Leaf)) (c1 (fun z0 : Nat => (z0 : Int)) (T_len (g := TServer.row) s1))) (fun i_3 x_3 s3 hx3 hl3 hm3 => Imp.brT (Int.ofNat_lt.2 hl3) ?_) (fun s3 => brN (Int.lt_irrefl _) rfl) (fun r7 => ?_)
  ·refine Imp.idxFor (g := TServer.row) hx3 ?_
   refine Imp.idx (g := TServer.row) rfl rfl (fun e5 _ => ?_)
   refine Imp.call rfl (ei_iEqualServers_1 x_3 e5 _) (fun r6 _ => ?_)
   refine ibr ?_ ?_
   ·exact irr
   ·exact Imp.ret (c1 (fun (h1 : Int) => (some (Sum.inl [.l (RServer s2), .l (RServer s1), .i (s1.length : Int), .i h1]) : OLL)) (wrapJ hl3))
  ·cases r7 with
   | inl r7 =>
    refine if0 ?_
    exact irr
   | inr r7 =>
    refine if1 ?_
    exact irr
def iEqualServers (a : List TServer) (b : List TServer) : Option Bool :=
 (g_slices_EqualFunc_Server_Server_Server_Server_iEqualServers_1 a b).bind fun (r1 : Bool) =>
 some r1
theorem ei_iEqualServers (a : List TServer) (b : List TServer) (k : Bool -> Option M) : Imp (F31 M (RServer a) (RServer b) k) (iEqualServers a b) k := by
 delta F31 P31 iEqualServers
 refine Imp.call rfl (ei_g_slices_EqualFunc_Server_Server_Server_Server_iEqualServers_1 a b _) (fun r1 _ => ?_)
 exact irr
def iIsEquivalent (a : TWorld) (b : TWorld) : Option Bool :=
 (iSameVisits a.xTab b.xTab).bind fun (r1 : Bool) =>
 br r1 (
 (iSameCaches a.xNet.xCache b.xNet.xCache).bind fun (r2 : Bool) =>
 br r2 (
 (iEqualServers a.xNet.xServers b.xNet.xServers).bind fun (r3 : Bool) =>
 br r3 (
 some (a.xNet.xNow == b.xNet.xNow)
 ) (
 some false
 )
 ) (
 some false
 )
 ) (
 some false
 )
theorem ei_iIsEquivalent (a : TWorld) (b : TWorld) (k : Bool -> Option M) : Imp (F13 M (RServer a.xNet.xServers) (REntry a.xNet.xCache.xEntries) (RSent a.xNet.xLog) a.xNet.xNow (RVisit a.xTab.xVisits) a.xTab.xAt a.xHidden.xReady a.xHidden.xPage.xAddr.xHost a.xHidden.xPage.xAddr.xPath a.xHidden.xPage.xPolicy.xSet (rStr a.xHidden.xPage.xPolicy.xScripts) (rStr a.xHidden.xPage.xPolicy.xStyles) (rStr a.xHidden.xPage.xPolicy.xImages) a.xHidden.xPage.xPolicy.xNonce a.xHidden.xPage.xTok.xRest (RToken a.xHidden.xPage.xQueue) a.xHidden.xPage.xEnded (RNode a.xHidden.xPage.xBuilder.xNodes) (rInt a.xHidden.xPage.xBuilder.xOpen) (RSlot a.xHidden.xPage.xSlots) (RModule a.xHidden.xPage.xMods) (RAddr a.xHidden.xPage.xEntries) a.xHidden.xPage.xBlock a.xHidden.xPage.xInline a.xHidden.xPage.xDeferred a.xHidden.xPage.xEntered (RAddr a.xHidden.xPage.xRan) (rStr a.xHidden.xPage.xLog) a.xHidden.xPage.xLoaded (RKept a.xHidden.xTaken) (RServer a.xHidden.xServers) a.xHidden.xNow a.xFast (RServer b.xNet.xServers) (REntry b.xNet.xCache.xEntries) (RSent b.xNet.xLog) b.xNet.xNow (RVisit b.xTab.xVisits) b.xTab.xAt b.xHidden.xReady b.xHidden.xPage.xAddr.xHost b.xHidden.xPage.xAddr.xPath b.xHidden.xPage.xPolicy.xSet (rStr b.xHidden.xPage.xPolicy.xScripts) (rStr b.xHidden.xPage.xPolicy.xStyles) (rStr b.xHidden.xPage.xPolicy.xImages) b.xHidden.xPage.xPolicy.xNonce b.xHidden.xPage.xTok.xRest (RToken b.xHidden.xPage.xQueue) b.xHidden.xPage.xEnded (RNode b.xHidden.xPage.xBuilder.xNodes) (rInt b.xHidden.xPage.xBuilder.xOpen) (RSlot b.xHidden.xPage.xSlots) (RModule b.xHidden.xPage.xMods) (RAddr b.xHidden.xPage.xEntries) b.xHidden.xPage.xBlock b.xHidden.xPage.xInline b.xHidden.xPage.xDeferred b.xHidden.xPage.xEntered (RAddr b.xHidden.xPage.xRan) (rStr b.xHidden.xPage.xLog) b.xHidden.xPage.xLoaded (RKept b.xHidden.xTaken) (RServer b.xHidden.xServers) b.xHidden.xNow b.xFast k) (iIsEquivalent a b) k := by
 delta F13 P13 iIsEquivalent
 refine Imp.call rfl (ei_iSameVisits a.xTab b.xTab _) (fun r1 _ => ?_)
 refine ibr ?_ ?_
 ·refine Imp.call rfl (ei_iSameCaches a.xNet.xCache b.xNet.xCache _) (fun r2 _ => ?_)
  refine ibr ?_ ?_
  ·refine Imp.call rfl (ei_iEqualServers a.xNet.xServers b.xNet.xServers _) (fun r3 _ => ?_)
   refine ibr ?_ ?_
   ·exact irr
   ·exact irr
  ·exact irr
 ·exact irr
def lFnExactIsEquivalent (aA : TWorld) (aB : TWorld) : Option Bool :=
 (lszWorld aA 1048576).bind fun (r1 : Int) =>
 br (decide (r1 < 0)) (
 some true
 ) (
 (lszWorld aB r1).bind fun (r2 : Int) =>
 br (decide (r2 < 0)) (
 some true
 ) (
 (ltoWorld aA).bind fun (r3 : TWorld) =>
 (ltoWorld aB).bind fun (r36 : TWorld) =>
 (sIsEquivalent r3 r36).bind fun (r69 : Bool) =>
 (ltoWorld aA).bind fun (r70 : TWorld) =>
 (ltoWorld aB).bind fun (r103 : TWorld) =>
 (iIsEquivalent r70 r103).bind fun (r136 : Bool) =>
 br (!(r136 == r69)) (
 some false
 ) (
 (ltoWorld aA).bind fun (r137 : TWorld) =>
 (leqWorld r70 r137).bind fun (r170 : Bool) =>
 br (!r170) (
 some false
 ) (
 (ltoWorld aB).bind fun (r171 : TWorld) =>
 (leqWorld r103 r171).bind fun (r204 : Bool) =>
 br (!r204) (
 some false
 ) (
 some true
 )
 )
 )
 )
 )
theorem ei_lFnExactIsEquivalent (aA : TWorld) (aB : TWorld) (k : Bool -> Option M) : Imp (F4 M (RServer aA.xNet.xServers) (REntry aA.xNet.xCache.xEntries) (RSent aA.xNet.xLog) aA.xNet.xNow (RVisit aA.xTab.xVisits) aA.xTab.xAt aA.xHidden.xReady aA.xHidden.xPage.xAddr.xHost aA.xHidden.xPage.xAddr.xPath aA.xHidden.xPage.xPolicy.xSet (rStr aA.xHidden.xPage.xPolicy.xScripts) (rStr aA.xHidden.xPage.xPolicy.xStyles) (rStr aA.xHidden.xPage.xPolicy.xImages) aA.xHidden.xPage.xPolicy.xNonce aA.xHidden.xPage.xTok.xRest (RToken aA.xHidden.xPage.xQueue) aA.xHidden.xPage.xEnded (RNode aA.xHidden.xPage.xBuilder.xNodes) (rInt aA.xHidden.xPage.xBuilder.xOpen) (RSlot aA.xHidden.xPage.xSlots) (RModule aA.xHidden.xPage.xMods) (RAddr aA.xHidden.xPage.xEntries) aA.xHidden.xPage.xBlock aA.xHidden.xPage.xInline aA.xHidden.xPage.xDeferred aA.xHidden.xPage.xEntered (RAddr aA.xHidden.xPage.xRan) (rStr aA.xHidden.xPage.xLog) aA.xHidden.xPage.xLoaded (RKept aA.xHidden.xTaken) (RServer aA.xHidden.xServers) aA.xHidden.xNow aA.xFast (RServer aB.xNet.xServers) (REntry aB.xNet.xCache.xEntries) (RSent aB.xNet.xLog) aB.xNet.xNow (RVisit aB.xTab.xVisits) aB.xTab.xAt aB.xHidden.xReady aB.xHidden.xPage.xAddr.xHost aB.xHidden.xPage.xAddr.xPath aB.xHidden.xPage.xPolicy.xSet (rStr aB.xHidden.xPage.xPolicy.xScripts) (rStr aB.xHidden.xPage.xPolicy.xStyles) (rStr aB.xHidden.xPage.xPolicy.xImages) aB.xHidden.xPage.xPolicy.xNonce aB.xHidden.xPage.xTok.xRest (RToken aB.xHidden.xPage.xQueue) aB.xHidden.xPage.xEnded (RNode aB.xHidden.xPage.xBuilder.xNodes) (rInt aB.xHidden.xPage.xBuilder.xOpen) (RSlot aB.xHidden.xPage.xSlots) (RModule aB.xHidden.xPage.xMods) (RAddr aB.xHidden.xPage.xEntries) aB.xHidden.xPage.xBlock aB.xHidden.xPage.xInline aB.xHidden.xPage.xDeferred aB.xHidden.xPage.xEntered (RAddr aB.xHidden.xPage.xRan) (rStr aB.xHidden.xPage.xLog) aB.xHidden.xPage.xLoaded (RKept aB.xHidden.xTaken) (RServer aB.xHidden.xServers) aB.xHidden.xNow aB.xFast k) (lFnExactIsEquivalent aA aB) k := by
 delta F4 P4 lFnExactIsEquivalent
 refine Imp.call rfl (ei_lszWorld aA 1048576 _) (fun r1 _ => ?_)
 refine ibr ?_ ?_
 ·exact irr
 ·refine Imp.call rfl (ei_lszWorld aB r1 _) (fun r2 _ => ?_)
  refine ibr ?_ ?_
  ·exact irr
  ·refine Imp.call rfl (ei_ltoWorld aA _) (fun r3 _ => ?_)
   refine Imp.call rfl (ei_ltoWorld aB _) (fun r36 _ => ?_)
   refine Imp.call rfl (ei_sIsEquivalent r3 r36 _) (fun r69 _ => ?_)
   refine Imp.call rfl (ei_ltoWorld aA _) (fun r70 _ => ?_)
   refine Imp.call rfl (ei_ltoWorld aB _) (fun r103 _ => ?_)
   refine Imp.call rfl (ei_iIsEquivalent r70 r103 _) (fun r136 _ => ?_)
   refine ibr ?_ ?_
   ·exact irr
   ·refine Imp.call rfl (ei_ltoWorld aA _) (fun r137 _ => ?_)
    refine Imp.call rfl (ei_leqWorld r70 r137 _) (fun r170 _ => ?_)
    refine ibr ?_ ?_
    ·exact irr
    ·refine Imp.call rfl (ei_ltoWorld aB _) (fun r171 _ => ?_)
     refine Imp.call rfl (ei_leqWorld r103 r171 _) (fun r204 _ => ?_)
     refine ibr ?_ ?_
     ·exact irr
     ·exact irr
end
end Go.Am
