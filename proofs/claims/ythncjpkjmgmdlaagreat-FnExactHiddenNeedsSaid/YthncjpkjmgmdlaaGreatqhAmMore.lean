/-
  More steps for reckoning with loops over rows.
-/
import Derived.Test.YthncjpkjmgmdlaaGreatqhAmTyped
import Derived.Test.YthncjpkjmgmdlaaGreatqhAmExt3
import Derived.Test.YthncjpkjmgmdlaaGreatqhFh
import Derived.Test.YthncjpkjmgmdlaaGreatqhTh
section
set_option maxRecDepth 10000
set_option linter.unusedVariables false
namespace Go.Am
open Go Go.Proofs
variable {β : Type}
abbrev OLL := Option (List Leaf ⊕ (Nat × List Leaf))
abbrev OU := Option (Unit ⊕ (Unit ⊕ Unit))
abbrev RAddr (l : List TAddr) : List V := rows kAddr TAddr.row l
abbrev RKept (l : List TKept) : List V := rows kKept TKept.row l
abbrev RModule (l : List TModule) : List V := rows kModule TModule.row l
abbrev RNode (l : List TNode) : List V := rows kNode TNode.row l
abbrev RRequest (l : List TRequest) : List V := rows kRequest TRequest.row l
abbrev RServer (l : List TServer) : List V := rows kServer TServer.row l
abbrev RSlot (l : List TSlot) : List V := rows kSlot TSlot.row l
abbrev RToken (l : List TToken) : List V := rows kToken TToken.row l
section
variable {α γ : Type} {x y : Option α} {x' y' : Option γ} {k : γ → Option α}
theorem irr {r : γ} (h : x = k r := by exact rfl) : Imp x (some r) k := Imp.ret h
theorem ibr {b : Bool} (hx : Imp x x' k) (hy : Imp y y' k) : Imp (br b x y) (Go.Am.br b x' y') k := Imp.br rfl hx hy
theorem if1 {d : Decidable ((1 : Nat) = 0)} (hy : Imp y x' k) : Imp (@ite _ ((1 : Nat) = 0) d x y) x' k := Imp.ifF Nat.one_ne_zero hy
theorem if0 {d : Decidable ((0 : Nat) = 0)} (hx : Imp x x' k) : Imp (@ite _ ((0 : Nat) = 0) d x y) x' k := Imp.ifT rfl hx
end
abbrev tl0 (p : THidden) : List Leaf := [.b p.xReady, .s p.xPage.xAddr.xHost, .s p.xPage.xAddr.xPath, .b p.xPage.xPolicy.xSet, .l (rStr p.xPage.xPolicy.xScripts), .l (rStr p.xPage.xPolicy.xStyles), .l (rStr p.xPage.xPolicy.xImages), .s p.xPage.xPolicy.xNonce, .s p.xPage.xTok.xRest, .l (RToken p.xPage.xQueue), .b p.xPage.xEnded, .l (RNode p.xPage.xBuilder.xNodes), .l (rInt p.xPage.xBuilder.xOpen), .l (RSlot p.xPage.xSlots), .l (RModule p.xPage.xMods), .l (RAddr p.xPage.xEntries), .i p.xPage.xBlock, .i p.xPage.xInline, .i p.xPage.xDeferred, .i p.xPage.xEntered, .l (RAddr p.xPage.xRan), .l (rStr p.xPage.xLog), .b p.xPage.xLoaded, .l (RKept p.xTaken), .l (RServer p.xServers), .i p.xNow]
abbrev tl1 (p : TPage) : List Leaf := [.s p.xAddr.xHost, .s p.xAddr.xPath, .b p.xPolicy.xSet, .l (rStr p.xPolicy.xScripts), .l (rStr p.xPolicy.xStyles), .l (rStr p.xPolicy.xImages), .s p.xPolicy.xNonce, .s p.xTok.xRest, .l (RToken p.xQueue), .b p.xEnded, .l (RNode p.xBuilder.xNodes), .l (rInt p.xBuilder.xOpen), .l (RSlot p.xSlots), .l (RModule p.xMods), .l (RAddr p.xEntries), .i p.xBlock, .i p.xInline, .i p.xDeferred, .i p.xEntered, .l (RAddr p.xRan), .l (rStr p.xLog), .b p.xLoaded]
noncomputable def sOpenSlots (p : TPage) : Option (List Int) :=
 (forE p.xSlots (fun (i_1 : Nat) (x_1 : TSlot) (s1 : List Int) => (
 br (!x_1.xDone) (
 chk ((s1.length + 1) * 8 ≤ 140737488355328 ∧ s1.length + 1 ≤ 140737488355328) <|
 some (.inl (s1 ++ [(i_1 : Int)]))
 ) (
 some (.inl s1)
 )
 : Option ((List Int) ⊕ (List Int)))) (fun (s1 : List Int) => (s1 : List Int)) ([] : List Int)).bind <|
 fun (r3 : List Int) =>
 some r3
theorem ei_sOpenSlots (p : TPage) (k : List V → Option β) : Imp (F143 β p.xAddr.xHost p.xAddr.xPath p.xPolicy.xSet (rStr p.xPolicy.xScripts) (rStr p.xPolicy.xStyles) (rStr p.xPolicy.xImages) p.xPolicy.xNonce p.xTok.xRest (RToken p.xQueue) p.xEnded (RNode p.xBuilder.xNodes) (rInt p.xBuilder.xOpen) (RSlot p.xSlots) (RModule p.xMods) (RAddr p.xEntries) p.xBlock p.xInline p.xDeferred p.xEntered (RAddr p.xRan) (rStr p.xLog) p.xLoaded k) (sOpenSlots p) (fun r => k (rInt r)) := by
 delta F143 P143 sOpenSlots
 refine Imp.for (enc := fun (i_1 : Nat) (s1 : List Int) => (.l (rInt s1) :: .i (i_1 : Int) :: tl1 p)) (encR := fun (u : List Int) => (((0, [.l (rInt u)]) : Nat × List Leaf))) rfl (fun i_1 x_1 s1 hx1 hl1 hm1 => Imp.brT (T_lt (g := TSlot.row) hl1) ?_) (fun s1 => brN (T_irr (g := TSlot.row) p.xSlots) rfl) (fun r3 => ?_)
 ·refine Imp.idxFor (g := TSlot.row) hx1 ?_
  refine ibr ?_ ?_
  ·refine Imp.chk (c2 (fun z0 z1 : Nat => (z0 + 1) * 8 ≤ 140737488355328 ∧ z1 + 1 ≤ 140737488355328) (U_len (T := Int) (kd := (.int .i64)) (g1 := fun e => e) s1) (U_len (T := Int) (kd := (.int .i64)) (g1 := fun e => e) s1)) (fun _ => ?_)
   exact Imp.ret (c2 (fun (h1 : List V) (h2 : Int) => (some (Sum.inl (.l h1 :: .i h2 :: tl1 p)) : OLL)) (U_app (T := Int) (kd := (.int .i64)) (g1 := fun e => e) s1 [(i_1 : Int)]) (wrapJ hl1))
  ·exact Imp.ret (c1 (fun (h1 : Int) => (some (Sum.inl (.l (rInt s1) :: .i h1 :: tl1 p)) : OLL)) (wrapJ hl1))
 ·exact irr
noncomputable def sl1In (x : Int) (least : Int) (most : Int) : Option Bool :=
 br (decide (x ≥ least)) (
 some (decide (x ≤ most))
 ) (
 some false
 )
theorem ei_sl1In (x : Int) (least : Int) (most : Int) (k : Bool → Option β) : Imp (F47 β x least most k) (sl1In x least most) k := by
 delta F47 P47 sl1In
 refine ibr ?_ ?_
 ·exact irr
 ·exact irr
noncomputable def sKindOfMode (mode : Int) : Option Int :=
 br (mode == 1) (
 some 4
 ) (
 br (mode == 2) (
 some 3
 ) (
 br (mode == 3) (
 some 2
 ) (
 br (mode == 4) (
 some 2
 ) (
 some 0
 )
 )
 )
 )
theorem ei_sKindOfMode (mode : Int) (k : Int → Option β) : Imp (F189 β mode k) (sKindOfMode mode) k := by
 delta F189 P189 sKindOfMode
 refine ibr ?_ ?_
 ·exact irr
 ·refine ibr ?_ ?_
  ·exact irr
  ·refine ibr ?_ ?_
   ·exact irr
   ·refine ibr ?_ ?_
    ·exact irr
    ·exact irr
noncomputable def sSlotRequest (p : TPage) (xk : Int) : Option TRequest :=
 (sl1In xk 0 (IntKind.wrap .i64 ((p.xSlots.length : Int) - 1))).bind fun (r1 : Bool) =>
 br (!r1) (
 some (⟨0, ⟨[], []⟩, [], []⟩ : TRequest)
 ) (
 (getI p.xSlots xk).bind fun (e2 : TSlot) =>
 (sKindOfMode e2.xMode).bind fun (r3 : Int) =>
 some (⟨r3, e2.xTo, p.xAddr.xHost, e2.xDigest⟩ : TRequest)
 )
theorem ei_sSlotRequest (p : TPage) (xk : Int) (k : Int → LU → LU → LU → LU → Option β) : Imp (F144 β p.xAddr.xHost p.xAddr.xPath p.xPolicy.xSet (rStr p.xPolicy.xScripts) (rStr p.xPolicy.xStyles) (rStr p.xPolicy.xImages) p.xPolicy.xNonce p.xTok.xRest (RToken p.xQueue) p.xEnded (RNode p.xBuilder.xNodes) (rInt p.xBuilder.xOpen) (RSlot p.xSlots) (RModule p.xMods) (RAddr p.xEntries) p.xBlock p.xInline p.xDeferred p.xEntered (RAddr p.xRan) (rStr p.xLog) p.xLoaded xk k) (sSlotRequest p xk) (fun r => k r.xKind r.xTo.xHost r.xTo.xPath r.xFrom r.xDigest) := by
 delta F144 P144 sSlotRequest
 refine Imp.call (c1 (fun (w1 : Int) => F47 _ xk 0 w1) (c1 (fun z0 : Nat => (IntKind.wrap .i64 ((z0 : Int) - 1))) (T_len (g := TSlot.row) p.xSlots))) (ei_sl1In xk 0 (IntKind.wrap .i64 ((p.xSlots.length : Int) - 1)) _) (fun r1 _ => ?_)
 refine ibr ?_ ?_
 ·exact irr
 ·refine Imp.idx (g := TSlot.row) rfl rfl (fun e2 _ => ?_)
  refine Imp.call rfl (ei_sKindOfMode e2.xMode _) (fun r3 _ => ?_)
  exact irr
noncomputable def sOpenMods (p : TPage) : Option (List Int) :=
 (forE p.xMods (fun (i_1 : Nat) (x_1 : TModule) (s1 : List Int) => (
 br (!x_1.xDone) (
 chk ((s1.length + 1) * 8 ≤ 140737488355328 ∧ s1.length + 1 ≤ 140737488355328) <|
 some (.inl (s1 ++ [(i_1 : Int)]))
 ) (
 some (.inl s1)
 )
 : Option ((List Int) ⊕ (List Int)))) (fun (s1 : List Int) => (s1 : List Int)) ([] : List Int)).bind <|
 fun (r3 : List Int) =>
 some r3
theorem ei_sOpenMods (p : TPage) (k : List V → Option β) : Imp (F145 β p.xAddr.xHost p.xAddr.xPath p.xPolicy.xSet (rStr p.xPolicy.xScripts) (rStr p.xPolicy.xStyles) (rStr p.xPolicy.xImages) p.xPolicy.xNonce p.xTok.xRest (RToken p.xQueue) p.xEnded (RNode p.xBuilder.xNodes) (rInt p.xBuilder.xOpen) (RSlot p.xSlots) (RModule p.xMods) (RAddr p.xEntries) p.xBlock p.xInline p.xDeferred p.xEntered (RAddr p.xRan) (rStr p.xLog) p.xLoaded k) (sOpenMods p) (fun r => k (rInt r)) := by
 delta F145 P145 sOpenMods
 refine Imp.for (enc := fun (i_1 : Nat) (s1 : List Int) => (.l (rInt s1) :: .i (i_1 : Int) :: tl1 p)) (encR := fun (u : List Int) => (((0, [.l (rInt u)]) : Nat × List Leaf))) rfl (fun i_1 x_1 s1 hx1 hl1 hm1 => Imp.brT (T_lt (g := TModule.row) hl1) ?_) (fun s1 => brN (T_irr (g := TModule.row) p.xMods) rfl) (fun r3 => ?_)
 ·refine Imp.idxFor (g := TModule.row) hx1 ?_
  refine ibr ?_ ?_
  ·refine Imp.chk (c2 (fun z0 z1 : Nat => (z0 + 1) * 8 ≤ 140737488355328 ∧ z1 + 1 ≤ 140737488355328) (U_len (T := Int) (kd := (.int .i64)) (g1 := fun e => e) s1) (U_len (T := Int) (kd := (.int .i64)) (g1 := fun e => e) s1)) (fun _ => ?_)
   exact Imp.ret (c2 (fun (h1 : List V) (h2 : Int) => (some (Sum.inl (.l h1 :: .i h2 :: tl1 p)) : OLL)) (U_app (T := Int) (kd := (.int .i64)) (g1 := fun e => e) s1 [(i_1 : Int)]) (wrapJ hl1))
  ·exact Imp.ret (c1 (fun (h1 : Int) => (some (Sum.inl (.l (rInt s1) :: .i h1 :: tl1 p)) : OLL)) (wrapJ hl1))
 ·exact irr
noncomputable def sModRequest (p : TPage) (xk : Int) : Option TRequest :=
 (sl1In xk 0 (IntKind.wrap .i64 ((p.xMods.length : Int) - 1))).bind fun (r1 : Bool) =>
 br (!r1) (
 some (⟨0, ⟨[], []⟩, [], []⟩ : TRequest)
 ) (
 (getI p.xMods xk).bind fun (e2 : TModule) =>
 some (⟨5, e2.xTo, p.xAddr.xHost, []⟩ : TRequest)
 )
theorem ei_sModRequest (p : TPage) (xk : Int) (k : Int → LU → LU → LU → LU → Option β) : Imp (F146 β p.xAddr.xHost p.xAddr.xPath p.xPolicy.xSet (rStr p.xPolicy.xScripts) (rStr p.xPolicy.xStyles) (rStr p.xPolicy.xImages) p.xPolicy.xNonce p.xTok.xRest (RToken p.xQueue) p.xEnded (RNode p.xBuilder.xNodes) (rInt p.xBuilder.xOpen) (RSlot p.xSlots) (RModule p.xMods) (RAddr p.xEntries) p.xBlock p.xInline p.xDeferred p.xEntered (RAddr p.xRan) (rStr p.xLog) p.xLoaded xk k) (sModRequest p xk) (fun r => k r.xKind r.xTo.xHost r.xTo.xPath r.xFrom r.xDigest) := by
 delta F146 P146 sModRequest
 refine Imp.call (c1 (fun (w1 : Int) => F47 _ xk 0 w1) (c1 (fun z0 : Nat => (IntKind.wrap .i64 ((z0 : Int) - 1))) (T_len (g := TModule.row) p.xMods))) (ei_sl1In xk 0 (IntKind.wrap .i64 ((p.xMods.length : Int) - 1)) _) (fun r1 _ => ?_)
 refine ibr ?_ ?_
 ·exact irr
 ·refine Imp.idx (g := TModule.row) rfl rfl (fun e2 _ => ?_)
  exact irr
noncomputable def sNextNeeds (p : TPage) : Option (List TRequest) :=
 (sOpenSlots p).bind fun (r1 : List Int) =>
 (forE r1 (fun (i_2 : Nat) (x_2 : Int) (s2 : List TRequest) => (
 (sSlotRequest p x_2).bind fun (r4 : TRequest) =>
 chk ((s2.length + 1) * 72 ≤ 140737488355328 ∧ s2.length + 1 ≤ 140737488355328) <|
 some (.inl (s2 ++ [r4]))
 : Option ((List TRequest) ⊕ (List TRequest)))) (fun (s2 : List TRequest) => (s2 : List TRequest)) ([] : List TRequest)).bind <|
 fun (r9 : List TRequest) =>
 (sOpenMods p).bind fun (r10 : List Int) =>
 (forE r10 (fun (i_11 : Nat) (x_11 : Int) (s11 : List TRequest) => (
 (sModRequest p x_11).bind fun (r13 : TRequest) =>
 chk ((s11.length + 1) * 72 ≤ 140737488355328 ∧ s11.length + 1 ≤ 140737488355328) <|
 some (.inl (s11 ++ [r13]))
 : Option ((List TRequest) ⊕ (List TRequest)))) (fun (s11 : List TRequest) => (s11 : List TRequest)) (r9 : List TRequest)).bind <|
 fun (r18 : List TRequest) =>
 some r18
theorem ei_sNextNeeds (p : TPage) (k : List V → Option β) : Imp (F87 β p.xAddr.xHost p.xAddr.xPath p.xPolicy.xSet (rStr p.xPolicy.xScripts) (rStr p.xPolicy.xStyles) (rStr p.xPolicy.xImages) p.xPolicy.xNonce p.xTok.xRest (RToken p.xQueue) p.xEnded (RNode p.xBuilder.xNodes) (rInt p.xBuilder.xOpen) (RSlot p.xSlots) (RModule p.xMods) (RAddr p.xEntries) p.xBlock p.xInline p.xDeferred p.xEntered (RAddr p.xRan) (rStr p.xLog) p.xLoaded k) (sNextNeeds p) (fun r => k (RRequest r)) := by
 delta F87 P87 sNextNeeds
 refine Imp.call rfl (ei_sOpenSlots p _) (fun r1 _ => ?_)
 refine Imp.for (enc := fun (i_2 : Nat) (s2 : List TRequest) => (.l (RRequest s2) :: .l (rInt r1) :: .i (i_2 : Int) :: tl1 p)) (encR := fun (u : List TRequest) => (((0, (.l (RRequest u) :: tl1 p)) : Nat × List Leaf))) rfl (fun i_2 x_2 s2 hx2 hl2 hm2 => Imp.brT (U_lt (T := Int) (kd := (.int .i64)) (g1 := fun e => e) hl2) ?_) (fun s2 => brN (U_irr (T := Int) (kd := (.int .i64)) (g1 := fun e => e) r1) rfl) (fun r9 => ?_)
 ·refine Imp.chkE ⟨Int.natCast_nonneg _, Nat.lt_of_lt_of_eq hl2 (U_len (T := Int) (kd := (.int .i64)) (g1 := fun e => e) r1).symm⟩ ?_
  refine Imp.idxAtFor1 (kd := (.int .i64)) (g1 := fun e => e) hx2 rfl ?_
  refine Imp.call rfl (ei_sSlotRequest p x_2 _) (fun r4 _ => ?_)
  refine Imp.chk (c2 (fun z0 z1 : Nat => (z0 + 1) * 72 ≤ 140737488355328 ∧ z1 + 1 ≤ 140737488355328) (T_len (g := TRequest.row) s2) (T_len (g := TRequest.row) s2)) (fun _ => ?_)
  exact Imp.ret (c2 (fun (h1 : List V) (h2 : Int) => (some (Sum.inl (.l h1 :: .l (rInt r1) :: .i h2 :: tl1 p)) : OLL)) (T_app (g := TRequest.row) s2 [r4]) (wrapJ hl2))
 ·refine Imp.call rfl (ei_sOpenMods p _) (fun r10 _ => ?_)
  refine Imp.for (enc := fun (i_11 : Nat) (s11 : List TRequest) => (.l (RRequest s11) :: .l (rInt r10) :: .i (i_11 : Int) :: tl1 p)) (encR := fun (u : List TRequest) => (((0, [.l (RRequest u)]) : Nat × List Leaf))) rfl (fun i_11 x_11 s11 hx11 hl11 hm11 => Imp.brT (U_lt (T := Int) (kd := (.int .i64)) (g1 := fun e => e) hl11) ?_) (fun s11 => brN (U_irr (T := Int) (kd := (.int .i64)) (g1 := fun e => e) r10) rfl) (fun r18 => ?_)
  ·refine Imp.chkE ⟨Int.natCast_nonneg _, Nat.lt_of_lt_of_eq hl11 (U_len (T := Int) (kd := (.int .i64)) (g1 := fun e => e) r10).symm⟩ ?_
   refine Imp.idxAtFor1 (kd := (.int .i64)) (g1 := fun e => e) hx11 rfl ?_
   refine Imp.call rfl (ei_sModRequest p x_11 _) (fun r13 _ => ?_)
   refine Imp.chk (c2 (fun z0 z1 : Nat => (z0 + 1) * 72 ≤ 140737488355328 ∧ z1 + 1 ≤ 140737488355328) (T_len (g := TRequest.row) s11) (T_len (g := TRequest.row) s11)) (fun _ => ?_)
   exact Imp.ret (c2 (fun (h1 : List V) (h2 : Int) => (some (Sum.inl (.l h1 :: .l (rInt r10) :: .i h2 :: tl1 p)) : OLL)) (T_app (g := TRequest.row) s11 [r13]) (wrapJ hl11))
  ·exact irr
noncomputable def sHasAddr (l : List TAddr) (a : TAddr) : Option Bool :=
 (forE l (fun (i_1 : Nat) (x_1 : TAddr) (s1 : Unit) => (
 br ((x_1.xHost == a.xHost) && ((x_1.xPath == a.xPath) && true)) (
 some (.inr (.inl ()))
 ) (
 some (.inl ())
 )
 : OU)) (fun (s1 : Unit) => (.inr () : Unit ⊕ Unit)) (() : Unit)).bind <|
 Sum.elim
 (fun (r3 : Unit) =>
 some true
 )
 (fun (r3 : Unit) =>
 some false
 )
theorem ei_sHasAddr (l : List TAddr) (a : TAddr) (k : Bool → Option β) : Imp (F147 β (RAddr l) a.xHost a.xPath k) (sHasAddr l a) k := by
 delta F147 P147 sHasAddr
 refine Imp.for (enc := fun (i_1 : Nat) (s1 : Unit) => [.l (RAddr l), .i (i_1 : Int), .s a.xHost, .s a.xPath]) (encR := Sum.elim (fun (u : Unit) => (((0, [.b true]) : Nat × List Leaf))) (fun (u : Unit) => (((1, []) : Nat × List Leaf)))) rfl (fun i_1 x_1 s1 hx1 hl1 hm1 => Imp.brT (T_lt (g := TAddr.row) hl1) ?_) (fun s1 => brN (T_irr (g := TAddr.row) l) rfl) (fun r3 => ?_)
 ·refine Imp.idxFor (g := TAddr.row) hx1 ?_
  refine ibr ?_ ?_
  ·exact irr
  ·exact Imp.ret (c1 (fun (h1 : Int) => (some (Sum.inl [.l (RAddr l), .i h1, .s a.xHost, .s a.xPath]) : OLL)) (wrapJ hl1))
 ·cases r3 with
  | inl r3 =>
   refine if0 ?_
   exact irr
  | inr r3 =>
   refine if1 ?_
   exact irr
noncomputable def sCompareAddrs (a : TAddr) (b : TAddr) : Option Int :=
 br ((a.xHost == b.xHost) && ((a.xPath == b.xPath) && true)) (
 some 0
 ) (
 br (less a.xHost b.xHost) (
 some (-1)
 ) (
 br (a.xHost == b.xHost) (
 br (less a.xPath b.xPath) (
 some (-1)
 ) (
 some 1
 )
 ) (
 some 1
 )
 )
 )
theorem ei_sCompareAddrs (a : TAddr) (b : TAddr) (k : Int → Option β) : Imp (F148 β a.xHost a.xPath b.xHost b.xPath k) (sCompareAddrs a b) k := by
 delta F148 P148 sCompareAddrs
 refine ibr ?_ ?_
 ·exact irr
 ·refine ibr ?_ ?_
  ·exact irr
  ·refine ibr ?_ ?_
   ·refine ibr ?_ ?_
    ·exact irr
    ·exact irr
   ·exact irr
noncomputable def sSortAddrs (l : List TAddr) : Option (List TAddr) :=
 (forE l (fun (i_1 : Nat) (x_1 : TAddr) (s1 : List TAddr) => (
 (sHasAddr s1 x_1).bind fun (r3 : Bool) =>
 br r3 (
 some (.inl s1)
 ) (
 (whileE (fun (s4 : Int) => (
 br (decide (s4 > 0)) (
 chk (0 ≤ IntKind.wrap .i64 (s4 - 1) ∧ (IntKind.wrap .i64 (s4 - 1)).toNat < s1.length) <|
 (getI s1 (IntKind.wrap .i64 (s4 - 1))).bind fun (e6 : TAddr) =>
 (sCompareAddrs x_1 e6).bind fun (r7 : Int) =>
 br (decide (r7 < 0)) (
 some (.inl (IntKind.wrap .i64 (s4 - 1)))
 ) (
 some (.inr s4)
 )
 ) (
 some (.inr s4)
 )
 : Option (Int ⊕ Int))) ((s1.length : Int) : Int)).bind <|
 fun (r8 : Int) =>
 chk (0 ≤ (0 : Int) ∧ (0 : Int) ≤ r8 ∧ r8 ≤ (s1.length : Int)) <|
 chk ((0 + ((s1.take (r8.toNat)).drop 0).length) * 32 ≤ 140737488355328 ∧ 0 + ((s1.take (r8.toNat)).drop 0).length ≤ 140737488355328) <|
 chk ((([] ++ ((s1.take (r8.toNat)).drop 0)).length + 1) * 32 ≤ 140737488355328 ∧ ([] ++ ((s1.take (r8.toNat)).drop 0)).length + 1 ≤ 140737488355328) <|
 chk (0 ≤ r8 ∧ r8 ≤ (s1.length : Int) ∧ (s1.length : Int) ≤ (s1.length : Int)) <|
 chk (((([] ++ ((s1.take (r8.toNat)).drop 0)) ++ [x_1]).length + ((s1.take ((s1.length : Int).toNat)).drop (r8.toNat)).length) * 32 ≤ 140737488355328 ∧ (([] ++ ((s1.take (r8.toNat)).drop 0)) ++ [x_1]).length + ((s1.take ((s1.length : Int).toNat)).drop (r8.toNat)).length ≤ 140737488355328) <|
 some (.inl ((([] ++ ((s1.take (r8.toNat)).drop 0)) ++ [x_1]) ++ ((s1.take ((s1.length : Int).toNat)).drop (r8.toNat))))
 )
 : Option ((List TAddr) ⊕ (List TAddr)))) (fun (s1 : List TAddr) => (s1 : List TAddr)) ([] : List TAddr)).bind <|
 fun (r10 : List TAddr) =>
 some r10
theorem ei_sSortAddrs (l : List TAddr) (k : List V → Option β) : Imp (F88 β (RAddr l) k) (sSortAddrs l) (fun r => k (RAddr r)) := by
 delta F88 P88 sSortAddrs
 refine Imp.for (enc := fun (i_1 : Nat) (s1 : List TAddr) => [.l (RAddr l), .l (RAddr s1), .i (i_1 : Int)]) (encR := fun (u : List TAddr) => (((0, [.l (RAddr u)]) : Nat × List Leaf))) rfl (fun i_1 x_1 s1 hx1 hl1 hm1 => Imp.brT (T_lt (g := TAddr.row) hl1) ?_) (fun s1 => brN (T_irr (g := TAddr.row) l) rfl) (fun r10 => ?_)
 ·refine Imp.idxFor (g := TAddr.row) hx1 ?_
  refine Imp.call rfl (ei_sHasAddr s1 x_1 _) (fun r3 _ => ?_)
  refine ibr ?_ ?_
  ·exact Imp.ret (c1 (fun (h1 : Int) => (some (Sum.inl [.l (RAddr l), .l (RAddr s1), .i h1]) : OLL)) (wrapJ hl1))
  ·refine Imp.while (enc := fun (s4 : Int) => [.l (RAddr l), .l (RAddr s1), .i (i_1 : Int), .i s4]) (encR := fun (u : Int) => (((0, [.l (RAddr l), .l (RAddr s1), .i (i_1 : Int), .i u]) : Nat × List Leaf))) (c1 (fun (h1 : Int) => ([.l (RAddr l), .l (RAddr s1), .i (i_1 : Int), .i h1] : List Leaf)) (c1 (fun z0 : Nat => (z0 : Int)) (T_len (g := TAddr.row) s1))) (fun s4 => ?_) (fun r8 => ?_)
   ·refine ibr ?_ ?_
    ·refine Imp.idxFor (g := TAddr.row) hx1 ?_
     refine Imp.chk (c1 (fun z0 : Nat => 0 ≤ IntKind.wrap .i64 (s4 - 1) ∧ (IntKind.wrap .i64 (s4 - 1)).toNat < z0) (T_len (g := TAddr.row) s1)) (fun _ => ?_)
     refine Imp.idxAt (g := TAddr.row) rfl rfl (fun e6 => rfl) (fun e6 _ => ?_)
     refine Imp.call rfl (ei_sCompareAddrs x_1 e6 _) (fun r7 _ => ?_)
     refine ibr ?_ ?_
     ·exact irr
     ·exact irr
    ·exact irr
   ·refine Imp.chk (c1 (fun z0 : Nat => 0 ≤ (0 : Int) ∧ (0 : Int) ≤ r8 ∧ r8 ≤ (z0 : Int)) (T_len (g := TAddr.row) s1)) (fun _ => ?_)
    refine Imp.chk (c2 (fun z0 z1 : Nat => (0 + z0) * 32 ≤ 140737488355328 ∧ 0 + z1 ≤ 140737488355328) ((c1 (fun u : List V => u.length) (T_cut (g := TAddr.row) s1 (r8.toNat) 0)).trans (T_len (g := TAddr.row) ((s1.take (r8.toNat)).drop 0))) ((c1 (fun u : List V => u.length) (T_cut (g := TAddr.row) s1 (r8.toNat) 0)).trans (T_len (g := TAddr.row) ((s1.take (r8.toNat)).drop 0)))) (fun _ => ?_)
    refine Imp.idxFor (g := TAddr.row) hx1 ?_
    refine Imp.chk (c2 (fun z0 z1 : Nat => (z0 + 1) * 32 ≤ 140737488355328 ∧ z1 + 1 ≤ 140737488355328) ((c1 (fun u : List V => u.length) ((c2 (fun u v : List V => u ++ v) rfl (T_cut (g := TAddr.row) s1 (r8.toNat) 0)).trans (T_app (g := TAddr.row) [] ((s1.take (r8.toNat)).drop 0)))).trans (T_len (g := TAddr.row) ([] ++ ((s1.take (r8.toNat)).drop 0)))) ((c1 (fun u : List V => u.length) ((c2 (fun u v : List V => u ++ v) rfl (T_cut (g := TAddr.row) s1 (r8.toNat) 0)).trans (T_app (g := TAddr.row) [] ((s1.take (r8.toNat)).drop 0)))).trans (T_len (g := TAddr.row) ([] ++ ((s1.take (r8.toNat)).drop 0))))) (fun _ => ?_)
    refine Imp.chk (c3 (fun z0 z1 z2 : Nat => 0 ≤ r8 ∧ r8 ≤ (z0 : Int) ∧ (z1 : Int) ≤ (z2 : Int)) (T_len (g := TAddr.row) s1) (T_len (g := TAddr.row) s1) (T_len (g := TAddr.row) s1)) (fun _ => ?_)
    refine Imp.chk (c4 (fun z0 z1 z2 z3 : Nat => (z0 + z1) * 32 ≤ 140737488355328 ∧ z2 + z3 ≤ 140737488355328) ((c1 (fun u : List V => u.length) ((c2 (fun u v : List V => u ++ v) ((c2 (fun u v : List V => u ++ v) rfl (T_cut (g := TAddr.row) s1 (r8.toNat) 0)).trans (T_app (g := TAddr.row) [] ((s1.take (r8.toNat)).drop 0))) rfl).trans (T_app (g := TAddr.row) ([] ++ ((s1.take (r8.toNat)).drop 0)) [x_1]))).trans (T_len (g := TAddr.row) (([] ++ ((s1.take (r8.toNat)).drop 0)) ++ [x_1]))) ((c1 (fun u : List V => u.length) ((c3 (fun (u : List V) (a b : Nat) => (u.take a).drop b) rfl (c1 (fun z0 : Nat => ((z0 : Int).toNat)) (T_len (g := TAddr.row) s1)) rfl).trans (T_cut (g := TAddr.row) s1 ((s1.length : Int).toNat) (r8.toNat)))).trans (T_len (g := TAddr.row) ((s1.take ((s1.length : Int).toNat)).drop (r8.toNat)))) ((c1 (fun u : List V => u.length) ((c2 (fun u v : List V => u ++ v) ((c2 (fun u v : List V => u ++ v) rfl (T_cut (g := TAddr.row) s1 (r8.toNat) 0)).trans (T_app (g := TAddr.row) [] ((s1.take (r8.toNat)).drop 0))) rfl).trans (T_app (g := TAddr.row) ([] ++ ((s1.take (r8.toNat)).drop 0)) [x_1]))).trans (T_len (g := TAddr.row) (([] ++ ((s1.take (r8.toNat)).drop 0)) ++ [x_1]))) ((c1 (fun u : List V => u.length) ((c3 (fun (u : List V) (a b : Nat) => (u.take a).drop b) rfl (c1 (fun z0 : Nat => ((z0 : Int).toNat)) (T_len (g := TAddr.row) s1)) rfl).trans (T_cut (g := TAddr.row) s1 ((s1.length : Int).toNat) (r8.toNat)))).trans (T_len (g := TAddr.row) ((s1.take ((s1.length : Int).toNat)).drop (r8.toNat))))) (fun _ => ?_)
    exact Imp.ret (c2 (fun (h1 : List V) (h2 : Int) => (some (Sum.inl [.l (RAddr l), .l h1, .i h2]) : OLL)) ((c2 (fun u v : List V => u ++ v) ((c2 (fun u v : List V => u ++ v) ((c2 (fun u v : List V => u ++ v) rfl (T_cut (g := TAddr.row) s1 (r8.toNat) 0)).trans (T_app (g := TAddr.row) [] ((s1.take (r8.toNat)).drop 0))) rfl).trans (T_app (g := TAddr.row) ([] ++ ((s1.take (r8.toNat)).drop 0)) [x_1])) ((c3 (fun (u : List V) (a b : Nat) => (u.take a).drop b) rfl (c1 (fun z0 : Nat => ((z0 : Int).toNat)) (T_len (g := TAddr.row) s1)) rfl).trans (T_cut (g := TAddr.row) s1 ((s1.length : Int).toNat) (r8.toNat)))).trans (T_app (g := TAddr.row) (([] ++ ((s1.take (r8.toNat)).drop 0)) ++ [x_1]) ((s1.take ((s1.length : Int).toNat)).drop (r8.toNat)))) (wrapJ hl1))
 ·exact irr
noncomputable def sHiddenNeeds (h : THidden) : Option (List TAddr) :=
 (sNextNeeds h.xPage).bind fun (r1 : List TRequest) =>
 (forE r1 (fun (i_2 : Nat) (x_2 : TRequest) (s2 : List TAddr) => (
 br h.xReady (
 chk ((s2.length + 1) * 32 ≤ 140737488355328 ∧ s2.length + 1 ≤ 140737488355328) <|
 some (.inl (s2 ++ [x_2.xTo]))
 ) (
 some (.inr s2)
 )
 : Option ((List TAddr) ⊕ (List TAddr)))) (fun (s2 : List TAddr) => (s2 : List TAddr)) ([] : List TAddr)).bind <|
 fun (r4 : List TAddr) =>
 (sSortAddrs r4).bind fun (r5 : List TAddr) =>
 some r5
theorem ei_sHiddenNeeds (h : THidden) (k : List V → Option β) : Imp (F21 β h.xReady h.xPage.xAddr.xHost h.xPage.xAddr.xPath h.xPage.xPolicy.xSet (rStr h.xPage.xPolicy.xScripts) (rStr h.xPage.xPolicy.xStyles) (rStr h.xPage.xPolicy.xImages) h.xPage.xPolicy.xNonce h.xPage.xTok.xRest (RToken h.xPage.xQueue) h.xPage.xEnded (RNode h.xPage.xBuilder.xNodes) (rInt h.xPage.xBuilder.xOpen) (RSlot h.xPage.xSlots) (RModule h.xPage.xMods) (RAddr h.xPage.xEntries) h.xPage.xBlock h.xPage.xInline h.xPage.xDeferred h.xPage.xEntered (RAddr h.xPage.xRan) (rStr h.xPage.xLog) h.xPage.xLoaded (RKept h.xTaken) (RServer h.xServers) h.xNow k) (sHiddenNeeds h) (fun r => k (RAddr r)) := by
 delta F21 P21 sHiddenNeeds
 refine Imp.call rfl (ei_sNextNeeds h.xPage _) (fun r1 _ => ?_)
 refine Imp.for (enc := fun (i_2 : Nat) (s2 : List TAddr) => (.l (RAddr s2) :: .l (RRequest r1) :: .i (i_2 : Int) :: tl0 h)) (encR := fun (u : List TAddr) => (((0, [.l (RAddr u)]) : Nat × List Leaf))) rfl (fun i_2 x_2 s2 hx2 hl2 hm2 => Imp.brT (T_lt (g := TRequest.row) hl2) ?_) (fun s2 => brN (T_irr (g := TRequest.row) r1) rfl) (fun r4 => ?_)
 ·refine ibr ?_ ?_
  ·refine Imp.chkE ⟨Int.natCast_nonneg _, Nat.lt_of_lt_of_eq hl2 (T_len (g := TRequest.row) r1).symm⟩ ?_
   refine Imp.idxAtFor (g := TRequest.row) hx2 rfl ?_
   refine Imp.chk (c2 (fun z0 z1 : Nat => (z0 + 1) * 32 ≤ 140737488355328 ∧ z1 + 1 ≤ 140737488355328) (T_len (g := TAddr.row) s2) (T_len (g := TAddr.row) s2)) (fun _ => ?_)
   exact Imp.ret (c2 (fun (h1 : List V) (h2 : Int) => (some (Sum.inl (.l h1 :: .l (RRequest r1) :: .i h2 :: tl0 h)) : OLL)) (T_app (g := TAddr.row) s2 [x_2.xTo]) (wrapJ hl2))
  ·exact irr
 ·refine Imp.call rfl (ei_sSortAddrs r4 _) (fun r5 _ => ?_)
  exact irr
noncomputable def iOpenSlots (p : TPage) : Option (List Int) :=
 (forE p.xSlots (fun (i_1 : Nat) (x_1 : TSlot) (s1 : List Int) => (
 br (!x_1.xDone) (
 chk ((s1.length + 1) * 8 ≤ 140737488355328 ∧ s1.length + 1 ≤ 140737488355328) <|
 some (.inl (s1 ++ [(i_1 : Int)]))
 ) (
 some (.inl s1)
 )
 : Option ((List Int) ⊕ (List Int)))) (fun (s1 : List Int) => (s1 : List Int)) ([] : List Int)).bind <|
 fun (r3 : List Int) =>
 some r3
theorem ei_iOpenSlots (p : TPage) (k : List V → Option β) : Imp (F151 β p.xAddr.xHost p.xAddr.xPath p.xPolicy.xSet (rStr p.xPolicy.xScripts) (rStr p.xPolicy.xStyles) (rStr p.xPolicy.xImages) p.xPolicy.xNonce p.xTok.xRest (RToken p.xQueue) p.xEnded (RNode p.xBuilder.xNodes) (rInt p.xBuilder.xOpen) (RSlot p.xSlots) (RModule p.xMods) (RAddr p.xEntries) p.xBlock p.xInline p.xDeferred p.xEntered (RAddr p.xRan) (rStr p.xLog) p.xLoaded k) (iOpenSlots p) (fun r => k (rInt r)) := by
 delta F151 P151 iOpenSlots
 refine Imp.for (enc := fun (i_1 : Nat) (s1 : List Int) => [.l (rInt s1), .l (RSlot p.xSlots), .i (p.xSlots.length : Int), .i (i_1 : Int)]) (encR := fun (u : List Int) => (((0, [.l (rInt u)]) : Nat × List Leaf))) (c1 (fun (h1 : Int) => ([.l (rInt []), .l (RSlot p.xSlots), .i h1, .i 0] : List Leaf)) (c1 (fun z0 : Nat => (z0 : Int)) (T_len (g := TSlot.row) p.xSlots))) (fun i_1 x_1 s1 hx1 hl1 hm1 => Imp.brT (Int.ofNat_lt.2 hl1) ?_) (fun s1 => brN (Int.lt_irrefl _) rfl) (fun r3 => ?_)
 ·refine Imp.idxFor (g := TSlot.row) hx1 ?_
  refine ibr ?_ ?_
  ·refine Imp.chk (c2 (fun z0 z1 : Nat => (z0 + 1) * 8 ≤ 140737488355328 ∧ z1 + 1 ≤ 140737488355328) (U_len (T := Int) (kd := (.int .i64)) (g1 := fun e => e) s1) (U_len (T := Int) (kd := (.int .i64)) (g1 := fun e => e) s1)) (fun _ => ?_)
   exact Imp.ret (c2 (fun (h1 : List V) (h2 : Int) => (some (Sum.inl [.l h1, .l (RSlot p.xSlots), .i (p.xSlots.length : Int), .i h2]) : OLL)) (U_app (T := Int) (kd := (.int .i64)) (g1 := fun e => e) s1 [(i_1 : Int)]) (wrapJ hl1))
  ·exact Imp.ret (c1 (fun (h1 : Int) => (some (Sum.inl [.l (rInt s1), .l (RSlot p.xSlots), .i (p.xSlots.length : Int), .i h1]) : OLL)) (wrapJ hl1))
 ·exact irr
noncomputable def iKindOfMode (mode : Int) : Option Int :=
 br (mode == 1) (
 some 4
 ) (
 br (mode == 2) (
 some 3
 ) (
 br (mode == 3) (
 some 2
 ) (
 br (mode == 4) (
 some 2
 ) (
 some 0
 )
 )
 )
 )
theorem ei_iKindOfMode (mode : Int) (k : Int → Option β) : Imp (F192 β mode k) (iKindOfMode mode) k := by
 delta F192 P192 iKindOfMode
 refine ibr ?_ ?_
 ·exact irr
 ·refine ibr ?_ ?_
  ·exact irr
  ·refine ibr ?_ ?_
   ·exact irr
   ·refine ibr ?_ ?_
    ·exact irr
    ·exact irr
noncomputable def iSlotRequest (p : TPage) (xk : Int) : Option TRequest :=
 br (decide (xk < 0)) (
 some (⟨0, ⟨[], []⟩, [], []⟩ : TRequest)
 ) (
 br (decide (xk ≥ (p.xSlots.length : Int))) (
 some (⟨0, ⟨[], []⟩, [], []⟩ : TRequest)
 ) (
 (getI p.xSlots xk).bind fun (e1 : TSlot) =>
 (iKindOfMode e1.xMode).bind fun (r2 : Int) =>
 some (⟨r2, e1.xTo, p.xAddr.xHost, e1.xDigest⟩ : TRequest)
 )
 )
theorem ei_iSlotRequest (p : TPage) (xk : Int) (k : Int → LU → LU → LU → LU → Option β) : Imp (F152 β p.xAddr.xHost p.xAddr.xPath p.xPolicy.xSet (rStr p.xPolicy.xScripts) (rStr p.xPolicy.xStyles) (rStr p.xPolicy.xImages) p.xPolicy.xNonce p.xTok.xRest (RToken p.xQueue) p.xEnded (RNode p.xBuilder.xNodes) (rInt p.xBuilder.xOpen) (RSlot p.xSlots) (RModule p.xMods) (RAddr p.xEntries) p.xBlock p.xInline p.xDeferred p.xEntered (RAddr p.xRan) (rStr p.xLog) p.xLoaded xk k) (iSlotRequest p xk) (fun r => k r.xKind r.xTo.xHost r.xTo.xPath r.xFrom r.xDigest) := by
 delta F152 P152 iSlotRequest
 refine ibr ?_ ?_
 ·exact irr
 ·refine Imp.br (c1 (fun z0 : Nat => (decide (xk ≥ (z0 : Int)))) (T_len (g := TSlot.row) p.xSlots)) ?_ ?_
  ·exact irr
  ·refine Imp.idx (g := TSlot.row) rfl rfl (fun e1 _ => ?_)
   refine Imp.call rfl (ei_iKindOfMode e1.xMode _) (fun r2 _ => ?_)
   exact irr
noncomputable def iOpenMods (p : TPage) : Option (List Int) :=
 (forE p.xMods (fun (i_1 : Nat) (x_1 : TModule) (s1 : List Int) => (
 br (!x_1.xDone) (
 chk ((s1.length + 1) * 8 ≤ 140737488355328 ∧ s1.length + 1 ≤ 140737488355328) <|
 some (.inl (s1 ++ [(i_1 : Int)]))
 ) (
 some (.inl s1)
 )
 : Option ((List Int) ⊕ (List Int)))) (fun (s1 : List Int) => (s1 : List Int)) ([] : List Int)).bind <|
 fun (r3 : List Int) =>
 some r3
theorem ei_iOpenMods (p : TPage) (k : List V → Option β) : Imp (F153 β p.xAddr.xHost p.xAddr.xPath p.xPolicy.xSet (rStr p.xPolicy.xScripts) (rStr p.xPolicy.xStyles) (rStr p.xPolicy.xImages) p.xPolicy.xNonce p.xTok.xRest (RToken p.xQueue) p.xEnded (RNode p.xBuilder.xNodes) (rInt p.xBuilder.xOpen) (RSlot p.xSlots) (RModule p.xMods) (RAddr p.xEntries) p.xBlock p.xInline p.xDeferred p.xEntered (RAddr p.xRan) (rStr p.xLog) p.xLoaded k) (iOpenMods p) (fun r => k (rInt r)) := by
 delta F153 P153 iOpenMods
 refine Imp.for (enc := fun (i_1 : Nat) (s1 : List Int) => [.l (rInt s1), .l (RModule p.xMods), .i (p.xMods.length : Int), .i (i_1 : Int)]) (encR := fun (u : List Int) => (((0, [.l (rInt u)]) : Nat × List Leaf))) (c1 (fun (h1 : Int) => ([.l (rInt []), .l (RModule p.xMods), .i h1, .i 0] : List Leaf)) (c1 (fun z0 : Nat => (z0 : Int)) (T_len (g := TModule.row) p.xMods))) (fun i_1 x_1 s1 hx1 hl1 hm1 => Imp.brT (Int.ofNat_lt.2 hl1) ?_) (fun s1 => brN (Int.lt_irrefl _) rfl) (fun r3 => ?_)
 ·refine Imp.idxFor (g := TModule.row) hx1 ?_
  refine ibr ?_ ?_
  ·refine Imp.chk (c2 (fun z0 z1 : Nat => (z0 + 1) * 8 ≤ 140737488355328 ∧ z1 + 1 ≤ 140737488355328) (U_len (T := Int) (kd := (.int .i64)) (g1 := fun e => e) s1) (U_len (T := Int) (kd := (.int .i64)) (g1 := fun e => e) s1)) (fun _ => ?_)
   exact Imp.ret (c2 (fun (h1 : List V) (h2 : Int) => (some (Sum.inl [.l h1, .l (RModule p.xMods), .i (p.xMods.length : Int), .i h2]) : OLL)) (U_app (T := Int) (kd := (.int .i64)) (g1 := fun e => e) s1 [(i_1 : Int)]) (wrapJ hl1))
  ·exact Imp.ret (c1 (fun (h1 : Int) => (some (Sum.inl [.l (rInt s1), .l (RModule p.xMods), .i (p.xMods.length : Int), .i h1]) : OLL)) (wrapJ hl1))
 ·exact irr
noncomputable def iModRequest (p : TPage) (xk : Int) : Option TRequest :=
 br (decide (xk < 0)) (
 some (⟨0, ⟨[], []⟩, [], []⟩ : TRequest)
 ) (
 br (decide (xk ≥ (p.xMods.length : Int))) (
 some (⟨0, ⟨[], []⟩, [], []⟩ : TRequest)
 ) (
 (getI p.xMods xk).bind fun (e1 : TModule) =>
 some (⟨5, e1.xTo, p.xAddr.xHost, []⟩ : TRequest)
 )
 )
theorem ei_iModRequest (p : TPage) (xk : Int) (k : Int → LU → LU → LU → LU → Option β) : Imp (F154 β p.xAddr.xHost p.xAddr.xPath p.xPolicy.xSet (rStr p.xPolicy.xScripts) (rStr p.xPolicy.xStyles) (rStr p.xPolicy.xImages) p.xPolicy.xNonce p.xTok.xRest (RToken p.xQueue) p.xEnded (RNode p.xBuilder.xNodes) (rInt p.xBuilder.xOpen) (RSlot p.xSlots) (RModule p.xMods) (RAddr p.xEntries) p.xBlock p.xInline p.xDeferred p.xEntered (RAddr p.xRan) (rStr p.xLog) p.xLoaded xk k) (iModRequest p xk) (fun r => k r.xKind r.xTo.xHost r.xTo.xPath r.xFrom r.xDigest) := by
 delta F154 P154 iModRequest
 refine ibr ?_ ?_
 ·exact irr
 ·refine Imp.br (c1 (fun z0 : Nat => (decide (xk ≥ (z0 : Int)))) (T_len (g := TModule.row) p.xMods)) ?_ ?_
  ·exact irr
  ·refine Imp.idx (g := TModule.row) rfl rfl (fun e1 _ => ?_)
   exact irr
noncomputable def iNextNeeds (p : TPage) : Option (List TRequest) :=
 (iOpenSlots p).bind fun (r1 : List Int) =>
 (forE r1 (fun (i_2 : Nat) (x_2 : Int) (s2 : List TRequest) => (
 (iSlotRequest p x_2).bind fun (r4 : TRequest) =>
 chk ((s2.length + 1) * 72 ≤ 140737488355328 ∧ s2.length + 1 ≤ 140737488355328) <|
 some (.inl (s2 ++ [r4]))
 : Option ((List TRequest) ⊕ (List TRequest)))) (fun (s2 : List TRequest) => (s2 : List TRequest)) ([] : List TRequest)).bind <|
 fun (r9 : List TRequest) =>
 (iOpenMods p).bind fun (r10 : List Int) =>
 (forE r10 (fun (i_11 : Nat) (x_11 : Int) (s11 : List TRequest) => (
 (iModRequest p x_11).bind fun (r13 : TRequest) =>
 chk ((s11.length + 1) * 72 ≤ 140737488355328 ∧ s11.length + 1 ≤ 140737488355328) <|
 some (.inl (s11 ++ [r13]))
 : Option ((List TRequest) ⊕ (List TRequest)))) (fun (s11 : List TRequest) => (s11 : List TRequest)) (r9 : List TRequest)).bind <|
 fun (r18 : List TRequest) =>
 some r18
theorem ei_iNextNeeds (p : TPage) (k : List V → Option β) : Imp (F91 β p.xAddr.xHost p.xAddr.xPath p.xPolicy.xSet (rStr p.xPolicy.xScripts) (rStr p.xPolicy.xStyles) (rStr p.xPolicy.xImages) p.xPolicy.xNonce p.xTok.xRest (RToken p.xQueue) p.xEnded (RNode p.xBuilder.xNodes) (rInt p.xBuilder.xOpen) (RSlot p.xSlots) (RModule p.xMods) (RAddr p.xEntries) p.xBlock p.xInline p.xDeferred p.xEntered (RAddr p.xRan) (rStr p.xLog) p.xLoaded k) (iNextNeeds p) (fun r => k (RRequest r)) := by
 delta F91 P91 iNextNeeds
 refine Imp.call rfl (ei_iOpenSlots p _) (fun r1 _ => ?_)
 refine Imp.for (enc := fun (i_2 : Nat) (s2 : List TRequest) => (.l (RRequest s2) :: .l (rInt r1) :: .i (r1.length : Int) :: .i (i_2 : Int) :: tl1 p)) (encR := fun (u : List TRequest) => (((0, (.l (RRequest u) :: tl1 p)) : Nat × List Leaf))) (c1 (fun (h1 : Int) => ([.l (RRequest []), .l (rInt r1), .i h1, .i 0, .s p.xAddr.xHost, .s p.xAddr.xPath, .b p.xPolicy.xSet, .l (rStr p.xPolicy.xScripts), .l (rStr p.xPolicy.xStyles), .l (rStr p.xPolicy.xImages), .s p.xPolicy.xNonce, .s p.xTok.xRest, .l (RToken p.xQueue), .b p.xEnded, .l (RNode p.xBuilder.xNodes), .l (rInt p.xBuilder.xOpen), .l (RSlot p.xSlots), .l (RModule p.xMods), .l (RAddr p.xEntries), .i p.xBlock, .i p.xInline, .i p.xDeferred, .i p.xEntered, .l (RAddr p.xRan), .l (rStr p.xLog), .b p.xLoaded] : List Leaf)) (c1 (fun z0 : Nat => (z0 : Int)) (U_len (T := Int) (kd := (.int .i64)) (g1 := fun e => e) r1))) (fun i_2 x_2 s2 hx2 hl2 hm2 => Imp.brT (Int.ofNat_lt.2 hl2) ?_) (fun s2 => brN (Int.lt_irrefl _) rfl) (fun r9 => ?_)
 ·refine Imp.chkE ⟨Int.natCast_nonneg _, Nat.lt_of_lt_of_eq hl2 (U_len (T := Int) (kd := (.int .i64)) (g1 := fun e => e) r1).symm⟩ ?_
  refine Imp.idxAtFor1 (kd := (.int .i64)) (g1 := fun e => e) hx2 rfl ?_
  refine Imp.call rfl (ei_iSlotRequest p x_2 _) (fun r4 _ => ?_)
  refine Imp.chk (c2 (fun z0 z1 : Nat => (z0 + 1) * 72 ≤ 140737488355328 ∧ z1 + 1 ≤ 140737488355328) (T_len (g := TRequest.row) s2) (T_len (g := TRequest.row) s2)) (fun _ => ?_)
  exact Imp.ret (c2 (fun (h1 : List V) (h2 : Int) => (some (Sum.inl (.l h1 :: .l (rInt r1) :: .i (r1.length : Int) :: .i h2 :: tl1 p)) : OLL)) (T_app (g := TRequest.row) s2 [r4]) (wrapJ hl2))
 ·refine Imp.call rfl (ei_iOpenMods p _) (fun r10 _ => ?_)
  refine Imp.for (enc := fun (i_11 : Nat) (s11 : List TRequest) => (.l (RRequest s11) :: .l (rInt r10) :: .i (r10.length : Int) :: .i (i_11 : Int) :: tl1 p)) (encR := fun (u : List TRequest) => (((0, [.l (RRequest u)]) : Nat × List Leaf))) (c1 (fun (h1 : Int) => ((.l (RRequest r9) :: .l (rInt r10) :: .i h1 :: .i 0 :: tl1 p) : List Leaf)) (c1 (fun z0 : Nat => (z0 : Int)) (U_len (T := Int) (kd := (.int .i64)) (g1 := fun e => e) r10))) (fun i_11 x_11 s11 hx11 hl11 hm11 => Imp.brT (Int.ofNat_lt.2 hl11) ?_) (fun s11 => brN (Int.lt_irrefl _) rfl) (fun r18 => ?_)
  ·refine Imp.chkE ⟨Int.natCast_nonneg _, Nat.lt_of_lt_of_eq hl11 (U_len (T := Int) (kd := (.int .i64)) (g1 := fun e => e) r10).symm⟩ ?_
   refine Imp.idxAtFor1 (kd := (.int .i64)) (g1 := fun e => e) hx11 rfl ?_
   refine Imp.call rfl (ei_iModRequest p x_11 _) (fun r13 _ => ?_)
   refine Imp.chk (c2 (fun z0 z1 : Nat => (z0 + 1) * 72 ≤ 140737488355328 ∧ z1 + 1 ≤ 140737488355328) (T_len (g := TRequest.row) s11) (T_len (g := TRequest.row) s11)) (fun _ => ?_)
   exact Imp.ret (c2 (fun (h1 : List V) (h2 : Int) => (some (Sum.inl (.l h1 :: .l (rInt r10) :: .i (r10.length : Int) :: .i h2 :: tl1 p)) : OLL)) (T_app (g := TRequest.row) s11 [r13]) (wrapJ hl11))
  ·exact irr
noncomputable def iSortAddrs (a0 : List TAddr) : Option (List TAddr) := sortPrE (fun (a : TAddr) => (a.xHost, a.xPath)) (fun p => (⟨p.1, p.2⟩ : TAddr)) a0
theorem ei_iSortAddrs (a0 : List TAddr) (k : List V → Option β) : Imp (F92 β (RAddr a0) k) (iSortAddrs a0) (fun r => k (RAddr r)) := ei_sortPrE (fun (a : TAddr) => (a.xHost, a.xPath)) (fun p => (⟨p.1, p.2⟩ : TAddr)) (fun _ => rfl) (fun _ => rfl) a0 k
noncomputable def iHiddenNeeds (h : THidden) : Option (List TAddr) :=
 (iNextNeeds h.xPage).bind fun (r1 : List TRequest) =>
 (forE r1 (fun (i_2 : Nat) (x_2 : TRequest) (s2 : List TAddr) => (
 br h.xReady (
 chk ((s2.length + 1) * 32 ≤ 140737488355328 ∧ s2.length + 1 ≤ 140737488355328) <|
 some (.inl (s2 ++ [x_2.xTo]))
 ) (
 some (.inl s2)
 )
 : Option ((List TAddr) ⊕ (List TAddr)))) (fun (s2 : List TAddr) => (s2 : List TAddr)) ([] : List TAddr)).bind <|
 fun (r4 : List TAddr) =>
 (iSortAddrs r4).bind fun (r5 : List TAddr) =>
 some r5
theorem ei_iHiddenNeeds (h : THidden) (k : List V → Option β) : Imp (F23 β h.xReady h.xPage.xAddr.xHost h.xPage.xAddr.xPath h.xPage.xPolicy.xSet (rStr h.xPage.xPolicy.xScripts) (rStr h.xPage.xPolicy.xStyles) (rStr h.xPage.xPolicy.xImages) h.xPage.xPolicy.xNonce h.xPage.xTok.xRest (RToken h.xPage.xQueue) h.xPage.xEnded (RNode h.xPage.xBuilder.xNodes) (rInt h.xPage.xBuilder.xOpen) (RSlot h.xPage.xSlots) (RModule h.xPage.xMods) (RAddr h.xPage.xEntries) h.xPage.xBlock h.xPage.xInline h.xPage.xDeferred h.xPage.xEntered (RAddr h.xPage.xRan) (rStr h.xPage.xLog) h.xPage.xLoaded (RKept h.xTaken) (RServer h.xServers) h.xNow k) (iHiddenNeeds h) (fun r => k (RAddr r)) := by
 delta F23 P23 iHiddenNeeds
 refine Imp.call rfl (ei_iNextNeeds h.xPage _) (fun r1 _ => ?_)
 refine Imp.for (enc := fun (i_2 : Nat) (s2 : List TAddr) => (.l (RAddr s2) :: .l (RRequest r1) :: .i (r1.length : Int) :: .i (i_2 : Int) :: tl0 h)) (encR := fun (u : List TAddr) => (((0, [.l (RAddr u)]) : Nat × List Leaf))) (c1 (fun (h1 : Int) => ([.l (RAddr []), .l (RRequest r1), .i h1, .i 0, .b h.xReady, .s h.xPage.xAddr.xHost, .s h.xPage.xAddr.xPath, .b h.xPage.xPolicy.xSet, .l (rStr h.xPage.xPolicy.xScripts), .l (rStr h.xPage.xPolicy.xStyles), .l (rStr h.xPage.xPolicy.xImages), .s h.xPage.xPolicy.xNonce, .s h.xPage.xTok.xRest, .l (RToken h.xPage.xQueue), .b h.xPage.xEnded, .l (RNode h.xPage.xBuilder.xNodes), .l (rInt h.xPage.xBuilder.xOpen), .l (RSlot h.xPage.xSlots), .l (RModule h.xPage.xMods), .l (RAddr h.xPage.xEntries), .i h.xPage.xBlock, .i h.xPage.xInline, .i h.xPage.xDeferred, .i h.xPage.xEntered, .l (RAddr h.xPage.xRan), .l (rStr h.xPage.xLog), .b h.xPage.xLoaded, .l (RKept h.xTaken), .l (RServer h.xServers), .i h.xNow] : List Leaf)) (c1 (fun z0 : Nat => (z0 : Int)) (T_len (g := TRequest.row) r1))) (fun i_2 x_2 s2 hx2 hl2 hm2 => Imp.brT (Int.ofNat_lt.2 hl2) ?_) (fun s2 => brN (Int.lt_irrefl _) rfl) (fun r4 => ?_)
 ·refine Imp.chkE ⟨Int.natCast_nonneg _, Nat.lt_of_lt_of_eq hl2 (T_len (g := TRequest.row) r1).symm⟩ ?_
  refine Imp.idxAtFor (g := TRequest.row) hx2 rfl ?_
  refine ibr ?_ ?_
  ·refine Imp.chk (c2 (fun z0 z1 : Nat => (z0 + 1) * 32 ≤ 140737488355328 ∧ z1 + 1 ≤ 140737488355328) (T_len (g := TAddr.row) s2) (T_len (g := TAddr.row) s2)) (fun _ => ?_)
   exact Imp.ret (c2 (fun (h1 : List V) (h2 : Int) => (some (Sum.inl (.l h1 :: .l (RRequest r1) :: .i (r1.length : Int) :: .i h2 :: tl0 h)) : OLL)) (T_app (g := TAddr.row) s2 [x_2.xTo]) (wrapJ hl2))
  ·exact Imp.ret (c1 (fun (h1 : Int) => (some (Sum.inl (.l (RAddr s2) :: .l (RRequest r1) :: .i (r1.length : Int) :: .i h1 :: tl0 h)) : OLL)) (wrapJ hl2))
 ·refine Imp.call rfl (ei_iSortAddrs r4 _) (fun r5 _ => ?_)
  exact irr
noncomputable def lmarkText (xk : Int) : Option (LU) :=
 br (decide (xk ≤ 0)) (
 some [109, 48]
 ) (
 (whileE (fun (s1 : Int × (LU)) => (
 br (decide (s1.1 > 0)) (
 chk ((strI [(IntKind.wrap .u8 (IntKind.wrap .i64 (48 + (Int.tmod s1.1 10))))]).length + s1.2.length ≤ 9223372036854775807) <|
 some (.inl ((IntKind.wrap .i64 (Int.tdiv s1.1 10)), ((strI [(IntKind.wrap .u8 (IntKind.wrap .i64 (48 + (Int.tmod s1.1 10))))]) ++ s1.2)))
 ) (
 some (.inr s1.2)
 )
 : Option ((Int × (LU)) ⊕ (LU)))) ((xk, []) : Int × (LU))).bind <|
 fun (r3 : LU) =>
 chk (1 + r3.length ≤ 9223372036854775807) <|
 some ([109] ++ r3)
 )
theorem ei_lmarkText (xk : Int) (k : LU → Option β) : Imp (F97 β xk k) (lmarkText xk) k := by
 delta F97 P97 lmarkText
 refine ibr ?_ ?_
 ·exact irr
 ·refine Imp.while (enc := fun (s1 : Int × (LU)) => [.i s1.1, .s s1.2]) (encR := fun (u : LU) => (((0, [.s u]) : Nat × List Leaf))) rfl (fun s1 => ?_) (fun r3 => ?_)
  ·refine ibr ?_ ?_
   ·refine Imp.strO (l := [(IntKind.wrap .u8 (IntKind.wrap .i64 (48 + (Int.tmod s1.1 10))))]) rfl ?_
    refine Imp.chk rfl (fun _ => ?_)
    exact irr
   ·exact irr
  ·refine Imp.chk rfl (fun _ => ?_)
   exact irr
end Go.Am
end
section
set_option linter.unusedVariables false
set_option linter.unusedSimpArgs false
namespace Go.Am
open Go
section
variable {α γ T σ ρ : Type}
def Ok (x : Option α) (Q : α → Prop) : Prop := ∃ r, x = some r ∧ Q r
theorem Ok.ret {r : α} {Q : α → Prop} (h : Q r) : Ok (some r) Q := ⟨r, rfl, h⟩
theorem Ok.bind {x : Option α} {f : α → Option γ} {Q1 : α → Prop} {Q : γ → Prop} (h : Ok x Q1) (h2 : ∀ r, x = some r → Q1 r → Ok (f r) Q) : Ok (x.bind f) Q := by
 obtain ⟨r, h1, h3⟩ := h
 subst h1
 exact h2 r rfl h3
theorem Ok.br {b : Bool} {x y : Option α} {Q : α → Prop} (h1 : b = true → Ok x Q) (h2 : b = false → Ok y Q) : Ok (Go.Am.br b x y) Q := by
 cases b
 ·exact h2 rfl
 ·exact h1 rfl
theorem Ok.chk {p : Prop} {d : Decidable p} {x : Option α} {Q : α → Prop} (hp : p) (h : Ok x Q) : Ok (@Go.Am.chk α p d x) Q := by
 obtain ⟨r, h1, h2⟩ := h
 exact ⟨r, (if_pos hp).trans h1, h2⟩
theorem Ok.mono {x : Option α} {Q1 Q : α → Prop} (h : Ok x Q1) (h2 : ∀ r, x = some r → Q1 r → Q r) : Ok x Q := by
 obtain ⟨r, h1, h3⟩ := h
 exact ⟨r, h1, h2 r h1 h3⟩
theorem Ok.of {x : Option α} {r : α} {Q : α → Prop} (h : x = some r) (hq : Q r) : Ok x Q := ⟨r, h, hq⟩
theorem Ok.getI {l : List T} {n : Int} (h0 : 0 ≤ n) (h1 : n.toNat < l.length) : Ok (Go.Am.getI l n) (fun x => l[n.toNat]? = some x ∧ x ∈ l) := by
 refine ⟨l[n.toNat], ?_, ?_, List.getElem_mem h1⟩
 ·unfold Go.Am.getI
  rw [if_pos h0, List.getElem?_eq_getElem h1]
 ·exact List.getElem?_eq_getElem h1
theorem Ok.getS {l : List UInt8} {n : Int} (h0 : 0 ≤ n) (h1 : n.toNat < l.length) : Ok (Go.Am.getS l n) (fun x => ∃ b, l[n.toNat]? = some b ∧ x = (b.toNat : Int)) := by
 refine ⟨(l[n.toNat].toNat : Int), ?_, l[n.toNat], List.getElem?_eq_getElem h1, rfl⟩
 unfold Go.Am.getS
 rw [if_pos h0, List.getElem?_eq_getElem h1]
 rfl
theorem forA_ok {body : Nat → T → σ → Option (σ ⊕ ρ)} {fin : σ → ρ} {l : List T} {Q : ρ → Prop} (Inv : Nat → σ → Prop)
  (hb : ∀ i x s, l[i]? = some x → Inv i s → Ok (body i x s) (fun z => match z with
   | .inl s' => Inv (i + 1) s'
   | .inr r => Q r)) (hf : ∀ s, Inv l.length s → Q (fin s)) : ∀ (zs : List T) (i : Nat) (s : σ), l.drop i = zs → i ≤ l.length → Inv i s → Ok (forA body fin i zs s) Q := by
 intro zs
 induction zs with
 | nil =>
  intro i s hd hi hs
  have : i = l.length := by
   have := List.drop_eq_nil_iff.1 hd
   omega
  subst this
  exact ⟨_, rfl, hf s hs⟩
 | cons x zs ih =>
  intro i s hd hi hs
  have hx : l[i]? = some x := by
   have := congrArg (fun l => l[0]?) hd
   simpa using this
  have hlt := (gs_ hx).1
  have hd' : l.drop (i + 1) = zs := by rw [← List.tail_drop, hd]; rfl
  obtain ⟨z, h1, h2⟩ := hb i x s hx hs
  rw [forA, h1]
  cases z with
  | inl s' => exact ih (i + 1) s' hd' (by omega) h2
  | inr r => exact ⟨r, rfl, h2⟩
theorem Ok.for {body : Nat → T → σ → Option (σ ⊕ ρ)} {fin : σ → ρ} {l : List T} {s0 : σ} {Q : ρ → Prop} (hl : l.length ≤ maxLen) (Inv : Nat → σ → Prop) (h0 : Inv 0 s0)
  (hb : ∀ i x s, l[i]? = some x → Inv i s → Ok (body i x s) (fun z => match z with
   | .inl s' => Inv (i + 1) s'
   | .inr r => Q r)) (hf : ∀ s, Inv l.length s → Q (fin s)) : Ok (forE l body fin s0) Q := by
 unfold forE
 rw [if_pos hl]
 exact forA_ok Inv hb hf l 0 s0 rfl (Nat.zero_le _) h0
theorem Ok.while {body : σ → Option (σ ⊕ ρ)} {s0 : σ} {Q : ρ → Prop} (Inv : σ → Prop) (m : σ → Nat) (h0 : Inv s0)
  (hb : ∀ s, Inv s → Ok (body s) (fun z => match z with
   | .inl s' => Inv s' ∧ m s' < m s
   | .inr r => Q r)) : Ok (whileE body s0) Q := by
 have key : ∀ (n : Nat) (s : σ), m s < n → Inv s → Ok (whileE body s) Q := by
  intro n
  induction n with
  | zero => intro s h; omega
  | succ n ih =>
   intro s hm hs
   obtain ⟨z, h1, h2⟩ := hb s hs
   unfold whileE
   rw [whileInf_step, h1]
   cases z with
   | inl s' => exact ih s' (by have := h2.2; omega) h2.1
   | inr r => exact ⟨r, rfl, h2⟩
 exact key _ s0 (Nat.lt_succ_self _) h0
end
end Go.Am
end
section
set_option linter.unusedVariables false
set_option linter.unusedSimpArgs false
namespace Go.Am
open Go
section
variable {T ρ : Type}
theorem getI_nat {l : List T} {i : Nat} {x : T} (h : l[i]? = some x) : getI l (i : Int) = some x := by
 unfold getI
 rw [if_pos (Int.natCast_nonneg _)]
 exact h
theorem forA_eqL [DecidableEq T] {body : Nat → T → Unit → Option (Unit ⊕ ρ)} {fin : Unit → ρ} {r : ρ} {a b : List T}
  (h : ∀ i x y, a[i]? = some x → b[i]? = some y → body i x () = some (if x = y then .inl () else .inr r)) : ∀ (zs ys : List T) (i : Nat), a.drop i = zs → b.drop i = ys → zs.length = ys.length → forA body fin i zs () = some (if zs = ys then fin () else r) := by
 intro zs
 induction zs with
 | nil =>
  intro ys i _ _ hl
  obtain rfl : ys = [] := List.length_eq_zero_iff.1 hl.symm
  rfl
 | cons z zs ih =>
  intro ys i h1 h2 hl
  cases ys with
  | nil => simp at hl
  | cons y ys =>
   have hz : a[i]? = some z := by
    have := congrArg (fun l => l[0]?) h1
    simpa using this
   have hy : b[i]? = some y := by
    have := congrArg (fun l => l[0]?) h2
    simpa using this
   rw [forA, h i z y hz hy]
   by_cases c : z = y
   ·rw [if_pos c]
    show forA body fin (i + 1) zs () = _
    rw [ih ys (i + 1) (by rw [← List.tail_drop, h1]; rfl) (by rw [← List.tail_drop, h2]; rfl) (by simpa using hl)]
    subst c
    simp
   ·rw [if_neg c]
    show some r = _
    rw [if_neg (by intro e; exact c (List.cons.inj e).1)]
theorem for_eqL [DecidableEq T] {body : Nat → T → Unit → Option (Unit ⊕ ρ)} {fin : Unit → ρ} (r : ρ) {a b : List T} (hl : a.length = b.length) (hm : a.length ≤ maxLen)
  (h : ∀ i x y, a[i]? = some x → b[i]? = some y → body i x () = some (if x = y then .inl () else .inr r)) : forE a body fin () = some (if a = b then fin () else r) := by
 unfold forE
 rw [if_pos hm]
 exact forA_eqL h a b 0 rfl rfl hl
theorem len_ne {a b : List T} : ((a.length : Int) != (b.length : Int)) = !decide (a.length = b.length) := by
 by_cases h : a.length = b.length
 ·simp [h]
 ·have h2 : (a.length : Int) ≠ (b.length : Int) := by omega
  rw [decide_eq_false h]
  simpa using h2
end
end Go.Am
end
section
set_option linter.unusedVariables false
set_option linter.unusedSimpArgs false
namespace Go.Am
open Go
section
variable {β : Type}
end
end Go.Am
end
