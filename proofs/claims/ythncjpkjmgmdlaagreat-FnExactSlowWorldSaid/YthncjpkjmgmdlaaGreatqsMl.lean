/-
  Mathematics of laws that mark.
-/
import Derived.Test.YthncjpkjmgmdlaaGreatqsAmTyped
import Derived.Test.YthncjpkjmgmdlaaGreatqsAmCfg
import Derived.Test.YthncjpkjmgmdlaaGreatqsAmSeq
import Derived.Test.YthncjpkjmgmdlaaGreatqsTl
section
set_option maxRecDepth 10000
set_option linter.unusedVariables false
namespace Go.Am
open Go Go.Proofs
variable {β : Type}
abbrev OLL := Option (List Leaf ⊕ (Nat × List Leaf))
abbrev RAddr (l : List TAddr) : List V := rows kAddr TAddr.row l
abbrev RAttr (l : List TAttr) : List V := rows kAttr TAttr.row l
abbrev REntry (l : List TEntry) : List V := rows kEntry TEntry.row l
abbrev RKept (l : List TKept) : List V := rows kKept TKept.row l
abbrev RModule (l : List TModule) : List V := rows kModule TModule.row l
abbrev RNode (l : List TNode) : List V := rows kNode TNode.row l
abbrev RSent (l : List TSent) : List V := rows kSent TSent.row l
abbrev RServer (l : List TServer) : List V := rows kServer TServer.row l
abbrev RSlot (l : List TSlot) : List V := rows kSlot TSlot.row l
abbrev RToken (l : List TToken) : List V := rows kToken TToken.row l
abbrev RVisit (l : List TVisit) : List V := rows kVisit TVisit.row l
theorem S_len (l : List LU) : (rStr l).length = l.length := U_len (T := LU) (kd := .str) (g1 := fun e => e) l
theorem S_app (a b : List LU) : rStr a ++ rStr b = rStr (a ++ b) := U_app (T := LU) (kd := .str) (g1 := fun e => e) a b
section
variable {α γ : Type} {x y : Option α} {x' y' : Option γ} {k : γ → Option α}
theorem irr {r : γ} (h : x = k r := by exact rfl) : Imp x (some r) k := Imp.ret h
theorem ibr {b : Bool} (hx : Imp x x' k) (hy : Imp y y' k) : Imp (br b x y) (Go.Am.br b x' y') k := Imp.br rfl hx hy
end
noncomputable def sl9Copy (p : TPolicy) : Option TPolicy :=
 chk ((0 + p.xScripts.length) * 16 ≤ 140737488355328 ∧ 0 + p.xScripts.length ≤ 140737488355328) <|
 chk ((0 + p.xStyles.length) * 16 ≤ 140737488355328 ∧ 0 + p.xStyles.length ≤ 140737488355328) <|
 chk ((0 + p.xImages.length) * 16 ≤ 140737488355328 ∧ 0 + p.xImages.length ≤ 140737488355328) <|
 some (⟨p.xSet, ([] ++ p.xScripts), ([] ++ p.xStyles), ([] ++ p.xImages), p.xNonce⟩ : TPolicy)
theorem ei_sl9Copy (p : TPolicy) (k : Bool → List V → List V → List V → LU → Option β) : Imp (F112 β p.xSet (rStr p.xScripts) (rStr p.xStyles) (rStr p.xImages) p.xNonce k) (sl9Copy p) (fun r => k r.xSet (rStr r.xScripts) (rStr r.xStyles) (rStr r.xImages) r.xNonce) := by
 delta F112 P112 sl9Copy
 refine Imp.chk (c2 (fun z0 z1 : Nat => (0 + z0) * 16 ≤ 140737488355328 ∧ 0 + z1 ≤ 140737488355328) (S_len p.xScripts) (S_len p.xScripts)) (fun _ => ?_)
 refine Imp.chk (c2 (fun z0 z1 : Nat => (0 + z0) * 16 ≤ 140737488355328 ∧ 0 + z1 ≤ 140737488355328) (S_len p.xStyles) (S_len p.xStyles)) (fun _ => ?_)
 refine Imp.chk (c2 (fun z0 z1 : Nat => (0 + z0) * 16 ≤ 140737488355328 ∧ 0 + z1 ≤ 140737488355328) (S_len p.xImages) (S_len p.xImages)) (fun _ => ?_)
 exact Imp.ret (c3 (fun (h1 : List V) (h2 : List V) (h3 : List V) => k p.xSet h1 h2 h3 p.xNonce) (S_app [] p.xScripts) (S_app [] p.xStyles) (S_app [] p.xImages))
noncomputable def sl6Attrs (l : List TAttr) : Option (List TAttr) :=
 chk ((0 + l.length) * 32 ≤ 140737488355328 ∧ 0 + l.length ≤ 140737488355328) <|
 some ([] ++ l)
theorem ei_sl6Attrs (l : List TAttr) (k : List V → Option β) : Imp (F180 β (RAttr l) k) (sl6Attrs l) (fun r => k (RAttr r)) := by
 delta F180 P180 sl6Attrs
 refine Imp.chk (c2 (fun z0 z1 : Nat => (0 + z0) * 32 ≤ 140737488355328 ∧ 0 + z1 ≤ 140737488355328) (T_len (g := TAttr.row) l) (T_len (g := TAttr.row) l)) (fun _ => ?_)
 exact Imp.ret (c1 (fun (h1 : List V) => k h1) (T_app (g := TAttr.row) [] l))
noncomputable def sl15Tokens (l : List TToken) : Option (List TToken) :=
 (forE l (fun (i_1 : Nat) (x_1 : TToken) (s1 : List TToken) => (
  (sl6Attrs x_1.xAttrs).bind fun (r4 : List TAttr) =>
  chk ((s1.length + 1) * 64 ≤ 140737488355328 ∧ s1.length + 1 ≤ 140737488355328) <|
  some (.inl (s1 ++ [{ x_1 with xAttrs := r4 }]))
 : Option ((List TToken) ⊕ (List TToken)))) (fun (s1 : List TToken) => (s1 : List TToken)) ([] : List TToken)).bind <|
 fun (r5 : List TToken) =>
 some r5
theorem ei_sl15Tokens (l : List TToken) (k : List V → Option β) : Imp (F113 β (RToken l) k) (sl15Tokens l) (fun r => k (RToken r)) := by
 delta F113 P113 sl15Tokens
 refine Imp.for (enc := fun (i_1 : Nat) (s1 : List TToken) => [.l (RToken l), .l (RToken s1), .i (i_1 : Int)]) (encR := fun (u : List TToken) => (((0, [.l (RToken u)]) : Nat × List Leaf))) rfl (fun i_1 x_1 s1 hx1 hl1 hm1 => Imp.brT (T_lt (g := TToken.row) hl1) ?_) (fun s1 => brN (T_irr (g := TToken.row) l) rfl) (fun r5 => ?_)
 ·refine Imp.idxFor (g := TToken.row) hx1 ?_
  refine Imp.idxFor (g := TToken.row) hx1 ?_
  refine Imp.call rfl (ei_sl6Attrs x_1.xAttrs _) (fun r4 _ => ?_)
  refine Imp.chk (c2 (fun z0 z1 : Nat => (z0 + 1) * 64 ≤ 140737488355328 ∧ z1 + 1 ≤ 140737488355328) (T_len (g := TToken.row) s1) (T_len (g := TToken.row) s1)) (fun _ => ?_)
  exact Imp.ret (c2 (fun (h1 : List V) (h2 : Int) => (some (Sum.inl [.l (RToken l), .l h1, .i h2]) : OLL)) (T_app (g := TToken.row) s1 [{ x_1 with xAttrs := r4 }]) (wrapJ hl1))
 ·exact irr
noncomputable def sl6Copy (b : TBuilder) : Option TBuilder :=
 chk ((0 + b.xOpen.length) * 8 ≤ 140737488355328 ∧ 0 + b.xOpen.length ≤ 140737488355328) <|
 (forE b.xNodes (fun (i_1 : Nat) (x_1 : TNode) (s1 : List TNode) => (
  (sl6Attrs x_1.xAttrs).bind fun (r4 : List TAttr) =>
  chk ((s1.length + 1) * 64 ≤ 140737488355328 ∧ s1.length + 1 ≤ 140737488355328) <|
  some (.inl (s1 ++ [{ x_1 with xAttrs := r4 }]))
 : Option ((List TNode) ⊕ (List TNode)))) (fun (s1 : List TNode) => (s1 : List TNode)) ([] : List TNode)).bind <|
 fun (r5 : List TNode) =>
 some (⟨r5, ([] ++ b.xOpen)⟩ : TBuilder)
theorem ei_sl6Copy (b : TBuilder) (k : List V → List V → Option β) : Imp (F114 β (RNode b.xNodes) (rInt b.xOpen) k) (sl6Copy b) (fun r => k (RNode r.xNodes) (rInt r.xOpen)) := by
 delta F114 P114 sl6Copy
 refine Imp.chk (c2 (fun z0 z1 : Nat => (0 + z0) * 8 ≤ 140737488355328 ∧ 0 + z1 ≤ 140737488355328) (U_len (T := Int) (kd := (.int .i64)) (g1 := fun e => e) b.xOpen) (U_len (T := Int) (kd := (.int .i64)) (g1 := fun e => e) b.xOpen)) (fun _ => ?_)
 refine Imp.for (enc := fun (i_1 : Nat) (s1 : List TNode) => [.i (i_1 : Int), .l (RNode b.xNodes), .l (rInt b.xOpen), .l (RNode s1), .l (rInt ([] ++ b.xOpen))]) (encR := fun (u : List TNode) => (((0, [.l (RNode u), .l (rInt ([] ++ b.xOpen))]) : Nat × List Leaf))) (c1 (fun (h1 : List V) => ([.i 0, .l (RNode b.xNodes), .l (rInt b.xOpen), .l (RNode []), .l h1] : List Leaf)) (U_app (T := Int) (kd := (.int .i64)) (g1 := fun e => e) [] b.xOpen)) (fun i_1 x_1 s1 hx1 hl1 hm1 => Imp.brT (T_lt (g := TNode.row) hl1) ?_) (fun s1 => brN (T_irr (g := TNode.row) b.xNodes) rfl) (fun r5 => ?_)
 ·refine Imp.idxFor (g := TNode.row) hx1 ?_
  refine Imp.idxFor (g := TNode.row) hx1 ?_
  refine Imp.call rfl (ei_sl6Attrs x_1.xAttrs _) (fun r4 _ => ?_)
  refine Imp.chk (c2 (fun z0 z1 : Nat => (z0 + 1) * 64 ≤ 140737488355328 ∧ z1 + 1 ≤ 140737488355328) (T_len (g := TNode.row) s1) (T_len (g := TNode.row) s1)) (fun _ => ?_)
  exact Imp.ret (c2 (fun (h1 : Int) (h2 : List V) => (some (Sum.inl [.i h1, .l (RNode b.xNodes), .l (rInt b.xOpen), .l h2, .l (rInt ([] ++ b.xOpen))]) : OLL)) (wrapJ hl1) (T_app (g := TNode.row) s1 [{ x_1 with xAttrs := r4 }]))
 ·exact irr
noncomputable def sl15Copy (p : TPage) : Option TPage :=
 (sl9Copy p.xPolicy).bind fun (r1 : TPolicy) =>
 (sl15Tokens p.xQueue).bind fun (r6 : List TToken) =>
 (sl6Copy p.xBuilder).bind fun (r7 : TBuilder) =>
 chk ((0 + p.xSlots.length) * 96 ≤ 140737488355328 ∧ 0 + p.xSlots.length ≤ 140737488355328) <|
 chk ((0 + p.xMods.length) * 64 ≤ 140737488355328 ∧ 0 + p.xMods.length ≤ 140737488355328) <|
 chk ((0 + p.xEntries.length) * 32 ≤ 140737488355328 ∧ 0 + p.xEntries.length ≤ 140737488355328) <|
 chk ((0 + p.xRan.length) * 32 ≤ 140737488355328 ∧ 0 + p.xRan.length ≤ 140737488355328) <|
 chk ((0 + p.xLog.length) * 16 ≤ 140737488355328 ∧ 0 + p.xLog.length ≤ 140737488355328) <|
 some { p with xPolicy := r1, xQueue := r6, xBuilder := r7, xSlots := ([] ++ p.xSlots), xMods := ([] ++ p.xMods), xEntries := ([] ++ p.xEntries), xRan := ([] ++ p.xRan), xLog := ([] ++ p.xLog) }
theorem ei_sl15Copy (p : TPage) (k : LU → LU → Bool → List V → List V → List V → LU → LU → List V → Bool → List V → List V → List V → List V → List V → Int → Int → Int → Int → List V → List V → Bool → Option β) : Imp (F48 β p.xAddr.xHost p.xAddr.xPath p.xPolicy.xSet (rStr p.xPolicy.xScripts) (rStr p.xPolicy.xStyles) (rStr p.xPolicy.xImages) p.xPolicy.xNonce p.xTok.xRest (RToken p.xQueue) p.xEnded (RNode p.xBuilder.xNodes) (rInt p.xBuilder.xOpen) (RSlot p.xSlots) (RModule p.xMods) (RAddr p.xEntries) p.xBlock p.xInline p.xDeferred p.xEntered (RAddr p.xRan) (rStr p.xLog) p.xLoaded k) (sl15Copy p) (fun r => k r.xAddr.xHost r.xAddr.xPath r.xPolicy.xSet (rStr r.xPolicy.xScripts) (rStr r.xPolicy.xStyles) (rStr r.xPolicy.xImages) r.xPolicy.xNonce r.xTok.xRest (RToken r.xQueue) r.xEnded (RNode r.xBuilder.xNodes) (rInt r.xBuilder.xOpen) (RSlot r.xSlots) (RModule r.xMods) (RAddr r.xEntries) r.xBlock r.xInline r.xDeferred r.xEntered (RAddr r.xRan) (rStr r.xLog) r.xLoaded) := by
 delta F48 P48 sl15Copy
 refine Imp.call rfl (ei_sl9Copy p.xPolicy _) (fun r1 _ => ?_)
 refine Imp.call rfl (ei_sl15Tokens p.xQueue _) (fun r6 _ => ?_)
 refine Imp.call rfl (ei_sl6Copy p.xBuilder _) (fun r7 _ => ?_)
 refine Imp.chk (c2 (fun z0 z1 : Nat => (0 + z0) * 96 ≤ 140737488355328 ∧ 0 + z1 ≤ 140737488355328) (T_len (g := TSlot.row) p.xSlots) (T_len (g := TSlot.row) p.xSlots)) (fun _ => ?_)
 refine Imp.chk (c2 (fun z0 z1 : Nat => (0 + z0) * 64 ≤ 140737488355328 ∧ 0 + z1 ≤ 140737488355328) (T_len (g := TModule.row) p.xMods) (T_len (g := TModule.row) p.xMods)) (fun _ => ?_)
 refine Imp.chk (c2 (fun z0 z1 : Nat => (0 + z0) * 32 ≤ 140737488355328 ∧ 0 + z1 ≤ 140737488355328) (T_len (g := TAddr.row) p.xEntries) (T_len (g := TAddr.row) p.xEntries)) (fun _ => ?_)
 refine Imp.chk (c2 (fun z0 z1 : Nat => (0 + z0) * 32 ≤ 140737488355328 ∧ 0 + z1 ≤ 140737488355328) (T_len (g := TAddr.row) p.xRan) (T_len (g := TAddr.row) p.xRan)) (fun _ => ?_)
 refine Imp.chk (c2 (fun z0 z1 : Nat => (0 + z0) * 16 ≤ 140737488355328 ∧ 0 + z1 ≤ 140737488355328) (S_len p.xLog) (S_len p.xLog)) (fun _ => ?_)
 exact Imp.ret (c5 (fun (h1 : List V) (h2 : List V) (h3 : List V) (h4 : List V) (h5 : List V) => k p.xAddr.xHost p.xAddr.xPath r1.xSet (rStr r1.xScripts) (rStr r1.xStyles) (rStr r1.xImages) r1.xNonce p.xTok.xRest (RToken r6) p.xEnded (RNode r7.xNodes) (rInt r7.xOpen) h1 h2 h3 p.xBlock p.xInline p.xDeferred p.xEntered h4 h5 p.xLoaded) (T_app (g := TSlot.row) [] p.xSlots) (T_app (g := TModule.row) [] p.xMods) (T_app (g := TAddr.row) [] p.xEntries) (T_app (g := TAddr.row) [] p.xRan) (S_app [] p.xLog))
noncomputable def sl31Copy (t : TTab) : Option TTab :=
 (forE t.xVisits (fun (i_1 : Nat) (x_1 : TVisit) (s1 : List TVisit) => (
  (sl15Copy x_1.xPage).bind fun (r4 : TPage) =>
  chk ((s1.length + 1) * 424 ≤ 140737488355328 ∧ s1.length + 1 ≤ 140737488355328) <|
  some (.inl (s1 ++ [{ x_1 with xPage := r4 }]))
 : Option ((List TVisit) ⊕ (List TVisit)))) (fun (s1 : List TVisit) => (s1 : List TVisit)) ([] : List TVisit)).bind <|
 fun (r26 : List TVisit) =>
 some { t with xVisits := r26 }
theorem ei_sl31Copy (t : TTab) (k : List V → Int → Option β) : Imp (F46 β (RVisit t.xVisits) t.xAt k) (sl31Copy t) (fun r => k (RVisit r.xVisits) r.xAt) := by
 delta F46 P46 sl31Copy
 refine Imp.for (enc := fun (i_1 : Nat) (s1 : List TVisit) => [.i (i_1 : Int), .l (RVisit t.xVisits), .i t.xAt, .i 0, .l (RVisit s1), .i t.xAt]) (encR := fun (u : List TVisit) => (((0, [.i 0, .l (RVisit u), .i t.xAt]) : Nat × List Leaf))) rfl (fun i_1 x_1 s1 hx1 hl1 hm1 => Imp.brT (T_lt (g := TVisit.row) hl1) ?_) (fun s1 => brN (T_irr (g := TVisit.row) t.xVisits) rfl) (fun r26 => ?_)
 ·refine Imp.idxFor (g := TVisit.row) hx1 ?_
  refine Imp.idxFor (g := TVisit.row) hx1 ?_
  refine Imp.call rfl (ei_sl15Copy x_1.xPage _) (fun r4 _ => ?_)
  refine Imp.chk (c2 (fun z0 z1 : Nat => (z0 + 1) * 424 ≤ 140737488355328 ∧ z1 + 1 ≤ 140737488355328) (T_len (g := TVisit.row) s1) (T_len (g := TVisit.row) s1)) (fun _ => ?_)
  exact Imp.ret (c2 (fun (h1 : Int) (h2 : List V) => (some (Sum.inl [.i h1, .l (RVisit t.xVisits), .i t.xAt, .i 0, .l h2, .i t.xAt]) : OLL)) (wrapJ hl1) (T_app (g := TVisit.row) s1 [{ x_1 with xPage := r4 }]))
 ·exact irr
noncomputable def icopyPolicy (p : TPolicy) : Option TPolicy :=
 chk ((0 + p.xScripts.length) * 16 ≤ 140737488355328 ∧ 0 + p.xScripts.length ≤ 140737488355328) <|
 chk ((0 + p.xStyles.length) * 16 ≤ 140737488355328 ∧ 0 + p.xStyles.length ≤ 140737488355328) <|
 chk ((0 + p.xImages.length) * 16 ≤ 140737488355328 ∧ 0 + p.xImages.length ≤ 140737488355328) <|
 some (⟨p.xSet, ([] ++ p.xScripts), ([] ++ p.xStyles), ([] ++ p.xImages), p.xNonce⟩ : TPolicy)
theorem ei_icopyPolicy (p : TPolicy) (k : Bool → List V → List V → List V → LU → Option β) : Imp (F121 β p.xSet (rStr p.xScripts) (rStr p.xStyles) (rStr p.xImages) p.xNonce k) (icopyPolicy p) (fun r => k r.xSet (rStr r.xScripts) (rStr r.xStyles) (rStr r.xImages) r.xNonce) := by
 delta F121 P121 icopyPolicy
 refine Imp.chk (c2 (fun z0 z1 : Nat => (0 + z0) * 16 ≤ 140737488355328 ∧ 0 + z1 ≤ 140737488355328) (S_len p.xScripts) (S_len p.xScripts)) (fun _ => ?_)
 refine Imp.chk (c2 (fun z0 z1 : Nat => (0 + z0) * 16 ≤ 140737488355328 ∧ 0 + z1 ≤ 140737488355328) (S_len p.xStyles) (S_len p.xStyles)) (fun _ => ?_)
 refine Imp.chk (c2 (fun z0 z1 : Nat => (0 + z0) * 16 ≤ 140737488355328 ∧ 0 + z1 ≤ 140737488355328) (S_len p.xImages) (S_len p.xImages)) (fun _ => ?_)
 exact Imp.ret (c3 (fun (h1 : List V) (h2 : List V) (h3 : List V) => k p.xSet h1 h2 h3 p.xNonce) (S_app [] p.xScripts) (S_app [] p.xStyles) (S_app [] p.xImages))
noncomputable def icopyToken (t : TToken) : Option TToken :=
 chk ((0 + t.xAttrs.length) * 32 ≤ 140737488355328 ∧ 0 + t.xAttrs.length ≤ 140737488355328) <|
 some { t with xAttrs := ([] ++ t.xAttrs) }
theorem ei_icopyToken (t : TToken) (k : Int → LU → List V → LU → Option β) : Imp (F183 β t.xKind t.xName (RAttr t.xAttrs) t.xText k) (icopyToken t) (fun r => k r.xKind r.xName (RAttr r.xAttrs) r.xText) := by
 delta F183 P183 icopyToken
 refine Imp.chk (c2 (fun z0 z1 : Nat => (0 + z0) * 32 ≤ 140737488355328 ∧ 0 + z1 ≤ 140737488355328) (T_len (g := TAttr.row) t.xAttrs) (T_len (g := TAttr.row) t.xAttrs)) (fun _ => ?_)
 exact Imp.ret (c1 (fun (h1 : List V) => k t.xKind t.xName h1 t.xText) (T_app (g := TAttr.row) [] t.xAttrs))
noncomputable def icopyTokens (l : List TToken) : Option (List TToken) :=
 (forE l (fun (i_1 : Nat) (x_1 : TToken) (s1 : List TToken) => (
 (icopyToken x_1).bind fun (r3 : TToken) =>
 chk ((s1.length + 1) * 64 ≤ 140737488355328 ∧ s1.length + 1 ≤ 140737488355328) <|
 some (.inl (s1 ++ [r3]))
 : Option ((List TToken) ⊕ (List TToken)))) (fun (s1 : List TToken) => (s1 : List TToken)) ([] : List TToken)).bind <|
 fun (r7 : List TToken) =>
 some r7
theorem ei_icopyTokens (l : List TToken) (k : List V → Option β) : Imp (F122 β (RToken l) k) (icopyTokens l) (fun r => k (RToken r)) := by
 delta F122 P122 icopyTokens
 refine Imp.for (enc := fun (i_1 : Nat) (s1 : List TToken) => [.l (RToken s1), .l (RToken l), .i (l.length : Int), .i (i_1 : Int)]) (encR := fun (u : List TToken) => (((0, [.l (RToken u)]) : Nat × List Leaf))) (c1 (fun (h1 : Int) => ([.l (RToken []), .l (RToken l), .i h1, .i 0] : List Leaf)) (c1 (fun z0 : Nat => (z0 : Int)) (T_len (g := TToken.row) l))) (fun i_1 x_1 s1 hx1 hl1 hm1 => Imp.brT (Int.ofNat_lt.2 hl1) ?_) (fun s1 => brN (Int.lt_irrefl _) rfl) (fun r7 => ?_)
 ·refine Imp.idxFor (g := TToken.row) hx1 ?_
  refine Imp.call rfl (ei_icopyToken x_1 _) (fun r3 _ => ?_)
  refine Imp.chk (c2 (fun z0 z1 : Nat => (z0 + 1) * 64 ≤ 140737488355328 ∧ z1 + 1 ≤ 140737488355328) (T_len (g := TToken.row) s1) (T_len (g := TToken.row) s1)) (fun _ => ?_)
  exact Imp.ret (c2 (fun (h1 : List V) (h2 : Int) => (some (Sum.inl [.l h1, .l (RToken l), .i (l.length : Int), .i h2]) : OLL)) (T_app (g := TToken.row) s1 [r3]) (wrapJ hl1))
 ·exact irr
noncomputable def icopyBuilder (b : TBuilder) : Option TBuilder :=
 chk ((0 + b.xOpen.length) * 8 ≤ 140737488355328 ∧ 0 + b.xOpen.length ≤ 140737488355328) <|
 (forE b.xNodes (fun (i_1 : Nat) (x_1 : TNode) (s1 : List TNode) => (
  chk ((0 + x_1.xAttrs.length) * 32 ≤ 140737488355328 ∧ 0 + x_1.xAttrs.length ≤ 140737488355328) <|
  chk ((s1.length + 1) * 64 ≤ 140737488355328 ∧ s1.length + 1 ≤ 140737488355328) <|
  some (.inl (s1 ++ [{ x_1 with xAttrs := ([] ++ x_1.xAttrs) }]))
 : Option ((List TNode) ⊕ (List TNode)))) (fun (s1 : List TNode) => (s1 : List TNode)) ([] : List TNode)).bind <|
 fun (r3 : List TNode) =>
 some (⟨r3, ([] ++ b.xOpen)⟩ : TBuilder)
theorem ei_icopyBuilder (b : TBuilder) (k : List V → List V → Option β) : Imp (F123 β (RNode b.xNodes) (rInt b.xOpen) k) (icopyBuilder b) (fun r => k (RNode r.xNodes) (rInt r.xOpen)) := by
 delta F123 P123 icopyBuilder
 refine Imp.chk (c2 (fun z0 z1 : Nat => (0 + z0) * 8 ≤ 140737488355328 ∧ 0 + z1 ≤ 140737488355328) (U_len (T := Int) (kd := (.int .i64)) (g1 := fun e => e) b.xOpen) (U_len (T := Int) (kd := (.int .i64)) (g1 := fun e => e) b.xOpen)) (fun _ => ?_)
 refine Imp.for (enc := fun (i_1 : Nat) (s1 : List TNode) => [.l (RNode b.xNodes), .i (b.xNodes.length : Int), .i (i_1 : Int), .l (RNode s1), .l (rInt ([] ++ b.xOpen))]) (encR := fun (u : List TNode) => (((0, [.l (RNode u), .l (rInt ([] ++ b.xOpen))]) : Nat × List Leaf))) (c2 (fun (h1 : Int) (h2 : List V) => ([.l (RNode b.xNodes), .i h1, .i 0, .l (RNode []), .l h2] : List Leaf)) (c1 (fun z0 : Nat => (z0 : Int)) (T_len (g := TNode.row) b.xNodes)) (U_app (T := Int) (kd := (.int .i64)) (g1 := fun e => e) [] b.xOpen)) (fun i_1 x_1 s1 hx1 hl1 hm1 => Imp.brT (Int.ofNat_lt.2 hl1) ?_) (fun s1 => brN (Int.lt_irrefl _) rfl) (fun r3 => ?_)
 ·refine Imp.idxFor (g := TNode.row) hx1 ?_
  refine Imp.chk (c2 (fun z0 z1 : Nat => (0 + z0) * 32 ≤ 140737488355328 ∧ 0 + z1 ≤ 140737488355328) (T_len (g := TAttr.row) x_1.xAttrs) (T_len (g := TAttr.row) x_1.xAttrs)) (fun _ => ?_)
  refine Imp.chk (c2 (fun z0 z1 : Nat => (z0 + 1) * 64 ≤ 140737488355328 ∧ z1 + 1 ≤ 140737488355328) (T_len (g := TNode.row) s1) (T_len (g := TNode.row) s1)) (fun _ => ?_)
  exact Imp.ret (c2 (fun (h1 : Int) (h2 : List V) => (some (Sum.inl [.l (RNode b.xNodes), .i (b.xNodes.length : Int), .i h1, .l h2, .l (rInt ([] ++ b.xOpen))]) : OLL)) (wrapJ hl1) ((c2 (fun u v : List V => u ++ v) rfl (c1 (fun (u0 : List V) => ([V.agg [V.str x_1.xName, V.str x_1.xText, V.int .i64 x_1.xParent, V.sl 2 true u0]] : List V)) (T_app (g := TAttr.row) [] x_1.xAttrs))).trans (T_app (g := TNode.row) s1 [{ x_1 with xAttrs := ([] ++ x_1.xAttrs) }])))
 ·exact irr
noncomputable def icopyPage (p : TPage) : Option TPage :=
 (icopyPolicy p.xPolicy).bind fun (r1 : TPolicy) =>
 (icopyTokens p.xQueue).bind fun (r6 : List TToken) =>
 (icopyBuilder p.xBuilder).bind fun (r7 : TBuilder) =>
 chk ((0 + p.xSlots.length) * 96 ≤ 140737488355328 ∧ 0 + p.xSlots.length ≤ 140737488355328) <|
 chk ((0 + p.xMods.length) * 64 ≤ 140737488355328 ∧ 0 + p.xMods.length ≤ 140737488355328) <|
 chk ((0 + p.xEntries.length) * 32 ≤ 140737488355328 ∧ 0 + p.xEntries.length ≤ 140737488355328) <|
 chk ((0 + p.xRan.length) * 32 ≤ 140737488355328 ∧ 0 + p.xRan.length ≤ 140737488355328) <|
 chk ((0 + p.xLog.length) * 16 ≤ 140737488355328 ∧ 0 + p.xLog.length ≤ 140737488355328) <|
 some { p with xPolicy := r1, xQueue := r6, xBuilder := r7, xSlots := ([] ++ p.xSlots), xMods := ([] ++ p.xMods), xEntries := ([] ++ p.xEntries), xRan := ([] ++ p.xRan), xLog := ([] ++ p.xLog) }
theorem ei_icopyPage (p : TPage) (k : LU → LU → Bool → List V → List V → List V → LU → LU → List V → Bool → List V → List V → List V → List V → List V → Int → Int → Int → Int → List V → List V → Bool → Option β) : Imp (F61 β p.xAddr.xHost p.xAddr.xPath p.xPolicy.xSet (rStr p.xPolicy.xScripts) (rStr p.xPolicy.xStyles) (rStr p.xPolicy.xImages) p.xPolicy.xNonce p.xTok.xRest (RToken p.xQueue) p.xEnded (RNode p.xBuilder.xNodes) (rInt p.xBuilder.xOpen) (RSlot p.xSlots) (RModule p.xMods) (RAddr p.xEntries) p.xBlock p.xInline p.xDeferred p.xEntered (RAddr p.xRan) (rStr p.xLog) p.xLoaded k) (icopyPage p) (fun r => k r.xAddr.xHost r.xAddr.xPath r.xPolicy.xSet (rStr r.xPolicy.xScripts) (rStr r.xPolicy.xStyles) (rStr r.xPolicy.xImages) r.xPolicy.xNonce r.xTok.xRest (RToken r.xQueue) r.xEnded (RNode r.xBuilder.xNodes) (rInt r.xBuilder.xOpen) (RSlot r.xSlots) (RModule r.xMods) (RAddr r.xEntries) r.xBlock r.xInline r.xDeferred r.xEntered (RAddr r.xRan) (rStr r.xLog) r.xLoaded) := by
 delta F61 P61 icopyPage
 refine Imp.call rfl (ei_icopyPolicy p.xPolicy _) (fun r1 _ => ?_)
 refine Imp.call rfl (ei_icopyTokens p.xQueue _) (fun r6 _ => ?_)
 refine Imp.call rfl (ei_icopyBuilder p.xBuilder _) (fun r7 _ => ?_)
 refine Imp.chk (c2 (fun z0 z1 : Nat => (0 + z0) * 96 ≤ 140737488355328 ∧ 0 + z1 ≤ 140737488355328) (T_len (g := TSlot.row) p.xSlots) (T_len (g := TSlot.row) p.xSlots)) (fun _ => ?_)
 refine Imp.chk (c2 (fun z0 z1 : Nat => (0 + z0) * 64 ≤ 140737488355328 ∧ 0 + z1 ≤ 140737488355328) (T_len (g := TModule.row) p.xMods) (T_len (g := TModule.row) p.xMods)) (fun _ => ?_)
 refine Imp.chk (c2 (fun z0 z1 : Nat => (0 + z0) * 32 ≤ 140737488355328 ∧ 0 + z1 ≤ 140737488355328) (T_len (g := TAddr.row) p.xEntries) (T_len (g := TAddr.row) p.xEntries)) (fun _ => ?_)
 refine Imp.chk (c2 (fun z0 z1 : Nat => (0 + z0) * 32 ≤ 140737488355328 ∧ 0 + z1 ≤ 140737488355328) (T_len (g := TAddr.row) p.xRan) (T_len (g := TAddr.row) p.xRan)) (fun _ => ?_)
 refine Imp.chk (c2 (fun z0 z1 : Nat => (0 + z0) * 16 ≤ 140737488355328 ∧ 0 + z1 ≤ 140737488355328) (S_len p.xLog) (S_len p.xLog)) (fun _ => ?_)
 exact Imp.ret (c5 (fun (h1 : List V) (h2 : List V) (h3 : List V) (h4 : List V) (h5 : List V) => k p.xAddr.xHost p.xAddr.xPath r1.xSet (rStr r1.xScripts) (rStr r1.xStyles) (rStr r1.xImages) r1.xNonce p.xTok.xRest (RToken r6) p.xEnded (RNode r7.xNodes) (rInt r7.xOpen) h1 h2 h3 p.xBlock p.xInline p.xDeferred p.xEntered h4 h5 p.xLoaded) (T_app (g := TSlot.row) [] p.xSlots) (T_app (g := TModule.row) [] p.xMods) (T_app (g := TAddr.row) [] p.xEntries) (T_app (g := TAddr.row) [] p.xRan) (S_app [] p.xLog))
noncomputable def icopyTab (t : TTab) : Option TTab :=
 (forE t.xVisits (fun (i_1 : Nat) (x_1 : TVisit) (s1 : List TVisit) => (
  (icopyPage x_1.xPage).bind fun (r3 : TPage) =>
  chk ((s1.length + 1) * 424 ≤ 140737488355328 ∧ s1.length + 1 ≤ 140737488355328) <|
  some (.inl (s1 ++ [{ x_1 with xPage := r3 }]))
 : Option ((List TVisit) ⊕ (List TVisit)))) (fun (s1 : List TVisit) => (s1 : List TVisit)) ([] : List TVisit)).bind <|
 fun (r25 : List TVisit) =>
 some { t with xVisits := r25 }
theorem ei_icopyTab (t : TTab) (k : List V → Int → Option β) : Imp (F59 β (RVisit t.xVisits) t.xAt k) (icopyTab t) (fun r => k (RVisit r.xVisits) r.xAt) := by
 delta F59 P59 icopyTab
 refine Imp.for (enc := fun (i_1 : Nat) (s1 : List TVisit) => [.l (RVisit t.xVisits), .i (t.xVisits.length : Int), .i (i_1 : Int), .i 0, .l (RVisit s1), .i t.xAt]) (encR := fun (u : List TVisit) => (((0, [.i 0, .l (RVisit u), .i t.xAt]) : Nat × List Leaf))) (c1 (fun (h1 : Int) => ([.l (RVisit t.xVisits), .i h1, .i 0, .i 0, .l (RVisit []), .i t.xAt] : List Leaf)) (c1 (fun z0 : Nat => (z0 : Int)) (T_len (g := TVisit.row) t.xVisits))) (fun i_1 x_1 s1 hx1 hl1 hm1 => Imp.brT (Int.ofNat_lt.2 hl1) ?_) (fun s1 => brN (Int.lt_irrefl _) rfl) (fun r25 => ?_)
 ·refine Imp.idxFor (g := TVisit.row) hx1 ?_
  refine Imp.call rfl (ei_icopyPage x_1.xPage _) (fun r3 _ => ?_)
  refine Imp.chk (c2 (fun z0 z1 : Nat => (z0 + 1) * 424 ≤ 140737488355328 ∧ z1 + 1 ≤ 140737488355328) (T_len (g := TVisit.row) s1) (T_len (g := TVisit.row) s1)) (fun _ => ?_)
  exact Imp.ret (c2 (fun (h1 : Int) (h2 : List V) => (some (Sum.inl [.l (RVisit t.xVisits), .i (t.xVisits.length : Int), .i h1, .i 0, .l h2, .i t.xAt]) : OLL)) (wrapJ hl1) (T_app (g := TVisit.row) s1 [{ x_1 with xPage := r3 }]))
 ·exact irr
noncomputable def sl12Copy (l : List TServer) : Option (List TServer) :=
 (forE l (fun (i_1 : Nat) (x_1 : TServer) (s1 : List TServer) => (
  chk ((0 + x_1.xFiles.length) * 80 ≤ 140737488355328 ∧ 0 + x_1.xFiles.length ≤ 140737488355328) <|
  chk ((s1.length + 1) * 40 ≤ 140737488355328 ∧ s1.length + 1 ≤ 140737488355328) <|
  some (.inl (s1 ++ [{ x_1 with xFiles := ([] ++ x_1.xFiles) }]))
 : Option ((List TServer) ⊕ (List TServer)))) (fun (s1 : List TServer) => (s1 : List TServer)) ([] : List TServer)).bind <|
 fun (r4 : List TServer) =>
 some r4
theorem ei_sl12Copy (l : List TServer) (k : List V → Option β) : Imp (F200 β (RServer l) k) (sl12Copy l) (fun r => k (RServer r)) := by
 delta F200 P200 sl12Copy
 refine Imp.for (enc := fun (i_1 : Nat) (s1 : List TServer) => [.l (RServer l), .l (RServer s1), .i (i_1 : Int)]) (encR := fun (u : List TServer) => (((0, [.l (RServer u)]) : Nat × List Leaf))) rfl (fun i_1 x_1 s1 hx1 hl1 hm1 => Imp.brT (T_lt (g := TServer.row) hl1) ?_) (fun s1 => brN (T_irr (g := TServer.row) l) rfl) (fun r4 => ?_)
 ·refine Imp.idxFor (g := TServer.row) hx1 ?_
  refine Imp.idxFor (g := TServer.row) hx1 ?_
  refine Imp.chk (c2 (fun z0 z1 : Nat => (0 + z0) * 80 ≤ 140737488355328 ∧ 0 + z1 ≤ 140737488355328) (T_len (g := TFile.row) x_1.xFiles) (T_len (g := TFile.row) x_1.xFiles)) (fun _ => ?_)
  refine Imp.chk (c2 (fun z0 z1 : Nat => (z0 + 1) * 40 ≤ 140737488355328 ∧ z1 + 1 ≤ 140737488355328) (T_len (g := TServer.row) s1) (T_len (g := TServer.row) s1)) (fun _ => ?_)
  exact Imp.ret (c2 (fun (h1 : List V) (h2 : Int) => (some (Sum.inl [.l (RServer l), .l h1, .i h2]) : OLL)) ((c2 (fun u v : List V => u ++ v) rfl (c1 (fun (u0 : List V) => ([V.agg [V.str x_1.xHost, V.sl 7 true u0]] : List V)) (T_app (g := TFile.row) [] x_1.xFiles))).trans (T_app (g := TServer.row) s1 [{ x_1 with xFiles := ([] ++ x_1.xFiles) }])) (wrapJ hl1))
 ·exact irr
noncomputable def sl13Copy (c : TCache) : Option TCache :=
 chk ((0 + c.xEntries.length) * 120 ≤ 140737488355328 ∧ 0 + c.xEntries.length ≤ 140737488355328) <|
 some (⟨([] ++ c.xEntries)⟩ : TCache)
theorem ei_sl13Copy (c : TCache) (k : List V → Option β) : Imp (F201 β (REntry c.xEntries) k) (sl13Copy c) (fun r => k (REntry r.xEntries)) := by
 delta F201 P201 sl13Copy
 refine Imp.chk (c2 (fun z0 z1 : Nat => (0 + z0) * 120 ≤ 140737488355328 ∧ 0 + z1 ≤ 140737488355328) (T_len (g := TEntry.row) c.xEntries) (T_len (g := TEntry.row) c.xEntries)) (fun _ => ?_)
 exact Imp.ret (c1 (fun (h1 : List V) => k h1) (T_app (g := TEntry.row) [] c.xEntries))
noncomputable def sl14Copy (n : TNet) : Option TNet :=
 (sl12Copy n.xServers).bind fun (r1 : List TServer) =>
 (sl13Copy n.xCache).bind fun (r2 : TCache) =>
 chk ((0 + n.xLog.length) * 56 ≤ 140737488355328 ∧ 0 + n.xLog.length ≤ 140737488355328) <|
 some (⟨r1, r2, ([] ++ n.xLog), n.xNow⟩ : TNet)
theorem ei_sl14Copy (n : TNet) (k : List V → List V → List V → Int → Option β) : Imp (F163 β (RServer n.xServers) (REntry n.xCache.xEntries) (RSent n.xLog) n.xNow k) (sl14Copy n) (fun r => k (RServer r.xServers) (REntry r.xCache.xEntries) (RSent r.xLog) r.xNow) := by
 delta F163 P163 sl14Copy
 refine Imp.call rfl (ei_sl12Copy n.xServers _) (fun r1 _ => ?_)
 refine Imp.call rfl (ei_sl13Copy n.xCache _) (fun r2 _ => ?_)
 refine Imp.chk (c2 (fun z0 z1 : Nat => (0 + z0) * 56 ≤ 140737488355328 ∧ 0 + z1 ≤ 140737488355328) (T_len (g := TSent.row) n.xLog) (T_len (g := TSent.row) n.xLog)) (fun _ => ?_)
 exact Imp.ret (c1 (fun (h1 : List V) => k (RServer r1) (REntry r2.xEntries) h1 n.xNow) (T_app (g := TSent.row) [] n.xLog))
noncomputable def sl33Copy (h : THidden) : Option THidden :=
 (sl15Copy h.xPage).bind fun (r1 : TPage) =>
 chk ((0 + h.xTaken.length) * 96 ≤ 140737488355328 ∧ 0 + h.xTaken.length ≤ 140737488355328) <|
 (sl12Copy h.xServers).bind fun (r23 : List TServer) =>
 some (⟨h.xReady, r1, ([] ++ h.xTaken), r23, h.xNow⟩ : THidden)
theorem ei_sl33Copy (h : THidden) (k : Bool → LU → LU → Bool → List V → List V → List V → LU → LU → List V → Bool → List V → List V → List V → List V → List V → Int → Int → Int → Int → List V → List V → Bool → List V → List V → Int → Option β) : Imp (F164 β h.xReady h.xPage.xAddr.xHost h.xPage.xAddr.xPath h.xPage.xPolicy.xSet (rStr h.xPage.xPolicy.xScripts) (rStr h.xPage.xPolicy.xStyles) (rStr h.xPage.xPolicy.xImages) h.xPage.xPolicy.xNonce h.xPage.xTok.xRest (RToken h.xPage.xQueue) h.xPage.xEnded (RNode h.xPage.xBuilder.xNodes) (rInt h.xPage.xBuilder.xOpen) (RSlot h.xPage.xSlots) (RModule h.xPage.xMods) (RAddr h.xPage.xEntries) h.xPage.xBlock h.xPage.xInline h.xPage.xDeferred h.xPage.xEntered (RAddr h.xPage.xRan) (rStr h.xPage.xLog) h.xPage.xLoaded (RKept h.xTaken) (RServer h.xServers) h.xNow k) (sl33Copy h) (fun r => k r.xReady r.xPage.xAddr.xHost r.xPage.xAddr.xPath r.xPage.xPolicy.xSet (rStr r.xPage.xPolicy.xScripts) (rStr r.xPage.xPolicy.xStyles) (rStr r.xPage.xPolicy.xImages) r.xPage.xPolicy.xNonce r.xPage.xTok.xRest (RToken r.xPage.xQueue) r.xPage.xEnded (RNode r.xPage.xBuilder.xNodes) (rInt r.xPage.xBuilder.xOpen) (RSlot r.xPage.xSlots) (RModule r.xPage.xMods) (RAddr r.xPage.xEntries) r.xPage.xBlock r.xPage.xInline r.xPage.xDeferred r.xPage.xEntered (RAddr r.xPage.xRan) (rStr r.xPage.xLog) r.xPage.xLoaded (RKept r.xTaken) (RServer r.xServers) r.xNow) := by
 delta F164 P164 sl33Copy
 refine Imp.call rfl (ei_sl15Copy h.xPage _) (fun r1 _ => ?_)
 refine Imp.chk (c2 (fun z0 z1 : Nat => (0 + z0) * 96 ≤ 140737488355328 ∧ 0 + z1 ≤ 140737488355328) (T_len (g := TKept.row) h.xTaken) (T_len (g := TKept.row) h.xTaken)) (fun _ => ?_)
 refine Imp.call rfl (ei_sl12Copy h.xServers _) (fun r23 _ => ?_)
 exact Imp.ret (c1 (fun (h1 : List V) => k h.xReady r1.xAddr.xHost r1.xAddr.xPath r1.xPolicy.xSet (rStr r1.xPolicy.xScripts) (rStr r1.xPolicy.xStyles) (rStr r1.xPolicy.xImages) r1.xPolicy.xNonce r1.xTok.xRest (RToken r1.xQueue) r1.xEnded (RNode r1.xBuilder.xNodes) (rInt r1.xBuilder.xOpen) (RSlot r1.xSlots) (RModule r1.xMods) (RAddr r1.xEntries) r1.xBlock r1.xInline r1.xDeferred r1.xEntered (RAddr r1.xRan) (rStr r1.xLog) r1.xLoaded h1 (RServer r23) h.xNow) (T_app (g := TKept.row) [] h.xTaken))
noncomputable def sl34Copy (w : TWorld) : Option TWorld :=
 (sl14Copy w.xNet).bind fun (r1 : TNet) =>
 (sl31Copy w.xTab).bind fun (r5 : TTab) =>
 (sl33Copy w.xHidden).bind fun (r7 : THidden) =>
 some (⟨r1, r5, r7, w.xFast⟩ : TWorld)
theorem ei_sl34Copy (w : TWorld) (k : List V → List V → List V → Int → List V → Int → Bool → LU → LU → Bool → List V → List V → List V → LU → LU → List V → Bool → List V → List V → List V → List V → List V → Int → Int → Int → Int → List V → List V → Bool → List V → List V → Int → Bool → Option β) : Imp (F99 β (RServer w.xNet.xServers) (REntry w.xNet.xCache.xEntries) (RSent w.xNet.xLog) w.xNet.xNow (RVisit w.xTab.xVisits) w.xTab.xAt w.xHidden.xReady w.xHidden.xPage.xAddr.xHost w.xHidden.xPage.xAddr.xPath w.xHidden.xPage.xPolicy.xSet (rStr w.xHidden.xPage.xPolicy.xScripts) (rStr w.xHidden.xPage.xPolicy.xStyles) (rStr w.xHidden.xPage.xPolicy.xImages) w.xHidden.xPage.xPolicy.xNonce w.xHidden.xPage.xTok.xRest (RToken w.xHidden.xPage.xQueue) w.xHidden.xPage.xEnded (RNode w.xHidden.xPage.xBuilder.xNodes) (rInt w.xHidden.xPage.xBuilder.xOpen) (RSlot w.xHidden.xPage.xSlots) (RModule w.xHidden.xPage.xMods) (RAddr w.xHidden.xPage.xEntries) w.xHidden.xPage.xBlock w.xHidden.xPage.xInline w.xHidden.xPage.xDeferred w.xHidden.xPage.xEntered (RAddr w.xHidden.xPage.xRan) (rStr w.xHidden.xPage.xLog) w.xHidden.xPage.xLoaded (RKept w.xHidden.xTaken) (RServer w.xHidden.xServers) w.xHidden.xNow w.xFast k) (sl34Copy w) (fun r => k (RServer r.xNet.xServers) (REntry r.xNet.xCache.xEntries) (RSent r.xNet.xLog) r.xNet.xNow (RVisit r.xTab.xVisits) r.xTab.xAt r.xHidden.xReady r.xHidden.xPage.xAddr.xHost r.xHidden.xPage.xAddr.xPath r.xHidden.xPage.xPolicy.xSet (rStr r.xHidden.xPage.xPolicy.xScripts) (rStr r.xHidden.xPage.xPolicy.xStyles) (rStr r.xHidden.xPage.xPolicy.xImages) r.xHidden.xPage.xPolicy.xNonce r.xHidden.xPage.xTok.xRest (RToken r.xHidden.xPage.xQueue) r.xHidden.xPage.xEnded (RNode r.xHidden.xPage.xBuilder.xNodes) (rInt r.xHidden.xPage.xBuilder.xOpen) (RSlot r.xHidden.xPage.xSlots) (RModule r.xHidden.xPage.xMods) (RAddr r.xHidden.xPage.xEntries) r.xHidden.xPage.xBlock r.xHidden.xPage.xInline r.xHidden.xPage.xDeferred r.xHidden.xPage.xEntered (RAddr r.xHidden.xPage.xRan) (rStr r.xHidden.xPage.xLog) r.xHidden.xPage.xLoaded (RKept r.xHidden.xTaken) (RServer r.xHidden.xServers) r.xHidden.xNow r.xFast) := by
 delta F99 P99 sl34Copy
 refine Imp.call rfl (ei_sl14Copy w.xNet _) (fun r1 _ => ?_)
 refine Imp.call rfl (ei_sl31Copy w.xTab _) (fun r5 _ => ?_)
 refine Imp.call rfl (ei_sl33Copy w.xHidden _) (fun r7 _ => ?_)
 exact irr
noncomputable def sSlowWorld (w : TWorld) : Option TWorld :=
 (sl34Copy w).bind fun (r1 : TWorld) =>
 some { r1 with xHidden := (⟨false, ⟨⟨[], []⟩, ⟨false, [], [], [], []⟩, ⟨[]⟩, [], false, ⟨[], []⟩, [], [], [], 0, 0, 0, 0, [], [], false⟩, [], [], 0⟩ : THidden), xFast := false }
theorem ei_sSlowWorld (w : TWorld) (k : List V → List V → List V → Int → List V → Int → Bool → LU → LU → Bool → List V → List V → List V → LU → LU → List V → Bool → List V → List V → List V → List V → List V → Int → Int → Int → Int → List V → List V → Bool → List V → List V → Int → Bool → Option β) : Imp (F30 β (RServer w.xNet.xServers) (REntry w.xNet.xCache.xEntries) (RSent w.xNet.xLog) w.xNet.xNow (RVisit w.xTab.xVisits) w.xTab.xAt w.xHidden.xReady w.xHidden.xPage.xAddr.xHost w.xHidden.xPage.xAddr.xPath w.xHidden.xPage.xPolicy.xSet (rStr w.xHidden.xPage.xPolicy.xScripts) (rStr w.xHidden.xPage.xPolicy.xStyles) (rStr w.xHidden.xPage.xPolicy.xImages) w.xHidden.xPage.xPolicy.xNonce w.xHidden.xPage.xTok.xRest (RToken w.xHidden.xPage.xQueue) w.xHidden.xPage.xEnded (RNode w.xHidden.xPage.xBuilder.xNodes) (rInt w.xHidden.xPage.xBuilder.xOpen) (RSlot w.xHidden.xPage.xSlots) (RModule w.xHidden.xPage.xMods) (RAddr w.xHidden.xPage.xEntries) w.xHidden.xPage.xBlock w.xHidden.xPage.xInline w.xHidden.xPage.xDeferred w.xHidden.xPage.xEntered (RAddr w.xHidden.xPage.xRan) (rStr w.xHidden.xPage.xLog) w.xHidden.xPage.xLoaded (RKept w.xHidden.xTaken) (RServer w.xHidden.xServers) w.xHidden.xNow w.xFast k) (sSlowWorld w) (fun r => k (RServer r.xNet.xServers) (REntry r.xNet.xCache.xEntries) (RSent r.xNet.xLog) r.xNet.xNow (RVisit r.xTab.xVisits) r.xTab.xAt r.xHidden.xReady r.xHidden.xPage.xAddr.xHost r.xHidden.xPage.xAddr.xPath r.xHidden.xPage.xPolicy.xSet (rStr r.xHidden.xPage.xPolicy.xScripts) (rStr r.xHidden.xPage.xPolicy.xStyles) (rStr r.xHidden.xPage.xPolicy.xImages) r.xHidden.xPage.xPolicy.xNonce r.xHidden.xPage.xTok.xRest (RToken r.xHidden.xPage.xQueue) r.xHidden.xPage.xEnded (RNode r.xHidden.xPage.xBuilder.xNodes) (rInt r.xHidden.xPage.xBuilder.xOpen) (RSlot r.xHidden.xPage.xSlots) (RModule r.xHidden.xPage.xMods) (RAddr r.xHidden.xPage.xEntries) r.xHidden.xPage.xBlock r.xHidden.xPage.xInline r.xHidden.xPage.xDeferred r.xHidden.xPage.xEntered (RAddr r.xHidden.xPage.xRan) (rStr r.xHidden.xPage.xLog) r.xHidden.xPage.xLoaded (RKept r.xHidden.xTaken) (RServer r.xHidden.xServers) r.xHidden.xNow r.xFast) := by
 delta F30 P30 sSlowWorld
 refine Imp.call rfl (ei_sl34Copy w _) (fun r1 _ => ?_)
 exact irr
noncomputable def icopyServers (l : List TServer) : Option (List TServer) :=
 (forE l (fun (i_1 : Nat) (x_1 : TServer) (s1 : List TServer) => (
  chk ((0 + x_1.xFiles.length) * 80 ≤ 140737488355328 ∧ 0 + x_1.xFiles.length ≤ 140737488355328) <|
  chk ((s1.length + 1) * 40 ≤ 140737488355328 ∧ s1.length + 1 ≤ 140737488355328) <|
  some (.inl (s1 ++ [{ x_1 with xFiles := ([] ++ x_1.xFiles) }]))
 : Option ((List TServer) ⊕ (List TServer)))) (fun (s1 : List TServer) => (s1 : List TServer)) ([] : List TServer)).bind <|
 fun (r3 : List TServer) =>
 some r3
theorem ei_icopyServers (l : List TServer) (k : List V → Option β) : Imp (F204 β (RServer l) k) (icopyServers l) (fun r => k (RServer r)) := by
 delta F204 P204 icopyServers
 refine Imp.for (enc := fun (i_1 : Nat) (s1 : List TServer) => [.l (RServer s1), .l (RServer l), .i (l.length : Int), .i (i_1 : Int)]) (encR := fun (u : List TServer) => (((0, [.l (RServer u)]) : Nat × List Leaf))) (c1 (fun (h1 : Int) => ([.l (RServer []), .l (RServer l), .i h1, .i 0] : List Leaf)) (c1 (fun z0 : Nat => (z0 : Int)) (T_len (g := TServer.row) l))) (fun i_1 x_1 s1 hx1 hl1 hm1 => Imp.brT (Int.ofNat_lt.2 hl1) ?_) (fun s1 => brN (Int.lt_irrefl _) rfl) (fun r3 => ?_)
 ·refine Imp.idxFor (g := TServer.row) hx1 ?_
  refine Imp.chk (c2 (fun z0 z1 : Nat => (0 + z0) * 80 ≤ 140737488355328 ∧ 0 + z1 ≤ 140737488355328) (T_len (g := TFile.row) x_1.xFiles) (T_len (g := TFile.row) x_1.xFiles)) (fun _ => ?_)
  refine Imp.chk (c2 (fun z0 z1 : Nat => (z0 + 1) * 40 ≤ 140737488355328 ∧ z1 + 1 ≤ 140737488355328) (T_len (g := TServer.row) s1) (T_len (g := TServer.row) s1)) (fun _ => ?_)
  exact Imp.ret (c2 (fun (h1 : List V) (h2 : Int) => (some (Sum.inl [.l h1, .l (RServer l), .i (l.length : Int), .i h2]) : OLL)) ((c2 (fun u v : List V => u ++ v) rfl (c1 (fun (u0 : List V) => ([V.agg [V.str x_1.xHost, V.sl 7 true u0]] : List V)) (T_app (g := TFile.row) [] x_1.xFiles))).trans (T_app (g := TServer.row) s1 [{ x_1 with xFiles := ([] ++ x_1.xFiles) }])) (wrapJ hl1))
 ·exact irr
noncomputable def icopyCache (c : TCache) : Option TCache :=
 chk ((0 + c.xEntries.length) * 120 ≤ 140737488355328 ∧ 0 + c.xEntries.length ≤ 140737488355328) <|
 some (⟨([] ++ c.xEntries)⟩ : TCache)
theorem ei_icopyCache (c : TCache) (k : List V → Option β) : Imp (F205 β (REntry c.xEntries) k) (icopyCache c) (fun r => k (REntry r.xEntries)) := by
 delta F205 P205 icopyCache
 refine Imp.chk (c2 (fun z0 z1 : Nat => (0 + z0) * 120 ≤ 140737488355328 ∧ 0 + z1 ≤ 140737488355328) (T_len (g := TEntry.row) c.xEntries) (T_len (g := TEntry.row) c.xEntries)) (fun _ => ?_)
 exact Imp.ret (c1 (fun (h1 : List V) => k h1) (T_app (g := TEntry.row) [] c.xEntries))
noncomputable def icopyNet (n : TNet) : Option TNet :=
 (icopyServers n.xServers).bind fun (r1 : List TServer) =>
 (icopyCache n.xCache).bind fun (r2 : TCache) =>
 chk ((0 + n.xLog.length) * 56 ≤ 140737488355328 ∧ 0 + n.xLog.length ≤ 140737488355328) <|
 some (⟨r1, r2, ([] ++ n.xLog), n.xNow⟩ : TNet)
theorem ei_icopyNet (n : TNet) (k : List V → List V → List V → Int → Option β) : Imp (F167 β (RServer n.xServers) (REntry n.xCache.xEntries) (RSent n.xLog) n.xNow k) (icopyNet n) (fun r => k (RServer r.xServers) (REntry r.xCache.xEntries) (RSent r.xLog) r.xNow) := by
 delta F167 P167 icopyNet
 refine Imp.call rfl (ei_icopyServers n.xServers _) (fun r1 _ => ?_)
 refine Imp.call rfl (ei_icopyCache n.xCache _) (fun r2 _ => ?_)
 refine Imp.chk (c2 (fun z0 z1 : Nat => (0 + z0) * 56 ≤ 140737488355328 ∧ 0 + z1 ≤ 140737488355328) (T_len (g := TSent.row) n.xLog) (T_len (g := TSent.row) n.xLog)) (fun _ => ?_)
 exact Imp.ret (c1 (fun (h1 : List V) => k (RServer r1) (REntry r2.xEntries) h1 n.xNow) (T_app (g := TSent.row) [] n.xLog))
noncomputable def icopyHidden (h : THidden) : Option THidden :=
 (icopyPage h.xPage).bind fun (r1 : TPage) =>
 chk ((0 + h.xTaken.length) * 96 ≤ 140737488355328 ∧ 0 + h.xTaken.length ≤ 140737488355328) <|
 (icopyServers h.xServers).bind fun (r23 : List TServer) =>
 some (⟨h.xReady, r1, ([] ++ h.xTaken), r23, h.xNow⟩ : THidden)
theorem ei_icopyHidden (h : THidden) (k : Bool → LU → LU → Bool → List V → List V → List V → LU → LU → List V → Bool → List V → List V → List V → List V → List V → Int → Int → Int → Int → List V → List V → Bool → List V → List V → Int → Option β) : Imp (F168 β h.xReady h.xPage.xAddr.xHost h.xPage.xAddr.xPath h.xPage.xPolicy.xSet (rStr h.xPage.xPolicy.xScripts) (rStr h.xPage.xPolicy.xStyles) (rStr h.xPage.xPolicy.xImages) h.xPage.xPolicy.xNonce h.xPage.xTok.xRest (RToken h.xPage.xQueue) h.xPage.xEnded (RNode h.xPage.xBuilder.xNodes) (rInt h.xPage.xBuilder.xOpen) (RSlot h.xPage.xSlots) (RModule h.xPage.xMods) (RAddr h.xPage.xEntries) h.xPage.xBlock h.xPage.xInline h.xPage.xDeferred h.xPage.xEntered (RAddr h.xPage.xRan) (rStr h.xPage.xLog) h.xPage.xLoaded (RKept h.xTaken) (RServer h.xServers) h.xNow k) (icopyHidden h) (fun r => k r.xReady r.xPage.xAddr.xHost r.xPage.xAddr.xPath r.xPage.xPolicy.xSet (rStr r.xPage.xPolicy.xScripts) (rStr r.xPage.xPolicy.xStyles) (rStr r.xPage.xPolicy.xImages) r.xPage.xPolicy.xNonce r.xPage.xTok.xRest (RToken r.xPage.xQueue) r.xPage.xEnded (RNode r.xPage.xBuilder.xNodes) (rInt r.xPage.xBuilder.xOpen) (RSlot r.xPage.xSlots) (RModule r.xPage.xMods) (RAddr r.xPage.xEntries) r.xPage.xBlock r.xPage.xInline r.xPage.xDeferred r.xPage.xEntered (RAddr r.xPage.xRan) (rStr r.xPage.xLog) r.xPage.xLoaded (RKept r.xTaken) (RServer r.xServers) r.xNow) := by
 delta F168 P168 icopyHidden
 refine Imp.call rfl (ei_icopyPage h.xPage _) (fun r1 _ => ?_)
 refine Imp.chk (c2 (fun z0 z1 : Nat => (0 + z0) * 96 ≤ 140737488355328 ∧ 0 + z1 ≤ 140737488355328) (T_len (g := TKept.row) h.xTaken) (T_len (g := TKept.row) h.xTaken)) (fun _ => ?_)
 refine Imp.call rfl (ei_icopyServers h.xServers _) (fun r23 _ => ?_)
 exact Imp.ret (c1 (fun (h1 : List V) => k h.xReady r1.xAddr.xHost r1.xAddr.xPath r1.xPolicy.xSet (rStr r1.xPolicy.xScripts) (rStr r1.xPolicy.xStyles) (rStr r1.xPolicy.xImages) r1.xPolicy.xNonce r1.xTok.xRest (RToken r1.xQueue) r1.xEnded (RNode r1.xBuilder.xNodes) (rInt r1.xBuilder.xOpen) (RSlot r1.xSlots) (RModule r1.xMods) (RAddr r1.xEntries) r1.xBlock r1.xInline r1.xDeferred r1.xEntered (RAddr r1.xRan) (rStr r1.xLog) r1.xLoaded h1 (RServer r23) h.xNow) (T_app (g := TKept.row) [] h.xTaken))
noncomputable def icopyWorld (w : TWorld) : Option TWorld :=
 (icopyNet w.xNet).bind fun (r1 : TNet) =>
 (icopyTab w.xTab).bind fun (r5 : TTab) =>
 (icopyHidden w.xHidden).bind fun (r7 : THidden) =>
 some (⟨r1, r5, r7, w.xFast⟩ : TWorld)
theorem ei_icopyWorld (w : TWorld) (k : List V → List V → List V → Int → List V → Int → Bool → LU → LU → Bool → List V → List V → List V → LU → LU → List V → Bool → List V → List V → List V → List V → List V → Int → Int → Int → Int → List V → List V → Bool → List V → List V → Int → Bool → Option β) : Imp (F101 β (RServer w.xNet.xServers) (REntry w.xNet.xCache.xEntries) (RSent w.xNet.xLog) w.xNet.xNow (RVisit w.xTab.xVisits) w.xTab.xAt w.xHidden.xReady w.xHidden.xPage.xAddr.xHost w.xHidden.xPage.xAddr.xPath w.xHidden.xPage.xPolicy.xSet (rStr w.xHidden.xPage.xPolicy.xScripts) (rStr w.xHidden.xPage.xPolicy.xStyles) (rStr w.xHidden.xPage.xPolicy.xImages) w.xHidden.xPage.xPolicy.xNonce w.xHidden.xPage.xTok.xRest (RToken w.xHidden.xPage.xQueue) w.xHidden.xPage.xEnded (RNode w.xHidden.xPage.xBuilder.xNodes) (rInt w.xHidden.xPage.xBuilder.xOpen) (RSlot w.xHidden.xPage.xSlots) (RModule w.xHidden.xPage.xMods) (RAddr w.xHidden.xPage.xEntries) w.xHidden.xPage.xBlock w.xHidden.xPage.xInline w.xHidden.xPage.xDeferred w.xHidden.xPage.xEntered (RAddr w.xHidden.xPage.xRan) (rStr w.xHidden.xPage.xLog) w.xHidden.xPage.xLoaded (RKept w.xHidden.xTaken) (RServer w.xHidden.xServers) w.xHidden.xNow w.xFast k) (icopyWorld w) (fun r => k (RServer r.xNet.xServers) (REntry r.xNet.xCache.xEntries) (RSent r.xNet.xLog) r.xNet.xNow (RVisit r.xTab.xVisits) r.xTab.xAt r.xHidden.xReady r.xHidden.xPage.xAddr.xHost r.xHidden.xPage.xAddr.xPath r.xHidden.xPage.xPolicy.xSet (rStr r.xHidden.xPage.xPolicy.xScripts) (rStr r.xHidden.xPage.xPolicy.xStyles) (rStr r.xHidden.xPage.xPolicy.xImages) r.xHidden.xPage.xPolicy.xNonce r.xHidden.xPage.xTok.xRest (RToken r.xHidden.xPage.xQueue) r.xHidden.xPage.xEnded (RNode r.xHidden.xPage.xBuilder.xNodes) (rInt r.xHidden.xPage.xBuilder.xOpen) (RSlot r.xHidden.xPage.xSlots) (RModule r.xHidden.xPage.xMods) (RAddr r.xHidden.xPage.xEntries) r.xHidden.xPage.xBlock r.xHidden.xPage.xInline r.xHidden.xPage.xDeferred r.xHidden.xPage.xEntered (RAddr r.xHidden.xPage.xRan) (rStr r.xHidden.xPage.xLog) r.xHidden.xPage.xLoaded (RKept r.xHidden.xTaken) (RServer r.xHidden.xServers) r.xHidden.xNow r.xFast) := by
 delta F101 P101 icopyWorld
 refine Imp.call rfl (ei_icopyNet w.xNet _) (fun r1 _ => ?_)
 refine Imp.call rfl (ei_icopyTab w.xTab _) (fun r5 _ => ?_)
 refine Imp.call rfl (ei_icopyHidden w.xHidden _) (fun r7 _ => ?_)
 exact irr
noncomputable def iSlowWorld (w : TWorld) : Option TWorld :=
 (icopyWorld w).bind fun (r1 : TWorld) =>
 some { r1 with xHidden := (⟨false, ⟨⟨[], []⟩, ⟨false, [], [], [], []⟩, ⟨[]⟩, [], false, ⟨[], []⟩, [], [], [], 0, 0, 0, 0, [], [], false⟩, [], [], 0⟩ : THidden), xFast := false }
theorem ei_iSlowWorld (w : TWorld) (k : List V → List V → List V → Int → List V → Int → Bool → LU → LU → Bool → List V → List V → List V → LU → LU → List V → Bool → List V → List V → List V → List V → List V → Int → Int → Int → Int → List V → List V → Bool → List V → List V → Int → Bool → Option β) : Imp (F32 β (RServer w.xNet.xServers) (REntry w.xNet.xCache.xEntries) (RSent w.xNet.xLog) w.xNet.xNow (RVisit w.xTab.xVisits) w.xTab.xAt w.xHidden.xReady w.xHidden.xPage.xAddr.xHost w.xHidden.xPage.xAddr.xPath w.xHidden.xPage.xPolicy.xSet (rStr w.xHidden.xPage.xPolicy.xScripts) (rStr w.xHidden.xPage.xPolicy.xStyles) (rStr w.xHidden.xPage.xPolicy.xImages) w.xHidden.xPage.xPolicy.xNonce w.xHidden.xPage.xTok.xRest (RToken w.xHidden.xPage.xQueue) w.xHidden.xPage.xEnded (RNode w.xHidden.xPage.xBuilder.xNodes) (rInt w.xHidden.xPage.xBuilder.xOpen) (RSlot w.xHidden.xPage.xSlots) (RModule w.xHidden.xPage.xMods) (RAddr w.xHidden.xPage.xEntries) w.xHidden.xPage.xBlock w.xHidden.xPage.xInline w.xHidden.xPage.xDeferred w.xHidden.xPage.xEntered (RAddr w.xHidden.xPage.xRan) (rStr w.xHidden.xPage.xLog) w.xHidden.xPage.xLoaded (RKept w.xHidden.xTaken) (RServer w.xHidden.xServers) w.xHidden.xNow w.xFast k) (iSlowWorld w) (fun r => k (RServer r.xNet.xServers) (REntry r.xNet.xCache.xEntries) (RSent r.xNet.xLog) r.xNet.xNow (RVisit r.xTab.xVisits) r.xTab.xAt r.xHidden.xReady r.xHidden.xPage.xAddr.xHost r.xHidden.xPage.xAddr.xPath r.xHidden.xPage.xPolicy.xSet (rStr r.xHidden.xPage.xPolicy.xScripts) (rStr r.xHidden.xPage.xPolicy.xStyles) (rStr r.xHidden.xPage.xPolicy.xImages) r.xHidden.xPage.xPolicy.xNonce r.xHidden.xPage.xTok.xRest (RToken r.xHidden.xPage.xQueue) r.xHidden.xPage.xEnded (RNode r.xHidden.xPage.xBuilder.xNodes) (rInt r.xHidden.xPage.xBuilder.xOpen) (RSlot r.xHidden.xPage.xSlots) (RModule r.xHidden.xPage.xMods) (RAddr r.xHidden.xPage.xEntries) r.xHidden.xPage.xBlock r.xHidden.xPage.xInline r.xHidden.xPage.xDeferred r.xHidden.xPage.xEntered (RAddr r.xHidden.xPage.xRan) (rStr r.xHidden.xPage.xLog) r.xHidden.xPage.xLoaded (RKept r.xHidden.xTaken) (RServer r.xHidden.xServers) r.xHidden.xNow r.xFast) := by
 delta F32 P32 iSlowWorld
 refine Imp.call rfl (ei_icopyWorld w _) (fun r1 _ => ?_)
 exact irr
noncomputable def lmarkText (xk : Int) : Option (LU) :=
 br (decide (xk ≤ 0)) (
 some [109, 48]
 ) (
 (whileE (fun (s1 : Int × (LU)) => (
 br (decide (s1.1 > 0)) (
 chk ((strI [(IntKind.wrap .u8 (IntKind.wrap .i64 (48 + (Int.tmod s1.1 10))))]).length + s1.2.length ≤ 9223372036854775807) <|
 some (.inl ((IntKind.wrap .i64 (Int.tdiv s1.1 10)), ((strI [(IntKind.wrap .u8 (IntKind.wrap .i64 (48 + (Int.tmod s1.1 10))))]) ++ s1.2)))
 ) (
 some (.inr s1.2)
 )
 : Option ((Int × (LU)) ⊕ (LU)))) ((xk, []) : Int × (LU))).bind <|
 fun (r3 : LU) =>
 chk (1 + r3.length ≤ 9223372036854775807) <|
 some ([109] ++ r3)
 )
theorem ei_lmarkText (xk : Int) (k : LU → Option β) : Imp (F97 β xk k) (lmarkText xk) k := by
 delta F97 P97 lmarkText
 refine ibr ?_ ?_
 ·exact irr
 ·refine Imp.while (enc := fun (s1 : Int × (LU)) => [.i s1.1, .s s1.2]) (encR := fun (u : LU) => (((0, [.s u]) : Nat × List Leaf))) rfl (fun s1 => ?_) (fun r3 => ?_)
  ·refine ibr ?_ ?_
   ·refine Imp.strO (l := [(IntKind.wrap .u8 (IntKind.wrap .i64 (48 + (Int.tmod s1.1 10))))]) rfl ?_
    refine Imp.chk rfl (fun _ => ?_)
    exact irr
   ·exact irr
  ·refine Imp.chk rfl (fun _ => ?_)
   exact irr
end Go.Am
end
section
set_option linter.unusedVariables false
set_option linter.unusedSimpArgs false
namespace Go.Am
open Go
section
variable {α γ T σ ρ : Type}
def Ok (x : Option α) (Q : α → Prop) : Prop := ∃ r, x = some r ∧ Q r
theorem Ok.ret {r : α} {Q : α → Prop} (h : Q r) : Ok (some r) Q := ⟨r, rfl, h⟩
theorem Ok.bind {x : Option α} {f : α → Option γ} {Q1 : α → Prop} {Q : γ → Prop} (h : Ok x Q1) (h2 : ∀ r, x = some r → Q1 r → Ok (f r) Q) : Ok (x.bind f) Q := by
 obtain ⟨r, h1, h3⟩ := h
 subst h1
 exact h2 r rfl h3
theorem Ok.br {b : Bool} {x y : Option α} {Q : α → Prop} (h1 : b = true → Ok x Q) (h2 : b = false → Ok y Q) : Ok (Go.Am.br b x y) Q := by
 cases b
 ·exact h2 rfl
 ·exact h1 rfl
theorem Ok.chk {p : Prop} {d : Decidable p} {x : Option α} {Q : α → Prop} (hp : p) (h : Ok x Q) : Ok (@Go.Am.chk α p d x) Q := by
 obtain ⟨r, h1, h2⟩ := h
 exact ⟨r, (if_pos hp).trans h1, h2⟩
theorem Ok.mono {x : Option α} {Q1 Q : α → Prop} (h : Ok x Q1) (h2 : ∀ r, x = some r → Q1 r → Q r) : Ok x Q := by
 obtain ⟨r, h1, h3⟩ := h
 exact ⟨r, h1, h2 r h1 h3⟩
theorem Ok.of {x : Option α} {r : α} {Q : α → Prop} (h : x = some r) (hq : Q r) : Ok x Q := ⟨r, h, hq⟩
theorem Ok.getI {l : List T} {n : Int} (h0 : 0 ≤ n) (h1 : n.toNat < l.length) : Ok (Go.Am.getI l n) (fun x => l[n.toNat]? = some x ∧ x ∈ l) := by
 refine ⟨l[n.toNat], ?_, ?_, List.getElem_mem h1⟩
 ·unfold Go.Am.getI
  rw [if_pos h0, List.getElem?_eq_getElem h1]
 ·exact List.getElem?_eq_getElem h1
theorem Ok.getS {l : List UInt8} {n : Int} (h0 : 0 ≤ n) (h1 : n.toNat < l.length) : Ok (Go.Am.getS l n) (fun x => ∃ b, l[n.toNat]? = some b ∧ x = (b.toNat : Int)) := by
 refine ⟨(l[n.toNat].toNat : Int), ?_, l[n.toNat], List.getElem?_eq_getElem h1, rfl⟩
 unfold Go.Am.getS
 rw [if_pos h0, List.getElem?_eq_getElem h1]
 rfl
theorem forA_ok {body : Nat → T → σ → Option (σ ⊕ ρ)} {fin : σ → ρ} {l : List T} {Q : ρ → Prop} (Inv : Nat → σ → Prop)
  (hb : ∀ i x s, l[i]? = some x → Inv i s → Ok (body i x s) (fun z => match z with
   | .inl s' => Inv (i + 1) s'
   | .inr r => Q r)) (hf : ∀ s, Inv l.length s → Q (fin s)) : ∀ (zs : List T) (i : Nat) (s : σ), l.drop i = zs → i ≤ l.length → Inv i s → Ok (forA body fin i zs s) Q := by
 intro zs
 induction zs with
 | nil =>
  intro i s hd hi hs
  have : i = l.length := by
   have := List.drop_eq_nil_iff.1 hd
   omega
  subst this
  exact ⟨_, rfl, hf s hs⟩
 | cons x zs ih =>
  intro i s hd hi hs
  have hx : l[i]? = some x := by
   have := congrArg (fun l => l[0]?) hd
   simpa using this
  have hlt := (gs_ hx).1
  have hd' : l.drop (i + 1) = zs := by rw [← List.tail_drop, hd]; rfl
  obtain ⟨z, h1, h2⟩ := hb i x s hx hs
  rw [forA, h1]
  cases z with
  | inl s' => exact ih (i + 1) s' hd' (by omega) h2
  | inr r => exact ⟨r, rfl, h2⟩
theorem Ok.for {body : Nat → T → σ → Option (σ ⊕ ρ)} {fin : σ → ρ} {l : List T} {s0 : σ} {Q : ρ → Prop} (hl : l.length ≤ maxLen) (Inv : Nat → σ → Prop) (h0 : Inv 0 s0)
  (hb : ∀ i x s, l[i]? = some x → Inv i s → Ok (body i x s) (fun z => match z with
   | .inl s' => Inv (i + 1) s'
   | .inr r => Q r)) (hf : ∀ s, Inv l.length s → Q (fin s)) : Ok (forE l body fin s0) Q := by
 unfold forE
 rw [if_pos hl]
 exact forA_ok Inv hb hf l 0 s0 rfl (Nat.zero_le _) h0
theorem Ok.while {body : σ → Option (σ ⊕ ρ)} {s0 : σ} {Q : ρ → Prop} (Inv : σ → Prop) (m : σ → Nat) (h0 : Inv s0)
  (hb : ∀ s, Inv s → Ok (body s) (fun z => match z with
   | .inl s' => Inv s' ∧ m s' < m s
   | .inr r => Q r)) : Ok (whileE body s0) Q := by
 have key : ∀ (n : Nat) (s : σ), m s < n → Inv s → Ok (whileE body s) Q := by
  intro n
  induction n with
  | zero => intro s h; omega
  | succ n ih =>
   intro s hm hs
   obtain ⟨z, h1, h2⟩ := hb s hs
   unfold whileE
   rw [whileInf_step, h1]
   cases z with
   | inl s' => exact ih s' (by have := h2.2; omega) h2.1
   | inr r => exact ⟨r, rfl, h2⟩
 exact key _ s0 (Nat.lt_succ_self _) h0
end
end Go.Am
end
section
set_option linter.unusedVariables false
set_option linter.unusedSimpArgs false
namespace Go.Am
open Go
section
variable {T ρ : Type}
end
end Go.Am
end
section
set_option linter.unusedVariables false
set_option linter.unusedSimpArgs false
namespace Go.Am
open Go
section
variable {β : Type}
end
end Go.Am
end
section
set_option linter.unusedVariables false
set_option linter.unusedSimpArgs false
namespace Go.Am
open Go
variable {β : Type}
noncomputable def mt (k : Nat) : List UInt8 := (lmarkText (k : Int)).getD []
theorem mt_eq (k : Nat) (h : k < 4611686018427387904) : lmarkText (k : Int) = some (mt k) := by
 have : Ok (lmarkText (k : Int)) (fun _ => True) := by
  unfold lmarkText
  refine Ok.br (fun _ => Ok.ret trivial) (fun _ => Ok.bind (Q1 := fun r : List UInt8 => r.length ≤ k) (Ok.while (fun s : Int × List UInt8 => 0 ≤ s.1 ∧ s.2.length + s.1.toNat ≤ k) (fun s => s.1.toNat) ⟨Int.natCast_nonneg _, by simp⟩ (fun s hs => ?_)) (fun r _ hr => Ok.chk (by omega) (Ok.ret trivial)))
  obtain ⟨s1, s2⟩ := s
  obtain ⟨h0, h1⟩ := hs
  dsimp only at h0 h1 ⊢
  refine Ok.br (fun c => ?_) (fun c => Ok.ret (by omega))
  have c : 0 < s1 := by simpa using c
  have ht : Int.tdiv s1 10 = ((s1.toNat / 10 : Nat) : Int) := by
   conv => lhs; rw [show s1 = ((s1.toNat : Nat) : Int) by omega]
   rfl
  have hw : IntKind.wrap .i64 (Int.tdiv s1 10) = ((s1.toNat / 10 : Nat) : Int) := by
   rw [ht]
   simp [IntKind.wrap, IntKind.bits, IntKind.signed]
   omega
  refine Ok.chk (by simp [strI]; omega) (Ok.ret ?_)
  rw [hw]
  refine ⟨⟨Int.natCast_nonneg _, ?_⟩, ?_⟩
  ·simp [strI]; omega
  ·simp; omega
 obtain ⟨r, e, _⟩ := this
 unfold mt
 rw [e]
 rfl
theorem Ok.copy {T : Type} {l : List T} {body : Nat → T → List T → Option (List T ⊕ List T)} (hl : l.length ≤ maxLen) (h : ∀ i x s, l[i]? = some x → i < l.length → s.length = i → Ok (body i x s) (fun z => z = .inl (s ++ [x]))) : Ok (forE l body (fun s => s) []) (fun r => r = l) := by
 refine Ok.for hl (fun i s => s = l.take i) (by simp) (fun i x s hx hs => ?_) (fun s hs => by rw [hs]; exact List.take_length)
 have hi := (gs_ hx).1
 refine Ok.mono (h i x s hx hi (by rw [hs, List.length_take]; omega)) (fun z _ hz => ?_)
 subst hz
 show s ++ [x] = l.take (i + 1)
 rw [hs, List.take_add_one, hx]
 rfl
theorem Ok.eq {α : Type} {x : Option α} {a : α} (h : Ok x (fun r => r = a)) : x = some a := by
 obtain ⟨r, h1, rfl⟩ := h
 exact h1
theorem Ok.is {α γ : Type} {x : Option α} {a : α} {f : α → Option γ} {Q : γ → Prop} (h : x = some a) (h2 : Ok (f a) Q) : Ok (x.bind f) Q := by
 subst h
 exact h2
theorem s_Policy (p : TPolicy) (h : p.size ≤ 1048576) : sl9Copy p = some p := by
 unfold TPolicy.size at h
 exact Ok.eq (Ok.chk (by omega) (Ok.chk (by omega) (Ok.chk (by omega) (Ok.ret rfl))))
theorem i_Policy (p : TPolicy) (h : p.size ≤ 1048576) : icopyPolicy p = some p := by
 unfold TPolicy.size at h
 exact Ok.eq (Ok.chk (by omega) (Ok.chk (by omega) (Ok.chk (by omega) (Ok.ret rfl))))
theorem s_Attrs (l : List TAttr) (h : l.length ≤ 1048576) : sl6Attrs l = some l := Ok.eq (Ok.chk (by omega) (Ok.ret rfl))
theorem s_Tokens (l : List TToken) (h : l.length + sumL TToken.size l ≤ 1048576) : sl15Tokens l = some l := by
 refine Ok.eq (Ok.bind (Ok.copy (by unfold maxLen; omega) (fun i x s hx hi hs => ?_)) (fun r _ hr => Ok.ret hr))
 have := sumL_mem (f := TToken.size) (List.mem_of_getElem? hx)
 have h2 : x.xAttrs.length ≤ x.size := by unfold TToken.size; omega
 exact Ok.is (s_Attrs _ (by omega)) (Ok.chk (by omega) (Ok.ret rfl))
theorem i_Token (x : TToken) (h : x.size ≤ 1048576) : icopyToken x = some x := by
 have h2 : x.xAttrs.length ≤ x.size := by unfold TToken.size; omega
 exact Ok.eq (Ok.chk (by omega) (Ok.ret rfl))
theorem i_Tokens (l : List TToken) (h : l.length + sumL TToken.size l ≤ 1048576) : icopyTokens l = some l := by
 refine Ok.eq (Ok.bind (Ok.copy (by unfold maxLen; omega) (fun i x s hx hi hs => ?_)) (fun r _ hr => Ok.ret hr))
 have := sumL_mem (f := TToken.size) (List.mem_of_getElem? hx)
 exact Ok.is (i_Token _ (by omega)) (Ok.chk (by omega) (Ok.ret rfl))
theorem s_Builder (b : TBuilder) (h : b.size ≤ 1048576) : sl6Copy b = some b := by
 unfold TBuilder.size at h
 refine Ok.eq (Ok.chk (by omega) (Ok.bind (Ok.copy (by unfold maxLen; omega) (fun i x s hx hi hs => ?_)) (fun r _ hr => Ok.ret (by rw [hr]; rfl))))
 have := sumL_mem (f := TNode.size) (List.mem_of_getElem? hx)
 have h2 : x.xAttrs.length ≤ x.size := by unfold TNode.size; omega
 exact Ok.is (s_Attrs _ (by omega)) (Ok.chk (by omega) (Ok.ret rfl))
theorem i_Builder (b : TBuilder) (h : b.size ≤ 1048576) : icopyBuilder b = some b := by
 unfold TBuilder.size at h
 refine Ok.eq (Ok.chk (by omega) (Ok.bind (Ok.copy (by unfold maxLen; omega) (fun i x s hx hi hs => ?_)) (fun r _ hr => Ok.ret (by rw [hr]; rfl))))
 have := sumL_mem (f := TNode.size) (List.mem_of_getElem? hx)
 have h2 : x.xAttrs.length ≤ x.size := by unfold TNode.size; omega
 exact Ok.chk (by omega) (Ok.chk (by omega) (Ok.ret rfl))
theorem s_Page (p : TPage) (h : p.size ≤ 1048576) : sl15Copy p = some p := by
 unfold TPage.size at h
 exact Ok.eq (Ok.is (s_Policy _ (by omega)) (Ok.is (s_Tokens _ (by omega)) (Ok.is (s_Builder _ (by omega)) (Ok.chk (by omega) (Ok.chk (by omega) (Ok.chk (by omega) (Ok.chk (by omega) (Ok.chk (by omega) (Ok.ret rfl)))))))))
theorem i_Page (p : TPage) (h : p.size ≤ 1048576) : icopyPage p = some p := by
 unfold TPage.size at h
 exact Ok.eq (Ok.is (i_Policy _ (by omega)) (Ok.is (i_Tokens _ (by omega)) (Ok.is (i_Builder _ (by omega)) (Ok.chk (by omega) (Ok.chk (by omega) (Ok.chk (by omega) (Ok.chk (by omega) (Ok.chk (by omega) (Ok.ret rfl)))))))))
theorem s_Tab (t : TTab) (h : t.size ≤ 1048576) : sl31Copy t = some t := by
 unfold TTab.size at h
 refine Ok.eq (Ok.bind (Ok.copy (by unfold maxLen; omega) (fun i x s hx hi hs => ?_)) (fun r _ hr => Ok.ret (by rw [hr])))
 have := sumL_mem (f := TVisit.size) (List.mem_of_getElem? hx)
 have h2 : x.xPage.size ≤ x.size := by unfold TVisit.size; omega
 exact Ok.is (s_Page _ (by omega)) (Ok.chk (by omega) (Ok.ret rfl))
theorem i_Tab (t : TTab) (h : t.size ≤ 1048576) : icopyTab t = some t := by
 unfold TTab.size at h
 refine Ok.eq (Ok.bind (Ok.copy (by unfold maxLen; omega) (fun i x s hx hi hs => ?_)) (fun r _ hr => Ok.ret (by rw [hr])))
 have := sumL_mem (f := TVisit.size) (List.mem_of_getElem? hx)
 have h2 : x.xPage.size ≤ x.size := by unfold TVisit.size; omega
 exact Ok.is (i_Page _ (by omega)) (Ok.chk (by omega) (Ok.ret rfl))
def zpage : TPage := ⟨⟨[], []⟩, ⟨false, [], [], [], []⟩, ⟨[]⟩, [], false, ⟨[], []⟩, [], [], [], 0, 0, 0, 0, [], [], false⟩
theorem zpage_ok : zpage.ok := by simp [zpage, TPage.ok, TAddr.ok, TPolicy.ok, TTokenizer.ok, TBuilder.ok, okL, okS, okI, maxLen]
theorem zpage_size : zpage.size = 0 := by simp [zpage, TPage.size, TAddr.size, TPolicy.size, TTokenizer.size, TBuilder.size, sumL]
def gone (y : TVisit) : TVisit := { y with xKept := false, xPage := zpage }
def given (t : TTab) (i : Int) : TTab := if h : 0 ≤ i ∧ i.toNat < t.xVisits.length then { t with xVisits := t.xVisits.set i.toNat (gone t.xVisits[i.toNat]) } else t
theorem s_Servers (l : List TServer) (h : l.length + sumL TServer.size l ≤ 1048576) : sl12Copy l = some l := by
 refine Ok.eq (Ok.bind (Ok.copy (by unfold maxLen; omega) (fun i x s hx hi hs => ?_)) (fun r _ hr => Ok.ret hr))
 have := sumL_mem (f := TServer.size) (List.mem_of_getElem? hx)
 have h2 : x.xFiles.length ≤ x.size := by unfold TServer.size; omega
 exact Ok.chk (by omega) (Ok.chk (by omega) (Ok.ret rfl))
theorem i_Servers (l : List TServer) (h : l.length + sumL TServer.size l ≤ 1048576) : icopyServers l = some l := by
 refine Ok.eq (Ok.bind (Ok.copy (by unfold maxLen; omega) (fun i x s hx hi hs => ?_)) (fun r _ hr => Ok.ret hr))
 have := sumL_mem (f := TServer.size) (List.mem_of_getElem? hx)
 have h2 : x.xFiles.length ≤ x.size := by unfold TServer.size; omega
 exact Ok.chk (by omega) (Ok.chk (by omega) (Ok.ret rfl))
theorem s_Cache (c : TCache) (h : c.size ≤ 1048576) : sl13Copy c = some c := by
 unfold TCache.size at h
 exact Ok.eq (Ok.chk (by omega) (Ok.ret rfl))
theorem i_Cache (c : TCache) (h : c.size ≤ 1048576) : icopyCache c = some c := by
 unfold TCache.size at h
 exact Ok.eq (Ok.chk (by omega) (Ok.ret rfl))
theorem s_Net (n : TNet) (h : n.size ≤ 1048576) : sl14Copy n = some n := by
 unfold TNet.size at h
 exact Ok.eq (Ok.is (s_Servers _ (by omega)) (Ok.is (s_Cache _ (by omega)) (Ok.chk (by omega) (Ok.ret rfl))))
theorem i_Net (n : TNet) (h : n.size ≤ 1048576) : icopyNet n = some n := by
 unfold TNet.size at h
 exact Ok.eq (Ok.is (i_Servers _ (by omega)) (Ok.is (i_Cache _ (by omega)) (Ok.chk (by omega) (Ok.ret rfl))))
theorem s_Hidden (n : THidden) (h : n.size ≤ 1048576) : sl33Copy n = some n := by
 unfold THidden.size at h
 exact Ok.eq (Ok.is (s_Page _ (by omega)) (Ok.chk (by omega) (Ok.is (s_Servers _ (by omega)) (Ok.ret rfl))))
theorem i_Hidden (n : THidden) (h : n.size ≤ 1048576) : icopyHidden n = some n := by
 unfold THidden.size at h
 exact Ok.eq (Ok.is (i_Page _ (by omega)) (Ok.chk (by omega) (Ok.is (i_Servers _ (by omega)) (Ok.ret rfl))))
theorem s_World (n : TWorld) (h : n.size ≤ 1048576) : sl34Copy n = some n := by
 unfold TWorld.size at h
 exact Ok.eq (Ok.is (s_Net _ (by omega)) (Ok.is (s_Tab _ (by omega)) (Ok.is (s_Hidden _ (by omega)) (Ok.ret rfl))))
theorem i_World (n : TWorld) (h : n.size ≤ 1048576) : icopyWorld n = some n := by
 unfold TWorld.size at h
 exact Ok.eq (Ok.is (i_Net _ (by omega)) (Ok.is (i_Tab _ (by omega)) (Ok.is (i_Hidden _ (by omega)) (Ok.ret rfl))))
def zhidden : THidden := ⟨false, zpage, [], [], 0⟩
theorem eq_SlowWorld (w : TWorld) (o : w.ok) (h : w.size ≤ 1048576) : ∃ r, sSlowWorld w = some r ∧ iSlowWorld w = some r ∧ r.size ≤ 1125899906842624 ∧ r.ok := by
 refine ⟨{ w with xHidden := zhidden, xFast := false }, Ok.eq (Ok.is (s_World w h) (Ok.ret rfl)), Ok.eq (Ok.is (i_World w h) (Ok.ret rfl)), ?_, ?_⟩
 ·unfold TWorld.size at h ⊢
  have : zhidden.size = 0 := by unfold zhidden THidden.size; rw [zpage_size]; simp [sumL]
  show TNet.size w.xNet + (TTab.size w.xTab + (zhidden.size + 0)) ≤ _
  omega
 ·refine ⟨o.1, o.2.1, ⟨trivial, zpage_ok, ?_, ?_, ?_, trivial⟩, trivial, trivial⟩ <;> simp [zhidden, okL, okI, maxLen]
end Go.Am
end
