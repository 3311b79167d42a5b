/-
  More steps for reckoning with loops over rows.
-/
import Derived.Test.YthncjpkjmgmdlaaGreatqvAmTyped
import Derived.Test.YthncjpkjmgmdlaaGreatqvAmExt
import Derived.Test.YthncjpkjmgmdlaaGreatqvAmSeq
import Derived.Test.YthncjpkjmgmdlaaGreatqvTl
section
set_option maxRecDepth 10000
set_option linter.unusedVariables false
namespace Go.Am
open Go Go.Proofs
variable {β : Type}
noncomputable def sl9Copy (p : TPolicy) : Option TPolicy :=
 chk ((0 + p.xScripts.length) * 16 ≤ 140737488355328 ∧ 0 + p.xScripts.length ≤ 140737488355328) <|
 chk ((0 + p.xStyles.length) * 16 ≤ 140737488355328 ∧ 0 + p.xStyles.length ≤ 140737488355328) <|
 chk ((0 + p.xImages.length) * 16 ≤ 140737488355328 ∧ 0 + p.xImages.length ≤ 140737488355328) <|
 some (⟨p.xSet, ([] ++ p.xScripts), ([] ++ p.xStyles), ([] ++ p.xImages), p.xNonce⟩ : TPolicy)
theorem ei_sl9Copy (p : TPolicy) (k : Bool → List V → List V → List V → List UInt8 → Option β) : Imp (F112 β p.xSet (rStr p.xScripts) (rStr p.xStyles) (rStr p.xImages) p.xNonce k) (sl9Copy p) (fun r => k r.xSet (rStr r.xScripts) (rStr r.xStyles) (rStr r.xImages) r.xNonce) := by
 delta F112 P112 sl9Copy
 refine Imp.chk (c2 (fun z0 z1 : Nat => (0 + z0) * 16 ≤ 140737488355328 ∧ 0 + z1 ≤ 140737488355328) (U_len (T := List UInt8) (kd := .str) (g1 := fun e => e) p.xScripts) (U_len (T := List UInt8) (kd := .str) (g1 := fun e => e) p.xScripts)) (fun _ => ?_)
 refine Imp.chk (c2 (fun z0 z1 : Nat => (0 + z0) * 16 ≤ 140737488355328 ∧ 0 + z1 ≤ 140737488355328) (U_len (T := List UInt8) (kd := .str) (g1 := fun e => e) p.xStyles) (U_len (T := List UInt8) (kd := .str) (g1 := fun e => e) p.xStyles)) (fun _ => ?_)
 refine Imp.chk (c2 (fun z0 z1 : Nat => (0 + z0) * 16 ≤ 140737488355328 ∧ 0 + z1 ≤ 140737488355328) (U_len (T := List UInt8) (kd := .str) (g1 := fun e => e) p.xImages) (U_len (T := List UInt8) (kd := .str) (g1 := fun e => e) p.xImages)) (fun _ => ?_)
 exact Imp.ret (c3 (fun (h1 : List V) (h2 : List V) (h3 : List V) => k p.xSet h1 h2 h3 p.xNonce) (U_app (T := List UInt8) (kd := .str) (g1 := fun e => e) [] p.xScripts) (U_app (T := List UInt8) (kd := .str) (g1 := fun e => e) [] p.xStyles) (U_app (T := List UInt8) (kd := .str) (g1 := fun e => e) [] p.xImages))
noncomputable def sl6Attrs (l : List TAttr) : Option (List TAttr) :=
 chk ((0 + l.length) * 32 ≤ 140737488355328 ∧ 0 + l.length ≤ 140737488355328) <|
 some ([] ++ l)
theorem ei_sl6Attrs (l : List TAttr) (k : List V → Option β) : Imp (F180 β (rows kAttr TAttr.row l) k) (sl6Attrs l) (fun r => k (rows kAttr TAttr.row r)) := by
 delta F180 P180 sl6Attrs
 refine Imp.chk (c2 (fun z0 z1 : Nat => (0 + z0) * 32 ≤ 140737488355328 ∧ 0 + z1 ≤ 140737488355328) (T_len (ks := kAttr) (g := TAttr.row) l) (T_len (ks := kAttr) (g := TAttr.row) l)) (fun _ => ?_)
 exact Imp.ret (c1 (fun (h1 : List V) => k h1) (T_app (ks := kAttr) (g := TAttr.row) [] l))
noncomputable def sl15Tokens (l : List TToken) : Option (List TToken) :=
 (forE l (fun (i_1 : Nat) (x_1 : TToken) (s1 : List TToken) => (
  (sl6Attrs x_1.xAttrs).bind fun (r4 : List TAttr) =>
  chk ((s1.length + 1) * 64 ≤ 140737488355328 ∧ s1.length + 1 ≤ 140737488355328) <|
  some (.inl (s1 ++ [{ x_1 with xAttrs := r4 }]))
 : Option ((List TToken) ⊕ (List TToken)))) (fun (s1 : List TToken) => (s1 : List TToken)) ([] : List TToken)).bind <|
 fun (r5 : List TToken) =>
 some r5
theorem ei_sl15Tokens (l : List TToken) (k : List V → Option β) : Imp (F113 β (rows kToken TToken.row l) k) (sl15Tokens l) (fun r => k (rows kToken TToken.row r)) := by
 delta F113 P113 sl15Tokens
 refine Imp.for (enc := fun (i_1 : Nat) (s1 : List TToken) => [.l (rows kToken TToken.row l), .l (rows kToken TToken.row s1), .i (i_1 : Int)]) (encR := fun (u : List TToken) => (((0, [.l (rows kToken TToken.row u)]) : Nat × List Leaf))) rfl (fun i_1 x_1 s1 hx1 hl1 hm1 => Imp.brT (T_lt (ks := kToken) (g := TToken.row) hl1) ?_) (fun s1 => brN (T_irr (ks := kToken) (g := TToken.row) l) rfl) (fun r5 => ?_)
 ·refine Imp.idxFor (ks := kToken) (g := TToken.row) hx1 ?_
  refine Imp.idxFor (ks := kToken) (g := TToken.row) hx1 ?_
  refine Imp.call rfl (ei_sl6Attrs x_1.xAttrs _) (fun r4 _ => ?_)
  refine Imp.chk (c2 (fun z0 z1 : Nat => (z0 + 1) * 64 ≤ 140737488355328 ∧ z1 + 1 ≤ 140737488355328) (T_len (ks := kToken) (g := TToken.row) s1) (T_len (ks := kToken) (g := TToken.row) s1)) (fun _ => ?_)
  exact Imp.ret (c2 (fun (h1 : List V) (h2 : Int) => (some (Sum.inl [.l (rows kToken TToken.row l), .l h1, .i h2]) : Option (List Leaf ⊕ (Nat × List Leaf)))) (T_app (ks := kToken) (g := TToken.row) s1 [{ x_1 with xAttrs := r4 }]) (wrapJ hl1))
 ·exact Imp.ret rfl
noncomputable def sl6Copy (b : TBuilder) : Option TBuilder :=
 chk ((0 + b.xOpen.length) * 8 ≤ 140737488355328 ∧ 0 + b.xOpen.length ≤ 140737488355328) <|
 (forE b.xNodes (fun (i_1 : Nat) (x_1 : TNode) (s1 : List TNode) => (
  (sl6Attrs x_1.xAttrs).bind fun (r4 : List TAttr) =>
  chk ((s1.length + 1) * 64 ≤ 140737488355328 ∧ s1.length + 1 ≤ 140737488355328) <|
  some (.inl (s1 ++ [{ x_1 with xAttrs := r4 }]))
 : Option ((List TNode) ⊕ (List TNode)))) (fun (s1 : List TNode) => (s1 : List TNode)) ([] : List TNode)).bind <|
 fun (r5 : List TNode) =>
 some (⟨r5, ([] ++ b.xOpen)⟩ : TBuilder)
theorem ei_sl6Copy (b : TBuilder) (k : List V → List V → Option β) : Imp (F114 β (rows kNode TNode.row b.xNodes) (rInt b.xOpen) k) (sl6Copy b) (fun r => k (rows kNode TNode.row r.xNodes) (rInt r.xOpen)) := by
 delta F114 P114 sl6Copy
 refine Imp.chk (c2 (fun z0 z1 : Nat => (0 + z0) * 8 ≤ 140737488355328 ∧ 0 + z1 ≤ 140737488355328) (U_len (T := Int) (kd := (.int .i64)) (g1 := fun e => e) b.xOpen) (U_len (T := Int) (kd := (.int .i64)) (g1 := fun e => e) b.xOpen)) (fun _ => ?_)
 refine Imp.for (enc := fun (i_1 : Nat) (s1 : List TNode) => [.i (i_1 : Int), .l (rows kNode TNode.row b.xNodes), .l (rInt b.xOpen), .l (rows kNode TNode.row s1), .l (rInt ([] ++ b.xOpen))]) (encR := fun (u : List TNode) => (((0, [.l (rows kNode TNode.row u), .l (rInt ([] ++ b.xOpen))]) : Nat × List Leaf))) (c1 (fun (h1 : List V) => ([.i 0, .l (rows kNode TNode.row b.xNodes), .l (rInt b.xOpen), .l (rows kNode TNode.row []), .l h1] : List Leaf)) (U_app (T := Int) (kd := (.int .i64)) (g1 := fun e => e) [] b.xOpen)) (fun i_1 x_1 s1 hx1 hl1 hm1 => Imp.brT (T_lt (ks := kNode) (g := TNode.row) hl1) ?_) (fun s1 => brN (T_irr (ks := kNode) (g := TNode.row) b.xNodes) rfl) (fun r5 => ?_)
 ·refine Imp.idxFor (ks := kNode) (g := TNode.row) hx1 ?_
  refine Imp.idxFor (ks := kNode) (g := TNode.row) hx1 ?_
  refine Imp.call rfl (ei_sl6Attrs x_1.xAttrs _) (fun r4 _ => ?_)
  refine Imp.chk (c2 (fun z0 z1 : Nat => (z0 + 1) * 64 ≤ 140737488355328 ∧ z1 + 1 ≤ 140737488355328) (T_len (ks := kNode) (g := TNode.row) s1) (T_len (ks := kNode) (g := TNode.row) s1)) (fun _ => ?_)
  exact Imp.ret (c2 (fun (h1 : Int) (h2 : List V) => (some (Sum.inl [.i h1, .l (rows kNode TNode.row b.xNodes), .l (rInt b.xOpen), .l h2, .l (rInt ([] ++ b.xOpen))]) : Option (List Leaf ⊕ (Nat × List Leaf)))) (wrapJ hl1) (T_app (ks := kNode) (g := TNode.row) s1 [{ x_1 with xAttrs := r4 }]))
 ·exact Imp.ret rfl
noncomputable def sl15Copy (p : TPage) : Option TPage :=
 (sl9Copy p.xPolicy).bind fun (r1 : TPolicy) =>
 (sl15Tokens p.xQueue).bind fun (r6 : List TToken) =>
 (sl6Copy p.xBuilder).bind fun (r7 : TBuilder) =>
 chk ((0 + p.xSlots.length) * 96 ≤ 140737488355328 ∧ 0 + p.xSlots.length ≤ 140737488355328) <|
 chk ((0 + p.xMods.length) * 64 ≤ 140737488355328 ∧ 0 + p.xMods.length ≤ 140737488355328) <|
 chk ((0 + p.xEntries.length) * 32 ≤ 140737488355328 ∧ 0 + p.xEntries.length ≤ 140737488355328) <|
 chk ((0 + p.xRan.length) * 32 ≤ 140737488355328 ∧ 0 + p.xRan.length ≤ 140737488355328) <|
 chk ((0 + p.xLog.length) * 16 ≤ 140737488355328 ∧ 0 + p.xLog.length ≤ 140737488355328) <|
 some { p with xPolicy := r1, xQueue := r6, xBuilder := r7, xSlots := ([] ++ p.xSlots), xMods := ([] ++ p.xMods), xEntries := ([] ++ p.xEntries), xRan := ([] ++ p.xRan), xLog := ([] ++ p.xLog) }
theorem ei_sl15Copy (p : TPage) (k : List UInt8 → List UInt8 → Bool → List V → List V → List V → List UInt8 → List UInt8 → List V → Bool → List V → List V → List V → List V → List V → Int → Int → Int → Int → List V → List V → Bool → Option β) : Imp (F48 β p.xAddr.xHost p.xAddr.xPath p.xPolicy.xSet (rStr p.xPolicy.xScripts) (rStr p.xPolicy.xStyles) (rStr p.xPolicy.xImages) p.xPolicy.xNonce p.xTok.xRest (rows kToken TToken.row p.xQueue) p.xEnded (rows kNode TNode.row p.xBuilder.xNodes) (rInt p.xBuilder.xOpen) (rows kSlot TSlot.row p.xSlots) (rows kModule TModule.row p.xMods) (rows kAddr TAddr.row p.xEntries) p.xBlock p.xInline p.xDeferred p.xEntered (rows kAddr TAddr.row p.xRan) (rStr p.xLog) p.xLoaded k) (sl15Copy p) (fun r => k r.xAddr.xHost r.xAddr.xPath r.xPolicy.xSet (rStr r.xPolicy.xScripts) (rStr r.xPolicy.xStyles) (rStr r.xPolicy.xImages) r.xPolicy.xNonce r.xTok.xRest (rows kToken TToken.row r.xQueue) r.xEnded (rows kNode TNode.row r.xBuilder.xNodes) (rInt r.xBuilder.xOpen) (rows kSlot TSlot.row r.xSlots) (rows kModule TModule.row r.xMods) (rows kAddr TAddr.row r.xEntries) r.xBlock r.xInline r.xDeferred r.xEntered (rows kAddr TAddr.row r.xRan) (rStr r.xLog) r.xLoaded) := by
 delta F48 P48 sl15Copy
 refine Imp.call rfl (ei_sl9Copy p.xPolicy _) (fun r1 _ => ?_)
 refine Imp.call rfl (ei_sl15Tokens p.xQueue _) (fun r6 _ => ?_)
 refine Imp.call rfl (ei_sl6Copy p.xBuilder _) (fun r7 _ => ?_)
 refine Imp.chk (c2 (fun z0 z1 : Nat => (0 + z0) * 96 ≤ 140737488355328 ∧ 0 + z1 ≤ 140737488355328) (T_len (ks := kSlot) (g := TSlot.row) p.xSlots) (T_len (ks := kSlot) (g := TSlot.row) p.xSlots)) (fun _ => ?_)
 refine Imp.chk (c2 (fun z0 z1 : Nat => (0 + z0) * 64 ≤ 140737488355328 ∧ 0 + z1 ≤ 140737488355328) (T_len (ks := kModule) (g := TModule.row) p.xMods) (T_len (ks := kModule) (g := TModule.row) p.xMods)) (fun _ => ?_)
 refine Imp.chk (c2 (fun z0 z1 : Nat => (0 + z0) * 32 ≤ 140737488355328 ∧ 0 + z1 ≤ 140737488355328) (T_len (ks := kAddr) (g := TAddr.row) p.xEntries) (T_len (ks := kAddr) (g := TAddr.row) p.xEntries)) (fun _ => ?_)
 refine Imp.chk (c2 (fun z0 z1 : Nat => (0 + z0) * 32 ≤ 140737488355328 ∧ 0 + z1 ≤ 140737488355328) (T_len (ks := kAddr) (g := TAddr.row) p.xRan) (T_len (ks := kAddr) (g := TAddr.row) p.xRan)) (fun _ => ?_)
 refine Imp.chk (c2 (fun z0 z1 : Nat => (0 + z0) * 16 ≤ 140737488355328 ∧ 0 + z1 ≤ 140737488355328) (U_len (T := List UInt8) (kd := .str) (g1 := fun e => e) p.xLog) (U_len (T := List UInt8) (kd := .str) (g1 := fun e => e) p.xLog)) (fun _ => ?_)
 exact Imp.ret (c5 (fun (h1 : List V) (h2 : List V) (h3 : List V) (h4 : List V) (h5 : List V) => k p.xAddr.xHost p.xAddr.xPath r1.xSet (rStr r1.xScripts) (rStr r1.xStyles) (rStr r1.xImages) r1.xNonce p.xTok.xRest (rows kToken TToken.row r6) p.xEnded (rows kNode TNode.row r7.xNodes) (rInt r7.xOpen) h1 h2 h3 p.xBlock p.xInline p.xDeferred p.xEntered h4 h5 p.xLoaded) (T_app (ks := kSlot) (g := TSlot.row) [] p.xSlots) (T_app (ks := kModule) (g := TModule.row) [] p.xMods) (T_app (ks := kAddr) (g := TAddr.row) [] p.xEntries) (T_app (ks := kAddr) (g := TAddr.row) [] p.xRan) (U_app (T := List UInt8) (kd := .str) (g1 := fun e => e) [] p.xLog))
noncomputable def sl31Copy (t : TTab) : Option TTab :=
 (forE t.xVisits (fun (i_1 : Nat) (x_1 : TVisit) (s1 : List TVisit) => (
  (sl15Copy x_1.xPage).bind fun (r4 : TPage) =>
  chk ((s1.length + 1) * 424 ≤ 140737488355328 ∧ s1.length + 1 ≤ 140737488355328) <|
  some (.inl (s1 ++ [{ x_1 with xPage := r4 }]))
 : Option ((List TVisit) ⊕ (List TVisit)))) (fun (s1 : List TVisit) => (s1 : List TVisit)) ([] : List TVisit)).bind <|
 fun (r26 : List TVisit) =>
 some { t with xVisits := r26 }
theorem ei_sl31Copy (t : TTab) (k : List V → Int → Option β) : Imp (F46 β (rows kVisit TVisit.row t.xVisits) t.xAt k) (sl31Copy t) (fun r => k (rows kVisit TVisit.row r.xVisits) r.xAt) := by
 delta F46 P46 sl31Copy
 refine Imp.for (enc := fun (i_1 : Nat) (s1 : List TVisit) => [.i (i_1 : Int), .l (rows kVisit TVisit.row t.xVisits), .i t.xAt, .i 0, .l (rows kVisit TVisit.row s1), .i t.xAt]) (encR := fun (u : List TVisit) => (((0, [.i 0, .l (rows kVisit TVisit.row u), .i t.xAt]) : Nat × List Leaf))) rfl (fun i_1 x_1 s1 hx1 hl1 hm1 => Imp.brT (T_lt (ks := kVisit) (g := TVisit.row) hl1) ?_) (fun s1 => brN (T_irr (ks := kVisit) (g := TVisit.row) t.xVisits) rfl) (fun r26 => ?_)
 ·refine Imp.idxFor (ks := kVisit) (g := TVisit.row) hx1 ?_
  refine Imp.idxFor (ks := kVisit) (g := TVisit.row) hx1 ?_
  refine Imp.call rfl (ei_sl15Copy x_1.xPage _) (fun r4 _ => ?_)
  refine Imp.chk (c2 (fun z0 z1 : Nat => (z0 + 1) * 424 ≤ 140737488355328 ∧ z1 + 1 ≤ 140737488355328) (T_len (ks := kVisit) (g := TVisit.row) s1) (T_len (ks := kVisit) (g := TVisit.row) s1)) (fun _ => ?_)
  exact Imp.ret (c2 (fun (h1 : Int) (h2 : List V) => (some (Sum.inl [.i h1, .l (rows kVisit TVisit.row t.xVisits), .i t.xAt, .i 0, .l h2, .i t.xAt]) : Option (List Leaf ⊕ (Nat × List Leaf)))) (wrapJ hl1) (T_app (ks := kVisit) (g := TVisit.row) s1 [{ x_1 with xPage := r4 }]))
 ·exact Imp.ret rfl
noncomputable def sl1In (x : Int) (least : Int) (most : Int) : Option Bool :=
 br (decide (x ≥ least)) (
 some (decide (x ≤ most))
 ) (
 some false
 )
theorem ei_sl1In (x : Int) (least : Int) (most : Int) (k : Bool → Option β) : Imp (F47 β x least most k) (sl1In x least most) (fun r => k r) := by
 delta F47 P47 sl1In
 refine Imp.br rfl ?_ ?_
 ·exact Imp.ret rfl
 ·exact Imp.ret rfl
noncomputable def sIsComplete (p : TPage) : Option Bool :=
 some p.xLoaded
theorem ei_sIsComplete (p : TPage) (k : Bool → Option β) : Imp (F139 β p.xAddr.xHost p.xAddr.xPath p.xPolicy.xSet (rStr p.xPolicy.xScripts) (rStr p.xPolicy.xStyles) (rStr p.xPolicy.xImages) p.xPolicy.xNonce p.xTok.xRest (rows kToken TToken.row p.xQueue) p.xEnded (rows kNode TNode.row p.xBuilder.xNodes) (rInt p.xBuilder.xOpen) (rows kSlot TSlot.row p.xSlots) (rows kModule TModule.row p.xMods) (rows kAddr TAddr.row p.xEntries) p.xBlock p.xInline p.xDeferred p.xEntered (rows kAddr TAddr.row p.xRan) (rStr p.xLog) p.xLoaded k) (sIsComplete p) (fun r => k r) := by
 delta F139 P139 sIsComplete
 exact Imp.ret rfl
noncomputable def sCanKeep (p : TPage) : Option Bool :=
 (sIsComplete p).bind fun (r1 : Bool) =>
 some r1
theorem ei_sCanKeep (p : TPage) (k : Bool → Option β) : Imp (F79 β p.xAddr.xHost p.xAddr.xPath p.xPolicy.xSet (rStr p.xPolicy.xScripts) (rStr p.xPolicy.xStyles) (rStr p.xPolicy.xImages) p.xPolicy.xNonce p.xTok.xRest (rows kToken TToken.row p.xQueue) p.xEnded (rows kNode TNode.row p.xBuilder.xNodes) (rInt p.xBuilder.xOpen) (rows kSlot TSlot.row p.xSlots) (rows kModule TModule.row p.xMods) (rows kAddr TAddr.row p.xEntries) p.xBlock p.xInline p.xDeferred p.xEntered (rows kAddr TAddr.row p.xRan) (rStr p.xLog) p.xLoaded k) (sCanKeep p) (fun r => k r) := by
 delta F79 P79 sCanKeep
 refine Imp.call rfl (ei_sIsComplete p _) (fun r1 _ => ?_)
 exact Imp.ret rfl
noncomputable def sGiveUp (t : TTab) (i : Int) : Option TTab :=
 (sl31Copy t).bind fun (r1 : TTab) =>
 (sl1In i 0 (IntKind.wrap .i64 ((t.xVisits.length : Int) - 1))).bind fun (r3 : Bool) =>
 br (!r3) (
  some r1
 ) (
  chk (0 ≤ i ∧ i.toNat < r1.xVisits.length) <|
  (modI r1.xVisits i (fun (y : TVisit) => { y with xKept := false })).bind fun (l4 : List TVisit) =>
  chk (0 ≤ i ∧ i.toNat < l4.length) <|
  (modI l4 i (fun (y : TVisit) => { y with xPage := (⟨⟨[], []⟩, ⟨false, [], [], [], []⟩, ⟨[]⟩, [], false, ⟨[], []⟩, [], [], [], 0, 0, 0, 0, [], [], false⟩ : TPage) })).bind fun (l5 : List TVisit) =>
  some { r1 with xVisits := l5 }
 )
theorem ei_sGiveUp (t : TTab) (i : Int) (k : List V → Int → Option β) : Imp (F80 β (rows kVisit TVisit.row t.xVisits) t.xAt i k) (sGiveUp t i) (fun r => k (rows kVisit TVisit.row r.xVisits) r.xAt) := by
 delta F80 P80 sGiveUp
 refine Imp.call rfl (ei_sl31Copy t _) (fun r1 _ => ?_)
 refine Imp.call (c1 (fun (w1 : Int) => F47 _ i 0 w1) (c1 (fun z0 : Nat => (IntKind.wrap .i64 ((z0 : Int) - 1))) (T_len (ks := kVisit) (g := TVisit.row) t.xVisits))) (ei_sl1In i 0 (IntKind.wrap .i64 ((t.xVisits.length : Int) - 1)) _) (fun r3 _ => ?_)
 refine Imp.br rfl ?_ ?_
 ·exact Imp.ret rfl
 ·refine Imp.chk (c1 (fun z0 : Nat => 0 ≤ i ∧ i.toNat < z0) (T_len (ks := kVisit) (g := TVisit.row) r1.xVisits)) (fun _ => ?_)
  refine Imp.store (ks := kVisit) (g := TVisit.row) rfl rfl (fun y => by simp only [TVisit.row, cellsEnc, CK.enc]; rfl) (fun l4 _ => ?_)
  refine Imp.chk (c1 (fun z0 : Nat => 0 ≤ i ∧ i.toNat < z0) (T_len (ks := kVisit) (g := TVisit.row) l4)) (fun _ => ?_)
  refine Imp.store (ks := kVisit) (g := TVisit.row) rfl rfl (fun y => by simp only [TVisit.row, cellsEnc, CK.enc]; rfl) (fun l5 _ => ?_)
  exact Imp.ret rfl
noncomputable def sKeptCount (t : TTab) : Option Int :=
 (forE t.xVisits (fun (i_1 : Nat) (x_1 : TVisit) (s1 : Int) => (
 br x_1.xKept (
 some (.inl (IntKind.wrap .i64 (s1 + 1)))
 ) (
 some (.inl s1)
 )
 : Option (Int ⊕ Int))) (fun (s1 : Int) => (s1 : Int)) (0 : Int)).bind <|
 fun (r3 : Int) =>
 some r3
theorem ei_sKeptCount (t : TTab) (k : Int → Option β) : Imp (F81 β (rows kVisit TVisit.row t.xVisits) t.xAt k) (sKeptCount t) (fun r => k r) := by
 delta F81 P81 sKeptCount
 refine Imp.for (enc := fun (i_1 : Nat) (s1 : Int) => [.i s1, .i (i_1 : Int), .l (rows kVisit TVisit.row t.xVisits), .i t.xAt]) (encR := fun (u : Int) => (((0, [.i u]) : Nat × List Leaf))) rfl (fun i_1 x_1 s1 hx1 hl1 hm1 => Imp.brT (T_lt (ks := kVisit) (g := TVisit.row) hl1) ?_) (fun s1 => brN (T_irr (ks := kVisit) (g := TVisit.row) t.xVisits) rfl) (fun r3 => ?_)
 ·refine Imp.idxFor (ks := kVisit) (g := TVisit.row) hx1 ?_
  refine Imp.br rfl ?_ ?_
  ·exact Imp.ret (c1 (fun (h1 : Int) => (some (Sum.inl [.i (IntKind.wrap .i64 (s1 + 1)), .i h1, .l (rows kVisit TVisit.row t.xVisits), .i t.xAt]) : Option (List Leaf ⊕ (Nat × List Leaf)))) (wrapJ hl1))
  ·exact Imp.ret (c1 (fun (h1 : Int) => (some (Sum.inl [.i s1, .i h1, .l (rows kVisit TVisit.row t.xVisits), .i t.xAt]) : Option (List Leaf ⊕ (Nat × List Leaf)))) (wrapJ hl1))
 ·exact Imp.ret rfl
noncomputable def sLeavePage (t : TTab) : Option TTab :=
 (sl31Copy t).bind fun (r1 : TTab) =>
 (sl1In t.xAt 0 (IntKind.wrap .i64 ((t.xVisits.length : Int) - 1))).bind fun (r3 : Bool) =>
 br r3 (
 (getI t.xVisits t.xAt).bind fun (e4 : TVisit) =>
 (sCanKeep e4.xPage).bind fun (r5 : Bool) =>
 br (!r5) (
 (sGiveUp r1 t.xAt).bind fun (r6 : TTab) =>
 (whileE (fun (s8 : Int × TTab) => (
 br (decide (s8.1 < (s8.2.xVisits.length : Int))) (
 (sKeptCount s8.2).bind fun (r9 : Int) =>
 br (decide (r9 > 3)) (
 chk (0 ≤ s8.1 ∧ s8.1.toNat < s8.2.xVisits.length) <|
 (getI s8.2.xVisits s8.1).bind fun (e10 : TVisit) =>
 br e10.xKept (
 br (s8.1 != t.xAt) (
 (sGiveUp s8.2 s8.1).bind fun (r11 : TTab) =>
 some (.inl ((IntKind.wrap .i64 (s8.1 + 1)), r11))
 ) (
 some (.inl ((IntKind.wrap .i64 (s8.1 + 1)), s8.2))
 )
 ) (
 some (.inl ((IntKind.wrap .i64 (s8.1 + 1)), s8.2))
 )
 ) (
 some (.inl ((IntKind.wrap .i64 (s8.1 + 1)), s8.2))
 )
 ) (
 some (.inr s8.2)
 )
 : Option ((Int × TTab) ⊕ TTab))) ((0, r6) : Int × TTab)).bind <|
 fun (r13 : TTab) =>
 some r13
 ) (
 (whileE (fun (s14 : Int × TTab) => (
 br (decide (s14.1 < (s14.2.xVisits.length : Int))) (
 (sKeptCount s14.2).bind fun (r15 : Int) =>
 br (decide (r15 > 3)) (
 chk (0 ≤ s14.1 ∧ s14.1.toNat < s14.2.xVisits.length) <|
 (getI s14.2.xVisits s14.1).bind fun (e16 : TVisit) =>
 br e16.xKept (
 br (s14.1 != t.xAt) (
 (sGiveUp s14.2 s14.1).bind fun (r17 : TTab) =>
 some (.inl ((IntKind.wrap .i64 (s14.1 + 1)), r17))
 ) (
 some (.inl ((IntKind.wrap .i64 (s14.1 + 1)), s14.2))
 )
 ) (
 some (.inl ((IntKind.wrap .i64 (s14.1 + 1)), s14.2))
 )
 ) (
 some (.inl ((IntKind.wrap .i64 (s14.1 + 1)), s14.2))
 )
 ) (
 some (.inr s14.2)
 )
 : Option ((Int × TTab) ⊕ TTab))) ((0, r1) : Int × TTab)).bind <|
 fun (r19 : TTab) =>
 some r19
 )
 ) (
 (whileE (fun (s20 : Int × TTab) => (
 br (decide (s20.1 < (s20.2.xVisits.length : Int))) (
 (sKeptCount s20.2).bind fun (r21 : Int) =>
 br (decide (r21 > 3)) (
 chk (0 ≤ s20.1 ∧ s20.1.toNat < s20.2.xVisits.length) <|
 (getI s20.2.xVisits s20.1).bind fun (e22 : TVisit) =>
 br e22.xKept (
 br (s20.1 != t.xAt) (
 (sGiveUp s20.2 s20.1).bind fun (r23 : TTab) =>
 some (.inl ((IntKind.wrap .i64 (s20.1 + 1)), r23))
 ) (
 some (.inl ((IntKind.wrap .i64 (s20.1 + 1)), s20.2))
 )
 ) (
 some (.inl ((IntKind.wrap .i64 (s20.1 + 1)), s20.2))
 )
 ) (
 some (.inl ((IntKind.wrap .i64 (s20.1 + 1)), s20.2))
 )
 ) (
 some (.inr s20.2)
 )
 : Option ((Int × TTab) ⊕ TTab))) ((0, r1) : Int × TTab)).bind <|
 fun (r25 : TTab) =>
 some r25
 )
theorem ei_sLeavePage (t : TTab) (k : List V → Int → Option β) : Imp (F18 β (rows kVisit TVisit.row t.xVisits) t.xAt k) (sLeavePage t) (fun r => k (rows kVisit TVisit.row r.xVisits) r.xAt) := by
 delta F18 P18 sLeavePage
 refine Imp.call rfl (ei_sl31Copy t _) (fun r1 _ => ?_)
 refine Imp.call (c1 (fun (w1 : Int) => F47 _ t.xAt 0 w1) (c1 (fun z0 : Nat => (IntKind.wrap .i64 ((z0 : Int) - 1))) (T_len (ks := kVisit) (g := TVisit.row) t.xVisits))) (ei_sl1In t.xAt 0 (IntKind.wrap .i64 ((t.xVisits.length : Int) - 1)) _) (fun r3 _ => ?_)
 refine Imp.br rfl ?_ ?_
 ·refine Imp.idx (ks := kVisit) (g := TVisit.row) rfl rfl (fun e4 _ => ?_)
  refine Imp.call rfl (ei_sCanKeep e4.xPage _) (fun r5 _ => ?_)
  refine Imp.br rfl ?_ ?_
  ·refine Imp.call rfl (ei_sGiveUp r1 t.xAt _) (fun r6 _ => ?_)
   refine Imp.while (enc := fun (s8 : Int × TTab) => [.i s8.1, .l (rows kVisit TVisit.row t.xVisits), .i t.xAt, .i 0, .l (rows kVisit TVisit.row s8.2.xVisits), .i s8.2.xAt]) (encR := fun (u : TTab) => (((0, [.i 0, .l (rows kVisit TVisit.row u.xVisits), .i u.xAt]) : Nat × List Leaf))) rfl (fun s8 => ?_) (fun r13 => ?_)
   ·refine Imp.br (c1 (fun z0 : Nat => (decide (s8.1 < (z0 : Int)))) (T_len (ks := kVisit) (g := TVisit.row) s8.2.xVisits)) ?_ ?_
    ·refine Imp.call rfl (ei_sKeptCount s8.2 _) (fun r9 _ => ?_)
     refine Imp.br rfl ?_ ?_
     ·refine Imp.chk (c1 (fun z0 : Nat => 0 ≤ s8.1 ∧ s8.1.toNat < z0) (T_len (ks := kVisit) (g := TVisit.row) s8.2.xVisits)) (fun _ => ?_)
      refine Imp.idxAt (ks := kVisit) (g := TVisit.row) rfl rfl (fun e10 => rfl) (fun e10 _ => ?_)
      refine Imp.br rfl ?_ ?_
      ·refine Imp.br rfl ?_ ?_
       ·refine Imp.call rfl (ei_sGiveUp s8.2 s8.1 _) (fun r11 _ => ?_)
        exact Imp.ret rfl
       ·exact Imp.ret rfl
      ·exact Imp.ret rfl
     ·exact Imp.ret rfl
    ·exact Imp.ret rfl
   ·exact Imp.ret rfl
  ·refine Imp.while (enc := fun (s14 : Int × TTab) => [.i s14.1, .l (rows kVisit TVisit.row t.xVisits), .i t.xAt, .i 0, .l (rows kVisit TVisit.row s14.2.xVisits), .i s14.2.xAt]) (encR := fun (u : TTab) => (((0, [.i 0, .l (rows kVisit TVisit.row u.xVisits), .i u.xAt]) : Nat × List Leaf))) rfl (fun s14 => ?_) (fun r19 => ?_)
   ·refine Imp.br (c1 (fun z0 : Nat => (decide (s14.1 < (z0 : Int)))) (T_len (ks := kVisit) (g := TVisit.row) s14.2.xVisits)) ?_ ?_
    ·refine Imp.call rfl (ei_sKeptCount s14.2 _) (fun r15 _ => ?_)
     refine Imp.br rfl ?_ ?_
     ·refine Imp.chk (c1 (fun z0 : Nat => 0 ≤ s14.1 ∧ s14.1.toNat < z0) (T_len (ks := kVisit) (g := TVisit.row) s14.2.xVisits)) (fun _ => ?_)
      refine Imp.idxAt (ks := kVisit) (g := TVisit.row) rfl rfl (fun e16 => rfl) (fun e16 _ => ?_)
      refine Imp.br rfl ?_ ?_
      ·refine Imp.br rfl ?_ ?_
       ·refine Imp.call rfl (ei_sGiveUp s14.2 s14.1 _) (fun r17 _ => ?_)
        exact Imp.ret rfl
       ·exact Imp.ret rfl
      ·exact Imp.ret rfl
     ·exact Imp.ret rfl
    ·exact Imp.ret rfl
   ·exact Imp.ret rfl
 ·refine Imp.while (enc := fun (s20 : Int × TTab) => [.i s20.1, .l (rows kVisit TVisit.row t.xVisits), .i t.xAt, .i 0, .l (rows kVisit TVisit.row s20.2.xVisits), .i s20.2.xAt]) (encR := fun (u : TTab) => (((0, [.i 0, .l (rows kVisit TVisit.row u.xVisits), .i u.xAt]) : Nat × List Leaf))) rfl (fun s20 => ?_) (fun r25 => ?_)
  ·refine Imp.br (c1 (fun z0 : Nat => (decide (s20.1 < (z0 : Int)))) (T_len (ks := kVisit) (g := TVisit.row) s20.2.xVisits)) ?_ ?_
   ·refine Imp.call rfl (ei_sKeptCount s20.2 _) (fun r21 _ => ?_)
    refine Imp.br rfl ?_ ?_
    ·refine Imp.chk (c1 (fun z0 : Nat => 0 ≤ s20.1 ∧ s20.1.toNat < z0) (T_len (ks := kVisit) (g := TVisit.row) s20.2.xVisits)) (fun _ => ?_)
     refine Imp.idxAt (ks := kVisit) (g := TVisit.row) rfl rfl (fun e22 => rfl) (fun e22 _ => ?_)
     refine Imp.br rfl ?_ ?_
     ·refine Imp.br rfl ?_ ?_
      ·refine Imp.call rfl (ei_sGiveUp s20.2 s20.1 _) (fun r23 _ => ?_)
       exact Imp.ret rfl
      ·exact Imp.ret rfl
     ·exact Imp.ret rfl
    ·exact Imp.ret rfl
   ·exact Imp.ret rfl
  ·exact Imp.ret rfl
noncomputable def icopyPolicy (p : TPolicy) : Option TPolicy :=
 chk ((0 + p.xScripts.length) * 16 ≤ 140737488355328 ∧ 0 + p.xScripts.length ≤ 140737488355328) <|
 chk ((0 + p.xStyles.length) * 16 ≤ 140737488355328 ∧ 0 + p.xStyles.length ≤ 140737488355328) <|
 chk ((0 + p.xImages.length) * 16 ≤ 140737488355328 ∧ 0 + p.xImages.length ≤ 140737488355328) <|
 some (⟨p.xSet, ([] ++ p.xScripts), ([] ++ p.xStyles), ([] ++ p.xImages), p.xNonce⟩ : TPolicy)
theorem ei_icopyPolicy (p : TPolicy) (k : Bool → List V → List V → List V → List UInt8 → Option β) : Imp (F121 β p.xSet (rStr p.xScripts) (rStr p.xStyles) (rStr p.xImages) p.xNonce k) (icopyPolicy p) (fun r => k r.xSet (rStr r.xScripts) (rStr r.xStyles) (rStr r.xImages) r.xNonce) := by
 delta F121 P121 icopyPolicy
 refine Imp.chk (c2 (fun z0 z1 : Nat => (0 + z0) * 16 ≤ 140737488355328 ∧ 0 + z1 ≤ 140737488355328) (U_len (T := List UInt8) (kd := .str) (g1 := fun e => e) p.xScripts) (U_len (T := List UInt8) (kd := .str) (g1 := fun e => e) p.xScripts)) (fun _ => ?_)
 refine Imp.chk (c2 (fun z0 z1 : Nat => (0 + z0) * 16 ≤ 140737488355328 ∧ 0 + z1 ≤ 140737488355328) (U_len (T := List UInt8) (kd := .str) (g1 := fun e => e) p.xStyles) (U_len (T := List UInt8) (kd := .str) (g1 := fun e => e) p.xStyles)) (fun _ => ?_)
 refine Imp.chk (c2 (fun z0 z1 : Nat => (0 + z0) * 16 ≤ 140737488355328 ∧ 0 + z1 ≤ 140737488355328) (U_len (T := List UInt8) (kd := .str) (g1 := fun e => e) p.xImages) (U_len (T := List UInt8) (kd := .str) (g1 := fun e => e) p.xImages)) (fun _ => ?_)
 exact Imp.ret (c3 (fun (h1 : List V) (h2 : List V) (h3 : List V) => k p.xSet h1 h2 h3 p.xNonce) (U_app (T := List UInt8) (kd := .str) (g1 := fun e => e) [] p.xScripts) (U_app (T := List UInt8) (kd := .str) (g1 := fun e => e) [] p.xStyles) (U_app (T := List UInt8) (kd := .str) (g1 := fun e => e) [] p.xImages))
noncomputable def icopyToken (t : TToken) : Option TToken :=
 chk ((0 + t.xAttrs.length) * 32 ≤ 140737488355328 ∧ 0 + t.xAttrs.length ≤ 140737488355328) <|
 some { t with xAttrs := ([] ++ t.xAttrs) }
theorem ei_icopyToken (t : TToken) (k : Int → List UInt8 → List V → List UInt8 → Option β) : Imp (F183 β t.xKind t.xName (rows kAttr TAttr.row t.xAttrs) t.xText k) (icopyToken t) (fun r => k r.xKind r.xName (rows kAttr TAttr.row r.xAttrs) r.xText) := by
 delta F183 P183 icopyToken
 refine Imp.chk (c2 (fun z0 z1 : Nat => (0 + z0) * 32 ≤ 140737488355328 ∧ 0 + z1 ≤ 140737488355328) (T_len (ks := kAttr) (g := TAttr.row) t.xAttrs) (T_len (ks := kAttr) (g := TAttr.row) t.xAttrs)) (fun _ => ?_)
 exact Imp.ret (c1 (fun (h1 : List V) => k t.xKind t.xName h1 t.xText) (T_app (ks := kAttr) (g := TAttr.row) [] t.xAttrs))
noncomputable def icopyTokens (l : List TToken) : Option (List TToken) :=
 (forE l (fun (i_1 : Nat) (x_1 : TToken) (s1 : List TToken) => (
 (icopyToken x_1).bind fun (r3 : TToken) =>
 chk ((s1.length + 1) * 64 ≤ 140737488355328 ∧ s1.length + 1 ≤ 140737488355328) <|
 some (.inl (s1 ++ [r3]))
 : Option ((List TToken) ⊕ (List TToken)))) (fun (s1 : List TToken) => (s1 : List TToken)) ([] : List TToken)).bind <|
 fun (r7 : List TToken) =>
 some r7
theorem ei_icopyTokens (l : List TToken) (k : List V → Option β) : Imp (F122 β (rows kToken TToken.row l) k) (icopyTokens l) (fun r => k (rows kToken TToken.row r)) := by
 delta F122 P122 icopyTokens
 refine Imp.for (enc := fun (i_1 : Nat) (s1 : List TToken) => [.l (rows kToken TToken.row s1), .l (rows kToken TToken.row l), .i (l.length : Int), .i (i_1 : Int)]) (encR := fun (u : List TToken) => (((0, [.l (rows kToken TToken.row u)]) : Nat × List Leaf))) (c1 (fun (h1 : Int) => ([.l (rows kToken TToken.row []), .l (rows kToken TToken.row l), .i h1, .i 0] : List Leaf)) (c1 (fun z0 : Nat => (z0 : Int)) (T_len (ks := kToken) (g := TToken.row) l))) (fun i_1 x_1 s1 hx1 hl1 hm1 => Imp.brT (Int.ofNat_lt.2 hl1) ?_) (fun s1 => brN (Int.lt_irrefl _) rfl) (fun r7 => ?_)
 ·refine Imp.idxFor (ks := kToken) (g := TToken.row) hx1 ?_
  refine Imp.call rfl (ei_icopyToken x_1 _) (fun r3 _ => ?_)
  refine Imp.chk (c2 (fun z0 z1 : Nat => (z0 + 1) * 64 ≤ 140737488355328 ∧ z1 + 1 ≤ 140737488355328) (T_len (ks := kToken) (g := TToken.row) s1) (T_len (ks := kToken) (g := TToken.row) s1)) (fun _ => ?_)
  exact Imp.ret (c2 (fun (h1 : List V) (h2 : Int) => (some (Sum.inl [.l h1, .l (rows kToken TToken.row l), .i (l.length : Int), .i h2]) : Option (List Leaf ⊕ (Nat × List Leaf)))) (T_app (ks := kToken) (g := TToken.row) s1 [r3]) (wrapJ hl1))
 ·exact Imp.ret rfl
noncomputable def icopyBuilder (b : TBuilder) : Option TBuilder :=
 chk ((0 + b.xOpen.length) * 8 ≤ 140737488355328 ∧ 0 + b.xOpen.length ≤ 140737488355328) <|
 (forE b.xNodes (fun (i_1 : Nat) (x_1 : TNode) (s1 : List TNode) => (
  chk ((0 + x_1.xAttrs.length) * 32 ≤ 140737488355328 ∧ 0 + x_1.xAttrs.length ≤ 140737488355328) <|
  chk ((s1.length + 1) * 64 ≤ 140737488355328 ∧ s1.length + 1 ≤ 140737488355328) <|
  some (.inl (s1 ++ [{ x_1 with xAttrs := ([] ++ x_1.xAttrs) }]))
 : Option ((List TNode) ⊕ (List TNode)))) (fun (s1 : List TNode) => (s1 : List TNode)) ([] : List TNode)).bind <|
 fun (r3 : List TNode) =>
 some (⟨r3, ([] ++ b.xOpen)⟩ : TBuilder)
theorem ei_icopyBuilder (b : TBuilder) (k : List V → List V → Option β) : Imp (F123 β (rows kNode TNode.row b.xNodes) (rInt b.xOpen) k) (icopyBuilder b) (fun r => k (rows kNode TNode.row r.xNodes) (rInt r.xOpen)) := by
 delta F123 P123 icopyBuilder
 refine Imp.chk (c2 (fun z0 z1 : Nat => (0 + z0) * 8 ≤ 140737488355328 ∧ 0 + z1 ≤ 140737488355328) (U_len (T := Int) (kd := (.int .i64)) (g1 := fun e => e) b.xOpen) (U_len (T := Int) (kd := (.int .i64)) (g1 := fun e => e) b.xOpen)) (fun _ => ?_)
 refine Imp.for (enc := fun (i_1 : Nat) (s1 : List TNode) => [.l (rows kNode TNode.row b.xNodes), .i (b.xNodes.length : Int), .i (i_1 : Int), .l (rows kNode TNode.row s1), .l (rInt ([] ++ b.xOpen))]) (encR := fun (u : List TNode) => (((0, [.l (rows kNode TNode.row u), .l (rInt ([] ++ b.xOpen))]) : Nat × List Leaf))) (c2 (fun (h1 : Int) (h2 : List V) => ([.l (rows kNode TNode.row b.xNodes), .i h1, .i 0, .l (rows kNode TNode.row []), .l h2] : List Leaf)) (c1 (fun z0 : Nat => (z0 : Int)) (T_len (ks := kNode) (g := TNode.row) b.xNodes)) (U_app (T := Int) (kd := (.int .i64)) (g1 := fun e => e) [] b.xOpen)) (fun i_1 x_1 s1 hx1 hl1 hm1 => Imp.brT (Int.ofNat_lt.2 hl1) ?_) (fun s1 => brN (Int.lt_irrefl _) rfl) (fun r3 => ?_)
 ·refine Imp.idxFor (ks := kNode) (g := TNode.row) hx1 ?_
  refine Imp.chk (c2 (fun z0 z1 : Nat => (0 + z0) * 32 ≤ 140737488355328 ∧ 0 + z1 ≤ 140737488355328) (T_len (ks := kAttr) (g := TAttr.row) x_1.xAttrs) (T_len (ks := kAttr) (g := TAttr.row) x_1.xAttrs)) (fun _ => ?_)
  refine Imp.chk (c2 (fun z0 z1 : Nat => (z0 + 1) * 64 ≤ 140737488355328 ∧ z1 + 1 ≤ 140737488355328) (T_len (ks := kNode) (g := TNode.row) s1) (T_len (ks := kNode) (g := TNode.row) s1)) (fun _ => ?_)
  exact Imp.ret (c2 (fun (h1 : Int) (h2 : List V) => (some (Sum.inl [.l (rows kNode TNode.row b.xNodes), .i (b.xNodes.length : Int), .i h1, .l h2, .l (rInt ([] ++ b.xOpen))]) : Option (List Leaf ⊕ (Nat × List Leaf)))) (wrapJ hl1) ((c2 (fun u v : List V => u ++ v) rfl (c1 (fun (u0 : List V) => ([V.agg [V.str x_1.xName, V.str x_1.xText, V.int .i64 x_1.xParent, V.sl 2 true u0]] : List V)) (T_app (ks := kAttr) (g := TAttr.row) [] x_1.xAttrs))).trans (T_app (ks := kNode) (g := TNode.row) s1 [{ x_1 with xAttrs := ([] ++ x_1.xAttrs) }])))
 ·exact Imp.ret rfl
noncomputable def icopyPage (p : TPage) : Option TPage :=
 (icopyPolicy p.xPolicy).bind fun (r1 : TPolicy) =>
 (icopyTokens p.xQueue).bind fun (r6 : List TToken) =>
 (icopyBuilder p.xBuilder).bind fun (r7 : TBuilder) =>
 chk ((0 + p.xSlots.length) * 96 ≤ 140737488355328 ∧ 0 + p.xSlots.length ≤ 140737488355328) <|
 chk ((0 + p.xMods.length) * 64 ≤ 140737488355328 ∧ 0 + p.xMods.length ≤ 140737488355328) <|
 chk ((0 + p.xEntries.length) * 32 ≤ 140737488355328 ∧ 0 + p.xEntries.length ≤ 140737488355328) <|
 chk ((0 + p.xRan.length) * 32 ≤ 140737488355328 ∧ 0 + p.xRan.length ≤ 140737488355328) <|
 chk ((0 + p.xLog.length) * 16 ≤ 140737488355328 ∧ 0 + p.xLog.length ≤ 140737488355328) <|
 some { p with xPolicy := r1, xQueue := r6, xBuilder := r7, xSlots := ([] ++ p.xSlots), xMods := ([] ++ p.xMods), xEntries := ([] ++ p.xEntries), xRan := ([] ++ p.xRan), xLog := ([] ++ p.xLog) }
theorem ei_icopyPage (p : TPage) (k : List UInt8 → List UInt8 → Bool → List V → List V → List V → List UInt8 → List UInt8 → List V → Bool → List V → List V → List V → List V → List V → Int → Int → Int → Int → List V → List V → Bool → Option β) : Imp (F61 β p.xAddr.xHost p.xAddr.xPath p.xPolicy.xSet (rStr p.xPolicy.xScripts) (rStr p.xPolicy.xStyles) (rStr p.xPolicy.xImages) p.xPolicy.xNonce p.xTok.xRest (rows kToken TToken.row p.xQueue) p.xEnded (rows kNode TNode.row p.xBuilder.xNodes) (rInt p.xBuilder.xOpen) (rows kSlot TSlot.row p.xSlots) (rows kModule TModule.row p.xMods) (rows kAddr TAddr.row p.xEntries) p.xBlock p.xInline p.xDeferred p.xEntered (rows kAddr TAddr.row p.xRan) (rStr p.xLog) p.xLoaded k) (icopyPage p) (fun r => k r.xAddr.xHost r.xAddr.xPath r.xPolicy.xSet (rStr r.xPolicy.xScripts) (rStr r.xPolicy.xStyles) (rStr r.xPolicy.xImages) r.xPolicy.xNonce r.xTok.xRest (rows kToken TToken.row r.xQueue) r.xEnded (rows kNode TNode.row r.xBuilder.xNodes) (rInt r.xBuilder.xOpen) (rows kSlot TSlot.row r.xSlots) (rows kModule TModule.row r.xMods) (rows kAddr TAddr.row r.xEntries) r.xBlock r.xInline r.xDeferred r.xEntered (rows kAddr TAddr.row r.xRan) (rStr r.xLog) r.xLoaded) := by
 delta F61 P61 icopyPage
 refine Imp.call rfl (ei_icopyPolicy p.xPolicy _) (fun r1 _ => ?_)
 refine Imp.call rfl (ei_icopyTokens p.xQueue _) (fun r6 _ => ?_)
 refine Imp.call rfl (ei_icopyBuilder p.xBuilder _) (fun r7 _ => ?_)
 refine Imp.chk (c2 (fun z0 z1 : Nat => (0 + z0) * 96 ≤ 140737488355328 ∧ 0 + z1 ≤ 140737488355328) (T_len (ks := kSlot) (g := TSlot.row) p.xSlots) (T_len (ks := kSlot) (g := TSlot.row) p.xSlots)) (fun _ => ?_)
 refine Imp.chk (c2 (fun z0 z1 : Nat => (0 + z0) * 64 ≤ 140737488355328 ∧ 0 + z1 ≤ 140737488355328) (T_len (ks := kModule) (g := TModule.row) p.xMods) (T_len (ks := kModule) (g := TModule.row) p.xMods)) (fun _ => ?_)
 refine Imp.chk (c2 (fun z0 z1 : Nat => (0 + z0) * 32 ≤ 140737488355328 ∧ 0 + z1 ≤ 140737488355328) (T_len (ks := kAddr) (g := TAddr.row) p.xEntries) (T_len (ks := kAddr) (g := TAddr.row) p.xEntries)) (fun _ => ?_)
 refine Imp.chk (c2 (fun z0 z1 : Nat => (0 + z0) * 32 ≤ 140737488355328 ∧ 0 + z1 ≤ 140737488355328) (T_len (ks := kAddr) (g := TAddr.row) p.xRan) (T_len (ks := kAddr) (g := TAddr.row) p.xRan)) (fun _ => ?_)
 refine Imp.chk (c2 (fun z0 z1 : Nat => (0 + z0) * 16 ≤ 140737488355328 ∧ 0 + z1 ≤ 140737488355328) (U_len (T := List UInt8) (kd := .str) (g1 := fun e => e) p.xLog) (U_len (T := List UInt8) (kd := .str) (g1 := fun e => e) p.xLog)) (fun _ => ?_)
 exact Imp.ret (c5 (fun (h1 : List V) (h2 : List V) (h3 : List V) (h4 : List V) (h5 : List V) => k p.xAddr.xHost p.xAddr.xPath r1.xSet (rStr r1.xScripts) (rStr r1.xStyles) (rStr r1.xImages) r1.xNonce p.xTok.xRest (rows kToken TToken.row r6) p.xEnded (rows kNode TNode.row r7.xNodes) (rInt r7.xOpen) h1 h2 h3 p.xBlock p.xInline p.xDeferred p.xEntered h4 h5 p.xLoaded) (T_app (ks := kSlot) (g := TSlot.row) [] p.xSlots) (T_app (ks := kModule) (g := TModule.row) [] p.xMods) (T_app (ks := kAddr) (g := TAddr.row) [] p.xEntries) (T_app (ks := kAddr) (g := TAddr.row) [] p.xRan) (U_app (T := List UInt8) (kd := .str) (g1 := fun e => e) [] p.xLog))
noncomputable def icopyTab (t : TTab) : Option TTab :=
 (forE t.xVisits (fun (i_1 : Nat) (x_1 : TVisit) (s1 : List TVisit) => (
  (icopyPage x_1.xPage).bind fun (r3 : TPage) =>
  chk ((s1.length + 1) * 424 ≤ 140737488355328 ∧ s1.length + 1 ≤ 140737488355328) <|
  some (.inl (s1 ++ [{ x_1 with xPage := r3 }]))
 : Option ((List TVisit) ⊕ (List TVisit)))) (fun (s1 : List TVisit) => (s1 : List TVisit)) ([] : List TVisit)).bind <|
 fun (r25 : List TVisit) =>
 some { t with xVisits := r25 }
theorem ei_icopyTab (t : TTab) (k : List V → Int → Option β) : Imp (F59 β (rows kVisit TVisit.row t.xVisits) t.xAt k) (icopyTab t) (fun r => k (rows kVisit TVisit.row r.xVisits) r.xAt) := by
 delta F59 P59 icopyTab
 refine Imp.for (enc := fun (i_1 : Nat) (s1 : List TVisit) => [.l (rows kVisit TVisit.row t.xVisits), .i (t.xVisits.length : Int), .i (i_1 : Int), .i 0, .l (rows kVisit TVisit.row s1), .i t.xAt]) (encR := fun (u : List TVisit) => (((0, [.i 0, .l (rows kVisit TVisit.row u), .i t.xAt]) : Nat × List Leaf))) (c1 (fun (h1 : Int) => ([.l (rows kVisit TVisit.row t.xVisits), .i h1, .i 0, .i 0, .l (rows kVisit TVisit.row []), .i t.xAt] : List Leaf)) (c1 (fun z0 : Nat => (z0 : Int)) (T_len (ks := kVisit) (g := TVisit.row) t.xVisits))) (fun i_1 x_1 s1 hx1 hl1 hm1 => Imp.brT (Int.ofNat_lt.2 hl1) ?_) (fun s1 => brN (Int.lt_irrefl _) rfl) (fun r25 => ?_)
 ·refine Imp.idxFor (ks := kVisit) (g := TVisit.row) hx1 ?_
  refine Imp.call rfl (ei_icopyPage x_1.xPage _) (fun r3 _ => ?_)
  refine Imp.chk (c2 (fun z0 z1 : Nat => (z0 + 1) * 424 ≤ 140737488355328 ∧ z1 + 1 ≤ 140737488355328) (T_len (ks := kVisit) (g := TVisit.row) s1) (T_len (ks := kVisit) (g := TVisit.row) s1)) (fun _ => ?_)
  exact Imp.ret (c2 (fun (h1 : Int) (h2 : List V) => (some (Sum.inl [.l (rows kVisit TVisit.row t.xVisits), .i (t.xVisits.length : Int), .i h1, .i 0, .l h2, .i t.xAt]) : Option (List Leaf ⊕ (Nat × List Leaf)))) (wrapJ hl1) (T_app (ks := kVisit) (g := TVisit.row) s1 [{ x_1 with xPage := r3 }]))
 ·exact Imp.ret rfl
noncomputable def ihasPresent (t : TTab) : Option Bool :=
 br (decide (t.xAt ≥ 0)) (
 some (decide (t.xAt < (t.xVisits.length : Int)))
 ) (
 some false
 )
theorem ei_ihasPresent (t : TTab) (k : Bool → Option β) : Imp (F60 β (rows kVisit TVisit.row t.xVisits) t.xAt k) (ihasPresent t) (fun r => k r) := by
 delta F60 P60 ihasPresent
 refine Imp.br rfl ?_ ?_
 ·exact Imp.ret (c1 (fun (h1 : Bool) => k h1) (c1 (fun z0 : Nat => (decide (t.xAt < (z0 : Int)))) (T_len (ks := kVisit) (g := TVisit.row) t.xVisits)))
 ·exact Imp.ret rfl
noncomputable def iIsComplete (p : TPage) : Option Bool :=
 some p.xLoaded
theorem ei_iIsComplete (p : TPage) (k : Bool → Option β) : Imp (F140 β p.xAddr.xHost p.xAddr.xPath p.xPolicy.xSet (rStr p.xPolicy.xScripts) (rStr p.xPolicy.xStyles) (rStr p.xPolicy.xImages) p.xPolicy.xNonce p.xTok.xRest (rows kToken TToken.row p.xQueue) p.xEnded (rows kNode TNode.row p.xBuilder.xNodes) (rInt p.xBuilder.xOpen) (rows kSlot TSlot.row p.xSlots) (rows kModule TModule.row p.xMods) (rows kAddr TAddr.row p.xEntries) p.xBlock p.xInline p.xDeferred p.xEntered (rows kAddr TAddr.row p.xRan) (rStr p.xLog) p.xLoaded k) (iIsComplete p) (fun r => k r) := by
 delta F140 P140 iIsComplete
 exact Imp.ret rfl
noncomputable def iCanKeep (p : TPage) : Option Bool :=
 (iIsComplete p).bind fun (r1 : Bool) =>
 some r1
theorem ei_iCanKeep (p : TPage) (k : Bool → Option β) : Imp (F82 β p.xAddr.xHost p.xAddr.xPath p.xPolicy.xSet (rStr p.xPolicy.xScripts) (rStr p.xPolicy.xStyles) (rStr p.xPolicy.xImages) p.xPolicy.xNonce p.xTok.xRest (rows kToken TToken.row p.xQueue) p.xEnded (rows kNode TNode.row p.xBuilder.xNodes) (rInt p.xBuilder.xOpen) (rows kSlot TSlot.row p.xSlots) (rows kModule TModule.row p.xMods) (rows kAddr TAddr.row p.xEntries) p.xBlock p.xInline p.xDeferred p.xEntered (rows kAddr TAddr.row p.xRan) (rStr p.xLog) p.xLoaded k) (iCanKeep p) (fun r => k r) := by
 delta F82 P82 iCanKeep
 refine Imp.call rfl (ei_iIsComplete p _) (fun r1 _ => ?_)
 exact Imp.ret rfl
noncomputable def iGiveUp (t : TTab) (i : Int) : Option TTab :=
 (icopyTab t).bind fun (r1 : TTab) =>
 br (decide (i ≥ 0)) (
  br (decide (i < (t.xVisits.length : Int))) (
   chk (0 ≤ i ∧ i.toNat < r1.xVisits.length) <|
   (modI r1.xVisits i (fun (y : TVisit) => { y with xKept := false })).bind fun (l3 : List TVisit) =>
   chk (0 ≤ i ∧ i.toNat < l3.length) <|
   (modI l3 i (fun (y : TVisit) => { y with xPage := (⟨⟨[], []⟩, ⟨false, [], [], [], []⟩, ⟨[]⟩, [], false, ⟨[], []⟩, [], [], [], 0, 0, 0, 0, [], [], false⟩ : TPage) })).bind fun (l4 : List TVisit) =>
   some { r1 with xVisits := l4 }
  ) (
   some r1
  )
 ) (
  some r1
 )
theorem ei_iGiveUp (t : TTab) (i : Int) (k : List V → Int → Option β) : Imp (F83 β (rows kVisit TVisit.row t.xVisits) t.xAt i k) (iGiveUp t i) (fun r => k (rows kVisit TVisit.row r.xVisits) r.xAt) := by
 delta F83 P83 iGiveUp
 refine Imp.call rfl (ei_icopyTab t _) (fun r1 _ => ?_)
 refine Imp.br rfl ?_ ?_
 ·refine Imp.br (c1 (fun z0 : Nat => (decide (i < (z0 : Int)))) (T_len (ks := kVisit) (g := TVisit.row) t.xVisits)) ?_ ?_
  ·refine Imp.chk (c1 (fun z0 : Nat => 0 ≤ i ∧ i.toNat < z0) (T_len (ks := kVisit) (g := TVisit.row) r1.xVisits)) (fun _ => ?_)
   refine Imp.store (ks := kVisit) (g := TVisit.row) rfl rfl (fun y => by simp only [TVisit.row, cellsEnc, CK.enc]; rfl) (fun l3 _ => ?_)
   refine Imp.chk (c1 (fun z0 : Nat => 0 ≤ i ∧ i.toNat < z0) (T_len (ks := kVisit) (g := TVisit.row) l3)) (fun _ => ?_)
   refine Imp.store (ks := kVisit) (g := TVisit.row) rfl rfl (fun y => by simp only [TVisit.row, cellsEnc, CK.enc]; rfl) (fun l4 _ => ?_)
   exact Imp.ret rfl
  ·exact Imp.ret rfl
 ·exact Imp.ret rfl
noncomputable def iKeptCount (t : TTab) : Option Int :=
 (forE t.xVisits (fun (i_1 : Nat) (x_1 : TVisit) (s1 : Int) => (
 br x_1.xKept (
 some (.inl (IntKind.wrap .i64 (s1 + 1)))
 ) (
 some (.inl s1)
 )
 : Option (Int ⊕ Int))) (fun (s1 : Int) => (s1 : Int)) (0 : Int)).bind <|
 fun (r3 : Int) =>
 some r3
theorem ei_iKeptCount (t : TTab) (k : Int → Option β) : Imp (F84 β (rows kVisit TVisit.row t.xVisits) t.xAt k) (iKeptCount t) (fun r => k r) := by
 delta F84 P84 iKeptCount
 refine Imp.for (enc := fun (i_1 : Nat) (s1 : Int) => [.i s1, .l (rows kVisit TVisit.row t.xVisits), .i (t.xVisits.length : Int), .i (i_1 : Int)]) (encR := fun (u : Int) => (((0, [.i u]) : Nat × List Leaf))) (c1 (fun (h1 : Int) => ([.i 0, .l (rows kVisit TVisit.row t.xVisits), .i h1, .i 0] : List Leaf)) (c1 (fun z0 : Nat => (z0 : Int)) (T_len (ks := kVisit) (g := TVisit.row) t.xVisits))) (fun i_1 x_1 s1 hx1 hl1 hm1 => Imp.brT (Int.ofNat_lt.2 hl1) ?_) (fun s1 => brN (Int.lt_irrefl _) rfl) (fun r3 => ?_)
 ·refine Imp.idxFor (ks := kVisit) (g := TVisit.row) hx1 ?_
  refine Imp.br rfl ?_ ?_
  ·exact Imp.ret (c1 (fun (h1 : Int) => (some (Sum.inl [.i (IntKind.wrap .i64 (s1 + 1)), .l (rows kVisit TVisit.row t.xVisits), .i (t.xVisits.length : Int), .i h1]) : Option (List Leaf ⊕ (Nat × List Leaf)))) (wrapJ hl1))
  ·exact Imp.ret (c1 (fun (h1 : Int) => (some (Sum.inl [.i s1, .l (rows kVisit TVisit.row t.xVisits), .i (t.xVisits.length : Int), .i h1]) : Option (List Leaf ⊕ (Nat × List Leaf)))) (wrapJ hl1))
 ·exact Imp.ret rfl
noncomputable def iLeavePage (t : TTab) : Option TTab :=
 (icopyTab t).bind fun (r1 : TTab) =>
 (ihasPresent t).bind fun (r3 : Bool) =>
 br r3 (
 (getI t.xVisits t.xAt).bind fun (e4 : TVisit) =>
 (iCanKeep e4.xPage).bind fun (r5 : Bool) =>
 br (!r5) (
 (iGiveUp r1 t.xAt).bind fun (r6 : TTab) =>
 (whileE (fun (s8 : Int × TTab) => (
 br (decide (s8.1 < (s8.2.xVisits.length : Int))) (
 (iKeptCount s8.2).bind fun (r9 : Int) =>
 br (decide (r9 > 3)) (
 chk (0 ≤ s8.1 ∧ s8.1.toNat < s8.2.xVisits.length) <|
 (getI s8.2.xVisits s8.1).bind fun (e10 : TVisit) =>
 br e10.xKept (
 br (s8.1 != s8.2.xAt) (
 (iGiveUp s8.2 s8.1).bind fun (r11 : TTab) =>
 some (.inl ((IntKind.wrap .i64 (s8.1 + 1)), r11))
 ) (
 some (.inl ((IntKind.wrap .i64 (s8.1 + 1)), s8.2))
 )
 ) (
 some (.inl ((IntKind.wrap .i64 (s8.1 + 1)), s8.2))
 )
 ) (
 some (.inr s8.2)
 )
 ) (
 some (.inr s8.2)
 )
 : Option ((Int × TTab) ⊕ TTab))) ((0, r6) : Int × TTab)).bind <|
 fun (r13 : TTab) =>
 some r13
 ) (
 (whileE (fun (s14 : Int × TTab) => (
 br (decide (s14.1 < (s14.2.xVisits.length : Int))) (
 (iKeptCount s14.2).bind fun (r15 : Int) =>
 br (decide (r15 > 3)) (
 chk (0 ≤ s14.1 ∧ s14.1.toNat < s14.2.xVisits.length) <|
 (getI s14.2.xVisits s14.1).bind fun (e16 : TVisit) =>
 br e16.xKept (
 br (s14.1 != s14.2.xAt) (
 (iGiveUp s14.2 s14.1).bind fun (r17 : TTab) =>
 some (.inl ((IntKind.wrap .i64 (s14.1 + 1)), r17))
 ) (
 some (.inl ((IntKind.wrap .i64 (s14.1 + 1)), s14.2))
 )
 ) (
 some (.inl ((IntKind.wrap .i64 (s14.1 + 1)), s14.2))
 )
 ) (
 some (.inr s14.2)
 )
 ) (
 some (.inr s14.2)
 )
 : Option ((Int × TTab) ⊕ TTab))) ((0, r1) : Int × TTab)).bind <|
 fun (r19 : TTab) =>
 some r19
 )
 ) (
 (whileE (fun (s20 : Int × TTab) => (
 br (decide (s20.1 < (s20.2.xVisits.length : Int))) (
 (iKeptCount s20.2).bind fun (r21 : Int) =>
 br (decide (r21 > 3)) (
 chk (0 ≤ s20.1 ∧ s20.1.toNat < s20.2.xVisits.length) <|
 (getI s20.2.xVisits s20.1).bind fun (e22 : TVisit) =>
 br e22.xKept (
 br (s20.1 != s20.2.xAt) (
 (iGiveUp s20.2 s20.1).bind fun (r23 : TTab) =>
 some (.inl ((IntKind.wrap .i64 (s20.1 + 1)), r23))
 ) (
 some (.inl ((IntKind.wrap .i64 (s20.1 + 1)), s20.2))
 )
 ) (
 some (.inl ((IntKind.wrap .i64 (s20.1 + 1)), s20.2))
 )
 ) (
 some (.inr s20.2)
 )
 ) (
 some (.inr s20.2)
 )
 : Option ((Int × TTab) ⊕ TTab))) ((0, r1) : Int × TTab)).bind <|
 fun (r25 : TTab) =>
 some r25
 )
theorem ei_iLeavePage (t : TTab) (k : List V → Int → Option β) : Imp (F19 β (rows kVisit TVisit.row t.xVisits) t.xAt k) (iLeavePage t) (fun r => k (rows kVisit TVisit.row r.xVisits) r.xAt) := by
 delta F19 P19 iLeavePage
 refine Imp.call rfl (ei_icopyTab t _) (fun r1 _ => ?_)
 refine Imp.call rfl (ei_ihasPresent t _) (fun r3 _ => ?_)
 refine Imp.br rfl ?_ ?_
 ·refine Imp.idx (ks := kVisit) (g := TVisit.row) rfl rfl (fun e4 _ => ?_)
  refine Imp.call rfl (ei_iCanKeep e4.xPage _) (fun r5 _ => ?_)
  refine Imp.br rfl ?_ ?_
  ·refine Imp.call rfl (ei_iGiveUp r1 t.xAt _) (fun r6 _ => ?_)
   refine Imp.while (enc := fun (s8 : Int × TTab) => [.i s8.1, .i 0, .l (rows kVisit TVisit.row s8.2.xVisits), .i s8.2.xAt]) (encR := fun (u : TTab) => (((0, [.i 0, .l (rows kVisit TVisit.row u.xVisits), .i u.xAt]) : Nat × List Leaf))) rfl (fun s8 => ?_) (fun r13 => ?_)
   ·refine Imp.br (c1 (fun z0 : Nat => (decide (s8.1 < (z0 : Int)))) (T_len (ks := kVisit) (g := TVisit.row) s8.2.xVisits)) ?_ ?_
    ·refine Imp.call rfl (ei_iKeptCount s8.2 _) (fun r9 _ => ?_)
     refine Imp.br rfl ?_ ?_
     ·refine Imp.chk (c1 (fun z0 : Nat => 0 ≤ s8.1 ∧ s8.1.toNat < z0) (T_len (ks := kVisit) (g := TVisit.row) s8.2.xVisits)) (fun _ => ?_)
      refine Imp.idxAt (ks := kVisit) (g := TVisit.row) rfl rfl (fun e10 => rfl) (fun e10 _ => ?_)
      refine Imp.br rfl ?_ ?_
      ·refine Imp.br rfl ?_ ?_
       ·refine Imp.call rfl (ei_iGiveUp s8.2 s8.1 _) (fun r11 _ => ?_)
        exact Imp.ret rfl
       ·exact Imp.ret rfl
      ·exact Imp.ret rfl
     ·exact Imp.ret rfl
    ·exact Imp.ret rfl
   ·exact Imp.ret rfl
  ·refine Imp.while (enc := fun (s14 : Int × TTab) => [.i s14.1, .i 0, .l (rows kVisit TVisit.row s14.2.xVisits), .i s14.2.xAt]) (encR := fun (u : TTab) => (((0, [.i 0, .l (rows kVisit TVisit.row u.xVisits), .i u.xAt]) : Nat × List Leaf))) rfl (fun s14 => ?_) (fun r19 => ?_)
   ·refine Imp.br (c1 (fun z0 : Nat => (decide (s14.1 < (z0 : Int)))) (T_len (ks := kVisit) (g := TVisit.row) s14.2.xVisits)) ?_ ?_
    ·refine Imp.call rfl (ei_iKeptCount s14.2 _) (fun r15 _ => ?_)
     refine Imp.br rfl ?_ ?_
     ·refine Imp.chk (c1 (fun z0 : Nat => 0 ≤ s14.1 ∧ s14.1.toNat < z0) (T_len (ks := kVisit) (g := TVisit.row) s14.2.xVisits)) (fun _ => ?_)
      refine Imp.idxAt (ks := kVisit) (g := TVisit.row) rfl rfl (fun e16 => rfl) (fun e16 _ => ?_)
      refine Imp.br rfl ?_ ?_
      ·refine Imp.br rfl ?_ ?_
       ·refine Imp.call rfl (ei_iGiveUp s14.2 s14.1 _) (fun r17 _ => ?_)
        exact Imp.ret rfl
       ·exact Imp.ret rfl
      ·exact Imp.ret rfl
     ·exact Imp.ret rfl
    ·exact Imp.ret rfl
   ·exact Imp.ret rfl
 ·refine Imp.while (enc := fun (s20 : Int × TTab) => [.i s20.1, .i 0, .l (rows kVisit TVisit.row s20.2.xVisits), .i s20.2.xAt]) (encR := fun (u : TTab) => (((0, [.i 0, .l (rows kVisit TVisit.row u.xVisits), .i u.xAt]) : Nat × List Leaf))) rfl (fun s20 => ?_) (fun r25 => ?_)
  ·refine Imp.br (c1 (fun z0 : Nat => (decide (s20.1 < (z0 : Int)))) (T_len (ks := kVisit) (g := TVisit.row) s20.2.xVisits)) ?_ ?_
   ·refine Imp.call rfl (ei_iKeptCount s20.2 _) (fun r21 _ => ?_)
    refine Imp.br rfl ?_ ?_
    ·refine Imp.chk (c1 (fun z0 : Nat => 0 ≤ s20.1 ∧ s20.1.toNat < z0) (T_len (ks := kVisit) (g := TVisit.row) s20.2.xVisits)) (fun _ => ?_)
     refine Imp.idxAt (ks := kVisit) (g := TVisit.row) rfl rfl (fun e22 => rfl) (fun e22 _ => ?_)
     refine Imp.br rfl ?_ ?_
     ·refine Imp.br rfl ?_ ?_
      ·refine Imp.call rfl (ei_iGiveUp s20.2 s20.1 _) (fun r23 _ => ?_)
       exact Imp.ret rfl
      ·exact Imp.ret rfl
     ·exact Imp.ret rfl
    ·exact Imp.ret rfl
   ·exact Imp.ret rfl
  ·exact Imp.ret rfl
noncomputable def lmarkText (xk : Int) : Option (List UInt8) :=
 br (decide (xk ≤ 0)) (
 some [109, 48]
 ) (
 (whileE (fun (s1 : Int × (List UInt8)) => (
 br (decide (s1.1 > 0)) (
 chk ((strI [(IntKind.wrap .u8 (IntKind.wrap .i64 (48 + (Int.tmod s1.1 10))))]).length + s1.2.length ≤ 9223372036854775807) <|
 some (.inl ((IntKind.wrap .i64 (Int.tdiv s1.1 10)), ((strI [(IntKind.wrap .u8 (IntKind.wrap .i64 (48 + (Int.tmod s1.1 10))))]) ++ s1.2)))
 ) (
 some (.inr s1.2)
 )
 : Option ((Int × (List UInt8)) ⊕ (List UInt8)))) ((xk, []) : Int × (List UInt8))).bind <|
 fun (r3 : List UInt8) =>
 chk (1 + r3.length ≤ 9223372036854775807) <|
 some ([109] ++ r3)
 )
theorem ei_lmarkText (xk : Int) (k : List UInt8 → Option β) : Imp (F97 β xk k) (lmarkText xk) (fun r => k r) := by
 delta F97 P97 lmarkText
 refine Imp.br rfl ?_ ?_
 ·exact Imp.ret rfl
 ·refine Imp.while (enc := fun (s1 : Int × (List UInt8)) => [.i s1.1, .s s1.2]) (encR := fun (u : List UInt8) => (((0, [.s u]) : Nat × List Leaf))) rfl (fun s1 => ?_) (fun r3 => ?_)
  ·refine Imp.br rfl ?_ ?_
   ·refine Imp.strO (l := [(IntKind.wrap .u8 (IntKind.wrap .i64 (48 + (Int.tmod s1.1 10))))]) rfl ?_
    refine Imp.chk rfl (fun _ => ?_)
    exact Imp.ret rfl
   ·exact Imp.ret rfl
  ·refine Imp.chk rfl (fun _ => ?_)
   exact Imp.ret rfl
end Go.Am
end
section
set_option linter.unusedVariables false
set_option linter.unusedSimpArgs false
namespace Go.Am
open Go
section
variable {α γ T σ ρ : Type}
def Ok (x : Option α) (Q : α → Prop) : Prop := ∃ r, x = some r ∧ Q r
theorem Ok.ret {r : α} {Q : α → Prop} (h : Q r) : Ok (some r) Q := ⟨r, rfl, h⟩
theorem Ok.bind {x : Option α} {f : α → Option γ} {Q1 : α → Prop} {Q : γ → Prop} (h : Ok x Q1) (h2 : ∀ r, x = some r → Q1 r → Ok (f r) Q) : Ok (x.bind f) Q := by
 obtain ⟨r, h1, h3⟩ := h
 subst h1
 exact h2 r rfl h3
theorem Ok.br {b : Bool} {x y : Option α} {Q : α → Prop} (h1 : b = true → Ok x Q) (h2 : b = false → Ok y Q) : Ok (Go.Am.br b x y) Q := by
 cases b
 ·exact h2 rfl
 ·exact h1 rfl
theorem Ok.chk {p : Prop} {d : Decidable p} {x : Option α} {Q : α → Prop} (hp : p) (h : Ok x Q) : Ok (@Go.Am.chk α p d x) Q := by
 obtain ⟨r, h1, h2⟩ := h
 exact ⟨r, (if_pos hp).trans h1, h2⟩
theorem Ok.mono {x : Option α} {Q1 Q : α → Prop} (h : Ok x Q1) (h2 : ∀ r, x = some r → Q1 r → Q r) : Ok x Q := by
 obtain ⟨r, h1, h3⟩ := h
 exact ⟨r, h1, h2 r h1 h3⟩
theorem Ok.of {x : Option α} {r : α} {Q : α → Prop} (h : x = some r) (hq : Q r) : Ok x Q := ⟨r, h, hq⟩
theorem Ok.getI {l : List T} {n : Int} (h0 : 0 ≤ n) (h1 : n.toNat < l.length) : Ok (Go.Am.getI l n) (fun x => l[n.toNat]? = some x ∧ x ∈ l) := by
 refine ⟨l[n.toNat], ?_, ?_, List.getElem_mem h1⟩
 ·unfold Go.Am.getI
  rw [if_pos h0, List.getElem?_eq_getElem h1]
 ·exact List.getElem?_eq_getElem h1
theorem Ok.getS {l : List UInt8} {n : Int} (h0 : 0 ≤ n) (h1 : n.toNat < l.length) : Ok (Go.Am.getS l n) (fun x => ∃ b, l[n.toNat]? = some b ∧ x = (b.toNat : Int)) := by
 refine ⟨(l[n.toNat].toNat : Int), ?_, l[n.toNat], List.getElem?_eq_getElem h1, rfl⟩
 unfold Go.Am.getS
 rw [if_pos h0, List.getElem?_eq_getElem h1]
 rfl
theorem forA_ok {body : Nat → T → σ → Option (σ ⊕ ρ)} {fin : σ → ρ} {l : List T} {Q : ρ → Prop} (Inv : Nat → σ → Prop)
  (hb : ∀ i x s, l[i]? = some x → Inv i s → Ok (body i x s) (fun z => match z with
   | .inl s' => Inv (i + 1) s'
   | .inr r => Q r)) (hf : ∀ s, Inv l.length s → Q (fin s)) : ∀ (zs : List T) (i : Nat) (s : σ), l.drop i = zs → i ≤ l.length → Inv i s → Ok (forA body fin i zs s) Q := by
 intro zs
 induction zs with
 | nil =>
  intro i s hd hi hs
  have : i = l.length := by
   have := List.drop_eq_nil_iff.1 hd
   omega
  subst this
  exact ⟨_, rfl, hf s hs⟩
 | cons x zs ih =>
  intro i s hd hi hs
  have hx : l[i]? = some x := by
   have := congrArg (fun l => l[0]?) hd
   simpa using this
  have hlt := (List.getElem?_eq_some_iff.1 hx).1
  have hd' : l.drop (i + 1) = zs := by rw [← List.tail_drop, hd]; rfl
  obtain ⟨z, h1, h2⟩ := hb i x s hx hs
  rw [forA, h1]
  cases z with
  | inl s' => exact ih (i + 1) s' hd' (by omega) h2
  | inr r => exact ⟨r, rfl, h2⟩
theorem Ok.for {body : Nat → T → σ → Option (σ ⊕ ρ)} {fin : σ → ρ} {l : List T} {s0 : σ} {Q : ρ → Prop} (hl : l.length ≤ maxLen) (Inv : Nat → σ → Prop) (h0 : Inv 0 s0)
  (hb : ∀ i x s, l[i]? = some x → Inv i s → Ok (body i x s) (fun z => match z with
   | .inl s' => Inv (i + 1) s'
   | .inr r => Q r)) (hf : ∀ s, Inv l.length s → Q (fin s)) : Ok (forE l body fin s0) Q := by
 unfold forE
 rw [if_pos hl]
 exact forA_ok Inv hb hf l 0 s0 rfl (Nat.zero_le _) h0
theorem Ok.while {body : σ → Option (σ ⊕ ρ)} {s0 : σ} {Q : ρ → Prop} (Inv : σ → Prop) (m : σ → Nat) (h0 : Inv s0)
  (hb : ∀ s, Inv s → Ok (body s) (fun z => match z with
   | .inl s' => Inv s' ∧ m s' < m s
   | .inr r => Q r)) : Ok (whileE body s0) Q := by
 have key : ∀ (n : Nat) (s : σ), m s < n → Inv s → Ok (whileE body s) Q := by
  intro n
  induction n with
  | zero => intro s h; omega
  | succ n ih =>
   intro s hm hs
   obtain ⟨z, h1, h2⟩ := hb s hs
   unfold whileE
   rw [whileInf_step, h1]
   cases z with
   | inl s' => exact ih s' (by have := h2.2; omega) h2.1
   | inr r => exact ⟨r, rfl, h2⟩
 exact key _ s0 (Nat.lt_succ_self _) h0
end
end Go.Am
end
section
set_option linter.unusedVariables false
set_option linter.unusedSimpArgs false
namespace Go.Am
open Go
section
variable {T ρ : Type}
end
end Go.Am
end
section
set_option linter.unusedVariables false
set_option linter.unusedSimpArgs false
namespace Go.Am
open Go
section
variable {β : Type}
end
end Go.Am
end
