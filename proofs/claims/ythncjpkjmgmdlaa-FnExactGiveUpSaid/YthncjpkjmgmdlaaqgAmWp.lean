/-
  Runs of code over real values: a call's slots as a function from numbers to values; what a region and code come to, told operation by operation.
-/
import Derived.Test.YthncjpkjmgmdlaaqgAmTyped
import Derived.Test.YthncjpkjmgmdlaaqgAmCfg
import Derived.Test.YthncjpkjmgmdlaaqgFg
import Derived.Test.YthncjpkjmgmdlaaqgTg
import Derived.Test.YthncjpkjmgmdlaaqgAmDraw
section
set_option maxRecDepth 10000
set_option linter.unusedVariables false
namespace Go.Am
open Go Go.Proofs
variable {β : Type}
noncomputable def sl9Copy (p : TPolicy) : Option TPolicy :=
 chk ((0 + p.xScripts.length) * 16 ≤ 140737488355328 ∧ 0 + p.xScripts.length ≤ 140737488355328) <|
 chk ((0 + p.xStyles.length) * 16 ≤ 140737488355328 ∧ 0 + p.xStyles.length ≤ 140737488355328) <|
 chk ((0 + p.xImages.length) * 16 ≤ 140737488355328 ∧ 0 + p.xImages.length ≤ 140737488355328) <|
 some (⟨p.xSet, ([] ++ p.xScripts), ([] ++ p.xStyles), ([] ++ p.xImages), p.xNonce⟩ : TPolicy)
theorem ei_sl9Copy (p : TPolicy) (k : Bool → List V → List V → List V → List UInt8 → Option β) : Imp (F93 β p.xSet (rStr p.xScripts) (rStr p.xStyles) (rStr p.xImages) p.xNonce k) (sl9Copy p) (fun r => k r.xSet (rStr r.xScripts) (rStr r.xStyles) (rStr r.xImages) r.xNonce) := by
 delta F93 P93 sl9Copy
 refine Imp.chk (c2 (fun z0 z1 : Nat => (0 + z0) * 16 ≤ 140737488355328 ∧ 0 + z1 ≤ 140737488355328) (U_len (T := List UInt8) (kd := .str) (g1 := fun e => e) p.xScripts) (U_len (T := List UInt8) (kd := .str) (g1 := fun e => e) p.xScripts)) (fun _ => ?_)
 refine Imp.chk (c2 (fun z0 z1 : Nat => (0 + z0) * 16 ≤ 140737488355328 ∧ 0 + z1 ≤ 140737488355328) (U_len (T := List UInt8) (kd := .str) (g1 := fun e => e) p.xStyles) (U_len (T := List UInt8) (kd := .str) (g1 := fun e => e) p.xStyles)) (fun _ => ?_)
 refine Imp.chk (c2 (fun z0 z1 : Nat => (0 + z0) * 16 ≤ 140737488355328 ∧ 0 + z1 ≤ 140737488355328) (U_len (T := List UInt8) (kd := .str) (g1 := fun e => e) p.xImages) (U_len (T := List UInt8) (kd := .str) (g1 := fun e => e) p.xImages)) (fun _ => ?_)
 exact Imp.ret (c3 (fun (h1 : List V) (h2 : List V) (h3 : List V) => k p.xSet h1 h2 h3 p.xNonce) (U_app (T := List UInt8) (kd := .str) (g1 := fun e => e) [] p.xScripts) (U_app (T := List UInt8) (kd := .str) (g1 := fun e => e) [] p.xStyles) (U_app (T := List UInt8) (kd := .str) (g1 := fun e => e) [] p.xImages))
noncomputable def sl6Attrs (l : List TAttr) : Option (List TAttr) :=
 chk ((0 + l.length) * 32 ≤ 140737488355328 ∧ 0 + l.length ≤ 140737488355328) <|
 some ([] ++ l)
theorem ei_sl6Attrs (l : List TAttr) (k : List V → Option β) : Imp (F133 β (rows kAttr TAttr.row l) k) (sl6Attrs l) (fun r => k (rows kAttr TAttr.row r)) := by
 delta F133 P133 sl6Attrs
 refine Imp.chk (c2 (fun z0 z1 : Nat => (0 + z0) * 32 ≤ 140737488355328 ∧ 0 + z1 ≤ 140737488355328) (T_len (ks := kAttr) (g := TAttr.row) l) (T_len (ks := kAttr) (g := TAttr.row) l)) (fun _ => ?_)
 exact Imp.ret (c1 (fun (h1 : List V) => k h1) (T_app (ks := kAttr) (g := TAttr.row) [] l))
noncomputable def sl15Tokens (l : List TToken) : Option (List TToken) :=
 (forE l (fun (i_1 : Nat) (x_1 : TToken) (s1 : List TToken) => (
  (sl6Attrs x_1.xAttrs).bind fun (r4 : List TAttr) =>
  chk ((s1.length + 1) * 64 ≤ 140737488355328 ∧ s1.length + 1 ≤ 140737488355328) <|
  some (.inl (s1 ++ [{ x_1 with xAttrs := r4 }]))
 : Option ((List TToken) ⊕ (List TToken)))) (fun (s1 : List TToken) => (s1 : List TToken)) ([] : List TToken)).bind <|
 fun (r5 : List TToken) =>
 some r5
theorem ei_sl15Tokens (l : List TToken) (k : List V → Option β) : Imp (F94 β (rows kToken TToken.row l) k) (sl15Tokens l) (fun r => k (rows kToken TToken.row r)) := by
 delta F94 P94 sl15Tokens
 refine Imp.for (enc := fun (i_1 : Nat) (s1 : List TToken) => [.l (rows kToken TToken.row l), .l (rows kToken TToken.row s1), .i (i_1 : Int)]) (encR := fun (u : List TToken) => (((0, [.l (rows kToken TToken.row u)]) : Nat × List Leaf))) rfl (fun i_1 x_1 s1 hx1 hl1 hm1 => Imp.brT (T_lt (ks := kToken) (g := TToken.row) hl1) ?_) (fun s1 => brN (T_irr (ks := kToken) (g := TToken.row) l) rfl) (fun r5 => ?_)
 ·refine Imp.idxFor (ks := kToken) (g := TToken.row) hx1 ?_
  refine Imp.idxFor (ks := kToken) (g := TToken.row) hx1 ?_
  refine Imp.call rfl (ei_sl6Attrs x_1.xAttrs _) (fun r4 _ => ?_)
  refine Imp.chk (c2 (fun z0 z1 : Nat => (z0 + 1) * 64 ≤ 140737488355328 ∧ z1 + 1 ≤ 140737488355328) (T_len (ks := kToken) (g := TToken.row) s1) (T_len (ks := kToken) (g := TToken.row) s1)) (fun _ => ?_)
  exact Imp.ret (c2 (fun (h1 : List V) (h2 : Int) => (some (Sum.inl [.l (rows kToken TToken.row l), .l h1, .i h2]) : Option (List Leaf ⊕ (Nat × List Leaf)))) (T_app (ks := kToken) (g := TToken.row) s1 [{ x_1 with xAttrs := r4 }]) (wrapJ hl1))
 ·exact Imp.ret rfl
noncomputable def sl6Copy (b : TBuilder) : Option TBuilder :=
 chk ((0 + b.xOpen.length) * 8 ≤ 140737488355328 ∧ 0 + b.xOpen.length ≤ 140737488355328) <|
 (forE b.xNodes (fun (i_1 : Nat) (x_1 : TNode) (s1 : List TNode) => (
  (sl6Attrs x_1.xAttrs).bind fun (r4 : List TAttr) =>
  chk ((s1.length + 1) * 64 ≤ 140737488355328 ∧ s1.length + 1 ≤ 140737488355328) <|
  some (.inl (s1 ++ [{ x_1 with xAttrs := r4 }]))
 : Option ((List TNode) ⊕ (List TNode)))) (fun (s1 : List TNode) => (s1 : List TNode)) ([] : List TNode)).bind <|
 fun (r5 : List TNode) =>
 some (⟨r5, ([] ++ b.xOpen)⟩ : TBuilder)
theorem ei_sl6Copy (b : TBuilder) (k : List V → List V → Option β) : Imp (F95 β (rows kNode TNode.row b.xNodes) (rInt b.xOpen) k) (sl6Copy b) (fun r => k (rows kNode TNode.row r.xNodes) (rInt r.xOpen)) := by
 delta F95 P95 sl6Copy
 refine Imp.chk (c2 (fun z0 z1 : Nat => (0 + z0) * 8 ≤ 140737488355328 ∧ 0 + z1 ≤ 140737488355328) (U_len (T := Int) (kd := (.int .i64)) (g1 := fun e => e) b.xOpen) (U_len (T := Int) (kd := (.int .i64)) (g1 := fun e => e) b.xOpen)) (fun _ => ?_)
 refine Imp.for (enc := fun (i_1 : Nat) (s1 : List TNode) => [.i (i_1 : Int), .l (rows kNode TNode.row b.xNodes), .l (rInt b.xOpen), .l (rows kNode TNode.row s1), .l (rInt ([] ++ b.xOpen))]) (encR := fun (u : List TNode) => (((0, [.l (rows kNode TNode.row u), .l (rInt ([] ++ b.xOpen))]) : Nat × List Leaf))) (c1 (fun (h1 : List V) => ([.i 0, .l (rows kNode TNode.row b.xNodes), .l (rInt b.xOpen), .l (rows kNode TNode.row []), .l h1] : List Leaf)) (U_app (T := Int) (kd := (.int .i64)) (g1 := fun e => e) [] b.xOpen)) (fun i_1 x_1 s1 hx1 hl1 hm1 => Imp.brT (T_lt (ks := kNode) (g := TNode.row) hl1) ?_) (fun s1 => brN (T_irr (ks := kNode) (g := TNode.row) b.xNodes) rfl) (fun r5 => ?_)
 ·refine Imp.idxFor (ks := kNode) (g := TNode.row) hx1 ?_
  refine Imp.idxFor (ks := kNode) (g := TNode.row) hx1 ?_
  refine Imp.call rfl (ei_sl6Attrs x_1.xAttrs _) (fun r4 _ => ?_)
  refine Imp.chk (c2 (fun z0 z1 : Nat => (z0 + 1) * 64 ≤ 140737488355328 ∧ z1 + 1 ≤ 140737488355328) (T_len (ks := kNode) (g := TNode.row) s1) (T_len (ks := kNode) (g := TNode.row) s1)) (fun _ => ?_)
  exact Imp.ret (c2 (fun (h1 : Int) (h2 : List V) => (some (Sum.inl [.i h1, .l (rows kNode TNode.row b.xNodes), .l (rInt b.xOpen), .l h2, .l (rInt ([] ++ b.xOpen))]) : Option (List Leaf ⊕ (Nat × List Leaf)))) (wrapJ hl1) (T_app (ks := kNode) (g := TNode.row) s1 [{ x_1 with xAttrs := r4 }]))
 ·exact Imp.ret rfl
noncomputable def sl15Copy (p : TPage) : Option TPage :=
 (sl9Copy p.xPolicy).bind fun (r1 : TPolicy) =>
 (sl15Tokens p.xQueue).bind fun (r6 : List TToken) =>
 (sl6Copy p.xBuilder).bind fun (r7 : TBuilder) =>
 chk ((0 + p.xSlots.length) * 96 ≤ 140737488355328 ∧ 0 + p.xSlots.length ≤ 140737488355328) <|
 chk ((0 + p.xMods.length) * 64 ≤ 140737488355328 ∧ 0 + p.xMods.length ≤ 140737488355328) <|
 chk ((0 + p.xEntries.length) * 32 ≤ 140737488355328 ∧ 0 + p.xEntries.length ≤ 140737488355328) <|
 chk ((0 + p.xRan.length) * 32 ≤ 140737488355328 ∧ 0 + p.xRan.length ≤ 140737488355328) <|
 chk ((0 + p.xLog.length) * 16 ≤ 140737488355328 ∧ 0 + p.xLog.length ≤ 140737488355328) <|
 some { p with xPolicy := r1, xQueue := r6, xBuilder := r7, xSlots := ([] ++ p.xSlots), xMods := ([] ++ p.xMods), xEntries := ([] ++ p.xEntries), xRan := ([] ++ p.xRan), xLog := ([] ++ p.xLog) }
theorem ei_sl15Copy (p : TPage) (k : List UInt8 → List UInt8 → Bool → List V → List V → List V → List UInt8 → List UInt8 → List V → Bool → List V → List V → List V → List V → List V → Int → Int → Int → Int → List V → List V → Bool → Option β) : Imp (F56 β p.xAddr.xHost p.xAddr.xPath p.xPolicy.xSet (rStr p.xPolicy.xScripts) (rStr p.xPolicy.xStyles) (rStr p.xPolicy.xImages) p.xPolicy.xNonce p.xTok.xRest (rows kToken TToken.row p.xQueue) p.xEnded (rows kNode TNode.row p.xBuilder.xNodes) (rInt p.xBuilder.xOpen) (rows kSlot TSlot.row p.xSlots) (rows kModule TModule.row p.xMods) (rows kAddr TAddr.row p.xEntries) p.xBlock p.xInline p.xDeferred p.xEntered (rows kAddr TAddr.row p.xRan) (rStr p.xLog) p.xLoaded k) (sl15Copy p) (fun r => k r.xAddr.xHost r.xAddr.xPath r.xPolicy.xSet (rStr r.xPolicy.xScripts) (rStr r.xPolicy.xStyles) (rStr r.xPolicy.xImages) r.xPolicy.xNonce r.xTok.xRest (rows kToken TToken.row r.xQueue) r.xEnded (rows kNode TNode.row r.xBuilder.xNodes) (rInt r.xBuilder.xOpen) (rows kSlot TSlot.row r.xSlots) (rows kModule TModule.row r.xMods) (rows kAddr TAddr.row r.xEntries) r.xBlock r.xInline r.xDeferred r.xEntered (rows kAddr TAddr.row r.xRan) (rStr r.xLog) r.xLoaded) := by
 delta F56 P56 sl15Copy
 refine Imp.call rfl (ei_sl9Copy p.xPolicy _) (fun r1 _ => ?_)
 refine Imp.call rfl (ei_sl15Tokens p.xQueue _) (fun r6 _ => ?_)
 refine Imp.call rfl (ei_sl6Copy p.xBuilder _) (fun r7 _ => ?_)
 refine Imp.chk (c2 (fun z0 z1 : Nat => (0 + z0) * 96 ≤ 140737488355328 ∧ 0 + z1 ≤ 140737488355328) (T_len (ks := kSlot) (g := TSlot.row) p.xSlots) (T_len (ks := kSlot) (g := TSlot.row) p.xSlots)) (fun _ => ?_)
 refine Imp.chk (c2 (fun z0 z1 : Nat => (0 + z0) * 64 ≤ 140737488355328 ∧ 0 + z1 ≤ 140737488355328) (T_len (ks := kModule) (g := TModule.row) p.xMods) (T_len (ks := kModule) (g := TModule.row) p.xMods)) (fun _ => ?_)
 refine Imp.chk (c2 (fun z0 z1 : Nat => (0 + z0) * 32 ≤ 140737488355328 ∧ 0 + z1 ≤ 140737488355328) (T_len (ks := kAddr) (g := TAddr.row) p.xEntries) (T_len (ks := kAddr) (g := TAddr.row) p.xEntries)) (fun _ => ?_)
 refine Imp.chk (c2 (fun z0 z1 : Nat => (0 + z0) * 32 ≤ 140737488355328 ∧ 0 + z1 ≤ 140737488355328) (T_len (ks := kAddr) (g := TAddr.row) p.xRan) (T_len (ks := kAddr) (g := TAddr.row) p.xRan)) (fun _ => ?_)
 refine Imp.chk (c2 (fun z0 z1 : Nat => (0 + z0) * 16 ≤ 140737488355328 ∧ 0 + z1 ≤ 140737488355328) (U_len (T := List UInt8) (kd := .str) (g1 := fun e => e) p.xLog) (U_len (T := List UInt8) (kd := .str) (g1 := fun e => e) p.xLog)) (fun _ => ?_)
 exact Imp.ret (c5 (fun (h1 : List V) (h2 : List V) (h3 : List V) (h4 : List V) (h5 : List V) => k p.xAddr.xHost p.xAddr.xPath r1.xSet (rStr r1.xScripts) (rStr r1.xStyles) (rStr r1.xImages) r1.xNonce p.xTok.xRest (rows kToken TToken.row r6) p.xEnded (rows kNode TNode.row r7.xNodes) (rInt r7.xOpen) h1 h2 h3 p.xBlock p.xInline p.xDeferred p.xEntered h4 h5 p.xLoaded) (T_app (ks := kSlot) (g := TSlot.row) [] p.xSlots) (T_app (ks := kModule) (g := TModule.row) [] p.xMods) (T_app (ks := kAddr) (g := TAddr.row) [] p.xEntries) (T_app (ks := kAddr) (g := TAddr.row) [] p.xRan) (U_app (T := List UInt8) (kd := .str) (g1 := fun e => e) [] p.xLog))
noncomputable def sl31Copy (t : TTab) : Option TTab :=
 (forE t.xVisits (fun (i_1 : Nat) (x_1 : TVisit) (s1 : List TVisit) => (
  (sl15Copy x_1.xPage).bind fun (r4 : TPage) =>
  chk ((s1.length + 1) * 424 ≤ 140737488355328 ∧ s1.length + 1 ≤ 140737488355328) <|
  some (.inl (s1 ++ [{ x_1 with xPage := r4 }]))
 : Option ((List TVisit) ⊕ (List TVisit)))) (fun (s1 : List TVisit) => (s1 : List TVisit)) ([] : List TVisit)).bind <|
 fun (r26 : List TVisit) =>
 some { t with xVisits := r26 }
theorem ei_sl31Copy (t : TTab) (k : List V → Int → Option β) : Imp (F32 β (rows kVisit TVisit.row t.xVisits) t.xAt k) (sl31Copy t) (fun r => k (rows kVisit TVisit.row r.xVisits) r.xAt) := by
 delta F32 P32 sl31Copy
 refine Imp.for (enc := fun (i_1 : Nat) (s1 : List TVisit) => [.i (i_1 : Int), .l (rows kVisit TVisit.row t.xVisits), .i t.xAt, .i 0, .l (rows kVisit TVisit.row s1), .i t.xAt]) (encR := fun (u : List TVisit) => (((0, [.i 0, .l (rows kVisit TVisit.row u), .i t.xAt]) : Nat × List Leaf))) rfl (fun i_1 x_1 s1 hx1 hl1 hm1 => Imp.brT (T_lt (ks := kVisit) (g := TVisit.row) hl1) ?_) (fun s1 => brN (T_irr (ks := kVisit) (g := TVisit.row) t.xVisits) rfl) (fun r26 => ?_)
 ·refine Imp.idxFor (ks := kVisit) (g := TVisit.row) hx1 ?_
  refine Imp.idxFor (ks := kVisit) (g := TVisit.row) hx1 ?_
  refine Imp.call rfl (ei_sl15Copy x_1.xPage _) (fun r4 _ => ?_)
  refine Imp.chk (c2 (fun z0 z1 : Nat => (z0 + 1) * 424 ≤ 140737488355328 ∧ z1 + 1 ≤ 140737488355328) (T_len (ks := kVisit) (g := TVisit.row) s1) (T_len (ks := kVisit) (g := TVisit.row) s1)) (fun _ => ?_)
  exact Imp.ret (c2 (fun (h1 : Int) (h2 : List V) => (some (Sum.inl [.i h1, .l (rows kVisit TVisit.row t.xVisits), .i t.xAt, .i 0, .l h2, .i t.xAt]) : Option (List Leaf ⊕ (Nat × List Leaf)))) (wrapJ hl1) (T_app (ks := kVisit) (g := TVisit.row) s1 [{ x_1 with xPage := r4 }]))
 ·exact Imp.ret rfl
noncomputable def sl1In (x : Int) (least : Int) (most : Int) : Option Bool :=
 br (decide (x ≥ least)) (
 some (decide (x ≤ most))
 ) (
 some false
 )
theorem ei_sl1In (x : Int) (least : Int) (most : Int) (k : Bool → Option β) : Imp (F33 β x least most k) (sl1In x least most) (fun r => k r) := by
 delta F33 P33 sl1In
 refine Imp.br rfl ?_ ?_
 ·exact Imp.ret rfl
 ·exact Imp.ret rfl
noncomputable def sGiveUp (t : TTab) (i : Int) : Option TTab :=
 (sl31Copy t).bind fun (r1 : TTab) =>
 (sl1In i 0 (IntKind.wrap .i64 ((t.xVisits.length : Int) - 1))).bind fun (r3 : Bool) =>
 br (!r3) (
  some r1
 ) (
  chk (0 ≤ i ∧ i.toNat < r1.xVisits.length) <|
  (modI r1.xVisits i (fun (y : TVisit) => { y with xKept := false })).bind fun (l4 : List TVisit) =>
  chk (0 ≤ i ∧ i.toNat < l4.length) <|
  (modI l4 i (fun (y : TVisit) => { y with xPage := (⟨⟨[], []⟩, ⟨false, [], [], [], []⟩, ⟨[]⟩, [], false, ⟨[], []⟩, [], [], [], 0, 0, 0, 0, [], [], false⟩ : TPage) })).bind fun (l5 : List TVisit) =>
  some { r1 with xVisits := l5 }
 )
theorem ei_sGiveUp (t : TTab) (i : Int) (k : List V → Int → Option β) : Imp (F12 β (rows kVisit TVisit.row t.xVisits) t.xAt i k) (sGiveUp t i) (fun r => k (rows kVisit TVisit.row r.xVisits) r.xAt) := by
 delta F12 P12 sGiveUp
 refine Imp.call rfl (ei_sl31Copy t _) (fun r1 _ => ?_)
 refine Imp.call (c1 (fun (w1 : Int) => F33 _ i 0 w1) (c1 (fun z0 : Nat => (IntKind.wrap .i64 ((z0 : Int) - 1))) (T_len (ks := kVisit) (g := TVisit.row) t.xVisits))) (ei_sl1In i 0 (IntKind.wrap .i64 ((t.xVisits.length : Int) - 1)) _) (fun r3 _ => ?_)
 refine Imp.br rfl ?_ ?_
 ·exact Imp.ret rfl
 ·refine Imp.chk (c1 (fun z0 : Nat => 0 ≤ i ∧ i.toNat < z0) (T_len (ks := kVisit) (g := TVisit.row) r1.xVisits)) (fun _ => ?_)
  refine Imp.store (ks := kVisit) (g := TVisit.row) rfl rfl (fun y => by simp only [TVisit.row, cellsEnc, CK.enc]; rfl) (fun l4 _ => ?_)
  refine Imp.chk (c1 (fun z0 : Nat => 0 ≤ i ∧ i.toNat < z0) (T_len (ks := kVisit) (g := TVisit.row) l4)) (fun _ => ?_)
  refine Imp.store (ks := kVisit) (g := TVisit.row) rfl rfl (fun y => by simp only [TVisit.row, cellsEnc, CK.enc]; rfl) (fun l5 _ => ?_)
  exact Imp.ret rfl
noncomputable def icopyPolicy (p : TPolicy) : Option TPolicy :=
 chk ((0 + p.xScripts.length) * 16 ≤ 140737488355328 ∧ 0 + p.xScripts.length ≤ 140737488355328) <|
 chk ((0 + p.xStyles.length) * 16 ≤ 140737488355328 ∧ 0 + p.xStyles.length ≤ 140737488355328) <|
 chk ((0 + p.xImages.length) * 16 ≤ 140737488355328 ∧ 0 + p.xImages.length ≤ 140737488355328) <|
 some (⟨p.xSet, ([] ++ p.xScripts), ([] ++ p.xStyles), ([] ++ p.xImages), p.xNonce⟩ : TPolicy)
theorem ei_icopyPolicy (p : TPolicy) (k : Bool → List V → List V → List V → List UInt8 → Option β) : Imp (F98 β p.xSet (rStr p.xScripts) (rStr p.xStyles) (rStr p.xImages) p.xNonce k) (icopyPolicy p) (fun r => k r.xSet (rStr r.xScripts) (rStr r.xStyles) (rStr r.xImages) r.xNonce) := by
 delta F98 P98 icopyPolicy
 refine Imp.chk (c2 (fun z0 z1 : Nat => (0 + z0) * 16 ≤ 140737488355328 ∧ 0 + z1 ≤ 140737488355328) (U_len (T := List UInt8) (kd := .str) (g1 := fun e => e) p.xScripts) (U_len (T := List UInt8) (kd := .str) (g1 := fun e => e) p.xScripts)) (fun _ => ?_)
 refine Imp.chk (c2 (fun z0 z1 : Nat => (0 + z0) * 16 ≤ 140737488355328 ∧ 0 + z1 ≤ 140737488355328) (U_len (T := List UInt8) (kd := .str) (g1 := fun e => e) p.xStyles) (U_len (T := List UInt8) (kd := .str) (g1 := fun e => e) p.xStyles)) (fun _ => ?_)
 refine Imp.chk (c2 (fun z0 z1 : Nat => (0 + z0) * 16 ≤ 140737488355328 ∧ 0 + z1 ≤ 140737488355328) (U_len (T := List UInt8) (kd := .str) (g1 := fun e => e) p.xImages) (U_len (T := List UInt8) (kd := .str) (g1 := fun e => e) p.xImages)) (fun _ => ?_)
 exact Imp.ret (c3 (fun (h1 : List V) (h2 : List V) (h3 : List V) => k p.xSet h1 h2 h3 p.xNonce) (U_app (T := List UInt8) (kd := .str) (g1 := fun e => e) [] p.xScripts) (U_app (T := List UInt8) (kd := .str) (g1 := fun e => e) [] p.xStyles) (U_app (T := List UInt8) (kd := .str) (g1 := fun e => e) [] p.xImages))
noncomputable def icopyToken (t : TToken) : Option TToken :=
 chk ((0 + t.xAttrs.length) * 32 ≤ 140737488355328 ∧ 0 + t.xAttrs.length ≤ 140737488355328) <|
 some { t with xAttrs := ([] ++ t.xAttrs) }
theorem ei_icopyToken (t : TToken) (k : Int → List UInt8 → List V → List UInt8 → Option β) : Imp (F142 β t.xKind t.xName (rows kAttr TAttr.row t.xAttrs) t.xText k) (icopyToken t) (fun r => k r.xKind r.xName (rows kAttr TAttr.row r.xAttrs) r.xText) := by
 delta F142 P142 icopyToken
 refine Imp.chk (c2 (fun z0 z1 : Nat => (0 + z0) * 32 ≤ 140737488355328 ∧ 0 + z1 ≤ 140737488355328) (T_len (ks := kAttr) (g := TAttr.row) t.xAttrs) (T_len (ks := kAttr) (g := TAttr.row) t.xAttrs)) (fun _ => ?_)
 exact Imp.ret (c1 (fun (h1 : List V) => k t.xKind t.xName h1 t.xText) (T_app (ks := kAttr) (g := TAttr.row) [] t.xAttrs))
noncomputable def icopyTokens (l : List TToken) : Option (List TToken) :=
 (forE l (fun (i_1 : Nat) (x_1 : TToken) (s1 : List TToken) => (
 (icopyToken x_1).bind fun (r3 : TToken) =>
 chk ((s1.length + 1) * 64 ≤ 140737488355328 ∧ s1.length + 1 ≤ 140737488355328) <|
 some (.inl (s1 ++ [r3]))
 : Option ((List TToken) ⊕ (List TToken)))) (fun (s1 : List TToken) => (s1 : List TToken)) ([] : List TToken)).bind <|
 fun (r7 : List TToken) =>
 some r7
theorem ei_icopyTokens (l : List TToken) (k : List V → Option β) : Imp (F99 β (rows kToken TToken.row l) k) (icopyTokens l) (fun r => k (rows kToken TToken.row r)) := by
 delta F99 P99 icopyTokens
 refine Imp.for (enc := fun (i_1 : Nat) (s1 : List TToken) => [.l (rows kToken TToken.row s1), .l (rows kToken TToken.row l), .i (l.length : Int), .i (i_1 : Int)]) (encR := fun (u : List TToken) => (((0, [.l (rows kToken TToken.row u)]) : Nat × List Leaf))) (c1 (fun (h1 : Int) => ([.l (rows kToken TToken.row []), .l (rows kToken TToken.row l), .i h1, .i 0] : List Leaf)) (c1 (fun z0 : Nat => (z0 : Int)) (T_len (ks := kToken) (g := TToken.row) l))) (fun i_1 x_1 s1 hx1 hl1 hm1 => Imp.brT (Int.ofNat_lt.2 hl1) ?_) (fun s1 => brN (Int.lt_irrefl _) rfl) (fun r7 => ?_)
 ·refine Imp.idxFor (ks := kToken) (g := TToken.row) hx1 ?_
  refine Imp.call rfl (ei_icopyToken x_1 _) (fun r3 _ => ?_)
  refine Imp.chk (c2 (fun z0 z1 : Nat => (z0 + 1) * 64 ≤ 140737488355328 ∧ z1 + 1 ≤ 140737488355328) (T_len (ks := kToken) (g := TToken.row) s1) (T_len (ks := kToken) (g := TToken.row) s1)) (fun _ => ?_)
  exact Imp.ret (c2 (fun (h1 : List V) (h2 : Int) => (some (Sum.inl [.l h1, .l (rows kToken TToken.row l), .i (l.length : Int), .i h2]) : Option (List Leaf ⊕ (Nat × List Leaf)))) (T_app (ks := kToken) (g := TToken.row) s1 [r3]) (wrapJ hl1))
 ·exact Imp.ret rfl
noncomputable def icopyBuilder (b : TBuilder) : Option TBuilder :=
 chk ((0 + b.xOpen.length) * 8 ≤ 140737488355328 ∧ 0 + b.xOpen.length ≤ 140737488355328) <|
 (forE b.xNodes (fun (i_1 : Nat) (x_1 : TNode) (s1 : List TNode) => (
  chk ((0 + x_1.xAttrs.length) * 32 ≤ 140737488355328 ∧ 0 + x_1.xAttrs.length ≤ 140737488355328) <|
  chk ((s1.length + 1) * 64 ≤ 140737488355328 ∧ s1.length + 1 ≤ 140737488355328) <|
  some (.inl (s1 ++ [{ x_1 with xAttrs := ([] ++ x_1.xAttrs) }]))
 : Option ((List TNode) ⊕ (List TNode)))) (fun (s1 : List TNode) => (s1 : List TNode)) ([] : List TNode)).bind <|
 fun (r3 : List TNode) =>
 some (⟨r3, ([] ++ b.xOpen)⟩ : TBuilder)
theorem ei_icopyBuilder (b : TBuilder) (k : List V → List V → Option β) : Imp (F100 β (rows kNode TNode.row b.xNodes) (rInt b.xOpen) k) (icopyBuilder b) (fun r => k (rows kNode TNode.row r.xNodes) (rInt r.xOpen)) := by
 delta F100 P100 icopyBuilder
 refine Imp.chk (c2 (fun z0 z1 : Nat => (0 + z0) * 8 ≤ 140737488355328 ∧ 0 + z1 ≤ 140737488355328) (U_len (T := Int) (kd := (.int .i64)) (g1 := fun e => e) b.xOpen) (U_len (T := Int) (kd := (.int .i64)) (g1 := fun e => e) b.xOpen)) (fun _ => ?_)
 refine Imp.for (enc := fun (i_1 : Nat) (s1 : List TNode) => [.l (rows kNode TNode.row b.xNodes), .i (b.xNodes.length : Int), .i (i_1 : Int), .l (rows kNode TNode.row s1), .l (rInt ([] ++ b.xOpen))]) (encR := fun (u : List TNode) => (((0, [.l (rows kNode TNode.row u), .l (rInt ([] ++ b.xOpen))]) : Nat × List Leaf))) (c2 (fun (h1 : Int) (h2 : List V) => ([.l (rows kNode TNode.row b.xNodes), .i h1, .i 0, .l (rows kNode TNode.row []), .l h2] : List Leaf)) (c1 (fun z0 : Nat => (z0 : Int)) (T_len (ks := kNode) (g := TNode.row) b.xNodes)) (U_app (T := Int) (kd := (.int .i64)) (g1 := fun e => e) [] b.xOpen)) (fun i_1 x_1 s1 hx1 hl1 hm1 => Imp.brT (Int.ofNat_lt.2 hl1) ?_) (fun s1 => brN (Int.lt_irrefl _) rfl) (fun r3 => ?_)
 ·refine Imp.idxFor (ks := kNode) (g := TNode.row) hx1 ?_
  refine Imp.chk (c2 (fun z0 z1 : Nat => (0 + z0) * 32 ≤ 140737488355328 ∧ 0 + z1 ≤ 140737488355328) (T_len (ks := kAttr) (g := TAttr.row) x_1.xAttrs) (T_len (ks := kAttr) (g := TAttr.row) x_1.xAttrs)) (fun _ => ?_)
  refine Imp.chk (c2 (fun z0 z1 : Nat => (z0 + 1) * 64 ≤ 140737488355328 ∧ z1 + 1 ≤ 140737488355328) (T_len (ks := kNode) (g := TNode.row) s1) (T_len (ks := kNode) (g := TNode.row) s1)) (fun _ => ?_)
  exact Imp.ret (c2 (fun (h1 : Int) (h2 : List V) => (some (Sum.inl [.l (rows kNode TNode.row b.xNodes), .i (b.xNodes.length : Int), .i h1, .l h2, .l (rInt ([] ++ b.xOpen))]) : Option (List Leaf ⊕ (Nat × List Leaf)))) (wrapJ hl1) ((c2 (fun u v : List V => u ++ v) rfl (c1 (fun (u0 : List V) => ([V.agg [V.str x_1.xName, V.str x_1.xText, V.int .i64 x_1.xParent, V.sl 2 true u0]] : List V)) (T_app (ks := kAttr) (g := TAttr.row) [] x_1.xAttrs))).trans (T_app (ks := kNode) (g := TNode.row) s1 [{ x_1 with xAttrs := ([] ++ x_1.xAttrs) }])))
 ·exact Imp.ret rfl
noncomputable def icopyPage (p : TPage) : Option TPage :=
 (icopyPolicy p.xPolicy).bind fun (r1 : TPolicy) =>
 (icopyTokens p.xQueue).bind fun (r6 : List TToken) =>
 (icopyBuilder p.xBuilder).bind fun (r7 : TBuilder) =>
 chk ((0 + p.xSlots.length) * 96 ≤ 140737488355328 ∧ 0 + p.xSlots.length ≤ 140737488355328) <|
 chk ((0 + p.xMods.length) * 64 ≤ 140737488355328 ∧ 0 + p.xMods.length ≤ 140737488355328) <|
 chk ((0 + p.xEntries.length) * 32 ≤ 140737488355328 ∧ 0 + p.xEntries.length ≤ 140737488355328) <|
 chk ((0 + p.xRan.length) * 32 ≤ 140737488355328 ∧ 0 + p.xRan.length ≤ 140737488355328) <|
 chk ((0 + p.xLog.length) * 16 ≤ 140737488355328 ∧ 0 + p.xLog.length ≤ 140737488355328) <|
 some { p with xPolicy := r1, xQueue := r6, xBuilder := r7, xSlots := ([] ++ p.xSlots), xMods := ([] ++ p.xMods), xEntries := ([] ++ p.xEntries), xRan := ([] ++ p.xRan), xLog := ([] ++ p.xLog) }
theorem ei_icopyPage (p : TPage) (k : List UInt8 → List UInt8 → Bool → List V → List V → List V → List UInt8 → List UInt8 → List V → Bool → List V → List V → List V → List V → List V → Int → Int → Int → Int → List V → List V → Bool → Option β) : Imp (F58 β p.xAddr.xHost p.xAddr.xPath p.xPolicy.xSet (rStr p.xPolicy.xScripts) (rStr p.xPolicy.xStyles) (rStr p.xPolicy.xImages) p.xPolicy.xNonce p.xTok.xRest (rows kToken TToken.row p.xQueue) p.xEnded (rows kNode TNode.row p.xBuilder.xNodes) (rInt p.xBuilder.xOpen) (rows kSlot TSlot.row p.xSlots) (rows kModule TModule.row p.xMods) (rows kAddr TAddr.row p.xEntries) p.xBlock p.xInline p.xDeferred p.xEntered (rows kAddr TAddr.row p.xRan) (rStr p.xLog) p.xLoaded k) (icopyPage p) (fun r => k r.xAddr.xHost r.xAddr.xPath r.xPolicy.xSet (rStr r.xPolicy.xScripts) (rStr r.xPolicy.xStyles) (rStr r.xPolicy.xImages) r.xPolicy.xNonce r.xTok.xRest (rows kToken TToken.row r.xQueue) r.xEnded (rows kNode TNode.row r.xBuilder.xNodes) (rInt r.xBuilder.xOpen) (rows kSlot TSlot.row r.xSlots) (rows kModule TModule.row r.xMods) (rows kAddr TAddr.row r.xEntries) r.xBlock r.xInline r.xDeferred r.xEntered (rows kAddr TAddr.row r.xRan) (rStr r.xLog) r.xLoaded) := by
 delta F58 P58 icopyPage
 refine Imp.call rfl (ei_icopyPolicy p.xPolicy _) (fun r1 _ => ?_)
 refine Imp.call rfl (ei_icopyTokens p.xQueue _) (fun r6 _ => ?_)
 refine Imp.call rfl (ei_icopyBuilder p.xBuilder _) (fun r7 _ => ?_)
 refine Imp.chk (c2 (fun z0 z1 : Nat => (0 + z0) * 96 ≤ 140737488355328 ∧ 0 + z1 ≤ 140737488355328) (T_len (ks := kSlot) (g := TSlot.row) p.xSlots) (T_len (ks := kSlot) (g := TSlot.row) p.xSlots)) (fun _ => ?_)
 refine Imp.chk (c2 (fun z0 z1 : Nat => (0 + z0) * 64 ≤ 140737488355328 ∧ 0 + z1 ≤ 140737488355328) (T_len (ks := kModule) (g := TModule.row) p.xMods) (T_len (ks := kModule) (g := TModule.row) p.xMods)) (fun _ => ?_)
 refine Imp.chk (c2 (fun z0 z1 : Nat => (0 + z0) * 32 ≤ 140737488355328 ∧ 0 + z1 ≤ 140737488355328) (T_len (ks := kAddr) (g := TAddr.row) p.xEntries) (T_len (ks := kAddr) (g := TAddr.row) p.xEntries)) (fun _ => ?_)
 refine Imp.chk (c2 (fun z0 z1 : Nat => (0 + z0) * 32 ≤ 140737488355328 ∧ 0 + z1 ≤ 140737488355328) (T_len (ks := kAddr) (g := TAddr.row) p.xRan) (T_len (ks := kAddr) (g := TAddr.row) p.xRan)) (fun _ => ?_)
 refine Imp.chk (c2 (fun z0 z1 : Nat => (0 + z0) * 16 ≤ 140737488355328 ∧ 0 + z1 ≤ 140737488355328) (U_len (T := List UInt8) (kd := .str) (g1 := fun e => e) p.xLog) (U_len (T := List UInt8) (kd := .str) (g1 := fun e => e) p.xLog)) (fun _ => ?_)
 exact Imp.ret (c5 (fun (h1 : List V) (h2 : List V) (h3 : List V) (h4 : List V) (h5 : List V) => k p.xAddr.xHost p.xAddr.xPath r1.xSet (rStr r1.xScripts) (rStr r1.xStyles) (rStr r1.xImages) r1.xNonce p.xTok.xRest (rows kToken TToken.row r6) p.xEnded (rows kNode TNode.row r7.xNodes) (rInt r7.xOpen) h1 h2 h3 p.xBlock p.xInline p.xDeferred p.xEntered h4 h5 p.xLoaded) (T_app (ks := kSlot) (g := TSlot.row) [] p.xSlots) (T_app (ks := kModule) (g := TModule.row) [] p.xMods) (T_app (ks := kAddr) (g := TAddr.row) [] p.xEntries) (T_app (ks := kAddr) (g := TAddr.row) [] p.xRan) (U_app (T := List UInt8) (kd := .str) (g1 := fun e => e) [] p.xLog))
noncomputable def icopyTab (t : TTab) : Option TTab :=
 (forE t.xVisits (fun (i_1 : Nat) (x_1 : TVisit) (s1 : List TVisit) => (
  (icopyPage x_1.xPage).bind fun (r3 : TPage) =>
  chk ((s1.length + 1) * 424 ≤ 140737488355328 ∧ s1.length + 1 ≤ 140737488355328) <|
  some (.inl (s1 ++ [{ x_1 with xPage := r3 }]))
 : Option ((List TVisit) ⊕ (List TVisit)))) (fun (s1 : List TVisit) => (s1 : List TVisit)) ([] : List TVisit)).bind <|
 fun (r25 : List TVisit) =>
 some { t with xVisits := r25 }
theorem ei_icopyTab (t : TTab) (k : List V → Int → Option β) : Imp (F35 β (rows kVisit TVisit.row t.xVisits) t.xAt k) (icopyTab t) (fun r => k (rows kVisit TVisit.row r.xVisits) r.xAt) := by
 delta F35 P35 icopyTab
 refine Imp.for (enc := fun (i_1 : Nat) (s1 : List TVisit) => [.l (rows kVisit TVisit.row t.xVisits), .i (t.xVisits.length : Int), .i (i_1 : Int), .i 0, .l (rows kVisit TVisit.row s1), .i t.xAt]) (encR := fun (u : List TVisit) => (((0, [.i 0, .l (rows kVisit TVisit.row u), .i t.xAt]) : Nat × List Leaf))) (c1 (fun (h1 : Int) => ([.l (rows kVisit TVisit.row t.xVisits), .i h1, .i 0, .i 0, .l (rows kVisit TVisit.row []), .i t.xAt] : List Leaf)) (c1 (fun z0 : Nat => (z0 : Int)) (T_len (ks := kVisit) (g := TVisit.row) t.xVisits))) (fun i_1 x_1 s1 hx1 hl1 hm1 => Imp.brT (Int.ofNat_lt.2 hl1) ?_) (fun s1 => brN (Int.lt_irrefl _) rfl) (fun r25 => ?_)
 ·refine Imp.idxFor (ks := kVisit) (g := TVisit.row) hx1 ?_
  refine Imp.call rfl (ei_icopyPage x_1.xPage _) (fun r3 _ => ?_)
  refine Imp.chk (c2 (fun z0 z1 : Nat => (z0 + 1) * 424 ≤ 140737488355328 ∧ z1 + 1 ≤ 140737488355328) (T_len (ks := kVisit) (g := TVisit.row) s1) (T_len (ks := kVisit) (g := TVisit.row) s1)) (fun _ => ?_)
  exact Imp.ret (c2 (fun (h1 : Int) (h2 : List V) => (some (Sum.inl [.l (rows kVisit TVisit.row t.xVisits), .i (t.xVisits.length : Int), .i h1, .i 0, .l h2, .i t.xAt]) : Option (List Leaf ⊕ (Nat × List Leaf)))) (wrapJ hl1) (T_app (ks := kVisit) (g := TVisit.row) s1 [{ x_1 with xPage := r3 }]))
 ·exact Imp.ret rfl
noncomputable def iGiveUp (t : TTab) (i : Int) : Option TTab :=
 (icopyTab t).bind fun (r1 : TTab) =>
 br (decide (i ≥ 0)) (
  br (decide (i < (t.xVisits.length : Int))) (
   chk (0 ≤ i ∧ i.toNat < r1.xVisits.length) <|
   (modI r1.xVisits i (fun (y : TVisit) => { y with xKept := false })).bind fun (l3 : List TVisit) =>
   chk (0 ≤ i ∧ i.toNat < l3.length) <|
   (modI l3 i (fun (y : TVisit) => { y with xPage := (⟨⟨[], []⟩, ⟨false, [], [], [], []⟩, ⟨[]⟩, [], false, ⟨[], []⟩, [], [], [], 0, 0, 0, 0, [], [], false⟩ : TPage) })).bind fun (l4 : List TVisit) =>
   some { r1 with xVisits := l4 }
  ) (
   some r1
  )
 ) (
  some r1
 )
theorem ei_iGiveUp (t : TTab) (i : Int) (k : List V → Int → Option β) : Imp (F14 β (rows kVisit TVisit.row t.xVisits) t.xAt i k) (iGiveUp t i) (fun r => k (rows kVisit TVisit.row r.xVisits) r.xAt) := by
 delta F14 P14 iGiveUp
 refine Imp.call rfl (ei_icopyTab t _) (fun r1 _ => ?_)
 refine Imp.br rfl ?_ ?_
 ·refine Imp.br (c1 (fun z0 : Nat => (decide (i < (z0 : Int)))) (T_len (ks := kVisit) (g := TVisit.row) t.xVisits)) ?_ ?_
  ·refine Imp.chk (c1 (fun z0 : Nat => 0 ≤ i ∧ i.toNat < z0) (T_len (ks := kVisit) (g := TVisit.row) r1.xVisits)) (fun _ => ?_)
   refine Imp.store (ks := kVisit) (g := TVisit.row) rfl rfl (fun y => by simp only [TVisit.row, cellsEnc, CK.enc]; rfl) (fun l3 _ => ?_)
   refine Imp.chk (c1 (fun z0 : Nat => 0 ≤ i ∧ i.toNat < z0) (T_len (ks := kVisit) (g := TVisit.row) l3)) (fun _ => ?_)
   refine Imp.store (ks := kVisit) (g := TVisit.row) rfl rfl (fun y => by simp only [TVisit.row, cellsEnc, CK.enc]; rfl) (fun l4 _ => ?_)
   exact Imp.ret rfl
  ·exact Imp.ret rfl
 ·exact Imp.ret rfl
noncomputable def lmarkText (xk : Int) : Option (List UInt8) :=
 br (decide (xk ≤ 0)) (
 some [109, 48]
 ) (
 (whileE (fun (s1 : Int × (List UInt8)) => (
 br (decide (s1.1 > 0)) (
 chk ((strI [(IntKind.wrap .u8 (IntKind.wrap .i64 (48 + (Int.tmod s1.1 10))))]).length + s1.2.length ≤ 9223372036854775807) <|
 some (.inl ((IntKind.wrap .i64 (Int.tdiv s1.1 10)), ((strI [(IntKind.wrap .u8 (IntKind.wrap .i64 (48 + (Int.tmod s1.1 10))))]) ++ s1.2)))
 ) (
 some (.inr s1.2)
 )
 : Option ((Int × (List UInt8)) ⊕ (List UInt8)))) ((xk, []) : Int × (List UInt8))).bind <|
 fun (r3 : List UInt8) =>
 chk (1 + r3.length ≤ 9223372036854775807) <|
 some ([109] ++ r3)
 )
theorem ei_lmarkText (xk : Int) (k : List UInt8 → Option β) : Imp (F28 β xk k) (lmarkText xk) (fun r => k r) := by
 delta F28 P28 lmarkText
 refine Imp.br rfl ?_ ?_
 ·exact Imp.ret rfl
 ·refine Imp.while (enc := fun (s1 : Int × (List UInt8)) => [.i s1.1, .s s1.2]) (encR := fun (u : List UInt8) => (((0, [.s u]) : Nat × List Leaf))) rfl (fun s1 => ?_) (fun r3 => ?_)
  ·refine Imp.br rfl ?_ ?_
   ·refine Imp.strO (l := [(IntKind.wrap .u8 (IntKind.wrap .i64 (48 + (Int.tmod s1.1 10))))]) rfl ?_
    refine Imp.chk rfl (fun _ => ?_)
    exact Imp.ret rfl
   ·exact Imp.ret rfl
  ·refine Imp.chk rfl (fun _ => ?_)
   exact Imp.ret rfl
end Go.Am
end
section
set_option linter.unusedVariables false
set_option linter.unusedSimpArgs false
namespace Go.Am
open Go
section
variable {α γ T σ ρ : Type}
def Ok (x : Option α) (Q : α → Prop) : Prop := ∃ r, x = some r ∧ Q r
theorem Ok.ret {r : α} {Q : α → Prop} (h : Q r) : Ok (some r) Q := ⟨r, rfl, h⟩
theorem Ok.bind {x : Option α} {f : α → Option γ} {Q1 : α → Prop} {Q : γ → Prop} (h : Ok x Q1) (h2 : ∀ r, x = some r → Q1 r → Ok (f r) Q) : Ok (x.bind f) Q := by
 obtain ⟨r, h1, h3⟩ := h
 subst h1
 exact h2 r rfl h3
theorem Ok.br {b : Bool} {x y : Option α} {Q : α → Prop} (h1 : b = true → Ok x Q) (h2 : b = false → Ok y Q) : Ok (Go.Am.br b x y) Q := by
 cases b
 ·exact h2 rfl
 ·exact h1 rfl
theorem Ok.chk {p : Prop} {d : Decidable p} {x : Option α} {Q : α → Prop} (hp : p) (h : Ok x Q) : Ok (@Go.Am.chk α p d x) Q := by
 obtain ⟨r, h1, h2⟩ := h
 exact ⟨r, (if_pos hp).trans h1, h2⟩
theorem Ok.mono {x : Option α} {Q1 Q : α → Prop} (h : Ok x Q1) (h2 : ∀ r, x = some r → Q1 r → Q r) : Ok x Q := by
 obtain ⟨r, h1, h3⟩ := h
 exact ⟨r, h1, h2 r h1 h3⟩
theorem Ok.of {x : Option α} {r : α} {Q : α → Prop} (h : x = some r) (hq : Q r) : Ok x Q := ⟨r, h, hq⟩
theorem Ok.getI {l : List T} {n : Int} (h0 : 0 ≤ n) (h1 : n.toNat < l.length) : Ok (Go.Am.getI l n) (fun x => l[n.toNat]? = some x ∧ x ∈ l) := by
 refine ⟨l[n.toNat], ?_, ?_, List.getElem_mem h1⟩
 ·unfold Go.Am.getI
  rw [if_pos h0, List.getElem?_eq_getElem h1]
 ·exact List.getElem?_eq_getElem h1
theorem Ok.getS {l : List UInt8} {n : Int} (h0 : 0 ≤ n) (h1 : n.toNat < l.length) : Ok (Go.Am.getS l n) (fun x => ∃ b, l[n.toNat]? = some b ∧ x = (b.toNat : Int)) := by
 refine ⟨(l[n.toNat].toNat : Int), ?_, l[n.toNat], List.getElem?_eq_getElem h1, rfl⟩
 unfold Go.Am.getS
 rw [if_pos h0, List.getElem?_eq_getElem h1]
 rfl
theorem forA_ok {body : Nat → T → σ → Option (σ ⊕ ρ)} {fin : σ → ρ} {l : List T} {Q : ρ → Prop} (Inv : Nat → σ → Prop)
  (hb : ∀ i x s, l[i]? = some x → Inv i s → Ok (body i x s) (fun z => match z with
   | .inl s' => Inv (i + 1) s'
   | .inr r => Q r)) (hf : ∀ s, Inv l.length s → Q (fin s)) : ∀ (zs : List T) (i : Nat) (s : σ), l.drop i = zs → i ≤ l.length → Inv i s → Ok (forA body fin i zs s) Q := by
 intro zs
 induction zs with
 | nil =>
  intro i s hd hi hs
  have : i = l.length := by
   have := List.drop_eq_nil_iff.1 hd
   omega
  subst this
  exact ⟨_, rfl, hf s hs⟩
 | cons x zs ih =>
  intro i s hd hi hs
  have hx : l[i]? = some x := by
   have := congrArg (fun l => l[0]?) hd
   simpa using this
  have hlt := (List.getElem?_eq_some_iff.1 hx).1
  have hd' : l.drop (i + 1) = zs := by rw [← List.tail_drop, hd]; rfl
  obtain ⟨z, h1, h2⟩ := hb i x s hx hs
  rw [forA, h1]
  cases z with
  | inl s' => exact ih (i + 1) s' hd' (by omega) h2
  | inr r => exact ⟨r, rfl, h2⟩
theorem Ok.for {body : Nat → T → σ → Option (σ ⊕ ρ)} {fin : σ → ρ} {l : List T} {s0 : σ} {Q : ρ → Prop} (hl : l.length ≤ maxLen) (Inv : Nat → σ → Prop) (h0 : Inv 0 s0)
  (hb : ∀ i x s, l[i]? = some x → Inv i s → Ok (body i x s) (fun z => match z with
   | .inl s' => Inv (i + 1) s'
   | .inr r => Q r)) (hf : ∀ s, Inv l.length s → Q (fin s)) : Ok (forE l body fin s0) Q := by
 unfold forE
 rw [if_pos hl]
 exact forA_ok Inv hb hf l 0 s0 rfl (Nat.zero_le _) h0
theorem Ok.while {body : σ → Option (σ ⊕ ρ)} {s0 : σ} {Q : ρ → Prop} (Inv : σ → Prop) (m : σ → Nat) (h0 : Inv s0)
  (hb : ∀ s, Inv s → Ok (body s) (fun z => match z with
   | .inl s' => Inv s' ∧ m s' < m s
   | .inr r => Q r)) : Ok (whileE body s0) Q := by
 have key : ∀ (n : Nat) (s : σ), m s < n → Inv s → Ok (whileE body s) Q := by
  intro n
  induction n with
  | zero => intro s h; omega
  | succ n ih =>
   intro s hm hs
   obtain ⟨z, h1, h2⟩ := hb s hs
   unfold whileE
   rw [whileInf_step, h1]
   cases z with
   | inl s' => exact ih s' (by have := h2.2; omega) h2.1
   | inr r => exact ⟨r, rfl, h2⟩
 exact key _ s0 (Nat.lt_succ_self _) h0
end
end Go.Am
end
section
set_option linter.unusedVariables false
set_option linter.unusedSimpArgs false
namespace Go.Am
open Go
section
variable {T ρ : Type}
end
end Go.Am
end
section
set_option linter.unusedVariables false
set_option linter.unusedSimpArgs false
namespace Go.Am
open Go
section
variable {β : Type}
end
end Go.Am
end
section
set_option linter.unusedVariables false
set_option linter.unusedSimpArgs false
namespace Go.Am
open Go
variable {β : Type}
noncomputable def mt (k : Nat) : List UInt8 := (lmarkText (k : Int)).getD []
theorem mt_eq (k : Nat) (h : k < 4611686018427387904) : lmarkText (k : Int) = some (mt k) := by
 have : Ok (lmarkText (k : Int)) (fun _ => True) := by
  unfold lmarkText
  refine Ok.br (fun _ => Ok.ret trivial) (fun _ => Ok.bind (Q1 := fun r : List UInt8 => r.length ≤ k) (Ok.while (fun s : Int × List UInt8 => 0 ≤ s.1 ∧ s.2.length + s.1.toNat ≤ k) (fun s => s.1.toNat) ⟨Int.natCast_nonneg _, by simp⟩ (fun s hs => ?_)) (fun r _ hr => Ok.chk (by omega) (Ok.ret trivial)))
  obtain ⟨s1, s2⟩ := s
  obtain ⟨h0, h1⟩ := hs
  dsimp only at h0 h1 ⊢
  refine Ok.br (fun c => ?_) (fun c => Ok.ret (by omega))
  have c : 0 < s1 := by simpa using c
  have ht : Int.tdiv s1 10 = ((s1.toNat / 10 : Nat) : Int) := by
   conv => lhs; rw [show s1 = ((s1.toNat : Nat) : Int) by omega]
   rfl
  have hw : IntKind.wrap .i64 (Int.tdiv s1 10) = ((s1.toNat / 10 : Nat) : Int) := by
   rw [ht]
   simp [IntKind.wrap, IntKind.bits, IntKind.signed]
   omega
  refine Ok.chk (by simp [strI]; omega) (Ok.ret ?_)
  rw [hw]
  refine ⟨⟨Int.natCast_nonneg _, ?_⟩, ?_⟩
  ·simp [strI]; omega
  ·simp; omega
 obtain ⟨r, e, _⟩ := this
 unfold mt
 rw [e]
 rfl
theorem Ok.copy {T : Type} {l : List T} {body : Nat → T → List T → Option (List T ⊕ List T)} (hl : l.length ≤ maxLen) (h : ∀ i x s, l[i]? = some x → i < l.length → s.length = i → Ok (body i x s) (fun z => z = .inl (s ++ [x]))) : Ok (forE l body (fun s => s) []) (fun r => r = l) := by
 refine Ok.for hl (fun i s => s = l.take i) (by simp) (fun i x s hx hs => ?_) (fun s hs => by rw [hs]; exact List.take_length)
 have hi := (List.getElem?_eq_some_iff.1 hx).1
 refine Ok.mono (h i x s hx hi (by rw [hs, List.length_take]; omega)) (fun z _ hz => ?_)
 subst hz
 show s ++ [x] = l.take (i + 1)
 rw [hs, List.take_add_one, hx]
 rfl
theorem Ok.eq {α : Type} {x : Option α} {a : α} (h : Ok x (fun r => r = a)) : x = some a := by
 obtain ⟨r, h1, rfl⟩ := h
 exact h1
theorem Ok.is {α γ : Type} {x : Option α} {a : α} {f : α → Option γ} {Q : γ → Prop} (h : x = some a) (h2 : Ok (f a) Q) : Ok (x.bind f) Q := by
 subst h
 exact h2
theorem s_Policy (p : TPolicy) (h : p.size ≤ 1048576) : sl9Copy p = some p := by
 unfold TPolicy.size at h
 exact Ok.eq (Ok.chk (by omega) (Ok.chk (by omega) (Ok.chk (by omega) (Ok.ret rfl))))
theorem i_Policy (p : TPolicy) (h : p.size ≤ 1048576) : icopyPolicy p = some p := by
 unfold TPolicy.size at h
 exact Ok.eq (Ok.chk (by omega) (Ok.chk (by omega) (Ok.chk (by omega) (Ok.ret rfl))))
theorem s_Attrs (l : List TAttr) (h : l.length ≤ 1048576) : sl6Attrs l = some l := Ok.eq (Ok.chk (by omega) (Ok.ret rfl))
theorem s_Tokens (l : List TToken) (h : l.length + sumL TToken.size l ≤ 1048576) : sl15Tokens l = some l := by
 refine Ok.eq (Ok.bind (Ok.copy (by unfold maxLen; omega) (fun i x s hx hi hs => ?_)) (fun r _ hr => Ok.ret hr))
 have := sumL_mem (f := TToken.size) (List.mem_of_getElem? hx)
 have h2 : x.xAttrs.length ≤ x.size := by unfold TToken.size; omega
 exact Ok.is (s_Attrs _ (by omega)) (Ok.chk (by omega) (Ok.ret rfl))
theorem i_Token (x : TToken) (h : x.size ≤ 1048576) : icopyToken x = some x := by
 have h2 : x.xAttrs.length ≤ x.size := by unfold TToken.size; omega
 exact Ok.eq (Ok.chk (by omega) (Ok.ret rfl))
theorem i_Tokens (l : List TToken) (h : l.length + sumL TToken.size l ≤ 1048576) : icopyTokens l = some l := by
 refine Ok.eq (Ok.bind (Ok.copy (by unfold maxLen; omega) (fun i x s hx hi hs => ?_)) (fun r _ hr => Ok.ret hr))
 have := sumL_mem (f := TToken.size) (List.mem_of_getElem? hx)
 exact Ok.is (i_Token _ (by omega)) (Ok.chk (by omega) (Ok.ret rfl))
theorem s_Builder (b : TBuilder) (h : b.size ≤ 1048576) : sl6Copy b = some b := by
 unfold TBuilder.size at h
 refine Ok.eq (Ok.chk (by omega) (Ok.bind (Ok.copy (by unfold maxLen; omega) (fun i x s hx hi hs => ?_)) (fun r _ hr => Ok.ret (by rw [hr]; rfl))))
 have := sumL_mem (f := TNode.size) (List.mem_of_getElem? hx)
 have h2 : x.xAttrs.length ≤ x.size := by unfold TNode.size; omega
 exact Ok.is (s_Attrs _ (by omega)) (Ok.chk (by omega) (Ok.ret rfl))
theorem i_Builder (b : TBuilder) (h : b.size ≤ 1048576) : icopyBuilder b = some b := by
 unfold TBuilder.size at h
 refine Ok.eq (Ok.chk (by omega) (Ok.bind (Ok.copy (by unfold maxLen; omega) (fun i x s hx hi hs => ?_)) (fun r _ hr => Ok.ret (by rw [hr]; rfl))))
 have := sumL_mem (f := TNode.size) (List.mem_of_getElem? hx)
 have h2 : x.xAttrs.length ≤ x.size := by unfold TNode.size; omega
 exact Ok.chk (by omega) (Ok.chk (by omega) (Ok.ret rfl))
theorem s_Page (p : TPage) (h : p.size ≤ 1048576) : sl15Copy p = some p := by
 unfold TPage.size at h
 exact Ok.eq (Ok.is (s_Policy _ (by omega)) (Ok.is (s_Tokens _ (by omega)) (Ok.is (s_Builder _ (by omega)) (Ok.chk (by omega) (Ok.chk (by omega) (Ok.chk (by omega) (Ok.chk (by omega) (Ok.chk (by omega) (Ok.ret rfl)))))))))
theorem i_Page (p : TPage) (h : p.size ≤ 1048576) : icopyPage p = some p := by
 unfold TPage.size at h
 exact Ok.eq (Ok.is (i_Policy _ (by omega)) (Ok.is (i_Tokens _ (by omega)) (Ok.is (i_Builder _ (by omega)) (Ok.chk (by omega) (Ok.chk (by omega) (Ok.chk (by omega) (Ok.chk (by omega) (Ok.chk (by omega) (Ok.ret rfl)))))))))
theorem s_Tab (t : TTab) (h : t.size ≤ 1048576) : sl31Copy t = some t := by
 unfold TTab.size at h
 refine Ok.eq (Ok.bind (Ok.copy (by unfold maxLen; omega) (fun i x s hx hi hs => ?_)) (fun r _ hr => Ok.ret (by rw [hr])))
 have := sumL_mem (f := TVisit.size) (List.mem_of_getElem? hx)
 have h2 : x.xPage.size ≤ x.size := by unfold TVisit.size; omega
 exact Ok.is (s_Page _ (by omega)) (Ok.chk (by omega) (Ok.ret rfl))
theorem i_Tab (t : TTab) (h : t.size ≤ 1048576) : icopyTab t = some t := by
 unfold TTab.size at h
 refine Ok.eq (Ok.bind (Ok.copy (by unfold maxLen; omega) (fun i x s hx hi hs => ?_)) (fun r _ hr => Ok.ret (by rw [hr])))
 have := sumL_mem (f := TVisit.size) (List.mem_of_getElem? hx)
 have h2 : x.xPage.size ≤ x.size := by unfold TVisit.size; omega
 exact Ok.is (i_Page _ (by omega)) (Ok.chk (by omega) (Ok.ret rfl))
theorem modI_at {T : Type} {l : List T} {n : Int} {f : T → T} (h : n.toNat < l.length) : modI l n f = some (l.set n.toNat (f l[n.toNat])) := by
 unfold modI
 rw [List.getElem?_eq_getElem h]
theorem wrap_pred {n : Nat} (h : n ≤ 1048576) : IntKind.wrap .i64 ((n : Int) - 1) = (n : Int) - 1 := by
 simp [IntKind.wrap, IntKind.bits, IntKind.signed]
 omega
theorem s_In (t : TTab) (i : Int) (h : t.size ≤ 1048576) : sl1In i 0 (IntKind.wrap .i64 ((t.xVisits.length : Int) - 1)) = some (decide (0 ≤ i ∧ i < (t.xVisits.length : Int))) := by
 unfold TTab.size at h
 rw [wrap_pred (by omega)]
 refine Ok.eq (Ok.br (fun c => Ok.ret ?_) (fun c => Ok.ret ?_))
 ·have c : 0 ≤ i := by simpa using c
  rw [Bool.eq_iff_iff]
  simp only [decide_eq_true_eq]
  omega
 ·have c : ¬ 0 ≤ i := by simpa using c
  rw [decide_eq_false (fun h => c h.1)]
def zpage : TPage := ⟨⟨[], []⟩, ⟨false, [], [], [], []⟩, ⟨[]⟩, [], false, ⟨[], []⟩, [], [], [], 0, 0, 0, 0, [], [], false⟩
theorem zpage_ok : zpage.ok := by simp [zpage, TPage.ok, TAddr.ok, TPolicy.ok, TTokenizer.ok, TBuilder.ok, okL, okS, okI, maxLen]
theorem zpage_size : zpage.size = 0 := by simp [zpage, TPage.size, TAddr.size, TPolicy.size, TTokenizer.size, TBuilder.size, sumL]
def gone (y : TVisit) : TVisit := { y with xKept := false, xPage := zpage }
def given (t : TTab) (i : Int) : TTab := if h : 0 ≤ i ∧ i.toNat < t.xVisits.length then { t with xVisits := t.xVisits.set i.toNat (gone t.xVisits[i.toNat]) } else t
theorem sumL_set' {T : Type} {f : T → Nat} : ∀ {l : List T} {i : Nat} {y : T} (h : i < l.length), sumL f (l.set i y) + f l[i] = sumL f l + f y := by
 intro l
 induction l with
 | nil => intro i y h; cases h
 | cons x l ih =>
  intro i y h
  cases i with
  | zero => simp only [List.set_cons_zero, sumL, List.map_cons, List.sum_cons, List.getElem_cons_zero]; omega
  | succ i =>
   have := ih (i := i) (y := y) (by simpa using h)
   simp only [List.set_cons_succ, sumL, List.map_cons, List.sum_cons, List.getElem_cons_succ] at this ⊢
   omega
theorem gone_size (y : TVisit) : (gone y).size ≤ y.size := by
 show y.xAddr.size + (zpage.size + 0) ≤ y.xAddr.size + (y.xPage.size + 0)
 rw [zpage_size]
 omega
theorem given_size (t : TTab) (i : Int) : (given t i).size ≤ t.size := by
 unfold given
 split
 ·rename_i h
  unfold TTab.size
  have h1 := sumL_set' (f := TVisit.size) (y := gone t.xVisits[i.toNat]) h.2
  have h2 := gone_size t.xVisits[i.toNat]
  simp only [List.length_set]
  omega
 ·exact Nat.le_refl _
theorem given_ok (t : TTab) (i : Int) (o : t.ok) : (given t i).ok := by
 unfold given
 split
 ·rename_i h
  refine ⟨⟨by rw [List.length_set]; exact o.1.1, fun e he => ?_⟩, o.2⟩
  rcases List.mem_or_eq_of_mem_set he with he | rfl
  ·exact o.1.2 e he
  ·exact ⟨(o.1.2 _ (List.getElem_mem h.2)).1, zpage_ok, trivial, trivial⟩
 ·exact o
theorem modI_two {l : List TVisit} {i : Int} {f g : TVisit → TVisit} (h : i.toNat < l.length) : ∃ l4, modI l i f = some l4 ∧ l4.length = l.length ∧ modI l4 i g = some (l.set i.toNat (g (f l[i.toNat]))) := by
 refine ⟨_, modI_at h, List.length_set, ?_⟩
 rw [modI_at (by rw [List.length_set]; exact h), List.getElem_set_self, List.set_set]
theorem s_GiveUp (t : TTab) (i : Int) (h : t.size ≤ 1048576) : sGiveUp t i = some (given t i) := by
 by_cases c : 0 ≤ i ∧ i < (t.xVisits.length : Int)
 ·have hc : i.toNat < t.xVisits.length := by omega
  obtain ⟨l4, m1, m2, m3⟩ := modI_two (l := t.xVisits) (i := i) (f := fun y => { y with xKept := false }) (g := fun y => { y with xPage := zpage }) hc
  have e : given t i = { t with xVisits := t.xVisits.set i.toNat (gone t.xVisits[i.toNat]) } := by unfold given; rw [dif_pos ⟨c.1, hc⟩]
  refine Ok.eq (Ok.is (s_Tab t h) (Ok.is (s_In t i h) (Ok.br (fun e => by simp [c] at e) (fun _ => Ok.chk ⟨c.1, hc⟩ (Ok.is m1 (Ok.chk ⟨c.1, by rw [m2]; exact hc⟩ (Ok.is m3 (Ok.ret ?_))))))))
  rw [e]
  rfl
 ·have e : given t i = t := by unfold given; rw [dif_neg (by omega)]
  rw [e]
  exact Ok.eq (Ok.is (s_Tab t h) (Ok.is (s_In t i h) (Ok.br (fun _ => Ok.ret rfl) (fun e => by simp [c] at e))))
theorem i_GiveUp (t : TTab) (i : Int) (h : t.size ≤ 1048576) : iGiveUp t i = some (given t i) := by
 by_cases c : 0 ≤ i ∧ i < (t.xVisits.length : Int)
 ·have hc : i.toNat < t.xVisits.length := by omega
  obtain ⟨l4, m1, m2, m3⟩ := modI_two (l := t.xVisits) (i := i) (f := fun y => { y with xKept := false }) (g := fun y => { y with xPage := zpage }) hc
  have e : given t i = { t with xVisits := t.xVisits.set i.toNat (gone t.xVisits[i.toNat]) } := by unfold given; rw [dif_pos ⟨c.1, hc⟩]
  refine Ok.eq (Ok.is (i_Tab t h) (Ok.br (fun _ => Ok.br (fun _ => Ok.chk ⟨c.1, hc⟩ (Ok.is m1 (Ok.chk ⟨c.1, by rw [m2]; exact hc⟩ (Ok.is m3 (Ok.ret ?_))))) (fun e => by simp at e; omega)) (fun e => by simp at e; omega)))
  rw [e]
  rfl
 ·have e : given t i = t := by unfold given; rw [dif_neg (by omega)]
  rw [e]
  exact Ok.eq (Ok.is (i_Tab t h) (Ok.br (fun c1 => Ok.br (fun c2 => by simp at c1 c2; exact absurd ⟨c1, c2⟩ c) (fun _ => Ok.ret rfl)) (fun _ => Ok.ret rfl)))
theorem eq_GiveUp (t : TTab) (i : Int) (ot : t.ok) (oi : okI i) (h : t.size ≤ 1048576) : ∃ r, sGiveUp t i = some r ∧ iGiveUp t i = some r ∧ r.size ≤ 1125899906842624 ∧ r.ok :=
 ⟨given t i, s_GiveUp t i h, i_GiveUp t i h, by have := given_size t i; omega, given_ok t i ot⟩
end Go.Am
end
section
set_option linter.unusedVariables false
set_option linter.unusedSimpArgs false
namespace Go.Am
open Go Go.RowKit
structure Ag (n : Nat) (s : Nat → Value) (a : Act) : Prop where
  dz : a.defers = []
  sz : a.tmps.size = n
  at_ : ∀ i, a.tmps.getD i undef = s i
def upd (s : Nat → Value) (d : Nat) (x : Value) : Nat → Value := fun i => if i = d then x else s i
theorem upd_same {s : Nat → Value} {d : Nat} {x : Value} : upd s d x d = x := if_pos rfl
theorem upd_ne {s : Nat → Value} {d i : Nat} {x : Value} (h : i ≠ d) : upd s d x i = s i := if_neg h
def evs (s : Nat → Value) : Operand → Value
 | .tmp t => s t
 | .const v => v
 | .global g => .pointer (some ⟨g, 0, none⟩)
 | .func f => .func (.func f) #[] #[]
section
variable {P : Program} {n d : Nat} {s : Nat → Value} {a : Act} {w w' : World} {x : Value}
theorem Ag.eval (h : Ag n s a) : a.eval = evs s := by
 funext x
 cases x with
 | tmp t => exact h.at_ t
 | _ => rfl
theorem Ag.put (h : Ag n s a) (hd : d < n) : Ag n (upd s d x) (a.put (some d) x) := by
 refine ⟨h.dz, by simp [Act.put, h.sz], fun i => ?_⟩
 simp only [Act.put, Array.getD_eq_getD_getElem?, Array.getElem?_setIfInBounds]
 by_cases hi : i = d
 ·subst hi
  rw [upd_same, if_pos rfl, if_pos (by rw [h.sz]; exact hd)]
  rfl
 ·rw [upd_ne hi, if_neg (fun e => hi e.symm), ← Array.getD_eq_getD_getElem?]
  exact h.at_ i
theorem Ag.enter (args : Array Value) (m : Nat) : Ag (args.size + m) (fun i => args.getD i undef) { tmps := args ++ Array.replicate m undef, defers := [] } := by
 refine ⟨rfl, by simp, fun i => ?_⟩
 simp only [Array.getD_eq_getD_getElem?]
 rcases Nat.lt_or_ge i args.size with h | h
 ·rw [Array.getElem?_append_left h]
 ·rw [Array.getElem?_append_right h, Array.getElem?_eq_none h, Array.getElem?_replicate]
  split <;> rfl
def R (P : Program) (n : Nat) (ops : Array Oper) (l : List Oper) (s : Nat → Value) (w : World) (K : (Nat → Value) → World → Prop) : Prop :=
 ∀ (Q : Exit → Act → World → Prop), (∀ s' a' w', Ag n s' a' → K s' w' → Q .normal a' w') → ∀ a, Ag n s a → wpList P ops Q l a w
def W (P : Program) (n : Nat) (c : Code) (s : Nat → Value) (w : World) (K : Exit → (Nat → Value) → World → Prop) : Prop :=
 ∀ (Q : Exit → Act → World → Prop), (∀ e s' a' w', Ag n s' a' → K e s' w' → Q e a' w') → ∀ a, Ag n s a → c.wp P Q a w
variable {ops : Array Oper} {l : List Oper} {o : Oper} {K K' : (Nat → Value) → World → Prop} {c c1 c2 : Code} {J J' : Exit → (Nat → Value) → World → Prop}
theorem R.mono (h : R P n ops l s w K) (hk : ∀ s' w', K s' w' → K' s' w') : R P n ops l s w K' := fun Q hQ a ha => h Q (fun s' a' w' h1 h2 => hQ s' a' w' h1 (hk s' w' h2)) a ha
theorem W.mono (h : W P n c s w J) (hk : ∀ e s' w', J e s' w' → J' e s' w') : W P n c s w J' := fun Q hQ a ha => h Q (fun e s' a' w' h1 h2 => hQ e s' a' w' h1 (hk e s' w' h2)) a ha
theorem R.nil (h : K s w) : R P n ops [] s w K := fun Q hQ a ha => wpList_nil (hQ s a w ha h)
theorem R.step (hg : o.guard = none) (h : ∀ (a : Act) (Q : Exit → Act → World → Prop) (N : Act → World → Prop), (∀ s' a' w', Ag n s' a' → R P n ops l s' w' K → N a' w') → Ag n s a → o.wp P a w N Q) : R P n ops (o :: l) s w K := by
 intro Q hQ a ha
 refine wpList_step fun N hN => ?_
 rw [if_pos (by simp [Region.wanted, hg])]
 exact h a Q N (fun s' a' w' h1 h2 => hN _ _ (h2 Q hQ a' h1)) ha
theorem R.value (hg : o.guard = none) (hd : o.dst = some d) (hn : d < n) (he : (execOp (evs s) o).run P w = .ok (.value x) w') (h : R P n ops l (upd s d x) w' K) : R P n ops (o :: l) s w K := by
 refine R.step hg fun a Q N hN ha => ?_
 unfold Oper.wp
 rw [ha.eval, he, Oper.upon_value, hd]
 exact hN _ _ _ (ha.put hn) h
theorem R.skip (hg : o.guard = none) (hd : o.dst = none) (he : (execOp (evs s) o).run P w = .ok .skip w') (h : R P n ops l s w' K) : R P n ops (o :: l) s w K := by
 refine R.step hg fun a Q N hN ha => ?_
 unfold Oper.wp
 rw [ha.eval, he, Oper.upon_skip, hd]
 exact hN _ a _ ha h
theorem R.call {f : FuncId} {args : Array Value} (hg : o.guard = none) (hd : o.dst = some d) (hn : d < n) (he : (execOp (evs s) o).run P w = .ok (.enter f args) w)
  (hc : Calls P f args w fun e w' => ∃ x, e = .returned x ∧ R P n ops l (upd s d x) w' K) : R P n ops (o :: l) s w K := by
 refine R.step hg fun a Q N hN ha => ?_
 unfold Oper.wp
 rw [ha.eval, he, Oper.upon_enter]
 refine Calls.mono hc fun e w' h => ?_
 obtain ⟨x, rfl, h⟩ := h
 show N (a.put o.dst x) w'
 rw [hd]
 exact hN _ _ _ (ha.put hn) h
def Known (P : Program) (f : Nat) : Prop := ∃ fn, P.funcs[f]? = some fn ∧ fn.body.isNone = false ∧ (fn.name == "runtime.NumGoroutine") = false
theorem call_enter {f : Nat} {args : Array Operand} {ts : Array TypeId} (hk : Known P f) (ho : o.op = .call ⟨.value (.func f), args, ts⟩) : (execOp (evs s) o).run P w = .ok (.enter f (args.map (evs s))) w := by
 obtain ⟨fn, h1, h2, h3⟩ := hk
 have h3 : ¬ fn.name = "runtime.NumGoroutine" := by simpa using h3
 simp [execOp, ho, resolve, Deferred.ofValue, invoke, callFunc, evs, h1, h2, h3]
 intro hb
 simp [hb] at h2
def O1 (P : Program) (n : Nat) (o : Oper) (s : Nat → Value) (w : World) (K : (Nat → Value) → World → Prop) : Prop :=
 o.guard = none ∧ ∀ (a : Act) (Q : Exit → Act → World → Prop) (N : Act → World → Prop), (∀ s' a' w', Ag n s' a' → K s' w' → N a' w') → Ag n s a → o.wp P a w N Q
theorem O1.mono (h : O1 P n o s w K) (hk : ∀ s' w', K s' w' → K' s' w') : O1 P n o s w K' := ⟨h.1, fun a Q N hN ha => h.2 a Q N (fun s' a' w' h1 h2 => hN s' a' w' h1 (hk s' w' h2)) ha⟩
theorem R.one (h : O1 P n o s w (fun s' w' => R P n ops l s' w' K)) : R P n ops (o :: l) s w K := R.step h.1 h.2
theorem O1.value (hg : o.guard = none) (hd : o.dst = some d) (hn : d < n) (he : (execOp (evs s) o).run P w = .ok (.value x) w') (h : K (upd s d x) w') : O1 P n o s w K := by
 refine ⟨hg, fun a Q N hN ha => ?_⟩
 unfold Oper.wp
 rw [ha.eval, he, Oper.upon_value, hd]
 exact hN _ _ _ (ha.put hn) h
theorem O1.skip (hg : o.guard = none) (hd : o.dst = none) (he : (execOp (evs s) o).run P w = .ok .skip w') (h : K s w') : O1 P n o s w K := by
 refine ⟨hg, fun a Q N hN ha => ?_⟩
 unfold Oper.wp
 rw [ha.eval, he, Oper.upon_skip, hd]
 exact hN _ a _ ha h
theorem O1.call {f : FuncId} {args : Array Value} (hg : o.guard = none) (hd : o.dst = some d) (hn : d < n) (he : (execOp (evs s) o).run P w = .ok (.enter f args) w)
  (hc : Calls P f args w fun e w' => ∃ x, e = .returned x ∧ K (upd s d x) w') : O1 P n o s w K := by
 refine ⟨hg, fun a Q N hN ha => ?_⟩
 unfold Oper.wp
 rw [ha.eval, he, Oper.upon_enter]
 refine Calls.mono hc fun e w' h => ?_
 obtain ⟨x, rfl, h⟩ := h
 show N (a.put o.dst x) w'
 rw [hd]
 exact hN _ _ _ (ha.put hn) h
theorem any_gen (I : Array Bool → (Nat → Value) → World → Prop) {J0 : (Nat → Value) → World → Prop} (hback : ∀ (j : Nat) (o : Oper), ops[j]? = some o → ∀ e ∈ o.after.toList, e.on < j)
  (step : ∀ (listed : Array Bool) (s : Nat → Value) (w : World) (i : Nat) (o : Oper), I listed s w → ops[i]? = some o → listed.getD i true = false → listed.size = ops.size → (∀ e ∈ o.after.toList, Region.binds .any e = true → listed.getD e.on false = true) → O1 P n o s w (fun s' w' => I (listed.setIfInBounds i true) s' w'))
  (fin : ∀ (listed : Array Bool) (s : Nat → Value) (w : World), (∀ j, j < ops.size → listed.getD j true = true) → I listed s w → J0 s w) :
  ∀ (fuel : Nat) (listed : Array Bool) (s : Nat → Value) (w : World), I listed s w → listed.size = ops.size → (pend ops listed).length ≤ fuel → ∀ (Q : Exit → Act → World → Prop), (∀ s' a' w', Ag n s' a' → J0 s' w' → Q .normal a' w') → ∀ a, Ag n s a → wpAny P .any ops Q fuel listed a w := by
 have agree : ∀ (listed : Array Bool), listed.size = ops.size → ∀ j, j < ops.size → ∀ b, listed.getD j true = b → listed.getD j false = b := by
  intro listed hz j hj b h
  have : j < listed.size := by omega
  simpa [this] using h
 have hdone : ∀ (listed : Array Bool), listed.size = ops.size → Region.ready .any ops listed = [] → pend ops listed = [] := by
  intro listed hz hr
  cases hp : pend ops listed with
  | nil => rfl
  | cons j rest =>
   exfalso
   have hj := mem_pend.1 (show j ∈ pend ops listed by rw [hp]; simp)
   have hsome : ops[j]? = some ops[j] := by simp [hj.1]
   have : j ∈ Region.ready .any ops listed := by
    refine mem_ready.2 ⟨hj.2, ops[j], hsome, fun e he _ => ?_⟩
    have hlt := hback j _ hsome e (by simpa using he)
    have hlt2 : e.on < ops.size := by omega
    cases hb : listed.getD e.on true with
    | true => exact agree listed hz e.on hlt2 true hb
    | false =>
     exfalso
     have hm : e.on ∈ pend ops listed := mem_pend.2 ⟨hlt2, hb⟩
     have hs := pend_sorted (ops := ops) listed
     rw [hp] at hm hs
     rcases List.mem_cons.1 hm with h | h
     ·omega
     ·have := (List.pairwise_cons.1 hs).1 _ h
      omega
   rw [hr] at this
   cases this
 have hall : ∀ (listed : Array Bool), pend ops listed = [] → ∀ j, j < ops.size → listed.getD j true = true := by
  intro listed hp j hj
  cases hb : listed.getD j true with
  | true => rfl
  | false =>
   have := mem_pend.2 ⟨hj, hb⟩
   rw [hp] at this
   cases this
 intro fuel
 induction fuel with
 | zero =>
  intro listed s w hI hz hlen Q hQ a ha
  have hp : pend ops listed = [] := List.eq_nil_of_length_eq_zero (by omega)
  refine ⟨?_, hQ s a w ha (fin listed s w (hall listed hp) hI)⟩
  cases hr : Region.ready .any ops listed with
  | nil => rfl
  | cons i rest =>
   exfalso
   obtain ⟨h0, o, ho, _⟩ := mem_ready.1 (show i ∈ Region.ready .any ops listed by rw [hr]; simp)
   have : i ∈ pend ops listed := mem_pend.2 ⟨(Array.getElem?_eq_some_iff.1 ho).1, h0⟩
   rw [hp] at this
   cases this
 | succ fuel ih =>
  intro listed s w hI hz hlen Q hQ a ha
  refine ⟨fun hr => hQ s a w ha (fin listed s w (hall listed (hdone listed hz hr)) hI), fun i hi => ?_⟩
  obtain ⟨h0, o, ho, hedges⟩ := mem_ready.1 hi
  have hilt := (Array.getElem?_eq_some_iff.1 ho).1
  have hlen2 : (pend ops (listed.setIfInBounds i true)).length ≤ fuel := by
   have him : i ∈ pend ops listed := mem_pend.2 ⟨hilt, h0⟩
   obtain ⟨pre, suf, hsplit⟩ := List.append_of_mem him
   have hnd := pend_nodup (ops := ops) listed
   have hset : pend ops (listed.setIfInBounds i true) = pre ++ suf := by
    rw [pend_set, hsplit, filter_split (by rw [← hsplit]; exact hnd)]
   have : (pend ops listed).length = (pre ++ suf).length + 1 := by rw [hsplit]; simp; omega
   rw [hset]
   omega
  obtain ⟨g1, g2⟩ := step listed s w i o hI ho h0 hz (fun e he hb => hedges e (by simpa using he) hb)
  unfold wpOp
  rw [ho]
  simp only
  rw [if_pos (by simp [Region.wanted, g1])]
  exact .inl (g2 a Q _ (fun s' a' w' h1 h2 => ih _ s' w' h2 (by simpa using hz) hlen2 Q hQ a' h1) ha)
theorem W.drawn {i : Nat} (hm : P.follows .mixedOrders = true) (I : Array Bool → (Nat → Value) → World → Prop) (hback : ∀ (j : Nat) (o : Oper), ops[j]? = some o → ∀ e ∈ o.after.toList, e.on < j)
  (step : ∀ (listed : Array Bool) (s : Nat → Value) (w : World) (i : Nat) (o : Oper), I listed s w → ops[i]? = some o → listed.getD i true = false → listed.size = ops.size → (∀ e ∈ o.after.toList, Region.binds .any e = true → listed.getD e.on false = true) → O1 P n o s w (fun s' w' => I (listed.setIfInBounds i true) s' w'))
  (fin : ∀ (listed : Array Bool) (s : Nat → Value) (w : World), (∀ j, j < ops.size → listed.getD j true = true) → I listed s w → J .normal s w) (h0 : I (Array.replicate ops.size false) s { w with drawn := w.drawn + 1 }) : W P n (.region i ops true) s w J := by
 intro Q hQ a ha
 refine wp_region_any hm ?_
 exact any_gen I hback step fin ops.size _ s _ h0 (by simp) (by rw [pend_start]; simp) Q (fun s' a' w' h1 h2 => hQ _ _ _ _ h1 h2) a ha
theorem W.skip (h : J .normal s w) : W P n .skip s w J := fun Q hQ a ha => wp_skip (hQ _ _ _ _ ha h)
theorem W.exit {i : Nat} (h : J (.exit i) s w) : W P n (.exit i) s w J := fun Q hQ a ha => wp_exit (hQ _ _ _ _ ha h)
theorem W.ret (h : J .ret s w) : W P n .ret s w J := fun Q hQ a ha => wp_ret (hQ _ _ _ _ ha h)
theorem W.region {i : Nat} (h : R P n ops ops.toList s w (J .normal)) : W P n (.region i ops false) s w J := fun Q hQ a ha => wp_region_list (h Q (fun s' a' w' h1 h2 => hQ _ _ _ _ h1 h2) a ha)
def thenW (P : Program) (n : Nat) (c : Code) (J : Exit → (Nat → Value) → World → Prop) : Exit → (Nat → Value) → World → Prop
 | .normal, s, w => W P n c s w J
 | e, s, w => J e s w
theorem W.seq (h : W P n c1 s w (thenW P n c2 J)) : W P n (.seq c1 c2) s w J := by
 intro Q hQ a ha
 refine wp_seq (h _ (fun e s' a' w' h1 h2 => ?_) a ha)
 cases e with
 | normal => exact h2 Q hQ a' h1
 | _ => exact hQ _ _ _ _ h1 h2
theorem W.cond {y : Operand} {b : Bool} (hb : evs s y = .bool b) (h : W P n (if b then c1 else c2) s w J) : W P n (.cond y c1 c2) s w J := fun Q hQ a ha => wp_cond (by rw [ha.eval]; exact hb) (h Q hQ a ha)
def outW (i : Nat) (J : Exit → (Nat → Value) → World → Prop) : Exit → (Nat → Value) → World → Prop
 | .exit j, s, w => if j = i then J .normal s w else J (.exit j) s w
 | e, s, w => J e s w
theorem W.block {i : Nat} (h : W P n c s w (outW i J)) : W P n (.block i c) s w J := by
 intro Q hQ a ha
 refine wp_block (h _ (fun e s' a' w' h1 h2 => ?_) a ha)
 cases e with
 | exit j =>
  show (if j = i then _ else _)
  simp only [outW] at h2
  split
  ·rename_i e; rw [if_pos e] at h2; exact hQ _ _ _ _ h1 h2
  ·rename_i e; rw [if_neg e] at h2; exact hQ _ _ _ _ h1 h2
 | _ => exact hQ _ _ _ _ h1 h2
open Classical in
theorem W.loop (I : Nat → (Nat → Value) → World → Prop) {m : Nat} (h0 : I m s w) (round : ∀ m s w, I m s w → W P n c s w (fun e s' w' => match e with
   | .normal => ∃ m', m' < m ∧ I m' s' w'
   | e => J e s' w')) : W P n (.loop c) s w J := by
 intro Q hQ a ha
 have least : ∀ (p : Nat → Prop), (∃ m, p m) → ∃ m, p m ∧ ∀ k, p k → m ≤ k := by
  intro p ⟨m, hm⟩
  induction m using Nat.strongRecOn with
  | _ m ih =>
   by_cases h : ∃ k, k < m ∧ p k
   ·obtain ⟨k, hk, hp⟩ := h
    exact ih k hk hp
   ·exact ⟨m, hm, fun k hk => Nat.le_of_not_lt fun hlt => h ⟨k, hlt, hk⟩⟩
 let p : Act → World → Nat → Prop := fun a w m => ∃ s, Ag n s a ∧ I m s w
 refine wp_loop (fun a w => ∃ m, p a w m) (fun a w => if h : ∃ m, p a w m then (least _ h).choose else 0) ⟨m, s, ha, h0⟩ (fun a w h => ?_)
 obtain ⟨⟨s1, h1, h2⟩, h3⟩ := (least _ h).choose_spec
 refine round _ s1 w h2 _ (fun e s' a' w' g1 g2 => ?_) a h1
 cases e with
 | normal =>
  obtain ⟨m', hlt, hI⟩ := g2
  have hex : ∃ m, p a' w' m := ⟨m', s', g1, hI⟩
  refine ⟨hex, ?_⟩
  show (if h : ∃ m, p a' w' m then (least _ h).choose else 0) < (if h : ∃ m, p a w m then (least _ h).choose else 0)
  rw [dif_pos hex, dif_pos h]
  exact Nat.lt_of_le_of_lt ((least _ hex).choose_spec.2 m' ⟨s', g1, hI⟩) hlt
 | _ => exact hQ _ _ _ _ g1 g2
theorem calls_W {f : Nat} {fn : Func} {args : Array Value} {r : Nat} {B : Ending → World → Prop} (hf : P.funcs[f]? = some fn) (hb : fn.body = some c) (hr : fn.results = #[.tmp r]) (hn : args.size ≤ fn.ntmps)
  (h : W P fn.ntmps c (fun i => args.getD i undef) w (fun e s' w' => match e with
   | .ret => B (.returned (s' r)) w'
   | .normal => B (.returned (s' r)) w'
   | _ => False)) : Calls P f args w B := by
 refine calls_of_wp hf hb ?_
 have ha := Ag.enter args (fn.ntmps - args.size)
 rw [Nat.add_sub_cancel' hn] at ha
 have hres : ∀ (s' : Nat → Value) (a' : Act) (w' : World), Ag fn.ntmps s' a' → (results fn a'.tmps).run P w' = .ok (s' r) w' := by
  intro s' a' w' h
  simp only [results, hr]
  simp [h.at_]
 refine h _ (fun e s' a' w' h1 h2 => ?_) _ ha
 cases e with
 | ret => exact ⟨h1.dz, _, hres s' a' w' h1, h2⟩
 | normal => exact ⟨h1.dz, _, hres s' a' w' h1, h2⟩
 | _ => exact h2.elim
def flatC : Code → List Code
 | .seq a b => flatC a ++ flatC b
 | c => [c]
def WL (P : Program) (n : Nat) : List Code → (Nat → Value) → World → (Exit → (Nat → Value) → World → Prop) → Prop
 | [], s, w, J => J .normal s w
 | c :: cs, s, w, J => W P n c s w (fun e s' w' => match e with
  | .normal => WL P n cs s' w' J
  | e => J e s' w')
theorem WL.mono : ∀ {cs : List Code} {s : Nat → Value} {w : World} {J J' : Exit → (Nat → Value) → World → Prop}, WL P n cs s w J → (∀ e s' w', J e s' w' → J' e s' w') → WL P n cs s w J' := by
 intro cs
 induction cs with
 | nil => intro s w J J' h hk; exact hk _ _ _ h
 | cons c cs ih =>
  intro s w J J' h hk
  refine W.mono h (fun e s' w' h => ?_)
  cases e with
  | normal => exact ih h hk
  | _ => exact hk _ _ _ h
theorem WL.flat : ∀ (c : Code) (rest : List Code) (s : Nat → Value) (w : World) (J : Exit → (Nat → Value) → World → Prop), WL P n (flatC c ++ rest) s w J → WL P n (c :: rest) s w J := by
 intro c
 induction c with
 | seq a b iha ihb =>
  intro rest s w J h
  rw [flatC, List.append_assoc] at h
  have h := iha _ _ _ _ h
  refine W.seq (W.mono h (fun e s' w' h => ?_))
  cases e with
  | normal => exact ihb rest s' w' J h
  | _ => exact h
 | _ => intro rest s w J h; exact h
theorem WL.code (h : WL P n (flatC c) s w J) : W P n c s w J := by
 have := WL.flat c [] s w J (by rw [List.append_nil]; exact h)
 refine W.mono this (fun e s' w' h => ?_)
 cases e with
 | normal => exact h
 | _ => exact h
end
end Go.Am
end
