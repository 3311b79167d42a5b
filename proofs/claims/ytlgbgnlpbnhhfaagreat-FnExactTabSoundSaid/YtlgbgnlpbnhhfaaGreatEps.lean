/-
  Typed forms of functions of the program, written by program (eform.py): each over structures and lists, and that, where it answers, the extracted function hands on that answer.
-/
import Derived.Test.YtlgbgnlpbnhhfaaGreatAmTyped
import Derived.Test.YtlgbgnlpbnhhfaaGreatTy
import Derived.Test.YtlgbgnlpbnhhfaaGreatFps
import Derived.Test.YtlgbgnlpbnhhfaaGreatTps
set_option maxRecDepth 10000
set_option linter.unusedVariables false
namespace Go.Am
open Go Go.Proofs
variable {β : Type}
/-- spec.HasAddr -/
noncomputable def sHasAddr (l : List TAddr) (a : TAddr) : Option Bool :=
  (forE l (fun (i_1 : Nat) (x_1 : TAddr) (s1 : Unit) => (
    br ((x_1.xHost == a.xHost) && ((x_1.xPath == a.xPath) && true)) (
      some (.inr (.inl ()))
    ) (
      some (.inl ())
    )
  : Option (Unit ⊕ (Unit ⊕ Unit)))) (fun (s1 : Unit) => (.inr () : Unit ⊕ Unit)) (() : Unit)).bind <|
  Sum.elim
    (fun (r3 : Unit) =>
      some true
    )
    (fun (r3 : Unit) =>
      some false
    )
theorem ei_sHasAddr (l : List TAddr) (a : TAddr) (k : Bool → Option β) : Imp (F132 β (rows kAddr TAddr.row l) a.xHost a.xPath k) (sHasAddr l a) (fun r => k r) := by
  delta F132 P132 sHasAddr
  refine Imp.for (enc := fun (i_1 : Nat) (s1 : Unit) => [.l (rows kAddr TAddr.row l), .i (i_1 : Int), .s a.xHost, .s a.xPath]) (encR := Sum.elim (fun (u : Unit) => (((0, [.b true]) : Nat × List Leaf))) (fun (u : Unit) => (((1, []) : Nat × List Leaf)))) rfl (fun i_1 x_1 s1 hx1 hl1 hm1 => Imp.brT (T_lt (ks := kAddr) (g := TAddr.row) hl1) ?_) (fun s1 => brN (T_irr (ks := kAddr) (g := TAddr.row) l) rfl) (fun r3 => ?_)
  · refine Imp.idxFor (ks := kAddr) (g := TAddr.row) hx1 ?_
    refine Imp.br rfl ?_ ?_
    · exact Imp.ret rfl
    · exact Imp.ret (c1 (fun (h1 : Int) => (some (Sum.inl [.l (rows kAddr TAddr.row l), .i h1, .s a.xHost, .s a.xPath]) : Option (List Leaf ⊕ (Nat × List Leaf)))) (wrapJ hl1))
  · cases r3 with
    | inl r3 =>
      refine Imp.ifT rfl ?_
      exact Imp.ret rfl
    | inr r3 =>
      refine Imp.ifF (show ¬ ((1 : Nat) = 0) by decide) ?_
      exact Imp.ret rfl

/-- spec.RanOnce -/
noncomputable def sRanOnce (p : TPage) : Option Bool :=
  (forE p.xRan (fun (i_1 : Nat) (x_1 : TAddr) (s1 : Unit) => (
    chk (0 ≤ (0 : Int) ∧ (0 : Int) ≤ (i_1 : Int) ∧ (i_1 : Int) ≤ (p.xRan.length : Int)) <|
    (sHasAddr ((p.xRan.take ((i_1 : Int).toNat)).drop 0) x_1).bind fun (r3 : Bool) =>
    br r3 (
      some (.inr (.inl ()))
    ) (
      some (.inl ())
    )
  : Option (Unit ⊕ (Unit ⊕ Unit)))) (fun (s1 : Unit) => (.inr () : Unit ⊕ Unit)) (() : Unit)).bind <|
  Sum.elim
    (fun (r4 : Unit) =>
      some false
    )
    (fun (r4 : Unit) =>
      some true
    )
theorem ei_sRanOnce (p : TPage) (k : Bool → Option β) : Imp (F59 β p.xAddr.xHost p.xAddr.xPath p.xPolicy.xSet (rStr p.xPolicy.xScripts) (rStr p.xPolicy.xStyles) (rStr p.xPolicy.xImages) p.xPolicy.xNonce p.xTok.xRest (rows kToken TToken.row p.xQueue) p.xEnded (rows kNode TNode.row p.xBuilder.xNodes) (rInt p.xBuilder.xOpen) (rows kSlot TSlot.row p.xSlots) (rows kModule TModule.row p.xMods) (rows kAddr TAddr.row p.xEntries) p.xBlock p.xInline p.xDeferred p.xEntered (rows kAddr TAddr.row p.xRan) (rStr p.xLog) p.xLoaded k) (sRanOnce p) (fun r => k r) := by
  delta F59 P59 sRanOnce
  refine Imp.for (enc := fun (i_1 : Nat) (s1 : Unit) => [.i (i_1 : Int), .s p.xAddr.xHost, .s p.xAddr.xPath, .b p.xPolicy.xSet, .l (rStr p.xPolicy.xScripts), .l (rStr p.xPolicy.xStyles), .l (rStr p.xPolicy.xImages), .s p.xPolicy.xNonce, .s p.xTok.xRest, .l (rows kToken TToken.row p.xQueue), .b p.xEnded, .l (rows kNode TNode.row p.xBuilder.xNodes), .l (rInt p.xBuilder.xOpen), .l (rows kSlot TSlot.row p.xSlots), .l (rows kModule TModule.row p.xMods), .l (rows kAddr TAddr.row p.xEntries), .i p.xBlock, .i p.xInline, .i p.xDeferred, .i p.xEntered, .l (rows kAddr TAddr.row p.xRan), .l (rStr p.xLog), .b p.xLoaded]) (encR := Sum.elim (fun (u : Unit) => (((0, [.b false]) : Nat × List Leaf))) (fun (u : Unit) => (((1, []) : Nat × List Leaf)))) rfl (fun i_1 x_1 s1 hx1 hl1 hm1 => Imp.brT (T_lt (ks := kAddr) (g := TAddr.row) hl1) ?_) (fun s1 => brN (T_irr (ks := kAddr) (g := TAddr.row) p.xRan) rfl) (fun r4 => ?_)
  · refine Imp.chk (c1 (fun z0 : Nat => 0 ≤ (0 : Int) ∧ (0 : Int) ≤ (i_1 : Int) ∧ (i_1 : Int) ≤ (z0 : Int)) (T_len (ks := kAddr) (g := TAddr.row) p.xRan)) (fun _ => ?_)
    refine Imp.idxFor (ks := kAddr) (g := TAddr.row) hx1 ?_
    refine Imp.call (c1 (fun (w1 : List V) => F132 _ w1 x_1.xHost x_1.xPath) (T_cut (ks := kAddr) (g := TAddr.row) p.xRan ((i_1 : Int).toNat) 0)) (ei_sHasAddr ((p.xRan.take ((i_1 : Int).toNat)).drop 0) x_1 _) (fun r3 _ => ?_)
    refine Imp.br rfl ?_ ?_
    · exact Imp.ret rfl
    · exact Imp.ret (c1 (fun (h1 : Int) => (some (Sum.inl [.i h1, .s p.xAddr.xHost, .s p.xAddr.xPath, .b p.xPolicy.xSet, .l (rStr p.xPolicy.xScripts), .l (rStr p.xPolicy.xStyles), .l (rStr p.xPolicy.xImages), .s p.xPolicy.xNonce, .s p.xTok.xRest, .l (rows kToken TToken.row p.xQueue), .b p.xEnded, .l (rows kNode TNode.row p.xBuilder.xNodes), .l (rInt p.xBuilder.xOpen), .l (rows kSlot TSlot.row p.xSlots), .l (rows kModule TModule.row p.xMods), .l (rows kAddr TAddr.row p.xEntries), .i p.xBlock, .i p.xInline, .i p.xDeferred, .i p.xEntered, .l (rows kAddr TAddr.row p.xRan), .l (rStr p.xLog), .b p.xLoaded]) : Option (List Leaf ⊕ (Nat × List Leaf)))) (wrapJ hl1))
  · cases r4 with
    | inl r4 =>
      refine Imp.ifT rfl ?_
      exact Imp.ret rfl
    | inr r4 =>
      refine Imp.ifF (show ¬ ((1 : Nat) = 0) by decide) ?_
      exact Imp.ret rfl

/-- spec.l1In -/
noncomputable def sl1In (x : Int) (least : Int) (most : Int) : Option Bool :=
  br (decide (x ≥ least)) (
    some (decide (x ≤ most))
  ) (
    some false
  )
theorem ei_sl1In (x : Int) (least : Int) (most : Int) (k : Bool → Option β) : Imp (F133 β x least most k) (sl1In x least most) (fun r => k r) := by
  delta F133 P133 sl1In
  refine Imp.br rfl ?_ ?_
  · exact Imp.ret rfl
  · exact Imp.ret rfl

/-- spec.IsVoid -/
noncomputable def sIsVoid (name : List UInt8) : Option Bool :=
  br (name == [105, 109, 103]) (
    some true
  ) (
    some (name == [108, 105, 110, 107])
  )
theorem ei_sIsVoid (name : List UInt8) (k : Bool → Option β) : Imp (F135 β name k) (sIsVoid name) (fun r => k r) := by
  delta F135 P135 sIsVoid
  refine Imp.br rfl ?_ ?_
  · exact Imp.ret rfl
  · exact Imp.ret rfl

/-- spec.IsName -/
noncomputable def sIsName (s : List UInt8) : Option Bool :=
  (forE s (fun (i_1 : Nat) (x_1 : UInt8) (s1 : Unit) => (
    br (decide ((x_1.toNat : Int) < 97)) (
      some (.inr (.inl ()))
    ) (
      br (decide ((x_1.toNat : Int) > 122)) (
        some (.inr (.inl ()))
      ) (
        some (.inl ())
      )
    )
  : Option (Unit ⊕ (Unit ⊕ Unit)))) (fun (s1 : Unit) => (.inr () : Unit ⊕ Unit)) (() : Unit)).bind <|
  Sum.elim
    (fun (r4 : Unit) =>
      some false
    )
    (fun (r4 : Unit) =>
      (sl1In (s.length : Int) 1 8).bind fun (r5 : Bool) =>
      some r5
    )
theorem ei_sIsName (s : List UInt8) (k : Bool → Option β) : Imp (F179 β s k) (sIsName s) (fun r => k r) := by
  delta F179 P179 sIsName
  refine Imp.for (enc := fun (i_1 : Nat) (s1 : Unit) => [.s s, .i (i_1 : Int)]) (encR := Sum.elim (fun (u : Unit) => (((0, [.s s, .b false]) : Nat × List Leaf))) (fun (u : Unit) => (((1, [.s s]) : Nat × List Leaf)))) rfl (fun i_1 x_1 s1 hx1 hl1 hm1 => Imp.brT (Int.ofNat_lt.2 hl1) ?_) (fun s1 => brN (Int.lt_irrefl _) rfl) (fun r4 => ?_)
  · refine Imp.idxSFor hx1 ?_
    refine Imp.br rfl ?_ ?_
    · exact Imp.ret rfl
    · refine Imp.idxSFor hx1 ?_
      refine Imp.br rfl ?_ ?_
      · exact Imp.ret rfl
      · exact Imp.ret (c1 (fun (h1 : Int) => (some (Sum.inl [.s s, .i h1]) : Option (List Leaf ⊕ (Nat × List Leaf)))) (wrapJ hl1))
  · cases r4 with
    | inl r4 =>
      refine Imp.ifT rfl ?_
      exact Imp.ret rfl
    | inr r4 =>
      refine Imp.ifF (show ¬ ((1 : Nat) = 0) by decide) ?_
      refine Imp.call rfl (ei_sl1In (s.length : Int) 1 8 _) (fun r5 _ => ?_)
      exact Imp.ret rfl

/-- spec.l6Node -/
noncomputable def sl6Node (b : TBuilder) (i : Int) : Option Bool :=
  (getI b.xNodes i).bind fun (e1 : TNode) =>
  (sl1In e1.xParent 0 (IntKind.wrap .i64 (i - 1))).bind fun (r2 : Bool) =>
  br (!r2) (
    some false
  ) (
    (getI b.xNodes e1.xParent).bind fun (e3 : TNode) =>
    br (e3.xName == []) (
      some false
    ) (
      (getI b.xNodes e1.xParent).bind fun (e4 : TNode) =>
      (sIsVoid e4.xName).bind fun (r5 : Bool) =>
      br r5 (
        some false
      ) (
        br (e1.xName == []) (
          br (!(e1.xText == [])) (
            some ((e1.xAttrs.length : Int) == 0)
          ) (
            some false
          )
        ) (
          (sIsName e1.xName).bind fun (r6 : Bool) =>
          br r6 (
            some (e1.xText == [])
          ) (
            some false
          )
        )
      )
    )
  )
theorem ei_sl6Node (b : TBuilder) (i : Int) (k : Bool → Option β) : Imp (F134 β (rows kNode TNode.row b.xNodes) (rInt b.xOpen) i k) (sl6Node b i) (fun r => k r) := by
  delta F134 P134 sl6Node
  refine Imp.idx (ks := kNode) (g := TNode.row) rfl rfl (fun e1 _ => ?_)
  refine Imp.call rfl (ei_sl1In e1.xParent 0 (IntKind.wrap .i64 (i - 1)) _) (fun r2 _ => ?_)
  refine Imp.br rfl ?_ ?_
  · exact Imp.ret rfl
  · refine Imp.idx (ks := kNode) (g := TNode.row) rfl rfl (fun e3 _ => ?_)
    refine Imp.br rfl ?_ ?_
    · exact Imp.ret rfl
    · refine Imp.idx (ks := kNode) (g := TNode.row) rfl rfl (fun e4 _ => ?_)
      refine Imp.call rfl (ei_sIsVoid e4.xName _) (fun r5 _ => ?_)
      refine Imp.br rfl ?_ ?_
      · exact Imp.ret rfl
      · refine Imp.br rfl ?_ ?_
        · refine Imp.br rfl ?_ ?_
          · exact Imp.ret (c1 (fun (h1 : Bool) => k h1) (c1 (fun z0 : Nat => ((z0 : Int) == 0)) (T_len (ks := kAttr) (g := TAttr.row) e1.xAttrs)))
          · exact Imp.ret rfl
        · refine Imp.call rfl (ei_sIsName e1.xName _) (fun r6 _ => ?_)
          refine Imp.br rfl ?_ ?_
          · exact Imp.ret rfl
          · exact Imp.ret rfl

/-- spec.IsBuilder -/
noncomputable def sIsBuilder (b : TBuilder) : Option Bool :=
  (sl1In (b.xNodes.length : Int) 1 40).bind fun (r1 : Bool) =>
  br (!r1) (
    some false
  ) (
    (sl1In (b.xOpen.length : Int) 1 8).bind fun (r2 : Bool) =>
    br (!r2) (
      some false
    ) (
      (getI b.xOpen (0 : Int)).bind fun (e3 : Int) =>
      br (e3 != 0) (
        some false
      ) (
        (getI b.xNodes (0 : Int)).bind fun (e4 : TNode) =>
        br (!(e4.xName == [112, 97, 103, 101])) (
          some false
        ) (
          br (e4.xParent != (-1)) (
            some false
          ) (
            br (!(e4.xText == [])) (
              some false
            ) (
              br ((e4.xAttrs.length : Int) != 0) (
                some false
              ) (
                (whileE (fun (s5 : Int) => (
                  br (decide (s5 < (b.xNodes.length : Int))) (
                    (sl6Node b s5).bind fun (r6 : Bool) =>
                    br (!r6) (
                      some (.inr (.inl ()))
                    ) (
                      some (.inl (IntKind.wrap .i64 (s5 + 1)))
                    )
                  ) (
                    some (.inr (.inr ()))
                  )
                : Option (Int ⊕ (Unit ⊕ Unit)))) (1 : Int)).bind <|
                Sum.elim
                  (fun (r7 : Unit) =>
                    some false
                  )
                  (fun (r7 : Unit) =>
                    (whileE (fun (s8 : Int) => (
                      br (decide (s8 < (b.xOpen.length : Int))) (
                        (getI b.xOpen s8).bind fun (e9 : Int) =>
                        (sl1In e9 1 (IntKind.wrap .i64 ((b.xNodes.length : Int) - 1))).bind fun (r10 : Bool) =>
                        br (!r10) (
                          some (.inr (.inl ()))
                        ) (
                          (getI b.xNodes e9).bind fun (e11 : TNode) =>
                          br (e11.xName == []) (
                            some (.inr (.inl ()))
                          ) (
                            (getI b.xNodes e9).bind fun (e12 : TNode) =>
                            (sIsVoid e12.xName).bind fun (r13 : Bool) =>
                            br r13 (
                              some (.inr (.inl ()))
                            ) (
                              (getI b.xNodes e9).bind fun (e14 : TNode) =>
                              (getI b.xOpen (IntKind.wrap .i64 (s8 - 1))).bind fun (e15 : Int) =>
                              br (e14.xParent != e15) (
                                some (.inr (.inl ()))
                              ) (
                                some (.inl (IntKind.wrap .i64 (s8 + 1)))
                              )
                            )
                          )
                        )
                      ) (
                        some (.inr (.inr ()))
                      )
                    : Option (Int ⊕ (Unit ⊕ Unit)))) (1 : Int)).bind <|
                    Sum.elim
                      (fun (r16 : Unit) =>
                        some false
                      )
                      (fun (r16 : Unit) =>
                        some true
                      )
                  )
              )
            )
          )
        )
      )
    )
  )
theorem ei_sIsBuilder (b : TBuilder) (k : Bool → Option β) : Imp (F60 β (rows kNode TNode.row b.xNodes) (rInt b.xOpen) k) (sIsBuilder b) (fun r => k r) := by
  delta F60 P60 sIsBuilder
  refine Imp.call (c1 (fun (w1 : Int) => F133 _ w1 1 40) (c1 (fun z0 : Nat => (z0 : Int)) (T_len (ks := kNode) (g := TNode.row) b.xNodes))) (ei_sl1In (b.xNodes.length : Int) 1 40 _) (fun r1 _ => ?_)
  refine Imp.br rfl ?_ ?_
  · exact Imp.ret rfl
  · refine Imp.call (c1 (fun (w1 : Int) => F133 _ w1 1 8) (c1 (fun z0 : Nat => (z0 : Int)) (U_len (kd := (.int .i64)) (g1 := fun e => e) b.xOpen))) (ei_sl1In (b.xOpen.length : Int) 1 8 _) (fun r2 _ => ?_)
    refine Imp.br rfl ?_ ?_
    · exact Imp.ret rfl
    · refine Imp.idxC1 (kd := (.int .i64)) (g1 := fun e => e) rfl rfl (fun e3 _ => ?_)
      refine Imp.br rfl ?_ ?_
      · exact Imp.ret rfl
      · refine Imp.idxC (ks := kNode) (g := TNode.row) rfl rfl (fun e4 _ => ?_)
        refine Imp.br rfl ?_ ?_
        · exact Imp.ret rfl
        · refine Imp.br rfl ?_ ?_
          · exact Imp.ret rfl
          · refine Imp.br rfl ?_ ?_
            · exact Imp.ret rfl
            · refine Imp.br (c1 (fun z0 : Nat => ((z0 : Int) != 0)) (T_len (ks := kAttr) (g := TAttr.row) e4.xAttrs)) ?_ ?_
              · exact Imp.ret rfl
              · refine Imp.while (enc := fun (s5 : Int) => [.i s5, .l (rows kNode TNode.row b.xNodes), .l (rInt b.xOpen)]) (encR := Sum.elim (fun (u : Unit) => (((0, [.b false, .l (rows kNode TNode.row b.xNodes), .l (rInt b.xOpen)]) : Nat × List Leaf))) (fun (u : Unit) => (((1, [.l (rows kNode TNode.row b.xNodes), .l (rInt b.xOpen)]) : Nat × List Leaf)))) rfl (fun s5 => ?_) (fun r7 => ?_)
                · refine Imp.br (c1 (fun z0 : Nat => (decide (s5 < (z0 : Int)))) (T_len (ks := kNode) (g := TNode.row) b.xNodes)) ?_ ?_
                  · refine Imp.call rfl (ei_sl6Node b s5 _) (fun r6 _ => ?_)
                    refine Imp.br rfl ?_ ?_
                    · exact Imp.ret rfl
                    · exact Imp.ret rfl
                  · exact Imp.ret rfl
                · cases r7 with
                  | inl r7 =>
                    refine Imp.ifT rfl ?_
                    exact Imp.ret rfl
                  | inr r7 =>
                    refine Imp.ifF (show ¬ ((1 : Nat) = 0) by decide) ?_
                    refine Imp.while (enc := fun (s8 : Int) => [.i s8, .l (rows kNode TNode.row b.xNodes), .l (rInt b.xOpen)]) (encR := Sum.elim (fun (u : Unit) => (((0, [.b false]) : Nat × List Leaf))) (fun (u : Unit) => (((1, []) : Nat × List Leaf)))) rfl (fun s8 => ?_) (fun r16 => ?_)
                    · refine Imp.br (c1 (fun z0 : Nat => (decide (s8 < (z0 : Int)))) (U_len (kd := (.int .i64)) (g1 := fun e => e) b.xOpen)) ?_ ?_
                      · refine Imp.idx1 (kd := (.int .i64)) (g1 := fun e => e) rfl rfl (fun e9 _ => ?_)
                        refine Imp.call (c1 (fun (w1 : Int) => F133 _ e9 1 w1) (c1 (fun z0 : Nat => (IntKind.wrap .i64 ((z0 : Int) - 1))) (T_len (ks := kNode) (g := TNode.row) b.xNodes))) (ei_sl1In e9 1 (IntKind.wrap .i64 ((b.xNodes.length : Int) - 1)) _) (fun r10 _ => ?_)
                        refine Imp.br rfl ?_ ?_
                        · exact Imp.ret rfl
                        · refine Imp.idx (ks := kNode) (g := TNode.row) rfl rfl (fun e11 _ => ?_)
                          refine Imp.br rfl ?_ ?_
                          · exact Imp.ret rfl
                          · refine Imp.idx (ks := kNode) (g := TNode.row) rfl rfl (fun e12 _ => ?_)
                            refine Imp.call rfl (ei_sIsVoid e12.xName _) (fun r13 _ => ?_)
                            refine Imp.br rfl ?_ ?_
                            · exact Imp.ret rfl
                            · refine Imp.idx (ks := kNode) (g := TNode.row) rfl rfl (fun e14 _ => ?_)
                              refine Imp.idx1 (kd := (.int .i64)) (g1 := fun e => e) rfl rfl (fun e15 _ => ?_)
                              refine Imp.br rfl ?_ ?_
                              · exact Imp.ret rfl
                              · exact Imp.ret rfl
                      · exact Imp.ret rfl
                    · cases r16 with
                      | inl r16 =>
                        refine Imp.ifT rfl ?_
                        exact Imp.ret rfl
                      | inr r16 =>
                        refine Imp.ifF (show ¬ ((1 : Nat) = 0) by decide) ?_
                        exact Imp.ret rfl

/-- spec.IsParsed -/
noncomputable def sIsParsed (p : TPage) : Option Bool :=
  br p.xEnded (
    br ((p.xQueue.length : Int) == 0) (
      br (p.xBlock == 0) (
        some (p.xInline == 0)
      ) (
        some false
      )
    ) (
      some false
    )
  ) (
    some false
  )
theorem ei_sIsParsed (p : TPage) (k : Bool → Option β) : Imp (F61 β p.xAddr.xHost p.xAddr.xPath p.xPolicy.xSet (rStr p.xPolicy.xScripts) (rStr p.xPolicy.xStyles) (rStr p.xPolicy.xImages) p.xPolicy.xNonce p.xTok.xRest (rows kToken TToken.row p.xQueue) p.xEnded (rows kNode TNode.row p.xBuilder.xNodes) (rInt p.xBuilder.xOpen) (rows kSlot TSlot.row p.xSlots) (rows kModule TModule.row p.xMods) (rows kAddr TAddr.row p.xEntries) p.xBlock p.xInline p.xDeferred p.xEntered (rows kAddr TAddr.row p.xRan) (rStr p.xLog) p.xLoaded k) (sIsParsed p) (fun r => k r) := by
  delta F61 P61 sIsParsed
  refine Imp.br rfl ?_ ?_
  · refine Imp.br (c1 (fun z0 : Nat => ((z0 : Int) == 0)) (T_len (ks := kToken) (g := TToken.row) p.xQueue)) ?_ ?_
    · refine Imp.br rfl ?_ ?_
      · exact Imp.ret rfl
      · exact Imp.ret rfl
    · exact Imp.ret rfl
  · exact Imp.ret rfl

/-- spec.OpenSlots -/
noncomputable def sOpenSlots (p : TPage) : Option (List Int) :=
  (forE p.xSlots (fun (i_1 : Nat) (x_1 : TSlot) (s1 : List Int) => (
    br (!x_1.xDone) (
      chk ((s1.length + 1) * 8 ≤ 140737488355328 ∧ s1.length + 1 ≤ 140737488355328) <|
      some (.inl (s1 ++ [(i_1 : Int)]))
    ) (
      some (.inl s1)
    )
  : Option ((List Int) ⊕ (List Int)))) (fun (s1 : List Int) => (s1 : List Int)) ([] : List Int)).bind <|
  fun (r3 : List Int) =>
  some r3
theorem ei_sOpenSlots (p : TPage) (k : List V → Option β) : Imp (F62 β p.xAddr.xHost p.xAddr.xPath p.xPolicy.xSet (rStr p.xPolicy.xScripts) (rStr p.xPolicy.xStyles) (rStr p.xPolicy.xImages) p.xPolicy.xNonce p.xTok.xRest (rows kToken TToken.row p.xQueue) p.xEnded (rows kNode TNode.row p.xBuilder.xNodes) (rInt p.xBuilder.xOpen) (rows kSlot TSlot.row p.xSlots) (rows kModule TModule.row p.xMods) (rows kAddr TAddr.row p.xEntries) p.xBlock p.xInline p.xDeferred p.xEntered (rows kAddr TAddr.row p.xRan) (rStr p.xLog) p.xLoaded k) (sOpenSlots p) (fun r => k (rInt r)) := by
  delta F62 P62 sOpenSlots
  refine Imp.for (enc := fun (i_1 : Nat) (s1 : List Int) => [.l (rInt s1), .i (i_1 : Int), .s p.xAddr.xHost, .s p.xAddr.xPath, .b p.xPolicy.xSet, .l (rStr p.xPolicy.xScripts), .l (rStr p.xPolicy.xStyles), .l (rStr p.xPolicy.xImages), .s p.xPolicy.xNonce, .s p.xTok.xRest, .l (rows kToken TToken.row p.xQueue), .b p.xEnded, .l (rows kNode TNode.row p.xBuilder.xNodes), .l (rInt p.xBuilder.xOpen), .l (rows kSlot TSlot.row p.xSlots), .l (rows kModule TModule.row p.xMods), .l (rows kAddr TAddr.row p.xEntries), .i p.xBlock, .i p.xInline, .i p.xDeferred, .i p.xEntered, .l (rows kAddr TAddr.row p.xRan), .l (rStr p.xLog), .b p.xLoaded]) (encR := fun (u : List Int) => (((0, [.l (rInt u)]) : Nat × List Leaf))) rfl (fun i_1 x_1 s1 hx1 hl1 hm1 => Imp.brT (T_lt (ks := kSlot) (g := TSlot.row) hl1) ?_) (fun s1 => brN (T_irr (ks := kSlot) (g := TSlot.row) p.xSlots) rfl) (fun r3 => ?_)
  · refine Imp.idxFor (ks := kSlot) (g := TSlot.row) hx1 ?_
    refine Imp.br rfl ?_ ?_
    · refine Imp.chk (c2 (fun z0 z1 : Nat => (z0 + 1) * 8 ≤ 140737488355328 ∧ z1 + 1 ≤ 140737488355328) (U_len (kd := (.int .i64)) (g1 := fun e => e) s1) (U_len (kd := (.int .i64)) (g1 := fun e => e) s1)) (fun _ => ?_)
      exact Imp.ret (c2 (fun (h1 : List V) (h2 : Int) => (some (Sum.inl [.l h1, .i h2, .s p.xAddr.xHost, .s p.xAddr.xPath, .b p.xPolicy.xSet, .l (rStr p.xPolicy.xScripts), .l (rStr p.xPolicy.xStyles), .l (rStr p.xPolicy.xImages), .s p.xPolicy.xNonce, .s p.xTok.xRest, .l (rows kToken TToken.row p.xQueue), .b p.xEnded, .l (rows kNode TNode.row p.xBuilder.xNodes), .l (rInt p.xBuilder.xOpen), .l (rows kSlot TSlot.row p.xSlots), .l (rows kModule TModule.row p.xMods), .l (rows kAddr TAddr.row p.xEntries), .i p.xBlock, .i p.xInline, .i p.xDeferred, .i p.xEntered, .l (rows kAddr TAddr.row p.xRan), .l (rStr p.xLog), .b p.xLoaded]) : Option (List Leaf ⊕ (Nat × List Leaf)))) (U_app (kd := (.int .i64)) (g1 := fun e => e) s1 [(i_1 : Int)]) (wrapJ hl1))
    · exact Imp.ret (c1 (fun (h1 : Int) => (some (Sum.inl [.l (rInt s1), .i h1, .s p.xAddr.xHost, .s p.xAddr.xPath, .b p.xPolicy.xSet, .l (rStr p.xPolicy.xScripts), .l (rStr p.xPolicy.xStyles), .l (rStr p.xPolicy.xImages), .s p.xPolicy.xNonce, .s p.xTok.xRest, .l (rows kToken TToken.row p.xQueue), .b p.xEnded, .l (rows kNode TNode.row p.xBuilder.xNodes), .l (rInt p.xBuilder.xOpen), .l (rows kSlot TSlot.row p.xSlots), .l (rows kModule TModule.row p.xMods), .l (rows kAddr TAddr.row p.xEntries), .i p.xBlock, .i p.xInline, .i p.xDeferred, .i p.xEntered, .l (rows kAddr TAddr.row p.xRan), .l (rStr p.xLog), .b p.xLoaded]) : Option (List Leaf ⊕ (Nat × List Leaf)))) (wrapJ hl1))
  · exact Imp.ret rfl

/-- spec.OpenMods -/
noncomputable def sOpenMods (p : TPage) : Option (List Int) :=
  (forE p.xMods (fun (i_1 : Nat) (x_1 : TModule) (s1 : List Int) => (
    br (!x_1.xDone) (
      chk ((s1.length + 1) * 8 ≤ 140737488355328 ∧ s1.length + 1 ≤ 140737488355328) <|
      some (.inl (s1 ++ [(i_1 : Int)]))
    ) (
      some (.inl s1)
    )
  : Option ((List Int) ⊕ (List Int)))) (fun (s1 : List Int) => (s1 : List Int)) ([] : List Int)).bind <|
  fun (r3 : List Int) =>
  some r3
theorem ei_sOpenMods (p : TPage) (k : List V → Option β) : Imp (F63 β p.xAddr.xHost p.xAddr.xPath p.xPolicy.xSet (rStr p.xPolicy.xScripts) (rStr p.xPolicy.xStyles) (rStr p.xPolicy.xImages) p.xPolicy.xNonce p.xTok.xRest (rows kToken TToken.row p.xQueue) p.xEnded (rows kNode TNode.row p.xBuilder.xNodes) (rInt p.xBuilder.xOpen) (rows kSlot TSlot.row p.xSlots) (rows kModule TModule.row p.xMods) (rows kAddr TAddr.row p.xEntries) p.xBlock p.xInline p.xDeferred p.xEntered (rows kAddr TAddr.row p.xRan) (rStr p.xLog) p.xLoaded k) (sOpenMods p) (fun r => k (rInt r)) := by
  delta F63 P63 sOpenMods
  refine Imp.for (enc := fun (i_1 : Nat) (s1 : List Int) => [.l (rInt s1), .i (i_1 : Int), .s p.xAddr.xHost, .s p.xAddr.xPath, .b p.xPolicy.xSet, .l (rStr p.xPolicy.xScripts), .l (rStr p.xPolicy.xStyles), .l (rStr p.xPolicy.xImages), .s p.xPolicy.xNonce, .s p.xTok.xRest, .l (rows kToken TToken.row p.xQueue), .b p.xEnded, .l (rows kNode TNode.row p.xBuilder.xNodes), .l (rInt p.xBuilder.xOpen), .l (rows kSlot TSlot.row p.xSlots), .l (rows kModule TModule.row p.xMods), .l (rows kAddr TAddr.row p.xEntries), .i p.xBlock, .i p.xInline, .i p.xDeferred, .i p.xEntered, .l (rows kAddr TAddr.row p.xRan), .l (rStr p.xLog), .b p.xLoaded]) (encR := fun (u : List Int) => (((0, [.l (rInt u)]) : Nat × List Leaf))) rfl (fun i_1 x_1 s1 hx1 hl1 hm1 => Imp.brT (T_lt (ks := kModule) (g := TModule.row) hl1) ?_) (fun s1 => brN (T_irr (ks := kModule) (g := TModule.row) p.xMods) rfl) (fun r3 => ?_)
  · refine Imp.idxFor (ks := kModule) (g := TModule.row) hx1 ?_
    refine Imp.br rfl ?_ ?_
    · refine Imp.chk (c2 (fun z0 z1 : Nat => (z0 + 1) * 8 ≤ 140737488355328 ∧ z1 + 1 ≤ 140737488355328) (U_len (kd := (.int .i64)) (g1 := fun e => e) s1) (U_len (kd := (.int .i64)) (g1 := fun e => e) s1)) (fun _ => ?_)
      exact Imp.ret (c2 (fun (h1 : List V) (h2 : Int) => (some (Sum.inl [.l h1, .i h2, .s p.xAddr.xHost, .s p.xAddr.xPath, .b p.xPolicy.xSet, .l (rStr p.xPolicy.xScripts), .l (rStr p.xPolicy.xStyles), .l (rStr p.xPolicy.xImages), .s p.xPolicy.xNonce, .s p.xTok.xRest, .l (rows kToken TToken.row p.xQueue), .b p.xEnded, .l (rows kNode TNode.row p.xBuilder.xNodes), .l (rInt p.xBuilder.xOpen), .l (rows kSlot TSlot.row p.xSlots), .l (rows kModule TModule.row p.xMods), .l (rows kAddr TAddr.row p.xEntries), .i p.xBlock, .i p.xInline, .i p.xDeferred, .i p.xEntered, .l (rows kAddr TAddr.row p.xRan), .l (rStr p.xLog), .b p.xLoaded]) : Option (List Leaf ⊕ (Nat × List Leaf)))) (U_app (kd := (.int .i64)) (g1 := fun e => e) s1 [(i_1 : Int)]) (wrapJ hl1))
    · exact Imp.ret (c1 (fun (h1 : Int) => (some (Sum.inl [.l (rInt s1), .i h1, .s p.xAddr.xHost, .s p.xAddr.xPath, .b p.xPolicy.xSet, .l (rStr p.xPolicy.xScripts), .l (rStr p.xPolicy.xStyles), .l (rStr p.xPolicy.xImages), .s p.xPolicy.xNonce, .s p.xTok.xRest, .l (rows kToken TToken.row p.xQueue), .b p.xEnded, .l (rows kNode TNode.row p.xBuilder.xNodes), .l (rInt p.xBuilder.xOpen), .l (rows kSlot TSlot.row p.xSlots), .l (rows kModule TModule.row p.xMods), .l (rows kAddr TAddr.row p.xEntries), .i p.xBlock, .i p.xInline, .i p.xDeferred, .i p.xEntered, .l (rows kAddr TAddr.row p.xRan), .l (rStr p.xLog), .b p.xLoaded]) : Option (List Leaf ⊕ (Nat × List Leaf)))) (wrapJ hl1))
  · exact Imp.ret rfl

/-- spec.l9Has -/
noncomputable def sl9Has (l : List (List UInt8)) (s : List UInt8) : Option Bool :=
  (forE l (fun (i_1 : Nat) (x_1 : List UInt8) (s1 : Unit) => (
    br (x_1 == s) (
      some (.inr (.inl ()))
    ) (
      some (.inl ())
    )
  : Option (Unit ⊕ (Unit ⊕ Unit)))) (fun (s1 : Unit) => (.inr () : Unit ⊕ Unit)) (() : Unit)).bind <|
  Sum.elim
    (fun (r3 : Unit) =>
      some true
    )
    (fun (r3 : Unit) =>
      some false
    )
theorem ei_sl9Has (l : List (List UInt8)) (s : List UInt8) (k : Bool → Option β) : Imp (F64 β (rStr l) s k) (sl9Has l s) (fun r => k r) := by
  delta F64 P64 sl9Has
  refine Imp.for (enc := fun (i_1 : Nat) (s1 : Unit) => [.l (rStr l), .s s, .i (i_1 : Int)]) (encR := Sum.elim (fun (u : Unit) => (((0, [.b true]) : Nat × List Leaf))) (fun (u : Unit) => (((1, []) : Nat × List Leaf)))) rfl (fun i_1 x_1 s1 hx1 hl1 hm1 => Imp.brT (U_lt (kd := .str) (g1 := fun e => e) hl1) ?_) (fun s1 => brN (U_irr (kd := .str) (g1 := fun e => e) l) rfl) (fun r3 => ?_)
  · refine Imp.idxFor1 (kd := .str) (g1 := fun e => e) hx1 ?_
    refine Imp.br rfl ?_ ?_
    · exact Imp.ret rfl
    · exact Imp.ret (c1 (fun (h1 : Int) => (some (Sum.inl [.l (rStr l), .s s, .i h1]) : Option (List Leaf ⊕ (Nat × List Leaf)))) (wrapJ hl1))
  · cases r3 with
    | inl r3 =>
      refine Imp.ifT rfl ?_
      exact Imp.ret rfl
    | inr r3 =>
      refine Imp.ifF (show ¬ ((1 : Nat) = 0) by decide) ?_
      exact Imp.ret rfl

/-- spec.PageSound -/
noncomputable def sPageSound (p : TPage) : Option Bool :=
  (forE p.xSlots (fun (i_1 : Nat) (x_1 : TSlot) (s1 : Unit) => (
    br (x_1.xCode != 1) (
      br (!(x_1.xBody == [])) (
        some (.inr (.inl ()))
      ) (
        some (.inl ())
      )
    ) (
      some (.inl ())
    )
  : Option (Unit ⊕ (Unit ⊕ Unit)))) (fun (s1 : Unit) => (.inr () : Unit ⊕ Unit)) (() : Unit)).bind <|
  Sum.elim
    (fun (r4 : Unit) =>
      some false
    )
    (fun (r4 : Unit) =>
      (forE p.xMods (fun (i_5 : Nat) (x_5 : TModule) (s5 : Unit) => (
        br (x_5.xCode != 1) (
          br (!(x_5.xBody == [])) (
            some (.inr (.inl ()))
          ) (
            some (.inl ())
          )
        ) (
          some (.inl ())
        )
      : Option (Unit ⊕ (Unit ⊕ Unit)))) (fun (s5 : Unit) => (.inr () : Unit ⊕ Unit)) (() : Unit)).bind <|
      Sum.elim
        (fun (r8 : Unit) =>
          some false
        )
        (fun (r8 : Unit) =>
          (sRanOnce p).bind fun (r9 : Bool) =>
          br (!r9) (
            some false
          ) (
            (sIsBuilder p.xBuilder).bind fun (r10 : Bool) =>
            br (!r10) (
              some false
            ) (
              br (!p.xLoaded) (
                some true
              ) (
                (sIsParsed p).bind fun (r11 : Bool) =>
                br r11 (
                  (sOpenSlots p).bind fun (r12 : List Int) =>
                  br ((r12.length : Int) == 0) (
                    (sOpenMods p).bind fun (r13 : List Int) =>
                    br ((r13.length : Int) == 0) (
                      (sl9Has p.xLog [108, 111, 97, 100]).bind fun (r14 : Bool) =>
                      br r14 (
                        some true
                      ) (
                        some ((p.xLog.length : Int) == 40)
                      )
                    ) (
                      some false
                    )
                  ) (
                    some false
                  )
                ) (
                  some false
                )
              )
            )
          )
        )
    )
theorem ei_sPageSound (p : TPage) (k : Bool → Option β) : Imp (F19 β p.xAddr.xHost p.xAddr.xPath p.xPolicy.xSet (rStr p.xPolicy.xScripts) (rStr p.xPolicy.xStyles) (rStr p.xPolicy.xImages) p.xPolicy.xNonce p.xTok.xRest (rows kToken TToken.row p.xQueue) p.xEnded (rows kNode TNode.row p.xBuilder.xNodes) (rInt p.xBuilder.xOpen) (rows kSlot TSlot.row p.xSlots) (rows kModule TModule.row p.xMods) (rows kAddr TAddr.row p.xEntries) p.xBlock p.xInline p.xDeferred p.xEntered (rows kAddr TAddr.row p.xRan) (rStr p.xLog) p.xLoaded k) (sPageSound p) (fun r => k r) := by
  delta F19 P19 sPageSound
  refine Imp.for (enc := fun (i_1 : Nat) (s1 : Unit) => [.i (i_1 : Int), .s p.xAddr.xHost, .s p.xAddr.xPath, .b p.xPolicy.xSet, .l (rStr p.xPolicy.xScripts), .l (rStr p.xPolicy.xStyles), .l (rStr p.xPolicy.xImages), .s p.xPolicy.xNonce, .s p.xTok.xRest, .l (rows kToken TToken.row p.xQueue), .b p.xEnded, .l (rows kNode TNode.row p.xBuilder.xNodes), .l (rInt p.xBuilder.xOpen), .l (rows kSlot TSlot.row p.xSlots), .l (rows kModule TModule.row p.xMods), .l (rows kAddr TAddr.row p.xEntries), .i p.xBlock, .i p.xInline, .i p.xDeferred, .i p.xEntered, .l (rows kAddr TAddr.row p.xRan), .l (rStr p.xLog), .b p.xLoaded]) (encR := Sum.elim (fun (u : Unit) => (((0, [.b false, .s p.xAddr.xHost, .s p.xAddr.xPath, .b p.xPolicy.xSet, .l (rStr p.xPolicy.xScripts), .l (rStr p.xPolicy.xStyles), .l (rStr p.xPolicy.xImages), .s p.xPolicy.xNonce, .s p.xTok.xRest, .l (rows kToken TToken.row p.xQueue), .b p.xEnded, .l (rows kNode TNode.row p.xBuilder.xNodes), .l (rInt p.xBuilder.xOpen), .l (rows kSlot TSlot.row p.xSlots), .l (rows kModule TModule.row p.xMods), .l (rows kAddr TAddr.row p.xEntries), .i p.xBlock, .i p.xInline, .i p.xDeferred, .i p.xEntered, .l (rows kAddr TAddr.row p.xRan), .l (rStr p.xLog), .b p.xLoaded]) : Nat × List Leaf))) (fun (u : Unit) => (((1, [.s p.xAddr.xHost, .s p.xAddr.xPath, .b p.xPolicy.xSet, .l (rStr p.xPolicy.xScripts), .l (rStr p.xPolicy.xStyles), .l (rStr p.xPolicy.xImages), .s p.xPolicy.xNonce, .s p.xTok.xRest, .l (rows kToken TToken.row p.xQueue), .b p.xEnded, .l (rows kNode TNode.row p.xBuilder.xNodes), .l (rInt p.xBuilder.xOpen), .l (rows kSlot TSlot.row p.xSlots), .l (rows kModule TModule.row p.xMods), .l (rows kAddr TAddr.row p.xEntries), .i p.xBlock, .i p.xInline, .i p.xDeferred, .i p.xEntered, .l (rows kAddr TAddr.row p.xRan), .l (rStr p.xLog), .b p.xLoaded]) : Nat × List Leaf)))) rfl (fun i_1 x_1 s1 hx1 hl1 hm1 => Imp.brT (T_lt (ks := kSlot) (g := TSlot.row) hl1) ?_) (fun s1 => brN (T_irr (ks := kSlot) (g := TSlot.row) p.xSlots) rfl) (fun r4 => ?_)
  · refine Imp.idxFor (ks := kSlot) (g := TSlot.row) hx1 ?_
    refine Imp.br rfl ?_ ?_
    · refine Imp.idxFor (ks := kSlot) (g := TSlot.row) hx1 ?_
      refine Imp.br rfl ?_ ?_
      · exact Imp.ret rfl
      · exact Imp.ret (c1 (fun (h1 : Int) => (some (Sum.inl [.i h1, .s p.xAddr.xHost, .s p.xAddr.xPath, .b p.xPolicy.xSet, .l (rStr p.xPolicy.xScripts), .l (rStr p.xPolicy.xStyles), .l (rStr p.xPolicy.xImages), .s p.xPolicy.xNonce, .s p.xTok.xRest, .l (rows kToken TToken.row p.xQueue), .b p.xEnded, .l (rows kNode TNode.row p.xBuilder.xNodes), .l (rInt p.xBuilder.xOpen), .l (rows kSlot TSlot.row p.xSlots), .l (rows kModule TModule.row p.xMods), .l (rows kAddr TAddr.row p.xEntries), .i p.xBlock, .i p.xInline, .i p.xDeferred, .i p.xEntered, .l (rows kAddr TAddr.row p.xRan), .l (rStr p.xLog), .b p.xLoaded]) : Option (List Leaf ⊕ (Nat × List Leaf)))) (wrapJ hl1))
    · exact Imp.ret (c1 (fun (h1 : Int) => (some (Sum.inl [.i h1, .s p.xAddr.xHost, .s p.xAddr.xPath, .b p.xPolicy.xSet, .l (rStr p.xPolicy.xScripts), .l (rStr p.xPolicy.xStyles), .l (rStr p.xPolicy.xImages), .s p.xPolicy.xNonce, .s p.xTok.xRest, .l (rows kToken TToken.row p.xQueue), .b p.xEnded, .l (rows kNode TNode.row p.xBuilder.xNodes), .l (rInt p.xBuilder.xOpen), .l (rows kSlot TSlot.row p.xSlots), .l (rows kModule TModule.row p.xMods), .l (rows kAddr TAddr.row p.xEntries), .i p.xBlock, .i p.xInline, .i p.xDeferred, .i p.xEntered, .l (rows kAddr TAddr.row p.xRan), .l (rStr p.xLog), .b p.xLoaded]) : Option (List Leaf ⊕ (Nat × List Leaf)))) (wrapJ hl1))
  · cases r4 with
    | inl r4 =>
      refine Imp.ifT rfl ?_
      exact Imp.ret rfl
    | inr r4 =>
      refine Imp.ifF (show ¬ ((1 : Nat) = 0) by decide) ?_
      refine Imp.for (enc := fun (i_5 : Nat) (s5 : Unit) => [.i (i_5 : Int), .s p.xAddr.xHost, .s p.xAddr.xPath, .b p.xPolicy.xSet, .l (rStr p.xPolicy.xScripts), .l (rStr p.xPolicy.xStyles), .l (rStr p.xPolicy.xImages), .s p.xPolicy.xNonce, .s p.xTok.xRest, .l (rows kToken TToken.row p.xQueue), .b p.xEnded, .l (rows kNode TNode.row p.xBuilder.xNodes), .l (rInt p.xBuilder.xOpen), .l (rows kSlot TSlot.row p.xSlots), .l (rows kModule TModule.row p.xMods), .l (rows kAddr TAddr.row p.xEntries), .i p.xBlock, .i p.xInline, .i p.xDeferred, .i p.xEntered, .l (rows kAddr TAddr.row p.xRan), .l (rStr p.xLog), .b p.xLoaded]) (encR := Sum.elim (fun (u : Unit) => (((0, [.b false, .s p.xAddr.xHost, .s p.xAddr.xPath, .b p.xPolicy.xSet, .l (rStr p.xPolicy.xScripts), .l (rStr p.xPolicy.xStyles), .l (rStr p.xPolicy.xImages), .s p.xPolicy.xNonce, .s p.xTok.xRest, .l (rows kToken TToken.row p.xQueue), .b p.xEnded, .l (rows kNode TNode.row p.xBuilder.xNodes), .l (rInt p.xBuilder.xOpen), .l (rows kSlot TSlot.row p.xSlots), .l (rows kModule TModule.row p.xMods), .l (rows kAddr TAddr.row p.xEntries), .i p.xBlock, .i p.xInline, .i p.xDeferred, .i p.xEntered, .l (rows kAddr TAddr.row p.xRan), .l (rStr p.xLog), .b p.xLoaded]) : Nat × List Leaf))) (fun (u : Unit) => (((1, [.s p.xAddr.xHost, .s p.xAddr.xPath, .b p.xPolicy.xSet, .l (rStr p.xPolicy.xScripts), .l (rStr p.xPolicy.xStyles), .l (rStr p.xPolicy.xImages), .s p.xPolicy.xNonce, .s p.xTok.xRest, .l (rows kToken TToken.row p.xQueue), .b p.xEnded, .l (rows kNode TNode.row p.xBuilder.xNodes), .l (rInt p.xBuilder.xOpen), .l (rows kSlot TSlot.row p.xSlots), .l (rows kModule TModule.row p.xMods), .l (rows kAddr TAddr.row p.xEntries), .i p.xBlock, .i p.xInline, .i p.xDeferred, .i p.xEntered, .l (rows kAddr TAddr.row p.xRan), .l (rStr p.xLog), .b p.xLoaded]) : Nat × List Leaf)))) rfl (fun i_5 x_5 s5 hx5 hl5 hm5 => Imp.brT (T_lt (ks := kModule) (g := TModule.row) hl5) ?_) (fun s5 => brN (T_irr (ks := kModule) (g := TModule.row) p.xMods) rfl) (fun r8 => ?_)
      · refine Imp.idxFor (ks := kModule) (g := TModule.row) hx5 ?_
        refine Imp.br rfl ?_ ?_
        · refine Imp.idxFor (ks := kModule) (g := TModule.row) hx5 ?_
          refine Imp.br rfl ?_ ?_
          · exact Imp.ret rfl
          · exact Imp.ret (c1 (fun (h1 : Int) => (some (Sum.inl [.i h1, .s p.xAddr.xHost, .s p.xAddr.xPath, .b p.xPolicy.xSet, .l (rStr p.xPolicy.xScripts), .l (rStr p.xPolicy.xStyles), .l (rStr p.xPolicy.xImages), .s p.xPolicy.xNonce, .s p.xTok.xRest, .l (rows kToken TToken.row p.xQueue), .b p.xEnded, .l (rows kNode TNode.row p.xBuilder.xNodes), .l (rInt p.xBuilder.xOpen), .l (rows kSlot TSlot.row p.xSlots), .l (rows kModule TModule.row p.xMods), .l (rows kAddr TAddr.row p.xEntries), .i p.xBlock, .i p.xInline, .i p.xDeferred, .i p.xEntered, .l (rows kAddr TAddr.row p.xRan), .l (rStr p.xLog), .b p.xLoaded]) : Option (List Leaf ⊕ (Nat × List Leaf)))) (wrapJ hl5))
        · exact Imp.ret (c1 (fun (h1 : Int) => (some (Sum.inl [.i h1, .s p.xAddr.xHost, .s p.xAddr.xPath, .b p.xPolicy.xSet, .l (rStr p.xPolicy.xScripts), .l (rStr p.xPolicy.xStyles), .l (rStr p.xPolicy.xImages), .s p.xPolicy.xNonce, .s p.xTok.xRest, .l (rows kToken TToken.row p.xQueue), .b p.xEnded, .l (rows kNode TNode.row p.xBuilder.xNodes), .l (rInt p.xBuilder.xOpen), .l (rows kSlot TSlot.row p.xSlots), .l (rows kModule TModule.row p.xMods), .l (rows kAddr TAddr.row p.xEntries), .i p.xBlock, .i p.xInline, .i p.xDeferred, .i p.xEntered, .l (rows kAddr TAddr.row p.xRan), .l (rStr p.xLog), .b p.xLoaded]) : Option (List Leaf ⊕ (Nat × List Leaf)))) (wrapJ hl5))
      · cases r8 with
        | inl r8 =>
          refine Imp.ifT rfl ?_
          exact Imp.ret rfl
        | inr r8 =>
          refine Imp.ifF (show ¬ ((1 : Nat) = 0) by decide) ?_
          refine Imp.call rfl (ei_sRanOnce p _) (fun r9 _ => ?_)
          refine Imp.br rfl ?_ ?_
          · exact Imp.ret rfl
          · refine Imp.call rfl (ei_sIsBuilder p.xBuilder _) (fun r10 _ => ?_)
            refine Imp.br rfl ?_ ?_
            · exact Imp.ret rfl
            · refine Imp.br rfl ?_ ?_
              · exact Imp.ret rfl
              · refine Imp.call rfl (ei_sIsParsed p _) (fun r11 _ => ?_)
                refine Imp.br rfl ?_ ?_
                · refine Imp.call rfl (ei_sOpenSlots p _) (fun r12 _ => ?_)
                  refine Imp.br (c1 (fun z0 : Nat => ((z0 : Int) == 0)) (U_len (kd := (.int .i64)) (g1 := fun e => e) r12)) ?_ ?_
                  · refine Imp.call rfl (ei_sOpenMods p _) (fun r13 _ => ?_)
                    refine Imp.br (c1 (fun z0 : Nat => ((z0 : Int) == 0)) (U_len (kd := (.int .i64)) (g1 := fun e => e) r13)) ?_ ?_
                    · refine Imp.call rfl (ei_sl9Has p.xLog [108, 111, 97, 100] _) (fun r14 _ => ?_)
                      refine Imp.br rfl ?_ ?_
                      · exact Imp.ret rfl
                      · exact Imp.ret (c1 (fun (h1 : Bool) => k h1) (c1 (fun z0 : Nat => ((z0 : Int) == 40)) (U_len (kd := .str) (g1 := fun e => e) p.xLog)))
                    · exact Imp.ret rfl
                  · exact Imp.ret rfl
                · exact Imp.ret rfl

/-- loop.example/g00586/impl.SortAddrs -/
noncomputable def iSortAddrs (a0 : List TAddr) : Option (List TAddr) := sortPrE (fun (a : TAddr) => (a.xHost, a.xPath)) (fun p => (⟨p.1, p.2⟩ : TAddr)) a0
theorem ei_iSortAddrs (a0 : List TAddr) (k : List V → Option β) : Imp (F141 β (rows kAddr TAddr.row a0) k) (iSortAddrs a0) (fun r => k (rows kAddr TAddr.row r)) := ei_sortPrE (fun (a : TAddr) => (a.xHost, a.xPath)) (fun p => (⟨p.1, p.2⟩ : TAddr)) (fun _ => rfl) (fun _ => rfl) a0 k

/-- impl.RanOnce -/
noncomputable def iRanOnce (p : TPage) : Option Bool :=
  (iSortAddrs p.xRan).bind fun (r1 : List TAddr) =>
  some ((r1.length : Int) == (p.xRan.length : Int))
theorem ei_iRanOnce (p : TPage) (k : Bool → Option β) : Imp (F74 β p.xAddr.xHost p.xAddr.xPath p.xPolicy.xSet (rStr p.xPolicy.xScripts) (rStr p.xPolicy.xStyles) (rStr p.xPolicy.xImages) p.xPolicy.xNonce p.xTok.xRest (rows kToken TToken.row p.xQueue) p.xEnded (rows kNode TNode.row p.xBuilder.xNodes) (rInt p.xBuilder.xOpen) (rows kSlot TSlot.row p.xSlots) (rows kModule TModule.row p.xMods) (rows kAddr TAddr.row p.xEntries) p.xBlock p.xInline p.xDeferred p.xEntered (rows kAddr TAddr.row p.xRan) (rStr p.xLog) p.xLoaded k) (iRanOnce p) (fun r => k r) := by
  delta F74 P74 iRanOnce
  refine Imp.call rfl (ei_iSortAddrs p.xRan _) (fun r1 _ => ?_)
  exact Imp.ret (c1 (fun (h1 : Bool) => k h1) (c2 (fun z0 z1 : Nat => ((z0 : Int) == (z1 : Int))) (T_len (ks := kAddr) (g := TAddr.row) r1) (T_len (ks := kAddr) (g := TAddr.row) p.xRan)))

/-- impl.InRange -/
noncomputable def iInRange (n : Int) (low : Int) (high : Int) : Option Bool :=
  br (decide (low ≤ n)) (
    some (decide (n ≤ high))
  ) (
    some false
  )
theorem ei_iInRange (n : Int) (low : Int) (high : Int) (k : Bool → Option β) : Imp (F142 β n low high k) (iInRange n low high) (fun r => k r) := by
  delta F142 P142 iInRange
  refine Imp.br rfl ?_ ?_
  · exact Imp.ret rfl
  · exact Imp.ret rfl

/-- impl.IsName -/
noncomputable def iIsName (s : List UInt8) : Option Bool :=
  (forE s (fun (i_1 : Nat) (x_1 : UInt8) (s1 : Unit) => (
    br (decide ((x_1.toNat : Int) < 97)) (
      some (.inr (.inl ()))
    ) (
      br (decide ((x_1.toNat : Int) > 122)) (
        some (.inr (.inl ()))
      ) (
        some (.inl ())
      )
    )
  : Option (Unit ⊕ (Unit ⊕ Unit)))) (fun (s1 : Unit) => (.inr () : Unit ⊕ Unit)) (() : Unit)).bind <|
  Sum.elim
    (fun (r4 : Unit) =>
      some false
    )
    (fun (r4 : Unit) =>
      (iInRange (s.length : Int) 1 8).bind fun (r5 : Bool) =>
      some r5
    )
theorem ei_iIsName (s : List UInt8) (k : Bool → Option β) : Imp (F143 β s k) (iIsName s) (fun r => k r) := by
  delta F143 P143 iIsName
  refine Imp.for (enc := fun (i_1 : Nat) (s1 : Unit) => [.s s, .i (i_1 : Int)]) (encR := Sum.elim (fun (u : Unit) => (((0, [.s s, .b false]) : Nat × List Leaf))) (fun (u : Unit) => (((1, [.s s]) : Nat × List Leaf)))) rfl (fun i_1 x_1 s1 hx1 hl1 hm1 => Imp.brT (Int.ofNat_lt.2 hl1) ?_) (fun s1 => brN (Int.lt_irrefl _) rfl) (fun r4 => ?_)
  · refine Imp.idxSFor hx1 ?_
    refine Imp.br rfl ?_ ?_
    · exact Imp.ret rfl
    · refine Imp.idxSFor hx1 ?_
      refine Imp.br rfl ?_ ?_
      · exact Imp.ret rfl
      · exact Imp.ret (c1 (fun (h1 : Int) => (some (Sum.inl [.s s, .i h1]) : Option (List Leaf ⊕ (Nat × List Leaf)))) (wrapJ hl1))
  · cases r4 with
    | inl r4 =>
      refine Imp.ifT rfl ?_
      exact Imp.ret rfl
    | inr r4 =>
      refine Imp.ifF (show ¬ ((1 : Nat) = 0) by decide) ?_
      refine Imp.call rfl (ei_iInRange (s.length : Int) 1 8 _) (fun r5 _ => ?_)
      exact Imp.ret rfl

/-- impl.IsVoid -/
noncomputable def iIsVoid (name : List UInt8) : Option Bool :=
  br (name == [105, 109, 103]) (
    some true
  ) (
    some (name == [108, 105, 110, 107])
  )
theorem ei_iIsVoid (name : List UInt8) (k : Bool → Option β) : Imp (F185 β name k) (iIsVoid name) (fun r => k r) := by
  delta F185 P185 iIsVoid
  refine Imp.br rfl ?_ ?_
  · exact Imp.ret rfl
  · exact Imp.ret rfl

/-- impl.isOpenable -/
noncomputable def iisOpenable (b : TBuilder) (n : Int) : Option Bool :=
  br (decide (n ≥ 0)) (
    br (decide (n < (b.xNodes.length : Int))) (
      (getI b.xNodes n).bind fun (e1 : TNode) =>
      br (!(e1.xName == [])) (
        (getI b.xNodes n).bind fun (e2 : TNode) =>
        (iIsVoid e2.xName).bind fun (r3 : Bool) =>
        some (!r3)
      ) (
        some false
      )
    ) (
      some false
    )
  ) (
    some false
  )
theorem ei_iisOpenable (b : TBuilder) (n : Int) (k : Bool → Option β) : Imp (F144 β (rows kNode TNode.row b.xNodes) (rInt b.xOpen) n k) (iisOpenable b n) (fun r => k r) := by
  delta F144 P144 iisOpenable
  refine Imp.br rfl ?_ ?_
  · refine Imp.br (c1 (fun z0 : Nat => (decide (n < (z0 : Int)))) (T_len (ks := kNode) (g := TNode.row) b.xNodes)) ?_ ?_
    · refine Imp.idx (ks := kNode) (g := TNode.row) rfl rfl (fun e1 _ => ?_)
      refine Imp.br rfl ?_ ?_
      · refine Imp.idx (ks := kNode) (g := TNode.row) rfl rfl (fun e2 _ => ?_)
        refine Imp.call rfl (ei_iIsVoid e2.xName _) (fun r3 _ => ?_)
        exact Imp.ret rfl
      · exact Imp.ret rfl
    · exact Imp.ret rfl
  · exact Imp.ret rfl

/-- impl.IsBuilder -/
noncomputable def iIsBuilder (b : TBuilder) : Option Bool :=
  (iInRange (b.xNodes.length : Int) 1 40).bind fun (r1 : Bool) =>
  br (!r1) (
    some false
  ) (
    (iInRange (b.xOpen.length : Int) 1 8).bind fun (r2 : Bool) =>
    br (!r2) (
      some false
    ) (
      (getI b.xOpen (0 : Int)).bind fun (e3 : Int) =>
      br (e3 != 0) (
        some false
      ) (
        (getI b.xNodes (0 : Int)).bind fun (e4 : TNode) =>
        br (!(e4.xName == [112, 97, 103, 101])) (
          some false
        ) (
          br (e4.xParent != (-1)) (
            some false
          ) (
            br (!(e4.xText == [])) (
              some false
            ) (
              br (decide ((e4.xAttrs.length : Int) > 0)) (
                some false
              ) (
                (forE b.xNodes (fun (i_5 : Nat) (x_5 : TNode) (s5 : Unit) => (
                  br ((i_5 : Int) == 0) (
                    some (.inl ())
                  ) (
                    (iIsName x_5.xName).bind fun (r7 : Bool) =>
                    br r7 (
                      br (x_5.xName == []) (
                        br (!(x_5.xText == [])) (
                          br (decide (x_5.xParent ≥ (i_5 : Int))) (
                            some (.inr (.inl ()))
                          ) (
                            (iisOpenable b x_5.xParent).bind fun (r8 : Bool) =>
                            br (!r8) (
                              some (.inr (.inl ()))
                            ) (
                              br (!(x_5.xText == [])) (
                                br (!((x_5.xAttrs.length : Int) == 0)) (
                                  some (.inr (.inl ()))
                                ) (
                                  some (.inl ())
                                )
                              ) (
                                some (.inl ())
                              )
                            )
                          )
                        ) (
                          br (decide (x_5.xParent ≥ (i_5 : Int))) (
                            some (.inr (.inl ()))
                          ) (
                            (iisOpenable b x_5.xParent).bind fun (r9 : Bool) =>
                            br (!r9) (
                              some (.inr (.inl ()))
                            ) (
                              br (!(x_5.xText == [])) (
                                some (.inr (.inl ()))
                              ) (
                                some (.inl ())
                              )
                            )
                          )
                        )
                      ) (
                        br (decide (x_5.xParent ≥ (i_5 : Int))) (
                          some (.inr (.inl ()))
                        ) (
                          (iisOpenable b x_5.xParent).bind fun (r10 : Bool) =>
                          br (!r10) (
                            some (.inr (.inl ()))
                          ) (
                            br (!(x_5.xText == [])) (
                              some (.inr (.inl ()))
                            ) (
                              some (.inl ())
                            )
                          )
                        )
                      )
                    ) (
                      br (x_5.xName == []) (
                        br (!(x_5.xText == [])) (
                          br (decide (x_5.xParent ≥ (i_5 : Int))) (
                            some (.inr (.inl ()))
                          ) (
                            (iisOpenable b x_5.xParent).bind fun (r11 : Bool) =>
                            br (!r11) (
                              some (.inr (.inl ()))
                            ) (
                              br (!((x_5.xAttrs.length : Int) == 0)) (
                                some (.inr (.inl ()))
                              ) (
                                some (.inl ())
                              )
                            )
                          )
                        ) (
                          br (decide (x_5.xParent ≥ (i_5 : Int))) (
                            some (.inr (.inl ()))
                          ) (
                            (iisOpenable b x_5.xParent).bind fun (r12 : Bool) =>
                            br (!r12) (
                              some (.inr (.inl ()))
                            ) (
                              some (.inr (.inl ()))
                            )
                          )
                        )
                      ) (
                        br (decide (x_5.xParent ≥ (i_5 : Int))) (
                          some (.inr (.inl ()))
                        ) (
                          (iisOpenable b x_5.xParent).bind fun (r13 : Bool) =>
                          br (!r13) (
                            some (.inr (.inl ()))
                          ) (
                            some (.inr (.inl ()))
                          )
                        )
                      )
                    )
                  )
                : Option (Unit ⊕ (Unit ⊕ Unit)))) (fun (s5 : Unit) => (.inr () : Unit ⊕ Unit)) (() : Unit)).bind <|
                Sum.elim
                  (fun (r14 : Unit) =>
                    some false
                  )
                  (fun (r14 : Unit) =>
                    (forE b.xOpen (fun (i_15 : Nat) (x_15 : Int) (s15 : Unit) => (
                      br (decide ((i_15 : Int) > 0)) (
                        (iisOpenable b x_15).bind fun (r17 : Bool) =>
                        br (!r17) (
                          some (.inr (.inl ()))
                        ) (
                          (getI b.xNodes x_15).bind fun (e18 : TNode) =>
                          (getI b.xOpen (IntKind.wrap .i64 ((i_15 : Int) - 1))).bind fun (e19 : Int) =>
                          br (e18.xParent != e19) (
                            some (.inr (.inl ()))
                          ) (
                            some (.inl ())
                          )
                        )
                      ) (
                        some (.inl ())
                      )
                    : Option (Unit ⊕ (Unit ⊕ Unit)))) (fun (s15 : Unit) => (.inr () : Unit ⊕ Unit)) (() : Unit)).bind <|
                    Sum.elim
                      (fun (r20 : Unit) =>
                        some false
                      )
                      (fun (r20 : Unit) =>
                        some true
                      )
                  )
              )
            )
          )
        )
      )
    )
  )
theorem ei_iIsBuilder (b : TBuilder) (k : Bool → Option β) : Imp (F75 β (rows kNode TNode.row b.xNodes) (rInt b.xOpen) k) (iIsBuilder b) (fun r => k r) := by
  delta F75 P75 iIsBuilder
  refine Imp.call (c1 (fun (w1 : Int) => F142 _ w1 1 40) (c1 (fun z0 : Nat => (z0 : Int)) (T_len (ks := kNode) (g := TNode.row) b.xNodes))) (ei_iInRange (b.xNodes.length : Int) 1 40 _) (fun r1 _ => ?_)
  refine Imp.br rfl ?_ ?_
  · exact Imp.ret rfl
  · refine Imp.call (c1 (fun (w1 : Int) => F142 _ w1 1 8) (c1 (fun z0 : Nat => (z0 : Int)) (U_len (kd := (.int .i64)) (g1 := fun e => e) b.xOpen))) (ei_iInRange (b.xOpen.length : Int) 1 8 _) (fun r2 _ => ?_)
    refine Imp.br rfl ?_ ?_
    · exact Imp.ret rfl
    · refine Imp.idxC1 (kd := (.int .i64)) (g1 := fun e => e) rfl rfl (fun e3 _ => ?_)
      refine Imp.br rfl ?_ ?_
      · exact Imp.ret rfl
      · refine Imp.idxC (ks := kNode) (g := TNode.row) rfl rfl (fun e4 _ => ?_)
        refine Imp.br rfl ?_ ?_
        · exact Imp.ret rfl
        · refine Imp.br rfl ?_ ?_
          · exact Imp.ret rfl
          · refine Imp.br rfl ?_ ?_
            · exact Imp.ret rfl
            · refine Imp.br (c1 (fun z0 : Nat => (decide ((z0 : Int) > 0))) (T_len (ks := kAttr) (g := TAttr.row) e4.xAttrs)) ?_ ?_
              · exact Imp.ret rfl
              · refine Imp.for (enc := fun (i_5 : Nat) (s5 : Unit) => [.l (rows kNode TNode.row b.xNodes), .i (b.xNodes.length : Int), .i (i_5 : Int), .l (rows kNode TNode.row b.xNodes), .l (rInt b.xOpen)]) (encR := Sum.elim (fun (u : Unit) => (((0, [.b false, .l (rows kNode TNode.row b.xNodes), .l (rInt b.xOpen)]) : Nat × List Leaf))) (fun (u : Unit) => (((1, [.l (rows kNode TNode.row b.xNodes), .l (rInt b.xOpen)]) : Nat × List Leaf)))) (c1 (fun (h1 : Int) => ([.l (rows kNode TNode.row b.xNodes), .i h1, .i 0, .l (rows kNode TNode.row b.xNodes), .l (rInt b.xOpen)] : List Leaf)) (c1 (fun z0 : Nat => (z0 : Int)) (T_len (ks := kNode) (g := TNode.row) b.xNodes))) (fun i_5 x_5 s5 hx5 hl5 hm5 => Imp.brT (Int.ofNat_lt.2 hl5) ?_) (fun s5 => brN (Int.lt_irrefl _) rfl) (fun r14 => ?_)
                · refine Imp.idxFor (ks := kNode) (g := TNode.row) hx5 ?_
                  refine Imp.br rfl ?_ ?_
                  · exact Imp.ret (c1 (fun (h1 : Int) => (some (Sum.inl [.l (rows kNode TNode.row b.xNodes), .i (b.xNodes.length : Int), .i h1, .l (rows kNode TNode.row b.xNodes), .l (rInt b.xOpen)]) : Option (List Leaf ⊕ (Nat × List Leaf)))) (wrapJ hl5))
                  · refine Imp.call rfl (ei_iIsName x_5.xName _) (fun r7 _ => ?_)
                    refine Imp.br rfl ?_ ?_
                    · refine Imp.br rfl ?_ ?_
                      · refine Imp.br rfl ?_ ?_
                        · refine Imp.br rfl ?_ ?_
                          · exact Imp.ret rfl
                          · refine Imp.call rfl (ei_iisOpenable b x_5.xParent _) (fun r8 _ => ?_)
                            refine Imp.br rfl ?_ ?_
                            · exact Imp.ret rfl
                            · refine Imp.br rfl ?_ ?_
                              · refine Imp.br (c1 (fun z0 : Nat => (!((z0 : Int) == 0))) (T_len (ks := kAttr) (g := TAttr.row) x_5.xAttrs)) ?_ ?_
                                · exact Imp.ret rfl
                                · exact Imp.ret (c1 (fun (h1 : Int) => (some (Sum.inl [.l (rows kNode TNode.row b.xNodes), .i (b.xNodes.length : Int), .i h1, .l (rows kNode TNode.row b.xNodes), .l (rInt b.xOpen)]) : Option (List Leaf ⊕ (Nat × List Leaf)))) (wrapJ hl5))
                              · exact Imp.ret (c1 (fun (h1 : Int) => (some (Sum.inl [.l (rows kNode TNode.row b.xNodes), .i (b.xNodes.length : Int), .i h1, .l (rows kNode TNode.row b.xNodes), .l (rInt b.xOpen)]) : Option (List Leaf ⊕ (Nat × List Leaf)))) (wrapJ hl5))
                        · refine Imp.br rfl ?_ ?_
                          · exact Imp.ret rfl
                          · refine Imp.call rfl (ei_iisOpenable b x_5.xParent _) (fun r9 _ => ?_)
                            refine Imp.br rfl ?_ ?_
                            · exact Imp.ret rfl
                            · refine Imp.br rfl ?_ ?_
                              · exact Imp.ret rfl
                              · exact Imp.ret (c1 (fun (h1 : Int) => (some (Sum.inl [.l (rows kNode TNode.row b.xNodes), .i (b.xNodes.length : Int), .i h1, .l (rows kNode TNode.row b.xNodes), .l (rInt b.xOpen)]) : Option (List Leaf ⊕ (Nat × List Leaf)))) (wrapJ hl5))
                      · refine Imp.br rfl ?_ ?_
                        · exact Imp.ret rfl
                        · refine Imp.call rfl (ei_iisOpenable b x_5.xParent _) (fun r10 _ => ?_)
                          refine Imp.br rfl ?_ ?_
                          · exact Imp.ret rfl
                          · refine Imp.br rfl ?_ ?_
                            · exact Imp.ret rfl
                            · exact Imp.ret (c1 (fun (h1 : Int) => (some (Sum.inl [.l (rows kNode TNode.row b.xNodes), .i (b.xNodes.length : Int), .i h1, .l (rows kNode TNode.row b.xNodes), .l (rInt b.xOpen)]) : Option (List Leaf ⊕ (Nat × List Leaf)))) (wrapJ hl5))
                    · refine Imp.br rfl ?_ ?_
                      · refine Imp.br rfl ?_ ?_
                        · refine Imp.br rfl ?_ ?_
                          · exact Imp.ret rfl
                          · refine Imp.call rfl (ei_iisOpenable b x_5.xParent _) (fun r11 _ => ?_)
                            refine Imp.br rfl ?_ ?_
                            · exact Imp.ret rfl
                            · refine Imp.br (c1 (fun z0 : Nat => (!((z0 : Int) == 0))) (T_len (ks := kAttr) (g := TAttr.row) x_5.xAttrs)) ?_ ?_
                              · exact Imp.ret rfl
                              · exact Imp.ret (c1 (fun (h1 : Int) => (some (Sum.inl [.l (rows kNode TNode.row b.xNodes), .i (b.xNodes.length : Int), .i h1, .l (rows kNode TNode.row b.xNodes), .l (rInt b.xOpen)]) : Option (List Leaf ⊕ (Nat × List Leaf)))) (wrapJ hl5))
                        · refine Imp.br rfl ?_ ?_
                          · exact Imp.ret rfl
                          · refine Imp.call rfl (ei_iisOpenable b x_5.xParent _) (fun r12 _ => ?_)
                            refine Imp.br rfl ?_ ?_
                            · exact Imp.ret rfl
                            · exact Imp.ret rfl
                      · refine Imp.br rfl ?_ ?_
                        · exact Imp.ret rfl
                        · refine Imp.call rfl (ei_iisOpenable b x_5.xParent _) (fun r13 _ => ?_)
                          refine Imp.br rfl ?_ ?_
                          · exact Imp.ret rfl
                          · exact Imp.ret rfl
                · cases r14 with
                  | inl r14 =>
                    refine Imp.ifT rfl ?_
                    exact Imp.ret rfl
                  | inr r14 =>
                    refine Imp.ifF (show ¬ ((1 : Nat) = 0) by decide) ?_
                    refine Imp.for (enc := fun (i_15 : Nat) (s15 : Unit) => [.l (rInt b.xOpen), .i (b.xOpen.length : Int), .i (i_15 : Int), .l (rows kNode TNode.row b.xNodes), .l (rInt b.xOpen)]) (encR := Sum.elim (fun (u : Unit) => (((0, [.b false]) : Nat × List Leaf))) (fun (u : Unit) => (((1, []) : Nat × List Leaf)))) (c1 (fun (h1 : Int) => ([.l (rInt b.xOpen), .i h1, .i 0, .l (rows kNode TNode.row b.xNodes), .l (rInt b.xOpen)] : List Leaf)) (c1 (fun z0 : Nat => (z0 : Int)) (U_len (kd := (.int .i64)) (g1 := fun e => e) b.xOpen))) (fun i_15 x_15 s15 hx15 hl15 hm15 => Imp.brT (Int.ofNat_lt.2 hl15) ?_) (fun s15 => brN (Int.lt_irrefl _) rfl) (fun r20 => ?_)
                    · refine Imp.idxFor1 (kd := (.int .i64)) (g1 := fun e => e) hx15 ?_
                      refine Imp.br rfl ?_ ?_
                      · refine Imp.call rfl (ei_iisOpenable b x_15 _) (fun r17 _ => ?_)
                        refine Imp.br rfl ?_ ?_
                        · exact Imp.ret rfl
                        · refine Imp.idx (ks := kNode) (g := TNode.row) rfl rfl (fun e18 _ => ?_)
                          refine Imp.idx1 (kd := (.int .i64)) (g1 := fun e => e) rfl rfl (fun e19 _ => ?_)
                          refine Imp.br rfl ?_ ?_
                          · exact Imp.ret rfl
                          · exact Imp.ret (c1 (fun (h1 : Int) => (some (Sum.inl [.l (rInt b.xOpen), .i (b.xOpen.length : Int), .i h1, .l (rows kNode TNode.row b.xNodes), .l (rInt b.xOpen)]) : Option (List Leaf ⊕ (Nat × List Leaf)))) (wrapJ hl15))
                      · exact Imp.ret (c1 (fun (h1 : Int) => (some (Sum.inl [.l (rInt b.xOpen), .i (b.xOpen.length : Int), .i h1, .l (rows kNode TNode.row b.xNodes), .l (rInt b.xOpen)]) : Option (List Leaf ⊕ (Nat × List Leaf)))) (wrapJ hl15))
                    · cases r20 with
                      | inl r20 =>
                        refine Imp.ifT rfl ?_
                        exact Imp.ret rfl
                      | inr r20 =>
                        refine Imp.ifF (show ¬ ((1 : Nat) = 0) by decide) ?_
                        exact Imp.ret rfl

/-- impl.IsParsed -/
noncomputable def iIsParsed (p : TPage) : Option Bool :=
  br p.xEnded (
    br ((p.xQueue.length : Int) == 0) (
      br (p.xBlock == 0) (
        some (p.xInline == 0)
      ) (
        some false
      )
    ) (
      some false
    )
  ) (
    some false
  )
theorem ei_iIsParsed (p : TPage) (k : Bool → Option β) : Imp (F76 β p.xAddr.xHost p.xAddr.xPath p.xPolicy.xSet (rStr p.xPolicy.xScripts) (rStr p.xPolicy.xStyles) (rStr p.xPolicy.xImages) p.xPolicy.xNonce p.xTok.xRest (rows kToken TToken.row p.xQueue) p.xEnded (rows kNode TNode.row p.xBuilder.xNodes) (rInt p.xBuilder.xOpen) (rows kSlot TSlot.row p.xSlots) (rows kModule TModule.row p.xMods) (rows kAddr TAddr.row p.xEntries) p.xBlock p.xInline p.xDeferred p.xEntered (rows kAddr TAddr.row p.xRan) (rStr p.xLog) p.xLoaded k) (iIsParsed p) (fun r => k r) := by
  delta F76 P76 iIsParsed
  refine Imp.br rfl ?_ ?_
  · refine Imp.br (c1 (fun z0 : Nat => ((z0 : Int) == 0)) (T_len (ks := kToken) (g := TToken.row) p.xQueue)) ?_ ?_
    · refine Imp.br rfl ?_ ?_
      · exact Imp.ret rfl
      · exact Imp.ret rfl
    · exact Imp.ret rfl
  · exact Imp.ret rfl

/-- impl.OpenSlots -/
noncomputable def iOpenSlots (p : TPage) : Option (List Int) :=
  (forE p.xSlots (fun (i_1 : Nat) (x_1 : TSlot) (s1 : List Int) => (
    br (!x_1.xDone) (
      chk ((s1.length + 1) * 8 ≤ 140737488355328 ∧ s1.length + 1 ≤ 140737488355328) <|
      some (.inl (s1 ++ [(i_1 : Int)]))
    ) (
      some (.inl s1)
    )
  : Option ((List Int) ⊕ (List Int)))) (fun (s1 : List Int) => (s1 : List Int)) ([] : List Int)).bind <|
  fun (r3 : List Int) =>
  some r3
theorem ei_iOpenSlots (p : TPage) (k : List V → Option β) : Imp (F77 β p.xAddr.xHost p.xAddr.xPath p.xPolicy.xSet (rStr p.xPolicy.xScripts) (rStr p.xPolicy.xStyles) (rStr p.xPolicy.xImages) p.xPolicy.xNonce p.xTok.xRest (rows kToken TToken.row p.xQueue) p.xEnded (rows kNode TNode.row p.xBuilder.xNodes) (rInt p.xBuilder.xOpen) (rows kSlot TSlot.row p.xSlots) (rows kModule TModule.row p.xMods) (rows kAddr TAddr.row p.xEntries) p.xBlock p.xInline p.xDeferred p.xEntered (rows kAddr TAddr.row p.xRan) (rStr p.xLog) p.xLoaded k) (iOpenSlots p) (fun r => k (rInt r)) := by
  delta F77 P77 iOpenSlots
  refine Imp.for (enc := fun (i_1 : Nat) (s1 : List Int) => [.l (rInt s1), .l (rows kSlot TSlot.row p.xSlots), .i (p.xSlots.length : Int), .i (i_1 : Int)]) (encR := fun (u : List Int) => (((0, [.l (rInt u)]) : Nat × List Leaf))) (c1 (fun (h1 : Int) => ([.l (rInt []), .l (rows kSlot TSlot.row p.xSlots), .i h1, .i 0] : List Leaf)) (c1 (fun z0 : Nat => (z0 : Int)) (T_len (ks := kSlot) (g := TSlot.row) p.xSlots))) (fun i_1 x_1 s1 hx1 hl1 hm1 => Imp.brT (Int.ofNat_lt.2 hl1) ?_) (fun s1 => brN (Int.lt_irrefl _) rfl) (fun r3 => ?_)
  · refine Imp.idxFor (ks := kSlot) (g := TSlot.row) hx1 ?_
    refine Imp.br rfl ?_ ?_
    · refine Imp.chk (c2 (fun z0 z1 : Nat => (z0 + 1) * 8 ≤ 140737488355328 ∧ z1 + 1 ≤ 140737488355328) (U_len (kd := (.int .i64)) (g1 := fun e => e) s1) (U_len (kd := (.int .i64)) (g1 := fun e => e) s1)) (fun _ => ?_)
      exact Imp.ret (c2 (fun (h1 : List V) (h2 : Int) => (some (Sum.inl [.l h1, .l (rows kSlot TSlot.row p.xSlots), .i (p.xSlots.length : Int), .i h2]) : Option (List Leaf ⊕ (Nat × List Leaf)))) (U_app (kd := (.int .i64)) (g1 := fun e => e) s1 [(i_1 : Int)]) (wrapJ hl1))
    · exact Imp.ret (c1 (fun (h1 : Int) => (some (Sum.inl [.l (rInt s1), .l (rows kSlot TSlot.row p.xSlots), .i (p.xSlots.length : Int), .i h1]) : Option (List Leaf ⊕ (Nat × List Leaf)))) (wrapJ hl1))
  · exact Imp.ret rfl

/-- impl.OpenMods -/
noncomputable def iOpenMods (p : TPage) : Option (List Int) :=
  (forE p.xMods (fun (i_1 : Nat) (x_1 : TModule) (s1 : List Int) => (
    br (!x_1.xDone) (
      chk ((s1.length + 1) * 8 ≤ 140737488355328 ∧ s1.length + 1 ≤ 140737488355328) <|
      some (.inl (s1 ++ [(i_1 : Int)]))
    ) (
      some (.inl s1)
    )
  : Option ((List Int) ⊕ (List Int)))) (fun (s1 : List Int) => (s1 : List Int)) ([] : List Int)).bind <|
  fun (r3 : List Int) =>
  some r3
theorem ei_iOpenMods (p : TPage) (k : List V → Option β) : Imp (F78 β p.xAddr.xHost p.xAddr.xPath p.xPolicy.xSet (rStr p.xPolicy.xScripts) (rStr p.xPolicy.xStyles) (rStr p.xPolicy.xImages) p.xPolicy.xNonce p.xTok.xRest (rows kToken TToken.row p.xQueue) p.xEnded (rows kNode TNode.row p.xBuilder.xNodes) (rInt p.xBuilder.xOpen) (rows kSlot TSlot.row p.xSlots) (rows kModule TModule.row p.xMods) (rows kAddr TAddr.row p.xEntries) p.xBlock p.xInline p.xDeferred p.xEntered (rows kAddr TAddr.row p.xRan) (rStr p.xLog) p.xLoaded k) (iOpenMods p) (fun r => k (rInt r)) := by
  delta F78 P78 iOpenMods
  refine Imp.for (enc := fun (i_1 : Nat) (s1 : List Int) => [.l (rInt s1), .l (rows kModule TModule.row p.xMods), .i (p.xMods.length : Int), .i (i_1 : Int)]) (encR := fun (u : List Int) => (((0, [.l (rInt u)]) : Nat × List Leaf))) (c1 (fun (h1 : Int) => ([.l (rInt []), .l (rows kModule TModule.row p.xMods), .i h1, .i 0] : List Leaf)) (c1 (fun z0 : Nat => (z0 : Int)) (T_len (ks := kModule) (g := TModule.row) p.xMods))) (fun i_1 x_1 s1 hx1 hl1 hm1 => Imp.brT (Int.ofNat_lt.2 hl1) ?_) (fun s1 => brN (Int.lt_irrefl _) rfl) (fun r3 => ?_)
  · refine Imp.idxFor (ks := kModule) (g := TModule.row) hx1 ?_
    refine Imp.br rfl ?_ ?_
    · refine Imp.chk (c2 (fun z0 z1 : Nat => (z0 + 1) * 8 ≤ 140737488355328 ∧ z1 + 1 ≤ 140737488355328) (U_len (kd := (.int .i64)) (g1 := fun e => e) s1) (U_len (kd := (.int .i64)) (g1 := fun e => e) s1)) (fun _ => ?_)
      exact Imp.ret (c2 (fun (h1 : List V) (h2 : Int) => (some (Sum.inl [.l h1, .l (rows kModule TModule.row p.xMods), .i (p.xMods.length : Int), .i h2]) : Option (List Leaf ⊕ (Nat × List Leaf)))) (U_app (kd := (.int .i64)) (g1 := fun e => e) s1 [(i_1 : Int)]) (wrapJ hl1))
    · exact Imp.ret (c1 (fun (h1 : Int) => (some (Sum.inl [.l (rInt s1), .l (rows kModule TModule.row p.xMods), .i (p.xMods.length : Int), .i h1]) : Option (List Leaf ⊕ (Nat × List Leaf)))) (wrapJ hl1))
  · exact Imp.ret rfl

/-- slices.Index[[]string,string] -/
noncomputable def g_slices_Index_string_string (s : List (List UInt8)) (v : List UInt8) : Option Int :=
  (forE s (fun (i_1 : Nat) (x_1 : List UInt8) (s1 : Unit) => (
    br (v == x_1) (
      some (.inr (.inl (i_1 : Int)))
    ) (
      some (.inl ())
    )
  : Option (Unit ⊕ (Int ⊕ Unit)))) (fun (s1 : Unit) => (.inr () : Int ⊕ Unit)) (() : Unit)).bind <|
  Sum.elim
    (fun (r3 : Int) =>
      some r3
    )
    (fun (r3 : Unit) =>
      some (-1)
    )
theorem ei_g_slices_Index_string_string (s : List (List UInt8)) (v : List UInt8) (k : Int → Option β) : Imp (F145 β (rStr s) v k) (g_slices_Index_string_string s v) (fun r => k r) := by
  delta F145 P145 g_slices_Index_string_string
  refine Imp.for (enc := fun (i_1 : Nat) (s1 : Unit) => [.l (rStr s), .s v, .i (s.length : Int), .i (i_1 : Int)]) (encR := Sum.elim (fun (u : Int) => (((0, [.i u]) : Nat × List Leaf))) (fun (u : Unit) => (((1, []) : Nat × List Leaf)))) (c1 (fun (h1 : Int) => ([.l (rStr s), .s v, .i h1, .i 0] : List Leaf)) (c1 (fun z0 : Nat => (z0 : Int)) (U_len (kd := .str) (g1 := fun e => e) s))) (fun i_1 x_1 s1 hx1 hl1 hm1 => Imp.brT (Int.ofNat_lt.2 hl1) ?_) (fun s1 => brN (Int.lt_irrefl _) rfl) (fun r3 => ?_)
  · refine Imp.idxFor1 (kd := .str) (g1 := fun e => e) hx1 ?_
    refine Imp.br rfl ?_ ?_
    · exact Imp.ret rfl
    · exact Imp.ret (c1 (fun (h1 : Int) => (some (Sum.inl [.l (rStr s), .s v, .i (s.length : Int), .i h1]) : Option (List Leaf ⊕ (Nat × List Leaf)))) (wrapJ hl1))
  · cases r3 with
    | inl r3 =>
      refine Imp.ifT rfl ?_
      exact Imp.ret rfl
    | inr r3 =>
      refine Imp.ifF (show ¬ ((1 : Nat) = 0) by decide) ?_
      exact Imp.ret rfl

/-- slices.Contains[[]string,string] -/
noncomputable def g_slices_Contains_string_string (s : List (List UInt8)) (v : List UInt8) : Option Bool :=
  (g_slices_Index_string_string s v).bind fun (r1 : Int) =>
  some (decide (r1 ≥ 0))
theorem ei_g_slices_Contains_string_string (s : List (List UInt8)) (v : List UInt8) (k : Bool → Option β) : Imp (F79 β (rStr s) v k) (g_slices_Contains_string_string s v) (fun r => k r) := by
  delta F79 P79 g_slices_Contains_string_string
  refine Imp.call rfl (ei_g_slices_Index_string_string s v _) (fun r1 _ => ?_)
  exact Imp.ret rfl

/-- impl.PageSound -/
noncomputable def iPageSound (p : TPage) : Option Bool :=
  (forE p.xSlots (fun (i_1 : Nat) (x_1 : TSlot) (s1 : Unit) => (
    br (x_1.xCode != 1) (
      br (!(x_1.xBody == [])) (
        some (.inr (.inl ()))
      ) (
        some (.inl ())
      )
    ) (
      some (.inl ())
    )
  : Option (Unit ⊕ (Unit ⊕ Unit)))) (fun (s1 : Unit) => (.inr () : Unit ⊕ Unit)) (() : Unit)).bind <|
  Sum.elim
    (fun (r3 : Unit) =>
      some false
    )
    (fun (r3 : Unit) =>
      (forE p.xMods (fun (i_4 : Nat) (x_4 : TModule) (s4 : Unit) => (
        br (x_4.xCode != 1) (
          br (!(x_4.xBody == [])) (
            some (.inr (.inl ()))
          ) (
            some (.inl ())
          )
        ) (
          some (.inl ())
        )
      : Option (Unit ⊕ (Unit ⊕ Unit)))) (fun (s4 : Unit) => (.inr () : Unit ⊕ Unit)) (() : Unit)).bind <|
      Sum.elim
        (fun (r6 : Unit) =>
          some false
        )
        (fun (r6 : Unit) =>
          (iRanOnce p).bind fun (r7 : Bool) =>
          br (!r7) (
            some false
          ) (
            (iIsBuilder p.xBuilder).bind fun (r8 : Bool) =>
            br (!r8) (
              some false
            ) (
              br (!p.xLoaded) (
                some true
              ) (
                (iIsParsed p).bind fun (r9 : Bool) =>
                br r9 (
                  (iOpenSlots p).bind fun (r10 : List Int) =>
                  br ((r10.length : Int) == 0) (
                    (iOpenMods p).bind fun (r11 : List Int) =>
                    br ((r11.length : Int) == 0) (
                      (g_slices_Contains_string_string p.xLog [108, 111, 97, 100]).bind fun (r12 : Bool) =>
                      br r12 (
                        some true
                      ) (
                        some ((p.xLog.length : Int) == 40)
                      )
                    ) (
                      some false
                    )
                  ) (
                    some false
                  )
                ) (
                  some false
                )
              )
            )
          )
        )
    )
theorem ei_iPageSound (p : TPage) (k : Bool → Option β) : Imp (F21 β p.xAddr.xHost p.xAddr.xPath p.xPolicy.xSet (rStr p.xPolicy.xScripts) (rStr p.xPolicy.xStyles) (rStr p.xPolicy.xImages) p.xPolicy.xNonce p.xTok.xRest (rows kToken TToken.row p.xQueue) p.xEnded (rows kNode TNode.row p.xBuilder.xNodes) (rInt p.xBuilder.xOpen) (rows kSlot TSlot.row p.xSlots) (rows kModule TModule.row p.xMods) (rows kAddr TAddr.row p.xEntries) p.xBlock p.xInline p.xDeferred p.xEntered (rows kAddr TAddr.row p.xRan) (rStr p.xLog) p.xLoaded k) (iPageSound p) (fun r => k r) := by
  delta F21 P21 iPageSound
  refine Imp.for (enc := fun (i_1 : Nat) (s1 : Unit) => [.l (rows kSlot TSlot.row p.xSlots), .i (p.xSlots.length : Int), .i (i_1 : Int), .s p.xAddr.xHost, .s p.xAddr.xPath, .b p.xPolicy.xSet, .l (rStr p.xPolicy.xScripts), .l (rStr p.xPolicy.xStyles), .l (rStr p.xPolicy.xImages), .s p.xPolicy.xNonce, .s p.xTok.xRest, .l (rows kToken TToken.row p.xQueue), .b p.xEnded, .l (rows kNode TNode.row p.xBuilder.xNodes), .l (rInt p.xBuilder.xOpen), .l (rows kSlot TSlot.row p.xSlots), .l (rows kModule TModule.row p.xMods), .l (rows kAddr TAddr.row p.xEntries), .i p.xBlock, .i p.xInline, .i p.xDeferred, .i p.xEntered, .l (rows kAddr TAddr.row p.xRan), .l (rStr p.xLog), .b p.xLoaded]) (encR := Sum.elim (fun (u : Unit) => (((0, [.b false, .s p.xAddr.xHost, .s p.xAddr.xPath, .b p.xPolicy.xSet, .l (rStr p.xPolicy.xScripts), .l (rStr p.xPolicy.xStyles), .l (rStr p.xPolicy.xImages), .s p.xPolicy.xNonce, .s p.xTok.xRest, .l (rows kToken TToken.row p.xQueue), .b p.xEnded, .l (rows kNode TNode.row p.xBuilder.xNodes), .l (rInt p.xBuilder.xOpen), .l (rows kSlot TSlot.row p.xSlots), .l (rows kModule TModule.row p.xMods), .l (rows kAddr TAddr.row p.xEntries), .i p.xBlock, .i p.xInline, .i p.xDeferred, .i p.xEntered, .l (rows kAddr TAddr.row p.xRan), .l (rStr p.xLog), .b p.xLoaded]) : Nat × List Leaf))) (fun (u : Unit) => (((1, [.s p.xAddr.xHost, .s p.xAddr.xPath, .b p.xPolicy.xSet, .l (rStr p.xPolicy.xScripts), .l (rStr p.xPolicy.xStyles), .l (rStr p.xPolicy.xImages), .s p.xPolicy.xNonce, .s p.xTok.xRest, .l (rows kToken TToken.row p.xQueue), .b p.xEnded, .l (rows kNode TNode.row p.xBuilder.xNodes), .l (rInt p.xBuilder.xOpen), .l (rows kSlot TSlot.row p.xSlots), .l (rows kModule TModule.row p.xMods), .l (rows kAddr TAddr.row p.xEntries), .i p.xBlock, .i p.xInline, .i p.xDeferred, .i p.xEntered, .l (rows kAddr TAddr.row p.xRan), .l (rStr p.xLog), .b p.xLoaded]) : Nat × List Leaf)))) (c1 (fun (h1 : Int) => ([.l (rows kSlot TSlot.row p.xSlots), .i h1, .i 0, .s p.xAddr.xHost, .s p.xAddr.xPath, .b p.xPolicy.xSet, .l (rStr p.xPolicy.xScripts), .l (rStr p.xPolicy.xStyles), .l (rStr p.xPolicy.xImages), .s p.xPolicy.xNonce, .s p.xTok.xRest, .l (rows kToken TToken.row p.xQueue), .b p.xEnded, .l (rows kNode TNode.row p.xBuilder.xNodes), .l (rInt p.xBuilder.xOpen), .l (rows kSlot TSlot.row p.xSlots), .l (rows kModule TModule.row p.xMods), .l (rows kAddr TAddr.row p.xEntries), .i p.xBlock, .i p.xInline, .i p.xDeferred, .i p.xEntered, .l (rows kAddr TAddr.row p.xRan), .l (rStr p.xLog), .b p.xLoaded] : List Leaf)) (c1 (fun z0 : Nat => (z0 : Int)) (T_len (ks := kSlot) (g := TSlot.row) p.xSlots))) (fun i_1 x_1 s1 hx1 hl1 hm1 => Imp.brT (Int.ofNat_lt.2 hl1) ?_) (fun s1 => brN (Int.lt_irrefl _) rfl) (fun r3 => ?_)
  · refine Imp.idxFor (ks := kSlot) (g := TSlot.row) hx1 ?_
    refine Imp.br rfl ?_ ?_
    · refine Imp.br rfl ?_ ?_
      · exact Imp.ret rfl
      · exact Imp.ret (c1 (fun (h1 : Int) => (some (Sum.inl [.l (rows kSlot TSlot.row p.xSlots), .i (p.xSlots.length : Int), .i h1, .s p.xAddr.xHost, .s p.xAddr.xPath, .b p.xPolicy.xSet, .l (rStr p.xPolicy.xScripts), .l (rStr p.xPolicy.xStyles), .l (rStr p.xPolicy.xImages), .s p.xPolicy.xNonce, .s p.xTok.xRest, .l (rows kToken TToken.row p.xQueue), .b p.xEnded, .l (rows kNode TNode.row p.xBuilder.xNodes), .l (rInt p.xBuilder.xOpen), .l (rows kSlot TSlot.row p.xSlots), .l (rows kModule TModule.row p.xMods), .l (rows kAddr TAddr.row p.xEntries), .i p.xBlock, .i p.xInline, .i p.xDeferred, .i p.xEntered, .l (rows kAddr TAddr.row p.xRan), .l (rStr p.xLog), .b p.xLoaded]) : Option (List Leaf ⊕ (Nat × List Leaf)))) (wrapJ hl1))
    · exact Imp.ret (c1 (fun (h1 : Int) => (some (Sum.inl [.l (rows kSlot TSlot.row p.xSlots), .i (p.xSlots.length : Int), .i h1, .s p.xAddr.xHost, .s p.xAddr.xPath, .b p.xPolicy.xSet, .l (rStr p.xPolicy.xScripts), .l (rStr p.xPolicy.xStyles), .l (rStr p.xPolicy.xImages), .s p.xPolicy.xNonce, .s p.xTok.xRest, .l (rows kToken TToken.row p.xQueue), .b p.xEnded, .l (rows kNode TNode.row p.xBuilder.xNodes), .l (rInt p.xBuilder.xOpen), .l (rows kSlot TSlot.row p.xSlots), .l (rows kModule TModule.row p.xMods), .l (rows kAddr TAddr.row p.xEntries), .i p.xBlock, .i p.xInline, .i p.xDeferred, .i p.xEntered, .l (rows kAddr TAddr.row p.xRan), .l (rStr p.xLog), .b p.xLoaded]) : Option (List Leaf ⊕ (Nat × List Leaf)))) (wrapJ hl1))
  · cases r3 with
    | inl r3 =>
      refine Imp.ifT rfl ?_
      exact Imp.ret rfl
    | inr r3 =>
      refine Imp.ifF (show ¬ ((1 : Nat) = 0) by decide) ?_
      refine Imp.for (enc := fun (i_4 : Nat) (s4 : Unit) => [.l (rows kModule TModule.row p.xMods), .i (p.xMods.length : Int), .i (i_4 : Int), .s p.xAddr.xHost, .s p.xAddr.xPath, .b p.xPolicy.xSet, .l (rStr p.xPolicy.xScripts), .l (rStr p.xPolicy.xStyles), .l (rStr p.xPolicy.xImages), .s p.xPolicy.xNonce, .s p.xTok.xRest, .l (rows kToken TToken.row p.xQueue), .b p.xEnded, .l (rows kNode TNode.row p.xBuilder.xNodes), .l (rInt p.xBuilder.xOpen), .l (rows kSlot TSlot.row p.xSlots), .l (rows kModule TModule.row p.xMods), .l (rows kAddr TAddr.row p.xEntries), .i p.xBlock, .i p.xInline, .i p.xDeferred, .i p.xEntered, .l (rows kAddr TAddr.row p.xRan), .l (rStr p.xLog), .b p.xLoaded]) (encR := Sum.elim (fun (u : Unit) => (((0, [.b false, .s p.xAddr.xHost, .s p.xAddr.xPath, .b p.xPolicy.xSet, .l (rStr p.xPolicy.xScripts), .l (rStr p.xPolicy.xStyles), .l (rStr p.xPolicy.xImages), .s p.xPolicy.xNonce, .s p.xTok.xRest, .l (rows kToken TToken.row p.xQueue), .b p.xEnded, .l (rows kNode TNode.row p.xBuilder.xNodes), .l (rInt p.xBuilder.xOpen), .l (rows kSlot TSlot.row p.xSlots), .l (rows kModule TModule.row p.xMods), .l (rows kAddr TAddr.row p.xEntries), .i p.xBlock, .i p.xInline, .i p.xDeferred, .i p.xEntered, .l (rows kAddr TAddr.row p.xRan), .l (rStr p.xLog), .b p.xLoaded]) : Nat × List Leaf))) (fun (u : Unit) => (((1, [.s p.xAddr.xHost, .s p.xAddr.xPath, .b p.xPolicy.xSet, .l (rStr p.xPolicy.xScripts), .l (rStr p.xPolicy.xStyles), .l (rStr p.xPolicy.xImages), .s p.xPolicy.xNonce, .s p.xTok.xRest, .l (rows kToken TToken.row p.xQueue), .b p.xEnded, .l (rows kNode TNode.row p.xBuilder.xNodes), .l (rInt p.xBuilder.xOpen), .l (rows kSlot TSlot.row p.xSlots), .l (rows kModule TModule.row p.xMods), .l (rows kAddr TAddr.row p.xEntries), .i p.xBlock, .i p.xInline, .i p.xDeferred, .i p.xEntered, .l (rows kAddr TAddr.row p.xRan), .l (rStr p.xLog), .b p.xLoaded]) : Nat × List Leaf)))) (c1 (fun (h1 : Int) => ([.l (rows kModule TModule.row p.xMods), .i h1, .i 0, .s p.xAddr.xHost, .s p.xAddr.xPath, .b p.xPolicy.xSet, .l (rStr p.xPolicy.xScripts), .l (rStr p.xPolicy.xStyles), .l (rStr p.xPolicy.xImages), .s p.xPolicy.xNonce, .s p.xTok.xRest, .l (rows kToken TToken.row p.xQueue), .b p.xEnded, .l (rows kNode TNode.row p.xBuilder.xNodes), .l (rInt p.xBuilder.xOpen), .l (rows kSlot TSlot.row p.xSlots), .l (rows kModule TModule.row p.xMods), .l (rows kAddr TAddr.row p.xEntries), .i p.xBlock, .i p.xInline, .i p.xDeferred, .i p.xEntered, .l (rows kAddr TAddr.row p.xRan), .l (rStr p.xLog), .b p.xLoaded] : List Leaf)) (c1 (fun z0 : Nat => (z0 : Int)) (T_len (ks := kModule) (g := TModule.row) p.xMods))) (fun i_4 x_4 s4 hx4 hl4 hm4 => Imp.brT (Int.ofNat_lt.2 hl4) ?_) (fun s4 => brN (Int.lt_irrefl _) rfl) (fun r6 => ?_)
      · refine Imp.idxFor (ks := kModule) (g := TModule.row) hx4 ?_
        refine Imp.br rfl ?_ ?_
        · refine Imp.br rfl ?_ ?_
          · exact Imp.ret rfl
          · exact Imp.ret (c1 (fun (h1 : Int) => (some (Sum.inl [.l (rows kModule TModule.row p.xMods), .i (p.xMods.length : Int), .i h1, .s p.xAddr.xHost, .s p.xAddr.xPath, .b p.xPolicy.xSet, .l (rStr p.xPolicy.xScripts), .l (rStr p.xPolicy.xStyles), .l (rStr p.xPolicy.xImages), .s p.xPolicy.xNonce, .s p.xTok.xRest, .l (rows kToken TToken.row p.xQueue), .b p.xEnded, .l (rows kNode TNode.row p.xBuilder.xNodes), .l (rInt p.xBuilder.xOpen), .l (rows kSlot TSlot.row p.xSlots), .l (rows kModule TModule.row p.xMods), .l (rows kAddr TAddr.row p.xEntries), .i p.xBlock, .i p.xInline, .i p.xDeferred, .i p.xEntered, .l (rows kAddr TAddr.row p.xRan), .l (rStr p.xLog), .b p.xLoaded]) : Option (List Leaf ⊕ (Nat × List Leaf)))) (wrapJ hl4))
        · exact Imp.ret (c1 (fun (h1 : Int) => (some (Sum.inl [.l (rows kModule TModule.row p.xMods), .i (p.xMods.length : Int), .i h1, .s p.xAddr.xHost, .s p.xAddr.xPath, .b p.xPolicy.xSet, .l (rStr p.xPolicy.xScripts), .l (rStr p.xPolicy.xStyles), .l (rStr p.xPolicy.xImages), .s p.xPolicy.xNonce, .s p.xTok.xRest, .l (rows kToken TToken.row p.xQueue), .b p.xEnded, .l (rows kNode TNode.row p.xBuilder.xNodes), .l (rInt p.xBuilder.xOpen), .l (rows kSlot TSlot.row p.xSlots), .l (rows kModule TModule.row p.xMods), .l (rows kAddr TAddr.row p.xEntries), .i p.xBlock, .i p.xInline, .i p.xDeferred, .i p.xEntered, .l (rows kAddr TAddr.row p.xRan), .l (rStr p.xLog), .b p.xLoaded]) : Option (List Leaf ⊕ (Nat × List Leaf)))) (wrapJ hl4))
      · cases r6 with
        | inl r6 =>
          refine Imp.ifT rfl ?_
          exact Imp.ret rfl
        | inr r6 =>
          refine Imp.ifF (show ¬ ((1 : Nat) = 0) by decide) ?_
          refine Imp.call rfl (ei_iRanOnce p _) (fun r7 _ => ?_)
          refine Imp.br rfl ?_ ?_
          · exact Imp.ret rfl
          · refine Imp.call rfl (ei_iIsBuilder p.xBuilder _) (fun r8 _ => ?_)
            refine Imp.br rfl ?_ ?_
            · exact Imp.ret rfl
            · refine Imp.br rfl ?_ ?_
              · exact Imp.ret rfl
              · refine Imp.call rfl (ei_iIsParsed p _) (fun r9 _ => ?_)
                refine Imp.br rfl ?_ ?_
                · refine Imp.call rfl (ei_iOpenSlots p _) (fun r10 _ => ?_)
                  refine Imp.br (c1 (fun z0 : Nat => ((z0 : Int) == 0)) (U_len (kd := (.int .i64)) (g1 := fun e => e) r10)) ?_ ?_
                  · refine Imp.call rfl (ei_iOpenMods p _) (fun r11 _ => ?_)
                    refine Imp.br (c1 (fun z0 : Nat => ((z0 : Int) == 0)) (U_len (kd := (.int .i64)) (g1 := fun e => e) r11)) ?_ ?_
                    · refine Imp.call rfl (ei_g_slices_Contains_string_string p.xLog [108, 111, 97, 100] _) (fun r12 _ => ?_)
                      refine Imp.br rfl ?_ ?_
                      · exact Imp.ret rfl
                      · exact Imp.ret (c1 (fun (h1 : Bool) => k h1) (c1 (fun z0 : Nat => ((z0 : Int) == 40)) (U_len (kd := .str) (g1 := fun e => e) p.xLog)))
                    · exact Imp.ret rfl
                  · exact Imp.ret rfl
                · exact Imp.ret rfl

/-- laws.FnExactPageSound -/
noncomputable def lFnExactPageSound (aP : TPage) : Option Bool :=
  (lszPage aP 1048576).bind fun (r1 : Int) =>
  br (decide (r1 < 0)) (
    some true
  ) (
    (ltoPage aP).bind fun (r2 : TPage) =>
    (sPageSound r2).bind fun (r24 : Bool) =>
    (ltoPage aP).bind fun (r25 : TPage) =>
    (iPageSound r25).bind fun (r47 : Bool) =>
    br (!(r47 == r24)) (
      some false
    ) (
      (ltoPage aP).bind fun (r48 : TPage) =>
      (leqPage r25 r48).bind fun (r70 : Bool) =>
      br (!r70) (
        some false
      ) (
        some true
      )
    )
  )
theorem ei_lFnExactPageSound (aP : TPage) (k : Bool → Option β) : Imp (F5 β aP.xAddr.xHost aP.xAddr.xPath aP.xPolicy.xSet (rStr aP.xPolicy.xScripts) (rStr aP.xPolicy.xStyles) (rStr aP.xPolicy.xImages) aP.xPolicy.xNonce aP.xTok.xRest (rows kToken TToken.row aP.xQueue) aP.xEnded (rows kNode TNode.row aP.xBuilder.xNodes) (rInt aP.xBuilder.xOpen) (rows kSlot TSlot.row aP.xSlots) (rows kModule TModule.row aP.xMods) (rows kAddr TAddr.row aP.xEntries) aP.xBlock aP.xInline aP.xDeferred aP.xEntered (rows kAddr TAddr.row aP.xRan) (rStr aP.xLog) aP.xLoaded k) (lFnExactPageSound aP) (fun r => k r) := by
  delta F5 P5 lFnExactPageSound
  refine Imp.call rfl (ei_lszPage aP 1048576 _) (fun r1 _ => ?_)
  refine Imp.br rfl ?_ ?_
  · exact Imp.ret rfl
  · refine Imp.call rfl (ei_ltoPage aP _) (fun r2 _ => ?_)
    refine Imp.call rfl (ei_sPageSound r2 _) (fun r24 _ => ?_)
    refine Imp.call rfl (ei_ltoPage aP _) (fun r25 _ => ?_)
    refine Imp.call rfl (ei_iPageSound r25 _) (fun r47 _ => ?_)
    refine Imp.br rfl ?_ ?_
    · exact Imp.ret rfl
    · refine Imp.call rfl (ei_ltoPage aP _) (fun r48 _ => ?_)
      refine Imp.call rfl (ei_leqPage r25 r48 _) (fun r70 _ => ?_)
      refine Imp.br rfl ?_ ?_
      · exact Imp.ret rfl
      · exact Imp.ret rfl

/-- spec.IsTab -/
noncomputable def sIsTab (t : TTab) : Option Bool :=
  (forE t.xVisits (fun (i_1 : Nat) (x_1 : TVisit) (s1 : Unit) => (
    br x_1.xKept (
      br (!((x_1.xAddr.xHost == x_1.xPage.xAddr.xHost) && ((x_1.xAddr.xPath == x_1.xPage.xAddr.xPath) && true))) (
        some (.inr (.inl ()))
      ) (
        some (.inl ())
      )
    ) (
      some (.inl ())
    )
  : Option (Unit ⊕ (Unit ⊕ Unit)))) (fun (s1 : Unit) => (.inr () : Unit ⊕ Unit)) (() : Unit)).bind <|
  Sum.elim
    (fun (r5 : Unit) =>
      some false
    )
    (fun (r5 : Unit) =>
      br (decide ((t.xVisits.length : Int) ≤ 6)) (
        br ((t.xVisits.length : Int) == 0) (
          br (t.xAt == (-1)) (
            some true
          ) (
            (sl1In t.xAt 0 (IntKind.wrap .i64 ((t.xVisits.length : Int) - 1))).bind fun (r6 : Bool) =>
            some r6
          )
        ) (
          (sl1In t.xAt 0 (IntKind.wrap .i64 ((t.xVisits.length : Int) - 1))).bind fun (r7 : Bool) =>
          some r7
        )
      ) (
        some false
      )
    )
theorem ei_sIsTab (t : TTab) (k : Bool → Option β) : Imp (F90 β (rows kVisit TVisit.row t.xVisits) t.xAt k) (sIsTab t) (fun r => k r) := by
  delta F90 P90 sIsTab
  refine Imp.for (enc := fun (i_1 : Nat) (s1 : Unit) => [.i (i_1 : Int), .l (rows kVisit TVisit.row t.xVisits), .i t.xAt]) (encR := Sum.elim (fun (u : Unit) => (((0, [.b false, .l (rows kVisit TVisit.row t.xVisits), .i t.xAt]) : Nat × List Leaf))) (fun (u : Unit) => (((1, [.l (rows kVisit TVisit.row t.xVisits), .i t.xAt]) : Nat × List Leaf)))) rfl (fun i_1 x_1 s1 hx1 hl1 hm1 => Imp.brT (T_lt (ks := kVisit) (g := TVisit.row) hl1) ?_) (fun s1 => brN (T_irr (ks := kVisit) (g := TVisit.row) t.xVisits) rfl) (fun r5 => ?_)
  · refine Imp.idxFor (ks := kVisit) (g := TVisit.row) hx1 ?_
    refine Imp.br rfl ?_ ?_
    · refine Imp.idxFor (ks := kVisit) (g := TVisit.row) hx1 ?_
      refine Imp.idxFor (ks := kVisit) (g := TVisit.row) hx1 ?_
      refine Imp.br rfl ?_ ?_
      · exact Imp.ret rfl
      · exact Imp.ret (c1 (fun (h1 : Int) => (some (Sum.inl [.i h1, .l (rows kVisit TVisit.row t.xVisits), .i t.xAt]) : Option (List Leaf ⊕ (Nat × List Leaf)))) (wrapJ hl1))
    · exact Imp.ret (c1 (fun (h1 : Int) => (some (Sum.inl [.i h1, .l (rows kVisit TVisit.row t.xVisits), .i t.xAt]) : Option (List Leaf ⊕ (Nat × List Leaf)))) (wrapJ hl1))
  · cases r5 with
    | inl r5 =>
      refine Imp.ifT rfl ?_
      exact Imp.ret rfl
    | inr r5 =>
      refine Imp.ifF (show ¬ ((1 : Nat) = 0) by decide) ?_
      refine Imp.br (c1 (fun z0 : Nat => (decide ((z0 : Int) ≤ 6))) (T_len (ks := kVisit) (g := TVisit.row) t.xVisits)) ?_ ?_
      · refine Imp.br (c1 (fun z0 : Nat => ((z0 : Int) == 0)) (T_len (ks := kVisit) (g := TVisit.row) t.xVisits)) ?_ ?_
        · refine Imp.br rfl ?_ ?_
          · exact Imp.ret rfl
          · refine Imp.call (c1 (fun (w1 : Int) => F133 _ t.xAt 0 w1) (c1 (fun z0 : Nat => (IntKind.wrap .i64 ((z0 : Int) - 1))) (T_len (ks := kVisit) (g := TVisit.row) t.xVisits))) (ei_sl1In t.xAt 0 (IntKind.wrap .i64 ((t.xVisits.length : Int) - 1)) _) (fun r6 _ => ?_)
            exact Imp.ret rfl
        · refine Imp.call (c1 (fun (w1 : Int) => F133 _ t.xAt 0 w1) (c1 (fun z0 : Nat => (IntKind.wrap .i64 ((z0 : Int) - 1))) (T_len (ks := kVisit) (g := TVisit.row) t.xVisits))) (ei_sl1In t.xAt 0 (IntKind.wrap .i64 ((t.xVisits.length : Int) - 1)) _) (fun r7 _ => ?_)
          exact Imp.ret rfl
      · exact Imp.ret rfl

/-- spec.TabSound -/
noncomputable def sTabSound (t : TTab) : Option Bool :=
  (forE t.xVisits (fun (i_1 : Nat) (x_1 : TVisit) (s1 : Unit) => (
    br x_1.xKept (
      br (decide ((x_1.xPage.xBuilder.xNodes.length : Int) > 0)) (
        (sPageSound x_1.xPage).bind fun (r5 : Bool) =>
        br (!r5) (
          some (.inr (.inl ()))
        ) (
          some (.inl ())
        )
      ) (
        some (.inl ())
      )
    ) (
      some (.inl ())
    )
  : Option (Unit ⊕ (Unit ⊕ Unit)))) (fun (s1 : Unit) => (.inr () : Unit ⊕ Unit)) (() : Unit)).bind <|
  Sum.elim
    (fun (r6 : Unit) =>
      some false
    )
    (fun (r6 : Unit) =>
      (sIsTab t).bind fun (r7 : Bool) =>
      some r7
    )
theorem ei_sTabSound (t : TTab) (k : Bool → Option β) : Imp (F24 β (rows kVisit TVisit.row t.xVisits) t.xAt k) (sTabSound t) (fun r => k r) := by
  delta F24 P24 sTabSound
  refine Imp.for (enc := fun (i_1 : Nat) (s1 : Unit) => [.i (i_1 : Int), .l (rows kVisit TVisit.row t.xVisits), .i t.xAt]) (encR := Sum.elim (fun (u : Unit) => (((0, [.b false, .l (rows kVisit TVisit.row t.xVisits), .i t.xAt]) : Nat × List Leaf))) (fun (u : Unit) => (((1, [.l (rows kVisit TVisit.row t.xVisits), .i t.xAt]) : Nat × List Leaf)))) rfl (fun i_1 x_1 s1 hx1 hl1 hm1 => Imp.brT (T_lt (ks := kVisit) (g := TVisit.row) hl1) ?_) (fun s1 => brN (T_irr (ks := kVisit) (g := TVisit.row) t.xVisits) rfl) (fun r6 => ?_)
  · refine Imp.idxFor (ks := kVisit) (g := TVisit.row) hx1 ?_
    refine Imp.br rfl ?_ ?_
    · refine Imp.idxFor (ks := kVisit) (g := TVisit.row) hx1 ?_
      refine Imp.br (c1 (fun z0 : Nat => (decide ((z0 : Int) > 0))) (T_len (ks := kNode) (g := TNode.row) x_1.xPage.xBuilder.xNodes)) ?_ ?_
      · refine Imp.idxFor (ks := kVisit) (g := TVisit.row) hx1 ?_
        refine Imp.call rfl (ei_sPageSound x_1.xPage _) (fun r5 _ => ?_)
        refine Imp.br rfl ?_ ?_
        · exact Imp.ret rfl
        · exact Imp.ret (c1 (fun (h1 : Int) => (some (Sum.inl [.i h1, .l (rows kVisit TVisit.row t.xVisits), .i t.xAt]) : Option (List Leaf ⊕ (Nat × List Leaf)))) (wrapJ hl1))
      · exact Imp.ret (c1 (fun (h1 : Int) => (some (Sum.inl [.i h1, .l (rows kVisit TVisit.row t.xVisits), .i t.xAt]) : Option (List Leaf ⊕ (Nat × List Leaf)))) (wrapJ hl1))
    · exact Imp.ret (c1 (fun (h1 : Int) => (some (Sum.inl [.i h1, .l (rows kVisit TVisit.row t.xVisits), .i t.xAt]) : Option (List Leaf ⊕ (Nat × List Leaf)))) (wrapJ hl1))
  · cases r6 with
    | inl r6 =>
      refine Imp.ifT rfl ?_
      exact Imp.ret rfl
    | inr r6 =>
      refine Imp.ifF (show ¬ ((1 : Nat) = 0) by decide) ?_
      refine Imp.call rfl (ei_sIsTab t _) (fun r7 _ => ?_)
      exact Imp.ret rfl

/-- impl.hasPresent -/
noncomputable def ihasPresent (t : TTab) : Option Bool :=
  br (decide (t.xAt ≥ 0)) (
    some (decide (t.xAt < (t.xVisits.length : Int)))
  ) (
    some false
  )
theorem ei_ihasPresent (t : TTab) (k : Bool → Option β) : Imp (F153 β (rows kVisit TVisit.row t.xVisits) t.xAt k) (ihasPresent t) (fun r => k r) := by
  delta F153 P153 ihasPresent
  refine Imp.br rfl ?_ ?_
  · exact Imp.ret (c1 (fun (h1 : Bool) => k h1) (c1 (fun z0 : Nat => (decide (t.xAt < (z0 : Int)))) (T_len (ks := kVisit) (g := TVisit.row) t.xVisits)))
  · exact Imp.ret rfl

/-- impl.IsTab -/
noncomputable def iIsTab (t : TTab) : Option Bool :=
  (forE t.xVisits (fun (i_1 : Nat) (x_1 : TVisit) (s1 : Unit) => (
    br x_1.xKept (
      br (!((x_1.xPage.xAddr.xHost == x_1.xAddr.xHost) && ((x_1.xPage.xAddr.xPath == x_1.xAddr.xPath) && true))) (
        some (.inr (.inl ()))
      ) (
        some (.inl ())
      )
    ) (
      some (.inl ())
    )
  : Option (Unit ⊕ (Unit ⊕ Unit)))) (fun (s1 : Unit) => (.inr () : Unit ⊕ Unit)) (() : Unit)).bind <|
  Sum.elim
    (fun (r3 : Unit) =>
      some false
    )
    (fun (r3 : Unit) =>
      br (decide ((t.xVisits.length : Int) ≤ 6)) (
        (ihasPresent t).bind fun (r4 : Bool) =>
        br r4 (
          some true
        ) (
          br ((t.xVisits.length : Int) == 0) (
            some (t.xAt == (-1))
          ) (
            some false
          )
        )
      ) (
        some false
      )
    )
theorem ei_iIsTab (t : TTab) (k : Bool → Option β) : Imp (F92 β (rows kVisit TVisit.row t.xVisits) t.xAt k) (iIsTab t) (fun r => k r) := by
  delta F92 P92 iIsTab
  refine Imp.for (enc := fun (i_1 : Nat) (s1 : Unit) => [.l (rows kVisit TVisit.row t.xVisits), .i (t.xVisits.length : Int), .i (i_1 : Int), .l (rows kVisit TVisit.row t.xVisits), .i t.xAt]) (encR := Sum.elim (fun (u : Unit) => (((0, [.b false, .l (rows kVisit TVisit.row t.xVisits), .i t.xAt]) : Nat × List Leaf))) (fun (u : Unit) => (((1, [.l (rows kVisit TVisit.row t.xVisits), .i t.xAt]) : Nat × List Leaf)))) (c1 (fun (h1 : Int) => ([.l (rows kVisit TVisit.row t.xVisits), .i h1, .i 0, .l (rows kVisit TVisit.row t.xVisits), .i t.xAt] : List Leaf)) (c1 (fun z0 : Nat => (z0 : Int)) (T_len (ks := kVisit) (g := TVisit.row) t.xVisits))) (fun i_1 x_1 s1 hx1 hl1 hm1 => Imp.brT (Int.ofNat_lt.2 hl1) ?_) (fun s1 => brN (Int.lt_irrefl _) rfl) (fun r3 => ?_)
  · refine Imp.idxFor (ks := kVisit) (g := TVisit.row) hx1 ?_
    refine Imp.br rfl ?_ ?_
    · refine Imp.br rfl ?_ ?_
      · exact Imp.ret rfl
      · exact Imp.ret (c1 (fun (h1 : Int) => (some (Sum.inl [.l (rows kVisit TVisit.row t.xVisits), .i (t.xVisits.length : Int), .i h1, .l (rows kVisit TVisit.row t.xVisits), .i t.xAt]) : Option (List Leaf ⊕ (Nat × List Leaf)))) (wrapJ hl1))
    · exact Imp.ret (c1 (fun (h1 : Int) => (some (Sum.inl [.l (rows kVisit TVisit.row t.xVisits), .i (t.xVisits.length : Int), .i h1, .l (rows kVisit TVisit.row t.xVisits), .i t.xAt]) : Option (List Leaf ⊕ (Nat × List Leaf)))) (wrapJ hl1))
  · cases r3 with
    | inl r3 =>
      refine Imp.ifT rfl ?_
      exact Imp.ret rfl
    | inr r3 =>
      refine Imp.ifF (show ¬ ((1 : Nat) = 0) by decide) ?_
      refine Imp.br (c1 (fun z0 : Nat => (decide ((z0 : Int) ≤ 6))) (T_len (ks := kVisit) (g := TVisit.row) t.xVisits)) ?_ ?_
      · refine Imp.call rfl (ei_ihasPresent t _) (fun r4 _ => ?_)
        refine Imp.br rfl ?_ ?_
        · exact Imp.ret rfl
        · refine Imp.br (c1 (fun z0 : Nat => ((z0 : Int) == 0)) (T_len (ks := kVisit) (g := TVisit.row) t.xVisits)) ?_ ?_
          · exact Imp.ret rfl
          · exact Imp.ret rfl
      · exact Imp.ret rfl

/-- impl.TabSound -/
noncomputable def iTabSound (t : TTab) : Option Bool :=
  (forE t.xVisits (fun (i_1 : Nat) (x_1 : TVisit) (s1 : Unit) => (
    br x_1.xKept (
      br (decide ((x_1.xPage.xBuilder.xNodes.length : Int) > 0)) (
        (iPageSound x_1.xPage).bind fun (r3 : Bool) =>
        br (!r3) (
          some (.inr (.inl ()))
        ) (
          some (.inl ())
        )
      ) (
        some (.inl ())
      )
    ) (
      some (.inl ())
    )
  : Option (Unit ⊕ (Unit ⊕ Unit)))) (fun (s1 : Unit) => (.inr () : Unit ⊕ Unit)) (() : Unit)).bind <|
  Sum.elim
    (fun (r4 : Unit) =>
      some false
    )
    (fun (r4 : Unit) =>
      (iIsTab t).bind fun (r5 : Bool) =>
      some r5
    )
theorem ei_iTabSound (t : TTab) (k : Bool → Option β) : Imp (F26 β (rows kVisit TVisit.row t.xVisits) t.xAt k) (iTabSound t) (fun r => k r) := by
  delta F26 P26 iTabSound
  refine Imp.for (enc := fun (i_1 : Nat) (s1 : Unit) => [.l (rows kVisit TVisit.row t.xVisits), .i (t.xVisits.length : Int), .i (i_1 : Int), .l (rows kVisit TVisit.row t.xVisits), .i t.xAt]) (encR := Sum.elim (fun (u : Unit) => (((0, [.b false, .l (rows kVisit TVisit.row t.xVisits), .i t.xAt]) : Nat × List Leaf))) (fun (u : Unit) => (((1, [.l (rows kVisit TVisit.row t.xVisits), .i t.xAt]) : Nat × List Leaf)))) (c1 (fun (h1 : Int) => ([.l (rows kVisit TVisit.row t.xVisits), .i h1, .i 0, .l (rows kVisit TVisit.row t.xVisits), .i t.xAt] : List Leaf)) (c1 (fun z0 : Nat => (z0 : Int)) (T_len (ks := kVisit) (g := TVisit.row) t.xVisits))) (fun i_1 x_1 s1 hx1 hl1 hm1 => Imp.brT (Int.ofNat_lt.2 hl1) ?_) (fun s1 => brN (Int.lt_irrefl _) rfl) (fun r4 => ?_)
  · refine Imp.idxFor (ks := kVisit) (g := TVisit.row) hx1 ?_
    refine Imp.br rfl ?_ ?_
    · refine Imp.br (c1 (fun z0 : Nat => (decide ((z0 : Int) > 0))) (T_len (ks := kNode) (g := TNode.row) x_1.xPage.xBuilder.xNodes)) ?_ ?_
      · refine Imp.call rfl (ei_iPageSound x_1.xPage _) (fun r3 _ => ?_)
        refine Imp.br rfl ?_ ?_
        · exact Imp.ret rfl
        · exact Imp.ret (c1 (fun (h1 : Int) => (some (Sum.inl [.l (rows kVisit TVisit.row t.xVisits), .i (t.xVisits.length : Int), .i h1, .l (rows kVisit TVisit.row t.xVisits), .i t.xAt]) : Option (List Leaf ⊕ (Nat × List Leaf)))) (wrapJ hl1))
      · exact Imp.ret (c1 (fun (h1 : Int) => (some (Sum.inl [.l (rows kVisit TVisit.row t.xVisits), .i (t.xVisits.length : Int), .i h1, .l (rows kVisit TVisit.row t.xVisits), .i t.xAt]) : Option (List Leaf ⊕ (Nat × List Leaf)))) (wrapJ hl1))
    · exact Imp.ret (c1 (fun (h1 : Int) => (some (Sum.inl [.l (rows kVisit TVisit.row t.xVisits), .i (t.xVisits.length : Int), .i h1, .l (rows kVisit TVisit.row t.xVisits), .i t.xAt]) : Option (List Leaf ⊕ (Nat × List Leaf)))) (wrapJ hl1))
  · cases r4 with
    | inl r4 =>
      refine Imp.ifT rfl ?_
      exact Imp.ret rfl
    | inr r4 =>
      refine Imp.ifF (show ¬ ((1 : Nat) = 0) by decide) ?_
      refine Imp.call rfl (ei_iIsTab t _) (fun r5 _ => ?_)
      exact Imp.ret rfl

/-- laws.FnExactTabSound -/
noncomputable def lFnExactTabSound (aT : TTab) : Option Bool :=
  (lszTab aT 1048576).bind fun (r1 : Int) =>
  br (decide (r1 < 0)) (
    some true
  ) (
    (ltoTab aT).bind fun (r2 : TTab) =>
    (sTabSound r2).bind fun (r4 : Bool) =>
    (ltoTab aT).bind fun (r5 : TTab) =>
    (iTabSound r5).bind fun (r7 : Bool) =>
    br (!(r7 == r4)) (
      some false
    ) (
      (ltoTab aT).bind fun (r8 : TTab) =>
      (leqTab r5 r8).bind fun (r10 : Bool) =>
      br (!r10) (
        some false
      ) (
        some true
      )
    )
  )
theorem ei_lFnExactTabSound (aT : TTab) (k : Bool → Option β) : Imp (F6 β (rows kVisit TVisit.row aT.xVisits) aT.xAt k) (lFnExactTabSound aT) (fun r => k r) := by
  delta F6 P6 lFnExactTabSound
  refine Imp.call rfl (ei_lszTab aT 1048576 _) (fun r1 _ => ?_)
  refine Imp.br rfl ?_ ?_
  · exact Imp.ret rfl
  · refine Imp.call rfl (ei_ltoTab aT _) (fun r2 _ => ?_)
    refine Imp.call rfl (ei_sTabSound r2 _) (fun r4 _ => ?_)
    refine Imp.call rfl (ei_ltoTab aT _) (fun r5 _ => ?_)
    refine Imp.call rfl (ei_iTabSound r5 _) (fun r7 _ => ?_)
    refine Imp.br rfl ?_ ?_
    · exact Imp.ret rfl
    · refine Imp.call rfl (ei_ltoTab aT _) (fun r8 _ => ?_)
      refine Imp.call rfl (ei_leqTab r5 r8 _) (fun r10 _ => ?_)
      refine Imp.br rfl ?_ ?_
      · exact Imp.ret rfl
      · exact Imp.ret rfl

end Go.Am
