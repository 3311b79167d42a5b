/-
  Typed forms of functions of the program, written by program (eform.py): each over structures and lists, and that, where it answers, the extracted function hands on that answer.
-/
import Derived.Test.YtlgbgnlpbnhhfaaGreatAmTyped
import Derived.Test.YtlgbgnlpbnhhfaaGreatTy
import Derived.Test.YtlgbgnlpbnhhfaaGreatFw
import Derived.Test.YtlgbgnlpbnhhfaaGreatTw
set_option maxRecDepth 10000
set_option linter.unusedVariables false
namespace Go.Am
open Go Go.Proofs
variable {β : Type}
/-- spec.EqualServers -/
noncomputable def sEqualServers (a : List TServer) (b : List TServer) : Option Bool :=
  br ((a.length : Int) != (b.length : Int)) (
    some false
  ) (
    (forE a (fun (i_1 : Nat) (x_1 : TServer) (s1 : Unit) => (
      (getI b (i_1 : Int)).bind fun (e3 : TServer) =>
      br (!(x_1.xHost == e3.xHost)) (
        some (.inr (.inl ()))
      ) (
        (getI b (i_1 : Int)).bind fun (e5 : TServer) =>
        br ((x_1.xFiles.length : Int) != (e5.xFiles.length : Int)) (
          some (.inr (.inl ()))
        ) (
          (whileE (fun (s6 : Int) => (
            br (decide (s6 < (x_1.xFiles.length : Int))) (
              (getI x_1.xFiles s6).bind fun (e9 : TFile) =>
              (getI b (i_1 : Int)).bind fun (e10 : TServer) =>
              (getI e10.xFiles s6).bind fun (e11 : TFile) =>
              br (!((e9.xPath == e11.xPath) && ((e9.xResponse.xStatus == e11.xResponse.xStatus) && ((e9.xResponse.xKind == e11.xResponse.xKind) && ((e9.xResponse.xBody == e11.xResponse.xBody) && ((e9.xResponse.xAge == e11.xResponse.xAge) && ((e9.xResponse.xShares == e11.xResponse.xShares) && ((e9.xResponse.xPolicy == e11.xResponse.xPolicy) && true)))))))) (
                some (.inr (.inl ()))
              ) (
                some (.inl (IntKind.wrap .i64 (s6 + 1)))
              )
            ) (
              some (.inr (.inr ()))
            )
          : Option (Int ⊕ (Unit ⊕ Unit)))) (0 : Int)).bind <|
          Sum.elim
            (fun (r12 : Unit) =>
              some (.inr (.inl ()))
            )
            (fun (r12 : Unit) =>
              some (.inl ())
            )
        )
      )
    : Option (Unit ⊕ (Unit ⊕ Unit)))) (fun (s1 : Unit) => (.inr () : Unit ⊕ Unit)) (() : Unit)).bind <|
    Sum.elim
      (fun (r13 : Unit) =>
        some false
      )
      (fun (r13 : Unit) =>
        some true
      )
  )
theorem ei_sEqualServers (a : List TServer) (b : List TServer) (k : Bool → Option β) : Imp (F36 β (rows kServer TServer.row a) (rows kServer TServer.row b) k) (sEqualServers a b) (fun r => k r) := by
  delta F36 P36 sEqualServers
  refine Imp.br (c2 (fun z0 z1 : Nat => ((z0 : Int) != (z1 : Int))) (T_len (ks := kServer) (g := TServer.row) a) (T_len (ks := kServer) (g := TServer.row) b)) ?_ ?_
  · exact Imp.ret rfl
  · refine Imp.for (enc := fun (i_1 : Nat) (s1 : Unit) => [.l (rows kServer TServer.row a), .l (rows kServer TServer.row b), .i (i_1 : Int)]) (encR := Sum.elim (fun (u : Unit) => (((0, [.b false]) : Nat × List Leaf))) (fun (u : Unit) => (((1, []) : Nat × List Leaf)))) rfl (fun i_1 x_1 s1 hx1 hl1 hm1 => Imp.brT (T_lt (ks := kServer) (g := TServer.row) hl1) ?_) (fun s1 => brN (T_irr (ks := kServer) (g := TServer.row) a) rfl) (fun r13 => ?_)
    · refine Imp.idxFor (ks := kServer) (g := TServer.row) hx1 ?_
      refine Imp.idx (ks := kServer) (g := TServer.row) rfl rfl (fun e3 _ => ?_)
      refine Imp.br rfl ?_ ?_
      · exact Imp.ret rfl
      · refine Imp.idxFor (ks := kServer) (g := TServer.row) hx1 ?_
        refine Imp.idx (ks := kServer) (g := TServer.row) rfl rfl (fun e5 _ => ?_)
        refine Imp.br (c2 (fun z0 z1 : Nat => ((z0 : Int) != (z1 : Int))) (T_len (ks := kFile) (g := TFile.row) x_1.xFiles) (T_len (ks := kFile) (g := TFile.row) e5.xFiles)) ?_ ?_
        · exact Imp.ret rfl
        · refine Imp.while (enc := fun (s6 : Int) => [.l (rows kServer TServer.row a), .l (rows kServer TServer.row b), .i (i_1 : Int), .i s6]) (encR := Sum.elim (fun (u : Unit) => (((0, [.l (rows kServer TServer.row a), .l (rows kServer TServer.row b), .b false, .i (i_1 : Int)]) : Nat × List Leaf))) (fun (u : Unit) => (((1, [.l (rows kServer TServer.row a), .l (rows kServer TServer.row b), .i (i_1 : Int)]) : Nat × List Leaf)))) rfl (fun s6 => ?_) (fun r12 => ?_)
          · refine Imp.idxFor (ks := kServer) (g := TServer.row) hx1 ?_
            refine Imp.br (c1 (fun z0 : Nat => (decide (s6 < (z0 : Int)))) (T_len (ks := kFile) (g := TFile.row) x_1.xFiles)) ?_ ?_
            · refine Imp.idxFor (ks := kServer) (g := TServer.row) hx1 ?_
              refine Imp.idx (ks := kFile) (g := TFile.row) rfl rfl (fun e9 _ => ?_)
              refine Imp.idx (ks := kServer) (g := TServer.row) rfl rfl (fun e10 _ => ?_)
              refine Imp.idx (ks := kFile) (g := TFile.row) rfl rfl (fun e11 _ => ?_)
              refine Imp.br rfl ?_ ?_
              · exact Imp.ret rfl
              · exact Imp.ret rfl
            · exact Imp.ret rfl
          · cases r12 with
            | inl r12 =>
              refine Imp.ifT rfl ?_
              exact Imp.ret rfl
            | inr r12 =>
              refine Imp.ifF (show ¬ ((1 : Nat) = 0) by decide) ?_
              exact Imp.ret (c1 (fun (h1 : Int) => (some (Sum.inl [.l (rows kServer TServer.row a), .l (rows kServer TServer.row b), .i h1]) : Option (List Leaf ⊕ (Nat × List Leaf)))) (wrapJ hl1))
    · cases r13 with
      | inl r13 =>
        refine Imp.ifT rfl ?_
        exact Imp.ret rfl
      | inr r13 =>
        refine Imp.ifF (show ¬ ((1 : Nat) = 0) by decide) ?_
        exact Imp.ret rfl

/-- spec.EqualCaches -/
noncomputable def sEqualCaches (a : TCache) (b : TCache) : Option Bool :=
  br ((a.xEntries.length : Int) != (b.xEntries.length : Int)) (
    some false
  ) (
    (forE a.xEntries (fun (i_1 : Nat) (x_1 : TEntry) (s1 : Unit) => (
      (getI b.xEntries (i_1 : Int)).bind fun (e3 : TEntry) =>
      br (!((x_1.xTop == e3.xTop) && ((x_1.xTo.xHost == e3.xTo.xHost) && ((x_1.xTo.xPath == e3.xTo.xPath) && ((x_1.xResponse.xStatus == e3.xResponse.xStatus) && ((x_1.xResponse.xKind == e3.xResponse.xKind) && ((x_1.xResponse.xBody == e3.xResponse.xBody) && ((x_1.xResponse.xAge == e3.xResponse.xAge) && ((x_1.xResponse.xShares == e3.xResponse.xShares) && ((x_1.xResponse.xPolicy == e3.xResponse.xPolicy) && ((x_1.xUntil == e3.xUntil) && true))))))))))) (
        some (.inr (.inl ()))
      ) (
        some (.inl ())
      )
    : Option (Unit ⊕ (Unit ⊕ Unit)))) (fun (s1 : Unit) => (.inr () : Unit ⊕ Unit)) (() : Unit)).bind <|
    Sum.elim
      (fun (r4 : Unit) =>
        some false
      )
      (fun (r4 : Unit) =>
        some true
      )
  )
theorem ei_sEqualCaches (a : TCache) (b : TCache) (k : Bool → Option β) : Imp (F155 β (rows kEntry TEntry.row a.xEntries) (rows kEntry TEntry.row b.xEntries) k) (sEqualCaches a b) (fun r => k r) := by
  delta F155 P155 sEqualCaches
  refine Imp.br (c2 (fun z0 z1 : Nat => ((z0 : Int) != (z1 : Int))) (T_len (ks := kEntry) (g := TEntry.row) a.xEntries) (T_len (ks := kEntry) (g := TEntry.row) b.xEntries)) ?_ ?_
  · exact Imp.ret rfl
  · refine Imp.for (enc := fun (i_1 : Nat) (s1 : Unit) => [.i (i_1 : Int), .l (rows kEntry TEntry.row a.xEntries), .l (rows kEntry TEntry.row b.xEntries)]) (encR := Sum.elim (fun (u : Unit) => (((0, [.b false]) : Nat × List Leaf))) (fun (u : Unit) => (((1, []) : Nat × List Leaf)))) rfl (fun i_1 x_1 s1 hx1 hl1 hm1 => Imp.brT (T_lt (ks := kEntry) (g := TEntry.row) hl1) ?_) (fun s1 => brN (T_irr (ks := kEntry) (g := TEntry.row) a.xEntries) rfl) (fun r4 => ?_)
    · refine Imp.idxFor (ks := kEntry) (g := TEntry.row) hx1 ?_
      refine Imp.idx (ks := kEntry) (g := TEntry.row) rfl rfl (fun e3 _ => ?_)
      refine Imp.br rfl ?_ ?_
      · exact Imp.ret rfl
      · exact Imp.ret (c1 (fun (h1 : Int) => (some (Sum.inl [.i h1, .l (rows kEntry TEntry.row a.xEntries), .l (rows kEntry TEntry.row b.xEntries)]) : Option (List Leaf ⊕ (Nat × List Leaf)))) (wrapJ hl1))
    · cases r4 with
      | inl r4 =>
        refine Imp.ifT rfl ?_
        exact Imp.ret rfl
      | inr r4 =>
        refine Imp.ifF (show ¬ ((1 : Nat) = 0) by decide) ?_
        exact Imp.ret rfl

/-- spec.EqualNets -/
noncomputable def sEqualNets (a : TNet) (b : TNet) : Option Bool :=
  (sEqualServers a.xServers b.xServers).bind fun (r1 : Bool) =>
  br (!r1) (
    some false
  ) (
    (sEqualCaches a.xCache b.xCache).bind fun (r2 : Bool) =>
    br (!r2) (
      some false
    ) (
      br ((a.xLog.length : Int) != (b.xLog.length : Int)) (
        some false
      ) (
        br (a.xNow != b.xNow) (
          some false
        ) (
          (forE a.xLog (fun (i_3 : Nat) (x_3 : TSent) (s3 : Unit) => (
            (getI b.xLog (i_3 : Int)).bind fun (e5 : TSent) =>
            br (!((x_3.xTop == e5.xTop) && ((x_3.xTo.xHost == e5.xTo.xHost) && ((x_3.xTo.xPath == e5.xTo.xPath) && ((x_3.xGuess == e5.xGuess) && true))))) (
              some (.inr (.inl ()))
            ) (
              some (.inl ())
            )
          : Option (Unit ⊕ (Unit ⊕ Unit)))) (fun (s3 : Unit) => (.inr () : Unit ⊕ Unit)) (() : Unit)).bind <|
          Sum.elim
            (fun (r6 : Unit) =>
              some false
            )
            (fun (r6 : Unit) =>
              some true
            )
        )
      )
    )
  )
theorem ei_sEqualNets (a : TNet) (b : TNet) (k : Bool → Option β) : Imp (F94 β (rows kServer TServer.row a.xServers) (rows kEntry TEntry.row a.xCache.xEntries) (rows kSent TSent.row a.xLog) a.xNow (rows kServer TServer.row b.xServers) (rows kEntry TEntry.row b.xCache.xEntries) (rows kSent TSent.row b.xLog) b.xNow k) (sEqualNets a b) (fun r => k r) := by
  delta F94 P94 sEqualNets
  refine Imp.call rfl (ei_sEqualServers a.xServers b.xServers _) (fun r1 _ => ?_)
  refine Imp.br rfl ?_ ?_
  · exact Imp.ret rfl
  · refine Imp.call rfl (ei_sEqualCaches a.xCache b.xCache _) (fun r2 _ => ?_)
    refine Imp.br rfl ?_ ?_
    · exact Imp.ret rfl
    · refine Imp.br (c2 (fun z0 z1 : Nat => ((z0 : Int) != (z1 : Int))) (T_len (ks := kSent) (g := TSent.row) a.xLog) (T_len (ks := kSent) (g := TSent.row) b.xLog)) ?_ ?_
      · exact Imp.ret rfl
      · refine Imp.br rfl ?_ ?_
        · exact Imp.ret rfl
        · refine Imp.for (enc := fun (i_3 : Nat) (s3 : Unit) => [.i (i_3 : Int), .l (rows kServer TServer.row a.xServers), .l (rows kEntry TEntry.row a.xCache.xEntries), .l (rows kSent TSent.row a.xLog), .i a.xNow, .l (rows kServer TServer.row b.xServers), .l (rows kEntry TEntry.row b.xCache.xEntries), .l (rows kSent TSent.row b.xLog), .i b.xNow]) (encR := Sum.elim (fun (u : Unit) => (((0, [.b false]) : Nat × List Leaf))) (fun (u : Unit) => (((1, []) : Nat × List Leaf)))) rfl (fun i_3 x_3 s3 hx3 hl3 hm3 => Imp.brT (T_lt (ks := kSent) (g := TSent.row) hl3) ?_) (fun s3 => brN (T_irr (ks := kSent) (g := TSent.row) a.xLog) rfl) (fun r6 => ?_)
          · refine Imp.idxFor (ks := kSent) (g := TSent.row) hx3 ?_
            refine Imp.idx (ks := kSent) (g := TSent.row) rfl rfl (fun e5 _ => ?_)
            refine Imp.br rfl ?_ ?_
            · exact Imp.ret rfl
            · exact Imp.ret (c1 (fun (h1 : Int) => (some (Sum.inl [.i h1, .l (rows kServer TServer.row a.xServers), .l (rows kEntry TEntry.row a.xCache.xEntries), .l (rows kSent TSent.row a.xLog), .i a.xNow, .l (rows kServer TServer.row b.xServers), .l (rows kEntry TEntry.row b.xCache.xEntries), .l (rows kSent TSent.row b.xLog), .i b.xNow]) : Option (List Leaf ⊕ (Nat × List Leaf)))) (wrapJ hl3))
          · cases r6 with
            | inl r6 =>
              refine Imp.ifT rfl ?_
              exact Imp.ret rfl
            | inr r6 =>
              refine Imp.ifF (show ¬ ((1 : Nat) = 0) by decide) ?_
              exact Imp.ret rfl

/-- spec.l9Same -/
noncomputable def sl9Same (a : List (List UInt8)) (b : List (List UInt8)) : Option Bool :=
  br ((a.length : Int) != (b.length : Int)) (
    some false
  ) (
    (forE a (fun (i_1 : Nat) (x_1 : List UInt8) (s1 : Unit) => (
      (getI b (i_1 : Int)).bind fun (e3 : List UInt8) =>
      br (!(x_1 == e3)) (
        some (.inr (.inl ()))
      ) (
        some (.inl ())
      )
    : Option (Unit ⊕ (Unit ⊕ Unit)))) (fun (s1 : Unit) => (.inr () : Unit ⊕ Unit)) (() : Unit)).bind <|
    Sum.elim
      (fun (r4 : Unit) =>
        some false
      )
      (fun (r4 : Unit) =>
        some true
      )
  )
theorem ei_sl9Same (a : List (List UInt8)) (b : List (List UInt8)) (k : Bool → Option β) : Imp (F162 β (rStr a) (rStr b) k) (sl9Same a b) (fun r => k r) := by
  delta F162 P162 sl9Same
  refine Imp.br (c2 (fun z0 z1 : Nat => ((z0 : Int) != (z1 : Int))) (U_len (kd := .str) (g1 := fun e => e) a) (U_len (kd := .str) (g1 := fun e => e) b)) ?_ ?_
  · exact Imp.ret rfl
  · refine Imp.for (enc := fun (i_1 : Nat) (s1 : Unit) => [.l (rStr a), .l (rStr b), .i (i_1 : Int)]) (encR := Sum.elim (fun (u : Unit) => (((0, [.b false]) : Nat × List Leaf))) (fun (u : Unit) => (((1, []) : Nat × List Leaf)))) rfl (fun i_1 x_1 s1 hx1 hl1 hm1 => Imp.brT (U_lt (kd := .str) (g1 := fun e => e) hl1) ?_) (fun s1 => brN (U_irr (kd := .str) (g1 := fun e => e) a) rfl) (fun r4 => ?_)
    · refine Imp.idxFor1 (kd := .str) (g1 := fun e => e) hx1 ?_
      refine Imp.idx1 (kd := .str) (g1 := fun e => e) rfl rfl (fun e3 _ => ?_)
      refine Imp.br rfl ?_ ?_
      · exact Imp.ret rfl
      · exact Imp.ret (c1 (fun (h1 : Int) => (some (Sum.inl [.l (rStr a), .l (rStr b), .i h1]) : Option (List Leaf ⊕ (Nat × List Leaf)))) (wrapJ hl1))
    · cases r4 with
      | inl r4 =>
        refine Imp.ifT rfl ?_
        exact Imp.ret rfl
      | inr r4 =>
        refine Imp.ifF (show ¬ ((1 : Nat) = 0) by decide) ?_
        exact Imp.ret rfl

/-- spec.EqualPolicies -/
noncomputable def sEqualPolicies (a : TPolicy) (b : TPolicy) : Option Bool :=
  br (a.xSet == b.xSet) (
    (sl9Same a.xScripts b.xScripts).bind fun (r1 : Bool) =>
    br r1 (
      (sl9Same a.xStyles b.xStyles).bind fun (r2 : Bool) =>
      br r2 (
        (sl9Same a.xImages b.xImages).bind fun (r3 : Bool) =>
        br r3 (
          some (a.xNonce == b.xNonce)
        ) (
          some false
        )
      ) (
        some false
      )
    ) (
      some false
    )
  ) (
    some false
  )
theorem ei_sEqualPolicies (a : TPolicy) (b : TPolicy) (k : Bool → Option β) : Imp (F100 β a.xSet (rStr a.xScripts) (rStr a.xStyles) (rStr a.xImages) a.xNonce b.xSet (rStr b.xScripts) (rStr b.xStyles) (rStr b.xImages) b.xNonce k) (sEqualPolicies a b) (fun r => k r) := by
  delta F100 P100 sEqualPolicies
  refine Imp.br rfl ?_ ?_
  · refine Imp.call rfl (ei_sl9Same a.xScripts b.xScripts _) (fun r1 _ => ?_)
    refine Imp.br rfl ?_ ?_
    · refine Imp.call rfl (ei_sl9Same a.xStyles b.xStyles _) (fun r2 _ => ?_)
      refine Imp.br rfl ?_ ?_
      · refine Imp.call rfl (ei_sl9Same a.xImages b.xImages _) (fun r3 _ => ?_)
        refine Imp.br rfl ?_ ?_
        · exact Imp.ret rfl
        · exact Imp.ret rfl
      · exact Imp.ret rfl
    · exact Imp.ret rfl
  · exact Imp.ret rfl

/-- spec.EqualInts -/
noncomputable def sEqualInts (a : List Int) (b : List Int) : Option Bool :=
  br ((a.length : Int) != (b.length : Int)) (
    some false
  ) (
    (forE a (fun (i_1 : Nat) (x_1 : Int) (s1 : Unit) => (
      (getI b (i_1 : Int)).bind fun (e3 : Int) =>
      br (x_1 != e3) (
        some (.inr (.inl ()))
      ) (
        some (.inl ())
      )
    : Option (Unit ⊕ (Unit ⊕ Unit)))) (fun (s1 : Unit) => (.inr () : Unit ⊕ Unit)) (() : Unit)).bind <|
    Sum.elim
      (fun (r4 : Unit) =>
        some false
      )
      (fun (r4 : Unit) =>
        some true
      )
  )
theorem ei_sEqualInts (a : List Int) (b : List Int) (k : Bool → Option β) : Imp (F163 β (rInt a) (rInt b) k) (sEqualInts a b) (fun r => k r) := by
  delta F163 P163 sEqualInts
  refine Imp.br (c2 (fun z0 z1 : Nat => ((z0 : Int) != (z1 : Int))) (U_len (kd := (.int .i64)) (g1 := fun e => e) a) (U_len (kd := (.int .i64)) (g1 := fun e => e) b)) ?_ ?_
  · exact Imp.ret rfl
  · refine Imp.for (enc := fun (i_1 : Nat) (s1 : Unit) => [.l (rInt a), .l (rInt b), .i (i_1 : Int)]) (encR := Sum.elim (fun (u : Unit) => (((0, [.b false]) : Nat × List Leaf))) (fun (u : Unit) => (((1, []) : Nat × List Leaf)))) rfl (fun i_1 x_1 s1 hx1 hl1 hm1 => Imp.brT (U_lt (kd := (.int .i64)) (g1 := fun e => e) hl1) ?_) (fun s1 => brN (U_irr (kd := (.int .i64)) (g1 := fun e => e) a) rfl) (fun r4 => ?_)
    · refine Imp.idxFor1 (kd := (.int .i64)) (g1 := fun e => e) hx1 ?_
      refine Imp.idx1 (kd := (.int .i64)) (g1 := fun e => e) rfl rfl (fun e3 _ => ?_)
      refine Imp.br rfl ?_ ?_
      · exact Imp.ret rfl
      · exact Imp.ret (c1 (fun (h1 : Int) => (some (Sum.inl [.l (rInt a), .l (rInt b), .i h1]) : Option (List Leaf ⊕ (Nat × List Leaf)))) (wrapJ hl1))
    · cases r4 with
      | inl r4 =>
        refine Imp.ifT rfl ?_
        exact Imp.ret rfl
      | inr r4 =>
        refine Imp.ifF (show ¬ ((1 : Nat) = 0) by decide) ?_
        exact Imp.ret rfl

/-- spec.l6Same -/
noncomputable def sl6Same (a : TNode) (b : TNode) : Option Bool :=
  br (!(a.xName == b.xName)) (
    some false
  ) (
    br (!(a.xText == b.xText)) (
      some false
    ) (
      br (a.xParent != b.xParent) (
        some false
      ) (
        br ((a.xAttrs.length : Int) != (b.xAttrs.length : Int)) (
          some false
        ) (
          (forE a.xAttrs (fun (i_1 : Nat) (x_1 : TAttr) (s1 : Unit) => (
            (getI b.xAttrs (i_1 : Int)).bind fun (e3 : TAttr) =>
            br (!((x_1.xName == e3.xName) && ((x_1.xValue == e3.xValue) && true))) (
              some (.inr (.inl ()))
            ) (
              some (.inl ())
            )
          : Option (Unit ⊕ (Unit ⊕ Unit)))) (fun (s1 : Unit) => (.inr () : Unit ⊕ Unit)) (() : Unit)).bind <|
          Sum.elim
            (fun (r4 : Unit) =>
              some false
            )
            (fun (r4 : Unit) =>
              some true
            )
        )
      )
    )
  )
theorem ei_sl6Same (a : TNode) (b : TNode) (k : Bool → Option β) : Imp (F164 β a.xName a.xText a.xParent (rows kAttr TAttr.row a.xAttrs) b.xName b.xText b.xParent (rows kAttr TAttr.row b.xAttrs) k) (sl6Same a b) (fun r => k r) := by
  delta F164 P164 sl6Same
  refine Imp.br rfl ?_ ?_
  · exact Imp.ret rfl
  · refine Imp.br rfl ?_ ?_
    · exact Imp.ret rfl
    · refine Imp.br rfl ?_ ?_
      · exact Imp.ret rfl
      · refine Imp.br (c2 (fun z0 z1 : Nat => ((z0 : Int) != (z1 : Int))) (T_len (ks := kAttr) (g := TAttr.row) a.xAttrs) (T_len (ks := kAttr) (g := TAttr.row) b.xAttrs)) ?_ ?_
        · exact Imp.ret rfl
        · refine Imp.for (enc := fun (i_1 : Nat) (s1 : Unit) => [.i (i_1 : Int), .s a.xName, .s a.xText, .i a.xParent, .l (rows kAttr TAttr.row a.xAttrs), .s b.xName, .s b.xText, .i b.xParent, .l (rows kAttr TAttr.row b.xAttrs)]) (encR := Sum.elim (fun (u : Unit) => (((0, [.b false]) : Nat × List Leaf))) (fun (u : Unit) => (((1, []) : Nat × List Leaf)))) rfl (fun i_1 x_1 s1 hx1 hl1 hm1 => Imp.brT (T_lt (ks := kAttr) (g := TAttr.row) hl1) ?_) (fun s1 => brN (T_irr (ks := kAttr) (g := TAttr.row) a.xAttrs) rfl) (fun r4 => ?_)
          · refine Imp.idxFor (ks := kAttr) (g := TAttr.row) hx1 ?_
            refine Imp.idx (ks := kAttr) (g := TAttr.row) rfl rfl (fun e3 _ => ?_)
            refine Imp.br rfl ?_ ?_
            · exact Imp.ret rfl
            · exact Imp.ret (c1 (fun (h1 : Int) => (some (Sum.inl [.i h1, .s a.xName, .s a.xText, .i a.xParent, .l (rows kAttr TAttr.row a.xAttrs), .s b.xName, .s b.xText, .i b.xParent, .l (rows kAttr TAttr.row b.xAttrs)]) : Option (List Leaf ⊕ (Nat × List Leaf)))) (wrapJ hl1))
          · cases r4 with
            | inl r4 =>
              refine Imp.ifT rfl ?_
              exact Imp.ret rfl
            | inr r4 =>
              refine Imp.ifF (show ¬ ((1 : Nat) = 0) by decide) ?_
              exact Imp.ret rfl

/-- spec.EqualBuilders -/
noncomputable def sEqualBuilders (a : TBuilder) (b : TBuilder) : Option Bool :=
  br ((a.xNodes.length : Int) != (b.xNodes.length : Int)) (
    some false
  ) (
    (sEqualInts a.xOpen b.xOpen).bind fun (r1 : Bool) =>
    br (!r1) (
      some false
    ) (
      (forE a.xNodes (fun (i_2 : Nat) (x_2 : TNode) (s2 : Unit) => (
        (getI b.xNodes (i_2 : Int)).bind fun (e4 : TNode) =>
        (sl6Same x_2 e4).bind fun (r5 : Bool) =>
        br (!r5) (
          some (.inr (.inl ()))
        ) (
          some (.inl ())
        )
      : Option (Unit ⊕ (Unit ⊕ Unit)))) (fun (s2 : Unit) => (.inr () : Unit ⊕ Unit)) (() : Unit)).bind <|
      Sum.elim
        (fun (r6 : Unit) =>
          some false
        )
        (fun (r6 : Unit) =>
          some true
        )
    )
  )
theorem ei_sEqualBuilders (a : TBuilder) (b : TBuilder) (k : Bool → Option β) : Imp (F101 β (rows kNode TNode.row a.xNodes) (rInt a.xOpen) (rows kNode TNode.row b.xNodes) (rInt b.xOpen) k) (sEqualBuilders a b) (fun r => k r) := by
  delta F101 P101 sEqualBuilders
  refine Imp.br (c2 (fun z0 z1 : Nat => ((z0 : Int) != (z1 : Int))) (T_len (ks := kNode) (g := TNode.row) a.xNodes) (T_len (ks := kNode) (g := TNode.row) b.xNodes)) ?_ ?_
  · exact Imp.ret rfl
  · refine Imp.call rfl (ei_sEqualInts a.xOpen b.xOpen _) (fun r1 _ => ?_)
    refine Imp.br rfl ?_ ?_
    · exact Imp.ret rfl
    · refine Imp.for (enc := fun (i_2 : Nat) (s2 : Unit) => [.i (i_2 : Int), .l (rows kNode TNode.row a.xNodes), .l (rInt a.xOpen), .l (rows kNode TNode.row b.xNodes), .l (rInt b.xOpen)]) (encR := Sum.elim (fun (u : Unit) => (((0, [.b false]) : Nat × List Leaf))) (fun (u : Unit) => (((1, []) : Nat × List Leaf)))) rfl (fun i_2 x_2 s2 hx2 hl2 hm2 => Imp.brT (T_lt (ks := kNode) (g := TNode.row) hl2) ?_) (fun s2 => brN (T_irr (ks := kNode) (g := TNode.row) a.xNodes) rfl) (fun r6 => ?_)
      · refine Imp.idxFor (ks := kNode) (g := TNode.row) hx2 ?_
        refine Imp.idx (ks := kNode) (g := TNode.row) rfl rfl (fun e4 _ => ?_)
        refine Imp.call rfl (ei_sl6Same x_2 e4 _) (fun r5 _ => ?_)
        refine Imp.br rfl ?_ ?_
        · exact Imp.ret rfl
        · exact Imp.ret (c1 (fun (h1 : Int) => (some (Sum.inl [.i h1, .l (rows kNode TNode.row a.xNodes), .l (rInt a.xOpen), .l (rows kNode TNode.row b.xNodes), .l (rInt b.xOpen)]) : Option (List Leaf ⊕ (Nat × List Leaf)))) (wrapJ hl2))
      · cases r6 with
        | inl r6 =>
          refine Imp.ifT rfl ?_
          exact Imp.ret rfl
        | inr r6 =>
          refine Imp.ifF (show ¬ ((1 : Nat) = 0) by decide) ?_
          exact Imp.ret rfl

/-- spec.FormatToken -/
noncomputable def sFormatToken (t : TToken) : Option (List UInt8) :=
  br (t.xKind == 1) (
    chk (1 + t.xName.length ≤ 9223372036854775807) <|
    (forE t.xAttrs (fun (i_1 : Nat) (x_1 : TAttr) (s1 : List UInt8) => (
      chk (s1.length + 1 ≤ 9223372036854775807) <|
      chk ((s1 ++ [32]).length + x_1.xName.length ≤ 9223372036854775807) <|
      chk (((s1 ++ [32]) ++ x_1.xName).length + 1 ≤ 9223372036854775807) <|
      chk ((((s1 ++ [32]) ++ x_1.xName) ++ [61]).length + x_1.xValue.length ≤ 9223372036854775807) <|
      some (.inl ((((s1 ++ [32]) ++ x_1.xName) ++ [61]) ++ x_1.xValue))
    : Option ((List UInt8) ⊕ (List UInt8)))) (fun (s1 : List UInt8) => (s1 : List UInt8)) (([60] ++ t.xName) : List UInt8)).bind <|
    fun (r4 : List UInt8) =>
    chk (r4.length + 1 ≤ 9223372036854775807) <|
    some (r4 ++ [62])
  ) (
    br (t.xKind == 2) (
      chk (2 + t.xName.length ≤ 9223372036854775807) <|
      chk (([60, 47] ++ t.xName : List UInt8).length + 1 ≤ 9223372036854775807) <|
      some (([60, 47] ++ t.xName) ++ [62])
    ) (
      br (t.xKind == 3) (
        some t.xText
      ) (
        some []
      )
    )
  )
theorem ei_sFormatToken (t : TToken) (k : List UInt8 → Option β) : Imp (F165 β t.xKind t.xName (rows kAttr TAttr.row t.xAttrs) t.xText k) (sFormatToken t) (fun r => k r) := by
  delta F165 P165 sFormatToken
  refine Imp.br rfl ?_ ?_
  · refine Imp.chk rfl (fun _ => ?_)
    refine Imp.for (enc := fun (i_1 : Nat) (s1 : List UInt8) => [.s s1, .i (i_1 : Int), .i t.xKind, .s t.xName, .l (rows kAttr TAttr.row t.xAttrs), .s t.xText]) (encR := fun (u : List UInt8) => (((0, [.s u]) : Nat × List Leaf))) rfl (fun i_1 x_1 s1 hx1 hl1 hm1 => Imp.brT (T_lt (ks := kAttr) (g := TAttr.row) hl1) ?_) (fun s1 => brN (T_irr (ks := kAttr) (g := TAttr.row) t.xAttrs) rfl) (fun r4 => ?_)
    · refine Imp.chk rfl (fun _ => ?_)
      refine Imp.idxFor (ks := kAttr) (g := TAttr.row) hx1 ?_
      refine Imp.chk rfl (fun _ => ?_)
      refine Imp.chk rfl (fun _ => ?_)
      refine Imp.idxFor (ks := kAttr) (g := TAttr.row) hx1 ?_
      refine Imp.chk rfl (fun _ => ?_)
      exact Imp.ret (c1 (fun (h1 : Int) => (some (Sum.inl [.s ((((s1 ++ [32]) ++ x_1.xName) ++ [61]) ++ x_1.xValue), .i h1, .i t.xKind, .s t.xName, .l (rows kAttr TAttr.row t.xAttrs), .s t.xText]) : Option (List Leaf ⊕ (Nat × List Leaf)))) (wrapJ hl1))
    · refine Imp.chk rfl (fun _ => ?_)
      exact Imp.ret rfl
  · refine Imp.br rfl ?_ ?_
    · refine Imp.chk rfl (fun _ => ?_)
      refine Imp.chk rfl (fun _ => ?_)
      exact Imp.ret rfl
    · refine Imp.br rfl ?_ ?_
      · exact Imp.ret rfl
      · exact Imp.ret rfl

/-- spec.l15SameTokens -/
noncomputable def sl15SameTokens (a : List TToken) (b : List TToken) : Option Bool :=
  br ((a.length : Int) != (b.length : Int)) (
    some false
  ) (
    (forE a (fun (i_1 : Nat) (x_1 : TToken) (s1 : Unit) => (
      (getI b (i_1 : Int)).bind fun (e3 : TToken) =>
      br (x_1.xKind != e3.xKind) (
        some (.inr (.inl ()))
      ) (
        (sFormatToken x_1).bind fun (r5 : List UInt8) =>
        (getI b (i_1 : Int)).bind fun (e6 : TToken) =>
        (sFormatToken e6).bind fun (r7 : List UInt8) =>
        br (!(r5 == r7)) (
          some (.inr (.inl ()))
        ) (
          (getI b (i_1 : Int)).bind fun (e9 : TToken) =>
          br (!(x_1.xName == e9.xName)) (
            some (.inr (.inl ()))
          ) (
            (getI b (i_1 : Int)).bind fun (e11 : TToken) =>
            br (!(x_1.xText == e11.xText)) (
              some (.inr (.inl ()))
            ) (
              (getI b (i_1 : Int)).bind fun (e13 : TToken) =>
              br ((x_1.xAttrs.length : Int) != (e13.xAttrs.length : Int)) (
                some (.inr (.inl ()))
              ) (
                (whileE (fun (s14 : Int) => (
                  br (decide (s14 < (x_1.xAttrs.length : Int))) (
                    (getI x_1.xAttrs s14).bind fun (e17 : TAttr) =>
                    (getI b (i_1 : Int)).bind fun (e18 : TToken) =>
                    (getI e18.xAttrs s14).bind fun (e19 : TAttr) =>
                    br (!((e17.xName == e19.xName) && ((e17.xValue == e19.xValue) && true))) (
                      some (.inr (.inl ()))
                    ) (
                      some (.inl (IntKind.wrap .i64 (s14 + 1)))
                    )
                  ) (
                    some (.inr (.inr ()))
                  )
                : Option (Int ⊕ (Unit ⊕ Unit)))) (0 : Int)).bind <|
                Sum.elim
                  (fun (r20 : Unit) =>
                    some (.inr (.inl ()))
                  )
                  (fun (r20 : Unit) =>
                    some (.inl ())
                  )
              )
            )
          )
        )
      )
    : Option (Unit ⊕ (Unit ⊕ Unit)))) (fun (s1 : Unit) => (.inr () : Unit ⊕ Unit)) (() : Unit)).bind <|
    Sum.elim
      (fun (r21 : Unit) =>
        some false
      )
      (fun (r21 : Unit) =>
        some true
      )
  )
theorem ei_sl15SameTokens (a : List TToken) (b : List TToken) (k : Bool → Option β) : Imp (F102 β (rows kToken TToken.row a) (rows kToken TToken.row b) k) (sl15SameTokens a b) (fun r => k r) := by
  delta F102 P102 sl15SameTokens
  refine Imp.br (c2 (fun z0 z1 : Nat => ((z0 : Int) != (z1 : Int))) (T_len (ks := kToken) (g := TToken.row) a) (T_len (ks := kToken) (g := TToken.row) b)) ?_ ?_
  · exact Imp.ret rfl
  · refine Imp.for (enc := fun (i_1 : Nat) (s1 : Unit) => [.l (rows kToken TToken.row a), .l (rows kToken TToken.row b), .i (i_1 : Int)]) (encR := Sum.elim (fun (u : Unit) => (((0, [.b false]) : Nat × List Leaf))) (fun (u : Unit) => (((1, []) : Nat × List Leaf)))) rfl (fun i_1 x_1 s1 hx1 hl1 hm1 => Imp.brT (T_lt (ks := kToken) (g := TToken.row) hl1) ?_) (fun s1 => brN (T_irr (ks := kToken) (g := TToken.row) a) rfl) (fun r21 => ?_)
    · refine Imp.idxFor (ks := kToken) (g := TToken.row) hx1 ?_
      refine Imp.idx (ks := kToken) (g := TToken.row) rfl rfl (fun e3 _ => ?_)
      refine Imp.br rfl ?_ ?_
      · exact Imp.ret rfl
      · refine Imp.idxFor (ks := kToken) (g := TToken.row) hx1 ?_
        refine Imp.call rfl (ei_sFormatToken x_1 _) (fun r5 _ => ?_)
        refine Imp.idx (ks := kToken) (g := TToken.row) rfl rfl (fun e6 _ => ?_)
        refine Imp.call rfl (ei_sFormatToken e6 _) (fun r7 _ => ?_)
        refine Imp.br rfl ?_ ?_
        · exact Imp.ret rfl
        · refine Imp.idxFor (ks := kToken) (g := TToken.row) hx1 ?_
          refine Imp.idx (ks := kToken) (g := TToken.row) rfl rfl (fun e9 _ => ?_)
          refine Imp.br rfl ?_ ?_
          · exact Imp.ret rfl
          · refine Imp.idxFor (ks := kToken) (g := TToken.row) hx1 ?_
            refine Imp.idx (ks := kToken) (g := TToken.row) rfl rfl (fun e11 _ => ?_)
            refine Imp.br rfl ?_ ?_
            · exact Imp.ret rfl
            · refine Imp.idxFor (ks := kToken) (g := TToken.row) hx1 ?_
              refine Imp.idx (ks := kToken) (g := TToken.row) rfl rfl (fun e13 _ => ?_)
              refine Imp.br (c2 (fun z0 z1 : Nat => ((z0 : Int) != (z1 : Int))) (T_len (ks := kAttr) (g := TAttr.row) x_1.xAttrs) (T_len (ks := kAttr) (g := TAttr.row) e13.xAttrs)) ?_ ?_
              · exact Imp.ret rfl
              · refine Imp.while (enc := fun (s14 : Int) => [.l (rows kToken TToken.row a), .l (rows kToken TToken.row b), .i (i_1 : Int), .i s14]) (encR := Sum.elim (fun (u : Unit) => (((0, [.l (rows kToken TToken.row a), .l (rows kToken TToken.row b), .b false, .i (i_1 : Int)]) : Nat × List Leaf))) (fun (u : Unit) => (((1, [.l (rows kToken TToken.row a), .l (rows kToken TToken.row b), .i (i_1 : Int)]) : Nat × List Leaf)))) rfl (fun s14 => ?_) (fun r20 => ?_)
                · refine Imp.idxFor (ks := kToken) (g := TToken.row) hx1 ?_
                  refine Imp.br (c1 (fun z0 : Nat => (decide (s14 < (z0 : Int)))) (T_len (ks := kAttr) (g := TAttr.row) x_1.xAttrs)) ?_ ?_
                  · refine Imp.idxFor (ks := kToken) (g := TToken.row) hx1 ?_
                    refine Imp.idx (ks := kAttr) (g := TAttr.row) rfl rfl (fun e17 _ => ?_)
                    refine Imp.idx (ks := kToken) (g := TToken.row) rfl rfl (fun e18 _ => ?_)
                    refine Imp.idx (ks := kAttr) (g := TAttr.row) rfl rfl (fun e19 _ => ?_)
                    refine Imp.br rfl ?_ ?_
                    · exact Imp.ret rfl
                    · exact Imp.ret rfl
                  · exact Imp.ret rfl
                · cases r20 with
                  | inl r20 =>
                    refine Imp.ifT rfl ?_
                    exact Imp.ret rfl
                  | inr r20 =>
                    refine Imp.ifF (show ¬ ((1 : Nat) = 0) by decide) ?_
                    exact Imp.ret (c1 (fun (h1 : Int) => (some (Sum.inl [.l (rows kToken TToken.row a), .l (rows kToken TToken.row b), .i h1]) : Option (List Leaf ⊕ (Nat × List Leaf)))) (wrapJ hl1))
    · cases r21 with
      | inl r21 =>
        refine Imp.ifT rfl ?_
        exact Imp.ret rfl
      | inr r21 =>
        refine Imp.ifF (show ¬ ((1 : Nat) = 0) by decide) ?_
        exact Imp.ret rfl

/-- spec.l15Lists -/
noncomputable def sl15Lists (a : TPage) (b : TPage) : Option Bool :=
  br ((a.xSlots.length : Int) != (b.xSlots.length : Int)) (
    some false
  ) (
    br ((a.xMods.length : Int) != (b.xMods.length : Int)) (
      some false
    ) (
      (forE a.xSlots (fun (i_1 : Nat) (x_1 : TSlot) (s1 : Unit) => (
        (getI b.xSlots (i_1 : Int)).bind fun (e3 : TSlot) =>
        br (!((x_1.xMode == e3.xMode) && ((x_1.xTo.xHost == e3.xTo.xHost) && ((x_1.xTo.xPath == e3.xTo.xPath) && ((x_1.xDigest == e3.xDigest) && ((x_1.xNode == e3.xNode) && ((x_1.xDone == e3.xDone) && ((x_1.xCode == e3.xCode) && ((x_1.xBody == e3.xBody) && true))))))))) (
          some (.inr (.inl ()))
        ) (
          some (.inl ())
        )
      : Option (Unit ⊕ (Unit ⊕ Unit)))) (fun (s1 : Unit) => (.inr () : Unit ⊕ Unit)) (() : Unit)).bind <|
      Sum.elim
        (fun (r4 : Unit) =>
          some false
        )
        (fun (r4 : Unit) =>
          (forE a.xMods (fun (i_5 : Nat) (x_5 : TModule) (s5 : Unit) => (
            (getI b.xMods (i_5 : Int)).bind fun (e7 : TModule) =>
            br (!((x_5.xTo.xHost == e7.xTo.xHost) && ((x_5.xTo.xPath == e7.xTo.xPath) && ((x_5.xDone == e7.xDone) && ((x_5.xCode == e7.xCode) && ((x_5.xBody == e7.xBody) && true)))))) (
              some (.inr (.inl ()))
            ) (
              some (.inl ())
            )
          : Option (Unit ⊕ (Unit ⊕ Unit)))) (fun (s5 : Unit) => (.inr () : Unit ⊕ Unit)) (() : Unit)).bind <|
          Sum.elim
            (fun (r8 : Unit) =>
              some false
            )
            (fun (r8 : Unit) =>
              some true
            )
        )
    )
  )
theorem ei_sl15Lists (a : TPage) (b : TPage) (k : Bool → Option β) : Imp (F103 β a.xAddr.xHost a.xAddr.xPath a.xPolicy.xSet (rStr a.xPolicy.xScripts) (rStr a.xPolicy.xStyles) (rStr a.xPolicy.xImages) a.xPolicy.xNonce a.xTok.xRest (rows kToken TToken.row a.xQueue) a.xEnded (rows kNode TNode.row a.xBuilder.xNodes) (rInt a.xBuilder.xOpen) (rows kSlot TSlot.row a.xSlots) (rows kModule TModule.row a.xMods) (rows kAddr TAddr.row a.xEntries) a.xBlock a.xInline a.xDeferred a.xEntered (rows kAddr TAddr.row a.xRan) (rStr a.xLog) a.xLoaded b.xAddr.xHost b.xAddr.xPath b.xPolicy.xSet (rStr b.xPolicy.xScripts) (rStr b.xPolicy.xStyles) (rStr b.xPolicy.xImages) b.xPolicy.xNonce b.xTok.xRest (rows kToken TToken.row b.xQueue) b.xEnded (rows kNode TNode.row b.xBuilder.xNodes) (rInt b.xBuilder.xOpen) (rows kSlot TSlot.row b.xSlots) (rows kModule TModule.row b.xMods) (rows kAddr TAddr.row b.xEntries) b.xBlock b.xInline b.xDeferred b.xEntered (rows kAddr TAddr.row b.xRan) (rStr b.xLog) b.xLoaded k) (sl15Lists a b) (fun r => k r) := by
  delta F103 P103 sl15Lists
  refine Imp.br (c2 (fun z0 z1 : Nat => ((z0 : Int) != (z1 : Int))) (T_len (ks := kSlot) (g := TSlot.row) a.xSlots) (T_len (ks := kSlot) (g := TSlot.row) b.xSlots)) ?_ ?_
  · exact Imp.ret rfl
  · refine Imp.br (c2 (fun z0 z1 : Nat => ((z0 : Int) != (z1 : Int))) (T_len (ks := kModule) (g := TModule.row) a.xMods) (T_len (ks := kModule) (g := TModule.row) b.xMods)) ?_ ?_
    · exact Imp.ret rfl
    · refine Imp.for (enc := fun (i_1 : Nat) (s1 : Unit) => (.i (i_1 : Int) :: .s a.xAddr.xHost :: .s a.xAddr.xPath :: .b a.xPolicy.xSet :: .l (rStr a.xPolicy.xScripts) :: .l (rStr a.xPolicy.xStyles) :: .l (rStr a.xPolicy.xImages) :: .s a.xPolicy.xNonce :: .s a.xTok.xRest :: .l (rows kToken TToken.row a.xQueue) :: .b a.xEnded :: .l (rows kNode TNode.row a.xBuilder.xNodes) :: .l (rInt a.xBuilder.xOpen) :: .l (rows kSlot TSlot.row a.xSlots) :: .l (rows kModule TModule.row a.xMods) :: .l (rows kAddr TAddr.row a.xEntries) :: .i a.xBlock :: .i a.xInline :: .i a.xDeferred :: .i a.xEntered :: .l (rows kAddr TAddr.row a.xRan) :: .l (rStr a.xLog) :: .b a.xLoaded :: .s b.xAddr.xHost :: .s b.xAddr.xPath :: .b b.xPolicy.xSet :: .l (rStr b.xPolicy.xScripts) :: .l (rStr b.xPolicy.xStyles) :: .l (rStr b.xPolicy.xImages) :: .s b.xPolicy.xNonce :: .s b.xTok.xRest :: .l (rows kToken TToken.row b.xQueue) :: .b b.xEnded :: .l (rows kNode TNode.row b.xBuilder.xNodes) :: .l (rInt b.xBuilder.xOpen) :: .l (rows kSlot TSlot.row b.xSlots) :: .l (rows kModule TModule.row b.xMods) :: .l (rows kAddr TAddr.row b.xEntries) :: .i b.xBlock :: .i b.xInline :: .i b.xDeferred :: .i b.xEntered :: .l (rows kAddr TAddr.row b.xRan) :: .l (rStr b.xLog) :: .b b.xLoaded :: [])) (encR := Sum.elim (fun (u : Unit) => (((0, (.b false :: .s a.xAddr.xHost :: .s a.xAddr.xPath :: .b a.xPolicy.xSet :: .l (rStr a.xPolicy.xScripts) :: .l (rStr a.xPolicy.xStyles) :: .l (rStr a.xPolicy.xImages) :: .s a.xPolicy.xNonce :: .s a.xTok.xRest :: .l (rows kToken TToken.row a.xQueue) :: .b a.xEnded :: .l (rows kNode TNode.row a.xBuilder.xNodes) :: .l (rInt a.xBuilder.xOpen) :: .l (rows kSlot TSlot.row a.xSlots) :: .l (rows kModule TModule.row a.xMods) :: .l (rows kAddr TAddr.row a.xEntries) :: .i a.xBlock :: .i a.xInline :: .i a.xDeferred :: .i a.xEntered :: .l (rows kAddr TAddr.row a.xRan) :: .l (rStr a.xLog) :: .b a.xLoaded :: .s b.xAddr.xHost :: .s b.xAddr.xPath :: .b b.xPolicy.xSet :: .l (rStr b.xPolicy.xScripts) :: .l (rStr b.xPolicy.xStyles) :: .l (rStr b.xPolicy.xImages) :: .s b.xPolicy.xNonce :: .s b.xTok.xRest :: .l (rows kToken TToken.row b.xQueue) :: .b b.xEnded :: .l (rows kNode TNode.row b.xBuilder.xNodes) :: .l (rInt b.xBuilder.xOpen) :: .l (rows kSlot TSlot.row b.xSlots) :: .l (rows kModule TModule.row b.xMods) :: .l (rows kAddr TAddr.row b.xEntries) :: .i b.xBlock :: .i b.xInline :: .i b.xDeferred :: .i b.xEntered :: .l (rows kAddr TAddr.row b.xRan) :: .l (rStr b.xLog) :: .b b.xLoaded :: [])) : Nat × List Leaf))) (fun (u : Unit) => (((1, (.s a.xAddr.xHost :: .s a.xAddr.xPath :: .b a.xPolicy.xSet :: .l (rStr a.xPolicy.xScripts) :: .l (rStr a.xPolicy.xStyles) :: .l (rStr a.xPolicy.xImages) :: .s a.xPolicy.xNonce :: .s a.xTok.xRest :: .l (rows kToken TToken.row a.xQueue) :: .b a.xEnded :: .l (rows kNode TNode.row a.xBuilder.xNodes) :: .l (rInt a.xBuilder.xOpen) :: .l (rows kSlot TSlot.row a.xSlots) :: .l (rows kModule TModule.row a.xMods) :: .l (rows kAddr TAddr.row a.xEntries) :: .i a.xBlock :: .i a.xInline :: .i a.xDeferred :: .i a.xEntered :: .l (rows kAddr TAddr.row a.xRan) :: .l (rStr a.xLog) :: .b a.xLoaded :: .s b.xAddr.xHost :: .s b.xAddr.xPath :: .b b.xPolicy.xSet :: .l (rStr b.xPolicy.xScripts) :: .l (rStr b.xPolicy.xStyles) :: .l (rStr b.xPolicy.xImages) :: .s b.xPolicy.xNonce :: .s b.xTok.xRest :: .l (rows kToken TToken.row b.xQueue) :: .b b.xEnded :: .l (rows kNode TNode.row b.xBuilder.xNodes) :: .l (rInt b.xBuilder.xOpen) :: .l (rows kSlot TSlot.row b.xSlots) :: .l (rows kModule TModule.row b.xMods) :: .l (rows kAddr TAddr.row b.xEntries) :: .i b.xBlock :: .i b.xInline :: .i b.xDeferred :: .i b.xEntered :: .l (rows kAddr TAddr.row b.xRan) :: .l (rStr b.xLog) :: .b b.xLoaded :: [])) : Nat × List Leaf)))) rfl (fun i_1 x_1 s1 hx1 hl1 hm1 => Imp.brT (T_lt (ks := kSlot) (g := TSlot.row) hl1) ?_) (fun s1 => brN (T_irr (ks := kSlot) (g := TSlot.row) a.xSlots) rfl) (fun r4 => ?_)
      · refine Imp.idxFor (ks := kSlot) (g := TSlot.row) hx1 ?_
        refine Imp.idx (ks := kSlot) (g := TSlot.row) rfl rfl (fun e3 _ => ?_)
        refine Imp.br rfl ?_ ?_
        · exact Imp.ret rfl
        · exact Imp.ret (c1 (fun (h1 : Int) => (some (Sum.inl (.i h1 :: .s a.xAddr.xHost :: .s a.xAddr.xPath :: .b a.xPolicy.xSet :: .l (rStr a.xPolicy.xScripts) :: .l (rStr a.xPolicy.xStyles) :: .l (rStr a.xPolicy.xImages) :: .s a.xPolicy.xNonce :: .s a.xTok.xRest :: .l (rows kToken TToken.row a.xQueue) :: .b a.xEnded :: .l (rows kNode TNode.row a.xBuilder.xNodes) :: .l (rInt a.xBuilder.xOpen) :: .l (rows kSlot TSlot.row a.xSlots) :: .l (rows kModule TModule.row a.xMods) :: .l (rows kAddr TAddr.row a.xEntries) :: .i a.xBlock :: .i a.xInline :: .i a.xDeferred :: .i a.xEntered :: .l (rows kAddr TAddr.row a.xRan) :: .l (rStr a.xLog) :: .b a.xLoaded :: .s b.xAddr.xHost :: .s b.xAddr.xPath :: .b b.xPolicy.xSet :: .l (rStr b.xPolicy.xScripts) :: .l (rStr b.xPolicy.xStyles) :: .l (rStr b.xPolicy.xImages) :: .s b.xPolicy.xNonce :: .s b.xTok.xRest :: .l (rows kToken TToken.row b.xQueue) :: .b b.xEnded :: .l (rows kNode TNode.row b.xBuilder.xNodes) :: .l (rInt b.xBuilder.xOpen) :: .l (rows kSlot TSlot.row b.xSlots) :: .l (rows kModule TModule.row b.xMods) :: .l (rows kAddr TAddr.row b.xEntries) :: .i b.xBlock :: .i b.xInline :: .i b.xDeferred :: .i b.xEntered :: .l (rows kAddr TAddr.row b.xRan) :: .l (rStr b.xLog) :: .b b.xLoaded :: [])) : Option (List Leaf ⊕ (Nat × List Leaf)))) (wrapJ hl1))
      · cases r4 with
        | inl r4 =>
          refine Imp.ifT rfl ?_
          exact Imp.ret rfl
        | inr r4 =>
          refine Imp.ifF (show ¬ ((1 : Nat) = 0) by decide) ?_
          refine Imp.for (enc := fun (i_5 : Nat) (s5 : Unit) => (.i (i_5 : Int) :: .s a.xAddr.xHost :: .s a.xAddr.xPath :: .b a.xPolicy.xSet :: .l (rStr a.xPolicy.xScripts) :: .l (rStr a.xPolicy.xStyles) :: .l (rStr a.xPolicy.xImages) :: .s a.xPolicy.xNonce :: .s a.xTok.xRest :: .l (rows kToken TToken.row a.xQueue) :: .b a.xEnded :: .l (rows kNode TNode.row a.xBuilder.xNodes) :: .l (rInt a.xBuilder.xOpen) :: .l (rows kSlot TSlot.row a.xSlots) :: .l (rows kModule TModule.row a.xMods) :: .l (rows kAddr TAddr.row a.xEntries) :: .i a.xBlock :: .i a.xInline :: .i a.xDeferred :: .i a.xEntered :: .l (rows kAddr TAddr.row a.xRan) :: .l (rStr a.xLog) :: .b a.xLoaded :: .s b.xAddr.xHost :: .s b.xAddr.xPath :: .b b.xPolicy.xSet :: .l (rStr b.xPolicy.xScripts) :: .l (rStr b.xPolicy.xStyles) :: .l (rStr b.xPolicy.xImages) :: .s b.xPolicy.xNonce :: .s b.xTok.xRest :: .l (rows kToken TToken.row b.xQueue) :: .b b.xEnded :: .l (rows kNode TNode.row b.xBuilder.xNodes) :: .l (rInt b.xBuilder.xOpen) :: .l (rows kSlot TSlot.row b.xSlots) :: .l (rows kModule TModule.row b.xMods) :: .l (rows kAddr TAddr.row b.xEntries) :: .i b.xBlock :: .i b.xInline :: .i b.xDeferred :: .i b.xEntered :: .l (rows kAddr TAddr.row b.xRan) :: .l (rStr b.xLog) :: .b b.xLoaded :: [])) (encR := Sum.elim (fun (u : Unit) => (((0, [.b false]) : Nat × List Leaf))) (fun (u : Unit) => (((1, []) : Nat × List Leaf)))) rfl (fun i_5 x_5 s5 hx5 hl5 hm5 => Imp.brT (T_lt (ks := kModule) (g := TModule.row) hl5) ?_) (fun s5 => brN (T_irr (ks := kModule) (g := TModule.row) a.xMods) rfl) (fun r8 => ?_)
          · refine Imp.idxFor (ks := kModule) (g := TModule.row) hx5 ?_
            refine Imp.idx (ks := kModule) (g := TModule.row) rfl rfl (fun e7 _ => ?_)
            refine Imp.br rfl ?_ ?_
            · exact Imp.ret rfl
            · exact Imp.ret (c1 (fun (h1 : Int) => (some (Sum.inl (.i h1 :: .s a.xAddr.xHost :: .s a.xAddr.xPath :: .b a.xPolicy.xSet :: .l (rStr a.xPolicy.xScripts) :: .l (rStr a.xPolicy.xStyles) :: .l (rStr a.xPolicy.xImages) :: .s a.xPolicy.xNonce :: .s a.xTok.xRest :: .l (rows kToken TToken.row a.xQueue) :: .b a.xEnded :: .l (rows kNode TNode.row a.xBuilder.xNodes) :: .l (rInt a.xBuilder.xOpen) :: .l (rows kSlot TSlot.row a.xSlots) :: .l (rows kModule TModule.row a.xMods) :: .l (rows kAddr TAddr.row a.xEntries) :: .i a.xBlock :: .i a.xInline :: .i a.xDeferred :: .i a.xEntered :: .l (rows kAddr TAddr.row a.xRan) :: .l (rStr a.xLog) :: .b a.xLoaded :: .s b.xAddr.xHost :: .s b.xAddr.xPath :: .b b.xPolicy.xSet :: .l (rStr b.xPolicy.xScripts) :: .l (rStr b.xPolicy.xStyles) :: .l (rStr b.xPolicy.xImages) :: .s b.xPolicy.xNonce :: .s b.xTok.xRest :: .l (rows kToken TToken.row b.xQueue) :: .b b.xEnded :: .l (rows kNode TNode.row b.xBuilder.xNodes) :: .l (rInt b.xBuilder.xOpen) :: .l (rows kSlot TSlot.row b.xSlots) :: .l (rows kModule TModule.row b.xMods) :: .l (rows kAddr TAddr.row b.xEntries) :: .i b.xBlock :: .i b.xInline :: .i b.xDeferred :: .i b.xEntered :: .l (rows kAddr TAddr.row b.xRan) :: .l (rStr b.xLog) :: .b b.xLoaded :: [])) : Option (List Leaf ⊕ (Nat × List Leaf)))) (wrapJ hl5))
          · cases r8 with
            | inl r8 =>
              refine Imp.ifT rfl ?_
              exact Imp.ret rfl
            | inr r8 =>
              refine Imp.ifF (show ¬ ((1 : Nat) = 0) by decide) ?_
              exact Imp.ret rfl

/-- spec.l15Addrs -/
noncomputable def sl15Addrs (a : List TAddr) (b : List TAddr) : Option Bool :=
  br ((a.length : Int) != (b.length : Int)) (
    some false
  ) (
    (forE a (fun (i_1 : Nat) (x_1 : TAddr) (s1 : Unit) => (
      (getI b (i_1 : Int)).bind fun (e3 : TAddr) =>
      br (!((x_1.xHost == e3.xHost) && ((x_1.xPath == e3.xPath) && true))) (
        some (.inr (.inl ()))
      ) (
        some (.inl ())
      )
    : Option (Unit ⊕ (Unit ⊕ Unit)))) (fun (s1 : Unit) => (.inr () : Unit ⊕ Unit)) (() : Unit)).bind <|
    Sum.elim
      (fun (r4 : Unit) =>
        some false
      )
      (fun (r4 : Unit) =>
        some true
      )
  )
theorem ei_sl15Addrs (a : List TAddr) (b : List TAddr) (k : Bool → Option β) : Imp (F104 β (rows kAddr TAddr.row a) (rows kAddr TAddr.row b) k) (sl15Addrs a b) (fun r => k r) := by
  delta F104 P104 sl15Addrs
  refine Imp.br (c2 (fun z0 z1 : Nat => ((z0 : Int) != (z1 : Int))) (T_len (ks := kAddr) (g := TAddr.row) a) (T_len (ks := kAddr) (g := TAddr.row) b)) ?_ ?_
  · exact Imp.ret rfl
  · refine Imp.for (enc := fun (i_1 : Nat) (s1 : Unit) => [.l (rows kAddr TAddr.row a), .l (rows kAddr TAddr.row b), .i (i_1 : Int)]) (encR := Sum.elim (fun (u : Unit) => (((0, [.b false]) : Nat × List Leaf))) (fun (u : Unit) => (((1, []) : Nat × List Leaf)))) rfl (fun i_1 x_1 s1 hx1 hl1 hm1 => Imp.brT (T_lt (ks := kAddr) (g := TAddr.row) hl1) ?_) (fun s1 => brN (T_irr (ks := kAddr) (g := TAddr.row) a) rfl) (fun r4 => ?_)
    · refine Imp.idxFor (ks := kAddr) (g := TAddr.row) hx1 ?_
      refine Imp.idx (ks := kAddr) (g := TAddr.row) rfl rfl (fun e3 _ => ?_)
      refine Imp.br rfl ?_ ?_
      · exact Imp.ret rfl
      · exact Imp.ret (c1 (fun (h1 : Int) => (some (Sum.inl [.l (rows kAddr TAddr.row a), .l (rows kAddr TAddr.row b), .i h1]) : Option (List Leaf ⊕ (Nat × List Leaf)))) (wrapJ hl1))
    · cases r4 with
      | inl r4 =>
        refine Imp.ifT rfl ?_
        exact Imp.ret rfl
      | inr r4 =>
        refine Imp.ifF (show ¬ ((1 : Nat) = 0) by decide) ?_
        exact Imp.ret rfl

/-- spec.l15Texts -/
noncomputable def sl15Texts (a : List (List UInt8)) (b : List (List UInt8)) : Option Bool :=
  (sl9Same a b).bind fun (r1 : Bool) =>
  some r1
theorem ei_sl15Texts (a : List (List UInt8)) (b : List (List UInt8)) (k : Bool → Option β) : Imp (F105 β (rStr a) (rStr b) k) (sl15Texts a b) (fun r => k r) := by
  delta F105 P105 sl15Texts
  refine Imp.call rfl (ei_sl9Same a b _) (fun r1 _ => ?_)
  exact Imp.ret rfl

/-- spec.EqualPages -/
noncomputable def sEqualPages (a : TPage) (b : TPage) : Option Bool :=
  br (!((a.xAddr.xHost == b.xAddr.xHost) && ((a.xAddr.xPath == b.xAddr.xPath) && true))) (
    some false
  ) (
    br (!((a.xTok.xRest == b.xTok.xRest) && true)) (
      some false
    ) (
      br (!(a.xEnded == b.xEnded)) (
        some false
      ) (
        br (a.xBlock != b.xBlock) (
          some false
        ) (
          br (a.xInline != b.xInline) (
            some false
          ) (
            br (a.xDeferred != b.xDeferred) (
              some false
            ) (
              br (a.xEntered != b.xEntered) (
                some false
              ) (
                br (!(a.xLoaded == b.xLoaded)) (
                  some false
                ) (
                  (sEqualPolicies a.xPolicy b.xPolicy).bind fun (r1 : Bool) =>
                  br r1 (
                    (sEqualBuilders a.xBuilder b.xBuilder).bind fun (r2 : Bool) =>
                    br r2 (
                      (sl15SameTokens a.xQueue b.xQueue).bind fun (r3 : Bool) =>
                      br r3 (
                        (sl15Lists a b).bind fun (r4 : Bool) =>
                        br r4 (
                          (sl15Addrs a.xEntries b.xEntries).bind fun (r5 : Bool) =>
                          br r5 (
                            (sl15Addrs a.xRan b.xRan).bind fun (r6 : Bool) =>
                            br r6 (
                              (sl15Texts a.xLog b.xLog).bind fun (r7 : Bool) =>
                              some r7
                            ) (
                              some false
                            )
                          ) (
                            some false
                          )
                        ) (
                          some false
                        )
                      ) (
                        some false
                      )
                    ) (
                      some false
                    )
                  ) (
                    some false
                  )
                )
              )
            )
          )
        )
      )
    )
  )
theorem ei_sEqualPages (a : TPage) (b : TPage) (k : Bool → Option β) : Imp (F35 β a.xAddr.xHost a.xAddr.xPath a.xPolicy.xSet (rStr a.xPolicy.xScripts) (rStr a.xPolicy.xStyles) (rStr a.xPolicy.xImages) a.xPolicy.xNonce a.xTok.xRest (rows kToken TToken.row a.xQueue) a.xEnded (rows kNode TNode.row a.xBuilder.xNodes) (rInt a.xBuilder.xOpen) (rows kSlot TSlot.row a.xSlots) (rows kModule TModule.row a.xMods) (rows kAddr TAddr.row a.xEntries) a.xBlock a.xInline a.xDeferred a.xEntered (rows kAddr TAddr.row a.xRan) (rStr a.xLog) a.xLoaded b.xAddr.xHost b.xAddr.xPath b.xPolicy.xSet (rStr b.xPolicy.xScripts) (rStr b.xPolicy.xStyles) (rStr b.xPolicy.xImages) b.xPolicy.xNonce b.xTok.xRest (rows kToken TToken.row b.xQueue) b.xEnded (rows kNode TNode.row b.xBuilder.xNodes) (rInt b.xBuilder.xOpen) (rows kSlot TSlot.row b.xSlots) (rows kModule TModule.row b.xMods) (rows kAddr TAddr.row b.xEntries) b.xBlock b.xInline b.xDeferred b.xEntered (rows kAddr TAddr.row b.xRan) (rStr b.xLog) b.xLoaded k) (sEqualPages a b) (fun r => k r) := by
  delta F35 P35 sEqualPages
  refine Imp.br rfl ?_ ?_
  · exact Imp.ret rfl
  · refine Imp.br rfl ?_ ?_
    · exact Imp.ret rfl
    · refine Imp.br rfl ?_ ?_
      · exact Imp.ret rfl
      · refine Imp.br rfl ?_ ?_
        · exact Imp.ret rfl
        · refine Imp.br rfl ?_ ?_
          · exact Imp.ret rfl
          · refine Imp.br rfl ?_ ?_
            · exact Imp.ret rfl
            · refine Imp.br rfl ?_ ?_
              · exact Imp.ret rfl
              · refine Imp.br rfl ?_ ?_
                · exact Imp.ret rfl
                · refine Imp.call rfl (ei_sEqualPolicies a.xPolicy b.xPolicy _) (fun r1 _ => ?_)
                  refine Imp.br rfl ?_ ?_
                  · refine Imp.call rfl (ei_sEqualBuilders a.xBuilder b.xBuilder _) (fun r2 _ => ?_)
                    refine Imp.br rfl ?_ ?_
                    · refine Imp.call rfl (ei_sl15SameTokens a.xQueue b.xQueue _) (fun r3 _ => ?_)
                      refine Imp.br rfl ?_ ?_
                      · refine Imp.call rfl (ei_sl15Lists a b _) (fun r4 _ => ?_)
                        refine Imp.br rfl ?_ ?_
                        · refine Imp.call rfl (ei_sl15Addrs a.xEntries b.xEntries _) (fun r5 _ => ?_)
                          refine Imp.br rfl ?_ ?_
                          · refine Imp.call rfl (ei_sl15Addrs a.xRan b.xRan _) (fun r6 _ => ?_)
                            refine Imp.br rfl ?_ ?_
                            · refine Imp.call rfl (ei_sl15Texts a.xLog b.xLog _) (fun r7 _ => ?_)
                              exact Imp.ret rfl
                            · exact Imp.ret rfl
                          · exact Imp.ret rfl
                        · exact Imp.ret rfl
                      · exact Imp.ret rfl
                    · exact Imp.ret rfl
                  · exact Imp.ret rfl

/-- spec.EqualTabs -/
noncomputable def sEqualTabs (a : TTab) (b : TTab) : Option Bool :=
  br (a.xAt != b.xAt) (
    some false
  ) (
    br ((a.xVisits.length : Int) != (b.xVisits.length : Int)) (
      some false
    ) (
      (forE a.xVisits (fun (i_1 : Nat) (x_1 : TVisit) (s1 : Unit) => (
        (getI b.xVisits (i_1 : Int)).bind fun (e3 : TVisit) =>
        br (!((x_1.xAddr.xHost == e3.xAddr.xHost) && ((x_1.xAddr.xPath == e3.xAddr.xPath) && true))) (
          some (.inr (.inl ()))
        ) (
          (getI b.xVisits (i_1 : Int)).bind fun (e5 : TVisit) =>
          br (!(x_1.xKept == e5.xKept)) (
            some (.inr (.inl ()))
          ) (
            (getI b.xVisits (i_1 : Int)).bind fun (e7 : TVisit) =>
            (sEqualPages x_1.xPage e7.xPage).bind fun (r8 : Bool) =>
            br (!r8) (
              some (.inr (.inl ()))
            ) (
              some (.inl ())
            )
          )
        )
      : Option (Unit ⊕ (Unit ⊕ Unit)))) (fun (s1 : Unit) => (.inr () : Unit ⊕ Unit)) (() : Unit)).bind <|
      Sum.elim
        (fun (r9 : Unit) =>
          some false
        )
        (fun (r9 : Unit) =>
          some true
        )
    )
  )
theorem ei_sEqualTabs (a : TTab) (b : TTab) (k : Bool → Option β) : Imp (F95 β (rows kVisit TVisit.row a.xVisits) a.xAt (rows kVisit TVisit.row b.xVisits) b.xAt k) (sEqualTabs a b) (fun r => k r) := by
  delta F95 P95 sEqualTabs
  refine Imp.br rfl ?_ ?_
  · exact Imp.ret rfl
  · refine Imp.br (c2 (fun z0 z1 : Nat => ((z0 : Int) != (z1 : Int))) (T_len (ks := kVisit) (g := TVisit.row) a.xVisits) (T_len (ks := kVisit) (g := TVisit.row) b.xVisits)) ?_ ?_
    · exact Imp.ret rfl
    · refine Imp.for (enc := fun (i_1 : Nat) (s1 : Unit) => [.i (i_1 : Int), .l (rows kVisit TVisit.row a.xVisits), .i a.xAt, .l (rows kVisit TVisit.row b.xVisits), .i b.xAt]) (encR := Sum.elim (fun (u : Unit) => (((0, [.b false]) : Nat × List Leaf))) (fun (u : Unit) => (((1, []) : Nat × List Leaf)))) rfl (fun i_1 x_1 s1 hx1 hl1 hm1 => Imp.brT (T_lt (ks := kVisit) (g := TVisit.row) hl1) ?_) (fun s1 => brN (T_irr (ks := kVisit) (g := TVisit.row) a.xVisits) rfl) (fun r9 => ?_)
      · refine Imp.idxFor (ks := kVisit) (g := TVisit.row) hx1 ?_
        refine Imp.idx (ks := kVisit) (g := TVisit.row) rfl rfl (fun e3 _ => ?_)
        refine Imp.br rfl ?_ ?_
        · exact Imp.ret rfl
        · refine Imp.idxFor (ks := kVisit) (g := TVisit.row) hx1 ?_
          refine Imp.idx (ks := kVisit) (g := TVisit.row) rfl rfl (fun e5 _ => ?_)
          refine Imp.br rfl ?_ ?_
          · exact Imp.ret rfl
          · refine Imp.idxFor (ks := kVisit) (g := TVisit.row) hx1 ?_
            refine Imp.idx (ks := kVisit) (g := TVisit.row) rfl rfl (fun e7 _ => ?_)
            refine Imp.call rfl (ei_sEqualPages x_1.xPage e7.xPage _) (fun r8 _ => ?_)
            refine Imp.br rfl ?_ ?_
            · exact Imp.ret rfl
            · exact Imp.ret (c1 (fun (h1 : Int) => (some (Sum.inl [.i h1, .l (rows kVisit TVisit.row a.xVisits), .i a.xAt, .l (rows kVisit TVisit.row b.xVisits), .i b.xAt]) : Option (List Leaf ⊕ (Nat × List Leaf)))) (wrapJ hl1))
      · cases r9 with
        | inl r9 =>
          refine Imp.ifT rfl ?_
          exact Imp.ret rfl
        | inr r9 =>
          refine Imp.ifF (show ¬ ((1 : Nat) = 0) by decide) ?_
          exact Imp.ret rfl

/-- spec.EqualHidden -/
noncomputable def sEqualHidden (a : THidden) (b : THidden) : Option Bool :=
  br (!(a.xReady == b.xReady)) (
    some false
  ) (
    (sEqualPages a.xPage b.xPage).bind fun (r1 : Bool) =>
    br (!r1) (
      some false
    ) (
      br ((a.xTaken.length : Int) != (b.xTaken.length : Int)) (
        some false
      ) (
        (sEqualServers a.xServers b.xServers).bind fun (r2 : Bool) =>
        br (!r2) (
          some false
        ) (
          br (a.xNow != b.xNow) (
            some false
          ) (
            (forE a.xTaken (fun (i_3 : Nat) (x_3 : TKept) (s3 : Unit) => (
              (getI b.xTaken (i_3 : Int)).bind fun (e5 : TKept) =>
              br (!((x_3.xTo.xHost == e5.xTo.xHost) && ((x_3.xTo.xPath == e5.xTo.xPath) && ((x_3.xResponse.xStatus == e5.xResponse.xStatus) && ((x_3.xResponse.xKind == e5.xResponse.xKind) && ((x_3.xResponse.xBody == e5.xResponse.xBody) && ((x_3.xResponse.xAge == e5.xResponse.xAge) && ((x_3.xResponse.xShares == e5.xResponse.xShares) && ((x_3.xResponse.xPolicy == e5.xResponse.xPolicy) && true))))))))) (
                some (.inr (.inl ()))
              ) (
                some (.inl ())
              )
            : Option (Unit ⊕ (Unit ⊕ Unit)))) (fun (s3 : Unit) => (.inr () : Unit ⊕ Unit)) (() : Unit)).bind <|
            Sum.elim
              (fun (r6 : Unit) =>
                some false
              )
              (fun (r6 : Unit) =>
                some true
              )
          )
        )
      )
    )
  )
theorem ei_sEqualHidden (a : THidden) (b : THidden) (k : Bool → Option β) : Imp (F9 β a.xReady a.xPage.xAddr.xHost a.xPage.xAddr.xPath a.xPage.xPolicy.xSet (rStr a.xPage.xPolicy.xScripts) (rStr a.xPage.xPolicy.xStyles) (rStr a.xPage.xPolicy.xImages) a.xPage.xPolicy.xNonce a.xPage.xTok.xRest (rows kToken TToken.row a.xPage.xQueue) a.xPage.xEnded (rows kNode TNode.row a.xPage.xBuilder.xNodes) (rInt a.xPage.xBuilder.xOpen) (rows kSlot TSlot.row a.xPage.xSlots) (rows kModule TModule.row a.xPage.xMods) (rows kAddr TAddr.row a.xPage.xEntries) a.xPage.xBlock a.xPage.xInline a.xPage.xDeferred a.xPage.xEntered (rows kAddr TAddr.row a.xPage.xRan) (rStr a.xPage.xLog) a.xPage.xLoaded (rows kKept TKept.row a.xTaken) (rows kServer TServer.row a.xServers) a.xNow b.xReady b.xPage.xAddr.xHost b.xPage.xAddr.xPath b.xPage.xPolicy.xSet (rStr b.xPage.xPolicy.xScripts) (rStr b.xPage.xPolicy.xStyles) (rStr b.xPage.xPolicy.xImages) b.xPage.xPolicy.xNonce b.xPage.xTok.xRest (rows kToken TToken.row b.xPage.xQueue) b.xPage.xEnded (rows kNode TNode.row b.xPage.xBuilder.xNodes) (rInt b.xPage.xBuilder.xOpen) (rows kSlot TSlot.row b.xPage.xSlots) (rows kModule TModule.row b.xPage.xMods) (rows kAddr TAddr.row b.xPage.xEntries) b.xPage.xBlock b.xPage.xInline b.xPage.xDeferred b.xPage.xEntered (rows kAddr TAddr.row b.xPage.xRan) (rStr b.xPage.xLog) b.xPage.xLoaded (rows kKept TKept.row b.xTaken) (rows kServer TServer.row b.xServers) b.xNow k) (sEqualHidden a b) (fun r => k r) := by
  delta F9 P9 sEqualHidden
  refine Imp.br rfl ?_ ?_
  · exact Imp.ret rfl
  · refine Imp.call rfl (ei_sEqualPages a.xPage b.xPage _) (fun r1 _ => ?_)
    refine Imp.br rfl ?_ ?_
    · exact Imp.ret rfl
    · refine Imp.br (c2 (fun z0 z1 : Nat => ((z0 : Int) != (z1 : Int))) (T_len (ks := kKept) (g := TKept.row) a.xTaken) (T_len (ks := kKept) (g := TKept.row) b.xTaken)) ?_ ?_
      · exact Imp.ret rfl
      · refine Imp.call rfl (ei_sEqualServers a.xServers b.xServers _) (fun r2 _ => ?_)
        refine Imp.br rfl ?_ ?_
        · exact Imp.ret rfl
        · refine Imp.br rfl ?_ ?_
          · exact Imp.ret rfl
          · refine Imp.for (enc := fun (i_3 : Nat) (s3 : Unit) => (.i (i_3 : Int) :: .b a.xReady :: .s a.xPage.xAddr.xHost :: .s a.xPage.xAddr.xPath :: .b a.xPage.xPolicy.xSet :: .l (rStr a.xPage.xPolicy.xScripts) :: .l (rStr a.xPage.xPolicy.xStyles) :: .l (rStr a.xPage.xPolicy.xImages) :: .s a.xPage.xPolicy.xNonce :: .s a.xPage.xTok.xRest :: .l (rows kToken TToken.row a.xPage.xQueue) :: .b a.xPage.xEnded :: .l (rows kNode TNode.row a.xPage.xBuilder.xNodes) :: .l (rInt a.xPage.xBuilder.xOpen) :: .l (rows kSlot TSlot.row a.xPage.xSlots) :: .l (rows kModule TModule.row a.xPage.xMods) :: .l (rows kAddr TAddr.row a.xPage.xEntries) :: .i a.xPage.xBlock :: .i a.xPage.xInline :: .i a.xPage.xDeferred :: .i a.xPage.xEntered :: .l (rows kAddr TAddr.row a.xPage.xRan) :: .l (rStr a.xPage.xLog) :: .b a.xPage.xLoaded :: .l (rows kKept TKept.row a.xTaken) :: .l (rows kServer TServer.row a.xServers) :: .i a.xNow :: .b b.xReady :: .s b.xPage.xAddr.xHost :: .s b.xPage.xAddr.xPath :: .b b.xPage.xPolicy.xSet :: .l (rStr b.xPage.xPolicy.xScripts) :: .l (rStr b.xPage.xPolicy.xStyles) :: .l (rStr b.xPage.xPolicy.xImages) :: .s b.xPage.xPolicy.xNonce :: .s b.xPage.xTok.xRest :: .l (rows kToken TToken.row b.xPage.xQueue) :: .b b.xPage.xEnded :: .l (rows kNode TNode.row b.xPage.xBuilder.xNodes) :: .l (rInt b.xPage.xBuilder.xOpen) :: .l (rows kSlot TSlot.row b.xPage.xSlots) :: .l (rows kModule TModule.row b.xPage.xMods) :: .l (rows kAddr TAddr.row b.xPage.xEntries) :: .i b.xPage.xBlock :: .i b.xPage.xInline :: .i b.xPage.xDeferred :: .i b.xPage.xEntered :: .l (rows kAddr TAddr.row b.xPage.xRan) :: .l (rStr b.xPage.xLog) :: .b b.xPage.xLoaded :: .l (rows kKept TKept.row b.xTaken) :: .l (rows kServer TServer.row b.xServers) :: .i b.xNow :: [])) (encR := Sum.elim (fun (u : Unit) => (((0, [.b false]) : Nat × List Leaf))) (fun (u : Unit) => (((1, []) : Nat × List Leaf)))) rfl (fun i_3 x_3 s3 hx3 hl3 hm3 => Imp.brT (T_lt (ks := kKept) (g := TKept.row) hl3) ?_) (fun s3 => brN (T_irr (ks := kKept) (g := TKept.row) a.xTaken) rfl) (fun r6 => ?_)
            · refine Imp.idxFor (ks := kKept) (g := TKept.row) hx3 ?_
              refine Imp.idx (ks := kKept) (g := TKept.row) rfl rfl (fun e5 _ => ?_)
              refine Imp.br rfl ?_ ?_
              · exact Imp.ret rfl
              · exact Imp.ret (c1 (fun (h1 : Int) => (some (Sum.inl (.i h1 :: .b a.xReady :: .s a.xPage.xAddr.xHost :: .s a.xPage.xAddr.xPath :: .b a.xPage.xPolicy.xSet :: .l (rStr a.xPage.xPolicy.xScripts) :: .l (rStr a.xPage.xPolicy.xStyles) :: .l (rStr a.xPage.xPolicy.xImages) :: .s a.xPage.xPolicy.xNonce :: .s a.xPage.xTok.xRest :: .l (rows kToken TToken.row a.xPage.xQueue) :: .b a.xPage.xEnded :: .l (rows kNode TNode.row a.xPage.xBuilder.xNodes) :: .l (rInt a.xPage.xBuilder.xOpen) :: .l (rows kSlot TSlot.row a.xPage.xSlots) :: .l (rows kModule TModule.row a.xPage.xMods) :: .l (rows kAddr TAddr.row a.xPage.xEntries) :: .i a.xPage.xBlock :: .i a.xPage.xInline :: .i a.xPage.xDeferred :: .i a.xPage.xEntered :: .l (rows kAddr TAddr.row a.xPage.xRan) :: .l (rStr a.xPage.xLog) :: .b a.xPage.xLoaded :: .l (rows kKept TKept.row a.xTaken) :: .l (rows kServer TServer.row a.xServers) :: .i a.xNow :: .b b.xReady :: .s b.xPage.xAddr.xHost :: .s b.xPage.xAddr.xPath :: .b b.xPage.xPolicy.xSet :: .l (rStr b.xPage.xPolicy.xScripts) :: .l (rStr b.xPage.xPolicy.xStyles) :: .l (rStr b.xPage.xPolicy.xImages) :: .s b.xPage.xPolicy.xNonce :: .s b.xPage.xTok.xRest :: .l (rows kToken TToken.row b.xPage.xQueue) :: .b b.xPage.xEnded :: .l (rows kNode TNode.row b.xPage.xBuilder.xNodes) :: .l (rInt b.xPage.xBuilder.xOpen) :: .l (rows kSlot TSlot.row b.xPage.xSlots) :: .l (rows kModule TModule.row b.xPage.xMods) :: .l (rows kAddr TAddr.row b.xPage.xEntries) :: .i b.xPage.xBlock :: .i b.xPage.xInline :: .i b.xPage.xDeferred :: .i b.xPage.xEntered :: .l (rows kAddr TAddr.row b.xPage.xRan) :: .l (rStr b.xPage.xLog) :: .b b.xPage.xLoaded :: .l (rows kKept TKept.row b.xTaken) :: .l (rows kServer TServer.row b.xServers) :: .i b.xNow :: [])) : Option (List Leaf ⊕ (Nat × List Leaf)))) (wrapJ hl3))
            · cases r6 with
              | inl r6 =>
                refine Imp.ifT rfl ?_
                exact Imp.ret rfl
              | inr r6 =>
                refine Imp.ifF (show ¬ ((1 : Nat) = 0) by decide) ?_
                exact Imp.ret rfl

/-- spec.EqualWorlds -/
noncomputable def sEqualWorlds (a : TWorld) (b : TWorld) : Option Bool :=
  (sEqualNets a.xNet b.xNet).bind fun (r1 : Bool) =>
  br r1 (
    (sEqualTabs a.xTab b.xTab).bind fun (r2 : Bool) =>
    br r2 (
      (sEqualHidden a.xHidden b.xHidden).bind fun (r3 : Bool) =>
      br r3 (
        some (a.xFast == b.xFast)
      ) (
        some false
      )
    ) (
      some false
    )
  ) (
    some false
  )
theorem ei_sEqualWorlds (a : TWorld) (b : TWorld) (k : Bool → Option β) : Imp (F29 β (rows kServer TServer.row a.xNet.xServers) (rows kEntry TEntry.row a.xNet.xCache.xEntries) (rows kSent TSent.row a.xNet.xLog) a.xNet.xNow (rows kVisit TVisit.row a.xTab.xVisits) a.xTab.xAt a.xHidden.xReady a.xHidden.xPage.xAddr.xHost a.xHidden.xPage.xAddr.xPath a.xHidden.xPage.xPolicy.xSet (rStr a.xHidden.xPage.xPolicy.xScripts) (rStr a.xHidden.xPage.xPolicy.xStyles) (rStr a.xHidden.xPage.xPolicy.xImages) a.xHidden.xPage.xPolicy.xNonce a.xHidden.xPage.xTok.xRest (rows kToken TToken.row a.xHidden.xPage.xQueue) a.xHidden.xPage.xEnded (rows kNode TNode.row a.xHidden.xPage.xBuilder.xNodes) (rInt a.xHidden.xPage.xBuilder.xOpen) (rows kSlot TSlot.row a.xHidden.xPage.xSlots) (rows kModule TModule.row a.xHidden.xPage.xMods) (rows kAddr TAddr.row a.xHidden.xPage.xEntries) a.xHidden.xPage.xBlock a.xHidden.xPage.xInline a.xHidden.xPage.xDeferred a.xHidden.xPage.xEntered (rows kAddr TAddr.row a.xHidden.xPage.xRan) (rStr a.xHidden.xPage.xLog) a.xHidden.xPage.xLoaded (rows kKept TKept.row a.xHidden.xTaken) (rows kServer TServer.row a.xHidden.xServers) a.xHidden.xNow a.xFast (rows kServer TServer.row b.xNet.xServers) (rows kEntry TEntry.row b.xNet.xCache.xEntries) (rows kSent TSent.row b.xNet.xLog) b.xNet.xNow (rows kVisit TVisit.row b.xTab.xVisits) b.xTab.xAt b.xHidden.xReady b.xHidden.xPage.xAddr.xHost b.xHidden.xPage.xAddr.xPath b.xHidden.xPage.xPolicy.xSet (rStr b.xHidden.xPage.xPolicy.xScripts) (rStr b.xHidden.xPage.xPolicy.xStyles) (rStr b.xHidden.xPage.xPolicy.xImages) b.xHidden.xPage.xPolicy.xNonce b.xHidden.xPage.xTok.xRest (rows kToken TToken.row b.xHidden.xPage.xQueue) b.xHidden.xPage.xEnded (rows kNode TNode.row b.xHidden.xPage.xBuilder.xNodes) (rInt b.xHidden.xPage.xBuilder.xOpen) (rows kSlot TSlot.row b.xHidden.xPage.xSlots) (rows kModule TModule.row b.xHidden.xPage.xMods) (rows kAddr TAddr.row b.xHidden.xPage.xEntries) b.xHidden.xPage.xBlock b.xHidden.xPage.xInline b.xHidden.xPage.xDeferred b.xHidden.xPage.xEntered (rows kAddr TAddr.row b.xHidden.xPage.xRan) (rStr b.xHidden.xPage.xLog) b.xHidden.xPage.xLoaded (rows kKept TKept.row b.xHidden.xTaken) (rows kServer TServer.row b.xHidden.xServers) b.xHidden.xNow b.xFast k) (sEqualWorlds a b) (fun r => k r) := by
  delta F29 P29 sEqualWorlds
  refine Imp.call rfl (ei_sEqualNets a.xNet b.xNet _) (fun r1 _ => ?_)
  refine Imp.br rfl ?_ ?_
  · refine Imp.call rfl (ei_sEqualTabs a.xTab b.xTab _) (fun r2 _ => ?_)
    refine Imp.br rfl ?_ ?_
    · refine Imp.call rfl (ei_sEqualHidden a.xHidden b.xHidden _) (fun r3 _ => ?_)
      refine Imp.br rfl ?_ ?_
      · exact Imp.ret rfl
      · exact Imp.ret rfl
    · exact Imp.ret rfl
  · exact Imp.ret rfl

/-- slices.Equal[[]impl.File,impl.File] -/
noncomputable def g_slices_Equal_File_File (s1 : List TFile) (s2 : List TFile) : Option Bool :=
  br ((s1.length : Int) != (s2.length : Int)) (
    some false
  ) (
    (forE s1 (fun (i_3 : Nat) (x_3 : TFile) (s3 : Unit) => (
      (getI s2 (i_3 : Int)).bind fun (e5 : TFile) =>
      br (!((x_3.xPath == e5.xPath) && ((x_3.xResponse.xStatus == e5.xResponse.xStatus) && ((x_3.xResponse.xKind == e5.xResponse.xKind) && ((x_3.xResponse.xBody == e5.xResponse.xBody) && ((x_3.xResponse.xAge == e5.xResponse.xAge) && ((x_3.xResponse.xShares == e5.xResponse.xShares) && ((x_3.xResponse.xPolicy == e5.xResponse.xPolicy) && true)))))))) (
        some (.inr (.inl ()))
      ) (
        some (.inl ())
      )
    : Option (Unit ⊕ (Unit ⊕ Unit)))) (fun (s3 : Unit) => (.inr () : Unit ⊕ Unit)) (() : Unit)).bind <|
    Sum.elim
      (fun (r6 : Unit) =>
        some false
      )
      (fun (r6 : Unit) =>
        some true
      )
  )
theorem ei_g_slices_Equal_File_File (s1 : List TFile) (s2 : List TFile) (k : Bool → Option β) : Imp (F118 β (rows kFile TFile.row s1) (rows kFile TFile.row s2) k) (g_slices_Equal_File_File s1 s2) (fun r => k r) := by
  delta F118 P118 g_slices_Equal_File_File
  refine Imp.br (c2 (fun z0 z1 : Nat => ((z0 : Int) != (z1 : Int))) (T_len (ks := kFile) (g := TFile.row) s1) (T_len (ks := kFile) (g := TFile.row) s2)) ?_ ?_
  · exact Imp.ret rfl
  · refine Imp.for (enc := fun (i_3 : Nat) (s3 : Unit) => [.l (rows kFile TFile.row s1), .l (rows kFile TFile.row s2), .i (s1.length : Int), .i (i_3 : Int)]) (encR := Sum.elim (fun (u : Unit) => (((0, [.b false]) : Nat × List Leaf))) (fun (u : Unit) => (((1, []) : Nat × List Leaf)))) (c1 (fun (h1 : Int) => ([.l (rows kFile TFile.row s1), .l (rows kFile TFile.row s2), .i h1, .i 0] : List Leaf)) (c1 (fun z0 : Nat => (z0 : Int)) (T_len (ks := kFile) (g := TFile.row) s1))) (fun i_3 x_3 s3 hx3 hl3 hm3 => Imp.brT (Int.ofNat_lt.2 hl3) ?_) (fun s3 => brN (Int.lt_irrefl _) rfl) (fun r6 => ?_)
    · refine Imp.idxFor (ks := kFile) (g := TFile.row) hx3 ?_
      refine Imp.idx (ks := kFile) (g := TFile.row) rfl rfl (fun e5 _ => ?_)
      refine Imp.br rfl ?_ ?_
      · exact Imp.ret rfl
      · exact Imp.ret (c1 (fun (h1 : Int) => (some (Sum.inl [.l (rows kFile TFile.row s1), .l (rows kFile TFile.row s2), .i (s1.length : Int), .i h1]) : Option (List Leaf ⊕ (Nat × List Leaf)))) (wrapJ hl3))
    · cases r6 with
      | inl r6 =>
        refine Imp.ifT rfl ?_
        exact Imp.ret rfl
      | inr r6 =>
        refine Imp.ifF (show ¬ ((1 : Nat) = 0) by decide) ?_
        exact Imp.ret rfl

/-- impl.EqualServers$1 -/
noncomputable def iEqualServers_1 (x : TServer) (y : TServer) : Option Bool :=
  br (x.xHost == y.xHost) (
    (g_slices_Equal_File_File x.xFiles y.xFiles).bind fun (r1 : Bool) =>
    some r1
  ) (
    some false
  )
theorem ei_iEqualServers_1 (x : TServer) (y : TServer) (k : Bool → Option β) : Imp (F117 β x.xHost (rows kFile TFile.row x.xFiles) y.xHost (rows kFile TFile.row y.xFiles) k) (iEqualServers_1 x y) (fun r => k r) := by
  delta F117 P117 iEqualServers_1
  refine Imp.br rfl ?_ ?_
  · refine Imp.call rfl (ei_g_slices_Equal_File_File x.xFiles y.xFiles _) (fun r1 _ => ?_)
    exact Imp.ret rfl
  · exact Imp.ret rfl

/-- slices.EqualFunc[[]impl.Server,[]impl.Server,impl.Server,impl.Server] -/
noncomputable def g_slices_EqualFunc_Server_Server_Server_Server_iEqualServers_1 (s1 : List TServer) (s2 : List TServer) : Option Bool :=
  br ((s1.length : Int) != (s2.length : Int)) (
    some false
  ) (
    (forE s1 (fun (i_3 : Nat) (x_3 : TServer) (s3 : Unit) => (
      (getI s2 (i_3 : Int)).bind fun (e5 : TServer) =>
      (iEqualServers_1 x_3 e5).bind fun (r6 : Bool) =>
      br (!r6) (
        some (.inr (.inl ()))
      ) (
        some (.inl ())
      )
    : Option (Unit ⊕ (Unit ⊕ Unit)))) (fun (s3 : Unit) => (.inr () : Unit ⊕ Unit)) (() : Unit)).bind <|
    Sum.elim
      (fun (r7 : Unit) =>
        some false
      )
      (fun (r7 : Unit) =>
        some true
      )
  )
theorem ei_g_slices_EqualFunc_Server_Server_Server_Server_iEqualServers_1 (s1 : List TServer) (s2 : List TServer) (k : Bool → Option β) : Imp (F116c117 β (rows kServer TServer.row s1) (rows kServer TServer.row s2) k) (g_slices_EqualFunc_Server_Server_Server_Server_iEqualServers_1 s1 s2) (fun r => k r) := by
  delta F116c117 P116c117 g_slices_EqualFunc_Server_Server_Server_Server_iEqualServers_1
  refine Imp.br (c2 (fun z0 z1 : Nat => ((z0 : Int) != (z1 : Int))) (T_len (ks := kServer) (g := TServer.row) s1) (T_len (ks := kServer) (g := TServer.row) s2)) ?_ ?_
  · exact Imp.ret rfl
  · refine Imp.for (enc := fun (i_3 : Nat) (s3 : Unit) => [.l (rows kServer TServer.row s2), .l (rows kServer TServer.row s1), .i (s1.length : Int), .i (i_3 : Int)]) (encR := Sum.elim (fun (u : Unit) => (((0, [.b false]) : Nat × List Leaf))) (fun (u : Unit) => (((1, []) : Nat × List Leaf)))) (c1 (fun (h1 : Int) => ([.l (rows kServer TServer.row s2), .l (rows kServer TServer.row s1), .i h1, .i 0] : List Leaf)) (c1 (fun z0 : Nat => (z0 : Int)) (T_len (ks := kServer) (g := TServer.row) s1))) (fun i_3 x_3 s3 hx3 hl3 hm3 => Imp.brT (Int.ofNat_lt.2 hl3) ?_) (fun s3 => brN (Int.lt_irrefl _) rfl) (fun r7 => ?_)
    · refine Imp.idxFor (ks := kServer) (g := TServer.row) hx3 ?_
      refine Imp.idx (ks := kServer) (g := TServer.row) rfl rfl (fun e5 _ => ?_)
      refine Imp.call rfl (ei_iEqualServers_1 x_3 e5 _) (fun r6 _ => ?_)
      refine Imp.br rfl ?_ ?_
      · exact Imp.ret rfl
      · exact Imp.ret (c1 (fun (h1 : Int) => (some (Sum.inl [.l (rows kServer TServer.row s2), .l (rows kServer TServer.row s1), .i (s1.length : Int), .i h1]) : Option (List Leaf ⊕ (Nat × List Leaf)))) (wrapJ hl3))
    · cases r7 with
      | inl r7 =>
        refine Imp.ifT rfl ?_
        exact Imp.ret rfl
      | inr r7 =>
        refine Imp.ifF (show ¬ ((1 : Nat) = 0) by decide) ?_
        exact Imp.ret rfl

/-- impl.EqualServers -/
noncomputable def iEqualServers (a : List TServer) (b : List TServer) : Option Bool :=
  (g_slices_EqualFunc_Server_Server_Server_Server_iEqualServers_1 a b).bind fun (r1 : Bool) =>
  some r1
theorem ei_iEqualServers (a : List TServer) (b : List TServer) (k : Bool → Option β) : Imp (F41 β (rows kServer TServer.row a) (rows kServer TServer.row b) k) (iEqualServers a b) (fun r => k r) := by
  delta F41 P41 iEqualServers
  refine Imp.call rfl (ei_g_slices_EqualFunc_Server_Server_Server_Server_iEqualServers_1 a b _) (fun r1 _ => ?_)
  exact Imp.ret rfl

/-- slices.Equal[[]impl.Entry,impl.Entry] -/
noncomputable def g_slices_Equal_Entry_Entry (s1 : List TEntry) (s2 : List TEntry) : Option Bool :=
  br ((s1.length : Int) != (s2.length : Int)) (
    some false
  ) (
    (forE s1 (fun (i_3 : Nat) (x_3 : TEntry) (s3 : Unit) => (
      (getI s2 (i_3 : Int)).bind fun (e5 : TEntry) =>
      br (!((x_3.xTop == e5.xTop) && ((x_3.xTo.xHost == e5.xTo.xHost) && ((x_3.xTo.xPath == e5.xTo.xPath) && ((x_3.xResponse.xStatus == e5.xResponse.xStatus) && ((x_3.xResponse.xKind == e5.xResponse.xKind) && ((x_3.xResponse.xBody == e5.xResponse.xBody) && ((x_3.xResponse.xAge == e5.xResponse.xAge) && ((x_3.xResponse.xShares == e5.xResponse.xShares) && ((x_3.xResponse.xPolicy == e5.xResponse.xPolicy) && ((x_3.xUntil == e5.xUntil) && true))))))))))) (
        some (.inr (.inl ()))
      ) (
        some (.inl ())
      )
    : Option (Unit ⊕ (Unit ⊕ Unit)))) (fun (s3 : Unit) => (.inr () : Unit ⊕ Unit)) (() : Unit)).bind <|
    Sum.elim
      (fun (r6 : Unit) =>
        some false
      )
      (fun (r6 : Unit) =>
        some true
      )
  )
theorem ei_g_slices_Equal_Entry_Entry (s1 : List TEntry) (s2 : List TEntry) (k : Bool → Option β) : Imp (F188 β (rows kEntry TEntry.row s1) (rows kEntry TEntry.row s2) k) (g_slices_Equal_Entry_Entry s1 s2) (fun r => k r) := by
  delta F188 P188 g_slices_Equal_Entry_Entry
  refine Imp.br (c2 (fun z0 z1 : Nat => ((z0 : Int) != (z1 : Int))) (T_len (ks := kEntry) (g := TEntry.row) s1) (T_len (ks := kEntry) (g := TEntry.row) s2)) ?_ ?_
  · exact Imp.ret rfl
  · refine Imp.for (enc := fun (i_3 : Nat) (s3 : Unit) => [.l (rows kEntry TEntry.row s1), .l (rows kEntry TEntry.row s2), .i (s1.length : Int), .i (i_3 : Int)]) (encR := Sum.elim (fun (u : Unit) => (((0, [.b false]) : Nat × List Leaf))) (fun (u : Unit) => (((1, []) : Nat × List Leaf)))) (c1 (fun (h1 : Int) => ([.l (rows kEntry TEntry.row s1), .l (rows kEntry TEntry.row s2), .i h1, .i 0] : List Leaf)) (c1 (fun z0 : Nat => (z0 : Int)) (T_len (ks := kEntry) (g := TEntry.row) s1))) (fun i_3 x_3 s3 hx3 hl3 hm3 => Imp.brT (Int.ofNat_lt.2 hl3) ?_) (fun s3 => brN (Int.lt_irrefl _) rfl) (fun r6 => ?_)
    · refine Imp.idxFor (ks := kEntry) (g := TEntry.row) hx3 ?_
      refine Imp.idx (ks := kEntry) (g := TEntry.row) rfl rfl (fun e5 _ => ?_)
      refine Imp.br rfl ?_ ?_
      · exact Imp.ret rfl
      · exact Imp.ret (c1 (fun (h1 : Int) => (some (Sum.inl [.l (rows kEntry TEntry.row s1), .l (rows kEntry TEntry.row s2), .i (s1.length : Int), .i h1]) : Option (List Leaf ⊕ (Nat × List Leaf)))) (wrapJ hl3))
    · cases r6 with
      | inl r6 =>
        refine Imp.ifT rfl ?_
        exact Imp.ret rfl
      | inr r6 =>
        refine Imp.ifF (show ¬ ((1 : Nat) = 0) by decide) ?_
        exact Imp.ret rfl

/-- impl.EqualCaches -/
noncomputable def iEqualCaches (a : TCache) (b : TCache) : Option Bool :=
  (g_slices_Equal_Entry_Entry a.xEntries b.xEntries).bind fun (r1 : Bool) =>
  some r1
theorem ei_iEqualCaches (a : TCache) (b : TCache) (k : Bool → Option β) : Imp (F156 β (rows kEntry TEntry.row a.xEntries) (rows kEntry TEntry.row b.xEntries) k) (iEqualCaches a b) (fun r => k r) := by
  delta F156 P156 iEqualCaches
  refine Imp.call rfl (ei_g_slices_Equal_Entry_Entry a.xEntries b.xEntries _) (fun r1 _ => ?_)
  exact Imp.ret rfl

/-- slices.Equal[[]impl.Sent,impl.Sent] -/
noncomputable def g_slices_Equal_Sent_Sent (s1 : List TSent) (s2 : List TSent) : Option Bool :=
  br ((s1.length : Int) != (s2.length : Int)) (
    some false
  ) (
    (forE s1 (fun (i_3 : Nat) (x_3 : TSent) (s3 : Unit) => (
      (getI s2 (i_3 : Int)).bind fun (e5 : TSent) =>
      br (!((x_3.xTop == e5.xTop) && ((x_3.xTo.xHost == e5.xTo.xHost) && ((x_3.xTo.xPath == e5.xTo.xPath) && ((x_3.xGuess == e5.xGuess) && true))))) (
        some (.inr (.inl ()))
      ) (
        some (.inl ())
      )
    : Option (Unit ⊕ (Unit ⊕ Unit)))) (fun (s3 : Unit) => (.inr () : Unit ⊕ Unit)) (() : Unit)).bind <|
    Sum.elim
      (fun (r6 : Unit) =>
        some false
      )
      (fun (r6 : Unit) =>
        some true
      )
  )
theorem ei_g_slices_Equal_Sent_Sent (s1 : List TSent) (s2 : List TSent) (k : Bool → Option β) : Imp (F157 β (rows kSent TSent.row s1) (rows kSent TSent.row s2) k) (g_slices_Equal_Sent_Sent s1 s2) (fun r => k r) := by
  delta F157 P157 g_slices_Equal_Sent_Sent
  refine Imp.br (c2 (fun z0 z1 : Nat => ((z0 : Int) != (z1 : Int))) (T_len (ks := kSent) (g := TSent.row) s1) (T_len (ks := kSent) (g := TSent.row) s2)) ?_ ?_
  · exact Imp.ret rfl
  · refine Imp.for (enc := fun (i_3 : Nat) (s3 : Unit) => [.l (rows kSent TSent.row s1), .l (rows kSent TSent.row s2), .i (s1.length : Int), .i (i_3 : Int)]) (encR := Sum.elim (fun (u : Unit) => (((0, [.b false]) : Nat × List Leaf))) (fun (u : Unit) => (((1, []) : Nat × List Leaf)))) (c1 (fun (h1 : Int) => ([.l (rows kSent TSent.row s1), .l (rows kSent TSent.row s2), .i h1, .i 0] : List Leaf)) (c1 (fun z0 : Nat => (z0 : Int)) (T_len (ks := kSent) (g := TSent.row) s1))) (fun i_3 x_3 s3 hx3 hl3 hm3 => Imp.brT (Int.ofNat_lt.2 hl3) ?_) (fun s3 => brN (Int.lt_irrefl _) rfl) (fun r6 => ?_)
    · refine Imp.idxFor (ks := kSent) (g := TSent.row) hx3 ?_
      refine Imp.idx (ks := kSent) (g := TSent.row) rfl rfl (fun e5 _ => ?_)
      refine Imp.br rfl ?_ ?_
      · exact Imp.ret rfl
      · exact Imp.ret (c1 (fun (h1 : Int) => (some (Sum.inl [.l (rows kSent TSent.row s1), .l (rows kSent TSent.row s2), .i (s1.length : Int), .i h1]) : Option (List Leaf ⊕ (Nat × List Leaf)))) (wrapJ hl3))
    · cases r6 with
      | inl r6 =>
        refine Imp.ifT rfl ?_
        exact Imp.ret rfl
      | inr r6 =>
        refine Imp.ifF (show ¬ ((1 : Nat) = 0) by decide) ?_
        exact Imp.ret rfl

/-- impl.EqualNets -/
noncomputable def iEqualNets (a : TNet) (b : TNet) : Option Bool :=
  (iEqualServers a.xServers b.xServers).bind fun (r1 : Bool) =>
  br r1 (
    (iEqualCaches a.xCache b.xCache).bind fun (r2 : Bool) =>
    br r2 (
      (g_slices_Equal_Sent_Sent a.xLog b.xLog).bind fun (r3 : Bool) =>
      br r3 (
        some (a.xNow == b.xNow)
      ) (
        some false
      )
    ) (
      some false
    )
  ) (
    some false
  )
theorem ei_iEqualNets (a : TNet) (b : TNet) (k : Bool → Option β) : Imp (F96 β (rows kServer TServer.row a.xServers) (rows kEntry TEntry.row a.xCache.xEntries) (rows kSent TSent.row a.xLog) a.xNow (rows kServer TServer.row b.xServers) (rows kEntry TEntry.row b.xCache.xEntries) (rows kSent TSent.row b.xLog) b.xNow k) (iEqualNets a b) (fun r => k r) := by
  delta F96 P96 iEqualNets
  refine Imp.call rfl (ei_iEqualServers a.xServers b.xServers _) (fun r1 _ => ?_)
  refine Imp.br rfl ?_ ?_
  · refine Imp.call rfl (ei_iEqualCaches a.xCache b.xCache _) (fun r2 _ => ?_)
    refine Imp.br rfl ?_ ?_
    · refine Imp.call rfl (ei_g_slices_Equal_Sent_Sent a.xLog b.xLog _) (fun r3 _ => ?_)
      refine Imp.br rfl ?_ ?_
      · exact Imp.ret rfl
      · exact Imp.ret rfl
    · exact Imp.ret rfl
  · exact Imp.ret rfl

/-- slices.Equal[[]string,string] -/
noncomputable def g_slices_Equal_string_string (s1 : List (List UInt8)) (s2 : List (List UInt8)) : Option Bool :=
  br ((s1.length : Int) != (s2.length : Int)) (
    some false
  ) (
    (forE s1 (fun (i_3 : Nat) (x_3 : List UInt8) (s3 : Unit) => (
      (getI s2 (i_3 : Int)).bind fun (e5 : List UInt8) =>
      br (!(x_3 == e5)) (
        some (.inr (.inl ()))
      ) (
        some (.inl ())
      )
    : Option (Unit ⊕ (Unit ⊕ Unit)))) (fun (s3 : Unit) => (.inr () : Unit ⊕ Unit)) (() : Unit)).bind <|
    Sum.elim
      (fun (r6 : Unit) =>
        some false
      )
      (fun (r6 : Unit) =>
        some true
      )
  )
theorem ei_g_slices_Equal_string_string (s1 : List (List UInt8)) (s2 : List (List UInt8)) (k : Bool → Option β) : Imp (F115 β (rStr s1) (rStr s2) k) (g_slices_Equal_string_string s1 s2) (fun r => k r) := by
  delta F115 P115 g_slices_Equal_string_string
  refine Imp.br (c2 (fun z0 z1 : Nat => ((z0 : Int) != (z1 : Int))) (U_len (kd := .str) (g1 := fun e => e) s1) (U_len (kd := .str) (g1 := fun e => e) s2)) ?_ ?_
  · exact Imp.ret rfl
  · refine Imp.for (enc := fun (i_3 : Nat) (s3 : Unit) => [.l (rStr s1), .l (rStr s2), .i (s1.length : Int), .i (i_3 : Int)]) (encR := Sum.elim (fun (u : Unit) => (((0, [.b false]) : Nat × List Leaf))) (fun (u : Unit) => (((1, []) : Nat × List Leaf)))) (c1 (fun (h1 : Int) => ([.l (rStr s1), .l (rStr s2), .i h1, .i 0] : List Leaf)) (c1 (fun z0 : Nat => (z0 : Int)) (U_len (kd := .str) (g1 := fun e => e) s1))) (fun i_3 x_3 s3 hx3 hl3 hm3 => Imp.brT (Int.ofNat_lt.2 hl3) ?_) (fun s3 => brN (Int.lt_irrefl _) rfl) (fun r6 => ?_)
    · refine Imp.idxFor1 (kd := .str) (g1 := fun e => e) hx3 ?_
      refine Imp.idx1 (kd := .str) (g1 := fun e => e) rfl rfl (fun e5 _ => ?_)
      refine Imp.br rfl ?_ ?_
      · exact Imp.ret rfl
      · exact Imp.ret (c1 (fun (h1 : Int) => (some (Sum.inl [.l (rStr s1), .l (rStr s2), .i (s1.length : Int), .i h1]) : Option (List Leaf ⊕ (Nat × List Leaf)))) (wrapJ hl3))
    · cases r6 with
      | inl r6 =>
        refine Imp.ifT rfl ?_
        exact Imp.ret rfl
      | inr r6 =>
        refine Imp.ifF (show ¬ ((1 : Nat) = 0) by decide) ?_
        exact Imp.ret rfl

/-- impl.EqualPolicies -/
noncomputable def iEqualPolicies (a : TPolicy) (b : TPolicy) : Option Bool :=
  br (a.xSet == b.xSet) (
    (g_slices_Equal_string_string a.xScripts b.xScripts).bind fun (r1 : Bool) =>
    br r1 (
      (g_slices_Equal_string_string a.xStyles b.xStyles).bind fun (r2 : Bool) =>
      br r2 (
        (g_slices_Equal_string_string a.xImages b.xImages).bind fun (r3 : Bool) =>
        br r3 (
          some (a.xNonce == b.xNonce)
        ) (
          some false
        )
      ) (
        some false
      )
    ) (
      some false
    )
  ) (
    some false
  )
theorem ei_iEqualPolicies (a : TPolicy) (b : TPolicy) (k : Bool → Option β) : Imp (F108 β a.xSet (rStr a.xScripts) (rStr a.xStyles) (rStr a.xImages) a.xNonce b.xSet (rStr b.xScripts) (rStr b.xStyles) (rStr b.xImages) b.xNonce k) (iEqualPolicies a b) (fun r => k r) := by
  delta F108 P108 iEqualPolicies
  refine Imp.br rfl ?_ ?_
  · refine Imp.call rfl (ei_g_slices_Equal_string_string a.xScripts b.xScripts _) (fun r1 _ => ?_)
    refine Imp.br rfl ?_ ?_
    · refine Imp.call rfl (ei_g_slices_Equal_string_string a.xStyles b.xStyles _) (fun r2 _ => ?_)
      refine Imp.br rfl ?_ ?_
      · refine Imp.call rfl (ei_g_slices_Equal_string_string a.xImages b.xImages _) (fun r3 _ => ?_)
        refine Imp.br rfl ?_ ?_
        · exact Imp.ret rfl
        · exact Imp.ret rfl
      · exact Imp.ret rfl
    · exact Imp.ret rfl
  · exact Imp.ret rfl

/-- slices.Equal[[]impl.Attr,impl.Attr] -/
noncomputable def g_slices_Equal_Attr_Attr (s1 : List TAttr) (s2 : List TAttr) : Option Bool :=
  br ((s1.length : Int) != (s2.length : Int)) (
    some false
  ) (
    (forE s1 (fun (i_3 : Nat) (x_3 : TAttr) (s3 : Unit) => (
      (getI s2 (i_3 : Int)).bind fun (e5 : TAttr) =>
      br (!((x_3.xName == e5.xName) && ((x_3.xValue == e5.xValue) && true))) (
        some (.inr (.inl ()))
      ) (
        some (.inl ())
      )
    : Option (Unit ⊕ (Unit ⊕ Unit)))) (fun (s3 : Unit) => (.inr () : Unit ⊕ Unit)) (() : Unit)).bind <|
    Sum.elim
      (fun (r6 : Unit) =>
        some false
      )
      (fun (r6 : Unit) =>
        some true
      )
  )
theorem ei_g_slices_Equal_Attr_Attr (s1 : List TAttr) (s2 : List TAttr) (k : Bool → Option β) : Imp (F168 β (rows kAttr TAttr.row s1) (rows kAttr TAttr.row s2) k) (g_slices_Equal_Attr_Attr s1 s2) (fun r => k r) := by
  delta F168 P168 g_slices_Equal_Attr_Attr
  refine Imp.br (c2 (fun z0 z1 : Nat => ((z0 : Int) != (z1 : Int))) (T_len (ks := kAttr) (g := TAttr.row) s1) (T_len (ks := kAttr) (g := TAttr.row) s2)) ?_ ?_
  · exact Imp.ret rfl
  · refine Imp.for (enc := fun (i_3 : Nat) (s3 : Unit) => [.l (rows kAttr TAttr.row s1), .l (rows kAttr TAttr.row s2), .i (s1.length : Int), .i (i_3 : Int)]) (encR := Sum.elim (fun (u : Unit) => (((0, [.b false]) : Nat × List Leaf))) (fun (u : Unit) => (((1, []) : Nat × List Leaf)))) (c1 (fun (h1 : Int) => ([.l (rows kAttr TAttr.row s1), .l (rows kAttr TAttr.row s2), .i h1, .i 0] : List Leaf)) (c1 (fun z0 : Nat => (z0 : Int)) (T_len (ks := kAttr) (g := TAttr.row) s1))) (fun i_3 x_3 s3 hx3 hl3 hm3 => Imp.brT (Int.ofNat_lt.2 hl3) ?_) (fun s3 => brN (Int.lt_irrefl _) rfl) (fun r6 => ?_)
    · refine Imp.idxFor (ks := kAttr) (g := TAttr.row) hx3 ?_
      refine Imp.idx (ks := kAttr) (g := TAttr.row) rfl rfl (fun e5 _ => ?_)
      refine Imp.br rfl ?_ ?_
      · exact Imp.ret rfl
      · exact Imp.ret (c1 (fun (h1 : Int) => (some (Sum.inl [.l (rows kAttr TAttr.row s1), .l (rows kAttr TAttr.row s2), .i (s1.length : Int), .i h1]) : Option (List Leaf ⊕ (Nat × List Leaf)))) (wrapJ hl3))
    · cases r6 with
      | inl r6 =>
        refine Imp.ifT rfl ?_
        exact Imp.ret rfl
      | inr r6 =>
        refine Imp.ifF (show ¬ ((1 : Nat) = 0) by decide) ?_
        exact Imp.ret rfl

/-- impl.equalTokens -/
noncomputable def iequalTokens (a : TToken) (b : TToken) : Option Bool :=
  br (a.xKind == b.xKind) (
    br (a.xName == b.xName) (
      (g_slices_Equal_Attr_Attr a.xAttrs b.xAttrs).bind fun (r1 : Bool) =>
      br r1 (
        some (a.xText == b.xText)
      ) (
        some false
      )
    ) (
      some false
    )
  ) (
    some false
  )
theorem ei_iequalTokens (a : TToken) (b : TToken) (k : Bool → Option β) : Imp (F110 β a.xKind a.xName (rows kAttr TAttr.row a.xAttrs) a.xText b.xKind b.xName (rows kAttr TAttr.row b.xAttrs) b.xText k) (iequalTokens a b) (fun r => k r) := by
  delta F110 P110 iequalTokens
  refine Imp.br rfl ?_ ?_
  · refine Imp.br rfl ?_ ?_
    · refine Imp.call rfl (ei_g_slices_Equal_Attr_Attr a.xAttrs b.xAttrs _) (fun r1 _ => ?_)
      refine Imp.br rfl ?_ ?_
      · exact Imp.ret rfl
      · exact Imp.ret rfl
    · exact Imp.ret rfl
  · exact Imp.ret rfl

/-- slices.EqualFunc[[]impl.Token,[]impl.Token,impl.Token,impl.Token] -/
noncomputable def g_slices_EqualFunc_Token_Token_Token_Token_iequalTokens (s1 : List TToken) (s2 : List TToken) : Option Bool :=
  br ((s1.length : Int) != (s2.length : Int)) (
    some false
  ) (
    (forE s1 (fun (i_3 : Nat) (x_3 : TToken) (s3 : Unit) => (
      (getI s2 (i_3 : Int)).bind fun (e5 : TToken) =>
      (iequalTokens x_3 e5).bind fun (r6 : Bool) =>
      br (!r6) (
        some (.inr (.inl ()))
      ) (
        some (.inl ())
      )
    : Option (Unit ⊕ (Unit ⊕ Unit)))) (fun (s3 : Unit) => (.inr () : Unit ⊕ Unit)) (() : Unit)).bind <|
    Sum.elim
      (fun (r7 : Unit) =>
        some false
      )
      (fun (r7 : Unit) =>
        some true
      )
  )
theorem ei_g_slices_EqualFunc_Token_Token_Token_Token_iequalTokens (s1 : List TToken) (s2 : List TToken) (k : Bool → Option β) : Imp (F109c110 β (rows kToken TToken.row s1) (rows kToken TToken.row s2) k) (g_slices_EqualFunc_Token_Token_Token_Token_iequalTokens s1 s2) (fun r => k r) := by
  delta F109c110 P109c110 g_slices_EqualFunc_Token_Token_Token_Token_iequalTokens
  refine Imp.br (c2 (fun z0 z1 : Nat => ((z0 : Int) != (z1 : Int))) (T_len (ks := kToken) (g := TToken.row) s1) (T_len (ks := kToken) (g := TToken.row) s2)) ?_ ?_
  · exact Imp.ret rfl
  · refine Imp.for (enc := fun (i_3 : Nat) (s3 : Unit) => [.l (rows kToken TToken.row s2), .l (rows kToken TToken.row s1), .i (s1.length : Int), .i (i_3 : Int)]) (encR := Sum.elim (fun (u : Unit) => (((0, [.b false]) : Nat × List Leaf))) (fun (u : Unit) => (((1, []) : Nat × List Leaf)))) (c1 (fun (h1 : Int) => ([.l (rows kToken TToken.row s2), .l (rows kToken TToken.row s1), .i h1, .i 0] : List Leaf)) (c1 (fun z0 : Nat => (z0 : Int)) (T_len (ks := kToken) (g := TToken.row) s1))) (fun i_3 x_3 s3 hx3 hl3 hm3 => Imp.brT (Int.ofNat_lt.2 hl3) ?_) (fun s3 => brN (Int.lt_irrefl _) rfl) (fun r7 => ?_)
    · refine Imp.idxFor (ks := kToken) (g := TToken.row) hx3 ?_
      refine Imp.idx (ks := kToken) (g := TToken.row) rfl rfl (fun e5 _ => ?_)
      refine Imp.call rfl (ei_iequalTokens x_3 e5 _) (fun r6 _ => ?_)
      refine Imp.br rfl ?_ ?_
      · exact Imp.ret rfl
      · exact Imp.ret (c1 (fun (h1 : Int) => (some (Sum.inl [.l (rows kToken TToken.row s2), .l (rows kToken TToken.row s1), .i (s1.length : Int), .i h1]) : Option (List Leaf ⊕ (Nat × List Leaf)))) (wrapJ hl3))
    · cases r7 with
      | inl r7 =>
        refine Imp.ifT rfl ?_
        exact Imp.ret rfl
      | inr r7 =>
        refine Imp.ifF (show ¬ ((1 : Nat) = 0) by decide) ?_
        exact Imp.ret rfl

/-- impl.equalNodes -/
noncomputable def iequalNodes (a : TNode) (b : TNode) : Option Bool :=
  br (a.xName == b.xName) (
    br (a.xText == b.xText) (
      br (a.xParent == b.xParent) (
        (g_slices_Equal_Attr_Attr a.xAttrs b.xAttrs).bind fun (r1 : Bool) =>
        some r1
      ) (
        some false
      )
    ) (
      some false
    )
  ) (
    some false
  )
theorem ei_iequalNodes (a : TNode) (b : TNode) (k : Bool → Option β) : Imp (F170 β a.xName a.xText a.xParent (rows kAttr TAttr.row a.xAttrs) b.xName b.xText b.xParent (rows kAttr TAttr.row b.xAttrs) k) (iequalNodes a b) (fun r => k r) := by
  delta F170 P170 iequalNodes
  refine Imp.br rfl ?_ ?_
  · refine Imp.br rfl ?_ ?_
    · refine Imp.br rfl ?_ ?_
      · refine Imp.call rfl (ei_g_slices_Equal_Attr_Attr a.xAttrs b.xAttrs _) (fun r1 _ => ?_)
        exact Imp.ret rfl
      · exact Imp.ret rfl
    · exact Imp.ret rfl
  · exact Imp.ret rfl

/-- slices.EqualFunc[[]impl.Node,[]impl.Node,impl.Node,impl.Node] -/
noncomputable def g_slices_EqualFunc_Node_Node_Node_Node_iequalNodes (s1 : List TNode) (s2 : List TNode) : Option Bool :=
  br ((s1.length : Int) != (s2.length : Int)) (
    some false
  ) (
    (forE s1 (fun (i_3 : Nat) (x_3 : TNode) (s3 : Unit) => (
      (getI s2 (i_3 : Int)).bind fun (e5 : TNode) =>
      (iequalNodes x_3 e5).bind fun (r6 : Bool) =>
      br (!r6) (
        some (.inr (.inl ()))
      ) (
        some (.inl ())
      )
    : Option (Unit ⊕ (Unit ⊕ Unit)))) (fun (s3 : Unit) => (.inr () : Unit ⊕ Unit)) (() : Unit)).bind <|
    Sum.elim
      (fun (r7 : Unit) =>
        some false
      )
      (fun (r7 : Unit) =>
        some true
      )
  )
theorem ei_g_slices_EqualFunc_Node_Node_Node_Node_iequalNodes (s1 : List TNode) (s2 : List TNode) (k : Bool → Option β) : Imp (F169c170 β (rows kNode TNode.row s1) (rows kNode TNode.row s2) k) (g_slices_EqualFunc_Node_Node_Node_Node_iequalNodes s1 s2) (fun r => k r) := by
  delta F169c170 P169c170 g_slices_EqualFunc_Node_Node_Node_Node_iequalNodes
  refine Imp.br (c2 (fun z0 z1 : Nat => ((z0 : Int) != (z1 : Int))) (T_len (ks := kNode) (g := TNode.row) s1) (T_len (ks := kNode) (g := TNode.row) s2)) ?_ ?_
  · exact Imp.ret rfl
  · refine Imp.for (enc := fun (i_3 : Nat) (s3 : Unit) => [.l (rows kNode TNode.row s2), .l (rows kNode TNode.row s1), .i (s1.length : Int), .i (i_3 : Int)]) (encR := Sum.elim (fun (u : Unit) => (((0, [.b false]) : Nat × List Leaf))) (fun (u : Unit) => (((1, []) : Nat × List Leaf)))) (c1 (fun (h1 : Int) => ([.l (rows kNode TNode.row s2), .l (rows kNode TNode.row s1), .i h1, .i 0] : List Leaf)) (c1 (fun z0 : Nat => (z0 : Int)) (T_len (ks := kNode) (g := TNode.row) s1))) (fun i_3 x_3 s3 hx3 hl3 hm3 => Imp.brT (Int.ofNat_lt.2 hl3) ?_) (fun s3 => brN (Int.lt_irrefl _) rfl) (fun r7 => ?_)
    · refine Imp.idxFor (ks := kNode) (g := TNode.row) hx3 ?_
      refine Imp.idx (ks := kNode) (g := TNode.row) rfl rfl (fun e5 _ => ?_)
      refine Imp.call rfl (ei_iequalNodes x_3 e5 _) (fun r6 _ => ?_)
      refine Imp.br rfl ?_ ?_
      · exact Imp.ret rfl
      · exact Imp.ret (c1 (fun (h1 : Int) => (some (Sum.inl [.l (rows kNode TNode.row s2), .l (rows kNode TNode.row s1), .i (s1.length : Int), .i h1]) : Option (List Leaf ⊕ (Nat × List Leaf)))) (wrapJ hl3))
    · cases r7 with
      | inl r7 =>
        refine Imp.ifT rfl ?_
        exact Imp.ret rfl
      | inr r7 =>
        refine Imp.ifF (show ¬ ((1 : Nat) = 0) by decide) ?_
        exact Imp.ret rfl

/-- slices.Equal[[]int,int] -/
noncomputable def g_slices_Equal_int_int (s1 : List Int) (s2 : List Int) : Option Bool :=
  br ((s1.length : Int) != (s2.length : Int)) (
    some false
  ) (
    (forE s1 (fun (i_3 : Nat) (x_3 : Int) (s3 : Unit) => (
      (getI s2 (i_3 : Int)).bind fun (e5 : Int) =>
      br (x_3 != e5) (
        some (.inr (.inl ()))
      ) (
        some (.inl ())
      )
    : Option (Unit ⊕ (Unit ⊕ Unit)))) (fun (s3 : Unit) => (.inr () : Unit ⊕ Unit)) (() : Unit)).bind <|
    Sum.elim
      (fun (r6 : Unit) =>
        some false
      )
      (fun (r6 : Unit) =>
        some true
      )
  )
theorem ei_g_slices_Equal_int_int (s1 : List Int) (s2 : List Int) (k : Bool → Option β) : Imp (F171 β (rInt s1) (rInt s2) k) (g_slices_Equal_int_int s1 s2) (fun r => k r) := by
  delta F171 P171 g_slices_Equal_int_int
  refine Imp.br (c2 (fun z0 z1 : Nat => ((z0 : Int) != (z1 : Int))) (U_len (kd := (.int .i64)) (g1 := fun e => e) s1) (U_len (kd := (.int .i64)) (g1 := fun e => e) s2)) ?_ ?_
  · exact Imp.ret rfl
  · refine Imp.for (enc := fun (i_3 : Nat) (s3 : Unit) => [.l (rInt s1), .l (rInt s2), .i (s1.length : Int), .i (i_3 : Int)]) (encR := Sum.elim (fun (u : Unit) => (((0, [.b false]) : Nat × List Leaf))) (fun (u : Unit) => (((1, []) : Nat × List Leaf)))) (c1 (fun (h1 : Int) => ([.l (rInt s1), .l (rInt s2), .i h1, .i 0] : List Leaf)) (c1 (fun z0 : Nat => (z0 : Int)) (U_len (kd := (.int .i64)) (g1 := fun e => e) s1))) (fun i_3 x_3 s3 hx3 hl3 hm3 => Imp.brT (Int.ofNat_lt.2 hl3) ?_) (fun s3 => brN (Int.lt_irrefl _) rfl) (fun r6 => ?_)
    · refine Imp.idxFor1 (kd := (.int .i64)) (g1 := fun e => e) hx3 ?_
      refine Imp.idx1 (kd := (.int .i64)) (g1 := fun e => e) rfl rfl (fun e5 _ => ?_)
      refine Imp.br rfl ?_ ?_
      · exact Imp.ret rfl
      · exact Imp.ret (c1 (fun (h1 : Int) => (some (Sum.inl [.l (rInt s1), .l (rInt s2), .i (s1.length : Int), .i h1]) : Option (List Leaf ⊕ (Nat × List Leaf)))) (wrapJ hl3))
    · cases r6 with
      | inl r6 =>
        refine Imp.ifT rfl ?_
        exact Imp.ret rfl
      | inr r6 =>
        refine Imp.ifF (show ¬ ((1 : Nat) = 0) by decide) ?_
        exact Imp.ret rfl

/-- impl.EqualBuilders -/
noncomputable def iEqualBuilders (a : TBuilder) (b : TBuilder) : Option Bool :=
  (g_slices_EqualFunc_Node_Node_Node_Node_iequalNodes a.xNodes b.xNodes).bind fun (r1 : Bool) =>
  br r1 (
    (g_slices_Equal_int_int a.xOpen b.xOpen).bind fun (r2 : Bool) =>
    some r2
  ) (
    some false
  )
theorem ei_iEqualBuilders (a : TBuilder) (b : TBuilder) (k : Bool → Option β) : Imp (F111 β (rows kNode TNode.row a.xNodes) (rInt a.xOpen) (rows kNode TNode.row b.xNodes) (rInt b.xOpen) k) (iEqualBuilders a b) (fun r => k r) := by
  delta F111 P111 iEqualBuilders
  refine Imp.call rfl (ei_g_slices_EqualFunc_Node_Node_Node_Node_iequalNodes a.xNodes b.xNodes _) (fun r1 _ => ?_)
  refine Imp.br rfl ?_ ?_
  · refine Imp.call rfl (ei_g_slices_Equal_int_int a.xOpen b.xOpen _) (fun r2 _ => ?_)
    exact Imp.ret rfl
  · exact Imp.ret rfl

/-- slices.Equal[[]impl.Slot,impl.Slot] -/
noncomputable def g_slices_Equal_Slot_Slot (s1 : List TSlot) (s2 : List TSlot) : Option Bool :=
  br ((s1.length : Int) != (s2.length : Int)) (
    some false
  ) (
    (forE s1 (fun (i_3 : Nat) (x_3 : TSlot) (s3 : Unit) => (
      (getI s2 (i_3 : Int)).bind fun (e5 : TSlot) =>
      br (!((x_3.xMode == e5.xMode) && ((x_3.xTo.xHost == e5.xTo.xHost) && ((x_3.xTo.xPath == e5.xTo.xPath) && ((x_3.xDigest == e5.xDigest) && ((x_3.xNode == e5.xNode) && ((x_3.xDone == e5.xDone) && ((x_3.xCode == e5.xCode) && ((x_3.xBody == e5.xBody) && true))))))))) (
        some (.inr (.inl ()))
      ) (
        some (.inl ())
      )
    : Option (Unit ⊕ (Unit ⊕ Unit)))) (fun (s3 : Unit) => (.inr () : Unit ⊕ Unit)) (() : Unit)).bind <|
    Sum.elim
      (fun (r6 : Unit) =>
        some false
      )
      (fun (r6 : Unit) =>
        some true
      )
  )
theorem ei_g_slices_Equal_Slot_Slot (s1 : List TSlot) (s2 : List TSlot) (k : Bool → Option β) : Imp (F112 β (rows kSlot TSlot.row s1) (rows kSlot TSlot.row s2) k) (g_slices_Equal_Slot_Slot s1 s2) (fun r => k r) := by
  delta F112 P112 g_slices_Equal_Slot_Slot
  refine Imp.br (c2 (fun z0 z1 : Nat => ((z0 : Int) != (z1 : Int))) (T_len (ks := kSlot) (g := TSlot.row) s1) (T_len (ks := kSlot) (g := TSlot.row) s2)) ?_ ?_
  · exact Imp.ret rfl
  · refine Imp.for (enc := fun (i_3 : Nat) (s3 : Unit) => [.l (rows kSlot TSlot.row s1), .l (rows kSlot TSlot.row s2), .i (s1.length : Int), .i (i_3 : Int)]) (encR := Sum.elim (fun (u : Unit) => (((0, [.b false]) : Nat × List Leaf))) (fun (u : Unit) => (((1, []) : Nat × List Leaf)))) (c1 (fun (h1 : Int) => ([.l (rows kSlot TSlot.row s1), .l (rows kSlot TSlot.row s2), .i h1, .i 0] : List Leaf)) (c1 (fun z0 : Nat => (z0 : Int)) (T_len (ks := kSlot) (g := TSlot.row) s1))) (fun i_3 x_3 s3 hx3 hl3 hm3 => Imp.brT (Int.ofNat_lt.2 hl3) ?_) (fun s3 => brN (Int.lt_irrefl _) rfl) (fun r6 => ?_)
    · refine Imp.idxFor (ks := kSlot) (g := TSlot.row) hx3 ?_
      refine Imp.idx (ks := kSlot) (g := TSlot.row) rfl rfl (fun e5 _ => ?_)
      refine Imp.br rfl ?_ ?_
      · exact Imp.ret rfl
      · exact Imp.ret (c1 (fun (h1 : Int) => (some (Sum.inl [.l (rows kSlot TSlot.row s1), .l (rows kSlot TSlot.row s2), .i (s1.length : Int), .i h1]) : Option (List Leaf ⊕ (Nat × List Leaf)))) (wrapJ hl3))
    · cases r6 with
      | inl r6 =>
        refine Imp.ifT rfl ?_
        exact Imp.ret rfl
      | inr r6 =>
        refine Imp.ifF (show ¬ ((1 : Nat) = 0) by decide) ?_
        exact Imp.ret rfl

/-- slices.Equal[[]impl.Module,impl.Module] -/
noncomputable def g_slices_Equal_Module_Module (s1 : List TModule) (s2 : List TModule) : Option Bool :=
  br ((s1.length : Int) != (s2.length : Int)) (
    some false
  ) (
    (forE s1 (fun (i_3 : Nat) (x_3 : TModule) (s3 : Unit) => (
      (getI s2 (i_3 : Int)).bind fun (e5 : TModule) =>
      br (!((x_3.xTo.xHost == e5.xTo.xHost) && ((x_3.xTo.xPath == e5.xTo.xPath) && ((x_3.xDone == e5.xDone) && ((x_3.xCode == e5.xCode) && ((x_3.xBody == e5.xBody) && true)))))) (
        some (.inr (.inl ()))
      ) (
        some (.inl ())
      )
    : Option (Unit ⊕ (Unit ⊕ Unit)))) (fun (s3 : Unit) => (.inr () : Unit ⊕ Unit)) (() : Unit)).bind <|
    Sum.elim
      (fun (r6 : Unit) =>
        some false
      )
      (fun (r6 : Unit) =>
        some true
      )
  )
theorem ei_g_slices_Equal_Module_Module (s1 : List TModule) (s2 : List TModule) (k : Bool → Option β) : Imp (F113 β (rows kModule TModule.row s1) (rows kModule TModule.row s2) k) (g_slices_Equal_Module_Module s1 s2) (fun r => k r) := by
  delta F113 P113 g_slices_Equal_Module_Module
  refine Imp.br (c2 (fun z0 z1 : Nat => ((z0 : Int) != (z1 : Int))) (T_len (ks := kModule) (g := TModule.row) s1) (T_len (ks := kModule) (g := TModule.row) s2)) ?_ ?_
  · exact Imp.ret rfl
  · refine Imp.for (enc := fun (i_3 : Nat) (s3 : Unit) => [.l (rows kModule TModule.row s1), .l (rows kModule TModule.row s2), .i (s1.length : Int), .i (i_3 : Int)]) (encR := Sum.elim (fun (u : Unit) => (((0, [.b false]) : Nat × List Leaf))) (fun (u : Unit) => (((1, []) : Nat × List Leaf)))) (c1 (fun (h1 : Int) => ([.l (rows kModule TModule.row s1), .l (rows kModule TModule.row s2), .i h1, .i 0] : List Leaf)) (c1 (fun z0 : Nat => (z0 : Int)) (T_len (ks := kModule) (g := TModule.row) s1))) (fun i_3 x_3 s3 hx3 hl3 hm3 => Imp.brT (Int.ofNat_lt.2 hl3) ?_) (fun s3 => brN (Int.lt_irrefl _) rfl) (fun r6 => ?_)
    · refine Imp.idxFor (ks := kModule) (g := TModule.row) hx3 ?_
      refine Imp.idx (ks := kModule) (g := TModule.row) rfl rfl (fun e5 _ => ?_)
      refine Imp.br rfl ?_ ?_
      · exact Imp.ret rfl
      · exact Imp.ret (c1 (fun (h1 : Int) => (some (Sum.inl [.l (rows kModule TModule.row s1), .l (rows kModule TModule.row s2), .i (s1.length : Int), .i h1]) : Option (List Leaf ⊕ (Nat × List Leaf)))) (wrapJ hl3))
    · cases r6 with
      | inl r6 =>
        refine Imp.ifT rfl ?_
        exact Imp.ret rfl
      | inr r6 =>
        refine Imp.ifF (show ¬ ((1 : Nat) = 0) by decide) ?_
        exact Imp.ret rfl

/-- slices.Equal[[]impl.Addr,impl.Addr] -/
noncomputable def g_slices_Equal_Addr_Addr (s1 : List TAddr) (s2 : List TAddr) : Option Bool :=
  br ((s1.length : Int) != (s2.length : Int)) (
    some false
  ) (
    (forE s1 (fun (i_3 : Nat) (x_3 : TAddr) (s3 : Unit) => (
      (getI s2 (i_3 : Int)).bind fun (e5 : TAddr) =>
      br (!((x_3.xHost == e5.xHost) && ((x_3.xPath == e5.xPath) && true))) (
        some (.inr (.inl ()))
      ) (
        some (.inl ())
      )
    : Option (Unit ⊕ (Unit ⊕ Unit)))) (fun (s3 : Unit) => (.inr () : Unit ⊕ Unit)) (() : Unit)).bind <|
    Sum.elim
      (fun (r6 : Unit) =>
        some false
      )
      (fun (r6 : Unit) =>
        some true
      )
  )
theorem ei_g_slices_Equal_Addr_Addr (s1 : List TAddr) (s2 : List TAddr) (k : Bool → Option β) : Imp (F114 β (rows kAddr TAddr.row s1) (rows kAddr TAddr.row s2) k) (g_slices_Equal_Addr_Addr s1 s2) (fun r => k r) := by
  delta F114 P114 g_slices_Equal_Addr_Addr
  refine Imp.br (c2 (fun z0 z1 : Nat => ((z0 : Int) != (z1 : Int))) (T_len (ks := kAddr) (g := TAddr.row) s1) (T_len (ks := kAddr) (g := TAddr.row) s2)) ?_ ?_
  · exact Imp.ret rfl
  · refine Imp.for (enc := fun (i_3 : Nat) (s3 : Unit) => [.l (rows kAddr TAddr.row s1), .l (rows kAddr TAddr.row s2), .i (s1.length : Int), .i (i_3 : Int)]) (encR := Sum.elim (fun (u : Unit) => (((0, [.b false]) : Nat × List Leaf))) (fun (u : Unit) => (((1, []) : Nat × List Leaf)))) (c1 (fun (h1 : Int) => ([.l (rows kAddr TAddr.row s1), .l (rows kAddr TAddr.row s2), .i h1, .i 0] : List Leaf)) (c1 (fun z0 : Nat => (z0 : Int)) (T_len (ks := kAddr) (g := TAddr.row) s1))) (fun i_3 x_3 s3 hx3 hl3 hm3 => Imp.brT (Int.ofNat_lt.2 hl3) ?_) (fun s3 => brN (Int.lt_irrefl _) rfl) (fun r6 => ?_)
    · refine Imp.idxFor (ks := kAddr) (g := TAddr.row) hx3 ?_
      refine Imp.idx (ks := kAddr) (g := TAddr.row) rfl rfl (fun e5 _ => ?_)
      refine Imp.br rfl ?_ ?_
      · exact Imp.ret rfl
      · exact Imp.ret (c1 (fun (h1 : Int) => (some (Sum.inl [.l (rows kAddr TAddr.row s1), .l (rows kAddr TAddr.row s2), .i (s1.length : Int), .i h1]) : Option (List Leaf ⊕ (Nat × List Leaf)))) (wrapJ hl3))
    · cases r6 with
      | inl r6 =>
        refine Imp.ifT rfl ?_
        exact Imp.ret rfl
      | inr r6 =>
        refine Imp.ifF (show ¬ ((1 : Nat) = 0) by decide) ?_
        exact Imp.ret rfl

/-- impl.EqualPages -/
noncomputable def iEqualPages (a : TPage) (b : TPage) : Option Bool :=
  br ((a.xAddr.xHost == b.xAddr.xHost) && ((a.xAddr.xPath == b.xAddr.xPath) && true)) (
    (iEqualPolicies a.xPolicy b.xPolicy).bind fun (r1 : Bool) =>
    br r1 (
      br ((a.xTok.xRest == b.xTok.xRest) && true) (
        (g_slices_EqualFunc_Token_Token_Token_Token_iequalTokens a.xQueue b.xQueue).bind fun (r2 : Bool) =>
        br r2 (
          br (a.xEnded == b.xEnded) (
            (iEqualBuilders a.xBuilder b.xBuilder).bind fun (r3 : Bool) =>
            br r3 (
              (g_slices_Equal_Slot_Slot a.xSlots b.xSlots).bind fun (r4 : Bool) =>
              br r4 (
                (g_slices_Equal_Module_Module a.xMods b.xMods).bind fun (r5 : Bool) =>
                br r5 (
                  (g_slices_Equal_Addr_Addr a.xEntries b.xEntries).bind fun (r6 : Bool) =>
                  br r6 (
                    br (a.xBlock == b.xBlock) (
                      br (a.xInline == b.xInline) (
                        br (a.xDeferred == b.xDeferred) (
                          br (a.xEntered == b.xEntered) (
                            (g_slices_Equal_Addr_Addr a.xRan b.xRan).bind fun (r7 : Bool) =>
                            br r7 (
                              (g_slices_Equal_string_string a.xLog b.xLog).bind fun (r8 : Bool) =>
                              br r8 (
                                some (a.xLoaded == b.xLoaded)
                              ) (
                                some false
                              )
                            ) (
                              some false
                            )
                          ) (
                            some false
                          )
                        ) (
                          some false
                        )
                      ) (
                        some false
                      )
                    ) (
                      some false
                    )
                  ) (
                    some false
                  )
                ) (
                  some false
                )
              ) (
                some false
              )
            ) (
              some false
            )
          ) (
            some false
          )
        ) (
          some false
        )
      ) (
        some false
      )
    ) (
      some false
    )
  ) (
    some false
  )
theorem ei_iEqualPages (a : TPage) (b : TPage) (k : Bool → Option β) : Imp (F39 β a.xAddr.xHost a.xAddr.xPath a.xPolicy.xSet (rStr a.xPolicy.xScripts) (rStr a.xPolicy.xStyles) (rStr a.xPolicy.xImages) a.xPolicy.xNonce a.xTok.xRest (rows kToken TToken.row a.xQueue) a.xEnded (rows kNode TNode.row a.xBuilder.xNodes) (rInt a.xBuilder.xOpen) (rows kSlot TSlot.row a.xSlots) (rows kModule TModule.row a.xMods) (rows kAddr TAddr.row a.xEntries) a.xBlock a.xInline a.xDeferred a.xEntered (rows kAddr TAddr.row a.xRan) (rStr a.xLog) a.xLoaded b.xAddr.xHost b.xAddr.xPath b.xPolicy.xSet (rStr b.xPolicy.xScripts) (rStr b.xPolicy.xStyles) (rStr b.xPolicy.xImages) b.xPolicy.xNonce b.xTok.xRest (rows kToken TToken.row b.xQueue) b.xEnded (rows kNode TNode.row b.xBuilder.xNodes) (rInt b.xBuilder.xOpen) (rows kSlot TSlot.row b.xSlots) (rows kModule TModule.row b.xMods) (rows kAddr TAddr.row b.xEntries) b.xBlock b.xInline b.xDeferred b.xEntered (rows kAddr TAddr.row b.xRan) (rStr b.xLog) b.xLoaded k) (iEqualPages a b) (fun r => k r) := by
  delta F39 P39 iEqualPages
  refine Imp.br rfl ?_ ?_
  · refine Imp.call rfl (ei_iEqualPolicies a.xPolicy b.xPolicy _) (fun r1 _ => ?_)
    refine Imp.br rfl ?_ ?_
    · refine Imp.br rfl ?_ ?_
      · refine Imp.call rfl (ei_g_slices_EqualFunc_Token_Token_Token_Token_iequalTokens a.xQueue b.xQueue _) (fun r2 _ => ?_)
        refine Imp.br rfl ?_ ?_
        · refine Imp.br rfl ?_ ?_
          · refine Imp.call rfl (ei_iEqualBuilders a.xBuilder b.xBuilder _) (fun r3 _ => ?_)
            refine Imp.br rfl ?_ ?_
            · refine Imp.call rfl (ei_g_slices_Equal_Slot_Slot a.xSlots b.xSlots _) (fun r4 _ => ?_)
              refine Imp.br rfl ?_ ?_
              · refine Imp.call rfl (ei_g_slices_Equal_Module_Module a.xMods b.xMods _) (fun r5 _ => ?_)
                refine Imp.br rfl ?_ ?_
                · refine Imp.call rfl (ei_g_slices_Equal_Addr_Addr a.xEntries b.xEntries _) (fun r6 _ => ?_)
                  refine Imp.br rfl ?_ ?_
                  · refine Imp.br rfl ?_ ?_
                    · refine Imp.br rfl ?_ ?_
                      · refine Imp.br rfl ?_ ?_
                        · refine Imp.br rfl ?_ ?_
                          · refine Imp.call rfl (ei_g_slices_Equal_Addr_Addr a.xRan b.xRan _) (fun r7 _ => ?_)
                            refine Imp.br rfl ?_ ?_
                            · refine Imp.call rfl (ei_g_slices_Equal_string_string a.xLog b.xLog _) (fun r8 _ => ?_)
                              refine Imp.br rfl ?_ ?_
                              · exact Imp.ret rfl
                              · exact Imp.ret rfl
                            · exact Imp.ret rfl
                          · exact Imp.ret rfl
                        · exact Imp.ret rfl
                      · exact Imp.ret rfl
                    · exact Imp.ret rfl
                  · exact Imp.ret rfl
                · exact Imp.ret rfl
              · exact Imp.ret rfl
            · exact Imp.ret rfl
          · exact Imp.ret rfl
        · exact Imp.ret rfl
      · exact Imp.ret rfl
    · exact Imp.ret rfl
  · exact Imp.ret rfl

/-- impl.equalVisits -/
noncomputable def iequalVisits (a : TVisit) (b : TVisit) : Option Bool :=
  br ((a.xAddr.xHost == b.xAddr.xHost) && ((a.xAddr.xPath == b.xAddr.xPath) && true)) (
    br (a.xKept == b.xKept) (
      (iEqualPages a.xPage b.xPage).bind fun (r1 : Bool) =>
      some r1
    ) (
      some false
    )
  ) (
    some false
  )
theorem ei_iequalVisits (a : TVisit) (b : TVisit) (k : Bool → Option β) : Imp (F159 β a.xAddr.xHost a.xAddr.xPath a.xPage.xAddr.xHost a.xPage.xAddr.xPath a.xPage.xPolicy.xSet (rStr a.xPage.xPolicy.xScripts) (rStr a.xPage.xPolicy.xStyles) (rStr a.xPage.xPolicy.xImages) a.xPage.xPolicy.xNonce a.xPage.xTok.xRest (rows kToken TToken.row a.xPage.xQueue) a.xPage.xEnded (rows kNode TNode.row a.xPage.xBuilder.xNodes) (rInt a.xPage.xBuilder.xOpen) (rows kSlot TSlot.row a.xPage.xSlots) (rows kModule TModule.row a.xPage.xMods) (rows kAddr TAddr.row a.xPage.xEntries) a.xPage.xBlock a.xPage.xInline a.xPage.xDeferred a.xPage.xEntered (rows kAddr TAddr.row a.xPage.xRan) (rStr a.xPage.xLog) a.xPage.xLoaded a.xKept b.xAddr.xHost b.xAddr.xPath b.xPage.xAddr.xHost b.xPage.xAddr.xPath b.xPage.xPolicy.xSet (rStr b.xPage.xPolicy.xScripts) (rStr b.xPage.xPolicy.xStyles) (rStr b.xPage.xPolicy.xImages) b.xPage.xPolicy.xNonce b.xPage.xTok.xRest (rows kToken TToken.row b.xPage.xQueue) b.xPage.xEnded (rows kNode TNode.row b.xPage.xBuilder.xNodes) (rInt b.xPage.xBuilder.xOpen) (rows kSlot TSlot.row b.xPage.xSlots) (rows kModule TModule.row b.xPage.xMods) (rows kAddr TAddr.row b.xPage.xEntries) b.xPage.xBlock b.xPage.xInline b.xPage.xDeferred b.xPage.xEntered (rows kAddr TAddr.row b.xPage.xRan) (rStr b.xPage.xLog) b.xPage.xLoaded b.xKept k) (iequalVisits a b) (fun r => k r) := by
  delta F159 P159 iequalVisits
  refine Imp.br rfl ?_ ?_
  · refine Imp.br rfl ?_ ?_
    · refine Imp.call rfl (ei_iEqualPages a.xPage b.xPage _) (fun r1 _ => ?_)
      exact Imp.ret rfl
    · exact Imp.ret rfl
  · exact Imp.ret rfl

/-- slices.EqualFunc[[]impl.Visit,[]impl.Visit,impl.Visit,impl.Visit] -/
noncomputable def g_slices_EqualFunc_Visit_Visit_Visit_Visit_iequalVisits (s1 : List TVisit) (s2 : List TVisit) : Option Bool :=
  br ((s1.length : Int) != (s2.length : Int)) (
    some false
  ) (
    (forE s1 (fun (i_3 : Nat) (x_3 : TVisit) (s3 : Unit) => (
      (getI s2 (i_3 : Int)).bind fun (e5 : TVisit) =>
      (iequalVisits x_3 e5).bind fun (r6 : Bool) =>
      br (!r6) (
        some (.inr (.inl ()))
      ) (
        some (.inl ())
      )
    : Option (Unit ⊕ (Unit ⊕ Unit)))) (fun (s3 : Unit) => (.inr () : Unit ⊕ Unit)) (() : Unit)).bind <|
    Sum.elim
      (fun (r7 : Unit) =>
        some false
      )
      (fun (r7 : Unit) =>
        some true
      )
  )
theorem ei_g_slices_EqualFunc_Visit_Visit_Visit_Visit_iequalVisits (s1 : List TVisit) (s2 : List TVisit) (k : Bool → Option β) : Imp (F158c159 β (rows kVisit TVisit.row s1) (rows kVisit TVisit.row s2) k) (g_slices_EqualFunc_Visit_Visit_Visit_Visit_iequalVisits s1 s2) (fun r => k r) := by
  delta F158c159 P158c159 g_slices_EqualFunc_Visit_Visit_Visit_Visit_iequalVisits
  refine Imp.br (c2 (fun z0 z1 : Nat => ((z0 : Int) != (z1 : Int))) (T_len (ks := kVisit) (g := TVisit.row) s1) (T_len (ks := kVisit) (g := TVisit.row) s2)) ?_ ?_
  · exact Imp.ret rfl
  · refine Imp.for (enc := fun (i_3 : Nat) (s3 : Unit) => [.l (rows kVisit TVisit.row s2), .l (rows kVisit TVisit.row s1), .i (s1.length : Int), .i (i_3 : Int)]) (encR := Sum.elim (fun (u : Unit) => (((0, [.b false]) : Nat × List Leaf))) (fun (u : Unit) => (((1, []) : Nat × List Leaf)))) (c1 (fun (h1 : Int) => ([.l (rows kVisit TVisit.row s2), .l (rows kVisit TVisit.row s1), .i h1, .i 0] : List Leaf)) (c1 (fun z0 : Nat => (z0 : Int)) (T_len (ks := kVisit) (g := TVisit.row) s1))) (fun i_3 x_3 s3 hx3 hl3 hm3 => Imp.brT (Int.ofNat_lt.2 hl3) ?_) (fun s3 => brN (Int.lt_irrefl _) rfl) (fun r7 => ?_)
    · refine Imp.idxFor (ks := kVisit) (g := TVisit.row) hx3 ?_
      refine Imp.idx (ks := kVisit) (g := TVisit.row) rfl rfl (fun e5 _ => ?_)
      refine Imp.call rfl (ei_iequalVisits x_3 e5 _) (fun r6 _ => ?_)
      refine Imp.br rfl ?_ ?_
      · exact Imp.ret rfl
      · exact Imp.ret (c1 (fun (h1 : Int) => (some (Sum.inl [.l (rows kVisit TVisit.row s2), .l (rows kVisit TVisit.row s1), .i (s1.length : Int), .i h1]) : Option (List Leaf ⊕ (Nat × List Leaf)))) (wrapJ hl3))
    · cases r7 with
      | inl r7 =>
        refine Imp.ifT rfl ?_
        exact Imp.ret rfl
      | inr r7 =>
        refine Imp.ifF (show ¬ ((1 : Nat) = 0) by decide) ?_
        exact Imp.ret rfl

/-- impl.EqualTabs -/
noncomputable def iEqualTabs (a : TTab) (b : TTab) : Option Bool :=
  br (a.xAt == b.xAt) (
    (g_slices_EqualFunc_Visit_Visit_Visit_Visit_iequalVisits a.xVisits b.xVisits).bind fun (r1 : Bool) =>
    some r1
  ) (
    some false
  )
theorem ei_iEqualTabs (a : TTab) (b : TTab) (k : Bool → Option β) : Imp (F97 β (rows kVisit TVisit.row a.xVisits) a.xAt (rows kVisit TVisit.row b.xVisits) b.xAt k) (iEqualTabs a b) (fun r => k r) := by
  delta F97 P97 iEqualTabs
  refine Imp.br rfl ?_ ?_
  · refine Imp.call rfl (ei_g_slices_EqualFunc_Visit_Visit_Visit_Visit_iequalVisits a.xVisits b.xVisits _) (fun r1 _ => ?_)
    exact Imp.ret rfl
  · exact Imp.ret rfl

/-- slices.Equal[[]impl.Kept,impl.Kept] -/
noncomputable def g_slices_Equal_Kept_Kept (s1 : List TKept) (s2 : List TKept) : Option Bool :=
  br ((s1.length : Int) != (s2.length : Int)) (
    some false
  ) (
    (forE s1 (fun (i_3 : Nat) (x_3 : TKept) (s3 : Unit) => (
      (getI s2 (i_3 : Int)).bind fun (e5 : TKept) =>
      br (!((x_3.xTo.xHost == e5.xTo.xHost) && ((x_3.xTo.xPath == e5.xTo.xPath) && ((x_3.xResponse.xStatus == e5.xResponse.xStatus) && ((x_3.xResponse.xKind == e5.xResponse.xKind) && ((x_3.xResponse.xBody == e5.xResponse.xBody) && ((x_3.xResponse.xAge == e5.xResponse.xAge) && ((x_3.xResponse.xShares == e5.xResponse.xShares) && ((x_3.xResponse.xPolicy == e5.xResponse.xPolicy) && true))))))))) (
        some (.inr (.inl ()))
      ) (
        some (.inl ())
      )
    : Option (Unit ⊕ (Unit ⊕ Unit)))) (fun (s3 : Unit) => (.inr () : Unit ⊕ Unit)) (() : Unit)).bind <|
    Sum.elim
      (fun (r6 : Unit) =>
        some false
      )
      (fun (r6 : Unit) =>
        some true
      )
  )
theorem ei_g_slices_Equal_Kept_Kept (s1 : List TKept) (s2 : List TKept) (k : Bool → Option β) : Imp (F40 β (rows kKept TKept.row s1) (rows kKept TKept.row s2) k) (g_slices_Equal_Kept_Kept s1 s2) (fun r => k r) := by
  delta F40 P40 g_slices_Equal_Kept_Kept
  refine Imp.br (c2 (fun z0 z1 : Nat => ((z0 : Int) != (z1 : Int))) (T_len (ks := kKept) (g := TKept.row) s1) (T_len (ks := kKept) (g := TKept.row) s2)) ?_ ?_
  · exact Imp.ret rfl
  · refine Imp.for (enc := fun (i_3 : Nat) (s3 : Unit) => [.l (rows kKept TKept.row s1), .l (rows kKept TKept.row s2), .i (s1.length : Int), .i (i_3 : Int)]) (encR := Sum.elim (fun (u : Unit) => (((0, [.b false]) : Nat × List Leaf))) (fun (u : Unit) => (((1, []) : Nat × List Leaf)))) (c1 (fun (h1 : Int) => ([.l (rows kKept TKept.row s1), .l (rows kKept TKept.row s2), .i h1, .i 0] : List Leaf)) (c1 (fun z0 : Nat => (z0 : Int)) (T_len (ks := kKept) (g := TKept.row) s1))) (fun i_3 x_3 s3 hx3 hl3 hm3 => Imp.brT (Int.ofNat_lt.2 hl3) ?_) (fun s3 => brN (Int.lt_irrefl _) rfl) (fun r6 => ?_)
    · refine Imp.idxFor (ks := kKept) (g := TKept.row) hx3 ?_
      refine Imp.idx (ks := kKept) (g := TKept.row) rfl rfl (fun e5 _ => ?_)
      refine Imp.br rfl ?_ ?_
      · exact Imp.ret rfl
      · exact Imp.ret (c1 (fun (h1 : Int) => (some (Sum.inl [.l (rows kKept TKept.row s1), .l (rows kKept TKept.row s2), .i (s1.length : Int), .i h1]) : Option (List Leaf ⊕ (Nat × List Leaf)))) (wrapJ hl3))
    · cases r6 with
      | inl r6 =>
        refine Imp.ifT rfl ?_
        exact Imp.ret rfl
      | inr r6 =>
        refine Imp.ifF (show ¬ ((1 : Nat) = 0) by decide) ?_
        exact Imp.ret rfl

/-- impl.EqualHidden -/
noncomputable def iEqualHidden (a : THidden) (b : THidden) : Option Bool :=
  br (a.xReady == b.xReady) (
    (iEqualPages a.xPage b.xPage).bind fun (r1 : Bool) =>
    br r1 (
      (g_slices_Equal_Kept_Kept a.xTaken b.xTaken).bind fun (r2 : Bool) =>
      br r2 (
        (iEqualServers a.xServers b.xServers).bind fun (r3 : Bool) =>
        br r3 (
          some (a.xNow == b.xNow)
        ) (
          some false
        )
      ) (
        some false
      )
    ) (
      some false
    )
  ) (
    some false
  )
theorem ei_iEqualHidden (a : THidden) (b : THidden) (k : Bool → Option β) : Imp (F11 β a.xReady a.xPage.xAddr.xHost a.xPage.xAddr.xPath a.xPage.xPolicy.xSet (rStr a.xPage.xPolicy.xScripts) (rStr a.xPage.xPolicy.xStyles) (rStr a.xPage.xPolicy.xImages) a.xPage.xPolicy.xNonce a.xPage.xTok.xRest (rows kToken TToken.row a.xPage.xQueue) a.xPage.xEnded (rows kNode TNode.row a.xPage.xBuilder.xNodes) (rInt a.xPage.xBuilder.xOpen) (rows kSlot TSlot.row a.xPage.xSlots) (rows kModule TModule.row a.xPage.xMods) (rows kAddr TAddr.row a.xPage.xEntries) a.xPage.xBlock a.xPage.xInline a.xPage.xDeferred a.xPage.xEntered (rows kAddr TAddr.row a.xPage.xRan) (rStr a.xPage.xLog) a.xPage.xLoaded (rows kKept TKept.row a.xTaken) (rows kServer TServer.row a.xServers) a.xNow b.xReady b.xPage.xAddr.xHost b.xPage.xAddr.xPath b.xPage.xPolicy.xSet (rStr b.xPage.xPolicy.xScripts) (rStr b.xPage.xPolicy.xStyles) (rStr b.xPage.xPolicy.xImages) b.xPage.xPolicy.xNonce b.xPage.xTok.xRest (rows kToken TToken.row b.xPage.xQueue) b.xPage.xEnded (rows kNode TNode.row b.xPage.xBuilder.xNodes) (rInt b.xPage.xBuilder.xOpen) (rows kSlot TSlot.row b.xPage.xSlots) (rows kModule TModule.row b.xPage.xMods) (rows kAddr TAddr.row b.xPage.xEntries) b.xPage.xBlock b.xPage.xInline b.xPage.xDeferred b.xPage.xEntered (rows kAddr TAddr.row b.xPage.xRan) (rStr b.xPage.xLog) b.xPage.xLoaded (rows kKept TKept.row b.xTaken) (rows kServer TServer.row b.xServers) b.xNow k) (iEqualHidden a b) (fun r => k r) := by
  delta F11 P11 iEqualHidden
  refine Imp.br rfl ?_ ?_
  · refine Imp.call rfl (ei_iEqualPages a.xPage b.xPage _) (fun r1 _ => ?_)
    refine Imp.br rfl ?_ ?_
    · refine Imp.call rfl (ei_g_slices_Equal_Kept_Kept a.xTaken b.xTaken _) (fun r2 _ => ?_)
      refine Imp.br rfl ?_ ?_
      · refine Imp.call rfl (ei_iEqualServers a.xServers b.xServers _) (fun r3 _ => ?_)
        refine Imp.br rfl ?_ ?_
        · exact Imp.ret rfl
        · exact Imp.ret rfl
      · exact Imp.ret rfl
    · exact Imp.ret rfl
  · exact Imp.ret rfl

/-- impl.EqualWorlds -/
noncomputable def iEqualWorlds (a : TWorld) (b : TWorld) : Option Bool :=
  (iEqualNets a.xNet b.xNet).bind fun (r1 : Bool) =>
  br r1 (
    (iEqualTabs a.xTab b.xTab).bind fun (r2 : Bool) =>
    br r2 (
      (iEqualHidden a.xHidden b.xHidden).bind fun (r3 : Bool) =>
      br r3 (
        some (a.xFast == b.xFast)
      ) (
        some false
      )
    ) (
      some false
    )
  ) (
    some false
  )
theorem ei_iEqualWorlds (a : TWorld) (b : TWorld) (k : Bool → Option β) : Imp (F31 β (rows kServer TServer.row a.xNet.xServers) (rows kEntry TEntry.row a.xNet.xCache.xEntries) (rows kSent TSent.row a.xNet.xLog) a.xNet.xNow (rows kVisit TVisit.row a.xTab.xVisits) a.xTab.xAt a.xHidden.xReady a.xHidden.xPage.xAddr.xHost a.xHidden.xPage.xAddr.xPath a.xHidden.xPage.xPolicy.xSet (rStr a.xHidden.xPage.xPolicy.xScripts) (rStr a.xHidden.xPage.xPolicy.xStyles) (rStr a.xHidden.xPage.xPolicy.xImages) a.xHidden.xPage.xPolicy.xNonce a.xHidden.xPage.xTok.xRest (rows kToken TToken.row a.xHidden.xPage.xQueue) a.xHidden.xPage.xEnded (rows kNode TNode.row a.xHidden.xPage.xBuilder.xNodes) (rInt a.xHidden.xPage.xBuilder.xOpen) (rows kSlot TSlot.row a.xHidden.xPage.xSlots) (rows kModule TModule.row a.xHidden.xPage.xMods) (rows kAddr TAddr.row a.xHidden.xPage.xEntries) a.xHidden.xPage.xBlock a.xHidden.xPage.xInline a.xHidden.xPage.xDeferred a.xHidden.xPage.xEntered (rows kAddr TAddr.row a.xHidden.xPage.xRan) (rStr a.xHidden.xPage.xLog) a.xHidden.xPage.xLoaded (rows kKept TKept.row a.xHidden.xTaken) (rows kServer TServer.row a.xHidden.xServers) a.xHidden.xNow a.xFast (rows kServer TServer.row b.xNet.xServers) (rows kEntry TEntry.row b.xNet.xCache.xEntries) (rows kSent TSent.row b.xNet.xLog) b.xNet.xNow (rows kVisit TVisit.row b.xTab.xVisits) b.xTab.xAt b.xHidden.xReady b.xHidden.xPage.xAddr.xHost b.xHidden.xPage.xAddr.xPath b.xHidden.xPage.xPolicy.xSet (rStr b.xHidden.xPage.xPolicy.xScripts) (rStr b.xHidden.xPage.xPolicy.xStyles) (rStr b.xHidden.xPage.xPolicy.xImages) b.xHidden.xPage.xPolicy.xNonce b.xHidden.xPage.xTok.xRest (rows kToken TToken.row b.xHidden.xPage.xQueue) b.xHidden.xPage.xEnded (rows kNode TNode.row b.xHidden.xPage.xBuilder.xNodes) (rInt b.xHidden.xPage.xBuilder.xOpen) (rows kSlot TSlot.row b.xHidden.xPage.xSlots) (rows kModule TModule.row b.xHidden.xPage.xMods) (rows kAddr TAddr.row b.xHidden.xPage.xEntries) b.xHidden.xPage.xBlock b.xHidden.xPage.xInline b.xHidden.xPage.xDeferred b.xHidden.xPage.xEntered (rows kAddr TAddr.row b.xHidden.xPage.xRan) (rStr b.xHidden.xPage.xLog) b.xHidden.xPage.xLoaded (rows kKept TKept.row b.xHidden.xTaken) (rows kServer TServer.row b.xHidden.xServers) b.xHidden.xNow b.xFast k) (iEqualWorlds a b) (fun r => k r) := by
  delta F31 P31 iEqualWorlds
  refine Imp.call rfl (ei_iEqualNets a.xNet b.xNet _) (fun r1 _ => ?_)
  refine Imp.br rfl ?_ ?_
  · refine Imp.call rfl (ei_iEqualTabs a.xTab b.xTab _) (fun r2 _ => ?_)
    refine Imp.br rfl ?_ ?_
    · refine Imp.call rfl (ei_iEqualHidden a.xHidden b.xHidden _) (fun r3 _ => ?_)
      refine Imp.br rfl ?_ ?_
      · exact Imp.ret rfl
      · exact Imp.ret rfl
    · exact Imp.ret rfl
  · exact Imp.ret rfl

/-- laws.FnExactEqualWorlds -/
noncomputable def lFnExactEqualWorlds (aA : TWorld) (aB : TWorld) : Option Bool :=
  (lszWorld aA 1048576).bind fun (r1 : Int) =>
  br (decide (r1 < 0)) (
    some true
  ) (
    (lszWorld aB r1).bind fun (r2 : Int) =>
    br (decide (r2 < 0)) (
      some true
    ) (
      (ltoWorld aA).bind fun (r3 : TWorld) =>
      (ltoWorld aB).bind fun (r36 : TWorld) =>
      (sEqualWorlds r3 r36).bind fun (r69 : Bool) =>
      (ltoWorld aA).bind fun (r70 : TWorld) =>
      (ltoWorld aB).bind fun (r103 : TWorld) =>
      (iEqualWorlds r70 r103).bind fun (r136 : Bool) =>
      br (!(r136 == r69)) (
        some false
      ) (
        (ltoWorld aA).bind fun (r137 : TWorld) =>
        (leqWorld r70 r137).bind fun (r170 : Bool) =>
        br (!r170) (
          some false
        ) (
          (ltoWorld aB).bind fun (r171 : TWorld) =>
          (leqWorld r103 r171).bind fun (r204 : Bool) =>
          br (!r204) (
            some false
          ) (
            some true
          )
        )
      )
    )
  )
theorem ei_lFnExactEqualWorlds (aA : TWorld) (aB : TWorld) (k : Bool → Option β) : Imp (F7 β (rows kServer TServer.row aA.xNet.xServers) (rows kEntry TEntry.row aA.xNet.xCache.xEntries) (rows kSent TSent.row aA.xNet.xLog) aA.xNet.xNow (rows kVisit TVisit.row aA.xTab.xVisits) aA.xTab.xAt aA.xHidden.xReady aA.xHidden.xPage.xAddr.xHost aA.xHidden.xPage.xAddr.xPath aA.xHidden.xPage.xPolicy.xSet (rStr aA.xHidden.xPage.xPolicy.xScripts) (rStr aA.xHidden.xPage.xPolicy.xStyles) (rStr aA.xHidden.xPage.xPolicy.xImages) aA.xHidden.xPage.xPolicy.xNonce aA.xHidden.xPage.xTok.xRest (rows kToken TToken.row aA.xHidden.xPage.xQueue) aA.xHidden.xPage.xEnded (rows kNode TNode.row aA.xHidden.xPage.xBuilder.xNodes) (rInt aA.xHidden.xPage.xBuilder.xOpen) (rows kSlot TSlot.row aA.xHidden.xPage.xSlots) (rows kModule TModule.row aA.xHidden.xPage.xMods) (rows kAddr TAddr.row aA.xHidden.xPage.xEntries) aA.xHidden.xPage.xBlock aA.xHidden.xPage.xInline aA.xHidden.xPage.xDeferred aA.xHidden.xPage.xEntered (rows kAddr TAddr.row aA.xHidden.xPage.xRan) (rStr aA.xHidden.xPage.xLog) aA.xHidden.xPage.xLoaded (rows kKept TKept.row aA.xHidden.xTaken) (rows kServer TServer.row aA.xHidden.xServers) aA.xHidden.xNow aA.xFast (rows kServer TServer.row aB.xNet.xServers) (rows kEntry TEntry.row aB.xNet.xCache.xEntries) (rows kSent TSent.row aB.xNet.xLog) aB.xNet.xNow (rows kVisit TVisit.row aB.xTab.xVisits) aB.xTab.xAt aB.xHidden.xReady aB.xHidden.xPage.xAddr.xHost aB.xHidden.xPage.xAddr.xPath aB.xHidden.xPage.xPolicy.xSet (rStr aB.xHidden.xPage.xPolicy.xScripts) (rStr aB.xHidden.xPage.xPolicy.xStyles) (rStr aB.xHidden.xPage.xPolicy.xImages) aB.xHidden.xPage.xPolicy.xNonce aB.xHidden.xPage.xTok.xRest (rows kToken TToken.row aB.xHidden.xPage.xQueue) aB.xHidden.xPage.xEnded (rows kNode TNode.row aB.xHidden.xPage.xBuilder.xNodes) (rInt aB.xHidden.xPage.xBuilder.xOpen) (rows kSlot TSlot.row aB.xHidden.xPage.xSlots) (rows kModule TModule.row aB.xHidden.xPage.xMods) (rows kAddr TAddr.row aB.xHidden.xPage.xEntries) aB.xHidden.xPage.xBlock aB.xHidden.xPage.xInline aB.xHidden.xPage.xDeferred aB.xHidden.xPage.xEntered (rows kAddr TAddr.row aB.xHidden.xPage.xRan) (rStr aB.xHidden.xPage.xLog) aB.xHidden.xPage.xLoaded (rows kKept TKept.row aB.xHidden.xTaken) (rows kServer TServer.row aB.xHidden.xServers) aB.xHidden.xNow aB.xFast k) (lFnExactEqualWorlds aA aB) (fun r => k r) := by
  delta F7 P7 lFnExactEqualWorlds
  refine Imp.call rfl (ei_lszWorld aA 1048576 _) (fun r1 _ => ?_)
  refine Imp.br rfl ?_ ?_
  · exact Imp.ret rfl
  · refine Imp.call rfl (ei_lszWorld aB r1 _) (fun r2 _ => ?_)
    refine Imp.br rfl ?_ ?_
    · exact Imp.ret rfl
    · refine Imp.call rfl (ei_ltoWorld aA _) (fun r3 _ => ?_)
      refine Imp.call rfl (ei_ltoWorld aB _) (fun r36 _ => ?_)
      refine Imp.call rfl (ei_sEqualWorlds r3 r36 _) (fun r69 _ => ?_)
      refine Imp.call rfl (ei_ltoWorld aA _) (fun r70 _ => ?_)
      refine Imp.call rfl (ei_ltoWorld aB _) (fun r103 _ => ?_)
      refine Imp.call rfl (ei_iEqualWorlds r70 r103 _) (fun r136 _ => ?_)
      refine Imp.br rfl ?_ ?_
      · exact Imp.ret rfl
      · refine Imp.call rfl (ei_ltoWorld aA _) (fun r137 _ => ?_)
        refine Imp.call rfl (ei_leqWorld r70 r137 _) (fun r170 _ => ?_)
        refine Imp.br rfl ?_ ?_
        · exact Imp.ret rfl
        · refine Imp.call rfl (ei_ltoWorld aB _) (fun r171 _ => ?_)
          refine Imp.call rfl (ei_leqWorld r103 r171 _) (fun r204 _ => ?_)
          refine Imp.br rfl ?_ ?_
          · exact Imp.ret rfl
          · exact Imp.ret rfl

end Go.Am
