/-
  Typed forms of functions of the program, written by program (eform.py): each over structures and lists, and that, where it answers, the extracted function hands on that answer.
-/
import Derived.Test.YtlgbgnlpbnhhfaaGreatAmTyped
import Derived.Test.YtlgbgnlpbnhhfaaGreatTy
import Derived.Test.YtlgbgnlpbnhhfaaGreatFs
import Derived.Test.YtlgbgnlpbnhhfaaGreatTs
set_option maxRecDepth 10000
set_option linter.unusedVariables false
namespace Go.Am
open Go Go.Proofs
variable {β : Type}
/-- spec.EqualServers -/
noncomputable def sEqualServers (a : List TServer) (b : List TServer) : Option Bool :=
  br ((a.length : Int) != (b.length : Int)) (
    some false
  ) (
    (forE a (fun (i_1 : Nat) (x_1 : TServer) (s1 : Unit) => (
      (getI b (i_1 : Int)).bind fun (e3 : TServer) =>
      br (!(x_1.xHost == e3.xHost)) (
        some (.inr (.inl ()))
      ) (
        (getI b (i_1 : Int)).bind fun (e5 : TServer) =>
        br ((x_1.xFiles.length : Int) != (e5.xFiles.length : Int)) (
          some (.inr (.inl ()))
        ) (
          (whileE (fun (s6 : Int) => (
            br (decide (s6 < (x_1.xFiles.length : Int))) (
              (getI x_1.xFiles s6).bind fun (e9 : TFile) =>
              (getI b (i_1 : Int)).bind fun (e10 : TServer) =>
              (getI e10.xFiles s6).bind fun (e11 : TFile) =>
              br (!((e9.xPath == e11.xPath) && ((e9.xResponse.xStatus == e11.xResponse.xStatus) && ((e9.xResponse.xKind == e11.xResponse.xKind) && ((e9.xResponse.xBody == e11.xResponse.xBody) && ((e9.xResponse.xAge == e11.xResponse.xAge) && ((e9.xResponse.xShares == e11.xResponse.xShares) && ((e9.xResponse.xPolicy == e11.xResponse.xPolicy) && true)))))))) (
                some (.inr (.inl ()))
              ) (
                some (.inl (IntKind.wrap .i64 (s6 + 1)))
              )
            ) (
              some (.inr (.inr ()))
            )
          : Option (Int ⊕ (Unit ⊕ Unit)))) (0 : Int)).bind <|
          Sum.elim
            (fun (r12 : Unit) =>
              some (.inr (.inl ()))
            )
            (fun (r12 : Unit) =>
              some (.inl ())
            )
        )
      )
    : Option (Unit ⊕ (Unit ⊕ Unit)))) (fun (s1 : Unit) => (.inr () : Unit ⊕ Unit)) (() : Unit)).bind <|
    Sum.elim
      (fun (r13 : Unit) =>
        some false
      )
      (fun (r13 : Unit) =>
        some true
      )
  )
theorem ei_sEqualServers (a : List TServer) (b : List TServer) (k : Bool → Option β) : Imp (F36 β (rows kServer TServer.row a) (rows kServer TServer.row b) k) (sEqualServers a b) (fun r => k r) := by
  delta F36 P36 sEqualServers
  refine Imp.br (c2 (fun z0 z1 : Nat => ((z0 : Int) != (z1 : Int))) (T_len (ks := kServer) (g := TServer.row) a) (T_len (ks := kServer) (g := TServer.row) b)) ?_ ?_
  · exact Imp.ret rfl
  · refine Imp.for (enc := fun (i_1 : Nat) (s1 : Unit) => [.l (rows kServer TServer.row a), .l (rows kServer TServer.row b), .i (i_1 : Int)]) (encR := Sum.elim (fun (u : Unit) => (((0, [.b false]) : Nat × List Leaf))) (fun (u : Unit) => (((1, []) : Nat × List Leaf)))) rfl (fun i_1 x_1 s1 hx1 hl1 hm1 => Imp.brT (T_lt (ks := kServer) (g := TServer.row) hl1) ?_) (fun s1 => brN (T_irr (ks := kServer) (g := TServer.row) a) rfl) (fun r13 => ?_)
    · refine Imp.idxFor (ks := kServer) (g := TServer.row) hx1 ?_
      refine Imp.idx (ks := kServer) (g := TServer.row) rfl rfl (fun e3 _ => ?_)
      refine Imp.br rfl ?_ ?_
      · exact Imp.ret rfl
      · refine Imp.idxFor (ks := kServer) (g := TServer.row) hx1 ?_
        refine Imp.idx (ks := kServer) (g := TServer.row) rfl rfl (fun e5 _ => ?_)
        refine Imp.br (c2 (fun z0 z1 : Nat => ((z0 : Int) != (z1 : Int))) (T_len (ks := kFile) (g := TFile.row) x_1.xFiles) (T_len (ks := kFile) (g := TFile.row) e5.xFiles)) ?_ ?_
        · exact Imp.ret rfl
        · refine Imp.while (enc := fun (s6 : Int) => [.l (rows kServer TServer.row a), .l (rows kServer TServer.row b), .i (i_1 : Int), .i s6]) (encR := Sum.elim (fun (u : Unit) => (((0, [.l (rows kServer TServer.row a), .l (rows kServer TServer.row b), .b false, .i (i_1 : Int)]) : Nat × List Leaf))) (fun (u : Unit) => (((1, [.l (rows kServer TServer.row a), .l (rows kServer TServer.row b), .i (i_1 : Int)]) : Nat × List Leaf)))) rfl (fun s6 => ?_) (fun r12 => ?_)
          · refine Imp.idxFor (ks := kServer) (g := TServer.row) hx1 ?_
            refine Imp.br (c1 (fun z0 : Nat => (decide (s6 < (z0 : Int)))) (T_len (ks := kFile) (g := TFile.row) x_1.xFiles)) ?_ ?_
            · refine Imp.idxFor (ks := kServer) (g := TServer.row) hx1 ?_
              refine Imp.idx (ks := kFile) (g := TFile.row) rfl rfl (fun e9 _ => ?_)
              refine Imp.idx (ks := kServer) (g := TServer.row) rfl rfl (fun e10 _ => ?_)
              refine Imp.idx (ks := kFile) (g := TFile.row) rfl rfl (fun e11 _ => ?_)
              refine Imp.br rfl ?_ ?_
              · exact Imp.ret rfl
              · exact Imp.ret rfl
            · exact Imp.ret rfl
          · cases r12 with
            | inl r12 =>
              refine Imp.ifT rfl ?_
              exact Imp.ret rfl
            | inr r12 =>
              refine Imp.ifF (show ¬ ((1 : Nat) = 0) by decide) ?_
              exact Imp.ret (c1 (fun (h1 : Int) => (some (Sum.inl [.l (rows kServer TServer.row a), .l (rows kServer TServer.row b), .i h1]) : Option (List Leaf ⊕ (Nat × List Leaf)))) (wrapJ hl1))
    · cases r13 with
      | inl r13 =>
        refine Imp.ifT rfl ?_
        exact Imp.ret rfl
      | inr r13 =>
        refine Imp.ifF (show ¬ ((1 : Nat) = 0) by decide) ?_
        exact Imp.ret rfl

/-- spec.IsStale -/
noncomputable def sIsStale (n : TNet) (h : THidden) : Option Bool :=
  br (!h.xReady) (
    some true
  ) (
    br (h.xNow != n.xNow) (
      some true
    ) (
      (sEqualServers h.xServers n.xServers).bind fun (r1 : Bool) =>
      some (!r1)
    )
  )
theorem ei_sIsStale (n : TNet) (h : THidden) (k : Bool → Option β) : Imp (F14 β (rows kServer TServer.row n.xServers) (rows kEntry TEntry.row n.xCache.xEntries) (rows kSent TSent.row n.xLog) n.xNow h.xReady h.xPage.xAddr.xHost h.xPage.xAddr.xPath h.xPage.xPolicy.xSet (rStr h.xPage.xPolicy.xScripts) (rStr h.xPage.xPolicy.xStyles) (rStr h.xPage.xPolicy.xImages) h.xPage.xPolicy.xNonce h.xPage.xTok.xRest (rows kToken TToken.row h.xPage.xQueue) h.xPage.xEnded (rows kNode TNode.row h.xPage.xBuilder.xNodes) (rInt h.xPage.xBuilder.xOpen) (rows kSlot TSlot.row h.xPage.xSlots) (rows kModule TModule.row h.xPage.xMods) (rows kAddr TAddr.row h.xPage.xEntries) h.xPage.xBlock h.xPage.xInline h.xPage.xDeferred h.xPage.xEntered (rows kAddr TAddr.row h.xPage.xRan) (rStr h.xPage.xLog) h.xPage.xLoaded (rows kKept TKept.row h.xTaken) (rows kServer TServer.row h.xServers) h.xNow k) (sIsStale n h) (fun r => k r) := by
  delta F14 P14 sIsStale
  refine Imp.br rfl ?_ ?_
  · exact Imp.ret rfl
  · refine Imp.br rfl ?_ ?_
    · exact Imp.ret rfl
    · refine Imp.call rfl (ei_sEqualServers h.xServers n.xServers _) (fun r1 _ => ?_)
      exact Imp.ret rfl

/-- slices.Equal[[]impl.File,impl.File] -/
noncomputable def g_slices_Equal_File_File (s1 : List TFile) (s2 : List TFile) : Option Bool :=
  br ((s1.length : Int) != (s2.length : Int)) (
    some false
  ) (
    (forE s1 (fun (i_3 : Nat) (x_3 : TFile) (s3 : Unit) => (
      (getI s2 (i_3 : Int)).bind fun (e5 : TFile) =>
      br (!((x_3.xPath == e5.xPath) && ((x_3.xResponse.xStatus == e5.xResponse.xStatus) && ((x_3.xResponse.xKind == e5.xResponse.xKind) && ((x_3.xResponse.xBody == e5.xResponse.xBody) && ((x_3.xResponse.xAge == e5.xResponse.xAge) && ((x_3.xResponse.xShares == e5.xResponse.xShares) && ((x_3.xResponse.xPolicy == e5.xResponse.xPolicy) && true)))))))) (
        some (.inr (.inl ()))
      ) (
        some (.inl ())
      )
    : Option (Unit ⊕ (Unit ⊕ Unit)))) (fun (s3 : Unit) => (.inr () : Unit ⊕ Unit)) (() : Unit)).bind <|
    Sum.elim
      (fun (r6 : Unit) =>
        some false
      )
      (fun (r6 : Unit) =>
        some true
      )
  )
theorem ei_g_slices_Equal_File_File (s1 : List TFile) (s2 : List TFile) (k : Bool → Option β) : Imp (F118 β (rows kFile TFile.row s1) (rows kFile TFile.row s2) k) (g_slices_Equal_File_File s1 s2) (fun r => k r) := by
  delta F118 P118 g_slices_Equal_File_File
  refine Imp.br (c2 (fun z0 z1 : Nat => ((z0 : Int) != (z1 : Int))) (T_len (ks := kFile) (g := TFile.row) s1) (T_len (ks := kFile) (g := TFile.row) s2)) ?_ ?_
  · exact Imp.ret rfl
  · refine Imp.for (enc := fun (i_3 : Nat) (s3 : Unit) => [.l (rows kFile TFile.row s1), .l (rows kFile TFile.row s2), .i (s1.length : Int), .i (i_3 : Int)]) (encR := Sum.elim (fun (u : Unit) => (((0, [.b false]) : Nat × List Leaf))) (fun (u : Unit) => (((1, []) : Nat × List Leaf)))) (c1 (fun (h1 : Int) => ([.l (rows kFile TFile.row s1), .l (rows kFile TFile.row s2), .i h1, .i 0] : List Leaf)) (c1 (fun z0 : Nat => (z0 : Int)) (T_len (ks := kFile) (g := TFile.row) s1))) (fun i_3 x_3 s3 hx3 hl3 hm3 => Imp.brT (Int.ofNat_lt.2 hl3) ?_) (fun s3 => brN (Int.lt_irrefl _) rfl) (fun r6 => ?_)
    · refine Imp.idxFor (ks := kFile) (g := TFile.row) hx3 ?_
      refine Imp.idx (ks := kFile) (g := TFile.row) rfl rfl (fun e5 _ => ?_)
      refine Imp.br rfl ?_ ?_
      · exact Imp.ret rfl
      · exact Imp.ret (c1 (fun (h1 : Int) => (some (Sum.inl [.l (rows kFile TFile.row s1), .l (rows kFile TFile.row s2), .i (s1.length : Int), .i h1]) : Option (List Leaf ⊕ (Nat × List Leaf)))) (wrapJ hl3))
    · cases r6 with
      | inl r6 =>
        refine Imp.ifT rfl ?_
        exact Imp.ret rfl
      | inr r6 =>
        refine Imp.ifF (show ¬ ((1 : Nat) = 0) by decide) ?_
        exact Imp.ret rfl

/-- impl.EqualServers$1 -/
noncomputable def iEqualServers_1 (x : TServer) (y : TServer) : Option Bool :=
  br (x.xHost == y.xHost) (
    (g_slices_Equal_File_File x.xFiles y.xFiles).bind fun (r1 : Bool) =>
    some r1
  ) (
    some false
  )
theorem ei_iEqualServers_1 (x : TServer) (y : TServer) (k : Bool → Option β) : Imp (F117 β x.xHost (rows kFile TFile.row x.xFiles) y.xHost (rows kFile TFile.row y.xFiles) k) (iEqualServers_1 x y) (fun r => k r) := by
  delta F117 P117 iEqualServers_1
  refine Imp.br rfl ?_ ?_
  · refine Imp.call rfl (ei_g_slices_Equal_File_File x.xFiles y.xFiles _) (fun r1 _ => ?_)
    exact Imp.ret rfl
  · exact Imp.ret rfl

/-- slices.EqualFunc[[]impl.Server,[]impl.Server,impl.Server,impl.Server] -/
noncomputable def g_slices_EqualFunc_Server_Server_Server_Server_iEqualServers_1 (s1 : List TServer) (s2 : List TServer) : Option Bool :=
  br ((s1.length : Int) != (s2.length : Int)) (
    some false
  ) (
    (forE s1 (fun (i_3 : Nat) (x_3 : TServer) (s3 : Unit) => (
      (getI s2 (i_3 : Int)).bind fun (e5 : TServer) =>
      (iEqualServers_1 x_3 e5).bind fun (r6 : Bool) =>
      br (!r6) (
        some (.inr (.inl ()))
      ) (
        some (.inl ())
      )
    : Option (Unit ⊕ (Unit ⊕ Unit)))) (fun (s3 : Unit) => (.inr () : Unit ⊕ Unit)) (() : Unit)).bind <|
    Sum.elim
      (fun (r7 : Unit) =>
        some false
      )
      (fun (r7 : Unit) =>
        some true
      )
  )
theorem ei_g_slices_EqualFunc_Server_Server_Server_Server_iEqualServers_1 (s1 : List TServer) (s2 : List TServer) (k : Bool → Option β) : Imp (F116c117 β (rows kServer TServer.row s1) (rows kServer TServer.row s2) k) (g_slices_EqualFunc_Server_Server_Server_Server_iEqualServers_1 s1 s2) (fun r => k r) := by
  delta F116c117 P116c117 g_slices_EqualFunc_Server_Server_Server_Server_iEqualServers_1
  refine Imp.br (c2 (fun z0 z1 : Nat => ((z0 : Int) != (z1 : Int))) (T_len (ks := kServer) (g := TServer.row) s1) (T_len (ks := kServer) (g := TServer.row) s2)) ?_ ?_
  · exact Imp.ret rfl
  · refine Imp.for (enc := fun (i_3 : Nat) (s3 : Unit) => [.l (rows kServer TServer.row s2), .l (rows kServer TServer.row s1), .i (s1.length : Int), .i (i_3 : Int)]) (encR := Sum.elim (fun (u : Unit) => (((0, [.b false]) : Nat × List Leaf))) (fun (u : Unit) => (((1, []) : Nat × List Leaf)))) (c1 (fun (h1 : Int) => ([.l (rows kServer TServer.row s2), .l (rows kServer TServer.row s1), .i h1, .i 0] : List Leaf)) (c1 (fun z0 : Nat => (z0 : Int)) (T_len (ks := kServer) (g := TServer.row) s1))) (fun i_3 x_3 s3 hx3 hl3 hm3 => Imp.brT (Int.ofNat_lt.2 hl3) ?_) (fun s3 => brN (Int.lt_irrefl _) rfl) (fun r7 => ?_)
    · refine Imp.idxFor (ks := kServer) (g := TServer.row) hx3 ?_
      refine Imp.idx (ks := kServer) (g := TServer.row) rfl rfl (fun e5 _ => ?_)
      refine Imp.call rfl (ei_iEqualServers_1 x_3 e5 _) (fun r6 _ => ?_)
      refine Imp.br rfl ?_ ?_
      · exact Imp.ret rfl
      · exact Imp.ret (c1 (fun (h1 : Int) => (some (Sum.inl [.l (rows kServer TServer.row s2), .l (rows kServer TServer.row s1), .i (s1.length : Int), .i h1]) : Option (List Leaf ⊕ (Nat × List Leaf)))) (wrapJ hl3))
    · cases r7 with
      | inl r7 =>
        refine Imp.ifT rfl ?_
        exact Imp.ret rfl
      | inr r7 =>
        refine Imp.ifF (show ¬ ((1 : Nat) = 0) by decide) ?_
        exact Imp.ret rfl

/-- impl.EqualServers -/
noncomputable def iEqualServers (a : List TServer) (b : List TServer) : Option Bool :=
  (g_slices_EqualFunc_Server_Server_Server_Server_iEqualServers_1 a b).bind fun (r1 : Bool) =>
  some r1
theorem ei_iEqualServers (a : List TServer) (b : List TServer) (k : Bool → Option β) : Imp (F41 β (rows kServer TServer.row a) (rows kServer TServer.row b) k) (iEqualServers a b) (fun r => k r) := by
  delta F41 P41 iEqualServers
  refine Imp.call rfl (ei_g_slices_EqualFunc_Server_Server_Server_Server_iEqualServers_1 a b _) (fun r1 _ => ?_)
  exact Imp.ret rfl

/-- impl.IsStale -/
noncomputable def iIsStale (n : TNet) (h : THidden) : Option Bool :=
  br (!h.xReady) (
    some true
  ) (
    br (h.xNow != n.xNow) (
      some true
    ) (
      (iEqualServers h.xServers n.xServers).bind fun (r1 : Bool) =>
      some (!r1)
    )
  )
theorem ei_iIsStale (n : TNet) (h : THidden) (k : Bool → Option β) : Imp (F16 β (rows kServer TServer.row n.xServers) (rows kEntry TEntry.row n.xCache.xEntries) (rows kSent TSent.row n.xLog) n.xNow h.xReady h.xPage.xAddr.xHost h.xPage.xAddr.xPath h.xPage.xPolicy.xSet (rStr h.xPage.xPolicy.xScripts) (rStr h.xPage.xPolicy.xStyles) (rStr h.xPage.xPolicy.xImages) h.xPage.xPolicy.xNonce h.xPage.xTok.xRest (rows kToken TToken.row h.xPage.xQueue) h.xPage.xEnded (rows kNode TNode.row h.xPage.xBuilder.xNodes) (rInt h.xPage.xBuilder.xOpen) (rows kSlot TSlot.row h.xPage.xSlots) (rows kModule TModule.row h.xPage.xMods) (rows kAddr TAddr.row h.xPage.xEntries) h.xPage.xBlock h.xPage.xInline h.xPage.xDeferred h.xPage.xEntered (rows kAddr TAddr.row h.xPage.xRan) (rStr h.xPage.xLog) h.xPage.xLoaded (rows kKept TKept.row h.xTaken) (rows kServer TServer.row h.xServers) h.xNow k) (iIsStale n h) (fun r => k r) := by
  delta F16 P16 iIsStale
  refine Imp.br rfl ?_ ?_
  · exact Imp.ret rfl
  · refine Imp.br rfl ?_ ?_
    · exact Imp.ret rfl
    · refine Imp.call rfl (ei_iEqualServers h.xServers n.xServers _) (fun r1 _ => ?_)
      exact Imp.ret rfl

/-- laws.FnExactIsStale -/
noncomputable def lFnExactIsStale (aN : TNet) (aH : THidden) : Option Bool :=
  (lszNet aN 1048576).bind fun (r1 : Int) =>
  br (decide (r1 < 0)) (
    some true
  ) (
    (lszHidden aH r1).bind fun (r2 : Int) =>
    br (decide (r2 < 0)) (
      some true
    ) (
      (ltoNet aN).bind fun (r3 : TNet) =>
      (ltoHidden aH).bind fun (r7 : THidden) =>
      (sIsStale r3 r7).bind fun (r33 : Bool) =>
      (ltoNet aN).bind fun (r34 : TNet) =>
      (ltoHidden aH).bind fun (r38 : THidden) =>
      (iIsStale r34 r38).bind fun (r64 : Bool) =>
      br (!(r64 == r33)) (
        some false
      ) (
        (ltoNet aN).bind fun (r65 : TNet) =>
        (leqNet r34 r65).bind fun (r69 : Bool) =>
        br (!r69) (
          some false
        ) (
          (ltoHidden aH).bind fun (r70 : THidden) =>
          (leqHidden r38 r70).bind fun (r96 : Bool) =>
          br (!r96) (
            some false
          ) (
            some true
          )
        )
      )
    )
  )
theorem ei_lFnExactIsStale (aN : TNet) (aH : THidden) (k : Bool → Option β) : Imp (F4 β (rows kServer TServer.row aN.xServers) (rows kEntry TEntry.row aN.xCache.xEntries) (rows kSent TSent.row aN.xLog) aN.xNow aH.xReady aH.xPage.xAddr.xHost aH.xPage.xAddr.xPath aH.xPage.xPolicy.xSet (rStr aH.xPage.xPolicy.xScripts) (rStr aH.xPage.xPolicy.xStyles) (rStr aH.xPage.xPolicy.xImages) aH.xPage.xPolicy.xNonce aH.xPage.xTok.xRest (rows kToken TToken.row aH.xPage.xQueue) aH.xPage.xEnded (rows kNode TNode.row aH.xPage.xBuilder.xNodes) (rInt aH.xPage.xBuilder.xOpen) (rows kSlot TSlot.row aH.xPage.xSlots) (rows kModule TModule.row aH.xPage.xMods) (rows kAddr TAddr.row aH.xPage.xEntries) aH.xPage.xBlock aH.xPage.xInline aH.xPage.xDeferred aH.xPage.xEntered (rows kAddr TAddr.row aH.xPage.xRan) (rStr aH.xPage.xLog) aH.xPage.xLoaded (rows kKept TKept.row aH.xTaken) (rows kServer TServer.row aH.xServers) aH.xNow k) (lFnExactIsStale aN aH) (fun r => k r) := by
  delta F4 P4 lFnExactIsStale
  refine Imp.call rfl (ei_lszNet aN 1048576 _) (fun r1 _ => ?_)
  refine Imp.br rfl ?_ ?_
  · exact Imp.ret rfl
  · refine Imp.call rfl (ei_lszHidden aH r1 _) (fun r2 _ => ?_)
    refine Imp.br rfl ?_ ?_
    · exact Imp.ret rfl
    · refine Imp.call rfl (ei_ltoNet aN _) (fun r3 _ => ?_)
      refine Imp.call rfl (ei_ltoHidden aH _) (fun r7 _ => ?_)
      refine Imp.call rfl (ei_sIsStale r3 r7 _) (fun r33 _ => ?_)
      refine Imp.call rfl (ei_ltoNet aN _) (fun r34 _ => ?_)
      refine Imp.call rfl (ei_ltoHidden aH _) (fun r38 _ => ?_)
      refine Imp.call rfl (ei_iIsStale r34 r38 _) (fun r64 _ => ?_)
      refine Imp.br rfl ?_ ?_
      · exact Imp.ret rfl
      · refine Imp.call rfl (ei_ltoNet aN _) (fun r65 _ => ?_)
        refine Imp.call rfl (ei_leqNet r34 r65 _) (fun r69 _ => ?_)
        refine Imp.br rfl ?_ ?_
        · exact Imp.ret rfl
        · refine Imp.call rfl (ei_ltoHidden aH _) (fun r70 _ => ?_)
          refine Imp.call rfl (ei_leqHidden r38 r70 _) (fun r96 _ => ?_)
          refine Imp.br rfl ?_ ?_
          · exact Imp.ret rfl
          · exact Imp.ret rfl

end Go.Am
