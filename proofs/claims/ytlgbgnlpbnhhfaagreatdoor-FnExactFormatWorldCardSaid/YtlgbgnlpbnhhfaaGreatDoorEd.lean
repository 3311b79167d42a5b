/-
  Typed forms of functions of the program, written by program (eform.py): each over structures and lists, and that, where it answers, the extracted function hands on that answer.
-/
import Derived.Test.YtlgbgnlpbnhhfaaGreatDoorAmTyped
import Derived.Test.YtlgbgnlpbnhhfaaGreatDoorTy
import Derived.Test.YtlgbgnlpbnhhfaaGreatDoorFd
import Derived.Test.YtlgbgnlpbnhhfaaGreatDoorTd
set_option maxRecDepth 10000
set_option linter.unusedVariables false
namespace Go.Am
open Go Go.Proofs
variable {β : Type}
/-- spec.FormatInt -/
noncomputable def sFormatInt (n : Int) : Option (List UInt8) :=
  br (n == 0) (
    some [48]
  ) (
    (whileE (fun (s1 : (List UInt8) × Int) => (
      br (s1.2 != 0) (
        br (decide (Int.tmod s1.2 10 < 0)) (
          chk ((strI [(IntKind.wrap .u8 (IntKind.wrap .i64 (48 + (IntKind.wrap .i64 (0 - (Int.tmod s1.2 10))))))]).length + s1.1.length ≤ 9223372036854775807) <|
          some (.inl (((strI [(IntKind.wrap .u8 (IntKind.wrap .i64 (48 + (IntKind.wrap .i64 (0 - (Int.tmod s1.2 10))))))]) ++ s1.1), (IntKind.wrap .i64 (Int.tdiv s1.2 10))))
        ) (
          chk ((strI [(IntKind.wrap .u8 (IntKind.wrap .i64 (48 + (Int.tmod s1.2 10))))]).length + s1.1.length ≤ 9223372036854775807) <|
          some (.inl (((strI [(IntKind.wrap .u8 (IntKind.wrap .i64 (48 + (Int.tmod s1.2 10))))]) ++ s1.1), (IntKind.wrap .i64 (Int.tdiv s1.2 10))))
        )
      ) (
        some (.inr s1.1)
      )
    : Option (((List UInt8) × Int) ⊕ (List UInt8)))) (([], n) : (List UInt8) × Int)).bind <|
    fun (r4 : List UInt8) =>
    br (decide (n < 0)) (
      chk (1 + r4.length ≤ 9223372036854775807) <|
      some ([45] ++ r4)
    ) (
      some r4
    )
  )
theorem ei_sFormatInt (n : Int) (k : List UInt8 → Option β) : Imp (F12 β n k) (sFormatInt n) (fun r => k r) := by
  delta F12 P12 sFormatInt
  refine Imp.br rfl ?_ ?_
  · exact Imp.ret rfl
  · refine Imp.while (enc := fun (s1 : (List UInt8) × Int) => [.i n, .s s1.1, .i s1.2]) (encR := fun (u : List UInt8) => (((0, [.i n, .s u]) : Nat × List Leaf))) rfl (fun s1 => ?_) (fun r4 => ?_)
    · refine Imp.br rfl ?_ ?_
      · refine Imp.br rfl ?_ ?_
        · refine Imp.strO (l := [(IntKind.wrap .u8 (IntKind.wrap .i64 (48 + (IntKind.wrap .i64 (0 - (Int.tmod s1.2 10))))))]) rfl ?_
          refine Imp.chk rfl (fun _ => ?_)
          exact Imp.ret rfl
        · refine Imp.strO (l := [(IntKind.wrap .u8 (IntKind.wrap .i64 (48 + (Int.tmod s1.2 10))))]) rfl ?_
          refine Imp.chk rfl (fun _ => ?_)
          exact Imp.ret rfl
      · exact Imp.ret rfl
    · refine Imp.br rfl ?_ ?_
      · refine Imp.chk rfl (fun _ => ?_)
        exact Imp.ret rfl
      · exact Imp.ret rfl

/-- spec.FreshEntries -/
noncomputable def sFreshEntries (c : TCache) (now : Int) : Option Int :=
  (forE c.xEntries (fun (i_1 : Nat) (x_1 : TEntry) (s1 : Int) => (
    br (decide (x_1.xUntil ≥ now)) (
      some (.inl (IntKind.wrap .i64 (s1 + 1)))
    ) (
      some (.inl s1)
    )
  : Option (Int ⊕ Int))) (fun (s1 : Int) => (s1 : Int)) (0 : Int)).bind <|
  fun (r3 : Int) =>
  some r3
theorem ei_sFreshEntries (c : TCache) (now : Int) (k : Int → Option β) : Imp (F30 β (rows kEntry TEntry.row c.xEntries) now k) (sFreshEntries c now) (fun r => k r) := by
  delta F30 P30 sFreshEntries
  refine Imp.for (enc := fun (i_1 : Nat) (s1 : Int) => [.i now, .i s1, .i (i_1 : Int), .l (rows kEntry TEntry.row c.xEntries)]) (encR := fun (u : Int) => (((0, [.i u]) : Nat × List Leaf))) rfl (fun i_1 x_1 s1 hx1 hl1 hm1 => Imp.brT (T_lt (ks := kEntry) (g := TEntry.row) hl1) ?_) (fun s1 => brN (T_irr (ks := kEntry) (g := TEntry.row) c.xEntries) rfl) (fun r3 => ?_)
  · refine Imp.idxFor (ks := kEntry) (g := TEntry.row) hx1 ?_
    refine Imp.br rfl ?_ ?_
    · exact Imp.ret (c1 (fun (h1 : Int) => (some (Sum.inl [.i now, .i (IntKind.wrap .i64 (s1 + 1)), .i h1, .l (rows kEntry TEntry.row c.xEntries)]) : Option (List Leaf ⊕ (Nat × List Leaf)))) (wrapJ hl1))
    · exact Imp.ret (c1 (fun (h1 : Int) => (some (Sum.inl [.i now, .i s1, .i h1, .l (rows kEntry TEntry.row c.xEntries)]) : Option (List Leaf ⊕ (Nat × List Leaf)))) (wrapJ hl1))
  · exact Imp.ret rfl

/-- spec.FormatCache -/
noncomputable def sFormatCache (c : TCache) (now : Int) : Option (List UInt8) :=
  (sFreshEntries c now).bind fun (r1 : Int) =>
  (sFormatInt r1).bind fun (r2 : List UInt8) =>
  chk (r2.length + 1 ≤ 9223372036854775807) <|
  (sFormatInt (c.xEntries.length : Int)).bind fun (r3 : List UInt8) =>
  chk ((r2 ++ [47]).length + r3.length ≤ 9223372036854775807) <|
  some ((r2 ++ [47]) ++ r3)
theorem ei_sFormatCache (c : TCache) (now : Int) (k : List UInt8 → Option β) : Imp (F13 β (rows kEntry TEntry.row c.xEntries) now k) (sFormatCache c now) (fun r => k r) := by
  delta F13 P13 sFormatCache
  refine Imp.call rfl (ei_sFreshEntries c now _) (fun r1 _ => ?_)
  refine Imp.call rfl (ei_sFormatInt r1 _) (fun r2 _ => ?_)
  refine Imp.chk rfl (fun _ => ?_)
  refine Imp.call (c1 (fun (w1 : Int) => F12 _ w1) (c1 (fun z0 : Nat => (z0 : Int)) (T_len (ks := kEntry) (g := TEntry.row) c.xEntries))) (ei_sFormatInt (c.xEntries.length : Int) _) (fun r3 _ => ?_)
  refine Imp.chk rfl (fun _ => ?_)
  exact Imp.ret rfl

/-- spec.CountGuesses -/
noncomputable def sCountGuesses (n : TNet) : Option Int :=
  (forE n.xLog (fun (i_1 : Nat) (x_1 : TSent) (s1 : Int) => (
    br x_1.xGuess (
      some (.inl (IntKind.wrap .i64 (s1 + 1)))
    ) (
      some (.inl s1)
    )
  : Option (Int ⊕ Int))) (fun (s1 : Int) => (s1 : Int)) (0 : Int)).bind <|
  fun (r3 : Int) =>
  some r3
theorem ei_sCountGuesses (n : TNet) (k : Int → Option β) : Imp (F14 β (rows kServer TServer.row n.xServers) (rows kEntry TEntry.row n.xCache.xEntries) (rows kSent TSent.row n.xLog) n.xNow k) (sCountGuesses n) (fun r => k r) := by
  delta F14 P14 sCountGuesses
  refine Imp.for (enc := fun (i_1 : Nat) (s1 : Int) => [.i s1, .i (i_1 : Int), .l (rows kServer TServer.row n.xServers), .l (rows kEntry TEntry.row n.xCache.xEntries), .l (rows kSent TSent.row n.xLog), .i n.xNow]) (encR := fun (u : Int) => (((0, [.i u]) : Nat × List Leaf))) rfl (fun i_1 x_1 s1 hx1 hl1 hm1 => Imp.brT (T_lt (ks := kSent) (g := TSent.row) hl1) ?_) (fun s1 => brN (T_irr (ks := kSent) (g := TSent.row) n.xLog) rfl) (fun r3 => ?_)
  · refine Imp.idxFor (ks := kSent) (g := TSent.row) hx1 ?_
    refine Imp.br rfl ?_ ?_
    · exact Imp.ret (c1 (fun (h1 : Int) => (some (Sum.inl [.i (IntKind.wrap .i64 (s1 + 1)), .i h1, .l (rows kServer TServer.row n.xServers), .l (rows kEntry TEntry.row n.xCache.xEntries), .l (rows kSent TSent.row n.xLog), .i n.xNow]) : Option (List Leaf ⊕ (Nat × List Leaf)))) (wrapJ hl1))
    · exact Imp.ret (c1 (fun (h1 : Int) => (some (Sum.inl [.i s1, .i h1, .l (rows kServer TServer.row n.xServers), .l (rows kEntry TEntry.row n.xCache.xEntries), .l (rows kSent TSent.row n.xLog), .i n.xNow]) : Option (List Leaf ⊕ (Nat × List Leaf)))) (wrapJ hl1))
  · exact Imp.ret rfl

/-- spec.FormatWorld -/
noncomputable def sFormatWorld (w : TWorld) : Option (List UInt8) :=
  (sFormatInt w.xNet.xNow).bind fun (r1 : List UInt8) =>
  chk (r1.length + 1 ≤ 9223372036854775807) <|
  (sFormatCache w.xNet.xCache w.xNet.xNow).bind fun (r2 : List UInt8) =>
  chk ((r1 ++ [32]).length + r2.length ≤ 9223372036854775807) <|
  chk (((r1 ++ [32]) ++ r2).length + 1 ≤ 9223372036854775807) <|
  (sFormatInt (w.xNet.xLog.length : Int)).bind fun (r3 : List UInt8) =>
  chk ((((r1 ++ [32]) ++ r2) ++ [32]).length + r3.length ≤ 9223372036854775807) <|
  chk (((((r1 ++ [32]) ++ r2) ++ [32]) ++ r3).length + 1 ≤ 9223372036854775807) <|
  (sCountGuesses w.xNet).bind fun (r4 : Int) =>
  (sFormatInt r4).bind fun (r5 : List UInt8) =>
  chk ((((((r1 ++ [32]) ++ r2) ++ [32]) ++ r3) ++ [32]).length + r5.length ≤ 9223372036854775807) <|
  chk (((((((r1 ++ [32]) ++ r2) ++ [32]) ++ r3) ++ [32]) ++ r5).length + 5 ≤ 9223372036854775807) <|
  br w.xFast (
    chk (0 ≤ (0 : Int) ∧ (0 : Int) ≤ IntKind.wrap .i64 (((((((((r1 ++ [32]) ++ r2) ++ [32]) ++ r3) ++ [32]) ++ r5) ++ [32, 115, 108, 111, 119]).length : Int) - 4) ∧ IntKind.wrap .i64 (((((((((r1 ++ [32]) ++ r2) ++ [32]) ++ r3) ++ [32]) ++ r5) ++ [32, 115, 108, 111, 119]).length : Int) - 4) ≤ ((((((((r1 ++ [32]) ++ r2) ++ [32]) ++ r3) ++ [32]) ++ r5) ++ [32, 115, 108, 111, 119]).length : Int)) <|
    chk ((((((((((r1 ++ [32]) ++ r2) ++ [32]) ++ r3) ++ [32]) ++ r5) ++ [32, 115, 108, 111, 119]).take ((IntKind.wrap .i64 (((((((((r1 ++ [32]) ++ r2) ++ [32]) ++ r3) ++ [32]) ++ r5) ++ [32, 115, 108, 111, 119]).length : Int) - 4)).toNat)).drop 0).length + 4 ≤ 9223372036854775807) <|
    br w.xHidden.xReady (
      chk (((((((((((r1 ++ [32]) ++ r2) ++ [32]) ++ r3) ++ [32]) ++ r5) ++ [32, 115, 108, 111, 119]).take ((IntKind.wrap .i64 (((((((((r1 ++ [32]) ++ r2) ++ [32]) ++ r3) ++ [32]) ++ r5) ++ [32, 115, 108, 111, 119]).length : Int) - 4)).toNat)).drop 0) ++ [102, 97, 115, 116]).length + 6 ≤ 9223372036854775807) <|
      some (((((((((((r1 ++ [32]) ++ r2) ++ [32]) ++ r3) ++ [32]) ++ r5) ++ [32, 115, 108, 111, 119]).take ((IntKind.wrap .i64 (((((((((r1 ++ [32]) ++ r2) ++ [32]) ++ r3) ++ [32]) ++ r5) ++ [32, 115, 108, 111, 119]).length : Int) - 4)).toNat)).drop 0) ++ [102, 97, 115, 116]) ++ [32, 114, 101, 97, 100, 121])
    ) (
      some ((((((((((r1 ++ [32]) ++ r2) ++ [32]) ++ r3) ++ [32]) ++ r5) ++ [32, 115, 108, 111, 119]).take ((IntKind.wrap .i64 (((((((((r1 ++ [32]) ++ r2) ++ [32]) ++ r3) ++ [32]) ++ r5) ++ [32, 115, 108, 111, 119]).length : Int) - 4)).toNat)).drop 0) ++ [102, 97, 115, 116])
    )
  ) (
    br w.xHidden.xReady (
      chk ((((((((r1 ++ [32]) ++ r2) ++ [32]) ++ r3) ++ [32]) ++ r5) ++ [32, 115, 108, 111, 119]).length + 6 ≤ 9223372036854775807) <|
      some ((((((((r1 ++ [32]) ++ r2) ++ [32]) ++ r3) ++ [32]) ++ r5) ++ [32, 115, 108, 111, 119]) ++ [32, 114, 101, 97, 100, 121])
    ) (
      some (((((((r1 ++ [32]) ++ r2) ++ [32]) ++ r3) ++ [32]) ++ r5) ++ [32, 115, 108, 111, 119])
    )
  )
theorem ei_sFormatWorld (w : TWorld) (k : List UInt8 → Option β) : Imp (F5 β (rows kServer TServer.row w.xNet.xServers) (rows kEntry TEntry.row w.xNet.xCache.xEntries) (rows kSent TSent.row w.xNet.xLog) w.xNet.xNow (rows kVisit TVisit.row w.xTab.xVisits) w.xTab.xAt w.xHidden.xReady w.xHidden.xPage.xAddr.xHost w.xHidden.xPage.xAddr.xPath w.xHidden.xPage.xPolicy.xSet (rStr w.xHidden.xPage.xPolicy.xScripts) (rStr w.xHidden.xPage.xPolicy.xStyles) (rStr w.xHidden.xPage.xPolicy.xImages) w.xHidden.xPage.xPolicy.xNonce w.xHidden.xPage.xTok.xRest (rows kToken TToken.row w.xHidden.xPage.xQueue) w.xHidden.xPage.xEnded (rows kNode TNode.row w.xHidden.xPage.xBuilder.xNodes) (rInt w.xHidden.xPage.xBuilder.xOpen) (rows kSlot TSlot.row w.xHidden.xPage.xSlots) (rows kModule TModule.row w.xHidden.xPage.xMods) (rows kAddr TAddr.row w.xHidden.xPage.xEntries) w.xHidden.xPage.xBlock w.xHidden.xPage.xInline w.xHidden.xPage.xDeferred w.xHidden.xPage.xEntered (rows kAddr TAddr.row w.xHidden.xPage.xRan) (rStr w.xHidden.xPage.xLog) w.xHidden.xPage.xLoaded (rows kKept TKept.row w.xHidden.xTaken) (rows kServer TServer.row w.xHidden.xServers) w.xHidden.xNow w.xFast k) (sFormatWorld w) (fun r => k r) := by
  delta F5 P5 sFormatWorld
  refine Imp.call rfl (ei_sFormatInt w.xNet.xNow _) (fun r1 _ => ?_)
  refine Imp.chk rfl (fun _ => ?_)
  refine Imp.call rfl (ei_sFormatCache w.xNet.xCache w.xNet.xNow _) (fun r2 _ => ?_)
  refine Imp.chk rfl (fun _ => ?_)
  refine Imp.chk rfl (fun _ => ?_)
  refine Imp.call (c1 (fun (w1 : Int) => F12 _ w1) (c1 (fun z0 : Nat => (z0 : Int)) (T_len (ks := kSent) (g := TSent.row) w.xNet.xLog))) (ei_sFormatInt (w.xNet.xLog.length : Int) _) (fun r3 _ => ?_)
  refine Imp.chk rfl (fun _ => ?_)
  refine Imp.chk rfl (fun _ => ?_)
  refine Imp.call rfl (ei_sCountGuesses w.xNet _) (fun r4 _ => ?_)
  refine Imp.call rfl (ei_sFormatInt r4 _) (fun r5 _ => ?_)
  refine Imp.chk rfl (fun _ => ?_)
  refine Imp.chk rfl (fun _ => ?_)
  refine Imp.br rfl ?_ ?_
  · refine Imp.chk rfl (fun _ => ?_)
    refine Imp.chk rfl (fun _ => ?_)
    refine Imp.br rfl ?_ ?_
    · refine Imp.chk rfl (fun _ => ?_)
      exact Imp.ret rfl
    · exact Imp.ret rfl
  · refine Imp.br rfl ?_ ?_
    · refine Imp.chk rfl (fun _ => ?_)
      exact Imp.ret rfl
    · exact Imp.ret rfl

/-- strconv.Itoa -/
noncomputable def g_strconv_Itoa (a0 : Int) : Option (List UInt8) := itoaE a0
theorem ei_g_strconv_Itoa (a0 : Int) (k : List UInt8 → Option β) : Imp (F37 β a0 k) (g_strconv_Itoa a0) (fun r => k r) := ei_itoaE a0 k

/-- impl.FormatInt -/
noncomputable def iFormatInt (n : Int) : Option (List UInt8) :=
  (g_strconv_Itoa n).bind fun (r1 : List UInt8) =>
  some r1
theorem ei_iFormatInt (n : Int) (k : List UInt8 → Option β) : Imp (F18 β n k) (iFormatInt n) (fun r => k r) := by
  delta F18 P18 iFormatInt
  refine Imp.call rfl (ei_g_strconv_Itoa n _) (fun r1 _ => ?_)
  exact Imp.ret rfl

/-- impl.FreshEntries -/
noncomputable def iFreshEntries (c : TCache) (now : Int) : Option Int :=
  (forE c.xEntries (fun (i_1 : Nat) (x_1 : TEntry) (s1 : Int) => (
    br (decide (x_1.xUntil ≥ now)) (
      some (.inl (IntKind.wrap .i64 (s1 + 1)))
    ) (
      some (.inl s1)
    )
  : Option (Int ⊕ Int))) (fun (s1 : Int) => (s1 : Int)) (0 : Int)).bind <|
  fun (r3 : Int) =>
  some r3
theorem ei_iFreshEntries (c : TCache) (now : Int) (k : Int → Option β) : Imp (F38 β (rows kEntry TEntry.row c.xEntries) now k) (iFreshEntries c now) (fun r => k r) := by
  delta F38 P38 iFreshEntries
  refine Imp.for (enc := fun (i_1 : Nat) (s1 : Int) => [.i now, .i s1, .l (rows kEntry TEntry.row c.xEntries), .i (c.xEntries.length : Int), .i (i_1 : Int)]) (encR := fun (u : Int) => (((0, [.i u]) : Nat × List Leaf))) (c1 (fun (h1 : Int) => ([.i now, .i 0, .l (rows kEntry TEntry.row c.xEntries), .i h1, .i 0] : List Leaf)) (c1 (fun z0 : Nat => (z0 : Int)) (T_len (ks := kEntry) (g := TEntry.row) c.xEntries))) (fun i_1 x_1 s1 hx1 hl1 hm1 => Imp.brT (Int.ofNat_lt.2 hl1) ?_) (fun s1 => brN (Int.lt_irrefl _) rfl) (fun r3 => ?_)
  · refine Imp.idxFor (ks := kEntry) (g := TEntry.row) hx1 ?_
    refine Imp.br rfl ?_ ?_
    · exact Imp.ret (c1 (fun (h1 : Int) => (some (Sum.inl [.i now, .i (IntKind.wrap .i64 (s1 + 1)), .l (rows kEntry TEntry.row c.xEntries), .i (c.xEntries.length : Int), .i h1]) : Option (List Leaf ⊕ (Nat × List Leaf)))) (wrapJ hl1))
    · exact Imp.ret (c1 (fun (h1 : Int) => (some (Sum.inl [.i now, .i s1, .l (rows kEntry TEntry.row c.xEntries), .i (c.xEntries.length : Int), .i h1]) : Option (List Leaf ⊕ (Nat × List Leaf)))) (wrapJ hl1))
  · exact Imp.ret rfl

/-- impl.FormatCache -/
noncomputable def iFormatCache (c : TCache) (now : Int) : Option (List UInt8) :=
  (iFreshEntries c now).bind fun (r1 : Int) =>
  (iFormatInt r1).bind fun (r2 : List UInt8) =>
  chk (r2.length + 1 ≤ 9223372036854775807) <|
  (iFormatInt (c.xEntries.length : Int)).bind fun (r3 : List UInt8) =>
  chk ((r2 ++ [47]).length + r3.length ≤ 9223372036854775807) <|
  some ((r2 ++ [47]) ++ r3)
theorem ei_iFormatCache (c : TCache) (now : Int) (k : List UInt8 → Option β) : Imp (F19 β (rows kEntry TEntry.row c.xEntries) now k) (iFormatCache c now) (fun r => k r) := by
  delta F19 P19 iFormatCache
  refine Imp.call rfl (ei_iFreshEntries c now _) (fun r1 _ => ?_)
  refine Imp.call rfl (ei_iFormatInt r1 _) (fun r2 _ => ?_)
  refine Imp.chk rfl (fun _ => ?_)
  refine Imp.call (c1 (fun (w1 : Int) => F18 _ w1) (c1 (fun z0 : Nat => (z0 : Int)) (T_len (ks := kEntry) (g := TEntry.row) c.xEntries))) (ei_iFormatInt (c.xEntries.length : Int) _) (fun r3 _ => ?_)
  refine Imp.chk rfl (fun _ => ?_)
  exact Imp.ret rfl

/-- impl.countGuesses -/
noncomputable def icountGuesses (l : List TSent) : Option Int :=
  (forE l (fun (i_1 : Nat) (x_1 : TSent) (s1 : Int) => (
    br x_1.xGuess (
      some (.inl (IntKind.wrap .i64 (s1 + 1)))
    ) (
      some (.inl s1)
    )
  : Option (Int ⊕ Int))) (fun (s1 : Int) => (s1 : Int)) (0 : Int)).bind <|
  fun (r3 : Int) =>
  some r3
theorem ei_icountGuesses (l : List TSent) (k : Int → Option β) : Imp (F39 β (rows kSent TSent.row l) k) (icountGuesses l) (fun r => k r) := by
  delta F39 P39 icountGuesses
  refine Imp.for (enc := fun (i_1 : Nat) (s1 : Int) => [.i s1, .l (rows kSent TSent.row l), .i (l.length : Int), .i (i_1 : Int)]) (encR := fun (u : Int) => (((0, [.i u]) : Nat × List Leaf))) (c1 (fun (h1 : Int) => ([.i 0, .l (rows kSent TSent.row l), .i h1, .i 0] : List Leaf)) (c1 (fun z0 : Nat => (z0 : Int)) (T_len (ks := kSent) (g := TSent.row) l))) (fun i_1 x_1 s1 hx1 hl1 hm1 => Imp.brT (Int.ofNat_lt.2 hl1) ?_) (fun s1 => brN (Int.lt_irrefl _) rfl) (fun r3 => ?_)
  · refine Imp.idxFor (ks := kSent) (g := TSent.row) hx1 ?_
    refine Imp.br rfl ?_ ?_
    · exact Imp.ret (c1 (fun (h1 : Int) => (some (Sum.inl [.i (IntKind.wrap .i64 (s1 + 1)), .l (rows kSent TSent.row l), .i (l.length : Int), .i h1]) : Option (List Leaf ⊕ (Nat × List Leaf)))) (wrapJ hl1))
    · exact Imp.ret (c1 (fun (h1 : Int) => (some (Sum.inl [.i s1, .l (rows kSent TSent.row l), .i (l.length : Int), .i h1]) : Option (List Leaf ⊕ (Nat × List Leaf)))) (wrapJ hl1))
  · exact Imp.ret rfl

/-- impl.CountGuesses -/
noncomputable def iCountGuesses (n : TNet) : Option Int :=
  (icountGuesses n.xLog).bind fun (r1 : Int) =>
  some r1
theorem ei_iCountGuesses (n : TNet) (k : Int → Option β) : Imp (F20 β (rows kServer TServer.row n.xServers) (rows kEntry TEntry.row n.xCache.xEntries) (rows kSent TSent.row n.xLog) n.xNow k) (iCountGuesses n) (fun r => k r) := by
  delta F20 P20 iCountGuesses
  refine Imp.call rfl (ei_icountGuesses n.xLog _) (fun r1 _ => ?_)
  exact Imp.ret rfl

/-- impl.FormatWorld -/
noncomputable def iFormatWorld (w : TWorld) : Option (List UInt8) :=
  br w.xFast (
    (iFormatInt w.xNet.xNow).bind fun (r1 : List UInt8) =>
    chk (r1.length + 1 ≤ 9223372036854775807) <|
    (iFormatCache w.xNet.xCache w.xNet.xNow).bind fun (r2 : List UInt8) =>
    chk ((r1 ++ [32]).length + r2.length ≤ 9223372036854775807) <|
    chk (((r1 ++ [32]) ++ r2).length + 1 ≤ 9223372036854775807) <|
    (iFormatInt (w.xNet.xLog.length : Int)).bind fun (r3 : List UInt8) =>
    chk ((((r1 ++ [32]) ++ r2) ++ [32]).length + r3.length ≤ 9223372036854775807) <|
    chk (((((r1 ++ [32]) ++ r2) ++ [32]) ++ r3).length + 1 ≤ 9223372036854775807) <|
    (iCountGuesses w.xNet).bind fun (r4 : Int) =>
    (iFormatInt r4).bind fun (r5 : List UInt8) =>
    chk ((((((r1 ++ [32]) ++ r2) ++ [32]) ++ r3) ++ [32]).length + r5.length ≤ 9223372036854775807) <|
    chk (((((((r1 ++ [32]) ++ r2) ++ [32]) ++ r3) ++ [32]) ++ r5).length + 1 ≤ 9223372036854775807) <|
    chk ((((((((r1 ++ [32]) ++ r2) ++ [32]) ++ r3) ++ [32]) ++ r5) ++ [32]).length + 4 ≤ 9223372036854775807) <|
    br w.xHidden.xReady (
      chk (((((((((r1 ++ [32]) ++ r2) ++ [32]) ++ r3) ++ [32]) ++ r5) ++ [32]) ++ [102, 97, 115, 116]).length + 6 ≤ 9223372036854775807) <|
      some (((((((((r1 ++ [32]) ++ r2) ++ [32]) ++ r3) ++ [32]) ++ r5) ++ [32]) ++ [102, 97, 115, 116]) ++ [32, 114, 101, 97, 100, 121])
    ) (
      some ((((((((r1 ++ [32]) ++ r2) ++ [32]) ++ r3) ++ [32]) ++ r5) ++ [32]) ++ [102, 97, 115, 116])
    )
  ) (
    (iFormatInt w.xNet.xNow).bind fun (r6 : List UInt8) =>
    chk (r6.length + 1 ≤ 9223372036854775807) <|
    (iFormatCache w.xNet.xCache w.xNet.xNow).bind fun (r7 : List UInt8) =>
    chk ((r6 ++ [32]).length + r7.length ≤ 9223372036854775807) <|
    chk (((r6 ++ [32]) ++ r7).length + 1 ≤ 9223372036854775807) <|
    (iFormatInt (w.xNet.xLog.length : Int)).bind fun (r8 : List UInt8) =>
    chk ((((r6 ++ [32]) ++ r7) ++ [32]).length + r8.length ≤ 9223372036854775807) <|
    chk (((((r6 ++ [32]) ++ r7) ++ [32]) ++ r8).length + 1 ≤ 9223372036854775807) <|
    (iCountGuesses w.xNet).bind fun (r9 : Int) =>
    (iFormatInt r9).bind fun (r10 : List UInt8) =>
    chk ((((((r6 ++ [32]) ++ r7) ++ [32]) ++ r8) ++ [32]).length + r10.length ≤ 9223372036854775807) <|
    chk (((((((r6 ++ [32]) ++ r7) ++ [32]) ++ r8) ++ [32]) ++ r10).length + 1 ≤ 9223372036854775807) <|
    chk ((((((((r6 ++ [32]) ++ r7) ++ [32]) ++ r8) ++ [32]) ++ r10) ++ [32]).length + 4 ≤ 9223372036854775807) <|
    br w.xHidden.xReady (
      chk (((((((((r6 ++ [32]) ++ r7) ++ [32]) ++ r8) ++ [32]) ++ r10) ++ [32]) ++ [115, 108, 111, 119]).length + 6 ≤ 9223372036854775807) <|
      some (((((((((r6 ++ [32]) ++ r7) ++ [32]) ++ r8) ++ [32]) ++ r10) ++ [32]) ++ [115, 108, 111, 119]) ++ [32, 114, 101, 97, 100, 121])
    ) (
      some ((((((((r6 ++ [32]) ++ r7) ++ [32]) ++ r8) ++ [32]) ++ r10) ++ [32]) ++ [115, 108, 111, 119])
    )
  )
theorem ei_iFormatWorld (w : TWorld) (k : List UInt8 → Option β) : Imp (F7 β (rows kServer TServer.row w.xNet.xServers) (rows kEntry TEntry.row w.xNet.xCache.xEntries) (rows kSent TSent.row w.xNet.xLog) w.xNet.xNow (rows kVisit TVisit.row w.xTab.xVisits) w.xTab.xAt w.xHidden.xReady w.xHidden.xPage.xAddr.xHost w.xHidden.xPage.xAddr.xPath w.xHidden.xPage.xPolicy.xSet (rStr w.xHidden.xPage.xPolicy.xScripts) (rStr w.xHidden.xPage.xPolicy.xStyles) (rStr w.xHidden.xPage.xPolicy.xImages) w.xHidden.xPage.xPolicy.xNonce w.xHidden.xPage.xTok.xRest (rows kToken TToken.row w.xHidden.xPage.xQueue) w.xHidden.xPage.xEnded (rows kNode TNode.row w.xHidden.xPage.xBuilder.xNodes) (rInt w.xHidden.xPage.xBuilder.xOpen) (rows kSlot TSlot.row w.xHidden.xPage.xSlots) (rows kModule TModule.row w.xHidden.xPage.xMods) (rows kAddr TAddr.row w.xHidden.xPage.xEntries) w.xHidden.xPage.xBlock w.xHidden.xPage.xInline w.xHidden.xPage.xDeferred w.xHidden.xPage.xEntered (rows kAddr TAddr.row w.xHidden.xPage.xRan) (rStr w.xHidden.xPage.xLog) w.xHidden.xPage.xLoaded (rows kKept TKept.row w.xHidden.xTaken) (rows kServer TServer.row w.xHidden.xServers) w.xHidden.xNow w.xFast k) (iFormatWorld w) (fun r => k r) := by
  delta F7 P7 iFormatWorld
  refine Imp.br rfl ?_ ?_
  · refine Imp.call rfl (ei_iFormatInt w.xNet.xNow _) (fun r1 _ => ?_)
    refine Imp.chk rfl (fun _ => ?_)
    refine Imp.call rfl (ei_iFormatCache w.xNet.xCache w.xNet.xNow _) (fun r2 _ => ?_)
    refine Imp.chk rfl (fun _ => ?_)
    refine Imp.chk rfl (fun _ => ?_)
    refine Imp.call (c1 (fun (w1 : Int) => F18 _ w1) (c1 (fun z0 : Nat => (z0 : Int)) (T_len (ks := kSent) (g := TSent.row) w.xNet.xLog))) (ei_iFormatInt (w.xNet.xLog.length : Int) _) (fun r3 _ => ?_)
    refine Imp.chk rfl (fun _ => ?_)
    refine Imp.chk rfl (fun _ => ?_)
    refine Imp.call rfl (ei_iCountGuesses w.xNet _) (fun r4 _ => ?_)
    refine Imp.call rfl (ei_iFormatInt r4 _) (fun r5 _ => ?_)
    refine Imp.chk rfl (fun _ => ?_)
    refine Imp.chk rfl (fun _ => ?_)
    refine Imp.chk rfl (fun _ => ?_)
    refine Imp.br rfl ?_ ?_
    · refine Imp.chk rfl (fun _ => ?_)
      exact Imp.ret rfl
    · exact Imp.ret rfl
  · refine Imp.call rfl (ei_iFormatInt w.xNet.xNow _) (fun r6 _ => ?_)
    refine Imp.chk rfl (fun _ => ?_)
    refine Imp.call rfl (ei_iFormatCache w.xNet.xCache w.xNet.xNow _) (fun r7 _ => ?_)
    refine Imp.chk rfl (fun _ => ?_)
    refine Imp.chk rfl (fun _ => ?_)
    refine Imp.call (c1 (fun (w1 : Int) => F18 _ w1) (c1 (fun z0 : Nat => (z0 : Int)) (T_len (ks := kSent) (g := TSent.row) w.xNet.xLog))) (ei_iFormatInt (w.xNet.xLog.length : Int) _) (fun r8 _ => ?_)
    refine Imp.chk rfl (fun _ => ?_)
    refine Imp.chk rfl (fun _ => ?_)
    refine Imp.call rfl (ei_iCountGuesses w.xNet _) (fun r9 _ => ?_)
    refine Imp.call rfl (ei_iFormatInt r9 _) (fun r10 _ => ?_)
    refine Imp.chk rfl (fun _ => ?_)
    refine Imp.chk rfl (fun _ => ?_)
    refine Imp.chk rfl (fun _ => ?_)
    refine Imp.br rfl ?_ ?_
    · refine Imp.chk rfl (fun _ => ?_)
      exact Imp.ret rfl
    · exact Imp.ret rfl

/-- laws.FnExactFormatWorld -/
noncomputable def lFnExactFormatWorld (aW : TWorld) : Option Bool :=
  (lszWorld aW 1048576).bind fun (r1 : Int) =>
  br (decide (r1 < 0)) (
    some true
  ) (
    (ltoWorld aW).bind fun (r2 : TWorld) =>
    (sFormatWorld r2).bind fun (r35 : List UInt8) =>
    (ltoWorld aW).bind fun (r36 : TWorld) =>
    (iFormatWorld r36).bind fun (r69 : List UInt8) =>
    br (!(r69 == r35)) (
      some false
    ) (
      (ltoWorld aW).bind fun (r70 : TWorld) =>
      (leqWorld r36 r70).bind fun (r103 : Bool) =>
      br (!r103) (
        some false
      ) (
        some true
      )
    )
  )
theorem ei_lFnExactFormatWorld (aW : TWorld) (k : Bool → Option β) : Imp (F3 β (rows kServer TServer.row aW.xNet.xServers) (rows kEntry TEntry.row aW.xNet.xCache.xEntries) (rows kSent TSent.row aW.xNet.xLog) aW.xNet.xNow (rows kVisit TVisit.row aW.xTab.xVisits) aW.xTab.xAt aW.xHidden.xReady aW.xHidden.xPage.xAddr.xHost aW.xHidden.xPage.xAddr.xPath aW.xHidden.xPage.xPolicy.xSet (rStr aW.xHidden.xPage.xPolicy.xScripts) (rStr aW.xHidden.xPage.xPolicy.xStyles) (rStr aW.xHidden.xPage.xPolicy.xImages) aW.xHidden.xPage.xPolicy.xNonce aW.xHidden.xPage.xTok.xRest (rows kToken TToken.row aW.xHidden.xPage.xQueue) aW.xHidden.xPage.xEnded (rows kNode TNode.row aW.xHidden.xPage.xBuilder.xNodes) (rInt aW.xHidden.xPage.xBuilder.xOpen) (rows kSlot TSlot.row aW.xHidden.xPage.xSlots) (rows kModule TModule.row aW.xHidden.xPage.xMods) (rows kAddr TAddr.row aW.xHidden.xPage.xEntries) aW.xHidden.xPage.xBlock aW.xHidden.xPage.xInline aW.xHidden.xPage.xDeferred aW.xHidden.xPage.xEntered (rows kAddr TAddr.row aW.xHidden.xPage.xRan) (rStr aW.xHidden.xPage.xLog) aW.xHidden.xPage.xLoaded (rows kKept TKept.row aW.xHidden.xTaken) (rows kServer TServer.row aW.xHidden.xServers) aW.xHidden.xNow aW.xFast k) (lFnExactFormatWorld aW) (fun r => k r) := by
  delta F3 P3 lFnExactFormatWorld
  refine Imp.call rfl (ei_lszWorld aW 1048576 _) (fun r1 _ => ?_)
  refine Imp.br rfl ?_ ?_
  · exact Imp.ret rfl
  · refine Imp.call rfl (ei_ltoWorld aW _) (fun r2 _ => ?_)
    refine Imp.call rfl (ei_sFormatWorld r2 _) (fun r35 _ => ?_)
    refine Imp.call rfl (ei_ltoWorld aW _) (fun r36 _ => ?_)
    refine Imp.call rfl (ei_iFormatWorld r36 _) (fun r69 _ => ?_)
    refine Imp.br rfl ?_ ?_
    · exact Imp.ret rfl
    · refine Imp.call rfl (ei_ltoWorld aW _) (fun r70 _ => ?_)
      refine Imp.call rfl (ei_leqWorld r36 r70 _) (fun r103 _ => ?_)
      refine Imp.br rfl ?_ ?_
      · exact Imp.ret rfl
      · exact Imp.ret rfl

end Go.Am
