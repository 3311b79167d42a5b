/-
  Typed forms of functions of the program, written by program (eform.py): each over structures and lists, and that, where it answers, the extracted function hands on that answer.
-/
import Derived.Test.YtlbilfobehdidaaAmTyped
import Derived.Test.YtlbilfobehdidaaTy
import Derived.Test.YtlbilfobehdidaaFa
import Derived.Test.YtlbilfobehdidaaTa
set_option maxRecDepth 10000
set_option linter.unusedVariables false
namespace Go.Am
open Go Go.Proofs
variable {β : Type}
/-- spec.l1In -/
noncomputable def sl1In (x : Int) (least : Int) (most : Int) : Option Bool :=
  br (decide (x ≥ least)) (
    some (decide (x ≤ most))
  ) (
    some false
  )
theorem ei_sl1In (x : Int) (least : Int) (most : Int) (k : Bool → Option β) : Imp (F35 β x least most k) (sl1In x least most) (fun r => k r) := by
  delta F35 P35 sl1In
  refine Imp.br rfl ?_ ?_
  · exact Imp.ret rfl
  · exact Imp.ret rfl

/-- spec.IsName -/
noncomputable def sIsName (s : List UInt8) : Option Bool :=
  (forE s (fun (i_1 : Nat) (x_1 : UInt8) (s1 : Unit) => (
    br (decide ((x_1.toNat : Int) < 97)) (
      some (.inr (.inl ()))
    ) (
      br (decide ((x_1.toNat : Int) > 122)) (
        some (.inr (.inl ()))
      ) (
        some (.inl ())
      )
    )
  : Option (Unit ⊕ (Unit ⊕ Unit)))) (fun (s1 : Unit) => (.inr () : Unit ⊕ Unit)) (() : Unit)).bind <|
  Sum.elim
    (fun (r4 : Unit) =>
      some false
    )
    (fun (r4 : Unit) =>
      (sl1In (s.length : Int) 1 8).bind fun (r5 : Bool) =>
      some r5
    )
theorem ei_sIsName (s : List UInt8) (k : Bool → Option β) : Imp (F47 β s k) (sIsName s) (fun r => k r) := by
  delta F47 P47 sIsName
  refine Imp.for (enc := fun (i_1 : Nat) (s1 : Unit) => [.s s, .i (i_1 : Int)]) (encR := Sum.elim (fun (u : Unit) => (((0, [.s s, .b false]) : Nat × List Leaf))) (fun (u : Unit) => (((1, [.s s]) : Nat × List Leaf)))) rfl (fun i_1 x_1 s1 hx1 hl1 hm1 => Imp.brT (Int.ofNat_lt.2 hl1) ?_) (fun s1 => brN (Int.lt_irrefl _) rfl) (fun r4 => ?_)
  · refine Imp.idxSFor hx1 ?_
    refine Imp.br rfl ?_ ?_
    · exact Imp.ret rfl
    · refine Imp.idxSFor hx1 ?_
      refine Imp.br rfl ?_ ?_
      · exact Imp.ret rfl
      · exact Imp.ret (c1 (fun (h1 : Int) => (some (Sum.inl [.s s, .i h1]) : Option (List Leaf ⊕ (Nat × List Leaf)))) (wrapJ hl1))
  · cases r4 with
    | inl r4 =>
      refine Imp.ifT rfl ?_
      exact Imp.ret rfl
    | inr r4 =>
      refine Imp.ifF (show ¬ ((1 : Nat) = 0) by decide) ?_
      refine Imp.call rfl (ei_sl1In (s.length : Int) 1 8 _) (fun r5 _ => ?_)
      exact Imp.ret rfl

/-- spec.IsAddr -/
noncomputable def sIsAddr (a : TAddr) : Option Bool :=
  (sIsName a.xHost).bind fun (r1 : Bool) =>
  br r1 (
    (sIsName a.xPath).bind fun (r2 : Bool) =>
    some r2
  ) (
    some false
  )
theorem ei_sIsAddr (a : TAddr) (k : Bool → Option β) : Imp (F37 β a.xHost a.xPath k) (sIsAddr a) (fun r => k r) := by
  delta F37 P37 sIsAddr
  refine Imp.call rfl (ei_sIsName a.xHost _) (fun r1 _ => ?_)
  refine Imp.br rfl ?_ ?_
  · refine Imp.call rfl (ei_sIsName a.xPath _) (fun r2 _ => ?_)
    exact Imp.ret rfl
  · exact Imp.ret rfl

/-- spec.CanPrepare -/
noncomputable def sCanPrepare (top : List UInt8) (a : TAddr) : Option Bool :=
  (sIsAddr a).bind fun (r1 : Bool) =>
  br r1 (
    some (a.xHost == top)
  ) (
    some false
  )
theorem ei_sCanPrepare (top : List UInt8) (a : TAddr) (k : Bool → Option β) : Imp (F13 β top a.xHost a.xPath k) (sCanPrepare top a) (fun r => k r) := by
  delta F13 P13 sCanPrepare
  refine Imp.call rfl (ei_sIsAddr a _) (fun r1 _ => ?_)
  refine Imp.br rfl ?_ ?_
  · exact Imp.ret rfl
  · exact Imp.ret rfl

/-- impl.InRange -/
noncomputable def iInRange (n : Int) (low : Int) (high : Int) : Option Bool :=
  br (decide (low ≤ n)) (
    some (decide (n ≤ high))
  ) (
    some false
  )
theorem ei_iInRange (n : Int) (low : Int) (high : Int) (k : Bool → Option β) : Imp (F36 β n low high k) (iInRange n low high) (fun r => k r) := by
  delta F36 P36 iInRange
  refine Imp.br rfl ?_ ?_
  · exact Imp.ret rfl
  · exact Imp.ret rfl

/-- impl.IsName -/
noncomputable def iIsName (s : List UInt8) : Option Bool :=
  (forE s (fun (i_1 : Nat) (x_1 : UInt8) (s1 : Unit) => (
    br (decide ((x_1.toNat : Int) < 97)) (
      some (.inr (.inl ()))
    ) (
      br (decide ((x_1.toNat : Int) > 122)) (
        some (.inr (.inl ()))
      ) (
        some (.inl ())
      )
    )
  : Option (Unit ⊕ (Unit ⊕ Unit)))) (fun (s1 : Unit) => (.inr () : Unit ⊕ Unit)) (() : Unit)).bind <|
  Sum.elim
    (fun (r4 : Unit) =>
      some false
    )
    (fun (r4 : Unit) =>
      (iInRange (s.length : Int) 1 8).bind fun (r5 : Bool) =>
      some r5
    )
theorem ei_iIsName (s : List UInt8) (k : Bool → Option β) : Imp (F48 β s k) (iIsName s) (fun r => k r) := by
  delta F48 P48 iIsName
  refine Imp.for (enc := fun (i_1 : Nat) (s1 : Unit) => [.s s, .i (i_1 : Int)]) (encR := Sum.elim (fun (u : Unit) => (((0, [.s s, .b false]) : Nat × List Leaf))) (fun (u : Unit) => (((1, [.s s]) : Nat × List Leaf)))) rfl (fun i_1 x_1 s1 hx1 hl1 hm1 => Imp.brT (Int.ofNat_lt.2 hl1) ?_) (fun s1 => brN (Int.lt_irrefl _) rfl) (fun r4 => ?_)
  · refine Imp.idxSFor hx1 ?_
    refine Imp.br rfl ?_ ?_
    · exact Imp.ret rfl
    · refine Imp.idxSFor hx1 ?_
      refine Imp.br rfl ?_ ?_
      · exact Imp.ret rfl
      · exact Imp.ret (c1 (fun (h1 : Int) => (some (Sum.inl [.s s, .i h1]) : Option (List Leaf ⊕ (Nat × List Leaf)))) (wrapJ hl1))
  · cases r4 with
    | inl r4 =>
      refine Imp.ifT rfl ?_
      exact Imp.ret rfl
    | inr r4 =>
      refine Imp.ifF (show ¬ ((1 : Nat) = 0) by decide) ?_
      refine Imp.call rfl (ei_iInRange (s.length : Int) 1 8 _) (fun r5 _ => ?_)
      exact Imp.ret rfl

/-- impl.IsAddr -/
noncomputable def iIsAddr (a : TAddr) : Option Bool :=
  (iIsName a.xHost).bind fun (r1 : Bool) =>
  br r1 (
    (iIsName a.xPath).bind fun (r2 : Bool) =>
    some r2
  ) (
    some false
  )
theorem ei_iIsAddr (a : TAddr) (k : Bool → Option β) : Imp (F38 β a.xHost a.xPath k) (iIsAddr a) (fun r => k r) := by
  delta F38 P38 iIsAddr
  refine Imp.call rfl (ei_iIsName a.xHost _) (fun r1 _ => ?_)
  refine Imp.br rfl ?_ ?_
  · refine Imp.call rfl (ei_iIsName a.xPath _) (fun r2 _ => ?_)
    exact Imp.ret rfl
  · exact Imp.ret rfl

/-- impl.CanPrepare -/
noncomputable def iCanPrepare (top : List UInt8) (a : TAddr) : Option Bool :=
  (iIsAddr a).bind fun (r1 : Bool) =>
  br r1 (
    some (a.xHost == top)
  ) (
    some false
  )
theorem ei_iCanPrepare (top : List UInt8) (a : TAddr) (k : Bool → Option β) : Imp (F15 β top a.xHost a.xPath k) (iCanPrepare top a) (fun r => k r) := by
  delta F15 P15 iCanPrepare
  refine Imp.call rfl (ei_iIsAddr a _) (fun r1 _ => ?_)
  refine Imp.br rfl ?_ ?_
  · exact Imp.ret rfl
  · exact Imp.ret rfl

/-- laws.FnExactCanPrepare -/
noncomputable def lFnExactCanPrepare (aTop : List UInt8) (aA : TAddr) : Option Bool :=
  br (decide ((aTop.length : Int) > 1048576)) (
    some true
  ) (
    (lszAddr aA 1048576).bind fun (r1 : Int) =>
    br (decide (r1 < 0)) (
      some true
    ) (
      (ltoAddr aA).bind fun (r2 : TAddr) =>
      (sCanPrepare aTop r2).bind fun (r4 : Bool) =>
      (ltoAddr aA).bind fun (r5 : TAddr) =>
      (iCanPrepare aTop r5).bind fun (r7 : Bool) =>
      br (!(r7 == r4)) (
        some false
      ) (
        some true
      )
    )
  )
theorem ei_lFnExactCanPrepare (aTop : List UInt8) (aA : TAddr) (k : Bool → Option β) : Imp (F4 β aTop aA.xHost aA.xPath k) (lFnExactCanPrepare aTop aA) (fun r => k r) := by
  delta F4 P4 lFnExactCanPrepare
  refine Imp.br rfl ?_ ?_
  · exact Imp.ret rfl
  · refine Imp.call rfl (ei_lszAddr aA 1048576 _) (fun r1 _ => ?_)
    refine Imp.br rfl ?_ ?_
    · exact Imp.ret rfl
    · refine Imp.call rfl (ei_ltoAddr aA _) (fun r2 _ => ?_)
      refine Imp.call rfl (ei_sCanPrepare aTop r2 _) (fun r4 _ => ?_)
      refine Imp.call rfl (ei_ltoAddr aA _) (fun r5 _ => ?_)
      refine Imp.call rfl (ei_iCanPrepare aTop r5 _) (fun r7 _ => ?_)
      refine Imp.br rfl ?_ ?_
      · exact Imp.ret rfl
      · exact Imp.ret rfl

/-- spec.NotFound -/
noncomputable def sNotFound : Option TResponse :=
  some (⟨404, 1, [], 0, false, []⟩ : TResponse)
theorem ei_sNotFound (k : Int → Int → List UInt8 → Int → Bool → List UInt8 → Option β) : Imp (F39 β  k) (sNotFound ) (fun r => k r.xStatus r.xKind r.xBody r.xAge r.xShares r.xPolicy) := by
  delta F39 P39 sNotFound
  exact Imp.ret rfl

/-- spec.FileOf -/
noncomputable def sFileOf (n : Int) : Option TResponse :=
  (sl1In n 0 5).bind fun (r1 : Bool) =>
  br (!r1) (
    (sNotFound).bind fun (r2 : TResponse) =>
    some r2
  ) (
    chk (0 ≤ n ∧ n.toNat < 6) <|
    (getI [1, 2, 3, 4, 5, 2] n).bind fun (e8 : Int) =>
    chk (0 ≤ n ∧ n.toNat < 6) <|
    (getI [[60, 112, 62, 110, 101, 119, 60, 47, 112, 62, 60, 115, 99, 114, 105, 112, 116, 32, 115, 114, 99, 61, 97, 112, 112, 62, 60, 47, 115, 99, 114, 105, 112, 116, 62], [115, 97, 121, 32, 110, 101, 119, 59, 119, 114, 105, 116, 101, 32, 91, 98, 93], [112, 58, 57, 59, 98, 58, 56], [100, 111, 116, 115], [105, 109, 112, 111, 114, 116, 32, 117, 116, 105, 108, 59, 115, 97, 121, 32, 110, 101, 119], [115, 97, 121, 32, 97, 103, 97, 105, 110]] n).bind fun (e9 : List UInt8) =>
    some (⟨200, e8, e9, 10, (n == 4), []⟩ : TResponse)
  )
theorem ei_sFileOf (n : Int) (k : Int → Int → List UInt8 → Int → Bool → List UInt8 → Option β) : Imp (F16 β n k) (sFileOf n) (fun r => k r.xStatus r.xKind r.xBody r.xAge r.xShares r.xPolicy) := by
  delta F16 P16 sFileOf
  refine Imp.call rfl (ei_sl1In n 0 5 _) (fun r1 _ => ?_)
  refine Imp.br rfl ?_ ?_
  · refine Imp.call rfl (ei_sNotFound  _) (fun r2 _ => ?_)
    exact Imp.ret rfl
  · refine Imp.chk rfl (fun _ => ?_)
    refine Imp.idxAt1 (kd := (.int .i64)) (g1 := fun e => e) rfl rfl (fun e8 => rfl) (fun e8 _ => ?_)
    refine Imp.chk rfl (fun _ => ?_)
    refine Imp.idxAt1 (kd := .str) (g1 := fun e => e) rfl rfl (fun e9 => rfl) (fun e9 _ => ?_)
    exact Imp.ret rfl

/-- impl.NotFound -/
noncomputable def iNotFound : Option TResponse :=
  some (⟨404, 1, [], 0, false, []⟩ : TResponse)
theorem ei_iNotFound (k : Int → Int → List UInt8 → Int → Bool → List UInt8 → Option β) : Imp (F40 β  k) (iNotFound ) (fun r => k r.xStatus r.xKind r.xBody r.xAge r.xShares r.xPolicy) := by
  delta F40 P40 iNotFound
  exact Imp.ret rfl

/-- impl.FileOf -/
noncomputable def iFileOf (n : Int) : Option TResponse :=
  (iInRange n 0 (IntKind.wrap .i64 ((6 : Int) - 1))).bind fun (r1 : Bool) =>
  br (!r1) (
    (iNotFound).bind fun (r2 : TResponse) =>
    some r2
  ) (
    chk (0 ≤ n ∧ n.toNat < 6) <|
    (getI [1, 2, 3, 4, 5, 2] n).bind fun (e8 : Int) =>
    chk (0 ≤ n ∧ n.toNat < 6) <|
    (getI [[60, 112, 62, 110, 101, 119, 60, 47, 112, 62, 60, 115, 99, 114, 105, 112, 116, 32, 115, 114, 99, 61, 97, 112, 112, 62, 60, 47, 115, 99, 114, 105, 112, 116, 62], [115, 97, 121, 32, 110, 101, 119, 59, 119, 114, 105, 116, 101, 32, 91, 98, 93], [112, 58, 57, 59, 98, 58, 56], [100, 111, 116, 115], [105, 109, 112, 111, 114, 116, 32, 117, 116, 105, 108, 59, 115, 97, 121, 32, 110, 101, 119], [115, 97, 121, 32, 97, 103, 97, 105, 110]] n).bind fun (e9 : List UInt8) =>
    chk (0 ≤ n ∧ n.toNat < 6) <|
    (getI [1, 2, 3, 4, 5, 2] n).bind fun (e10 : Int) =>
    some (⟨200, e8, e9, 10, (e10 == 5), []⟩ : TResponse)
  )
theorem ei_iFileOf (n : Int) (k : Int → Int → List UInt8 → Int → Bool → List UInt8 → Option β) : Imp (F17 β n k) (iFileOf n) (fun r => k r.xStatus r.xKind r.xBody r.xAge r.xShares r.xPolicy) := by
  delta F17 P17 iFileOf
  refine Imp.call rfl (ei_iInRange n 0 (IntKind.wrap .i64 ((6 : Int) - 1)) _) (fun r1 _ => ?_)
  refine Imp.br rfl ?_ ?_
  · refine Imp.call rfl (ei_iNotFound  _) (fun r2 _ => ?_)
    exact Imp.ret rfl
  · refine Imp.chk rfl (fun _ => ?_)
    refine Imp.idxAt1 (kd := (.int .i64)) (g1 := fun e => e) rfl rfl (fun e8 => rfl) (fun e8 _ => ?_)
    refine Imp.chk rfl (fun _ => ?_)
    refine Imp.idxAt1 (kd := .str) (g1 := fun e => e) rfl rfl (fun e9 => rfl) (fun e9 _ => ?_)
    refine Imp.chk rfl (fun _ => ?_)
    refine Imp.idxAt1 (kd := (.int .i64)) (g1 := fun e => e) rfl rfl (fun e10 => rfl) (fun e10 _ => ?_)
    exact Imp.ret rfl

/-- laws.FnExactFileOf -/
noncomputable def lFnExactFileOf (aN : Int) : Option Bool :=
  (sFileOf aN).bind fun (r1 : TResponse) =>
  (iFileOf aN).bind fun (r7 : TResponse) =>
  (leqResponse r7 r1).bind fun (r13 : Bool) =>
  br (!r13) (
    some false
  ) (
    some true
  )
theorem ei_lFnExactFileOf (aN : Int) (k : Bool → Option β) : Imp (F5 β aN k) (lFnExactFileOf aN) (fun r => k r) := by
  delta F5 P5 lFnExactFileOf
  refine Imp.call rfl (ei_sFileOf aN _) (fun r1 _ => ?_)
  refine Imp.call rfl (ei_iFileOf aN _) (fun r7 _ => ?_)
  refine Imp.call rfl (ei_leqResponse r7 r1 _) (fun r13 _ => ?_)
  refine Imp.br rfl ?_ ?_
  · exact Imp.ret rfl
  · exact Imp.ret rfl

/-- spec.FormatAddr -/
noncomputable def sFormatAddr (a : TAddr) : Option (List UInt8) :=
  (sIsAddr a).bind fun (r1 : Bool) =>
  br (!r1) (
    some []
  ) (
    chk (a.xHost.length + 1 ≤ 9223372036854775807) <|
    chk ((a.xHost ++ [47]).length + a.xPath.length ≤ 9223372036854775807) <|
    some ((a.xHost ++ [47]) ++ a.xPath)
  )
theorem ei_sFormatAddr (a : TAddr) (k : List UInt8 → Option β) : Imp (F43 β a.xHost a.xPath k) (sFormatAddr a) (fun r => k r) := by
  delta F43 P43 sFormatAddr
  refine Imp.call rfl (ei_sIsAddr a _) (fun r1 _ => ?_)
  refine Imp.br rfl ?_ ?_
  · exact Imp.ret rfl
  · refine Imp.chk rfl (fun _ => ?_)
    refine Imp.chk rfl (fun _ => ?_)
    exact Imp.ret rfl

/-- spec.FormatSent -/
noncomputable def sFormatSent (s : TSent) : Option (List UInt8) :=
  chk (s.xTop.length + 1 ≤ 9223372036854775807) <|
  (sFormatAddr s.xTo).bind fun (r1 : List UInt8) =>
  chk ((s.xTop ++ [62]).length + r1.length ≤ 9223372036854775807) <|
  br s.xGuess (
    chk (((s.xTop ++ [62]) ++ r1).length + 2 ≤ 9223372036854775807) <|
    some (((s.xTop ++ [62]) ++ r1) ++ [32, 63])
  ) (
    some ((s.xTop ++ [62]) ++ r1)
  )
theorem ei_sFormatSent (s : TSent) (k : List UInt8 → Option β) : Imp (F27 β s.xTop s.xTo.xHost s.xTo.xPath s.xGuess k) (sFormatSent s) (fun r => k r) := by
  delta F27 P27 sFormatSent
  refine Imp.chk rfl (fun _ => ?_)
  refine Imp.call rfl (ei_sFormatAddr s.xTo _) (fun r1 _ => ?_)
  refine Imp.chk rfl (fun _ => ?_)
  refine Imp.br rfl ?_ ?_
  · refine Imp.chk rfl (fun _ => ?_)
    exact Imp.ret rfl
  · exact Imp.ret rfl

/-- impl.FormatAddr -/
noncomputable def iFormatAddr (a : TAddr) : Option (List UInt8) :=
  (iIsAddr a).bind fun (r1 : Bool) =>
  br (!r1) (
    some []
  ) (
    chk (a.xHost.length + 1 ≤ 9223372036854775807) <|
    chk ((a.xHost ++ [47]).length + a.xPath.length ≤ 9223372036854775807) <|
    some ((a.xHost ++ [47]) ++ a.xPath)
  )
theorem ei_iFormatAddr (a : TAddr) (k : List UInt8 → Option β) : Imp (F44 β a.xHost a.xPath k) (iFormatAddr a) (fun r => k r) := by
  delta F44 P44 iFormatAddr
  refine Imp.call rfl (ei_iIsAddr a _) (fun r1 _ => ?_)
  refine Imp.br rfl ?_ ?_
  · exact Imp.ret rfl
  · refine Imp.chk rfl (fun _ => ?_)
    refine Imp.chk rfl (fun _ => ?_)
    exact Imp.ret rfl

/-- impl.FormatSent -/
noncomputable def iFormatSent (s : TSent) : Option (List UInt8) :=
  chk (s.xTop.length + 1 ≤ 9223372036854775807) <|
  (iFormatAddr s.xTo).bind fun (r1 : List UInt8) =>
  chk ((s.xTop ++ [62]).length + r1.length ≤ 9223372036854775807) <|
  br s.xGuess (
    chk (((s.xTop ++ [62]) ++ r1).length + 2 ≤ 9223372036854775807) <|
    some (((s.xTop ++ [62]) ++ r1) ++ [32, 63])
  ) (
    some ((s.xTop ++ [62]) ++ r1)
  )
theorem ei_iFormatSent (s : TSent) (k : List UInt8 → Option β) : Imp (F29 β s.xTop s.xTo.xHost s.xTo.xPath s.xGuess k) (iFormatSent s) (fun r => k r) := by
  delta F29 P29 iFormatSent
  refine Imp.chk rfl (fun _ => ?_)
  refine Imp.call rfl (ei_iFormatAddr s.xTo _) (fun r1 _ => ?_)
  refine Imp.chk rfl (fun _ => ?_)
  refine Imp.br rfl ?_ ?_
  · refine Imp.chk rfl (fun _ => ?_)
    exact Imp.ret rfl
  · exact Imp.ret rfl

/-- laws.FnExactFormatSent -/
noncomputable def lFnExactFormatSent (aS : TSent) : Option Bool :=
  (lszSent aS 1048576).bind fun (r1 : Int) =>
  br (decide (r1 < 0)) (
    some true
  ) (
    (ltoSent aS).bind fun (r2 : TSent) =>
    (sFormatSent r2).bind fun (r6 : List UInt8) =>
    (ltoSent aS).bind fun (r7 : TSent) =>
    (iFormatSent r7).bind fun (r11 : List UInt8) =>
    br (!(r11 == r6)) (
      some false
    ) (
      some true
    )
  )
theorem ei_lFnExactFormatSent (aS : TSent) (k : Bool → Option β) : Imp (F8 β aS.xTop aS.xTo.xHost aS.xTo.xPath aS.xGuess k) (lFnExactFormatSent aS) (fun r => k r) := by
  delta F8 P8 lFnExactFormatSent
  refine Imp.call rfl (ei_lszSent aS 1048576 _) (fun r1 _ => ?_)
  refine Imp.br rfl ?_ ?_
  · exact Imp.ret rfl
  · refine Imp.call rfl (ei_ltoSent aS _) (fun r2 _ => ?_)
    refine Imp.call rfl (ei_sFormatSent r2 _) (fun r6 _ => ?_)
    refine Imp.call rfl (ei_ltoSent aS _) (fun r7 _ => ?_)
    refine Imp.call rfl (ei_iFormatSent r7 _) (fun r11 _ => ?_)
    refine Imp.br rfl ?_ ?_
    · exact Imp.ret rfl
    · exact Imp.ret rfl

end Go.Am
