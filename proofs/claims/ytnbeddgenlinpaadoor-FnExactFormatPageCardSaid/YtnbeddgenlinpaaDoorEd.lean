/-
  Typed forms of functions of the program, written by program (eform.py): each over structures and lists, and that, where it answers, the extracted function hands on that answer.
-/
import Derived.Test.YtnbeddgenlinpaaDoorAmTyped
import Derived.Test.YtnbeddgenlinpaaDoorTy
import Derived.Test.YtnbeddgenlinpaaDoorFd
import Derived.Test.YtnbeddgenlinpaaDoorTd
set_option maxRecDepth 10000
set_option linter.unusedVariables false
namespace Go.Am
open Go Go.Proofs
variable {β : Type}
/-- spec.l1In -/
noncomputable def sl1In (x : Int) (least : Int) (most : Int) : Option Bool :=
  br (decide (x ≥ least)) (
    some (decide (x ≤ most))
  ) (
    some false
  )
theorem ei_sl1In (x : Int) (least : Int) (most : Int) (k : Bool → Option β) : Imp (F74 β x least most k) (sl1In x least most) (fun r => k r) := by
  delta F74 P74 sl1In
  refine Imp.br rfl ?_ ?_
  · exact Imp.ret rfl
  · exact Imp.ret rfl

/-- spec.KindName -/
noncomputable def sKindName (kind : Int) : Option (List UInt8) :=
  (sl1In kind 1 5).bind fun (r1 : Bool) =>
  br (!r1) (
    some []
  ) (
    chk (0 ≤ kind ∧ kind.toNat < 6) <|
    (getI [[], [112, 97, 103, 101], [115, 99, 114, 105, 112, 116], [115, 116, 121, 108, 101], [105, 109, 97, 103, 101], [109, 111, 100, 117, 108, 101]] kind).bind fun (e2 : List UInt8) =>
    some e2
  )
theorem ei_sKindName (kind : Int) (k : List UInt8 → Option β) : Imp (F26 β kind k) (sKindName kind) (fun r => k r) := by
  delta F26 P26 sKindName
  refine Imp.call rfl (ei_sl1In kind 1 5 _) (fun r1 _ => ?_)
  refine Imp.br rfl ?_ ?_
  · exact Imp.ret rfl
  · refine Imp.chk rfl (fun _ => ?_)
    refine Imp.idxAt1 (kd := .str) (g1 := fun e => e) rfl rfl (fun e2 => rfl) (fun e2 _ => ?_)
    exact Imp.ret rfl

/-- spec.FormatInt -/
noncomputable def sFormatInt (n : Int) : Option (List UInt8) :=
  br (n == 0) (
    some [48]
  ) (
    (whileE (fun (s1 : (List UInt8) × Int) => (
      br (s1.2 != 0) (
        br (decide (Int.tmod s1.2 10 < 0)) (
          chk ((strI [(IntKind.wrap .u8 (IntKind.wrap .i64 (48 + (IntKind.wrap .i64 (0 - (Int.tmod s1.2 10))))))]).length + s1.1.length ≤ 9223372036854775807) <|
          some (.inl (((strI [(IntKind.wrap .u8 (IntKind.wrap .i64 (48 + (IntKind.wrap .i64 (0 - (Int.tmod s1.2 10))))))]) ++ s1.1), (IntKind.wrap .i64 (Int.tdiv s1.2 10))))
        ) (
          chk ((strI [(IntKind.wrap .u8 (IntKind.wrap .i64 (48 + (Int.tmod s1.2 10))))]).length + s1.1.length ≤ 9223372036854775807) <|
          some (.inl (((strI [(IntKind.wrap .u8 (IntKind.wrap .i64 (48 + (Int.tmod s1.2 10))))]) ++ s1.1), (IntKind.wrap .i64 (Int.tdiv s1.2 10))))
        )
      ) (
        some (.inr s1.1)
      )
    : Option (((List UInt8) × Int) ⊕ (List UInt8)))) (([], n) : (List UInt8) × Int)).bind <|
    fun (r4 : List UInt8) =>
    br (decide (n < 0)) (
      chk (1 + r4.length ≤ 9223372036854775807) <|
      some ([45] ++ r4)
    ) (
      some r4
    )
  )
theorem ei_sFormatInt (n : Int) (k : List UInt8 → Option β) : Imp (F27 β n k) (sFormatInt n) (fun r => k r) := by
  delta F27 P27 sFormatInt
  refine Imp.br rfl ?_ ?_
  · exact Imp.ret rfl
  · refine Imp.while (enc := fun (s1 : (List UInt8) × Int) => [.i n, .s s1.1, .i s1.2]) (encR := fun (u : List UInt8) => (((0, [.i n, .s u]) : Nat × List Leaf))) rfl (fun s1 => ?_) (fun r4 => ?_)
    · refine Imp.br rfl ?_ ?_
      · refine Imp.br rfl ?_ ?_
        · refine Imp.strO (l := [(IntKind.wrap .u8 (IntKind.wrap .i64 (48 + (IntKind.wrap .i64 (0 - (Int.tmod s1.2 10))))))]) rfl ?_
          refine Imp.chk rfl (fun _ => ?_)
          exact Imp.ret rfl
        · refine Imp.strO (l := [(IntKind.wrap .u8 (IntKind.wrap .i64 (48 + (Int.tmod s1.2 10))))]) rfl ?_
          refine Imp.chk rfl (fun _ => ?_)
          exact Imp.ret rfl
      · exact Imp.ret rfl
    · refine Imp.br rfl ?_ ?_
      · refine Imp.chk rfl (fun _ => ?_)
        exact Imp.ret rfl
      · exact Imp.ret rfl

/-- spec.FormatResponse -/
noncomputable def sFormatResponse (x : TResponse) : Option (List UInt8) :=
  (sKindName x.xKind).bind fun (r1 : List UInt8) =>
  br (r1 == []) (
    (sFormatInt x.xStatus).bind fun (r2 : List UInt8) =>
    chk (r2.length + 1 ≤ 9223372036854775807) <|
    chk ((r2 ++ [32]).length + 1 ≤ 9223372036854775807) <|
    chk (((r2 ++ [32]) ++ [45]).length + 1 ≤ 9223372036854775807) <|
    (sFormatInt (x.xBody.length : Int)).bind fun (r3 : List UInt8) =>
    chk ((((r2 ++ [32]) ++ [45]) ++ [32]).length + r3.length ≤ 9223372036854775807) <|
    br x.xShares (
      chk (((((r2 ++ [32]) ++ [45]) ++ [32]) ++ r3).length + 7 ≤ 9223372036854775807) <|
      some (((((r2 ++ [32]) ++ [45]) ++ [32]) ++ r3) ++ [32, 115, 104, 97, 114, 101, 115])
    ) (
      some ((((r2 ++ [32]) ++ [45]) ++ [32]) ++ r3)
    )
  ) (
    (sFormatInt x.xStatus).bind fun (r4 : List UInt8) =>
    chk (r4.length + 1 ≤ 9223372036854775807) <|
    chk ((r4 ++ [32]).length + r1.length ≤ 9223372036854775807) <|
    chk (((r4 ++ [32]) ++ r1).length + 1 ≤ 9223372036854775807) <|
    (sFormatInt (x.xBody.length : Int)).bind fun (r5 : List UInt8) =>
    chk ((((r4 ++ [32]) ++ r1) ++ [32]).length + r5.length ≤ 9223372036854775807) <|
    br x.xShares (
      chk (((((r4 ++ [32]) ++ r1) ++ [32]) ++ r5).length + 7 ≤ 9223372036854775807) <|
      some (((((r4 ++ [32]) ++ r1) ++ [32]) ++ r5) ++ [32, 115, 104, 97, 114, 101, 115])
    ) (
      some ((((r4 ++ [32]) ++ r1) ++ [32]) ++ r5)
    )
  )
theorem ei_sFormatResponse (x : TResponse) (k : List UInt8 → Option β) : Imp (F8 β x.xStatus x.xKind x.xBody x.xAge x.xShares x.xPolicy k) (sFormatResponse x) (fun r => k r) := by
  delta F8 P8 sFormatResponse
  refine Imp.call rfl (ei_sKindName x.xKind _) (fun r1 _ => ?_)
  refine Imp.br rfl ?_ ?_
  · refine Imp.call rfl (ei_sFormatInt x.xStatus _) (fun r2 _ => ?_)
    refine Imp.chk rfl (fun _ => ?_)
    refine Imp.chk rfl (fun _ => ?_)
    refine Imp.chk rfl (fun _ => ?_)
    refine Imp.call rfl (ei_sFormatInt (x.xBody.length : Int) _) (fun r3 _ => ?_)
    refine Imp.chk rfl (fun _ => ?_)
    refine Imp.br rfl ?_ ?_
    · refine Imp.chk rfl (fun _ => ?_)
      exact Imp.ret rfl
    · exact Imp.ret rfl
  · refine Imp.call rfl (ei_sFormatInt x.xStatus _) (fun r4 _ => ?_)
    refine Imp.chk rfl (fun _ => ?_)
    refine Imp.chk rfl (fun _ => ?_)
    refine Imp.chk rfl (fun _ => ?_)
    refine Imp.call rfl (ei_sFormatInt (x.xBody.length : Int) _) (fun r5 _ => ?_)
    refine Imp.chk rfl (fun _ => ?_)
    refine Imp.br rfl ?_ ?_
    · refine Imp.chk rfl (fun _ => ?_)
      exact Imp.ret rfl
    · exact Imp.ret rfl

/-- impl.InRange -/
noncomputable def iInRange (n : Int) (low : Int) (high : Int) : Option Bool :=
  br (decide (low ≤ n)) (
    some (decide (n ≤ high))
  ) (
    some false
  )
theorem ei_iInRange (n : Int) (low : Int) (high : Int) (k : Bool → Option β) : Imp (F75 β n low high k) (iInRange n low high) (fun r => k r) := by
  delta F75 P75 iInRange
  refine Imp.br rfl ?_ ?_
  · exact Imp.ret rfl
  · exact Imp.ret rfl

/-- impl.KindName -/
noncomputable def iKindName (kind : Int) : Option (List UInt8) :=
  (iInRange kind 1 5).bind fun (r1 : Bool) =>
  br (!r1) (
    some []
  ) (
    chk (0 ≤ IntKind.wrap .i64 (kind - 1) ∧ (IntKind.wrap .i64 (kind - 1)).toNat < 5) <|
    (getI [[112, 97, 103, 101], [115, 99, 114, 105, 112, 116], [115, 116, 121, 108, 101], [105, 109, 97, 103, 101], [109, 111, 100, 117, 108, 101]] (IntKind.wrap .i64 (kind - 1))).bind fun (e2 : List UInt8) =>
    some e2
  )
theorem ei_iKindName (kind : Int) (k : List UInt8 → Option β) : Imp (F28 β kind k) (iKindName kind) (fun r => k r) := by
  delta F28 P28 iKindName
  refine Imp.call rfl (ei_iInRange kind 1 5 _) (fun r1 _ => ?_)
  refine Imp.br rfl ?_ ?_
  · exact Imp.ret rfl
  · refine Imp.chk rfl (fun _ => ?_)
    refine Imp.idxAt1 (kd := .str) (g1 := fun e => e) rfl rfl (fun e2 => rfl) (fun e2 _ => ?_)
    exact Imp.ret rfl

/-- strconv.Itoa -/
noncomputable def g_strconv_Itoa (a0 : Int) : Option (List UInt8) := itoaE a0
theorem ei_g_strconv_Itoa (a0 : Int) (k : List UInt8 → Option β) : Imp (F76 β a0 k) (g_strconv_Itoa a0) (fun r => k r) := ei_itoaE a0 k

/-- impl.FormatInt -/
noncomputable def iFormatInt (n : Int) : Option (List UInt8) :=
  (g_strconv_Itoa n).bind fun (r1 : List UInt8) =>
  some r1
theorem ei_iFormatInt (n : Int) (k : List UInt8 → Option β) : Imp (F29 β n k) (iFormatInt n) (fun r => k r) := by
  delta F29 P29 iFormatInt
  refine Imp.call rfl (ei_g_strconv_Itoa n _) (fun r1 _ => ?_)
  exact Imp.ret rfl

/-- impl.FormatResponse -/
noncomputable def iFormatResponse (x : TResponse) : Option (List UInt8) :=
  (iKindName x.xKind).bind fun (r1 : List UInt8) =>
  br (r1 == []) (
    (iFormatInt x.xStatus).bind fun (r2 : List UInt8) =>
    chk (r2.length + 1 ≤ 9223372036854775807) <|
    chk ((r2 ++ [32]).length + 1 ≤ 9223372036854775807) <|
    chk (((r2 ++ [32]) ++ [45]).length + 1 ≤ 9223372036854775807) <|
    (iFormatInt (x.xBody.length : Int)).bind fun (r3 : List UInt8) =>
    chk ((((r2 ++ [32]) ++ [45]) ++ [32]).length + r3.length ≤ 9223372036854775807) <|
    br x.xShares (
      chk (((((r2 ++ [32]) ++ [45]) ++ [32]) ++ r3).length + 7 ≤ 9223372036854775807) <|
      some (((((r2 ++ [32]) ++ [45]) ++ [32]) ++ r3) ++ [32, 115, 104, 97, 114, 101, 115])
    ) (
      some ((((r2 ++ [32]) ++ [45]) ++ [32]) ++ r3)
    )
  ) (
    (iFormatInt x.xStatus).bind fun (r4 : List UInt8) =>
    chk (r4.length + 1 ≤ 9223372036854775807) <|
    chk ((r4 ++ [32]).length + r1.length ≤ 9223372036854775807) <|
    chk (((r4 ++ [32]) ++ r1).length + 1 ≤ 9223372036854775807) <|
    (iFormatInt (x.xBody.length : Int)).bind fun (r5 : List UInt8) =>
    chk ((((r4 ++ [32]) ++ r1) ++ [32]).length + r5.length ≤ 9223372036854775807) <|
    br x.xShares (
      chk (((((r4 ++ [32]) ++ r1) ++ [32]) ++ r5).length + 7 ≤ 9223372036854775807) <|
      some (((((r4 ++ [32]) ++ r1) ++ [32]) ++ r5) ++ [32, 115, 104, 97, 114, 101, 115])
    ) (
      some ((((r4 ++ [32]) ++ r1) ++ [32]) ++ r5)
    )
  )
theorem ei_iFormatResponse (x : TResponse) (k : List UInt8 → Option β) : Imp (F10 β x.xStatus x.xKind x.xBody x.xAge x.xShares x.xPolicy k) (iFormatResponse x) (fun r => k r) := by
  delta F10 P10 iFormatResponse
  refine Imp.call rfl (ei_iKindName x.xKind _) (fun r1 _ => ?_)
  refine Imp.br rfl ?_ ?_
  · refine Imp.call rfl (ei_iFormatInt x.xStatus _) (fun r2 _ => ?_)
    refine Imp.chk rfl (fun _ => ?_)
    refine Imp.chk rfl (fun _ => ?_)
    refine Imp.chk rfl (fun _ => ?_)
    refine Imp.call rfl (ei_iFormatInt (x.xBody.length : Int) _) (fun r3 _ => ?_)
    refine Imp.chk rfl (fun _ => ?_)
    refine Imp.br rfl ?_ ?_
    · refine Imp.chk rfl (fun _ => ?_)
      exact Imp.ret rfl
    · exact Imp.ret rfl
  · refine Imp.call rfl (ei_iFormatInt x.xStatus _) (fun r4 _ => ?_)
    refine Imp.chk rfl (fun _ => ?_)
    refine Imp.chk rfl (fun _ => ?_)
    refine Imp.chk rfl (fun _ => ?_)
    refine Imp.call rfl (ei_iFormatInt (x.xBody.length : Int) _) (fun r5 _ => ?_)
    refine Imp.chk rfl (fun _ => ?_)
    refine Imp.br rfl ?_ ?_
    · refine Imp.chk rfl (fun _ => ?_)
      exact Imp.ret rfl
    · exact Imp.ret rfl

/-- laws.FnExactFormatResponse -/
noncomputable def lFnExactFormatResponse (aX : TResponse) : Option Bool :=
  (lszResponse aX 1048576).bind fun (r1 : Int) =>
  br (decide (r1 < 0)) (
    some true
  ) (
    (ltoResponse aX).bind fun (r2 : TResponse) =>
    (sFormatResponse r2).bind fun (r8 : List UInt8) =>
    (ltoResponse aX).bind fun (r9 : TResponse) =>
    (iFormatResponse r9).bind fun (r15 : List UInt8) =>
    br (!(r15 == r8)) (
      some false
    ) (
      some true
    )
  )
theorem ei_lFnExactFormatResponse (aX : TResponse) (k : Bool → Option β) : Imp (F3 β aX.xStatus aX.xKind aX.xBody aX.xAge aX.xShares aX.xPolicy k) (lFnExactFormatResponse aX) (fun r => k r) := by
  delta F3 P3 lFnExactFormatResponse
  refine Imp.call rfl (ei_lszResponse aX 1048576 _) (fun r1 _ => ?_)
  refine Imp.br rfl ?_ ?_
  · exact Imp.ret rfl
  · refine Imp.call rfl (ei_ltoResponse aX _) (fun r2 _ => ?_)
    refine Imp.call rfl (ei_sFormatResponse r2 _) (fun r8 _ => ?_)
    refine Imp.call rfl (ei_ltoResponse aX _) (fun r9 _ => ?_)
    refine Imp.call rfl (ei_iFormatResponse r9 _) (fun r15 _ => ?_)
    refine Imp.br rfl ?_ ?_
    · exact Imp.ret rfl
    · exact Imp.ret rfl

/-- spec.FreshEntries -/
noncomputable def sFreshEntries (c : TCache) (now : Int) : Option Int :=
  (forE c.xEntries (fun (i_1 : Nat) (x_1 : TEntry) (s1 : Int) => (
    br (decide (x_1.xUntil ≥ now)) (
      some (.inl (IntKind.wrap .i64 (s1 + 1)))
    ) (
      some (.inl s1)
    )
  : Option (Int ⊕ Int))) (fun (s1 : Int) => (s1 : Int)) (0 : Int)).bind <|
  fun (r3 : Int) =>
  some r3
theorem ei_sFreshEntries (c : TCache) (now : Int) (k : Int → Option β) : Imp (F31 β (rows kEntry TEntry.row c.xEntries) now k) (sFreshEntries c now) (fun r => k r) := by
  delta F31 P31 sFreshEntries
  refine Imp.for (enc := fun (i_1 : Nat) (s1 : Int) => [.i now, .i s1, .i (i_1 : Int), .l (rows kEntry TEntry.row c.xEntries)]) (encR := fun (u : Int) => (((0, [.i u]) : Nat × List Leaf))) rfl (fun i_1 x_1 s1 hx1 hl1 hm1 => Imp.brT (T_lt (ks := kEntry) (g := TEntry.row) hl1) ?_) (fun s1 => brN (T_irr (ks := kEntry) (g := TEntry.row) c.xEntries) rfl) (fun r3 => ?_)
  · refine Imp.idxFor (ks := kEntry) (g := TEntry.row) hx1 ?_
    refine Imp.br rfl ?_ ?_
    · exact Imp.ret (c1 (fun (h1 : Int) => (some (Sum.inl [.i now, .i (IntKind.wrap .i64 (s1 + 1)), .i h1, .l (rows kEntry TEntry.row c.xEntries)]) : Option (List Leaf ⊕ (Nat × List Leaf)))) (wrapJ hl1))
    · exact Imp.ret (c1 (fun (h1 : Int) => (some (Sum.inl [.i now, .i s1, .i h1, .l (rows kEntry TEntry.row c.xEntries)]) : Option (List Leaf ⊕ (Nat × List Leaf)))) (wrapJ hl1))
  · exact Imp.ret rfl

/-- spec.FormatCache -/
noncomputable def sFormatCache (c : TCache) (now : Int) : Option (List UInt8) :=
  (sFreshEntries c now).bind fun (r1 : Int) =>
  (sFormatInt r1).bind fun (r2 : List UInt8) =>
  chk (r2.length + 1 ≤ 9223372036854775807) <|
  (sFormatInt (c.xEntries.length : Int)).bind fun (r3 : List UInt8) =>
  chk ((r2 ++ [47]).length + r3.length ≤ 9223372036854775807) <|
  some ((r2 ++ [47]) ++ r3)
theorem ei_sFormatCache (c : TCache) (now : Int) (k : List UInt8 → Option β) : Imp (F12 β (rows kEntry TEntry.row c.xEntries) now k) (sFormatCache c now) (fun r => k r) := by
  delta F12 P12 sFormatCache
  refine Imp.call rfl (ei_sFreshEntries c now _) (fun r1 _ => ?_)
  refine Imp.call rfl (ei_sFormatInt r1 _) (fun r2 _ => ?_)
  refine Imp.chk rfl (fun _ => ?_)
  refine Imp.call (c1 (fun (w1 : Int) => F27 _ w1) (c1 (fun z0 : Nat => (z0 : Int)) (T_len (ks := kEntry) (g := TEntry.row) c.xEntries))) (ei_sFormatInt (c.xEntries.length : Int) _) (fun r3 _ => ?_)
  refine Imp.chk rfl (fun _ => ?_)
  exact Imp.ret rfl

/-- impl.FreshEntries -/
noncomputable def iFreshEntries (c : TCache) (now : Int) : Option Int :=
  (forE c.xEntries (fun (i_1 : Nat) (x_1 : TEntry) (s1 : Int) => (
    br (decide (x_1.xUntil ≥ now)) (
      some (.inl (IntKind.wrap .i64 (s1 + 1)))
    ) (
      some (.inl s1)
    )
  : Option (Int ⊕ Int))) (fun (s1 : Int) => (s1 : Int)) (0 : Int)).bind <|
  fun (r3 : Int) =>
  some r3
theorem ei_iFreshEntries (c : TCache) (now : Int) (k : Int → Option β) : Imp (F33 β (rows kEntry TEntry.row c.xEntries) now k) (iFreshEntries c now) (fun r => k r) := by
  delta F33 P33 iFreshEntries
  refine Imp.for (enc := fun (i_1 : Nat) (s1 : Int) => [.i now, .i s1, .l (rows kEntry TEntry.row c.xEntries), .i (c.xEntries.length : Int), .i (i_1 : Int)]) (encR := fun (u : Int) => (((0, [.i u]) : Nat × List Leaf))) (c1 (fun (h1 : Int) => ([.i now, .i 0, .l (rows kEntry TEntry.row c.xEntries), .i h1, .i 0] : List Leaf)) (c1 (fun z0 : Nat => (z0 : Int)) (T_len (ks := kEntry) (g := TEntry.row) c.xEntries))) (fun i_1 x_1 s1 hx1 hl1 hm1 => Imp.brT (Int.ofNat_lt.2 hl1) ?_) (fun s1 => brN (Int.lt_irrefl _) rfl) (fun r3 => ?_)
  · refine Imp.idxFor (ks := kEntry) (g := TEntry.row) hx1 ?_
    refine Imp.br rfl ?_ ?_
    · exact Imp.ret (c1 (fun (h1 : Int) => (some (Sum.inl [.i now, .i (IntKind.wrap .i64 (s1 + 1)), .l (rows kEntry TEntry.row c.xEntries), .i (c.xEntries.length : Int), .i h1]) : Option (List Leaf ⊕ (Nat × List Leaf)))) (wrapJ hl1))
    · exact Imp.ret (c1 (fun (h1 : Int) => (some (Sum.inl [.i now, .i s1, .l (rows kEntry TEntry.row c.xEntries), .i (c.xEntries.length : Int), .i h1]) : Option (List Leaf ⊕ (Nat × List Leaf)))) (wrapJ hl1))
  · exact Imp.ret rfl

/-- impl.FormatCache -/
noncomputable def iFormatCache (c : TCache) (now : Int) : Option (List UInt8) :=
  (iFreshEntries c now).bind fun (r1 : Int) =>
  (iFormatInt r1).bind fun (r2 : List UInt8) =>
  chk (r2.length + 1 ≤ 9223372036854775807) <|
  (iFormatInt (c.xEntries.length : Int)).bind fun (r3 : List UInt8) =>
  chk ((r2 ++ [47]).length + r3.length ≤ 9223372036854775807) <|
  some ((r2 ++ [47]) ++ r3)
theorem ei_iFormatCache (c : TCache) (now : Int) (k : List UInt8 → Option β) : Imp (F14 β (rows kEntry TEntry.row c.xEntries) now k) (iFormatCache c now) (fun r => k r) := by
  delta F14 P14 iFormatCache
  refine Imp.call rfl (ei_iFreshEntries c now _) (fun r1 _ => ?_)
  refine Imp.call rfl (ei_iFormatInt r1 _) (fun r2 _ => ?_)
  refine Imp.chk rfl (fun _ => ?_)
  refine Imp.call (c1 (fun (w1 : Int) => F29 _ w1) (c1 (fun z0 : Nat => (z0 : Int)) (T_len (ks := kEntry) (g := TEntry.row) c.xEntries))) (ei_iFormatInt (c.xEntries.length : Int) _) (fun r3 _ => ?_)
  refine Imp.chk rfl (fun _ => ?_)
  exact Imp.ret rfl

/-- laws.FnExactFormatCache -/
noncomputable def lFnExactFormatCache (aC : TCache) (aNow : Int) : Option Bool :=
  (lszCache aC 1048576).bind fun (r1 : Int) =>
  br (decide (r1 < 0)) (
    some true
  ) (
    (ltoCache aC).bind fun (r2 : TCache) =>
    (sFormatCache r2 aNow).bind fun (r3 : List UInt8) =>
    (ltoCache aC).bind fun (r4 : TCache) =>
    (iFormatCache r4 aNow).bind fun (r5 : List UInt8) =>
    br (!(r5 == r3)) (
      some false
    ) (
      (ltoCache aC).bind fun (r6 : TCache) =>
      (leqCache r4 r6).bind fun (r7 : Bool) =>
      br (!r7) (
        some false
      ) (
        some true
      )
    )
  )
theorem ei_lFnExactFormatCache (aC : TCache) (aNow : Int) (k : Bool → Option β) : Imp (F4 β (rows kEntry TEntry.row aC.xEntries) aNow k) (lFnExactFormatCache aC aNow) (fun r => k r) := by
  delta F4 P4 lFnExactFormatCache
  refine Imp.call rfl (ei_lszCache aC 1048576 _) (fun r1 _ => ?_)
  refine Imp.br rfl ?_ ?_
  · exact Imp.ret rfl
  · refine Imp.call rfl (ei_ltoCache aC _) (fun r2 _ => ?_)
    refine Imp.call rfl (ei_sFormatCache r2 aNow _) (fun r3 _ => ?_)
    refine Imp.call rfl (ei_ltoCache aC _) (fun r4 _ => ?_)
    refine Imp.call rfl (ei_iFormatCache r4 aNow _) (fun r5 _ => ?_)
    refine Imp.br rfl ?_ ?_
    · exact Imp.ret rfl
    · refine Imp.call rfl (ei_ltoCache aC _) (fun r6 _ => ?_)
      refine Imp.call rfl (ei_leqCache r4 r6 _) (fun r7 _ => ?_)
      refine Imp.br rfl ?_ ?_
      · exact Imp.ret rfl
      · exact Imp.ret rfl

/-- spec.IsName -/
noncomputable def sIsName (s : List UInt8) : Option Bool :=
  (forE s (fun (i_1 : Nat) (x_1 : UInt8) (s1 : Unit) => (
    br (decide ((x_1.toNat : Int) < 97)) (
      some (.inr (.inl ()))
    ) (
      br (decide ((x_1.toNat : Int) > 122)) (
        some (.inr (.inl ()))
      ) (
        some (.inl ())
      )
    )
  : Option (Unit ⊕ (Unit ⊕ Unit)))) (fun (s1 : Unit) => (.inr () : Unit ⊕ Unit)) (() : Unit)).bind <|
  Sum.elim
    (fun (r4 : Unit) =>
      some false
    )
    (fun (r4 : Unit) =>
      (sl1In (s.length : Int) 1 8).bind fun (r5 : Bool) =>
      some r5
    )
theorem ei_sIsName (s : List UInt8) (k : Bool → Option β) : Imp (F82 β s k) (sIsName s) (fun r => k r) := by
  delta F82 P82 sIsName
  refine Imp.for (enc := fun (i_1 : Nat) (s1 : Unit) => [.s s, .i (i_1 : Int)]) (encR := Sum.elim (fun (u : Unit) => (((0, [.s s, .b false]) : Nat × List Leaf))) (fun (u : Unit) => (((1, [.s s]) : Nat × List Leaf)))) rfl (fun i_1 x_1 s1 hx1 hl1 hm1 => Imp.brT (Int.ofNat_lt.2 hl1) ?_) (fun s1 => brN (Int.lt_irrefl _) rfl) (fun r4 => ?_)
  · refine Imp.idxSFor hx1 ?_
    refine Imp.br rfl ?_ ?_
    · exact Imp.ret rfl
    · refine Imp.idxSFor hx1 ?_
      refine Imp.br rfl ?_ ?_
      · exact Imp.ret rfl
      · exact Imp.ret (c1 (fun (h1 : Int) => (some (Sum.inl [.s s, .i h1]) : Option (List Leaf ⊕ (Nat × List Leaf)))) (wrapJ hl1))
  · cases r4 with
    | inl r4 =>
      refine Imp.ifT rfl ?_
      exact Imp.ret rfl
    | inr r4 =>
      refine Imp.ifF (show ¬ ((1 : Nat) = 0) by decide) ?_
      refine Imp.call rfl (ei_sl1In (s.length : Int) 1 8 _) (fun r5 _ => ?_)
      exact Imp.ret rfl

/-- spec.IsAddr -/
noncomputable def sIsAddr (a : TAddr) : Option Bool :=
  (sIsName a.xHost).bind fun (r1 : Bool) =>
  br r1 (
    (sIsName a.xPath).bind fun (r2 : Bool) =>
    some r2
  ) (
    some false
  )
theorem ei_sIsAddr (a : TAddr) (k : Bool → Option β) : Imp (F83 β a.xHost a.xPath k) (sIsAddr a) (fun r => k r) := by
  delta F83 P83 sIsAddr
  refine Imp.call rfl (ei_sIsName a.xHost _) (fun r1 _ => ?_)
  refine Imp.br rfl ?_ ?_
  · refine Imp.call rfl (ei_sIsName a.xPath _) (fun r2 _ => ?_)
    exact Imp.ret rfl
  · exact Imp.ret rfl

/-- spec.FormatAddr -/
noncomputable def sFormatAddr (a : TAddr) : Option (List UInt8) :=
  (sIsAddr a).bind fun (r1 : Bool) =>
  br (!r1) (
    some []
  ) (
    chk (a.xHost.length + 1 ≤ 9223372036854775807) <|
    chk ((a.xHost ++ [47]).length + a.xPath.length ≤ 9223372036854775807) <|
    some ((a.xHost ++ [47]) ++ a.xPath)
  )
theorem ei_sFormatAddr (a : TAddr) (k : List UInt8 → Option β) : Imp (F52 β a.xHost a.xPath k) (sFormatAddr a) (fun r => k r) := by
  delta F52 P52 sFormatAddr
  refine Imp.call rfl (ei_sIsAddr a _) (fun r1 _ => ?_)
  refine Imp.br rfl ?_ ?_
  · exact Imp.ret rfl
  · refine Imp.chk rfl (fun _ => ?_)
    refine Imp.chk rfl (fun _ => ?_)
    exact Imp.ret rfl

/-- spec.IsComplete -/
noncomputable def sIsComplete (p : TPage) : Option Bool :=
  some p.xLoaded
theorem ei_sIsComplete (p : TPage) (k : Bool → Option β) : Imp (F53 β p.xAddr.xHost p.xAddr.xPath p.xPolicy.xSet (rStr p.xPolicy.xScripts) (rStr p.xPolicy.xStyles) (rStr p.xPolicy.xImages) p.xPolicy.xNonce p.xTok.xRest (rows kToken TToken.row p.xQueue) p.xEnded (rows kNode TNode.row p.xBuilder.xNodes) (rInt p.xBuilder.xOpen) (rows kSlot TSlot.row p.xSlots) (rows kModule TModule.row p.xMods) (rows kAddr TAddr.row p.xEntries) p.xBlock p.xInline p.xDeferred p.xEntered (rows kAddr TAddr.row p.xRan) (rStr p.xLog) p.xLoaded k) (sIsComplete p) (fun r => k r) := by
  delta F53 P53 sIsComplete
  exact Imp.ret rfl

/-- spec.FormatPage -/
noncomputable def sFormatPage (p : TPage) : Option (List UInt8) :=
  (sFormatAddr p.xAddr).bind fun (r1 : List UInt8) =>
  chk (r1.length + 1 ≤ 9223372036854775807) <|
  (sFormatInt (p.xBuilder.xNodes.length : Int)).bind fun (r2 : List UInt8) =>
  chk ((r1 ++ [32]).length + r2.length ≤ 9223372036854775807) <|
  chk (((r1 ++ [32]) ++ r2).length + 1 ≤ 9223372036854775807) <|
  (sFormatInt (p.xSlots.length : Int)).bind fun (r3 : List UInt8) =>
  chk ((((r1 ++ [32]) ++ r2) ++ [47]).length + r3.length ≤ 9223372036854775807) <|
  chk (((((r1 ++ [32]) ++ r2) ++ [47]) ++ r3).length + 1 ≤ 9223372036854775807) <|
  (sFormatInt (p.xMods.length : Int)).bind fun (r4 : List UInt8) =>
  chk ((((((r1 ++ [32]) ++ r2) ++ [47]) ++ r3) ++ [47]).length + r4.length ≤ 9223372036854775807) <|
  (sIsComplete p).bind fun (r5 : Bool) =>
  br r5 (
    chk (((((((r1 ++ [32]) ++ r2) ++ [47]) ++ r3) ++ [47]) ++ r4).length + 7 ≤ 9223372036854775807) <|
    some (((((((r1 ++ [32]) ++ r2) ++ [47]) ++ r3) ++ [47]) ++ r4) ++ [32, 108, 111, 97, 100, 101, 100])
  ) (
    some ((((((r1 ++ [32]) ++ r2) ++ [47]) ++ r3) ++ [47]) ++ r4)
  )
theorem ei_sFormatPage (p : TPage) (k : List UInt8 → Option β) : Imp (F22 β p.xAddr.xHost p.xAddr.xPath p.xPolicy.xSet (rStr p.xPolicy.xScripts) (rStr p.xPolicy.xStyles) (rStr p.xPolicy.xImages) p.xPolicy.xNonce p.xTok.xRest (rows kToken TToken.row p.xQueue) p.xEnded (rows kNode TNode.row p.xBuilder.xNodes) (rInt p.xBuilder.xOpen) (rows kSlot TSlot.row p.xSlots) (rows kModule TModule.row p.xMods) (rows kAddr TAddr.row p.xEntries) p.xBlock p.xInline p.xDeferred p.xEntered (rows kAddr TAddr.row p.xRan) (rStr p.xLog) p.xLoaded k) (sFormatPage p) (fun r => k r) := by
  delta F22 P22 sFormatPage
  refine Imp.call rfl (ei_sFormatAddr p.xAddr _) (fun r1 _ => ?_)
  refine Imp.chk rfl (fun _ => ?_)
  refine Imp.call (c1 (fun (w1 : Int) => F27 _ w1) (c1 (fun z0 : Nat => (z0 : Int)) (T_len (ks := kNode) (g := TNode.row) p.xBuilder.xNodes))) (ei_sFormatInt (p.xBuilder.xNodes.length : Int) _) (fun r2 _ => ?_)
  refine Imp.chk rfl (fun _ => ?_)
  refine Imp.chk rfl (fun _ => ?_)
  refine Imp.call (c1 (fun (w1 : Int) => F27 _ w1) (c1 (fun z0 : Nat => (z0 : Int)) (T_len (ks := kSlot) (g := TSlot.row) p.xSlots))) (ei_sFormatInt (p.xSlots.length : Int) _) (fun r3 _ => ?_)
  refine Imp.chk rfl (fun _ => ?_)
  refine Imp.chk rfl (fun _ => ?_)
  refine Imp.call (c1 (fun (w1 : Int) => F27 _ w1) (c1 (fun z0 : Nat => (z0 : Int)) (T_len (ks := kModule) (g := TModule.row) p.xMods))) (ei_sFormatInt (p.xMods.length : Int) _) (fun r4 _ => ?_)
  refine Imp.chk rfl (fun _ => ?_)
  refine Imp.call rfl (ei_sIsComplete p _) (fun r5 _ => ?_)
  refine Imp.br rfl ?_ ?_
  · refine Imp.chk rfl (fun _ => ?_)
    exact Imp.ret rfl
  · exact Imp.ret rfl

/-- impl.IsName -/
noncomputable def iIsName (s : List UInt8) : Option Bool :=
  (forE s (fun (i_1 : Nat) (x_1 : UInt8) (s1 : Unit) => (
    br (decide ((x_1.toNat : Int) < 97)) (
      some (.inr (.inl ()))
    ) (
      br (decide ((x_1.toNat : Int) > 122)) (
        some (.inr (.inl ()))
      ) (
        some (.inl ())
      )
    )
  : Option (Unit ⊕ (Unit ⊕ Unit)))) (fun (s1 : Unit) => (.inr () : Unit ⊕ Unit)) (() : Unit)).bind <|
  Sum.elim
    (fun (r4 : Unit) =>
      some false
    )
    (fun (r4 : Unit) =>
      (iInRange (s.length : Int) 1 8).bind fun (r5 : Bool) =>
      some r5
    )
theorem ei_iIsName (s : List UInt8) (k : Bool → Option β) : Imp (F88 β s k) (iIsName s) (fun r => k r) := by
  delta F88 P88 iIsName
  refine Imp.for (enc := fun (i_1 : Nat) (s1 : Unit) => [.s s, .i (i_1 : Int)]) (encR := Sum.elim (fun (u : Unit) => (((0, [.s s, .b false]) : Nat × List Leaf))) (fun (u : Unit) => (((1, [.s s]) : Nat × List Leaf)))) rfl (fun i_1 x_1 s1 hx1 hl1 hm1 => Imp.brT (Int.ofNat_lt.2 hl1) ?_) (fun s1 => brN (Int.lt_irrefl _) rfl) (fun r4 => ?_)
  · refine Imp.idxSFor hx1 ?_
    refine Imp.br rfl ?_ ?_
    · exact Imp.ret rfl
    · refine Imp.idxSFor hx1 ?_
      refine Imp.br rfl ?_ ?_
      · exact Imp.ret rfl
      · exact Imp.ret (c1 (fun (h1 : Int) => (some (Sum.inl [.s s, .i h1]) : Option (List Leaf ⊕ (Nat × List Leaf)))) (wrapJ hl1))
  · cases r4 with
    | inl r4 =>
      refine Imp.ifT rfl ?_
      exact Imp.ret rfl
    | inr r4 =>
      refine Imp.ifF (show ¬ ((1 : Nat) = 0) by decide) ?_
      refine Imp.call rfl (ei_iInRange (s.length : Int) 1 8 _) (fun r5 _ => ?_)
      exact Imp.ret rfl

/-- impl.IsAddr -/
noncomputable def iIsAddr (a : TAddr) : Option Bool :=
  (iIsName a.xHost).bind fun (r1 : Bool) =>
  br r1 (
    (iIsName a.xPath).bind fun (r2 : Bool) =>
    some r2
  ) (
    some false
  )
theorem ei_iIsAddr (a : TAddr) (k : Bool → Option β) : Imp (F89 β a.xHost a.xPath k) (iIsAddr a) (fun r => k r) := by
  delta F89 P89 iIsAddr
  refine Imp.call rfl (ei_iIsName a.xHost _) (fun r1 _ => ?_)
  refine Imp.br rfl ?_ ?_
  · refine Imp.call rfl (ei_iIsName a.xPath _) (fun r2 _ => ?_)
    exact Imp.ret rfl
  · exact Imp.ret rfl

/-- impl.FormatAddr -/
noncomputable def iFormatAddr (a : TAddr) : Option (List UInt8) :=
  (iIsAddr a).bind fun (r1 : Bool) =>
  br (!r1) (
    some []
  ) (
    chk (a.xHost.length + 1 ≤ 9223372036854775807) <|
    chk ((a.xHost ++ [47]).length + a.xPath.length ≤ 9223372036854775807) <|
    some ((a.xHost ++ [47]) ++ a.xPath)
  )
theorem ei_iFormatAddr (a : TAddr) (k : List UInt8 → Option β) : Imp (F63 β a.xHost a.xPath k) (iFormatAddr a) (fun r => k r) := by
  delta F63 P63 iFormatAddr
  refine Imp.call rfl (ei_iIsAddr a _) (fun r1 _ => ?_)
  refine Imp.br rfl ?_ ?_
  · exact Imp.ret rfl
  · refine Imp.chk rfl (fun _ => ?_)
    refine Imp.chk rfl (fun _ => ?_)
    exact Imp.ret rfl

/-- impl.IsComplete -/
noncomputable def iIsComplete (p : TPage) : Option Bool :=
  some p.xLoaded
theorem ei_iIsComplete (p : TPage) (k : Bool → Option β) : Imp (F64 β p.xAddr.xHost p.xAddr.xPath p.xPolicy.xSet (rStr p.xPolicy.xScripts) (rStr p.xPolicy.xStyles) (rStr p.xPolicy.xImages) p.xPolicy.xNonce p.xTok.xRest (rows kToken TToken.row p.xQueue) p.xEnded (rows kNode TNode.row p.xBuilder.xNodes) (rInt p.xBuilder.xOpen) (rows kSlot TSlot.row p.xSlots) (rows kModule TModule.row p.xMods) (rows kAddr TAddr.row p.xEntries) p.xBlock p.xInline p.xDeferred p.xEntered (rows kAddr TAddr.row p.xRan) (rStr p.xLog) p.xLoaded k) (iIsComplete p) (fun r => k r) := by
  delta F64 P64 iIsComplete
  exact Imp.ret rfl

/-- impl.FormatPage -/
noncomputable def iFormatPage (p : TPage) : Option (List UInt8) :=
  (iFormatAddr p.xAddr).bind fun (r1 : List UInt8) =>
  chk (r1.length + 1 ≤ 9223372036854775807) <|
  (iFormatInt (p.xBuilder.xNodes.length : Int)).bind fun (r2 : List UInt8) =>
  chk ((r1 ++ [32]).length + r2.length ≤ 9223372036854775807) <|
  chk (((r1 ++ [32]) ++ r2).length + 1 ≤ 9223372036854775807) <|
  (iFormatInt (p.xSlots.length : Int)).bind fun (r3 : List UInt8) =>
  chk ((((r1 ++ [32]) ++ r2) ++ [47]).length + r3.length ≤ 9223372036854775807) <|
  chk (((((r1 ++ [32]) ++ r2) ++ [47]) ++ r3).length + 1 ≤ 9223372036854775807) <|
  (iFormatInt (p.xMods.length : Int)).bind fun (r4 : List UInt8) =>
  chk ((((((r1 ++ [32]) ++ r2) ++ [47]) ++ r3) ++ [47]).length + r4.length ≤ 9223372036854775807) <|
  (iIsComplete p).bind fun (r5 : Bool) =>
  br r5 (
    chk (((((((r1 ++ [32]) ++ r2) ++ [47]) ++ r3) ++ [47]) ++ r4).length + 7 ≤ 9223372036854775807) <|
    some (((((((r1 ++ [32]) ++ r2) ++ [47]) ++ r3) ++ [47]) ++ r4) ++ [32, 108, 111, 97, 100, 101, 100])
  ) (
    some ((((((r1 ++ [32]) ++ r2) ++ [47]) ++ r3) ++ [47]) ++ r4)
  )
theorem ei_iFormatPage (p : TPage) (k : List UInt8 → Option β) : Imp (F24 β p.xAddr.xHost p.xAddr.xPath p.xPolicy.xSet (rStr p.xPolicy.xScripts) (rStr p.xPolicy.xStyles) (rStr p.xPolicy.xImages) p.xPolicy.xNonce p.xTok.xRest (rows kToken TToken.row p.xQueue) p.xEnded (rows kNode TNode.row p.xBuilder.xNodes) (rInt p.xBuilder.xOpen) (rows kSlot TSlot.row p.xSlots) (rows kModule TModule.row p.xMods) (rows kAddr TAddr.row p.xEntries) p.xBlock p.xInline p.xDeferred p.xEntered (rows kAddr TAddr.row p.xRan) (rStr p.xLog) p.xLoaded k) (iFormatPage p) (fun r => k r) := by
  delta F24 P24 iFormatPage
  refine Imp.call rfl (ei_iFormatAddr p.xAddr _) (fun r1 _ => ?_)
  refine Imp.chk rfl (fun _ => ?_)
  refine Imp.call (c1 (fun (w1 : Int) => F29 _ w1) (c1 (fun z0 : Nat => (z0 : Int)) (T_len (ks := kNode) (g := TNode.row) p.xBuilder.xNodes))) (ei_iFormatInt (p.xBuilder.xNodes.length : Int) _) (fun r2 _ => ?_)
  refine Imp.chk rfl (fun _ => ?_)
  refine Imp.chk rfl (fun _ => ?_)
  refine Imp.call (c1 (fun (w1 : Int) => F29 _ w1) (c1 (fun z0 : Nat => (z0 : Int)) (T_len (ks := kSlot) (g := TSlot.row) p.xSlots))) (ei_iFormatInt (p.xSlots.length : Int) _) (fun r3 _ => ?_)
  refine Imp.chk rfl (fun _ => ?_)
  refine Imp.chk rfl (fun _ => ?_)
  refine Imp.call (c1 (fun (w1 : Int) => F29 _ w1) (c1 (fun z0 : Nat => (z0 : Int)) (T_len (ks := kModule) (g := TModule.row) p.xMods))) (ei_iFormatInt (p.xMods.length : Int) _) (fun r4 _ => ?_)
  refine Imp.chk rfl (fun _ => ?_)
  refine Imp.call rfl (ei_iIsComplete p _) (fun r5 _ => ?_)
  refine Imp.br rfl ?_ ?_
  · refine Imp.chk rfl (fun _ => ?_)
    exact Imp.ret rfl
  · exact Imp.ret rfl

/-- laws.FnExactFormatPage -/
noncomputable def lFnExactFormatPage (aP : TPage) : Option Bool :=
  (lszPage aP 1048576).bind fun (r1 : Int) =>
  br (decide (r1 < 0)) (
    some true
  ) (
    (ltoPage aP).bind fun (r2 : TPage) =>
    (sFormatPage r2).bind fun (r24 : List UInt8) =>
    (ltoPage aP).bind fun (r25 : TPage) =>
    (iFormatPage r25).bind fun (r47 : List UInt8) =>
    br (!(r47 == r24)) (
      some false
    ) (
      (ltoPage aP).bind fun (r48 : TPage) =>
      (leqPage r25 r48).bind fun (r70 : Bool) =>
      br (!r70) (
        some false
      ) (
        some true
      )
    )
  )
theorem ei_lFnExactFormatPage (aP : TPage) (k : Bool → Option β) : Imp (F6 β aP.xAddr.xHost aP.xAddr.xPath aP.xPolicy.xSet (rStr aP.xPolicy.xScripts) (rStr aP.xPolicy.xStyles) (rStr aP.xPolicy.xImages) aP.xPolicy.xNonce aP.xTok.xRest (rows kToken TToken.row aP.xQueue) aP.xEnded (rows kNode TNode.row aP.xBuilder.xNodes) (rInt aP.xBuilder.xOpen) (rows kSlot TSlot.row aP.xSlots) (rows kModule TModule.row aP.xMods) (rows kAddr TAddr.row aP.xEntries) aP.xBlock aP.xInline aP.xDeferred aP.xEntered (rows kAddr TAddr.row aP.xRan) (rStr aP.xLog) aP.xLoaded k) (lFnExactFormatPage aP) (fun r => k r) := by
  delta F6 P6 lFnExactFormatPage
  refine Imp.call rfl (ei_lszPage aP 1048576 _) (fun r1 _ => ?_)
  refine Imp.br rfl ?_ ?_
  · exact Imp.ret rfl
  · refine Imp.call rfl (ei_ltoPage aP _) (fun r2 _ => ?_)
    refine Imp.call rfl (ei_sFormatPage r2 _) (fun r24 _ => ?_)
    refine Imp.call rfl (ei_ltoPage aP _) (fun r25 _ => ?_)
    refine Imp.call rfl (ei_iFormatPage r25 _) (fun r47 _ => ?_)
    refine Imp.br rfl ?_ ?_
    · exact Imp.ret rfl
    · refine Imp.call rfl (ei_ltoPage aP _) (fun r48 _ => ?_)
      refine Imp.call rfl (ei_leqPage r25 r48 _) (fun r70 _ => ?_)
      refine Imp.br rfl ?_ ?_
      · exact Imp.ret rfl
      · exact Imp.ret rfl

end Go.Am
