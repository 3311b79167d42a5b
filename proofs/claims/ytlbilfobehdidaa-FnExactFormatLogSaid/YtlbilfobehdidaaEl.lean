/-
  Typed forms of functions of the program, written by program (eform.py): each over structures and lists, and that, where it answers, the extracted function hands on that answer.
-/
import Derived.Test.YtlbilfobehdidaaAmTyped
import Derived.Test.YtlbilfobehdidaaTy
import Derived.Test.YtlbilfobehdidaaFl
import Derived.Test.YtlbilfobehdidaaTl
set_option maxRecDepth 10000
set_option linter.unusedVariables false
namespace Go.Am
open Go Go.Proofs
variable {β : Type}
/-- spec.l39Join -/
noncomputable def sl39Join (l : List (List UInt8)) (xby : List UInt8) : Option (List UInt8) :=
  br ((l.length : Int) == 0) (
    some [45]
  ) (
    (getI l (0 : Int)).bind fun (e1 : List UInt8) =>
    (whileE (fun (s2 : (List UInt8) × Int) => (
      br (decide (s2.2 < (l.length : Int))) (
        chk (s2.1.length + xby.length ≤ 9223372036854775807) <|
        (getI l s2.2).bind fun (e3 : List UInt8) =>
        chk ((s2.1 ++ xby).length + e3.length ≤ 9223372036854775807) <|
        some (.inl (((s2.1 ++ xby) ++ e3), (IntKind.wrap .i64 (s2.2 + 1))))
      ) (
        some (.inr s2.1)
      )
    : Option (((List UInt8) × Int) ⊕ (List UInt8)))) ((e1, 1) : (List UInt8) × Int)).bind <|
    fun (r4 : List UInt8) =>
    some r4
  )
theorem ei_sl39Join (l : List (List UInt8)) (xby : List UInt8) (k : List UInt8 → Option β) : Imp (F45 β (rStr l) xby k) (sl39Join l xby) (fun r => k r) := by
  delta F45 P45 sl39Join
  refine Imp.br (c1 (fun z0 : Nat => ((z0 : Int) == 0)) (U_len (kd := .str) (g1 := fun e => e) l)) ?_ ?_
  · exact Imp.ret rfl
  · refine Imp.idxC1 (kd := .str) (g1 := fun e => e) rfl rfl (fun e1 _ => ?_)
    refine Imp.while (enc := fun (s2 : (List UInt8) × Int) => [.l (rStr l), .s xby, .s s2.1, .i s2.2]) (encR := fun (u : List UInt8) => (((0, [.s u]) : Nat × List Leaf))) rfl (fun s2 => ?_) (fun r4 => ?_)
    · refine Imp.br (c1 (fun z0 : Nat => (decide (s2.2 < (z0 : Int)))) (U_len (kd := .str) (g1 := fun e => e) l)) ?_ ?_
      · refine Imp.chk rfl (fun _ => ?_)
        refine Imp.idx1 (kd := .str) (g1 := fun e => e) rfl rfl (fun e3 _ => ?_)
        refine Imp.chk rfl (fun _ => ?_)
        exact Imp.ret rfl
      · exact Imp.ret rfl
    · exact Imp.ret rfl

/-- spec.FormatLog -/
noncomputable def sFormatLog (l : List (List UInt8)) : Option (List UInt8) :=
  (sl39Join l [59, 32]).bind fun (r1 : List UInt8) =>
  some r1
theorem ei_sFormatLog (l : List (List UInt8)) (k : List UInt8 → Option β) : Imp (F31 β (rStr l) k) (sFormatLog l) (fun r => k r) := by
  delta F31 P31 sFormatLog
  refine Imp.call rfl (ei_sl39Join l [59, 32] _) (fun r1 _ => ?_)
  exact Imp.ret rfl

/-- strings.Join -/
noncomputable def g_strings_Join (a0 : List (List UInt8)) (a1 : List UInt8) : Option (List UInt8) := joinE a0 a1
theorem ei_g_strings_Join (a0 : List (List UInt8)) (a1 : List UInt8) (k : List UInt8 → Option β) : Imp (F46 β (rStr a0) a1 k) (g_strings_Join a0 a1) (fun r => k r) := ei_joinE a0 a1 k

/-- impl.FormatLog -/
noncomputable def iFormatLog (l : List (List UInt8)) : Option (List UInt8) :=
  br ((l.length : Int) == 0) (
    some [45]
  ) (
    (g_strings_Join l [59, 32]).bind fun (r1 : List UInt8) =>
    some r1
  )
theorem ei_iFormatLog (l : List (List UInt8)) (k : List UInt8 → Option β) : Imp (F33 β (rStr l) k) (iFormatLog l) (fun r => k r) := by
  delta F33 P33 iFormatLog
  refine Imp.br (c1 (fun z0 : Nat => ((z0 : Int) == 0)) (U_len (kd := .str) (g1 := fun e => e) l)) ?_ ?_
  · exact Imp.ret rfl
  · refine Imp.call rfl (ei_g_strings_Join l [59, 32] _) (fun r1 _ => ?_)
    exact Imp.ret rfl

/-- laws.FnExactFormatLog -/
noncomputable def lFnExactFormatLog (aL : List (List UInt8)) : Option Bool :=
  (lszStringS aL 1048576).bind fun (r1 : Int) =>
  br (decide (r1 < 0)) (
    some true
  ) (
    (ltoStringS aL).bind fun (r2 : List (List UInt8)) =>
    (sFormatLog r2).bind fun (r3 : List UInt8) =>
    (ltoStringS aL).bind fun (r4 : List (List UInt8)) =>
    (iFormatLog r4).bind fun (r5 : List UInt8) =>
    br (!(r5 == r3)) (
      some false
    ) (
      (ltoStringS aL).bind fun (r6 : List (List UInt8)) =>
      (leqStringS r4 r6).bind fun (r7 : Bool) =>
      br (!r7) (
        some false
      ) (
        some true
      )
    )
  )
theorem ei_lFnExactFormatLog (aL : List (List UInt8)) (k : Bool → Option β) : Imp (F9 β (rStr aL) k) (lFnExactFormatLog aL) (fun r => k r) := by
  delta F9 P9 lFnExactFormatLog
  refine Imp.call rfl (ei_lszStringS aL 1048576 _) (fun r1 _ => ?_)
  refine Imp.br rfl ?_ ?_
  · exact Imp.ret rfl
  · refine Imp.call rfl (ei_ltoStringS aL _) (fun r2 _ => ?_)
    refine Imp.call rfl (ei_sFormatLog r2 _) (fun r3 _ => ?_)
    refine Imp.call rfl (ei_ltoStringS aL _) (fun r4 _ => ?_)
    refine Imp.call rfl (ei_iFormatLog r4 _) (fun r5 _ => ?_)
    refine Imp.br rfl ?_ ?_
    · exact Imp.ret rfl
    · refine Imp.call rfl (ei_ltoStringS aL _) (fun r6 _ => ?_)
      refine Imp.call rfl (ei_leqStringS r4 r6 _) (fun r7 _ => ?_)
      refine Imp.br rfl ?_ ?_
      · exact Imp.ret rfl
      · exact Imp.ret rfl

end Go.Am
