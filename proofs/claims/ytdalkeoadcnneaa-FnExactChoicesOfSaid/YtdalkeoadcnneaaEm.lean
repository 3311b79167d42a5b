/-
  Typed forms of functions of the program, written by program (eform.py): each over structures and lists, and that, where it answers, the extracted function hands on that answer.
-/
import Derived.Test.YtdalkeoadcnneaaAmTyped
import Derived.Test.YtdalkeoadcnneaaTy
import Derived.Test.YtdalkeoadcnneaaFm
set_option maxRecDepth 10000
set_option linter.unusedVariables false
namespace Go.Am
open Go Go.Proofs
variable {β : Type}
/-- spec.l35Seed -/
noncomputable def sl35Seed (seed : Int) : Option Int :=
  br (decide (seed < 0)) (
    some 0
  ) (
    some (Int.tmod seed 1000)
  )
theorem ei_sl35Seed (seed : Int) (k : Int → Option β) : Imp (F12 β seed k) (sl35Seed seed) (fun r => k r) := by
  delta F12 P12 sl35Seed
  refine Imp.br rfl ?_ ?_
  · exact Imp.ret rfl
  · exact Imp.ret rfl

/-- spec.CutsOf -/
noncomputable def sCutsOf (seed : Int) : Option (List Int) :=
  (sl35Seed seed).bind fun (r1 : Int) =>
  some [(IntKind.wrap .i64 (1 + (Int.tmod r1 40))), (IntKind.wrap .i64 (2 + (Int.tmod r1 90))), (IntKind.wrap .i64 (3 + (Int.tmod r1 150)))]
theorem ei_sCutsOf (seed : Int) (k : List V → Option β) : Imp (F5 β seed k) (sCutsOf seed) (fun r => k (rInt r)) := by
  delta F5 P5 sCutsOf
  refine Imp.call rfl (ei_sl35Seed seed _) (fun r1 _ => ?_)
  exact Imp.ret rfl

/-- impl.seedOf -/
noncomputable def iseedOf (seed : Int) : Option Int :=
  br (decide (seed < 0)) (
    some 0
  ) (
    some (Int.tmod seed 1000)
  )
theorem ei_iseedOf (seed : Int) (k : Int → Option β) : Imp (F13 β seed k) (iseedOf seed) (fun r => k r) := by
  delta F13 P13 iseedOf
  refine Imp.br rfl ?_ ?_
  · exact Imp.ret rfl
  · exact Imp.ret rfl

/-- impl.CutsOf -/
noncomputable def iCutsOf (seed : Int) : Option (List Int) :=
  (iseedOf seed).bind fun (r1 : Int) =>
  some [(IntKind.wrap .i64 (1 + (Int.tmod r1 40))), (IntKind.wrap .i64 (2 + (Int.tmod r1 90))), (IntKind.wrap .i64 (3 + (Int.tmod r1 150)))]
theorem ei_iCutsOf (seed : Int) (k : List V → Option β) : Imp (F6 β seed k) (iCutsOf seed) (fun r => k (rInt r)) := by
  delta F6 P6 iCutsOf
  refine Imp.call rfl (ei_iseedOf seed _) (fun r1 _ => ?_)
  exact Imp.ret rfl

/-- laws.eqIntS -/
noncomputable def leqIntSx (a : List Int) (b : List Int) : Option Bool :=
  br ((a.length : Int) != (b.length : Int)) (
    some false
  ) (
    (forE a (fun (i_1 : Nat) (x_1 : Int) (s1 : Unit) => (
      (getI b (i_1 : Int)).bind fun (e3 : Int) =>
      br (x_1 != e3) (
        some (.inr (.inl ()))
      ) (
        some (.inl ())
      )
    : Option (Unit ⊕ (Unit ⊕ Unit)))) (fun (s1 : Unit) => (.inr () : Unit ⊕ Unit)) (() : Unit)).bind <|
    Sum.elim
      (fun (r4 : Unit) =>
        some false
      )
      (fun (r4 : Unit) =>
        some true
      )
  )
theorem ei_leqIntSx (a : List Int) (b : List Int) (k : Bool → Option β) : Imp (F7 β (rInt a) (rInt b) k) (leqIntSx a b) (fun r => k r) := by
  delta F7 P7 leqIntSx
  refine Imp.br (c2 (fun z0 z1 : Nat => ((z0 : Int) != (z1 : Int))) (U_len (kd := (.int .i64)) (g1 := fun e => e) a) (U_len (kd := (.int .i64)) (g1 := fun e => e) b)) ?_ ?_
  · exact Imp.ret rfl
  · refine Imp.for (enc := fun (i_1 : Nat) (s1 : Unit) => [.l (rInt a), .l (rInt b), .i (i_1 : Int)]) (encR := Sum.elim (fun (u : Unit) => (((0, [.b false]) : Nat × List Leaf))) (fun (u : Unit) => (((1, []) : Nat × List Leaf)))) rfl (fun i_1 x_1 s1 hx1 hl1 hm1 => Imp.brT (U_lt (kd := (.int .i64)) (g1 := fun e => e) hl1) ?_) (fun s1 => brN (U_irr (kd := (.int .i64)) (g1 := fun e => e) a) rfl) (fun r4 => ?_)
    · refine Imp.idxFor1 (kd := (.int .i64)) (g1 := fun e => e) hx1 ?_
      refine Imp.idx1 (kd := (.int .i64)) (g1 := fun e => e) rfl rfl (fun e3 _ => ?_)
      refine Imp.br rfl ?_ ?_
      · exact Imp.ret rfl
      · exact Imp.ret (c1 (fun (h1 : Int) => (some (Sum.inl [.l (rInt a), .l (rInt b), .i h1]) : Option (List Leaf ⊕ (Nat × List Leaf)))) (wrapJ hl1))
    · cases r4 with
      | inl r4 =>
        refine Imp.ifT rfl ?_
        exact Imp.ret rfl
      | inr r4 =>
        refine Imp.ifF (show ¬ ((1 : Nat) = 0) by decide) ?_
        exact Imp.ret rfl

/-- laws.heldIntS -/
noncomputable def lheldIntS (a : List Int) (xk : Int) : Option Int :=
  (forE a (fun (i_1 : Nat) (x_1 : Int) (s1 : Int) => (
    br (x_1 != s1) (
      some (.inr (.inl s1))
    ) (
      some (.inl (IntKind.wrap .i64 (s1 + 1)))
    )
  : Option (Int ⊕ (Int ⊕ Int)))) (fun (s1 : Int) => (.inr s1 : Int ⊕ Int)) (xk : Int)).bind <|
  Sum.elim
    (fun (r3 : Int) =>
      some (-1)
    )
    (fun (r3 : Int) =>
      some r3
    )
theorem ei_lheldIntS (a : List Int) (xk : Int) (k : Int → Option β) : Imp (F9 β (rInt a) xk k) (lheldIntS a xk) (fun r => k r) := by
  delta F9 P9 lheldIntS
  refine Imp.for (enc := fun (i_1 : Nat) (s1 : Int) => [.l (rInt a), .i s1, .i (i_1 : Int)]) (encR := Sum.elim (fun (u : Int) => (((0, [.i u, .i (-1)]) : Nat × List Leaf))) (fun (u : Int) => (((1, [.i u]) : Nat × List Leaf)))) rfl (fun i_1 x_1 s1 hx1 hl1 hm1 => Imp.brT (U_lt (kd := (.int .i64)) (g1 := fun e => e) hl1) ?_) (fun s1 => brN (U_irr (kd := (.int .i64)) (g1 := fun e => e) a) rfl) (fun r3 => ?_)
  · refine Imp.idxFor1 (kd := (.int .i64)) (g1 := fun e => e) hx1 ?_
    refine Imp.br rfl ?_ ?_
    · exact Imp.ret rfl
    · exact Imp.ret (c1 (fun (h1 : Int) => (some (Sum.inl [.l (rInt a), .i (IntKind.wrap .i64 (s1 + 1)), .i h1]) : Option (List Leaf ⊕ (Nat × List Leaf)))) (wrapJ hl1))
  · cases r3 with
    | inl r3 =>
      refine Imp.ifT rfl ?_
      exact Imp.ret rfl
    | inr r3 =>
      refine Imp.ifF (show ¬ ((1 : Nat) = 0) by decide) ?_
      exact Imp.ret rfl

/-- loop.example/g00586/laws.FnExactCutsOf -/
noncomputable def lFnExactCutsOf (a0 : Int) : Option Bool := mark1E a0
theorem ei_lFnExactCutsOf (a0 : Int) (k : Bool → Option β) : Imp (F3 β a0 k) (lFnExactCutsOf a0) (fun r => k r) := ei_mark1E a0 k

/-- spec.ChoicesOf -/
noncomputable def sChoicesOf (seed : Int) : Option (List Int) :=
  (sl35Seed seed).bind fun (r1 : Int) =>
  (forI 24 (fun (i_2 : Nat) (s2 : List Int) => (
    chk ((s2.length + 1) * 8 ≤ 140737488355328 ∧ s2.length + 1 ≤ 140737488355328) <|
    some (.inl (s2 ++ [(Int.tmod (IntKind.wrap .i64 ((IntKind.wrap .i64 ((IntKind.wrap .i64 (r1 * 7)) + (IntKind.wrap .i64 ((IntKind.wrap .i64 (3 * (i_2 : Int))) * (i_2 : Int))))) + (i_2 : Int))) 5)]))
  : Option ((List Int) ⊕ (List Int)))) (fun (s2 : List Int) => (s2 : List Int)) ([] : List Int)).bind <|
  fun (r3 : List Int) =>
  some r3
theorem ei_sChoicesOf (seed : Int) (k : List V → Option β) : Imp (F10 β seed k) (sChoicesOf seed) (fun r => k (rInt r)) := by
  delta F10 P10 sChoicesOf
  refine Imp.call rfl (ei_sl35Seed seed _) (fun r1 _ => ?_)
  refine Imp.forI (enc := fun (i_2 : Nat) (s2 : List Int) => [.i r1, .l (rInt s2), .i (i_2 : Int)]) (encR := fun (u : List Int) => (((0, [.l (rInt u)]) : Nat × List Leaf))) rfl (fun i_2 s2 hb2 hl2 hm2 => Imp.brT hb2 ?_) (fun s2 hb2 => brN hb2 rfl) (fun r3 => ?_)
  · refine Imp.chk (c2 (fun z0 z1 : Nat => (z0 + 1) * 8 ≤ 140737488355328 ∧ z1 + 1 ≤ 140737488355328) (U_len (kd := (.int .i64)) (g1 := fun e => e) s2) (U_len (kd := (.int .i64)) (g1 := fun e => e) s2)) (fun _ => ?_)
    exact Imp.ret (c2 (fun (h1 : List V) (h2 : Int) => (some (Sum.inl [.i r1, .l h1, .i h2]) : Option (List Leaf ⊕ (Nat × List Leaf)))) (U_app (kd := (.int .i64)) (g1 := fun e => e) s2 [(Int.tmod (IntKind.wrap .i64 ((IntKind.wrap .i64 ((IntKind.wrap .i64 (r1 * 7)) + (IntKind.wrap .i64 ((IntKind.wrap .i64 (3 * (i_2 : Int))) * (i_2 : Int))))) + (i_2 : Int))) 5)]) (wrapJ hl2))
  · exact Imp.ret rfl

/-- impl.ChoicesOf -/
noncomputable def iChoicesOf (seed : Int) : Option (List Int) :=
  (iseedOf seed).bind fun (r1 : Int) =>
  (forI 24 (fun (i_2 : Nat) (s2 : List Int) => (
    chk ((s2.length + 1) * 8 ≤ 140737488355328 ∧ s2.length + 1 ≤ 140737488355328) <|
    some (.inl (s2 ++ [(Int.tmod (IntKind.wrap .i64 ((IntKind.wrap .i64 ((IntKind.wrap .i64 (r1 * 7)) + (IntKind.wrap .i64 ((IntKind.wrap .i64 (3 * (i_2 : Int))) * (i_2 : Int))))) + (i_2 : Int))) 5)]))
  : Option ((List Int) ⊕ (List Int)))) (fun (s2 : List Int) => (s2 : List Int)) ([] : List Int)).bind <|
  fun (r3 : List Int) =>
  some r3
theorem ei_iChoicesOf (seed : Int) (k : List V → Option β) : Imp (F11 β seed k) (iChoicesOf seed) (fun r => k (rInt r)) := by
  delta F11 P11 iChoicesOf
  refine Imp.call rfl (ei_iseedOf seed _) (fun r1 _ => ?_)
  refine Imp.forI (enc := fun (i_2 : Nat) (s2 : List Int) => [.i r1, .l (rInt s2), .i (i_2 : Int)]) (encR := fun (u : List Int) => (((0, [.l (rInt u)]) : Nat × List Leaf))) rfl (fun i_2 s2 hb2 hl2 hm2 => Imp.brT hb2 ?_) (fun s2 hb2 => brN hb2 rfl) (fun r3 => ?_)
  · refine Imp.chk (c2 (fun z0 z1 : Nat => (z0 + 1) * 8 ≤ 140737488355328 ∧ z1 + 1 ≤ 140737488355328) (U_len (kd := (.int .i64)) (g1 := fun e => e) s2) (U_len (kd := (.int .i64)) (g1 := fun e => e) s2)) (fun _ => ?_)
    exact Imp.ret (c2 (fun (h1 : List V) (h2 : Int) => (some (Sum.inl [.i r1, .l h1, .i h2]) : Option (List Leaf ⊕ (Nat × List Leaf)))) (U_app (kd := (.int .i64)) (g1 := fun e => e) s2 [(Int.tmod (IntKind.wrap .i64 ((IntKind.wrap .i64 ((IntKind.wrap .i64 (r1 * 7)) + (IntKind.wrap .i64 ((IntKind.wrap .i64 (3 * (i_2 : Int))) * (i_2 : Int))))) + (i_2 : Int))) 5)]) (wrapJ hl2))
  · exact Imp.ret rfl

/-- loop.example/g00586/laws.FnExactChoicesOf -/
noncomputable def lFnExactChoicesOf (a0 : Int) : Option Bool := mark1E a0
theorem ei_lFnExactChoicesOf (a0 : Int) (k : Bool → Option β) : Imp (F4 β a0 k) (lFnExactChoicesOf a0) (fun r => k r) := ei_mark1E a0 k

end Go.Am
