/-
  Loops that compare lists. No theorem about a Go program stands here.
-/
import Derived.Test.YtbpoaadkjjfmgaaGreatDoorAmOk
set_option linter.unusedVariables false
set_option linter.unusedSimpArgs false
namespace Go.Am
open Go
section
variable {T ρ : Type}
theorem getI_nat {l : List T} {i : Nat} {x : T} (h : l[i]? = some x) : getI l (i : Int) = some x := by
  unfold getI
  rw [if_pos (Int.natCast_nonneg _)]
  exact h
theorem forA_eqL [DecidableEq T] {body : Nat → T → Unit → Option (Unit ⊕ ρ)} {fin : Unit → ρ} {r : ρ} {a b : List T}
    (h : ∀ i x y, a[i]? = some x → b[i]? = some y → body i x () = some (if x = y then .inl () else .inr r)) : ∀ (zs ys : List T) (i : Nat), a.drop i = zs → b.drop i = ys → zs.length = ys.length → forA body fin i zs () = some (if zs = ys then fin () else r) := by
  intro zs
  induction zs with
  | nil =>
    intro ys i _ _ hl
    obtain rfl : ys = [] := List.length_eq_zero_iff.1 hl.symm
    rfl
  | cons z zs ih =>
    intro ys i h1 h2 hl
    cases ys with
    | nil => simp at hl
    | cons y ys =>
      have hz : a[i]? = some z := by
        have := congrArg (fun l => l[0]?) h1
        simpa using this
      have hy : b[i]? = some y := by
        have := congrArg (fun l => l[0]?) h2
        simpa using this
      rw [forA, h i z y hz hy]
      by_cases c : z = y
      · rw [if_pos c]
        show forA body fin (i + 1) zs () = _
        rw [ih ys (i + 1) (by rw [← List.tail_drop, h1]; rfl) (by rw [← List.tail_drop, h2]; rfl) (by simpa using hl)]
        subst c
        simp
      · rw [if_neg c]
        show some r = _
        rw [if_neg (by intro e; exact c (List.cons.inj e).1)]
theorem for_eqL [DecidableEq T] {body : Nat → T → Unit → Option (Unit ⊕ ρ)} {fin : Unit → ρ} (r : ρ) {a b : List T} (hl : a.length = b.length) (hm : a.length ≤ maxLen)
    (h : ∀ i x y, a[i]? = some x → b[i]? = some y → body i x () = some (if x = y then .inl () else .inr r)) : forE a body fin () = some (if a = b then fin () else r) := by
  unfold forE
  rw [if_pos hm]
  exact forA_eqL h a b 0 rfl rfl hl
theorem len_ne {a b : List T} : ((a.length : Int) != (b.length : Int)) = !decide (a.length = b.length) := by
  by_cases h : a.length = b.length
  · simp [h]
  · have h2 : (a.length : Int) ≠ (b.length : Int) := by omega
    rw [decide_eq_false h]
    simpa using h2
end
end Go.Am
