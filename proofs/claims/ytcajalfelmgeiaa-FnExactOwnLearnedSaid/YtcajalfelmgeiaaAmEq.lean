/-
  Loops that compare lists. No theorem about a Go program stands here.
-/
import Derived.Test.YtcajalfelmgeiaaAmOk
set_option linter.unusedVariables false
set_option linter.unusedSimpArgs false
namespace Go.Am
open Go
section
variable {T ρ : Type}
theorem getI_nat {l : List T} {i : Nat} {x : T} (h : l[i]? = some x) : getI l (i : Int) = some x := by
  unfold getI
  rw [if_pos (Int.natCast_nonneg _)]
  exact h
theorem getI_bind {α : Type} {l : List T} {i : Nat} {x : T} {f : T → Option α} {z : Option α} (h : l[i]? = some x) (hz : f x = z) : (getI l (i : Int)).bind f = z := by rw [getI_nat h]; exact hz
theorem getI_bind0 {α : Type} {l : List T} {x : T} {f : T → Option α} {z : Option α} (h : l[0]? = some x) (hz : f x = z) : (getI l 0).bind f = z := by
  have : getI l 0 = some x := by unfold getI; rw [if_pos (by decide)]; exact h
  rw [this]; exact hz
theorem chk_bind {α : Type} {p : Prop} {d : Decidable p} {x z : Option α} (h : p) (hz : x = z) : @chk α p d x = z := (if_pos h).trans hz
theorem forA_eqL [DecidableEq T] {body : Nat → T → Unit → Option (Unit ⊕ ρ)} {fin : Unit → ρ} {r : ρ} {a b : List T}
    (h : ∀ i x y, a[i]? = some x → b[i]? = some y → body i x () = some (if x = y then .inl () else .inr r)) : ∀ (zs ys : List T) (i : Nat), a.drop i = zs → b.drop i = ys → zs.length = ys.length → forA body fin i zs () = some (if zs = ys then fin () else r) := by
  intro zs
  induction zs with
  | nil =>
    intro ys i _ _ hl
    obtain rfl : ys = [] := List.length_eq_zero_iff.1 hl.symm
    rfl
  | cons z zs ih =>
    intro ys i h1 h2 hl
    cases ys with
    | nil => simp at hl
    | cons y ys =>
      have hz : a[i]? = some z := by
        have := congrArg (fun l => l[0]?) h1
        simpa using this
      have hy : b[i]? = some y := by
        have := congrArg (fun l => l[0]?) h2
        simpa using this
      rw [forA, h i z y hz hy]
      by_cases c : z = y
      · rw [if_pos c]
        show forA body fin (i + 1) zs () = _
        rw [ih ys (i + 1) (by rw [← List.tail_drop, h1]; rfl) (by rw [← List.tail_drop, h2]; rfl) (by simpa using hl)]
        subst c
        simp
      · rw [if_neg c]
        show some r = _
        rw [if_neg (by intro e; exact c (List.cons.inj e).1)]
/-- A loop that compares two lists of one length. -/
theorem for_eqL [DecidableEq T] {body : Nat → T → Unit → Option (Unit ⊕ ρ)} {fin : Unit → ρ} (r : ρ) {a b : List T} (hl : a.length = b.length) (hm : a.length ≤ maxLen)
    (h : ∀ i x y, a[i]? = some x → b[i]? = some y → body i x () = some (if x = y then .inl () else .inr r)) : forE a body fin () = some (if a = b then fin () else r) := by
  unfold forE
  rw [if_pos hm]
  exact forA_eqL h a b 0 rfl rfl hl
/-- A loop that counts up to a list's end. -/
theorem while_upto {A R : Type} (l : List T) {body : A × Int → Option ((A × Int) ⊕ R)} (f : A → T → A) (fin : A → R) (Inv : Nat → A → Prop)
    (hb : ∀ (i : Nat) x a, l[i]? = some x → Inv i a → body (a, (i : Int)) = some (.inl (f a x, ((i + 1 : Nat) : Int))) ∧ Inv (i + 1) (f a x))
    (hf : ∀ a, Inv l.length a → body (a, (l.length : Int)) = some (.inr (fin a))) : ∀ (zs : List T) (i : Nat) (a : A), l.drop i = zs → i ≤ l.length → Inv i a → whileE body (a, (i : Int)) = some (fin (zs.foldl f a)) := by
  intro zs
  induction zs with
  | nil =>
    intro i a hd hi ha
    have : i = l.length := by
      have := List.drop_eq_nil_iff.1 hd
      omega
    subst this
    unfold whileE
    rw [whileInf_step, hf a ha]
    rfl
  | cons z zs ih =>
    intro i a hd hi ha
    have hz : l[i]? = some z := by
      have := congrArg (fun l => l[0]?) hd
      simpa using this
    have hlt := (List.getElem?_eq_some_iff.1 hz).1
    obtain ⟨h1, h2⟩ := hb i z a hz ha
    unfold whileE
    rw [whileInf_step, h1]
    exact ih (i + 1) (f a z) (by rw [← List.tail_drop, hd]; rfl) (by omega) h2
theorem br_dec {α : Type} {c : Prop} [Decidable c] {b : Bool} {x y : α} (h : b = decide c) : br b (some x) (some y) = some (if c then x else y) := by
  subst h
  by_cases e : c
  · rw [decide_eq_true e, if_pos e]; rfl
  · rw [decide_eq_false e, if_neg e]; rfl
theorem br_ndec {α : Type} {c : Prop} [Decidable c] {b : Bool} {x y : α} (h : b = decide c) : br (!b) (some x) (some y) = some (if c then y else x) := by
  subst h
  by_cases e : c
  · rw [decide_eq_true e, if_pos e]; rfl
  · rw [decide_eq_false e, if_neg e]; rfl
theorem len_ne {a b : List T} : ((a.length : Int) != (b.length : Int)) = !decide (a.length = b.length) := by
  by_cases h : a.length = b.length
  · simp [h]
  · have h2 : (a.length : Int) ≠ (b.length : Int) := by omega
    rw [decide_eq_false h]
    simpa using h2
end
end Go.Am
