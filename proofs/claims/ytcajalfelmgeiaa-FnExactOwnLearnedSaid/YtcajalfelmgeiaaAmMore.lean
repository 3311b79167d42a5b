/-
  More steps for reckoning with loops over rows. No theorem about a Go program stands here.
-/
import Derived.Test.YtcajalfelmgeiaaAmSize
set_option linter.unusedVariables false
set_option linter.unusedSimpArgs false
namespace Go.Am
open Go
section
variable {β : Type}
def anyI {T : Type} (p : Nat → T → Bool) : Nat → List T → Bool
  | _, [] => false
  | i, y :: ys => p i y || anyI p (i + 1) ys
/-- A loop that looks for a place. -/
theorem while_anyI {T σ γ : Type} {step : σ → Option (σ ⊕ γ)} (S : Nat → σ) (ys : List T) (p : Nat → T → Bool) (hit fin : γ)
    (h1 : ∀ i y, ys[i]? = some y → step (S i) = if p i y then some (.inr hit) else some (.inl (S (i + 1)))) (h2 : step (S ys.length) = some (.inr fin)) (s0 : σ) (hs : s0 = S 0) :
    whileInf step s0 = some (if anyI p 0 ys then hit else fin) := by
  have key : ∀ (zs : List T) (i : Nat), ys.drop i = zs → i ≤ ys.length → whileInf step (S i) = some (if anyI p i zs then hit else fin) := by
    intro zs
    induction zs with
    | nil =>
      intro i hd hi
      have : i = ys.length := by
        have := List.drop_eq_nil_iff.1 hd
        omega
      subst this
      rw [whileInf_step, h2]
      rfl
    | cons y zs ih =>
      intro i hd hi
      have hy : ys[i]? = some y := by
        have := congrArg (fun l => l[0]?) hd
        simpa using this
      have hlt := (List.getElem?_eq_some_iff.1 hy).1
      have hd' : ys.drop (i + 1) = zs := by
        rw [← List.tail_drop, hd]
        rfl
      rw [whileInf_step, h1 i y hy, anyI]
      cases hp : p i y
      · exact ih (i + 1) hd' (by omega)
      · rfl
  rw [hs]
  exact key ys 0 rfl (Nat.zero_le _)
theorem brKeep {p q r : Bool} {inner x y x' y' : Option β} (hin : inner = br r x y) (hx : x = x') (hy : y = y') : br p (br q inner y) y = if (p && (q && r)) = true then x' else y' := by
  subst hin; subst hx; subst hy
  cases p <;> cases q <;> cases r <;> rfl
theorem idxAtE {T : Type} {ks ks' : List CK} {g : T → cellsT ks} {ys : List T} {i o : Nat} {y : T} {e : cellsT ks'} {k : cellsT ks' → Option β} {z : Option β} (h : ys[i]? = some y) (hd : cellsDec ks' (((cellsEnc ks (g y)).drop o).take ks'.length) = some e) (hz : k e = z) : idxAt ks' (rows ks g ys) i o k = z := by
  unfold idxAt rows
  rw [List.getElem?_map, h]
  show (match cellsDec ks' (((cellsEnc ks (g y)).drop o).take ks'.length) with
    | some e => k e
    | none => none) = z
  rw [hd]
  exact hz
theorem brIf {c : Bool} {x y z : Option β} (h1 : c = true → x = z) (h2 : c = false → y = z) : br c x y = z := by
  cases c
  · exact h2 rfl
  · exact h1 rfl
/-- One row more. -/
theorem rows_push {T : Type} {ks : List CK} {g : T → cellsT ks} {ys : List T} {y : T} {v : V} (h : v = rowEnc true ks (g y)) : rows ks g ys ++ [v] = rows ks g (ys ++ [y]) := by
  subst h
  exact rows_app ys [y]
end
end Go.Am
