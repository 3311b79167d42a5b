/-
  More steps for reckoning with loops over rows.
-/
import Derived.Test.YtgfiinkdogbelaaGreatDoorwAmWrite
import Derived.Test.YtgfiinkdogbelaaGreatDoorwAmSize
section
set_option linter.unusedVariables false
set_option linter.unusedSimpArgs false
namespace Go.Am
open Go
section
variable {α γ T σ ρ : Type}
def Ok (x : Option α) (Q : α -> Prop) : Prop := ∃ r, x = some r /\ Q r
theorem Ok.ret {r : α} {Q : α -> Prop} (h : Q r) : Ok (some r) Q := ⟨r, rfl, h⟩
theorem Ok.bind {x : Option α} {f : α -> Option γ} {Q1 : α -> Prop} {Q : γ -> Prop} (h : Ok x Q1) (h2 : ∀ r, x = some r -> Q1 r -> Ok (f r) Q) : Ok (x.bind f) Q := by
 obtain ⟨r, h1, h3⟩ := h
 subst h1
 exact h2 r rfl h3
theorem Ok.br {b : Bool} {x y : Option α} {Q : α -> Prop} (h1 : b = true -> Ok x Q) (h2 : b = false -> Ok y Q) : Ok (Go.Am.br b x y) Q := by
 cases b
 ·exact h2 rfl
 ·exact h1 rfl
theorem Ok.chk {p : Prop} {d : Decidable p} {x : Option α} {Q : α -> Prop} (hp : p) (h : Ok x Q) : Ok (@Go.Am.chk α p d x) Q := by
 obtain ⟨r, h1, h2⟩ := h
 exact ⟨r, (if_pos hp).trans h1, h2⟩
theorem Ok.mono {x : Option α} {Q1 Q : α -> Prop} (h : Ok x Q1) (h2 : ∀ r, x = some r -> Q1 r -> Q r) : Ok x Q := by
 obtain ⟨r, h1, h3⟩ := h
 exact ⟨r, h1, h2 r h1 h3⟩
theorem Ok.of {x : Option α} {r : α} {Q : α -> Prop} (h : x = some r) (hq : Q r) : Ok x Q := ⟨r, h, hq⟩
theorem Ok.getI {l : List T} {n : Int} (h0 : 0 <= n) (h1 : n.toNat < l.length) : Ok (Go.Am.getI l n) (fun x => l[n.toNat]? = some x /\ x ∈ l) := by
 refine ⟨l[n.toNat], ?_, ?_, List.getElem_mem h1⟩
 ·unfold Go.Am.getI
  rw [if_pos h0, List.getElem?_eq_getElem h1]
 ·exact List.getElem?_eq_getElem h1
theorem Ok.getS {l : List UInt8} {n : Int} (h0 : 0 <= n) (h1 : n.toNat < l.length) : Ok (Go.Am.getS l n) (fun x => ∃ b, l[n.toNat]? = some b /\ x = (b.toNat : Int)) := by
 refine ⟨(l[n.toNat].toNat : Int), ?_, l[n.toNat], List.getElem?_eq_getElem h1, rfl⟩
 unfold Go.Am.getS
 rw [if_pos h0, List.getElem?_eq_getElem h1]
 rfl
theorem forA_ok {body : Nat -> T -> σ -> Option (σ ⊕ ρ)} {fin : σ -> ρ} {l : List T} {Q : ρ -> Prop} (Inv : Nat -> σ -> Prop)
  (hb : ∀ i x s, l[i]? = some x -> Inv i s -> Ok (body i x s) (fun z => match z with
   | .inl s' => Inv (i + 1) s'
   | .inr r => Q r)) (hf : ∀ s, Inv l.length s -> Q (fin s)) : ∀ (zs : List T) (i : Nat) (s : σ), l.drop i = zs -> i <= l.length -> Inv i s -> Ok (forA body fin i zs s) Q := by
 intro zs
 induction zs with
 | nil =>
  intro i s hd hi hs
  have : i = l.length := by
   have := List.drop_eq_nil_iff.1 hd
   omega
  subst this
  exact ⟨_, rfl, hf s hs⟩
 | cons x zs ih =>
  intro i s hd hi hs
  have hx : l[i]? = some x := by
   have := congrArg (fun l => l[0]?) hd
   simpa using this
  have hlt := (gs_ hx).1
  have hd' : l.drop (i + 1) = zs := by rw [<- List.tail_drop, hd]; rfl
  obtain ⟨z, h1, h2⟩ := hb i x s hx hs
  rw [forA, h1]
  cases z with
  | inl s' => exact ih (i + 1) s' hd' (by omega) h2
  | inr r => exact ⟨r, rfl, h2⟩
theorem Ok.for {body : Nat -> T -> σ -> Option (σ ⊕ ρ)} {fin : σ -> ρ} {l : List T} {s0 : σ} {Q : ρ -> Prop} (hl : l.length <= maxLen) (Inv : Nat -> σ -> Prop) (h0 : Inv 0 s0)
  (hb : ∀ i x s, l[i]? = some x -> Inv i s -> Ok (body i x s) (fun z => match z with
   | .inl s' => Inv (i + 1) s'
   | .inr r => Q r)) (hf : ∀ s, Inv l.length s -> Q (fin s)) : Ok (forE l body fin s0) Q := by
 unfold forE
 rw [if_pos hl]
 exact forA_ok Inv hb hf l 0 s0 rfl (Nat.zero_le _) h0
theorem Ok.while {body : σ -> Option (σ ⊕ ρ)} {s0 : σ} {Q : ρ -> Prop} (Inv : σ -> Prop) (m : σ -> Nat) (h0 : Inv s0)
  (hb : ∀ s, Inv s -> Ok (body s) (fun z => match z with
   | .inl s' => Inv s' /\ m s' < m s
   | .inr r => Q r)) : Ok (whileE body s0) Q := by
 have key : ∀ (n : Nat) (s : σ), m s < n -> Inv s -> Ok (whileE body s) Q := by
  intro n
  induction n with
  | zero => intro s h; omega
  | succ n ih =>
   intro s hm hs
   obtain ⟨z, h1, h2⟩ := hb s hs
   unfold whileE
   rw [whileInf_step, h1]
   cases z with
   | inl s' => exact ih s' (by have := h2.2; omega) h2.1
   | inr r => exact ⟨r, rfl, h2⟩
 exact key _ s0 (Nat.lt_succ_self _) h0
end
end Go.Am
end
section
set_option linter.unusedVariables false
set_option linter.unusedSimpArgs false
namespace Go.Am
open Go
section
variable {T ρ : Type}
theorem getI_nat {l : List T} {i : Nat} {x : T} (h : l[i]? = some x) : getI l (i : Int) = some x := by
 unfold getI
 rw [if_pos (Int.natCast_nonneg _)]
 exact h
theorem getI_bind {α : Type} {l : List T} {i : Nat} {x : T} {f : T -> Option α} {z : Option α} (h : l[i]? = some x) (hz : f x = z) : (getI l (i : Int)).bind f = z := by rw [getI_nat h]; exact hz
theorem forA_eqL [DecidableEq T] {body : Nat -> T -> Unit -> Option (Unit ⊕ ρ)} {fin : Unit -> ρ} {r : ρ} {a b : List T}
  (h : ∀ i x y, a[i]? = some x -> b[i]? = some y -> body i x () = some (if x = y then .inl () else .inr r)) : ∀ (zs ys : List T) (i : Nat), a.drop i = zs -> b.drop i = ys -> zs.length = ys.length -> forA body fin i zs () = some (if zs = ys then fin () else r) := by
 intro zs
 induction zs with
 | nil =>
  intro ys i _ _ hl
  obtain rfl : ys = [] := List.length_eq_zero_iff.1 hl.symm
  rfl
 | cons z zs ih =>
  intro ys i h1 h2 hl
  cases ys with
  | nil => simp at hl
  | cons y ys =>
   have hz : a[i]? = some z := by
    have := congrArg (fun l => l[0]?) h1
    simpa using this
   have hy : b[i]? = some y := by
    have := congrArg (fun l => l[0]?) h2
    simpa using this
   rw [forA, h i z y hz hy]
   by_cases c : z = y
   ·rw [if_pos c]
    show forA body fin (i + 1) zs () = _
    rw [ih ys (i + 1) (by rw [<- List.tail_drop, h1]; rfl) (by rw [<- List.tail_drop, h2]; rfl) (by simpa using hl)]
    subst c
    simp
   ·rw [if_neg c]
    show some r = _
    rw [if_neg (by intro e; exact c (List.cons.inj e).1)]
theorem for_eqL [DecidableEq T] {body : Nat -> T -> Unit -> Option (Unit ⊕ ρ)} {fin : Unit -> ρ} (r : ρ) {a b : List T} (hl : a.length = b.length) (hm : a.length <= maxLen)
  (h : ∀ i x y, a[i]? = some x -> b[i]? = some y -> body i x () = some (if x = y then .inl () else .inr r)) : forE a body fin () = some (if a = b then fin () else r) := by
 unfold forE
 rw [if_pos hm]
 exact forA_eqL h a b 0 rfl rfl hl
theorem len_ne {a b : List T} : ((a.length : Int) != (b.length : Int)) = !decide (a.length = b.length) := by
 by_cases h : a.length = b.length
 ·simp [h]
 ·have h2 : (a.length : Int) ≠ (b.length : Int) := by omega
  rw [decide_eq_false h]
  simpa using h2
end
end Go.Am
end
section
set_option linter.unusedVariables false
set_option linter.unusedSimpArgs false
namespace Go.Am
open Go
section
variable {M : Type}
end
end Go.Am
end
