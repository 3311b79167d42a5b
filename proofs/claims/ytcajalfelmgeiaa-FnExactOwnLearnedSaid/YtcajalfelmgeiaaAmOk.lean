/-
  Typed forms: that one answers, and what its answer is like. No theorem about a Go program stands here.
-/
import Derived.Test.YtcajalfelmgeiaaAmTyped
set_option linter.unusedVariables false
set_option linter.unusedSimpArgs false
namespace Go.Am
open Go
section
variable {α γ T σ ρ : Type}
def Ok (x : Option α) (Q : α → Prop) : Prop := ∃ r, x = some r ∧ Q r
theorem Ok.ret {r : α} {Q : α → Prop} (h : Q r) : Ok (some r) Q := ⟨r, rfl, h⟩
theorem Ok.bind {x : Option α} {f : α → Option γ} {Q1 : α → Prop} {Q : γ → Prop} (h : Ok x Q1) (h2 : ∀ r, x = some r → Q1 r → Ok (f r) Q) : Ok (x.bind f) Q := by
  obtain ⟨r, h1, h3⟩ := h
  subst h1
  exact h2 r rfl h3
theorem Ok.br {b : Bool} {x y : Option α} {Q : α → Prop} (h1 : b = true → Ok x Q) (h2 : b = false → Ok y Q) : Ok (Go.Am.br b x y) Q := by
  cases b
  · exact h2 rfl
  · exact h1 rfl
theorem Ok.chk {p : Prop} {d : Decidable p} {x : Option α} {Q : α → Prop} (hp : p) (h : Ok x Q) : Ok (@Go.Am.chk α p d x) Q := by
  obtain ⟨r, h1, h2⟩ := h
  exact ⟨r, (if_pos hp).trans h1, h2⟩
theorem Ok.mono {x : Option α} {Q1 Q : α → Prop} (h : Ok x Q1) (h2 : ∀ r, x = some r → Q1 r → Q r) : Ok x Q := by
  obtain ⟨r, h1, h3⟩ := h
  exact ⟨r, h1, h2 r h1 h3⟩
theorem Ok.of {x : Option α} {r : α} {Q : α → Prop} (h : x = some r) (hq : Q r) : Ok x Q := ⟨r, h, hq⟩
theorem Ok.getI {l : List T} {n : Int} (h0 : 0 ≤ n) (h1 : n.toNat < l.length) : Ok (Go.Am.getI l n) (fun x => l[n.toNat]? = some x ∧ x ∈ l) := by
  refine ⟨l[n.toNat], ?_, ?_, List.getElem_mem h1⟩
  · unfold Go.Am.getI
    rw [if_pos h0, List.getElem?_eq_getElem h1]
  · exact List.getElem?_eq_getElem h1
theorem Ok.getS {l : List UInt8} {n : Int} (h0 : 0 ≤ n) (h1 : n.toNat < l.length) : Ok (Go.Am.getS l n) (fun x => ∃ b, l[n.toNat]? = some b ∧ x = (b.toNat : Int)) := by
  refine ⟨(l[n.toNat].toNat : Int), ?_, l[n.toNat], List.getElem?_eq_getElem h1, rfl⟩
  unfold Go.Am.getS
  rw [if_pos h0, List.getElem?_eq_getElem h1]
  rfl
theorem forA_ok {body : Nat → T → σ → Option (σ ⊕ ρ)} {fin : σ → ρ} {l : List T} {Q : ρ → Prop} (Inv : Nat → σ → Prop)
    (hb : ∀ i x s, l[i]? = some x → Inv i s → Ok (body i x s) (fun z => match z with
      | .inl s' => Inv (i + 1) s'
      | .inr r => Q r)) (hf : ∀ s, Inv l.length s → Q (fin s)) : ∀ (zs : List T) (i : Nat) (s : σ), l.drop i = zs → i ≤ l.length → Inv i s → Ok (forA body fin i zs s) Q := by
  intro zs
  induction zs with
  | nil =>
    intro i s hd hi hs
    have : i = l.length := by
      have := List.drop_eq_nil_iff.1 hd
      omega
    subst this
    exact ⟨_, rfl, hf s hs⟩
  | cons x zs ih =>
    intro i s hd hi hs
    have hx : l[i]? = some x := by
      have := congrArg (fun l => l[0]?) hd
      simpa using this
    have hlt := (List.getElem?_eq_some_iff.1 hx).1
    have hd' : l.drop (i + 1) = zs := by rw [← List.tail_drop, hd]; rfl
    obtain ⟨z, h1, h2⟩ := hb i x s hx hs
    rw [forA, h1]
    cases z with
    | inl s' => exact ih (i + 1) s' hd' (by omega) h2
    | inr r => exact ⟨r, rfl, h2⟩
/-- A loop over a list answers, if each round does. -/
theorem Ok.for {body : Nat → T → σ → Option (σ ⊕ ρ)} {fin : σ → ρ} {l : List T} {s0 : σ} {Q : ρ → Prop} (hl : l.length ≤ maxLen) (Inv : Nat → σ → Prop) (h0 : Inv 0 s0)
    (hb : ∀ i x s, l[i]? = some x → Inv i s → Ok (body i x s) (fun z => match z with
      | .inl s' => Inv (i + 1) s'
      | .inr r => Q r)) (hf : ∀ s, Inv l.length s → Q (fin s)) : Ok (forE l body fin s0) Q := by
  unfold forE
  rw [if_pos hl]
  exact forA_ok Inv hb hf l 0 s0 rfl (Nat.zero_le _) h0
theorem Ok.forI {n : Int} {body : Nat → σ → Option (σ ⊕ ρ)} {fin : σ → ρ} {s0 : σ} {Q : ρ → Prop} (h0 : 0 ≤ n) (hl : n ≤ maxLen) (Inv : Nat → σ → Prop) (hi : Inv 0 s0)
    (hb : ∀ (i : Nat) s, (i : Int) < n → Inv i s → Ok (body i s) (fun z => match z with
      | .inl s' => Inv (i + 1) s'
      | .inr r => Q r)) (hf : ∀ s, Inv n.toNat s → Q (fin s)) : Ok (Go.Am.forI n body fin s0) Q := by
  unfold Go.Am.forI
  rw [if_pos ⟨hl, h0⟩]
  have hlen : (List.replicate n.toNat ()).length = n.toNat := List.length_replicate
  refine forA_ok (l := List.replicate n.toNat ()) Inv (fun i x s hx hs => ?_) (by rw [hlen]; exact hf) _ 0 s0 rfl (Nat.zero_le _) hi
  have := (List.getElem?_eq_some_iff.1 hx).1
  rw [hlen] at this
  exact hb i s (by omega) hs
/-- A loop answers, if each round does and a number falls. -/
theorem Ok.while {body : σ → Option (σ ⊕ ρ)} {s0 : σ} {Q : ρ → Prop} (Inv : σ → Prop) (m : σ → Nat) (h0 : Inv s0)
    (hb : ∀ s, Inv s → Ok (body s) (fun z => match z with
      | .inl s' => Inv s' ∧ m s' < m s
      | .inr r => Q r)) : Ok (whileE body s0) Q := by
  have key : ∀ (n : Nat) (s : σ), m s < n → Inv s → Ok (whileE body s) Q := by
    intro n
    induction n with
    | zero => intro s h; omega
    | succ n ih =>
      intro s hm hs
      obtain ⟨z, h1, h2⟩ := hb s hs
      unfold whileE
      rw [whileInf_step, h1]
      cases z with
      | inl s' => exact ih s' (by have := h2.2; omega) h2.1
      | inr r => exact ⟨r, rfl, h2⟩
  exact key _ s0 (Nat.lt_succ_self _) h0
end
end Go.Am
