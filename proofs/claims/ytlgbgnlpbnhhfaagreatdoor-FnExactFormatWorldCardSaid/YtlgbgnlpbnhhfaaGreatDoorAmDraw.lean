/-
  A region whose order is drawn runs to the same state in every order. No theorem about a Go program stands here.
-/
import Derived.Test.YtlgbgnlpbnhhfaaGreatDoorAmSwap7
set_option linter.unusedVariables false
set_option linter.unusedSimpArgs false
namespace Go.Am
open Go Go.RowKit
section
variable {P : Program} {c : Cfg} {Γ Γ' : Ctx} {st st2 st' s1 s2 : St} {a : Act} {w w' : World} {den : Nat → List V → Option V} {η η' : Nat → Option V} {d : Nat} {p q r : Nat → Bool} {ops : Array Oper} {o : Oper} {B : List Nat}

def runI (c : Cfg) (den : Nat → List V → Option V) (ops : Array Oper) : List Nat → St → Option St
  | [], st => some st
  | i :: is, st => match ops[i]? with
    | some o => (step1 c den ops st o).bind (runI c den ops is)
    | none => none

/-- What holds of a region's text. -/
structure Reg (ops : Array Oper) (B : List Nat) : Prop where
  lt : ∀ (i : Nat) (o : Oper) (e : Nat), ops[i]? = some o → o.dst = some e → e < 1000
  inj : ∀ (i j : Nat) (o o' : Oper) (e : Nat), ops[i]? = some o → ops[j]? = some o' → o.dst = some e → o'.dst = some e → i = j
  addr : ∀ i, i ∈ B → ∃ (o : Oper) (x : Nat), ops[i]? = some o ∧ addrSlot o = some x ∧ ∀ (j : Nat) (o' : Oper), ops[j]? = some o' → o'.dst ≠ some x
  back : ∀ (j : Nat) (o : Oper), ops[j]? = some o → ∀ e ∈ o.after.toList, e.on < j
  ord : ∀ (i j : Nat) (x y : Oper), i < j → ops[i]? = some x → ops[j]? = some y → clash ops (B.contains i || B.contains j) x y = false ∨ prec ops ops.size j i = true

theorem nodup_filterMap_inj {α : Type} {f : α → Option Nat} : ∀ {l : List α}, (l.filterMap f).Nodup → ∀ (i j : Nat) (x y : α) (e : Nat), l[i]? = some x → l[j]? = some y → f x = some e → f y = some e → i = j := by
  intro l
  induction l with
  | nil => intro _ i j x y e h; simp at h
  | cons z l ih =>
    intro hn i j x y e hx hy fx fy
    have hmem : ∀ (k : Nat) (u : α), l[k]? = some u → f u = some e → e ∈ l.filterMap f := fun k u hk hu => List.mem_filterMap.2 ⟨u, List.mem_of_getElem? hk, hu⟩
    rw [List.filterMap_cons] at hn
    have hn' : (l.filterMap f).Nodup := by
      split at hn
      · exact hn
      · exact (List.nodup_cons.1 hn).2
    cases i with
    | zero =>
      cases j with
      | zero => rfl
      | succ j =>
        simp only [List.getElem?_cons_zero, Option.some.injEq] at hx
        subst hx
        rw [fx] at hn
        exact absurd (hmem j y (by simpa using hy) fy) (List.nodup_cons.1 hn).1
    | succ i =>
      cases j with
      | zero =>
        simp only [List.getElem?_cons_zero, Option.some.injEq] at hy
        subst hy
        rw [fy] at hn
        exact absurd (hmem i x (by simpa using hx) fx) (List.nodup_cons.1 hn).1
      | succ j => rw [ih hn' i j x y e (by simpa using hx) (by simpa using hy) fx fy]

theorem reg_of (h : regionOk ops B = true) : Reg ops B := by
  unfold regionOk at h
  simp only [Bool.and_eq_true, List.all_eq_true, decide_eq_true_eq, List.mem_range] at h
  obtain ⟨⟨⟨h1, h2⟩, h3⟩, h4⟩ := h
  have mem : ∀ (i : Nat) (o : Oper) (e : Nat), ops[i]? = some o → o.dst = some e → e ∈ ops.toList.filterMap (·.dst) := fun i o e hi he => List.mem_filterMap.2 ⟨o, List.mem_of_getElem? (by simpa using hi), he⟩
  have lt : ∀ (j : Nat) (o : Oper), ops[j]? = some o → j < ops.toList.length := fun j o hj => by simpa using (Array.getElem?_eq_some_iff.1 hj).1
  refine ⟨fun i o e hi he => h1 e (mem i o e hi he), fun i j o o' e hi hj he he' => nodup_filterMap_inj h2 i j o o' e (by simpa using hi) (by simpa using hj) he he', fun i hi => ?_, fun j o hj e he => ?_, fun i j x y hij hi hj => ?_⟩
  · have := h3 i hi
    cases ho : ops[i]? with
    | none => rw [ho] at this; cases this
    | some o =>
      rw [ho] at this
      simp only [Option.bind_some] at this
      cases hx : addrSlot o with
      | none => rw [hx] at this; cases this
      | some x =>
        rw [hx] at this
        simp only [Bool.not_eq_true'] at this
        refine ⟨o, x, rfl, hx, fun j o' hj he => ?_⟩
        have hc := List.contains_iff_mem.2 (mem j o' x hj he)
        rw [this] at hc
        cases hc
  · have := h4 j (lt j o hj)
    rw [hj] at this
    simp only [Bool.and_eq_true, List.all_eq_true, decide_eq_true_eq] at this
    exact this.1 e he
  · have := h4 j (lt j y hj)
    rw [hj] at this
    simp only [Bool.and_eq_true, List.all_eq_true, decide_eq_true_eq, List.mem_range] at this
    have h5 := this.2 i hij
    rw [hi] at h5
    simp only [Bool.or_eq_true, Bool.not_eq_true'] at h5
    simpa using h5

/-- What holds while a region runs; L: what is still to be run. -/
structure Inv (ops : Array Oper) (B : List Nat) (L : List Nat) (st : St) : Prop where
  real : Real st
  clean : ∀ i, i ∈ L → ∀ (o : Oper) (e : Nat), ops[i]? = some o → o.dst = some e → CleanAt e (mkBox o.op) st
  addr : ∀ i, i ∈ B → ∀ (o : Oper) (x : Nat), ops[i]? = some o → addrSlot o = some x → ∃ e n, st.t.getD x .undef = .ptr e n
end
end Go.Am
