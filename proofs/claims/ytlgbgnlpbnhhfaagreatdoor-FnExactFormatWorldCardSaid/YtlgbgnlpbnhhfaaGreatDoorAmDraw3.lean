/-
  A drawn region: whatever may run first may; the run to the end. No theorem about a Go program stands here.
-/
import Derived.Test.YtlgbgnlpbnhhfaaGreatDoorAmDraw2
set_option linter.unusedVariables false
set_option linter.unusedSimpArgs false
namespace Go.Am
open Go Go.RowKit
section
variable {P : Program} {c : Cfg} {Γ Γ' : Ctx} {st st2 st' s1 s2 : St} {a : Act} {w w' : World} {den : Nat → List V → Option V} {η η' : Nat → Option V} {d : Nat} {p q r : Nat → Bool} {ops : Array Oper} {o : Oper} {B : List Nat}

theorem slot_keep (h : step1 c den ops st o = some st') {x : Nat} (hx : o.dst ≠ some x) {e n : Nat} (hp : st.t.getD x .undef = .ptr e n) : st'.t.getD x .undef = .ptr e n := by
  by_cases hs : Still ops st o
  · cases hd : o.dst with
    | none => obtain ⟨_, rfl⟩ := still_none h hs hd; exact hp
    | some dd =>
      obtain ⟨v, bx, esc, rfl, _, _, _⟩ := neat h hs hd
      exact (setD_ne (fun e => hx (by rw [hd, e]))).trans hp
  · have h1 : isEff st o.op = true := by
      cases hi : isEff st o.op with
      | true => rfl
      | false => exact absurd (.inl hi) hs
    unfold step1 at h
    cases hw : wanted ops st.t o with
    | none => rw [hw] at h; cases h
    | some b =>
      rw [hw] at h
      cases b with
      | false => exact absurd (.inr hw) hs
      | true =>
        simp only at h
        unfold step at h
        rw [if_pos h1] at h
        obtain ⟨f, hg, hsl⟩ := eff_slots h
        rw [hsl x hx, hp]
        exact hg.1 _ (.inl ⟨_, _, rfl⟩)

/-- What holds is kept; j: what has run. -/
theorem Inv.step (hA : Agree P c) (hD : Answers P den) (hR : Reg ops B) {L L' : List Nat} {j : Nat} {y : Oper} (hj : ops[j]? = some y) (hI : Inv ops B L st) (h : step1 c den ops st y = some st') (hL : ∀ i, i ∈ L' → i ∈ L ∧ i ≠ j) : Inv ops B L' st' := by
  refine ⟨real_step1 hA hD hI.real h, fun i hi o e ho he => ?_, fun i hi o x ho hx => ?_⟩
  · obtain ⟨h1, h2⟩ := hL i hi
    exact clean_step1 hA hI.real h (fun e' he' => ⟨fun heq => h2 (hR.inj i j o y e ho hj he (by rw [he', heq])), hR.lt j y e' hj he'⟩) (hI.clean i h1 o e ho he)
  · obtain ⟨e, n, hp⟩ := hI.addr i hi o x ho hx
    obtain ⟨o', x', ho', hx', hno⟩ := hR.addr i hi
    rw [ho] at ho'
    injection ho' with ho'
    subst ho'
    rw [hx] at hx'
    injection hx' with hx'
    subst hx'
    exact ⟨e, n, slot_keep h (hno j y hj) hp⟩

theorem runI_cons {i : Nat} {x : Oper} (hi : ops[i]? = some x) (L : List Nat) (st : St) : runI c den ops (i :: L) st = (step1 c den ops st x).bind (runI c den ops L) := by simp only [runI, hi]

/-- What clashes with nothing ahead of it may run first. -/
theorem bubble (hA : Agree P c) (hD : Answers P den) (hR : Reg ops B) {i : Nat} {x : Oper} (hi : ops[i]? = some x) : ∀ (pre suf : List Nat) (st st' : St), Inv ops B (pre ++ i :: suf) st → (pre ++ i :: suf).Nodup →
    (∀ j, j ∈ pre → ∀ y, ops[j]? = some y → clash ops (B.contains j || B.contains i) y x = false) → runI c den ops (pre ++ i :: suf) st = some st' → ∃ s, step1 c den ops st x = some s ∧ runI c den ops (pre ++ suf) s = some st' := by
  intro pre
  induction pre with
  | nil =>
    intro suf st st' hI _ _ h
    rw [List.nil_append, runI_cons hi] at h
    cases hs : step1 c den ops st x with
    | none => rw [hs] at h; cases h
    | some s => rw [hs] at h; exact ⟨s, rfl, h⟩
  | cons j pre ih =>
    intro suf st st' hI hN hcl h
    cases hj : ops[j]? with
    | none => simp only [List.cons_append, runI, hj] at h; cases h
    | some y =>
      rw [List.cons_append, runI_cons hj] at h
      cases hs : step1 c den ops st y with
      | none => rw [hs] at h; cases h
      | some s1 =>
        rw [hs] at h
        rw [List.cons_append, List.nodup_cons] at hN
        have hI1 : Inv ops B (pre ++ i :: suf) s1 := hI.step hA hD hR hj hs (fun k hk => ⟨by simp only [List.cons_append, List.mem_cons]; exact .inr hk, fun e => hN.1 (e ▸ hk)⟩)
        obtain ⟨s2, h1, h2⟩ := ih suf s1 st' hI1 hN.2 (fun k hk => hcl k (by simp [hk])) h
        obtain ⟨s, h3, h4⟩ := swap hA hD hR hj hi (hcl j (by simp) y hj) hI (by simp) (by simp) hs h1
        refine ⟨s, h3, ?_⟩
        rw [List.cons_append, runI_cons hj, h4]
        exact h2

/-- What must run ahead has run. -/
theorem prec_listed {listed : Nat → Bool} (hcl : ∀ j o, listed j = true → ops[j]? = some o → ∀ e ∈ o.after.toList, Region.binds .any e = true → listed e.on = true) : ∀ (k j i : Nat) (o : Oper), ops[j]? = some o →
    (∀ e ∈ o.after.toList, Region.binds .any e = true → listed e.on = true) → prec ops k j i = true → listed i = true := by
  intro k
  induction k with
  | zero => intro j i o _ _ h; cases h
  | succ k ih =>
    intro j i o ho hr h
    simp only [prec, ho, List.any_eq_true, Bool.and_eq_true, Bool.or_eq_true, beq_iff_eq] at h
    obtain ⟨e, he, hb, h⟩ := h
    have hl := hr e he hb
    rcases h with rfl | h
    · exact hl
    · cases hon : ops[e.on]? with
      | none =>
        cases k with
        | zero => cases h
        | succ k => simp only [prec, hon] at h; cases h
      | some o' => exact ih e.on i o' hon (hcl e.on o' hl hon) h
end
end Go.Am
