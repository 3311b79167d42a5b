/-
  Any two operations that do not clash, in either order. No theorem about a Go program stands here.
-/
import Derived.Test.YtlgbgnlpbnhhfaaGreatDoorAmSwap5
set_option linter.unusedVariables false
set_option linter.unusedSimpArgs false
namespace Go.Am
open Go Go.RowKit
section
variable {P : Program} {c : Cfg} {Γ Γ' : Ctx} {st st2 st' s1 s2 : St} {a : Act} {w w' : World} {den : Nat → List V → Option V} {η η' : Nat → Option V} {d : Nat} {p q r : Nat → Bool} {ops : Array Oper} {o : Oper}

theorem mapB_none (v : V) : v.mapB (fun _ => none) = v :=
  V.rec (motive_1 := fun v => v.mapB (fun _ => none) = v) (motive_2 := fun vs => V.mapBs (fun _ => none) vs = vs)
    rfl (fun _ => rfl) (fun _ _ => rfl) (fun _ => rfl) rfl (fun _ _ _ _ => rfl) (fun _ _ _ _ _ => rfl) (fun _ _ _ _ _ => rfl) (fun _ _ => rfl) (fun _ _ _ _ _ _ _ => rfl) (fun _ _ _ _ => rfl) (fun _ _ _ => rfl)
    (fun _ h => by rw [V.mapB, h]) (fun _ h => by rw [V.mapB, h]) (fun _ _ h => by rw [V.mapB, h]) rfl (fun _ _ h1 h2 => by rw [V.mapBs, h1, h2]) v

/-- A sweep that leaves alone what is inert, and makes nothing inert. -/
def Gentle (f : V → Option V) : Prop := (∀ u : V, Inert u → u.mapB f = u) ∧ (∀ u : V, Inert (u.mapB f) → u.mapB f = u) ∧ f .undef = none

theorem gentle_none : Gentle (fun _ => none) := ⟨fun u _ => mapB_none u, fun u _ => mapB_none u, rfl⟩
theorem skipped_inv {f : V → Option V} {cs : List V} (h : V.tup (V.mapBs f cs) = skipped) : cs = [] := by
  unfold skipped at h
  injection h with h
  cases cs with
  | nil => rfl
  | cons v vs => rw [V.mapBs] at h; cases h
theorem gentle_poison (b : Nat) : Gentle (poison b) := by
  refine ⟨fun u h => inert_poison h b, fun u h => ?_, rfl⟩
  cases u with
  | agg cs => rcases h with ⟨_, _, h⟩ | h | ⟨_, h⟩ <;> cases h
  | clo g cs => rcases h with ⟨_, _, h⟩ | h | ⟨_, h⟩ <;> cases h
  | tup cs =>
    rcases h with ⟨_, _, h⟩ | h | ⟨_, h⟩
    · cases h
    · rw [skipped_inv h]; rfl
    · cases h
  | own b' s k xs =>
    simp only [V.mapB, poison] at h ⊢
    split at h
    · rcases h with ⟨_, _, h⟩ | h | ⟨_, h⟩ <;> cases h
    · rename_i hb; rw [if_neg hb]; rfl
  | view b' s k xs =>
    simp only [V.mapB, poison] at h ⊢
    split at h
    · rcases h with ⟨_, _, h⟩ | h | ⟨_, h⟩ <;> cases h
    · rename_i hb; rw [if_neg hb]; rfl
  | eptr b' s k xs i n =>
    simp only [V.mapB, poison] at h ⊢
    split at h
    · rcases h with ⟨_, _, h⟩ | h | ⟨_, h⟩ <;> cases h
    · rename_i hb; rw [if_neg hb]; rfl
  | vptr b' x n =>
    simp only [V.mapB, poison] at h ⊢
    split at h
    · rcases h with ⟨_, _, h⟩ | h | ⟨_, h⟩ <;> cases h
    · rename_i hb; rw [if_neg hb]; rfl
  | _ => rfl
theorem gentle_renew (b : Nat) (kk : Q) (ys : List V) : Gentle (renew b kk ys) := by
  refine ⟨fun u h => inert_renew h b kk ys, fun u h => ?_, rfl⟩
  cases u with
  | agg cs => rcases h with ⟨_, _, h⟩ | h | ⟨_, h⟩ <;> cases h
  | clo g cs => rcases h with ⟨_, _, h⟩ | h | ⟨_, h⟩ <;> cases h
  | tup cs =>
    rcases h with ⟨_, _, h⟩ | h | ⟨_, h⟩
    · cases h
    · rw [skipped_inv h]; rfl
    · cases h
  | own b' s k xs =>
    simp only [V.mapB, renew] at h ⊢
    split at h
    · rcases h with ⟨_, _, h⟩ | h | ⟨_, h⟩ <;> cases h
    · rename_i hb; rw [if_neg hb]; rfl
  | view b' s k xs =>
    simp only [V.mapB, renew] at h ⊢
    split at h
    · rcases h with ⟨_, _, h⟩ | h | ⟨_, h⟩ <;> cases h
    · rename_i hb; rw [if_neg hb]; rfl
  | eptr b' s k xs i n =>
    simp only [V.mapB, renew] at h ⊢
    split at h
    · rcases h with ⟨_, _, h⟩ | h | ⟨_, h⟩ <;> cases h
    · rename_i hb; rw [if_neg hb]; rfl
  | vptr b' x n =>
    simp only [V.mapB, renew] at h ⊢
    split at h
    · rcases h with ⟨_, _, h⟩ | h | ⟨_, h⟩ <;> cases h
    · rename_i hb; rw [if_neg hb]; rfl
  | _ => rfl

theorem getD_mapBs {f : V → Option V} (hu : f .undef = none) (l : List V) (z : Nat) : (V.mapBs f l).getD z .undef = (l.getD z .undef).mapB f := by
  rw [List.getD_eq_getElem?_getD, List.getD_eq_getElem?_getD, mapBs_get]
  cases l[z]? with
  | none => show V.undef = (f .undef).getD .undef; rw [hu]; rfl
  | some v => rfl

/-- What a writing operation does to other slots. -/
theorem eff_slots {dst : Option Nat} {op : Op} (h : effOp c st dst op = some st') : ∃ f, Gentle f ∧ ∀ z, dst ≠ some z → st'.t.getD z .undef = (st.t.getD z .undef).mapB f := by
  cases op with
  | store t ad x =>
    simp only [effOp] at h
    repeat' split at h
    all_goals first | (cases h; done) | skip
    · simp only [Option.some.injEq] at h
      subst h
      exact ⟨_, gentle_none, fun z _ => (mapB_none _).symm⟩
    · simp only [Option.some.injEq] at h
      subst h
      exact ⟨_, gentle_renew _ _ _, fun z _ => getD_mapBs rfl _ _⟩
  | call cl =>
    obtain ⟨callee, args, ts⟩ := cl
    cases callee with
    | builtin bi =>
      cases bi with
      | append =>
        simp only [effOp] at h
        repeat' split at h
        all_goals first | (cases h; done) | skip
        simp only [Option.some.injEq] at h
        subst h

        exact ⟨_, gentle_poison _, fun z hz => (setD_ne (fun e => hz (by rw [e]))).trans (getD_mapBs rfl _ _)⟩
      | _ => simp only [effOp] at h; cases h
    | _ => simp only [effOp] at h; cases h
  | _ => simp only [effOp] at h; cases h
end
end Go.Am
