/-
  Names: what an operation hangs on. No theorem about a Go program stands here.
-/
import Derived.Test.YtcajalfelmgeiaaAmExec
set_option linter.unusedVariables false
set_option linter.unusedSimpArgs false
namespace Go.Am
open Go Go.RowKit
section
variable {P : Program} {c : Cfg} {Γ Γ' : Ctx} {st : St} {a : Act} {w w' : World} {den : Nat → List V → Option V} {η : Nat → Option V} {d : Nat} {p q : Nat → Bool}

/-- A state that some world bears out. -/
def Real (st : St) : Prop := ∃ Γ a w, Sim Γ st a w

theorem wp_some {o : Oper} {next : Act → World → Prop} (h : o.wp P a w next (fun _ _ _ => False)) : ∃ a' w', next a' w' := by
  unfold Oper.wp at h
  generalize (execOp a.eval o).run P w = r at h
  cases r with
  | ok n w' =>
    cases n with
    | value v => exact ⟨_, _, h⟩
    | skip => exact ⟨_, _, h⟩
    | defer d => exact ⟨_, _, h⟩
    | enter f args =>
      obtain ⟨e, w'', fr, hR, _⟩ := h []
      cases e with
      | returned v => exact ⟨_, _, hR⟩
      | panicked _ => exact hR.elim
      | outgrown => obtain ⟨_, _, hq⟩ := hR; exact hq.elim
    | row row args =>
      obtain ⟨v, w'', hR, _⟩ := h default []
      exact ⟨_, _, hR⟩
    | _ => exact h.elim
  | halt x w' => cases x <;> exact h.elim

theorem real_step (hA : Agree P c) (hD : Answers P den) {o : Oper} {st' : St} (hs : Real st) (h : step c den st o = some st') : Real st' := by
  obtain ⟨Γ, a, w, hs⟩ := hs
  obtain ⟨a', w', Γ', _, h'⟩ := wp_some (sound_step hA hD hs h (fun a' w' => Sims Γ st' a' w') (fun _ _ _ => False) (fun _ _ h => h))
  exact ⟨Γ', a', w', h'⟩

/-- A value that does not hang on the names of p and holds no address in the boxes of q. -/
def Av (p q : Nat → Bool) (v : V) : Prop := v.anyB p = false ∧ v.anyP q = false
def AvO (p q : Nat → Bool) : Out → Prop
  | .val v => Av p q v
  | .box r => Av p q r
  | .fresh v _ _ => Av p q v

theorem anyBs_of {p : Nat → Bool} : ∀ {cs : List V}, (∀ c ∈ cs, c.anyB p = false) → V.anyBs p cs = false := by
  intro cs
  induction cs with
  | nil => intro _; rfl
  | cons v vs ih => intro h; rw [V.anyBs, h v (by simp), ih (fun c hc => h c (by simp [hc]))]; rfl
theorem anyPs_of {p : Nat → Bool} : ∀ {cs : List V}, (∀ c ∈ cs, c.anyP p = false) → V.anyPs p cs = false := by
  intro cs
  induction cs with
  | nil => intro _; rfl
  | cons v vs ih => intro h; rw [V.anyPs, h v (by simp), ih (fun c hc => h c (by simp [hc]))]; rfl
theorem Av.agg {cs : List V} (h : ∀ c ∈ cs, Av p q c) : Av p q (.agg cs) := ⟨anyBs_of fun c hc => (h c hc).1, anyPs_of fun c hc => (h c hc).2⟩
theorem Av.tup {cs : List V} (h : ∀ c ∈ cs, Av p q c) : Av p q (.tup cs) := ⟨anyBs_of fun c hc => (h c hc).1, anyPs_of fun c hc => (h c hc).2⟩
theorem Av.clo {f : Nat} {cs : List V} (h : ∀ c ∈ cs, Av p q c) : Av p q (.clo f cs) := ⟨anyBs_of fun c hc => (h c hc).1, anyPs_of fun c hc => (h c hc).2⟩
theorem Av.agg_inv {cs : List V} (h : Av p q (.agg cs)) : ∀ c ∈ cs, Av p q c := fun c hc => ⟨anyBs_mem h.1 c hc, anyPs_mem h.2 c hc⟩
theorem Av.tup_inv {cs : List V} (h : Av p q (.tup cs)) : ∀ c ∈ cs, Av p q c := fun c hc => ⟨anyBs_mem h.1 c hc, anyPs_mem h.2 c hc⟩
theorem Av.clo_inv {f : Nat} {cs : List V} (h : Av p q (.clo f cs)) : ∀ c ∈ cs, Av p q c := fun c hc => ⟨anyBs_mem h.1 c hc, anyPs_mem h.2 c hc⟩
theorem Av.cells {v : V} (h : Av p q v) : ∀ c ∈ v.cells, Av p q c := by
  cases v with
  | agg cs => exact h.agg_inv
  | _ => intro c hc; simp only [V.cells, List.mem_singleton] at hc; subst hc; exact h

/-- Plain data hangs on nothing. -/
theorem Rd.av {S : Nat → Prop} {v : V} {x : Value} (h : Rd w S v x) : Av p q v := by
  induction h with
  | agg cs vs hl hr ih =>
    refine .agg fun c hc => ?_
    obtain ⟨i, hi⟩ := List.getElem?_of_mem hc
    exact ih i c vs[i]! hi (by have := (List.getElem?_eq_some_iff.1 hi).1; rw [hl] at this; simp [this])
  | tup cs vs hl hr ih =>
    refine .tup fun c hc => ?_
    obtain ⟨i, hi⟩ := List.getElem?_of_mem hc
    exact ih i c vs[i]! hi (by have := (List.getElem?_eq_some_iff.1 hi).1; rw [hl] at this; simp [this])
  | clo f cs vs hl hr ih =>
    refine .clo fun c hc => ?_
    obtain ⟨i, hi⟩ := List.getElem?_of_mem hc
    exact ih i c vs[i]! hi (by have := (List.getElem?_eq_some_iff.1 hi).1; rw [hl] at this; simp [this])
  | _ => exact ⟨rfl, rfl⟩

theorem zero_av (hA : Agree P c) {t : Nat} {i : TyInfo} (h : c.ty t = some i) : Av p q i.zero := by
  obtain ⟨ti, ai⟩ := hA _ _ h
  obtain ⟨z, _, hz, _⟩ := ai.zero
  exact (hz (default : World) (fun _ => True)).av

/-- What lies behind an address. -/
theorem cellsAt_av (hs : Sim Γ st a w) {v : V} {x : Value} {cs : List V} (hv : VR Γ w v x) (hη : ∀ b r, η b = some r → Av p q r) (h : cellsAt η v = some cs) : ∀ u ∈ cs, Av p q u := by
  cases v with
  | ptr d o =>
    simp only [cellsAt] at h
    cases hr : η d with
    | none => rw [hr] at h; cases h
    | some r =>
      rw [hr] at h
      simp only [Option.map_some, Option.some.injEq] at h
      subst h
      exact fun u hu => (hη d r hr).cells u (List.mem_of_mem_drop hu)
  | iptr z o =>
    simp only [cellsAt, Option.some.injEq] at h
    subst h
    obtain ⟨k, o', g, _, _, _, h3⟩ := hv.iptr_inv
    intro u hu
    obtain ⟨j, hj⟩ := List.getElem?_of_mem (List.mem_of_mem_drop hu)
    exact (h3 j u hj).av
  | vptr b z o =>
    simp only [cellsAt, Option.some.injEq] at h
    subst h
    obtain ⟨o', g, _, _, _, h3⟩ := hv.vptr_inv
    intro u hu
    obtain ⟨j, hj⟩ := List.getElem?_of_mem (List.mem_of_mem_drop hu)
    exact (h3 j u hj).av
  | eptr b s k xs i o =>
    simp only [cellsAt] at h
    cases hr : xs[i]? with
    | none => rw [hr] at h; cases h
    | some r =>
      rw [hr] at h
      simp only [Option.map_some, Option.some.injEq] at h
      subst h
      obtain ⟨_, _, _, _, _, ⟨r1, g, r2, r3⟩, _⟩ := hv.eptr_inv
      intro u hu
      obtain ⟨j, hj⟩ := List.getElem?_of_mem (List.mem_of_mem_drop hu)
      exact (r3 i r j u hr hj).av
  | _ => cases h

theorem packV_av {ag : Bool} {n : Nat} {cs : List V} {v : V} (h : packV ag n cs = some v) (hc : ∀ u ∈ cs, Av p q u) : Av p q v := by
  unfold packV at h
  split at h
  · cases h
  · split at h
    · simp only [Option.some.injEq] at h
      subst h
      exact .agg fun u hu => hc u (List.mem_of_mem_take hu)
    · split at h
      · exact hc v (List.mem_of_mem_head? h)
      · cases h
theorem over_av {cs new cs' : List V} {o : Nat} (h : over cs o new = some cs') (hc : ∀ u ∈ cs, Av p q u) (hn : ∀ u ∈ new, Av p q u) : ∀ u ∈ cs', Av p q u := by
  intro u hu
  obtain ⟨j, hj⟩ := List.getElem?_of_mem hu
  rw [over_get h j] at hj
  split at hj
  · exact hn u (mem_of_get hj)
  · exact hc u (mem_of_get hj)
theorem fillV_av {place : Nat → Option (Nat × Nat)} : ∀ (ps : List (Nat × V)) (cs cs' : List V), fillV place cs ps = some cs' → (∀ u ∈ cs, Av p q u) → (∀ x ∈ ps, Av p q x.2) → ∀ u ∈ cs', Av p q u := by
  intro ps
  induction ps with
  | nil =>
    intro cs cs' h hc _
    simp only [fillV, Option.some.injEq] at h
    subst h
    exact hc
  | cons x ps ih =>
    intro cs cs' h hc hx
    obtain ⟨i, v⟩ := x
    simp only [fillV] at h
    repeat' split at h
    all_goals first | (cases h; done) | skip
    rename_i _ _ _ _ _ hov
    exact ih _ _ h (over_av hov hc ((hx (i, v) (by simp)).cells)) (fun y hy => hx y (by simp [hy]))
end
end Go.Am
