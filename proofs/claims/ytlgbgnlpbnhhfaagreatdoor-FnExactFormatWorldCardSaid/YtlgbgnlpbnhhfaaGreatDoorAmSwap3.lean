/-
  Two operations that write nothing, in either order; names stay free. No theorem about a Go program stands here.
-/
import Derived.Test.YtlgbgnlpbnhhfaaGreatDoorAmSwap2
set_option linter.unusedVariables false
set_option linter.unusedSimpArgs false
namespace Go.Am
open Go Go.RowKit
section
variable {P : Program} {c : Cfg} {Γ Γ' : Ctx} {st st2 st' s1 s2 : St} {a : Act} {w w' : World} {den : Nat → List V → Option V} {η η' : Nat → Option V} {d : Nat} {p q r : Nat → Bool} {ops : Array Oper} {o : Oper}

/-- Nothing hangs on slot d's names; if a box is to be made there, nothing leads to it. -/
def CleanAt (d : Nat) (bx : Bool) (st : St) : Prop := ∀ v, (v ∈ st.t ∨ some v ∈ st.h) → Av (fun b => b / 1000 == d) (fun d' => bx && d' == d) v

theorem anyBo_of {p : Nat → Bool} : ∀ {l : List (Option V)}, (∀ v, some v ∈ l → v.anyB p = false) → anyBo p l = false := by
  intro l
  induction l with
  | nil => intro _; rfl
  | cons x l ih =>
    intro h
    cases x with
    | none => exact ih fun v hv => h v (by simp [hv])
    | some y => rw [anyBo, h y (by simp), ih (fun v hv => h v (by simp [hv]))]; rfl
theorem anyPo_of {p : Nat → Bool} : ∀ {l : List (Option V)}, (∀ v, some v ∈ l → v.anyP p = false) → anyPo p l = false := by
  intro l
  induction l with
  | nil => intro _; rfl
  | cons x l ih =>
    intro h
    cases x with
    | none => exact ih fun v hv => h v (by simp [hv])
    | some y => rw [anyPo, h y (by simp), ih (fun v hv => h v (by simp [hv]))]; rfl
theorem CleanAt.freeD {bx : Bool} (h : CleanAt d bx st) : st.freeD d = true := by
  unfold St.freeD
  rw [anyBs_of (fun v hv => ?_), anyBo_of (fun v hv => (h v (.inr hv)).1)]
  · rfl
  · rcases List.mem_or_eq_of_mem_set hv with hv | rfl
    · exact (h v (.inl hv)).1
    · rfl
theorem CleanAt.freeP (h : CleanAt d true st) : st.freeP d = true := by
  unfold St.freeP
  rw [anyPs_of (fun v hv => ?_), anyPo_of (fun v hv => by simpa using (h v (.inr hv)).2)]
  · rfl
  · rcases List.mem_or_eq_of_mem_set hv with hv | rfl
    · simpa using (h v (.inl hv)).2
    · rfl
theorem CleanAt.ev {bx : Bool} (h : CleanAt d bx st) (x : Operand) : Av (fun b => b / 1000 == d) (fun d' => bx && d' == d) (ev st.t x) := by
  cases x with
  | tmp t =>
    show Av _ _ (st.t.getD t .undef)
    rw [List.getD_eq_getElem?_getD]
    cases ht : st.t[t]? with
    | none => exact ⟨rfl, rfl⟩
    | some v => exact h v (.inl (mem_of_get ht))
  | const v =>
    show Av _ _ (ofVal v)
    unfold ofVal
    split <;> exact ⟨rfl, rfl⟩
  | func f => exact ⟨rfl, rfl⟩
  | global g => exact ⟨rfl, rfl⟩
theorem CleanAt.box {bx : Bool} (h : CleanAt d bx st) (b : Nat) (rr : V) (hb : st.h.getD b none = some rr) : Av (fun b => b / 1000 == d) (fun d' => bx && d' == d) rr := by
  rw [List.getD_eq_getElem?_getD] at hb
  cases ht : st.h[b]? with
  | none => rw [ht] at hb; cases hb
  | some v =>
    rw [ht] at hb
    simp only [Option.getD_some] at hb
    subst hb
    exact h rr (.inr (mem_of_get ht))

theorem Av.map {f : V → Option V} (hf : ∀ u z, f u = some z → Av p q u → Av p q z) (v : V) : Av p q v → Av p q (v.mapB f) := by
  have leaf : ∀ u : V, Av p q u → Av p q ((f u).getD u) := by
    intro u hu
    cases h : f u with
    | none => exact hu
    | some z => exact hf u z h hu
  refine V.rec (motive_1 := fun v => Av p q v → Av p q (v.mapB f)) (motive_2 := fun vs => (∀ u ∈ vs, Av p q u) → ∀ u ∈ V.mapBs f vs, Av p q u)
    (leaf _) (fun _ => leaf _) (fun _ _ => leaf _) (fun _ => leaf _) (leaf _) (fun _ _ _ _ => leaf _) (fun _ _ _ _ _ => leaf _) (fun _ _ _ _ _ => leaf _) (fun _ _ => leaf _) (fun _ _ _ _ _ _ _ => leaf _) (fun _ _ _ _ => leaf _) (fun _ _ _ => leaf _)
    (fun _ ih h => .agg (ih h.agg_inv)) (fun _ ih h => .tup (ih h.tup_inv)) (fun _ _ ih h => .clo (ih h.clo_inv)) (fun _ u hu => (by cases hu)) ?_ v
  intro v vs hv hvs h u hu
  rw [V.mapBs] at hu
  rcases List.mem_cons.1 hu with rfl | hu
  · exact hv (h v (by simp))
  · exact hvs (fun u hu => h u (by simp [hu])) u hu
theorem mapBo_mem {f : V → Option V} : ∀ {l : List (Option V)} {v : V}, some v ∈ mapBo f l → ∃ u, some u ∈ l ∧ v = u.mapB f := by
  intro l
  induction l with
  | nil => intro v h; cases h
  | cons x l ih =>
    intro v h
    cases x with
    | none =>
      rw [mapBo] at h
      obtain ⟨u, hu, e⟩ := ih ((List.mem_cons.1 h).resolve_left (by simp))
      exact ⟨u, by simp [hu], e⟩
    | some y =>
      rw [mapBo] at h
      rcases List.mem_cons.1 h with h | h
      · injection h with h; exact ⟨y, by simp, h⟩
      · obtain ⟨u, hu, e⟩ := ih h
        exact ⟨u, by simp [hu], e⟩
theorem mapBs_mem {f : V → Option V} : ∀ {l : List V} {v : V}, v ∈ V.mapBs f l → ∃ u, u ∈ l ∧ v = u.mapB f := by
  intro l
  induction l with
  | nil => intro v h; cases h
  | cons y l ih =>
    intro v h
    rw [V.mapBs] at h
    rcases List.mem_cons.1 h with h | h
    · exact ⟨y, by simp, h⟩
    · obtain ⟨u, hu, e⟩ := ih h
      exact ⟨u, by simp [hu], e⟩
theorem CleanAt.sweep {bx : Bool} {f : V → Option V} (h : CleanAt d bx st) (hf : ∀ u z, f u = some z → Av (fun b => b / 1000 == d) (fun d' => bx && d' == d) u → Av (fun b => b / 1000 == d) (fun d' => bx && d' == d) z) : CleanAt d bx (st.sweep f) := by
  rintro v (hv | hv)
  · obtain ⟨u, hu, rfl⟩ := mapBs_mem hv
    exact (h u (.inl hu)).map hf
  · obtain ⟨u, hu, rfl⟩ := mapBo_mem hv
    exact (h u (.inr hu)).map hf
theorem poison_av (b : Nat) : ∀ u z, poison b u = some z → Av p q u → Av p q z := by
  intro u z h _
  cases u <;> simp only [poison] at h <;> first
    | (cases h; done)
    | (split at h <;> first
        | (simp only [Option.some.injEq] at h; subst h; exact ⟨rfl, rfl⟩)
        | cases h)
theorem renew_av (b : Nat) (k : Q) (ys : List V) : ∀ u z, renew b k ys u = some z → Av p q u → Av p q z := by
  intro u z h hu
  cases u <;> simp only [renew] at h <;> first
    | (cases h; done)
    | (split at h <;> first
        | (simp only [Option.some.injEq] at h; subst h; exact ⟨rfl, rfl⟩)
        | skip)
  · rename_i b' s k' zs hbb
    simp only [Option.some.injEq] at h
    subst h
    subst hbb
    exact hu
  all_goals cases h

/-- An operation that writes leaves names free. -/
theorem clean_eff {bx : Bool} {dst : Option Nat} {op : Op} (h : effOp c st dst op = some st') (hc : CleanAt d bx st) : CleanAt d bx st' := by
  cases op with
  | store t ad x =>
    simp only [effOp] at h
    split at h
    · rename_i i hi
      split at h
      · rename_i hcc
        split at h
        · rename_i b o had
          split at h
          · rename_i rr hb
            split at h
            · rename_i cs hov
              simp only [Option.some.injEq] at h
              subst h
              have hcs := over_av hov (hc.box b rr hb).cells (hc.ev x).cells
              rintro v (hv | hv)
              · exact hc v (.inl hv)
              · rcases List.mem_or_eq_of_mem_set hv with hv | hv
                · exact hc v (.inr hv)
                · injection hv with hv
                  subst hv
                  unfold reshape
                  split
                  · exact .agg hcs
                  · cases cs with
                    | nil => exact ⟨rfl, rfl⟩
                    | cons y ys => exact hcs y (by simp)
            · cases h
          · cases h
        · repeat' split at h
          all_goals first | (cases h; done) | skip
          simp only [Option.some.injEq] at h
          subst h
          exact hc.sweep (renew_av _ _ _)
        · cases h
      · cases h
    · cases h
  | call cl =>
    obtain ⟨callee, args, ts⟩ := cl
    cases callee with
    | builtin bi =>
      cases bi with
      | append =>
        simp only [effOp] at h
        split at h
        · rename_i x y t t' dd hx ht2
          split at h
          · split at h
            · rename_i i b s k xs hi hxv
              split at h
              · split at h
                · simp only [Option.some.injEq] at h
                  subst h
                  have hsw := hc.sweep (f := poison b) (poison_av b)
                  have hxx := hc.ev x
                  rintro v (hv | hv)
                  · rcases List.mem_or_eq_of_mem_set hv with hv | rfl
                    · exact hsw v (.inl hv)
                    · rw [hxv] at hxx
                      exact hxx
                  · exact hsw v (.inr hv)
                · cases h
              · cases h
            · cases h
          · cases h
        · cases h
      | _ => simp only [effOp] at h; cases h
    | _ => simp only [effOp] at h; cases h
  | _ => simp only [effOp] at h; cases h
end
end Go.Am
