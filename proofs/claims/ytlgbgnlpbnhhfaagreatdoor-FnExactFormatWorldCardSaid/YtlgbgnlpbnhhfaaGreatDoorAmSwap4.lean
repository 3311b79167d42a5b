/-
  Two operations that write nothing, in either order. No theorem about a Go program stands here.
-/
import Derived.Test.YtlgbgnlpbnhhfaaGreatDoorAmSwap3
set_option linter.unusedVariables false
set_option linter.unusedSimpArgs false
namespace Go.Am
open Go Go.RowKit
section
variable {P : Program} {c : Cfg} {Γ Γ' : Ctx} {st st2 st' s1 s2 : St} {a : Act} {w w' : World} {den : Nat → List V → Option V} {η η' : Nat → Option V} {d : Nat} {p q r : Nat → Bool} {ops : Array Oper} {o : Oper}

/-- An operation that does not write, or is passed by. -/
def Still (ops : Array Oper) (st : St) (o : Oper) : Prop := isEff st o.op = false ∨ wanted ops st.t o = some false

theorem real_step1 (hA : Agree P c) (hD : Answers P den) (hs : Real st) (h : step1 c den ops st o = some st') : Real st' := by
  unfold step1 at h
  split at h
  · cases h
  · exact real_step hA hD hs h
  · obtain ⟨Γ, a, w, hs⟩ := hs
    split at h
    · rename_i d hd
      simp only [Option.some.injEq] at h
      subst h
      exact ⟨Γ, _, w, skip_ok hs d⟩
    · simp only [Option.some.injEq] at h
      subst h
      exact ⟨Γ, a, w, hs⟩

theorem upd_mem {v z : V} {bx : Option V} {esc : List Nat} (h : z ∈ (st.upd d v bx esc).t ∨ some z ∈ (st.upd d v bx esc).h) : z ∈ st.t ∨ some z ∈ st.h ∨ z = v ∨ bx = some z := by
  unfold St.upd at h
  rcases h with h | h
  · rcases List.mem_or_eq_of_mem_set h with h | h
    · exact .inl h
    · exact .inr (.inr (.inl h))
  · simp only at h
    split at h
    · rcases List.mem_or_eq_of_mem_set h with h | h
      · exact .inr (.inl h)
      · exact .inr (.inr (.inr (by simpa using h.symm)))
    · exact .inr (.inl h)

/-- Names of other slots stay free. -/
theorem clean_step1 (hA : Agree P c) (hs : Real st) (h : step1 c den ops st o = some st') {d : Nat} {bx : Bool} (hd : ∀ e, o.dst = some e → e ≠ d ∧ e < 1000) (hc : CleanAt d bx st) : CleanAt d bx st' := by
  obtain ⟨Γ, a, w, hs⟩ := hs
  by_cases hst : Still ops st o
  · cases hod : o.dst with
    | none =>
      unfold step1 at h
      cases hw : wanted ops st.t o with
      | none => rw [hw] at h; cases h
      | some b =>
        rw [hw] at h
        cases b with
        | false => simp only [hod, Option.some.injEq] at h; subst h; exact hc
        | true =>
          simp only at h
          have hne : isEff st o.op = false := by
            rcases hst with h | h
            · exact h
            · rw [hw] at h; cases h
          unfold step at h
          rw [if_neg (by rw [hne]; simp), hod] at h
          cases h
    | some e =>
      obtain ⟨he, hlt⟩ := hd e hod
      obtain ⟨v, bx', esc, rfl, hinfo, _, _⟩ := neat h hst hod
      intro z hz
      rcases upd_mem hz with hz | hz | hz
      · exact hc z (.inl hz)
      · exact hc z (.inr hz)
      · rcases hinfo with ⟨out, _, hv, ho⟩ | ⟨rfl, rfl⟩
        · have hav := names_op (p := fun b => b / 1000 == d) (q := fun d' => bx && d' == d) hA hs (fun b rr hb => hc.box b rr hb) (fun j hj => by rw [base_div hlt hj]; simpa using he) (fun x _ => hc.ev x) hv
          rcases ho with ⟨rfl, rfl⟩ | ⟨rr, rfl, rfl, rfl⟩ | ⟨n, rfl, rfl⟩
          · rcases hz with rfl | hz
            · exact hav
            · cases hz
          · rcases hz with rfl | hz
            · exact ⟨rfl, by simp [V.anyP, he]⟩
            · injection hz with hz
              subst hz
              exact hav
          · rcases hz with rfl | hz
            · exact hav
            · cases hz
        · rcases hz with rfl | hz
          · exact ⟨rfl, rfl⟩
          · cases hz
  · have h1 : isEff st o.op = true := by
      cases hi : isEff st o.op with
      | true => rfl
      | false => exact absurd (.inl hi) hst
    unfold step1 at h
    cases hw : wanted ops st.t o with
    | none => rw [hw] at h; cases h
    | some b =>
      rw [hw] at h
      cases b with
      | false => exact absurd (.inr hw) hst
      | true =>
        simp only at h
        unfold step at h
        rw [if_pos h1] at h
        exact clean_eff h hc

theorem setD_ne {l : List V} {i j : Nat} {v : V} (h : j ≠ i) : (l.set i v).getD j .undef = l.getD j .undef := by
  rw [List.getD_eq_getElem?_getD, List.getD_eq_getElem?_getD, List.getElem?_set, if_neg (fun e => h e.symm)]
theorem setH_ne {l : List (Option V)} {i j : Nat} {v : Option V} (h : j ≠ i) : (l.set i v).getD j none = l.getD j none := by
  rw [List.getD_eq_getElem?_getD, List.getD_eq_getElem?_getD, List.getElem?_set, if_neg (fun e => h e.symm)]
theorem updH_ne {v : V} {bx : Option V} {esc : List Nat} {b : Nat} (h : bx.isSome = true → b ≠ d) : (st.upd d v bx esc).h.getD b none = st.h.getD b none := by
  unfold St.upd
  cases bx with
  | none => rfl
  | some rr => exact setH_ne (h rfl)
theorem updH_len {v : V} {bx : Option V} {esc : List Nat} : (st.upd d v bx esc).h.length = st.h.length := by
  unfold St.upd
  cases bx with
  | none => rfl
  | some rr => simp

theorem tmp_reads {t : Nat} (h : Operand.tmp t ∈ o.op.operands.toList) : t ∈ reads ops o := by
  unfold reads
  exact List.mem_append.2 (.inl (List.mem_filterMap.2 ⟨.tmp t, h, rfl⟩))

/-- Two operations that write nothing. -/
theorem swap_still (hA : Agree P c) (hD : Answers P den) (hs : Real st) {x y : Oper} (hx : step1 c den ops st x = some s1) (hy : step1 c den ops s1 y = some s2) (sx : Still ops st x) (sy : Still ops s1 y)
    {dx dy : Nat} (hdx : x.dst = some dx) (hdy : y.dst = some dy) (hne : dx ≠ dy) (lx : dx < 1000) (ly : dy < 1000) (rx : dy ∉ reads ops x) (ry : dx ∉ reads ops y) (cx : CleanAt dx (mkBox x.op) st) (cy : CleanAt dy (mkBox y.op) st) :
    ∃ s, step1 c den ops st y = some s ∧ step1 c den ops s x = some s2 := by
  obtain ⟨v, bx, esc, rfl, _, mx, tx⟩ := neat hx sx hdx
  obtain ⟨v', bx', esc', rfl, _, my, ty⟩ := neat hy sy hdy
  have h1 : step1 c den ops st y = some (st.upd dy v' bx' esc') := by
    refine ty (fun b => bx.isSome && b == dx) st ⟨fun z hz => ?_, fun b hb => ?_, fun z hz => ?_, updH_len.symm, fun e he => ?_⟩
    · have : z ≠ dx := fun e => ry (e ▸ hz)
      exact (setD_ne this).symm
    · exact (updH_ne (fun e => by simpa [e] using hb)).symm
    · have hev : ev (st.upd dx v bx esc).t z = ev st.t z := by
        cases z with
        | tmp t => exact setD_ne (fun e => ry (e ▸ tmp_reads hz))
        | _ => rfl
      rw [hev]
      cases hb : bx.isSome with
      | false => simp only [Bool.false_and]; exact anyP_false _
      | true =>
        have := (cx.ev z).2
        rw [mx hb] at this
        exact this
    · rw [hdy] at he
      injection he with he
      subst he
      refine ⟨by simp; exact fun _ e => hne e.symm, cy.freeD, fun hm => ?_⟩
      rw [hm] at cy
      exact cy.freeP
  refine ⟨_, h1, ?_⟩
  have hr1 := real_step1 hA hD hs h1
  have cx' : CleanAt dx (mkBox x.op) (st.upd dy v' bx' esc') := clean_step1 hA hs h1 (fun e he => by rw [hdy] at he; injection he with he; subst he; exact ⟨fun e => hne e.symm, ly⟩) cx
  rw [upd_swap st hne]
  refine tx (fun b => bx'.isSome && b == dy) _ ⟨fun z hz => ?_, fun b hb => ?_, fun z hz => ?_, updH_len, fun e he => ?_⟩
  · have : z ≠ dy := fun e => rx (e ▸ hz)
    exact setD_ne this
  · exact updH_ne (fun e => by simpa [e] using hb)
  · cases hb : bx'.isSome with
    | false => simp only [Bool.false_and]; exact anyP_false _
    | true =>
      have := (cy.ev z).2
      rw [my hb] at this
      exact this
  · rw [hdx] at he
    injection he with he
    subst he
    refine ⟨by simp [hne], cx'.freeD, fun hm => ?_⟩
    rw [hm] at cx'
    exact cx'.freeP
end
end Go.Am
