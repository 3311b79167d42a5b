/-
  Two operations in either order. No theorem about a Go program stands here.
-/
import Derived.Test.YtlgbgnlpbnhhfaaGreatDoorAmSwap
set_option linter.unusedVariables false
set_option linter.unusedSimpArgs false
namespace Go.Am
open Go Go.RowKit

def step1 (c : Cfg) (den : Nat → List V → Option V) (ops : Array Oper) (st : St) (o : Oper) : Option St :=
  match wanted ops st.t o with
  | none => none
  | some true => step c den st o
  | some false => match o.dst with
    | some d => some { st with t := st.t.set d skipped }
    | none => some st
theorem runOps_cons (c : Cfg) (den : Nat → List V → Option V) (ops : Array Oper) (o : Oper) (os : List Oper) (st : St) : runOps c den ops (o :: os) st = (step1 c den ops st o).bind (runOps c den ops os) := by
  simp only [runOps, step1]
  cases wanted ops st.t o with
  | none => rfl
  | some b =>
    cases b with
    | true =>
      simp only
      cases step c den st o <;> rfl
    | false =>
      simp only
      cases o.dst <;> rfl

/-- A result put into its slot. -/
def St.upd (st : St) (d : Nat) (v : V) (bx : Option V) (esc : List Nat) : St :=
  ⟨st.t.set d v, (match bx with
    | some r => st.h.set d (some r)
    | none => st.h), fun b => esc.contains b || st.dead b⟩

theorem upd_swap (st : St) {d e : Nat} (h : d ≠ e) (v v' : V) (bx bx' : Option V) (esc esc' : List Nat) : (st.upd d v bx esc).upd e v' bx' esc' = (st.upd e v' bx' esc').upd d v bx esc := by
  unfold St.upd
  congr 1
  · exact List.set_comm _ _ h
  · cases bx <;> cases bx' <;> first | rfl | exact List.set_comm _ _ h
  · funext b
    simp only
    cases esc.contains b <;> cases esc'.contains b <;> rfl

section
variable {P : Program} {c : Cfg} {Γ Γ' : Ctx} {st st2 st' : St} {a : Act} {w w' : World} {den : Nat → List V → Option V} {η η' : Nat → Option V} {d : Nat} {p q r : Nat → Bool} {ops : Array Oper} {o : Oper}

/-- Where an operation that does not write gives the same: what it looks at is the same; its name is free. -/
structure Alike (ops : Array Oper) (r : Nat → Bool) (o : Oper) (st st2 : St) : Prop where
  rd : ∀ x ∈ reads ops o, st2.t.getD x .undef = st.t.getD x .undef
  hb : ∀ b, r b = false → st2.h.getD b none = st.h.getD b none
  hr : ∀ x ∈ o.op.operands.toList, (ev st.t x).anyP r = false
  hl : st2.h.length = st.h.length
  hd : ∀ d, o.dst = some d → r d = false ∧ st2.freeD d = true ∧ (mkBox o.op = true → st2.freeP d = true)

theorem box_mk {v : V} (h : valOp c den (ev st.t) η d o.op = some (.box v)) : mkBox o.op = true := by
  cases hop : o.op with
  | alloc e => rfl
  | box e x => rfl
  | call cl =>
    exfalso
    rw [hop] at h
    obtain ⟨callee, args, ts⟩ := cl
    cases callee with
    | value f =>
      simp only [valOp] at h
      repeat' split at h
      all_goals first | (cases h; done) | skip
      obtain ⟨_, _, _, e⟩ := takeR_fresh h
      cases e
    | invoke f m => simp only [valOp] at h; cases h
    | builtin bi =>
      cases bi <;> simp only [valOp, plain] at h <;> first | (cases h; done) | skip
      all_goals (repeat' split at h) <;> cases h
  | unOp u _ _ =>
    exfalso
    rw [hop] at h
    cases u <;> simp only [valOp, plain] at h <;> first | (cases h; done) | ((repeat' split at h) <;> cases h)
  | makeFunc fn _ _ =>
    exfalso
    rw [hop] at h
    cases fn <;> simp only [valOp, plain] at h <;> first | (cases h; done) | ((repeat' split at h) <;> cases h)
  | convert s t x =>
    exfalso
    rw [hop] at h
    simp only [valOp, plain] at h
    cases hc : convV c s t (ev st.t x) with
    | some u => rw [hc] at h; cases h
    | none =>
      rw [hc] at h
      simp only at h
      cases hb : convB c s t (ev st.t x) with
      | some u => rw [hb] at h; cases h
      | none =>
        rw [hb] at h
        simp only at h
        cases hf : bytesFor c s t (ev st.t x) <;> rw [hf] at h <;> cases h
  | slice _ _ _ _ mx =>
    exfalso
    rw [hop] at h
    cases mx <;> simp only [valOp, plain] at h <;> first | (cases h; done) | ((repeat' split at h) <;> cases h)
  | _ =>
    exfalso
    rw [hop] at h
    first
      | (simp only [valOp, plain] at h; cases h; done)
      | (simp only [valOp, plain] at h; (repeat' split at h) <;> cases h)

/-- An operation that writes nothing puts a result into its slot, and does so wherever all is alike. -/
theorem neat (h : step1 c den ops st o = some st') (hne : isEff st o.op = false ∨ wanted ops st.t o = some false) {d : Nat} (hd : o.dst = some d) :
    ∃ v bx esc, st' = st.upd d v bx esc ∧ ((∃ out, wanted ops st.t o = some true ∧ valOp c den (ev st.t) (fun b => st.h.getD b none) d o.op = some out ∧
        ((out = .val v ∧ bx = none) ∨ (∃ rr, out = .box rr ∧ v = .ptr d 0 ∧ bx = some rr) ∨ (∃ n, out = .fresh v esc n ∧ bx = none))) ∨ (v = skipped ∧ bx = none)) ∧
      (bx.isSome = true → mkBox o.op = true) ∧ ∀ r st2, Alike ops r o st st2 → step1 c den ops st2 o = some (st2.upd d v bx esc) := by
  unfold step1 at h
  cases hw : wanted ops st.t o with
  | none => rw [hw] at h; cases h
  | some b =>
    rw [hw] at h
    cases b with
    | false =>
      simp only [hd, Option.some.injEq] at h
      subst h
      refine ⟨skipped, none, [], rfl, .inr ⟨rfl, rfl⟩, fun h => (by cases h), fun r st2 hal => ?_⟩
      unfold step1
      rw [wanted_congr hal.rd, hw]
      simp only [hd]
      rfl
    | true =>
      simp only at h
      have hne' : isEff st o.op = false := by
        rcases hne with h | h
        · exact h
        · rw [hw] at h; cases h
      unfold step at h
      rw [if_neg (by rw [hne']; simp), hd] at h
      simp only at h
      have tr : ∀ r st2, Alike ops r o st st2 → isEff st2 o.op = false ∧ valOp c den (ev st2.t) (fun b => st2.h.getD b none) d o.op = valOp c den (ev st.t) (fun b => st.h.getD b none) d o.op := fun r st2 hal =>
        ⟨by rw [isEff_congr (ev_congr hal.rd)]; exact hne', (valOp_congr (r := r) (fun x hx => (ev_congr hal.rd x hx).symm) (fun b hb => (hal.hb b hb).symm) hal.hr).symm⟩
      cases hv : valOp c den (ev st.t) (fun b => st.h.getD b none) d o.op with
      | none => rw [hv] at h; cases h
      | some out =>
        rw [hv] at h
        cases out with
        | val v =>
          simp only [Option.some.injEq] at h
          subst h
          refine ⟨v, none, [], rfl, .inl ⟨_, rfl, rfl, .inl ⟨rfl, rfl⟩⟩, fun h => (by cases h), fun r st2 hal => ?_⟩
          obtain ⟨t1, t2⟩ := tr r st2 hal
          unfold step1
          rw [wanted_congr hal.rd, hw]
          simp only
          unfold step
          rw [if_neg (by rw [t1]; simp), hd]
          simp only
          rw [t2, hv]
          rfl
        | box rr =>
          simp only at h
          split at h
          · rename_i hc
            simp only [Option.some.injEq] at h
            subst h
            have hmk := box_mk hv
            refine ⟨.ptr d 0, some rr, [], rfl, .inl ⟨_, rfl, rfl, .inr (.inl ⟨rr, rfl, rfl, rfl⟩)⟩, fun _ => hmk, fun r st2 hal => ?_⟩
            obtain ⟨t1, t2⟩ := tr r st2 hal
            obtain ⟨d1, d2, d3⟩ := hal.hd d hd
            unfold step1
            rw [wanted_congr hal.rd, hw]
            simp only
            unfold step
            rw [if_neg (by rw [t1]; simp), hd]
            simp only
            rw [t2, hv]
            simp only
            rw [if_pos ⟨by rw [hal.hl]; exact hc.1, by rw [hal.hb d d1]; exact hc.2.1, d3 hmk, hc.2.2.2⟩]
            rfl
          · cases h
        | fresh v esc n =>
          simp only at h
          split at h
          · rename_i hc
            simp only [Option.some.injEq] at h
            subst h
            refine ⟨v, none, esc, rfl, .inl ⟨_, rfl, rfl, .inr (.inr ⟨n, rfl, rfl⟩)⟩, fun h => (by cases h), fun r st2 hal => ?_⟩
            obtain ⟨t1, t2⟩ := tr r st2 hal
            obtain ⟨d1, d2, d3⟩ := hal.hd d hd
            unfold step1
            rw [wanted_congr hal.rd, hw]
            simp only
            unfold step
            rw [if_neg (by rw [t1]; simp), hd]
            simp only
            rw [t2, hv]
            simp only
            rw [if_pos ⟨hc.1, hc.2.1, .inr d2⟩]
            rfl
          · cases h
end
end Go.Am
