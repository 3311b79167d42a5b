/-
  One operation, whatever it is; a region whose order is given. No theorem about a Go program stands here.
-/
import Derived.Test.YtcajalfelmgeiaaAmBytes
set_option linter.unusedVariables false
set_option linter.unusedSimpArgs false
namespace Go.Am
open Go Go.RowKit
section
variable {P : Program} {c : Cfg} {Γ Γ' : Ctx} {st : St} {a : Act} {w w' : World} {den : Nat → List V → Option V} {η : Nat → Option V} {d : Nat}

theorem takeR_fresh {az : List V} {r : V} {out : Out} (h : takeR d az r = some out) : ∃ v esc n, out = .fresh v esc n := by
  unfold takeR at h
  repeat' split at h
  all_goals first | (cases h; done) | (simp only [Option.some.injEq] at h; exact ⟨_, _, _, h.symm⟩)

theorem pure_val (hA : Agree P c) (hs : Sim Γ st a w) {o : Oper} {v : V} (h : valOp c den (ev st.t) (fun b => st.h.getD b none) d o.op = some (.val v)) : PureOk P Γ a w o v := by
  cases hop : o.op with
  | move x =>
    have e := h; rw [hop] at e; simp only [valOp, plain, Option.some.injEq, Out.val.injEq] at e; subst e
    exact pure_move hs (.inl hop)
  | assign x =>
    have e := h; rw [hop] at e; simp only [valOp, plain, Option.some.injEq, Out.val.injEq] at e; subst e
    exact pure_move hs (.inr hop)
  | pick x y z => exact pure_pick hs hop h
  | nilCheck x => exact pure_nilCheck hs hop h
  | unOp u t x => exact pure_unOp hs hop h
  | extract x i => exact pure_extract hs hop h
  | makeFunc fn first cap => exact pure_makeFunc hs hop h
  | convert s t x =>
    rw [hop] at h
    simp only [valOp, plain] at h
    cases hc : convV c s t (ev st.t x) with
    | some u =>
      rw [hc] at h
      simp only [Option.some.injEq, Out.val.injEq] at h
      subst h
      exact pure_convert hA hs hop hc
    | none =>
      rw [hc] at h
      simp only at h
      cases hb : convB c s t (ev st.t x) with
      | some u =>
        rw [hb] at h
        simp only [Option.some.injEq, Out.val.injEq] at h
        subst h
        exact pure_bytes hA hs hop hb
      | none =>
        rw [hb] at h
        cases hf : bytesFor c s t (ev st.t x) <;> rw [hf] at h <;> cases h
  | binOp op t x y t' => exact pure_binOp hA hs hop h
  | load t x => exact pure_load hA hs hop h
  | fieldAddr t x f => exact pure_fieldAddr hA hs hop h
  | field t x f => exact pure_field hA hs hop h
  | indexAddr t x y => exact pure_indexAddr hA hs hop h
  | index t x y => exact pure_index hA hs hop h
  | slice t x lo hi mx => exact pure_slice hA hs hop h
  | build t ps => exact pure_build hA hs hop h
  | call cl =>
    obtain ⟨callee, args, ts⟩ := cl
    cases callee with
    | value f =>
      exfalso
      rw [hop] at h
      simp only [valOp] at h
      split at h
      · split at h
        · split at h
          · obtain ⟨_, _, _, e⟩ := takeR_fresh h
            cases e
          · cases h
        · cases h
      · cases h
    | invoke f m => rw [hop] at h; simp only [valOp] at h; cases h
    | builtin bi =>
      cases bi with
      | len => exact pure_len hA hs hop h
      | min => exact pure_min hs hop h
      | max => exact pure_max hs hop h
      | append =>
        exfalso
        rw [hop] at h
        simp only [valOp] at h
        repeat' split at h
        all_goals cases h
      | _ => rw [hop] at h; simp only [valOp] at h; cases h
  | _ =>
    exfalso
    rw [hop] at h
    first
      | (simp only [valOp, plain] at h; cases h; done)
      | (simp only [valOp, plain] at h; (repeat' split at h) <;> cases h)

theorem sound_fresh (hA : Agree P c) (hD : Answers P den) (hs : Sim Γ st a w) {o : Oper} {v : V} {esc : List Nat} {n : Nat} (h : valOp c den (ev st.t) (fun b => st.h.getD b none) d o.op = some (.fresh v esc n))
    (hd : d < 1000) (hf : n = 0 ∨ st.freeD d = true) (hod : o.dst = some d)
    (next : Act → World → Prop) (Q : Exit → Act → World → Prop) (hn : ∀ a' w', Sims Γ (({ st with t := st.t.set d v } : St).kill esc) a' w' → next a' w') : o.wp P a w next Q := by
  have fin : (∃ x w', (execOp a.eval o).run P w = .ok (.value x) w' ∧ Sims Γ (({ st with t := st.t.set d v } : St).kill esc) (a.put (some d) x) w') → o.wp P a w next Q := by
    rintro ⟨x, w', h1, h2⟩
    unfold Oper.wp
    rw [h1, Oper.upon_value, hod]
    exact hn _ _ h2
  cases hop : o.op with
  | buildSlice t m ps => exact fin (sound_buildSlice hA hs hop h hd hf)
  | makeSlice t l k => exact fin (sound_makeSlice hA hs hop h hd hf)
  | convert s t x =>
    rw [hop] at h
    simp only [valOp, plain] at h
    cases hc : convV c s t (ev st.t x) with
    | some u => rw [hc] at h; cases h
    | none =>
      rw [hc] at h
      simp only at h
      cases hb : convB c s t (ev st.t x) with
      | some u => rw [hb] at h; cases h
      | none =>
        rw [hb] at h
        simp only at h
        cases hg : bytesFor c s t (ev st.t x) with
        | none => rw [hg] at h; cases h
        | some u =>
          rw [hg] at h
          simp only [Option.map_some, Option.some.injEq, Out.fresh.injEq] at h
          obtain ⟨rfl, rfl, rfl⟩ := h
          exact fin (sound_bytes hA hs hop hg hd)
  | call cl =>
    obtain ⟨callee, args, ts⟩ := cl
    cases callee with
    | value f => exact sound_call hD hs hop h hd hf hod next Q hn
    | invoke f m => rw [hop] at h; simp only [valOp] at h; cases h
    | builtin bi =>
      cases bi with
      | append => exact fin (sound_appendNil hA hs hop h hd hf)
      | _ =>
        exfalso
        rw [hop] at h
        simp only [valOp, plain] at h
        first
          | (cases h; done)
          | ((repeat' split at h) <;> cases h)
  | unOp u _ _ =>
    exfalso
    rw [hop] at h
    cases u <;> simp only [valOp, plain] at h <;> first | (cases h; done) | ((repeat' split at h) <;> cases h)
  | makeFunc fn _ _ =>
    exfalso
    rw [hop] at h
    cases fn <;> simp only [valOp, plain] at h <;> first | (cases h; done) | ((repeat' split at h) <;> cases h)
  | slice _ _ _ _ mx =>
    exfalso
    rw [hop] at h
    cases mx <;> simp only [valOp, plain] at h <;> first | (cases h; done) | ((repeat' split at h) <;> cases h)
  | _ =>
    exfalso
    rw [hop] at h
    first
      | (simp only [valOp, plain] at h; cases h; done)
      | (simp only [valOp, plain] at h; (repeat' split at h) <;> cases h)

/-- One operation. -/
theorem sound_step (hA : Agree P c) (hD : Answers P den) (hs : Sim Γ st a w) {o : Oper} {st' : St} (h : step c den st o = some st')
    (next : Act → World → Prop) (Q : Exit → Act → World → Prop) (hn : ∀ a' w', Sims Γ st' a' w' → next a' w') : o.wp P a w next Q := by
  unfold step at h
  split at h
  · rename_i he
    cases hop : o.op with
    | store t ad x =>
      obtain ⟨w', h1, h2⟩ := sound_store hA hs hop h
      unfold Oper.wp
      rw [h1, Oper.upon_skip]
      exact hn _ _ h2
    | call cl =>
      obtain ⟨callee, args, ts⟩ := cl
      cases callee with
      | value f => rw [hop] at he; cases he
      | invoke f m => rw [hop] at he; cases he
      | builtin bi =>
        cases bi with
        | append =>
          obtain ⟨x, w', h1, h2⟩ := sound_appendOwn hA hs hop h
          unfold Oper.wp
          rw [h1, Oper.upon_value]
          exact hn _ _ h2
        | _ => rw [hop] at he; cases he
    | _ => rw [hop] at he; cases he
  · split at h
    · cases h
    · rename_i d hod
      split at h
      · cases h
      · rename_i v hv
        simp only [Option.some.injEq] at h
        subst h
        obtain ⟨x, h1, h2⟩ := pure_val hA hs hv
        unfold Oper.wp
        rw [h1, Oper.upon_value, hod]
        exact hn _ _ ⟨Γ, ⟨rfl, rfl, rfl⟩, hs.put h2⟩
      · rename_i r hv
        split at h
        · rename_i hc
          simp only [Option.some.injEq] at h
          subst h
          obtain ⟨x, w', h1, h2⟩ := sound_box hA hs hv hc.1 hc.2.1 hc.2.2.1 hc.2.2.2
          unfold Oper.wp
          rw [h1, Oper.upon_value, hod]
          exact hn _ _ h2
        · cases h
      · rename_i v esc n hv
        split at h
        · rename_i hc
          simp only [Option.some.injEq] at h
          subst h
          exact sound_fresh hA hD hs hv hc.1 hc.2.2 hod next Q hn
        · cases h
end
end Go.Am
