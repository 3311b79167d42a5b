/-
  The machine's answers without a bound on depth: what a function answers, and that a run with these answers gives such an answer. No theorem about a Go program stands here.
-/
import Derived.Test.YtcajalfelmgeiaaAmCore
set_option linter.unusedVariables false
set_option linter.unusedSimpArgs false
namespace Go.Am
open Go
variable {P : Program} {c : Cfg} {ext : Nat → List V → Option V}

theorem iter_mono (body : St → Option (Ex × St)) (hd : St → St) : ∀ (k : Nat) (st : St) (r : Ex × St), iter body hd k st = some r → iter body hd (k + 1) st = some r := by
  intro k
  induction k with
  | zero => intro st r h; simp [iter] at h
  | succ k ih =>
    intro st r h
    rw [iter] at h ⊢
    cases hb : body (hd st) with
    | none => rw [hb] at h; simp at h
    | some x =>
      obtain ⟨e, s⟩ := x
      rw [hb] at h
      cases e with
      | normal => exact ih _ _ h
      | exit i => exact h
      | ret => exact h
theorem iter_le {body : St → Option (Ex × St)} {hd : St → St} {k m : Nat} {st : St} {r : Ex × St} (hkm : k ≤ m) (h : iter body hd k st = some r) : iter body hd m st = some r := by
  induction m with
  | zero => obtain rfl : k = 0 := by omega
            exact h
  | succ m ih =>
    by_cases e : k = m + 1
    · subst e; exact h
    · exact iter_mono _ _ _ _ _ (ih (by omega))

open Classical in
/-- A loop, however often it goes round. -/
noncomputable def loopInf : Loops := fun body hd st => if h : ∃ (r : Ex × St) (k : Nat), iter body hd k st = some r then some h.choose else none

theorem loopInf_of {body : St → Option (Ex × St)} {hd : St → St} {st : St} {r : Ex × St} {k : Nat} (h : iter body hd k st = some r) : loopInf body hd st = some r := by
  have hex : ∃ (r : Ex × St) (k : Nat), iter body hd k st = some r := ⟨r, k, h⟩
  unfold loopInf
  rw [dif_pos hex]
  obtain ⟨m, hm⟩ := hex.choose_spec
  have h1 := iter_le (Nat.le_max_left k m) h
  have h2 := iter_le (Nat.le_max_right k m) hm
  rw [h1] at h2
  injection h2 with h2
  rw [← h2]
theorem loopInf_some {body : St → Option (Ex × St)} {hd : St → St} {st : St} {r : Ex × St} (h : loopInf body hd st = some r) : ∃ k, iter body hd k st = some r := by
  unfold loopInf at h
  by_cases hex : ∃ (r : Ex × St) (k : Nat), iter body hd k st = some r
  · rw [dif_pos hex] at h
    obtain ⟨m, hm⟩ := hex.choose_spec
    injection h with h
    rw [h] at hm
    exact ⟨m, hm⟩
  · rw [dif_neg hex] at h; cases h
/-- One round. -/
theorem loopInf_step (body : St → Option (Ex × St)) (hd : St → St) (st : St) : loopInf body hd st = match body (hd st) with
    | some (.normal, s) => loopInf body hd s
    | r => r := by
  cases hb : body (hd st) with
  | none =>
    simp only
    cases hl : loopInf body hd st with
    | none => rfl
    | some r =>
      obtain ⟨k, hk⟩ := loopInf_some hl
      cases k with
      | zero => simp [iter] at hk
      | succ k => rw [iter, hb] at hk; cases hk
  | some x =>
    obtain ⟨e, s⟩ := x
    cases e with
    | normal =>
      simp only
      cases hl : loopInf body hd s with
      | some r =>
        obtain ⟨k, hk⟩ := loopInf_some hl
        exact loopInf_of (k := k + 1) (by rw [iter, hb]; exact hk)
      | none =>
        cases hl' : loopInf body hd st with
        | none => rfl
        | some r =>
          obtain ⟨k, hk⟩ := loopInf_some hl'
          cases k with
          | zero => simp [iter] at hk
          | succ k =>
            rw [iter, hb] at hk
            rw [loopInf_of hk] at hl
            cases hl
    | exit i => exact loopInf_of (k := 1) (by rw [iter, hb])
    | ret => exact loopInf_of (k := 1) (by rw [iter, hb])

/-! ### more answers, the same result -/
def Le (a b : Nat → List V → Option V) : Prop := ∀ f args r, a f args = some r → b f args = some r
def LeL (A B : Loops) : Prop := ∀ (f g : St → Option (Ex × St)) (hd : St → St) (st : St) (r : Ex × St), (∀ s r, f s = some r → g s = some r) → A f hd st = some r → B g hd st = some r

theorem valOp_le {a b : Nat → List V → Option V} (h : Le a b) {ρ : Operand → V} {η : Nat → Option V} {d : Nat} {op : Op} {r : Out} (hr : valOp c a ρ η d op = some r) : valOp c b ρ η d op = some r := by
  cases op with
  | call cl =>
    obtain ⟨callee, args, ts⟩ := cl
    cases callee with
    | value f =>
      simp only [valOp] at hr ⊢
      cases hf : ρ f with
      | clo g cap =>
        rw [hf] at hr
        simp only at hr ⊢
        cases hs : strips η (args.toList.map ρ ++ cap) with
        | none => rw [hs] at hr; cases hr
        | some vs =>
          rw [hs] at hr
          simp only at hr ⊢
          cases hd : a g (nilArgs (c.pz g) vs) with
          | none => rw [hd] at hr; cases hr
          | some x => rw [hd] at hr; rw [h _ _ _ hd]; exact hr
      | _ => rw [hf] at hr; cases hr
    | invoke f m => exact hr
    | builtin bi => cases bi <;> exact hr
  | unOp u _ _ => cases u <;> exact hr
  | makeFunc fn _ _ => cases fn <;> exact hr
  | slice _ _ _ _ mx => cases mx <;> exact hr
  | _ => exact hr
theorem step_le {a b : Nat → List V → Option V} (h : Le a b) {st : St} {o : Oper} {r : St} (hr : step c a st o = some r) : step c b st o = some r := by
  unfold step at hr ⊢
  split
  · rename_i he; rw [if_pos he] at hr; exact hr
  · rename_i he
    rw [if_neg he] at hr
    cases hd : o.dst with
    | none => rw [hd] at hr; cases hr
    | some d =>
      rw [hd] at hr
      simp only at hr ⊢
      cases hv : valOp c a (ev st.t) (fun b => st.h.getD b none) d o.op with
      | none => rw [hv] at hr; cases hr
      | some x => rw [valOp_le h hv]; rw [hv] at hr; exact hr
theorem runOps_le {a b : Nat → List V → Option V} (h : Le a b) {ops : Array Oper} : ∀ (l : List Oper) (st r : St), runOps c a ops l st = some r → runOps c b ops l st = some r := by
  intro l
  induction l with
  | nil => intro st r hr; exact hr
  | cons o l ih =>
    intro st r hr
    rw [runOps] at hr ⊢
    cases hw : wanted ops st.t o with
    | none => rw [hw] at hr; cases hr
    | some t =>
      rw [hw] at hr
      cases t with
      | true =>
        simp only at hr ⊢
        cases hs : step c a st o with
        | none => rw [hs] at hr; cases hr
        | some s => rw [hs] at hr; rw [step_le h hs]; exact ih _ _ hr
      | false =>
        simp only at hr ⊢
        cases hd : o.dst with
        | none => rw [hd] at hr; exact ih _ _ hr
        | some d => rw [hd] at hr; exact ih _ _ hr
theorem exec_le {a b : Nat → List V → Option V} (h : Le a b) {A B : Loops} (hL : LeL A B) {n : Told} : ∀ (code : Code) (st : St) (r : Ex × St), exec c a A n code st = some r → exec c b B n code st = some r := by
  intro code
  induction code with
  | skip => intro st r hr; exact hr
  | region id ops draw =>
    intro st r hr
    rw [exec] at hr ⊢
    have key : ∀ st r, (runOps c a ops ops.toList st).map (fun s => (Ex.normal, s)) = some r → (runOps c b ops ops.toList st).map (fun s => (Ex.normal, s)) = some r := by
      intro st r hr
      cases hq : runOps c a ops ops.toList st with
      | none => rw [hq] at hr; cases hr
      | some s => rw [runOps_le h _ _ _ hq]; rw [hq] at hr; exact hr
    split
    · rename_i hd
      rw [if_pos hd] at hr
      split
      · rename_i hc; rw [if_pos hc] at hr; exact key _ _ hr
      · rename_i hc; rw [if_neg hc] at hr; cases hr
    · rename_i hd; rw [if_neg hd] at hr; exact key _ _ hr
  | seq x y ihx ihy =>
    intro st r hr
    rw [exec] at hr ⊢
    cases hx : exec c a A n x st with
    | none => rw [hx] at hr; cases hr
    | some z =>
      rw [hx] at hr
      rw [ihx _ _ hx]
      obtain ⟨e, s⟩ := z
      cases e with
      | normal => exact ihy _ _ hr
      | exit i => exact hr
      | ret => exact hr
  | cond x a' b' iha ihb =>
    intro st r hr
    rw [exec] at hr ⊢
    cases hx : ev st.t x with
    | bool t => rw [hx] at hr; cases t <;> simp only at hr ⊢ <;> first | exact iha _ _ hr | exact ihb _ _ hr
    | _ => rw [hx] at hr; cases hr
  | block id b' ih =>
    intro st r hr
    rw [exec] at hr ⊢
    cases hx : exec c a A n b' st with
    | none => rw [hx] at hr; cases hr
    | some z => rw [hx] at hr; rw [ih _ _ hx]; exact hr
  | loop b' ih =>
    intro st r hr
    rw [exec] at hr ⊢
    cases hx : A (exec c a A n b') (fun s => s.head ((n (firstId b')).1, (n (firstId b')).2.1)) st with
    | none => rw [hx] at hr; cases hr
    | some z =>
      rw [hL _ _ _ _ _ (fun s r hs => ih s r hs) hx]
      rw [hx] at hr
      exact hr
  | exit id => intro st r hr; exact hr
  | ret => intro st r hr; exact hr
  | _ => intro st r hr; cases hr
theorem leL_iter {k m : Nat} (h : k ≤ m) : LeL (fun b hd st => iter b hd k st) (fun b hd st => iter b hd m st) := by
  intro f g hd st r hfg hr
  refine iter_le h ?_
  clear h
  induction k generalizing st with
  | zero => simp [iter] at hr
  | succ k ih =>
    simp only [iter] at hr ⊢
    cases hb : f (hd st) with
    | none => rw [hb] at hr; cases hr
    | some x =>
      rw [hfg _ _ hb]
      rw [hb] at hr
      obtain ⟨e, s⟩ := x
      cases e with
      | normal => exact ih s hr
      | exit i => exact hr
      | ret => exact hr
theorem fnRun_le {a b : Nat → List V → Option V} (h : Le a b) {A B : Loops} (hL : LeL A B) {f : Nat} {fn : Func} {args : List V} {r : V} (hr : fnRun c a A f fn args = some r) : fnRun c b B f fn args = some r := by
  unfold fnRun at hr ⊢
  cases hb : fn.body with
  | none => rw [hb] at hr; cases hr
  | some code =>
    rw [hb] at hr
    simp only at hr ⊢
    split at hr
    · cases hr
    rename_i hdr
    rw [if_neg hdr]
    cases hx : exec c a A (c.fg f) code ⟨args ++ List.replicate (fn.ntmps - args.length) .undef, List.replicate fn.ntmps none, fun _ => false⟩ with
    | none => rw [hx] at hr; cases hr
    | some z => rw [exec_le h hL _ _ _ hx]; rw [hx] at hr; exact hr
theorem denN_succ : ∀ k, Le (denN P c ext k) (denN P c ext (k + 1)) := by
  intro k
  induction k with
  | zero => intro f args r h; cases h
  | succ k ih =>
    intro f args r h
    rw [denN] at h ⊢
    cases he : ext f args with
    | some x => rw [he] at h; exact h
    | none =>
      rw [he] at h
      simp only at h ⊢
      cases hf : P.funcs[f]? with
      | none => rw [hf] at h; cases h
      | some fn =>
        rw [hf] at h
        simp only at h ⊢
        split at h
        · cases h
        · rename_i hn
          rw [if_neg hn]
          exact fnRun_le ih (leL_iter (by omega)) h
theorem denN_le {k m : Nat} (h : k ≤ m) : Le (denN P c ext k) (denN P c ext m) := by
  induction m with
  | zero => obtain rfl : k = 0 := by omega
            intro f args r h; exact h
  | succ m ih =>
    by_cases e : k = m + 1
    · subst e; intro f args r h; exact h
    · intro f args r hr; exact denN_succ m f args r (ih (by omega) f args r hr)

open Classical in
/-- What a function answers. -/
noncomputable def den (P : Program) (c : Cfg) (ext : Nat → List V → Option V) (f : Nat) (args : List V) : Option V :=
  if h : ∃ (r : V) (k : Nat), denN P c ext k f args = some r then some h.choose else none
theorem den_of {f : Nat} {args : List V} {r : V} {k : Nat} (h : denN P c ext k f args = some r) : den P c ext f args = some r := by
  have hex : ∃ (r : V) (k : Nat), denN P c ext k f args = some r := ⟨r, k, h⟩
  unfold den
  rw [dif_pos hex]
  obtain ⟨m, hm⟩ := hex.choose_spec
  have h1 := denN_le (Nat.le_max_left k m) _ _ _ h
  have h2 := denN_le (Nat.le_max_right k m) _ _ _ hm
  rw [h1] at h2
  injection h2 with h2
  rw [← h2]
theorem den_some {f : Nat} {args : List V} {r : V} (h : den P c ext f args = some r) : ∃ k, denN P c ext k f args = some r := by
  unfold den at h
  by_cases hex : ∃ (r : V) (k : Nat), denN P c ext k f args = some r
  · rw [dif_pos hex] at h
    obtain ⟨m, hm⟩ := hex.choose_spec
    injection h with h
    rw [h] at hm
    exact ⟨m, hm⟩
  · rw [dif_neg hex] at h; cases h

/-! ### a run without bounds is a run of some depth -/
theorem valOp_lim {ρ : Operand → V} {η : Nat → Option V} {d : Nat} {op : Op} {r : Out} (hr : valOp c (den P c ext) ρ η d op = some r) : ∃ k, valOp c (denN P c ext k) ρ η d op = some r := by
  cases op with
  | call cl =>
    obtain ⟨callee, args, ts⟩ := cl
    cases callee with
    | value f =>
      simp only [valOp] at hr ⊢
      cases hf : ρ f with
      | clo g cap =>
        rw [hf] at hr
        simp only at hr ⊢
        cases hs : strips η (args.toList.map ρ ++ cap) with
        | none => rw [hs] at hr; cases hr
        | some vs =>
          rw [hs] at hr
          simp only at hr ⊢
          cases hd : den P c ext g (nilArgs (c.pz g) vs) with
          | none => rw [hd] at hr; cases hr
          | some x =>
            rw [hd] at hr
            obtain ⟨k, hk⟩ := den_some hd
            exact ⟨k, by rw [hk]; exact hr⟩
      | _ => rw [hf] at hr; cases hr
    | invoke f m => exact ⟨0, hr⟩
    | builtin bi => cases bi <;> exact ⟨0, hr⟩
  | unOp u _ _ => cases u <;> exact ⟨0, hr⟩
  | makeFunc fn _ _ => cases fn <;> exact ⟨0, hr⟩
  | slice _ _ _ _ mx => cases mx <;> exact ⟨0, hr⟩
  | _ => exact ⟨0, hr⟩
theorem step_lim {st : St} {o : Oper} {r : St} (hr : step c (den P c ext) st o = some r) : ∃ k, step c (denN P c ext k) st o = some r := by
  unfold step at hr ⊢
  split
  · rename_i he; rw [if_pos he] at hr; exact ⟨0, hr⟩
  · rename_i he
    rw [if_neg he] at hr
    cases hd : o.dst with
    | none => rw [hd] at hr; cases hr
    | some d =>
      rw [hd] at hr
      simp only at hr ⊢
      cases hv : valOp c (den P c ext) (ev st.t) (fun b => st.h.getD b none) d o.op with
      | none => rw [hv] at hr; cases hr
      | some x =>
        obtain ⟨k, hk⟩ := valOp_lim hv
        exact ⟨k, by rw [hk]; rw [hv] at hr; exact hr⟩
theorem runOps_lim {ops : Array Oper} : ∀ (l : List Oper) (st r : St), runOps c (den P c ext) ops l st = some r → ∃ k, runOps c (denN P c ext k) ops l st = some r := by
  intro l
  induction l with
  | nil => intro st r hr; exact ⟨0, hr⟩
  | cons o l ih =>
    intro st r hr
    simp only [runOps] at hr ⊢
    cases hw : wanted ops st.t o with
    | none => rw [hw] at hr; cases hr
    | some t =>
      rw [hw] at hr
      cases t with
      | true =>
        simp only at hr ⊢
        cases hs : step c (den P c ext) st o with
        | none => rw [hs] at hr; cases hr
        | some s =>
          rw [hs] at hr
          obtain ⟨k, hk⟩ := step_lim hs
          obtain ⟨m, hm⟩ := ih _ _ hr
          refine ⟨max k m, ?_⟩
          rw [step_le (denN_le (Nat.le_max_left k m)) hk]
          exact runOps_le (denN_le (Nat.le_max_right k m)) _ _ _ hm
      | false =>
        simp only at hr ⊢
        cases hd : o.dst with
        | none => rw [hd] at hr; exact ih _ _ hr
        | some d => rw [hd] at hr; exact ih _ _ hr
theorem exec_lim {n : Told} : ∀ (code : Code) (st : St) (r : Ex × St), exec c (den P c ext) loopInf n code st = some r → ∃ k, exec c (denN P c ext k) (fun b hd st => iter b hd k st) n code st = some r := by
  intro code
  induction code with
  | skip => intro st r hr; exact ⟨0, hr⟩
  | region id ops draw =>
    intro st r hr
    simp only [exec] at hr ⊢
    have key : ∀ st r, (runOps c (den P c ext) ops ops.toList st).map (fun s => (Ex.normal, s)) = some r → ∃ k, (runOps c (denN P c ext k) ops ops.toList st).map (fun s => (Ex.normal, s)) = some r := by
      intro st r hr
      cases hq : runOps c (den P c ext) ops ops.toList st with
      | none => rw [hq] at hr; cases hr
      | some s =>
        obtain ⟨k, hk⟩ := runOps_lim _ _ _ hq
        exact ⟨k, by rw [hk]; rw [hq] at hr; exact hr⟩
    split
    · rename_i hd
      rw [if_pos hd] at hr
      split
      · rename_i hc; rw [if_pos hc] at hr; exact key _ _ hr
      · rename_i hc; rw [if_neg hc] at hr; cases hr
    · rename_i hd; rw [if_neg hd] at hr; exact key _ _ hr
  | seq x y ihx ihy =>
    intro st r hr
    simp only [exec] at hr ⊢
    cases hx : exec c (den P c ext) loopInf n x st with
    | none => rw [hx] at hr; cases hr
    | some z =>
      rw [hx] at hr
      obtain ⟨k, hk⟩ := ihx _ _ hx
      obtain ⟨e, s⟩ := z
      cases e with
      | normal =>
        obtain ⟨m, hm⟩ := ihy _ _ hr
        refine ⟨max k m, ?_⟩
        rw [exec_le (denN_le (Nat.le_max_left k m)) (leL_iter (Nat.le_max_left k m)) _ _ _ hk]
        exact exec_le (denN_le (Nat.le_max_right k m)) (leL_iter (Nat.le_max_right k m)) _ _ _ hm
      | exit i => exact ⟨k, by rw [hk]; exact hr⟩
      | ret => exact ⟨k, by rw [hk]; exact hr⟩
  | cond x a' b' iha ihb =>
    intro st r hr
    simp only [exec] at hr ⊢
    cases hx : ev st.t x with
    | bool t => rw [hx] at hr; cases t <;> simp only at hr ⊢ <;> first | exact iha _ _ hr | exact ihb _ _ hr
    | _ => rw [hx] at hr; cases hr
  | block id b' ih =>
    intro st r hr
    simp only [exec] at hr ⊢
    cases hx : exec c (den P c ext) loopInf n b' st with
    | none => rw [hx] at hr; cases hr
    | some z =>
      rw [hx] at hr
      obtain ⟨k, hk⟩ := ih _ _ hx
      exact ⟨k, by rw [hk]; exact hr⟩
  | loop b' ih =>
    intro st r hr
    simp only [exec] at hr ⊢
    cases hx : loopInf (exec c (den P c ext) loopInf n b') (fun s => s.head ((n (firstId b')).1, (n (firstId b')).2.1)) st with
    | none => rw [hx] at hr; cases hr
    | some zz =>
    rw [hx] at hr
    obtain ⟨j, hj⟩ := loopInf_some hx
    clear hx
    suffices hsuf : ∃ k, iter (exec c (denN P c ext k) (fun b hd st => iter b hd k st) n b') (fun s => s.head ((n (firstId b')).1, (n (firstId b')).2.1)) k st = some zz by
      obtain ⟨k, hk⟩ := hsuf
      exact ⟨k, by rw [hk]; exact hr⟩
    clear hr
    induction j generalizing st with
    | zero => simp [iter] at hj
    | succ j ihj =>
      rw [iter] at hj
      cases hb : exec c (den P c ext) loopInf n b' (st.head ((n (firstId b')).1, (n (firstId b')).2.1)) with
      | none => rw [hb] at hj; cases hj
      | some z =>
        rw [hb] at hj
        obtain ⟨k, hk⟩ := ih _ _ hb
        obtain ⟨e, s⟩ := z
        cases e with
        | normal =>
          obtain ⟨m, hm⟩ := ihj s hj
          refine ⟨max k m + 1, ?_⟩
          rw [iter, exec_le (denN_le (by omega)) (leL_iter (by omega)) _ _ _ hk]
          exact leL_iter (Nat.le_max_right k m) _ _ _ _ _ (fun s r hs => exec_le (denN_le (by omega)) (leL_iter (by omega)) _ _ _ hs) hm
        | exit i => exact ⟨k + 1, by rw [iter, exec_le (denN_le (by omega)) (leL_iter (by omega)) _ _ _ hk]; exact hj⟩
        | ret => exact ⟨k + 1, by rw [iter, exec_le (denN_le (by omega)) (leL_iter (by omega)) _ _ _ hk]; exact hj⟩
  | exit id => intro st r hr; exact ⟨0, hr⟩
  | ret => intro st r hr; exact ⟨0, hr⟩
  | _ => intro st r hr; cases hr
/-- A function answers what its body's run gives. -/
theorem den_run {f : Nat} {fn : Func} {args : List V} {r : V} (he : ext f args = none) (hf : P.funcs[f]? = some fn) (hnm : (fn.name == "runtime.NumGoroutine") = false) (h : fnRun c (den P c ext) loopInf f fn args = some r) : den P c ext f args = some r := by
  unfold fnRun at h
  cases hb : fn.body with
  | none => rw [hb] at h; cases h
  | some code =>
    rw [hb] at h
    simp only at h
    split at h
    · cases h
    rename_i hdr
    cases hx : exec c (den P c ext) loopInf (c.fg f) code ⟨args ++ List.replicate (fn.ntmps - args.length) .undef, List.replicate fn.ntmps none, fun _ => false⟩ with
    | none => rw [hx] at h; cases h
    | some z =>
      obtain ⟨k, hk⟩ := exec_lim _ _ _ hx
      refine den_of (k := k + 1) ?_
      rw [denN, he]
      simp only [hf, hnm]
      rw [if_neg (by simp)]
      unfold fnRun
      rw [hb]
      simp only
      rw [if_neg hdr]
      rw [hk]
      rw [hx] at h
      exact h
theorem den_ext {f : Nat} {args : List V} {r : V} (he : ext f args = some r) : den P c ext f args = some r := den_of (k := 1) (by rw [denN, he])
end Go.Am
