/-
  Operations in another order: what two neighbours that do not hang on each other may change places with. No theorem about a Go program stands here.
-/
import Derived.Test.YtcajalfelmgeiaaAmNames2
set_option linter.unusedVariables false
set_option linter.unusedSimpArgs false
namespace Go.Am
open Go Go.RowKit
section
variable {P : Program} {c : Cfg} {Γ Γ' : Ctx} {st : St} {a : Act} {w w' : World} {den : Nat → List V → Option V} {η η' : Nat → Option V} {d : Nat} {p q r : Nat → Bool} {ρ ρ' : Operand → V}

theorem strip_congr (hη : ∀ b, r b = false → η b = η' b) (v : V) : v.anyP r = false → strip η v = strip η' v := by
  refine V.rec (motive_1 := fun v => v.anyP r = false → strip η v = strip η' v) (motive_2 := fun vs => V.anyPs r vs = false → strips η vs = strips η' vs)
    (fun _ => rfl) (fun _ _ => rfl) (fun _ _ _ => rfl) (fun _ _ => rfl) (fun _ => rfl) (fun _ _ _ _ _ => rfl) (fun _ _ _ _ _ _ => rfl) (fun _ _ _ _ _ _ => rfl)
    (fun d o h => ?_) (fun _ _ _ _ _ _ _ _ => rfl) (fun _ _ _ _ _ => rfl) (fun _ _ _ _ => rfl) (fun cs ih h => ?_) (fun cs ih h => ?_) (fun f cs ih h => ?_) (fun _ => rfl) (fun v vs hv hvs h => ?_) v
  · simp only [strip, hη d (by simpa [V.anyP] using h)]
  · simp only [strip, ih h]
  · simp only [strip, ih h]
  · simp only [strip, ih h]
  · rw [V.anyPs, Bool.or_eq_false_iff] at h
    simp only [strips, hv h.1, hvs h.2]
theorem strips_congr (hη : ∀ b, r b = false → η b = η' b) : ∀ (vs : List V), (∀ v ∈ vs, v.anyP r = false) → strips η vs = strips η' vs := by
  intro vs
  induction vs with
  | nil => intro _; rfl
  | cons v vs ih => intro h; simp only [strips, strip_congr hη v (h v (by simp)), ih (fun u hu => h u (by simp [hu]))]
theorem loadV_congr (hη : ∀ b, r b = false → η b = η' b) {i : TyInfo} {v : V} (h : v.anyP r = false) : loadV η i v = loadV η' i v := by
  have : cellsAt η v = cellsAt η' v := by
    cases v <;> first | rfl | skip
    rename_i d o
    simp only [cellsAt, hη d (by simpa [V.anyP] using h)]
  simp only [loadV, this]

/-- What an operation gives depends on its operands and on the boxes that these lead to. -/
theorem valOp_congr {op : Op} (hρ : ∀ x ∈ op.operands.toList, ρ x = ρ' x) (hη : ∀ b, r b = false → η b = η' b) (hr : ∀ x ∈ op.operands.toList, (ρ x).anyP r = false) : valOp c den ρ η d op = valOp c den ρ' η' d op := by
  cases op with
  | move x => simp only [valOp, hρ x (by simp [Op.operands])]
  | assign x => simp only [valOp, hρ x (by simp [Op.operands])]
  | pick x y z => simp only [valOp, hρ x (by simp [Op.operands]), hρ y (by simp [Op.operands]), hρ z (by simp [Op.operands])]
  | alloc e => rfl
  | box e x => simp only [valOp, hρ x (by simp [Op.operands])]
  | build t ps =>
    have : ps.toList.map (fun y => (y.1, ρ y.2)) = ps.toList.map (fun y => (y.1, ρ' y.2)) := List.map_congr_left fun y hy => by
      rw [hρ y.2 (by simp only [Op.operands]; exact List.mem_map.2 ⟨y, hy, rfl⟩)]
    simp only [valOp, this]
  | buildSlice t n ps =>
    have : ps.toList.map (fun y => (y.1, ρ y.2)) = ps.toList.map (fun y => (y.1, ρ' y.2)) := List.map_congr_left fun y hy => by
      rw [hρ y.2 (by simp only [Op.operands]; exact List.mem_map.2 ⟨y, hy, rfl⟩)]
    simp only [valOp, this]
  | load t x =>
    have h1 := hr x (by simp [Op.operands])
    have h2 := hρ x (by simp [Op.operands])
    rw [h2] at h1
    have h3 : ∀ i, loadV η i (ρ' x) = loadV η' i (ρ' x) := fun i => loadV_congr hη h1
    simp only [valOp, h2, h3]
  | nilCheck x => simp only [valOp, hρ x (by simp [Op.operands])]
  | binOp o t x y t' => simp only [valOp, hρ x (by simp [Op.operands]), hρ y (by simp [Op.operands])]
  | unOp u t x => cases u <;> simp only [valOp, hρ x (by simp [Op.operands])]
  | convert s t x => simp only [valOp, hρ x (by simp [Op.operands])]
  | makeFunc fn first cap =>
    have : cap.toList.map ρ = cap.toList.map ρ' := List.map_congr_left fun y hy => hρ y (by simp only [Op.operands, Array.toList_append, List.mem_append]; exact .inr hy)
    cases fn <;> simp only [valOp, this]
  | makeSlice t l k => simp only [valOp, hρ l (by simp [Op.operands]), hρ k (by simp [Op.operands])]
  | slice t x lo hi mx =>
    have h1 : lo.map ρ = lo.map ρ' := by
      cases lo with
      | none => rfl
      | some y => simp only [Option.map_some, hρ y (by simp [Op.operands])]
    have h2 : hi.map ρ = hi.map ρ' := by
      cases hi with
      | none => rfl
      | some y => simp only [Option.map_some, hρ y (by simp [Op.operands])]
    cases mx <;> simp only [valOp, h1, h2, hρ x (by simp [Op.operands])]
  | fieldAddr t x f => simp only [valOp, hρ x (by simp [Op.operands])]
  | field t x f => simp only [valOp, hρ x (by simp [Op.operands])]
  | indexAddr t x y => simp only [valOp, hρ x (by simp [Op.operands]), hρ y (by simp [Op.operands])]
  | index t x y => simp only [valOp, hρ x (by simp [Op.operands]), hρ y (by simp [Op.operands])]
  | extract x i => simp only [valOp, hρ x (by simp [Op.operands])]
  | call cl =>
    obtain ⟨callee, args, ts⟩ := cl
    have hargs : ∀ y ∈ args.toList, ρ y = ρ' y := fun y hy => hρ y (by simp only [Op.operands, Call.operands, Array.toList_append, List.mem_append]; exact .inr hy)
    have hra : ∀ y ∈ args.toList, (ρ y).anyP r = false := fun y hy => hr y (by simp only [Op.operands, Call.operands, Array.toList_append, List.mem_append]; exact .inr hy)
    cases callee with
    | value f =>
      have hf := hρ f (by simp [Op.operands, Call.operands])
      have hrf := hr f (by simp [Op.operands, Call.operands])
      have hmap : args.toList.map ρ = args.toList.map ρ' := List.map_congr_left hargs
      simp only [valOp, ← hf]
      cases hfv : ρ f with
      | clo g cap =>
        simp only
        rw [hfv] at hrf
        rw [strips_congr hη (args.toList.map ρ ++ cap) (fun v hv => ?_), hmap]
        rcases List.mem_append.1 hv with hv | hv
        · obtain ⟨y, hy, rfl⟩ := List.mem_map.1 hv
          exact hra y hy
        · exact anyPs_mem hrf v hv
      | _ => rfl
    | invoke f m => rfl
    | builtin bi =>
      have two : ∀ x y, args.toList = [x, y] → ρ x = ρ' x ∧ ρ y = ρ' y := fun x y h => ⟨hargs x (by rw [h]; simp), hargs y (by rw [h]; simp)⟩
      have one : ∀ x, args.toList = [x] → ρ x = ρ' x := fun x h => hargs x (by rw [h]; simp)
      cases bi <;> first | rfl | skip
      all_goals
        simp only [valOp]
        cases hl : args.toList with
        | nil => rfl
        | cons x xs =>
          cases xs with
          | nil =>
            have e := one x hl
            rcases hts : ts.toList with _ | ⟨t1, _ | ⟨t2, _ | ⟨t3, tr⟩⟩⟩ <;> first | rfl | simp only [e] | simp only [hl, hts, e]
          | cons y ys =>
            cases ys with
            | nil =>
              obtain ⟨e1, e2⟩ := two x y hl
              rcases hts : ts.toList with _ | ⟨t1, _ | ⟨t2, _ | ⟨t3, tr⟩⟩⟩ <;> first | rfl | simp only [e1, e2] | simp only [hl, hts, e1, e2]
            | cons _ _ => rfl
  | _ => rfl

theorem isEff_congr {st st2 : St} {op : Op} (h : ∀ x ∈ op.operands.toList, ev st2.t x = ev st.t x) : isEff st2 op = isEff st op := by
  cases op with
  | call cl =>
    obtain ⟨callee, args, ts⟩ := cl
    cases callee with
    | builtin bi =>
      cases bi <;> first | rfl | skip
      simp only [isEff]
      cases hl : args.toList with
      | nil => rfl
      | cons x xs =>
        simp only
        rw [h x (by simp only [Op.operands, Call.operands, Array.toList_append, List.mem_append]; exact .inr (by rw [hl]; simp))]
    | _ => rfl
  | _ => rfl

theorem ev_congr {ops : Array Oper} {o : Oper} {st st2 : St} (h : ∀ x ∈ reads ops o, st2.t.getD x .undef = st.t.getD x .undef) : ∀ x ∈ o.op.operands.toList, ev st2.t x = ev st.t x := by
  intro x hx
  cases x with
  | tmp t =>
    refine h t ?_
    unfold reads
    refine List.mem_append.2 (.inl (List.mem_filterMap.2 ⟨.tmp t, hx, rfl⟩))
  | _ => rfl
theorem wanted_congr {ops : Array Oper} {o : Oper} {st st2 : St} (h : ∀ x ∈ reads ops o, st2.t.getD x .undef = st.t.getD x .undef) : wanted ops st2.t o = wanted ops st.t o := by
  unfold wanted
  cases hg : o.guard with
  | none => rfl
  | some jw =>
    obtain ⟨j, want⟩ := jw
    simp only
    cases hd : (ops[j]?).bind (·.dst) with
    | none => rfl
    | some d =>
      simp only
      rw [h d (by unfold reads; rw [hg]; exact List.mem_append.2 (.inr (by simp [hd])))]
end
end Go.Am
namespace Go.Am
open Go Go.RowKit

def step1 (c : Cfg) (den : Nat → List V → Option V) (ops : Array Oper) (st : St) (o : Oper) : Option St :=
  match wanted ops st.t o with
  | none => none
  | some true => step c den st o
  | some false => match o.dst with
    | some d => some { st with t := st.t.set d skipped }
    | none => some st
theorem runOps_cons (c : Cfg) (den : Nat → List V → Option V) (ops : Array Oper) (o : Oper) (os : List Oper) (st : St) : runOps c den ops (o :: os) st = (step1 c den ops st o).bind (runOps c den ops os) := by
  simp only [runOps, step1]
  cases wanted ops st.t o with
  | none => rfl
  | some b =>
    cases b with
    | true =>
      simp only
      cases step c den st o <;> rfl
    | false =>
      simp only
      cases o.dst <;> rfl

/-- A result put into its slot. -/
def St.upd (st : St) (d : Nat) (v : V) (bx : Option V) (esc : List Nat) : St :=
  ⟨st.t.set d v, (match bx with
    | some r => st.h.set d (some r)
    | none => st.h), fun b => esc.contains b || st.dead b⟩

theorem upd_swap (st : St) {d e : Nat} (h : d ≠ e) (v v' : V) (bx bx' : Option V) (esc esc' : List Nat) : (st.upd d v bx esc).upd e v' bx' esc' = (st.upd e v' bx' esc').upd d v bx esc := by
  unfold St.upd
  congr 1
  · exact List.set_comm _ _ h
  · cases bx <;> cases bx' <;> first | rfl | exact List.set_comm _ _ h
  · funext b
    simp only
    cases esc.contains b <;> cases esc'.contains b <;> rfl

section
variable {P : Program} {c : Cfg} {Γ Γ' : Ctx} {st st2 st' : St} {a : Act} {w w' : World} {den : Nat → List V → Option V} {η η' : Nat → Option V} {d : Nat} {p q r : Nat → Bool} {ops : Array Oper} {o : Oper}

/-- Where an operation that does not write gives the same: what it looks at is the same; its name is free. -/
structure Alike (ops : Array Oper) (r : Nat → Bool) (o : Oper) (st st2 : St) : Prop where
  rd : ∀ x ∈ reads ops o, st2.t.getD x .undef = st.t.getD x .undef
  hb : ∀ b, r b = false → st2.h.getD b none = st.h.getD b none
  hr : ∀ x ∈ o.op.operands.toList, (ev st.t x).anyP r = false
  hl : st2.h.length = st.h.length
  hd : ∀ d, o.dst = some d → r d = false ∧ st2.freeD d = true ∧ (mkBox o.op = true → st2.freeP d = true)

theorem box_mk {v : V} (h : valOp c den (ev st.t) η d o.op = some (.box v)) : mkBox o.op = true := by
  cases hop : o.op with
  | alloc e => rfl
  | box e x => rfl
  | call cl =>
    exfalso
    rw [hop] at h
    obtain ⟨callee, args, ts⟩ := cl
    cases callee with
    | value f =>
      simp only [valOp] at h
      repeat' split at h
      all_goals first | (cases h; done) | skip
      obtain ⟨_, _, _, e⟩ := takeR_fresh h
      cases e
    | invoke f m => simp only [valOp] at h; cases h
    | builtin bi =>
      cases bi <;> simp only [valOp, plain] at h <;> first | (cases h; done) | skip
      all_goals (repeat' split at h) <;> cases h
  | unOp u _ _ =>
    exfalso
    rw [hop] at h
    cases u <;> simp only [valOp, plain] at h <;> first | (cases h; done) | ((repeat' split at h) <;> cases h)
  | makeFunc fn _ _ =>
    exfalso
    rw [hop] at h
    cases fn <;> simp only [valOp, plain] at h <;> first | (cases h; done) | ((repeat' split at h) <;> cases h)
  | convert s t x =>
    exfalso
    rw [hop] at h
    simp only [valOp, plain] at h
    cases hc : convV c s t (ev st.t x) with
    | some u => rw [hc] at h; cases h
    | none =>
      rw [hc] at h
      simp only at h
      cases hb : convB c s t (ev st.t x) with
      | some u => rw [hb] at h; cases h
      | none =>
        rw [hb] at h
        simp only at h
        cases hf : bytesFor c s t (ev st.t x) <;> rw [hf] at h <;> cases h
  | slice _ _ _ _ mx =>
    exfalso
    rw [hop] at h
    cases mx <;> simp only [valOp, plain] at h <;> first | (cases h; done) | ((repeat' split at h) <;> cases h)
  | _ =>
    exfalso
    rw [hop] at h
    first
      | (simp only [valOp, plain] at h; cases h; done)
      | (simp only [valOp, plain] at h; (repeat' split at h) <;> cases h)

/-- An operation that writes nothing puts a result into its slot, and does so wherever all is alike. -/
theorem neat (h : step1 c den ops st o = some st') (hne : isEff st o.op = false ∨ wanted ops st.t o = some false) {d : Nat} (hd : o.dst = some d) :
    ∃ v bx esc, st' = st.upd d v bx esc ∧ ((∃ out, wanted ops st.t o = some true ∧ valOp c den (ev st.t) (fun b => st.h.getD b none) d o.op = some out ∧
        ((out = .val v ∧ bx = none) ∨ (∃ rr, out = .box rr ∧ v = .ptr d 0 ∧ bx = some rr) ∨ (∃ n, out = .fresh v esc n ∧ bx = none))) ∨ (v = skipped ∧ bx = none)) ∧
      (bx.isSome = true → mkBox o.op = true) ∧ ∀ r st2, Alike ops r o st st2 → step1 c den ops st2 o = some (st2.upd d v bx esc) := by
  unfold step1 at h
  cases hw : wanted ops st.t o with
  | none => rw [hw] at h; cases h
  | some b =>
    rw [hw] at h
    cases b with
    | false =>
      simp only [hd, Option.some.injEq] at h
      subst h
      refine ⟨skipped, none, [], rfl, .inr ⟨rfl, rfl⟩, fun h => (by cases h), fun r st2 hal => ?_⟩
      unfold step1
      rw [wanted_congr hal.rd, hw]
      simp only [hd]
      rfl
    | true =>
      simp only at h
      have hne' : isEff st o.op = false := by
        rcases hne with h | h
        · exact h
        · rw [hw] at h; cases h
      unfold step at h
      rw [if_neg (by rw [hne']; simp), hd] at h
      simp only at h
      have tr : ∀ r st2, Alike ops r o st st2 → isEff st2 o.op = false ∧ valOp c den (ev st2.t) (fun b => st2.h.getD b none) d o.op = valOp c den (ev st.t) (fun b => st.h.getD b none) d o.op := fun r st2 hal =>
        ⟨by rw [isEff_congr (ev_congr hal.rd)]; exact hne', (valOp_congr (r := r) (fun x hx => (ev_congr hal.rd x hx).symm) (fun b hb => (hal.hb b hb).symm) hal.hr).symm⟩
      cases hv : valOp c den (ev st.t) (fun b => st.h.getD b none) d o.op with
      | none => rw [hv] at h; cases h
      | some out =>
        rw [hv] at h
        cases out with
        | val v =>
          simp only [Option.some.injEq] at h
          subst h
          refine ⟨v, none, [], rfl, .inl ⟨_, rfl, rfl, .inl ⟨rfl, rfl⟩⟩, fun h => (by cases h), fun r st2 hal => ?_⟩
          obtain ⟨t1, t2⟩ := tr r st2 hal
          unfold step1
          rw [wanted_congr hal.rd, hw]
          simp only
          unfold step
          rw [if_neg (by rw [t1]; simp), hd]
          simp only
          rw [t2, hv]
          rfl
        | box rr =>
          simp only at h
          split at h
          · rename_i hc
            simp only [Option.some.injEq] at h
            subst h
            have hmk := box_mk hv
            refine ⟨.ptr d 0, some rr, [], rfl, .inl ⟨_, rfl, rfl, .inr (.inl ⟨rr, rfl, rfl, rfl⟩)⟩, fun _ => hmk, fun r st2 hal => ?_⟩
            obtain ⟨t1, t2⟩ := tr r st2 hal
            obtain ⟨d1, d2, d3⟩ := hal.hd d hd
            unfold step1
            rw [wanted_congr hal.rd, hw]
            simp only
            unfold step
            rw [if_neg (by rw [t1]; simp), hd]
            simp only
            rw [t2, hv]
            simp only
            rw [if_pos ⟨by rw [hal.hl]; exact hc.1, by rw [hal.hb d d1]; exact hc.2.1, d3 hmk, hc.2.2.2⟩]
            rfl
          · cases h
        | fresh v esc n =>
          simp only at h
          split at h
          · rename_i hc
            simp only [Option.some.injEq] at h
            subst h
            refine ⟨v, none, esc, rfl, .inl ⟨_, rfl, rfl, .inr (.inr ⟨n, rfl, rfl⟩)⟩, fun h => (by cases h), fun r st2 hal => ?_⟩
            obtain ⟨t1, t2⟩ := tr r st2 hal
            obtain ⟨d1, d2, d3⟩ := hal.hd d hd
            unfold step1
            rw [wanted_congr hal.rd, hw]
            simp only
            unfold step
            rw [if_neg (by rw [t1]; simp), hd]
            simp only
            rw [t2, hv]
            simp only
            rw [if_pos ⟨hc.1, hc.2.1, .inr d2⟩]
            rfl
          · cases h
end
end Go.Am
namespace Go.Am
open Go Go.RowKit
section
variable {P : Program} {c : Cfg} {Γ Γ' : Ctx} {st st2 st' s1 s2 : St} {a : Act} {w w' : World} {den : Nat → List V → Option V} {η η' : Nat → Option V} {d : Nat} {p q r : Nat → Bool} {ops : Array Oper} {o : Oper}

/-- Nothing hangs on slot d's names; if a box is to be made there, nothing leads to it. -/
def CleanAt (d : Nat) (bx : Bool) (st : St) : Prop := ∀ v, (v ∈ st.t ∨ some v ∈ st.h) → Av (fun b => b / 1000 == d) (fun d' => bx && d' == d) v

theorem anyBo_of {p : Nat → Bool} : ∀ {l : List (Option V)}, (∀ v, some v ∈ l → v.anyB p = false) → anyBo p l = false := by
  intro l
  induction l with
  | nil => intro _; rfl
  | cons x l ih =>
    intro h
    cases x with
    | none => exact ih fun v hv => h v (by simp [hv])
    | some y => rw [anyBo, h y (by simp), ih (fun v hv => h v (by simp [hv]))]; rfl
theorem anyPo_of {p : Nat → Bool} : ∀ {l : List (Option V)}, (∀ v, some v ∈ l → v.anyP p = false) → anyPo p l = false := by
  intro l
  induction l with
  | nil => intro _; rfl
  | cons x l ih =>
    intro h
    cases x with
    | none => exact ih fun v hv => h v (by simp [hv])
    | some y => rw [anyPo, h y (by simp), ih (fun v hv => h v (by simp [hv]))]; rfl
theorem CleanAt.freeD {bx : Bool} (h : CleanAt d bx st) : st.freeD d = true := by
  unfold St.freeD
  rw [anyBs_of (fun v hv => ?_), anyBo_of (fun v hv => (h v (.inr hv)).1)]
  · rfl
  · rcases List.mem_or_eq_of_mem_set hv with hv | rfl
    · exact (h v (.inl hv)).1
    · rfl
theorem CleanAt.freeP (h : CleanAt d true st) : st.freeP d = true := by
  unfold St.freeP
  rw [anyPs_of (fun v hv => ?_), anyPo_of (fun v hv => by simpa using (h v (.inr hv)).2)]
  · rfl
  · rcases List.mem_or_eq_of_mem_set hv with hv | rfl
    · simpa using (h v (.inl hv)).2
    · rfl
theorem CleanAt.ev {bx : Bool} (h : CleanAt d bx st) (x : Operand) : Av (fun b => b / 1000 == d) (fun d' => bx && d' == d) (ev st.t x) := by
  cases x with
  | tmp t =>
    show Av _ _ (st.t.getD t .undef)
    rw [List.getD_eq_getElem?_getD]
    cases ht : st.t[t]? with
    | none => exact ⟨rfl, rfl⟩
    | some v => exact h v (.inl (mem_of_get ht))
  | const v =>
    show Av _ _ (ofVal v)
    unfold ofVal
    split <;> exact ⟨rfl, rfl⟩
  | func f => exact ⟨rfl, rfl⟩
  | global g => exact ⟨rfl, rfl⟩
theorem CleanAt.box {bx : Bool} (h : CleanAt d bx st) (b : Nat) (rr : V) (hb : st.h.getD b none = some rr) : Av (fun b => b / 1000 == d) (fun d' => bx && d' == d) rr := by
  rw [List.getD_eq_getElem?_getD] at hb
  cases ht : st.h[b]? with
  | none => rw [ht] at hb; cases hb
  | some v =>
    rw [ht] at hb
    simp only [Option.getD_some] at hb
    subst hb
    exact h rr (.inr (mem_of_get ht))

theorem Av.map {f : V → Option V} (hf : ∀ u z, f u = some z → Av p q u → Av p q z) (v : V) : Av p q v → Av p q (v.mapB f) := by
  have leaf : ∀ u : V, Av p q u → Av p q ((f u).getD u) := by
    intro u hu
    cases h : f u with
    | none => exact hu
    | some z => exact hf u z h hu
  refine V.rec (motive_1 := fun v => Av p q v → Av p q (v.mapB f)) (motive_2 := fun vs => (∀ u ∈ vs, Av p q u) → ∀ u ∈ V.mapBs f vs, Av p q u)
    (leaf _) (fun _ => leaf _) (fun _ _ => leaf _) (fun _ => leaf _) (leaf _) (fun _ _ _ _ => leaf _) (fun _ _ _ _ _ => leaf _) (fun _ _ _ _ _ => leaf _) (fun _ _ => leaf _) (fun _ _ _ _ _ _ _ => leaf _) (fun _ _ _ _ => leaf _) (fun _ _ _ => leaf _)
    (fun _ ih h => .agg (ih h.agg_inv)) (fun _ ih h => .tup (ih h.tup_inv)) (fun _ _ ih h => .clo (ih h.clo_inv)) (fun _ u hu => (by cases hu)) ?_ v
  intro v vs hv hvs h u hu
  rw [V.mapBs] at hu
  rcases List.mem_cons.1 hu with rfl | hu
  · exact hv (h v (by simp))
  · exact hvs (fun u hu => h u (by simp [hu])) u hu
theorem mapBo_mem {f : V → Option V} : ∀ {l : List (Option V)} {v : V}, some v ∈ mapBo f l → ∃ u, some u ∈ l ∧ v = u.mapB f := by
  intro l
  induction l with
  | nil => intro v h; cases h
  | cons x l ih =>
    intro v h
    cases x with
    | none =>
      rw [mapBo] at h
      obtain ⟨u, hu, e⟩ := ih ((List.mem_cons.1 h).resolve_left (by simp))
      exact ⟨u, by simp [hu], e⟩
    | some y =>
      rw [mapBo] at h
      rcases List.mem_cons.1 h with h | h
      · injection h with h; exact ⟨y, by simp, h⟩
      · obtain ⟨u, hu, e⟩ := ih h
        exact ⟨u, by simp [hu], e⟩
theorem mapBs_mem {f : V → Option V} : ∀ {l : List V} {v : V}, v ∈ V.mapBs f l → ∃ u, u ∈ l ∧ v = u.mapB f := by
  intro l
  induction l with
  | nil => intro v h; cases h
  | cons y l ih =>
    intro v h
    rw [V.mapBs] at h
    rcases List.mem_cons.1 h with h | h
    · exact ⟨y, by simp, h⟩
    · obtain ⟨u, hu, e⟩ := ih h
      exact ⟨u, by simp [hu], e⟩
theorem CleanAt.sweep {bx : Bool} {f : V → Option V} (h : CleanAt d bx st) (hf : ∀ u z, f u = some z → Av (fun b => b / 1000 == d) (fun d' => bx && d' == d) u → Av (fun b => b / 1000 == d) (fun d' => bx && d' == d) z) : CleanAt d bx (st.sweep f) := by
  rintro v (hv | hv)
  · obtain ⟨u, hu, rfl⟩ := mapBs_mem hv
    exact (h u (.inl hu)).map hf
  · obtain ⟨u, hu, rfl⟩ := mapBo_mem hv
    exact (h u (.inr hu)).map hf
theorem poison_av (b : Nat) : ∀ u z, poison b u = some z → Av p q u → Av p q z := by
  intro u z h _
  cases u <;> simp only [poison] at h <;> first
    | (cases h; done)
    | (split at h <;> first
        | (simp only [Option.some.injEq] at h; subst h; exact ⟨rfl, rfl⟩)
        | cases h)
theorem renew_av (b : Nat) (k : Q) (ys : List V) : ∀ u z, renew b k ys u = some z → Av p q u → Av p q z := by
  intro u z h hu
  cases u <;> simp only [renew] at h <;> first
    | (cases h; done)
    | (split at h <;> first
        | (simp only [Option.some.injEq] at h; subst h; exact ⟨rfl, rfl⟩)
        | skip)
  · rename_i b' s k' zs hbb
    simp only [Option.some.injEq] at h
    subst h
    subst hbb
    exact hu
  all_goals cases h

/-- An operation that writes leaves names free. -/
theorem clean_eff {bx : Bool} {dst : Option Nat} {op : Op} (h : effOp c st dst op = some st') (hc : CleanAt d bx st) : CleanAt d bx st' := by
  cases op with
  | store t ad x =>
    simp only [effOp] at h
    split at h
    · rename_i i hi
      split at h
      · rename_i hcc
        split at h
        · rename_i b o had
          split at h
          · rename_i rr hb
            split at h
            · rename_i cs hov
              simp only [Option.some.injEq] at h
              subst h
              have hcs := over_av hov (hc.box b rr hb).cells (hc.ev x).cells
              rintro v (hv | hv)
              · exact hc v (.inl hv)
              · rcases List.mem_or_eq_of_mem_set hv with hv | hv
                · exact hc v (.inr hv)
                · injection hv with hv
                  subst hv
                  unfold reshape
                  split
                  · exact .agg hcs
                  · cases cs with
                    | nil => exact ⟨rfl, rfl⟩
                    | cons y ys => exact hcs y (by simp)
            · cases h
          · cases h
        · repeat' split at h
          all_goals first | (cases h; done) | skip
          simp only [Option.some.injEq] at h
          subst h
          exact hc.sweep (renew_av _ _ _)
        · cases h
      · cases h
    · cases h
  | call cl =>
    obtain ⟨callee, args, ts⟩ := cl
    cases callee with
    | builtin bi =>
      cases bi with
      | append =>
        simp only [effOp] at h
        split at h
        · rename_i x y t t' dd hx ht2
          split at h
          · split at h
            · rename_i i b s k xs hi hxv
              split at h
              · split at h
                · simp only [Option.some.injEq] at h
                  subst h
                  have hsw := hc.sweep (f := poison b) (poison_av b)
                  have hxx := hc.ev x
                  rintro v (hv | hv)
                  · rcases List.mem_or_eq_of_mem_set hv with hv | rfl
                    · exact hsw v (.inl hv)
                    · rw [hxv] at hxx
                      exact hxx
                  · exact hsw v (.inr hv)
                · cases h
              · cases h
            · cases h
          · cases h
        · cases h
      | _ => simp only [effOp] at h; cases h
    | _ => simp only [effOp] at h; cases h
  | _ => simp only [effOp] at h; cases h
end
end Go.Am
namespace Go.Am
open Go Go.RowKit
section
variable {P : Program} {c : Cfg} {Γ Γ' : Ctx} {st st2 st' s1 s2 : St} {a : Act} {w w' : World} {den : Nat → List V → Option V} {η η' : Nat → Option V} {d : Nat} {p q r : Nat → Bool} {ops : Array Oper} {o : Oper}

/-- An operation that does not write, or is passed by. -/
def Still (ops : Array Oper) (st : St) (o : Oper) : Prop := isEff st o.op = false ∨ wanted ops st.t o = some false

theorem real_step1 (hA : Agree P c) (hD : Answers P den) (hs : Real st) (h : step1 c den ops st o = some st') : Real st' := by
  unfold step1 at h
  split at h
  · cases h
  · exact real_step hA hD hs h
  · obtain ⟨Γ, a, w, hs⟩ := hs
    split at h
    · rename_i d hd
      simp only [Option.some.injEq] at h
      subst h
      exact ⟨Γ, _, w, skip_ok hs d⟩
    · simp only [Option.some.injEq] at h
      subst h
      exact ⟨Γ, a, w, hs⟩

theorem upd_mem {v z : V} {bx : Option V} {esc : List Nat} (h : z ∈ (st.upd d v bx esc).t ∨ some z ∈ (st.upd d v bx esc).h) : z ∈ st.t ∨ some z ∈ st.h ∨ z = v ∨ bx = some z := by
  unfold St.upd at h
  rcases h with h | h
  · rcases List.mem_or_eq_of_mem_set h with h | h
    · exact .inl h
    · exact .inr (.inr (.inl h))
  · simp only at h
    split at h
    · rcases List.mem_or_eq_of_mem_set h with h | h
      · exact .inr (.inl h)
      · exact .inr (.inr (.inr (by simpa using h.symm)))
    · exact .inr (.inl h)

/-- Names of other slots stay free. -/
theorem clean_step1 (hA : Agree P c) (hs : Real st) (h : step1 c den ops st o = some st') {d : Nat} {bx : Bool} (hd : ∀ e, o.dst = some e → e ≠ d ∧ e < 1000) (hc : CleanAt d bx st) : CleanAt d bx st' := by
  obtain ⟨Γ, a, w, hs⟩ := hs
  by_cases hst : Still ops st o
  · cases hod : o.dst with
    | none =>
      unfold step1 at h
      cases hw : wanted ops st.t o with
      | none => rw [hw] at h; cases h
      | some b =>
        rw [hw] at h
        cases b with
        | false => simp only [hod, Option.some.injEq] at h; subst h; exact hc
        | true =>
          simp only at h
          have hne : isEff st o.op = false := by
            rcases hst with h | h
            · exact h
            · rw [hw] at h; cases h
          unfold step at h
          rw [if_neg (by rw [hne]; simp), hod] at h
          cases h
    | some e =>
      obtain ⟨he, hlt⟩ := hd e hod
      obtain ⟨v, bx', esc, rfl, hinfo, _, _⟩ := neat h hst hod
      intro z hz
      rcases upd_mem hz with hz | hz | hz
      · exact hc z (.inl hz)
      · exact hc z (.inr hz)
      · rcases hinfo with ⟨out, _, hv, ho⟩ | ⟨rfl, rfl⟩
        · have hav := names_op (p := fun b => b / 1000 == d) (q := fun d' => bx && d' == d) hA hs (fun b rr hb => hc.box b rr hb) (fun j hj => by rw [base_div hlt hj]; simpa using he) (fun x _ => hc.ev x) hv
          rcases ho with ⟨rfl, rfl⟩ | ⟨rr, rfl, rfl, rfl⟩ | ⟨n, rfl, rfl⟩
          · rcases hz with rfl | hz
            · exact hav
            · cases hz
          · rcases hz with rfl | hz
            · exact ⟨rfl, by simp [V.anyP, he]⟩
            · injection hz with hz
              subst hz
              exact hav
          · rcases hz with rfl | hz
            · exact hav
            · cases hz
        · rcases hz with rfl | hz
          · exact ⟨rfl, rfl⟩
          · cases hz
  · have h1 : isEff st o.op = true := by
      cases hi : isEff st o.op with
      | true => rfl
      | false => exact absurd (.inl hi) hst
    unfold step1 at h
    cases hw : wanted ops st.t o with
    | none => rw [hw] at h; cases h
    | some b =>
      rw [hw] at h
      cases b with
      | false => exact absurd (.inr hw) hst
      | true =>
        simp only at h
        unfold step at h
        rw [if_pos h1] at h
        exact clean_eff h hc

theorem setD_ne {l : List V} {i j : Nat} {v : V} (h : j ≠ i) : (l.set i v).getD j .undef = l.getD j .undef := by
  rw [List.getD_eq_getElem?_getD, List.getD_eq_getElem?_getD, List.getElem?_set, if_neg (fun e => h e.symm)]
theorem setH_ne {l : List (Option V)} {i j : Nat} {v : Option V} (h : j ≠ i) : (l.set i v).getD j none = l.getD j none := by
  rw [List.getD_eq_getElem?_getD, List.getD_eq_getElem?_getD, List.getElem?_set, if_neg (fun e => h e.symm)]
theorem updH_ne {v : V} {bx : Option V} {esc : List Nat} {b : Nat} (h : bx.isSome = true → b ≠ d) : (st.upd d v bx esc).h.getD b none = st.h.getD b none := by
  unfold St.upd
  cases bx with
  | none => rfl
  | some rr => exact setH_ne (h rfl)
theorem updH_len {v : V} {bx : Option V} {esc : List Nat} : (st.upd d v bx esc).h.length = st.h.length := by
  unfold St.upd
  cases bx with
  | none => rfl
  | some rr => simp

theorem tmp_reads {t : Nat} (h : Operand.tmp t ∈ o.op.operands.toList) : t ∈ reads ops o := by
  unfold reads
  exact List.mem_append.2 (.inl (List.mem_filterMap.2 ⟨.tmp t, h, rfl⟩))

/-- Two operations that write nothing. -/
theorem swap_still (hA : Agree P c) (hD : Answers P den) (hs : Real st) {x y : Oper} (hx : step1 c den ops st x = some s1) (hy : step1 c den ops s1 y = some s2) (sx : Still ops st x) (sy : Still ops s1 y)
    {dx dy : Nat} (hdx : x.dst = some dx) (hdy : y.dst = some dy) (hne : dx ≠ dy) (lx : dx < 1000) (ly : dy < 1000) (rx : dy ∉ reads ops x) (ry : dx ∉ reads ops y) (cx : CleanAt dx (mkBox x.op) st) (cy : CleanAt dy (mkBox y.op) st) :
    ∃ s, step1 c den ops st y = some s ∧ step1 c den ops s x = some s2 := by
  obtain ⟨v, bx, esc, rfl, _, mx, tx⟩ := neat hx sx hdx
  obtain ⟨v', bx', esc', rfl, _, my, ty⟩ := neat hy sy hdy
  have h1 : step1 c den ops st y = some (st.upd dy v' bx' esc') := by
    refine ty (fun b => bx.isSome && b == dx) st ⟨fun z hz => ?_, fun b hb => ?_, fun z hz => ?_, updH_len.symm, fun e he => ?_⟩
    · have : z ≠ dx := fun e => ry (e ▸ hz)
      exact (setD_ne this).symm
    · exact (updH_ne (fun e => by simpa [e] using hb)).symm
    · have hev : ev (st.upd dx v bx esc).t z = ev st.t z := by
        cases z with
        | tmp t => exact setD_ne (fun e => ry (e ▸ tmp_reads hz))
        | _ => rfl
      rw [hev]
      cases hb : bx.isSome with
      | false => simp only [Bool.false_and]; exact anyP_false _
      | true =>
        have := (cx.ev z).2
        rw [mx hb] at this
        exact this
    · rw [hdy] at he
      injection he with he
      subst he
      refine ⟨by simp; exact fun _ e => hne e.symm, cy.freeD, fun hm => ?_⟩
      rw [hm] at cy
      exact cy.freeP
  refine ⟨_, h1, ?_⟩
  have hr1 := real_step1 hA hD hs h1
  have cx' : CleanAt dx (mkBox x.op) (st.upd dy v' bx' esc') := clean_step1 hA hs h1 (fun e he => by rw [hdy] at he; injection he with he; subst he; exact ⟨fun e => hne e.symm, ly⟩) cx
  rw [upd_swap st hne]
  refine tx (fun b => bx'.isSome && b == dy) _ ⟨fun z hz => ?_, fun b hb => ?_, fun z hz => ?_, updH_len, fun e he => ?_⟩
  · have : z ≠ dy := fun e => rx (e ▸ hz)
    exact setD_ne this
  · exact updH_ne (fun e => by simpa [e] using hb)
  · cases hb : bx'.isSome with
    | false => simp only [Bool.false_and]; exact anyP_false _
    | true =>
      have := (cy.ev z).2
      rw [my hb] at this
      exact this
  · rw [hdx] at he
    injection he with he
    subst he
    refine ⟨by simp [hne], cx'.freeD, fun hm => ?_⟩
    rw [hm] at cx'
    exact cx'.freeP
end
end Go.Am
