/-
  Operations in another order: whole regions.
-/
import Derived.Test.YtoljfpgnhfkdcaavAmNames2
section
set_option linter.unusedVariables false
set_option linter.unusedSimpArgs false
namespace Go.Am
open Go Go.RowKit
section
variable {P : Program} {c : Cfg} {Γ Γ' : Ctx} {st : St} {a : Act} {w w' : World} {den : Nat → List V → Option V} {η η' : Nat → Option V} {d : Nat} {p q r : Nat → Bool} {ρ ρ' : Operand → V}
theorem strip_congr (hη : ∀ b, r b = false → η b = η' b) (v : V) : v.anyP r = false → strip η v = strip η' v := by
 refine V.rec (motive_1 := fun v => v.anyP r = false → strip η v = strip η' v) (motive_2 := fun vs => V.anyPs r vs = false → strips η vs = strips η' vs)
  (fun _ => rfl) (fun _ _ => rfl) (fun _ _ _ => rfl) (fun _ _ => rfl) (fun _ => rfl) (fun _ _ _ _ _ => rfl) (fun _ _ _ _ _ _ => rfl) (fun _ _ _ _ _ _ => rfl)
  (fun d o h => ?_) (fun _ _ _ _ _ _ _ _ => rfl) (fun _ _ _ _ _ => rfl) (fun _ _ _ _ => rfl) (fun cs ih h => ?_) (fun cs ih h => ?_) (fun f cs ih h => ?_) (fun _ => rfl) (fun v vs hv hvs h => ?_) v
 ·simp only [strip, hη d (by simpa [V.anyP] using h)]
 ·simp only [strip, ih h]
 ·simp only [strip, ih h]
 ·simp only [strip, ih h]
 ·rw [V.anyPs, Bool.or_eq_false_iff] at h
  simp only [strips, hv h.1, hvs h.2]
theorem strips_congr (hη : ∀ b, r b = false → η b = η' b) : ∀ (vs : List V), (∀ v ∈ vs, v.anyP r = false) → strips η vs = strips η' vs := by
 intro vs
 induction vs with
 | nil => intro _; rfl
 | cons v vs ih => intro h; simp only [strips, strip_congr hη v (h v (by simp)), ih (fun u hu => h u (by simp [hu]))]
theorem loadV_congr (hη : ∀ b, r b = false → η b = η' b) {i : TyInfo} {v : V} (h : v.anyP r = false) : loadV η i v = loadV η' i v := by
 have : cellsAt η v = cellsAt η' v := by
  cases v <;> first | rfl | skip
  rename_i d o
  simp only [cellsAt, hη d (by simpa [V.anyP] using h)]
 simp only [loadV, this]
theorem valOp_congr {op : Op} (hρ : ∀ x ∈ op.operands.toList, ρ x = ρ' x) (hη : ∀ b, r b = false → η b = η' b) (hr : ∀ x ∈ op.operands.toList, (ρ x).anyP r = false) : valOp c den ρ η d op = valOp c den ρ' η' d op := by
 cases op with
 | move x => simp only [valOp, hρ x (by simp [Op.operands])]
 | assign x => simp only [valOp, hρ x (by simp [Op.operands])]
 | pick x y z => simp only [valOp, hρ x (by simp [Op.operands]), hρ y (by simp [Op.operands]), hρ z (by simp [Op.operands])]
 | alloc e => rfl
 | box e x => simp only [valOp, hρ x (by simp [Op.operands])]
 | build t ps =>
  have : ps.toList.map (fun y => (y.1, ρ y.2)) = ps.toList.map (fun y => (y.1, ρ' y.2)) := List.map_congr_left fun y hy => by
   rw [hρ y.2 (by simp only [Op.operands]; exact List.mem_map.2 ⟨y, hy, rfl⟩)]
  simp only [valOp, this]
 | buildSlice t n ps =>
  have : ps.toList.map (fun y => (y.1, ρ y.2)) = ps.toList.map (fun y => (y.1, ρ' y.2)) := List.map_congr_left fun y hy => by
   rw [hρ y.2 (by simp only [Op.operands]; exact List.mem_map.2 ⟨y, hy, rfl⟩)]
  simp only [valOp, this]
 | load t x =>
  have h1 := hr x (by simp [Op.operands])
  have h2 := hρ x (by simp [Op.operands])
  rw [h2] at h1
  have h3 : ∀ i, loadV η i (ρ' x) = loadV η' i (ρ' x) := fun i => loadV_congr hη h1
  simp only [valOp, h2, h3]
 | nilCheck x => simp only [valOp, hρ x (by simp [Op.operands])]
 | binOp o t x y t' => simp only [valOp, hρ x (by simp [Op.operands]), hρ y (by simp [Op.operands])]
 | unOp u t x => cases u <;> simp only [valOp, hρ x (by simp [Op.operands])]
 | convert s t x => simp only [valOp, hρ x (by simp [Op.operands])]
 | makeFunc fn first cap =>
  have : cap.toList.map ρ = cap.toList.map ρ' := List.map_congr_left fun y hy => hρ y (by simp only [Op.operands, Array.toList_append, List.mem_append]; exact .inr hy)
  cases fn <;> simp only [valOp, this]
 | makeSlice t l k => simp only [valOp, hρ l (by simp [Op.operands]), hρ k (by simp [Op.operands])]
 | slice t x lo hi mx =>
  have h1 : lo.map ρ = lo.map ρ' := by
   cases lo with
   | none => rfl
   | some y => simp only [Option.map_some, hρ y (by simp [Op.operands])]
  have h2 : hi.map ρ = hi.map ρ' := by
   cases hi with
   | none => rfl
   | some y => simp only [Option.map_some, hρ y (by simp [Op.operands])]
  cases mx <;> simp only [valOp, h1, h2, hρ x (by simp [Op.operands])]
 | fieldAddr t x f => simp only [valOp, hρ x (by simp [Op.operands])]
 | field t x f => simp only [valOp, hρ x (by simp [Op.operands])]
 | indexAddr t x y => simp only [valOp, hρ x (by simp [Op.operands]), hρ y (by simp [Op.operands])]
 | index t x y => simp only [valOp, hρ x (by simp [Op.operands]), hρ y (by simp [Op.operands])]
 | extract x i => simp only [valOp, hρ x (by simp [Op.operands])]
 | call cl =>
  obtain ⟨callee, args, ts⟩ := cl
  have hargs : ∀ y ∈ args.toList, ρ y = ρ' y := fun y hy => hρ y (by simp only [Op.operands, Call.operands, Array.toList_append, List.mem_append]; exact .inr hy)
  have hra : ∀ y ∈ args.toList, (ρ y).anyP r = false := fun y hy => hr y (by simp only [Op.operands, Call.operands, Array.toList_append, List.mem_append]; exact .inr hy)
  cases callee with
  | value f =>
   have hf := hρ f (by simp [Op.operands, Call.operands])
   have hrf := hr f (by simp [Op.operands, Call.operands])
   have hmap : args.toList.map ρ = args.toList.map ρ' := List.map_congr_left hargs
   simp only [valOp, ← hf]
   cases hfv : ρ f with
   | clo g cap =>
    simp only
    rw [hfv] at hrf
    rw [strips_congr hη (args.toList.map ρ ++ cap) (fun v hv => ?_), hmap]
    rcases List.mem_append.1 hv with hv | hv
    ·obtain ⟨y, hy, rfl⟩ := List.mem_map.1 hv
     exact hra y hy
    ·exact anyPs_mem hrf v hv
   | _ => rfl
  | invoke f m => rfl
  | builtin bi =>
   have two : ∀ x y, args.toList = [x, y] → ρ x = ρ' x ∧ ρ y = ρ' y := fun x y h => ⟨hargs x (by rw [h]; simp), hargs y (by rw [h]; simp)⟩
   have one : ∀ x, args.toList = [x] → ρ x = ρ' x := fun x h => hargs x (by rw [h]; simp)
   cases bi <;> first | rfl | skip
   all_goals
    simp only [valOp]
    cases hl : args.toList with
    | nil => rfl
    | cons x xs =>
     cases xs with
     | nil =>
      have e := one x hl
      rcases hts : ts.toList with _ | ⟨t1, _ | ⟨t2, _ | ⟨t3, tr⟩⟩⟩ <;> first | rfl | simp only [e] | simp only [hl, hts, e]
     | cons y ys =>
      cases ys with
      | nil =>
       obtain ⟨e1, e2⟩ := two x y hl
       rcases hts : ts.toList with _ | ⟨t1, _ | ⟨t2, _ | ⟨t3, tr⟩⟩⟩ <;> first | rfl | simp only [e1, e2] | simp only [hl, hts, e1, e2]
      | cons _ _ => rfl
 | _ => rfl
theorem isEff_congr {st st2 : St} {op : Op} (h : ∀ x ∈ op.operands.toList, ev st2.t x = ev st.t x) : isEff st2 op = isEff st op := by
 cases op with
 | call cl =>
  obtain ⟨callee, args, ts⟩ := cl
  cases callee with
  | builtin bi =>
   cases bi <;> first | rfl | skip
   simp only [isEff]
   cases hl : args.toList with
   | nil => rfl
   | cons x xs =>
    simp only
    rw [h x (by simp only [Op.operands, Call.operands, Array.toList_append, List.mem_append]; exact .inr (by rw [hl]; simp))]
  | _ => rfl
 | _ => rfl
theorem ev_congr {ops : Array Oper} {o : Oper} {st st2 : St} (h : ∀ x ∈ reads ops o, st2.t.getD x .undef = st.t.getD x .undef) : ∀ x ∈ o.op.operands.toList, ev st2.t x = ev st.t x := by
 intro x hx
 cases x with
 | tmp t =>
  refine h t ?_
  unfold reads
  refine List.mem_append.2 (.inl (List.mem_filterMap.2 ⟨.tmp t, hx, rfl⟩))
 | _ => rfl
theorem wanted_congr {ops : Array Oper} {o : Oper} {st st2 : St} (h : ∀ x ∈ reads ops o, st2.t.getD x .undef = st.t.getD x .undef) : wanted ops st2.t o = wanted ops st.t o := by
 unfold wanted
 cases hg : o.guard with
 | none => rfl
 | some jw =>
  obtain ⟨j, want⟩ := jw
  simp only
  cases hd : (ops[j]?).bind (·.dst) with
  | none => rfl
  | some d =>
   simp only
   rw [h d (by unfold reads; rw [hg]; exact List.mem_append.2 (.inr (by simp [hd])))]
end
end Go.Am
namespace Go.Am
open Go Go.RowKit
def step1 (c : Cfg) (den : Nat → List V → Option V) (ops : Array Oper) (st : St) (o : Oper) : Option St :=
 match wanted ops st.t o with
 | none => none
 | some true => step c den st o
 | some false => match o.dst with
  | some d => some { st with t := st.t.set d skipped }
  | none => some st
theorem runOps_cons (c : Cfg) (den : Nat → List V → Option V) (ops : Array Oper) (o : Oper) (os : List Oper) (st : St) : runOps c den ops (o :: os) st = (step1 c den ops st o).bind (runOps c den ops os) := by
 simp only [runOps, step1]
 cases wanted ops st.t o with
 | none => rfl
 | some b =>
  cases b with
  | true =>
   simp only
   cases step c den st o <;> rfl
  | false =>
   simp only
   cases o.dst <;> rfl
def St.upd (st : St) (d : Nat) (v : V) (bx : Option V) (esc : List Nat) : St :=
 ⟨st.t.set d v, (match bx with
  | some r => st.h.set d (some r)
  | none => st.h), fun b => esc.contains b || st.dead b, !moveOk st.dead esc || st.dup⟩
theorem moveOk_iff {dead : Nat → Bool} : ∀ {l : List Nat}, moveOk dead l = true ↔ moveOk (fun _ => false) l = true ∧ ∀ b ∈ l, b ≠ 999 → dead b = false := by
 intro l
 induction l with
 | nil => exact ⟨fun _ => ⟨rfl, fun b h => by cases h⟩, fun _ => rfl⟩
 | cons a l ih =>
  simp only [moveOk, Bool.and_eq_true, ih, Bool.or_eq_true, beq_iff_eq, Bool.not_eq_true', List.mem_cons, forall_eq_or_imp]
  constructor
  ·rintro ⟨h1, h2, h3⟩
   refine ⟨⟨h1.imp id (fun h => ⟨trivial, h.2⟩), h2⟩, fun h9 => ?_, h3⟩
   rcases h1 with h1 | h1
   ·exact absurd h1 h9
   ·exact h1.1
  ·rintro ⟨⟨h1, h2⟩, h3, h4⟩
   refine ⟨?_, h2, h4⟩
   rcases Nat.decEq a 999 with h9 | h9
   ·exact .inr ⟨h3 h9, (h1.resolve_left h9).2⟩
   ·exact .inl h9
theorem moveOk_swap (dead : Nat → Bool) (l l' : List Nat) : (moveOk dead l = true ∧ moveOk (fun b => l.contains b || dead b) l' = true) ↔ (moveOk dead l' = true ∧ moveOk (fun b => l'.contains b || dead b) l = true) := by
 rw [moveOk_iff (dead := dead) (l := l), moveOk_iff (dead := dead) (l := l'), moveOk_iff (dead := fun b => l.contains b || dead b) (l := l'), moveOk_iff (dead := fun b => l'.contains b || dead b) (l := l)]
 simp only [Bool.or_eq_false_iff, List.contains_eq_mem, decide_eq_false_iff_not]
 constructor
 ·rintro ⟨⟨h1, h2⟩, h3, h4⟩
  exact ⟨⟨h3, fun b hb h9 => (h4 b hb h9).2⟩, h1, fun b hb h9 => ⟨fun hb' => (h4 b hb' h9).1 hb, h2 b hb h9⟩⟩
 ·rintro ⟨⟨h1, h2⟩, h3, h4⟩
  exact ⟨⟨h3, fun b hb h9 => (h4 b hb h9).2⟩, h1, fun b hb h9 => ⟨fun hb' => (h4 b hb' h9).1 hb, h2 b hb h9⟩⟩
theorem moveOk_swap' (dead : Nat → Bool) (dup : Bool) (l l' : List Nat) : (!moveOk (fun b => l.contains b || dead b) l' || (!moveOk dead l || dup)) = (!moveOk (fun b => l'.contains b || dead b) l || (!moveOk dead l' || dup)) := by
 have h := moveOk_swap dead l l'
 cases e1 : moveOk dead l <;> cases e2 : moveOk (fun b => l.contains b || dead b) l' <;> cases e3 : moveOk dead l' <;> cases e4 : moveOk (fun b => l'.contains b || dead b) l <;> simp_all
theorem upd_swap (st : St) {d e : Nat} (h : d ≠ e) (v v' : V) (bx bx' : Option V) (esc esc' : List Nat) : (st.upd d v bx esc).upd e v' bx' esc' = (st.upd e v' bx' esc').upd d v bx esc := by
 unfold St.upd
 congr 1
 ·exact List.set_comm _ _ h
 ·cases bx <;> cases bx' <;> first | rfl | exact List.set_comm _ _ h
 ·funext b
  simp only
  cases esc.contains b <;> cases esc'.contains b <;> rfl
 ·exact moveOk_swap' _ _ _ _
section
variable {P : Program} {c : Cfg} {Γ Γ' : Ctx} {st st2 st' : St} {a : Act} {w w' : World} {den : Nat → List V → Option V} {η η' : Nat → Option V} {d : Nat} {p q r : Nat → Bool} {ops : Array Oper} {o : Oper}
structure Alike (ops : Array Oper) (r : Nat → Bool) (o : Oper) (st st2 : St) : Prop where
  rd : ∀ x ∈ reads ops o, st2.t.getD x .undef = st.t.getD x .undef
  hb : ∀ b, r b = false → st2.h.getD b none = st.h.getD b none
  hr : ∀ x ∈ o.op.operands.toList, (ev st.t x).anyP r = false
  hl : st2.h.length = st.h.length
  hd : ∀ d, o.dst = some d → r d = false ∧ st2.freeD d = true ∧ (mkBox o.op = true → st2.freeP d = true)
theorem box_mk {v : V} (h : valOp c den (ev st.t) η d o.op = some (.box v)) : mkBox o.op = true := by
 cases hop : o.op with
 | alloc e => rfl
 | box e x => rfl
 | call cl =>
  exfalso
  rw [hop] at h
  obtain ⟨callee, args, ts⟩ := cl
  cases callee with
  | value f =>
   simp only [valOp] at h
   repeat' split at h
   all_goals first | (cases h; done) | skip
   obtain ⟨_, _, _, e⟩ := takeR_fresh h
   cases e
  | invoke f m => simp only [valOp] at h; cases h
  | builtin bi =>
   cases bi <;> simp only [valOp, plain] at h <;> first | (cases h; done) | skip
   all_goals (repeat' split at h) <;> cases h
 | unOp u _ _ =>
  exfalso
  rw [hop] at h
  cases u <;> simp only [valOp, plain] at h <;> first | (cases h; done) | ((repeat' split at h) <;> cases h)
 | makeFunc fn _ _ =>
  exfalso
  rw [hop] at h
  cases fn <;> simp only [valOp, plain] at h <;> first | (cases h; done) | ((repeat' split at h) <;> cases h)
 | convert s t x =>
  exfalso
  rw [hop] at h
  simp only [valOp, plain] at h
  cases hc : convV c s t (ev st.t x) with
  | some u => rw [hc] at h; cases h
  | none =>
   rw [hc] at h
   simp only at h
   cases hb : convB c s t (ev st.t x) with
   | some u => rw [hb] at h; cases h
   | none =>
    rw [hb] at h
    simp only at h
    cases hf : bytesFor c s t (ev st.t x) <;> rw [hf] at h <;> cases h
 | slice _ _ _ _ mx =>
  exfalso
  rw [hop] at h
  cases mx <;> simp only [valOp, plain] at h <;> first | (cases h; done) | ((repeat' split at h) <;> cases h)
 | _ =>
  exfalso
  rw [hop] at h
  first
   | (simp only [valOp, plain] at h; cases h; done)
   | (simp only [valOp, plain] at h; (repeat' split at h) <;> cases h)
theorem neat (h : step1 c den ops st o = some st') (hne : isEff st o.op = false ∨ wanted ops st.t o = some false) {d : Nat} (hd : o.dst = some d) :
  ∃ v bx esc, st' = st.upd d v bx esc ∧ ((∃ out, wanted ops st.t o = some true ∧ valOp c den (ev st.t) (fun b => st.h.getD b none) d o.op = some out ∧
    ((out = .val v ∧ bx = none) ∨ (∃ rr, out = .box rr ∧ v = .ptr d 0 ∧ bx = some rr) ∨ (∃ n, out = .fresh v esc n ∧ bx = none))) ∨ (v = skipped ∧ bx = none)) ∧
   (bx.isSome = true → mkBox o.op = true) ∧ ∀ r st2, Alike ops r o st st2 → step1 c den ops st2 o = some (st2.upd d v bx esc) := by
 unfold step1 at h
 cases hw : wanted ops st.t o with
 | none => rw [hw] at h; cases h
 | some b =>
  rw [hw] at h
  cases b with
  | false =>
   simp only [hd, Option.some.injEq] at h
   subst h
   refine ⟨skipped, none, [], rfl, .inr ⟨rfl, rfl⟩, fun h => (by cases h), fun r st2 hal => ?_⟩
   unfold step1
   rw [wanted_congr hal.rd, hw]
   simp only [hd]
   rfl
  | true =>
   simp only at h
   have hne' : isEff st o.op = false := by
    rcases hne with h | h
    ·exact h
    ·rw [hw] at h; cases h
   unfold step at h
   rw [if_neg (by rw [hne']; simp), hd] at h
   simp only at h
   have tr : ∀ r st2, Alike ops r o st st2 → isEff st2 o.op = false ∧ valOp c den (ev st2.t) (fun b => st2.h.getD b none) d o.op = valOp c den (ev st.t) (fun b => st.h.getD b none) d o.op := fun r st2 hal =>
    ⟨by rw [isEff_congr (ev_congr hal.rd)]; exact hne', (valOp_congr (r := r) (fun x hx => (ev_congr hal.rd x hx).symm) (fun b hb => (hal.hb b hb).symm) hal.hr).symm⟩
   cases hv : valOp c den (ev st.t) (fun b => st.h.getD b none) d o.op with
   | none => rw [hv] at h; cases h
   | some out =>
    rw [hv] at h
    cases out with
    | val v =>
     simp only [Option.some.injEq] at h
     subst h
     refine ⟨v, none, [], rfl, .inl ⟨_, rfl, rfl, .inl ⟨rfl, rfl⟩⟩, fun h => (by cases h), fun r st2 hal => ?_⟩
     obtain ⟨t1, t2⟩ := tr r st2 hal
     unfold step1
     rw [wanted_congr hal.rd, hw]
     simp only
     unfold step
     rw [if_neg (by rw [t1]; simp), hd]
     simp only
     rw [t2, hv]
     rfl
    | box rr =>
     simp only at h
     split at h
     ·rename_i hc
      simp only [Option.some.injEq] at h
      subst h
      have hmk := box_mk hv
      refine ⟨.ptr d 0, some rr, [], rfl, .inl ⟨_, rfl, rfl, .inr (.inl ⟨rr, rfl, rfl, rfl⟩)⟩, fun _ => hmk, fun r st2 hal => ?_⟩
      obtain ⟨t1, t2⟩ := tr r st2 hal
      obtain ⟨d1, d2, d3⟩ := hal.hd d hd
      unfold step1
      rw [wanted_congr hal.rd, hw]
      simp only
      unfold step
      rw [if_neg (by rw [t1]; simp), hd]
      simp only
      rw [t2, hv]
      simp only
      rw [if_pos ⟨by rw [hal.hl]; exact hc.1, by rw [hal.hb d d1]; exact hc.2.1, d3 hmk, hc.2.2.2⟩]
      rfl
     ·cases h
    | fresh v esc n =>
     simp only at h
     split at h
     ·rename_i hc
      simp only [Option.some.injEq] at h
      subst h
      refine ⟨v, none, esc, rfl, .inl ⟨_, rfl, rfl, .inr (.inr ⟨n, rfl, rfl⟩)⟩, fun h => (by cases h), fun r st2 hal => ?_⟩
      obtain ⟨t1, t2⟩ := tr r st2 hal
      obtain ⟨d1, d2, d3⟩ := hal.hd d hd
      unfold step1
      rw [wanted_congr hal.rd, hw]
      simp only
      unfold step
      rw [if_neg (by rw [t1]; simp), hd]
      simp only
      rw [t2, hv]
      simp only
      rw [if_pos ⟨hc.1, hc.2.1, .inr d2⟩]
      rfl
     ·cases h
end
end Go.Am
namespace Go.Am
open Go Go.RowKit
section
variable {P : Program} {c : Cfg} {Γ Γ' : Ctx} {st st2 st' s1 s2 : St} {a : Act} {w w' : World} {den : Nat → List V → Option V} {η η' : Nat → Option V} {d : Nat} {p q r : Nat → Bool} {ops : Array Oper} {o : Oper}
def CleanAt (d : Nat) (bx : Bool) (st : St) : Prop := ∀ v, (v ∈ st.t ∨ some v ∈ st.h) → Av (fun b => b / 1000 == d) (fun d' => bx && d' == d) v
theorem anyBo_of {p : Nat → Bool} : ∀ {l : List (Option V)}, (∀ v, some v ∈ l → v.anyB p = false) → anyBo p l = false := by
 intro l
 induction l with
 | nil => intro _; rfl
 | cons x l ih =>
  intro h
  cases x with
  | none => exact ih fun v hv => h v (by simp [hv])
  | some y => rw [anyBo, h y (by simp), ih (fun v hv => h v (by simp [hv]))]; rfl
theorem anyPo_of {p : Nat → Bool} : ∀ {l : List (Option V)}, (∀ v, some v ∈ l → v.anyP p = false) → anyPo p l = false := by
 intro l
 induction l with
 | nil => intro _; rfl
 | cons x l ih =>
  intro h
  cases x with
  | none => exact ih fun v hv => h v (by simp [hv])
  | some y => rw [anyPo, h y (by simp), ih (fun v hv => h v (by simp [hv]))]; rfl
theorem CleanAt.freeD {bx : Bool} (h : CleanAt d bx st) : st.freeD d = true := by
 unfold St.freeD
 rw [anyBs_of (fun v hv => ?_), anyBo_of (fun v hv => (h v (.inr hv)).1)]
 ·rfl
 ·rcases List.mem_or_eq_of_mem_set hv with hv | rfl
  ·exact (h v (.inl hv)).1
  ·rfl
theorem CleanAt.freeP (h : CleanAt d true st) : st.freeP d = true := by
 unfold St.freeP
 rw [anyPs_of (fun v hv => ?_), anyPo_of (fun v hv => by simpa using (h v (.inr hv)).2)]
 ·rfl
 ·rcases List.mem_or_eq_of_mem_set hv with hv | rfl
  ·simpa using (h v (.inl hv)).2
  ·rfl
theorem CleanAt.ev {bx : Bool} (h : CleanAt d bx st) (x : Operand) : Av (fun b => b / 1000 == d) (fun d' => bx && d' == d) (ev st.t x) := by
 cases x with
 | tmp t =>
  show Av _ _ (st.t.getD t .undef)
  rw [List.getD_eq_getElem?_getD]
  cases ht : st.t[t]? with
  | none => exact ⟨rfl, rfl⟩
  | some v => exact h v (.inl (mem_of_get ht))
 | const v =>
  show Av _ _ (ofVal v)
  unfold ofVal
  split <;> exact ⟨rfl, rfl⟩
 | func f => exact ⟨rfl, rfl⟩
 | global g => exact ⟨rfl, rfl⟩
theorem CleanAt.box {bx : Bool} (h : CleanAt d bx st) (b : Nat) (rr : V) (hb : st.h.getD b none = some rr) : Av (fun b => b / 1000 == d) (fun d' => bx && d' == d) rr := by
 rw [List.getD_eq_getElem?_getD] at hb
 cases ht : st.h[b]? with
 | none => rw [ht] at hb; cases hb
 | some v =>
  rw [ht] at hb
  simp only [Option.getD_some] at hb
  subst hb
  exact h rr (.inr (mem_of_get ht))
theorem Av.map {f : V → Option V} (hf : ∀ u z, f u = some z → Av p q u → Av p q z) (v : V) : Av p q v → Av p q (v.mapB f) := by
 have leaf : ∀ u : V, Av p q u → Av p q ((f u).getD u) := by
  intro u hu
  cases h : f u with
  | none => exact hu
  | some z => exact hf u z h hu
 refine V.rec (motive_1 := fun v => Av p q v → Av p q (v.mapB f)) (motive_2 := fun vs => (∀ u ∈ vs, Av p q u) → ∀ u ∈ V.mapBs f vs, Av p q u)
  (leaf _) (fun _ => leaf _) (fun _ _ => leaf _) (fun _ => leaf _) (leaf _) (fun _ _ _ _ => leaf _) (fun _ _ _ _ _ => leaf _) (fun _ _ _ _ _ => leaf _) (fun _ _ => leaf _) (fun _ _ _ _ _ _ _ => leaf _) (fun _ _ _ _ => leaf _) (fun _ _ _ => leaf _)
  (fun _ ih h => .agg (ih h.agg_inv)) (fun _ ih h => .tup (ih h.tup_inv)) (fun _ _ ih h => .clo (ih h.clo_inv)) (fun _ u hu => (by cases hu)) ?_ v
 intro v vs hv hvs h u hu
 rw [V.mapBs] at hu
 rcases List.mem_cons.1 hu with rfl | hu
 ·exact hv (h v (by simp))
 ·exact hvs (fun u hu => h u (by simp [hu])) u hu
theorem mapBo_mem {f : V → Option V} : ∀ {l : List (Option V)} {v : V}, some v ∈ mapBo f l → ∃ u, some u ∈ l ∧ v = u.mapB f := by
 intro l
 induction l with
 | nil => intro v h; cases h
 | cons x l ih =>
  intro v h
  cases x with
  | none =>
   rw [mapBo] at h
   obtain ⟨u, hu, e⟩ := ih ((List.mem_cons.1 h).resolve_left (by simp))
   exact ⟨u, by simp [hu], e⟩
  | some y =>
   rw [mapBo] at h
   rcases List.mem_cons.1 h with h | h
   ·injection h with h; exact ⟨y, by simp, h⟩
   ·obtain ⟨u, hu, e⟩ := ih h
    exact ⟨u, by simp [hu], e⟩
theorem mapBs_mem {f : V → Option V} : ∀ {l : List V} {v : V}, v ∈ V.mapBs f l → ∃ u, u ∈ l ∧ v = u.mapB f := by
 intro l
 induction l with
 | nil => intro v h; cases h
 | cons y l ih =>
  intro v h
  rw [V.mapBs] at h
  rcases List.mem_cons.1 h with h | h
  ·exact ⟨y, by simp, h⟩
  ·obtain ⟨u, hu, e⟩ := ih h
   exact ⟨u, by simp [hu], e⟩
theorem CleanAt.sweep {bx : Bool} {f : V → Option V} (h : CleanAt d bx st) (hf : ∀ u z, f u = some z → Av (fun b => b / 1000 == d) (fun d' => bx && d' == d) u → Av (fun b => b / 1000 == d) (fun d' => bx && d' == d) z) : CleanAt d bx (st.sweep f) := by
 rintro v (hv | hv)
 ·obtain ⟨u, hu, rfl⟩ := mapBs_mem hv
  exact (h u (.inl hu)).map hf
 ·obtain ⟨u, hu, rfl⟩ := mapBo_mem hv
  exact (h u (.inr hu)).map hf
theorem poison_av (b : Nat) : ∀ u z, poison b u = some z → Av p q u → Av p q z := by
 intro u z h _
 cases u <;> simp only [poison] at h <;> first
  | (cases h; done)
  | (split at h <;> first
    | (simp only [Option.some.injEq] at h; subst h; exact ⟨rfl, rfl⟩)
    | cases h)
theorem renew_av (b : Nat) (k : Q) (ys : List V) : ∀ u z, renew b k ys u = some z → Av p q u → Av p q z := by
 intro u z h hu
 cases u <;> simp only [renew] at h <;> first
  | (cases h; done)
  | (split at h <;> first
    | (simp only [Option.some.injEq] at h; subst h; exact ⟨rfl, rfl⟩)
    | skip)
 ·rename_i b' s k' zs hbb
  simp only [Option.some.injEq] at h
  subst h
  subst hbb
  exact hu
 all_goals cases h
theorem clean_eff {bx : Bool} {dst : Option Nat} {op : Op} (h : effOp c st dst op = some st') (hc : CleanAt d bx st) : CleanAt d bx st' := by
 cases op with
 | store t ad x =>
  simp only [effOp] at h
  split at h
  ·rename_i i hi
   split at h
   ·rename_i hcc
    split at h
    ·rename_i b o had
     split at h
     ·rename_i rr hb
      split at h
      ·rename_i cs hov
       simp only [Option.some.injEq] at h
       subst h
       have hcs := over_av hov (hc.box b rr hb).cells (hc.ev x).cells
       rintro v (hv | hv)
       ·exact hc v (.inl hv)
       ·rcases List.mem_or_eq_of_mem_set hv with hv | hv
        ·exact hc v (.inr hv)
        ·injection hv with hv
         subst hv
         unfold reshape
         split
         ·exact .agg hcs
         ·cases cs with
          | nil => exact ⟨rfl, rfl⟩
          | cons y ys => exact hcs y (by simp)
      ·cases h
     ·cases h
    ·repeat' split at h
     all_goals first | (cases h; done) | skip
     simp only [Option.some.injEq] at h
     subst h
     exact hc.sweep (renew_av _ _ _)
    ·cases h
   ·cases h
  ·cases h
 | call cl =>
  obtain ⟨callee, args, ts⟩ := cl
  cases callee with
  | builtin bi =>
   cases bi with
   | append =>
    simp only [effOp] at h
    split at h
    ·rename_i x y t t' dd hx ht2
     split at h
     ·split at h
      ·rename_i i b s k xs hi hxv
       split at h
       ·split at h
        ·simp only [Option.some.injEq] at h
         subst h
         have hsw := hc.sweep (f := poison b) (poison_av b)
         have hxx := hc.ev x
         rintro v (hv | hv)
         ·rcases List.mem_or_eq_of_mem_set hv with hv | rfl
          ·exact hsw v (.inl hv)
          ·rw [hxv] at hxx
           exact hxx
         ·exact hsw v (.inr hv)
        ·cases h
       ·cases h
      ·cases h
     ·cases h
    ·cases h
   | _ => simp only [effOp] at h; cases h
  | _ => simp only [effOp] at h; cases h
 | _ => simp only [effOp] at h; cases h
end
end Go.Am
namespace Go.Am
open Go Go.RowKit
section
variable {P : Program} {c : Cfg} {Γ Γ' : Ctx} {st st2 st' s1 s2 : St} {a : Act} {w w' : World} {den : Nat → List V → Option V} {η η' : Nat → Option V} {d : Nat} {p q r : Nat → Bool} {ops : Array Oper} {o : Oper}
def Still (ops : Array Oper) (st : St) (o : Oper) : Prop := isEff st o.op = false ∨ wanted ops st.t o = some false
theorem real_step1 (hA : Agree P c) (hD : Answers P den) (hs : Real st) (h : step1 c den ops st o = some st') : Real st' := by
 unfold step1 at h
 split at h
 ·cases h
 ·exact real_step hA hD hs h
 ·obtain ⟨Γ, a, w, hs⟩ := hs
  split at h
  ·rename_i d hd
   simp only [Option.some.injEq] at h
   subst h
   exact ⟨Γ, _, w, skip_ok hs d⟩
  ·simp only [Option.some.injEq] at h
   subst h
   exact ⟨Γ, a, w, hs⟩
theorem upd_mem {v z : V} {bx : Option V} {esc : List Nat} (h : z ∈ (st.upd d v bx esc).t ∨ some z ∈ (st.upd d v bx esc).h) : z ∈ st.t ∨ some z ∈ st.h ∨ z = v ∨ bx = some z := by
 unfold St.upd at h
 rcases h with h | h
 ·rcases List.mem_or_eq_of_mem_set h with h | h
  ·exact .inl h
  ·exact .inr (.inr (.inl h))
 ·simp only at h
  split at h
  ·rcases List.mem_or_eq_of_mem_set h with h | h
   ·exact .inr (.inl h)
   ·exact .inr (.inr (.inr (by simpa using h.symm)))
  ·exact .inr (.inl h)
theorem clean_step1 (hA : Agree P c) (hs : Real st) (h : step1 c den ops st o = some st') {d : Nat} {bx : Bool} (hd : ∀ e, o.dst = some e → e ≠ d ∧ e < 1000) (hc : CleanAt d bx st) : CleanAt d bx st' := by
 obtain ⟨Γ, a, w, hs⟩ := hs
 by_cases hst : Still ops st o
 ·cases hod : o.dst with
  | none =>
   unfold step1 at h
   cases hw : wanted ops st.t o with
   | none => rw [hw] at h; cases h
   | some b =>
    rw [hw] at h
    cases b with
    | false => simp only [hod, Option.some.injEq] at h; subst h; exact hc
    | true =>
     simp only at h
     have hne : isEff st o.op = false := by
      rcases hst with h | h
      ·exact h
      ·rw [hw] at h; cases h
     unfold step at h
     rw [if_neg (by rw [hne]; simp), hod] at h
     cases h
  | some e =>
   obtain ⟨he, hlt⟩ := hd e hod
   obtain ⟨v, bx', esc, rfl, hinfo, _, _⟩ := neat h hst hod
   intro z hz
   rcases upd_mem hz with hz | hz | hz
   ·exact hc z (.inl hz)
   ·exact hc z (.inr hz)
   ·rcases hinfo with ⟨out, _, hv, ho⟩ | ⟨rfl, rfl⟩
    ·have hav := names_op (p := fun b => b / 1000 == d) (q := fun d' => bx && d' == d) hA hs (fun b rr hb => hc.box b rr hb) (fun j hj => by rw [base_div hlt hj]; simpa using he) (fun x _ => hc.ev x) hv
     rcases ho with ⟨rfl, rfl⟩ | ⟨rr, rfl, rfl, rfl⟩ | ⟨n, rfl, rfl⟩
     ·rcases hz with rfl | hz
      ·exact hav
      ·cases hz
     ·rcases hz with rfl | hz
      ·exact ⟨rfl, by simp [V.anyP, he]⟩
      ·injection hz with hz
       subst hz
       exact hav
     ·rcases hz with rfl | hz
      ·exact hav
      ·cases hz
    ·rcases hz with rfl | hz
     ·exact ⟨rfl, rfl⟩
     ·cases hz
 ·have h1 : isEff st o.op = true := by
   cases hi : isEff st o.op with
   | true => rfl
   | false => exact absurd (.inl hi) hst
  unfold step1 at h
  cases hw : wanted ops st.t o with
  | none => rw [hw] at h; cases h
  | some b =>
   rw [hw] at h
   cases b with
   | false => exact absurd (.inr hw) hst
   | true =>
    simp only at h
    unfold step at h
    rw [if_pos h1] at h
    exact clean_eff h hc
theorem setD_ne {l : List V} {i j : Nat} {v : V} (h : j ≠ i) : (l.set i v).getD j .undef = l.getD j .undef := by
 rw [List.getD_eq_getElem?_getD, List.getD_eq_getElem?_getD, List.getElem?_set, if_neg (fun e => h e.symm)]
theorem setH_ne {l : List (Option V)} {i j : Nat} {v : Option V} (h : j ≠ i) : (l.set i v).getD j none = l.getD j none := by
 rw [List.getD_eq_getElem?_getD, List.getD_eq_getElem?_getD, List.getElem?_set, if_neg (fun e => h e.symm)]
theorem updH_ne {v : V} {bx : Option V} {esc : List Nat} {b : Nat} (h : bx.isSome = true → b ≠ d) : (st.upd d v bx esc).h.getD b none = st.h.getD b none := by
 unfold St.upd
 cases bx with
 | none => rfl
 | some rr => exact setH_ne (h rfl)
theorem updH_len {v : V} {bx : Option V} {esc : List Nat} : (st.upd d v bx esc).h.length = st.h.length := by
 unfold St.upd
 cases bx with
 | none => rfl
 | some rr => simp
theorem tmp_reads {t : Nat} (h : Operand.tmp t ∈ o.op.operands.toList) : t ∈ reads ops o := by
 unfold reads
 exact List.mem_append.2 (.inl (List.mem_filterMap.2 ⟨.tmp t, h, rfl⟩))
theorem swap_still (hA : Agree P c) (hD : Answers P den) (hs : Real st) {x y : Oper} (hx : step1 c den ops st x = some s1) (hy : step1 c den ops s1 y = some s2) (sx : Still ops st x) (sy : Still ops s1 y)
  {dx dy : Nat} (hdx : x.dst = some dx) (hdy : y.dst = some dy) (hne : dx ≠ dy) (lx : dx < 1000) (ly : dy < 1000) (rx : dy ∉ reads ops x) (ry : dx ∉ reads ops y) (cx : CleanAt dx (mkBox x.op) st) (cy : CleanAt dy (mkBox y.op) st) :
  ∃ s, step1 c den ops st y = some s ∧ step1 c den ops s x = some s2 := by
 obtain ⟨v, bx, esc, rfl, _, mx, tx⟩ := neat hx sx hdx
 obtain ⟨v', bx', esc', rfl, _, my, ty⟩ := neat hy sy hdy
 have h1 : step1 c den ops st y = some (st.upd dy v' bx' esc') := by
  refine ty (fun b => bx.isSome && b == dx) st ⟨fun z hz => ?_, fun b hb => ?_, fun z hz => ?_, updH_len.symm, fun e he => ?_⟩
  ·have : z ≠ dx := fun e => ry (e ▸ hz)
   exact (setD_ne this).symm
  ·exact (updH_ne (fun e => by simpa [e] using hb)).symm
  ·have hev : ev (st.upd dx v bx esc).t z = ev st.t z := by
    cases z with
    | tmp t => exact setD_ne (fun e => ry (e ▸ tmp_reads hz))
    | _ => rfl
   rw [hev]
   cases hb : bx.isSome with
   | false => simp only [Bool.false_and]; exact anyP_false _
   | true =>
    have := (cx.ev z).2
    rw [mx hb] at this
    exact this
  ·rw [hdy] at he
   injection he with he
   subst he
   refine ⟨by simp; exact fun _ e => hne e.symm, cy.freeD, fun hm => ?_⟩
   rw [hm] at cy
   exact cy.freeP
 refine ⟨_, h1, ?_⟩
 have hr1 := real_step1 hA hD hs h1
 have cx' : CleanAt dx (mkBox x.op) (st.upd dy v' bx' esc') := clean_step1 hA hs h1 (fun e he => by rw [hdy] at he; injection he with he; subst he; exact ⟨fun e => hne e.symm, ly⟩) cx
 rw [upd_swap st hne]
 refine tx (fun b => bx'.isSome && b == dy) _ ⟨fun z hz => ?_, fun b hb => ?_, fun z hz => ?_, updH_len, fun e he => ?_⟩
 ·have : z ≠ dy := fun e => rx (e ▸ hz)
  exact setD_ne this
 ·exact updH_ne (fun e => by simpa [e] using hb)
 ·cases hb : bx'.isSome with
  | false => simp only [Bool.false_and]; exact anyP_false _
  | true =>
   have := (cy.ev z).2
   rw [my hb] at this
   exact this
 ·rw [hdx] at he
  injection he with he
  subst he
  refine ⟨by simp [hne], cx'.freeD, fun hm => ?_⟩
  rw [hm] at cx'
  exact cx'.freeP
end
end Go.Am
end
section
set_option linter.unusedVariables false
set_option linter.unusedSimpArgs false
namespace Go.Am
open Go Go.RowKit
section
variable {P : Program} {c : Cfg} {Γ Γ' : Ctx} {st st2 st' s1 s2 : St} {a : Act} {w w' : World} {den : Nat → List V → Option V} {η η' : Nat → Option V} {d : Nat} {p q r : Nat → Bool} {ops : Array Oper} {o : Oper}
def Inert (v : V) : Prop := (∃ d n, v = .ptr d n) ∨ v = skipped ∨ ∃ b, v = .bool b
def St.slot (st : St) (d : Nat) (v : V) : St := { st with t := st.t.set d v }
theorem inert_poison {v : V} (h : Inert v) (b : Nat) : v.mapB (poison b) = v := by
 rcases h with ⟨d, n, rfl⟩ | rfl | ⟨b, rfl⟩ <;> rfl
theorem inert_renew {v : V} (h : Inert v) (b : Nat) (k : Q) (ys : List V) : v.mapB (renew b k ys) = v := by
 rcases h with ⟨d, n, rfl⟩ | rfl | ⟨b, rfl⟩ <;> rfl
theorem mapBs_set (f : V → Option V) : ∀ (l : List V) (d : Nat) (v : V), V.mapBs f (l.set d v) = (V.mapBs f l).set d (v.mapB f) := by
 intro l
 induction l with
 | nil => intro d v; rfl
 | cons x l ih =>
  intro d v
  cases d with
  | zero => rfl
  | succ d => simp only [List.set_cons_succ, V.mapBs, ih]
theorem slot_sweep {v : V} {f : V → Option V} (h : v.mapB f = v) : (st.slot d v).sweep f = (st.sweep f).slot d v := by
 unfold St.slot St.sweep
 simp only [mapBs_set, h]
theorem ev_slot {v : V} {x : Operand} (h : ∀ t, x = .tmp t → t ≠ d) : ev (st.slot d v).t x = ev st.t x := by
 cases x with
 | tmp t => exact setD_ne (h t rfl)
 | _ => rfl
theorem effOp_slot {v : V} (hv : Inert v) {dst : Option Nat} {op : Op} (hr : ∀ t, Operand.tmp t ∈ op.operands.toList → t ≠ d) (hd : dst ≠ some d) : effOp c (st.slot d v) dst op = (effOp c st dst op).map (fun s => s.slot d v) := by
 cases op with
 | store t ad x =>
  have h1 : ev (st.slot d v).t ad = ev st.t ad := ev_slot (fun t e => hr t (by simp [Op.operands, e]))
  have h2 : ev (st.slot d v).t x = ev st.t x := ev_slot (fun t e => hr t (by simp [Op.operands, e]))
  simp only [effOp, h1, h2]
  cases c.ty t with
  | none => rfl
  | some i =>
   simp only
   split
   ·cases ev st.t ad with
    | ptr b o =>
     simp only
     show (match st.h.getD b none with
      | some r => _
      | none => none) = _
     cases st.h.getD b none with
     | none => rfl
     | some rr =>
      simp only
      cases over rr.cells o (ev st.t x).cells <;> rfl
    | eptr b s k xs i' o =>
     have hdd : (st.slot d v).dead = st.dead := rfl
     simp only [hdd]
     by_cases hcc : st.dead b = false ∧ (cellsB (nilRow i.nz (ev st.t x)).cells).contains b = false
     ·rw [if_pos hcc, if_pos hcc]
      cases flats (nilRow i.nz (ev st.t x)).cells with
      | none => rfl
      | some new =>
       simp only
       cases storeRow xs i' o new with
       | none => rfl
       | some ys =>
        simp only [Option.map_some, slot_sweep (inert_renew hv _ _ _)]
        rfl
     ·rw [if_neg hcc, if_neg hcc]
      rfl
    | _ => rfl
   ·rfl
 | call cl =>
  obtain ⟨callee, args, ts⟩ := cl
  cases callee with
  | builtin bi =>
   cases bi with
   | append =>
    simp only [effOp]
    rcases hl : args.toList with _ | ⟨x, _ | ⟨y, _ | ⟨z, zs⟩⟩⟩
    ·rfl
    ·rfl
    ·have h1 : ev (st.slot d v).t x = ev st.t x := ev_slot (fun t e => hr t (by simp [Op.operands, Call.operands, hl, e]))
     have h2 : ev (st.slot d v).t y = ev st.t y := ev_slot (fun t e => hr t (by simp [Op.operands, Call.operands, hl, e]))
     rcases hts : ts.toList with _ | ⟨t1, _ | ⟨t2, _ | ⟨t3, tr⟩⟩⟩
     ·rfl
     ·rfl
     ·cases dst with
      | none => rfl
      | some e =>
       have he : e ≠ d := fun h => hd (by rw [h])
       simp only [h1, h2]
       cases c.ty t1 with
       | none => rfl
       | some i =>
        obtain ⟨dd, sz, by_, z0, cm⟩ := i
        cases dd with
        | slice e' =>
         simp only
         cases c.ty e' with
         | none => rfl
         | some j =>
          cases ev st.t x with
          | own b s k xs =>
           simp only
           cases srcOf s (ev st.t y) with
           | none => rfl
           | some qq =>
            obtain ⟨k', ys⟩ := qq
            have hdd : (st.slot d v).dead = st.dead := rfl
            simp only [hdd]
            by_cases hcc : t2 = t1 ∧ s = j.size ∧ j.size ≠ 0 ∧ st.dead b = false ∧ (xs.length + ys.length) * j.bytes ≤ 140737488355328 ∧ xs.length + ys.length ≤ 140737488355328 ∧ b ≠ 999
            ·rw [if_pos hcc, if_pos hcc]
             simp only [Option.map_some, slot_sweep (inert_poison hv _)]
             unfold St.slot St.kill St.mark
             simp only [List.set_comm _ _ he]
            ·rw [if_neg hcc, if_neg hcc]
             rfl
          | _ => rfl
        | _ => rfl
     ·rfl
    ·rfl
   | _ => rfl
  | _ => rfl
 | _ => rfl
end
end Go.Am
namespace Go.Am
open Go Go.RowKit
section
variable {P : Program} {c : Cfg} {Γ Γ' : Ctx} {st st2 st' s1 s2 : St} {a : Act} {w w' : World} {den : Nat → List V → Option V} {η η' : Nat → Option V} {d : Nat} {p q r : Nat → Bool} {ops : Array Oper} {o : Oper}
theorem mapB_none (v : V) : v.mapB (fun _ => none) = v :=
 V.rec (motive_1 := fun v => v.mapB (fun _ => none) = v) (motive_2 := fun vs => V.mapBs (fun _ => none) vs = vs)
  rfl (fun _ => rfl) (fun _ _ => rfl) (fun _ => rfl) rfl (fun _ _ _ _ => rfl) (fun _ _ _ _ _ => rfl) (fun _ _ _ _ _ => rfl) (fun _ _ => rfl) (fun _ _ _ _ _ _ _ => rfl) (fun _ _ _ _ => rfl) (fun _ _ _ => rfl)
  (fun _ h => by rw [V.mapB, h]) (fun _ h => by rw [V.mapB, h]) (fun _ _ h => by rw [V.mapB, h]) rfl (fun _ _ h1 h2 => by rw [V.mapBs, h1, h2]) v
def Gentle (f : V → Option V) : Prop := (∀ u : V, Inert u → u.mapB f = u) ∧ (∀ u : V, Inert (u.mapB f) → u.mapB f = u) ∧ f .undef = none
theorem gentle_none : Gentle (fun _ => none) := ⟨fun u _ => mapB_none u, fun u _ => mapB_none u, rfl⟩
theorem skipped_inv {f : V → Option V} {cs : List V} (h : V.tup (V.mapBs f cs) = skipped) : cs = [] := by
 unfold skipped at h
 injection h with h
 cases cs with
 | nil => rfl
 | cons v vs => rw [V.mapBs] at h; cases h
theorem gentle_poison (b : Nat) : Gentle (poison b) := by
 refine ⟨fun u h => inert_poison h b, fun u h => ?_, rfl⟩
 cases u with
 | agg cs => rcases h with ⟨_, _, h⟩ | h | ⟨_, h⟩ <;> cases h
 | clo g cs => rcases h with ⟨_, _, h⟩ | h | ⟨_, h⟩ <;> cases h
 | tup cs =>
  rcases h with ⟨_, _, h⟩ | h | ⟨_, h⟩
  ·cases h
  ·rw [skipped_inv h]; rfl
  ·cases h
 | own b' s k xs =>
  simp only [V.mapB, poison] at h ⊢
  split at h
  ·rcases h with ⟨_, _, h⟩ | h | ⟨_, h⟩ <;> cases h
  ·rename_i hb; rw [if_neg hb]; rfl
 | view b' s k xs =>
  simp only [V.mapB, poison] at h ⊢
  split at h
  ·rcases h with ⟨_, _, h⟩ | h | ⟨_, h⟩ <;> cases h
  ·rename_i hb; rw [if_neg hb]; rfl
 | eptr b' s k xs i n =>
  simp only [V.mapB, poison] at h ⊢
  split at h
  ·rcases h with ⟨_, _, h⟩ | h | ⟨_, h⟩ <;> cases h
  ·rename_i hb; rw [if_neg hb]; rfl
 | vptr b' x n =>
  simp only [V.mapB, poison] at h ⊢
  split at h
  ·rcases h with ⟨_, _, h⟩ | h | ⟨_, h⟩ <;> cases h
  ·rename_i hb; rw [if_neg hb]; rfl
 | _ => rfl
theorem gentle_renew (b : Nat) (kk : Q) (ys : List V) : Gentle (renew b kk ys) := by
 refine ⟨fun u h => inert_renew h b kk ys, fun u h => ?_, rfl⟩
 cases u with
 | agg cs => rcases h with ⟨_, _, h⟩ | h | ⟨_, h⟩ <;> cases h
 | clo g cs => rcases h with ⟨_, _, h⟩ | h | ⟨_, h⟩ <;> cases h
 | tup cs =>
  rcases h with ⟨_, _, h⟩ | h | ⟨_, h⟩
  ·cases h
  ·rw [skipped_inv h]; rfl
  ·cases h
 | own b' s k xs =>
  simp only [V.mapB, renew] at h ⊢
  split at h
  ·rcases h with ⟨_, _, h⟩ | h | ⟨_, h⟩ <;> cases h
  ·rename_i hb; rw [if_neg hb]; rfl
 | view b' s k xs =>
  simp only [V.mapB, renew] at h ⊢
  split at h
  ·rcases h with ⟨_, _, h⟩ | h | ⟨_, h⟩ <;> cases h
  ·rename_i hb; rw [if_neg hb]; rfl
 | eptr b' s k xs i n =>
  simp only [V.mapB, renew] at h ⊢
  split at h
  ·rcases h with ⟨_, _, h⟩ | h | ⟨_, h⟩ <;> cases h
  ·rename_i hb; rw [if_neg hb]; rfl
 | vptr b' x n =>
  simp only [V.mapB, renew] at h ⊢
  split at h
  ·rcases h with ⟨_, _, h⟩ | h | ⟨_, h⟩ <;> cases h
  ·rename_i hb; rw [if_neg hb]; rfl
 | _ => rfl
theorem getD_mapBs {f : V → Option V} (hu : f .undef = none) (l : List V) (z : Nat) : (V.mapBs f l).getD z .undef = (l.getD z .undef).mapB f := by
 rw [List.getD_eq_getElem?_getD, List.getD_eq_getElem?_getD, mapBs_get]
 cases l[z]? with
 | none => show V.undef = (f .undef).getD .undef; rw [hu]; rfl
 | some v => rfl
theorem eff_slots {dst : Option Nat} {op : Op} (h : effOp c st dst op = some st') : ∃ f, Gentle f ∧ ∀ z, dst ≠ some z → st'.t.getD z .undef = (st.t.getD z .undef).mapB f := by
 cases op with
 | store t ad x =>
  simp only [effOp] at h
  repeat' split at h
  all_goals first | (cases h; done) | skip
  ·simp only [Option.some.injEq] at h
   subst h
   exact ⟨_, gentle_none, fun z _ => (mapB_none _).symm⟩
  ·simp only [Option.some.injEq] at h
   subst h
   exact ⟨_, gentle_renew _ _ _, fun z _ => getD_mapBs rfl _ _⟩
 | call cl =>
  obtain ⟨callee, args, ts⟩ := cl
  cases callee with
  | builtin bi =>
   cases bi with
   | append =>
    simp only [effOp] at h
    repeat' split at h
    all_goals first | (cases h; done) | skip
    simp only [Option.some.injEq] at h
    subst h
    exact ⟨_, gentle_poison _, fun z hz => (setD_ne (fun e => hz (by rw [e]))).trans (getD_mapBs rfl _ _)⟩
   | _ => simp only [effOp] at h; cases h
  | _ => simp only [effOp] at h; cases h
 | _ => simp only [effOp] at h; cases h
end
end Go.Am
namespace Go.Am
open Go Go.RowKit
section
variable {P : Program} {c : Cfg} {Γ Γ' : Ctx} {st st2 st' s1 s2 : St} {a : Act} {w w' : World} {den : Nat → List V → Option V} {η η' : Nat → Option V} {d : Nat} {p q r : Nat → Bool} {ops : Array Oper} {o : Oper}
theorem addrSlot_op {x : Nat} (h : addrSlot o = some x) : ∃ t k, o.op = .fieldAddr t (.tmp x) k := by
 unfold addrSlot at h
 split at h
 ·rename_i t y k _ hop _
  simp only [Option.some.injEq] at h
  subst h
  exact ⟨t, k, hop⟩
 ·cases h
theorem addrSlot_dst {x : Nat} (h : addrSlot o = some x) : o.dst ≠ none := by
 unfold addrSlot at h
 split at h
 ·rename_i hd
  rw [hd]; simp
 ·cases h
theorem addr_step {x df : Nat} (ha : addrSlot o = some x) (hd : o.dst = some df) {e n : Nat} (hp : st.t.getD x .undef = .ptr e n) (h : step1 c den ops st o = some st') :
  ∃ v, Inert v ∧ st' = st.slot df v ∧ ∀ st2 : St, wanted ops st2.t o = wanted ops st.t o → st2.t.getD x .undef = .ptr e n → step1 c den ops st2 o = some (st2.slot df v) := by
 obtain ⟨t, k, hop⟩ := addrSlot_op ha
 unfold step1 at h
 cases hw : wanted ops st.t o with
 | none => rw [hw] at h; cases h
 | some b =>
  rw [hw] at h
  cases b with
  | false =>
   simp only [hd, Option.some.injEq] at h
   subst h
   refine ⟨skipped, .inr (.inl rfl), rfl, fun st2 h1 _ => ?_⟩
   unfold step1
   rw [h1]
   simp only [hd]
   rfl
  | true =>
   simp only at h
   have he : ∀ s : St, isEff s o.op = false := fun s => by rw [hop]; rfl
   have hv : ∀ (s : St), s.t.getD x .undef = .ptr e n → ∀ η, valOp c den (ev s.t) η df o.op = valOp c den (fun _ => .ptr e n) (fun _ => none) df o.op := by
    intro s hs η
    rw [hop]
    have : ev s.t (.tmp x) = .ptr e n := hs
    simp only [valOp, this]
   unfold step at h
   rw [if_neg (by rw [he st]; simp), hd] at h
   simp only at h
   rw [hv st hp] at h
   have inert : ∀ out, valOp c den (fun _ => V.ptr e n) (fun _ => none) df o.op = some out → ∃ m, out = .val (.ptr e m) := by
    intro out ho
    rw [hop] at ho
    simp only [valOp, plain, addOff] at ho
    repeat' split at ho
    all_goals first | (cases ho; done) | skip
    simp only [Option.some.injEq] at ho
    exact ⟨_, ho.symm⟩
   cases ho : valOp c den (fun _ => V.ptr e n) (fun _ => none) df o.op with
   | none => rw [ho] at h; cases h
   | some out =>
    obtain ⟨m, rfl⟩ := inert out ho
    rw [ho] at h
    simp only [Option.some.injEq] at h
    subst h
    refine ⟨.ptr e m, .inl ⟨_, _, rfl⟩, rfl, fun st2 h1 h2 => ?_⟩
    unfold step1
    rw [h1]
    simp only
    unfold step
    rw [if_neg (by rw [he st2]; simp), hd]
    simp only
    rw [hv st2 h2, ho]
    rfl
theorem isEff_may {st : St} {op : Op} (h : isEff st op = true) : mayEff op = true := by
 cases op with
 | store t a x => rfl
 | call cl =>
  obtain ⟨callee, args, ts⟩ := cl
  cases callee with
  | builtin bi => cases bi <;> first | rfl | cases h
  | _ => cases h
 | _ => cases h
theorem wanted_eff {f : V → Option V} (hg : Gentle f) {s : St} (hsl : ∀ z, z ∈ reads ops o → s.t.getD z .undef = (st.t.getD z .undef).mapB f) : ∀ b, (wanted ops st.t o = some b ↔ wanted ops s.t o = some b) := by
 intro b
 unfold wanted
 cases hgd : o.guard with
 | none => exact Iff.rfl
 | some jw =>
  obtain ⟨j, want⟩ := jw
  simp only
  cases hd : (ops[j]?).bind (·.dst) with
  | none => exact Iff.rfl
  | some d =>
   simp only
   rw [hsl d (by unfold reads; rw [hgd]; exact List.mem_append.2 (.inr (by simp [hd])))]
   generalize st.t.getD d .undef = u
   constructor
   ·intro h
    have hi : Inert u := by
     split at h
     ·exact .inr (.inr ⟨_, rfl⟩)
     ·exact .inr (.inl rfl)
     ·cases h
    rw [hg.1 u hi]
    exact h
   ·intro h
    have hi : Inert (u.mapB f) := by
     split at h
     ·rename_i b' hb; rw [hb]; exact .inr (.inr ⟨_, rfl⟩)
     ·rename_i hb; rw [hb]; exact .inr (.inl rfl)
     ·cases h
    rw [hg.2.1 u hi] at h
    exact h
theorem wanted_slot {v : V} (h : d ∉ reads ops o) : wanted ops (st.slot d v).t o = wanted ops st.t o :=
 wanted_congr (st := st) (st2 := st.slot d v) fun x hx => setD_ne (fun e => h (e ▸ hx))
theorem swap_eff_addr {x y : Oper} (hx : step1 c den ops st x = some s1) (hy : step1 c den ops s1 y = some s2) (sx : ¬ Still ops st x) {z dy e n : Nat} (ha : addrSlot y = some z) (hdy : y.dst = some dy) (hp : st.t.getD z .undef = .ptr e n)
  (hne : x.dst ≠ some dy) (rx : dy ∉ reads ops x) (ry : ∀ e, x.dst = some e → e ∉ reads ops y) : ∃ s, step1 c den ops st y = some s ∧ step1 c den ops s x = some s2 := by
 have h1 : isEff st x.op = true := by
  cases hi : isEff st x.op with
  | true => rfl
  | false => exact absurd (.inl hi) sx
 have hw : wanted ops st.t x = some true := by
  unfold step1 at hx
  cases hw : wanted ops st.t x with
  | none => rw [hw] at hx; cases hx
  | some b =>
   cases b with
   | true => rfl
   | false => exact absurd (.inr hw) sx
 have hx' : effOp c st x.dst x.op = some s1 := by
  unfold step1 at hx
  rw [hw] at hx
  simp only at hx
  unfold step at hx
  rw [if_pos h1] at hx
  exact hx
 obtain ⟨f, hg, hsl⟩ := eff_slots hx'
 obtain ⟨t, k, hop⟩ := addrSlot_op ha
 have hzr : z ∈ reads ops y := tmp_reads (by rw [hop]; simp [Op.operands])
 have hp1 : s1.t.getD z .undef = .ptr e n := by
  rw [hsl z (fun h => ry z h hzr), hp]
  exact hg.1 _ (.inl ⟨_, _, rfl⟩)
 obtain ⟨v, hv, rfl, hty⟩ := addr_step ha hdy hp1 hy
 have hwy : wanted ops st.t y = wanted ops s1.t y := by
  have := wanted_eff (ops := ops) (o := y) (st := st) (s := s1) hg (fun q hq => hsl q (fun h => ry q h hq))
  cases hq : wanted ops s1.t y with
  | none =>
   cases hq2 : wanted ops st.t y with
   | none => rfl
   | some b => rw [(this b).1 hq2] at hq; cases hq
  | some b => exact (this b).2 hq
 refine ⟨_, hty st hwy hp, ?_⟩
 unfold step1
 rw [wanted_slot rx, hw]
 simp only
 unfold step
 have hr : ∀ t, Operand.tmp t ∈ x.op.operands.toList → t ≠ dy := fun t ht e => rx (e ▸ tmp_reads ht)
 rw [isEff_congr (st := st) (fun q hq => ev_slot (fun t e => hr t (e ▸ hq))), if_pos h1, effOp_slot hv hr hne, hx']
 rfl
theorem swap_addr_eff {x y : Oper} (hx : step1 c den ops st x = some s1) (hy : step1 c den ops s1 y = some s2) (sy : ¬ Still ops s1 y) {z dx e n : Nat} (ha : addrSlot x = some z) (hdx : x.dst = some dx) (hp : st.t.getD z .undef = .ptr e n)
  (hne : y.dst ≠ some dx) (ry : dx ∉ reads ops y) (rx : ∀ e, y.dst = some e → e ∉ reads ops x) : ∃ s, step1 c den ops st y = some s ∧ step1 c den ops s x = some s2 := by
 have h1 : isEff s1 y.op = true := by
  cases hi : isEff s1 y.op with
  | true => rfl
  | false => exact absurd (.inl hi) sy
 have hw : wanted ops s1.t y = some true := by
  unfold step1 at hy
  cases hw : wanted ops s1.t y with
  | none => rw [hw] at hy; cases hy
  | some b =>
   cases b with
   | true => rfl
   | false => exact absurd (.inr hw) sy
 have hy' : effOp c s1 y.dst y.op = some s2 := by
  unfold step1 at hy
  rw [hw] at hy
  simp only at hy
  unfold step at hy
  rw [if_pos h1] at hy
  exact hy
 obtain ⟨v, hv, rfl, htx⟩ := addr_step ha hdx hp hx
 have hr : ∀ t, Operand.tmp t ∈ y.op.operands.toList → t ≠ dx := fun t ht e => ry (e ▸ tmp_reads ht)
 rw [effOp_slot hv hr hne] at hy'
 cases hs : effOp c st y.dst y.op with
 | none => rw [hs] at hy'; cases hy'
 | some s =>
  rw [hs] at hy'
  simp only [Option.map_some, Option.some.injEq] at hy'
  subst hy'
  obtain ⟨f, hg, hsl⟩ := eff_slots hs
  obtain ⟨t, k, hop⟩ := addrSlot_op ha
  have hzr : z ∈ reads ops x := tmp_reads (by rw [hop]; simp [Op.operands])
  have hp1 : s.t.getD z .undef = .ptr e n := by
   rw [hsl z (fun h => rx z h hzr), hp]
   exact hg.1 _ (.inl ⟨_, _, rfl⟩)
  refine ⟨s, ?_, htx s ?_ hp1⟩
  ·unfold step1
   rw [← wanted_slot ry, hw]
   simp only
   unfold step
   rw [← isEff_congr (st := st) (st2 := st.slot dx v) (fun q hq => ev_slot (fun t e => hr t (e ▸ hq))), if_pos h1, hs]
  ·have := wanted_eff (ops := ops) (o := x) (st := st) (s := s) hg (fun q hq => hsl q (fun h => rx q h hq))
   cases hq : wanted ops s.t x with
   | none =>
    cases hq2 : wanted ops st.t x with
    | none => rfl
    | some b => rw [(this b).1 hq2] at hq; cases hq
   | some b => exact ((this b).2 hq).symm
end
end Go.Am
end
