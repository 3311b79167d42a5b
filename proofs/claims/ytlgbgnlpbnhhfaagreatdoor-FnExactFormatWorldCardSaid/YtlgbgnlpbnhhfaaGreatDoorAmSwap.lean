/-
  What an operation's result depends on. No theorem about a Go program stands here.
-/
import Derived.Test.YtlgbgnlpbnhhfaaGreatDoorAmNames2
set_option linter.unusedVariables false
set_option linter.unusedSimpArgs false
namespace Go.Am
open Go Go.RowKit
section
variable {P : Program} {c : Cfg} {Γ Γ' : Ctx} {st : St} {a : Act} {w w' : World} {den : Nat → List V → Option V} {η η' : Nat → Option V} {d : Nat} {p q r : Nat → Bool} {ρ ρ' : Operand → V}

theorem strip_congr (hη : ∀ b, r b = false → η b = η' b) (v : V) : v.anyP r = false → strip η v = strip η' v := by
  refine V.rec (motive_1 := fun v => v.anyP r = false → strip η v = strip η' v) (motive_2 := fun vs => V.anyPs r vs = false → strips η vs = strips η' vs)
    (fun _ => rfl) (fun _ _ => rfl) (fun _ _ _ => rfl) (fun _ _ => rfl) (fun _ => rfl) (fun _ _ _ _ _ => rfl) (fun _ _ _ _ _ _ => rfl) (fun _ _ _ _ _ _ => rfl)
    (fun d o h => ?_) (fun _ _ _ _ _ _ _ _ => rfl) (fun _ _ _ _ _ => rfl) (fun _ _ _ _ => rfl) (fun cs ih h => ?_) (fun cs ih h => ?_) (fun f cs ih h => ?_) (fun _ => rfl) (fun v vs hv hvs h => ?_) v
  · simp only [strip, hη d (by simpa [V.anyP] using h)]
  · simp only [strip, ih h]
  · simp only [strip, ih h]
  · simp only [strip, ih h]
  · rw [V.anyPs, Bool.or_eq_false_iff] at h
    simp only [strips, hv h.1, hvs h.2]
theorem strips_congr (hη : ∀ b, r b = false → η b = η' b) : ∀ (vs : List V), (∀ v ∈ vs, v.anyP r = false) → strips η vs = strips η' vs := by
  intro vs
  induction vs with
  | nil => intro _; rfl
  | cons v vs ih => intro h; simp only [strips, strip_congr hη v (h v (by simp)), ih (fun u hu => h u (by simp [hu]))]
theorem loadV_congr (hη : ∀ b, r b = false → η b = η' b) {i : TyInfo} {v : V} (h : v.anyP r = false) : loadV η i v = loadV η' i v := by
  have : cellsAt η v = cellsAt η' v := by
    cases v <;> first | rfl | skip
    rename_i d o
    simp only [cellsAt, hη d (by simpa [V.anyP] using h)]
  simp only [loadV, this]

/-- What an operation gives depends on its operands and on the boxes that these lead to. -/
theorem valOp_congr {op : Op} (hρ : ∀ x ∈ op.operands.toList, ρ x = ρ' x) (hη : ∀ b, r b = false → η b = η' b) (hr : ∀ x ∈ op.operands.toList, (ρ x).anyP r = false) : valOp c den ρ η d op = valOp c den ρ' η' d op := by
  cases op with
  | move x => simp only [valOp, hρ x (by simp [Op.operands])]
  | assign x => simp only [valOp, hρ x (by simp [Op.operands])]
  | pick x y z => simp only [valOp, hρ x (by simp [Op.operands]), hρ y (by simp [Op.operands]), hρ z (by simp [Op.operands])]
  | alloc e => rfl
  | box e x => simp only [valOp, hρ x (by simp [Op.operands])]
  | build t ps =>
    have : ps.toList.map (fun y => (y.1, ρ y.2)) = ps.toList.map (fun y => (y.1, ρ' y.2)) := List.map_congr_left fun y hy => by
      rw [hρ y.2 (by simp only [Op.operands]; exact List.mem_map.2 ⟨y, hy, rfl⟩)]
    simp only [valOp, this]
  | buildSlice t n ps =>
    have : ps.toList.map (fun y => (y.1, ρ y.2)) = ps.toList.map (fun y => (y.1, ρ' y.2)) := List.map_congr_left fun y hy => by
      rw [hρ y.2 (by simp only [Op.operands]; exact List.mem_map.2 ⟨y, hy, rfl⟩)]
    simp only [valOp, this]
  | load t x =>
    have h1 := hr x (by simp [Op.operands])
    have h2 := hρ x (by simp [Op.operands])
    rw [h2] at h1
    have h3 : ∀ i, loadV η i (ρ' x) = loadV η' i (ρ' x) := fun i => loadV_congr hη h1
    simp only [valOp, h2, h3]
  | nilCheck x => simp only [valOp, hρ x (by simp [Op.operands])]
  | binOp o t x y t' => simp only [valOp, hρ x (by simp [Op.operands]), hρ y (by simp [Op.operands])]
  | unOp u t x => cases u <;> simp only [valOp, hρ x (by simp [Op.operands])]
  | convert s t x => simp only [valOp, hρ x (by simp [Op.operands])]
  | makeFunc fn first cap =>
    have : cap.toList.map ρ = cap.toList.map ρ' := List.map_congr_left fun y hy => hρ y (by simp only [Op.operands, Array.toList_append, List.mem_append]; exact .inr hy)
    cases fn <;> simp only [valOp, this]
  | makeSlice t l k => simp only [valOp, hρ l (by simp [Op.operands]), hρ k (by simp [Op.operands])]
  | slice t x lo hi mx =>
    have h1 : lo.map ρ = lo.map ρ' := by
      cases lo with
      | none => rfl
      | some y => simp only [Option.map_some, hρ y (by simp [Op.operands])]
    have h2 : hi.map ρ = hi.map ρ' := by
      cases hi with
      | none => rfl
      | some y => simp only [Option.map_some, hρ y (by simp [Op.operands])]
    cases mx <;> simp only [valOp, h1, h2, hρ x (by simp [Op.operands])]
  | fieldAddr t x f => simp only [valOp, hρ x (by simp [Op.operands])]
  | field t x f => simp only [valOp, hρ x (by simp [Op.operands])]
  | indexAddr t x y => simp only [valOp, hρ x (by simp [Op.operands]), hρ y (by simp [Op.operands])]
  | index t x y => simp only [valOp, hρ x (by simp [Op.operands]), hρ y (by simp [Op.operands])]
  | extract x i => simp only [valOp, hρ x (by simp [Op.operands])]
  | call cl =>
    obtain ⟨callee, args, ts⟩ := cl
    have hargs : ∀ y ∈ args.toList, ρ y = ρ' y := fun y hy => hρ y (by simp only [Op.operands, Call.operands, Array.toList_append, List.mem_append]; exact .inr hy)
    have hra : ∀ y ∈ args.toList, (ρ y).anyP r = false := fun y hy => hr y (by simp only [Op.operands, Call.operands, Array.toList_append, List.mem_append]; exact .inr hy)
    cases callee with
    | value f =>
      have hf := hρ f (by simp [Op.operands, Call.operands])
      have hrf := hr f (by simp [Op.operands, Call.operands])
      have hmap : args.toList.map ρ = args.toList.map ρ' := List.map_congr_left hargs
      simp only [valOp, ← hf]
      cases hfv : ρ f with
      | clo g cap =>
        simp only
        rw [hfv] at hrf
        rw [strips_congr hη (args.toList.map ρ ++ cap) (fun v hv => ?_), hmap]
        rcases List.mem_append.1 hv with hv | hv
        · obtain ⟨y, hy, rfl⟩ := List.mem_map.1 hv
          exact hra y hy
        · exact anyPs_mem hrf v hv
      | _ => rfl
    | invoke f m => rfl
    | builtin bi =>
      have two : ∀ x y, args.toList = [x, y] → ρ x = ρ' x ∧ ρ y = ρ' y := fun x y h => ⟨hargs x (by rw [h]; simp), hargs y (by rw [h]; simp)⟩
      have one : ∀ x, args.toList = [x] → ρ x = ρ' x := fun x h => hargs x (by rw [h]; simp)
      cases bi <;> first | rfl | skip
      all_goals
        simp only [valOp]
        cases hl : args.toList with
        | nil => rfl
        | cons x xs =>
          cases xs with
          | nil =>
            have e := one x hl
            rcases hts : ts.toList with _ | ⟨t1, _ | ⟨t2, _ | ⟨t3, tr⟩⟩⟩ <;> first | rfl | simp only [e] | simp only [hl, hts, e]
          | cons y ys =>
            cases ys with
            | nil =>
              obtain ⟨e1, e2⟩ := two x y hl
              rcases hts : ts.toList with _ | ⟨t1, _ | ⟨t2, _ | ⟨t3, tr⟩⟩⟩ <;> first | rfl | simp only [e1, e2] | simp only [hl, hts, e1, e2]
            | cons _ _ => rfl
  | _ => rfl

theorem isEff_congr {st st2 : St} {op : Op} (h : ∀ x ∈ op.operands.toList, ev st2.t x = ev st.t x) : isEff st2 op = isEff st op := by
  cases op with
  | call cl =>
    obtain ⟨callee, args, ts⟩ := cl
    cases callee with
    | builtin bi =>
      cases bi <;> first | rfl | skip
      simp only [isEff]
      cases hl : args.toList with
      | nil => rfl
      | cons x xs =>
        simp only
        rw [h x (by simp only [Op.operands, Call.operands, Array.toList_append, List.mem_append]; exact .inr (by rw [hl]; simp))]
    | _ => rfl
  | _ => rfl

theorem ev_congr {ops : Array Oper} {o : Oper} {st st2 : St} (h : ∀ x ∈ reads ops o, st2.t.getD x .undef = st.t.getD x .undef) : ∀ x ∈ o.op.operands.toList, ev st2.t x = ev st.t x := by
  intro x hx
  cases x with
  | tmp t =>
    refine h t ?_
    unfold reads
    refine List.mem_append.2 (.inl (List.mem_filterMap.2 ⟨.tmp t, hx, rfl⟩))
  | _ => rfl
theorem wanted_congr {ops : Array Oper} {o : Oper} {st st2 : St} (h : ∀ x ∈ reads ops o, st2.t.getD x .undef = st.t.getD x .undef) : wanted ops st2.t o = wanted ops st.t o := by
  unfold wanted
  cases hg : o.guard with
  | none => rfl
  | some jw =>
    obtain ⟨j, want⟩ := jw
    simp only
    cases hd : (ops[j]?).bind (·.dst) with
    | none => rfl
    | some d =>
      simp only
      rw [h d (by unfold reads; rw [hg]; exact List.mem_append.2 (.inr (by simp [hd])))]
end
end Go.Am
