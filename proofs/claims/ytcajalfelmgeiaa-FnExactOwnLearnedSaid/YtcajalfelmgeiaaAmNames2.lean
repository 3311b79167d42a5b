/-
  Names: what an operation's result hangs on. No theorem about a Go program stands here.
-/
import Derived.Test.YtcajalfelmgeiaaAmNames
set_option linter.unusedVariables false
set_option linter.unusedSimpArgs false
namespace Go.Am
open Go Go.RowKit
section
variable {P : Program} {c : Cfg} {Γ Γ' : Ctx} {st : St} {a : Act} {w w' : World} {den : Nat → List V → Option V} {η : Nat → Option V} {d : Nat} {p q : Nat → Bool}

theorem thawB_names (hp : ∀ j, j < 1000 → p (base d j) = false) (r : V) : r.anyB (fun b => decide (1000 ≤ b)) = false → Av p q (r.mapB (thawB d)) := by
  refine V.rec (motive_1 := fun r => r.anyB (fun b => decide (1000 ≤ b)) = false → Av p q (r.mapB (thawB d))) (motive_2 := fun rs => V.anyBs (fun b => decide (1000 ≤ b)) rs = false → ∀ u ∈ V.mapBs (thawB d) rs, Av p q u)
    (fun _ => ⟨rfl, rfl⟩) (fun _ _ => ⟨rfl, rfl⟩) (fun _ _ _ => ⟨rfl, rfl⟩) (fun _ _ => ⟨rfl, rfl⟩) (fun _ => ⟨rfl, rfl⟩) (fun _ _ _ _ _ => ⟨rfl, rfl⟩) (fun b _ _ _ _ h => ⟨hp b (by simpa [V.anyB] using h), rfl⟩) (fun b _ _ _ _ h => ⟨hp b (by simpa [V.anyB] using h), rfl⟩)
    (fun _ _ _ => ⟨rfl, rfl⟩) (fun _ _ _ _ _ _ _ _ => ⟨rfl, rfl⟩) (fun _ _ _ _ _ => ⟨rfl, rfl⟩) (fun _ _ _ _ => ⟨rfl, rfl⟩)
    (fun _ ih h => .agg (ih h)) (fun _ ih h => .tup (ih h)) (fun _ _ ih h => .clo (ih h)) (fun _ u hu => (by cases hu)) ?_ r
  intro v vs hv hvs h u hu
  rw [V.anyBs, Bool.or_eq_false_iff] at h
  rw [V.mapBs] at hu
  rcases List.mem_cons.1 hu with rfl | hu
  · exact hv h.1
  · exact hvs h.2 u hu

theorem cut_av {n : Nat} {v u : V} {lo hi : Option V} (h : cut n v lo hi = some u) (hv : Av p q v) : Av p q u := by
  unfold cut at h
  repeat' split at h
  all_goals first | (cases h; done) | (simp only [Option.some.injEq] at h; subst h; exact hv)
theorem addrOf_av {s : Nat} {v u : V} {i : Int} (h : addrOf s v i = some u) (hv : Av p q v) : Av p q u := by
  unfold addrOf at h
  repeat' split at h
  all_goals first
    | (cases h; done)
    | (simp only [Option.some.injEq] at h; subst h; exact hv)
    | skip
  · rename_i xs hs
    cases hx : xs[i.toNat]? with
    | none => rw [hx] at h; cases h
    | some z => rw [hx] at h; simp only [Option.map_some, Option.some.injEq] at h; subst h; exact ⟨rfl, rfl⟩
  · rename_i b s' k xs hs
    cases hx : xs[i.toNat]? with
    | none => rw [hx] at h; cases h
    | some z => rw [hx] at h; simp only [Option.map_some, Option.some.injEq] at h; subst h; exact hv
theorem addOff_av {v u : V} {n : Nat} (h : addOff v n = some u) (hv : Av p q v) : Av p q u := by
  unfold addOff at h
  repeat' split at h
  all_goals first | (cases h; done) | (simp only [Option.some.injEq] at h; subst h; exact hv)

theorem mapInt_av {k : IntKind} {o : Option Int} {v : V} (h : (o.map fun n => V.int k (k.wrap n)) = some v) : Av p q v := by
  cases o with
  | none => cases h
  | some n => simp only [Option.map_some, Option.some.injEq] at h; subst h; exact ⟨rfl, rfl⟩
theorem agg_av {x : V} {cs : List V} (hx : Av p q x) (he : x = .agg cs) {ag : Bool} {n o : Nat} {v : V} (h : packV ag n (cs.drop o) = some v) : Av p q v := by
  subst he
  exact packV_av h (fun u hu => hx.agg_inv u (List.mem_of_mem_drop hu))
theorem tup_av {x v : V} {vs : List V} (hx : Av p q x) (he : x = .tup vs) {i : Nat} (h : vs[i]? = some v) : Av p q v := by
  subst he
  exact hx.tup_inv _ (mem_of_get h)

theorem names_op (hA : Agree P c) (hs : Sim Γ st a w) (hη : ∀ b r, η b = some r → Av p q r) (hp : ∀ j, j < 1000 → p (base d j) = false) {op : Op} (H : ∀ x ∈ op.operands.toList, Av p q (ev st.t x)) {out : Out}
    (h : valOp c den (ev st.t) η d op = some out) : AvO p q out := by
  cases op with
  | move x =>
    simp only [valOp, plain, Option.some.injEq] at h
    subst h
    exact H x (by simp [Op.operands])
  | assign x =>
    simp only [valOp, plain, Option.some.injEq] at h
    subst h
    exact H x (by simp [Op.operands])
  | pick x y z =>
    simp only [valOp, plain] at h
    repeat' split at h
    · simp only [Option.some.injEq] at h; subst h; exact H y (by simp [Op.operands])
    · simp only [Option.some.injEq] at h; subst h; exact H z (by simp [Op.operands])
    · cases h
  | alloc e =>
    simp only [valOp] at h
    split at h
    · rename_i i hi
      simp only [Option.some.injEq] at h; subst h
      exact zero_av hA hi
    · cases h
  | box e x =>
    simp only [valOp] at h
    repeat' split at h
    all_goals first | (cases h; done) | (simp only [Option.some.injEq] at h; subst h; exact H x (by simp [Op.operands]))
  | build t ps =>
    simp only [valOp, plain] at h
    repeat' split at h
    all_goals first | (cases h; done) | skip
    rename_i hcs
    simp only [Option.some.injEq] at h; subst h
    refine Av.agg (fillV_av _ _ _ hcs (zero_av hA (by assumption)).cells (fun x hx => ?_))
    obtain ⟨y, hy, rfl⟩ := List.mem_map.1 hx
    exact H y.2 (by simp only [Op.operands]; exact List.mem_map.2 ⟨y, hy, rfl⟩)
  | buildSlice t n ps =>
    simp only [valOp] at h
    repeat' split at h
    all_goals first | (cases h; done) | skip
    simp only [Option.some.injEq] at h; subst h
    exact ⟨hp 0 (by omega), rfl⟩
  | load t x =>
    simp only [valOp, plain, loadV] at h
    repeat' split at h
    all_goals first | (cases h; done) | skip
    rename_i hl
    simp only [Option.some.injEq] at h; subst h
    split at hl
    · rename_i cs hc
      exact packV_av hl (cellsAt_av hs (hs.ev x) hη hc)
    · cases hl
  | nilCheck x =>
    have hx := H x (by simp [Op.operands])
    simp only [valOp, plain] at h
    repeat' split at h
    all_goals first | (cases h; done) | skip
    all_goals
      rename_i he
      simp only [Option.some.injEq] at h; subst h
      rw [he] at hx
      exact hx
  | binOp o t x y t' =>
    simp only [valOp, plain] at h
    repeat' split at h
    all_goals first | (cases h; done) | skip
    rename_i i hi v hv
    simp only [Option.some.injEq] at h; subst h
    unfold binV at hv
    repeat' split at hv
    all_goals first
      | (cases hv; done)
      | (simp only [Option.some.injEq] at hv; subst hv; exact ⟨rfl, rfl⟩)
      | skip
    · unfold intOp at hv
      repeat' split at hv
      all_goals first
        | (cases hv; done)
        | (simp only [Option.some.injEq] at hv; subst hv; exact ⟨rfl, rfl⟩)
        | skip
      exact mapInt_av hv
    · unfold strOp at hv
      repeat' split at hv
      all_goals first
        | (cases hv; done)
        | (simp only [Option.some.injEq] at hv; subst hv; exact ⟨rfl, rfl⟩)
  | unOp u t x =>
    cases u <;> simp only [valOp, plain] at h <;> first
      | (cases h; done)
      | skip
    all_goals
      repeat' split at h
      all_goals first | (cases h; done) | (simp only [Option.some.injEq] at h; subst h; exact ⟨rfl, rfl⟩)
  | convert s t x =>
    have hx := H x (by simp [Op.operands])
    simp only [valOp, plain] at h
    cases hc : convV c s t (ev st.t x) with
    | some v =>
      rw [hc] at h
      simp only [Option.some.injEq] at h; subst h
      have hv := hc
      unfold convV at hv
      repeat' split at hv
      all_goals first
        | (cases hv; done)
        | (simp only [Option.some.injEq] at hv; subst hv; first | exact hx | exact ⟨rfl, rfl⟩)
        | skip
    | none =>
      rw [hc] at h
      simp only at h
      cases hb : convB c s t (ev st.t x) with
      | some v =>
        rw [hb] at h
        simp only [Option.some.injEq] at h; subst h
        have hv := hb
        unfold convB at hv
        split at hv
        · rename_i xs _
          cases hy : bytesOf xs with
          | none => rw [hy] at hv; cases hv
          | some l => rw [hy] at hv; simp only [Option.map_some, Option.some.injEq] at hv; subst hv; exact ⟨rfl, rfl⟩
        · cases hv
      | none =>
        rw [hb] at h
        cases hf : bytesFor c s t (ev st.t x) with
        | none => rw [hf] at h; cases h
        | some v =>
          rw [hf] at h
          simp only [Option.map_some, Option.some.injEq] at h; subst h
          have hv := hf
          unfold bytesFor at hv
          repeat' split at hv
          all_goals first
            | (cases hv; done)
            | (simp only [Option.some.injEq] at hv; subst hv; exact ⟨rfl, rfl⟩)
            | skip
  | makeFunc fn first cap =>
    cases fn with
    | func f =>
      simp only [valOp, plain] at h
      split at h
      · simp only [Option.some.injEq] at h; subst h
        refine Av.clo fun u hu => ?_
        obtain ⟨y, hy, rfl⟩ := List.mem_map.1 hu
        exact H y (by simp only [Op.operands, Array.toList_append, List.mem_append]; exact .inr hy)
      · cases h
    | _ => simp only [valOp] at h; cases h
  | makeSlice t l k =>
    simp only [valOp] at h
    repeat' split at h
    all_goals first | (cases h; done) | skip
    simp only [Option.some.injEq] at h; subst h
    exact ⟨hp 0 (by omega), rfl⟩
  | slice t x lo hi mx =>
    have hx := H x (by simp [Op.operands])
    cases mx with
    | some _ => simp only [valOp] at h; cases h
    | none =>
      simp only [valOp, plain] at h
      repeat' split at h
      all_goals first | (cases h; done) | skip
      · simp only [Option.some.injEq] at h; subst h; exact ⟨rfl, rfl⟩
      · rename_i v hv
        simp only [Option.some.injEq] at h; subst h
        exact cut_av hv hx
  | fieldAddr t x f =>
    have hx := H x (by simp [Op.operands])
    simp only [valOp, plain] at h
    repeat' split at h
    all_goals first | (cases h; done) | skip
    rename_i v hv
    simp only [Option.some.injEq] at h; subst h
    exact addOff_av hv hx
  | field t x f =>
    have hx := H x (by simp [Op.operands])
    simp only [valOp, plain] at h
    repeat' split at h
    all_goals first | (cases h; done) | skip
    rename_i hv
    simp only [Option.some.injEq] at h; subst h
    exact agg_av hx (by assumption) hv
  | indexAddr t x y =>
    have hx := H x (by simp [Op.operands])
    simp only [valOp, plain] at h
    repeat' split at h
    all_goals first | (cases h; done) | skip
    · rename_i v hv
      simp only [Option.some.injEq] at h; subst h
      exact addrOf_av hv hx
    · rename_i v hv
      simp only [Option.some.injEq] at h; subst h
      exact addOff_av hv hx
  | index t x y =>
    have hx := H x (by simp [Op.operands])
    simp only [valOp, plain] at h
    repeat' split at h
    all_goals first | (cases h; done) | skip
    · simp only [Option.some.injEq] at h; subst h; exact ⟨rfl, rfl⟩
    · rename_i hv
      simp only [Option.some.injEq] at h; subst h
      exact agg_av hx (by assumption) hv
  | extract x i =>
    have hx := H x (by simp [Op.operands])
    simp only [valOp, plain] at h
    repeat' split at h
    all_goals first | (cases h; done) | skip
    rename_i hv
    simp only [Option.some.injEq] at h; subst h
    exact tup_av hx (by assumption) hv
  | call cl =>
    obtain ⟨callee, args, ts⟩ := cl
    cases callee with
    | value f =>
      simp only [valOp] at h
      repeat' split at h
      all_goals first | (cases h; done) | skip
      obtain ⟨v, esc, n, rfl⟩ := takeR_fresh h
      obtain ⟨t1, rfl, _⟩ := takeR_inv h
      exact thawB_names hp _ t1
    | invoke f m => simp only [valOp] at h; cases h
    | builtin bi =>
      cases bi <;> simp only [valOp, plain] at h <;> first | (cases h; done) | skip
      all_goals
        repeat' split at h
        all_goals first
          | (cases h; done)
          | (simp only [Option.some.injEq] at h; subst h; first | exact ⟨rfl, rfl⟩ | exact ⟨hp 0 (by omega), rfl⟩)
  | _ =>
    simp only [valOp] at h
    cases h
end
end Go.Am
