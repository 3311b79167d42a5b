/-
  Operations in another order: appends to slices that were built in the region. No theorem about a Go program stands here.
-/
import Derived.Test.YtcajalfelmgeiaaAmSwap5
set_option linter.unusedVariables false
set_option linter.unusedSimpArgs false
namespace Go.Am
open Go Go.RowKit
section
variable {P : Program} {c : Cfg} {Γ Γ' : Ctx} {st st2 st' s1 s2 : St} {a : Act} {w w' : World} {den : Nat → List V → Option V} {η η' : Nat → Option V} {d : Nat} {p q r : Nat → Bool} {ops : Array Oper} {o : Oper}

theorem poison_avoid {b e : Nat} (hb : b / 1000 = e) (v : V) : v.anyB (fun k => k / 1000 == e) = false → v.mapB (poison b) = v := by
  have ne : ∀ k, (k / 1000 == e) = false → ¬ k = b := fun k h hk => by subst hk; simp [hb] at h
  refine V.rec (motive_1 := fun v => v.anyB (fun k => k / 1000 == e) = false → v.mapB (poison b) = v) (motive_2 := fun vs => V.anyBs (fun k => k / 1000 == e) vs = false → V.mapBs (poison b) vs = vs)
    (fun _ => rfl) (fun _ _ => rfl) (fun _ _ _ => rfl) (fun _ _ => rfl) (fun _ => rfl) (fun _ _ _ _ _ => rfl) (fun k _ _ _ _ h => by simp only [V.mapB, poison]; rw [if_neg (ne k h)]; rfl) (fun k _ _ _ _ h => by simp only [V.mapB, poison]; rw [if_neg (ne k h)]; rfl)
    (fun _ _ _ => rfl) (fun k _ _ _ _ _ _ h => by simp only [V.mapB, poison]; rw [if_neg (ne k h)]; rfl) (fun k _ _ _ h => by simp only [V.mapB, poison]; rw [if_neg (ne k h)]; rfl) (fun _ _ _ _ => rfl)
    (fun _ ih h => by rw [V.mapB, ih h]) (fun _ ih h => by rw [V.mapB, ih h]) (fun _ _ ih h => by rw [V.mapB, ih h]) (fun _ => rfl) (fun v vs hv hvs h => ?_) v
  rw [V.anyBs, Bool.or_eq_false_iff] at h
  rw [V.mapBs, hv h.1, hvs h.2]
/-- What is built in slot e is found in the slots T alone. -/
structure Iso (e : Nat) (T : List Nat) (st : St) : Prop where
  sl : ∀ z, z ∉ T → (st.t.getD z .undef).anyB (fun k => k / 1000 == e) = false
  bx : ∀ v, some v ∈ st.h → v.anyB (fun k => k / 1000 == e) = false
theorem Iso.of_clean {e : Nat} {T : List Nat} {b : Bool} (h : CleanAt e b st) : Iso e T st := by
  refine ⟨fun z _ => ?_, fun v hv => (h v (.inr hv)).1⟩
  rw [List.getD_eq_getElem?_getD]
  cases ht : st.t[z]? with
  | none => rfl
  | some v => exact (h v (.inl (mem_of_get ht))).1
theorem mapBo_id {f : V → Option V} : ∀ {l : List (Option V)}, (∀ v, some v ∈ l → v.mapB f = v) → mapBo f l = l := by
  intro l
  induction l with
  | nil => intro _; rfl
  | cons x l ih =>
    intro h
    cases x with
    | none => rw [mapBo, ih (fun v hv => h v (by simp [hv]))]
    | some y => rw [mapBo, h y (by simp), ih (fun v hv => h v (by simp [hv]))]
theorem Iso.heap {e b : Nat} {T : List Nat} (h : Iso e T st) (hb : b / 1000 = e) : mapBo (poison b) st.h = st.h := mapBo_id fun v hv => poison_avoid hb v (h.bx v hv)
theorem Iso.slot {e b z : Nat} {T : List Nat} (h : Iso e T st) (hb : b / 1000 = e) (hz : z ∉ T) : (V.mapBs (poison b) st.t).getD z .undef = st.t.getD z .undef := by
  rw [getD_mapBs rfl, poison_avoid hb _ (h.sl z hz)]
theorem Iso.ev {e : Nat} {T : List Nat} (h : Iso e T st) {x : Operand} (hx : ∀ t, x = .tmp t → t ∉ T) : Av (fun k => k / 1000 == e) (fun _ => false) (ev st.t x) := by
  refine ⟨?_, anyP_false _⟩
  cases x with
  | tmp t => exact h.sl t (hx t rfl)
  | const v =>
    show (ofVal v).anyB _ = false
    unfold ofVal
    split <;> rfl
  | func f => rfl
  | global g => rfl
theorem Iso.getH {e : Nat} {T : List Nat} (h : Iso e T st) (b : Nat) (rr : V) (hb : st.h.getD b none = some rr) : Av (fun k => k / 1000 == e) (fun _ => false) rr := by
  rw [List.getD_eq_getElem?_getD] at hb
  cases ht : st.h[b]? with
  | none => rw [ht] at hb; cases hb
  | some v =>
    rw [ht] at hb
    simp only [Option.getD_some] at hb
    subst hb
    exact ⟨h.bx rr (mem_of_get ht), anyP_false _⟩
/-- What the slot of an append's origin holds. -/
def OwnOf (e : Nat) (v : V) : Prop := (∃ b s q xs, v = .own b s q xs ∧ b / 1000 = e) ∨ v = skipped ∨ v = .undef

/-- An append that writes: what it does, and that it does so wherever its operands are the same. -/
theorem app_neat {sx : Nat} (hs : appSrc o = some sx) (hst : ¬ Still ops st o) (h : step1 c den ops st o = some st') :
    ∃ d b s q xs q' ys, o.dst = some d ∧ st.t.getD sx .undef = .own b s q xs ∧ st.dead b = false ∧ wanted ops st.t o = some true ∧ st' = { st.sweep (poison b) with t := (st.sweep (poison b)).t.set d (.own b s q' ys) } ∧
      ∀ st2 : St, (∀ x ∈ reads ops o, st2.t.getD x .undef = st.t.getD x .undef) → st2.dead b = false → step1 c den ops st2 o = some { st2.sweep (poison b) with t := (st2.sweep (poison b)).t.set d (.own b s q' ys) } := by
  have h1 : isEff st o.op = true := by
    cases hi : isEff st o.op with
    | true => rfl
    | false => exact absurd (.inl hi) hst
  have hw : wanted ops st.t o = some true := by
    unfold step1 at h
    cases hw : wanted ops st.t o with
    | none => rw [hw] at h; cases h
    | some b =>
      cases b with
      | true => rfl
      | false => exact absurd (.inr hw) hst
  have h' : effOp c st o.dst o.op = some st' := by
    unfold step1 at h
    rw [hw] at h
    simp only at h
    unfold step at h
    rw [if_pos h1] at h
    exact h
  have key : ∀ st2 : St, (∀ x ∈ reads ops o, st2.t.getD x .undef = st.t.getD x .undef) → step1 c den ops st2 o = effOp c st2 o.dst o.op := fun st2 hr => by
    unfold step1
    rw [wanted_congr hr, hw]
    simp only
    unfold step
    rw [isEff_congr (ev_congr hr), if_pos h1]
  unfold appSrc at hs
  split at hs
  · rename_i args ts hop
    split at hs
    · rename_i x zs hargs
      injection hs with hs
      subst hs
      rw [hop] at h'
      simp only [effOp] at h'
      split at h'
      · rename_i x' y t t' d hx' hts hdst
        rw [hargs] at hx'
        injection hx' with hx' hzs
        subst hx'
        split at h'
        · rename_i e hty
          split at h'
          · rename_i i b s q xs hi hev
            split at h'
            · rename_i q' ys hsrc
              split at h'
              · rename_i hc
                injection h' with h'
                refine ⟨d, b, s, q, xs, q.join q', xs ++ ys, hdst, hev, hc.2.2.2.1, hw, h'.symm, fun st2 hr hd => ?_⟩
                rw [key st2 hr, hop, hdst]
                have e1 : ev st2.t (.tmp x) = .own b s q xs := (ev_congr hr (.tmp x) (by rw [hop]; simp [Op.operands, Call.operands, hargs])).trans hev
                have e2 : ev st2.t y = ev st.t y := ev_congr hr y (by rw [hop]; simp [Op.operands, Call.operands, hargs, hzs])
                have hargs2 : args.toList = [.tmp x, y] := by rw [hargs, hzs]
                simp only [effOp, hargs2, hts, hty, hi, e1, e2, hsrc]
                rw [if_pos ⟨hc.1, hc.2.1, hc.2.2.1, hd, hc.2.2.2.2⟩]
              · cases h'
            · cases h'
          · cases h'
        · cases h'
      · cases h'
    · cases hs
  · cases hs
theorem quiet_eff {op : Op} (h : quiet op = true) (st : St) : isEff st op = false := by
  cases op <;> first | rfl | (cases h; done)
theorem over_set {e d : Nat} {b : Nat} {v own : V} {bx : Option V} {esc : List Nat} (hne : d ≠ e) (hv : v.mapB (poison b) = v) (hb : ∀ r, bx = some r → r.mapB (poison b) = r) :
    ({ (st.upd e v bx esc).sweep (poison b) with t := ((st.upd e v bx esc).sweep (poison b)).t.set d own } : St) = ({ st.sweep (poison b) with t := (st.sweep (poison b)).t.set d own } : St).upd e v bx esc := by
  unfold St.upd St.sweep
  simp only [mapBs_set, hv]
  congr 1
  · exact List.set_comm _ _ (Ne.symm hne)
  · cases bx with
    | none => rfl
    | some r =>
      simp only
      have : ∀ (l : List (Option V)) (k : Nat), mapBo (poison b) (l.set k (some r)) = (mapBo (poison b) l).set k (some r) := by
        intro l
        induction l with
        | nil => intro k; rfl
        | cons x l ih =>
          intro k
          cases k with
          | zero => cases x <;> simp only [List.set_cons_zero, mapBo, hb r rfl]
          | succ k => cases x <;> simp only [List.set_cons_succ, mapBo, ih]
      exact this _ _
theorem cellB_av {v : V} (h : v.anyB p = false) : ∀ b ∈ cellB v, p b = false := by
  intro b hb
  cases v <;> simp only [cellB, List.not_mem_nil, List.mem_singleton] at hb
  all_goals (subst hb; exact h)
theorem cellsB_av : ∀ {cs : List V}, (∀ c ∈ cs, c.anyB p = false) → ∀ b ∈ cellsB cs, p b = false := by
  intro cs
  induction cs with
  | nil => intro _ b hb; cases hb
  | cons v vs ih =>
    intro h b hb
    rw [cellsB, List.mem_append] at hb
    rcases hb with hb | hb
    · exact cellB_av (h v (by simp)) b hb
    · exact ih (fun c hc => h c (by simp [hc])) b hb
theorem nilCell_av (h9 : p 999 = false) {z v : V} (h : v.anyB p = false) : (nilCell z v).anyB p = false := by
  unfold nilCell
  split
  · exact h9
  · exact h
theorem nilCells_av (h9 : p 999 = false) : ∀ {zs cs : List V}, (∀ c ∈ cs, c.anyB p = false) → ∀ c ∈ nilCells zs cs, c.anyB p = false := by
  intro zs
  induction zs with
  | nil => intro cs h c hc; unfold nilCells at hc; exact h c hc
  | cons z zs ih =>
    intro cs h c hc
    cases cs with
    | nil => simp [nilCells] at hc
    | cons v vs =>
      rw [nilCells] at hc
      rcases List.mem_cons.1 hc with rfl | hc
      · exact nilCell_av h9 (h v (by simp))
      · exact ih (fun c hc => h c (by simp [hc])) c hc
theorem nilRow_av (h9 : p 999 = false) {zs : List V} {v : V} (h : v.anyB p = false) : (nilRow zs v).anyB p = false := by
  unfold nilRow
  split
  · rename_i cs
    exact anyBs_of (nilCells_av h9 fun c hc => anyBs_mem h c hc)
  · split
    · exact nilCell_av h9 h
    · exact h
theorem rowsB_av (h9 : p 999 = false) {zs : List V} : ∀ {xs : List V}, (∀ x ∈ xs, x.anyB p = false) → ∀ b ∈ rowsB (nilRows zs xs), p b = false := by
  intro xs
  induction xs with
  | nil => intro _ b hb; cases hb
  | cons v vs ih =>
    intro h b hb
    rw [nilRows, rowsB, List.mem_append] at hb
    rcases hb with hb | hb
    · have h1 : Av p (fun _ => false) (nilRow zs v) := ⟨nilRow_av h9 (h v (by simp)), anyP_false _⟩
      exact cellsB_av (fun c hc => (h1.cells c hc).1) b hb
    · exact ih (fun c hc => h c (by simp [hc])) b hb
theorem rowsOf_av : ∀ {vs : List (Nat × V)} {acc xs : List V}, rowsOf acc vs = some xs → (∀ x ∈ acc, x.anyB p = false) → (∀ y ∈ vs, y.2.anyB p = false) → ∀ x ∈ xs, x.anyB p = false := by
  intro vs
  induction vs with
  | nil => intro acc xs h ha _ x hx; injection h with h; subst h; exact ha x hx
  | cons y vs ih =>
    intro acc xs h ha hv x hx
    obtain ⟨i, v⟩ := y
    rw [rowsOf] at h
    split at h
    · refine ih h (fun u hu => ?_) (fun y hy => hv y (by simp [hy])) x hx
      rcases List.mem_or_eq_of_mem_set hu with hu | rfl
      · exact ha u hu
      · exact hv (i, u) (by simp)
    · cases h
/-- What a quiet operation hands on does not hang on what its operands do not hang on. -/
theorem quiet_dead (hA : Agree P c) (hq : quiet o.op = true) (h : step1 c den ops st o = some st') (h9 : p 999 = false) (H : ∀ x ∈ o.op.operands.toList, (ev st.t x).anyB p = false) : ∀ b, p b = true → st'.dead b = st.dead b := by
  intro b hb
  unfold step1 at h
  split at h
  · cases h
  · unfold step at h
    rw [if_neg (by rw [quiet_eff hq]; simp)] at h
    cases hd : o.dst with
    | none => rw [hd] at h; cases h
    | some d =>
      rw [hd] at h
      simp only at h
      cases hv : valOp c den (ev st.t) (fun b => st.h.getD b none) d o.op with
      | none => rw [hv] at h; cases h
      | some out =>
        rw [hv] at h
        cases out with
        | val v => simp only [Option.some.injEq] at h; subst h; rfl
        | box rr =>
          simp only at h
          split at h
          · simp only [Option.some.injEq] at h; subst h; rfl
          · cases h
        | fresh v esc n =>
          simp only at h
          split at h
          · simp only [Option.some.injEq] at h
            subst h
            show (esc.contains b || st.dead b) = st.dead b
            have he : ∀ k ∈ esc, p k = false := by
              cases hop : o.op with
              | buildSlice t n ps =>
                rw [hop] at hv H
                simp only [valOp] at hv
                repeat' split at hv
                all_goals first | (cases hv; done) | skip
                simp only [Option.some.injEq, Out.fresh.injEq] at hv
                obtain ⟨_, rfl, _⟩ := hv
                refine rowsB_av h9 ?_
                refine rowsOf_av (by assumption) (fun x hx => ?_) (fun y hy => ?_)
                · rw [List.eq_of_mem_replicate hx]
                  exact (zero_av (p := p) (q := fun _ => false) hA (by assumption)).1
                · obtain ⟨z, hz, rfl⟩ := List.mem_map.1 hy
                  exact H z.2 (by simp only [Op.operands]; exact List.mem_map.2 ⟨z, hz, rfl⟩)
              | slice t x lo hi mx =>
                exfalso
                rw [hop] at hq hv
                cases mx with
                | some z => cases hq
                | none => simp only [valOp, plain] at hv; (repeat' split at hv) <;> cases hv
              | _ =>
                exfalso
                rw [hop] at hq hv
                first
                  | (cases hq; done)
                  | (simp only [valOp, plain] at hv; (repeat' split at hv) <;> cases hv)
                  | skip
            cases hcc : esc.contains b with
            | false => rfl
            | true =>
              have := he b (List.contains_iff_mem.1 hcc)
              rw [hb] at this
              cases this
          · cases h
  · split at h
    · simp only [Option.some.injEq] at h; subst h; rfl
    · simp only [Option.some.injEq] at h; subst h; rfl
theorem still_none (h : step1 c den ops st o = some st') (hs : Still ops st o) (hd : o.dst = none) : wanted ops st.t o = some false ∧ st' = st := by
  unfold step1 at h
  cases hw : wanted ops st.t o with
  | none => rw [hw] at h; cases h
  | some b =>
    rw [hw] at h
    cases b with
    | false => simp only [hd, Option.some.injEq] at h; exact ⟨rfl, h.symm⟩
    | true =>
      simp only at h
      have hne : isEff st o.op = false := by
        rcases hs with h | h
        · exact h
        · rw [hw] at h; cases h
      unfold step at h
      rw [if_neg (by rw [hne]; simp), hd] at h
      cases h
theorem passed (hw : wanted ops st.t o = some false) (hd : o.dst = none) : step1 c den ops st o = some st := by
  unfold step1
  rw [hw]
  simp only [hd]


theorem neat_av (hA : Agree P c) (hs : Real st) {e d : Nat} {v : V} {bx : Option V} {esc : List Nat} (hlt : d < 1000) (hne : d ≠ e) (H : ∀ x ∈ o.op.operands.toList, Av (fun k => k / 1000 == e) (fun _ => false) (ev st.t x))
    (hη : ∀ b rr, st.h.getD b none = some rr → Av (fun k => k / 1000 == e) (fun _ => false) rr)
    (hinfo : ((∃ out, wanted ops st.t o = some true ∧ valOp c den (ev st.t) (fun b => st.h.getD b none) d o.op = some out ∧
        ((out = .val v ∧ bx = none) ∨ (∃ rr, out = .box rr ∧ v = .ptr d 0 ∧ bx = some rr) ∨ (∃ n, out = .fresh v esc n ∧ bx = none))) ∨ (v = skipped ∧ bx = none))) :
    v.anyB (fun k => k / 1000 == e) = false ∧ ∀ r, bx = some r → r.anyB (fun k => k / 1000 == e) = false := by
  obtain ⟨Γ, a, w, hs⟩ := hs
  rcases hinfo with ⟨out, _, hv, ho⟩ | ⟨rfl, rfl⟩
  · have hav := names_op (p := fun k => k / 1000 == e) (q := fun _ => false) hA hs hη (fun j hj => by rw [base_div hlt hj]; simpa using hne) H hv
    rcases ho with ⟨rfl, rfl⟩ | ⟨rr, rfl, rfl, rfl⟩ | ⟨n, rfl, rfl⟩
    · exact ⟨hav.1, fun r hr => by cases hr⟩
    · exact ⟨rfl, fun r hr => by injection hr with hr; subst hr; exact hav.1⟩
    · exact ⟨hav.1, fun r hr => by cases hr⟩
  · exact ⟨rfl, fun r hr => by cases hr⟩
theorem Iso.reads_ev {e : Nat} {T : List Nat} (h : Iso e T st) (hT : ∀ z ∈ reads ops o, z ∉ T) : ∀ x ∈ o.op.operands.toList, Av (fun k => k / 1000 == e) (fun _ => false) (Go.Am.ev st.t x) :=
  fun x hx => h.ev fun t ht => hT t (tmp_reads (ht ▸ hx))
theorem Iso.poisoned {e b d : Nat} {T : List Nat} {own : V} (h : Iso e T st) (hb : b / 1000 = e) (hT : ∀ z ∈ reads ops o, z ∉ T) (hd : d ∉ reads ops o) : ∀ z ∈ reads ops o, ((V.mapBs (poison b) st.t).set d own).getD z .undef = st.t.getD z .undef :=
  fun z hz => by
  have h0 : z ≠ d := fun h => hd (h ▸ hz)
  rw [setD_ne h0]
  exact h.slot hb (hT z hz)
theorem OwnOf.base {e b s : Nat} {q : Q} {xs : List V} (h : OwnOf e (.own b s q xs)) : b / 1000 = e := by
  rcases h with ⟨b', s', q', xs', h1, h2⟩ | h | h
  · injection h1 with h1; rw [h1]; exact h2
  · cases h
  · cases h
/-- An append ahead of a quiet operation. -/
theorem swap_app_quiet (hA : Agree P c) (hD : Answers P den) (hs : Real st) {x y : Oper} {sx : Nat} (ax : appSrc x = some sx) (hx : step1 c den ops st x = some s1) (hy : step1 c den ops s1 y = some s2) (nx : ¬ Still ops st x) (qy : quiet y.op = true)
    {e : Nat} {T : List Nat} (he0 : e ≠ 0) (hI : Iso e T st) (ho : OwnOf e (st.t.getD sx .undef)) (heT : e ∈ T) (ry : ∀ z ∈ reads ops y, z ∉ T) (dyT : ∀ d, y.dst = some d → d ∉ T)
    (k1 : ∀ d, x.dst = some d → d ∉ reads ops y ∧ y.dst ≠ some d) (k2 : ∀ d, y.dst = some d → d ∉ reads ops x) (cy : ∀ d, y.dst = some d → CleanAt d (mkBox y.op) st) (ly : ∀ d, y.dst = some d → d < 1000) :
    ∃ s, step1 c den ops st y = some s ∧ step1 c den ops s x = some s2 := by
  have hr1 := real_step1 hA hD hs hx
  obtain ⟨d, b, s, q, xs, q', ys, hdx, hown, hdead, hwx, hs1, tx⟩ := app_neat ax nx hx
  rw [hown] at ho
  have hb := ho.base
  have hrd : ∀ z ∈ reads ops y, s1.t.getD z .undef = st.t.getD z .undef := by
    rw [hs1]
    exact hI.poisoned hb ry (k1 d hdx).1
  have hh : s1.h = st.h := by rw [hs1]; exact hI.heap hb
  have sy : Still ops s1 y := .inl (quiet_eff qy s1)
  cases hdy : y.dst with
  | none =>
    obtain ⟨hw, rfl⟩ := still_none hy sy hdy
    refine ⟨st, passed ?_ hdy, hx⟩
    rw [← hw]
    exact (wanted_congr hrd).symm
  | some dy =>
    have hne : d ≠ dy := fun h => (k1 d hdx).2 (by rw [hdy, h])
    have hdead2 := quiet_dead (p := fun k => k / 1000 == e) hA qy hy (by simp; omega) (fun z hz => by rw [ev_congr hrd z hz]; exact (hI.reads_ev ry z hz).1) b (by simp [hb])
    obtain ⟨v, bx, esc, rfl, hinfo, _, ty⟩ := neat hy sy hdy
    obtain ⟨v1, v2⟩ := neat_av (e := e) hA hr1 (ly dy hdy) (fun h => dyT dy hdy (h ▸ heT)) (fun z hz => by rw [ev_congr hrd z hz]; exact hI.reads_ev ry z hz) (fun b rr hb => by rw [hh] at hb; exact hI.getH b rr hb) hinfo
    have h1 : step1 c den ops st y = some (st.upd dy v bx esc) := by
      refine ty (fun _ => false) st ⟨fun z hz => (hrd z hz).symm, fun b _ => by rw [hh], fun z _ => anyP_false _, by rw [hh], fun e' he' => ?_⟩
      have hc := cy e' he'
      rw [hdy] at he'
      injection he' with he'
      subst he'
      exact ⟨rfl, hc.freeD, fun hm => by rw [hm] at hc; exact hc.freeP⟩
    refine ⟨_, h1, ?_⟩
    rw [tx (st.upd dy v bx esc) (fun z hz => setD_ne (fun h => k2 dy hdy (h ▸ hz))) ?_]
    · rw [over_set hne (poison_avoid hb v v1) (fun r hr => poison_avoid hb r (v2 r hr)), ← hs1]
    · have e1 : s1.dead b = false := by rw [hs1]; exact hdead
      have e2 : (esc.contains b || s1.dead b) = s1.dead b := hdead2
      rw [e1, Bool.or_false] at e2
      show (esc.contains b || st.dead b) = false
      rw [e2, hdead]
      rfl
/-- A quiet operation ahead of an append. -/
theorem swap_quiet_app (hA : Agree P c) (hD : Answers P den) (hs : Real st) {x y : Oper} {sy : Nat} (ay : appSrc y = some sy) (hx : step1 c den ops st x = some s1) (hy : step1 c den ops s1 y = some s2) (ny : ¬ Still ops s1 y) (qx : quiet x.op = true)
    {e : Nat} {T : List Nat} (hI : Iso e T st) (ho : OwnOf e (st.t.getD sy .undef)) (heT : e ∈ T) (rx : ∀ z ∈ reads ops x, z ∉ T) (dxT : ∀ d, x.dst = some d → d ∉ T) (hsr : sy ∈ reads ops y)
    (k1 : ∀ d, x.dst = some d → d ∉ reads ops y ∧ y.dst ≠ some d) (k2 : ∀ d, y.dst = some d → d ∉ reads ops x) (cx : ∀ d, x.dst = some d → CleanAt d (mkBox x.op) st) (lx : ∀ d, x.dst = some d → d < 1000) (ly : ∀ d, y.dst = some d → d < 1000) :
    ∃ s, step1 c den ops st y = some s ∧ step1 c den ops s x = some s2 := by
  have sx : Still ops st x := .inl (quiet_eff qx st)
  cases hdx : x.dst with
  | none =>
    obtain ⟨hw, rfl⟩ := still_none hx sx hdx
    obtain ⟨d, b, s, q, xs, q', ys, hdy, hown, hdead, hwy, hs2, ty⟩ := app_neat ay ny hy
    rw [hown] at ho
    have hb := ho.base
    refine ⟨s2, hy, passed ?_ hdx⟩
    rw [← hw]
    refine wanted_congr ?_
    rw [hs2]
    exact hI.poisoned hb rx (k2 d hdy)
  | some dx =>
    obtain ⟨v, bx, esc, hs1, hinfo, _, tx⟩ := neat hx sx hdx
    obtain ⟨d, b, s, q, xs, q', ys, hdy, hown, hdead, hwy, hs2, ty⟩ := app_neat ay ny hy
    have hne : d ≠ dx := fun h => (k1 dx hdx).2 (by rw [hdy, h])
    have hrd : ∀ z ∈ reads ops y, st.t.getD z .undef = s1.t.getD z .undef := fun z hz => by
      rw [hs1]
      have h0 : z ≠ dx := fun h => (k1 dx hdx).1 (h ▸ hz)
      exact (setD_ne h0).symm
    rw [hrd sy hsr, hown] at ho
    have hb := ho.base
    have hdead1 : st.dead b = false := by
      rw [hs1] at hdead
      have : (esc.contains b || st.dead b) = false := hdead
      rw [Bool.or_eq_false_iff] at this
      exact this.2
    have h1 := ty st hrd hdead1
    refine ⟨_, h1, ?_⟩
    obtain ⟨v1, v2⟩ := neat_av (e := e) hA hs (lx dx hdx) (fun h => dxT dx hdx (h ▸ heT)) (hI.reads_ev rx) (fun b rr hb => hI.getH b rr hb) hinfo
    have hc' := clean_step1 hA hs h1 (d := dx) (bx := mkBox x.op) (fun e' he' => by rw [hdy] at he'; injection he' with he'; subst he'; exact ⟨hne, ly d hdy⟩) (cx dx hdx)
    rw [tx (fun _ => false) _ ⟨hI.poisoned hb rx (k2 d hdy), fun b' _ => by show (mapBo _ st.h).getD _ _ = _; rw [hI.heap hb], fun z _ => anyP_false _, by show (mapBo _ st.h).length = _; rw [hI.heap hb], fun e' he' => ?_⟩]
    · rw [hs2, hs1, over_set hne (poison_avoid hb v v1) (fun r hr => poison_avoid hb r (v2 r hr))]
    · rw [hdx] at he'
      injection he' with he'
      subst he'
      exact ⟨rfl, hc'.freeD, fun hm => by rw [hm] at hc'; exact hc'.freeP⟩
theorem mem_contains {T : List Nat} {z : Nat} : T.contains z = false ↔ z ∉ T := by
  constructor
  · intro h hz
    rw [List.contains_iff_mem.2 hz] at h
    cases h
  · intro h
    cases hc : T.contains z with
    | false => rfl
    | true => exact absurd (List.contains_iff_mem.1 hc) h
theorem any_contains {l T : List Nat} (h : l.any T.contains = false) : ∀ z ∈ l, z ∉ T := by
  intro z hz
  rw [List.any_eq_false] at h
  exact mem_contains.1 (by simpa using h z hz)
theorem core_mem {j : Nat} (hj : ops[j]? = some o) (h : ¬ (lastly ops = true ∧ j + 1 = ops.size)) : o ∈ coreL ops := by
  have hl : ops.toList[j]? = some o := by simpa using hj
  unfold coreL
  split
  · rename_i hla
    have hlt : j < ops.size := (Array.getElem?_eq_some_iff.1 hj).1
    have hne : j + 1 ≠ ops.size := fun e => h ⟨hla, e⟩
    refine List.mem_of_getElem? (i := j) ?_
    rw [List.getElem?_dropLast, if_pos (by rw [Array.length_toList]; omega)]
    exact hl
  · exact List.mem_of_getElem? hl
/-- What is built in a slot stays where it may be. -/
theorem iso_step (hA : Agree P c) (hs : Real st) {e : Nat} {T : List Nat} (hc : closedT ops e T = true) (ho : o ∈ coreL ops) (hlt : ∀ d, o.dst = some d → d < 1000) (h : step1 c den ops st o = some st') (hI : Iso e T st) : Iso e T st' := by
  unfold closedT at hc
  simp only [Bool.and_eq_true, List.all_eq_true] at hc
  obtain ⟨⟨heT, _⟩, hall⟩ := hc
  have heT : e ∈ T := List.contains_iff_mem.1 heT
  obtain ⟨hst, hop⟩ := hall o ho
  by_cases hS : Still ops st o
  · cases hd : o.dst with
    | none => obtain ⟨_, rfl⟩ := still_none h hS hd; exact hI
    | some d =>
      obtain ⟨v, bx, esc, rfl, hinfo, hbx, _⟩ := neat h hS hd
      rw [hd] at hop
      simp only at hop
      cases hdT : T.contains d with
      | true =>
        rw [if_pos hdT] at hop
        have hb0 : bx = none := by
          cases bx with
          | none => rfl
          | some r =>
            have := hbx rfl
            rw [this] at hop
            cases hop
        subst hb0
        exact ⟨fun z hz => by rw [show (st.upd d v none esc).t.getD z .undef = st.t.getD z .undef from setD_ne (fun h => hz (h ▸ List.contains_iff_mem.1 hdT))]; exact hI.sl z hz, fun u hu => hI.bx u hu⟩
      | false =>
        rw [if_neg (by rw [hdT]; simp), Bool.not_eq_true'] at hop
        have hr := any_contains hop
        obtain ⟨v1, v2⟩ := neat_av (e := e) hA hs (hlt d hd) (fun h => mem_contains.1 hdT (h ▸ heT)) (hI.reads_ev hr) (fun b rr hb => hI.getH b rr hb) hinfo
        refine ⟨fun z hz => ?_, fun u hu => ?_⟩
        · by_cases hzd : z = d
          · subst hzd
            show ((st.t.set z v).getD z .undef).anyB _ = false
            rw [List.getD_eq_getElem?_getD, List.getElem?_set]
            simp only [if_true]
            split
            · exact v1
            · rfl
          · rw [show (st.upd d v bx esc).t.getD z .undef = st.t.getD z .undef from setD_ne hzd]
            exact hI.sl z hz
        · rcases upd_mem (z := u) (.inr hu) with hu' | hu' | hu' | hu'
          · unfold St.upd at hu
            simp only at hu
            split at hu
            · rename_i r
              rcases List.mem_or_eq_of_mem_set hu with h2 | h2
              · exact hI.bx u h2
              · injection h2 with h2; subst h2; exact v2 _ rfl
            · exact hI.bx u hu
          · exact hI.bx u hu'
          · subst hu'; exact v1
          · exact v2 u hu'
  · have h1 : isEff st o.op = true := by
      cases hi : isEff st o.op with
      | true => rfl
      | false => exact absurd (.inl hi) hS
    unfold step1 at h
    cases hw : wanted ops st.t o with
    | none => rw [hw] at h; cases h
    | some bb =>
      rw [hw] at h
      cases bb with
      | false => exact absurd (.inr hw) hS
      | true =>
        simp only at h
        unfold step at h
        rw [if_pos h1] at h
        cases hopk : o.op with
        | store t a x => rw [hopk] at hst; cases hst
        | call cl =>
          obtain ⟨callee, args, ts⟩ := cl
          rw [hopk] at h
          cases callee with
          | builtin bi =>
            cases bi with
            | append =>
              simp only [effOp] at h
              split at h
              · rename_i x y t t' d hx ht hd
                split at h
                · split at h
                  · rename_i i b s q xs hi hev
                    split at h
                    · split at h
                      · simp only [Option.some.injEq] at h
                        subst h
                        rw [hd] at hop
                        simp only at hop
                        refine ⟨fun z hz => ?_, fun u hu => ?_⟩
                        · by_cases hzd : z = d
                          · subst hzd
                            rw [if_neg (by rw [mem_contains.2 hz]; simp), Bool.not_eq_true'] at hop
                            have hr := any_contains hop
                            have hax := (hI.reads_ev hr x (by rw [hopk]; simp [Op.operands, Call.operands, hx])).1
                            rw [hev] at hax
                            show (((V.mapBs (poison b) st.t).set z (.own b s _ _)).getD z .undef).anyB _ = false
                            rw [List.getD_eq_getElem?_getD, List.getElem?_set]
                            simp only [if_true]
                            split
                            · exact hax
                            · rfl
                          · show (((V.mapBs (poison b) st.t).set d _).getD z .undef).anyB _ = false
                            rw [setD_ne hzd, getD_mapBs rfl]
                            exact (Av.map (p := fun k => k / 1000 == e) (q := fun _ => false) (poison_av b) _ ⟨hI.sl z hz, anyP_false _⟩).1
                        · obtain ⟨u', hu', rfl⟩ := mapBo_mem hu
                          exact (Av.map (p := fun k => k / 1000 == e) (q := fun _ => false) (poison_av b) _ ⟨hI.bx u' hu', anyP_false _⟩).1
                      · cases h
                    · cases h
                  · cases h
                · cases h
              · cases h
            | _ => simp only [effOp] at h; cases h
          | _ => simp only [effOp] at h; cases h
        | _ => rw [hopk] at h; simp only [effOp] at h; cases h
theorem OwnOf.map {e : Nat} {v : V} {f : V → Option V} (h : OwnOf e v) (h1 : f .undef = none) (h2 : ∀ b s q xs z, f (.own b s q xs) = some z → z = .undef ∨ ∃ q' ys, z = .own b s q' ys) : OwnOf e (v.mapB f) := by
  rcases h with ⟨b, s, q, xs, rfl, hb⟩ | rfl | rfl
  · show OwnOf e ((f (.own b s q xs)).getD _)
    cases hf : f (.own b s q xs) with
    | none => exact .inl ⟨b, s, q, xs, rfl, hb⟩
    | some z =>
      rcases h2 b s q xs z hf with rfl | ⟨q', ys, rfl⟩
      · exact .inr (.inr rfl)
      · exact .inl ⟨b, s, q', ys, rfl, hb⟩
  · exact .inr (.inl rfl)
  · refine .inr (.inr ?_)
    show (f .undef).getD .undef = .undef
    rw [h1]
    rfl
theorem eff_own {dst : Option Nat} {op : Op} (h : effOp c st dst op = some st') {e z : Nat} (hz : dst ≠ some z) (ho : OwnOf e (st.t.getD z .undef)) : OwnOf e (st'.t.getD z .undef) := by
  cases op with
  | store t ad x =>
    simp only [effOp] at h
    repeat' split at h
    all_goals first | (cases h; done) | skip
    · simp only [Option.some.injEq] at h
      subst h
      exact ho
    · simp only [Option.some.injEq] at h
      subst h
      show OwnOf e ((V.mapBs (renew _ _ _) st.t).getD z .undef)
      rw [getD_mapBs rfl]
      refine ho.map rfl (fun b s q xs z hz => ?_)
      simp only [renew] at hz
      split at hz
      · rename_i hbb
        injection hz with hz
        subst hbb
        exact .inr ⟨_, _, hz.symm⟩
      · cases hz
  | call cl =>
    obtain ⟨callee, args, ts⟩ := cl
    cases callee with
    | builtin bi =>
      cases bi with
      | append =>
        simp only [effOp] at h
        repeat' split at h
        all_goals first | (cases h; done) | skip
        simp only [Option.some.injEq] at h
        subst h
        show OwnOf e (((V.mapBs (poison _) st.t).set _ _).getD z .undef)
        rw [setD_ne (fun e => hz (by rw [e])), getD_mapBs rfl]
        refine ho.map rfl (fun b s q xs z hz => ?_)
        simp only [poison] at hz
        split at hz
        · injection hz with hz; exact .inl hz.symm
        · cases hz
      | _ => simp only [effOp] at h; cases h
    | _ => simp only [effOp] at h; cases h
  | _ => simp only [effOp] at h; cases h
theorem step1_own (h : step1 c den ops st o = some st') {e z : Nat} (hz : o.dst ≠ some z) (ho : OwnOf e (st.t.getD z .undef)) : OwnOf e (st'.t.getD z .undef) := by
  by_cases hS : Still ops st o
  · cases hd : o.dst with
    | none => obtain ⟨_, rfl⟩ := still_none h hS hd; exact ho
    | some d =>
      obtain ⟨v, bx, esc, rfl, _, _, _⟩ := neat h hS hd
      rw [show (st.upd d v bx esc).t.getD z .undef = st.t.getD z .undef from setD_ne (fun e => hz (by rw [hd, e]))]
      exact ho
  · have h1 : isEff st o.op = true := by
      cases hi : isEff st o.op with
      | true => rfl
      | false => exact absurd (.inl hi) hS
    unfold step1 at h
    cases hw : wanted ops st.t o with
    | none => rw [hw] at h; cases h
    | some bb =>
      rw [hw] at h
      cases bb with
      | false => exact absurd (.inr hw) hS
      | true =>
        simp only at h
        unfold step at h
        rw [if_pos h1] at h
        exact eff_own h hz ho
theorem writer_spec {x i : Nat} (h : writer ops x = some i) : ∃ o, ops[i]? = some o ∧ o.dst = some x := by
  unfold writer at h
  have := List.find?_some h
  cases ho : ops[i]? with
  | none => rw [ho] at this; cases this
  | some o =>
    rw [ho] at this
    exact ⟨o, rfl, by simpa using this⟩
theorem getD_own {l : List V} {d e : Nat} {v : V} (h : OwnOf e v) : OwnOf e ((l.set d v).getD d .undef) := by
  rw [List.getD_eq_getElem?_getD, List.getElem?_set]
  simp only [if_true]
  split
  · exact h
  · exact .inr (.inr rfl)
/-- What an operation that has an origin puts into its slot. -/
theorem origin_run {k j e d : Nat} (hj : ops[j]? = some o) (hd : o.dst = some d) (hlt : d < 1000) (hor : origin ops (k + 1) j = some e) (h : step1 c den ops st o = some st')
    (hsrc : ∀ x i, appSrc o = some x → writer ops x = some i → (∃ ed ∈ o.after.toList, Region.binds .any ed = true ∧ ed.on = i) → origin ops k i = some e → OwnOf e (st.t.getD x .undef)) : OwnOf e (st'.t.getD d .undef) := by
  unfold step1 at h
  cases hw : wanted ops st.t o with
  | none => rw [hw] at h; cases h
  | some bb =>
    rw [hw] at h
    cases bb with
    | false =>
      simp only [hd, Option.some.injEq] at h
      subst h
      exact getD_own (.inr (.inl rfl))
    | true =>
      simp only at h
      rw [origin, hj] at hor
      simp only at hor
      split at hor
      · rename_i t n ps hop
        rw [hd] at hor
        injection hor with hor
        subst hor
        unfold step at h
        rw [if_neg (by rw [hop]; simp [isEff]), hd] at h
        simp only at h
        cases hv : valOp c den (ev st.t) (fun b => st.h.getD b none) d o.op with
        | none => rw [hv] at h; cases h
        | some out =>
          rw [hv] at h
          rw [hop] at hv
          simp only [valOp] at hv
          repeat' split at hv
          all_goals first | (cases hv; done) | skip
          simp only [Option.some.injEq] at hv
          subst hv
          simp only at h
          split at h
          · simp only [Option.some.injEq] at h
            subst h
            exact getD_own (.inl ⟨_, _, _, _, rfl, base_div hlt (by decide)⟩)
          · cases h
      · split at hor
        · rename_i x hx
          split at hor
          · rename_i i hi
            split at hor
            · rename_i hany
              have ho := hsrc x i hx hi (by
                obtain ⟨ed, h1, h2⟩ := List.any_eq_true.1 hany
                rw [Bool.and_eq_true, beq_iff_eq] at h2
                exact ⟨ed, h1, h2.1, h2.2⟩) hor
              unfold appSrc at hx
              split at hx
              · rename_i args ts hop
                split at hx
                · rename_i x' zs hargs
                  injection hx with hx
                  subst hx
                  have hev : ev st.t (.tmp x') = st.t.getD x' .undef := rfl
                  have hE : isEff st o.op = true := by
                    rw [hop]
                    simp only [isEff, hargs]
                    rw [hev]
                    rcases ho with ⟨b, s, q, xs, h1, _⟩ | h1 | h1 <;> rw [h1] <;> rfl
                  unfold step at h
                  rw [if_pos hE, hop, hd] at h
                  simp only [effOp] at h
                  split at h
                  · rename_i x2 y t t' d2 hx2 ht hd2
                    rw [hargs] at hx2
                    injection hx2 with hx2 _
                    subst hx2
                    injection hd2 with hd2
                    subst hd2
                    split at h
                    · split at h
                      · rename_i i2 b s q xs hi2 hev2
                        split at h
                        · split at h
                          · simp only [Option.some.injEq] at h
                            subst h
                            rw [hev] at hev2
                            rw [hev2] at ho
                            exact getD_own (.inl ⟨_, _, _, _, rfl, ho.base⟩)
                          · cases h
                        · cases h
                      · cases h
                    · cases h
                  · cases h
                · cases hx
              · cases hx
            · cases hor
          · cases hor
        · cases hor
theorem origin_written : ∀ {k j e : Nat}, origin ops k j = some e → ∃ (i : Nat) (o : Oper), ops[i]? = some o ∧ o.dst = some e := by
  intro k
  induction k with
  | zero => intro j e h; cases h
  | succ k ih =>
    intro j e h
    rw [origin] at h
    split at h
    · rename_i o ho
      split at h
      · exact ⟨j, o, ho, h⟩
      · split at h
        · split at h
          · split at h
            · exact ih h
            · cases h
          · cases h
        · cases h
    · cases h
end
end Go.Am
