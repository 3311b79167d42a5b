/-
  Regions that draw their order.
-/
import Derived.Test.YtoljfpgnhfkdcaavAmSwap5
section
set_option linter.unusedVariables false
set_option linter.unusedSimpArgs false
namespace Go.Am
open Go Go.RowKit
section
variable {P : Program} {c : Cfg} {Γ Γ' : Ctx} {st st2 st' s1 s2 : St} {a : Act} {w w' : World} {den : Nat → List V → Option V} {η η' : Nat → Option V} {d : Nat} {p q r : Nat → Bool} {ops : Array Oper} {o : Oper}
theorem poison_avoid {b e : Nat} (hb : b / 1000 = e) (v : V) : v.anyB (fun k => k / 1000 == e) = false → v.mapB (poison b) = v := by
 have ne : ∀ k, (k / 1000 == e) = false → ¬ k = b := fun k h hk => by subst hk; simp [hb] at h
 refine V.rec (motive_1 := fun v => v.anyB (fun k => k / 1000 == e) = false → v.mapB (poison b) = v) (motive_2 := fun vs => V.anyBs (fun k => k / 1000 == e) vs = false → V.mapBs (poison b) vs = vs)
  (fun _ => rfl) (fun _ _ => rfl) (fun _ _ _ => rfl) (fun _ _ => rfl) (fun _ => rfl) (fun _ _ _ _ _ => rfl) (fun k _ _ _ _ h => by simp only [V.mapB, poison]; rw [if_neg (ne k h)]; rfl) (fun k _ _ _ _ h => by simp only [V.mapB, poison]; rw [if_neg (ne k h)]; rfl)
  (fun _ _ _ => rfl) (fun k _ _ _ _ _ _ h => by simp only [V.mapB, poison]; rw [if_neg (ne k h)]; rfl) (fun k _ _ _ h => by simp only [V.mapB, poison]; rw [if_neg (ne k h)]; rfl) (fun _ _ _ _ => rfl)
  (fun _ ih h => by rw [V.mapB, ih h]) (fun _ ih h => by rw [V.mapB, ih h]) (fun _ _ ih h => by rw [V.mapB, ih h]) (fun _ => rfl) (fun v vs hv hvs h => ?_) v
 rw [V.anyBs, Bool.or_eq_false_iff] at h
 rw [V.mapBs, hv h.1, hvs h.2]
structure Iso (e : Nat) (T : List Nat) (st : St) : Prop where
  sl : ∀ z, z ∉ T → (st.t.getD z .undef).anyB (fun k => k / 1000 == e) = false
  bx : ∀ v, some v ∈ st.h → v.anyB (fun k => k / 1000 == e) = false
theorem mapBo_id {f : V → Option V} : ∀ {l : List (Option V)}, (∀ v, some v ∈ l → v.mapB f = v) → mapBo f l = l := by
 intro l
 induction l with
 | nil => intro _; rfl
 | cons x l ih =>
  intro h
  cases x with
  | none => rw [mapBo, ih (fun v hv => h v (by simp [hv]))]
  | some y => rw [mapBo, h y (by simp), ih (fun v hv => h v (by simp [hv]))]
theorem Iso.heap {e b : Nat} {T : List Nat} (h : Iso e T st) (hb : b / 1000 = e) : mapBo (poison b) st.h = st.h := mapBo_id fun v hv => poison_avoid hb v (h.bx v hv)
theorem Iso.slot {e b z : Nat} {T : List Nat} (h : Iso e T st) (hb : b / 1000 = e) (hz : z ∉ T) : (V.mapBs (poison b) st.t).getD z .undef = st.t.getD z .undef := by
 rw [getD_mapBs rfl, poison_avoid hb _ (h.sl z hz)]
theorem Iso.ev {e : Nat} {T : List Nat} (h : Iso e T st) {x : Operand} (hx : ∀ t, x = .tmp t → t ∉ T) : Av (fun k => k / 1000 == e) (fun _ => false) (ev st.t x) := by
 refine ⟨?_, anyP_false _⟩
 cases x with
 | tmp t => exact h.sl t (hx t rfl)
 | const v =>
  show (ofVal v).anyB _ = false
  unfold ofVal
  split <;> rfl
 | func f => rfl
 | global g => rfl
theorem Iso.getH {e : Nat} {T : List Nat} (h : Iso e T st) (b : Nat) (rr : V) (hb : st.h.getD b none = some rr) : Av (fun k => k / 1000 == e) (fun _ => false) rr := by
 rw [List.getD_eq_getElem?_getD] at hb
 cases ht : st.h[b]? with
 | none => rw [ht] at hb; cases hb
 | some v =>
  rw [ht] at hb
  simp only [Option.getD_some] at hb
  subst hb
  exact ⟨h.bx rr (mem_of_get ht), anyP_false _⟩
def OwnOf (e : Nat) (v : V) : Prop := (∃ b s q xs, v = .own b s q xs ∧ b / 1000 = e) ∨ v = skipped ∨ v = .undef
def St.app (st : St) (b d : Nat) (own : V) (e0 : List Nat) : St := (({ st.sweep (poison b) with t := (st.sweep (poison b)).t.set d own } : St).kill e0).mark (!moveOk st.dead e0 || e0.contains b)
theorem app_neat {sx : Nat} (hs : appSrc o = some sx) (hst : ¬ Still ops st o) (h : step1 c den ops st o = some st') :
  ∃ d b s q xs q' ys e0, o.dst = some d ∧ st.t.getD sx .undef = .own b s q xs ∧ st.dead b = false ∧ wanted ops st.t o = some true ∧ st' = st.app b d (.own b s q' ys) e0 ∧
   ∀ st2 : St, (∀ x ∈ reads ops o, st2.t.getD x .undef = st.t.getD x .undef) → st2.dead b = false → step1 c den ops st2 o = some (st2.app b d (.own b s q' ys) e0) := by
 have h1 : isEff st o.op = true := by
  cases hi : isEff st o.op with
  | true => rfl
  | false => exact absurd (.inl hi) hst
 have hw : wanted ops st.t o = some true := by
  unfold step1 at h
  cases hw : wanted ops st.t o with
  | none => rw [hw] at h; cases h
  | some b =>
   cases b with
   | true => rfl
   | false => exact absurd (.inr hw) hst
 have h' : effOp c st o.dst o.op = some st' := by
  unfold step1 at h
  rw [hw] at h
  simp only at h
  unfold step at h
  rw [if_pos h1] at h
  exact h
 have key : ∀ st2 : St, (∀ x ∈ reads ops o, st2.t.getD x .undef = st.t.getD x .undef) → step1 c den ops st2 o = effOp c st2 o.dst o.op := fun st2 hr => by
  unfold step1
  rw [wanted_congr hr, hw]
  simp only
  unfold step
  rw [isEff_congr (ev_congr hr), if_pos h1]
 unfold appSrc at hs
 split at hs
 ·rename_i args ts hop
  split at hs
  ·rename_i x zs hargs
   injection hs with hs
   subst hs
   rw [hop] at h'
   simp only [effOp] at h'
   split at h'
   ·rename_i x' y t t' d hx' hts hdst
    rw [hargs] at hx'
    injection hx' with hx' hzs
    subst hx'
    split at h'
    ·rename_i e hty
     split at h'
     ·rename_i i b s q xs hi hev
      split at h'
      ·rename_i q' ys hsrc
       split at h'
       ·rename_i hc
        injection h' with h'
        refine ⟨d, b, s, q, xs, q.join q', xs ++ ys, srcB q' (ev st.t y), hdst, hev, hc.2.2.2.1, hw, h'.symm, fun st2 hr hd => ?_⟩
        rw [key st2 hr, hop, hdst]
        have e1 : ev st2.t (.tmp x) = .own b s q xs := (ev_congr hr (.tmp x) (by rw [hop]; simp [Op.operands, Call.operands, hargs])).trans hev
        have e2 : ev st2.t y = ev st.t y := ev_congr hr y (by rw [hop]; simp [Op.operands, Call.operands, hargs, hzs])
        have hargs2 : args.toList = [.tmp x, y] := by rw [hargs, hzs]
        simp only [effOp, hargs2, hts, hty, hi, e1, e2, hsrc]
        rw [if_pos ⟨hc.1, hc.2.1, hc.2.2.1, hd, hc.2.2.2.2⟩]
        rfl
       ·cases h'
      ·cases h'
     ·cases h'
    ·cases h'
   ·cases h'
  ·cases hs
 ·cases hs
theorem quiet_eff {op : Op} (h : quiet op = true) (st : St) : isEff st op = false := by
 cases op <;> first | rfl | (cases h; done)
theorem over_set {e d : Nat} {b : Nat} {v own : V} {bx : Option V} {esc e0 : List Nat} (hne : d ≠ e) (hv : v.mapB (poison b) = v) (hb : ∀ r, bx = some r → r.mapB (poison b) = r) :
  (st.upd e v bx esc).app b d own e0 = (st.app b d own e0).upd e v bx esc := by
 unfold St.app St.upd St.sweep St.kill St.mark
 simp only [mapBs_set, hv]
 congr 1
 ·exact List.set_comm _ _ (Ne.symm hne)
 ·cases bx with
  | none => rfl
  | some r =>
   simp only
   have : ∀ (l : List (Option V)) (k : Nat), mapBo (poison b) (l.set k (some r)) = (mapBo (poison b) l).set k (some r) := by
    intro l
    induction l with
    | nil => intro k; rfl
    | cons x l ih =>
     intro k
     cases k with
     | zero => cases x <;> simp only [List.set_cons_zero, mapBo, hb r rfl]
     | succ k => cases x <;> simp only [List.set_cons_succ, mapBo, ih]
   exact this _ _
 ·funext b'
  cases esc.contains b' <;> cases e0.contains b' <;> rfl
 ·have h := moveOk_swap' st.dead st.dup esc e0
  cases e0.contains b with
  | true => simp
  | false => rw [Bool.or_false, Bool.or_false]; exact h
theorem cellB_av {v : V} (h : v.anyB p = false) : ∀ b ∈ cellB v, p b = false := by
 intro b hb
 cases v <;> simp only [cellB, List.not_mem_nil, List.mem_singleton] at hb
 all_goals (subst hb; exact h)
theorem cellsB_av : ∀ {cs : List V}, (∀ c ∈ cs, c.anyB p = false) → ∀ b ∈ cellsB cs, p b = false := by
 intro cs
 induction cs with
 | nil => intro _ b hb; cases hb
 | cons v vs ih =>
  intro h b hb
  rw [cellsB, List.mem_append] at hb
  rcases hb with hb | hb
  ·exact cellB_av (h v (by simp)) b hb
  ·exact ih (fun c hc => h c (by simp [hc])) b hb
theorem nilCell_av (h9 : p 999 = false) {z v : V} (h : v.anyB p = false) : (nilCell z v).anyB p = false := by
 unfold nilCell
 split
 ·exact h9
 ·exact h
theorem nilCells_av (h9 : p 999 = false) : ∀ {zs cs : List V}, (∀ c ∈ cs, c.anyB p = false) → ∀ c ∈ nilCells zs cs, c.anyB p = false := by
 intro zs
 induction zs with
 | nil => intro cs h c hc; unfold nilCells at hc; exact h c hc
 | cons z zs ih =>
  intro cs h c hc
  cases cs with
  | nil => simp [nilCells] at hc
  | cons v vs =>
   rw [nilCells] at hc
   rcases List.mem_cons.1 hc with rfl | hc
   ·exact nilCell_av h9 (h v (by simp))
   ·exact ih (fun c hc => h c (by simp [hc])) c hc
theorem nilRow_av (h9 : p 999 = false) {zs : List V} {v : V} (h : v.anyB p = false) : (nilRow zs v).anyB p = false := by
 unfold nilRow
 split
 ·rename_i cs
  exact anyBs_of (nilCells_av h9 fun c hc => anyBs_mem h c hc)
 ·split
  ·exact nilCell_av h9 h
  ·exact h
theorem rowsB_av (h9 : p 999 = false) {zs : List V} : ∀ {xs : List V}, (∀ x ∈ xs, x.anyB p = false) → ∀ b ∈ rowsB (nilRows zs xs), p b = false := by
 intro xs
 induction xs with
 | nil => intro _ b hb; cases hb
 | cons v vs ih =>
  intro h b hb
  rw [nilRows, rowsB, List.mem_append] at hb
  rcases hb with hb | hb
  ·have h1 : Av p (fun _ => false) (nilRow zs v) := ⟨nilRow_av h9 (h v (by simp)), anyP_false _⟩
   exact cellsB_av (fun c hc => (h1.cells c hc).1) b hb
  ·exact ih (fun c hc => h c (by simp [hc])) b hb
theorem rowsOf_av : ∀ {vs : List (Nat × V)} {acc xs : List V}, rowsOf acc vs = some xs → (∀ x ∈ acc, x.anyB p = false) → (∀ y ∈ vs, y.2.anyB p = false) → ∀ x ∈ xs, x.anyB p = false := by
 intro vs
 induction vs with
 | nil => intro acc xs h ha _ x hx; injection h with h; subst h; exact ha x hx
 | cons y vs ih =>
  intro acc xs h ha hv x hx
  obtain ⟨i, v⟩ := y
  rw [rowsOf] at h
  split at h
  ·refine ih h (fun u hu => ?_) (fun y hy => hv y (by simp [hy])) x hx
   rcases List.mem_or_eq_of_mem_set hu with hu | rfl
   ·exact ha u hu
   ·exact hv (i, u) (by simp)
  ·cases h
theorem quiet_dead (hA : Agree P c) (hq : quiet o.op = true) (h : step1 c den ops st o = some st') (h9 : p 999 = false) (H : ∀ x ∈ o.op.operands.toList, (ev st.t x).anyB p = false) : ∀ b, p b = true → st'.dead b = st.dead b := by
 intro b hb
 unfold step1 at h
 split at h
 ·cases h
 ·unfold step at h
  rw [if_neg (by rw [quiet_eff hq]; simp)] at h
  cases hd : o.dst with
  | none => rw [hd] at h; cases h
  | some d =>
   rw [hd] at h
   simp only at h
   cases hv : valOp c den (ev st.t) (fun b => st.h.getD b none) d o.op with
   | none => rw [hv] at h; cases h
   | some out =>
    rw [hv] at h
    cases out with
    | val v => simp only [Option.some.injEq] at h; subst h; rfl
    | box rr =>
     simp only at h
     split at h
     ·simp only [Option.some.injEq] at h; subst h; rfl
     ·cases h
    | fresh v esc n =>
     simp only at h
     split at h
     ·simp only [Option.some.injEq] at h
      subst h
      show (esc.contains b || st.dead b) = st.dead b
      have he : ∀ k ∈ esc, p k = false := by
       cases hop : o.op with
       | buildSlice t n ps =>
        rw [hop] at hv H
        simp only [valOp] at hv
        repeat' split at hv
        all_goals first | (cases hv; done) | skip
        simp only [Option.some.injEq, Out.fresh.injEq] at hv
        obtain ⟨_, rfl, _⟩ := hv
        refine rowsB_av h9 ?_
        refine rowsOf_av (by assumption) (fun x hx => ?_) (fun y hy => ?_)
        ·rw [List.eq_of_mem_replicate hx]
         exact (zero_av (p := p) (q := fun _ => false) hA (by assumption)).1
        ·obtain ⟨z, hz, rfl⟩ := List.mem_map.1 hy
         exact H z.2 (by simp only [Op.operands]; exact List.mem_map.2 ⟨z, hz, rfl⟩)
       | slice t x lo hi mx =>
        exfalso
        rw [hop] at hq hv
        cases mx with
        | some z => cases hq
        | none => simp only [valOp, plain] at hv; (repeat' split at hv) <;> cases hv
       | _ =>
        exfalso
        rw [hop] at hq hv
        first
         | (cases hq; done)
         | (simp only [valOp, plain] at hv; (repeat' split at hv) <;> cases hv)
         | skip
      cases hcc : esc.contains b with
      | false => rfl
      | true =>
       have := he b (List.contains_iff_mem.1 hcc)
       rw [hb] at this
       cases this
     ·cases h
 ·split at h
  ·simp only [Option.some.injEq] at h; subst h; rfl
  ·simp only [Option.some.injEq] at h; subst h; rfl
theorem still_none (h : step1 c den ops st o = some st') (hs : Still ops st o) (hd : o.dst = none) : wanted ops st.t o = some false ∧ st' = st := by
 unfold step1 at h
 cases hw : wanted ops st.t o with
 | none => rw [hw] at h; cases h
 | some b =>
  rw [hw] at h
  cases b with
  | false => simp only [hd, Option.some.injEq] at h; exact ⟨rfl, h.symm⟩
  | true =>
   simp only at h
   have hne : isEff st o.op = false := by
    rcases hs with h | h
    ·exact h
    ·rw [hw] at h; cases h
   unfold step at h
   rw [if_neg (by rw [hne]; simp), hd] at h
   cases h
theorem passed (hw : wanted ops st.t o = some false) (hd : o.dst = none) : step1 c den ops st o = some st := by
 unfold step1
 rw [hw]
 simp only [hd]
theorem neat_av (hA : Agree P c) (hs : Real st) {e d : Nat} {v : V} {bx : Option V} {esc : List Nat} (hlt : d < 1000) (hne : d ≠ e) (H : ∀ x ∈ o.op.operands.toList, Av (fun k => k / 1000 == e) (fun _ => false) (ev st.t x))
  (hη : ∀ b rr, st.h.getD b none = some rr → Av (fun k => k / 1000 == e) (fun _ => false) rr)
  (hinfo : ((∃ out, wanted ops st.t o = some true ∧ valOp c den (ev st.t) (fun b => st.h.getD b none) d o.op = some out ∧
    ((out = .val v ∧ bx = none) ∨ (∃ rr, out = .box rr ∧ v = .ptr d 0 ∧ bx = some rr) ∨ (∃ n, out = .fresh v esc n ∧ bx = none))) ∨ (v = skipped ∧ bx = none))) :
  v.anyB (fun k => k / 1000 == e) = false ∧ ∀ r, bx = some r → r.anyB (fun k => k / 1000 == e) = false := by
 obtain ⟨Γ, a, w, hs⟩ := hs
 rcases hinfo with ⟨out, _, hv, ho⟩ | ⟨rfl, rfl⟩
 ·have hav := names_op (p := fun k => k / 1000 == e) (q := fun _ => false) hA hs hη (fun j hj => by rw [base_div hlt hj]; simpa using hne) H hv
  rcases ho with ⟨rfl, rfl⟩ | ⟨rr, rfl, rfl, rfl⟩ | ⟨n, rfl, rfl⟩
  ·exact ⟨hav.1, fun r hr => by cases hr⟩
  ·exact ⟨rfl, fun r hr => by injection hr with hr; subst hr; exact hav.1⟩
  ·exact ⟨hav.1, fun r hr => by cases hr⟩
 ·exact ⟨rfl, fun r hr => by cases hr⟩
theorem Iso.reads_ev {e : Nat} {T : List Nat} (h : Iso e T st) (hT : ∀ z ∈ reads ops o, z ∉ T) : ∀ x ∈ o.op.operands.toList, Av (fun k => k / 1000 == e) (fun _ => false) (Go.Am.ev st.t x) :=
 fun x hx => h.ev fun t ht => hT t (tmp_reads (ht ▸ hx))
theorem Iso.poisoned {e b d : Nat} {T : List Nat} {own : V} (h : Iso e T st) (hb : b / 1000 = e) (hT : ∀ z ∈ reads ops o, z ∉ T) (hd : d ∉ reads ops o) : ∀ z ∈ reads ops o, ((V.mapBs (poison b) st.t).set d own).getD z .undef = st.t.getD z .undef :=
 fun z hz => by
 have h0 : z ≠ d := fun h => hd (h ▸ hz)
 rw [setD_ne h0]
 exact h.slot hb (hT z hz)
theorem OwnOf.base {e b s : Nat} {q : Q} {xs : List V} (h : OwnOf e (.own b s q xs)) : b / 1000 = e := by
 rcases h with ⟨b', s', q', xs', h1, h2⟩ | h | h
 ·injection h1 with h1; rw [h1]; exact h2
 ·cases h
 ·cases h
theorem swap_app_quiet (hA : Agree P c) (hD : Answers P den) (hs : Real st) {x y : Oper} {sx : Nat} (ax : appSrc x = some sx) (hx : step1 c den ops st x = some s1) (hy : step1 c den ops s1 y = some s2) (nx : ¬ Still ops st x) (qy : quiet y.op = true)
  {e : Nat} {T : List Nat} (he0 : e ≠ 0) (hI : Iso e T st) (ho : OwnOf e (st.t.getD sx .undef)) (heT : e ∈ T) (ry : ∀ z ∈ reads ops y, z ∉ T) (dyT : ∀ d, y.dst = some d → d ∉ T)
  (k1 : ∀ d, x.dst = some d → d ∉ reads ops y ∧ y.dst ≠ some d) (k2 : ∀ d, y.dst = some d → d ∉ reads ops x) (cy : ∀ d, y.dst = some d → CleanAt d (mkBox y.op) st) (ly : ∀ d, y.dst = some d → d < 1000) :
  ∃ s, step1 c den ops st y = some s ∧ step1 c den ops s x = some s2 := by
 have hr1 := real_step1 hA hD hs hx
 obtain ⟨d, b, s, q, xs, q', ys, e0, hdx, hown, hdead, hwx, hs1, tx⟩ := app_neat ax nx hx
 rw [hown] at ho
 have hb := ho.base
 have hrd : ∀ z ∈ reads ops y, s1.t.getD z .undef = st.t.getD z .undef := by
  rw [hs1]
  exact hI.poisoned hb ry (k1 d hdx).1
 have hh : s1.h = st.h := by rw [hs1]; exact hI.heap hb
 have sy : Still ops s1 y := .inl (quiet_eff qy s1)
 cases hdy : y.dst with
 | none =>
  obtain ⟨hw, rfl⟩ := still_none hy sy hdy
  refine ⟨st, passed ?_ hdy, hx⟩
  rw [← hw]
  exact (wanted_congr hrd).symm
 | some dy =>
  have hne : d ≠ dy := fun h => (k1 d hdx).2 (by rw [hdy, h])
  obtain ⟨v, bx, esc, rfl, hinfo, _, ty⟩ := neat hy sy hdy
  obtain ⟨v1, v2⟩ := neat_av (e := e) hA hr1 (ly dy hdy) (fun h => dyT dy hdy (h ▸ heT)) (fun z hz => by rw [ev_congr hrd z hz]; exact hI.reads_ev ry z hz) (fun b rr hb => by rw [hh] at hb; exact hI.getH b rr hb) hinfo
  have h1 : step1 c den ops st y = some (st.upd dy v bx esc) := by
   refine ty (fun _ => false) st ⟨fun z hz => (hrd z hz).symm, fun b _ => by rw [hh], fun z _ => anyP_false _, by rw [hh], fun e' he' => ?_⟩
   have hc := cy e' he'
   rw [hdy] at he'
   injection he' with he'
   subst he'
   exact ⟨rfl, hc.freeD, fun hm => by rw [hm] at hc; exact hc.freeP⟩
  have hdead2 := quiet_dead (p := fun k => k / 1000 == e) hA qy h1 (by simp; omega) (fun z hz => (hI.reads_ev ry z hz).1) b (by simp [hb])
  refine ⟨_, h1, ?_⟩
  rw [tx (st.upd dy v bx esc) (fun z hz => setD_ne (fun h => k2 dy hdy (h ▸ hz))) ?_]
  ·rw [over_set hne (poison_avoid hb v v1) (fun r hr => poison_avoid hb r (v2 r hr)), ← hs1]
  ·rw [hdead2, hdead]
theorem swap_quiet_app (hA : Agree P c) (hD : Answers P den) (hs : Real st) {x y : Oper} {sy : Nat} (ay : appSrc y = some sy) (hx : step1 c den ops st x = some s1) (hy : step1 c den ops s1 y = some s2) (ny : ¬ Still ops s1 y) (qx : quiet x.op = true)
  {e : Nat} {T : List Nat} (hI : Iso e T st) (ho : OwnOf e (st.t.getD sy .undef)) (heT : e ∈ T) (rx : ∀ z ∈ reads ops x, z ∉ T) (dxT : ∀ d, x.dst = some d → d ∉ T) (hsr : sy ∈ reads ops y)
  (k1 : ∀ d, x.dst = some d → d ∉ reads ops y ∧ y.dst ≠ some d) (k2 : ∀ d, y.dst = some d → d ∉ reads ops x) (cx : ∀ d, x.dst = some d → CleanAt d (mkBox x.op) st) (lx : ∀ d, x.dst = some d → d < 1000) (ly : ∀ d, y.dst = some d → d < 1000) :
  ∃ s, step1 c den ops st y = some s ∧ step1 c den ops s x = some s2 := by
 have sx : Still ops st x := .inl (quiet_eff qx st)
 cases hdx : x.dst with
 | none =>
  obtain ⟨hw, rfl⟩ := still_none hx sx hdx
  obtain ⟨d, b, s, q, xs, q', ys, e0, hdy, hown, hdead, hwy, hs2, ty⟩ := app_neat ay ny hy
  rw [hown] at ho
  have hb := ho.base
  refine ⟨s2, hy, passed ?_ hdx⟩
  rw [← hw]
  refine wanted_congr ?_
  rw [hs2]
  exact hI.poisoned hb rx (k2 d hdy)
 | some dx =>
  obtain ⟨v, bx, esc, hs1, hinfo, _, tx⟩ := neat hx sx hdx
  obtain ⟨d, b, s, q, xs, q', ys, e0, hdy, hown, hdead, hwy, hs2, ty⟩ := app_neat ay ny hy
  have hne : d ≠ dx := fun h => (k1 dx hdx).2 (by rw [hdy, h])
  have hrd : ∀ z ∈ reads ops y, st.t.getD z .undef = s1.t.getD z .undef := fun z hz => by
   rw [hs1]
   have h0 : z ≠ dx := fun h => (k1 dx hdx).1 (h ▸ hz)
   exact (setD_ne h0).symm
  rw [hrd sy hsr, hown] at ho
  have hb := ho.base
  have hdead1 : st.dead b = false := by
   rw [hs1] at hdead
   have : (esc.contains b || st.dead b) = false := hdead
   rw [Bool.or_eq_false_iff] at this
   exact this.2
  have h1 := ty st hrd hdead1
  refine ⟨_, h1, ?_⟩
  obtain ⟨v1, v2⟩ := neat_av (e := e) hA hs (lx dx hdx) (fun h => dxT dx hdx (h ▸ heT)) (hI.reads_ev rx) (fun b rr hb => hI.getH b rr hb) hinfo
  have hc' := clean_step1 hA hs h1 (d := dx) (bx := mkBox x.op) (fun e' he' => by rw [hdy] at he'; injection he' with he'; subst he'; exact ⟨hne, ly d hdy⟩) (cx dx hdx)
  rw [tx (fun _ => false) _ ⟨hI.poisoned hb rx (k2 d hdy), fun b' _ => by show (mapBo _ st.h).getD _ _ = _; rw [hI.heap hb], fun z _ => anyP_false _, by show (mapBo _ st.h).length = _; rw [hI.heap hb], fun e' he' => ?_⟩]
  ·rw [hs2, hs1, over_set hne (poison_avoid hb v v1) (fun r hr => poison_avoid hb r (v2 r hr))]
  ·rw [hdx] at he'
   injection he' with he'
   subst he'
   exact ⟨rfl, hc'.freeD, fun hm => by rw [hm] at hc'; exact hc'.freeP⟩
theorem mem_contains {T : List Nat} {z : Nat} : T.contains z = false ↔ z ∉ T := by
 constructor
 ·intro h hz
  rw [List.contains_iff_mem.2 hz] at h
  cases h
 ·intro h
  cases hc : T.contains z with
  | false => rfl
  | true => exact absurd (List.contains_iff_mem.1 hc) h
theorem any_contains {l T : List Nat} (h : l.any T.contains = false) : ∀ z ∈ l, z ∉ T := by
 intro z hz
 rw [List.any_eq_false] at h
 exact mem_contains.1 (by simpa using h z hz)
theorem core_mem {j : Nat} (hj : ops[j]? = some o) (h : ¬ (lastly ops = true ∧ j + 1 = ops.size)) : o ∈ coreL ops := by
 have hl : ops.toList[j]? = some o := by simpa using hj
 unfold coreL
 split
 ·rename_i hla
  have hlt : j < ops.size := (Array.getElem?_eq_some_iff.1 hj).1
  have hne : j + 1 ≠ ops.size := fun e => h ⟨hla, e⟩
  refine List.mem_of_getElem? (i := j) ?_
  rw [List.getElem?_dropLast, if_pos (by rw [Array.length_toList]; omega)]
  exact hl
 ·exact List.mem_of_getElem? hl
theorem iso_step (hA : Agree P c) (hs : Real st) {e : Nat} {T : List Nat} (hc : closedT ops e T = true) (ho : o ∈ coreL ops) (hlt : ∀ d, o.dst = some d → d < 1000) (h : step1 c den ops st o = some st') (hI : Iso e T st) : Iso e T st' := by
 unfold closedT at hc
 simp only [Bool.and_eq_true, List.all_eq_true] at hc
 obtain ⟨⟨heT, _⟩, hall⟩ := hc
 have heT : e ∈ T := List.contains_iff_mem.1 heT
 obtain ⟨hst, hop⟩ := hall o ho
 by_cases hS : Still ops st o
 ·cases hd : o.dst with
  | none => obtain ⟨_, rfl⟩ := still_none h hS hd; exact hI
  | some d =>
   obtain ⟨v, bx, esc, rfl, hinfo, hbx, _⟩ := neat h hS hd
   rw [hd] at hop
   simp only at hop
   cases hdT : T.contains d with
   | true =>
    rw [if_pos hdT] at hop
    have hb0 : bx = none := by
     cases bx with
     | none => rfl
     | some r =>
      have := hbx rfl
      rw [this] at hop
      cases hop
    subst hb0
    exact ⟨fun z hz => by rw [show (st.upd d v none esc).t.getD z .undef = st.t.getD z .undef from setD_ne (fun h => hz (h ▸ List.contains_iff_mem.1 hdT))]; exact hI.sl z hz, fun u hu => hI.bx u hu⟩
   | false =>
    rw [if_neg (by rw [hdT]; simp), Bool.not_eq_true'] at hop
    have hr := any_contains hop
    obtain ⟨v1, v2⟩ := neat_av (e := e) hA hs (hlt d hd) (fun h => mem_contains.1 hdT (h ▸ heT)) (hI.reads_ev hr) (fun b rr hb => hI.getH b rr hb) hinfo
    refine ⟨fun z hz => ?_, fun u hu => ?_⟩
    ·by_cases hzd : z = d
     ·subst hzd
      show ((st.t.set z v).getD z .undef).anyB _ = false
      rw [List.getD_eq_getElem?_getD, List.getElem?_set]
      simp only [if_true]
      split
      ·exact v1
      ·rfl
     ·rw [show (st.upd d v bx esc).t.getD z .undef = st.t.getD z .undef from setD_ne hzd]
      exact hI.sl z hz
    ·rcases upd_mem (z := u) (.inr hu) with hu' | hu' | hu' | hu'
     ·unfold St.upd at hu
      simp only at hu
      split at hu
      ·rename_i r
       rcases List.mem_or_eq_of_mem_set hu with h2 | h2
       ·exact hI.bx u h2
       ·injection h2 with h2; subst h2; exact v2 _ rfl
      ·exact hI.bx u hu
     ·exact hI.bx u hu'
     ·subst hu'; exact v1
     ·exact v2 u hu'
 ·have h1 : isEff st o.op = true := by
   cases hi : isEff st o.op with
   | true => rfl
   | false => exact absurd (.inl hi) hS
  unfold step1 at h
  cases hw : wanted ops st.t o with
  | none => rw [hw] at h; cases h
  | some bb =>
   rw [hw] at h
   cases bb with
   | false => exact absurd (.inr hw) hS
   | true =>
    simp only at h
    unfold step at h
    rw [if_pos h1] at h
    cases hopk : o.op with
    | store t a x => rw [hopk] at hst; cases hst
    | call cl =>
     obtain ⟨callee, args, ts⟩ := cl
     rw [hopk] at h
     cases callee with
     | builtin bi =>
      cases bi with
      | append =>
       simp only [effOp] at h
       split at h
       ·rename_i x y t t' d hx ht hd
        split at h
        ·split at h
         ·rename_i i b s q xs hi hev
          split at h
          ·split at h
           ·simp only [Option.some.injEq] at h
            subst h
            rw [hd] at hop
            simp only at hop
            refine ⟨fun z hz => ?_, fun u hu => ?_⟩
            ·by_cases hzd : z = d
             ·subst hzd
              rw [if_neg (by rw [mem_contains.2 hz]; simp), Bool.not_eq_true'] at hop
              have hr := any_contains hop
              have hax := (hI.reads_ev hr x (by rw [hopk]; simp [Op.operands, Call.operands, hx])).1
              rw [hev] at hax
              show (((V.mapBs (poison b) st.t).set z (.own b s _ _)).getD z .undef).anyB _ = false
              rw [List.getD_eq_getElem?_getD, List.getElem?_set]
              simp only [if_true]
              split
              ·exact hax
              ·rfl
             ·show (((V.mapBs (poison b) st.t).set d _).getD z .undef).anyB _ = false
              rw [setD_ne hzd, getD_mapBs rfl]
              exact (Av.map (p := fun k => k / 1000 == e) (q := fun _ => false) (poison_av b) _ ⟨hI.sl z hz, anyP_false _⟩).1
            ·obtain ⟨u', hu', rfl⟩ := mapBo_mem hu
             exact (Av.map (p := fun k => k / 1000 == e) (q := fun _ => false) (poison_av b) _ ⟨hI.bx u' hu', anyP_false _⟩).1
           ·cases h
          ·cases h
         ·cases h
        ·cases h
       ·cases h
      | _ => simp only [effOp] at h; cases h
     | _ => simp only [effOp] at h; cases h
    | _ => rw [hopk] at h; simp only [effOp] at h; cases h
theorem OwnOf.map {e : Nat} {v : V} {f : V → Option V} (h : OwnOf e v) (h1 : f .undef = none) (h2 : ∀ b s q xs z, f (.own b s q xs) = some z → z = .undef ∨ ∃ q' ys, z = .own b s q' ys) : OwnOf e (v.mapB f) := by
 rcases h with ⟨b, s, q, xs, rfl, hb⟩ | rfl | rfl
 ·show OwnOf e ((f (.own b s q xs)).getD _)
  cases hf : f (.own b s q xs) with
  | none => exact .inl ⟨b, s, q, xs, rfl, hb⟩
  | some z =>
   rcases h2 b s q xs z hf with rfl | ⟨q', ys, rfl⟩
   ·exact .inr (.inr rfl)
   ·exact .inl ⟨b, s, q', ys, rfl, hb⟩
 ·exact .inr (.inl rfl)
 ·refine .inr (.inr ?_)
  show (f .undef).getD .undef = .undef
  rw [h1]
  rfl
theorem eff_own {dst : Option Nat} {op : Op} (h : effOp c st dst op = some st') {e z : Nat} (hz : dst ≠ some z) (ho : OwnOf e (st.t.getD z .undef)) : OwnOf e (st'.t.getD z .undef) := by
 cases op with
 | store t ad x =>
  simp only [effOp] at h
  repeat' split at h
  all_goals first | (cases h; done) | skip
  ·simp only [Option.some.injEq] at h
   subst h
   exact ho
  ·simp only [Option.some.injEq] at h
   subst h
   show OwnOf e ((V.mapBs (renew _ _ _) st.t).getD z .undef)
   rw [getD_mapBs rfl]
   refine ho.map rfl (fun b s q xs z hz => ?_)
   simp only [renew] at hz
   split at hz
   ·rename_i hbb
    injection hz with hz
    subst hbb
    exact .inr ⟨_, _, hz.symm⟩
   ·cases hz
 | call cl =>
  obtain ⟨callee, args, ts⟩ := cl
  cases callee with
  | builtin bi =>
   cases bi with
   | append =>
    simp only [effOp] at h
    repeat' split at h
    all_goals first | (cases h; done) | skip
    simp only [Option.some.injEq] at h
    subst h
    show OwnOf e (((V.mapBs (poison _) st.t).set _ _).getD z .undef)
    rw [setD_ne (fun e => hz (by rw [e])), getD_mapBs rfl]
    refine ho.map rfl (fun b s q xs z hz => ?_)
    simp only [poison] at hz
    split at hz
    ·injection hz with hz; exact .inl hz.symm
    ·cases hz
   | _ => simp only [effOp] at h; cases h
  | _ => simp only [effOp] at h; cases h
 | _ => simp only [effOp] at h; cases h
theorem step1_own (h : step1 c den ops st o = some st') {e z : Nat} (hz : o.dst ≠ some z) (ho : OwnOf e (st.t.getD z .undef)) : OwnOf e (st'.t.getD z .undef) := by
 by_cases hS : Still ops st o
 ·cases hd : o.dst with
  | none => obtain ⟨_, rfl⟩ := still_none h hS hd; exact ho
  | some d =>
   obtain ⟨v, bx, esc, rfl, _, _, _⟩ := neat h hS hd
   rw [show (st.upd d v bx esc).t.getD z .undef = st.t.getD z .undef from setD_ne (fun e => hz (by rw [hd, e]))]
   exact ho
 ·have h1 : isEff st o.op = true := by
   cases hi : isEff st o.op with
   | true => rfl
   | false => exact absurd (.inl hi) hS
  unfold step1 at h
  cases hw : wanted ops st.t o with
  | none => rw [hw] at h; cases h
  | some bb =>
   rw [hw] at h
   cases bb with
   | false => exact absurd (.inr hw) hS
   | true =>
    simp only at h
    unfold step at h
    rw [if_pos h1] at h
    exact eff_own h hz ho
theorem writer_spec {x i : Nat} (h : writer ops x = some i) : ∃ o, ops[i]? = some o ∧ o.dst = some x := by
 unfold writer at h
 have := List.find?_some h
 cases ho : ops[i]? with
 | none => rw [ho] at this; cases this
 | some o =>
  rw [ho] at this
  exact ⟨o, rfl, by simpa using this⟩
theorem getD_own {l : List V} {d e : Nat} {v : V} (h : OwnOf e v) : OwnOf e ((l.set d v).getD d .undef) := by
 rw [List.getD_eq_getElem?_getD, List.getElem?_set]
 simp only [if_true]
 split
 ·exact h
 ·exact .inr (.inr rfl)
theorem origin_run {k j e d : Nat} (hj : ops[j]? = some o) (hd : o.dst = some d) (hlt : d < 1000) (hor : origin ops (k + 1) j = some e) (h : step1 c den ops st o = some st')
  (hsrc : ∀ x i, appSrc o = some x → writer ops x = some i → (∃ ed ∈ o.after.toList, Region.binds .any ed = true ∧ ed.on = i) → origin ops k i = some e → OwnOf e (st.t.getD x .undef)) : OwnOf e (st'.t.getD d .undef) := by
 unfold step1 at h
 cases hw : wanted ops st.t o with
 | none => rw [hw] at h; cases h
 | some bb =>
  rw [hw] at h
  cases bb with
  | false =>
   simp only [hd, Option.some.injEq] at h
   subst h
   exact getD_own (.inr (.inl rfl))
  | true =>
   simp only at h
   rw [origin, hj] at hor
   simp only at hor
   split at hor
   ·rename_i t n ps hop
    rw [hd] at hor
    injection hor with hor
    subst hor
    unfold step at h
    rw [if_neg (by rw [hop]; simp [isEff]), hd] at h
    simp only at h
    cases hv : valOp c den (ev st.t) (fun b => st.h.getD b none) d o.op with
    | none => rw [hv] at h; cases h
    | some out =>
     rw [hv] at h
     rw [hop] at hv
     simp only [valOp] at hv
     repeat' split at hv
     all_goals first | (cases hv; done) | skip
     simp only [Option.some.injEq] at hv
     subst hv
     simp only at h
     split at h
     ·simp only [Option.some.injEq] at h
      subst h
      exact getD_own (.inl ⟨_, _, _, _, rfl, base_div hlt (by decide)⟩)
     ·cases h
   ·split at hor
    ·rename_i x hx
     split at hor
     ·rename_i i hi
      split at hor
      ·rename_i hany
       have ho := hsrc x i hx hi (by
        obtain ⟨ed, h1, h2⟩ := List.any_eq_true.1 hany
        rw [Bool.and_eq_true, beq_iff_eq] at h2
        exact ⟨ed, h1, h2.1, h2.2⟩) hor
       unfold appSrc at hx
       split at hx
       ·rename_i args ts hop
        split at hx
        ·rename_i x' zs hargs
         injection hx with hx
         subst hx
         have hev : ev st.t (.tmp x') = st.t.getD x' .undef := rfl
         have hE : isEff st o.op = true := by
          rw [hop]
          simp only [isEff, hargs]
          rw [hev]
          rcases ho with ⟨b, s, q, xs, h1, _⟩ | h1 | h1 <;> rw [h1] <;> rfl
         unfold step at h
         rw [if_pos hE, hop, hd] at h
         simp only [effOp] at h
         split at h
         ·rename_i x2 y t t' d2 hx2 ht hd2
          rw [hargs] at hx2
          injection hx2 with hx2 _
          subst hx2
          injection hd2 with hd2
          subst hd2
          split at h
          ·split at h
           ·rename_i i2 b s q xs hi2 hev2
            split at h
            ·split at h
             ·simp only [Option.some.injEq] at h
              subst h
              rw [hev] at hev2
              rw [hev2] at ho
              exact getD_own (.inl ⟨_, _, _, _, rfl, ho.base⟩)
             ·cases h
            ·cases h
           ·cases h
          ·cases h
         ·cases h
        ·cases hx
       ·cases hx
      ·cases hor
     ·cases hor
    ·cases hor
theorem origin_written : ∀ {k j e : Nat}, origin ops k j = some e → ∃ (i : Nat) (o : Oper), ops[i]? = some o ∧ o.dst = some e := by
 intro k
 induction k with
 | zero => intro j e h; cases h
 | succ k ih =>
  intro j e h
  rw [origin] at h
  split at h
  ·rename_i o ho
   split at h
   ·exact ⟨j, o, ho, h⟩
   ·split at h
    ·split at h
     ·split at h
      ·exact ih h
      ·cases h
     ·cases h
    ·cases h
  ·cases h
end
end Go.Am
end
section
set_option linter.unusedVariables false
set_option linter.unusedSimpArgs false
namespace Go.Am
open Go Go.RowKit
section
variable {P : Program} {c : Cfg} {Γ Γ' : Ctx} {st st2 st' s1 s2 : St} {a : Act} {w w' : World} {den : Nat → List V → Option V} {η η' : Nat → Option V} {d : Nat} {p q r : Nat → Bool} {ops : Array Oper} {o : Oper} {B : List Nat}
def runI (c : Cfg) (den : Nat → List V → Option V) (ops : Array Oper) : List Nat → St → Option St
 | [], st => some st
 | i :: is, st => match ops[i]? with
  | some o => (step1 c den ops st o).bind (runI c den ops is)
  | none => none
structure Reg (ops : Array Oper) (B : List Nat) : Prop where
  lt : ∀ (i : Nat) (o : Oper) (e : Nat), ops[i]? = some o → o.dst = some e → e < 1000
  inj : ∀ (i j : Nat) (o o' : Oper) (e : Nat), ops[i]? = some o → ops[j]? = some o' → o.dst = some e → o'.dst = some e → i = j
  addr : ∀ i, i ∈ B → ∃ (o : Oper) (x : Nat), ops[i]? = some o ∧ addrSlot o = some x ∧ ∀ (j : Nat) (o' : Oper), ops[j]? = some o' → o'.dst ≠ some x
  back : ∀ (j : Nat) (o : Oper), ops[j]? = some o → ∀ e ∈ o.after.toList, Region.binds .any e = true → e.on < j
  ord : ∀ (i j : Nat) (x y : Oper), i < j → ops[i]? = some x → ops[j]? = some y → clash ops ((B.contains i || B.contains j) || (aside ops i x y || aside ops j y x)) x y = false ∨ prec ops ops.size j i = true
theorem nodup_filterMap_inj {α : Type} {f : α → Option Nat} : ∀ {l : List α}, (l.filterMap f).Nodup → ∀ (i j : Nat) (x y : α) (e : Nat), l[i]? = some x → l[j]? = some y → f x = some e → f y = some e → i = j := by
 intro l
 induction l with
 | nil => intro _ i j x y e h; simp at h
 | cons z l ih =>
  intro hn i j x y e hx hy fx fy
  have hmem : ∀ (k : Nat) (u : α), l[k]? = some u → f u = some e → e ∈ l.filterMap f := fun k u hk hu => List.mem_filterMap.2 ⟨u, List.mem_of_getElem? hk, hu⟩
  rw [List.filterMap_cons] at hn
  have hn' : (l.filterMap f).Nodup := by
   split at hn
   ·exact hn
   ·exact (List.nodup_cons.1 hn).2
  cases i with
  | zero =>
   cases j with
   | zero => rfl
   | succ j =>
    simp only [List.getElem?_cons_zero, Option.some.injEq] at hx
    subst hx
    rw [fx] at hn
    exact absurd (hmem j y (by simpa using hy) fy) (List.nodup_cons.1 hn).1
  | succ i =>
   cases j with
   | zero =>
    simp only [List.getElem?_cons_zero, Option.some.injEq] at hy
    subst hy
    rw [fy] at hn
    exact absurd (hmem i x (by simpa using hx) fx) (List.nodup_cons.1 hn).1
   | succ j => rw [ih hn' i j x y e (by simpa using hx) (by simpa using hy) fx fy]
theorem reg_of (h : regionOk ops B = true) : Reg ops B := by
 unfold regionOk at h
 simp only [Bool.and_eq_true, List.all_eq_true, decide_eq_true_eq, List.mem_range] at h
 obtain ⟨⟨⟨h1, h2⟩, h3⟩, h4⟩ := h
 have mem : ∀ (i : Nat) (o : Oper) (e : Nat), ops[i]? = some o → o.dst = some e → e ∈ ops.toList.filterMap (·.dst) := fun i o e hi he => List.mem_filterMap.2 ⟨o, List.mem_of_getElem? (by simpa using hi), he⟩
 have lt : ∀ (j : Nat) (o : Oper), ops[j]? = some o → j < ops.toList.length := fun j o hj => by simpa using (Array.getElem?_eq_some_iff.1 hj).1
 refine ⟨fun i o e hi he => h1 e (mem i o e hi he), fun i j o o' e hi hj he he' => nodup_filterMap_inj h2 i j o o' e (by simpa using hi) (by simpa using hj) he he', fun i hi => ?_, fun j o hj e he hbd => ?_, fun i j x y hij hi hj => ?_⟩
 ·have := h3 i hi
  cases ho : ops[i]? with
  | none => rw [ho] at this; cases this
  | some o =>
   rw [ho] at this
   simp only [Option.bind_some] at this
   cases hx : addrSlot o with
   | none => rw [hx] at this; cases this
   | some x =>
    rw [hx] at this
    simp only [Bool.not_eq_true'] at this
    refine ⟨o, x, rfl, hx, fun j o' hj he => ?_⟩
    have hc := List.contains_iff_mem.2 (mem j o' x hj he)
    rw [this] at hc
    cases hc
 ·have := h4 j (lt j o hj)
  rw [hj] at this
  simp only [Bool.and_eq_true, List.all_eq_true, decide_eq_true_eq] at this
  have h9 := this.1 e he
  simp only [Bool.or_eq_true, decide_eq_true_eq, Bool.not_eq_true'] at h9
  exact h9.resolve_right (by rw [hbd]; decide)
 ·have := h4 j (lt j y hj)
  rw [hj] at this
  simp only [Bool.and_eq_true, List.all_eq_true, decide_eq_true_eq, List.mem_range] at this
  have h5 := this.2 i hij
  rw [hi] at h5
  simp only [Bool.or_eq_true, Bool.not_eq_true'] at h5
  simpa using h5
structure Inv (ops : Array Oper) (B : List Nat) (L : List Nat) (st : St) : Prop where
  real : Real st
  clean : ∀ i, i ∈ L → ∀ (o : Oper) (e : Nat), ops[i]? = some o → o.dst = some e → CleanAt e (mkBox o.op) st
  addr : ∀ i, i ∈ B → ∀ (o : Oper) (x : Nat), ops[i]? = some o → addrSlot o = some x → ∃ e n, st.t.getD x .undef = .ptr e n
  iso : ∀ (e : Nat) (T : List Nat), closedT ops e T = true → (∃ (i : Nat) (o : Oper), ops[i]? = some o ∧ o.dst = some e) → (∃ i, i ∈ L ∧ i < ops.size) → Iso e T st
  orig : ∀ (f k : Nat) (o : Oper) (x e : Nat), ops[k]? = some o → o.dst = some x → origin ops f k = some e → k ∉ L → OwnOf e (st.t.getD x .undef)
def Rdy (ops : Array Oper) (L : List Nat) (j : Nat) : Prop := ∀ (o : Oper) (ed : Edge), ops[j]? = some o → ed ∈ o.after.toList → Region.binds .any ed = true → ed.on ∉ L
end
end Go.Am
namespace Go.Am
open Go Go.RowKit
section
variable {P : Program} {c : Cfg} {Γ Γ' : Ctx} {st st2 st' s1 s2 : St} {a : Act} {w w' : World} {den : Nat → List V → Option V} {η η' : Nat → Option V} {d : Nat} {p q r : Nat → Bool} {ops : Array Oper} {o : Oper} {B : List Nat}
theorem clash_inv {free : Bool} {x y : Oper} (h : clash ops free x y = false) : (∀ e, x.dst = some e → e ∉ reads ops y ∧ y.dst ≠ some e) ∧ (∀ e, y.dst = some e → e ∉ reads ops x) ∧ ((mayEff x.op = true ∨ mayEff y.op = true) → free = true) := by
 unfold clash at h
 simp only [Bool.or_eq_false_iff] at h
 obtain ⟨⟨h1, h2⟩, h3⟩ := h
 refine ⟨fun e he => ?_, fun e he => ?_, fun hm => ?_⟩
 ·rw [he] at h1
  simp only [Bool.or_eq_false_iff] at h1
  refine ⟨fun hc => ?_, fun hy => ?_⟩
  ·rw [List.contains_iff_mem.2 hc] at h1; cases h1.1
  ·rw [hy] at h1; simp at h1
 ·rw [he] at h2
  intro hc
  simp only at h2
  rw [List.contains_iff_mem.2 hc] at h2; cases h2
 ·cases hf : free with
  | true => rfl
  | false =>
   rw [hf] at h3
   rcases hm with hm | hm <;> rw [hm] at h3 <;> simp at h3
theorem quiet_may {op : Op} (h : quiet op = true) : mayEff op = false := by
 cases op <;> first | rfl | (cases h; done)
theorem aside_inv {i : Nat} {x y : Oper} (h : aside ops i x y = true) : quiet y.op = true ∧ ∃ sx e, appSrc x = some sx ∧ origin ops ops.size i = some e ∧ closedT ops e (taint ops e) = true ∧ (∀ z ∈ reads ops y, z ∉ taint ops e) ∧ (∀ d, y.dst = some d → d ∉ taint ops e) := by
 unfold aside at h
 simp only [Bool.and_eq_true] at h
 obtain ⟨⟨h1, h2⟩, h3⟩ := h
 split at h3
 ·rename_i e he
  simp only [Bool.and_eq_true, Bool.not_eq_true'] at h3
  obtain ⟨sx, hsx⟩ := Option.isSome_iff_exists.1 h2
  refine ⟨h1, sx, e, hsx, he, h3.1.1, any_contains h3.1.2, fun d hd => ?_⟩
  have := h3.2
  rw [hd] at this
  exact mem_contains.1 (by simpa using this)
 ·cases h3
theorem closedT_inv {e : Nat} {T : List Nat} (h : closedT ops e T = true) : e ∈ T ∧ e ≠ 0 := by
 unfold closedT at h
 simp only [Bool.and_eq_true, bne_iff_ne] at h
 exact ⟨List.contains_iff_mem.1 h.1.1, h.1.2⟩
theorem appSrc_reads {x : Oper} {sx : Nat} (h : appSrc x = some sx) : sx ∈ reads ops x := by
 unfold appSrc at h
 split at h
 ·rename_i args ts hop
  split at h
  ·rename_i z zs hargs
   injection h with h
   subst h
   exact tmp_reads (by rw [hop]; simp [Op.operands, Call.operands, hargs])
  ·cases h
 ·cases h
theorem origin_app {f i e sx : Nat} {x : Oper} (h : origin ops f i = some e) (hi : ops[i]? = some x) (hs : appSrc x = some sx) : ∃ f' i' o', origin ops f' i' = some e ∧ ops[i']? = some o' ∧ o'.dst = some sx ∧ ∃ ed ∈ x.after.toList, Region.binds .any ed = true ∧ ed.on = i' := by
 cases f with
 | zero => cases h
 | succ f =>
  rw [origin, hi] at h
  simp only at h
  split at h
  ·rename_i hop
   unfold appSrc at hs
   rw [hop] at hs
   cases hs
  ·rw [hs] at h
   simp only at h
   split at h
   ·rename_i i' hw
    split at h
    ·rename_i hany
     obtain ⟨o', h1, h2⟩ := writer_spec hw
     obtain ⟨ed, h3, h4⟩ := List.any_eq_true.1 hany
     rw [Bool.and_eq_true, beq_iff_eq] at h4
     exact ⟨f, i', o', h, h1, h2, ed, h3, h4.1, h4.2⟩
    ·cases h
   ·cases h
theorem Inv.own {L : List Nat} (hI : Inv ops B L st) {f i e sx : Nat} {x : Oper} (h : origin ops f i = some e) (hi : ops[i]? = some x) (hs : appSrc x = some sx) (hr : Rdy ops L i) : OwnOf e (st.t.getD sx .undef) := by
 obtain ⟨f', i', o', h1, h2, h3, ed, h4, h5, h6⟩ := origin_app h hi hs
 exact hI.orig f' i' o' sx e h2 h3 h1 (h6 ▸ hr x ed hi h4 h5)
theorem swap (hA : Agree P c) (hD : Answers P den) (hR : Reg ops B) {i j : Nat} {x y : Oper} (hi : ops[i]? = some x) (hj : ops[j]? = some y) (hcl : clash ops ((B.contains i || B.contains j) || (aside ops i x y || aside ops j y x)) x y = false) {L : List Nat} (hI : Inv ops B L st) (iL : i ∈ L) (jL : j ∈ L) (ri : Rdy ops L i) (rj : Rdy ops L j)
  (hx : step1 c den ops st x = some s1) (hy : step1 c den ops s1 y = some s2) : ∃ s, step1 c den ops st y = some s ∧ step1 c den ops s x = some s2 := by
 obtain ⟨k1, k2, k3⟩ := clash_inv hcl
 by_cases sx : Still ops st x
 ·by_cases sy : Still ops s1 y
  ·cases hdx : x.dst with
   | none =>
    obtain ⟨hw, rfl⟩ := still_none hx sx hdx
    refine ⟨s2, hy, ?_⟩
    cases hdy : y.dst with
    | none =>
     obtain ⟨_, rfl⟩ := still_none hy sy hdy
     exact hx
    | some dy =>
     obtain ⟨v, bx, esc, rfl, _, _, _⟩ := neat hy sy hdy
     refine passed ?_ hdx
     rw [← hw]
     exact wanted_congr fun z hz => setD_ne (fun e => k2 dy hdy (e ▸ hz))
   | some dx =>
    cases hdy : y.dst with
    | none =>
     obtain ⟨hw, rfl⟩ := still_none hy sy hdy
     refine ⟨st, passed ?_ hdy, hx⟩
     obtain ⟨v, bx, esc, rfl, _, _, _⟩ := neat hx sx hdx
     rw [← hw]
     exact (wanted_congr (st := st) (st2 := st.upd dx v bx esc) fun z hz => setD_ne (fun e : z = dx => (k1 dx hdx).1 (e ▸ hz))).symm
    | some dy =>
     have hne : dx ≠ dy := fun e => (k1 dx hdx).2 (by rw [hdy, e])
     exact swap_still hA hD hI.real hx hy sx sy hdx hdy hne (hR.lt i x dx hi hdx) (hR.lt j y dy hj hdy) (k2 dy hdy) (k1 dx hdx).1 (hI.clean i iL x dx hi hdx) (hI.clean j jL y dy hj hdy)
  ·have hm : mayEff y.op = true := isEff_may (st := s1) (by
    cases hq : isEff s1 y.op with
    | true => rfl
    | false => exact absurd (.inl hq) sy)
   have hfree := k3 (.inr hm)
   rw [Bool.or_eq_true] at hfree
   rcases hfree with hfree | hfree
   case inr =>
    rw [Bool.or_eq_true] at hfree
    rcases hfree with h | h
    ·have := quiet_may (aside_inv h).1
     rw [hm] at this
     cases this
    ·obtain ⟨qx, sy', e, ay, hor, hct, r1, r2⟩ := aside_inv h
     obtain ⟨heT, _⟩ := closedT_inv hct
     exact swap_quiet_app hA hD hI.real ay hx hy sy qx (hI.iso e _ hct (origin_written hor) ⟨i, iL, (Array.getElem?_eq_some_iff.1 hi).1⟩) (hI.own hor hj ay rj) heT r1 r2 (appSrc_reads ay) (fun d hd => ⟨(k1 d hd).1, (k1 d hd).2⟩) k2 (fun d hd => hI.clean i iL x d hi hd) (fun d hd => hR.lt i x d hi hd) (fun d hd => hR.lt j y d hj hd)
   have hiB : i ∈ B := by
    rw [Bool.or_eq_true] at hfree
    rcases hfree with h | h
    ·exact List.contains_iff_mem.1 h
    ·obtain ⟨o, z, ho, hz, _⟩ := hR.addr j (List.contains_iff_mem.1 h)
     rw [hj] at ho
     injection ho with ho
     subst ho
     obtain ⟨t, k, hop⟩ := addrSlot_op hz
     rw [hop] at hm
     cases hm
   obtain ⟨o, z, ho, hz, _⟩ := hR.addr i hiB
   rw [hi] at ho
   injection ho with ho
   subst ho
   obtain ⟨e, n, hp⟩ := hI.addr i hiB x z hi hz
   cases hdx : x.dst with
   | none =>
    exact absurd hdx (addrSlot_dst hz)
   | some dx => exact swap_addr_eff hx hy sy hz hdx hp (k1 dx hdx).2 (k1 dx hdx).1 k2
 ·have hm : mayEff x.op = true := isEff_may (st := st) (by
   cases hq : isEff st x.op with
   | true => rfl
   | false => exact absurd (.inl hq) sx)
  have hfree := k3 (.inl hm)
  rw [Bool.or_eq_true] at hfree
  rcases hfree with hfree | hfree
  case inr =>
   rw [Bool.or_eq_true] at hfree
   rcases hfree with h | h
   ·obtain ⟨qy, sx', e, ax, hor, hct, r1, r2⟩ := aside_inv h
    obtain ⟨heT, he0⟩ := closedT_inv hct
    exact swap_app_quiet hA hD hI.real ax hx hy sx qy he0 (hI.iso e _ hct (origin_written hor) ⟨j, jL, (Array.getElem?_eq_some_iff.1 hj).1⟩) (hI.own hor hi ax ri) heT r1 r2 k1 k2 (fun d hd => hI.clean j jL y d hj hd) (fun d hd => hR.lt j y d hj hd)
   ·have := quiet_may (aside_inv h).1
    rw [hm] at this
    cases this
  have hjB : j ∈ B := by
   rw [Bool.or_eq_true] at hfree
   rcases hfree with h | h
   ·obtain ⟨o, z, ho, hz, _⟩ := hR.addr i (List.contains_iff_mem.1 h)
    rw [hi] at ho
    injection ho with ho
    subst ho
    obtain ⟨t, k, hop⟩ := addrSlot_op hz
    rw [hop] at hm
    cases hm
   ·exact List.contains_iff_mem.1 h
  obtain ⟨o, z, ho, hz, _⟩ := hR.addr j hjB
  rw [hj] at ho
  injection ho with ho
  subst ho
  obtain ⟨e, n, hp⟩ := hI.addr j hjB y z hj hz
  cases hdy : y.dst with
  | none => exact absurd hdy (addrSlot_dst hz)
  | some dy => exact swap_eff_addr hx hy sx hz hdy hp (fun e => (k1 dy e).2 hdy) (k2 dy hdy) (fun e he => (k1 e he).1)
end
end Go.Am
namespace Go.Am
open Go Go.RowKit
section
variable {P : Program} {c : Cfg} {Γ Γ' : Ctx} {st st2 st' s1 s2 : St} {a : Act} {w w' : World} {den : Nat → List V → Option V} {η η' : Nat → Option V} {d : Nat} {p q r : Nat → Bool} {ops : Array Oper} {o : Oper} {B : List Nat}
theorem slot_keep (h : step1 c den ops st o = some st') {x : Nat} (hx : o.dst ≠ some x) {e n : Nat} (hp : st.t.getD x .undef = .ptr e n) : st'.t.getD x .undef = .ptr e n := by
 by_cases hs : Still ops st o
 ·cases hd : o.dst with
  | none => obtain ⟨_, rfl⟩ := still_none h hs hd; exact hp
  | some dd =>
   obtain ⟨v, bx, esc, rfl, _, _, _⟩ := neat h hs hd
   exact (setD_ne (fun e => hx (by rw [hd, e]))).trans hp
 ·have h1 : isEff st o.op = true := by
   cases hi : isEff st o.op with
   | true => rfl
   | false => exact absurd (.inl hi) hs
  unfold step1 at h
  cases hw : wanted ops st.t o with
  | none => rw [hw] at h; cases h
  | some b =>
   rw [hw] at h
   cases b with
   | false => exact absurd (.inr hw) hs
   | true =>
    simp only at h
    unfold step at h
    rw [if_pos h1] at h
    obtain ⟨f, hg, hsl⟩ := eff_slots h
    rw [hsl x hx, hp]
    exact hg.1 _ (.inl ⟨_, _, rfl⟩)
theorem Inv.step (hA : Agree P c) (hD : Answers P den) (hR : Reg ops B) {L L' : List Nat} {j : Nat} {y : Oper} (hj : ops[j]? = some y) (hI : Inv ops B L st) (h : step1 c den ops st y = some st') (hL : ∀ i, i ∈ L' → i ∈ L ∧ i ≠ j) (hL2 : ∀ i, i ∈ L → i ≠ j → i ∈ L') (hr : Rdy ops L j) : Inv ops B L' st' := by
 refine ⟨real_step1 hA hD hI.real h, fun i hi o e ho he => ?_, fun i hi o x ho hx => ?_, fun e T hc hw hex => ?iso, fun f k o x e ho hx hor hk => ?_⟩
 case iso =>
  obtain ⟨i, hi, hil⟩ := hex
  obtain ⟨h1, h2⟩ := hL i hi
  refine iso_step hA hI.real hc (core_mem hj (fun ⟨hla, hjm⟩ => ?_)) (fun d hd => hR.lt j y d hj hd) h (hI.iso e T hc hw ⟨i, h1, hil⟩)
  have hj' : ops[ops.size - 1]? = some y := by rw [← hj]; congr 1; omega
  unfold lastly at hla
  rw [hj'] at hla
  simp only [List.all_eq_true, List.mem_range] at hla
  obtain ⟨ed, he1, he2⟩ := List.any_eq_true.1 (hla i (by omega))
  rw [Bool.and_eq_true, beq_iff_eq] at he2
  exact hr y ed hj he1 he2.1 (he2.2 ▸ h1)
 ·obtain ⟨h1, h2⟩ := hL i hi
  exact clean_step1 hA hI.real h (fun e' he' => ⟨fun heq => h2 (hR.inj i j o y e ho hj he (by rw [he', heq])), hR.lt j y e' hj he'⟩) (hI.clean i h1 o e ho he)
 ·obtain ⟨e, n, hp⟩ := hI.addr i hi o x ho hx
  obtain ⟨o', x', ho', hx', hno⟩ := hR.addr i hi
  rw [ho] at ho'
  injection ho' with ho'
  subst ho'
  rw [hx] at hx'
  injection hx' with hx'
  subst hx'
  exact ⟨e, n, slot_keep h (hno j y hj) hp⟩
 ·by_cases hkj : k = j
  ·subst hkj
   rw [hj] at ho
   injection ho with ho
   subst ho
   cases f with
   | zero => cases hor
   | succ f =>
    refine origin_run hj hx (hR.lt k y x hj hx) hor h (fun sx i hs hw ⟨ed, h1, h2, h3⟩ ho => ?_)
    obtain ⟨o', h4, h5⟩ := writer_spec hw
    exact hI.orig f i o' sx e h4 h5 ho (h3 ▸ hr y ed hj h1 h2)
  ·exact step1_own h (fun hd => hkj (hR.inj k j o y x ho hj hx hd)) (hI.orig f k o x e ho hx hor (fun hkL => hk (hL2 k hkL hkj)))
theorem runI_cons {i : Nat} {x : Oper} (hi : ops[i]? = some x) (L : List Nat) (st : St) : runI c den ops (i :: L) st = (step1 c den ops st x).bind (runI c den ops L) := by simp only [runI, hi]
theorem bubble (hA : Agree P c) (hD : Answers P den) (hR : Reg ops B) {i : Nat} {x : Oper} (hi : ops[i]? = some x) : ∀ (pre suf : List Nat) (st st' : St), Inv ops B (pre ++ i :: suf) st → (pre ++ i :: suf).Pairwise (· < ·) → Rdy ops (pre ++ i :: suf) i →
  (∀ j, j ∈ pre → ∀ y, ops[j]? = some y → clash ops ((B.contains j || B.contains i) || (aside ops j y x || aside ops i x y)) y x = false) → runI c den ops (pre ++ i :: suf) st = some st' → ∃ s, step1 c den ops st x = some s ∧ runI c den ops (pre ++ suf) s = some st' := by
 intro pre
 induction pre with
 | nil =>
  intro suf st st' hI _ _ _ h
  rw [List.nil_append, runI_cons hi] at h
  cases hs : step1 c den ops st x with
  | none => rw [hs] at h; cases h
  | some s => rw [hs] at h; exact ⟨s, rfl, h⟩
 | cons j pre ih =>
  intro suf st st' hI hS hri hcl h
  cases hj : ops[j]? with
  | none => simp only [List.cons_append, runI, hj] at h; cases h
  | some y =>
   rw [List.cons_append, runI_cons hj] at h
   cases hs : step1 c den ops st y with
   | none => rw [hs] at h; cases h
   | some s1 =>
    rw [hs] at h
    have hN : (j :: (pre ++ i :: suf)).Nodup := List.Pairwise.imp (fun h => Nat.ne_of_lt h) hS
    rw [List.nodup_cons] at hN
    have hS' := List.pairwise_cons.1 hS
    have hrj : Rdy ops (j :: (pre ++ i :: suf)) j := fun o ed ho hed hbd hm => by
     have h1 := hR.back j o ho ed hed hbd
     rcases List.mem_cons.1 hm with h2 | h2
     ·omega
     ·have := hS'.1 _ h2
      omega
    have hI1 : Inv ops B (pre ++ i :: suf) s1 := hI.step hA hD hR hj hs (fun k hk => ⟨by simp only [List.cons_append, List.mem_cons]; exact .inr hk, fun e => hN.1 (e ▸ hk)⟩) (fun k hk hkj => by simp only [List.cons_append, List.mem_cons] at hk; exact hk.resolve_left hkj) hrj
    obtain ⟨s2, h1, h2⟩ := ih suf s1 st' hI1 hS'.2 (fun o ed ho hed hb hm => hri o ed ho hed hb (by simp only [List.cons_append, List.mem_cons]; exact .inr hm)) (fun k hk => hcl k (by simp [hk])) h
    obtain ⟨s, h3, h4⟩ := swap hA hD hR hj hi (hcl j (by simp) y hj) hI (by simp) (by simp) hrj hri hs h1
    refine ⟨s, h3, ?_⟩
    rw [List.cons_append, runI_cons hj, h4]
    exact h2
theorem prec_listed {listed : Nat → Bool} (hcl : ∀ j o, listed j = true → ops[j]? = some o → ∀ e ∈ o.after.toList, Region.binds .any e = true → listed e.on = true) : ∀ (k j i : Nat) (o : Oper), ops[j]? = some o →
  (∀ e ∈ o.after.toList, Region.binds .any e = true → listed e.on = true) → prec ops k j i = true → listed i = true := by
 intro k
 induction k with
 | zero => intro j i o _ _ h; cases h
 | succ k ih =>
  intro j i o ho hr h
  simp only [prec, ho, List.any_eq_true, Bool.and_eq_true, Bool.or_eq_true, beq_iff_eq] at h
  obtain ⟨e, he, hb, h⟩ := h
  have hl := hr e he hb
  rcases h with rfl | h
  ·exact hl
  ·cases hon : ops[e.on]? with
   | none =>
    cases k with
    | zero => cases h
    | succ k => simp only [prec, hon] at h; cases h
   | some o' => exact ih e.on i o' hon (hcl e.on o' hl hon) h
end
end Go.Am
namespace Go.Am
open Go Go.RowKit
section
variable {P : Program} {c : Cfg} {Γ Γ' : Ctx} {st st2 st' s1 s2 : St} {a : Act} {w w' : World} {den : Nat → List V → Option V} {ops : Array Oper} {o : Oper} {B : List Nat}
def pend (ops : Array Oper) (listed : Array Bool) : List Nat := (List.range ops.size).filter fun i => !listed.getD i true
theorem mem_pend {listed : Array Bool} {j : Nat} : j ∈ pend ops listed ↔ j < ops.size ∧ listed.getD j true = false := by
 unfold pend
 rw [List.mem_filter, List.mem_range]
 simp only [Bool.not_eq_true']
theorem pend_start : pend ops (Array.replicate ops.size false) = List.range ops.size := by
 unfold pend
 rw [List.filter_eq_self]
 intro i hi
 have := List.mem_range.1 hi
 simp [this]
theorem pend_sorted (listed : Array Bool) : (pend ops listed).Pairwise (· < ·) := List.Pairwise.filter _ List.pairwise_lt_range
theorem pend_nodup (listed : Array Bool) : (pend ops listed).Nodup := (pend_sorted listed).imp (fun h => Nat.ne_of_lt h)
theorem filter_split {i : Nat} : ∀ {pre suf : List Nat}, (pre ++ i :: suf).Nodup → (pre ++ i :: suf).filter (fun j => j != i) = pre ++ suf := by
 intro pre suf h
 have h1 : ∀ j ∈ pre, j ≠ i := fun j hj e => by
  subst e
  exact (List.nodup_append.1 h).2.2 j hj j (by simp) rfl
 have h2 : ∀ j ∈ suf, j ≠ i := fun j hj e => by
  subst e
  exact (List.nodup_cons.1 (List.nodup_append.1 h).2.1).1 hj
 rw [List.filter_append, List.filter_cons]
 simp only [bne_self_eq_false, Bool.false_eq_true, if_false]
 rw [List.filter_eq_self.2 (fun j hj => by simpa using h1 j hj), List.filter_eq_self.2 (fun j hj => by simpa using h2 j hj)]
theorem pend_set {listed : Array Bool} {i : Nat} : pend ops (listed.setIfInBounds i true) = (pend ops listed).filter (fun j => j != i) := by
 unfold pend
 rw [List.filter_filter]
 refine List.filter_congr fun j _ => ?_
 by_cases h : j = i
 ·subst h
  by_cases hl : j < listed.size
  ·simp [hl]
  ·simp [Array.getElem?_eq_none (Nat.le_of_not_lt hl)]
 ·rw [getD_set_ne true (Ne.symm h)]
  simp [h]
theorem runI_drop : ∀ (m k : Nat) (st : St), k + m = ops.size → runI c den ops (List.range' k m) st = runOps c den ops (ops.toList.drop k) st := by
 intro m
 induction m with
 | zero =>
  intro k st h
  rw [List.drop_eq_nil_of_le (by simp; omega)]
  rfl
 | succ m ih =>
  intro k st h
  have hk : k < ops.size := by omega
  rw [List.range'_succ, List.drop_eq_getElem_cons (by simpa using hk), runOps_cons, runI_cons (x := ops[k]) (by simp [hk])]
  simp only [Array.getElem_toList]
  refine congrArg _ (funext fun s => ih (k + 1) s (by omega))
theorem runI_all (st : St) : runI c den ops (List.range ops.size) st = runOps c den ops ops.toList st := by
 rw [List.range_eq_range', runI_drop ops.size 0 st (by omega), List.drop_zero]
theorem wpOp_ok (hA : Agree P c) (hD : Answers P den) {i : Nat} (hi : ops[i]? = some o) (hs : Sim Γ st a w) (h : step1 c den ops st o = some st') {Q : Exit → Act → World → Prop} {K : Act → World → Prop} (hK : ∀ a' w', Sims Γ st' a' w' → K a' w') : wpOp P ops Q i K a w := by
 unfold wpOp
 simp only [hi]
 unfold step1 at h
 cases hw : wanted ops st.t o with
 | none => rw [hw] at h; cases h
 | some b =>
  rw [hw] at h
  rw [wanted_ok hs hw]
  cases b with
  | true =>
   simp only [if_true] at h ⊢
   exact .inl (sound_step hA hD hs h K Q hK)
  | false =>
   simp only [Bool.false_eq_true, if_false] at h ⊢
   cases hd : o.dst with
   | none => rw [hd] at h; simp only [Option.some.injEq] at h; subst h; exact hK _ _ ⟨Γ, Same.rfl', hs⟩
   | some d => rw [hd] at h; simp only [Option.some.injEq] at h; subst h; exact hK _ _ ⟨Γ, Same.rfl', skip_ok hs d⟩
theorem any_ok (hA : Agree P c) (hD : Answers P den) (hR : Reg ops B) {Q : Exit → Act → World → Prop} : ∀ (fuel : Nat) (listed : Array Bool) (Γ : Ctx) (st : St) (a : Act) (w : World) (st' : St), Sim Γ st a w → Inv ops B (pend ops listed) st → listed.size = ops.size →
  (∀ j o, listed.getD j false = true → ops[j]? = some o → ∀ e ∈ o.after.toList, Region.binds .any e = true → listed.getD e.on false = true) → (pend ops listed).length ≤ fuel → runI c den ops (pend ops listed) st = some st' →
  (∀ a' w', Sims Γ st' a' w' → Q .normal a' w') → wpAny P .any ops Q fuel listed a w := by
 intro fuel
 have agree : ∀ (listed : Array Bool), listed.size = ops.size → ∀ j, j < ops.size → ∀ b, listed.getD j true = b → listed.getD j false = b := by
  intro listed hz j hj b h
  have : j < listed.size := by omega
  simpa [this] using h
 -- where nothing is ready nothing is pending
 have hdone : ∀ (listed : Array Bool), listed.size = ops.size → Region.ready .any ops listed = [] → pend ops listed = [] := by
  intro listed hz hr
  cases hp : pend ops listed with
  | nil => rfl
  | cons j rest =>
   exfalso
   have hj := mem_pend.1 (show j ∈ pend ops listed by rw [hp]; simp)
   have hsome : ops[j]? = some ops[j] := by simp [hj.1]
   have : j ∈ Region.ready .any ops listed := by
    refine mem_ready.2 ⟨hj.2, ops[j], hsome, fun e he hbd => ?_⟩
    have hlt := hR.back j _ hsome e (by simpa using he) hbd
    have hlt2 : e.on < ops.size := by omega
    cases hb : listed.getD e.on true with
    | true => exact agree listed hz e.on hlt2 true hb
    | false =>
     exfalso
     have hm : e.on ∈ pend ops listed := mem_pend.2 ⟨hlt2, hb⟩
     have hs := pend_sorted (ops := ops) listed
     rw [hp] at hm hs
     rcases List.mem_cons.1 hm with h | h
     ·omega
     ·have := (List.pairwise_cons.1 hs).1 _ h
      omega
   rw [hr] at this
   cases this
 induction fuel with
 | zero =>
  intro listed Γ st a w st' hs hI hz hcl hlen h hQ
  have hp : pend ops listed = [] := List.eq_nil_of_length_eq_zero (by omega)
  rw [hp] at h
  simp only [runI, Option.some.injEq] at h
  subst h
  refine ⟨?_, hQ a w ⟨Γ, Same.rfl', hs⟩⟩
  cases hr : Region.ready .any ops listed with
  | nil => rfl
  | cons i rest =>
   exfalso
   obtain ⟨h0, o, ho, _⟩ := mem_ready.1 (show i ∈ Region.ready .any ops listed by rw [hr]; simp)
   have : i ∈ pend ops listed := mem_pend.2 ⟨(Array.getElem?_eq_some_iff.1 ho).1, h0⟩
   rw [hp] at this
   cases this
 | succ fuel ih =>
  intro listed Γ st a w st' hs hI hz hcl hlen h hQ
  refine ⟨fun hr => ?_, fun i hi => ?_⟩
  ·rw [hdone listed hz hr] at h
   simp only [runI, Option.some.injEq] at h
   subst h
   exact hQ a w ⟨Γ, Same.rfl', hs⟩
  ·obtain ⟨h0, o, ho, hall⟩ := mem_ready.1 hi
   have hilt := (Array.getElem?_eq_some_iff.1 ho).1
   have him : i ∈ pend ops listed := mem_pend.2 ⟨hilt, h0⟩
   obtain ⟨pre, suf, hsplit⟩ := List.append_of_mem him
   have hnd := pend_nodup (ops := ops) listed
   have hsrt := pend_sorted (ops := ops) listed
   have hset : pend ops (listed.setIfInBounds i true) = pre ++ suf := by
    rw [pend_set, hsplit, filter_split (by rw [← hsplit]; exact hnd)]
   have hI' := hI
   rw [hsplit] at h hnd hsrt hI'
   have hrdy : Rdy ops (pend ops listed) i := fun o' ed ho' hed hb hm => by
    rw [ho] at ho'
    injection ho' with ho'
    subst ho'
    have h3 := hall ed (by simpa using hed) hb
    have h4 := mem_pend.1 hm
    have h5 := agree listed hz ed.on h4.1 false h4.2
    rw [h3] at h5
    cases h5
   have hrdy' := hrdy
   rw [hsplit] at hrdy'
   obtain ⟨s, h1, h2⟩ := bubble hA hD hR ho pre suf st st' hI' hsrt hrdy' (fun j hj y hy => by
    have hjp : j ∈ pend ops listed := by rw [hsplit]; simp [hj]
    have hji : j < i := (List.pairwise_append.1 hsrt).2.2 j hj i (by simp)
    rcases hR.ord j i y o hji hy ho with h | h
    ·exact h
    ·exfalso
     have hlj := prec_listed (listed := fun k => listed.getD k false) hcl ops.size i j o ho (fun e he hb => hall e (by simpa using he) hb) h
     have := agree listed hz j (by omega) false (mem_pend.1 hjp).2
     simp only [this] at hlj
     cases hlj) h
   refine wpOp_ok hA hD ho hs h1 (fun a' w' hs' => ?_)
   obtain ⟨Γ', hsame, hs''⟩ := hs'
   have hilt2 : i < listed.size := by omega
   refine ih (listed.setIfInBounds i true) Γ' s a' w' st' hs'' ?_ (by simpa using hz) ?_ ?_ (by rw [hset]; exact h2) (fun a2 w2 h' => hQ _ _ (Sims.of hsame h'))
   ·refine hI.step hA hD hR ho h1 (fun k hk => ?_) ?_ ?_
    ·rw [pend_set, List.mem_filter] at hk
     exact ⟨hk.1, by simpa using hk.2⟩
    ·intro k hk hki
     rw [pend_set, List.mem_filter]
     exact ⟨hk, by simpa using hki⟩
    ·exact hrdy
   ·intro j oj hj hoj e he hb
    by_cases hji : j = i
    ·subst hji
     rw [ho] at hoj
     injection hoj with hoj
     subst hoj
     exact getD_set_true (hall e (by simpa using he) hb)
    ·rw [getD_set_ne false (Ne.symm hji)] at hj
     exact getD_set_true (hcl j oj hj hoj e he hb)
   ·have : (pend ops listed).length = (pre ++ suf).length + 1 := by rw [hsplit]; simp; omega
    rw [hset]
    omega
theorem Sim.drawn (hs : Sim Γ st a w) (n : Nat) : Sim Γ st a { w with drawn := n } := by
 have hc : ∀ x : Addr, ({ w with drawn := n } : World).cell? x = w.cell? x := fun x => rfl
 have hvr : ∀ v x, VR Γ w v x → VR Γ { w with drawn := n } v x := fun v x h =>
  VR.mono (w := w) (w' := { w with drawn := n }) (Γ := Γ) (Γ' := Γ) (p := fun _ => false) (r := fun _ => false) (fun h => h) (fun _ h => h) (fun _ h => h) (fun _ _ _ => rfl) (fun b _ => ⟨Iff.rfl, fun _ => ⟨rfl, rfl, rfl, rfl, rfl, fun _ h => h, fun _ => rfl⟩⟩) (fun d _ => ⟨fun h => h, rfl⟩) h (anyB_false v) (anyP_false v)
 have g := hs.good
 refine ⟨⟨g.os, g.tape, g.output, g.size, g.old, g.new, g.slt, g.base, g.baseInj, g.box, g.boxInj, g.baseBox, g.sr, g.gl, g.bz, g.zf, g.ns, g.h9⟩, hs.dz, hs.len, fun i v h => ?_, fun d v h => ?_, hs.nds, hs.du, hs.nd⟩
 ·obtain ⟨x, h1, h2⟩ := hs.tm i v h
  exact ⟨x, h1, hvr v x h2⟩
 ·obtain ⟨h1, cur, e, h2, h3, h4⟩ := hs.bx d v h
  refine ⟨h1, cur, e, h2, h3, fun j u hj => ?_⟩
  obtain ⟨x, h5, h6⟩ := h4 j u hj
  exact ⟨x, h5, hvr u x h6⟩
theorem drawOk (hA : Agree P c) (hm : P.follows .mixedOrders = true) (hD : Answers P den) : DrawOk P c den := by
 intro id ops B Γ st st' a w Q hs hclean hreg hent h hQ
 have hR := reg_of hreg
 unfold entryOk at hent
 rw [Bool.and_eq_true, List.all_eq_true, List.all_eq_true] at hent
 obtain ⟨he1, he2⟩ := hent
 refine wp_region_any hm ?_
 have hs' := hs.drawn (w.drawn + 1)
 refine any_ok hA hD hR ops.size (Array.replicate ops.size false) Γ st a _ st' hs' ?_ (by simp) ?_ ?_ (by rw [pend_start, runI_all]; exact h) hQ
 ·refine ⟨⟨Γ, a, w, hs⟩, fun i hi o e ho he => ?_, fun i hi o x ho hx => ?_, fun e T _ hw => ?_, fun f k o x e ho _ _ hk => ?_⟩
  ·have hlt := hR.lt i o e ho he
   obtain ⟨hc1, hc2⟩ := hclean e hlt
   have hmem : o ∈ ops.toList := List.mem_of_getElem? (i := i) (by simpa using ho)
   have hb := he2 o hmem
   simp only [he, Bool.or_eq_true, Bool.not_eq_true', Bool.and_eq_true] at hb
   intro v hv
   refine ⟨?_, ?_⟩
   ·rcases hv with hv | hv
    ·exact anyBs_mem hc1 v hv
    ·exact anyBo_mem hc2 v hv
   ·cases hbx : mkBox o.op with
    | false => simp only [Bool.false_and]; exact anyP_false v
    | true =>
     rw [hbx] at hb
     simp only [Bool.true_eq_false, false_or] at hb
     simp only [Bool.true_and]
     rcases hv with hv | hv
     ·exact anyPs_mem hb.1 v hv
     ·exact anyPo_mem hb.2 v hv
  ·have := he1 i hi
   rw [ho] at this
   simp only [Option.bind_some, hx] at this
   split at this
   ·rename_i d n hq; exact ⟨d, n, hq⟩
   ·cases this
  ·obtain ⟨i, o, ho, he⟩ := hw
   obtain ⟨hc1, hc2⟩ := hclean e (hR.lt i o e ho he)
   refine fun _ => ⟨fun z _ => ?_, fun v hv => anyBo_mem hc2 v hv⟩
   rw [List.getD_eq_getElem?_getD]
   cases ht : st.t[z]? with
   | none => rfl
   | some v => exact anyBs_mem hc1 v (mem_of_get ht)
  ·exfalso
   apply hk
   rw [pend_start, List.mem_range]
   exact (Array.getElem?_eq_some_iff.1 ho).1
 ·intro j o hj
  by_cases hjl : j < ops.size
  ·simp [hjl] at hj
  ·simp [hjl] at hj
 ·rw [pend_start]; simp
end
end Go.Am
end
