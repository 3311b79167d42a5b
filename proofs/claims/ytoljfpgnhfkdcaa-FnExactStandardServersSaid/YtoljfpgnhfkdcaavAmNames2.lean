/-
  Names: what an operation's result hangs on.
-/
import Derived.Test.YtoljfpgnhfkdcaavAmRun
section
set_option linter.unusedVariables false
set_option linter.unusedSimpArgs false
namespace Go.Am
open Go Go.RowKit
section
variable {P : Program} {c : Cfg} {Γ Γ' : Ctx} {st : St} {a : Act} {w w' : World} {den : Nat → List V → Option V} {η : Nat → Option V} {d : Nat}
def Clean (st : St) : Prop := ∀ d, d < 1000 → V.anyBs (fun b => b / 1000 == d) st.t = false ∧ anyBo (fun b => b / 1000 == d) st.h = false
def DrawOk (P : Program) (c : Cfg) (den : Nat → List V → Option V) : Prop := ∀ (id : Nat) (ops : Array Oper) (B : List Nat) (Γ : Ctx) (st st' : St) (a : Act) (w : World) (Q : Exit → Act → World → Prop), Sim Γ st a w → Clean st →
 regionOk ops B = true → entryOk ops B st = true → runOps c den ops ops.toList st = some st' → (∀ a' w', Sims Γ st' a' w' → Q .normal a' w') → (Code.region id ops true).wp P Q a w
theorem canon_name (d : Nat) (hd : d < 1000) (l : List Nat) (v : V) : (v.mapB (rename l)).anyB (fun b => b / 1000 == d) = false := by
 have hc : ∀ i, (canonBase i / 1000 == d) = false := by intro i; simp [canonBase]; omega
 refine V.rec (motive_1 := fun v => (v.mapB (rename l)).anyB (fun b => b / 1000 == d) = false) (motive_2 := fun vs => V.anyBs (fun b => b / 1000 == d) (V.mapBs (rename l) vs) = false)
  rfl (fun _ => rfl) (fun _ _ => rfl) (fun _ => rfl) rfl (fun _ _ _ _ => rfl) (fun b _ _ _ _ => hc _) (fun b _ _ _ _ => hc _) (fun _ _ => rfl) (fun b _ _ _ _ _ _ => hc _) (fun b _ _ _ => hc _) (fun _ _ _ => rfl)
  (fun _ h => h) (fun _ h => h) (fun _ _ h => h) rfl (fun _ _ h1 h2 => by rw [V.mapBs, V.anyBs, h1, h2]; rfl) v
theorem canon_names (d : Nat) (hd : d < 1000) (l : List Nat) (vs : List V) : V.anyBs (fun b => b / 1000 == d) (V.mapBs (rename l) vs) = false := canon_name d hd l (.agg vs)
theorem canon_nameo (d : Nat) (hd : d < 1000) (l : List Nat) : ∀ (hs : List (Option V)), anyBo (fun b => b / 1000 == d) (mapBo (rename l) hs) = false := by
 intro hs
 induction hs with
 | nil => rfl
 | cons x hs ih =>
  cases x with
  | none => exact ih
  | some v => rw [mapBo, anyBo, canon_name d hd, ih]; rfl
theorem head_clean (st : St) (fs : List Nat × List Nat) : Clean (st.head fs) := by
 intro d hd
 unfold St.head St.head0
 simp only
 split
 ·exact ⟨canon_names d hd _ _, canon_nameo d hd _ _⟩
 ·exact ⟨canon_names d hd _ _, canon_nameo d hd _ _⟩
def Ex.to : Ex → Exit
 | .normal => .normal
 | .exit i => .exit i
 | .ret => .ret
theorem least {p : Nat → Prop} (h : ∃ n, p n) : ∃ n, p n ∧ ∀ m, p m → n ≤ m := by
 obtain ⟨n, hn⟩ := h
 induction n using Nat.strongRecOn with
 | _ n ih =>
  by_cases h : ∃ m, m < n ∧ p m
  ·obtain ⟨m, h1, h2⟩ := h
   exact ih m h1 h2
  ·refine ⟨n, hn, fun m hm => ?_⟩
   rcases Nat.lt_or_ge m n with h1 | h1
   ·exact absurd ⟨m, h1, hm⟩ h
   ·exact h1
open Classical in
theorem wp_iter {body : Code} {f : St → Option (Ex × St)} {hd : St → St} {Γ : Ctx} {st : St} {a : Act} {w : World} {ex : Ex} {st' : St} {k : Nat} {Q : Exit → Act → World → Prop} (hs : Sims Γ st a w) (h : iter f hd k st = some (ex, st'))
  (hb : ∀ (Γ' : Ctx) (s : St) (a : Act) (w : World) (ex : Ex) (s' : St) (Q : Exit → Act → World → Prop), Sim Γ' s a w → f s = some (ex, s') → (∀ a' w', Sims Γ' s' a' w' → Q ex.to a' w') → body.wp P Q a w)
  (hhd : ∀ (Γ' : Ctx) (s : St) (a : Act) (w : World), Sim Γ' s a w → Sims Γ' (hd s) a w) (hQ : ∀ a' w', Sims Γ st' a' w' → Q ex.to a' w') : (Code.loop body).wp P Q a w := by
 let I : Nat → Act → World → Prop := fun j a w => ∃ s, Sims Γ s a w ∧ iter f hd j s = some (ex, st')
 refine wp_loop (fun a w => ∃ j, I j a w) (fun a w => if h : ∃ j, I j a w then (least h).choose else 0) ⟨k, st, hs, h⟩ (fun a w hI => ?_)
 obtain ⟨s, hs1, hi⟩ := (least hI).choose_spec.1
 cases hj : (least hI).choose with
 | zero => rw [hj, iter] at hi; cases hi
 | succ j =>
  rw [hj, iter] at hi
  obtain ⟨Γ1, hsame, hs2⟩ := hs1
  obtain ⟨Γ2, hsame2, hs3⟩ := hhd Γ1 s a w hs2
  cases hf : f (hd s) with
  | none => rw [hf] at hi; cases hi
  | some z =>
   obtain ⟨e, s'⟩ := z
   rw [hf] at hi
   refine hb Γ2 (hd s) a w e s' _ hs3 hf (fun a' w' h' => ?_)
   have h'' : Sims Γ s' a' w' := Sims.of hsame (Sims.of hsame2 h')
   cases e with
   | normal =>
    have hI' : I j a' w' := ⟨s', h'', hi⟩
    refine ⟨⟨j, hI'⟩, ?_⟩
    have hex : ∃ j, I j a' w' := ⟨j, hI'⟩
    show (if h : ∃ j, I j a' w' then (least h).choose else 0) < (if h : ∃ j, I j a w then (least h).choose else 0)
    rw [dif_pos hex, dif_pos hI, hj]
    exact Nat.lt_succ_of_le ((least hex).choose_spec.2 j hI')
   | exit i =>
    simp only [Option.some.injEq, Prod.mk.injEq] at hi
    obtain ⟨rfl, rfl⟩ := hi
    exact hQ _ _ h''
   | ret =>
    simp only [Option.some.injEq, Prod.mk.injEq] at hi
    obtain ⟨rfl, rfl⟩ := hi
    exact hQ _ _ h''
theorem sound_exec (hA : Agree P c) (hW : WrOk P c) (hD : Answers P den) (hdraw : DrawOk P c den) {k : Nat} {g : Told} : ∀ (code : Code) (Γ : Ctx) (st : St) (a : Act) (w : World) (ex : Ex) (st' : St) (Q : Exit → Act → World → Prop), Sim Γ st a w → drawsOk g code = true →
  exec c den (fun b hd st => iter b hd k st) g code st = some (ex, st') → (∀ a' w', Sims Γ st' a' w' → Q ex.to a' w') → code.wp P Q a w := by
 intro code
 induction code with
 | skip =>
  intro Γ st a w ex st' Q hs hdr h hQ
  simp only [exec, Option.some.injEq, Prod.mk.injEq] at h
  obtain ⟨rfl, rfl⟩ := h
  exact wp_skip (hQ a w ⟨Γ, Same.rfl', hs⟩)
 | region id ops draw =>
  intro Γ st a w ex st' Q hs hdr h hQ
  simp only [exec] at h
  cases draw with
  | true =>
   simp only [if_true] at h
   split at h
   ·rename_i hc
    cases hr : runOps c den ops ops.toList (st.head ([], [])) with
    | none => rw [hr] at h; cases h
    | some s =>
     rw [hr] at h
     simp only [Option.map_some, Option.some.injEq, Prod.mk.injEq] at h
     obtain ⟨rfl, rfl⟩ := h
     obtain ⟨Γ', hsame, hs'⟩ := hs.head ([], [])
     exact hdraw id ops (g id).2.2 Γ' _ s a w Q hs' (head_clean _ _) (by simpa [drawsOk] using hdr) hc hr (fun a2 w2 h2 => hQ _ _ (Sims.of hsame h2))
   ·cases h
  | false =>
   simp only [Bool.false_eq_true, if_false] at h
   cases hr : runOpsW c den ops ops.toList st with
   | none => rw [hr] at h; cases h
   | some s =>
    rw [hr] at h
    simp only [Option.map_some, Option.some.injEq, Prod.mk.injEq] at h
    obtain ⟨rfl, rfl⟩ := h
    exact wp_region_list (sound_runW hA hW hD _ Γ st a w s hs hr hQ)
 | seq x y ihx ihy =>
  intro Γ st a w ex st' Q hs hdr h hQ
  simp only [exec] at h
  cases hx : exec c den (fun b hd st => iter b hd k st) g x st with
  | none => rw [hx] at h; cases h
  | some z =>
   obtain ⟨e, s⟩ := z
   rw [hx] at h
   rw [drawsOk, Bool.and_eq_true] at hdr
   refine wp_seq (ihx Γ st a w e s _ hs hdr.1 hx (fun a' w' h' => ?_))
   cases e with
   | normal =>
    obtain ⟨Γ', hsame, hs'⟩ := h'
    exact ihy Γ' s a' w' ex st' Q hs' hdr.2 h (fun a2 w2 h2 => hQ _ _ (Sims.of hsame h2))
   | exit i =>
    simp only [Option.some.injEq, Prod.mk.injEq] at h
    obtain ⟨rfl, rfl⟩ := h
    exact hQ _ _ h'
   | ret =>
    simp only [Option.some.injEq, Prod.mk.injEq] at h
    obtain ⟨rfl, rfl⟩ := h
    exact hQ _ _ h'
 | cond x y z ihy ihz =>
  intro Γ st a w ex st' Q hs hdr h hQ
  simp only [exec] at h
  have hv := hs.ev x
  rw [drawsOk, Bool.and_eq_true] at hdr
  split at h
  ·rename_i hx
   rw [hx] at hv
   exact wp_cond_true hv.bool_inv (ihy Γ st a w ex st' Q hs hdr.1 h hQ)
  ·rename_i hx
   rw [hx] at hv
   exact wp_cond_false hv.bool_inv (ihz Γ st a w ex st' Q hs hdr.2 h hQ)
  ·cases h
 | block id y ih =>
  intro Γ st a w ex st' Q hs hdr h hQ
  simp only [exec] at h
  cases hx : exec c den (fun b hd st => iter b hd k st) g y st with
  | none => rw [hx] at h; cases h
  | some z =>
   obtain ⟨e, s⟩ := z
   rw [hx] at h
   refine wp_block (ih Γ st a w e s _ hs hdr hx (fun a' w' h' => ?_))
   cases e with
   | normal =>
    simp only [Option.some.injEq, Prod.mk.injEq] at h
    obtain ⟨rfl, rfl⟩ := h
    exact hQ _ _ h'
   | exit i =>
    simp only at h
    show (if i = id then _ else _)
    split at h
    ·rename_i hi
     rw [if_pos hi]
     simp only [Option.some.injEq, Prod.mk.injEq] at h
     obtain ⟨rfl, rfl⟩ := h
     exact hQ _ _ h'
    ·rename_i hi
     rw [if_neg hi]
     simp only [Option.some.injEq, Prod.mk.injEq] at h
     obtain ⟨rfl, rfl⟩ := h
     exact hQ _ _ h'
   | ret =>
    simp only [Option.some.injEq, Prod.mk.injEq] at h
    obtain ⟨rfl, rfl⟩ := h
    exact hQ _ _ h'
 | loop y ih =>
  intro Γ st a w ex st' Q hs hdr h hQ
  simp only [exec] at h
  cases hi : iter (exec c den (fun b hd st => iter b hd k st) g y) (fun s => s.head ((g (firstId y)).1, (g (firstId y)).2.1)) k st with
  | none => rw [hi] at h; cases h
  | some z =>
   rw [hi] at h
   simp only [Option.map_some, Option.some.injEq, Prod.mk.injEq] at h
   obtain ⟨rfl, rfl⟩ := h
   exact wp_iter (ex := z.1) (st' := z.2) ⟨Γ, Same.rfl', hs⟩ hi (fun Γ' s a w ex s' Q hs h hQ => ih Γ' s a w ex s' Q hs hdr h hQ) (fun Γ' s a w hs => hs.head _)
    (fun a' w' h' => hQ a' w' (let ⟨_, h1, h2⟩ := h'; Sims.of h1 (h2.head _)))
 | exit i =>
  intro Γ st a w ex st' Q hs hdr h hQ
  simp only [exec, Option.some.injEq, Prod.mk.injEq] at h
  obtain ⟨rfl, rfl⟩ := h
  exact wp_exit (hQ a w ⟨Γ, Same.rfl', hs⟩)
 | ret =>
  intro Γ st a w ex st' Q hs hdr h hQ
  simp only [exec, Option.some.injEq, Prod.mk.injEq] at h
  obtain ⟨rfl, rfl⟩ := h
  exact wp_ret (hQ a w ⟨Γ, Same.rfl', hs⟩)
 | _ =>
  intro Γ st a w ex st' Q hs hdr h hQ
  simp only [exec] at h
  cases h
theorem resOf_ok (hA : Agree P c) (hs : Sim Γ st a w) {r : ResultVar} {v : V} (h : resOf c st r = some v) :
    ∃ y, (match r with
      | .tmp t => (pure (a.tmps.getD t undef) : Sem Value)
      | .cell p t => do loadVar t (← asAddr (a.tmps.getD p undef))).run P w = .ok y w ∧ VR Γ w v y := by
  cases r with
  | tmp t =>
    simp only [resOf, Option.some.injEq] at h
    subst h
    exact ⟨a.tmps.getD t undef, by simp, by simpa [Am.ev, Act.eval] using hs.ev (.tmp t)⟩
  | cell p t =>
    simp only [resOf] at h
    split at h
    · rename_i i hi
      simp only [loadV] at h
      split at h
      · rename_i cs hc
        obtain ⟨ti, ai⟩ := hA _ _ hi
        have hv : VR Γ w (st.t.getD p .undef) (a.tmps.getD p undef) := by simpa [Am.ev, Act.eval] using hs.ev (.tmp p)
        obtain ⟨k, o', g, e, h1, h2⟩ := cellsAt_ok hs hv hc
        obtain ⟨y, hy, hv⟩ := packV_ok ai h h1 h2
        refine ⟨y, ?_, hv⟩
        simp only [e, asAddr, Sem.run_bind, Sem.run_pure, Result.andThen_ok, hy]
      · cases h
    · cases h
theorem ressOf_ok (hA : Agree P c) (hs : Sim Γ st a w) : ∀ (rs : List ResultVar) (vs : List V), ressOf c st rs = some vs →
    ∃ ys : List Value, (rs.mapM (fun r : ResultVar => match r with
      | .tmp t => (pure (a.tmps.getD t undef) : Sem Value)
      | .cell p t => do loadVar t (← asAddr (a.tmps.getD p undef)))).run P w = .ok ys w ∧ ys.length = vs.length ∧ ∀ (i : Nat) (v : V) (y : Value), vs[i]? = some v → ys[i]? = some y → VR Γ w v y := by
  intro rs
  induction rs with
  | nil =>
    intro vs h
    simp only [ressOf, Option.some.injEq] at h
    subst h
    exact ⟨[], by simp, rfl, fun i v y h => by simp at h⟩
  | cons r rs ih =>
    intro vs h
    simp only [ressOf] at h
    cases h1 : resOf c st r with
    | none => rw [h1] at h; cases h
    | some v =>
      cases h2 : ressOf c st rs with
      | none => rw [h1, h2] at h; cases h
      | some vs0 =>
        rw [h1, h2] at h
        simp only [Option.some.injEq] at h
        subst h
        obtain ⟨y, hy, hv⟩ := resOf_ok hA hs h1
        obtain ⟨ys, hys, hl, hr⟩ := ih vs0 h2
        refine ⟨y :: ys, ?_, by simp [hl], fun i v' y' e1 e2 => ?_⟩
        · rw [List.mapM_cons]
          simp only [Sem.run_bind, hy, Result.andThen_ok, hys, Sem.run_pure]
        · cases i with
          | zero =>
            simp only [List.getElem?_cons_zero, Option.some.injEq] at e1 e2
            subst e1; subst e2
            exact hv
          | succ i => exact hr i v' y' (by simpa using e1) (by simpa using e2)
def Ctx.placed (Γ : Ctx) (l : List (List Nat)) : Ctx := { Γ with has := fun j => ∃ b, l[j]? = some [b] ∧ l.idxOf [b] = j ∧ Γ.has b, blk := fun j => Γ.blk ((l.getD j []).headD 0),
                                                                 off := fun j => Γ.off ((l.getD j []).headD 0), cap := fun j => Γ.cap ((l.getD j []).headD 0), sz := fun j => Γ.sz ((l.getD j []).headD 0), ln := fun j => Γ.ln ((l.getD j []).headD 0), lb := fun _ => False, N := fun j => Γ.N ((l.getD j []).headD 0) }
theorem placed_at {l : List (List Nat)} {j b : Nat} (h : l[j]? = some [b]) : (l.getD j []).headD 0 = b := by
 rw [List.getD_eq_getElem?_getD, h]
 rfl
theorem idx_mem {l : List (List Nat)} {b : Nat} (hb : [b] ∈ l) : l[l.idxOf [b]]? = some [b] := by
 rw [List.getElem?_eq_getElem (List.idxOf_lt_length_of_mem hb), List.getElem_idxOf]
theorem placed_has {l : List (List Nat)} {b : Nat} (hb : [b] ∈ l) : (Γ.placed l).has (l.idxOf [b]) ↔ Γ.has b := by
 constructor
 ·rintro ⟨b', h2, h3, h4⟩
  rw [idx_mem hb] at h2
  simp only [Option.some.injEq, List.cons.injEq, and_true] at h2
  rw [h2]; exact h4
 ·intro h
  exact ⟨b, idx_mem hb, rfl, h⟩
theorem okRes_mem : ∀ {cs : List V}, okRes cs = true → ∀ u ∈ cs, okCell u = true := by
 intro cs
 induction cs with
 | nil => intro _ u hu; cases hu
 | cons v vs ih =>
  intro h u hu
  rw [okRes, Bool.and_eq_true] at h
  rcases List.mem_cons.1 hu with rfl | hu
  ·exact h.1
  ·exact ih h.2 u hu
theorem cellsOf_mem : ∀ {vs : List V} {v u : V}, v ∈ vs → u ∈ v.cells → u ∈ cellsOf vs := by
 intro vs
 induction vs with
 | nil => intro v u hv; cases hv
 | cons x vs ih =>
  intro v u hv hu
  rw [cellsOf, List.mem_append]
  rcases List.mem_cons.1 hv with rfl | hv
  ·exact .inl hu
  ·exact .inr (ih hv hu)
theorem leaf_place {l : List (List Nat)} : ∀ v x, (match v with
   | .agg _ => False
   | .tup _ => False
   | .clo _ _ => False
   | _ => True) → (∀ u ∈ v.cells, okCell u = true ∧ ∀ b ∈ cellB u, [b] ∈ l) → VR Γ w v x → VR (Γ.placed l) w ((numB l v).getD v) x := by
 intro u y hleaf hc hu
 have e1 : ∀ {b : Nat}, [b] ∈ l → (Γ.placed l).blk (l.idxOf [b]) = Γ.blk b := fun {b} hb => by show Γ.blk _ = _; rw [placed_at (idx_mem hb)]
 have e2 : ∀ {b : Nat}, [b] ∈ l → (Γ.placed l).off (l.idxOf [b]) = Γ.off b := fun {b} hb => by show Γ.off _ = _; rw [placed_at (idx_mem hb)]
 have e3 : ∀ {b : Nat}, [b] ∈ l → (Γ.placed l).cap (l.idxOf [b]) = Γ.cap b := fun {b} hb => by show Γ.cap _ = _; rw [placed_at (idx_mem hb)]
 have e4 : ∀ {b : Nat}, [b] ∈ l → (Γ.placed l).sz (l.idxOf [b]) = Γ.sz b := fun {b} hb => by show Γ.sz _ = _; rw [placed_at (idx_mem hb)]
 have e5 : ∀ {b : Nat}, [b] ∈ l → (Γ.placed l).ln (l.idxOf [b]) = Γ.ln b := fun {b} hb => by show Γ.ln _ = _; rw [placed_at (idx_mem hb)]
 have e6 : ∀ {b : Nat}, [b] ∈ l → (Γ.placed l).N (l.idxOf [b]) = Γ.N b := fun {b} hb => by show Γ.N _ = _; rw [placed_at (idx_mem hb)]
 have uu : ∀ {q : Q} {b s k o : Nat} {xs : List V}, [b] ∈ l → Γ.Uq w q b s xs k o → (Γ.placed l).Uq w q (l.idxOf [b]) s xs k o := fun hb h hq hU => (h hq hU).mono (fun m hm => ⟨by rw [e6 hb]; exact hm.1, hm.2⟩) (fun _ _ _ => rfl) (fun _ _ _ => rfl)
 have sq : ∀ q k, Γ.Sq q k → (Γ.placed l).Sq q k := fun q k h => by cases q <;> exact h
 have rr : ∀ {q : Q} {s k o : Nat} {xs : List V}, Rows w (Γ.Sq q) s xs k o → Rows w ((Γ.placed l).Sq q) s xs k o := fun h => h.mono (sq _) (fun _ _ _ => rfl) (fun _ _ _ => rfl)
 cases u with
 | undef => exact VR.undef_ _
 | bool b => rw [hu.bool_inv]; exact .rd _ _ (.bool b)
 | int k m => rw [hu.int_inv]; exact .rd _ _ (.int k m)
 | str s => obtain ⟨z, rfl, hz⟩ := hu.str_inv; exact .rd _ _ (.str s z hz)
 | nil => rw [hu.nil_inv]; exact .rd _ _ .nil
 | sl s f xs => exact .rd _ _ hu.sl_inv
 | iptr z o =>
  cases hu with
  | rd _ _ h => exact .rd _ _ h
 | ptr d n => exact absurd (hc _ (List.mem_singleton.2 rfl)).1 (by simp [okCell])
 | eptr b s q xs i o => exact absurd (hc _ (List.mem_singleton.2 rfl)).1 (by simp [okCell])
 | vptr b z o => exact absurd (hc _ (List.mem_singleton.2 rfl)).1 (by simp [okCell])
 | agg _ => cases hleaf
 | tup _ => cases hleaf
 | clo _ _ => cases hleaf
 | own b s q xs =>
  have hb : [b] ∈ l := (hc _ (List.mem_singleton.2 rfl)).2 b (List.mem_singleton.2 rfl)
  simp only [numB, Option.getD_some]
  have huq := hu.own_uq
  rcases hu.own_inv with ⟨rfl, rfl, h3⟩ | ⟨rfl, h1, h2, h3, h4, h5⟩
  ·exact .ownNil _ _ _ (fun h => h3 ((placed_has hb).1 h))
  ·have := VR.own (Γ := Γ.placed l) (w := w) (l.idxOf [b]) s q xs ((placed_has hb).2 h1) (by rw [e4 hb]; exact h2) (by rw [e3 hb, e5 hb]; exact h3) (by rw [e1 hb, e2 hb]; exact rr h4) h5 (by rw [e1 hb, e2 hb]; exact uu hb huq)
   rwa [e1 hb, e2 hb, e3 hb] at this
 | view b s q xs =>
  have hb : [b] ∈ l := (hc _ (List.mem_singleton.2 rfl)).2 b (List.mem_singleton.2 rfl)
  simp only [numB, Option.getD_some]
  have hu0 := hu
  rcases hu.view_inv with ⟨ad, cap, rfl, rfl⟩ | ⟨o, cap, rfl, h1, hx, h3, hfit, h4, h5⟩
  ·exact .view0 _ _ _ _ _
  ·have := VR.view (Γ := Γ.placed l) (w := w) (l.idxOf [b]) s q xs o cap ((placed_has hb).2 h1) hx h3 (by rw [e2 hb, e3 hb, e4 hb]; exact hfit) (by rw [e1 hb]; exact rr h4) h5 (by rw [e1 hb]; exact uu hb hu0.view_uq)
   rwa [e1 hb] at this
theorem resCell_ok {j : Nat} {z v : V} {x : Value} (h : VR Γ w v x) (hn : v = .nil → ¬ Γ.has j) : VR Γ w (resCell j z v) x := by
 unfold resCell
 split
 ·rw [h.nil_inv]; exact .ownNil _ _ _ (hn rfl)
 ·rw [h.nil_inv]; exact .view0 _ _ _ _ _
 ·rename_i b s q xs
  have huq := h.own_uq
  rcases h.own_inv with ⟨rfl, rfl, _⟩ | ⟨rfl, h1, h2, h3, h4, h5⟩
  ·exact .view0 _ _ _ _ _
  ·by_cases hx : xs = []
   ·subst hx; exact .view0 _ _ _ _ _
   ·exact .view b s q xs _ _ h1 (List.length_pos_iff.2 hx) h3.1 (by rw [h2]; exact Nat.le_refl _) h4 h5 huq
 ·rw [h.nil_inv]; exact .rd _ _ (.empty _ _ _ _)
 ·exact h
theorem resCells_len : ∀ (zs vs : List V) (j : Nat), (resCells j zs vs).length = vs.length := by
 intro zs
 induction zs with
 | nil => intro vs j; cases vs <;> rfl
 | cons z zs ih => intro vs j; cases vs with
  | nil => rfl
  | cons v vs => rw [resCells, List.length_cons, ih, List.length_cons]
theorem resCells_ok : ∀ (zs vs : List V) (j : Nat), (∀ k, vs[k]? = some .nil → ¬ Γ.has (j + k)) → ∀ (i : Nat) (u : V), (resCells j zs vs)[i]? = some u → ∃ v, vs[i]? = some v ∧ ∀ x, VR Γ w v x → VR Γ w u x := by
 intro zs
 induction zs with
 | nil => intro vs j _ i u h; cases vs <;> exact ⟨u, h, fun _ h => h⟩
 | cons z zs ih =>
  intro vs j hn i u h
  cases vs with
  | nil => simp [resCells] at h
  | cons v vs =>
   rw [resCells] at h
   cases i with
   | zero =>
    simp only [List.getElem?_cons_zero, Option.some.injEq] at h
    subst h
    exact ⟨v, rfl, fun x hx => resCell_ok hx (fun e => hn 0 (by rw [e]; rfl))⟩
   | succ i =>
    obtain ⟨y, h1, h2⟩ := ih vs (j + 1) (fun k hk => by have := hn (k + 1) (by simpa using hk); rwa [show j + 1 + k = j + (k + 1) by omega]) i u (by simpa using h)
    exact ⟨y, by simpa using h1, h2⟩
theorem resRow_ok {j : Nat} {zs : List V} {v : V} {x : Value} (h : VR Γ w v x) (hn : ∀ k, v.cells[k]? = some .nil → ¬ Γ.has (j + k)) : VR Γ w (resRow j zs v) x := by
 cases v with
 | agg cs =>
  obtain ⟨vs, rfl, h1, h2⟩ := h.agg_inv
  refine .agg _ vs (by rw [resCells_len]; exact h1) (fun i c v e1 e2 => ?_)
  obtain ⟨y, hy, hu⟩ := resCells_ok (w := w) zs cs j hn i c e1
  exact hu v (h2 i y v hy e2)
 | _ =>
  unfold resRow
  split
  ·rename_i heq; cases heq
  ·split
   ·exact resCell_ok h (fun e => by have := hn 0 (by rw [e]; rfl); simpa using this)
   ·exact h
theorem resRows_len : ∀ (vs zs : List V) (j : Nat), (resRows j zs vs).length = vs.length := by
 intro vs
 induction vs with
 | nil => intro zs j; cases zs <;> rfl
 | cons v vs ih => intro zs j; rw [resRows, List.length_cons, ih, List.length_cons]
theorem resRows_get : ∀ (vs zs : List V) (j i : Nat) (u : V), (resRows j zs vs)[i]? = some u → ∃ v j' zs', vs[i]? = some v ∧ u = resRow (j + j') zs' v ∧ ∀ k c, v.cells[k]? = some c → (cellsOf vs)[j' + k]? = some c := by
 intro vs
 induction vs with
 | nil => intro zs j i u h; cases zs <;> simp [resRows] at h
 | cons v vs ih =>
  intro zs j i u h
  rw [resRows] at h
  cases i with
  | zero =>
   simp only [List.getElem?_cons_zero, Option.some.injEq] at h
   refine ⟨v, 0, zs, rfl, h.symm, fun k c hk => ?_⟩
   rw [cellsOf, Nat.zero_add, List.getElem?_append_left (List.getElem?_eq_some_iff.1 hk).1]
   exact hk
  | succ i =>
   obtain ⟨y, j', zs', h1, h2, h3⟩ := ih _ _ i u (by simpa using h)
   refine ⟨y, v.cells.length + j', zs', by simpa using h1, by rw [h2]; congr 1; omega, fun k c hk => ?_⟩
   rw [cellsOf, List.getElem?_append_right (by omega)]
   rw [← h3 k c hk]
   congr 1
   omega
theorem cellsOf_numB (l : List (List Nat)) : ∀ (vs : List V), cellsOf (V.mapBs (numB l) vs) = V.mapBs (numB l) (cellsOf vs) := by
 have happ : ∀ (a b : List V), V.mapBs (numB l) (a ++ b) = V.mapBs (numB l) a ++ V.mapBs (numB l) b := by
  intro a b
  induction a with
  | nil => rfl
  | cons x a ih => rw [List.cons_append, V.mapBs, V.mapBs, ih, List.cons_append]
 intro vs
 induction vs with
 | nil => rfl
 | cons v vs ih =>
  rw [V.mapBs, cellsOf, cellsOf, ih, happ]
  congr 1
  cases v <;> rfl
theorem numB_nil {l : List (List Nat)} : ∀ {cs : List V} {k : Nat}, (V.mapBs (numB l) cs)[k]? = some .nil → cs[k]? = some .nil := by
 intro cs k h
 rw [mapBs_get] at h
 cases hc : cs[k]? with
 | none => rw [hc] at h; cases h
 | some c =>
  rw [hc] at h
  simp only [Option.map_some, Option.some.injEq] at h
  cases c <;> first | rfl | (simp only [V.mapB, numB, Option.getD_some, Option.getD_none] at h; cases h)
theorem finish_ok (hA : Agree P c) (hs : Sim Γ st a w) (hF : ∀ k, Γ.F k → Γ.w0.heap.size ≤ k) {fn : Func} {zs : List V} {r : V} (h : finish c zs st fn.results.toList = some r) :
  ∃ x, (results fn a.tmps).run P w = .ok x w ∧ Answer Γ.R Γ.w0 r x w := by
 unfold finish at h
 split at h
 ·rename_i vs hvs
  simp only at h
  split at h
  ·rename_i hok
   obtain ⟨ys, hys, hl, hr⟩ := ressOf_ok hA hs _ vs hvs
   let v1 := V.mapBs (settle st.dead) (V.mapBs (coarse st.dup) vs)
   let l := (cellsOf v1).map cellB
   let Γ1 := (Γ.coarse st.dup).settled st.dead
   have g : Good (Γ.coarse st.dup) w := hs.good.coarse
   have hg1 : Good Γ1 w := g.settled
   have key : ∀ (i : Nat) (v : V) (y : Value), (V.mapBs (numB l) v1)[i]? = some v → ys[i]? = some y → VR (Γ1.placed l) w v y := by
    intro i v y hv hy
    rw [mapBs_get] at hv
    cases hv1 : v1[i]? with
    | none => rw [hv1] at hv; cases hv
    | some u =>
     rw [hv1] at hv
     simp only [Option.map_some, Option.some.injEq] at hv
     subst hv
     have hu1 := hv1
     simp only [v1] at hv1
     rw [mapBs_get, mapBs_get] at hv1
     cases hv0 : vs[i]? with
     | none => rw [hv0] at hv1; cases hv1
     | some z =>
      rw [hv0] at hv1
      simp only [Option.map_some, Option.some.injEq] at hv1
      have hz : VR Γ1 w u y := by
       rw [← hv1]
       exact VR.sweep (leaf_settle g) _ y (VR.sweep (leaf_coarse hs.du) z y (hr i z y hv0 hy))
      refine VR.sweepC (fun v => ∀ u ∈ v.cells, okCell u = true ∧ ∀ b ∈ cellB u, [b] ∈ l) (fun cs h u hu => ?_) (fun cs h => ?_) (fun _ cs h => ?_) leaf_place u y (fun z hz => ⟨okRes_mem hok z (cellsOf_mem (mem_of_get hu1) hz), fun b hb => ?_⟩) hz
      ·have := h u hu
       have huc : u.cells = [u] := by cases u <;> first | rfl | (exact absurd this.1 (by simp [okCell]))
       rw [huc]
       intro u' hu'
       rw [List.mem_singleton.1 hu']
       exact this
      ·exact absurd (h _ (List.mem_singleton.2 rfl)).1 (by simp [okCell])
      ·exact absurd (h _ (List.mem_singleton.2 rfl)).1 (by simp [okCell])
      ·have : cellB z = [b] := by cases z <;> simp [cellB] at hb ⊢ <;> exact hb.symm
       rw [← this]
       exact List.mem_map.2 ⟨z, cellsOf_mem (mem_of_get hu1) hz, rfl⟩
   have key : ∀ (i : Nat) (v : V) (y : Value), (resRows 0 zs (V.mapBs (numB l) v1))[i]? = some v → ys[i]? = some y → VR (Γ1.placed l) w v y := by
    intro i v y hv hy
    obtain ⟨u, j', zs', h1, rfl, h3⟩ := resRows_get _ _ _ _ _ hv
    refine resRow_ok (key i u y h1 hy) (fun k hk => ?_)
    have h4 := h3 k .nil hk
    rw [cellsOf_numB] at h4
    have h5 := numB_nil h4
    rintro ⟨b, hb, _⟩
    have h6 : l[j' + k]? = some [] := by
     show ((cellsOf v1).map cellB)[j' + k]? = some []
     rw [List.getElem?_map, h5]
     rfl
    rw [Nat.zero_add, h6] at hb
    cases hb
   have hlen : (resRows 0 zs (V.mapBs (numB l) v1)).length = ys.length := by rw [resRows_len, mapBs_len, mapBs_len, mapBs_len, hl]
   have hval : ∃ x, (results fn a.tmps).run P w = .ok x w ∧ VR (Γ1.placed l) w r x := by
    have hrun : (results fn a.tmps).run P w = .ok (if h : ys.toArray.size = 1 then ys.toArray[0] else .tuple ys.toArray) w := by
     unfold results
     rw [Array.mapM_eq_mapM_toList]
     simp only [Sem.run_bind, Sem.run_map, Sem.run_pure]
     exact congrArg (fun q : Result (List Value) => (q.andThen fun a w' => Result.ok a.toArray w').andThen fun a w' => Result.ok (if h : a.size = 1 then a[0] else Value.tuple a) w') hys
    refine ⟨_, hrun, ?_⟩
    change (match resRows 0 zs (V.mapBs (numB l) v1) with
     | [w] => some w
     | ws => some (V.tup ws)) = some r at h
    cases hm : resRows 0 zs (V.mapBs (numB l) v1) with
    | nil =>
     rw [hm] at h hlen
     simp only [Option.some.injEq] at h
     subst h
     have : ys = [] := List.eq_nil_of_length_eq_zero (by simpa using hlen.symm)
     subst this
     exact .tup [] #[] rfl (fun i c v h => by simp at h)
    | cons u us =>
     cases us with
     | nil =>
      rw [hm] at h hlen
      simp only [Option.some.injEq] at h
      subst h
      cases ys with
      | nil => simp at hlen
      | cons y ys =>
       have : ys = [] := List.eq_nil_of_length_eq_zero (by simpa using hlen.symm)
       subst this
       exact key 0 u y (by rw [hm]; rfl) rfl
     | cons u2 us =>
      rw [hm] at h hlen
      simp only [Option.some.injEq] at h
      subst h
      have h1 : ¬ ys.toArray.size = 1 := by simp at hlen; simp; omega
      rw [dif_neg h1]
      refine .tup _ _ (by simpa using hlen) (fun i z y hz hy => key i z y (by rw [hm]; exact hz) (by simpa using hy))
   obtain ⟨x, hx1, hx2⟩ := hval
   refine ⟨x, hx1, ⟨g.os, g.tape, g.output, g.size, fun k hk => g.old k hk (fun hF' => by have := hF k hF'; omega), Γ1.placed l, hx2, hF, fun k hk => ⟨?_, hg1.slt k hk⟩, ?_, ?_, ?bz, fun k hk => ?zf, trivial, ?ns, ?nd⟩⟩
   case ns =>
    rintro j ⟨b, h1, _, h3⟩ m hm
    change Γ1.N _ m at hm
    rw [placed_at h1] at hm
    exact hg1.ns b h3 m hm
   case nd =>
    rintro j j' ⟨b, h1, h2, h3⟩ ⟨b', h1', h2', h3'⟩ hne m hm hm'
    change Γ1.N _ m at hm hm'
    rw [placed_at h1] at hm
    rw [placed_at h1'] at hm'
    exact hs.nd (hs.du hm.1) b b' h3.1 h3'.1 h3.2 h3'.2 (fun e => hne (by rw [← h2, ← h2', e])) m hm.2 hm'.2
   case bz =>
    rintro j ⟨b, h1, _, h3⟩
    show Γ1.Z (Γ.blk _)
    rw [placed_at h1]
    exact hg1.bz b h3
   case zf =>
    obtain ⟨z1, z2, z3⟩ := hg1.zf k hk
    exact ⟨hF k z1, z2, z3⟩
   ·rcases hg1.sr k hk with h | h
    ·exact .inl h
    ·exact .inr (hF k h)
   ·rintro j ⟨b, h1, _, h3⟩
    show _ ≤ Γ.blk _ ∧ Γ.blk _ < _ ∧ ¬ Γ1.S (Γ.blk _) ∧ Γ.cap _ ≤ _ ∧ ∃ cur e, w.heap[Γ.blk _]? = _ ∧ Γ.off _ + Γ.cap _ * Γ.sz _ ≤ _
    rw [placed_at h1]
    obtain ⟨b1, b2, b3, b4⟩ := hg1.base b h3
    refine ⟨hF _ b1, b2, ?_, b3, b4⟩
    rintro (h | ⟨b', hb', hdd, h⟩)
    ·exact hs.nds b h3.1 h3.2 h
    ·have := g.baseInj b b' h3.1 hb' h
     subst this
     rw [h3.2] at hdd
     cases hdd
   ·rintro j j' ⟨b, h1, h2, h3⟩ ⟨b', h1', h2', h3'⟩ he
    change Γ.blk _ = Γ.blk _ at he
    rw [placed_at h1, placed_at h1'] at he
    have := g.baseInj b b' h3.1 h3'.1 he
    subst this
    rw [← h2, ← h2']
  ·cases h
 ·cases h
theorem sound_fn (hA : Agree P c) (hW : WrOk P c) (hD : Answers P den) (hdraw : DrawOk P c den) {k f : Nat} {fn : Func} {args : List V} {r : V} (hf : P.funcs[f]? = some fn) (h : fnRun c den (fun b hd st => iter b hd k st) f fn args = some r)
  {R : Nat → Prop} {w : World} {vals : Array Value} (hg : globOk w) (hR : ∀ k, R k → k < w.heap.size) (hl : args.length = vals.size) (hv : ∀ (i : Nat) (c : V) (v : Value), args[i]? = some c → vals[i]? = some v → Rd w R c v) :
  Calls P f vals w fun
   | .returned x, w' => Answer R w r x w'
   | _, _ => False := by
 unfold fnRun at h
 split at h
 ·cases h
 ·rename_i code hcode
  split at h
  ·cases h
  rename_i hdr
  have hdr : drawsOk (c.fg f) code = true := by simpa using hdr
  refine calls_of_wp hf hcode ?_
  let Γ : Ctx := { w0 := w, F := fun k => w.heap.size ≤ k, S := R, has := fun _ => False, blk := fun _ => 0, off := fun _ => 0, cap := fun _ => 0, sz := fun _ => 0, ln := fun _ => 0, lb := fun _ => False, box := fun _ => 0, R := R, Z := fun _ => False, N := fun _ _ => False, U := True }
  have hgood : Good Γ w := ⟨rfl, rfl, rfl, Nat.le_refl _, fun _ _ _ => rfl, fun _ h => h, hR, fun _ h => h.elim, fun _ _ h => h.elim, fun _ h => h.elim, fun _ _ h => h.elim, fun _ _ h => h.elim, fun _ h => .inl h, ⟨hg, fun k h => Nat.le_trans hg.2 h⟩, fun _ h => h.elim, fun _ h => h.elim, fun _ h => h.elim, fun h => h⟩
  have hs : Sim Γ ⟨args ++ List.replicate (fn.ntmps - args.length) .undef, List.replicate fn.ntmps none, fun _ => false, false⟩ { tmps := vals ++ Array.replicate (fn.ntmps - vals.size) undef, defers := [] } w := by
   refine ⟨hgood, rfl, by simp [hl], fun i v hi => ?_, fun k v hk => ?_, fun _ h => h.elim, fun _ => trivial, fun _ _ _ h => h.elim⟩
   ·simp only at hi ⊢
    rcases Nat.lt_or_ge i args.length with h1 | h1
    ·rw [List.getElem?_append_left h1] at hi
     have h2 : i < vals.size := by omega
     refine ⟨vals[i], by rw [Array.getElem?_append_left h2]; simp [h2], .rd _ _ (hv i v vals[i] hi (by simp [h2]))⟩
    ·rw [List.getElem?_append_right h1, List.getElem?_replicate] at hi
     split at hi
     ·rename_i h3
      simp only [Option.some.injEq] at hi
      subst hi
      refine ⟨undef, ?_, VR.undef_ _⟩
      rw [Array.getElem?_append_right (by omega), Array.getElem?_replicate, if_pos (by omega)]
     ·cases hi
   ·simp only [List.getElem?_replicate] at hk
    split at hk <;> cases hk
  split at h
  ·rename_i s hx
   refine sound_exec hA hW hD hdraw code Γ _ _ w _ s _ hs hdr hx (fun a' w' ⟨Γ', hsame, hs'⟩ => ?_)
   obtain ⟨x, h1, h2⟩ := finish_ok hA hs' (by rw [hsame.2.1, hsame.1]; exact fun _ h => h) h
   rw [hsame.2.2, hsame.1] at h2
   exact ⟨hs'.dz, x, h1, h2⟩
  ·rename_i s hx
   refine sound_exec hA hW hD hdraw code Γ _ _ w _ s _ hs hdr hx (fun a' w' ⟨Γ', hsame, hs'⟩ => ?_)
   obtain ⟨x, h1, h2⟩ := finish_ok hA hs' (by rw [hsame.2.1, hsame.1]; exact fun _ h => h) h
   rw [hsame.2.2, hsame.1] at h2
   exact ⟨hs'.dz, x, h1, h2⟩
  ·cases h
theorem sound_denN (hA : Agree P c) (hW : WrOk P c) (hdraw : ∀ den, Answers P den → DrawOk P c den) {ext : Nat → List V → Option V} (hext : Answers P ext) : ∀ k, Answers P (denN P c ext k) := by
 intro k
 induction k with
 | zero => intro f args r h; cases h
 | succ k ih =>
  intro f args r h
  rw [denN] at h
  cases he : ext f args with
  | some x =>
   rw [he] at h
   simp only [Option.some.injEq] at h
   subst h
   exact hext f args x he
  | none =>
   rw [he] at h
   simp only at h
   cases hf : P.funcs[f]? with
   | none => rw [hf] at h; cases h
   | some fn =>
    rw [hf] at h
    simp only at h
    split at h
    ·cases h
    ·rename_i hn
     refine ⟨⟨fn, rfl, ?_, by simpa using hn⟩, fun R w vals hg hR hl hv => sound_fn hA hW ih (hdraw _ ih) hf h hg hR hl hv⟩
     unfold fnRun at h
     cases hb : fn.body with
     | none => rw [hb] at h; cases h
     | some _ => rfl
theorem sound_den (hA : Agree P c) (hW : WrOk P c) (hdraw : ∀ den, Answers P den → DrawOk P c den) {ext : Nat → List V → Option V} (hext : Answers P ext) : Answers P (Go.Am.den P c ext) := by
 intro f args r h
 obtain ⟨k, hk⟩ := den_some h
 exact sound_denN hA hW hdraw hext k f args r hk
end
end Go.Am
end
section
set_option linter.unusedVariables false
set_option linter.unusedSimpArgs false
namespace Go.Am
open Go Go.RowKit
section
variable {P : Program} {c : Cfg} {Γ Γ' : Ctx} {st : St} {a : Act} {w w' : World} {den : Nat → List V → Option V} {η : Nat → Option V} {d : Nat} {p q : Nat → Bool}
def Real (st : St) : Prop := ∃ Γ a w, Sim Γ st a w
theorem wp_some {o : Oper} {next : Act → World → Prop} (h : o.wp P a w next (fun _ _ _ => False)) : ∃ a' w', next a' w' := by
 unfold Oper.wp at h
 generalize (execOp a.eval o).run P w = r at h
 cases r with
 | ok n w' =>
  cases n with
  | value v => exact ⟨_, _, h⟩
  | skip => exact ⟨_, _, h⟩
  | defer d => exact ⟨_, _, h⟩
  | enter f args =>
   obtain ⟨e, w'', fr, hR, _⟩ := h []
   cases e with
   | returned v => exact ⟨_, _, hR⟩
   | panicked _ => exact hR.elim
   | outgrown => obtain ⟨_, _, hq⟩ := hR; exact hq.elim
  | row row args =>
   obtain ⟨v, w'', hR, _⟩ := h default []
   exact ⟨_, _, hR⟩
  | _ => exact h.elim
 | halt x w' => cases x <;> exact h.elim
theorem real_step (hA : Agree P c) (hD : Answers P den) {o : Oper} {st' : St} (hs : Real st) (h : step c den st o = some st') : Real st' := by
 obtain ⟨Γ, a, w, hs⟩ := hs
 obtain ⟨a', w', Γ', _, h'⟩ := wp_some (sound_step hA hD hs h (fun a' w' => Sims Γ st' a' w') (fun _ _ _ => False) (fun _ _ h => h))
 exact ⟨Γ', a', w', h'⟩
def Av (p q : Nat → Bool) (v : V) : Prop := v.anyB p = false ∧ v.anyP q = false
def AvO (p q : Nat → Bool) : Out → Prop
 | .val v => Av p q v
 | .box r => Av p q r
 | .fresh v _ _ => Av p q v
theorem anyBs_of {p : Nat → Bool} : ∀ {cs : List V}, (∀ c ∈ cs, c.anyB p = false) → V.anyBs p cs = false := by
 intro cs
 induction cs with
 | nil => intro _; rfl
 | cons v vs ih => intro h; rw [V.anyBs, h v (by simp), ih (fun c hc => h c (by simp [hc]))]; rfl
theorem anyPs_of {p : Nat → Bool} : ∀ {cs : List V}, (∀ c ∈ cs, c.anyP p = false) → V.anyPs p cs = false := by
 intro cs
 induction cs with
 | nil => intro _; rfl
 | cons v vs ih => intro h; rw [V.anyPs, h v (by simp), ih (fun c hc => h c (by simp [hc]))]; rfl
theorem Av.agg {cs : List V} (h : ∀ c ∈ cs, Av p q c) : Av p q (.agg cs) := ⟨anyBs_of fun c hc => (h c hc).1, anyPs_of fun c hc => (h c hc).2⟩
theorem Av.tup {cs : List V} (h : ∀ c ∈ cs, Av p q c) : Av p q (.tup cs) := ⟨anyBs_of fun c hc => (h c hc).1, anyPs_of fun c hc => (h c hc).2⟩
theorem Av.clo {f : Nat} {cs : List V} (h : ∀ c ∈ cs, Av p q c) : Av p q (.clo f cs) := ⟨anyBs_of fun c hc => (h c hc).1, anyPs_of fun c hc => (h c hc).2⟩
theorem Av.agg_inv {cs : List V} (h : Av p q (.agg cs)) : ∀ c ∈ cs, Av p q c := fun c hc => ⟨anyBs_mem h.1 c hc, anyPs_mem h.2 c hc⟩
theorem Av.tup_inv {cs : List V} (h : Av p q (.tup cs)) : ∀ c ∈ cs, Av p q c := fun c hc => ⟨anyBs_mem h.1 c hc, anyPs_mem h.2 c hc⟩
theorem Av.clo_inv {f : Nat} {cs : List V} (h : Av p q (.clo f cs)) : ∀ c ∈ cs, Av p q c := fun c hc => ⟨anyBs_mem h.1 c hc, anyPs_mem h.2 c hc⟩
theorem Av.cells {v : V} (h : Av p q v) : ∀ c ∈ v.cells, Av p q c := by
 cases v with
 | agg cs => exact h.agg_inv
 | _ => intro c hc; simp only [V.cells, List.mem_singleton] at hc; subst hc; exact h
theorem Rd.av {S : Nat → Prop} {v : V} {x : Value} (h : Rd w S v x) : Av p q v := by
 induction h with
 | agg cs vs hl hr ih =>
  refine .agg fun c hc => ?_
  obtain ⟨i, hi⟩ := List.getElem?_of_mem hc
  exact ih i c vs[i]! hi (by have := (List.getElem?_eq_some_iff.1 hi).1; rw [hl] at this; simp [this])
 | tup cs vs hl hr ih =>
  refine .tup fun c hc => ?_
  obtain ⟨i, hi⟩ := List.getElem?_of_mem hc
  exact ih i c vs[i]! hi (by have := (List.getElem?_eq_some_iff.1 hi).1; rw [hl] at this; simp [this])
 | clo f cs vs hl hr ih =>
  refine .clo fun c hc => ?_
  obtain ⟨i, hi⟩ := List.getElem?_of_mem hc
  exact ih i c vs[i]! hi (by have := (List.getElem?_eq_some_iff.1 hi).1; rw [hl] at this; simp [this])
 | _ => exact ⟨rfl, rfl⟩
theorem zero_av (hA : Agree P c) {t : Nat} {i : TyInfo} (h : c.ty t = some i) : Av p q i.zero := by
 obtain ⟨ti, ai⟩ := hA _ _ h
 obtain ⟨z, _, hz, _⟩ := ai.zero
 exact (hz (default : World) (fun _ => True)).av
theorem cellsAt_av (hs : Sim Γ st a w) {v : V} {x : Value} {cs : List V} (hv : VR Γ w v x) (hη : ∀ b r, η b = some r → Av p q r) (h : cellsAt η v = some cs) : ∀ u ∈ cs, Av p q u := by
 cases v with
 | ptr d o =>
  simp only [cellsAt] at h
  cases hr : η d with
  | none => rw [hr] at h; cases h
  | some r =>
   rw [hr] at h
   simp only [Option.map_some, Option.some.injEq] at h
   subst h
   exact fun u hu => (hη d r hr).cells u (List.mem_of_mem_drop hu)
 | iptr z o =>
  simp only [cellsAt, Option.some.injEq] at h
  subst h
  obtain ⟨k, o', g, _, _, _, h3⟩ := hv.iptr_inv
  intro u hu
  obtain ⟨j, hj⟩ := List.getElem?_of_mem (List.mem_of_mem_drop hu)
  exact (h3 j u hj).av
 | vptr b z o =>
  simp only [cellsAt, Option.some.injEq] at h
  subst h
  obtain ⟨o', g, _, _, _, h3⟩ := hv.vptr_inv
  intro u hu
  obtain ⟨j, hj⟩ := List.getElem?_of_mem (List.mem_of_mem_drop hu)
  exact (h3 j u hj).av
 | eptr b s k xs i o =>
  simp only [cellsAt] at h
  cases hr : xs[i]? with
  | none => rw [hr] at h; cases h
  | some r =>
   rw [hr] at h
   simp only [Option.map_some, Option.some.injEq] at h
   subst h
   obtain ⟨_, _, _, _, _, ⟨r1, g, r2, r3⟩, _⟩ := hv.eptr_inv
   intro u hu
   obtain ⟨j, hj⟩ := List.getElem?_of_mem (List.mem_of_mem_drop hu)
   exact (r3 i r j u hr hj).av
 | _ => cases h
theorem packV_av {ag : Bool} {n : Nat} {cs : List V} {v : V} (h : packV ag n cs = some v) (hc : ∀ u ∈ cs, Av p q u) : Av p q v := by
 unfold packV at h
 split at h
 ·cases h
 ·split at h
  ·simp only [Option.some.injEq] at h
   subst h
   exact .agg fun u hu => hc u (List.mem_of_mem_take hu)
  ·split at h
   ·exact hc v (List.mem_of_mem_head? h)
   ·cases h
theorem over_av {cs new cs' : List V} {o : Nat} (h : over cs o new = some cs') (hc : ∀ u ∈ cs, Av p q u) (hn : ∀ u ∈ new, Av p q u) : ∀ u ∈ cs', Av p q u := by
 intro u hu
 obtain ⟨j, hj⟩ := List.getElem?_of_mem hu
 rw [over_get h j] at hj
 split at hj
 ·exact hn u (mem_of_get hj)
 ·exact hc u (mem_of_get hj)
theorem fillV_av {place : Nat → Option (Nat × Nat)} : ∀ (ps : List (Nat × V)) (cs cs' : List V), fillV place cs ps = some cs' → (∀ u ∈ cs, Av p q u) → (∀ x ∈ ps, Av p q x.2) → ∀ u ∈ cs', Av p q u := by
 intro ps
 induction ps with
 | nil =>
  intro cs cs' h hc _
  simp only [fillV, Option.some.injEq] at h
  subst h
  exact hc
 | cons x ps ih =>
  intro cs cs' h hc hx
  obtain ⟨i, v⟩ := x
  simp only [fillV] at h
  repeat' split at h
  all_goals first | (cases h; done) | skip
  rename_i _ _ _ _ _ hov
  exact ih _ _ h (over_av hov hc ((hx (i, v) (by simp)).cells)) (fun y hy => hx y (by simp [hy]))
end
end Go.Am
end
section
set_option linter.unusedVariables false
set_option linter.unusedSimpArgs false
namespace Go.Am
open Go Go.RowKit
section
variable {P : Program} {c : Cfg} {Γ Γ' : Ctx} {st : St} {a : Act} {w w' : World} {den : Nat → List V → Option V} {η : Nat → Option V} {d : Nat} {p q : Nat → Bool}
theorem thawB_names (hp : ∀ j, j < 1000 → p (base d j) = false) (r : V) : r.anyB (fun b => decide (999 ≤ b)) = false → Av p q (r.mapB (thawB d)) := by
 refine V.rec (motive_1 := fun r => r.anyB (fun b => decide (999 ≤ b)) = false → Av p q (r.mapB (thawB d))) (motive_2 := fun rs => V.anyBs (fun b => decide (999 ≤ b)) rs = false → ∀ u ∈ V.mapBs (thawB d) rs, Av p q u)
  (fun _ => ⟨rfl, rfl⟩) (fun _ _ => ⟨rfl, rfl⟩) (fun _ _ _ => ⟨rfl, rfl⟩) (fun _ _ => ⟨rfl, rfl⟩) (fun _ => ⟨rfl, rfl⟩) (fun _ _ _ _ _ => ⟨rfl, rfl⟩) (fun b _ _ _ _ h => ⟨hp b (Nat.lt_of_lt_of_le (by simpa [V.anyB] using h) (by decide : 999 ≤ 1000)), rfl⟩) (fun b _ _ _ _ h => ⟨hp b (Nat.lt_of_lt_of_le (by simpa [V.anyB] using h) (by decide : 999 ≤ 1000)), rfl⟩)
  (fun _ _ _ => ⟨rfl, rfl⟩) (fun _ _ _ _ _ _ _ _ => ⟨rfl, rfl⟩) (fun _ _ _ _ _ => ⟨rfl, rfl⟩) (fun _ _ _ _ => ⟨rfl, rfl⟩)
  (fun _ ih h => .agg (ih h)) (fun _ ih h => .tup (ih h)) (fun _ _ ih h => .clo (ih h)) (fun _ u hu => (by cases hu)) ?_ r
 intro v vs hv hvs h u hu
 rw [V.anyBs, Bool.or_eq_false_iff] at h
 rw [V.mapBs] at hu
 rcases List.mem_cons.1 hu with rfl | hu
 ·exact hv h.1
 ·exact hvs h.2 u hu
theorem cut_av {n : Nat} {v u : V} {lo hi : Option V} (h : cut n v lo hi = some u) (hv : Av p q v) : Av p q u := by
 unfold cut at h
 repeat' split at h
 all_goals first | (cases h; done) | (simp only [Option.some.injEq] at h; subst h; exact hv)
theorem addrOf_av {s : Nat} {v u : V} {i : Int} (h : addrOf s v i = some u) (hv : Av p q v) : Av p q u := by
 unfold addrOf at h
 repeat' split at h
 all_goals first
  | (cases h; done)
  | (simp only [Option.some.injEq] at h; subst h; exact hv)
  | skip
 ·rename_i xs hs
  cases hx : xs[i.toNat]? with
  | none => rw [hx] at h; cases h
  | some z => rw [hx] at h; simp only [Option.map_some, Option.some.injEq] at h; subst h; exact ⟨rfl, rfl⟩
 ·rename_i b s' k xs hs
  cases hx : xs[i.toNat]? with
  | none => rw [hx] at h; cases h
  | some z => rw [hx] at h; simp only [Option.map_some, Option.some.injEq] at h; subst h; exact hv
theorem addOff_av {v u : V} {n : Nat} (h : addOff v n = some u) (hv : Av p q v) : Av p q u := by
 unfold addOff at h
 repeat' split at h
 all_goals first | (cases h; done) | (simp only [Option.some.injEq] at h; subst h; exact hv)
theorem mapInt_av {k : IntKind} {o : Option Int} {v : V} (h : (o.map fun n => V.int k (k.wrap n)) = some v) : Av p q v := by
 cases o with
 | none => cases h
 | some n => simp only [Option.map_some, Option.some.injEq] at h; subst h; exact ⟨rfl, rfl⟩
theorem agg_av {x : V} {cs : List V} (hx : Av p q x) (he : x = .agg cs) {ag : Bool} {n o : Nat} {v : V} (h : packV ag n (cs.drop o) = some v) : Av p q v := by
 subst he
 exact packV_av h (fun u hu => hx.agg_inv u (List.mem_of_mem_drop hu))
theorem tup_av {x v : V} {vs : List V} (hx : Av p q x) (he : x = .tup vs) {i : Nat} (h : vs[i]? = some v) : Av p q v := by
 subst he
 exact hx.tup_inv _ (mem_of_get h)
theorem names_op (hA : Agree P c) (hs : Sim Γ st a w) (hη : ∀ b r, η b = some r → Av p q r) (hp : ∀ j, j < 1000 → p (base d j) = false) {op : Op} (H : ∀ x ∈ op.operands.toList, Av p q (ev st.t x)) {out : Out}
  (h : valOp c den (ev st.t) η d op = some out) : AvO p q out := by
 cases op with
 | move x =>
  simp only [valOp, plain, Option.some.injEq] at h
  subst h
  exact H x (by simp [Op.operands])
 | assign x =>
  simp only [valOp, plain, Option.some.injEq] at h
  subst h
  exact H x (by simp [Op.operands])
 | pick x y z =>
  simp only [valOp, plain] at h
  repeat' split at h
  ·simp only [Option.some.injEq] at h; subst h; exact H y (by simp [Op.operands])
  ·simp only [Option.some.injEq] at h; subst h; exact H z (by simp [Op.operands])
  ·cases h
 | alloc e =>
  simp only [valOp] at h
  split at h
  ·rename_i i hi
   simp only [Option.some.injEq] at h; subst h
   exact zero_av hA hi
  ·cases h
 | box e x =>
  simp only [valOp] at h
  repeat' split at h
  all_goals first | (cases h; done) | (simp only [Option.some.injEq] at h; subst h; exact H x (by simp [Op.operands]))
 | build t ps =>
  simp only [valOp, plain] at h
  repeat' split at h
  all_goals first | (cases h; done) | skip
  rename_i hcs
  simp only [Option.some.injEq] at h; subst h
  refine Av.agg (fillV_av _ _ _ hcs (zero_av hA (by assumption)).cells (fun x hx => ?_))
  obtain ⟨y, hy, rfl⟩ := List.mem_map.1 hx
  exact H y.2 (by simp only [Op.operands]; exact List.mem_map.2 ⟨y, hy, rfl⟩)
 | buildSlice t n ps =>
  simp only [valOp] at h
  repeat' split at h
  all_goals first | (cases h; done) | skip
  simp only [Option.some.injEq] at h; subst h
  exact ⟨hp 0 (by omega), rfl⟩
 | load t x =>
  simp only [valOp, plain, loadV] at h
  repeat' split at h
  all_goals first | (cases h; done) | skip
  rename_i hl
  simp only [Option.some.injEq] at h; subst h
  split at hl
  ·rename_i cs hc
   exact packV_av hl (cellsAt_av hs (hs.ev x) hη hc)
  ·cases hl
 | nilCheck x =>
  have hx := H x (by simp [Op.operands])
  simp only [valOp, plain] at h
  repeat' split at h
  all_goals first | (cases h; done) | skip
  all_goals
   rename_i he
   simp only [Option.some.injEq] at h; subst h
   rw [he] at hx
   exact hx
 | binOp o t x y t' =>
  simp only [valOp, plain] at h
  repeat' split at h
  all_goals first | (cases h; done) | skip
  rename_i i hi v hv
  simp only [Option.some.injEq] at h; subst h
  unfold binV at hv
  repeat' split at hv
  all_goals first
   | (cases hv; done)
   | (simp only [Option.some.injEq] at hv; subst hv; exact ⟨rfl, rfl⟩)
   | skip
  ·unfold intOp at hv
   repeat' split at hv
   all_goals first
    | (cases hv; done)
    | (simp only [Option.some.injEq] at hv; subst hv; exact ⟨rfl, rfl⟩)
    | skip
   exact mapInt_av hv
  ·unfold strOp at hv
   repeat' split at hv
   all_goals first
    | (cases hv; done)
    | (simp only [Option.some.injEq] at hv; subst hv; exact ⟨rfl, rfl⟩)
 | unOp u t x =>
  cases u <;> simp only [valOp, plain] at h <;> first
   | (cases h; done)
   | skip
  all_goals
   repeat' split at h
   all_goals first | (cases h; done) | (simp only [Option.some.injEq] at h; subst h; exact ⟨rfl, rfl⟩)
 | convert s t x =>
  have hx := H x (by simp [Op.operands])
  simp only [valOp, plain] at h
  cases hc : convV c s t (ev st.t x) with
  | some v =>
   rw [hc] at h
   simp only [Option.some.injEq] at h; subst h
   have hv := hc
   unfold convV at hv
   repeat' split at hv
   all_goals first
    | (cases hv; done)
    | (simp only [Option.some.injEq] at hv; subst hv; first | exact hx | exact ⟨rfl, rfl⟩)
    | skip
  | none =>
   rw [hc] at h
   simp only at h
   cases hb : convB c s t (ev st.t x) with
   | some v =>
    rw [hb] at h
    simp only [Option.some.injEq] at h; subst h
    have hv := hb
    unfold convB at hv
    split at hv
    ·rename_i xs _
     cases hy : bytesOf xs with
     | none => rw [hy] at hv; cases hv
     | some l => rw [hy] at hv; simp only [Option.map_some, Option.some.injEq] at hv; subst hv; exact ⟨rfl, rfl⟩
    ·cases hv
   | none =>
    rw [hb] at h
    cases hf : bytesFor c s t (ev st.t x) with
    | none => rw [hf] at h; cases h
    | some v =>
     rw [hf] at h
     simp only [Option.map_some, Option.some.injEq] at h; subst h
     have hv := hf
     unfold bytesFor at hv
     repeat' split at hv
     all_goals first
      | (cases hv; done)
      | (simp only [Option.some.injEq] at hv; subst hv; exact ⟨rfl, rfl⟩)
      | skip
 | makeFunc fn first cap =>
  cases fn with
  | func f =>
   simp only [valOp, plain] at h
   split at h
   ·simp only [Option.some.injEq] at h; subst h
    refine Av.clo fun u hu => ?_
    obtain ⟨y, hy, rfl⟩ := List.mem_map.1 hu
    exact H y (by simp only [Op.operands, Array.toList_append, List.mem_append]; exact .inr hy)
   ·cases h
  | _ => simp only [valOp] at h; cases h
 | makeSlice t l k =>
  simp only [valOp] at h
  repeat' split at h
  all_goals first | (cases h; done) | skip
  simp only [Option.some.injEq] at h; subst h
  exact ⟨hp 0 (by omega), rfl⟩
 | slice t x lo hi mx =>
  have hx := H x (by simp [Op.operands])
  cases mx with
  | some _ => simp only [valOp] at h; cases h
  | none =>
   simp only [valOp, plain] at h
   repeat' split at h
   all_goals first | (cases h; done) | skip
   ·simp only [Option.some.injEq] at h; subst h; exact ⟨rfl, rfl⟩
   ·rename_i v hv
    simp only [Option.some.injEq] at h; subst h
    exact cut_av hv hx
 | fieldAddr t x f =>
  have hx := H x (by simp [Op.operands])
  simp only [valOp, plain] at h
  repeat' split at h
  all_goals first | (cases h; done) | skip
  rename_i v hv
  simp only [Option.some.injEq] at h; subst h
  exact addOff_av hv hx
 | field t x f =>
  have hx := H x (by simp [Op.operands])
  simp only [valOp, plain] at h
  repeat' split at h
  all_goals first | (cases h; done) | skip
  rename_i hv
  simp only [Option.some.injEq] at h; subst h
  exact agg_av hx (by assumption) hv
 | indexAddr t x y =>
  have hx := H x (by simp [Op.operands])
  simp only [valOp, plain] at h
  repeat' split at h
  all_goals first | (cases h; done) | skip
  ·rename_i v hv
   simp only [Option.some.injEq] at h; subst h
   exact addrOf_av hv hx
  ·rename_i v hv
   simp only [Option.some.injEq] at h; subst h
   exact addOff_av hv hx
 | index t x y =>
  have hx := H x (by simp [Op.operands])
  simp only [valOp, plain] at h
  repeat' split at h
  all_goals first | (cases h; done) | skip
  ·simp only [Option.some.injEq] at h; subst h; exact ⟨rfl, rfl⟩
  ·rename_i hv
   simp only [Option.some.injEq] at h; subst h
   exact agg_av hx (by assumption) hv
 | extract x i =>
  have hx := H x (by simp [Op.operands])
  simp only [valOp, plain] at h
  repeat' split at h
  all_goals first | (cases h; done) | skip
  rename_i hv
  simp only [Option.some.injEq] at h; subst h
  exact tup_av hx (by assumption) hv
 | call cl =>
  obtain ⟨callee, args, ts⟩ := cl
  cases callee with
  | value f =>
   simp only [valOp] at h
   repeat' split at h
   all_goals first | (cases h; done) | skip
   obtain ⟨v, esc, n, rfl⟩ := takeR_fresh h
   obtain ⟨t1, rfl, _⟩ := takeR_inv h
   exact thawB_names hp _ t1
  | invoke f m => simp only [valOp] at h; cases h
  | builtin bi =>
   cases bi <;> simp only [valOp, plain] at h <;> first | (cases h; done) | skip
   all_goals
    repeat' split at h
    all_goals first
     | (cases h; done)
     | (simp only [Option.some.injEq] at h; subst h; first | exact ⟨rfl, rfl⟩ | exact ⟨hp 0 (by omega), rfl⟩)
 | _ =>
  simp only [valOp] at h
  cases h
end
end Go.Am
end
