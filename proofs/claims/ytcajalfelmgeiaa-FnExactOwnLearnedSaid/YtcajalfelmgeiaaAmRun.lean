/-
  A region whose order is given; a loop's head. No theorem about a Go program stands here.
-/
import Derived.Test.YtcajalfelmgeiaaAmStep
set_option linter.unusedVariables false
set_option linter.unusedSimpArgs false
namespace Go.Am
open Go Go.RowKit
section
variable {P : Program} {c : Cfg} {Γ Γ' : Ctx} {st : St} {a : Act} {w w' : World} {den : Nat → List V → Option V} {η : Nat → Option V} {d : Nat}

theorem wanted_ok {ops : Array Oper} (hs : Sim Γ st a w) {o : Oper} {b : Bool} (h : wanted ops st.t o = some b) : Region.wanted o (yielded ops a.tmps) = b := by
  unfold wanted at h
  unfold Region.wanted
  split at h
  · rename_i hg
    simp only [Option.some.injEq] at h
    subst h
    simp [hg]
  · rename_i j want hg
    simp only [hg]
    split at h
    · rename_i d hd
      have hv : VR Γ w (st.t.getD d .undef) (a.tmps.getD d undef) := by simpa [Am.ev, Act.eval] using hs.ev (.tmp d)
      unfold yielded
      rw [hd]
      split at h
      · rename_i b' hb
        simp only [Option.some.injEq] at h
        rw [hb] at hv
        have := hv.bool_inv
        cases ht : a.tmps[d]? with
        | none => simp [Array.getD_eq_getD_getElem?, ht] at this; cases this
        | some x =>
          simp [Array.getD_eq_getD_getElem?, ht] at this
          subst this
          simp [ht, ← h]
      · rename_i hb
        simp only [Option.some.injEq] at h
        rw [hb] at hv
        obtain ⟨vs, e, _⟩ := hv.tup_inv
        cases ht : a.tmps[d]? with
        | none => simp [ht, ← h]
        | some x =>
          simp [Array.getD_eq_getD_getElem?, ht] at e
          subst e
          simp [ht, ← h]
      · cases h
    · rename_i hd
      simp only [Option.some.injEq] at h
      simp [yielded, hd, ← h]

theorem skip_ok (hs : Sim Γ st a w) (d : Nat) : Sim Γ { st with t := st.t.set d skipped } (a.put (some d) undef) w :=
  hs.put (v := skipped) (x := undef) (.tup [] #[] rfl (fun i c v h => by simp at h))

/-- A region, in the order in which it stands. -/
theorem sound_run (hA : Agree P c) (hD : Answers P den) {ops : Array Oper} {Q : Exit → Act → World → Prop} : ∀ (l : List Oper) (Γ : Ctx) (st : St) (a : Act) (w : World) (st' : St), Sim Γ st a w → runOps c den ops l st = some st' →
    (∀ a' w', Sims Γ st' a' w' → Q .normal a' w') → wpList P ops Q l a w := by
  intro l
  induction l with
  | nil =>
    intro Γ st a w st' hs h hQ
    simp only [runOps, Option.some.injEq] at h
    subst h
    exact wpList_nil (hQ a w ⟨Γ, Same.rfl', hs⟩)
  | cons o l ih =>
    intro Γ st a w st' hs h hQ
    simp only [runOps] at h
    split at h
    · cases h
    · rename_i hw
      split at h
      · rename_i s hst
        refine wpList_step fun K hK => ?_
        rw [if_pos (wanted_ok hs hw)]
        exact sound_step hA hD hs hst K Q (fun a' w' ⟨Γ', hsame, hs'⟩ => hK _ _ (ih Γ' s a' w' st' hs' h (fun a2 w2 h2 => hQ _ _ (Sims.of hsame h2))))
      · cases h
    · rename_i hw
      refine wpList_step fun K hK => ?_
      rw [if_neg (by rw [wanted_ok hs hw]; simp)]
      refine hK _ _ ?_
      split at h
      · rename_i d hd
        rw [hd]
        exact ih Γ _ _ w st' (skip_ok hs d) h hQ
      · rename_i hd
        rw [hd]
        exact ih Γ _ _ w st' hs h hQ

/-! ### a loop's head -/
theorem forget_get (ds : List Nat) : ∀ (l : List V) (k i : Nat), (forget ds k l)[i]? = (l[i]?).map fun v => if ds.contains (k + i) then .undef else v := by
  intro l
  induction l with
  | nil => intro k i; rfl
  | cons v l ih =>
    intro k i
    rw [forget]
    cases i with
    | zero => simp
    | succ i =>
      simp only [List.getElem?_cons_succ, ih]
      rw [show k + 1 + i = k + (i + 1) by omega]
theorem forget_len (ds : List Nat) : ∀ (l : List V) (k : Nat), (forget ds k l).length = l.length := by
  intro l
  induction l with
  | nil => intro k; rfl
  | cons v l ih => intro k; rw [forget, List.length_cons, ih, List.length_cons]
theorem dropH_get (ds : List Nat) : ∀ (l : List (Option V)) (k i : Nat) (v : V), (dropH ds k l)[i]? = some (some v) → l[i]? = some (some v) := by
  intro l
  induction l with
  | nil => intro k i v h; simp [dropH] at h
  | cons x l ih =>
    intro k i v h
    rw [dropH] at h
    cases i with
    | zero =>
      simp only [List.getElem?_cons_zero, Option.some.injEq] at h ⊢
      split at h
      · cases h
      · exact h
    | succ i => exact ih _ _ _ (by simpa using h)

/-- A sweep over a whole state whose values are of a kind. -/
theorem Sim.sweepC {f : V → Option V} {dead : Nat → Bool} (C : V → Prop) (hagg : ∀ cs, C (.agg cs) → ∀ u ∈ cs, C u) (htup : ∀ cs, C (.tup cs) → ∀ u ∈ cs, C u) (hclo : ∀ g cs, C (.clo g cs) → ∀ u ∈ cs, C u)
    (hs : Sim Γ st a w) (hCt : ∀ u ∈ st.t, C u) (hCh : ∀ u, some u ∈ st.h → C u)
    (hl : ∀ v x, (match v with
      | .agg _ => False
      | .tup _ => False
      | .clo _ _ => False
      | _ => True) → C v → VR Γ w v x → VR Γ' w' ((f v).getD v) x) (hf : ∀ v u, f v = some u → u.cells = [u]) (hg : Good Γ' w') (hlb : ∀ k, Γ.lb k → Γ'.lb k) (hbox : ∀ k, Γ'.box k = Γ.box k)
    (hw : ∀ k, Γ.lb k → w'.heap[Γ.box k]? = w.heap[Γ.box k]?) (hn : ∀ b, Γ'.has b → dead b = false → ¬ Γ'.S (Γ'.blk b)) : Sim Γ' { st.sweep f with dead := dead } a w' := by
  refine ⟨hg, hs.dz, ?_, fun i v h => ?_, fun k v h => ?_, hn⟩
  · show _ = (V.mapBs f st.t).length
    rw [mapBs_len]; exact hs.len
  · change (V.mapBs f st.t)[i]? = some v at h
    rw [mapBs_get] at h
    cases hc : st.t[i]? with
    | none => rw [hc] at h; cases h
    | some u =>
      rw [hc] at h
      simp only [Option.map_some, Option.some.injEq] at h
      subst h
      obtain ⟨x, h1, h2⟩ := hs.tm i u hc
      exact ⟨x, h1, VR.sweepC C hagg htup hclo hl u x (hCt u (mem_of_get hc)) h2⟩
  · change (mapBo f st.h)[k]? = some (some v) at h
    rw [mapBo_get] at h
    cases hc : st.h[k]? with
    | none => rw [hc] at h; cases h
    | some uo =>
      cases uo with
      | none => rw [hc] at h; cases h
      | some u =>
        rw [hc] at h
        simp only [Option.map_some, Option.some.injEq] at h
        subst h
        obtain ⟨h1, cur, e, h2, h3, h4⟩ := hs.bx k u hc
        have hCu := hCh u (mem_of_get hc)
        refine ⟨hlb k h1, cur, e, by rw [hbox, hw k h1]; exact h2, ?_, fun j z hz => ?_⟩
        · rw [mapB_cells f hf, mapBs_len]; exact h3
        · rw [mapB_cells f hf, mapBs_get] at hz
          cases hu : u.cells[j]? with
          | none => rw [hu] at hz; cases hz
          | some y =>
            rw [hu] at hz
            simp only [Option.map_some, Option.some.injEq] at hz
            subst hz
            obtain ⟨x, e1, e2⟩ := h4 j y hu
            refine ⟨x, e1, VR.sweepC C hagg htup hclo hl y x ?_ e2⟩
            cases u with
            | agg cs => exact hagg cs hCu y (mem_of_get hu)
            | _ =>
              obtain rfl : j = 0 := by
                cases j with
                | zero => rfl
                | succ j => simp [V.cells] at hu
              simp only [V.cells, List.getElem?_cons_zero, Option.some.injEq] at hu
              subst hu
              exact hCu

theorem settle_one (dead : Nat → Bool) : ∀ v u, settle dead v = some u → u.cells = [u] := by
  intro v u h
  cases v <;> simp only [settle] at h <;> first
    | (cases h; done)
    | (split at h <;> first
        | (simp only [Option.some.injEq] at h; subst h; first | rfl | (split <;> rfl))
        | cases h)
theorem rename_one (l : List Nat) : ∀ v u, rename l v = some u → u.cells = [u] := by
  intro v u h
  cases v <;> simp only [rename] at h <;> first
    | (cases h; done)
    | (simp only [Option.some.injEq] at h; subst h; rfl)
theorem dropBox_one (l : List Nat) : ∀ v u, dropBox l v = some u → u.cells = [u] := by
  intro v u h
  cases v <;> simp only [dropBox] at h <;> first
    | (cases h; done)
    | (split at h <;> first
        | (simp only [Option.some.injEq] at h; subst h; rfl)
        | cases h)

/-- What is written no more, frozen for good. -/
def Ctx.settled (Γ : Ctx) (dead : Nat → Bool) : Ctx := { Γ with S := fun k => Γ.S k ∨ ∃ b, Γ.has b ∧ dead b = true ∧ k = Γ.blk b, has := fun b => Γ.has b ∧ dead b = false }

theorem Good.settled {dead : Nat → Bool} (g : Good Γ w) : Good (Γ.settled dead) w := by
  refine ⟨g.os, g.tape, g.output, g.size, g.old, g.new, ?_, fun b hb => g.base b hb.1, fun b b' hb hb' => g.baseInj b b' hb.1 hb'.1, fun k hk => ?_, g.boxInj, fun b k hb hk => g.baseBox b k hb.1 hk, ?_, g.gl, fun b hb => g.bz b hb.1, g.zf⟩
  · rintro k (h | ⟨b, hb, _, rfl⟩)
    · exact g.slt k h
    · exact (g.base b hb).2.1
  · obtain ⟨h1, h2, h3⟩ := g.box k hk
    refine ⟨h1, ?_, h3⟩
    rintro (h | ⟨b, hb, _, h⟩)
    · exact h2 h
    · exact g.baseBox b k hb hk h.symm
  · rintro k (h | ⟨b, hb, _, rfl⟩)
    · exact g.sr k h
    · exact .inr (g.base b hb).1

theorem Sq_settled {dead : Nat → Bool} {q : Q} {k : Nat} (h : Γ.Sq q k) : (Γ.settled dead).Sq q k := by
  cases q with
  | any => exact .inl h
  | flat => exact ⟨.inl h.1, h.2⟩
  | clean => exact ⟨.inl h.1, h.2⟩

theorem leaf_settle {dead : Nat → Bool} (g : Good Γ w) : LeafOk Γ (Γ.settled dead) w w (settle dead) := by
  have rr : ∀ {q : Q} {s k o : Nat} {xs : List V}, Rows w (Γ.Sq q) s xs k o → Rows w ((Γ.settled dead).Sq q) s xs k o := fun h => h.mono (fun _ => Sq_settled) (fun _ _ _ => rfl) (fun _ _ _ => rfl)
  have rs : ∀ {q : Q} {s k o : Nat} {xs : List V}, Rows w (Γ.Sq q) s xs k o → Rows w (Γ.settled dead).S s xs k o := fun h => h.mono (fun k hk => .inl (Sq_le hk)) (fun _ _ _ => rfl) (fun _ _ _ => rfl)
  have rd : ∀ {u : V} {y : Value}, Rd w Γ.S u y → Rd w (Γ.settled dead).S u y := fun h => h.mono (fun k hk => .inl hk) (fun _ _ _ => rfl)
  intro u y hleaf hu
  cases u with
  | undef => exact VR.undef_ _
  | bool b => rw [hu.bool_inv]; exact .rd _ _ (.bool b)
  | int k m => rw [hu.int_inv]; exact .rd _ _ (.int k m)
  | str s => obtain ⟨z, rfl, hz⟩ := hu.str_inv; exact .rd _ _ (.str s z hz)
  | nil => rw [hu.nil_inv]; exact .rd _ _ .nil
  | sl s f xs => exact .rd _ _ (rd hu.sl_inv)
  | iptr z o =>
    cases hu with
    | rd _ _ h => exact .rd _ _ (rd h)
  | ptr d n =>
    obtain ⟨rfl, h⟩ := hu.ptr_inv
    exact .ptr (Γ := Γ.settled dead) d n h
  | agg _ => cases hleaf
  | tup _ => cases hleaf
  | clo _ _ => cases hleaf
  | own b s q xs =>
    simp only [settle]
    split
    · rename_i hdb
      simp only [Option.getD_some]
      rcases hu.own_inv with ⟨rfl, rfl, h3⟩ | ⟨rfl, h1, h2, h3, h4, h5⟩
      · exact .rd _ _ (.empty _ _ _ _)
      · exact .rd _ _ (Rd.sl_of (rs h4) h5 h3.1 (.inr ⟨b, h1, hdb, rfl⟩))
    · rename_i hdb
      simp only [Option.getD_none]
      rcases hu.own_inv with ⟨rfl, rfl, h3⟩ | ⟨rfl, h1, h2, h3, h4, h5⟩
      · exact .ownNil _ _ _ (fun h => h3 h.1)
      · exact .own (Γ := Γ.settled dead) b s q xs ⟨h1, by simpa using hdb⟩ h2 h3 (rr h4) h5
  | view b s q xs =>
    simp only [settle]
    split
    · rename_i hdb
      simp only [Option.getD_some]
      rcases hu.view_inv with ⟨ad, cap, rfl, rfl⟩ | ⟨o, cap, rfl, h1, hx, h3, hfit, h4, h5⟩
      · exact .rd _ _ (.empty _ _ _ _)
      · exact .rd _ _ (Rd.sl_of (rs h4) h5 h3 (.inr ⟨b, h1, hdb, rfl⟩))
    · rename_i hdb
      simp only [Option.getD_none]
      rcases hu.view_inv with ⟨ad, cap, rfl, rfl⟩ | ⟨o, cap, rfl, h1, hx, h3, hfit, h4, h5⟩
      · exact .view0 _ _ _ _ _
      · exact .view (Γ := Γ.settled dead) b s q xs o cap ⟨h1, by simpa using hdb⟩ hx h3 hfit (rr h4) h5
  | eptr b s q xs i o =>
    obtain ⟨rfl, h1, h2, h3, h4, h5, h6⟩ := hu.eptr_inv
    simp only [settle]
    split
    · rename_i hdb
      simp only [Option.getD_some]
      split
      · rename_i z hz
        obtain ⟨r1, gg, r2, r3⟩ := h5
        refine .rd _ _ (.iptr z (Γ.blk b) (Γ.off b + i * s) o (gg i) (.inr ⟨b, h1, hdb, rfl⟩) (fun j hj => (r2 i j h4 (by rw [← r1 z (mem_of_get hz)]; exact hj)).1) (fun j u hu => ?_))
        exact (r3 i z j u hz hu).mono (fun k hk => .inl (Sq_le hk)) (fun _ _ _ => rfl)
      · exact VR.undef_ _
    · rename_i hdb
      simp only [Option.getD_none]
      exact .eptr (Γ := Γ.settled dead) b s q xs i o ⟨h1, by simpa using hdb⟩ h2 h3 h4 (rr h5) h6
  | vptr b z o =>
    obtain ⟨o', gg, rfl, h1, h2, h3⟩ := hu.vptr_inv
    simp only [settle]
    split
    · rename_i hdb
      simp only [Option.getD_some]
      exact .rd _ _ (.iptr z (Γ.blk b) o' o gg (.inr ⟨b, h1, hdb, rfl⟩) h2 (fun j u hu => rd (h3 j u hu)))
    · rename_i hdb
      simp only [Option.getD_none]
      exact .vptr (Γ := Γ.settled dead) b z o' o gg ⟨h1, by simpa using hdb⟩ h2 (fun j u hu => rd (h3 j u hu))

/-- Names made anew. -/
def Ctx.renamed (Γ : Ctx) (l : List Nat) : Ctx := { Γ with has := fun b' => ∃ i b, b' = canonBase i ∧ l[i]? = some b ∧ l.idxOf b = i ∧ Γ.has b, blk := fun b' => Γ.blk (l.getD (b' - 1000000) 0),
                                                           off := fun b' => Γ.off (l.getD (b' - 1000000) 0), cap := fun b' => Γ.cap (l.getD (b' - 1000000) 0), sz := fun b' => Γ.sz (l.getD (b' - 1000000) 0), ln := fun b' => Γ.ln (l.getD (b' - 1000000) 0) }
theorem renamed_at {l : List Nat} {i b : Nat} (h : l[i]? = some b) : l.getD (canonBase i - 1000000) 0 = b := by
  unfold canonBase
  rw [show 1000000 + i - 1000000 = i by omega, List.getD_eq_getElem?_getD, h]
  rfl
theorem renamed_has {l : List Nat} {b : Nat} (hb : b ∈ l) : (Γ.renamed l).has (canonBase (l.idxOf b)) ↔ Γ.has b := by
  have hi : l[l.idxOf b]? = some b := by
    rw [List.getElem?_eq_getElem (List.idxOf_lt_length_of_mem hb), List.getElem_idxOf]
  constructor
  · rintro ⟨i, b', h1, h2, h3, h4⟩
    have : i = l.idxOf b := by unfold canonBase at h1; omega
    subst this
    rw [hi] at h2
    injection h2 with h2
    rw [h2]; exact h4
  · intro h
    exact ⟨_, b, rfl, hi, rfl, h⟩
theorem Good.renamed {l : List Nat} (g : Good Γ w) : Good (Γ.renamed l) w := by
  refine ⟨g.os, g.tape, g.output, g.size, g.old, g.new, g.slt, ?_, ?_, g.box, g.boxInj, ?_, g.sr, g.gl, ?_, g.zf⟩
  · rintro _ ⟨i, b, rfl, h1, _, h2⟩
    show Γ.F (Γ.blk (l.getD _ 0)) ∧ Γ.blk (l.getD _ 0) < _ ∧ Γ.cap (l.getD _ 0) ≤ _ ∧ ∃ cur e, w.heap[Γ.blk (l.getD _ 0)]? = _ ∧ Γ.off (l.getD _ 0) + Γ.cap (l.getD _ 0) * Γ.sz (l.getD _ 0) ≤ _
    rw [renamed_at h1]
    exact g.base b h2
  · rintro _ _ ⟨i, b, rfl, h1, h2, h3⟩ ⟨i', b', rfl, h1', h2', h3'⟩ he
    change Γ.blk (l.getD _ 0) = Γ.blk (l.getD _ 0) at he
    rw [renamed_at h1, renamed_at h1'] at he
    have := g.baseInj b b' h3 h3' he
    subst this
    rw [← h2, ← h2']
  · rintro _ k ⟨i, b, rfl, h1, _, h2⟩ hk
    show Γ.blk (l.getD _ 0) ≠ _
    rw [renamed_at h1]
    exact g.baseBox b k h2 hk
  · rintro _ ⟨i, b, rfl, h1, _, h2⟩
    show Γ.Z (Γ.blk (l.getD _ 0))
    rw [renamed_at h1]
    exact g.bz b h2
theorem idx_at {l : List Nat} {b : Nat} (hb : b ∈ l) : l.getD (canonBase (l.idxOf b) - 1000000) 0 = b :=
  renamed_at (by rw [List.getElem?_eq_getElem (List.idxOf_lt_length_of_mem hb), List.getElem_idxOf])

theorem leaf_rename {l : List Nat} : ∀ v x, (match v with
      | .agg _ => False
      | .tup _ => False
      | .clo _ _ => False
      | _ => True) → (∀ b, v.anyB (fun b' => b' == b) = true → b ∈ l) → VR Γ w v x → VR (Γ.renamed l) w ((rename l v).getD v) x := by
  intro u y hleaf hc hu
  have e1 : ∀ {b : Nat}, b ∈ l → (Γ.renamed l).blk (canonBase (l.idxOf b)) = Γ.blk b := fun {b} hb => by show Γ.blk (l.getD _ 0) = _; rw [idx_at hb]
  have e2 : ∀ {b : Nat}, b ∈ l → (Γ.renamed l).off (canonBase (l.idxOf b)) = Γ.off b := fun {b} hb => by show Γ.off (l.getD _ 0) = _; rw [idx_at hb]
  have e3 : ∀ {b : Nat}, b ∈ l → (Γ.renamed l).cap (canonBase (l.idxOf b)) = Γ.cap b := fun {b} hb => by show Γ.cap (l.getD _ 0) = _; rw [idx_at hb]
  have e4 : ∀ {b : Nat}, b ∈ l → (Γ.renamed l).sz (canonBase (l.idxOf b)) = Γ.sz b := fun {b} hb => by show Γ.sz (l.getD _ 0) = _; rw [idx_at hb]
  have e5 : ∀ {b : Nat}, b ∈ l → (Γ.renamed l).ln (canonBase (l.idxOf b)) = Γ.ln b := fun {b} hb => by show Γ.ln (l.getD _ 0) = _; rw [idx_at hb]
  have sq : ∀ q k, Γ.Sq q k → (Γ.renamed l).Sq q k := fun q k h => by cases q <;> exact h
  have rr : ∀ {q : Q} {s k o : Nat} {xs : List V}, Rows w (Γ.Sq q) s xs k o → Rows w ((Γ.renamed l).Sq q) s xs k o := fun h => h.mono (sq _) (fun _ _ _ => rfl) (fun _ _ _ => rfl)
  cases u with
  | undef => exact VR.undef_ _
  | bool b => rw [hu.bool_inv]; exact .rd _ _ (.bool b)
  | int k m => rw [hu.int_inv]; exact .rd _ _ (.int k m)
  | str s => obtain ⟨z, rfl, hz⟩ := hu.str_inv; exact .rd _ _ (.str s z hz)
  | nil => rw [hu.nil_inv]; exact .rd _ _ .nil
  | sl s f xs => exact .rd _ _ hu.sl_inv
  | iptr z o =>
    cases hu with
    | rd _ _ h => exact .rd _ _ h
  | ptr d n =>
    obtain ⟨rfl, h⟩ := hu.ptr_inv
    exact .ptr (Γ := Γ.renamed l) d n h
  | agg _ => cases hleaf
  | tup _ => cases hleaf
  | clo _ _ => cases hleaf
  | own b s q xs =>
    have hb := hc b (by simp [V.anyB])
    simp only [rename, Option.getD_some]
    rcases hu.own_inv with ⟨rfl, rfl, h3⟩ | ⟨rfl, h1, h2, h3, h4, h5⟩
    · exact .ownNil _ _ _ (fun h => h3 ((renamed_has hb).1 h))
    · have := VR.own (Γ := Γ.renamed l) (w := w) (canonBase (l.idxOf b)) s q xs ((renamed_has hb).2 h1) (by rw [e4 hb]; exact h2) (by rw [e3 hb, e5 hb]; exact h3) (by rw [e1 hb, e2 hb]; exact rr h4) h5
      rwa [e1 hb, e2 hb, e3 hb] at this
  | view b s q xs =>
    have hb := hc b (by simp [V.anyB])
    simp only [rename, Option.getD_some]
    rcases hu.view_inv with ⟨ad, cap, rfl, rfl⟩ | ⟨o, cap, rfl, h1, hx, h3, hfit, h4, h5⟩
    · exact .view0 _ _ _ _ _
    · have := VR.view (Γ := Γ.renamed l) (w := w) (canonBase (l.idxOf b)) s q xs o cap ((renamed_has hb).2 h1) hx h3 (by rw [e2 hb, e3 hb, e4 hb]; exact hfit) (by rw [e1 hb]; exact rr h4) h5
      rwa [e1 hb] at this
  | eptr b s q xs i o =>
    have hb := hc b (by simp [V.anyB])
    obtain ⟨rfl, h1, h2, h3, h4, h5, h6⟩ := hu.eptr_inv
    have := VR.eptr (Γ := Γ.renamed l) (w := w) (canonBase (l.idxOf b)) s q xs i o ((renamed_has hb).2 h1) (by rw [e4 hb]; exact h2) (by rw [e3 hb, e5 hb]; exact h3) h4 (by rw [e1 hb, e2 hb]; exact rr h5) h6
    rwa [e1 hb, e2 hb] at this
  | vptr b z o =>
    have hb := hc b (by simp [V.anyB])
    obtain ⟨o', gg, rfl, h1, h2, h3⟩ := hu.vptr_inv
    have := VR.vptr (Γ := Γ.renamed l) (w := w) (canonBase (l.idxOf b)) z o' o gg ((renamed_has hb).2 h1) (by rw [e1 hb]; exact h2) h3
    rwa [e1 hb] at this

theorem baseso_mem (b : Nat) : ∀ (hs : List (Option V)) (l : List Nat), (b ∈ l ∨ ∃ u, some u ∈ hs ∧ u.anyB (fun b' => b' == b) = true) → b ∈ baseso l hs := by
  intro hs
  induction hs with
  | nil =>
    rintro l (h | ⟨u, hu, _⟩)
    · exact h
    · cases hu
  | cons x hs ih =>
    intro l h
    cases x with
    | none =>
      refine ih l (h.imp id ?_)
      rintro ⟨u, hu, hb⟩
      exact ⟨u, (List.mem_cons.1 hu).resolve_left (by simp), hb⟩
    | some y =>
      refine ih _ ?_
      rcases h with h | ⟨u, hu, hb⟩
      · exact .inl (bases_mem b y l (.inl h))
      · rcases List.mem_cons.1 hu with e | hu
        · injection e with e
          subst e
          exact .inl (bases_mem b u l (.inr hb))
        · exact .inr ⟨u, hu, hb⟩

theorem Sim.canon (hs : Sim Γ st a w) (hd : ∀ b, Γ.has b → ¬ Γ.S (Γ.blk b)) : Sim (Γ.renamed (baseso (V.basess [] st.t) st.h)) st.canon a w := by
  have e : st.canon = { st.sweep (rename (baseso (V.basess [] st.t) st.h)) with dead := fun _ => false } := rfl
  rw [e]
  refine Sim.sweepC (f := rename (baseso (V.basess [] st.t) st.h)) (fun v => ∀ b, v.anyB (fun b' => b' == b) = true → b ∈ baseso (V.basess [] st.t) st.h) (fun cs h u hu b hb => h b (anyBs_any hu hb)) (fun cs h u hu b hb => h b (anyBs_any hu hb)) (fun _ cs h u hu b hb => h b (anyBs_any hu hb))
    hs (fun u hu b hb => baseso_mem b _ _ (.inl (bases_mem b (.agg st.t) [] (.inr (anyBs_any hu hb))))) (fun u hu b hb => baseso_mem b _ _ (.inr ⟨u, hu, hb⟩)) leaf_rename (rename_one _) hs.good.renamed (fun _ h => h) (fun _ => rfl) (fun _ _ => rfl) ?_
  rintro _ ⟨i, b, rfl, h1, _, h2⟩ _
  show ¬ Γ.S (Γ.blk (List.getD _ _ 0))
  rw [renamed_at h1]
  exact hd b h2

/-- A loop's head. -/
theorem Sim.head (hs : Sim Γ st a w) (fs : List Nat × List Nat) : Sims Γ (st.head fs) a w := by
  have h1 : Sim Γ ({ st with t := forget fs.1 0 st.t } : St) a w := by
    refine ⟨hs.good, hs.dz, by rw [forget_len]; exact hs.len, fun i v h => ?_, hs.bx, hs.nds⟩
    simp only [forget_get] at h
    cases hc : st.t[i]? with
    | none => rw [hc] at h; cases h
    | some u =>
      rw [hc] at h
      simp only [Option.map_some, Option.some.injEq] at h
      obtain ⟨x, e1, e2⟩ := hs.tm i u hc
      refine ⟨x, e1, ?_⟩
      split at h
      · subst h; exact VR.undef_ _
      · subst h; exact e2
  have h2 : Sim Γ (({ st with t := forget fs.1 0 st.t } : St).sweep (dropBox fs.2)) a w := by
    have := Sim.sweep (f := dropBox fs.2) (dead := st.dead) (Γ' := Γ) (w' := w) h1 (fun u y hleaf hu => ?_) (dropBox_one _) hs.good (fun _ h => h) (fun _ => rfl) (fun _ _ => rfl) hs.nds
    · exact this
    · cases u with
      | ptr d n =>
        simp only [dropBox]
        split
        · exact VR.undef_ _
        · exact hu
      | agg _ => cases hleaf
      | tup _ => cases hleaf
      | clo _ _ => cases hleaf
      | _ => exact hu
  have h3 : Sim Γ ({ ({ st with t := forget fs.1 0 st.t } : St).sweep (dropBox fs.2) with h := dropH fs.2 0 (({ st with t := forget fs.1 0 st.t } : St).sweep (dropBox fs.2)).h } : St) a w :=
    ⟨h2.good, h2.dz, h2.len, h2.tm, fun k v h => h2.bx k v (dropH_get _ _ _ _ _ h), h2.nds⟩
  have h4 := Sim.sweep (f := settle st.dead) (dead := st.dead) (Γ' := Γ.settled st.dead) (w' := w) h3 (leaf_settle hs.good) (settle_one _) hs.good.settled (fun _ h => h) (fun _ => rfl) (fun _ _ => rfl) (fun b hb _ => ?_)
  · have h5 := h4.canon (fun b hb => by
      rintro (h | ⟨b', hb', hdd, h⟩)
      · exact hs.nds b hb.1 hb.2 h
      · have := hs.good.baseInj b b' hb.1 hb' h
        subst this
        rw [hb.2] at hdd
        cases hdd)
    exact ⟨(Γ.settled st.dead).renamed _, ⟨rfl, rfl, rfl⟩, h5⟩
  · rintro (h | ⟨b', hb', hdd, h⟩)
    · exact hs.nds b hb.1 hb.2 h
    · have := hs.good.baseInj b b' hb.1 hb' h
      subst this
      rw [hb.2] at hdd
      cases hdd
end
end Go.Am
