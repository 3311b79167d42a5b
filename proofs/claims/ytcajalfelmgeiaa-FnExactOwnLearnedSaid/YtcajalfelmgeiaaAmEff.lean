/-
  The operations that write: a store, an append to a slice of the call's own. No theorem about a Go program stands here.
-/
import Derived.Test.YtcajalfelmgeiaaAmOwn
set_option linter.unusedVariables false
set_option linter.unusedSimpArgs false
namespace Go.Am
open Go Go.RowKit
section
variable {P : Program} {c : Cfg} {Γ Γ' : Ctx} {st : St} {a : Act} {w w' : World} {den : Nat → List V → Option V} {η : Nat → Option V} {d : Nat}

theorem mapBs_get (f : V → Option V) : ∀ (l : List V) (i : Nat), (V.mapBs f l)[i]? = (l[i]?).map (V.mapB f) := by
  intro l
  induction l with
  | nil => intro i; rfl
  | cons v l ih =>
    intro i
    rw [V.mapBs]
    cases i with
    | zero => rfl
    | succ i => simpa using ih i
theorem mapBs_len (f : V → Option V) : ∀ (l : List V), (V.mapBs f l).length = l.length := by
  intro l
  induction l with
  | nil => rfl
  | cons v l ih => rw [V.mapBs, List.length_cons, ih, List.length_cons]
theorem mapBo_get (f : V → Option V) : ∀ (l : List (Option V)) (i : Nat), (mapBo f l)[i]? = (l[i]?).map (Option.map (V.mapB f)) := by
  intro l
  induction l with
  | nil => intro i; rfl
  | cons v l ih =>
    intro i
    cases v <;> cases i <;> simp [mapBo, ih]
theorem mapB_cells (f : V → Option V) (hf : ∀ v u, f v = some u → u.cells = [u]) (v : V) : (v.mapB f).cells = V.mapBs f v.cells := by
  have leaf : ∀ u : V, u.cells = [u] → ((f u).getD u).cells = [(f u).getD u] := by
    intro u hu
    cases h : f u with
    | none => exact hu
    | some z => exact hf u z h
  cases v <;> first | rfl | (simp only [V.cells, V.mapB, V.mapBs]; exact leaf _ rfl)

/-- A sweep over a value: it is enough to look at what lies at its leaves. -/
def LeafOk (Γ Γ' : Ctx) (w w' : World) (f : V → Option V) : Prop := ∀ v x, (match v with
  | .agg _ => False
  | .tup _ => False
  | .clo _ _ => False
  | _ => True) → VR Γ w v x → VR Γ' w' ((f v).getD v) x
theorem VR.sweep {f : V → Option V} (hl : LeafOk Γ Γ' w w' f) (v : V) : ∀ x, VR Γ w v x → VR Γ' w' (v.mapB f) x := by
  refine V.rec (motive_1 := fun v => ∀ x, VR Γ w v x → VR Γ' w' (v.mapB f) x) (motive_2 := fun l => ∀ (i : Nat) (u : V) (x : Value), l[i]? = some u → VR Γ w u x → VR Γ' w' (u.mapB f) x)
    ?_ ?_ ?_ ?_ ?_ ?_ ?_ ?_ ?_ ?_ ?_ ?_ ?_ ?_ ?_ ?_ ?_ v
  · intro x h; exact hl _ _ trivial h
  · intro _ x h; exact hl _ _ trivial h
  · intro _ _ x h; exact hl _ _ trivial h
  · intro _ x h; exact hl _ _ trivial h
  · intro x h; exact hl _ _ trivial h
  · intro _ _ _ _ x h; exact hl _ _ trivial h
  · intro _ _ _ _ _ x h; exact hl _ _ trivial h
  · intro _ _ _ _ _ x h; exact hl _ _ trivial h
  · intro _ _ x h; exact hl _ _ trivial h
  · intro _ _ _ _ _ _ _ x h; exact hl _ _ trivial h
  · intro _ _ _ _ x h; exact hl _ _ trivial h
  · intro _ _ _ x h; exact hl _ _ trivial h
  · intro cs ih x h
    obtain ⟨vs, rfl, h1, h2⟩ := h.agg_inv
    refine .agg _ vs (by rw [mapBs_len]; exact h1) (fun i c v e1 e2 => ?_)
    rw [mapBs_get] at e1
    cases hc : cs[i]? with
    | none => rw [hc] at e1; cases e1
    | some u =>
      rw [hc] at e1
      simp only [Option.map_some, Option.some.injEq] at e1
      subst e1
      exact ih i u v hc (h2 i u v hc e2)
  · intro cs ih x h
    obtain ⟨vs, rfl, h1, h2⟩ := h.tup_inv
    refine .tup _ vs (by rw [mapBs_len]; exact h1) (fun i c v e1 e2 => ?_)
    rw [mapBs_get] at e1
    cases hc : cs[i]? with
    | none => rw [hc] at e1; cases e1
    | some u =>
      rw [hc] at e1
      simp only [Option.map_some, Option.some.injEq] at e1
      subst e1
      exact ih i u v hc (h2 i u v hc e2)
  · intro g cs ih x h
    obtain ⟨vs, rfl, h1, h2⟩ := h.clo_inv
    refine .clo _ _ vs (by rw [mapBs_len]; exact h1) (fun i c v e1 e2 => ?_)
    rw [mapBs_get] at e1
    cases hc : cs[i]? with
    | none => rw [hc] at e1; cases e1
    | some u =>
      rw [hc] at e1
      simp only [Option.map_some, Option.some.injEq] at e1
      subst e1
      exact ih i u v hc (h2 i u v hc e2)
  · intro i u x h; simp at h
  · intro v l hv hl i u x h hx
    cases i with
    | zero =>
      simp only [List.getElem?_cons_zero, Option.some.injEq] at h
      subst h
      exact hv x hx
    | succ i => exact hl i u x (by simpa using h) hx

/-- A whole state swept; the boxes' cells are as they were. -/
theorem Sim.sweep {f : V → Option V} {dead : Nat → Bool} (hs : Sim Γ st a w) (hl : LeafOk Γ Γ' w w' f) (hf : ∀ v u, f v = some u → u.cells = [u]) (hg : Good Γ' w') (hlb : ∀ k, Γ.lb k → Γ'.lb k) (hbox : ∀ k, Γ'.box k = Γ.box k)
    (hw : ∀ k, Γ.lb k → w'.heap[Γ.box k]? = w.heap[Γ.box k]?) (hn : ∀ b, Γ'.has b → dead b = false → ¬ Γ'.S (Γ'.blk b)) : Sim Γ' { st.sweep f with dead := dead } a w' := by
  refine ⟨hg, hs.dz, ?_, fun i v h => ?_, fun k v h => ?_, hn⟩
  · show _ = (V.mapBs f st.t).length
    rw [mapBs_len]; exact hs.len
  · change (V.mapBs f st.t)[i]? = some v at h
    rw [mapBs_get] at h
    cases hc : st.t[i]? with
    | none => rw [hc] at h; cases h
    | some u =>
      rw [hc] at h
      simp only [Option.map_some, Option.some.injEq] at h
      subst h
      obtain ⟨x, h1, h2⟩ := hs.tm i u hc
      exact ⟨x, h1, VR.sweep hl u x h2⟩
  · change (mapBo f st.h)[k]? = some (some v) at h
    rw [mapBo_get] at h
    cases hc : st.h[k]? with
    | none => rw [hc] at h; cases h
    | some uo =>
      cases uo with
      | none => rw [hc] at h; cases h
      | some u =>
        rw [hc] at h
        simp only [Option.map_some, Option.some.injEq] at h
        subst h
        obtain ⟨h1, cur, e, h2, h3, h4⟩ := hs.bx k u hc
        refine ⟨hlb k h1, cur, e, by rw [hbox, hw k h1]; exact h2, ?_, fun j z hz => ?_⟩
        · rw [mapB_cells f hf, mapBs_len]; exact h3
        · rw [mapB_cells f hf, mapBs_get] at hz
          cases hu : u.cells[j]? with
          | none => rw [hu] at hz; cases hz
          | some y =>
            rw [hu] at hz
            simp only [Option.map_some, Option.some.injEq] at hz
            subst hz
            obtain ⟨x, e1, e2⟩ := h4 j y hu
            exact ⟨x, e1, VR.sweep hl y x e2⟩

theorem allCell_mem : ∀ {cs : List V}, allCell cs = true → ∀ c ∈ cs, c.isCell = true := by
  intro cs
  induction cs with
  | nil => intro _ c hc; cases hc
  | cons v vs ih =>
    intro h c hc
    rw [allCell, Bool.and_eq_true] at h
    rcases List.mem_cons.1 hc with rfl | hc
    · exact h.1
    · exact ih h.2 c hc
theorem isCell_one {v : V} {x : Value} (h : VR Γ w v x) (hc : v.isCell = true) : x.oneCell' = true := by
  cases h with
  | rd _ _ h => cases h <;> first | rfl | cases hc
  | agg => cases hc
  | tup => cases hc
  | _ => rfl
theorem isCell_cells {v : V} (hc : v.isCell = true) : v.cells = [v] := by cases v <;> first | rfl | cases hc
theorem isCell_def {v : V} (hc : allCell v.cells = true) : v.isDef = true := by cases v <;> first | rfl | cases hc

theorem run_storeVar_at (P : Program) (w : World) (g o : Nat) (t : TypeId) (ty : TypeId) (ti : TypeInfo) (cur : Array Value) (x : Value) (hg : w.heap[g]? = some (.cells cur t (0, 0))) (hi : P.info? ty = some ti)
    (hs : x.cells.size = ti.size) (hfit : o + x.cells.size ≤ cur.size) (h1 : ∀ v ∈ x.cells.toList, v.oneCell' = true) :
    (Instr.storeAt ty (.pointer (some ⟨g, o, none⟩)) x).run P w = .ok () (w.setRow g (cur.toList.take o ++ x.cells.toList ++ cur.toList.drop (o + x.cells.size)).toArray) := by
  have := run_storeCells_at P g o t x.cells.toList 0 cur w hg (by simpa using hfit) h1
  simp only [Nat.add_zero, Array.length_toList] at this
  rw [hs] at this
  simp [Instr.storeAt, Instr.sureAddr, storeVar, sizeOf, typeInfo, hi, hs, this]

/-- Cells behind a store. -/
theorem seg_get {α : Type} (l new : List α) (o j : Nat) (h : o + new.length ≤ l.length) : (l.take o ++ new ++ l.drop (o + new.length))[j]? = if o ≤ j ∧ j < o + new.length then new[j - o]? else l[j]? := by
  rcases Nat.lt_or_ge j o with h1 | h1
  · rw [List.append_assoc, List.getElem?_append_left (by rw [List.length_take]; omega), List.getElem?_take_of_lt h1, if_neg (by omega)]
  · rcases Nat.lt_or_ge j (o + new.length) with h2 | h2
    · rw [List.append_assoc, List.getElem?_append_right (by rw [List.length_take]; omega), List.getElem?_append_left (by rw [List.length_take]; omega), if_pos ⟨h1, h2⟩, List.length_take, Nat.min_eq_left (by omega)]
    · rw [List.getElem?_append_right (by rw [List.length_append, List.length_take]; omega), List.getElem?_drop, List.length_append, List.length_take, if_neg (by omega)]
      congr 1
      omega
theorem seg_len {α : Type} (l new : List α) (o : Nat) (h : o + new.length ≤ l.length) : (l.take o ++ new ++ l.drop (o + new.length)).length = l.length := by
  simp only [List.length_append, List.length_take, List.length_drop]
  omega

/-- A block that no one else may see is overwritten: everything else is as it was. -/
theorem VR.setRow {v : V} {x : Value} {g : Nat} {cs : Array Value} {p : Nat → Bool} (h : VR Γ w v x) (hS : ¬ Γ.S g) (hb : ∀ b, p b = false → Γ.has b → Γ.blk b ≠ g) (hp : v.anyB p = false) : VR Γ (w.setRow g cs) v x := by
  refine VR.mono (Γ := Γ) (Γ' := Γ) (w := w) (w' := w.setRow g cs) (p := p) (r := fun _ => false) (fun _ h => h) (fun _ h => h) (fun k hk => cell?_of_heap (setRow_other w g k cs (fun e => hS (e ▸ hk))))
    (fun b hb' => ⟨Iff.rfl, fun hh => ⟨rfl, rfl, rfl, rfl, rfl, cell?_of_heap (setRow_other w g _ cs (hb b hb' hh))⟩⟩) (fun _ _ => ⟨fun h => h, rfl⟩) h hp (anyP_false _)

theorem reshape_cells {r : V} {cs : List V} (hl : cs.length = r.cells.length) (hc : ∀ c ∈ cs, c.isCell = true ∨ c ∈ r.cells) : (reshape r cs).cells = cs := by
  cases r with
  | agg _ => rfl
  | _ =>
    cases cs with
    | nil => simp [V.cells] at hl
    | cons u us =>
      obtain rfl : us = [] := by cases us with
        | nil => rfl
        | cons _ _ => simp [V.cells] at hl
      show u.cells = [u]
      rcases hc u (by simp) with h | h
      · exact isCell_cells h
      · simp only [V.cells, List.mem_singleton] at h
        subst h
        rfl

/-- A store into a box. -/
theorem Sim.putBox {b o : Nat} {r v : V} {x : Value} {cs : List V} (hs : Sim Γ st a w) (hb : st.h.getD b none = some r) (ho : over r.cells o v.cells = some cs) (hv : VR Γ w v x) (hc : allCell v.cells = true) :
    ∃ cur e, w.heap[Γ.box b]? = some (.cells cur e (0, 0)) ∧ o + x.cells.size ≤ cur.size ∧
      Sim Γ { st with h := st.h.set b (some (reshape r cs)) } a (w.setRow (Γ.box b) (cur.toList.take o ++ x.cells.toList ++ cur.toList.drop (o + x.cells.size)).toArray) := by
  have hb' : st.h[b]? = some (some r) := by
    rw [List.getD_eq_getElem?_getD] at hb
    cases h : st.h[b]? with
    | none => rw [h] at hb; cases hb
    | some y => rw [h] at hb; exact congrArg _ hb
  obtain ⟨h1, cur, e, h2, h3, h4⟩ := hs.bx b r hb'
  have hlen := hv.cellLen (isCell_def hc)
  have hcl := hv.cells hlen
  obtain ⟨l1, l2⟩ := over_len ho
  have hfit : o + x.cells.size ≤ cur.size := by omega
  refine ⟨cur, e, h2, hfit, ?_⟩
  have hfit' : o + x.cells.toList.length ≤ cur.toList.length := by simpa using hfit
  have hS := (hs.good.box b h1).2.1
  have hmono : ∀ {u : V} {y : Value} (cs' : Array Value), VR Γ w u y → VR Γ (w.setRow (Γ.box b) cs') u y := fun cs' h => h.setRow (p := fun _ => false) hS (fun b' _ hh => hs.good.baseBox b' b hh h1) (anyB_false _)
  have g := hs.good
  have hoth : ∀ (k : Nat) (cs' : Array Value), k ≠ Γ.box b → (w.setRow (Γ.box b) cs').heap[k]? = w.heap[k]? := fun k cs' hk => setRow_other w _ k cs' hk
  have hcs : ∀ c ∈ cs, c.isCell = true ∨ c ∈ r.cells := by
    intro u hu
    obtain ⟨j, hj⟩ := List.getElem?_of_mem hu
    rw [over_get ho j] at hj
    split at hj
    · exact .inl (allCell_mem hc u (mem_of_get hj))
    · exact .inr (mem_of_get hj)
  refine ⟨⟨g.os, g.tape, g.output, by rw [setRow_size]; exact g.size, fun k hk hF => ?_, g.new, fun k hk => by rw [setRow_size]; exact g.slt k hk, fun b' hb1 => ?_, g.baseInj, fun k hk => ?_, g.boxInj, g.baseBox, g.sr, g.gl, g.bz, fun k hk => ?zf⟩, hs.dz, hs.len, fun i u hu => ?_, fun k u hu => ?_, hs.nds⟩
  case zf =>
    obtain ⟨z1, z2, cur', e', h'⟩ := g.zf k hk
    refine ⟨z1, by rw [setRow_size]; exact z2, ?_⟩
    by_cases hbb : k = Γ.box b
    · subst hbb
      exact ⟨_, e, setRow_heap w _ cur _ e _ h2⟩
    · exact ⟨cur', e', (hoth k _ hbb).trans h'⟩
  · exact (hoth k _ (fun e => hF (e ▸ (g.box b h1).1))).trans (g.old k hk hF)
  · obtain ⟨e1, e2, e3, cur', e', e4, e5⟩ := g.base b' hb1
    exact ⟨e1, by rw [setRow_size]; exact e2, e3, cur', e', (hoth _ _ (g.baseBox b' b hb1 h1)).trans e4, e5⟩
  · obtain ⟨e1, e2, e3⟩ := g.box k hk
    exact ⟨e1, e2, by rw [setRow_size]; exact e3⟩
  · obtain ⟨y, e1, e2⟩ := hs.tm i u hu
    exact ⟨y, e1, hmono _ e2⟩
  · simp only at hu
    rw [List.getElem?_set] at hu
    split at hu
    · rename_i hkb
      subst hkb
      split at hu
      · simp only [Option.some.injEq] at hu
        subst hu
        refine ⟨h1, _, e, setRow_heap w _ cur _ e _ h2, ?_, fun j z hz => ?_⟩
        · rw [reshape_cells l1 hcs]
          have := seg_len cur.toList x.cells.toList o hfit'
          simp only [Array.length_toList] at this
          rw [l1, h3]
          exact this.symm
        · rw [reshape_cells l1 hcs, over_get ho] at hz
          have hget := seg_get cur.toList x.cells.toList o j hfit'
          simp only [Array.length_toList] at hget
          rw [List.getElem?_toArray, hget]
          rw [hlen] at hz
          split at hz
          · rename_i hjj
            rw [if_pos hjj]
            obtain ⟨y, e1, e2⟩ := hcl _ z hz
            exact ⟨y, by simpa using e1, hmono _ e2⟩
          · rename_i hjj
            rw [if_neg hjj]
            obtain ⟨y, e1, e2⟩ := h4 j z hz
            exact ⟨y, by simpa using e1, hmono _ e2⟩
      · cases hu
    · rename_i hkb
      obtain ⟨e0, cur', e', e1, e2, e3⟩ := hs.bx k u hu
      refine ⟨e0, cur', e', (hoth _ _ (fun e => hkb (g.boxInj k b e0 h1 e).symm)).trans e1, e2, fun j z hz => ?_⟩
      obtain ⟨y, e4, e5⟩ := e3 j z hz
      exact ⟨y, e4, hmono _ e5⟩

theorem sound_storeBox (hA : Agree P c) (hs : Sim Γ st a w) {o : Oper} {t : TypeId} {ad x : Operand} {i : TyInfo} {b off : Nat} {r : V} {cs : List V} (ho : o.op = .store t ad x) (hi : c.ty t = some i)
    (hl : (ev st.t x).cells.length = i.size) (hc : allCell (ev st.t x).cells = true) (hd : o.dst = none) (had : ev st.t ad = .ptr b off) (hb : st.h.getD b none = some r) (hov : over r.cells off (ev st.t x).cells = some cs) :
    ∃ w', (execOp a.eval o).run P w = .ok .skip w' ∧ Sims Γ { st with h := st.h.set b (some (reshape r cs)) } (a.put o.dst undef) w' := by
  obtain ⟨ti, ai⟩ := hA _ _ hi
  have hv := hs.ev x
  have hp := hs.ev ad
  rw [had] at hp
  obtain ⟨e1, hlb⟩ := hp.ptr_inv
  obtain ⟨cur, e, h1, h2, h3⟩ := hs.putBox hb hov hv hc
  have hlen := hv.cellLen (isCell_def hc)
  have hone : ∀ v ∈ (a.eval x).cells.toList, v.oneCell' = true := by
    intro v hv'
    obtain ⟨j, hj⟩ := List.getElem?_of_mem hv'
    obtain ⟨u, hu⟩ : ∃ u, (ev st.t x).cells[j]? = some u := ⟨_, List.getElem?_eq_getElem (by rw [hlen]; simpa using (List.getElem?_eq_some_iff.1 hj).1)⟩
    obtain ⟨y, e1, e2⟩ := hv.cells hlen j u hu
    have : y = v := by simpa [e1] using hj
    subst this
    exact isCell_one e2 (allCell_mem hc u (mem_of_get hu))
  have hr := run_storeVar_at P w (Γ.box b) off e t ti cur (a.eval x) h1 ai.info (by rw [ai.size, ← hl, hlen]) h2 hone
  refine ⟨_, ?_, Γ, ⟨rfl, rfl, rfl⟩, by rw [hd]; exact h3⟩
  simp [execOp, ho, e1, hr]
end
end Go.Am
