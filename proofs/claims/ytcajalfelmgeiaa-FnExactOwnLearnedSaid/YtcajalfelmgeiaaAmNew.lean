/-
  The operations that make a block: a box, a slice. No theorem about a Go program stands here.
-/
import Derived.Test.YtcajalfelmgeiaaAmPure2
set_option linter.unusedVariables false
set_option linter.unusedSimpArgs false
namespace Go.Am
open Go Go.RowKit
section
variable {P : Program} {c : Cfg} {Γ : Ctx} {st : St} {a : Act} {w : World} {den : Nat → List V → Option V} {η : Nat → Option V} {d : Nat}

theorem heap_alloc_lt (w : World) (o : Obj) {k : Nat} (h : k < w.heap.size) : (w.alloc o).heap[k]? = w.heap[k]? := Below.heap_alloc w o k h
theorem heap_alloc_eq (w : World) (o : Obj) : (w.alloc o).heap[w.heap.size]? = some o := by
  show (w.heap.push o)[w.heap.size]? = _
  simp
theorem size_alloc (w : World) (o : Obj) : (w.alloc o).heap.size = w.heap.size + 1 := by
  show (w.heap.push o).size = _
  simp

/-- Old memory is as it was: what the machine knows is kept; slot d holds a value that hangs on new bases. -/
theorem Sim.extend {Γ' : Ctx} {w' : World} {p : Nat → Bool} {v : V} {x : Value} {esc : List Nat} (hs : Sim Γ st a w) (hw : ∀ k, k < w.heap.size → w'.heap[k]? = w.heap[k]?)
    (hS : ∀ k, Γ.S k → Γ'.S k) (hF : ∀ k, Γ.Z k → Γ'.Z k)
    (hb : ∀ b, p b = false → (Γ'.has b ↔ Γ.has b) ∧ (Γ.has b → Γ'.blk b = Γ.blk b ∧ Γ'.off b = Γ.off b ∧ Γ'.cap b = Γ.cap b ∧ Γ'.sz b = Γ.sz b ∧ Γ'.ln b = Γ.ln b))
    (hl : ∀ k, Γ.lb k → Γ'.lb k) (hx : ∀ k, Γ'.box k = Γ.box k)
    (hp : ∀ (i : Nat) (u : V), i ≠ d → st.t[i]? = some u → u.anyB p = false) (hp' : ∀ (i : Nat) (u : V), st.h[i]? = some (some u) → u.anyB p = false)
    (hg : Good Γ' w') (hn : ∀ b, Γ'.has b → esc.contains b = false → st.dead b = false → ¬ Γ'.S (Γ'.blk b)) (hv : VR Γ' w' v x) :
    Sim Γ' (({ st with t := st.t.set d v } : St).kill esc) (a.put (some d) x) w' := by
  have hcell : ∀ k, k < w.heap.size → ∀ o, w'.cell? ⟨k, o, none⟩ = w.cell? ⟨k, o, none⟩ := fun k hk o => cell?_of_heap (hw k hk) o
  have hmono : ∀ {u : V} {y : Value}, VR Γ w u y → u.anyB p = false → VR Γ' w' u y := by
    intro u y hu hup
    refine VR.mono (p := p) (r := fun _ => false) hS hF (fun k hk => hcell k (hs.good.slt k hk)) (fun b hb' => ?_) (fun k _ => ⟨hl k, hx k⟩) hu hup ?_
    · obtain ⟨e1, e2⟩ := hb b hb'
      exact ⟨e1, fun hh => ⟨(e2 hh).1, (e2 hh).2.1, (e2 hh).2.2.1, (e2 hh).2.2.2.1, (e2 hh).2.2.2.2, fun o => hcell _ (hs.good.base b hh).2.1 o⟩⟩
    · clear hu hup hv hn hg
      have : ∀ u : V, u.anyP (fun _ => false) = false := by
        intro u
        exact V.rec (motive_1 := fun u => u.anyP (fun _ => false) = false) (motive_2 := fun l => V.anyPs (fun _ => false) l = false)
          rfl (fun _ => rfl) (fun _ _ => rfl) (fun _ => rfl) rfl (fun _ _ _ _ => rfl) (fun _ _ _ _ _ => rfl) (fun _ _ _ _ _ => rfl) (fun _ _ => rfl) (fun _ _ _ _ _ _ _ => rfl) (fun _ _ _ _ => rfl) (fun _ _ _ => rfl)
          (fun _ h => h) (fun _ h => h) (fun _ _ h => h) rfl (fun _ _ h1 h2 => by rw [V.anyPs, h1, h2]; rfl) u
      exact this u
  refine ⟨hg, hs.dz, by simp [Act.put, St.kill, hs.len], fun i u hu => ?_, fun k u hu => ?_, fun b h1 h2 => ?_⟩
  · simp only [St.kill, Act.put] at hu ⊢
    rw [List.getElem?_set] at hu
    split at hu
    · rename_i hid
      subst hid
      split at hu
      · rename_i hlt
        injection hu with hu
        subst hu
        exact ⟨x, by rw [Array.getElem?_setIfInBounds]; simp [hs.len, hlt], hv⟩
      · cases hu
    · rename_i hid
      obtain ⟨y, hy, h⟩ := hs.tm i u hu
      exact ⟨y, by rw [Array.getElem?_setIfInBounds]; simp [hid, hy], hmono h (hp i u (fun e => hid e.symm) hu)⟩
  · simp only [St.kill] at hu
    obtain ⟨h1, cur, e, h2, h3, h4⟩ := hs.bx k u hu
    refine ⟨hl k h1, cur, e, ?_, h3, fun j z hz => ?_⟩
    · rw [hx, hw _ (hs.good.box k h1).2.2]; exact h2
    · obtain ⟨y, e1, e3⟩ := h4 j z hz
      refine ⟨y, e1, hmono e3 ?_⟩
      have hup := hp' k u hu
      cases u with
      | agg cs => exact anyBs_mem hup z (mem_of_get hz)
      | _ =>
        obtain rfl : j = 0 := by
          cases j with
          | zero => rfl
          | succ j => simp [V.cells] at hz
        simp only [V.cells, List.getElem?_cons_zero, Option.some.injEq] at hz
        subst hz
        exact hup
  · simp only [St.kill, Bool.or_eq_false_iff] at h2
    exact hn b h1 h2.1 h2.2

theorem anyP_false (u : V) : u.anyP (fun _ => false) = false :=
  V.rec (motive_1 := fun u => u.anyP (fun _ => false) = false) (motive_2 := fun l => V.anyPs (fun _ => false) l = false)
    rfl (fun _ => rfl) (fun _ _ => rfl) (fun _ => rfl) rfl (fun _ _ _ _ => rfl) (fun _ _ _ _ _ => rfl) (fun _ _ _ _ _ => rfl) (fun _ _ => rfl) (fun _ _ _ _ _ _ _ => rfl) (fun _ _ _ _ => rfl) (fun _ _ _ => rfl)
    (fun _ h => h) (fun _ h => h) (fun _ _ h => h) rfl (fun _ _ h1 h2 => by rw [V.anyPs, h1, h2]; rfl) u
theorem anyB_false (u : V) : u.anyB (fun _ => false) = false :=
  V.rec (motive_1 := fun u => u.anyB (fun _ => false) = false) (motive_2 := fun l => V.anyBs (fun _ => false) l = false)
    rfl (fun _ => rfl) (fun _ _ => rfl) (fun _ => rfl) rfl (fun _ _ _ _ => rfl) (fun _ _ _ _ _ => rfl) (fun _ _ _ _ _ => rfl) (fun _ _ => rfl) (fun _ _ _ _ _ _ _ => rfl) (fun _ _ _ _ => rfl) (fun _ _ _ => rfl)
    (fun _ h => h) (fun _ h => h) (fun _ _ h => h) rfl (fun _ _ h1 h2 => by rw [V.anyBs, h1, h2]; rfl) u

theorem anyBo_mem {p : Nat → Bool} : ∀ {l : List (Option V)}, anyBo p l = false → ∀ u, some u ∈ l → u.anyB p = false := by
  intro l
  induction l with
  | nil => intro _ u hu; cases hu
  | cons x l ih =>
    intro h u hu
    cases x with
    | none => rcases List.mem_cons.1 hu with e | hu
              · cases e
              · exact ih h u hu
    | some y =>
      rw [anyBo, Bool.or_eq_false_iff] at h
      rcases List.mem_cons.1 hu with e | hu
      · injection e with e; subst e; exact h.1
      · exact ih h.2 u hu
theorem anyPo_mem {p : Nat → Bool} : ∀ {l : List (Option V)}, anyPo p l = false → ∀ u, some u ∈ l → u.anyP p = false := by
  intro l
  induction l with
  | nil => intro _ u hu; cases hu
  | cons x l ih =>
    intro h u hu
    cases x with
    | none => rcases List.mem_cons.1 hu with e | hu
              · cases e
              · exact ih h u hu
    | some y =>
      rw [anyPo, Bool.or_eq_false_iff] at h
      rcases List.mem_cons.1 hu with e | hu
      · injection e with e; subst e; exact h.1
      · exact ih h.2 u hu
theorem freeD_t (h : st.freeD d = true) (i : Nat) (u : V) (hi : i ≠ d) (hu : st.t[i]? = some u) : u.anyB (fun b => b / 1000 == d) = false := by
  unfold St.freeD at h
  rw [Bool.and_eq_true, Bool.not_eq_true', Bool.not_eq_true'] at h
  exact anyBs_mem h.1 u (mem_of_get (i := i) (by rw [List.getElem?_set, if_neg (fun e => hi e.symm)]; exact hu))
theorem freeD_h (h : st.freeD d = true) (i : Nat) (u : V) (hu : st.h[i]? = some (some u)) : u.anyB (fun b => b / 1000 == d) = false := by
  unfold St.freeD at h
  rw [Bool.and_eq_true, Bool.not_eq_true', Bool.not_eq_true'] at h
  exact anyBo_mem h.2 u (mem_of_get hu)
theorem freeP_t (h : st.freeP d = true) (i : Nat) (u : V) (hi : i ≠ d) (hu : st.t[i]? = some u) : u.anyP (fun b => b == d) = false := by
  unfold St.freeP at h
  rw [Bool.and_eq_true, Bool.not_eq_true', Bool.not_eq_true'] at h
  exact anyPs_mem h.1 u (mem_of_get (i := i) (by rw [List.getElem?_set, if_neg (fun e => hi e.symm)]; exact hu))
theorem freeP_h (h : st.freeP d = true) (i : Nat) (u : V) (hu : st.h[i]? = some (some u)) : u.anyP (fun b => b == d) = false := by
  unfold St.freeP at h
  rw [Bool.and_eq_true, Bool.not_eq_true', Bool.not_eq_true'] at h
  exact anyPo_mem h.2 u (mem_of_get hu)

/-- A cell of a row names what its value names. -/
theorem cells_anyB {p : Nat → Bool} {u z : V} {j : Nat} (h : u.anyB p = false) (hz : u.cells[j]? = some z) : z.anyB p = false := by
  cases u with
  | agg cs => exact anyBs_mem h z (mem_of_get hz)
  | _ =>
    obtain rfl : j = 0 := by
      cases j with
      | zero => rfl
      | succ j => simp [V.cells] at hz
    simp only [V.cells, List.getElem?_cons_zero, Option.some.injEq] at hz
    subst hz
    exact h
theorem cells_anyP {p : Nat → Bool} {u z : V} {j : Nat} (h : u.anyP p = false) (hz : u.cells[j]? = some z) : z.anyP p = false := by
  cases u with
  | agg cs => exact anyPs_mem h z (mem_of_get hz)
  | _ =>
    obtain rfl : j = 0 := by
      cases j with
      | zero => rfl
      | succ j => simp [V.cells] at hz
    simp only [V.cells, List.getElem?_cons_zero, Option.some.injEq] at hz
    subst hz
    exact h

/-- A new box. -/
theorem Sim.newBox {r : V} {cs : Array Value} {e : TypeId} (hs : Sim Γ st a w) (hd : d < st.h.length) (hf : st.freeP d = true) (hn : (st.h.getD d none).isNone = true)
    (hl : r.cells.length = cs.size) (hr : ∀ (j : Nat) (u : V), r.cells[j]? = some u → ∃ y, cs[j]? = some y ∧ VR Γ w u y) (hrp : r.anyP (fun b => b == d) = false) :
    Sims Γ { st with t := st.t.set d (.ptr d 0), h := st.h.set d (some r) } (a.put (some d) (.pointer (some ⟨w.heap.size, 0, none⟩))) (w.alloc (.cells cs e)) := by
  let Γ' : Ctx := { Γ with lb := fun k => Γ.lb k ∧ k ≠ d ∨ k = d, box := fun k => if k = d then w.heap.size else Γ.box k }
  refine ⟨Γ', ⟨rfl, rfl, rfl⟩, ?_⟩
  have hcell : ∀ k, k < w.heap.size → ∀ o, (w.alloc (.cells cs e)).cell? ⟨k, o, none⟩ = w.cell? ⟨k, o, none⟩ := fun k hk o => cell?_of_heap (heap_alloc_lt w _ hk) o
  have hmono : ∀ {u : V} {y : Value}, VR Γ w u y → u.anyP (fun b => b == d) = false → VR Γ' (w.alloc (.cells cs e)) u y := by
    intro u y hu hup
    refine VR.mono (Γ := Γ) (Γ' := Γ') (p := fun _ => false) (r := fun b => b == d) (fun _ h => h) (fun _ h => h) (fun k hk => hcell k (hs.good.slt k hk)) (fun b _ => ⟨Iff.rfl, fun hh => ⟨rfl, rfl, rfl, rfl, rfl, fun o => hcell _ (hs.good.base b hh).2.1 o⟩⟩) (fun k hk => ?_) hu (anyB_false u) hup
    have hk : k ≠ d := by simpa using hk
    exact ⟨fun h => .inl ⟨h, hk⟩, if_neg hk⟩
  have g := hs.good
  have hsz := size_alloc w (.cells cs e)
  have hgood : Good Γ' (w.alloc (.cells cs e)) := by
    refine ⟨g.os, g.tape, g.output, Nat.le_trans g.size (by rw [hsz]; omega), fun k hk hF => ?_, g.new, fun k hk => ?_, fun b hb => ?_, g.baseInj, fun k hk => ?_, fun k k' hk hk' he => ?_, fun b k hb hk => ?_, g.sr, g.gl, g.bz, fun k hk => (let ⟨h1, h2, cur, e', h⟩ := g.zf k hk; ⟨h1, by rw [hsz]; omega, cur, e', (heap_alloc_lt w _ h2).trans h⟩)⟩
    · exact (heap_alloc_lt w _ (Nat.lt_of_lt_of_le hk g.size)).trans (g.old k hk hF)
    · have := g.slt k hk; rw [hsz]; omega
    · obtain ⟨h1, h2, h3, cur, e', h4, h5⟩ := g.base b hb
      exact ⟨h1, Nat.lt_of_lt_of_le h2 (by rw [hsz]; omega), h3, cur, e', (heap_alloc_lt w _ h2).trans h4, h5⟩
    · by_cases hkd : k = d
      · subst hkd
        show Γ.F (if k = k then _ else _) ∧ ¬ Γ.S (if k = k then _ else _) ∧ (if k = k then _ else _) < _
        rw [if_pos rfl, hsz]
        exact ⟨g.new _ g.size, fun h => by have := g.slt _ h; omega, by omega⟩
      · rcases hk with ⟨hk, _⟩ | hk
        · obtain ⟨h1, h2, h3⟩ := g.box k hk
          show Γ.F (if k = d then _ else _) ∧ ¬ Γ.S (if k = d then _ else _) ∧ (if k = d then _ else _) < _
          rw [if_neg hkd, hsz]
          exact ⟨h1, h2, by omega⟩
        · exact absurd hk hkd
    · change (if k = d then w.heap.size else Γ.box k) = (if k' = d then w.heap.size else Γ.box k') at he
      by_cases h1 : k = d
      · by_cases h2 : k' = d
        · rw [h1, h2]
        · rcases hk' with ⟨hk', _⟩ | hk'
          · rw [if_pos h1, if_neg h2] at he
            have := (g.box k' hk').2.2; omega
          · exact absurd hk' h2
      · rcases hk with ⟨hk, _⟩ | hk
        · by_cases h2 : k' = d
          · rw [if_neg h1, if_pos h2] at he
            have := (g.box k hk).2.2; omega
          · rcases hk' with ⟨hk', _⟩ | hk'
            · rw [if_neg h1, if_neg h2] at he
              exact g.boxInj k k' hk hk' he
            · exact absurd hk' h2
        · exact absurd hk h1
    · show Γ.blk b ≠ (if k = d then w.heap.size else Γ.box k)
      by_cases h1 : k = d
      · rw [if_pos h1]; have := (g.base b hb).2.1; omega
      · rcases hk with ⟨hk, _⟩ | hk
        · rw [if_neg h1]; exact g.baseBox b k hb hk
        · exact absurd hk h1
  refine ⟨hgood, hs.dz, by simp [Act.put, hs.len], fun i u hu => ?_, fun k u hu => ?_, hs.nds⟩
  · simp only [Act.put] at hu ⊢
    rw [List.getElem?_set] at hu
    split at hu
    · rename_i hid
      subst hid
      split at hu
      · rename_i hlt
        injection hu with hu
        subst hu
        refine ⟨.pointer (some ⟨w.heap.size, 0, none⟩), by rw [Array.getElem?_setIfInBounds]; simp [hs.len, hlt], ?_⟩
        have := VR.ptr (Γ := Γ') (w := w.alloc (.cells cs e)) d 0 (.inr rfl)
        have e1 : Γ'.box d = w.heap.size := if_pos rfl
        rwa [e1] at this
      · cases hu
    · rename_i hid
      obtain ⟨y, hy, h⟩ := hs.tm i u hu
      exact ⟨y, by rw [Array.getElem?_setIfInBounds]; simp [hid, hy], hmono h (freeP_t hf i u (fun e => hid e.symm) hu)⟩
  · simp only at hu
    rw [List.getElem?_set] at hu
    split at hu
    · rename_i hkd
      subst hkd
      injection hu with hu
      injection hu with hu
      subst hu
      refine ⟨.inr rfl, cs, e, ?_, hl, fun j z hz => ?_⟩
      · have e1 : Γ'.box d = w.heap.size := if_pos rfl
        rw [e1]; exact heap_alloc_eq w _
      · obtain ⟨y, e1, e3⟩ := hr j z hz
        exact ⟨y, e1, hmono e3 (cells_anyP hrp hz)⟩
    · rename_i hkd
      obtain ⟨h1, cur, e', h2, h3, h4⟩ := hs.bx k u hu
      have hkd' : k ≠ d := fun e => hkd e.symm
      refine ⟨.inl ⟨h1, hkd'⟩, cur, e', ?_, h3, fun j z hz => ?_⟩
      · have e1 : Γ'.box k = Γ.box k := if_neg hkd'
        rw [e1]
        exact (heap_alloc_lt w _ (g.box k h1).2.2).trans h2
      · obtain ⟨y, e1, e3⟩ := h4 j z hz
        exact ⟨y, e1, hmono e3 (cells_anyP (freeP_h hf k u hu) hz)⟩

/-! ### a row as plain data -/

/-- The blocks that are written no more, the escaping bases' among them. -/
def addS (Γ : Ctx) (esc : List Nat) : Nat → Prop := fun k => Γ.S k ∨ ∃ b, b ∈ esc ∧ Γ.has b ∧ k = Γ.blk b

theorem flat_ok {S' : Nat → Prop} {v u : V} {y : Value} (g : Good Γ w) (h : VR Γ w v y) (hf : flat v = some u) (hS : ∀ k, Γ.S k → S' k) (hb : ∀ b ∈ cellB v, Γ.has b → S' (Γ.blk b)) :
    Rd w S' u y ∧ y.oneCell' = true ∧ ((cellQ v).good = true → Rd w (fun k => S' k ∧ Γ.Z k) u y) ∧ (cellQ v = .flat → noSl u) := by
  cases v with
  | bool b =>
    simp only [flat, Option.some.injEq] at hf
    subst hf
    rw [h.bool_inv]
    exact ⟨.bool b, rfl, fun _ => .bool b, fun _ => trivial⟩
  | int k n =>
    simp only [flat, Option.some.injEq] at hf
    subst hf
    rw [h.int_inv]
    exact ⟨.int k n, rfl, fun _ => .int k n, fun _ => trivial⟩
  | str s =>
    simp only [flat, Option.some.injEq] at hf
    subst hf
    obtain ⟨z, rfl, hz⟩ := h.str_inv
    exact ⟨.str s z hz, rfl, fun _ => .str s z hz, fun _ => trivial⟩
  | nil =>
    simp only [flat, Option.some.injEq] at hf
    subst hf
    rw [h.nil_inv]
    exact ⟨.nil, rfl, fun _ => .nil, fun _ => trivial⟩
  | sl s f xs =>
    simp only [flat, Option.some.injEq] at hf
    subst hf
    have hr := h.sl_inv
    refine ⟨hr.mono hS (fun _ _ _ => rfl), ?_, fun e => (by cases e), fun e => (by cases e)⟩
    cases hr <;> rfl
  | own b s q xs =>
    simp only [flat, Option.some.injEq] at hf
    subst hf
    rcases h.own_inv with ⟨rfl, rfl, _⟩ | ⟨rfl, h1, h2, h3, ⟨r1, gg, r2, r3⟩, h5⟩
    · exact ⟨.empty _ _ _ _, rfl, fun _ => .empty _ _ _ _, fun e => by cases q <;> cases e⟩
    · have hk := hb b (by simp [cellB]) h1
      have hfl : q.isFlat = true → ∀ x ∈ xs, ∀ c ∈ x.cells, noSl c := by
        intro e; cases q <;> first | exact h5 rfl | cases e
      by_cases hx : xs = []
      · subst hx
        exact ⟨.empty _ _ _ _, rfl, fun _ => .empty _ _ _ _, fun e => by cases q <;> cases e⟩
      · have hx : 0 < xs.length := List.length_pos_iff.2 hx
        refine ⟨.sl s q.isFlat xs _ _ _ gg hx h3.1 hk r1 hfl r2 (fun i x j c e1 e2 => (r3 i x j c e1 e2).mono (fun k hk => hS k (Sq_le hk)) (fun _ _ _ => rfl)), rfl, fun e => ?_, fun e => by cases q <;> cases e⟩
        have hq : q.good = true := by
          cases q <;> first | rfl | cases e
        have hsq : ∀ k, Γ.Sq q k → Γ.S k ∧ Γ.Z k := by
          intro k hk
          cases q <;> first | exact hk | cases hq
        exact .sl s q.isFlat xs _ _ _ gg hx h3.1 ⟨hk, g.bz b h1⟩ r1 hfl r2 (fun i x j c e1 e2 => (r3 i x j c e1 e2).mono (fun k hk => ⟨hS k (hsq k hk).1, (hsq k hk).2⟩) (fun _ _ _ => rfl))
  | view b s q xs =>
    simp only [flat, Option.some.injEq] at hf
    subst hf
    rcases h.view_inv with ⟨ad, cap, rfl, rfl⟩ | ⟨o, cap, rfl, h1, hx, h3, _, ⟨r1, gg, r2, r3⟩, h5⟩
    · exact ⟨.empty _ _ _ _, rfl, fun _ => .empty _ _ _ _, fun e => by cases q <;> cases e⟩
    · have hk := hb b (by simp [cellB]) h1
      have hfl : q.isFlat = true → ∀ x ∈ xs, ∀ c ∈ x.cells, noSl c := by
        intro e; cases q <;> first | exact h5 rfl | cases e
      refine ⟨.sl s q.isFlat xs _ _ _ gg hx h3 hk r1 hfl r2 (fun i x j c e1 e2 => (r3 i x j c e1 e2).mono (fun k hk => hS k (Sq_le hk)) (fun _ _ _ => rfl)), rfl, fun e => ?_, fun e => by cases q <;> cases e⟩
      have hq : q.good = true := by
        cases q <;> first | rfl | cases e
      have hsq : ∀ k, Γ.Sq q k → Γ.S k ∧ Γ.Z k := by
        intro k hk
        cases q <;> first | exact hk | cases hq
      exact .sl s q.isFlat xs _ _ _ gg hx h3 ⟨hk, g.bz b h1⟩ r1 hfl r2 (fun i x j c e1 e2 => (r3 i x j c e1 e2).mono (fun k hk => ⟨hS k (hsq k hk).1, (hsq k hk).2⟩) (fun _ _ _ => rfl))
  | _ => cases hf

theorem flats_get : ∀ {cs us : List V}, flats cs = some us → us.length = cs.length ∧ ∀ (j : Nat) (u : V), us[j]? = some u → ∃ v, cs[j]? = some v ∧ flat v = some u := by
  intro cs
  induction cs with
  | nil => intro us h; simp only [flats, Option.some.injEq] at h; subst h; exact ⟨rfl, fun j u hu => by simp at hu⟩
  | cons v cs ih =>
    intro us h
    simp only [flats] at h
    cases h1 : flat v with
    | none => rw [h1] at h; cases h
    | some x =>
      cases h2 : flats cs with
      | none => rw [h1, h2] at h; cases h
      | some xs =>
        rw [h1, h2] at h
        simp only [Option.some.injEq] at h
        subst h
        obtain ⟨e1, e2⟩ := ih h2
        refine ⟨by simp [e1], fun j u hu => ?_⟩
        cases j with
        | zero => simp only [List.getElem?_cons_zero, Option.some.injEq] at hu ⊢; subst hu; exact ⟨v, rfl, h1⟩
        | succ j => exact e2 j u hu
theorem flat_cells {v u : V} (h : flat v = some u) : u.cells = [u] ∧ v.cells = [v] := by
  cases v <;> simp only [flat, Option.some.injEq] at h <;> first | (cases h; done) | (subst h; exact ⟨rfl, rfl⟩)
theorem flatRow_get {v u : V} (h : flatRow v = some u) : u.cells.length = v.cells.length ∧ ∀ (j : Nat) (z : V), u.cells[j]? = some z → ∃ y, v.cells[j]? = some y ∧ flat y = some z := by
  cases v with
  | agg cs =>
    simp only [flatRow] at h
    cases hc : flats cs with
    | none => rw [hc] at h; cases h
    | some us =>
      rw [hc] at h
      simp only [Option.map_some, Option.some.injEq] at h
      subst h
      exact flats_get hc
  | _ =>
    simp only [flatRow] at h
    obtain ⟨e1, e2⟩ := flat_cells h
    rw [e1, e2]
    refine ⟨rfl, fun j z hz => ?_⟩
    cases j with
    | zero => simp only [List.getElem?_cons_zero, Option.some.injEq] at hz ⊢; subst hz; exact ⟨_, rfl, h⟩
    | succ j => simp at hz
theorem flatRows_get : ∀ {xs ys : List V}, flatRows xs = some ys → ys.length = xs.length ∧ ∀ (i : Nat) (y : V), ys[i]? = some y → ∃ x, xs[i]? = some x ∧ flatRow x = some y := by
  intro xs
  induction xs with
  | nil => intro ys h; simp only [flatRows, Option.some.injEq] at h; subst h; exact ⟨rfl, fun j u hu => by simp at hu⟩
  | cons v xs ih =>
    intro ys h
    simp only [flatRows] at h
    cases h1 : flatRow v with
    | none => rw [h1] at h; cases h
    | some x =>
      cases h2 : flatRows xs with
      | none => rw [h1, h2] at h; cases h
      | some zs =>
        rw [h1, h2] at h
        simp only [Option.some.injEq] at h
        subst h
        obtain ⟨e1, e2⟩ := ih h2
        refine ⟨by simp [e1], fun j u hu => ?_⟩
        cases j with
        | zero => simp only [List.getElem?_cons_zero, Option.some.injEq] at hu ⊢; subst hu; exact ⟨v, rfl, h1⟩
        | succ j => exact e2 j u hu

theorem join_good {p q : Q} (h : (p.join q).good = true) : p.good = true ∧ q.good = true := by cases p <;> cases q <;> first | exact ⟨rfl, rfl⟩ | cases h
theorem join_flat {p q : Q} (h : p.join q = .flat) : p = .flat ∧ q = .flat := by cases p <;> cases q <;> first | exact ⟨rfl, rfl⟩ | cases h
/-! ### nil slices, written as empty ones -/
theorem nilCell_len (z v : V) : (nilCell z v).cells.length = v.cells.length := by
  unfold nilCell; split <;> rfl
theorem nilCell_ok {z v : V} {x : Value} (h : VR Γ w v x) : VR Γ w (nilCell z v) x := by
  unfold nilCell
  split
  · rw [h.nil_inv]; exact .view0 _ _ _ _ _
  · exact h
theorem nilCells_len : ∀ (zs vs : List V), (nilCells zs vs).length = vs.length := by
  intro zs
  induction zs with
  | nil => intro vs; cases vs <;> rfl
  | cons z zs ih => intro vs; cases vs with
    | nil => rfl
    | cons v vs => rw [nilCells, List.length_cons, ih, List.length_cons]
theorem nilCells_get : ∀ (zs vs : List V) (j : Nat) (u : V), (nilCells zs vs)[j]? = some u → ∃ v z, vs[j]? = some v ∧ (u = nilCell z v ∨ u = v) := by
  intro zs
  induction zs with
  | nil => intro vs j u h; cases vs <;> exact ⟨u, u, h, .inr rfl⟩
  | cons z zs ih =>
    intro vs j u h
    cases vs with
    | nil => simp [nilCells] at h
    | cons v vs =>
      rw [nilCells] at h
      cases j with
      | zero =>
        simp only [List.getElem?_cons_zero, Option.some.injEq] at h
        exact ⟨v, z, rfl, .inl h.symm⟩
      | succ j => exact ih vs j u (by simpa using h)
theorem nilRow_cells (zs : List V) (v : V) : (nilRow zs v).cells = nilCells zs v.cells := by
  cases v with
  | agg cs => rfl
  | nil => cases zs with
    | nil => rfl
    | cons z zs => cases z <;> cases zs <;> rfl
  | _ => cases zs with
    | nil => rfl
    | cons z zs => cases zs <;> rfl
theorem nilRow_len (zs : List V) (v : V) : (nilRow zs v).cells.length = v.cells.length := by rw [nilRow_cells, nilCells_len]
theorem nilRow_get {zs : List V} {v u : V} {j : Nat} (h : (nilRow zs v).cells[j]? = some u) : ∃ y z, v.cells[j]? = some y ∧ (u = nilCell z y ∨ u = y) := by
  rw [nilRow_cells] at h
  exact nilCells_get zs v.cells j u h
theorem nilCell_or {z v u : V} {x : Value} (h : u = nilCell z v ∨ u = v) (hv : VR Γ w v x) : VR Γ w u x := by
  rcases h with rfl | rfl
  · exact nilCell_ok hv
  · exact hv
theorem nilRow_ok {zs : List V} {v : V} {x : Value} (h : VR Γ w v x) : VR Γ w (nilRow zs v) x := by
  cases v with
  | agg cs =>
    obtain ⟨vs, rfl, h1, h2⟩ := h.agg_inv
    refine .agg _ vs (by rw [nilCells_len]; exact h1) (fun i c v e1 e2 => ?_)
    obtain ⟨y, z, hy, hu⟩ := nilCells_get _ _ _ _ e1
    exact nilCell_or hu (h2 i y v hy e2)
  | _ =>
    unfold nilRow
    split
    · rename_i heq; cases heq
    · split
      · exact nilCell_ok h
      · exact h
theorem nilRows_len (zs : List V) : ∀ xs, (nilRows zs xs).length = xs.length := by
  intro xs
  induction xs with
  | nil => rfl
  | cons x xs ih => rw [nilRows, List.length_cons, ih, List.length_cons]
theorem nilRows_get (zs : List V) : ∀ (xs : List V) (i : Nat) (y : V), (nilRows zs xs)[i]? = some y → ∃ x, xs[i]? = some x ∧ y = nilRow zs x := by
  intro xs
  induction xs with
  | nil => intro i y h; simp [nilRows] at h
  | cons x xs ih =>
    intro i y h
    rw [nilRows] at h
    cases i with
    | zero => simp only [List.getElem?_cons_zero, Option.some.injEq] at h; exact ⟨x, rfl, h.symm⟩
    | succ i => exact ih i y (by simpa using h)

theorem cellsQ_good {cs : List V} (h : (cellsQ cs).good = true) : ∀ v ∈ cs, (cellQ v).good = true := by
  induction cs with
  | nil => intro v hv; cases hv
  | cons u cs ih =>
    intro v hv
    obtain ⟨h1, h2⟩ := join_good h
    rcases List.mem_cons.1 hv with rfl | hv
    · exact h1
    · exact ih h2 v hv
theorem cellsQ_flat {cs : List V} (h : cellsQ cs = .flat) : ∀ v ∈ cs, cellQ v = .flat := by
  induction cs with
  | nil => intro v hv; cases hv
  | cons u cs ih =>
    intro v hv
    obtain ⟨h1, h2⟩ := join_flat h
    rcases List.mem_cons.1 hv with rfl | hv
    · exact h1
    · exact ih h2 v hv
theorem rowsQ_good {xs : List V} (h : (rowsQ xs).good = true) : ∀ x ∈ xs, ∀ v ∈ x.cells, (cellQ v).good = true := by
  induction xs with
  | nil => intro x hx; cases hx
  | cons u xs ih =>
    intro x hx
    obtain ⟨h1, h2⟩ := join_good h
    rcases List.mem_cons.1 hx with rfl | hx
    · exact cellsQ_good h1
    · exact ih h2 x hx
theorem rowsQ_flat {xs : List V} (h : rowsQ xs = .flat) : ∀ x ∈ xs, ∀ v ∈ x.cells, cellQ v = .flat := by
  induction xs with
  | nil => intro x hx; cases hx
  | cons u xs ih =>
    intro x hx
    obtain ⟨h1, h2⟩ := join_flat h
    rcases List.mem_cons.1 hx with rfl | hx
    · exact cellsQ_flat h1
    · exact ih h2 x hx
theorem cellsB_mem {cs : List V} {v : V} (hv : v ∈ cs) : ∀ b ∈ cellB v, b ∈ cellsB cs := by
  induction cs with
  | nil => cases hv
  | cons u cs ih =>
    intro b hb
    rw [cellsB, List.mem_append]
    rcases List.mem_cons.1 hv with rfl | hv
    · exact .inl hb
    · exact .inr (ih hv b hb)
theorem rowsB_mem {xs : List V} {x : V} (hx : x ∈ xs) : ∀ b ∈ cellsB x.cells, b ∈ rowsB xs := by
  induction xs with
  | nil => cases hx
  | cons u xs ih =>
    intro b hb
    rw [rowsB, List.mem_append]
    rcases List.mem_cons.1 hx with rfl | hx
    · exact .inl hb
    · exact .inr (ih hx b hb)
end
end Go.Am
