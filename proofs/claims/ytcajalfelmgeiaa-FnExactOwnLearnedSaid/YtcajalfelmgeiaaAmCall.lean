/-
  A call: what a function's answer says of a world, and what the caller knows behind the call. No theorem about a Go program stands here.
-/
import Derived.Test.YtcajalfelmgeiaaAmEff3
set_option linter.unusedVariables false
set_option linter.unusedSimpArgs false
namespace Go.Am
open Go Go.RowKit

/-- What a call leaves: old memory is as it was; the result hangs on new blocks, and leads else to what it may read (R) and to new memory that no one writes. -/
structure Answer (R : Nat → Prop) (w : World) (r : V) (x : Value) (w' : World) : Prop where
  os : w'.os = w.os
  tape : w'.tape = w.tape
  output : w'.output = w.output
  size : w.heap.size ≤ w'.heap.size
  old : ∀ k, k < w.heap.size → w'.heap[k]? = w.heap[k]?
  val : ∃ Γ : Ctx, VR Γ w' r x ∧ (∀ k, Γ.F k → w.heap.size ≤ k) ∧ (∀ k, Γ.S k → (R k ∨ w.heap.size ≤ k) ∧ k < w'.heap.size) ∧
    (∀ b, Γ.has b → w.heap.size ≤ Γ.blk b ∧ Γ.blk b < w'.heap.size ∧ ¬ Γ.S (Γ.blk b) ∧ Γ.cap b ≤ maxLen ∧ ∃ cur e, w'.heap[Γ.blk b]? = some (.cells cur e (0, 0)) ∧ Γ.off b + Γ.cap b * Γ.sz b ≤ cur.size) ∧
    (∀ b b', Γ.has b → Γ.has b' → Γ.blk b = Γ.blk b' → b = b') ∧ (∀ b, Γ.has b → Γ.Z (Γ.blk b)) ∧ (∀ k, Γ.Z k → w.heap.size ≤ k ∧ k < w'.heap.size ∧ ∃ cur e, w'.heap[k]? = some (.cells cur e (0, 0)))

/-- The answers are the program's. -/
def Answers (P : Program) (den : Nat → List V → Option V) : Prop := ∀ f args r, den f args = some r →
  (∃ fn, P.funcs[f]? = some fn ∧ fn.body.isNone = false ∧ (fn.name == "runtime.NumGoroutine") = false) ∧
  ∀ (R : Nat → Prop) (w : World) (vals : Array Value), globOk w → (∀ k, R k → k < w.heap.size) → args.length = vals.size → (∀ (i : Nat) (c : V) (v : Value), args[i]? = some c → vals[i]? = some v → Rd w R c v) →
    Calls P f vals w fun
      | .returned x, w' => Answer R w r x w'
      | _, _ => False

section
variable {P : Program} {c : Cfg} {Γ Γ' : Ctx} {st : St} {a : Act} {w w' : World} {den : Nat → List V → Option V} {η : Nat → Option V} {d : Nat}

/-- A sweep over values of a kind. -/
theorem VR.sweepC {f : V → Option V} (C : V → Prop) (hagg : ∀ cs, C (.agg cs) → ∀ u ∈ cs, C u) (htup : ∀ cs, C (.tup cs) → ∀ u ∈ cs, C u) (hclo : ∀ g cs, C (.clo g cs) → ∀ u ∈ cs, C u)
    (hl : ∀ v x, (match v with
      | .agg _ => False
      | .tup _ => False
      | .clo _ _ => False
      | _ => True) → C v → VR Γ w v x → VR Γ' w' ((f v).getD v) x) (v : V) : ∀ x, C v → VR Γ w v x → VR Γ' w' (v.mapB f) x := by
  refine V.rec (motive_1 := fun v => ∀ x, C v → VR Γ w v x → VR Γ' w' (v.mapB f) x) (motive_2 := fun l => (∀ u ∈ l, C u) → ∀ (i : Nat) (u : V) (x : Value), l[i]? = some u → VR Γ w u x → VR Γ' w' (u.mapB f) x)
    ?_ ?_ ?_ ?_ ?_ ?_ ?_ ?_ ?_ ?_ ?_ ?_ ?_ ?_ ?_ ?_ ?_ v
  · intro x hc h; exact hl _ _ trivial hc h
  · intro _ x hc h; exact hl _ _ trivial hc h
  · intro _ _ x hc h; exact hl _ _ trivial hc h
  · intro _ x hc h; exact hl _ _ trivial hc h
  · intro x hc h; exact hl _ _ trivial hc h
  · intro _ _ _ _ x hc h; exact hl _ _ trivial hc h
  · intro _ _ _ _ _ x hc h; exact hl _ _ trivial hc h
  · intro _ _ _ _ _ x hc h; exact hl _ _ trivial hc h
  · intro _ _ x hc h; exact hl _ _ trivial hc h
  · intro _ _ _ _ _ _ _ x hc h; exact hl _ _ trivial hc h
  · intro _ _ _ _ x hc h; exact hl _ _ trivial hc h
  · intro _ _ _ x hc h; exact hl _ _ trivial hc h
  · intro cs ih x hc h
    obtain ⟨vs, rfl, h1, h2⟩ := h.agg_inv
    refine .agg _ vs (by rw [mapBs_len]; exact h1) (fun i c v e1 e2 => ?_)
    rw [mapBs_get] at e1
    cases hcc : cs[i]? with
    | none => rw [hcc] at e1; cases e1
    | some u =>
      rw [hcc] at e1
      simp only [Option.map_some, Option.some.injEq] at e1
      subst e1
      exact ih (hagg cs hc) i u v hcc (h2 i u v hcc e2)
  · intro cs ih x hc h
    obtain ⟨vs, rfl, h1, h2⟩ := h.tup_inv
    refine .tup _ vs (by rw [mapBs_len]; exact h1) (fun i c v e1 e2 => ?_)
    rw [mapBs_get] at e1
    cases hcc : cs[i]? with
    | none => rw [hcc] at e1; cases e1
    | some u =>
      rw [hcc] at e1
      simp only [Option.map_some, Option.some.injEq] at e1
      subst e1
      exact ih (htup cs hc) i u v hcc (h2 i u v hcc e2)
  · intro g cs ih x hc h
    obtain ⟨vs, rfl, h1, h2⟩ := h.clo_inv
    refine .clo _ _ vs (by rw [mapBs_len]; exact h1) (fun i c v e1 e2 => ?_)
    rw [mapBs_get] at e1
    cases hcc : cs[i]? with
    | none => rw [hcc] at e1; cases e1
    | some u =>
      rw [hcc] at e1
      simp only [Option.map_some, Option.some.injEq] at e1
      subst e1
      exact ih (hclo g cs hc) i u v hcc (h2 i u v hcc e2)
  · intro _ i u x h; simp at h
  · intro v l hv hl' hC i u x h hx
    cases i with
    | zero =>
      simp only [List.getElem?_cons_zero, Option.some.injEq] at h
      subst h
      exact hv x (hC _ (by simp)) hx
    | succ i => exact hl' (fun u hu => hC u (by simp [hu])) i u x (by simpa using h) hx

theorem addB_mem {l : List Nat} {b b' : Nat} : b ∈ addB l b' ↔ b ∈ l ∨ b = b' := by
  unfold addB
  split
  · rename_i h
    have : b' ∈ l := by simpa using h
    constructor
    · exact .inl
    · rintro (h | rfl)
      · exact h
      · exact this
  · simp
/-- What a value hangs on is among its bases. -/
theorem bases_mem (b : Nat) (v : V) : ∀ l, (b ∈ l ∨ v.anyB (fun b' => b' == b) = true) → b ∈ V.bases l v := by
  have e : ∀ b' : Nat, (b' == b) = true → b = b' := fun b' h => (by simpa using h : b' = b).symm
  refine V.rec (motive_1 := fun v => ∀ l, (b ∈ l ∨ v.anyB (fun b' => b' == b) = true) → b ∈ V.bases l v) (motive_2 := fun vs => ∀ l, (b ∈ l ∨ V.anyBs (fun b' => b' == b) vs = true) → b ∈ V.basess l vs)
    ?_ ?_ ?_ ?_ ?_ ?_ ?_ ?_ ?_ ?_ ?_ ?_ ?_ ?_ ?_ ?_ ?_ v
  · rintro l (h | h) <;> first | exact h | cases h
  · rintro _ l (h | h) <;> first | exact h | cases h
  · rintro _ _ l (h | h) <;> first | exact h | cases h
  · rintro _ l (h | h) <;> first | exact h | cases h
  · rintro l (h | h) <;> first | exact h | cases h
  · rintro _ _ _ _ l (h | h) <;> first | exact h | cases h
  · rintro b' _ _ _ _ l h
    exact addB_mem.2 (h.imp id (e b'))
  · rintro b' _ _ _ _ l h
    exact addB_mem.2 (h.imp id (e b'))
  · rintro _ _ l (h | h) <;> first | exact h | cases h
  · rintro b' _ _ _ _ _ _ l h
    exact addB_mem.2 (h.imp id (e b'))
  · rintro b' _ _ _ l h
    exact addB_mem.2 (h.imp id (e b'))
  · rintro _ _ _ l (h | h) <;> first | exact h | cases h
  · intro cs ih l h; exact ih l h
  · intro cs ih l h; exact ih l h
  · intro _ cs ih l h; exact ih l h
  · rintro l (h | h) <;> first | exact h | cases h
  · intro u vs hu hvs l h
    refine hvs _ ?_
    rcases h with h | h
    · exact .inl (hu l (.inl h))
    · rw [V.anyBs, Bool.or_eq_true] at h
      rcases h with h | h
      · exact .inl (hu l (.inr h))
      · exact .inr h

theorem Rd.sl_of {S : Nat → Prop} {s k o cap : Nat} {q : Q} {xs : List V} (hr : Rows w S s xs k o) (hq : flatOk q xs) (hl : xs.length ≤ cap) (hk : S k) : Rd w S (.sl s q.isFlat xs) (.slice (some ⟨k, o, none⟩) xs.length cap) := by
  by_cases hx : xs = []
  · subst hx; exact .empty _ _ _ _
  · obtain ⟨r1, g, r2, r3⟩ := hr
    exact .sl s _ xs k o cap g (List.length_pos_iff.2 hx) hl hk r1 (fun e => hq (by cases q <;> first | rfl | cases e)) r2 r3

/-- What is handed to a call, as plain data. -/
theorem strip_ok {R : Nat → Prop} (hs : Sim Γ st a w) (hR : ∀ k, Γ.S k → R k) (v : V) : ∀ (u : V) (x : Value), strip (fun b => st.h.getD b none) v = some u → VR Γ w v x →
    (∀ b, Γ.has b → v.anyB (fun b' => b' == b) = true → R (Γ.blk b)) → (v.anyP (fun _ => true) = true → (∀ d, Γ.lb d → R (Γ.box d)) ∧ ∀ b, Γ.has b → R (Γ.blk b)) → Rd w R u x := by
  have hSq : ∀ q k, Γ.Sq q k → R k := fun q k hk => hR k (Sq_le hk)
  have rm : ∀ {u : V} {y : Value}, Rd w Γ.S u y → Rd w R u y := fun h => h.mono hR (fun _ _ _ => rfl)
  have list : ∀ (cs : List V) (vs : Array Value) (us : List V), strips (fun b => st.h.getD b none) cs = some us →
      (∀ (i : Nat) (c u : V) (y : Value), cs[i]? = some c → us[i]? = some u → vs[i]? = some y → Rd w R u y) → us.length = cs.length → cs.length = vs.size → us.length = vs.size := fun _ _ _ _ _ h1 h2 => h1.trans h2
  refine V.rec (motive_1 := fun v => ∀ (u : V) (x : Value), strip (fun b => st.h.getD b none) v = some u → VR Γ w v x → (∀ b, Γ.has b → v.anyB (fun b' => b' == b) = true → R (Γ.blk b)) →
      (v.anyP (fun _ => true) = true → (∀ d, Γ.lb d → R (Γ.box d)) ∧ ∀ b, Γ.has b → R (Γ.blk b)) → Rd w R u x)
    (motive_2 := fun cs => ∀ (us : List V), strips (fun b => st.h.getD b none) cs = some us → us.length = cs.length ∧ ∀ (i : Nat) (c u : V) (y : Value), cs[i]? = some c → us[i]? = some u → VR Γ w c y →
      (∀ b, Γ.has b → V.anyBs (fun b' => b' == b) cs = true → R (Γ.blk b)) → (V.anyPs (fun _ => true) cs = true → (∀ d, Γ.lb d → R (Γ.box d)) ∧ ∀ b, Γ.has b → R (Γ.blk b)) → Rd w R u y)
    ?_ ?_ ?_ ?_ ?_ ?_ ?_ ?_ ?_ ?_ ?_ ?_ ?_ ?_ ?_ ?_ ?_ v
  · intro u x h; cases h
  · intro b u x h hv _ _
    simp only [strip, Option.some.injEq] at h
    subst h; rw [hv.bool_inv]; exact .bool b
  · intro k n u x h hv _ _
    simp only [strip, Option.some.injEq] at h
    subst h; rw [hv.int_inv]; exact .int k n
  · intro s u x h hv _ _
    simp only [strip, Option.some.injEq] at h
    subst h
    obtain ⟨y, rfl, hy⟩ := hv.str_inv
    exact .str s y hy
  · intro u x h hv _ _
    simp only [strip, Option.some.injEq] at h
    subst h; rw [hv.nil_inv]; exact .nil
  · intro s f xs _ u x h hv _ _
    simp only [strip, Option.some.injEq] at h
    subst h; exact rm hv.sl_inv
  · intro b s q xs _ u x h hv hb _
    simp only [strip, Option.some.injEq] at h
    subst h
    rcases hv.own_inv with ⟨rfl, rfl, _⟩ | ⟨rfl, h1, h2, h3, h4, h5⟩
    · exact .empty _ _ _ _
    · exact Rd.sl_of (h4.mono (hSq q) (fun _ _ _ => rfl) (fun _ _ _ => rfl)) h5 h3.1 (hb b h1 (by simp [V.anyB]))
  · intro b s q xs _ u x h hv hb _
    simp only [strip, Option.some.injEq] at h
    subst h
    rcases hv.view_inv with ⟨ad, cap, rfl, rfl⟩ | ⟨o, cap, rfl, h1, hx, h3, _, h4, h5⟩
    · exact .empty _ _ _ _
    · exact Rd.sl_of (h4.mono (hSq q) (fun _ _ _ => rfl) (fun _ _ _ => rfl)) h5 h3 (hb b h1 (by simp [V.anyB]))
  · intro d o u x h hv _ hp
    simp only [strip] at h
    obtain ⟨rfl, hlb⟩ := hv.ptr_inv
    obtain ⟨p1, p2⟩ := hp rfl
    cases hr : st.h.getD d none with
    | none => rw [hr] at h; cases h
    | some r =>
      rw [hr] at h
      simp only at h
      cases hf : flats r.cells with
      | none => rw [hf] at h; cases h
      | some cs =>
        rw [hf] at h
        simp only [Option.map_some, Option.some.injEq] at h
        subst h
        have hr' : st.h[d]? = some (some r) := by
          rw [List.getD_eq_getElem?_getD] at hr
          cases h : st.h[d]? with
          | none => rw [h] at hr; cases hr
          | some y => rw [h] at hr; exact congrArg _ hr
        obtain ⟨_, cur, e, h2, h3, h4⟩ := hs.bx d r hr'
        obtain ⟨f1, f2⟩ := flats_get hf
        have hcell : ∀ j, w.cell? ⟨Γ.box d, j, none⟩ = cur[j]? := fun j => cell_of h2
        refine Rd.iptr (.agg cs) (Γ.box d) 0 o (fun j => cur.getD j undef) (p1 d hlb) (fun j hj => ?_) (fun j z hz => ?_) |> fun h => by simpa using h
        · have hj : j < cur.size := by simp only [V.cells] at hj; omega
          simp [hcell, hj, Array.getD_eq_getD_getElem?]
        · obtain ⟨y, y1, y2⟩ := f2 j z hz
          obtain ⟨t, t1, t2⟩ := h4 j y y1
          simp only [Array.getD_eq_getD_getElem?, t1, Option.getD_some]
          exact (flat_ok (S' := R) hs.good t2 y2 hR (fun b _ hb => p2 b hb)).1
  · intro b s q xs i o _ u x h hv hb _
    simp only [strip] at h
    obtain ⟨rfl, h1, h2, h3, h4, ⟨r1, g, r2, r3⟩, h6⟩ := hv.eptr_inv
    cases hx : xs[i]? with
    | none => rw [hx] at h; cases h
    | some z =>
      rw [hx] at h
      simp only [Option.some.injEq] at h
      subst h
      refine .iptr z _ (Γ.off b + i * s) o (g i) (hb b h1 (by simp [V.anyB])) (fun j hj => (r2 i j h4 (by rw [← r1 z (mem_of_get hx)]; exact hj)).1) (fun j y hy => ?_)
      exact (r3 i z j y hx hy).mono (hSq q) (fun _ _ _ => rfl)
  · intro b z o _ u x h hv hb _
    simp only [strip, Option.some.injEq] at h
    subst h
    obtain ⟨o', g, rfl, h1, h2, h3⟩ := hv.vptr_inv
    exact .iptr z _ o' o g (hb b h1 (by simp [V.anyB])) h2 (fun j y hy => rm (h3 j y hy))
  · intro z o _ u x h hv _ _
    simp only [strip, Option.some.injEq] at h
    subst h
    cases hv with
    | rd _ _ h => exact rm h
  · intro cs ih u x h hv hb hp
    simp only [strip] at h
    cases hc : strips (fun b => st.h.getD b none) cs with
    | none => rw [hc] at h; cases h
    | some us =>
      rw [hc] at h
      simp only [Option.map_some, Option.some.injEq] at h
      subst h
      obtain ⟨vs, rfl, h1, h2⟩ := hv.agg_inv
      obtain ⟨l1, l2⟩ := ih us hc
      refine .agg us vs (l1.trans h1) (fun i u y hu hy => ?_)
      obtain ⟨z, hz⟩ : ∃ z, cs[i]? = some z := ⟨_, List.getElem?_eq_getElem (by rw [← l1]; exact (List.getElem?_eq_some_iff.1 hu).1)⟩
      exact l2 i z u y hz hu (h2 i z y hz hy) hb hp
  · intro cs ih u x h hv hb hp
    simp only [strip] at h
    cases hc : strips (fun b => st.h.getD b none) cs with
    | none => rw [hc] at h; cases h
    | some us =>
      rw [hc] at h
      simp only [Option.map_some, Option.some.injEq] at h
      subst h
      obtain ⟨vs, rfl, h1, h2⟩ := hv.tup_inv
      obtain ⟨l1, l2⟩ := ih us hc
      refine .tup us vs (l1.trans h1) (fun i u y hu hy => ?_)
      obtain ⟨z, hz⟩ : ∃ z, cs[i]? = some z := ⟨_, List.getElem?_eq_getElem (by rw [← l1]; exact (List.getElem?_eq_some_iff.1 hu).1)⟩
      exact l2 i z u y hz hu (h2 i z y hz hy) hb hp
  · intro f cs ih u x h hv hb hp
    simp only [strip] at h
    cases hc : strips (fun b => st.h.getD b none) cs with
    | none => rw [hc] at h; cases h
    | some us =>
      rw [hc] at h
      simp only [Option.map_some, Option.some.injEq] at h
      subst h
      obtain ⟨vs, rfl, h1, h2⟩ := hv.clo_inv
      obtain ⟨l1, l2⟩ := ih us hc
      refine .clo f us vs (l1.trans h1) (fun i u y hu hy => ?_)
      obtain ⟨z, hz⟩ : ∃ z, cs[i]? = some z := ⟨_, List.getElem?_eq_getElem (by rw [← l1]; exact (List.getElem?_eq_some_iff.1 hu).1)⟩
      exact l2 i z u y hz hu (h2 i z y hz hy) hb hp
  · intro us h
    simp only [strips, Option.some.injEq] at h
    subst h
    exact ⟨rfl, fun i c u y hc => by simp at hc⟩
  · intro z cs hz hcs us h
    simp only [strips] at h
    cases h1 : strip (fun b => st.h.getD b none) z with
    | none => rw [h1] at h; cases h
    | some u0 =>
      cases h2 : strips (fun b => st.h.getD b none) cs with
      | none => rw [h1, h2] at h; cases h
      | some us0 =>
        rw [h1, h2] at h
        simp only [Option.some.injEq] at h
        subst h
        obtain ⟨l1, l2⟩ := hcs us0 h2
        refine ⟨by simp [l1], fun i cc u y hc hu hv hb hp => ?_⟩
        cases i with
        | zero =>
          simp only [List.getElem?_cons_zero, Option.some.injEq] at hc hu
          subst hc; subst hu
          exact hz u0 y h1 hv (fun b hb1 hb2 => hb b hb1 (by rw [V.anyBs, hb2]; rfl)) (fun h => hp (by rw [V.anyPs, h]; rfl))
        | succ i =>
          simp only [List.getElem?_cons_succ] at hc hu
          exact l2 i cc u y hc hu hv (fun b hb1 hb2 => hb b hb1 (by rw [V.anyBs, hb2, Bool.or_true])) (fun h => hp (by rw [V.anyPs, h, Bool.or_true]))
end
end Go.Am
