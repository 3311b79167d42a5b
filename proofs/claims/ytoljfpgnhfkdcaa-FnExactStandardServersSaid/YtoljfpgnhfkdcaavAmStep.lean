/-
  One operation, whatever it is; a region whose order is given.
-/
import Derived.Test.YtoljfpgnhfkdcaavAmEff3
import Derived.Lib.ConvBytes
import Derived.Laws.BytesString
section
set_option linter.unusedVariables false
set_option linter.unusedSimpArgs false
namespace Go.Am
open Go Go.RowKit
structure Answer (R : Nat → Prop) (w : World) (r : V) (x : Value) (w' : World) : Prop where
  os : w'.os = w.os
  tape : w'.tape = w.tape
  output : w'.output = w.output
  size : w.heap.size ≤ w'.heap.size
  old : ∀ k, k < w.heap.size → w'.heap[k]? = w.heap[k]?
  val : ∃ Γ : Ctx, VR Γ w' r x ∧ (∀ k, Γ.F k → w.heap.size ≤ k) ∧ (∀ k, Γ.S k → (R k ∨ w.heap.size ≤ k) ∧ k < w'.heap.size) ∧
    (∀ b, Γ.has b → w.heap.size ≤ Γ.blk b ∧ Γ.blk b < w'.heap.size ∧ ¬ Γ.S (Γ.blk b) ∧ Γ.cap b ≤ maxLen ∧ ∃ cur e, w'.heap[Γ.blk b]? = some (.cells cur e (0, 0)) ∧ Γ.off b + Γ.cap b * Γ.sz b ≤ cur.size) ∧
    (∀ b b', Γ.has b → Γ.has b' → Γ.blk b = Γ.blk b' → b = b') ∧ (∀ b, Γ.has b → Γ.Z (Γ.blk b)) ∧ (∀ k, Γ.Z k → w.heap.size ≤ k ∧ k < w'.heap.size ∧ ∃ cur e, w'.heap[k]? = some (.cells cur e (0, 0))) ∧
    Γ.U ∧ (∀ b, Γ.has b → ∀ m, Γ.N b m → Γ.S m ∧ Γ.Z m) ∧ ∀ b b', Γ.has b → Γ.has b' → b ≠ b' → ∀ m, Γ.N b m → Γ.N b' m → False
def Answers (P : Program) (den : Nat → List V → Option V) : Prop := ∀ f args r, den f args = some r →
 (∃ fn, P.funcs[f]? = some fn ∧ fn.body.isNone = false ∧ (fn.name == "runtime.NumGoroutine") = false) ∧
 ∀ (R : Nat → Prop) (w : World) (vals : Array Value), globOk w → (∀ k, R k → k < w.heap.size) → args.length = vals.size → (∀ (i : Nat) (c : V) (v : Value), args[i]? = some c → vals[i]? = some v → Rd w R c v) →
  Calls P f vals w fun
   | .returned x, w' => Answer R w r x w'
   | _, _ => False
section
variable {P : Program} {c : Cfg} {Γ Γ' : Ctx} {st : St} {a : Act} {w w' : World} {den : Nat → List V → Option V} {η : Nat → Option V} {d : Nat}
theorem VR.sweepC {f : V → Option V} (C : V → Prop) (hagg : ∀ cs, C (.agg cs) → ∀ u ∈ cs, C u) (htup : ∀ cs, C (.tup cs) → ∀ u ∈ cs, C u) (hclo : ∀ g cs, C (.clo g cs) → ∀ u ∈ cs, C u)
  (hl : ∀ v x, (match v with
   | .agg _ => False
   | .tup _ => False
   | .clo _ _ => False
   | _ => True) → C v → VR Γ w v x → VR Γ' w' ((f v).getD v) x) (v : V) : ∀ x, C v → VR Γ w v x → VR Γ' w' (v.mapB f) x := by
 refine V.rec (motive_1 := fun v => ∀ x, C v → VR Γ w v x → VR Γ' w' (v.mapB f) x) (motive_2 := fun l => (∀ u ∈ l, C u) → ∀ (i : Nat) (u : V) (x : Value), l[i]? = some u → VR Γ w u x → VR Γ' w' (u.mapB f) x)
  ?_ ?_ ?_ ?_ ?_ ?_ ?_ ?_ ?_ ?_ ?_ ?_ ?_ ?_ ?_ ?_ ?_ v
 ·intro x hc h; exact hl _ _ trivial hc h
 ·intro _ x hc h; exact hl _ _ trivial hc h
 ·intro _ _ x hc h; exact hl _ _ trivial hc h
 ·intro _ x hc h; exact hl _ _ trivial hc h
 ·intro x hc h; exact hl _ _ trivial hc h
 ·intro _ _ _ _ x hc h; exact hl _ _ trivial hc h
 ·intro _ _ _ _ _ x hc h; exact hl _ _ trivial hc h
 ·intro _ _ _ _ _ x hc h; exact hl _ _ trivial hc h
 ·intro _ _ x hc h; exact hl _ _ trivial hc h
 ·intro _ _ _ _ _ _ _ x hc h; exact hl _ _ trivial hc h
 ·intro _ _ _ _ x hc h; exact hl _ _ trivial hc h
 ·intro _ _ _ x hc h; exact hl _ _ trivial hc h
 ·intro cs ih x hc h
  obtain ⟨vs, rfl, h1, h2⟩ := h.agg_inv
  refine .agg _ vs (by rw [mapBs_len]; exact h1) (fun i c v e1 e2 => ?_)
  rw [mapBs_get] at e1
  cases hcc : cs[i]? with
  | none => rw [hcc] at e1; cases e1
  | some u =>
   rw [hcc] at e1
   simp only [Option.map_some, Option.some.injEq] at e1
   subst e1
   exact ih (hagg cs hc) i u v hcc (h2 i u v hcc e2)
 ·intro cs ih x hc h
  obtain ⟨vs, rfl, h1, h2⟩ := h.tup_inv
  refine .tup _ vs (by rw [mapBs_len]; exact h1) (fun i c v e1 e2 => ?_)
  rw [mapBs_get] at e1
  cases hcc : cs[i]? with
  | none => rw [hcc] at e1; cases e1
  | some u =>
   rw [hcc] at e1
   simp only [Option.map_some, Option.some.injEq] at e1
   subst e1
   exact ih (htup cs hc) i u v hcc (h2 i u v hcc e2)
 ·intro g cs ih x hc h
  obtain ⟨vs, rfl, h1, h2⟩ := h.clo_inv
  refine .clo _ _ vs (by rw [mapBs_len]; exact h1) (fun i c v e1 e2 => ?_)
  rw [mapBs_get] at e1
  cases hcc : cs[i]? with
  | none => rw [hcc] at e1; cases e1
  | some u =>
   rw [hcc] at e1
   simp only [Option.map_some, Option.some.injEq] at e1
   subst e1
   exact ih (hclo g cs hc) i u v hcc (h2 i u v hcc e2)
 ·intro _ i u x h; simp at h
 ·intro v l hv hl' hC i u x h hx
  cases i with
  | zero =>
   simp only [List.getElem?_cons_zero, Option.some.injEq] at h
   subst h
   exact hv x (hC _ (by simp)) hx
  | succ i => exact hl' (fun u hu => hC u (by simp [hu])) i u x (by simpa using h) hx
theorem addB_mem {l : List Nat} {b b' : Nat} : b ∈ addB l b' ↔ b ∈ l ∨ b = b' := by
 unfold addB
 split
 ·rename_i h
  have : b' ∈ l := by simpa using h
  constructor
  ·exact .inl
  ·rintro (h | rfl)
   ·exact h
   ·exact this
 ·simp
theorem bases_mem (b : Nat) (v : V) : ∀ l, (b ∈ l ∨ v.anyB (fun b' => b' == b) = true) → b ∈ V.bases l v := by
 have e : ∀ b' : Nat, (b' == b) = true → b = b' := fun b' h => (by simpa using h : b' = b).symm
 refine V.rec (motive_1 := fun v => ∀ l, (b ∈ l ∨ v.anyB (fun b' => b' == b) = true) → b ∈ V.bases l v) (motive_2 := fun vs => ∀ l, (b ∈ l ∨ V.anyBs (fun b' => b' == b) vs = true) → b ∈ V.basess l vs)
  ?_ ?_ ?_ ?_ ?_ ?_ ?_ ?_ ?_ ?_ ?_ ?_ ?_ ?_ ?_ ?_ ?_ v
 ·rintro l (h | h) <;> first | exact h | cases h
 ·rintro _ l (h | h) <;> first | exact h | cases h
 ·rintro _ _ l (h | h) <;> first | exact h | cases h
 ·rintro _ l (h | h) <;> first | exact h | cases h
 ·rintro l (h | h) <;> first | exact h | cases h
 ·rintro _ _ _ _ l (h | h) <;> first | exact h | cases h
 ·rintro b' _ _ _ _ l h
  exact addB_mem.2 (h.imp id (e b'))
 ·rintro b' _ _ _ _ l h
  exact addB_mem.2 (h.imp id (e b'))
 ·rintro _ _ l (h | h) <;> first | exact h | cases h
 ·rintro b' _ _ _ _ _ _ l h
  exact addB_mem.2 (h.imp id (e b'))
 ·rintro b' _ _ _ l h
  exact addB_mem.2 (h.imp id (e b'))
 ·rintro _ _ _ l (h | h) <;> first | exact h | cases h
 ·intro cs ih l h; exact ih l h
 ·intro cs ih l h; exact ih l h
 ·intro _ cs ih l h; exact ih l h
 ·rintro l (h | h) <;> first | exact h | cases h
 ·intro u vs hu hvs l h
  refine hvs _ ?_
  rcases h with h | h
  ·exact .inl (hu l (.inl h))
  ·rw [V.anyBs, Bool.or_eq_true] at h
   rcases h with h | h
   ·exact .inl (hu l (.inr h))
   ·exact .inr h
theorem Rd.sl_of {S : Nat → Prop} {s k o cap : Nat} {q : Q} {xs : List V} (hr : Rows w S s xs k o) (hq : flatOk q xs) (hl : xs.length ≤ cap) (hk : S k) : Rd w S (.sl s q.isFlat xs) (.slice (some ⟨k, o, none⟩) xs.length cap) := by
 by_cases hx : xs = []
 ·subst hx; exact .empty _ _ _ _
 ·obtain ⟨r1, g, r2, r3⟩ := hr
  exact .sl s _ xs k o cap g (List.length_pos_iff.2 hx) hl hk r1 (fun e => hq (by cases q <;> first | rfl | cases e)) r2 r3
theorem strip_ok {R : Nat → Prop} (hs : Sim Γ st a w) (hR : ∀ k, Γ.S k → R k) (v : V) : ∀ (u : V) (x : Value), strip (fun b => st.h.getD b none) v = some u → VR Γ w v x →
  (∀ b, Γ.has b → v.anyB (fun b' => b' == b) = true → R (Γ.blk b)) → (v.anyP (fun _ => true) = true → (∀ d, Γ.lb d → R (Γ.box d)) ∧ ∀ b, Γ.has b → R (Γ.blk b)) → Rd w R u x := by
 have hSq : ∀ q k, Γ.Sq q k → R k := fun q k hk => hR k (Sq_le hk)
 have rm : ∀ {u : V} {y : Value}, Rd w Γ.S u y → Rd w R u y := fun h => h.mono hR (fun _ _ _ => rfl)
 have list : ∀ (cs : List V) (vs : Array Value) (us : List V), strips (fun b => st.h.getD b none) cs = some us →
   (∀ (i : Nat) (c u : V) (y : Value), cs[i]? = some c → us[i]? = some u → vs[i]? = some y → Rd w R u y) → us.length = cs.length → cs.length = vs.size → us.length = vs.size := fun _ _ _ _ _ h1 h2 => h1.trans h2
 refine V.rec (motive_1 := fun v => ∀ (u : V) (x : Value), strip (fun b => st.h.getD b none) v = some u → VR Γ w v x → (∀ b, Γ.has b → v.anyB (fun b' => b' == b) = true → R (Γ.blk b)) →
   (v.anyP (fun _ => true) = true → (∀ d, Γ.lb d → R (Γ.box d)) ∧ ∀ b, Γ.has b → R (Γ.blk b)) → Rd w R u x)
  (motive_2 := fun cs => ∀ (us : List V), strips (fun b => st.h.getD b none) cs = some us → us.length = cs.length ∧ ∀ (i : Nat) (c u : V) (y : Value), cs[i]? = some c → us[i]? = some u → VR Γ w c y →
   (∀ b, Γ.has b → V.anyBs (fun b' => b' == b) cs = true → R (Γ.blk b)) → (V.anyPs (fun _ => true) cs = true → (∀ d, Γ.lb d → R (Γ.box d)) ∧ ∀ b, Γ.has b → R (Γ.blk b)) → Rd w R u y)
  ?_ ?_ ?_ ?_ ?_ ?_ ?_ ?_ ?_ ?_ ?_ ?_ ?_ ?_ ?_ ?_ ?_ v
 ·intro u x h; cases h
 ·intro b u x h hv _ _
  simp only [strip, Option.some.injEq] at h
  subst h; rw [hv.bool_inv]; exact .bool b
 ·intro k n u x h hv _ _
  simp only [strip, Option.some.injEq] at h
  subst h; rw [hv.int_inv]; exact .int k n
 ·intro s u x h hv _ _
  simp only [strip, Option.some.injEq] at h
  subst h
  obtain ⟨y, rfl, hy⟩ := hv.str_inv
  exact .str s y hy
 ·intro u x h hv _ _
  simp only [strip, Option.some.injEq] at h
  subst h; rw [hv.nil_inv]; exact .nil
 ·intro s f xs _ u x h hv _ _
  simp only [strip, Option.some.injEq] at h
  subst h; exact rm hv.sl_inv
 ·intro b s q xs _ u x h hv hb _
  simp only [strip, Option.some.injEq] at h
  subst h
  rcases hv.own_inv with ⟨rfl, rfl, _⟩ | ⟨rfl, h1, h2, h3, h4, h5⟩
  ·exact .empty _ _ _ _
  ·exact Rd.sl_of (h4.mono (hSq q) (fun _ _ _ => rfl) (fun _ _ _ => rfl)) h5 h3.1 (hb b h1 (by simp [V.anyB]))
 ·intro b s q xs _ u x h hv hb _
  simp only [strip, Option.some.injEq] at h
  subst h
  rcases hv.view_inv with ⟨ad, cap, rfl, rfl⟩ | ⟨o, cap, rfl, h1, hx, h3, _, h4, h5⟩
  ·exact .empty _ _ _ _
  ·exact Rd.sl_of (h4.mono (hSq q) (fun _ _ _ => rfl) (fun _ _ _ => rfl)) h5 h3 (hb b h1 (by simp [V.anyB]))
 ·intro d o u x h hv _ hp
  simp only [strip] at h
  obtain ⟨rfl, hlb⟩ := hv.ptr_inv
  obtain ⟨p1, p2⟩ := hp rfl
  cases hr : st.h.getD d none with
  | none => rw [hr] at h; cases h
  | some r =>
   rw [hr] at h
   simp only at h
   cases hf : flats r.cells with
   | none => rw [hf] at h; cases h
   | some cs =>
    rw [hf] at h
    simp only [Option.map_some, Option.some.injEq] at h
    subst h
    have hr' : st.h[d]? = some (some r) := by
     rw [List.getD_eq_getElem?_getD] at hr
     cases h : st.h[d]? with
     | none => rw [h] at hr; cases hr
     | some y => rw [h] at hr; exact congrArg _ hr
    obtain ⟨_, cur, e, h2, h3, h4⟩ := hs.bx d r hr'
    obtain ⟨f1, f2⟩ := flats_get hf
    have hcell : ∀ j, w.cell? ⟨Γ.box d, j, none⟩ = cur[j]? := fun j => cell_of h2
    refine Rd.iptr (.agg cs) (Γ.box d) 0 o (fun j => cur.getD j undef) (p1 d hlb) (fun j hj => ?_) (fun j z hz => ?_) |> fun h => by simpa using h
    ·have hj : j < cur.size := by simp only [V.cells] at hj; omega
     simp [hcell, hj, Array.getD_eq_getD_getElem?]
    ·obtain ⟨y, y1, y2⟩ := f2 j z hz
     obtain ⟨t, t1, t2⟩ := h4 j y y1
     simp only [Array.getD_eq_getD_getElem?, t1, Option.getD_some]
     exact (flat_ok (S' := R) hs.good t2 y2 hR (fun b _ hb => p2 b hb)).1
 ·intro b s q xs i o _ u x h hv hb _
  simp only [strip] at h
  obtain ⟨rfl, h1, h2, h3, h4, ⟨r1, g, r2, r3⟩, h6⟩ := hv.eptr_inv
  cases hx : xs[i]? with
  | none => rw [hx] at h; cases h
  | some z =>
   rw [hx] at h
   simp only [Option.some.injEq] at h
   subst h
   refine .iptr z _ (Γ.off b + i * s) o (g i) (hb b h1 (by simp [V.anyB])) (fun j hj => (r2 i j h4 (by rw [← r1 z (mem_of_get hx)]; exact hj)).1) (fun j y hy => ?_)
   exact (r3 i z j y hx hy).mono (hSq q) (fun _ _ _ => rfl)
 ·intro b z o _ u x h hv hb _
  simp only [strip, Option.some.injEq] at h
  subst h
  obtain ⟨o', g, rfl, h1, h2, h3⟩ := hv.vptr_inv
  exact .iptr z _ o' o g (hb b h1 (by simp [V.anyB])) h2 (fun j y hy => rm (h3 j y hy))
 ·intro z o _ u x h hv _ _
  simp only [strip, Option.some.injEq] at h
  subst h
  cases hv with
  | rd _ _ h => exact rm h
 ·intro cs ih u x h hv hb hp
  simp only [strip] at h
  cases hc : strips (fun b => st.h.getD b none) cs with
  | none => rw [hc] at h; cases h
  | some us =>
   rw [hc] at h
   simp only [Option.map_some, Option.some.injEq] at h
   subst h
   obtain ⟨vs, rfl, h1, h2⟩ := hv.agg_inv
   obtain ⟨l1, l2⟩ := ih us hc
   refine .agg us vs (l1.trans h1) (fun i u y hu hy => ?_)
   obtain ⟨z, hz⟩ : ∃ z, cs[i]? = some z := ⟨_, List.getElem?_eq_getElem (by rw [← l1]; exact (List.getElem?_eq_some_iff.1 hu).1)⟩
   exact l2 i z u y hz hu (h2 i z y hz hy) hb hp
 ·intro cs ih u x h hv hb hp
  simp only [strip] at h
  cases hc : strips (fun b => st.h.getD b none) cs with
  | none => rw [hc] at h; cases h
  | some us =>
   rw [hc] at h
   simp only [Option.map_some, Option.some.injEq] at h
   subst h
   obtain ⟨vs, rfl, h1, h2⟩ := hv.tup_inv
   obtain ⟨l1, l2⟩ := ih us hc
   refine .tup us vs (l1.trans h1) (fun i u y hu hy => ?_)
   obtain ⟨z, hz⟩ : ∃ z, cs[i]? = some z := ⟨_, List.getElem?_eq_getElem (by rw [← l1]; exact (List.getElem?_eq_some_iff.1 hu).1)⟩
   exact l2 i z u y hz hu (h2 i z y hz hy) hb hp
 ·intro f cs ih u x h hv hb hp
  simp only [strip] at h
  cases hc : strips (fun b => st.h.getD b none) cs with
  | none => rw [hc] at h; cases h
  | some us =>
   rw [hc] at h
   simp only [Option.map_some, Option.some.injEq] at h
   subst h
   obtain ⟨vs, rfl, h1, h2⟩ := hv.clo_inv
   obtain ⟨l1, l2⟩ := ih us hc
   refine .clo f us vs (l1.trans h1) (fun i u y hu hy => ?_)
   obtain ⟨z, hz⟩ : ∃ z, cs[i]? = some z := ⟨_, List.getElem?_eq_getElem (by rw [← l1]; exact (List.getElem?_eq_some_iff.1 hu).1)⟩
   exact l2 i z u y hz hu (h2 i z y hz hy) hb hp
 ·intro us h
  simp only [strips, Option.some.injEq] at h
  subst h
  exact ⟨rfl, fun i c u y hc => by simp at hc⟩
 ·intro z cs hz hcs us h
  simp only [strips] at h
  cases h1 : strip (fun b => st.h.getD b none) z with
  | none => rw [h1] at h; cases h
  | some u0 =>
   cases h2 : strips (fun b => st.h.getD b none) cs with
   | none => rw [h1, h2] at h; cases h
   | some us0 =>
    rw [h1, h2] at h
    simp only [Option.some.injEq] at h
    subst h
    obtain ⟨l1, l2⟩ := hcs us0 h2
    refine ⟨by simp [l1], fun i cc u y hc hu hv hb hp => ?_⟩
    cases i with
    | zero =>
     simp only [List.getElem?_cons_zero, Option.some.injEq] at hc hu
     subst hc; subst hu
     exact hz u0 y h1 hv (fun b hb1 hb2 => hb b hb1 (by rw [V.anyBs, hb2]; rfl)) (fun h => hp (by rw [V.anyPs, h]; rfl))
    | succ i =>
     simp only [List.getElem?_cons_succ] at hc hu
     exact l2 i cc u y hc hu hv (fun b hb1 hb2 => hb b hb1 (by rw [V.anyBs, hb2, Bool.or_true])) (fun h => hp (by rw [V.anyPs, h, Bool.or_true]))
end
end Go.Am
end
section
set_option linter.unusedVariables false
set_option linter.unusedSimpArgs false
namespace Go.Am
open Go Go.RowKit
section
variable {P : Program} {c : Cfg} {Γ Γ' : Ctx} {st : St} {a : Act} {w w' : World} {den : Nat → List V → Option V} {η : Nat → Option V} {d : Nat}
theorem takeR_inv {az : List V} {r v : V} {esc : List Nat} {n : Nat} (h : takeR d az r = some (.fresh v esc n)) :
  r.anyB (fun b => decide (999 ≤ b)) = false ∧ v = r.mapB (thawB d) ∧ n = (if r.anyB (fun _ => true) then 1 else 0) ∧ (r.old = true → V.anyPs (fun _ => true) az = false ∧ esc = V.basess [] az) ∧ (r.old = false → esc = []) := by
 unfold takeR at h
 split at h
 ·cases h
 ·rename_i h1
  split at h
  ·rename_i h2
   split at h
   ·cases h
   ·rename_i h3
    simp only [Option.some.injEq, Out.fresh.injEq] at h
    obtain ⟨rfl, rfl, rfl⟩ := h
    exact ⟨by simpa using h1, rfl, rfl, fun _ => ⟨by simpa using h3, rfl⟩, fun e => by rw [h2] at e; cases e⟩
  ·rename_i h2
   simp only [Option.some.injEq, Out.fresh.injEq] at h
   obtain ⟨rfl, rfl, rfl⟩ := h
   exact ⟨by simpa using h1, rfl, rfl, fun e => absurd e h2, fun _ => rfl⟩
theorem olds_mem : ∀ {cs : List V}, V.olds cs = false → ∀ u ∈ cs, u.old = false := by
 intro cs
 induction cs with
 | nil => intro _ u hu; cases hu
 | cons v vs ih =>
  intro h u hu
  rw [V.olds, Bool.or_eq_false_iff] at h
  rcases List.mem_cons.1 hu with rfl | hu
  ·exact h.1
  ·exact ih h.2 u hu
theorem olds_any {cs : List V} {u : V} (hu : u ∈ cs) (h : u.old = true) : V.olds cs = true := by
 cases ho : V.olds cs with
 | true => rfl
 | false => rw [olds_mem ho u hu] at h; cases h
theorem anyBs_any {p : Nat → Bool} {cs : List V} {u : V} (hu : u ∈ cs) (h : u.anyB p = true) : V.anyBs p cs = true := by
 cases ho : V.anyBs p cs with
 | true => rfl
 | false => rw [anyBs_mem ho u hu] at h; cases h
theorem Sim.home {az : List V} {r v : V} {x : Value} {esc : List Nat} {n : Nat} {R : Nat → Prop} {m : Bool} (hs : Sim Γ st a w) (hd : d < 1000) (hf : n = 0 ∨ st.freeD d = true) (ht : takeR d az r = some (.fresh v esc n))
    (hR : r.old = true → ∀ k, R k → addS Γ esc k) (ha : Answer R w r x w') : Sims Γ ((({ st with t := st.t.set d v } : St).kill esc).mark m) (a.put (some d) x) w' := by
  obtain ⟨t1, rfl, t3, t4, t5⟩ := takeR_inv ht
  obtain ⟨Γr, hv, rF, rS, rb, rinj, rbz, rzf, rU, rns, rnd⟩ := ha.val
  have g := hs.good
  let p : Nat → Bool := fun b => (n != 0) && (b / 1000 == d)
  let Γ' : Ctx := { Γ with S := fun k => addS Γ esc k ∨ (w.heap.size ≤ k ∧ Γr.S k), has := fun b => if p b = true then Γr.has (b % 1000) ∧ b ≠ 999 else Γ.has b,
                           blk := fun b => if p b = true then Γr.blk (b % 1000) else Γ.blk b, off := fun b => if p b = true then Γr.off (b % 1000) else Γ.off b,
                           cap := fun b => if p b = true then Γr.cap (b % 1000) else Γ.cap b, sz := fun b => if p b = true then Γr.sz (b % 1000) else Γ.sz b,
                           ln := fun b => if p b = true then Γr.ln (b % 1000) else Γ.ln b, Z := fun k => Γ.Z k ∨ Γr.Z k,
                           N := fun b => if p b = true then Γr.N (b % 1000) else Γ.N b }
  have hne : ∀ b, p b = true → st.freeD d = true ∧ b / 1000 = d := by
    intro b hb
    simp only [p, Bool.and_eq_true, bne_iff_ne, ne_eq, beq_iff_eq] at hb
    exact ⟨hf.resolve_left hb.1, hb.2⟩
  have hS' : ∀ k, Γ'.S k → k < w'.heap.size := by
    rintro k (hk | ⟨_, hk⟩)
    · exact Nat.lt_of_lt_of_le (addS_lt g hk) ha.size
    · exact (rS k hk).2
  have hgood : Good Γ' w' := by
    refine ⟨ha.os.trans g.os, ha.tape.trans g.tape, ha.output.trans g.output, Nat.le_trans g.size ha.size, fun k hk hF => ?_, g.new, hS', fun b hb => ?_, fun b b' hb hb' he => ?_, fun k hk => ?_, g.boxInj, fun b k hb hk => ?_, fun k hk => hk.elim (addS_sr g k) (fun h => .inr (g.new k (Nat.le_trans g.size h.1))), g.gl, fun b hb => ?bz, fun k hk => ?zf, fun b hb m hm => ?ns, fun h => ?h9⟩
    case h9 =>
      change (if p 999 = true then _ ∧ (999 : Nat) ≠ 999 else Γ.has 999) at h
      split at h
      · exact h.2 rfl
      · exact g.h9 h
    case ns =>
      change (if p b = true then Γr.has (b % 1000) ∧ b ≠ 999 else Γ.has b) at hb
      change (if p b = true then Γr.N (b % 1000) else Γ.N b) m at hm
      by_cases hp : p b = true
      · rw [if_pos hp] at hb hm
        obtain ⟨h1, h2⟩ := rns _ hb.1 m hm
        exact ⟨.inr ⟨(rzf m h2).1, h1⟩, .inr h2⟩
      · rw [if_neg hp] at hb hm
        obtain ⟨h1, h2⟩ := g.ns b hb m hm
        exact ⟨.inl (.inl h1), .inl h2⟩
    case bz =>
      change (if p b = true then Γr.has (b % 1000) ∧ b ≠ 999 else Γ.has b) at hb
      show Γ.Z (if p b = true then _ else _) ∨ Γr.Z (if p b = true then _ else _)
      by_cases hp : p b = true
      · rw [if_pos hp] at hb ⊢
        exact .inr (rbz _ hb.1)
      · rw [if_neg hp] at hb ⊢
        exact .inl (g.bz b hb)
    case zf =>
      rcases hk with hk | hk
      · obtain ⟨z1, z2, cur, e, h⟩ := g.zf k hk
        exact ⟨z1, Nat.lt_of_lt_of_le z2 ha.size, cur, e, (ha.old _ z2).trans h⟩
      · obtain ⟨z1, z2, cur, e, h⟩ := rzf k hk
        exact ⟨g.new k (Nat.le_trans g.size z1), z2, cur, e, h⟩
    · exact (ha.old k (Nat.lt_of_lt_of_le hk g.size)).trans (g.old k hk hF)
    · change (if p b = true then Γr.has (b % 1000) ∧ b ≠ 999 else Γ.has b) at hb
      show Γ.F (if p b = true then _ else _) ∧ (if p b = true then _ else _) < _ ∧ (if p b = true then _ else _) ≤ _ ∧ ∃ cur e, w'.heap[if p b = true then Γr.blk (b % 1000) else Γ.blk b]? = some (.cells cur e (0, 0)) ∧
        (if p b = true then Γr.off (b % 1000) else Γ.off b) + (if p b = true then Γr.cap (b % 1000) else Γ.cap b) * (if p b = true then Γr.sz (b % 1000) else Γ.sz b) ≤ cur.size
      by_cases hp : p b = true
      · simp only [if_pos hp] at hb ⊢
        obtain ⟨h1, h2, _, h4, h5⟩ := rb _ hb.1
        exact ⟨g.new _ (Nat.le_trans g.size h1), h2, h4, h5⟩
      · simp only [if_neg hp] at hb ⊢
        obtain ⟨h1, h2, h3, cur, e, h4, h5⟩ := g.base b hb
        exact ⟨h1, Nat.lt_of_lt_of_le h2 ha.size, h3, cur, e, (ha.old _ h2).trans h4, h5⟩
    · change (if p b = true then Γr.has (b % 1000) ∧ b ≠ 999 else Γ.has b) at hb
      change (if p b' = true then Γr.has (b' % 1000) ∧ b' ≠ 999 else Γ.has b') at hb'
      change (if p b = true then Γr.blk (b % 1000) else Γ.blk b) = (if p b' = true then Γr.blk (b' % 1000) else Γ.blk b') at he
      by_cases hp : p b = true
      · by_cases hp' : p b' = true
        · rw [if_pos hp] at hb; rw [if_pos hp'] at hb'; rw [if_pos hp, if_pos hp'] at he
          have h1 := rinj _ _ hb.1 hb'.1 he
          have h2 := (hne b hp).2
          have h3 := (hne b' hp').2
          omega
        · rw [if_pos hp] at hb; rw [if_neg hp'] at hb'; rw [if_pos hp, if_neg hp'] at he
          have h1 := (rb _ hb.1).1
          have h2 := (g.base _ hb').2.1
          omega
      · by_cases hp' : p b' = true
        · rw [if_neg hp] at hb; rw [if_pos hp'] at hb'; rw [if_neg hp, if_pos hp'] at he
          have h1 := (rb _ hb'.1).1
          have h2 := (g.base _ hb).2.1
          omega
        · rw [if_neg hp] at hb; rw [if_neg hp'] at hb'; rw [if_neg hp, if_neg hp'] at he
          exact g.baseInj b b' hb hb' he
    · obtain ⟨h1, h2, h3⟩ := g.box k hk
      refine ⟨h1, ?_, Nat.lt_of_lt_of_le h3 ha.size⟩
      rintro (h | ⟨h, _⟩)
      · exact addS_box g hk h
      · exact absurd h (by show ¬ w.heap.size ≤ Γ.box k; omega)
    · change (if p b = true then Γr.has (b % 1000) ∧ b ≠ 999 else Γ.has b) at hb
      show (if p b = true then Γr.blk (b % 1000) else Γ.blk b) ≠ Γ.box k
      have h3 := (g.box k hk).2.2
      by_cases hp : p b = true
      · rw [if_pos hp] at hb ⊢
        have := (rb _ hb.1).1
        omega
      · rw [if_neg hp] at hb ⊢
        exact g.baseBox b k hb hk
  refine ⟨Γ', ⟨rfl, rfl, rfl⟩, ?_⟩
  refine Sim.extend (p := p) hs ha.old (fun h => h) (fun k hk => .inl (.inl hk)) (fun _ h => .inl h) (fun b hb => ?_) (fun _ h => h) (fun _ => rfl) (fun i u hi hu => ?_) (fun i u hu => ?_) hgood ?_ (fun h _ => hs.du h) ?_ ?_
  · have hb : ¬ p b = true := by rw [hb]; simp
    exact ⟨by show (if p b = true then _ else _) ↔ _; rw [if_neg hb], fun _ => ⟨if_neg hb, if_neg hb, if_neg hb, if_neg hb, if_neg hb, fun m hm => by show (if p b = true then Γr.N (b % 1000) else Γ.N b) m; rw [if_neg hb]; exact hm⟩⟩
  · rcases hf with h0 | hf
    · have : p = fun _ => false := by funext b; simp [p, h0]
      rw [this]; exact anyB_false u
    · have h1 := freeD_t hf i u hi hu
      by_cases h0 : n = 0
      · have : p = fun _ => false := by funext b; simp [p, h0]
        rw [this]; exact anyB_false u
      · have : p = fun b => b / 1000 == d := by funext b; simp [p, h0]
        rw [this]; exact h1
  · rcases hf with h0 | hf
    · have : p = fun _ => false := by funext b; simp [p, h0]
      rw [this]; exact anyB_false u
    · have h1 := freeD_h hf i u hu
      by_cases h0 : n = 0
      · have : p = fun _ => false := by funext b; simp [p, h0]
        rw [this]; exact anyB_false u
      · have : p = fun b => b / 1000 == d := by funext b; simp [p, h0]
        rw [this]; exact h1
  · intro b hb he hdd
    change (if p b = true then Γr.has (b % 1000) ∧ b ≠ 999 else Γ.has b) at hb
    show ¬ (addS Γ esc (if p b = true then Γr.blk (b % 1000) else Γ.blk b) ∨ (w.heap.size ≤ (if p b = true then Γr.blk (b % 1000) else Γ.blk b) ∧ Γr.S (if p b = true then Γr.blk (b % 1000) else Γ.blk b)))
    by_cases hp : p b = true
    · rw [if_pos hp] at hb ⊢
      obtain ⟨h1, _, h3, _⟩ := rb _ hb.1
      rintro (h | ⟨_, h⟩)
      · have := addS_lt g h; omega
      · exact h3 h
    · rw [if_neg hp] at hb ⊢
      rintro (h | ⟨h, _⟩)
      · exact addS_base g hb (hs.nds b hb hdd) he h
      · have := (g.base b hb).2.1; omega
  · intro hU b b' hb hb' he hdd he' hdd' hne2 m hm hm'
    change (if p b = true then Γr.has (b % 1000) ∧ b ≠ 999 else Γ.has b) at hb
    change (if p b' = true then Γr.has (b' % 1000) ∧ b' ≠ 999 else Γ.has b') at hb'
    change (if p b = true then Γr.N (b % 1000) else Γ.N b) m at hm
    change (if p b' = true then Γr.N (b' % 1000) else Γ.N b') m at hm'
    by_cases hp : p b = true
    · by_cases hp' : p b' = true
      · rw [if_pos hp] at hb hm; rw [if_pos hp'] at hb' hm'
        have h2 := (hne b hp).2
        have h3 := (hne b' hp').2
        exact rnd _ _ hb.1 hb'.1 (by omega) m hm hm'
      · rw [if_pos hp] at hb hm; rw [if_neg hp'] at hb' hm'
        have h1 := (rzf m (rns _ hb.1 m hm).2).1
        have h2 := g.slt m (g.ns b' hb' m hm').1
        omega
    · by_cases hp' : p b' = true
      · rw [if_neg hp] at hb hm; rw [if_pos hp'] at hb' hm'
        have h1 := (rzf m (rns _ hb'.1 m hm').2).1
        have h2 := g.slt m (g.ns b hb m hm).1
        omega
      · rw [if_neg hp] at hb hm; rw [if_neg hp'] at hb' hm'
        exact hs.nd hU b b' hb hb' hdd hdd' hne2 m hm hm'
  · -- the value
    have hSq : ∀ (q : Q), (q.good = false → r.old = true) → ∀ k, Γr.Sq q k → Γ'.Sq q k := by
      intro q hq k hk
      cases q with
      | any =>
        have ho := hq rfl
        rcases (rS k hk).1 with h | h
        · exact .inl (hR ho k h)
        · exact .inr ⟨h, hk⟩
      | flat => exact ⟨.inr ⟨(rzf k hk.2).1, hk.1⟩, .inr hk.2⟩
      | clean => exact ⟨.inr ⟨(rzf k hk.2).1, hk.1⟩, .inr hk.2⟩
    have hSo : r.old = true → ∀ k, Γr.S k → Γ'.S k := fun ho k hk => hSq .any (fun _ => ho) k hk
    refine VR.sweepC (Γ := Γr) (Γ' := Γ') (w := w') (w' := w') (fun u => u.anyB (fun b => decide (999 ≤ b)) = false ∧ (u.old = true → r.old = true) ∧ (u.anyB (fun _ => true) = true → n ≠ 0))
      (fun cs h u hu => ⟨anyBs_mem h.1 u hu, fun e => h.2.1 (olds_any hu e), fun e => h.2.2 (anyBs_any hu e)⟩) (fun cs h u hu => ⟨anyBs_mem h.1 u hu, fun e => h.2.1 (olds_any hu e), fun e => h.2.2 (anyBs_any hu e)⟩)
      (fun _ cs h u hu => ⟨anyBs_mem h.1 u hu, fun e => h.2.1 (olds_any hu e), fun e => h.2.2 (anyBs_any hu e)⟩) (fun u y hleaf hc hu => ?_) r x ⟨t1, fun e => e, fun e => by rw [t3, if_pos e]; simp⟩ hv
    obtain ⟨c1, c2, c3⟩ := hc
    cases u with
    | undef => exact VR.undef_ _
    | bool b => rw [hu.bool_inv]; exact .rd _ _ (.bool b)
    | int k m => rw [hu.int_inv]; exact .rd _ _ (.int k m)
    | str s => obtain ⟨z, rfl, hz⟩ := hu.str_inv; exact .rd _ _ (.str s z hz)
    | nil => rw [hu.nil_inv]; exact .rd _ _ .nil
    | sl s f xs => exact .rd _ _ (hu.sl_inv.mono (hSo (c2 rfl)) (fun _ _ _ => rfl))
    | iptr z o =>
      cases hu with
      | rd _ _ h => exact .rd _ _ (h.mono (hSo (c2 rfl)) (fun _ _ _ => rfl))
    | ptr _ _ => exact VR.undef_ _
    | eptr _ _ _ _ _ _ => exact VR.undef_ _
    | vptr _ _ _ => exact VR.undef_ _
    | agg _ => cases hleaf
    | tup _ => cases hleaf
    | clo _ _ => cases hleaf
    | own b s q xs =>
      have hb9 : b < 999 := by simpa [V.anyB] using c1
      have hb : b < 1000 := by omega
      have hn0 := c3 rfl
      have hpb : p (base d b) = true := by simp [p, hn0, base_div hd hb]
      have hmod : base d b % 1000 = b := by unfold base; omega
      have e0 : Γ'.has (base d b) = Γr.has b := by show (if p (base d b) = true then _ else _) = _; rw [if_pos hpb, hmod]; exact propext ⟨fun h => h.1, fun h => ⟨h, by unfold base; omega⟩⟩
      have e6 : Γ'.N (base d b) = Γr.N b := by show (if p (base d b) = true then _ else _) = _; rw [if_pos hpb, hmod]
      have e1 : Γ'.blk (base d b) = Γr.blk b := by show (if p (base d b) = true then _ else _) = _; rw [if_pos hpb, hmod]
      have e2 : Γ'.off (base d b) = Γr.off b := by show (if p (base d b) = true then _ else _) = _; rw [if_pos hpb, hmod]
      have e3 : Γ'.cap (base d b) = Γr.cap b := by show (if p (base d b) = true then _ else _) = _; rw [if_pos hpb, hmod]
      have e4 : Γ'.sz (base d b) = Γr.sz b := by show (if p (base d b) = true then _ else _) = _; rw [if_pos hpb, hmod]
      have e5 : Γ'.ln (base d b) = Γr.ln b := by show (if p (base d b) = true then _ else _) = _; rw [if_pos hpb, hmod]
      simp only [thawB, Option.getD_some]
      have huq := hu.own_uq
      rcases hu.own_inv with ⟨rfl, rfl, h3⟩ | ⟨rfl, h1, h2, h3, h4, h5⟩
      · exact .ownNil _ _ _ (by rw [e0]; exact h3)
      · have := VR.own (Γ := Γ') (w := w') (base d b) s q xs (by rw [e0]; exact h1) (by rw [e4]; exact h2) (by rw [e3, e5]; exact h3)
          (by rw [e1, e2]; exact h4.mono (hSq q (fun e => c2 (by simp [V.old, e]))) (fun _ _ _ => rfl) (fun _ _ _ => rfl)) h5 (fun hq _ => by rw [e1, e2]; exact (huq hq rU).mono (fun m hm => ⟨by rw [e6]; exact hm.1, .inr ⟨(rzf m (rns _ h1 m hm.1).2).1, hm.2⟩⟩) (fun _ _ _ => rfl) (fun _ _ _ => rfl))
        rwa [e1, e2, e3] at this
    | view b s q xs =>
      have hb9 : b < 999 := by simpa [V.anyB] using c1
      have hb : b < 1000 := by omega
      have hn0 := c3 rfl
      have hpb : p (base d b) = true := by simp [p, hn0, base_div hd hb]
      have hmod : base d b % 1000 = b := by unfold base; omega
      have e0 : Γ'.has (base d b) = Γr.has b := by show (if p (base d b) = true then _ else _) = _; rw [if_pos hpb, hmod]; exact propext ⟨fun h => h.1, fun h => ⟨h, by unfold base; omega⟩⟩
      have e6 : Γ'.N (base d b) = Γr.N b := by show (if p (base d b) = true then _ else _) = _; rw [if_pos hpb, hmod]
      have e1 : Γ'.blk (base d b) = Γr.blk b := by show (if p (base d b) = true then _ else _) = _; rw [if_pos hpb, hmod]
      have e2 : Γ'.off (base d b) = Γr.off b := by show (if p (base d b) = true then _ else _) = _; rw [if_pos hpb, hmod]
      have e3 : Γ'.cap (base d b) = Γr.cap b := by show (if p (base d b) = true then _ else _) = _; rw [if_pos hpb, hmod]
      have e4 : Γ'.sz (base d b) = Γr.sz b := by show (if p (base d b) = true then _ else _) = _; rw [if_pos hpb, hmod]
      simp only [thawB, Option.getD_some]
      have hu0 := hu
      rcases hu.view_inv with ⟨ad, cap, rfl, rfl⟩ | ⟨o, cap, rfl, h1, hx, h3, hfit, h4, h5⟩
      · exact .view0 _ _ _ _ _
      · have := VR.view (Γ := Γ') (w := w') (base d b) s q xs o cap (by rw [e0]; exact h1) hx h3 (by rw [e2, e3, e4]; exact hfit)
          (by rw [e1]; exact h4.mono (hSq q (fun e => c2 (by simp [V.old, e]))) (fun _ _ _ => rfl) (fun _ _ _ => rfl)) h5 (fun hq _ => by rw [e1]; exact (hu0.view_uq hq rU).mono (fun m hm => ⟨by rw [e6]; exact hm.1, .inr ⟨(rzf m (rns _ h1 m hm.1).2).1, hm.2⟩⟩) (fun _ _ _ => rfl) (fun _ _ _ => rfl))
        rwa [e1] at this
theorem nilArgCells_get : ∀ (zs vs : List V) (j : Nat) (u : V), (nilArgCells zs vs)[j]? = some u → ∃ v z, vs[j]? = some v ∧ (u = nilArgCell z v ∨ u = v) := by
 intro zs
 induction zs with
 | nil => intro vs j u h; cases vs <;> exact ⟨u, u, h, .inr rfl⟩
 | cons z zs ih =>
  intro vs j u h
  cases vs with
  | nil => simp [nilArgCells] at h
  | cons v vs =>
   rw [nilArgCells] at h
   cases j with
   | zero =>
    simp only [List.getElem?_cons_zero, Option.some.injEq] at h
    exact ⟨v, z, rfl, .inl h.symm⟩
   | succ j => exact ih vs j u (by simpa using h)
theorem nilArgCells_len : ∀ (zs vs : List V), (nilArgCells zs vs).length = vs.length := by
 intro zs
 induction zs with
 | nil => intro vs; cases vs <;> rfl
 | cons z zs ih => intro vs; cases vs with
  | nil => rfl
  | cons v vs => rw [nilArgCells, List.length_cons, ih, List.length_cons]
theorem nilArgs_len : ∀ (zs : List (List V)) (vs : List V), (nilArgs zs vs).length = vs.length := by
 intro zs
 induction zs with
 | nil => intro vs; cases vs <;> rfl
 | cons z zs ih => intro vs; cases vs with
  | nil => rfl
  | cons v vs => rw [nilArgs, List.length_cons, ih, List.length_cons]
theorem nilArgCell_ok {R : Nat → Prop} {z v : V} {x : Value} (h : Rd w R v x) : Rd w R (nilArgCell z v) x := by
 unfold nilArgCell
 split
 ·cases h; exact .empty _ _ _ _
 ·exact h
theorem nilArg_ok {R : Nat → Prop} {zs : List V} {v : V} {x : Value} (h : Rd w R v x) : Rd w R (nilArg zs v) x := by
 cases v with
 | agg cs =>
  cases h with
  | agg _ vs hl hr =>
   refine .agg _ vs (by rw [nilArgCells_len]; exact hl) (fun i c v e1 e2 => ?_)
   obtain ⟨y, z, hy, hu⟩ := nilArgCells_get _ _ _ _ e1
   rcases hu with rfl | rfl
   ·exact nilArgCell_ok (hr i y v hy e2)
   ·exact hr i _ v hy e2
 | _ =>
  unfold nilArg
  split
  ·rename_i heq; cases heq
  ·split
   ·exact nilArgCell_ok h
   ·exact h
theorem nilArgs_ok {R : Nat → Prop} {vals : Array Value} : ∀ {zs : List (List V)} {vs : List V}, (∀ (i : Nat) (c : V) (v : Value), vs[i]? = some c → vals[i]? = some v → Rd w R c v) → ∀ (i : Nat) (c : V) (v : Value), (nilArgs zs vs)[i]? = some c → vals[i]? = some v → Rd w R c v := by
 intro zs vs h i c v hc hv
 have key : ∀ (zs : List (List V)) (vs : List V) (i : Nat) (c : V), (nilArgs zs vs)[i]? = some c → ∃ u, vs[i]? = some u ∧ ((∃ z, c = nilArg z u) ∨ c = u) := by
  intro zs
  induction zs with
  | nil => intro vs i c h; cases vs <;> exact ⟨c, h, .inr rfl⟩
  | cons z zs ih =>
   intro vs i c h
   cases vs with
   | nil => simp [nilArgs] at h
   | cons u vs =>
    rw [nilArgs] at h
    cases i with
    | zero => simp only [List.getElem?_cons_zero, Option.some.injEq] at h; exact ⟨u, rfl, .inl ⟨z, h.symm⟩⟩
    | succ i => exact ih vs i c (by simpa using h)
 obtain ⟨u, hu, hor⟩ := key zs vs i c hc
 rcases hor with ⟨z, rfl⟩ | rfl
 ·exact nilArg_ok (h i u v hu hv)
 ·exact h i _ v hu hv
theorem strips_ok {R : Nat → Prop} (hs : Sim Γ st a w) (hR : ∀ k, Γ.S k → R k) : ∀ (az us : List V), strips (fun b => st.h.getD b none) az = some us → us.length = az.length ∧ ∀ (i : Nat) (z u : V) (y : Value), az[i]? = some z → us[i]? = some u → VR Γ w z y →
   (∀ b, Γ.has b → V.anyBs (fun b' => b' == b) az = true → R (Γ.blk b)) → (V.anyPs (fun _ => true) az = true → (∀ d, Γ.lb d → R (Γ.box d)) ∧ ∀ b, Γ.has b → R (Γ.blk b)) → Rd w R u y := by
 intro az
 induction az with
 | nil =>
  intro us h
  simp only [strips, Option.some.injEq] at h
  subst h
  exact ⟨rfl, fun i c u y hc => by simp at hc⟩
 | cons z cs ih =>
  intro us h
  simp only [strips] at h
  cases h1 : strip (fun b => st.h.getD b none) z with
  | none => rw [h1] at h; cases h
  | some u0 =>
   cases h2 : strips (fun b => st.h.getD b none) cs with
   | none => rw [h1, h2] at h; cases h
   | some us0 =>
    rw [h1, h2] at h
    simp only [Option.some.injEq] at h
    subst h
    obtain ⟨l1, l2⟩ := ih us0 h2
    refine ⟨by simp [l1], fun i cc u y hc hu hv hb hp => ?_⟩
    cases i with
    | zero =>
     simp only [List.getElem?_cons_zero, Option.some.injEq] at hc hu
     subst hc; subst hu
     exact strip_ok hs hR z u0 y h1 hv (fun b hb1 hb2 => hb b hb1 (by rw [V.anyBs, hb2]; rfl)) (fun h => hp (by rw [V.anyPs, h]; rfl))
    | succ i =>
     simp only [List.getElem?_cons_succ] at hc hu
     exact l2 i cc u y hc hu hv (fun b hb1 hb2 => hb b hb1 (by rw [V.anyBs, hb2, Bool.or_true])) (fun h => hp (by rw [V.anyPs, h, Bool.or_true]))
theorem sound_call (hD : Answers P den) (hs : Sim Γ st a w) {o : Oper} {f : Operand} {args : Array Operand} {ts : Array TypeId} {v : V} {esc : List Nat} {n : Nat} (ho : o.op = .call ⟨.value f, args, ts⟩)
  (h : valOp c den (ev st.t) (fun b => st.h.getD b none) d o.op = some (.fresh v esc n)) (hd : d < 1000) (hf : n = 0 ∨ st.freeD d = true) (hod : o.dst = some d)
  (next : Act → World → Prop) (Q : Exit → Act → World → Prop) (hn : ∀ a' w', Sims Γ ((({ st with t := st.t.set d v } : St).kill esc).mark (!moveOk st.dead esc)) a' w' → next a' w') : o.wp P a w next Q := by
 rw [ho] at h
 simp only [valOp] at h
 split at h
 ·rename_i g cap hfv
  split at h
  ·rename_i us hus
   split at h
   ·rename_i r hr
    obtain ⟨⟨fn, hfn, hbody, hname⟩, hcall⟩ := hD _ _ _ hr
    have hfr := hs.ev f
    rw [hfv] at hfr
    obtain ⟨cv, ef, hcl, hcv⟩ := hfr.clo_inv
    have hexec : (execOp a.eval o).run P w = .ok (.enter g (args.map a.eval ++ cv)) w := by
     simp [execOp, ho, ef, resolve, Deferred.ofValue, invoke, callFunc, hfn, hbody]
     have : ¬ fn.name = "runtime.NumGoroutine" := by simpa using hname
     simp [this]
     intro hb
     simp [hb] at hbody
    unfold Oper.wp
    rw [hexec, Oper.upon_enter]
    let az := args.toList.map (ev st.t) ++ cap
    obtain ⟨_, _, _, t4, t5⟩ := takeR_inv h
    let R : Nat → Prop := fun k => if V.anyPs (fun _ => true) az = true then Γ.S k ∨ (∃ b, Γ.has b ∧ k = Γ.blk b) ∨ (∃ d, Γ.lb d ∧ k = Γ.box d) else addS Γ (V.basess [] az) k
    have hRlt : ∀ k, R k → k < w.heap.size := by
     intro k hk
     simp only [R] at hk
     split at hk
     ·rcases hk with hk | ⟨b, hb, rfl⟩ | ⟨d, hb, rfl⟩
      ·exact hs.good.slt k hk
      ·exact (hs.good.base b hb).2.1
      ·exact (hs.good.box d hb).2.2
     ·exact addS_lt hs.good hk
    have hRS : ∀ k, Γ.S k → R k := by
     intro k hk
     simp only [R]
     split
     ·exact .inl hk
     ·exact .inl hk
    have hRb : ∀ b, Γ.has b → V.anyBs (fun b' => b' == b) az = true → R (Γ.blk b) := by
     intro b hb hbs
     simp only [R]
     split
     ·exact .inr (.inl ⟨b, hb, rfl⟩)
     ·refine .inr ⟨b, ?_, hb, rfl⟩
      exact bases_mem b (.agg az) [] (.inr hbs)
    have hRp : V.anyPs (fun _ => true) az = true → (∀ d, Γ.lb d → R (Γ.box d)) ∧ ∀ b, Γ.has b → R (Γ.blk b) := by
     intro hp
     constructor
     ·intro d hd; simp only [R]; rw [if_pos hp]; exact .inr (.inr ⟨d, hd, rfl⟩)
     ·intro b hb; simp only [R]; rw [if_pos hp]; exact .inr (.inl ⟨b, hb, rfl⟩)
    obtain ⟨l1, l2⟩ := strips_ok hs hRS az us hus
    have hlen : us.length = (args.map a.eval ++ cv).size := by
     rw [l1]; simp [az, hcl]
    refine Calls.mono (hcall R w _ hs.good.glob hRlt (by rw [nilArgs_len]; exact hlen) (nilArgs_ok (fun i u y hu hy => ?_))) (fun e w' he => ?_)
    ·obtain ⟨z, hz⟩ : ∃ z, az[i]? = some z := ⟨_, List.getElem?_eq_getElem (by rw [← l1]; exact (List.getElem?_eq_some_iff.1 hu).1)⟩
     refine l2 i z u y hz hu ?_ hRb hRp
     rcases Nat.lt_or_ge i args.size with hi | hi
     ·simp only [az] at hz
      rw [List.getElem?_append_left (by simpa using hi), List.getElem?_map] at hz
      rw [Array.getElem?_append_left (by simpa using hi), Array.getElem?_map] at hy
      simp only [Array.getElem?_toList, Array.getElem?_eq_getElem hi, Option.map_some, Option.some.injEq] at hz hy
      subst hz; subst hy
      exact hs.ev _
     ·simp only [az] at hz
      rw [List.getElem?_append_right (by simpa using hi)] at hz
      rw [Array.getElem?_append_right (by simpa using hi)] at hy
      simp only [List.length_map, Array.length_toList, Array.size_map] at hz hy
      exact hcv _ z y hz hy
    ·cases e with
     | returned x =>
      refine hn _ _ ?_
      rw [hod]
      refine Sim.home hs hd hf h (fun ho k hk => ?_) he
      obtain ⟨t6, t7⟩ := t4 ho
      simp only [R] at hk
      rw [if_neg (by rw [t6]; simp)] at hk
      rw [t7]
      exact hk
     | panicked _ => cases he
     | outgrown => cases he
   ·cases h
  ·cases h
 ·cases h
end
end Go.Am
end
section
set_option linter.unusedVariables false
set_option linter.unusedSimpArgs false
namespace Go.Am
open Go Go.RowKit
section
variable {P : Program} {c : Cfg} {Γ Γ' : Ctx} {st : St} {a : Act} {w w' : World} {den : Nat → List V → Option V} {η : Nat → Option V} {d : Nat}
theorem isU8_ok (hA : Agree P c) {e : Nat} (h : isU8 c e = true) : P.underlying e = some (.int .u8) := by
 unfold isU8 at h
 cases h1 : c.ty e with
 | none => rw [h1] at h; cases h
 | some j =>
  rw [h1] at h
  simp only at h
  obtain ⟨tj, aj⟩ := hA _ _ h1
  split at h
  ·rename_i e1; exact aj.int _ e1
  ·cases h
theorem bytesOf_inv : ∀ {xs : List V} {l : List UInt8}, bytesOf xs = some l → ∃ ns : List Int, xs = ns.map (V.int .u8) ∧ l = ns.map (fun n => UInt8.ofNat n.toNat) := by
 intro xs
 induction xs with
 | nil => intro l h; simp only [bytesOf, Option.some.injEq] at h; subst h; exact ⟨[], rfl, rfl⟩
 | cons x xs ih =>
  intro l h
  cases x with
  | int k n =>
   cases k with
   | u8 =>
    simp only [bytesOf] at h
    cases hb : bytesOf xs with
    | none => rw [hb] at h; cases h
    | some m =>
     rw [hb] at h
     simp only [Option.map_some, Option.some.injEq] at h
     obtain ⟨ns, h1, h2⟩ := ih hb
     exact ⟨n :: ns, by rw [h1]; rfl, by rw [← h, h2]; rfl⟩
   | _ => simp only [bytesOf] at h; cases h
  | _ => simp only [bytesOf] at h; cases h
theorem push_foldl : ∀ (ns : List Int) (s : ByteArray), (ns.foldl (fun r n => r.push (UInt8.ofNat n.toNat)) s).data.toList = s.data.toList ++ ns.map (fun n => UInt8.ofNat n.toNat) := by
 intro ns
 induction ns with
 | nil => intro s; simp
 | cons n ns ih => intro s; rw [List.foldl_cons, ih]; simp [ByteArray.push]
theorem pure_bytes (hA : Agree P c) (hs : Sim Γ st a w) {o : Oper} {s t : TypeId} {x : Operand} {v : V} (ho : o.op = .convert s t x) (hc : convB c s t (ev st.t x) = some v) : PureOk P Γ a w o v := by
 unfold convB at hc
 cases hr : convRows c s t (ev st.t x) with
 | none => rw [hr] at hc; cases hc
 | some xs =>
  rw [hr] at hc
  simp only at hc
  cases hb : bytesOf xs with
  | none => rw [hb] at hc; cases hc
  | some l =>
   rw [hb] at hc
   simp only [Option.map_some, Option.some.injEq] at hc
   subst hc
   obtain ⟨ns, h1, h2⟩ := bytesOf_inv hb
   unfold convRows at hr
   cases e1 : c.ty s with
   | none => rw [e1] at hr; cases hr
   | some i =>
    cases e2 : c.ty t with
    | none => rw [e1, e2] at hr; cases hr
    | some j =>
     rw [e1, e2] at hr
     simp only at hr
     obtain ⟨ti, ai⟩ := hA _ _ e1
     obtain ⟨tj, aj⟩ := hA _ _ e2
     split at hr
     ·rename_i e g1 g2
      split at hr
      ·rename_i hu
       have hu8 := isU8_ok hA hu
       split at hr
       ·rename_i q ys hsrc
        simp only [Option.some.injEq] at hr
        subst hr
        have hsl := ai.slice e g1
        have hstr := aj.str g2
        have fin : ∀ (ad : Option Addr) (n cap : Nat), a.eval x = .slice ad n cap → (∀ b, ad = some b → (loadCells b n).run P w = .ok (ns.map (Value.int .u8)).toArray w) → (ad = none → ns = []) → PureOk P Γ a w o (.str l) := by
         intro ad n cap ex h3 h4
         refine ⟨.string (ns.foldl (fun r n => r.push (UInt8.ofNat n.toNat)) ByteArray.empty), ?_, .rd _ _ (.str _ _ (by rw [push_foldl, h2]; rfl))⟩
         have : (convert s t (.slice ad n cap)).run P w = .ok (.string (ns.foldl (fun r n => r.push (UInt8.ofNat n.toNat)) ByteArray.empty)) w := by
          rw [run_convert_bytes_string w s t e ad n cap hsl hu8 hstr]
          cases ad with
          | none => rw [h4 rfl]; rfl
          | some b => exact run_bytesToString w b n cap ns (h3 b rfl)
         simp [execOp, ho, ex, this]
        rcases src_ok hs.good (hs.ev x) hsrc with ⟨rfl, ad, cap, ex⟩ | ⟨k, o', cap, news, ex, hl, hn1, hn2, hn3, hn4⟩
        ·have : ns = [] := by cases ns with
          | nil => rfl
          | cons n ns => cases h1
         subst this
         exact fin ad 0 cap ex (fun b _ => by simpa using run_loadCells (P := P) w b 0 (fun _ => .bool false) (fun j hj => by omega)) (fun _ => rfl)
        ·refine fin _ _ _ ex (fun b hb' => ?_) (fun h => by cases h)
         cases hb'
         have hadd : ∀ j, (⟨k, o', none⟩ : Addr).add j = ⟨k, o' + j, none⟩ := by intro j; simp [Addr.add]
         have hnews : ∀ j, j < ys.length → news[j]? = some (.int .u8 (ns.getD j 0)) := by
          intro j hj
          have hj' : j < ns.length := by rw [h1] at hj; simpa using hj
          have hy : ys[j]? = some (.int .u8 (ns.getD j 0)) := by
           rw [h1, List.getElem?_map, List.getElem?_eq_getElem hj']
           simp [List.getD, hj']
          obtain ⟨z, g1, _, g3, _⟩ := hn4 j _ 0 _ hy rfl
          rw [Nat.mul_one, Nat.add_zero] at g1
          cases g3
          exact g1
         have := run_loadCells (P := P) w ⟨k, o', none⟩ ys.length (fun j => .int .u8 (ns.getD j 0)) (fun j hj => by
          rw [hadd]
          exact (hn2 j _ (hnews j hj)).1)
         rw [this]
         have hlen : ys.length = ns.length := by rw [h1]; simp
         congr 2
         rw [hlen]
         apply List.ext_getElem?
         intro j
         rw [List.getElem?_map, List.getElem?_map]
         rcases Nat.lt_or_ge j ns.length with hj | hj
         ·rw [List.getElem?_range hj, List.getElem?_eq_getElem hj]
          simp [List.getD, hj]
         ·rw [List.getElem?_eq_none (by simpa using hj), List.getElem?_eq_none hj]
          rfl
       ·cases hr
      ·cases hr
     ·cases hr
theorem sound_bytes (hA : Agree P c) (hs : Sim Γ st a w) {o : Oper} {s t : TypeId} {x : Operand} {v : V} (ho : o.op = .convert s t x) (h : bytesFor c s t (ev st.t x) = some v) (hd : d < 1000) :
  ∃ y w', (execOp a.eval o).run P w = .ok (.value y) w' ∧ Sims Γ ((({ st with t := st.t.set d v } : St).kill []).mark false) (a.put (some d) y) w' := by
 unfold bytesFor at h
 cases e1 : c.ty s with
 | none => rw [e1] at h; cases h
 | some i =>
  cases e2 : c.ty t with
  | none => rw [e1, e2] at h; cases h
  | some j =>
   rw [e1, e2] at h
   simp only at h
   obtain ⟨ti, ai⟩ := hA _ _ e1
   obtain ⟨tj, aj⟩ := hA _ _ e2
   split at h
   ·rename_i e b g1 g2 g3
    split at h
    ·rename_i hu
     simp only [Option.some.injEq] at h
     subst h
     have hx := hs.ev x
     rw [g3] at hx
     obtain ⟨y, ey, hy⟩ := hx.str_inv
     have hr := Lib.run_convert_string_bytes (P := P) w s t e y (ai.str g1) (aj.slice e g2) (isU8_ok hA hu)
     have hsz : y.size = b.length := size_str hy
     have hge := grownCap_ge w y.size 0 e
     have he : (execOp a.eval o).run P w = .ok (.value (.slice (some ⟨w.heap.size, 0, none⟩) y.size (grownCap w y.size 0 e))) (Lib.bytesWorld w e y) := by
      simp only [execOp, ho, ey, Sem.run_bind, hr, Result.andThen_ok, Sem.run_pure]
     refine ⟨_, _, he, ?_⟩
     refine Sim.home (az := []) (r := .sl 1 true (bytesV b)) (n := 0) (R := fun _ => False) hs hd (.inl rfl) rfl (fun _ _ h => h.elim) ?_
     refine ⟨rfl, ?_, ?_, by rw [Lib.bytesWorld_size]; omega, fun k hk => Lib.bytesWorld_at_old w e y k hk, ?_⟩
     ·simp [Lib.bytesWorld, World.freeze, World.alloc, World.drew, -World.alloc_eq, -World.drew_eq]
     ·simp [Lib.bytesWorld, World.freeze, World.alloc, World.drew, -World.alloc_eq, -World.drew_eq]
     ·refine ⟨{ w0 := w, F := fun k => w.heap.size ≤ k, S := fun k => k = w.heap.size, has := fun _ => False, blk := fun _ => 0, off := fun _ => 0, cap := fun _ => 0, sz := fun _ => 0, ln := fun _ => 0, lb := fun _ => False, box := fun _ => 0, R := fun _ => False, Z := fun _ => False, N := fun _ _ => False, U := True },
       .rd _ _ ?_, fun k hk => hk, fun k hk => ⟨.inr (Nat.le_of_eq hk.symm), by rw [hk, Lib.bytesWorld_size]; omega⟩, fun _ h => h.elim, fun _ _ h => h.elim, fun _ h => h.elim, fun _ h => h.elim, trivial, fun _ h => h.elim, fun _ _ h => h.elim⟩
      have hlen : (bytesV b).length = b.length := by simp [bytesV]
      by_cases hb : b = []
      ·subst hb
       have : y.size = 0 := hsz
       rw [this]
       exact .empty _ _ _ _
      ·have := Rd.sl (w := Lib.bytesWorld w e y) (S := fun k => k = w.heap.size) 1 true (bytesV b) w.heap.size 0 (grownCap w y.size 0 e) (fun i _ => .int .u8 (b.getD i 0).toNat)
        (by rw [hlen]; exact List.length_pos_iff.2 hb) (by rw [hlen, ← hsz]; exact hge) rfl
        (fun x hx => by obtain ⟨u, _, rfl⟩ := List.mem_map.1 hx; rfl) (fun _ x hx cc hcc => by
         obtain ⟨u, _, rfl⟩ := List.mem_map.1 hx
         simp only [V.cells, List.mem_singleton] at hcc
         subst hcc
         trivial)
        (fun i j hi hj => by
         obtain rfl : j = 0 := by omega
         rw [hlen] at hi
         refine ⟨?_, rfl⟩
         have := Lib.bytesWorld_cell w e y i (by rw [hsz]; exact hi)
         rw [hy] at this
         simpa using this)
        (fun i u j cc hu hcc => by
         have hi := (List.getElem?_eq_some_iff.1 hu).1
         rw [hlen] at hi
         rw [bytesV, List.getElem?_map, List.getElem?_eq_getElem hi] at hu
         simp only [Option.map_some, Option.some.injEq] at hu
         subst hu
         cases j with
         | zero =>
          simp only [V.cells, List.getElem?_cons_zero, Option.some.injEq] at hcc
          subst hcc
          simp only [List.getD, List.getElem?_eq_getElem hi, Option.getD_some]
          exact .int _ _
         | succ j => simp [V.cells] at hcc)
       rw [hlen, ← hsz] at this
       exact this
    ·cases h
   ·cases h
end
end Go.Am
end
section
set_option linter.unusedVariables false
set_option linter.unusedSimpArgs false
namespace Go.Am
open Go Go.RowKit
section
variable {P : Program} {c : Cfg} {Γ Γ' : Ctx} {st : St} {a : Act} {w w' : World} {den : Nat → List V → Option V} {η : Nat → Option V} {d : Nat}
theorem takeR_fresh {az : List V} {r : V} {out : Out} (h : takeR d az r = some out) : ∃ v esc n, out = .fresh v esc n := by
 unfold takeR at h
 repeat' split at h
 all_goals first | (cases h; done) | (simp only [Option.some.injEq] at h; exact ⟨_, _, _, h.symm⟩)
theorem pure_val (hA : Agree P c) (hs : Sim Γ st a w) {o : Oper} {v : V} (h : valOp c den (ev st.t) (fun b => st.h.getD b none) d o.op = some (.val v)) : PureOk P Γ a w o v := by
 cases hop : o.op with
 | move x =>
  have e := h; rw [hop] at e; simp only [valOp, plain, Option.some.injEq, Out.val.injEq] at e; subst e
  exact pure_move hs (.inl hop)
 | assign x =>
  have e := h; rw [hop] at e; simp only [valOp, plain, Option.some.injEq, Out.val.injEq] at e; subst e
  exact pure_move hs (.inr hop)
 | pick x y z => exact pure_pick hs hop h
 | nilCheck x => exact pure_nilCheck hs hop h
 | unOp u t x => exact pure_unOp hs hop h
 | extract x i => exact pure_extract hs hop h
 | makeFunc fn first cap => exact pure_makeFunc hs hop h
 | convert s t x =>
  rw [hop] at h
  simp only [valOp, plain] at h
  cases hc : convV c s t (ev st.t x) with
  | some u =>
   rw [hc] at h
   simp only [Option.some.injEq, Out.val.injEq] at h
   subst h
   exact pure_convert hA hs hop hc
  | none =>
   rw [hc] at h
   simp only at h
   cases hb : convB c s t (ev st.t x) with
   | some u =>
    rw [hb] at h
    simp only [Option.some.injEq, Out.val.injEq] at h
    subst h
    exact pure_bytes hA hs hop hb
   | none =>
    rw [hb] at h
    cases hf : bytesFor c s t (ev st.t x) <;> rw [hf] at h <;> cases h
 | binOp op t x y t' => exact pure_binOp hA hs hop h
 | load t x => exact pure_load hA hs hop h
 | fieldAddr t x f => exact pure_fieldAddr hA hs hop h
 | field t x f => exact pure_field hA hs hop h
 | indexAddr t x y => exact pure_indexAddr hA hs hop h
 | index t x y => exact pure_index hA hs hop h
 | slice t x lo hi mx => exact pure_slice hA hs hop h
 | build t ps => exact pure_build hA hs hop h
 | call cl =>
  obtain ⟨callee, args, ts⟩ := cl
  cases callee with
  | value f =>
   exfalso
   rw [hop] at h
   simp only [valOp] at h
   split at h
   ·split at h
    ·split at h
     ·obtain ⟨_, _, _, e⟩ := takeR_fresh h
      cases e
     ·cases h
    ·cases h
   ·cases h
  | invoke f m => rw [hop] at h; simp only [valOp] at h; cases h
  | builtin bi =>
   cases bi with
   | len => exact pure_len hA hs hop h
   | min => exact pure_min hs hop h
   | max => exact pure_max hs hop h
   | append =>
    exfalso
    rw [hop] at h
    simp only [valOp] at h
    repeat' split at h
    all_goals cases h
   | _ => rw [hop] at h; simp only [valOp] at h; cases h
 | _ =>
  exfalso
  rw [hop] at h
  first
   | (simp only [valOp, plain] at h; cases h; done)
   | (simp only [valOp, plain] at h; (repeat' split at h) <;> cases h)
theorem sound_fresh (hA : Agree P c) (hD : Answers P den) (hs : Sim Γ st a w) {o : Oper} {v : V} {esc : List Nat} {n : Nat} (h : valOp c den (ev st.t) (fun b => st.h.getD b none) d o.op = some (.fresh v esc n))
  (hd : d < 1000) (hf : n = 0 ∨ st.freeD d = true) (hod : o.dst = some d)
  (next : Act → World → Prop) (Q : Exit → Act → World → Prop) (hn : ∀ a' w', Sims Γ ((({ st with t := st.t.set d v } : St).kill esc).mark (!moveOk st.dead esc)) a' w' → next a' w') : o.wp P a w next Q := by
 have fin : (∃ x w', (execOp a.eval o).run P w = .ok (.value x) w' ∧ Sims Γ ((({ st with t := st.t.set d v } : St).kill esc).mark (!moveOk st.dead esc)) (a.put (some d) x) w') → o.wp P a w next Q := by
  rintro ⟨x, w', h1, h2⟩
  unfold Oper.wp
  rw [h1, Oper.upon_value, hod]
  exact hn _ _ h2
 cases hop : o.op with
 | buildSlice t m ps => exact fin (sound_buildSlice hA hs hop h hd hf)
 | makeSlice t l k => exact fin (sound_makeSlice hA hs hop h hd hf)
 | convert s t x =>
  rw [hop] at h
  simp only [valOp, plain] at h
  cases hc : convV c s t (ev st.t x) with
  | some u => rw [hc] at h; cases h
  | none =>
   rw [hc] at h
   simp only at h
   cases hb : convB c s t (ev st.t x) with
   | some u => rw [hb] at h; cases h
   | none =>
    rw [hb] at h
    simp only at h
    cases hg : bytesFor c s t (ev st.t x) with
    | none => rw [hg] at h; cases h
    | some u =>
     rw [hg] at h
     simp only [Option.map_some, Option.some.injEq, Out.fresh.injEq] at h
     obtain ⟨rfl, rfl, rfl⟩ := h
     exact fin (sound_bytes hA hs hop hg hd)
 | call cl =>
  obtain ⟨callee, args, ts⟩ := cl
  cases callee with
  | value f => exact sound_call hD hs hop h hd hf hod next Q hn
  | invoke f m => rw [hop] at h; simp only [valOp] at h; cases h
  | builtin bi =>
   cases bi with
   | append => exact fin (sound_appendNil hA hs hop h hd hf)
   | _ =>
    exfalso
    rw [hop] at h
    simp only [valOp, plain] at h
    first
     | (cases h; done)
     | ((repeat' split at h) <;> cases h)
 | unOp u _ _ =>
  exfalso
  rw [hop] at h
  cases u <;> simp only [valOp, plain] at h <;> first | (cases h; done) | ((repeat' split at h) <;> cases h)
 | makeFunc fn _ _ =>
  exfalso
  rw [hop] at h
  cases fn <;> simp only [valOp, plain] at h <;> first | (cases h; done) | ((repeat' split at h) <;> cases h)
 | slice _ _ _ _ mx =>
  exfalso
  rw [hop] at h
  cases mx <;> simp only [valOp, plain] at h <;> first | (cases h; done) | ((repeat' split at h) <;> cases h)
 | _ =>
  exfalso
  rw [hop] at h
  first
   | (simp only [valOp, plain] at h; cases h; done)
   | (simp only [valOp, plain] at h; (repeat' split at h) <;> cases h)
theorem sound_step (hA : Agree P c) (hD : Answers P den) (hs : Sim Γ st a w) {o : Oper} {st' : St} (h : step c den st o = some st')
  (next : Act → World → Prop) (Q : Exit → Act → World → Prop) (hn : ∀ a' w', Sims Γ st' a' w' → next a' w') : o.wp P a w next Q := by
 unfold step at h
 split at h
 ·rename_i he
  cases hop : o.op with
  | store t ad x =>
   obtain ⟨w', h1, h2⟩ := sound_store hA hs hop h
   unfold Oper.wp
   rw [h1, Oper.upon_skip]
   exact hn _ _ h2
  | call cl =>
   obtain ⟨callee, args, ts⟩ := cl
   cases callee with
   | value f => rw [hop] at he; cases he
   | invoke f m => rw [hop] at he; cases he
   | builtin bi =>
    cases bi with
    | append =>
     obtain ⟨x, w', h1, h2⟩ := sound_appendOwn hA hs hop h
     unfold Oper.wp
     rw [h1, Oper.upon_value]
     exact hn _ _ h2
    | _ => rw [hop] at he; cases he
  | _ => rw [hop] at he; cases he
 ·split at h
  ·cases h
  ·rename_i d hod
   split at h
   ·cases h
   ·rename_i v hv
    simp only [Option.some.injEq] at h
    subst h
    obtain ⟨x, h1, h2⟩ := pure_val hA hs hv
    unfold Oper.wp
    rw [h1, Oper.upon_value, hod]
    exact hn _ _ ⟨Γ, ⟨rfl, rfl, rfl⟩, hs.put h2⟩
   ·rename_i r hv
    split at h
    ·rename_i hc
     simp only [Option.some.injEq] at h
     subst h
     obtain ⟨x, w', h1, h2⟩ := sound_box hA hs hv hc.1 hc.2.1 hc.2.2.1 hc.2.2.2
     unfold Oper.wp
     rw [h1, Oper.upon_value, hod]
     exact hn _ _ h2
    ·cases h
   ·rename_i v esc n hv
    split at h
    ·rename_i hc
     simp only [Option.some.injEq] at h
     subst h
     exact sound_fresh hA hD hs hv hc.1 hc.2.2 hod next Q hn
    ·cases h
end
end Go.Am
end
