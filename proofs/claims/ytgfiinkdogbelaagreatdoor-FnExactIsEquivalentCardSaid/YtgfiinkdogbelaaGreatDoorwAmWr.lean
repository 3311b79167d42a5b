/-
  Calls that write their argument's rows anew, in place: what is asked of such a function, and that the machine's step is what its call does.
-/
import Derived.Test.YtgfiinkdogbelaaGreatDoorwAmEff3
import Derived.Lib.ConvBytes
import Derived.Laws.BytesString
section
set_option linter.unusedVariables false
set_option linter.unusedSimpArgs false
namespace Go.Am
open Go Go.RowKit
structure Answer (R : Nat -> Prop) (w : World) (r : V) (x : Value) (w' : World) : Prop where
  os : w'.os = w.os
  tape : w'.tape = w.tape
  output : w'.output = w.output
  size : w.heap.size <= w'.heap.size
  old : ∀ k, k < w.heap.size -> w'.heap[k]? = w.heap[k]?
  val : ∃ J : Ctx, VR J w' r x /\ (∀ k, J.F k -> w.heap.size <= k) /\ (∀ k, J.S k -> (R k \/ w.heap.size <= k) /\ k < w'.heap.size) /\
    (∀ b, J.has b -> w.heap.size <= J.blk b /\ J.blk b < w'.heap.size /\ ¬ J.S (J.blk b) /\ J.cap b <= maxLen /\ ∃ cur e, w'.heap[J.blk b]? = some (.cells cur e (0, 0)) /\ J.off b + J.cap b * J.sz b <= cur.size) /\
    (∀ b b', J.has b -> J.has b' -> J.blk b = J.blk b' -> b = b') /\ (∀ b, J.has b -> J.Z (J.blk b)) /\ (∀ k, J.Z k -> w.heap.size <= k /\ k < w'.heap.size /\ ∃ cur e, w'.heap[k]? = some (.cells cur e (0, 0))) /\
    J.U /\ (∀ b, J.has b -> ∀ m, J.N b m -> J.S m /\ J.Z m) /\ ∀ b b', J.has b -> J.has b' -> b ≠ b' -> ∀ m, J.N b m -> J.N b' m -> False
def Answers (P : Program) (den : Nat -> List V -> Option V) : Prop := ∀ f args r, den f args = some r ->
 (∃ fn, P.funcs[f]? = some fn /\ fn.body.isNone = false /\ (fn.name == "runtime.NumGoroutine") = false) /\
 ∀ (R : Nat -> Prop) (w : World) (vals : Array Value), globOk w -> (∀ k, R k -> k < w.heap.size) -> args.length = vals.size -> (∀ (i : Nat) (c : V) (v : Value), args[i]? = some c -> vals[i]? = some v -> Rd w R c v) ->
  Calls P f vals w fun
   | .returned x, w' => Answer R w r x w'
   | _, _ => False
section
variable {P : Program} {c : Cfg} {J J' : Ctx} {st : St} {a : Act} {w w' : World} {den : Nat -> List V -> Option V} {η : Nat -> Option V} {d : Nat}
theorem VR.sweepC {f : V -> Option V} (C : V -> Prop) (hagg : ∀ cs, C (.agg cs) -> ∀ u ∈ cs, C u) (htup : ∀ cs, C (.tup cs) -> ∀ u ∈ cs, C u) (hclo : ∀ g cs, C (.clo g cs) -> ∀ u ∈ cs, C u)
  (hl : ∀ v x, (match v with
   | .agg _ => False
   | .tup _ => False
   | .clo _ _ => False
   | _ => True) -> C v -> VR J w v x -> VR J' w' ((f v).getD v) x) (v : V) : ∀ x, C v -> VR J w v x -> VR J' w' (v.mapB f) x := by
 refine V.rec (motive_1 := fun v => ∀ x, C v -> VR J w v x -> VR J' w' (v.mapB f) x) (motive_2 := fun l => (∀ u ∈ l, C u) -> ∀ (i : Nat) (u : V) (x : Value), l[i]? = some u -> VR J w u x -> VR J' w' (u.mapB f) x)
  ?_ ?_ ?_ ?_ ?_ ?_ ?_ ?_ ?_ ?_ ?_ ?_ ?_ ?_ ?_ ?_ ?_ v
 ·intro x hc h; exact hl _ _ trivial hc h
 ·intro _ x hc h; exact hl _ _ trivial hc h
 ·intro _ _ x hc h; exact hl _ _ trivial hc h
 ·intro _ x hc h; exact hl _ _ trivial hc h
 ·intro x hc h; exact hl _ _ trivial hc h
 ·intro _ _ _ _ x hc h; exact hl _ _ trivial hc h
 ·intro _ _ _ _ _ x hc h; exact hl _ _ trivial hc h
 ·intro _ _ _ _ _ x hc h; exact hl _ _ trivial hc h
 ·intro _ _ x hc h; exact hl _ _ trivial hc h
 ·intro _ _ _ _ _ _ _ x hc h; exact hl _ _ trivial hc h
 ·intro _ _ _ _ x hc h; exact hl _ _ trivial hc h
 ·intro _ _ _ x hc h; exact hl _ _ trivial hc h
 ·intro cs ih x hc h
  obtain ⟨vs, rfl, h1, h2⟩ := h.agg_inv
  refine .agg _ vs (by rw [mapBs_len]; exact h1) (fun i c v e1 e2 => ?_)
  rw [mapBs_get] at e1
  cases hcc : cs[i]? with
  | none => rw [hcc] at e1; cases e1
  | some u =>
   rw [hcc] at e1
   simp only [Option.map_some, sj_] at e1
   subst e1
   exact ih (hagg cs hc) i u v hcc (h2 i u v hcc e2)
 ·intro cs ih x hc h
  obtain ⟨vs, rfl, h1, h2⟩ := h.tup_inv
  refine .tup _ vs (by rw [mapBs_len]; exact h1) (fun i c v e1 e2 => ?_)
  rw [mapBs_get] at e1
  cases hcc : cs[i]? with
  | none => rw [hcc] at e1; cases e1
  | some u =>
   rw [hcc] at e1
   simp only [Option.map_some, sj_] at e1
   subst e1
   exact ih (htup cs hc) i u v hcc (h2 i u v hcc e2)
 ·intro g cs ih x hc h
  obtain ⟨vs, rfl, h1, h2⟩ := h.clo_inv
  refine .clo _ _ vs (by rw [mapBs_len]; exact h1) (fun i c v e1 e2 => ?_)
  rw [mapBs_get] at e1
  cases hcc : cs[i]? with
  | none => rw [hcc] at e1; cases e1
  | some u =>
   rw [hcc] at e1
   simp only [Option.map_some, sj_] at e1
   subst e1
   exact ih (hclo g cs hc) i u v hcc (h2 i u v hcc e2)
 ·intro _ i u x h; simp at h
 ·intro v l hv hl' hC i u x h hx
  cases i with
  | zero =>
   simp only [List.getElem?_cons_zero, sj_] at h
   subst h
   exact hv x (hC _ (by simp)) hx
  | succ i => exact hl' (fun u hu => hC u (by simp [hu])) i u x (by simpa using h) hx
theorem addB_mem {l : List Nat} {b b' : Nat} : b ∈ addB l b' ↔ b ∈ l \/ b = b' := by
 unfold addB
 split
 ·rename_i h
  have : b' ∈ l := by simpa using h
  constructor
  ·exact .inl
  ·rintro (h | rfl)
   ·exact h
   ·exact this
 ·simp
theorem bases_mem (b : Nat) (v : V) : ∀ l, (b ∈ l \/ v.anyB (fun b' => b' == b) = true) -> b ∈ V.bases l v := by
 have e : ∀ b' : Nat, (b' == b) = true -> b = b' := fun b' h => (by simpa using h : b' = b).symm
 refine V.rec (motive_1 := fun v => ∀ l, (b ∈ l \/ v.anyB (fun b' => b' == b) = true) -> b ∈ V.bases l v) (motive_2 := fun vs => ∀ l, (b ∈ l \/ V.anyBs (fun b' => b' == b) vs = true) -> b ∈ V.basess l vs)
  ?_ ?_ ?_ ?_ ?_ ?_ ?_ ?_ ?_ ?_ ?_ ?_ ?_ ?_ ?_ ?_ ?_ v
 ·rintro l (h | h) <;> first | exact h | cases h
 ·rintro _ l (h | h) <;> first | exact h | cases h
 ·rintro _ _ l (h | h) <;> first | exact h | cases h
 ·rintro _ l (h | h) <;> first | exact h | cases h
 ·rintro l (h | h) <;> first | exact h | cases h
 ·rintro _ _ _ _ l (h | h) <;> first | exact h | cases h
 ·rintro b' _ _ _ _ l h
  exact addB_mem.2 (h.imp id (e b'))
 ·rintro b' _ _ _ _ l h
  exact addB_mem.2 (h.imp id (e b'))
 ·rintro _ _ l (h | h) <;> first | exact h | cases h
 ·rintro b' _ _ _ _ _ _ l h
  exact addB_mem.2 (h.imp id (e b'))
 ·rintro b' _ _ _ l h
  exact addB_mem.2 (h.imp id (e b'))
 ·rintro _ _ _ l (h | h) <;> first | exact h | cases h
 ·intro cs ih l h; exact ih l h
 ·intro cs ih l h; exact ih l h
 ·intro _ cs ih l h; exact ih l h
 ·rintro l (h | h) <;> first | exact h | cases h
 ·intro u vs hu hvs l h
  refine hvs _ ?_
  rcases h with h | h
  ·exact .inl (hu l (.inl h))
  ·rw [V.anyBs, Bool.or_eq_true] at h
   rcases h with h | h
   ·exact .inl (hu l (.inr h))
   ·exact .inr h
theorem Rd.sl_of {S : Nat -> Prop} {s k o cap : Nat} {q : Q} {xs : List V} (hr : Rows w S s xs k o) (hq : flatOk q xs) (hl : xs.length <= cap) (hk : S k) : Rd w S (.sl s q.isFlat xs) (.slice (some ⟨k, o, none⟩) xs.length cap) := by
 by_cases hx : xs = []
 ·subst hx; exact .empty _ _ _ _
 ·obtain ⟨r1, g, r2, r3⟩ := hr
  exact .sl s _ xs k o cap g (List.length_pos_iff.2 hx) hl hk r1 (fun e => hq (by cases q <;> first | rfl | cases e)) r2 r3
theorem strip_ok {R : Nat -> Prop} (hs : Sim J st a w) (hR : ∀ k, J.S k -> R k) (v : V) : ∀ (u : V) (x : Value), strip (fun b => st.h.getD b none) v = some u -> VR J w v x ->
  (∀ b, J.has b -> v.anyB (fun b' => b' == b) = true -> R (J.blk b)) -> (v.anyP (fun _ => true) = true -> (∀ d, J.lb d -> R (J.box d)) /\ ∀ b, J.has b -> R (J.blk b)) -> Rd w R u x := by
 have hSq : ∀ q k, J.Sq q k -> R k := fun q k hk => hR k (Sq_le hk)
 have rm : ∀ {u : V} {y : Value}, Rd w J.S u y -> Rd w R u y := fun h => h.mono hR (fun _ _ _ => rfl)
 have list : ∀ (cs : List V) (vs : Array Value) (us : List V), strips (fun b => st.h.getD b none) cs = some us ->
   (∀ (i : Nat) (c u : V) (y : Value), cs[i]? = some c -> us[i]? = some u -> vs[i]? = some y -> Rd w R u y) -> us.length = cs.length -> cs.length = vs.size -> us.length = vs.size := fun _ _ _ _ _ h1 h2 => h1.trans h2
 refine V.rec (motive_1 := fun v => ∀ (u : V) (x : Value), strip (fun b => st.h.getD b none) v = some u -> VR J w v x -> (∀ b, J.has b -> v.anyB (fun b' => b' == b) = true -> R (J.blk b)) ->
   (v.anyP (fun _ => true) = true -> (∀ d, J.lb d -> R (J.box d)) /\ ∀ b, J.has b -> R (J.blk b)) -> Rd w R u x)
  (motive_2 := fun cs => ∀ (us : List V), strips (fun b => st.h.getD b none) cs = some us -> us.length = cs.length /\ ∀ (i : Nat) (c u : V) (y : Value), cs[i]? = some c -> us[i]? = some u -> VR J w c y ->
   (∀ b, J.has b -> V.anyBs (fun b' => b' == b) cs = true -> R (J.blk b)) -> (V.anyPs (fun _ => true) cs = true -> (∀ d, J.lb d -> R (J.box d)) /\ ∀ b, J.has b -> R (J.blk b)) -> Rd w R u y)
  ?_ ?_ ?_ ?_ ?_ ?_ ?_ ?_ ?_ ?_ ?_ ?_ ?_ ?_ ?_ ?_ ?_ v
 ·intro u x h; cases h
 ·intro b u x h hv _ _
  simp only [strip, sj_] at h
  subst h; rw [hv.bool_inv]; exact .bool b
 ·intro k n u x h hv _ _
  simp only [strip, sj_] at h
  subst h; rw [hv.int_inv]; exact .int k n
 ·intro s u x h hv _ _
  simp only [strip, sj_] at h
  subst h
  obtain ⟨y, rfl, hy⟩ := hv.str_inv
  exact .str s y hy
 ·intro u x h hv _ _
  simp only [strip, sj_] at h
  subst h; rw [hv.nil_inv]; exact .nil
 ·intro s f xs _ u x h hv _ _
  simp only [strip, sj_] at h
  subst h; exact rm hv.sl_inv
 ·intro b s q xs _ u x h hv hb _
  simp only [strip, sj_] at h
  subst h
  rcases hv.own_inv with ⟨rfl, rfl, _⟩ | ⟨rfl, h1, h2, h3, h4, h5⟩
  ·exact .empty _ _ _ _
  ·exact Rd.sl_of (h4.mono (hSq q) (fun _ _ _ => rfl) (fun _ _ _ => rfl)) h5 h3.1 (hb b h1 (by simp [V.anyB]))
 ·intro b s q xs _ u x h hv hb _
  simp only [strip, sj_] at h
  subst h
  rcases hv.view_inv with ⟨ad, cap, rfl, rfl⟩ | ⟨o, cap, rfl, h1, hx, h3, _, h4, h5⟩
  ·exact .empty _ _ _ _
  ·exact Rd.sl_of (h4.mono (hSq q) (fun _ _ _ => rfl) (fun _ _ _ => rfl)) h5 h3 (hb b h1 (by simp [V.anyB]))
 ·intro d o u x h hv _ hp
  simp only [strip] at h
  obtain ⟨rfl, hlb⟩ := hv.ptr_inv
  obtain ⟨p1, p2⟩ := hp rfl
  cases hr : st.h.getD d none with
  | none => rw [hr] at h; cases h
  | some r =>
   rw [hr] at h
   simp only at h
   cases hf : flats r.cells with
   | none => rw [hf] at h; cases h
   | some cs =>
    rw [hf] at h
    simp only [Option.map_some, sj_] at h
    subst h
    have hr' : st.h[d]? = some (some r) := by
     rw [List.getD_eq_getElem?_getD] at hr
     cases h : st.h[d]? with
     | none => rw [h] at hr; cases hr
     | some y => rw [h] at hr; exact congrArg _ hr
    obtain ⟨_, cur, e, h2, h3, h4⟩ := hs.bx d r hr'
    obtain ⟨f1, f2⟩ := flats_get hf
    have hcell : ∀ j, w.cell? ⟨J.box d, j, none⟩ = cur[j]? := fun j => cell_of h2
    refine Rd.iptr (.agg cs) (J.box d) 0 o (fun j => cur.getD j undef) (p1 d hlb) (fun j hj => ?_) (fun j z hz => ?_) |> fun h => by simpa using h
    ·have hj : j < cur.size := by simp only [V.cells] at hj; omega
     simp [hcell, hj, Array.getD_eq_getD_getElem?]
    ·obtain ⟨y, y1, y2⟩ := f2 j z hz
     obtain ⟨t, t1, t2⟩ := h4 j y y1
     simp only [Array.getD_eq_getD_getElem?, t1, Option.getD_some]
     exact (flat_ok (S' := R) hs.good t2 y2 hR (fun b _ hb => p2 b hb)).1
 ·intro b s q xs i o _ u x h hv hb _
  simp only [strip] at h
  obtain ⟨rfl, h1, h2, h3, h4, ⟨r1, g, r2, r3⟩, h6⟩ := hv.eptr_inv
  cases hx : xs[i]? with
  | none => rw [hx] at h; cases h
  | some z =>
   rw [hx] at h
   simp only [sj_] at h
   subst h
   refine .iptr z _ (J.off b + i * s) o (g i) (hb b h1 (by simp [V.anyB])) (fun j hj => (r2 i j h4 (by rw [<- r1 z (mem_of_get hx)]; exact hj)).1) (fun j y hy => ?_)
   exact (r3 i z j y hx hy).mono (hSq q) (fun _ _ _ => rfl)
 ·intro b z o _ u x h hv hb _
  simp only [strip, sj_] at h
  subst h
  obtain ⟨o', g, rfl, h1, h2, h3⟩ := hv.vptr_inv
  exact .iptr z _ o' o g (hb b h1 (by simp [V.anyB])) h2 (fun j y hy => rm (h3 j y hy))
 ·intro z o _ u x h hv _ _
  simp only [strip, sj_] at h
  subst h
  cases hv with
  | rd _ _ h => exact rm h
 ·intro cs ih u x h hv hb hp
  simp only [strip] at h
  cases hc : strips (fun b => st.h.getD b none) cs with
  | none => rw [hc] at h; cases h
  | some us =>
   rw [hc] at h
   simp only [Option.map_some, sj_] at h
   subst h
   obtain ⟨vs, rfl, h1, h2⟩ := hv.agg_inv
   obtain ⟨l1, l2⟩ := ih us hc
   refine .agg us vs (l1.trans h1) (fun i u y hu hy => ?_)
   obtain ⟨z, hz⟩ : ∃ z, cs[i]? = some z := ⟨_, List.getElem?_eq_getElem (by rw [<- l1]; exact (gs_ hu).1)⟩
   exact l2 i z u y hz hu (h2 i z y hz hy) hb hp
 ·intro cs ih u x h hv hb hp
  simp only [strip] at h
  cases hc : strips (fun b => st.h.getD b none) cs with
  | none => rw [hc] at h; cases h
  | some us =>
   rw [hc] at h
   simp only [Option.map_some, sj_] at h
   subst h
   obtain ⟨vs, rfl, h1, h2⟩ := hv.tup_inv
   obtain ⟨l1, l2⟩ := ih us hc
   refine .tup us vs (l1.trans h1) (fun i u y hu hy => ?_)
   obtain ⟨z, hz⟩ : ∃ z, cs[i]? = some z := ⟨_, List.getElem?_eq_getElem (by rw [<- l1]; exact (gs_ hu).1)⟩
   exact l2 i z u y hz hu (h2 i z y hz hy) hb hp
 ·intro f cs ih u x h hv hb hp
  simp only [strip] at h
  cases hc : strips (fun b => st.h.getD b none) cs with
  | none => rw [hc] at h; cases h
  | some us =>
   rw [hc] at h
   simp only [Option.map_some, sj_] at h
   subst h
   obtain ⟨vs, rfl, h1, h2⟩ := hv.clo_inv
   obtain ⟨l1, l2⟩ := ih us hc
   refine .clo f us vs (l1.trans h1) (fun i u y hu hy => ?_)
   obtain ⟨z, hz⟩ : ∃ z, cs[i]? = some z := ⟨_, List.getElem?_eq_getElem (by rw [<- l1]; exact (gs_ hu).1)⟩
   exact l2 i z u y hz hu (h2 i z y hz hy) hb hp
 ·intro us h
  simp only [strips, sj_] at h
  subst h
  exact ⟨rfl, fun i c u y hc => by simp at hc⟩
 ·intro z cs hz hcs us h
  simp only [strips] at h
  cases h1 : strip (fun b => st.h.getD b none) z with
  | none => rw [h1] at h; cases h
  | some u0 =>
   cases h2 : strips (fun b => st.h.getD b none) cs with
   | none => rw [h1, h2] at h; cases h
   | some us0 =>
    rw [h1, h2] at h
    simp only [sj_] at h
    subst h
    obtain ⟨l1, l2⟩ := hcs us0 h2
    refine ⟨by simp [l1], fun i cc u y hc hu hv hb hp => ?_⟩
    cases i with
    | zero =>
     simp only [List.getElem?_cons_zero, sj_] at hc hu
     subst hc; subst hu
     exact hz u0 y h1 hv (fun b hb1 hb2 => hb b hb1 (by rw [V.anyBs, hb2]; rfl)) (fun h => hp (by rw [V.anyPs, h]; rfl))
    | succ i =>
     simp only [List.getElem?_cons_succ] at hc hu
     exact l2 i cc u y hc hu hv (fun b hb1 hb2 => hb b hb1 (by rw [V.anyBs, hb2, Bool.or_true])) (fun h => hp (by rw [V.anyPs, h, Bool.or_true]))
end
end Go.Am
end
section
set_option linter.unusedVariables false
set_option linter.unusedSimpArgs false
namespace Go.Am
open Go Go.RowKit
section
variable {P : Program} {c : Cfg} {J J' : Ctx} {st : St} {a : Act} {w w' : World} {den : Nat -> List V -> Option V} {η : Nat -> Option V} {d : Nat}
theorem takeR_inv {az : List V} {r v : V} {esc : List Nat} {n : Nat} (h : takeR d az r = some (.fresh v esc n)) :
  r.anyB (fun b => decide (999 <= b)) = false /\ v = r.mapB (thawB d) /\ n = (if r.anyB (fun _ => true) then 1 else 0) /\ (r.old = true -> V.anyPs (fun _ => true) az = false /\ esc = V.basess [] az) /\ (r.old = false -> esc = []) := by
 unfold takeR at h
 split at h
 ·cases h
 ·rename_i h1
  split at h
  ·rename_i h2
   split at h
   ·cases h
   ·rename_i h3
    simp only [sj_, Out.fresh.injEq] at h
    obtain ⟨rfl, rfl, rfl⟩ := h
    exact ⟨by simpa using h1, rfl, rfl, fun _ => ⟨by simpa using h3, rfl⟩, fun e => by rw [h2] at e; cases e⟩
  ·rename_i h2
   simp only [sj_, Out.fresh.injEq] at h
   obtain ⟨rfl, rfl, rfl⟩ := h
   exact ⟨by simpa using h1, rfl, rfl, fun e => absurd e h2, fun _ => rfl⟩
theorem olds_mem : ∀ {cs : List V}, V.olds cs = false -> ∀ u ∈ cs, u.old = false := by
 intro cs
 induction cs with
 | nil => intro _ u hu; cases hu
 | cons v vs ih =>
  intro h u hu
  rw [V.olds, Bool.or_eq_false_iff] at h
  rcases List.mem_cons.1 hu with rfl | hu
  ·exact h.1
  ·exact ih h.2 u hu
theorem olds_any {cs : List V} {u : V} (hu : u ∈ cs) (h : u.old = true) : V.olds cs = true := by
 cases ho : V.olds cs with
 | true => rfl
 | false => rw [olds_mem ho u hu] at h; cases h
theorem anyBs_any {p : Nat -> Bool} {cs : List V} {u : V} (hu : u ∈ cs) (h : u.anyB p = true) : V.anyBs p cs = true := by
 cases ho : V.anyBs p cs with
 | true => rfl
 | false => rw [anyBs_mem ho u hu] at h; cases h
theorem Sim.home {az : List V} {r v : V} {x : Value} {esc : List Nat} {n : Nat} {R : Nat -> Prop} {m : Bool} (hs : Sim J st a w) (hd : d < 1000) (hf : n = 0 \/ st.freeD d = true) (ht : takeR d az r = some (.fresh v esc n))
    (hR : r.old = true -> ∀ k, R k -> addS J esc k) (ha : Answer R w r x w') : Sims J ((({ st with t := st.t.set d v } : St).kill esc).mark m) (a.put (some d) x) w' := by
  obtain ⟨t1, rfl, t3, t4, t5⟩ := takeR_inv ht
  obtain ⟨Jr, hv, rF, rS, rb, rinj, rbz, rzf, rU, rns, rnd⟩ := ha.val
  have g := hs.good
  let p : Nat -> Bool := fun b => (n != 0) && (b / 1000 == d)
  let J' : Ctx := { J with S := fun k => addS J esc k \/ (w.heap.size <= k /\ Jr.S k), has := fun b => if p b = true then Jr.has (b % 1000) /\ b ≠ 999 else J.has b,
                           blk := fun b => if p b = true then Jr.blk (b % 1000) else J.blk b, off := fun b => if p b = true then Jr.off (b % 1000) else J.off b,
                           cap := fun b => if p b = true then Jr.cap (b % 1000) else J.cap b, sz := fun b => if p b = true then Jr.sz (b % 1000) else J.sz b,
                           ln := fun b => if p b = true then Jr.ln (b % 1000) else J.ln b, Z := fun k => J.Z k \/ Jr.Z k,
                           N := fun b => if p b = true then Jr.N (b % 1000) else J.N b }
  have hne : ∀ b, p b = true -> st.freeD d = true /\ b / 1000 = d := by
    intro b hb
    simp only [p, Bool.and_eq_true, bne_iff_ne, ne_eq, beq_iff_eq] at hb
    exact ⟨hf.resolve_left hb.1, hb.2⟩
  have hS' : ∀ k, J'.S k -> k < w'.heap.size := by
    rintro k (hk | ⟨_, hk⟩)
    · exact Nat.lt_of_lt_of_le (addS_lt g hk) ha.size
    · exact (rS k hk).2
  have hgood : Good J' w' := by
    refine ⟨ha.os.trans g.os, ha.tape.trans g.tape, ha.output.trans g.output, Nat.le_trans g.size ha.size, fun k hk hF => ?_, g.new, hS', fun b hb => ?_, fun b b' hb hb' he => ?_, fun k hk => ?_, g.boxInj, fun b k hb hk => ?_, fun k hk => hk.elim (addS_sr g k) (fun h => .inr (g.new k (Nat.le_trans g.size h.1))), g.gl, fun b hb => ?bz, fun k hk => ?zf, fun b hb m hm => ?ns, fun h => ?h9⟩
    case h9 =>
      change (if p 999 = true then _ /\ (999 : Nat) ≠ 999 else J.has 999) at h
      split at h
      · exact h.2 rfl
      · exact g.h9 h
    case ns =>
      change (if p b = true then Jr.has (b % 1000) /\ b ≠ 999 else J.has b) at hb
      change (if p b = true then Jr.N (b % 1000) else J.N b) m at hm
      by_cases hp : p b = true
      · rw [if_pos hp] at hb hm
        obtain ⟨h1, h2⟩ := rns _ hb.1 m hm
        exact ⟨.inr ⟨(rzf m h2).1, h1⟩, .inr h2⟩
      · rw [if_neg hp] at hb hm
        obtain ⟨h1, h2⟩ := g.ns b hb m hm
        exact ⟨.inl (.inl h1), .inl h2⟩
    case bz =>
      change (if p b = true then Jr.has (b % 1000) /\ b ≠ 999 else J.has b) at hb
      show J.Z (if p b = true then _ else _) \/ Jr.Z (if p b = true then _ else _)
      by_cases hp : p b = true
      · rw [if_pos hp] at hb ⊢
        exact .inr (rbz _ hb.1)
      · rw [if_neg hp] at hb ⊢
        exact .inl (g.bz b hb)
    case zf =>
      rcases hk with hk | hk
      · obtain ⟨z1, z2, cur, e, h⟩ := g.zf k hk
        exact ⟨z1, Nat.lt_of_lt_of_le z2 ha.size, cur, e, (ha.old _ z2).trans h⟩
      · obtain ⟨z1, z2, cur, e, h⟩ := rzf k hk
        exact ⟨g.new k (Nat.le_trans g.size z1), z2, cur, e, h⟩
    · exact (ha.old k (Nat.lt_of_lt_of_le hk g.size)).trans (g.old k hk hF)
    · change (if p b = true then Jr.has (b % 1000) /\ b ≠ 999 else J.has b) at hb
      show J.F (if p b = true then _ else _) /\ (if p b = true then _ else _) < _ /\ (if p b = true then _ else _) <= _ /\ ∃ cur e, w'.heap[if p b = true then Jr.blk (b % 1000) else J.blk b]? = some (.cells cur e (0, 0)) /\
        (if p b = true then Jr.off (b % 1000) else J.off b) + (if p b = true then Jr.cap (b % 1000) else J.cap b) * (if p b = true then Jr.sz (b % 1000) else J.sz b) <= cur.size
      by_cases hp : p b = true
      · simp only [if_pos hp] at hb ⊢
        obtain ⟨h1, h2, _, h4, h5⟩ := rb _ hb.1
        exact ⟨g.new _ (Nat.le_trans g.size h1), h2, h4, h5⟩
      · simp only [if_neg hp] at hb ⊢
        obtain ⟨h1, h2, h3, cur, e, h4, h5⟩ := g.base b hb
        exact ⟨h1, Nat.lt_of_lt_of_le h2 ha.size, h3, cur, e, (ha.old _ h2).trans h4, h5⟩
    · change (if p b = true then Jr.has (b % 1000) /\ b ≠ 999 else J.has b) at hb
      change (if p b' = true then Jr.has (b' % 1000) /\ b' ≠ 999 else J.has b') at hb'
      change (if p b = true then Jr.blk (b % 1000) else J.blk b) = (if p b' = true then Jr.blk (b' % 1000) else J.blk b') at he
      by_cases hp : p b = true
      · by_cases hp' : p b' = true
        · rw [if_pos hp] at hb; rw [if_pos hp'] at hb'; rw [if_pos hp, if_pos hp'] at he
          have h1 := rinj _ _ hb.1 hb'.1 he
          have h2 := (hne b hp).2
          have h3 := (hne b' hp').2
          omega
        · rw [if_pos hp] at hb; rw [if_neg hp'] at hb'; rw [if_pos hp, if_neg hp'] at he
          have h1 := (rb _ hb.1).1
          have h2 := (g.base _ hb').2.1
          omega
      · by_cases hp' : p b' = true
        · rw [if_neg hp] at hb; rw [if_pos hp'] at hb'; rw [if_neg hp, if_pos hp'] at he
          have h1 := (rb _ hb'.1).1
          have h2 := (g.base _ hb).2.1
          omega
        · rw [if_neg hp] at hb; rw [if_neg hp'] at hb'; rw [if_neg hp, if_neg hp'] at he
          exact g.baseInj b b' hb hb' he
    · obtain ⟨h1, h2, h3⟩ := g.box k hk
      refine ⟨h1, ?_, Nat.lt_of_lt_of_le h3 ha.size⟩
      rintro (h | ⟨h, _⟩)
      · exact addS_box g hk h
      · exact absurd h (by show ¬ w.heap.size <= J.box k; omega)
    · change (if p b = true then Jr.has (b % 1000) /\ b ≠ 999 else J.has b) at hb
      show (if p b = true then Jr.blk (b % 1000) else J.blk b) ≠ J.box k
      have h3 := (g.box k hk).2.2
      by_cases hp : p b = true
      · rw [if_pos hp] at hb ⊢
        have := (rb _ hb.1).1
        omega
      · rw [if_neg hp] at hb ⊢
        exact g.baseBox b k hb hk
  refine ⟨J', ⟨rfl, rfl, rfl⟩, ?_⟩
  refine Sim.extend (p := p) hs ha.old (fun h => h) (fun k hk => .inl (.inl hk)) (fun _ h => .inl h) (fun b hb => ?_) (fun _ h => h) (fun _ => rfl) (fun i u hi hu => ?_) (fun i u hu => ?_) hgood ?_ (fun h _ => hs.du h) ?_ ?_
  · have hb : ¬ p b = true := by rw [hb]; simp
    exact ⟨by show (if p b = true then _ else _) ↔ _; rw [if_neg hb], fun _ => ⟨if_neg hb, if_neg hb, if_neg hb, if_neg hb, if_neg hb, fun m hm => by show (if p b = true then Jr.N (b % 1000) else J.N b) m; rw [if_neg hb]; exact hm⟩⟩
  · rcases hf with h0 | hf
    · have : p = fun _ => false := by funext b; simp [p, h0]
      rw [this]; exact anyB_false u
    · have h1 := freeD_t hf i u hi hu
      by_cases h0 : n = 0
      · have : p = fun _ => false := by funext b; simp [p, h0]
        rw [this]; exact anyB_false u
      · have : p = fun b => b / 1000 == d := by funext b; simp [p, h0]
        rw [this]; exact h1
  · rcases hf with h0 | hf
    · have : p = fun _ => false := by funext b; simp [p, h0]
      rw [this]; exact anyB_false u
    · have h1 := freeD_h hf i u hu
      by_cases h0 : n = 0
      · have : p = fun _ => false := by funext b; simp [p, h0]
        rw [this]; exact anyB_false u
      · have : p = fun b => b / 1000 == d := by funext b; simp [p, h0]
        rw [this]; exact h1
  · intro b hb he hdd
    change (if p b = true then Jr.has (b % 1000) /\ b ≠ 999 else J.has b) at hb
    show ¬ (addS J esc (if p b = true then Jr.blk (b % 1000) else J.blk b) \/ (w.heap.size <= (if p b = true then Jr.blk (b % 1000) else J.blk b) /\ Jr.S (if p b = true then Jr.blk (b % 1000) else J.blk b)))
    by_cases hp : p b = true
    · rw [if_pos hp] at hb ⊢
      obtain ⟨h1, _, h3, _⟩ := rb _ hb.1
      rintro (h | ⟨_, h⟩)
      · have := addS_lt g h; omega
      · exact h3 h
    · rw [if_neg hp] at hb ⊢
      rintro (h | ⟨h, _⟩)
      · exact addS_base g hb (hs.nds b hb hdd) he h
      · have := (g.base b hb).2.1; omega
  · intro hU b b' hb hb' he hdd he' hdd' hne2 m hm hm'
    change (if p b = true then Jr.has (b % 1000) /\ b ≠ 999 else J.has b) at hb
    change (if p b' = true then Jr.has (b' % 1000) /\ b' ≠ 999 else J.has b') at hb'
    change (if p b = true then Jr.N (b % 1000) else J.N b) m at hm
    change (if p b' = true then Jr.N (b' % 1000) else J.N b') m at hm'
    by_cases hp : p b = true
    · by_cases hp' : p b' = true
      · rw [if_pos hp] at hb hm; rw [if_pos hp'] at hb' hm'
        have h2 := (hne b hp).2
        have h3 := (hne b' hp').2
        exact rnd _ _ hb.1 hb'.1 (by omega) m hm hm'
      · rw [if_pos hp] at hb hm; rw [if_neg hp'] at hb' hm'
        have h1 := (rzf m (rns _ hb.1 m hm).2).1
        have h2 := g.slt m (g.ns b' hb' m hm').1
        omega
    · by_cases hp' : p b' = true
      · rw [if_neg hp] at hb hm; rw [if_pos hp'] at hb' hm'
        have h1 := (rzf m (rns _ hb'.1 m hm').2).1
        have h2 := g.slt m (g.ns b hb m hm).1
        omega
      · rw [if_neg hp] at hb hm; rw [if_neg hp'] at hb' hm'
        exact hs.nd hU b b' hb hb' hdd hdd' hne2 m hm hm'
  · -- the value
    have hSq : ∀ (q : Q), (q.good = false -> r.old = true) -> ∀ k, Jr.Sq q k -> J'.Sq q k := by
      intro q hq k hk
      cases q with
      | any =>
        have ho := hq rfl
        rcases (rS k hk).1 with h | h
        · exact .inl (hR ho k h)
        · exact .inr ⟨h, hk⟩
      | flat => exact ⟨.inr ⟨(rzf k hk.2).1, hk.1⟩, .inr hk.2⟩
      | clean => exact ⟨.inr ⟨(rzf k hk.2).1, hk.1⟩, .inr hk.2⟩
    have hSo : r.old = true -> ∀ k, Jr.S k -> J'.S k := fun ho k hk => hSq .any (fun _ => ho) k hk
    refine VR.sweepC (J := Jr) (J' := J') (w := w') (w' := w') (fun u => u.anyB (fun b => decide (999 <= b)) = false /\ (u.old = true -> r.old = true) /\ (u.anyB (fun _ => true) = true -> n ≠ 0))
      (fun cs h u hu => ⟨anyBs_mem h.1 u hu, fun e => h.2.1 (olds_any hu e), fun e => h.2.2 (anyBs_any hu e)⟩) (fun cs h u hu => ⟨anyBs_mem h.1 u hu, fun e => h.2.1 (olds_any hu e), fun e => h.2.2 (anyBs_any hu e)⟩)
      (fun _ cs h u hu => ⟨anyBs_mem h.1 u hu, fun e => h.2.1 (olds_any hu e), fun e => h.2.2 (anyBs_any hu e)⟩) (fun u y hleaf hc hu => ?_) r x ⟨t1, fun e => e, fun e => by rw [t3, if_pos e]; simp⟩ hv
    obtain ⟨c1, c2, c3⟩ := hc
    cases u with
    | undef => exact VR.undef_ _
    | bool b => rw [hu.bool_inv]; exact .rd _ _ (.bool b)
    | int k m => rw [hu.int_inv]; exact .rd _ _ (.int k m)
    | str s => obtain ⟨z, rfl, hz⟩ := hu.str_inv; exact .rd _ _ (.str s z hz)
    | nil => rw [hu.nil_inv]; exact .rd _ _ .nil
    | sl s f xs => exact .rd _ _ (hu.sl_inv.mono (hSo (c2 rfl)) (fun _ _ _ => rfl))
    | iptr z o =>
      cases hu with
      | rd _ _ h => exact .rd _ _ (h.mono (hSo (c2 rfl)) (fun _ _ _ => rfl))
    | ptr _ _ => exact VR.undef_ _
    | eptr _ _ _ _ _ _ => exact VR.undef_ _
    | vptr _ _ _ => exact VR.undef_ _
    | agg _ => cases hleaf
    | tup _ => cases hleaf
    | clo _ _ => cases hleaf
    | own b s q xs =>
      have hb9 : b < 999 := by simpa [V.anyB] using c1
      have hb : b < 1000 := by omega
      have hn0 := c3 rfl
      have hpb : p (base d b) = true := by simp [p, hn0, base_div hd hb]
      have hmod : base d b % 1000 = b := by unfold base; omega
      have e0 : J'.has (base d b) = Jr.has b := by show (if p (base d b) = true then _ else _) = _; rw [if_pos hpb, hmod]; exact propext ⟨fun h => h.1, fun h => ⟨h, by unfold base; omega⟩⟩
      have e6 : J'.N (base d b) = Jr.N b := by show (if p (base d b) = true then _ else _) = _; rw [if_pos hpb, hmod]
      have e1 : J'.blk (base d b) = Jr.blk b := by show (if p (base d b) = true then _ else _) = _; rw [if_pos hpb, hmod]
      have e2 : J'.off (base d b) = Jr.off b := by show (if p (base d b) = true then _ else _) = _; rw [if_pos hpb, hmod]
      have e3 : J'.cap (base d b) = Jr.cap b := by show (if p (base d b) = true then _ else _) = _; rw [if_pos hpb, hmod]
      have e4 : J'.sz (base d b) = Jr.sz b := by show (if p (base d b) = true then _ else _) = _; rw [if_pos hpb, hmod]
      have e5 : J'.ln (base d b) = Jr.ln b := by show (if p (base d b) = true then _ else _) = _; rw [if_pos hpb, hmod]
      simp only [thawB, Option.getD_some]
      have huq := hu.own_uq
      rcases hu.own_inv with ⟨rfl, rfl, h3⟩ | ⟨rfl, h1, h2, h3, h4, h5⟩
      · exact .ownNil _ _ _ (by rw [e0]; exact h3)
      · have := VR.own (J := J') (w := w') (base d b) s q xs (by rw [e0]; exact h1) (by rw [e4]; exact h2) (by rw [e3, e5]; exact h3)
          (by rw [e1, e2]; exact h4.mono (hSq q (fun e => c2 (by simp [V.old, e]))) (fun _ _ _ => rfl) (fun _ _ _ => rfl)) h5 (fun hq _ => by rw [e1, e2]; exact (huq hq rU).mono (fun m hm => ⟨by rw [e6]; exact hm.1, .inr ⟨(rzf m (rns _ h1 m hm.1).2).1, hm.2⟩⟩) (fun _ _ _ => rfl) (fun _ _ _ => rfl))
        rwa [e1, e2, e3] at this
    | view b s q xs =>
      have hb9 : b < 999 := by simpa [V.anyB] using c1
      have hb : b < 1000 := by omega
      have hn0 := c3 rfl
      have hpb : p (base d b) = true := by simp [p, hn0, base_div hd hb]
      have hmod : base d b % 1000 = b := by unfold base; omega
      have e0 : J'.has (base d b) = Jr.has b := by show (if p (base d b) = true then _ else _) = _; rw [if_pos hpb, hmod]; exact propext ⟨fun h => h.1, fun h => ⟨h, by unfold base; omega⟩⟩
      have e6 : J'.N (base d b) = Jr.N b := by show (if p (base d b) = true then _ else _) = _; rw [if_pos hpb, hmod]
      have e1 : J'.blk (base d b) = Jr.blk b := by show (if p (base d b) = true then _ else _) = _; rw [if_pos hpb, hmod]
      have e2 : J'.off (base d b) = Jr.off b := by show (if p (base d b) = true then _ else _) = _; rw [if_pos hpb, hmod]
      have e3 : J'.cap (base d b) = Jr.cap b := by show (if p (base d b) = true then _ else _) = _; rw [if_pos hpb, hmod]
      have e4 : J'.sz (base d b) = Jr.sz b := by show (if p (base d b) = true then _ else _) = _; rw [if_pos hpb, hmod]
      simp only [thawB, Option.getD_some]
      have hu0 := hu
      rcases hu.view_inv with ⟨ad, cap, rfl, rfl⟩ | ⟨o, cap, rfl, h1, hx, h3, hfit, h4, h5⟩
      · exact .view0 _ _ _ _ _
      · have := VR.view (J := J') (w := w') (base d b) s q xs o cap (by rw [e0]; exact h1) hx h3 (by rw [e2, e3, e4]; exact hfit)
          (by rw [e1]; exact h4.mono (hSq q (fun e => c2 (by simp [V.old, e]))) (fun _ _ _ => rfl) (fun _ _ _ => rfl)) h5 (fun hq _ => by rw [e1]; exact (hu0.view_uq hq rU).mono (fun m hm => ⟨by rw [e6]; exact hm.1, .inr ⟨(rzf m (rns _ h1 m hm.1).2).1, hm.2⟩⟩) (fun _ _ _ => rfl) (fun _ _ _ => rfl))
        rwa [e1] at this
theorem nilArgCells_get : ∀ (zs vs : List V) (j : Nat) (u : V), (nilArgCells zs vs)[j]? = some u -> ∃ v z, vs[j]? = some v /\ (u = nilArgCell z v \/ u = v) := by
 intro zs
 induction zs with
 | nil => intro vs j u h; cases vs <;> exact ⟨u, u, h, .inr rfl⟩
 | cons z zs ih =>
  intro vs j u h
  cases vs with
  | nil => simp [nilArgCells] at h
  | cons v vs =>
   rw [nilArgCells] at h
   cases j with
   | zero =>
    simp only [List.getElem?_cons_zero, sj_] at h
    exact ⟨v, z, rfl, .inl h.symm⟩
   | succ j => exact ih vs j u (by simpa using h)
theorem nilArgCells_len : ∀ (zs vs : List V), (nilArgCells zs vs).length = vs.length := by
 intro zs
 induction zs with
 | nil => intro vs; cases vs <;> rfl
 | cons z zs ih => intro vs; cases vs with
  | nil => rfl
  | cons v vs => rw [nilArgCells, List.length_cons, ih, List.length_cons]
theorem nilArgs_len : ∀ (zs : List (List V)) (vs : List V), (nilArgs zs vs).length = vs.length := by
 intro zs
 induction zs with
 | nil => intro vs; cases vs <;> rfl
 | cons z zs ih => intro vs; cases vs with
  | nil => rfl
  | cons v vs => rw [nilArgs, List.length_cons, ih, List.length_cons]
theorem nilArgCell_ok {R : Nat -> Prop} {z v : V} {x : Value} (h : Rd w R v x) : Rd w R (nilArgCell z v) x := by
 unfold nilArgCell
 split
 ·cases h; exact .empty _ _ _ _
 ·exact h
theorem nilArg_ok {R : Nat -> Prop} {zs : List V} {v : V} {x : Value} (h : Rd w R v x) : Rd w R (nilArg zs v) x := by
 cases v with
 | agg cs =>
  cases h with
  | agg _ vs hl hr =>
   refine .agg _ vs (by rw [nilArgCells_len]; exact hl) (fun i c v e1 e2 => ?_)
   obtain ⟨y, z, hy, hu⟩ := nilArgCells_get _ _ _ _ e1
   rcases hu with rfl | rfl
   ·exact nilArgCell_ok (hr i y v hy e2)
   ·exact hr i _ v hy e2
 | _ =>
  unfold nilArg
  split
  ·rename_i heq; cases heq
  ·split
   ·exact nilArgCell_ok h
   ·exact h
theorem nilArgs_ok {R : Nat -> Prop} {vals : Array Value} : ∀ {zs : List (List V)} {vs : List V}, (∀ (i : Nat) (c : V) (v : Value), vs[i]? = some c -> vals[i]? = some v -> Rd w R c v) -> ∀ (i : Nat) (c : V) (v : Value), (nilArgs zs vs)[i]? = some c -> vals[i]? = some v -> Rd w R c v := by
 intro zs vs h i c v hc hv
 have key : ∀ (zs : List (List V)) (vs : List V) (i : Nat) (c : V), (nilArgs zs vs)[i]? = some c -> ∃ u, vs[i]? = some u /\ ((∃ z, c = nilArg z u) \/ c = u) := by
  intro zs
  induction zs with
  | nil => intro vs i c h; cases vs <;> exact ⟨c, h, .inr rfl⟩
  | cons z zs ih =>
   intro vs i c h
   cases vs with
   | nil => simp [nilArgs] at h
   | cons u vs =>
    rw [nilArgs] at h
    cases i with
    | zero => simp only [List.getElem?_cons_zero, sj_] at h; exact ⟨u, rfl, .inl ⟨z, h.symm⟩⟩
    | succ i => exact ih vs i c (by simpa using h)
 obtain ⟨u, hu, hor⟩ := key zs vs i c hc
 rcases hor with ⟨z, rfl⟩ | rfl
 ·exact nilArg_ok (h i u v hu hv)
 ·exact h i _ v hu hv
theorem strips_ok {R : Nat -> Prop} (hs : Sim J st a w) (hR : ∀ k, J.S k -> R k) : ∀ (az us : List V), strips (fun b => st.h.getD b none) az = some us -> us.length = az.length /\ ∀ (i : Nat) (z u : V) (y : Value), az[i]? = some z -> us[i]? = some u -> VR J w z y ->
   (∀ b, J.has b -> V.anyBs (fun b' => b' == b) az = true -> R (J.blk b)) -> (V.anyPs (fun _ => true) az = true -> (∀ d, J.lb d -> R (J.box d)) /\ ∀ b, J.has b -> R (J.blk b)) -> Rd w R u y := by
 intro az
 induction az with
 | nil =>
  intro us h
  simp only [strips, sj_] at h
  subst h
  exact ⟨rfl, fun i c u y hc => by simp at hc⟩
 | cons z cs ih =>
  intro us h
  simp only [strips] at h
  cases h1 : strip (fun b => st.h.getD b none) z with
  | none => rw [h1] at h; cases h
  | some u0 =>
   cases h2 : strips (fun b => st.h.getD b none) cs with
   | none => rw [h1, h2] at h; cases h
   | some us0 =>
    rw [h1, h2] at h
    simp only [sj_] at h
    subst h
    obtain ⟨l1, l2⟩ := ih us0 h2
    refine ⟨by simp [l1], fun i cc u y hc hu hv hb hp => ?_⟩
    cases i with
    | zero =>
     simp only [List.getElem?_cons_zero, sj_] at hc hu
     subst hc; subst hu
     exact strip_ok hs hR z u0 y h1 hv (fun b hb1 hb2 => hb b hb1 (by rw [V.anyBs, hb2]; rfl)) (fun h => hp (by rw [V.anyPs, h]; rfl))
    | succ i =>
     simp only [List.getElem?_cons_succ] at hc hu
     exact l2 i cc u y hc hu hv (fun b hb1 hb2 => hb b hb1 (by rw [V.anyBs, hb2, Bool.or_true])) (fun h => hp (by rw [V.anyPs, h, Bool.or_true]))
theorem sound_call (hD : Answers P den) (hs : Sim J st a w) {o : Oper} {f : Operand} {args : Array Operand} {ts : Array TypeId} {v : V} {esc : List Nat} {n : Nat} (ho : o.op = .call ⟨.value f, args, ts⟩)
  (h : valOp c den (ev st.t) (fun b => st.h.getD b none) d o.op = some (.fresh v esc n)) (hd : d < 1000) (hf : n = 0 \/ st.freeD d = true) (hod : o.dst = some d)
  (next : Act -> World -> Prop) (Q : Exit -> Act -> World -> Prop) (hn : ∀ a' w', Sims J ((({ st with t := st.t.set d v } : St).kill esc).mark (!moveOk st.dead esc)) a' w' -> next a' w') : o.wp P a w next Q := by
 rw [ho] at h
 simp only [valOp] at h
 split at h
 ·rename_i g cap hfv
  split at h
  ·rename_i us hus
   split at h
   ·rename_i r hr
    obtain ⟨⟨fn, hfn, hbody, hname⟩, hcall⟩ := hD _ _ _ hr
    have hfr := hs.ev f
    rw [hfv] at hfr
    obtain ⟨cv, ef, hcl, hcv⟩ := hfr.clo_inv
    have hexec : (execOp a.eval o).run P w = .ok (.enter g (args.map a.eval ++ cv)) w := by
     simp [execOp, ho, ef, resolve, Deferred.ofValue, invoke, callFunc, hfn, hbody]
     have : ¬ fn.name = "runtime.NumGoroutine" := by simpa using hname
     simp [this]
     intro hb
     simp [hb] at hbody
    unfold Oper.wp
    rw [hexec, Oper.upon_enter]
    let az := args.toList.map (ev st.t) ++ cap
    obtain ⟨_, _, _, t4, t5⟩ := takeR_inv h
    let R : Nat -> Prop := fun k => if V.anyPs (fun _ => true) az = true then J.S k \/ (∃ b, J.has b /\ k = J.blk b) \/ (∃ d, J.lb d /\ k = J.box d) else addS J (V.basess [] az) k
    have hRlt : ∀ k, R k -> k < w.heap.size := by
     intro k hk
     simp only [R] at hk
     split at hk
     ·rcases hk with hk | ⟨b, hb, rfl⟩ | ⟨d, hb, rfl⟩
      ·exact hs.good.slt k hk
      ·exact (hs.good.base b hb).2.1
      ·exact (hs.good.box d hb).2.2
     ·exact addS_lt hs.good hk
    have hRS : ∀ k, J.S k -> R k := by
     intro k hk
     simp only [R]
     split
     ·exact .inl hk
     ·exact .inl hk
    have hRb : ∀ b, J.has b -> V.anyBs (fun b' => b' == b) az = true -> R (J.blk b) := by
     intro b hb hbs
     simp only [R]
     split
     ·exact .inr (.inl ⟨b, hb, rfl⟩)
     ·refine .inr ⟨b, ?_, hb, rfl⟩
      exact bases_mem b (.agg az) [] (.inr hbs)
    have hRp : V.anyPs (fun _ => true) az = true -> (∀ d, J.lb d -> R (J.box d)) /\ ∀ b, J.has b -> R (J.blk b) := by
     intro hp
     constructor
     ·intro d hd; simp only [R]; rw [if_pos hp]; exact .inr (.inr ⟨d, hd, rfl⟩)
     ·intro b hb; simp only [R]; rw [if_pos hp]; exact .inr (.inl ⟨b, hb, rfl⟩)
    obtain ⟨l1, l2⟩ := strips_ok hs hRS az us hus
    have hlen : us.length = (args.map a.eval ++ cv).size := by
     rw [l1]; simp [az, hcl]
    refine Calls.mono (hcall R w _ hs.good.glob hRlt (by rw [nilArgs_len]; exact hlen) (nilArgs_ok (fun i u y hu hy => ?_))) (fun e w' he => ?_)
    ·obtain ⟨z, hz⟩ : ∃ z, az[i]? = some z := ⟨_, List.getElem?_eq_getElem (by rw [<- l1]; exact (gs_ hu).1)⟩
     refine l2 i z u y hz hu ?_ hRb hRp
     rcases Nat.lt_or_ge i args.size with hi | hi
     ·simp only [az] at hz
      rw [List.getElem?_append_left (by simpa using hi), List.getElem?_map] at hz
      rw [Array.getElem?_append_left (by simpa using hi), Array.getElem?_map] at hy
      simp only [Array.getElem?_toList, Array.getElem?_eq_getElem hi, Option.map_some, sj_] at hz hy
      subst hz; subst hy
      exact hs.ev _
     ·simp only [az] at hz
      rw [List.getElem?_append_right (by simpa using hi)] at hz
      rw [Array.getElem?_append_right (by simpa using hi)] at hy
      simp only [List.length_map, Array.length_toList, Array.size_map] at hz hy
      exact hcv _ z y hz hy
    ·cases e with
     | returned x =>
      refine hn _ _ ?_
      rw [hod]
      refine Sim.home hs hd hf h (fun ho k hk => ?_) he
      obtain ⟨t6, t7⟩ := t4 ho
      simp only [R] at hk
      rw [if_neg (by rw [t6]; simp)] at hk
      rw [t7]
      exact hk
     | panicked _ => cases he
     | outgrown => cases he
   ·cases h
  ·cases h
 ·cases h
end
end Go.Am
end
section
set_option linter.unusedVariables false
set_option linter.unusedSimpArgs false
namespace Go.Am
open Go Go.RowKit
section
variable {P : Program} {c : Cfg} {J J' : Ctx} {st : St} {a : Act} {w w' : World} {den : Nat -> List V -> Option V} {η : Nat -> Option V} {d : Nat}
theorem isU8_ok (hA : Agree P c) {e : Nat} (h : isU8 c e = true) : P.underlying e = some (.int .u8) := by
 unfold isU8 at h
 cases h1 : c.ty e with
 | none => rw [h1] at h; cases h
 | some j =>
  rw [h1] at h
  simp only at h
  obtain ⟨tj, aj⟩ := hA _ _ h1
  split at h
  ·rename_i e1; exact aj.int _ e1
  ·cases h
theorem bytesOf_inv : ∀ {xs : List V} {l : List UInt8}, bytesOf xs = some l -> ∃ ns : List Int, xs = ns.map (V.int .u8) /\ l = ns.map (fun n => UInt8.ofNat n.toNat) := by
 intro xs
 induction xs with
 | nil => intro l h; simp only [bytesOf, sj_] at h; subst h; exact ⟨[], rfl, rfl⟩
 | cons x xs ih =>
  intro l h
  cases x with
  | int k n =>
   cases k with
   | u8 =>
    simp only [bytesOf] at h
    cases hb : bytesOf xs with
    | none => rw [hb] at h; cases h
    | some m =>
     rw [hb] at h
     simp only [Option.map_some, sj_] at h
     obtain ⟨ns, h1, h2⟩ := ih hb
     exact ⟨n :: ns, by rw [h1]; rfl, by rw [<- h, h2]; rfl⟩
   | _ => simp only [bytesOf] at h; cases h
  | _ => simp only [bytesOf] at h; cases h
theorem push_foldl : ∀ (ns : List Int) (s : ByteArray), (ns.foldl (fun r n => r.push (UInt8.ofNat n.toNat)) s).data.toList = s.data.toList ++ ns.map (fun n => UInt8.ofNat n.toNat) := by
 intro ns
 induction ns with
 | nil => intro s; simp
 | cons n ns ih => intro s; rw [List.foldl_cons, ih]; simp [ByteArray.push]
theorem pure_bytes (hA : Agree P c) (hs : Sim J st a w) {o : Oper} {s t : TypeId} {x : Operand} {v : V} (ho : o.op = .convert s t x) (hc : convB c s t (ev st.t x) = some v) : PureOk P J a w o v := by
 unfold convB at hc
 cases hr : convRows c s t (ev st.t x) with
 | none => rw [hr] at hc; cases hc
 | some xs =>
  rw [hr] at hc
  simp only at hc
  cases hb : bytesOf xs with
  | none => rw [hb] at hc; cases hc
  | some l =>
   rw [hb] at hc
   simp only [Option.map_some, sj_] at hc
   subst hc
   obtain ⟨ns, h1, h2⟩ := bytesOf_inv hb
   unfold convRows at hr
   cases e1 : c.ty s with
   | none => rw [e1] at hr; cases hr
   | some i =>
    cases e2 : c.ty t with
    | none => rw [e1, e2] at hr; cases hr
    | some j =>
     rw [e1, e2] at hr
     simp only at hr
     obtain ⟨ti, ai⟩ := hA _ _ e1
     obtain ⟨tj, aj⟩ := hA _ _ e2
     split at hr
     ·rename_i e g1 g2
      split at hr
      ·rename_i hu
       have hu8 := isU8_ok hA hu
       split at hr
       ·rename_i q ys hsrc
        simp only [sj_] at hr
        subst hr
        have hsl := ai.slice e g1
        have hstr := aj.str g2
        have fin : ∀ (ad : Option Addr) (n cap : Nat), a.eval x = .slice ad n cap -> (∀ b, ad = some b -> (loadCells b n).run P w = .ok (ns.map (Value.int .u8)).toArray w) -> (ad = none -> ns = []) -> PureOk P J a w o (.str l) := by
         intro ad n cap ex h3 h4
         refine ⟨.string (ns.foldl (fun r n => r.push (UInt8.ofNat n.toNat)) ByteArray.empty), ?_, .rd _ _ (.str _ _ (by rw [push_foldl, h2]; rfl))⟩
         have : (convert s t (.slice ad n cap)).run P w = .ok (.string (ns.foldl (fun r n => r.push (UInt8.ofNat n.toNat)) ByteArray.empty)) w := by
          rw [run_convert_bytes_string w s t e ad n cap hsl hu8 hstr]
          cases ad with
          | none => rw [h4 rfl]; rfl
          | some b => exact run_bytesToString w b n cap ns (h3 b rfl)
         simp [execOp, ho, ex, this]
        rcases src_ok hs.good (hs.ev x) hsrc with ⟨rfl, ad, cap, ex⟩ | ⟨k, o', cap, news, ex, hl, hn1, hn2, hn3, hn4⟩
        ·have : ns = [] := by cases ns with
          | nil => rfl
          | cons n ns => cases h1
         subst this
         exact fin ad 0 cap ex (fun b _ => by simpa using run_loadCells (P := P) w b 0 (fun _ => .bool false) (fun j hj => by omega)) (fun _ => rfl)
        ·refine fin _ _ _ ex (fun b hb' => ?_) (fun h => by cases h)
         cases hb'
         have hadd : ∀ j, (⟨k, o', none⟩ : Addr).add j = ⟨k, o' + j, none⟩ := by intro j; simp [Addr.add]
         have hnews : ∀ j, j < ys.length -> news[j]? = some (.int .u8 (ns.getD j 0)) := by
          intro j hj
          have hj' : j < ns.length := by rw [h1] at hj; simpa using hj
          have hy : ys[j]? = some (.int .u8 (ns.getD j 0)) := by
           rw [h1, List.getElem?_map, List.getElem?_eq_getElem hj']
           simp [List.getD, hj']
          obtain ⟨z, g1, _, g3, _⟩ := hn4 j _ 0 _ hy rfl
          rw [Nat.mul_one, Nat.add_zero] at g1
          cases g3
          exact g1
         have := run_loadCells (P := P) w ⟨k, o', none⟩ ys.length (fun j => .int .u8 (ns.getD j 0)) (fun j hj => by
          rw [hadd]
          exact (hn2 j _ (hnews j hj)).1)
         rw [this]
         have hlen : ys.length = ns.length := by rw [h1]; simp
         congr 2
         rw [hlen]
         apply List.ext_getElem?
         intro j
         rw [List.getElem?_map, List.getElem?_map]
         rcases Nat.lt_or_ge j ns.length with hj | hj
         ·rw [List.getElem?_range hj, List.getElem?_eq_getElem hj]
          simp [List.getD, hj]
         ·rw [List.getElem?_eq_none (by simpa using hj), List.getElem?_eq_none hj]
          rfl
       ·cases hr
      ·cases hr
     ·cases hr
theorem sound_bytes (hA : Agree P c) (hs : Sim J st a w) {o : Oper} {s t : TypeId} {x : Operand} {v : V} (ho : o.op = .convert s t x) (h : bytesFor c s t (ev st.t x) = some v) (hd : d < 1000) :
  ∃ y w', (execOp a.eval o).run P w = .ok (.value y) w' /\ Sims J ((({ st with t := st.t.set d v } : St).kill []).mark false) (a.put (some d) y) w' := by
 unfold bytesFor at h
 cases e1 : c.ty s with
 | none => rw [e1] at h; cases h
 | some i =>
  cases e2 : c.ty t with
  | none => rw [e1, e2] at h; cases h
  | some j =>
   rw [e1, e2] at h
   simp only at h
   obtain ⟨ti, ai⟩ := hA _ _ e1
   obtain ⟨tj, aj⟩ := hA _ _ e2
   split at h
   ·rename_i e b g1 g2 g3
    split at h
    ·rename_i hu
     simp only [sj_] at h
     subst h
     have hx := hs.ev x
     rw [g3] at hx
     obtain ⟨y, ey, hy⟩ := hx.str_inv
     have hr := Lib.run_convert_string_bytes (P := P) w s t e y (ai.str g1) (aj.slice e g2) (isU8_ok hA hu)
     have hsz : y.size = b.length := size_str hy
     have hge := grownCap_ge w y.size 0 e
     have he : (execOp a.eval o).run P w = .ok (.value (.slice (some ⟨w.heap.size, 0, none⟩) y.size (grownCap w y.size 0 e))) (Lib.bytesWorld w e y) := by
      simp only [execOp, ho, ey, Sem.run_bind, hr, Result.andThen_ok, Sem.run_pure]
     refine ⟨_, _, he, ?_⟩
     refine Sim.home (az := []) (r := .sl 1 true (bytesV b)) (n := 0) (R := fun _ => False) hs hd (.inl rfl) rfl (fun _ _ h => h.elim) ?_
     refine ⟨rfl, ?_, ?_, by rw [Lib.bytesWorld_size]; omega, fun k hk => Lib.bytesWorld_at_old w e y k hk, ?_⟩
     ·simp [Lib.bytesWorld, World.freeze, World.alloc, World.drew, -World.alloc_eq, -World.drew_eq]
     ·simp [Lib.bytesWorld, World.freeze, World.alloc, World.drew, -World.alloc_eq, -World.drew_eq]
     ·refine ⟨{ w0 := w, F := fun k => w.heap.size <= k, S := fun k => k = w.heap.size, has := fun _ => False, blk := fun _ => 0, off := fun _ => 0, cap := fun _ => 0, sz := fun _ => 0, ln := fun _ => 0, lb := fun _ => False, box := fun _ => 0, R := fun _ => False, Z := fun _ => False, N := fun _ _ => False, U := True },
       .rd _ _ ?_, fun k hk => hk, fun k hk => ⟨.inr (Nat.le_of_eq hk.symm), by rw [hk, Lib.bytesWorld_size]; omega⟩, fun _ h => h.elim, fun _ _ h => h.elim, fun _ h => h.elim, fun _ h => h.elim, trivial, fun _ h => h.elim, fun _ _ h => h.elim⟩
      have hlen : (bytesV b).length = b.length := by simp [bytesV]
      by_cases hb : b = []
      ·subst hb
       have : y.size = 0 := hsz
       rw [this]
       exact .empty _ _ _ _
      ·have := Rd.sl (w := Lib.bytesWorld w e y) (S := fun k => k = w.heap.size) 1 true (bytesV b) w.heap.size 0 (grownCap w y.size 0 e) (fun i _ => .int .u8 (b.getD i 0).toNat)
        (by rw [hlen]; exact List.length_pos_iff.2 hb) (by rw [hlen, <- hsz]; exact hge) rfl
        (fun x hx => by obtain ⟨u, _, rfl⟩ := List.mem_map.1 hx; rfl) (fun _ x hx cc hcc => by
         obtain ⟨u, _, rfl⟩ := List.mem_map.1 hx
         simp only [V.cells, List.mem_singleton] at hcc
         subst hcc
         trivial)
        (fun i j hi hj => by
         obtain rfl : j = 0 := by omega
         rw [hlen] at hi
         refine ⟨?_, rfl⟩
         have := Lib.bytesWorld_cell w e y i (by rw [hsz]; exact hi)
         rw [hy] at this
         simpa using this)
        (fun i u j cc hu hcc => by
         have hi := (gs_ hu).1
         rw [hlen] at hi
         rw [bytesV, List.getElem?_map, List.getElem?_eq_getElem hi] at hu
         simp only [Option.map_some, sj_] at hu
         subst hu
         cases j with
         | zero =>
          simp only [V.cells, List.getElem?_cons_zero, sj_] at hcc
          subst hcc
          simp only [List.getD, List.getElem?_eq_getElem hi, Option.getD_some]
          exact .int _ _
         | succ j => simp [V.cells] at hcc)
       rw [hlen, <- hsz] at this
       exact this
    ·cases h
   ·cases h
end
end Go.Am
end
section
set_option linter.unusedVariables false
set_option linter.unusedSimpArgs false
namespace Go.Am
open Go Go.RowKit
section
variable {P : Program} {c : Cfg} {J J' : Ctx} {st : St} {a : Act} {w w' : World} {den : Nat -> List V -> Option V} {η : Nat -> Option V} {d : Nat}
theorem takeR_fresh {az : List V} {r : V} {out : Out} (h : takeR d az r = some out) : ∃ v esc n, out = .fresh v esc n := by
 unfold takeR at h
 repeat' split at h
 all_goals first | (cases h; done) | (simp only [sj_] at h; exact ⟨_, _, _, h.symm⟩)
theorem pure_val (hA : Agree P c) (hs : Sim J st a w) {o : Oper} {v : V} (h : valOp c den (ev st.t) (fun b => st.h.getD b none) d o.op = some (.val v)) : PureOk P J a w o v := by
 cases hop : o.op with
 | move x =>
  have e := h; rw [hop] at e; simp only [valOp, plain, sj_, Out.val.injEq] at e; subst e
  exact pure_move hs (.inl hop)
 | assign x =>
  have e := h; rw [hop] at e; simp only [valOp, plain, sj_, Out.val.injEq] at e; subst e
  exact pure_move hs (.inr hop)
 | pick x y z => exact pure_pick hs hop h
 | nilCheck x => exact pure_nilCheck hs hop h
 | unOp u t x => exact pure_unOp hs hop h
 | extract x i => exact pure_extract hs hop h
 | makeFunc fn first cap => exact pure_makeFunc hs hop h
 | convert s t x =>
  rw [hop] at h
  simp only [valOp, plain] at h
  cases hc : convV c s t (ev st.t x) with
  | some u =>
   rw [hc] at h
   simp only [sj_, Out.val.injEq] at h
   subst h
   exact pure_convert hA hs hop hc
  | none =>
   rw [hc] at h
   simp only at h
   cases hb : convB c s t (ev st.t x) with
   | some u =>
    rw [hb] at h
    simp only [sj_, Out.val.injEq] at h
    subst h
    exact pure_bytes hA hs hop hb
   | none =>
    rw [hb] at h
    cases hf : bytesFor c s t (ev st.t x) <;> rw [hf] at h <;> cases h
 | binOp op t x y t' => exact pure_binOp hA hs hop h
 | load t x => exact pure_load hA hs hop h
 | fieldAddr t x f => exact pure_fieldAddr hA hs hop h
 | field t x f => exact pure_field hA hs hop h
 | indexAddr t x y => exact pure_indexAddr hA hs hop h
 | index t x y => exact pure_index hA hs hop h
 | slice t x lo hi mx => exact pure_slice hA hs hop h
 | build t ps => exact pure_build hA hs hop h
 | call cl =>
  obtain ⟨callee, args, ts⟩ := cl
  cases callee with
  | value f =>
   exfalso
   rw [hop] at h
   simp only [valOp] at h
   split at h
   ·split at h
    ·split at h
     ·obtain ⟨_, _, _, e⟩ := takeR_fresh h
      cases e
     ·cases h
    ·cases h
   ·cases h
  | invoke f m => rw [hop] at h; simp only [valOp] at h; cases h
  | builtin bi =>
   cases bi with
   | len => exact pure_len hA hs hop h
   | min => exact pure_min hs hop h
   | max => exact pure_max hs hop h
   | append =>
    exfalso
    rw [hop] at h
    simp only [valOp] at h
    repeat' split at h
    all_goals cases h
   | _ => rw [hop] at h; simp only [valOp] at h; cases h
 | _ =>
  exfalso
  rw [hop] at h
  first
   | (simp only [valOp, plain] at h; cases h; done)
   | (simp only [valOp, plain] at h; (repeat' split at h) <;> cases h)
theorem sound_fresh (hA : Agree P c) (hD : Answers P den) (hs : Sim J st a w) {o : Oper} {v : V} {esc : List Nat} {n : Nat} (h : valOp c den (ev st.t) (fun b => st.h.getD b none) d o.op = some (.fresh v esc n))
  (hd : d < 1000) (hf : n = 0 \/ st.freeD d = true) (hod : o.dst = some d)
  (next : Act -> World -> Prop) (Q : Exit -> Act -> World -> Prop) (hn : ∀ a' w', Sims J ((({ st with t := st.t.set d v } : St).kill esc).mark (!moveOk st.dead esc)) a' w' -> next a' w') : o.wp P a w next Q := by
 have fin : (∃ x w', (execOp a.eval o).run P w = .ok (.value x) w' /\ Sims J ((({ st with t := st.t.set d v } : St).kill esc).mark (!moveOk st.dead esc)) (a.put (some d) x) w') -> o.wp P a w next Q := by
  rintro ⟨x, w', h1, h2⟩
  unfold Oper.wp
  rw [h1, Oper.upon_value, hod]
  exact hn _ _ h2
 cases hop : o.op with
 | buildSlice t m ps => exact fin (sound_buildSlice hA hs hop h hd hf)
 | makeSlice t l k => exact fin (sound_makeSlice hA hs hop h hd hf)
 | convert s t x =>
  rw [hop] at h
  simp only [valOp, plain] at h
  cases hc : convV c s t (ev st.t x) with
  | some u => rw [hc] at h; cases h
  | none =>
   rw [hc] at h
   simp only at h
   cases hb : convB c s t (ev st.t x) with
   | some u => rw [hb] at h; cases h
   | none =>
    rw [hb] at h
    simp only at h
    cases hg : bytesFor c s t (ev st.t x) with
    | none => rw [hg] at h; cases h
    | some u =>
     rw [hg] at h
     simp only [Option.map_some, sj_, Out.fresh.injEq] at h
     obtain ⟨rfl, rfl, rfl⟩ := h
     exact fin (sound_bytes hA hs hop hg hd)
 | call cl =>
  obtain ⟨callee, args, ts⟩ := cl
  cases callee with
  | value f => exact sound_call hD hs hop h hd hf hod next Q hn
  | invoke f m => rw [hop] at h; simp only [valOp] at h; cases h
  | builtin bi =>
   cases bi with
   | append => exact fin (sound_appendNil hA hs hop h hd hf)
   | _ =>
    exfalso
    rw [hop] at h
    simp only [valOp, plain] at h
    first
     | (cases h; done)
     | ((repeat' split at h) <;> cases h)
 | unOp u _ _ =>
  exfalso
  rw [hop] at h
  cases u <;> simp only [valOp, plain] at h <;> first | (cases h; done) | ((repeat' split at h) <;> cases h)
 | makeFunc fn _ _ =>
  exfalso
  rw [hop] at h
  cases fn <;> simp only [valOp, plain] at h <;> first | (cases h; done) | ((repeat' split at h) <;> cases h)
 | slice _ _ _ _ mx =>
  exfalso
  rw [hop] at h
  cases mx <;> simp only [valOp, plain] at h <;> first | (cases h; done) | ((repeat' split at h) <;> cases h)
 | _ =>
  exfalso
  rw [hop] at h
  first
   | (simp only [valOp, plain] at h; cases h; done)
   | (simp only [valOp, plain] at h; (repeat' split at h) <;> cases h)
theorem sound_step (hA : Agree P c) (hD : Answers P den) (hs : Sim J st a w) {o : Oper} {st' : St} (h : step c den st o = some st')
  (next : Act -> World -> Prop) (Q : Exit -> Act -> World -> Prop) (hn : ∀ a' w', Sims J st' a' w' -> next a' w') : o.wp P a w next Q := by
 unfold step at h
 split at h
 ·rename_i he
  cases hop : o.op with
  | store t ad x =>
   obtain ⟨w', h1, h2⟩ := sound_store hA hs hop h
   unfold Oper.wp
   rw [h1, Oper.upon_skip]
   exact hn _ _ h2
  | call cl =>
   obtain ⟨callee, args, ts⟩ := cl
   cases callee with
   | value f => rw [hop] at he; cases he
   | invoke f m => rw [hop] at he; cases he
   | builtin bi =>
    cases bi with
    | append =>
     obtain ⟨x, w', h1, h2⟩ := sound_appendOwn hA hs hop h
     unfold Oper.wp
     rw [h1, Oper.upon_value]
     exact hn _ _ h2
    | _ => rw [hop] at he; cases he
  | _ => rw [hop] at he; cases he
 ·split at h
  ·cases h
  ·rename_i d hod
   split at h
   ·cases h
   ·rename_i v hv
    simp only [sj_] at h
    subst h
    obtain ⟨x, h1, h2⟩ := pure_val hA hs hv
    unfold Oper.wp
    rw [h1, Oper.upon_value, hod]
    exact hn _ _ ⟨J, ⟨rfl, rfl, rfl⟩, hs.put h2⟩
   ·rename_i r hv
    split at h
    ·rename_i hc
     simp only [sj_] at h
     subst h
     obtain ⟨x, w', h1, h2⟩ := sound_box hA hs hv hc.1 hc.2.1 hc.2.2.1 hc.2.2.2
     unfold Oper.wp
     rw [h1, Oper.upon_value, hod]
     exact hn _ _ h2
    ·cases h
   ·rename_i v esc n hv
    split at h
    ·rename_i hc
     simp only [sj_] at h
     subst h
     exact sound_fresh hA hD hs hv hc.1 hc.2.2 hod next Q hn
    ·cases h
end
end Go.Am
end
section
set_option linter.unusedVariables false
set_option linter.unusedSimpArgs false
namespace Go.Am
open Go Go.RowKit
def KeptBut (p : Nat -> Prop) (w w' : World) : Prop := w'.os = w.os /\ w'.tape = w.tape /\ w'.output = w.output /\ w.heap.size <= w'.heap.size /\ ∀ k, k < w.heap.size -> ¬ p k -> w'.heap[k]? = w.heap[k]?
def WrFn (P : Program) (f : Nat) (g : Wr) : Prop :=
 (∃ fn, P.funcs[f]? = some fn /\ fn.body.isNone = false /\ (fn.name == "runtime.NumGoroutine") = false) /\
 ∀ xs ys n, g.g xs = some (ys, n) -> ys.length = xs.length /\ n <= xs.length /\ (∀ x ∈ ys, ∀ c ∈ x.cells, noSl c) /\
  (xs = [] -> ∀ w, globOk w -> Calls P f #[.slice none 0 0] w fun e w' => e = .returned (match g.v with
   | true => .slice none 0 0
   | false => .tuple #[]) /\ KeptBut (fun _ => False) w w') /\
  ∀ (w : World) (b o cap : Nat) (cur : Array Value) (ty : TypeId), globOk w -> globN <= b -> w.heap[b]? = some (.cells cur ty (0, 0)) -> xs.length <= cap -> cap <= maxLen -> o + cap * g.s <= cur.size -> Rows w (fun _ => False) g.s xs b o -> (∀ x ∈ xs, ∀ c ∈ x.cells, noSl c) ->
   Calls P f #[.slice (some ⟨b, o, none⟩) xs.length cap] w fun e w' => e = .returned (match g.v with
    | true => .slice (some ⟨b, o, none⟩) n cap
    | false => .tuple #[]) /\ KeptBut (fun k => k = b) w w' /\ (∃ cur' ty', w'.heap[b]? = some (.cells cur' ty' (0, 0)) /\ cur'.size = cur.size) /\ Rows w' (fun _ => False) g.s ys b o
def WrOk (P : Program) (c : Cfg) : Prop := ∀ f g, c.wr f = some g -> WrFn P f g
section
variable {P : Program} {c : Cfg} {J J' : Ctx} {st : St} {a : Act} {w w' : World} {den : Nat -> List V -> Option V} {η : Nat -> Option V} {d : Nat}
theorem Rows.plain {S S' : Nat -> Prop} {s : Nat} {xs : List V} {k o : Nat} (h : Rows w S s xs k o) (hn : ∀ x ∈ xs, ∀ c ∈ x.cells, noSl c) : Rows w S' s xs k o := by
 obtain ⟨h1, g, h2, h3⟩ := h
 exact ⟨h1, g, h2, fun i x j c hx hc => noSl_rd (h3 i x j c hx hc) (hn x (mem_of_get hx) c (mem_of_get hc))⟩
theorem Rows.take {S : Nat -> Prop} {s : Nat} {xs : List V} {k o : Nat} (n : Nat) (h : Rows w S s xs k o) : Rows w S s (xs.take n) k o := by
 obtain ⟨h1, g, h2, h3⟩ := h
 refine ⟨fun x hx => h1 x (List.mem_of_mem_take hx), g, fun i j hi hj => h2 i j (by rw [List.length_take] at hi; omega) hj, fun i x j c hx hc => ?_⟩
 rw [List.getElem?_take] at hx
 split at hx
 ·exact h3 i x j c hx hc
 ·cases hx
theorem Sim.renewed (hs : Sim J st a w) {b : Nat} {ys : List V} {cur cur' : Array Value} {ty ty' : TypeId} (hb : J.has b) (hdead : st.dead b = false) (hk : KeptBut (fun k => k = J.blk b) w w')
  (hcur : w.heap[J.blk b]? = some (.cells cur ty (0, 0))) (hcur' : w'.heap[J.blk b]? = some (.cells cur' ty' (0, 0))) (hsz : cur'.size = cur.size)
  (hrows : Rows w' (fun _ => False) (J.sz b) ys (J.blk b) (J.off b)) (hfl : ∀ x ∈ ys, ∀ c ∈ x.cells, noSl c) (hlen : ys.length = J.ln b) : Sim J (st.sweep (renew b .flat ys)) a w' := by
 have g := hs.good
 obtain ⟨k1, k2, k3, k4, k5⟩ := hk
 have hS : ¬ J.S (J.blk b) := hs.nds b hb hdead
 have hgood : Good J w' := by
  refine ⟨k1.trans g.os, k2.trans g.tape, k3.trans g.output, Nat.le_trans g.size k4, fun k hk hF => ?_, g.new, fun k hk => Nat.lt_of_lt_of_le (g.slt k hk) k4, fun b' hb' => ?_, g.baseInj, fun d hd => ?_, g.boxInj, g.baseBox, g.sr, g.gl, g.bz, fun k hk => ?_, g.ns, g.h9⟩
  ·rw [k5 k (Nat.lt_of_lt_of_le hk g.size) (fun e => hF (by rw [e]; exact (g.base b hb).1))]
   exact g.old k hk hF
  ·obtain ⟨b1, b2, b3, cu, e, b4, b5⟩ := g.base b' hb'
   refine ⟨b1, Nat.lt_of_lt_of_le b2 k4, b3, ?_⟩
   by_cases hbb : J.blk b' = J.blk b
   ·rw [hbb] at b4 ⊢
    rw [hcur] at b4
    injection b4 with b4
    injection b4 with b4 b6
    subst b4
    exact ⟨cur', ty', hcur', by rw [hsz]; exact b5⟩
   ·exact ⟨cu, e, (k5 _ b2 hbb).trans b4, b5⟩
  ·obtain ⟨b1, b2, b3⟩ := g.box d hd
   exact ⟨b1, b2, Nat.lt_of_lt_of_le b3 k4⟩
  ·obtain ⟨z1, z2, cu, e, z3⟩ := g.zf k hk
   refine ⟨z1, Nat.lt_of_lt_of_le z2 k4, ?_⟩
   by_cases hkk : k = J.blk b
   ·subst hkk
    exact ⟨cur', ty', hcur'⟩
   ·exact ⟨cu, e, (k5 k z2 hkk).trans z3⟩
 have keep : ∀ {u : V} {y : Value}, VR J w u y -> u.anyB (fun b' => b' == b) = false -> VR J w' u y := fun {u y} hu hp => by
  refine VR.mono (J := J) (J' := J) (w := w) (w' := w') (p := fun b' => b' == b) (r := fun _ => false) (fun h => h) (fun _ h => h) (fun _ h => h) (fun k hk => cell?_of_heap (k5 k (g.slt k hk) (fun e => hS (e ▸ hk))))
   (fun b' hb' => ⟨Iff.rfl, fun hh => ⟨rfl, rfl, rfl, rfl, rfl, fun _ h => h, cell?_of_heap (k5 _ (g.base b' hh).2.1 (fun e => ?_))⟩⟩) (fun _ _ => ⟨fun h => h, rfl⟩) hu hp (anyP_false _)
  have := g.baseInj b' b hh hb e
  subst this
  simp at hb'
 have hflat : flatOk .flat ys := fun _ => hfl
 have hcap : ∀ {xs : List V}, xs.length <= J.cap b /\ xs.length = J.ln b -> ys.length <= J.cap b /\ ys.length = J.ln b := fun h => ⟨by omega, hlen⟩
 refine Sim.sweep (f := renew b .flat ys) (dead := st.dead) (dup := st.dup) hs ?_ (renew_one b _ ys) hgood (fun _ h => h) (fun _ => rfl) (fun k' hk' => k5 _ (g.box k' hk').2.2 (fun e => g.baseBox b k' hb hk' e.symm)) hs.nds hs.du hs.nd
 intro u y hleaf hu
 cases u with
 | own b' s' q' zs =>
  simp only [renew]
  split
  ·rename_i hbb
   subst hbb
   simp only [Option.getD_some]
   rcases hu.own_inv with ⟨_, _, h3⟩ | ⟨h1, _, h3, h4, _⟩
   ·exact absurd hb h3
   ·have hzl : zs.length = ys.length := by rw [hlen, h4.2]
    have := VR.own (J := J) (w := w') b' s' .flat ys hb h3 (hcap h4) (by rw [h3]; exact hrows.plain hfl) hflat (fun h => by cases h)
    rw [h1, hzl]
    exact this
  ·rename_i hbb
   exact keep hu (by simpa [V.anyB] using hbb)
 | view b' s' q' zs =>
  simp only [renew]
  split
  ·exact VR.undef_ _
  ·rename_i hbb
   exact keep hu (by simpa [V.anyB] using hbb)
 | eptr b' s' q' zs i' o' =>
  simp only [renew]
  split
  ·exact VR.undef_ _
  ·rename_i hbb
   exact keep hu (by simpa [V.anyB] using hbb)
 | vptr b' z o' =>
  simp only [renew]
  split
  ·exact VR.undef_ _
  ·rename_i hbb
   exact keep hu (by simpa [V.anyB] using hbb)
 | agg _ => cases hleaf
 | tup _ => cases hleaf
 | clo _ _ => cases hleaf
 | _ => exact keep hu rfl
theorem Sim.renewed0 (hs : Sim J st a w) {b : Nat} (hb : ¬ J.has b) (hk : KeptBut (fun _ => False) w w') : Sim J (st.sweep (renew b .flat [])) a w' := by
 have g := hs.good
 obtain ⟨k1, k2, k3, k4, k5⟩ := hk
 have hold : ∀ k, k < w.heap.size -> w'.heap[k]? = w.heap[k]? := fun k hk => k5 k hk (fun h => h)
 have hgood : Good J w' := by
  refine ⟨k1.trans g.os, k2.trans g.tape, k3.trans g.output, Nat.le_trans g.size k4, fun k hk hF => ?_, g.new, fun k hk => Nat.lt_of_lt_of_le (g.slt k hk) k4, fun b' hb' => ?_, g.baseInj, fun d hd => ?_, g.boxInj, g.baseBox, g.sr, g.gl, g.bz, fun k hk => ?_, g.ns, g.h9⟩
  ·rw [hold k (Nat.lt_of_lt_of_le hk g.size)]
   exact g.old k hk hF
  ·obtain ⟨b1, b2, b3, cu, e, b4, b5⟩ := g.base b' hb'
   exact ⟨b1, Nat.lt_of_lt_of_le b2 k4, b3, cu, e, (hold _ b2).trans b4, b5⟩
  ·obtain ⟨b1, b2, b3⟩ := g.box d hd
   exact ⟨b1, b2, Nat.lt_of_lt_of_le b3 k4⟩
  ·obtain ⟨z1, z2, cu, e, z3⟩ := g.zf k hk
   exact ⟨z1, Nat.lt_of_lt_of_le z2 k4, cu, e, (hold k z2).trans z3⟩
 have keep : ∀ {u : V} {y : Value}, VR J w u y -> VR J w' u y := fun {u y} hu => by
  have hu0 : u.anyB (fun _ => false) = false := anyB_false _
  exact VR.mono (J := J) (J' := J) (w := w) (w' := w') (p := fun _ => false) (r := fun _ => false) (fun h => h) (fun _ h => h) (fun _ h => h) (fun k hk => cell?_of_heap (hold k (g.slt k hk)))
   (fun b' hb' => ⟨Iff.rfl, fun hh => ⟨rfl, rfl, rfl, rfl, rfl, fun _ h => h, cell?_of_heap (hold _ (g.base b' hh).2.1)⟩⟩) (fun _ _ => ⟨fun h => h, rfl⟩) hu hu0 (anyP_false _)
 refine Sim.sweep (f := renew b .flat []) (dead := st.dead) (dup := st.dup) hs ?_ (renew_one b _ []) hgood (fun _ h => h) (fun _ => rfl) (fun k' hk' => hold _ (g.box k' hk').2.2) hs.nds hs.du hs.nd
 intro u y hleaf hu
 cases u with
 | own b' s' q' zs =>
  simp only [renew]
  split
  ·rename_i hbb
   subst hbb
   simp only [Option.getD_some]
   rcases hu.own_inv with ⟨h1, _, _⟩ | ⟨_, h2, _⟩
   ·rw [h1]
    exact .ownNil _ _ _ hb
   ·exact absurd h2 hb
  ·exact keep hu
 | view b' s' q' zs =>
  simp only [renew]
  split
  ·exact VR.undef_ _
  ·exact keep hu
 | eptr b' s' q' zs i' o' =>
  simp only [renew]
  split
  ·exact VR.undef_ _
  ·exact keep hu
 | vptr b' z o' =>
  simp only [renew]
  split
  ·exact VR.undef_ _
  ·exact keep hu
 | agg _ => cases hleaf
 | tup _ => cases hleaf
 | clo _ _ => cases hleaf
 | _ => exact keep hu
theorem sound_wr (hW : WrOk P c) (hs : Sim J st a w) {o : Oper} {g : Wr} {x : Operand} {st' : St} (ho : wrOf c o.op = some (g, x)) (h : wrStep st o.dst g x = some st')
  (next : Act -> World -> Prop) (Q : Exit -> Act -> World -> Prop) (hn : ∀ a' w', Sims J st' a' w' -> next a' w') : o.wp P a w next Q := by
 unfold wrOf at ho
 split at ho
 ·rename_i f args ts hop
  split at ho
  ·rename_i g' x' hg hargs
   simp only [sj_, Prod.mk.injEq] at ho
   obtain ⟨rfl, rfl⟩ := ho
   have hargs : args = #[x'] := by
    obtain ⟨l⟩ := args
    simp only at hargs
    rw [hargs]
   subst hargs
   obtain ⟨⟨fn, hfn, hbody, hname⟩, hcon⟩ := hW f g' hg
   have ef : a.eval (.func f) = .func (.func f) #[] #[] := by
    obtain ⟨cv, ef, hcl, _⟩ := (show VR J w (.clo f []) (a.eval (.func f)) from hs.ev (.func f)).clo_inv
    rw [ef]
    congr 1
    exact Array.eq_empty_of_size_eq_zero (by simpa using hcl.symm)
   have hexec : (execOp a.eval o).run P w = .ok (.enter f #[a.eval x']) w := by
    simp [execOp, hop, ef, resolve, Deferred.ofValue, invoke, callFunc, hfn, hbody]
    have : ¬ fn.name = "runtime.NumGoroutine" := by simpa using hname
    simp [this]
    intro hb
    simp [hb] at hbody
   unfold Oper.wp
   rw [hexec, Oper.upon_enter]
   unfold wrStep at h
   split at h
   ·rename_i b s q xs d hx hd
    split at h
    ·rename_i hc
     obtain ⟨hdead, hb9, rfl, rfl⟩ := hc
     split at h
     ·rename_i ys n hg2
      simp only [sj_] at h
      subst h
      obtain ⟨hyl, hnl, hfl, hnil, hown⟩ := hcon xs ys n hg2
      have hv := hs.ev x'
      rw [hx] at hv
      have hfx : ∀ z, VR J w (.own b g'.s .flat xs) z -> ∀ x ∈ xs, ∀ c ∈ x.cells, noSl c := fun z hz => by
       cases hz with
       | rd _ _ h => cases h
       | ownNil _ _ _ _ => intro x hx; cases hx
       | own _ _ _ _ _ _ _ _ hq _ => exact hq rfl
      have hfx := hfx _ hv
      rcases hv.own_inv with ⟨h1, h2, h3⟩ | ⟨h1, hb, h3, h4, h5, h6⟩
      ·subst h2
       have hy0 : ys = [] := List.length_eq_zero_iff.1 (by simpa using hyl)
       subst hy0
       rw [h1]
       refine Calls.mono (hnil rfl w hs.good.glob) (fun e w' he => ?_)
       obtain ⟨rfl, hk⟩ := he
       refine hn _ _ ⟨J, ⟨rfl, rfl, rfl⟩, ?_⟩
       rw [hd]
       refine (hs.renewed0 h3 hk).put ?_
       cases g'.v with
       | true =>
        show VR J w' (.view b g'.s .flat (([] : List V).take n)) (.slice none 0 0)
        rw [List.take_nil]
        exact .view0 _ _ _ _ _
       | false => exact .tup [] #[] rfl (fun i c v h => by simp at h)
      ·obtain ⟨b1, b2, b3, cur, ty, b4, b5⟩ := hs.good.base b hb
       rw [h1]
       refine Calls.mono (hown w (J.blk b) (J.off b) (J.cap b) cur ty hs.good.glob (hs.good.gl.2 _ b1) b4 h4.1 b3 (by rw [h3]; exact b5) (h5.plain hfx) hfx) (fun e w' he => ?_)
       obtain ⟨rfl, hk, ⟨cur', ty', hc1, hc2⟩, hrows⟩ := he
       refine hn _ _ ⟨J, ⟨rfl, rfl, rfl⟩, ?_⟩
       rw [hd]
       refine (hs.renewed hb hdead hk b4 hc1 hc2 (by rw [<- h3]; exact hrows) hfl (hyl.trans h4.2)).put ?_
       cases g'.v with
       | false => exact .tup [] #[] rfl (fun i c v h => by simp at h)
       | true =>
        have htl : (ys.take n).length = n := by rw [List.length_take]; omega
        rcases Nat.eq_zero_or_pos n with h0 | h0
        ·subst h0
         exact .view0 _ _ _ _ _
        ·have := VR.view (J := J) (w := w') b g'.s .flat (ys.take n) (J.off b) (J.cap b) hb (by omega) (by omega) (by rw [h3]; exact Nat.le_refl _) (Rows.take n (hrows.plain hfl)) (fun _ x hx => hfl x (List.mem_of_mem_take hx)) (fun h => by cases h)
         rw [htl] at this
         exact this
     ·cases h
    ·cases h
   ·cases h
  ·cases ho
 ·cases ho
end
end Go.Am
end
