/-
  Laws that mark: their operations.
-/
import Derived.Test.YtgfiinkdogbelaatAmGrow
section
set_option linter.unusedVariables false
set_option linter.unusedSimpArgs false
namespace Go.Am
open Go Go.RowKit
inductive LV where
  | un
  | kb (b : Bool)
  | ki (n : Int)
  | zi (i : Nat)
  | lt0 (i : Nat)
  | gt (i : Nat) (m : Int)
  | ct (l : List Nat)
  | v (j : Nat)
  | bx (j : Nat)
  | fb (t : Nat)
  | tp (js : List Nat)
  deriving DecidableEq
def lget : List (Nat × LV) → Nat → LV
 | [], _ => .un
 | (d, v) :: r, t => if d = t then v else lget r t
inductive LC where
  | sz (f j : Nat) (a : LV) (i : Nat)
  | len (j i : Nat) (str : Bool)
  | low (i : Nat)
  | big (i : Nat) (m : Int)
  | mk (f : Nat) (js : List Nat) (sh : Bool) (i : Nat)
  | mks (f : Nat) (js : List Nat) (sh : Bool) (ts : List Bool) (i : Nat)
  | tt (f : Nat) (js : List Nat)
  | mark (f j : Nat) (l : List Nat)
  | held (f j : Nat) (l : List Nat)
  | same (i j k : Nat)
  deriving DecidableEq
inductive LT where
  | ar
  | sh
  | nw
  | tr
  | mk (l : List Nat)
  | dd
  deriving DecidableEq
structure LE where
  grp : Nat
  st : LT
def LT.reads : LT → Bool
 | .ar => true
 | .sh => true
 | .nw => true
 | _ => false
def LT.whole : LT → Bool
 | .nw => true
 | .tr => true
 | _ => false
structure LX where
  P : Program
  D : Nat → List V → Option V
  mt : Nat → List UInt8
  Vh : Nat → V
  Vo : Nat → V
  nn : Nat → Nat
  shp : Nat → Shp
  ag : List (Option Nat)
  Z : Nat → Int
  R : Nat → Prop
  w0 : World
def LX.ctv (X : LX) (l : List Nat) : Nat := 1 + (l.map X.nn).sum
structure LM where
  x : Value
  lo : Nat
  hi : Nat
  T : Nat → Prop
def nofr (fr : Option (Nat × Nat)) (k : Nat) : Prop := ∀ b ty, fr = some (b, ty) → k ≠ b
def LX.stIs (X : LX) (fr : Option (Nat × Nat)) (w : World) (j : Nat) (t : LM) : LT → Prop
 | .ar => Rd w X.R (X.Vh j) t.x
 | .sh => Rd w (fun k => k < t.hi ∧ nofr fr k) (X.Vh j) t.x
 | .nw => Rd w (fun k => t.lo ≤ k ∧ k < t.hi) (X.Vh j) t.x ∧ (X.shp j).tree X.mt false w t.x 0 (X.nn j) t.T
 | .tr => (X.shp j).tree X.mt false w t.x 0 (X.nn j) t.T
 | .mk l => (X.shp j).tree X.mt true w t.x (X.ctv l) (X.nn j) t.T
 | .dd => True
structure LX.Ent (X : LX) (fr : Option (Nat × Nat)) (w : World) (j : Nat) (e : LE) (t : LM) : Prop where
  agx : ∀ n, X.ag[j]? = some (some n) → ∃ vs : Array Value, t.x = .agg vs ∧ vs.size = n ∧ ∀ u ∈ vs.toList, u.oneCell' = true
  hi : t.hi ≤ w.heap.size
  low : ∀ b, t.T b → X.w0.heap.size ≤ t.lo ∧ t.lo ≤ b ∧ b < t.hi
  st : X.stIs fr w j t e.st
  sh : e.st ≠ .ar → X.w0.heap.size ≤ t.lo
structure LX.Inv (X : LX) (tb : List LE) (tv : List LM) (bl : List (Nat × Nat)) (fr : Option (Nat × Nat)) (w : World) : Prop where
  R : ∀ k, X.R k → k < X.w0.heap.size
  g0 : globOk X.w0
  base : Mod (fun k => X.w0.heap.size ≤ k) X.w0 w
  len : tv.length = tb.length
  ent : ∀ (j : Nat) (e : LE) (t : LM), tb[j]? = some e → tv[j]? = some t → X.Ent fr w j e t
  ord : ∀ (i j : Nat) (ei ej : LE) (ti tj : LM), tb[i]? = some ei → tb[j]? = some ej → tv[i]? = some ti → tv[j]? = some tj → ei.grp < ej.grp → ti.hi ≤ tj.lo
  dis : ∀ (i j : Nat) (ei ej : LE) (ti tj : LM), tb[i]? = some ei → tb[j]? = some ej → tv[i]? = some ti → tv[j]? = some tj → ei.grp = ej.grp → i ≠ j → ∀ b, ti.T b → tj.T b → False
  grp : ∀ e ∈ tb, e.grp ≤ tb.length
  boxes : ∀ p ∈ bl, ∃ (t : LM) (cs : Array Value) (bt : TypeId), tv[p.2]? = some t ∧ t.x = .agg cs ∧ w.heap[p.1]? = some (.cells cs bt (0, 0)) ∧ X.w0.heap.size ≤ p.1 ∧ ∀ t ∈ tv, p.1 < t.lo ∨ t.hi ≤ p.1
  fresh : ∀ b ty, fr = some (b, ty) → ∃ (cur : Array Value) (bt : TypeId) (ti : TypeInfo), w.heap[b]? = some (.cells cur bt (0, 0)) ∧ X.P.info? ty = some ti ∧ cur.size = ti.size ∧ X.w0.heap.size ≤ b ∧ (∀ t ∈ tv, b < t.lo ∨ t.hi ≤ b) ∧ ∀ p ∈ bl, p.1 ≠ b
section
variable {X : LX} {tb : List LE} {tv : List LM} {bl : List (Nat × Nat)} {fr : Option (Nat × Nat)} {w w' : World} {j : Nat} {e : LE} {t : LM}
theorem Shp.tree_mono {s : Shp} {mt : Nat → List UInt8} {mk : Bool} {x : Value} {k0 n : Nat} {T : Nat → Prop} (h : s.tree mt mk w x k0 n T) (hw : ∀ b, T b → w'.heap[b]? = w.heap[b]?) : s.tree mt mk w' x k0 n T := by
 cases s with
 | s ks => exact MT.mono h hw
 | a sz fs => obtain ⟨cs, h1, h2, h3⟩ := h; exact ⟨cs, h1, h2, h3.mono hw⟩
theorem LX.Inv.size (h : X.Inv tb tv bl fr w) : X.w0.heap.size ≤ w.heap.size := h.base.size
theorem LX.Inv.glob (h : X.Inv tb tv bl fr w) : globOk w := h.base.glob (fun k hk => Nat.le_trans h.g0.2 hk) h.g0
theorem cell_heap {w w' : World} {k o : Nat} (h : w'.heap[k]? = w.heap[k]?) : w'.cell? ⟨k, o, none⟩ = w.cell? ⟨k, o, none⟩ := by simp only [World.cell?, h]
theorem LX.Inv.grow (h : X.Inv tb tv bl fr w) (hk : Kept w w') : X.Inv tb tv bl fr w' := by
 have hold : ∀ b, b < w.heap.size → w'.heap[b]? = w.heap[b]? := hk.2.2.2.2
 have hs := h.size
 refine ⟨h.R, h.g0, h.base.trans (Mod.of_kept hk), h.len, fun j e t h1 h2 => ?_, h.ord, h.dis, h.grp, fun p hp => ?_, fun b ty hb => ?_⟩
 ·obtain ⟨a1, a2, a3, a4, a5⟩ := h.ent j e t h1 h2
  have hT : ∀ b, t.T b → w'.heap[b]? = w.heap[b]? := fun b hb => hold b (Nat.lt_of_lt_of_le (a3 b hb).2.2 a2)
  refine ⟨a1, Nat.le_trans a2 hk.2.2.2.1, a3, ?_, a5⟩
  cases hst : e.st with
  | ar => rw [hst] at a4; exact a4.mono (fun _ h => h) (fun k hk' _ => cell_heap (hold k (Nat.lt_of_lt_of_le (h.R k hk') hs)))
  | sh => rw [hst] at a4; exact a4.mono (fun _ h => h) (fun k hk' _ => cell_heap (hold k (Nat.lt_of_lt_of_le hk'.1 a2)))
  | nw => rw [hst] at a4; exact ⟨a4.1.mono (fun _ h => h) (fun k hk' _ => cell_heap (hold k (Nat.lt_of_lt_of_le hk'.2 a2))), Shp.tree_mono a4.2 hT⟩
  | tr => rw [hst] at a4; exact Shp.tree_mono a4 hT
  | mk l => rw [hst] at a4; exact Shp.tree_mono a4 hT
  | dd => exact trivial
 ·obtain ⟨t, cs, bt, b1, b2, b3, b4, b5⟩ := h.boxes p hp
  exact ⟨t, cs, bt, b1, b2, (hold _ (blk_lt b3)).trans b3, b4, b5⟩
 ·obtain ⟨cur, bt, ti, b1, b2, b3, b4, b5, b6⟩ := h.fresh b ty hb
  exact ⟨cur, bt, ti, (hold _ (blk_lt b1)).trans b1, b2, b3, b4, b5, b6⟩
theorem LX.Inv.tdis (h : X.Inv tb tv bl fr w) {i j : Nat} {ei ej : LE} {ti tj : LM} (h1 : tb[i]? = some ei) (h2 : tb[j]? = some ej) (h3 : tv[i]? = some ti) (h4 : tv[j]? = some tj) (hne : i ≠ j) {b : Nat} (hb : ti.T b) (hb' : tj.T b) : False := by
 have a := (h.ent i ei ti h1 h3).low b hb
 have a' := (h.ent j ej tj h2 h4).low b hb'
 rcases Nat.lt_trichotomy ei.grp ej.grp with hg | hg | hg
 ·have := h.ord i j ei ej ti tj h1 h2 h3 h4 hg; omega
 ·exact h.dis i j ei ej ti tj h1 h2 h3 h4 hg hne b hb hb'
 ·have := h.ord j i ej ei tj ti h2 h1 h4 h3 hg; omega
theorem LX.Inv.rd (h : X.Inv tb tv bl fr w) (h1 : tb[j]? = some e) (h2 : tv[j]? = some t) (hr : e.st.reads = true) : Rd w (fun k => k < w.heap.size ∧ nofr fr k) (X.Vh j) t.x := by
 obtain ⟨a1, a2, a3, a4, a5⟩ := h.ent j e t h1 h2
 have hs := h.size
 cases hst : e.st with
 | ar =>
  rw [hst] at a4
  refine Rd.mono (fun k hk => ⟨Nat.lt_of_lt_of_le (h.R k hk) hs, fun b ty hb => ?_⟩) (fun _ _ _ => rfl) a4
  obtain ⟨_, _, _, _, _, _, b4, _⟩ := h.fresh b ty hb
  have := h.R k hk
  omega
 | sh => rw [hst] at a4; exact Rd.mono (fun k hk => ⟨Nat.lt_of_lt_of_le hk.1 a2, hk.2⟩) (fun _ _ _ => rfl) a4
 | nw =>
  rw [hst] at a4
  refine Rd.mono (fun k hk => ⟨Nat.lt_of_lt_of_le hk.2 a2, fun b ty hb => ?_⟩) (fun _ _ _ => rfl) a4.1
  obtain ⟨_, _, _, _, _, _, _, b5, _⟩ := h.fresh b ty hb
  have := b5 t (List.mem_of_getElem? h2)
  have hk1 : t.lo ≤ k := hk.1
  have hk2 : k < t.hi := hk.2
  omega
 | _ => rw [hst] at hr; cases hr
theorem LX.Inv.more (h : X.Inv tb tv bl fr w) (hk : Kept w w') (es : List LE) (ts : List LM) (hl : ts.length = es.length) (hlo : ∀ t ∈ ts, t.lo = w.heap.size ∧ t.hi = w'.heap.size) (hg : ∀ e ∈ es, e.grp = tb.length + 1)
  (hent : ∀ (i : Nat) (e : LE) (t : LM), es[i]? = some e → ts[i]? = some t → X.Ent fr w' (tb.length + i) e t)
  (hdis : ∀ (i i' : Nat) (t t' : LM), ts[i]? = some t → ts[i']? = some t' → i ≠ i' → ∀ b, t.T b → t'.T b → False) : X.Inv (tb ++ es) (tv ++ ts) bl fr w' := by
 have h' := h.grow hk
 have sp : ∀ (i : Nat) (e : LE) (t : LM), (tb ++ es)[i]? = some e → (tv ++ ts)[i]? = some t → (tb[i]? = some e ∧ tv[i]? = some t) ∨ ∃ p, i = tb.length + p ∧ es[p]? = some e ∧ ts[p]? = some t := by
  intro i e t h1 h2
  rcases Nat.lt_or_ge i tb.length with hi | hi
  ·rw [List.getElem?_append_left hi] at h1
   rw [List.getElem?_append_left (by rw [h.len]; exact hi)] at h2
   exact .inl ⟨h1, h2⟩
  ·rw [List.getElem?_append_right hi] at h1
   rw [List.getElem?_append_right (by rw [h.len]; exact hi), h.len] at h2
   exact .inr ⟨i - tb.length, by omega, h1, h2⟩
 refine ⟨h.R, h.g0, h'.base, by rw [List.length_append, List.length_append, h.len, hl], fun i e t h1 h2 => ?_, fun i j ei ej ti tj h1 h2 h3 h4 hlt => ?_, fun i j ei ej ti tj h1 h2 h3 h4 heq hne b hb hb' => ?_, fun e he => ?_, fun p hp => ?_, fun b ty hb => ?_⟩
 ·rcases sp i e t h1 h2 with ⟨h1, h2⟩ | ⟨p, rfl, h1, h2⟩
  ·exact h'.ent i e t h1 h2
  ·exact hent p e t h1 h2
 ·rcases sp i ei ti h1 h3 with ⟨h1, h3⟩ | ⟨p, rfl, h1, h3⟩
  ·rcases sp j ej tj h2 h4 with ⟨h2, h4⟩ | ⟨q, rfl, h2, h4⟩
   ·exact h.ord i j ei ej ti tj h1 h2 h3 h4 hlt
   ·rw [(hlo tj (List.mem_of_getElem? h4)).1]
    exact (h.ent i ei ti h1 h3).hi
  ·rcases sp j ej tj h2 h4 with ⟨h2, h4⟩ | ⟨q, rfl, h2, h4⟩
   ·have a1 := h.grp ej (List.mem_of_getElem? h2)
    have a2 := hg ei (List.mem_of_getElem? h1)
    omega
   ·have a1 := hg ej (List.mem_of_getElem? h2)
    have a2 := hg ei (List.mem_of_getElem? h1)
    omega
 ·rcases sp i ei ti h1 h3 with ⟨h1, h3⟩ | ⟨p, rfl, h1, h3⟩
  ·rcases sp j ej tj h2 h4 with ⟨h2, h4⟩ | ⟨q, rfl, h2, h4⟩
   ·exact h.dis i j ei ej ti tj h1 h2 h3 h4 heq hne b hb hb'
   ·have a1 := h.grp ei (List.mem_of_getElem? h1)
    have a2 := hg ej (List.mem_of_getElem? h2)
    omega
  ·rcases sp j ej tj h2 h4 with ⟨h2, h4⟩ | ⟨q, rfl, h2, h4⟩
   ·have a1 := h.grp ej (List.mem_of_getElem? h2)
    have a2 := hg ei (List.mem_of_getElem? h1)
    omega
   ·exact hdis p q ti tj h3 h4 (by omega) b hb hb'
 ·rw [List.length_append]
  rcases List.mem_append.1 he with he | he
  ·have := h.grp e he; omega
  ·have := hg e he
   have : 0 < es.length := List.length_pos_of_mem he
   omega
 ·obtain ⟨t, cs, bt, b1, b2, b3, b4, b5⟩ := h'.boxes p hp
  refine ⟨t, cs, bt, by rw [List.getElem?_append_left (List.getElem?_eq_some_iff.1 b1).1]; exact b1, b2, b3, b4, fun t ht => ?_⟩
  rcases List.mem_append.1 ht with ht | ht
  ·exact b5 t ht
  ·obtain ⟨_, _, _, _, _, c3, _⟩ := h.boxes p hp
   rw [(hlo t ht).1]
   exact .inl (blk_lt c3)
 ·obtain ⟨cur, bt, ti, b1, b2, b3, b4, b5, b6⟩ := h'.fresh b ty hb
  refine ⟨cur, bt, ti, b1, b2, b3, b4, fun t ht => ?_, b6⟩
  rcases List.mem_append.1 ht with ht | ht
  ·exact b5 t ht
  ·obtain ⟨_, _, _, c1, _⟩ := h.fresh b ty hb
   rw [(hlo t ht).1]
   exact .inl (blk_lt c1)
def markTb (tb : List LE) (j g : Nat) (l : List Nat) : List LE := tb.mapIdx fun i e => if i = j then ⟨e.grp, .mk l⟩ else match e.st with
 | .sh => if e.grp < g then e else ⟨e.grp, .dd⟩
 | .nw => if e.grp = g then ⟨e.grp, .tr⟩ else e
 | _ => e
theorem markTb_get {g : Nat} {l : List Nat} {i : Nat} {e' : LE} (h : (markTb tb j g l)[i]? = some e') : ∃ e, tb[i]? = some e ∧ e'.grp = e.grp ∧ (i = j → e'.st = .mk l) ∧ (i ≠ j → e'.st = match e.st with
 | .sh => if e.grp < g then .sh else .dd
 | .nw => if e.grp = g then .tr else .nw
 | s => s) := by
 rw [markTb, List.getElem?_mapIdx] at h
 cases hi : tb[i]? with
 | none => rw [hi] at h; cases h
 | some e =>
  rw [hi] at h
  simp only [Option.map_some, Option.some.injEq] at h
  refine ⟨e, rfl, ?_⟩
  by_cases hij : i = j
  ·rw [if_pos hij] at h
   subst h
   exact ⟨rfl, fun _ => rfl, fun hn => absurd hij hn⟩
  ·rw [if_neg hij] at h
   cases hst : e.st with
   | sh =>
    rw [hst] at h
    by_cases hc : e.grp < g
    ·simp only [if_pos hc] at h ⊢
     subst h
     exact ⟨rfl, fun hn => absurd hn hij, fun _ => hst⟩
    ·simp only [if_neg hc] at h ⊢
     subst h
     exact ⟨rfl, fun hn => absurd hn hij, fun _ => rfl⟩
   | nw =>
    rw [hst] at h
    by_cases hc : e.grp = g
    ·simp only [if_pos hc] at h ⊢
     subst h
     exact ⟨rfl, fun hn => absurd hn hij, fun _ => rfl⟩
    ·simp only [if_neg hc] at h ⊢
     subst h
     exact ⟨rfl, fun hn => absurd hn hij, fun _ => hst⟩
   | _ =>
    rw [hst] at h
    simp only at h
    subst h
    exact ⟨rfl, fun hn => absurd hn hij, fun _ => hst⟩
theorem LX.Inv.marked (h : X.Inv tb tv bl fr w) {l : List Nat} (h1 : tb[j]? = some e) (h2 : tv[j]? = some t) (hm : Mod t.T w w') (ht : (X.shp j).tree X.mt true w' t.x (X.ctv l) (X.nn j) t.T) (hw : e.st.whole = true) : X.Inv (markTb tb j e.grp l) tv bl fr w' := by
 have hj := h.ent j e t h1 h2
 have hs := h.size
 have hlow : X.w0.heap.size ≤ t.lo := hj.sh (fun e => by rw [e] at hw; cases hw)
 refine ⟨h.R, h.g0, h.base.trans (hm.mono (fun b hb => Nat.le_trans hlow (hj.low b hb).2.1)), by rw [markTb, List.length_mapIdx]; exact h.len, fun i e' ti g1 g2 => ?_, fun i i' ei ei' ti ti' g1 g2 g3 g4 hlt => ?_, fun i i' ei ei' ti ti' g1 g2 g3 g4 heq hne b hb hb' => ?_, fun e' he' => ?_, fun p hp => ?_, fun b ty hb => ?_⟩
 ·obtain ⟨ei, q1, q2, q3, q4⟩ := markTb_get g1
  have hi := h.ent i ei ti q1 g2
  by_cases hij : i = j
  ·subst hij
   rw [h1] at q1; injection q1 with q1; subst q1
   rw [h2] at g2; injection g2 with g2; subst g2
   refine ⟨hi.agx, Nat.le_trans hi.hi hm.size, hi.low, ?_, fun _ => hlow⟩
   rw [q3 rfl]
   exact ht
  ·have q4 := q4 hij
   have hT : ∀ b, ti.T b → w'.heap[b]? = w.heap[b]? := fun b hb => hm.old b (Nat.lt_of_lt_of_le (hi.low b hb).2.2 hi.hi) (fun hb' => h.tdis q1 h1 g2 h2 hij hb hb')
   have a4 := hi.st
   refine ⟨hi.agx, Nat.le_trans hi.hi hm.size, hi.low, ?_, fun hne => hi.sh (fun he => hne (by rw [q4, he]))⟩
   cases hst : ei.st with
   | ar =>
    rw [hst] at a4 q4
    rw [q4]
    exact a4.mono (fun _ h => h) (fun k hk _ => cell_heap (hm.old k (Nat.lt_of_lt_of_le (h.R k hk) hs) (fun hb => by have := (hj.low k hb).2.1; have := h.R k hk; omega)))
   | sh =>
    rw [hst] at a4 q4
    simp only at q4
    by_cases hc : ei.grp < e.grp
    ·rw [if_pos hc] at q4
     rw [q4]
     have ho := h.ord i j ei e ti t q1 h1 g2 h2 hc
     exact Rd.mono (fun _ h => h) (fun k hk _ => cell_heap (hm.old k (Nat.lt_of_lt_of_le hk.1 hi.hi) (fun hb => by have := (hj.low k hb).2.1; have : k < ti.hi := hk.1; omega))) a4
    ·rw [if_neg hc] at q4
     rw [q4]
     exact trivial
   | nw =>
    rw [hst] at a4 q4
    simp only at q4
    by_cases hc : ei.grp = e.grp
    ·rw [if_pos hc] at q4
     rw [q4]
     exact Shp.tree_mono a4.2 hT
    ·rw [if_neg hc] at q4
     rw [q4]
     refine ⟨Rd.mono (fun _ h => h) (fun k hk _ => cell_heap (hm.old k (Nat.lt_of_lt_of_le hk.2 hi.hi) (fun hb => ?_))) a4.1, Shp.tree_mono a4.2 hT⟩
     have a := hj.low k hb
     have hk1 : ti.lo ≤ k := hk.1
     have hk2 : k < ti.hi := hk.2
     rcases Nat.lt_or_gt_of_ne hc with hc | hc
     ·have := h.ord i j ei e ti t q1 h1 g2 h2 hc; omega
     ·have := h.ord j i e ei t ti h1 q1 h2 g2 hc; omega
   | tr => rw [hst] at a4 q4; rw [q4]; exact Shp.tree_mono a4 hT
   | mk l => rw [hst] at a4 q4; rw [q4]; exact Shp.tree_mono a4 hT
   | dd => rw [hst] at q4; rw [q4]; exact trivial
 ·obtain ⟨e1, q1, q2, _⟩ := markTb_get g1
  obtain ⟨e2, r1, r2, _⟩ := markTb_get g2
  exact h.ord i i' e1 e2 ti ti' q1 r1 g3 g4 (by rw [← q2, ← r2]; exact hlt)
 ·obtain ⟨e1, q1, q2, _⟩ := markTb_get g1
  obtain ⟨e2, r1, r2, _⟩ := markTb_get g2
  exact h.dis i i' e1 e2 ti ti' q1 r1 g3 g4 (by rw [← q2, ← r2]; exact heq) hne b hb hb'
 ·obtain ⟨i, hi⟩ := List.getElem?_of_mem he'
  obtain ⟨e1, q1, q2, _⟩ := markTb_get hi
  rw [q2, markTb, List.length_mapIdx]
  exact h.grp e1 (List.mem_of_getElem? q1)
 ·obtain ⟨t', cs, bt, b1, b2, b3, b4, b5⟩ := h.boxes p hp
  refine ⟨t', cs, bt, b1, b2, (hm.old _ (blk_lt b3) (fun hb => ?_)).trans b3, b4, b5⟩
  have := b5 t (List.mem_of_getElem? h2)
  have := hj.low _ hb
  omega
 ·obtain ⟨cur, bt, ti, b1, b2, b3, b4, b5, b6⟩ := h.fresh b ty hb
  refine ⟨cur, bt, ti, (hm.old _ (blk_lt b1) (fun hb => ?_)).trans b1, b2, b3, b4, b5, b6⟩
  have := b5 t (List.mem_of_getElem? h2)
  have := hj.low _ hb
  omega
theorem LX.Inv.setb {b : Nat} (h : X.Inv tb tv bl fr w) (hm : Mod (fun k => k = b) w w') (h0 : X.w0.heap.size ≤ b) (hv : ∀ t ∈ tv, b < t.lo ∨ t.hi ≤ b) (hb : ∀ p ∈ bl, p.1 ≠ b) (hf : nofr fr b → ∀ t ∈ tv, t.hi ≤ b) (fr' : Option (Nat × Nat)) (hfr : ∀ k, nofr fr k → k < w.heap.size → k ≠ b → nofr fr' k)
  (hfresh : ∀ b ty, fr' = some (b, ty) → ∃ (cur : Array Value) (bt : TypeId) (ti : TypeInfo), w'.heap[b]? = some (.cells cur bt (0, 0)) ∧ X.P.info? ty = some ti ∧ cur.size = ti.size ∧ X.w0.heap.size ≤ b ∧ (∀ t ∈ tv, b < t.lo ∨ t.hi ≤ b) ∧ ∀ p ∈ bl, p.1 ≠ b) : X.Inv tb tv bl fr' w' := by
 have hs := h.size
 refine ⟨h.R, h.g0, h.base.trans (hm.mono (fun k hk => by rw [hk]; exact h0)), h.len, fun j e t h1 h2 => ?_, h.ord, h.dis, h.grp, fun p hp => ?_, hfresh⟩
 ·obtain ⟨a1, a2, a3, a4, a5⟩ := h.ent j e t h1 h2
  have hvt := hv t (List.mem_of_getElem? h2)
  have hT : ∀ k, t.T k → w'.heap[k]? = w.heap[k]? := fun k hk => hm.old k (Nat.lt_of_lt_of_le (a3 k hk).2.2 a2) (fun e => by have := a3 k hk; omega)
  refine ⟨a1, Nat.le_trans a2 hm.size, a3, ?_, a5⟩
  cases hst : e.st with
  | ar => rw [hst] at a4; exact a4.mono (fun _ h => h) (fun k hk' _ => cell_heap (hm.old k (Nat.lt_of_lt_of_le (h.R k hk') hs) (fun e => by have := h.R k hk'; omega)))
  | sh =>
   rw [hst] at a4
   have hne : ∀ k, k < t.hi ∧ nofr fr k → k ≠ b := fun k hk e => by
    subst e
    have := hf hk.2 t (List.mem_of_getElem? h2)
    omega
   exact Rd.mono (fun k hk => ⟨hk.1, hfr k hk.2 (Nat.lt_of_lt_of_le hk.1 a2) (hne k hk)⟩) (fun k hk' _ => cell_heap (hm.old k (Nat.lt_of_lt_of_le hk'.1 a2) (hne k hk'))) a4
  | nw => rw [hst] at a4; exact ⟨Rd.mono (fun _ h => h) (fun k hk' _ => cell_heap (hm.old k (Nat.lt_of_lt_of_le hk'.2 a2) (fun e => by have h1 : t.lo ≤ k := hk'.1; have h2 : k < t.hi := hk'.2; omega))) a4.1, Shp.tree_mono a4.2 hT⟩
  | tr => rw [hst] at a4; exact Shp.tree_mono a4 hT
  | mk l => rw [hst] at a4; exact Shp.tree_mono a4 hT
  | dd => exact trivial
 ·obtain ⟨t, cs, bt, b1, b2, b3, b4, b5⟩ := h.boxes p hp
  exact ⟨t, cs, bt, b1, b2, (hm.old _ (blk_lt b3) (hb p hp)).trans b3, b4, b5⟩
theorem LX.Inv.hiLe (h : X.Inv tb tv bl fr w) : ∀ t ∈ tv, t.hi ≤ w.heap.size := fun t ht => by
 obtain ⟨j, hj⟩ := List.getElem?_of_mem ht
 have : j < tb.length := by rw [← h.len]; exact (List.getElem?_eq_some_iff.1 hj).1
 exact (h.ent j _ t (List.getElem?_eq_getElem this) hj).hi
theorem LX.Inv.boxLt (h : X.Inv tb tv bl fr w) : ∀ p ∈ bl, p.1 < w.heap.size := fun p hp => by
 obtain ⟨_, _, _, _, _, b3, _⟩ := h.boxes p hp
 exact blk_lt b3
theorem LX.Inv.alloc (h : X.Inv tb tv bl none w) {cs : Array Value} {bt : TypeId} {ty : Nat} {ti : TypeInfo} (hi : X.P.info? ty = some ti) (hs : cs.size = ti.size) : X.Inv tb tv bl (some (w.heap.size, ty)) (w.alloc (.cells cs bt)) := by
 have hk := Kept.al w (.cells cs bt)
 refine LX.Inv.setb (b := w.heap.size) h ((Mod.of_kept hk).mono (fun _ h => h)) h.size (fun t ht => .inr (h.hiLe t ht)) (fun p hp => Nat.ne_of_lt (h.boxLt p hp)) (fun _ => h.hiLe) _ (fun k _ hk _ b ty e => ?_) (fun b ty' e => ?_)
 ·injection e with e; injection e with e1 e2; omega
 ·injection e with e; injection e with e1 e2
  subst e1; subst e2
  exact ⟨cs, bt, ti, heap_alloc_eq w _, hi, hs, h.size, fun t ht => .inr (h.hiLe t ht), fun p hp => Nat.ne_of_lt (h.boxLt p hp)⟩
theorem LX.Inv.box (h : X.Inv tb tv bl fr w) {cs : Array Value} {bt : TypeId} (h2 : tv[j]? = some t) (hx : t.x = .agg cs) : X.Inv tb tv ((w.heap.size, j) :: bl) fr (w.alloc (.cells cs bt)) := by
 have hk := Kept.al w (.cells cs bt)
 have h' := h.grow hk
 refine { h' with boxes := fun p hp => ?_, fresh := fun b ty hb => ?_ }
 ·rcases List.mem_cons.1 hp with rfl | hp
  ·exact ⟨t, cs, bt, h2, hx, heap_alloc_eq w _, h.size, fun t ht => .inr (h.hiLe t ht)⟩
  ·exact h'.boxes p hp
 ·obtain ⟨cur, bt', ti, b1, b2, b3, b4, b5, b6⟩ := h'.fresh b ty hb
  obtain ⟨_, _, _, c1, _⟩ := h.fresh b ty hb
  refine ⟨cur, bt', ti, b1, b2, b3, b4, b5, fun p hp => ?_⟩
  rcases List.mem_cons.1 hp with rfl | hp
  ·have := blk_lt c1
   show w.heap.size ≠ b
   omega
  ·exact b6 p hp
theorem LX.Inv.store {b ty : Nat} (h : X.Inv tb tv bl (some (b, ty)) w) {cs : Array Value} {bt : TypeId} (h2 : tv[j]? = some t) (hx : t.x = .agg cs) (hm : Mod (fun k => k = b) w w') (hb : w'.heap[b]? = some (.cells cs bt (0, 0))) : X.Inv tb tv ((b, j) :: bl) none w' := by
 obtain ⟨cur, bt', ti, b1, b2, b3, b4, b5, b6⟩ := h.fresh b ty rfl
 have h' : X.Inv tb tv bl none w' := LX.Inv.setb h hm b4 b5 b6 (fun hn => absurd rfl (hn b ty rfl)) none (fun _ _ _ _ _ _ e => by cases e) (fun _ _ e => by cases e)
 refine { h' with boxes := fun p hp => ?_, fresh := fun _ _ e => by cases e }
 rcases List.mem_cons.1 hp with rfl | hp
 ·exact ⟨t, cs, bt, h2, hx, hb, b4, b5⟩
 ·exact h'.boxes p hp
end
end Go.Am
end
section
set_option linter.unusedVariables false
set_option linter.unusedSimpArgs false
namespace Go.Am
open Go Go.RowKit
structure LX.Ok (X : LX) : Prop where
  ans : Answers X.P X.D
  agv : ∀ j n, X.ag[j]? = some (some n) → ∃ cs, X.Vh j = .agg cs ∧ cs.length = n ∧ allCell cs = true
def LX.LR (X : LX) (tv : List LM) (bl : List (Nat × Nat)) (fr : Option (Nat × Nat)) : LV → Value → Prop
 | .un, _ => True
 | .kb b, x => x = .bool b
 | .ki n, x => x = .int .i64 n
 | .zi i, x => x = .int .i64 (X.Z i)
 | .lt0 i, x => x = .bool (decide (X.Z i < 0))
 | .gt i m, x => x = .bool (decide (m < X.Z i))
 | .ct l, x => x = .int .i64 (X.ctv l : Int)
 | .v j, x => ∃ t, tv[j]? = some t ∧ x = t.x
 | .bx j, x => ∃ b, x = .pointer (some ⟨b, 0, none⟩) ∧ (b, j) ∈ bl
 | .fb ty, x => ∃ b, x = .pointer (some ⟨b, 0, none⟩) ∧ fr = some (b, ty)
 | .tp js, x => ∃ vs : Array Value, x = .tuple vs ∧ vs.size = js.length ∧ ∀ (i j : Nat), js[i]? = some j → ∃ t, tv[j]? = some t ∧ vs[i]? = some t.x
def LX.argZ (X : LX) : LV → Option Int
 | .ki n => some n
 | .zi i => some (X.Z i)
 | _ => none
def LX.H (X : LX) : List LC → Prop
 | [] => True
 | .sz f j a i :: r => (∃ z, X.argZ a = some z ∧ X.D f [X.Vh j, .int .i64 z] = some (.int .i64 (X.Z i))) ∧ LX.H X r
 | .len j i b :: r => (if b = true then ∃ s, X.Vh j = .str s ∧ X.Z i = s.length else ∃ s f xs, X.Vh j = .sl s f xs ∧ X.Z i = xs.length) ∧ LX.H X r
 | .low i :: r => 0 ≤ X.Z i → LX.H X r
 | .big i m :: r => X.Z i ≤ m → LX.H X r
 | .mk f js sh i :: r => (X.D f (js.map X.Vh) = some (X.Vo i) ∧ Hand (!sh) (X.Vo i) (X.Vh i) ∧ (sh = false → (X.shp i).own (X.Vo i) (X.nn i))) ∧ LX.H X r
 | .mks _ _ _ _ _ :: _ => False
 | .tt f js :: r => X.D f (js.map X.Vh) = some (.bool true) ∧ LX.H X r
 | .mark f j l :: r => ((X.shp j).MarkOk X.P X.mt f ∧ X.ctv l + X.nn j ≤ 1152921504606846976) ∧ LX.H X r
 | .held f j l :: r => ((X.shp j).HeldOk X.P X.mt f ∧ X.ctv l + X.nn j ≤ 1152921504606846976) ∧ LX.H X r
 | .same i j k :: r => ((k = 0 ∧ ∃ b, X.Vh i = .bool b ∧ X.Vh j = .bool b) ∨ (k = 1 ∧ ∃ n, X.Vh i = .int .i64 n ∧ X.Vh j = .int .i64 n) ∨ (k = 2 ∧ ∃ s, X.Vh i = .str s ∧ X.Vh j = .str s)) ∧ LX.H X r
def readsAt (tb : List LE) (j : Nat) : Bool := match tb[j]? with
 | some e => e.st.reads
 | none => false
def LV.asZ : LV → Bool
 | .ki _ => true
 | .zi _ => true
 | _ => false
def LV.asCt : LV → Option (List Nat)
 | .ki n => if n = 1 then some [] else none
 | .ct l => some l
 | _ => none
def lcall (f : Nat) (al : List LV) (tb : List LE) : LC → Option (LV × List LE)
 | .sz f' j a i => if f' = f ∧ al = [.v j, a] ∧ readsAt tb j = true ∧ a.asZ = true then some (.zi i, tb) else none
 | .mk f' js sh i => if f' = f ∧ al = js.map .v ∧ js.all (readsAt tb) = true ∧ i = tb.length then some (.v i, tb ++ [⟨tb.length + 1, if sh then .sh else .nw⟩]) else none
 | .tt f' js => if f' = f ∧ al = js.map .v ∧ js.all (readsAt tb) = true then some (.kb true, tb) else none
 | .mark f' j l => match al with
  | [.v j', a] => if f' = f ∧ j' = j ∧ a.asCt = some l then (match tb[j]? with
   | some e => if e.st.whole = true then some (.ct (j :: l), markTb tb j e.grp l) else none
   | none => none) else none
  | _ => none
 | .held f' j l => match al with
  | [.v j', a] => if f' = f ∧ j' = j ∧ a.asCt = some l then (match tb[j]? with
   | some e => if e.st = .mk l then some (.ct (j :: l), tb) else none
   | none => none) else none
  | _ => none
 | _ => none
section
variable {X : LX} {tb tb' : List LE} {tv : List LM} {bl : List (Nat × Nat)} {fr : Option (Nat × Nat)} {w w' : World} {j : Nat} {e : LE} {t : LM}
theorem tree_of_answer {mt : Nat → List UInt8} {R : Nat → Prop} {r : V} {x : Value} {s : Shp} {n : Nat} (a : Answer R w r x w') (h : s.own r n) : ∃ T, s.tree mt false w' x 0 n T ∧ ∀ b, T b → w.heap.size ≤ b ∧ b < w'.heap.size := by
 obtain ⟨Γ, hv, hF, hS, hB, hinj, hbZ, hZ, hU, hN, hdis⟩ := a.val
 have b1 : ∀ b, Γ.has b → ¬ Γ.S (Γ.blk b) ∧ ∃ cur e, w'.heap[Γ.blk b]? = some (.cells cur e (0, 0)) := fun b hb => by
  obtain ⟨_, _, h3, _, cur, e, h5, _⟩ := hB b hb
  exact ⟨h3, cur, e, h5⟩
 have z1 : ∀ k, Γ.Z k → ∃ cur e, w'.heap[k]? = some (.cells cur e (0, 0)) := fun k hk => (hZ k hk).2.2
 cases s with
 | s ks =>
  rcases h with ⟨b, s, q, f, xs, rfl, hq, hk⟩ | ⟨rfl, rfl⟩
  ·refine ⟨_, mt_own hv hq hk hU b1 z1 hN 0, ?_⟩
   rintro m ⟨g1, g2 | g2⟩
   ·rw [g2]; exact ⟨(hB b g1).1, (hB b g1).2.1⟩
   ·have := hZ m (hN b g1 m g2).2; exact ⟨this.1, this.2.1⟩
  ·refine ⟨fun _ => False, ?_, fun _ h => h.elim⟩
   cases hv with
   | rd _ _ hr => cases hr; exact .nil ks none 0 0 _
 | a sz fs =>
  obtain ⟨cs, rfl, hl, ho⟩ := h
  have go : ∀ vs : Array Value, cs.length = vs.size → (∀ (i : Nat) (c : V) (v : Value), cs[i]? = some c → vs[i]? = some v → VR Γ w' c v) → ∃ T, (Shp.a sz fs).tree mt false w' (.agg vs) 0 n T ∧ ∀ b, T b → w.heap.size ≤ b ∧ b < w'.heap.size := fun vs h1 h2 => by
   refine ⟨_, ⟨vs, rfl, by omega, ma_own h1 h2 hU b1 z1 hN hinj hdis fs [] n 0 ho⟩, ?_⟩
   rintro m ⟨b, _, g1, g2 | g2⟩
   ·rw [g2]; exact ⟨(hB b g1).1, (hB b g1).2.1⟩
   ·have := hZ m (hN b g1 m g2).2; exact ⟨this.1, this.2.1⟩
  cases hv with
  | rd _ _ hr =>
   cases hr with
   | agg _ vs h1 h2 => exact go vs h1 (fun i c v g1 g2 => .rd _ _ (h2 i c v g1 g2))
  | agg _ vs h1 h2 => exact go vs h1 h2
theorem agx_of_rd {S : Nat → Prop} {cs : List V} {x : Value} (h : Rd w S (.agg cs) x) (hc : allCell cs = true) : ∃ vs : Array Value, x = .agg vs ∧ vs.size = cs.length ∧ ∀ u ∈ vs.toList, u.oneCell' = true := by
 cases h with
 | agg _ vs h1 h2 =>
  refine ⟨vs, rfl, h1.symm, fun u hu => ?_⟩
  obtain ⟨i, hi⟩ := List.getElem?_of_mem hu
  have hlt : i < cs.length := by have := (List.getElem?_eq_some_iff.1 hi).1; simp at this; omega
  have hr := h2 i _ u (List.getElem?_eq_getElem hlt) (by simpa using hi)
  have hcell := allCell_mem hc _ (List.getElem_mem hlt)
  let Γ : Ctx := { w0 := w, F := fun _ => False, S := S, has := fun _ => False, blk := fun _ => 0, off := fun _ => 0, cap := fun _ => 0, sz := fun _ => 0, ln := fun _ => 0, lb := fun _ => False, box := fun _ => 0, R := fun _ => False, Z := fun _ => False, N := fun _ _ => False, U := True }
  exact isCell_one (Γ := Γ) (.rd _ _ hr) hcell
theorem LX.Ok.agx (hO : X.Ok) {S : Nat → Prop} {x : Value} (h : Rd w S (X.Vh j) x) : ∀ n, X.ag[j]? = some (some n) → ∃ vs : Array Value, x = .agg vs ∧ vs.size = n ∧ ∀ u ∈ vs.toList, u.oneCell' = true := fun n hn => by
 obtain ⟨cs, h1, h2, h3⟩ := hO.agv j n hn
 rw [h1] at h
 obtain ⟨vs, g1, g2, g3⟩ := agx_of_rd h h3
 exact ⟨vs, g1, g2.trans h2, g3⟩
theorem readsAt_inv (h : readsAt tb j = true) : ∃ e, tb[j]? = some e ∧ e.st.reads = true := by
 unfold readsAt at h
 split at h
 ·rename_i e he; exact ⟨e, he, h⟩
 ·cases h
theorem LX.LR.mono {fr' : Option (Nat × Nat)} {tv' : List LM} {bl' : List (Nat × Nat)} {v : LV} {x : Value} (h : X.LR tv bl fr v x) (ht : tv <+: tv') (hb : ∀ p ∈ bl, p ∈ bl') (hf : ∀ b ty, fr = some (b, ty) → fr' = some (b, ty)) : X.LR tv' bl' fr' v x := by
 have pre : ∀ {i : Nat} {t : LM}, tv[i]? = some t → tv'[i]? = some t := fun {i t} hi => by
  obtain ⟨r, rfl⟩ := ht
  rw [List.getElem?_append_left (List.getElem?_eq_some_iff.1 hi).1]
  exact hi
 cases v with
 | v j => obtain ⟨t, h1, h2⟩ := h; exact ⟨t, pre h1, h2⟩
 | bx j => obtain ⟨b, h1, h2⟩ := h; exact ⟨b, h1, hb _ h2⟩
 | fb ty => obtain ⟨b, h1, h2⟩ := h; exact ⟨b, h1, hf b ty h2⟩
 | tp js => obtain ⟨vs, h1, h2, h3⟩ := h; exact ⟨vs, h1, h2, fun i j hj => by obtain ⟨t, g1, g2⟩ := h3 i j hj; exact ⟨t, pre g1, g2⟩⟩
 | _ => exact h
theorem kept_of {R : Nat → Prop} {w w' : World} {r : V} {x : Value} (a : Answer R w r x w') : Kept w w' := ⟨a.os, a.tape, a.output, a.size, a.old⟩
theorem answer_bool' {R : Nat → Prop} {W W' : World} {b : Bool} {y : Value} (a : Answer R W (.bool b) y W') : y = .bool b := by
 obtain ⟨Γ, hv, _⟩ := a.val
 exact hv.bool_inv
theorem answer_int' {R : Nat → Prop} {W W' : World} {k : IntKind} {m : Int} {y : Value} (a : Answer R W (.int k m) y W') : y = .int k m := by
 obtain ⟨Γ, hv, _⟩ := a.val
 exact hv.int_inv
theorem ans_call (hO : X.Ok) (hI : X.Inv tb tv bl fr w) {f : Nat} {args : List V} {r : V} {vals : Array Value} {B : Ending → World → Prop} (hd : X.D f args = some r) (hl : args.length = vals.size)
  (hr : ∀ (i : Nat) (c : V) (v : Value), args[i]? = some c → vals[i]? = some v → Rd w (fun k => k < w.heap.size ∧ nofr fr k) c v) (hB : ∀ x w', Answer (fun k => k < w.heap.size ∧ nofr fr k) w r x w' → B (.returned x) w') : Calls X.P f vals w B :=
 ((hO.ans _ _ _ hd).2 (fun k => k < w.heap.size ∧ nofr fr k) w vals hI.glob (fun _ h => h.1) hl hr).mono (fun e W' h => by
  cases e with
  | returned x => exact hB x W' h
  | _ => exact h.elim)
theorem args_rd (hI : X.Inv tb tv bl fr w) {js : List Nat} {vals : Array Value} (hj : js.all (readsAt tb) = true) (ha : ∀ (i : Nat) (a : LV) (x : Value), (js.map LV.v)[i]? = some a → vals[i]? = some x → X.LR tv bl fr a x) :
  ∀ (i : Nat) (c : V) (v : Value), (js.map X.Vh)[i]? = some c → vals[i]? = some v → Rd w (fun k => k < w.heap.size ∧ nofr fr k) c v := by
 intro i c v h1 h2
 rw [List.getElem?_map] at h1
 cases hji : js[i]? with
 | none => rw [hji] at h1; cases h1
 | some j =>
  rw [hji] at h1
  injection h1 with h1
  obtain ⟨t, g1, g2⟩ := ha i (.v j) v (by rw [List.getElem?_map, hji]; rfl) h2
  obtain ⟨e, e1, e2⟩ := readsAt_inv (List.all_eq_true.1 hj j (List.mem_of_getElem? hji))
  rw [← h1, g2]
  exact hI.rd e1 g1 e2
theorem ctv_cons {l : List Nat} : X.ctv (j :: l) = X.ctv l + X.nn j := by
 simp only [LX.ctv, List.map_cons, List.sum_cons]
 omega
theorem asCt_val {a : LV} {l : List Nat} {x : Value} (h : a.asCt = some l) (hr : X.LR tv bl fr a x) : x = .int .i64 (X.ctv l : Int) := by
 cases a with
 | ki n =>
  simp only [LV.asCt] at h
  split at h
  ·rename_i e
   injection h with h
   subst h; subst e
   exact hr
  ·cases h
 | ct l' => injection h with h; subst h; exact hr
 | _ => cases h
theorem asZ_val {a : LV} {z : Int} {x : Value} (h : X.argZ a = some z) (hr : X.LR tv bl fr a x) : x = .int .i64 z := by
 cases a with
 | ki n => injection h with h; subst h; exact hr
 | zi i => injection h with h; subst h; exact hr
 | _ => cases h
theorem lcall_ok {f : Nat} {al : List LV} {ev : LC} {evs : List LC} {v : LV} {vals : Array Value} (hO : X.Ok) (hI : X.Inv tb tv bl fr w) (h : lcall f al tb ev = some (v, tb')) (hH : X.H (ev :: evs)) (hl : al.length = vals.size) (ha : ∀ (i : Nat) (a : LV) (x : Value), al[i]? = some a → vals[i]? = some x → X.LR tv bl fr a x) :
  Known X.P f ∧ X.H evs ∧ Calls X.P f vals w fun e w' => ∃ x tv', e = .returned x ∧ tv <+: tv' ∧ X.LR tv' bl fr v x ∧ X.Inv tb' tv' bl fr w' := by
 cases ev with
 | sz f' j a i =>
  simp only [lcall] at h
  split at h
  ·rename_i hc
   obtain ⟨rfl, rfl, h3, h4⟩ := hc
   simp only [Option.some.injEq, Prod.mk.injEq] at h
   obtain ⟨rfl, rfl⟩ := h
   obtain ⟨⟨z, hz, hd⟩, hH⟩ := hH
   refine ⟨(hO.ans _ _ _ hd).1, hH, ans_call hO hI hd hl (fun p c v h1 h2 => ?_) (fun x w' a => ⟨x, tv, rfl, List.prefix_refl _, answer_int' a, hI.grow (kept_of a)⟩)⟩
   match p, h1 with
   | 0, h1 =>
    injection h1 with h1
    subst h1
    obtain ⟨t, g1, g2⟩ := ha 0 _ v rfl h2
    obtain ⟨e, e1, e2⟩ := readsAt_inv h3
    rw [g2]
    exact hI.rd e1 g1 e2
   | 1, h1 =>
    injection h1 with h1
    subst h1
    rw [asZ_val hz (ha 1 _ v rfl h2)]
    exact .int _ _
   | p + 2, h1 => simp at h1
  ·cases h
 | mk f' js sh i =>
  simp only [lcall] at h
  split at h
  ·rename_i hc
   obtain ⟨rfl, rfl, h3, rfl⟩ := hc
   simp only [Option.some.injEq, Prod.mk.injEq] at h
   obtain ⟨rfl, rfl⟩ := h
   obtain ⟨⟨hd, hh, hown⟩, hH⟩ := hH
   refine ⟨(hO.ans _ _ _ hd).1, hH, ans_call hO hI hd (by simpa using hl) (args_rd hI h3 ha) (fun x w' a => ?_)⟩
   have hk := kept_of a
   have fin : ∀ t : LM, t.x = x → t.lo = w.heap.size → t.hi = w'.heap.size → X.Ent fr w' tb.length ⟨tb.length + 1, if sh then .sh else .nw⟩ t → ∃ x_1 tv', Ending.returned x = Ending.returned x_1 ∧ tv <+: tv' ∧ X.LR tv' bl fr (.v tb.length) x_1 ∧ X.Inv (tb ++ [⟨tb.length + 1, if sh then .sh else .nw⟩]) tv' bl fr w' := fun t ht h1 h2 hent =>
    ⟨x, tv ++ [t], rfl, List.prefix_append _ _, ⟨t, by rw [← hI.len, List.getElem?_append_right (Nat.le_refl _), Nat.sub_self]; rfl, ht.symm⟩,
     hI.more hk [_] [t] rfl (fun t' ht' => by rw [List.mem_singleton.1 ht']; exact ⟨h1, h2⟩) (fun e he => by rw [List.mem_singleton.1 he]) (fun i e t' g1 g2 => by
      match i, g1, g2 with
      | 0, g1, g2 => injection g1 with g1; injection g2 with g2; subst g1; subst g2; exact hent
      | i + 1, g1, _ => simp at g1) (fun i i' t1 t2 g1 g2 hne => by
      have e1 := (List.getElem?_eq_some_iff.1 g1).1
      have e2 := (List.getElem?_eq_some_iff.1 g2).1
      simp at e1 e2
      omega)⟩
   obtain ⟨Γ, hv, hF, hS, hB, hinj, hbZ, hZ, hU, hN, hdis⟩ := a.val
   cases sh with
   | true =>
    have hr : Rd w' (fun k => k < w'.heap.size ∧ nofr fr k) (X.Vh tb.length) x := by
     have nb : ∀ k, w.heap.size ≤ k → nofr fr k := fun k hk b ty hb => by
      obtain ⟨_, _, _, b1, _⟩ := hI.fresh b ty hb
      have := blk_lt b1
      omega
     refine rd_hand hh (fun _ k hk => ⟨(hS k hk).2, (hS k hk).1.elim (fun h => h.2) (nb k)⟩) (fun k hk _ => ⟨(hS k hk).2, (hS k hk).1.elim (fun h => h.2) (nb k)⟩) (fun b hb => ⟨(hB b hb).2.1, nb _ (hB b hb).1⟩) hv
    exact fin ⟨x, w.heap.size, w'.heap.size, fun _ => False⟩ rfl rfl rfl ⟨hO.agx hr, Nat.le_refl _, fun b hb => hb.elim, hr, fun _ => hI.size⟩
   | false =>
    have hr : Rd w' (fun k => w.heap.size ≤ k ∧ k < w'.heap.size) (X.Vh tb.length) x :=
     rd_hand hh (fun e => by cases e) (fun k _ hk => ⟨(hZ k hk).1, (hZ k hk).2.1⟩) (fun b hb => ⟨(hB b hb).1, (hB b hb).2.1⟩) hv
    obtain ⟨T, hT1, hT2⟩ := tree_of_answer (mt := X.mt) a (hown rfl)
    exact fin ⟨x, w.heap.size, w'.heap.size, T⟩ rfl rfl rfl ⟨hO.agx hr, Nat.le_refl _, fun b hb => ⟨hI.size, (hT2 b hb).1, (hT2 b hb).2⟩, ⟨hr, hT1⟩, fun _ => hI.size⟩
  ·cases h
 | tt f' js =>
  simp only [lcall] at h
  split at h
  ·rename_i hc
   obtain ⟨rfl, rfl, h3⟩ := hc
   simp only [Option.some.injEq, Prod.mk.injEq] at h
   obtain ⟨rfl, rfl⟩ := h
   obtain ⟨hd, hH⟩ := hH
   exact ⟨(hO.ans _ _ _ hd).1, hH, ans_call hO hI hd (by simpa using hl) (args_rd hI h3 ha) (fun x w' a => ⟨x, tv, rfl, List.prefix_refl _, answer_bool' a, hI.grow (kept_of a)⟩)⟩
  ·cases h
 | mark f' j l =>
  simp only [lcall] at h
  split at h
  ·rename_i j' a
   split at h
   ·rename_i hc
    obtain ⟨rfl, rfl, hct⟩ := hc
    split at h
    ·rename_i e he
     split at h
     ·rename_i hw
      simp only [Option.some.injEq, Prod.mk.injEq] at h
      obtain ⟨rfl, rfl⟩ := h
      obtain ⟨⟨hm, hb⟩, hH⟩ := hH
      obtain ⟨y, k, rfl⟩ : ∃ y k, vals = #[y, k] := by
       have : vals.toList.length = 2 := by simpa using hl.symm
       match hv : vals.toList, this with
       | [y, k], _ => exact ⟨y, k, arr2 hv⟩
      obtain ⟨t, g1, rfl⟩ := ha 0 _ y rfl rfl
      obtain rfl := asCt_val hct (ha 1 _ k rfl rfl)
      have hent := hI.ent j' e t he g1
      have htree : (X.shp j').tree X.mt false w t.x 0 (X.nn j') t.T := by
       have := hent.st
       cases hst : e.st with
       | nw => rw [hst] at this; exact this.2
       | tr => rw [hst] at this; exact this
       | _ => rw [hst] at hw; cases hw
      have hlow : ∀ b, t.T b → globN ≤ b ∧ b < w.heap.size := fun b hb => by
       obtain ⟨q1, q2, q3⟩ := hent.low b hb
       have := hI.g0.2
       have := hent.hi
       omega
      have go : ∀ (kn : Known X.P f'), Calls X.P f' #[t.x, .int .i64 (X.ctv l : Int)] w (fun e w' => e = .returned (.int .i64 ((X.ctv l + X.nn j' : Nat) : Int)) ∧ Mod t.T w w' ∧ (X.shp j').tree X.mt true w' t.x (X.ctv l) (X.nn j') t.T) →
        Known X.P f' ∧ X.H evs ∧ Calls X.P f' #[t.x, .int .i64 (X.ctv l : Int)] w fun e_1 w' => ∃ x tv', e_1 = .returned x ∧ tv <+: tv' ∧ X.LR tv' bl fr (.ct (j' :: l)) x ∧ X.Inv (markTb tb j' e.grp l) tv' bl fr w' := fun kn hc =>
       ⟨kn, hH, hc.mono (fun e' w' h => ⟨_, tv, h.1, List.prefix_refl _, by show Value.int _ _ = _; rw [ctv_cons], hI.marked he g1 h.2.1 h.2.2 hw⟩)⟩
      cases hs : X.shp j' with
      | s ks =>
       rw [hs] at hm htree
       rw [hs] at go
       exact go hm.1 (hm.2 t.T t.x (X.nn j') (X.ctv l) w hI.glob hlow htree hb)
      | a sz fs =>
       rw [hs] at hm htree
       rw [hs] at go
       obtain ⟨cs, q1, q2, q3⟩ := htree
       refine go hm.1 ?_
       rw [q1]
       exact (hm.2 t.T cs (X.nn j') (X.ctv l) w hI.glob hlow q2 q3 hb).mono (fun e' w' h => ⟨h.1, h.2.1, cs, rfl, q2, h.2.2⟩)
     ·cases h
    ·cases h
   ·cases h
  ·cases h
 | held f' j l =>
  simp only [lcall] at h
  split at h
  ·rename_i j' a
   split at h
   ·rename_i hc
    obtain ⟨rfl, rfl, hct⟩ := hc
    split at h
    ·rename_i e he
     split at h
     ·rename_i hw
      simp only [Option.some.injEq, Prod.mk.injEq] at h
      obtain ⟨rfl, rfl⟩ := h
      obtain ⟨⟨hm, hb⟩, hH⟩ := hH
      obtain ⟨y, k, rfl⟩ : ∃ y k, vals = #[y, k] := by
       have : vals.toList.length = 2 := by simpa using hl.symm
       match hv : vals.toList, this with
       | [y, k], _ => exact ⟨y, k, arr2 hv⟩
      obtain ⟨t, g1, rfl⟩ := ha 0 _ y rfl rfl
      obtain rfl := asCt_val hct (ha 1 _ k rfl rfl)
      have hent := hI.ent j' e t he g1
      have htree : (X.shp j').tree X.mt true w t.x (X.ctv l) (X.nn j') t.T := by
       have := hent.st
       rw [hw] at this
       exact this
      have hlow : ∀ b, t.T b → b < w.heap.size := fun b hb => by
       obtain ⟨q1, q2, q3⟩ := hent.low b hb
       have := hent.hi
       omega
      have go : ∀ (kn : Known X.P f'), Calls X.P f' #[t.x, .int .i64 (X.ctv l : Int)] w (fun e w' => e = .returned (.int .i64 ((X.ctv l + X.nn j' : Nat) : Int)) ∧ Kept w w') →
        Known X.P f' ∧ X.H evs ∧ Calls X.P f' #[t.x, .int .i64 (X.ctv l : Int)] w fun e_1 w' => ∃ x tv', e_1 = .returned x ∧ tv <+: tv' ∧ X.LR tv' bl fr (.ct (j' :: l)) x ∧ X.Inv tb tv' bl fr w' := fun kn hc =>
       ⟨kn, hH, hc.mono (fun e' w' h => ⟨_, tv, h.1, List.prefix_refl _, by show Value.int _ _ = _; rw [ctv_cons], hI.grow h.2⟩)⟩
      cases hs : X.shp j' with
      | s ks =>
       rw [hs] at hm htree
       exact go hm.1 (hm.2 t.T t.x (X.nn j') (X.ctv l) w hI.glob hlow htree hb)
      | a sz fs =>
       rw [hs] at hm htree
       obtain ⟨cs, q1, q2, q3⟩ := htree
       refine go hm.1 ?_
       rw [q1]
       exact hm.2 t.T cs (X.nn j') (X.ctv l) w hI.glob hlow q2 q3 hb
     ·cases h
    ·cases h
   ·cases h
  ·cases h
 | _ => cases h
end
end Go.Am
end
section
set_option linter.unusedVariables false
set_option linter.unusedSimpArgs false
namespace Go.Am
open Go Go.RowKit
def opLV (g : Nat → LV) : Operand → Option LV
 | .tmp x => some (g x)
 | .const (.bool b) => some (.kb b)
 | .const (.int .i64 n) => some (.ki n)
 | _ => none
def LV.free : LV → Bool
 | .fb _ => false
 | _ => true
def kindTy : Ty → Nat → Bool
 | .bool, 0 => true
 | .int .i64, 1 => true
 | .str, 2 => true
 | _, _ => false
def lbin1 (c : Cfg) (op : BinOp) (t : Nat) (a : LV) (z : Int) : Option LV :=
 if isI64 c t = true then (match op, a with
  | .lss, .ct _ => if z = 0 then some (.kb false) else none
  | .lss, .zi i => if z = 0 then some (.lt0 i) else none
  | .gtr, .zi i => some (.gt i z)
  | _, _ => none) else none
def lbin2 (c : Cfg) (tb : List LE) (t : Nat) (a b : LV) (evs : List LC) : Option (LV × List LC) :=
 match a, b with
 | .ct l, .ct l' => if l = l' ∧ isI64 c t = true then some (.kb false, evs) else none
 | .v p, .v q => match evs with
  | .same p' q' k :: es => match c.ty t with
   | some i => if p' = p ∧ q' = q ∧ kindTy i.d k = true ∧ readsAt tb p = true ∧ readsAt tb q = true then some (.kb false, es) else none
   | none => none
  | _ => none
 | _, _ => none
def lop (c : Cfg) (ag : List (Option Nat)) (g : Nat → LV) (tb : List LE) (evs : List LC) (op : Op) : Option (LV × List LE × List LC) :=
 match op with
 | .move x => match opLV g x with
  | some v => if v.free = true then some (v, tb, evs) else none
  | none => none
 | .assign x => match opLV g x with
  | some v => if v.free = true then some (v, tb, evs) else none
  | none => none
 | .load t (.tmp x) => match g x, c.ty t with
  | .bx j, some i => if i.d.isAgg = true ∧ ag[j]? = some (some i.size) then some (.v j, tb, evs) else none
  | _, _ => none
 | .unOp .not _ (.tmp x) => match g x with
  | .kb b => some (.kb (!b), tb, evs)
  | _ => none
 | .pick a x y => match opLV g a with
  | some (.kb b) => match opLV g (if b then x else y) with
   | some v => if v.free = true then some (v, tb, evs) else none
   | none => none
  | _ => none
 | .binOp op t (.tmp x) (.const (.int .i64 z)) _ => match lbin1 c op t (g x) z with
  | some v => some (v, tb, evs)
  | none => none
 | .binOp .neq t (.tmp x) (.tmp y) _ => if x = y then none else match lbin2 c tb t (g x) (g y) evs with
  | some (v, es) => some (v, tb, es)
  | none => none
 | .call ⟨.value (.func f), args, _⟩ => match evs with
  | ev :: es => match lcall f (args.toList.map fun
    | .tmp x => g x
    | _ => .un) tb ev with
   | some (v, tb') => some (v, tb', es)
   | none => none
  | [] => none
 | .call ⟨.builtin .len, args, ts⟩ => match args.toList, ts.toList, evs with
  | [.tmp x], [t], .len j i b :: es => match g x, c.ty t with
   | .v j', some ti => if j' = j ∧ readsAt tb j = true then (match ti.d, b with
    | .slice _, false => some (.zi i, tb, es)
    | .str, true => some (.zi i, tb, es)
    | _, _ => none) else none
   | _, _ => none
  | _, _, _ => none
 | .extract (.tmp x) ix => match g x with
  | .tp js => match js[ix]? with
   | some j => some (.v j, tb, evs)
   | none => none
  | _ => none
 | _ => none
def O0 (P : Program) (n : Nat) (o : Oper) (s : Nat → Value) (w : World) (K : (Nat → Value) → World → Prop) : Prop :=
 ∀ (a : Act) (Q : Exit → Act → World → Prop) (N : Act → World → Prop), (∀ s' a' w', Ag n s' a' → K s' w' → N a' w') → Ag n s a → o.wp P a w N Q
section
variable {P : Program} {n d : Nat} {s : Nat → Value} {w w' : World} {x : Value} {o : Oper} {K K' : (Nat → Value) → World → Prop}
theorem O0.mono (h : O0 P n o s w K) (hk : ∀ s' w', K s' w' → K' s' w') : O0 P n o s w K' := fun a Q N hN ha => h a Q N (fun s' a' w' h1 h2 => hN s' a' w' h1 (hk s' w' h2)) ha
theorem O0.value (hd : o.dst = some d) (hn : d < n) (he : (execOp (evs s) o).run P w = .ok (.value x) w') (h : K (upd s d x) w') : O0 P n o s w K := by
 intro a Q N hN ha
 unfold Oper.wp
 rw [ha.eval, he, Oper.upon_value, hd]
 exact hN _ _ _ (ha.put hn) h
theorem O0.skip (hd : o.dst = none) (he : (execOp (evs s) o).run P w = .ok .skip w') (h : K s w') : O0 P n o s w K := by
 intro a Q N hN ha
 unfold Oper.wp
 rw [ha.eval, he, Oper.upon_skip, hd]
 exact hN _ a _ ha h
theorem O0.call {f : FuncId} {args : Array Value} (hd : o.dst = some d) (hn : d < n) (he : (execOp (evs s) o).run P w = .ok (.enter f args) w)
  (hc : Calls P f args w fun e w' => ∃ x, e = .returned x ∧ K (upd s d x) w') : O0 P n o s w K := by
 intro a Q N hN ha
 unfold Oper.wp
 rw [ha.eval, he, Oper.upon_enter]
 refine Calls.mono hc fun e w' h => ?_
 obtain ⟨x, rfl, h⟩ := h
 show N (a.put o.dst x) w'
 rw [hd]
 exact hN _ _ _ (ha.put hn) h
end
section
variable {X : LX} {c : Cfg} {n d : Nat} {s : Nat → Value} {w w' : World} {o : Oper} {tb tb' : List LE} {tv : List LM} {bl : List (Nat × Nat)} {fr : Option (Nat × Nat)} {evs' evs'' : List LC} {g : Nat → LV} {v : LV}
theorem opLV_ok {x : Operand} (h : opLV g x = some v) (hx : ∀ y, x = .tmp y → X.LR tv bl fr (g y) (s y)) : X.LR tv bl fr v (evs s x) := by
 unfold opLV at h
 split at h
 ·rename_i y
  injection h with h
  subst h
  exact hx y rfl
 ·injection h with h; subst h; rfl
 ·injection h with h; subst h; rfl
 ·cases h
theorem slot_lt (hn : ∀ i, n ≤ i → s i = undef) {x : Nat} (h : s x ≠ undef) : x < n := by
 rcases Nat.lt_or_ge x n with h' | h'
 ·exact h'
 ·exact absurd (hn x h') h
theorem ctv_nn (l : List Nat) : ¬ ((X.ctv l : Int) < 0) := by omega
theorem lop_ok (hO : X.Ok) (hA : Agree X.P c) (hI : X.Inv tb tv bl fr w) (h : lop c X.ag g tb evs' o.op = some (v, tb', evs'')) (hH : X.H evs') (hops : ∀ x, .tmp x ∈ o.op.operands.toList → X.LR tv bl fr (g x) (s x)) (hn : ∀ i, n ≤ i → s i = undef)
  (hdst : o.dst = some d) (hd : d < n) : O0 X.P n o s w (fun s' w' => ∃ x tv', s' = upd s d x ∧ tv <+: tv' ∧ X.LR tv' bl fr v x ∧ X.Inv tb' tv' bl fr w' ∧ X.H evs'') := by
 have val : ∀ {x : Value} {v' : LV}, (execOp (evs s) o).run X.P w = .ok (.value x) w → X.LR tv bl fr v' x → v' = v → tb' = tb → evs'' = evs' → O0 X.P n o s w (fun s' w' => ∃ x tv', s' = upd s d x ∧ tv <+: tv' ∧ X.LR tv' bl fr v x ∧ X.Inv tb' tv' bl fr w' ∧ X.H evs'') := fun he hx e1 e2 e3 => by
  subst e1; subst e2; subst e3
  exact O0.value hdst hd he ⟨_, tv, rfl, List.prefix_refl _, hx, hI, hH⟩
 unfold lop at h
 split at h
 · -- move
  rename_i x ho
  rw [ho] at hops
  split at h
  ·rename_i v1 hv
   split at h
   ·simp only [Option.some.injEq, Prod.mk.injEq] at h
    obtain ⟨rfl, rfl, rfl⟩ := h
    exact val (x := evs s x) (by simp [execOp, ho]) (opLV_ok hv (fun y hy => hops y (by subst hy; simp [Op.operands]))) rfl rfl rfl
   ·cases h
  ·cases h
 · -- assign
  rename_i x ho
  rw [ho] at hops
  split at h
  ·rename_i v1 hv
   split at h
   ·simp only [Option.some.injEq, Prod.mk.injEq] at h
    obtain ⟨rfl, rfl, rfl⟩ := h
    exact val (x := evs s x) (by simp [execOp, ho]) (opLV_ok hv (fun y hy => hops y (by subst hy; simp [Op.operands]))) rfl rfl rfl
   ·cases h
  ·cases h
 · -- load
  rename_i t x ho
  rw [ho] at hops
  split at h
  ·rename_i j i hx ht
   split at h
   ·rename_i hcc
    obtain ⟨hag, hj⟩ := hcc
    simp only [Option.some.injEq, Prod.mk.injEq] at h
    obtain ⟨rfl, rfl, rfl⟩ := h
    have hb := hops x (by simp [Op.operands])
    rw [hx] at hb
    obtain ⟨b, hs, hbl⟩ := hb
    obtain ⟨tm, cs, bt, b1, b2, b3, b4, b5⟩ := hI.boxes _ hbl
    have hjl : j < tb.length := by rw [← hI.len]; exact (List.getElem?_eq_some_iff.1 b1).1
    obtain ⟨vs, v1, v2, _⟩ := (hI.ent j _ tm (List.getElem?_eq_getElem hjl) b1).agx i.size hj
    have hcs : cs.size = i.size := by
     rw [b2] at v1
     injection v1 with v1
     rw [v1]
     exact v2
    obtain ⟨ti, ai⟩ := hA _ _ ht
    have hu : ∃ dd, X.P.underlying t = some dd ∧ ((∃ fs, dd = .struct fs) ∨ (∃ n e, dd = .array n e)) := by
     cases hdd : i.d with
     | struct fs => obtain ⟨f, h1, _⟩ := ai.struct fs hdd; exact ⟨_, h1, .inl ⟨_, rfl⟩⟩
     | array n e => exact ⟨_, ai.array n e hdd, .inr ⟨_, _, rfl⟩⟩
     | _ => rw [hdd] at hag; cases hag
    obtain ⟨dd, hdd, hk⟩ := hu
    have hl := run_loadCells (P := X.P) w ⟨b, 0, none⟩ i.size (fun k => cs.getD k undef) (fun k hk => by
     rw [add_none, Nat.zero_add, cell_of b3]
     have : k < cs.size := by omega
     simp [this])
    have hrun : (loadVar t ⟨b, 0, none⟩).run X.P w = .ok (.agg ((List.range i.size).map fun k => cs.getD k undef).toArray) w := by
     rcases hk with ⟨fs, rfl⟩ | ⟨n, e, rfl⟩ <;> simp [loadVar, isAgg, run_underlying hdd, sizeOf, typeInfo, ai.info, ai.size, hl]
    have ecs : ((List.range i.size).map fun k => cs.getD k undef).toArray = cs := by
     apply Array.ext_getElem?
     intro q
     rcases Nat.lt_or_ge q i.size with hq | hq
     ·have : q < cs.size := by omega
      simp [hq, this]
     ·rw [Array.getElem?_eq_none (by simp; omega), Array.getElem?_eq_none (by omega)]
    rw [ecs] at hrun
    exact val (x := .agg cs) (v' := .v j) (by simp [execOp, ho, evs, hs, Instr.loadAt, Instr.sureAddr, hrun]) ⟨tm, b1, b2.symm⟩ rfl rfl rfl
   ·cases h
  ·cases h
 · -- not
  rename_i t x ho
  rw [ho] at hops
  split at h
  ·rename_i b hx
   simp only [Option.some.injEq, Prod.mk.injEq] at h
   obtain ⟨rfl, rfl, rfl⟩ := h
   have hb := hops x (by simp [Op.operands])
   rw [hx] at hb
   have hb : s x = .bool b := hb
   exact val (x := .bool !b) (v' := .kb !b) (by simp [execOp, ho, evs, hb, Op.unary]) rfl rfl rfl rfl
  ·cases h
 · -- pick
  rename_i a x y ho
  rw [ho] at hops
  split at h
  ·rename_i b hb
   split at h
   ·rename_i v1 hv
    split at h
    ·simp only [Option.some.injEq, Prod.mk.injEq] at h
     obtain ⟨rfl, rfl, rfl⟩ := h
     have h1 : evs s a = .bool b := opLV_ok (X := X) (tv := tv) (bl := bl) (fr := fr) hb (fun y hy => hops y (by subst hy; simp [Op.operands]))
     have h2 := opLV_ok (X := X) (tv := tv) (bl := bl) (fr := fr) (s := s) hv (fun y' hy => hops y' (by cases b <;> simp at hy <;> subst hy <;> simp [Op.operands]))
     refine val (x := evs s (if b then x else y)) ?_ h2 rfl rfl rfl
     cases b <;> simp [execOp, ho, h1, asBool]
    ·cases h
   ·cases h
  ·cases h
 · -- a number against a constant
  rename_i op t x z t' ho
  rw [ho] at hops
  split at h
  ·rename_i v1 hv
   simp only [Option.some.injEq, Prod.mk.injEq] at h
   obtain ⟨rfl, rfl, rfl⟩ := h
   have hx := hops x (by simp [Op.operands])
   unfold lbin1 at hv
   split at hv
   ·rename_i hi64
    obtain ⟨ti, t1, t2⟩ := isI64_ok hi64
    have num : ∀ (m : Int) (r : V), s x = .int .i64 m → binV ti op (.int .i64 m) (.int .i64 z) = some r → ∃ y, (execOp (evs s) o).run X.P w = .ok (.value y) w ∧ ∃ Γ : Ctx, VR Γ w r y := fun m r hm hr =>
     scal_bin hA hI.glob hn ho t1 (slot_lt hn (by rw [hm]; intro e; cases e)) (by rw [hm]; exact .int _ _) (.inr ⟨_, rfl, rfl⟩) hr
    split at hv
    ·rename_i l hg
     rw [hg] at hx
     split at hv
     ·rename_i e0
      subst e0
      injection hv with hv
      subst hv
      obtain ⟨y, y1, Γ, y2⟩ := num _ (.bool false) hx (by
       simp only [binV, intOp, cmpInt, if_pos, if_true]
       rw [decide_eq_false (ctv_nn l)])
      rw [y2.bool_inv] at y1
      exact val (v' := .kb false) y1 rfl rfl rfl rfl
     ·cases hv
    ·rename_i i hg
     rw [hg] at hx
     split at hv
     ·rename_i e0
      subst e0
      injection hv with hv
      subst hv
      obtain ⟨y, y1, Γ, y2⟩ := num _ (.bool (decide (X.Z i < 0))) hx (by simp [binV, intOp, cmpInt])
      rw [y2.bool_inv] at y1
      exact val (v' := .lt0 i) y1 rfl rfl rfl rfl
     ·cases hv
    ·rename_i i hg
     rw [hg] at hx
     injection hv with hv
     subst hv
     obtain ⟨y, y1, Γ, y2⟩ := num _ (.bool (decide (X.Z i > z))) hx (by simp [binV, intOp, cmpInt])
     rw [y2.bool_inv] at y1
     exact val (v' := .gt i z) y1 rfl rfl rfl rfl
    ·cases hv
   ·cases hv
  ·cases h
 · -- two that are compared
  rename_i t x y t' ho
  rw [ho] at hops
  split at h
  ·cases h
  ·rename_i hxy
   split at h
   ·rename_i v1 es hv
    simp only [Option.some.injEq, Prod.mk.injEq] at h
    obtain ⟨rfl, rfl, rfl⟩ := h
    have hx := hops x (by simp [Op.operands])
    have hy := hops y (by simp [Op.operands])
    have two : ∀ (ti : TyInfo) (u : V), c.ty t = some ti → u ≠ .undef → (∀ r : Value, Rd w (fun _ => False) u r → r ≠ undef) → Rd w (fun _ => False) u (s x) → Rd w (fun _ => False) u (s y) → binV ti .neq u u = some (.bool false) → (execOp (evs s) o).run X.P w = .ok (.value (.bool false)) w := fun ti u t1 hu hne h1 h2 hb => by
     obtain ⟨z, z1, Γ, z2⟩ := scal_bin (u := u) hA hI.glob hn ho t1 (slot_lt hn (hne _ h1)) h1 (.inl ⟨y, rfl, slot_lt hn (hne _ h2), fun e => hxy e.symm, h2⟩) hb
     rw [z2.bool_inv] at z1
     exact z1
    have scal : ∀ {S : Nat → Prop} {u : V} {r : Value}, noSl u → Rd w S u r → Rd w (fun _ => False) u r := fun hu hr => by
     cases hr with
     | bool b => exact .bool b
     | int k n => exact .int k n
     | str s x h => exact .str s x h
     | nil => exact .nil
     | _ => exact hu.elim
    unfold lbin2 at hv
    split at hv
    ·rename_i l l' hg1 hg2
     rw [hg1] at hx
     rw [hg2] at hy
     split at hv
     ·rename_i hcc
      obtain ⟨rfl, hi64⟩ := hcc
      simp only [Option.some.injEq, Prod.mk.injEq] at hv
      obtain ⟨rfl, rfl⟩ := hv
      obtain ⟨ti, t1, t2⟩ := isI64_ok hi64
      have hx : s x = .int .i64 (X.ctv l : Int) := hx
      have hy : s y = .int .i64 (X.ctv l : Int) := hy
      exact val (v' := .kb false) (two ti (.int .i64 (X.ctv l : Int)) t1 (by simp) (fun r hr => by cases hr; intro e; cases e) (by rw [hx]; exact .int _ _) (by rw [hy]; exact .int _ _) (by simp [binV, intOp, cmpInt])) rfl rfl rfl rfl
     ·cases hv
    ·rename_i p q hg1 hg2
     rw [hg1] at hx
     rw [hg2] at hy
     split at hv
     ·rename_i p' q' k es'
      split at hv
      ·rename_i ti t1
       split at hv
       ·rename_i hcc
        obtain ⟨rfl, rfl, hkd, hr1, hr2⟩ := hcc
        simp only [Option.some.injEq, Prod.mk.injEq] at hv
        obtain ⟨rfl, rfl⟩ := hv
        obtain ⟨tp, u1, u2⟩ := hx
        obtain ⟨tq, u3, u4⟩ := hy
        obtain ⟨ep, ep1, ep2⟩ := readsAt_inv hr1
        obtain ⟨eq, eq1, eq2⟩ := readsAt_inv hr2
        have rp := hI.rd ep1 u1 ep2
        have rq := hI.rd eq1 u3 eq2
        rw [← u2] at rp
        rw [← u4] at rq
        obtain ⟨hs, hH'⟩ := hH
        have done : (execOp (evs s) o).run X.P w = .ok (.value (.bool false)) w → O0 X.P n o s w (fun s' w' => ∃ x tv', s' = upd s d x ∧ tv <+: tv' ∧ X.LR tv' bl fr (.kb false) x ∧ X.Inv tb tv' bl fr w' ∧ X.H es') := fun he =>
         O0.value hdst hd he ⟨_, tv, rfl, List.prefix_refl _, rfl, hI, hH'⟩
        rcases hs with ⟨rfl, b, b1, b2⟩ | ⟨rfl, b, b1, b2⟩ | ⟨rfl, b, b1, b2⟩
        ·rw [b1] at rp
         rw [b2] at rq
         have htd : ti.d = .bool := by
          unfold kindTy at hkd
          split at hkd
          ·rename_i e _; exact e
          ·rename_i _ e; cases e
          ·rename_i _ e; cases e
          ·cases hkd
         refine done (two ti (.bool b) t1 (by simp) (fun r hr => by cases hr; intro e; cases e) (scal trivial rp) (scal trivial rq) (by simp [binV, htd]))
        ·rw [b1] at rp
         rw [b2] at rq
         exact done (two ti (.int .i64 b) t1 (by simp) (fun r hr => by cases hr; intro e; cases e) (scal trivial rp) (scal trivial rq) (by simp [binV, intOp, cmpInt]))
        ·rw [b1] at rp
         rw [b2] at rq
         exact done (two ti (.str b) t1 (by simp) (fun r hr => by cases hr; intro e; cases e) (scal trivial rp) (scal trivial rq) (by simp [binV, strOp]))
       ·cases hv
      ·cases hv
     ·cases hv
    ·cases hv
   ·cases h
 · -- a call
  rename_i f args ts ho
  rw [ho] at hops
  split at h
  ·rename_i ev es
   split at h
   ·rename_i v1 tb1 hv
    simp only [Option.some.injEq, Prod.mk.injEq] at h
    obtain ⟨rfl, rfl, rfl⟩ := h
    obtain ⟨hk, hH', hcall⟩ := lcall_ok (vals := args.map (evs s)) hO hI hv hH (by simp) (fun i a y h1 h2 => by
     rw [List.getElem?_map, Array.getElem?_toList] at h1
     rw [Array.getElem?_map] at h2
     cases hi : args[i]? with
     | none => rw [hi] at h1; cases h1
     | some u =>
      rw [hi] at h1 h2
      injection h1 with h1
      injection h2 with h2
      subst h1; subst h2
      cases u with
      | tmp p => exact hops p (by simp only [Op.operands, Call.operands]; simp; exact Array.mem_of_getElem? hi)
      | _ => exact trivial)
    refine O0.call hdst hd (call_enter hk ho) (hcall.mono (fun e w' h => ?_))
    obtain ⟨y, tv', rfl, h1, h2, h3⟩ := h
    exact ⟨y, rfl, y, tv', rfl, h1, h2, h3, hH'⟩
   ·cases h
  ·cases h
 · -- len
  rename_i args ts ho
  rw [ho] at hops
  split at h
  ·rename_i x t j i b es hargs hts
   split at h
   ·rename_i j' ti hx hti
    split at h
    ·rename_i hcc
     obtain ⟨rfl, hrd⟩ := hcc
     obtain rfl := arr1 hargs
     obtain rfl := arr1 hts
     have hx' := hops x (by simp [Op.operands, Call.operands])
     rw [hx] at hx'
     obtain ⟨tm, t1, t2⟩ := hx'
     obtain ⟨e, e1, e2⟩ := readsAt_inv hrd
     have hr := hI.rd e1 t1 e2
     rw [← t2] at hr
     obtain ⟨aj, aj2⟩ := hA _ _ hti
     obtain ⟨hlen, hH'⟩ := hH
     have fin : ∀ {m : Nat}, (execOp (evs s) o).run X.P w = .ok (.value (.int .i64 (m : Int))) w → X.Z i = m → O0 X.P n o s w (fun s' w' => ∃ x tv', s' = upd s d x ∧ tv <+: tv' ∧ X.LR tv' bl fr (.zi i) x ∧ X.Inv tb tv' bl fr w' ∧ X.H es) := fun he hm =>
      O0.value hdst hd he ⟨_, tv, rfl, List.prefix_refl _, by show Value.int _ _ = _; rw [hm], hI, hH'⟩
     split at h
     ·rename_i el hel
      simp only [Option.some.injEq, Prod.mk.injEq] at h
      obtain ⟨rfl, rfl, rfl⟩ := h
      obtain ⟨u, f, xs, h1, h2⟩ := hlen
      rw [h1] at hr
      obtain ⟨a, cap, hy⟩ : ∃ a cap, s x = .slice a xs.length cap := by
       generalize s x = y at hr
       cases hr with
       | empty => exact ⟨_, _, rfl⟩
       | sl => exact ⟨_, _, rfl⟩
      exact fin (m := xs.length) (by simp [execOp, ho, evs, hy, resolve, invoke, builtin, Builtin.len_, run_underlying (aj2.slice _ hel), goInt]) h2
     ·rename_i hel
      simp only [Option.some.injEq, Prod.mk.injEq] at h
      obtain ⟨rfl, rfl, rfl⟩ := h
      obtain ⟨u, h1, h2⟩ := hlen
      rw [h1] at hr
      obtain ⟨y, hy, hy2⟩ := rd_str hr
      have e3 : u.length = y.size := by rw [← hy2]; rfl
      exact fin (m := u.length) (by rw [e3]; simp [execOp, ho, evs, hy, resolve, invoke, builtin, Builtin.len_, run_underlying (aj2.str hel), goInt]) h2
     ·cases h
    ·cases h
   ·cases h
  ·cases h
 · -- extract
  rename_i x ix ho
  rw [ho] at hops
  split at h
  ·rename_i js hx
   split at h
   ·rename_i j hj
    simp only [Option.some.injEq, Prod.mk.injEq] at h
    obtain ⟨rfl, rfl, rfl⟩ := h
    have hx' := hops x (by simp [Op.operands])
    rw [hx] at hx'
    obtain ⟨vs, h1, h2, h3⟩ := hx'
    obtain ⟨tm, t1, t2⟩ := h3 ix j hj
    exact val (x := tm.x) (v' := .v j) (by simp [execOp, ho, evs, h1, Instr.extract, t2]) ⟨tm, t1, rfl⟩ rfl rfl rfl
   ·cases h
  ·cases h
 ·cases h
end
end Go.Am
end
