/-
  What a reading of an argument says: it is plain data, of its type's form.
-/
import Derived.Test.YtbpoaadkjjfmgaaGreatDoorAmDraw
import Derived.Test.YtbpoaadkjjfmgaaGreatDoorAmAgree
import Derived.ReadAgain
set_option linter.unusedVariables false
set_option linter.unusedSimpArgs false
namespace Go.Am
open Go Go.RowKit
variable {P : Program} {c : Cfg} {w w' : World}
def lenSum (P : Program) : List Field → Nat
 | [] => 0
 | f :: fs => P.cellsOf f.type + lenSum P fs
def offsOk (P : Program) : Nat → List Field → Bool
 | _, [] => true
 | n, f :: fs => f.offset == n && offsOk P (n + P.cellsOf f.type) fs
def kidsOk (P : Program) (L : List Nat) : Bool := L.all fun t => match P.underlying t with
 | some .bool => P.cellsOf t == 1
 | some (.int _) => P.cellsOf t == 1
 | some .string => P.cellsOf t == 1
 | some (.slice e) => P.cellsOf t == 1 && L.contains e && decide (0 < P.cellsOf e)
 | some (.struct fs) => fs.toList.all (fun f => L.contains f.type) && P.cellsOf t == lenSum P fs.toList && offsOk P 0 fs.toList
 | _ => false
theorem lenSum_eq (fs : List Field) : (fs.map fun f => P.cellsOf f.type).sum = lenSum P fs := by
 induction fs with
 | nil => rfl
 | cons f fs ih => rw [List.map_cons, List.sum_cons, ih]; rfl
theorem offsOk_get : ∀ {fs : List Field} {n : Nat}, offsOk P n fs = true → ∀ (j : Nat) f, fs[j]? = some f → f.offset = n + ((fs.take j).map fun f => P.cellsOf f.type).sum := by
 intro fs
 induction fs with
 | nil => intro n _ j f h; simp at h
 | cons g fs ih =>
  intro n h j f hf
  rw [offsOk, Bool.and_eq_true, beq_iff_eq] at h
  cases j with
  | zero => simp only [List.getElem?_cons_zero, sj_] at hf; subst hf; simp [h.1]
  | succ j =>
   have := ih h.2 j f (by simpa using hf)
   simp [this]
   omega
theorem kids_of {L : List Nat} (h : kidsOk P L = true) : Kids P (· ∈ L) := by
 unfold kidsOk at h
 rw [List.all_eq_true] at h
 refine ⟨fun {t e} ht hu => ?_, fun {t e} ht hu => ?_, fun {t e n} ht hu => ?_, fun {t fs} ht hu => ?_, fun {t k e} ht hu => ?_⟩
 ·have := h t ht; rw [hu] at this; cases this
 ·have := h t ht
  rw [hu] at this
  simp only [Bool.and_eq_true] at this
  exact List.contains_iff_mem.1 this.1.2
 ·have := h t ht; rw [hu] at this; cases this
 ·have := h t ht
  rw [hu] at this
  simp only [Bool.and_eq_true, List.all_eq_true, beq_iff_eq] at this
  refine ⟨fun f hf => List.contains_iff_mem.1 (this.1.1 f hf), by rw [lenSum_eq]; exact this.1.2, fun j f hf => ?_⟩
  have := offsOk_get this.2 j f hf
  rwa [Nat.zero_add] at this
 ·have := h t ht; rw [hu] at this; cases this
theorem kids_pos {L : List Nat} (h : kidsOk P L = true) : ∀ t e, t ∈ L → P.underlying t = some (.slice e) → 0 < P.cellsOf e := by
 intro t e ht hu
 unfold kidsOk at h
 rw [List.all_eq_true] at h
 have := h t ht
 rw [hu] at this
 simp only [Bool.and_eq_true, decide_eq_true_eq] at this
 exact this.2
def Cn (P : Program) (fl : Nat → Bool) : Nat → Nat → List V → Prop
 | 0, _, _ => False
 | n + 1, t, vs => match P.underlying t with
  | some .bool => ∃ b, vs = [.bool b]
  | some (.int k) => ∃ m, vs = [.int k m] ∧ (Lit.int k m).wf = true
  | some .string => ∃ s, vs = [.str s] ∧ s.length ≤ maxLen
  | some (.slice e) => ∃ rows, vs = [.sl (P.cellsOf e) (fl e) rows] ∧ rows.length ≤ maxLen ∧ ∀ r ∈ rows, ∃ us, us.length = P.cellsOf e ∧ Cn P fl n e us ∧ r = (match P.underlying e with
    | some (.struct _) => .agg us
    | _ => us.headD .undef)
  | some (.struct fs) => vs.length = P.cellsOf t ∧ ∀ f ∈ fs.toList, Cn P fl n f.type ((vs.drop f.offset).take (P.cellsOf f.type))
  | _ => False
def flOk (P : Program) (L : List Nat) (fl : Nat → Bool) : Bool := L.all fun t => !fl t || (match P.underlying t with
 | some .bool => true
 | some (.int _) => true
 | some .string => true
 | some (.struct fs) => fs.toList.all fun f => fl f.type
 | _ => false)
theorem mem_part {P : Program} {fs : List Field} : ∀ {o : Nat} {vs : List V}, offsOk P o fs = true → ∀ (j : Nat), o ≤ j → j < o + lenSum P fs → ∃ f ∈ fs, f.offset ≤ j ∧ j < f.offset + P.cellsOf f.type := by
 induction fs with
 | nil => intro o vs _ j h1 h2; simp [lenSum] at h2; omega
 | cons f fs ih =>
  intro o vs h j h1 h2
  rw [offsOk, Bool.and_eq_true, beq_iff_eq] at h
  rw [lenSum] at h2
  by_cases hj : j < o + P.cellsOf f.type
  ·exact ⟨f, by simp, by omega, by omega⟩
  ·obtain ⟨g, hg, h3⟩ := ih (vs := vs) h.2 j (by omega) (by omega)
   exact ⟨g, by simp [hg], h3⟩
theorem cn_flat {L : List Nat} {fl : Nat → Bool} (hk : kidsOk P L = true) (hf : flOk P L fl = true) : ∀ (n t : Nat) (vs : List V), t ∈ L → Cn P fl n t vs → fl t = true → ∀ v ∈ vs, noSl v := by
 intro n
 induction n with
 | zero => intro t vs _ h; cases h
 | succ n ih =>
  intro t vs ht h hfl v hv
  have h1 := List.all_eq_true.1 hf t ht
  rw [hfl] at h1
  simp only [Bool.not_true, Bool.false_or] at h1
  have hkt := List.all_eq_true.1 hk t ht
  unfold Cn at h
  split at h
  ·obtain ⟨b, rfl⟩ := h; rw [List.mem_singleton.1 hv]; trivial
  ·obtain ⟨b, rfl, _⟩ := h; rw [List.mem_singleton.1 hv]; trivial
  ·obtain ⟨b, rfl, _⟩ := h; rw [List.mem_singleton.1 hv]; trivial
  ·rename_i e hu; rw [hu] at h1; cases h1
  ·rename_i fs hu
   rw [hu] at h1 hkt
   simp only [List.all_eq_true, Bool.and_eq_true, beq_iff_eq] at h1 hkt
   obtain ⟨hl, hfs⟩ := h
   obtain ⟨j, hj⟩ := List.getElem?_of_mem hv
   have hlt := (gs_ hj).1
   obtain ⟨f, hfm, g1, g2⟩ := mem_part (vs := vs) hkt.2 j (by omega) (by omega)
   refine ih f.type _ (List.contains_iff_mem.1 (hkt.1.1 f hfm)) (hfs f hfm) (h1 f hfm) v ?_
   have : ((vs.drop f.offset).take (P.cellsOf f.type))[j - f.offset]? = some v := by
    rw [List.getElem?_take_of_lt (by omega), List.getElem?_drop, ← hj]
    congr 1
    omega
   exact List.mem_of_getElem? this
  ·cases h
theorem rd_of_trod {H : Type} {enc : TypeId × Value → H} {base : Nat} {spare : Nat → Bool} {held : Bool} {L : List Nat} {fl : Nat → Bool} (hk : kidsOk P L = true) (hf : flOk P L fl = true) :
  ∀ (n t : Nat) (cs : List Value) (x : DataW H × List MemPlace), t ∈ L → DataW.trod enc P w base spare held n t cs = some x →
   ∃ vs : List V, vs.length = cs.length ∧ cs.length = P.cellsOf t ∧ Cn P fl n t vs ∧ (∀ u ∈ cs, u.oneCell' = true) ∧ ∀ (j : Nat) (v : V) (u : Value), vs[j]? = some v → cs[j]? = some u → Rd w (fun k => k < w.heap.size) v u := by
 intro n
 induction n with
 | zero => intro t cs x _ h; simp [DataW.trod] at h
 | succ n ih =>
  intro t cs x ht h
  have hkt := List.all_eq_true.1 hk t ht
  have single : ∀ {v : V} {u : Value}, Rd w (fun k => k < w.heap.size) v u → ∀ (j : Nat) (v' : V) (u' : Value), [v][j]? = some v' → [u][j]? = some u' → Rd w (fun k => k < w.heap.size) v' u' := by
   intro v u h j v' u' h1 h2
   cases j with
   | zero => simp only [List.getElem?_cons_zero, sj_] at h1 h2; subst h1; subst h2; exact h
   | succ j => simp at h1
  cases hu : P.underlying t with
  | none => rw [hu] at hkt; cases hkt
  | some d =>
   rw [hu] at hkt
   cases d with
   | bool =>
    simp only [beq_iff_eq] at hkt
    obtain ⟨b, rfl, _⟩ := DataW.trod_bool hu h
    exact ⟨[.bool b], rfl, hkt.symm, by unfold Cn; rw [hu]; exact ⟨b, rfl⟩, by simp [Value.oneCell'], single (.bool b)⟩
   | int k =>
    simp only [beq_iff_eq] at hkt
    obtain ⟨m, rfl, _, hw⟩ := DataW.trod_int hu h
    exact ⟨[.int k m], rfl, hkt.symm, by unfold Cn; rw [hu]; exact ⟨m, rfl, hw⟩, by simp [Value.oneCell'], single (.int k m)⟩
   | string =>
    simp only [beq_iff_eq] at hkt
    obtain ⟨s, rfl, _, hl⟩ := DataW.trod_string hu h
    refine ⟨[.str s.data.toList], rfl, hkt.symm, by unfold Cn; rw [hu]; exact ⟨_, rfl, by rw [Array.length_toList]; exact hl⟩, by simp [Value.oneCell'], single (.str _ s rfl)⟩
   | slice e =>
    simp only [Bool.and_eq_true, beq_iff_eq, decide_eq_true_eq] at hkt
    obtain ⟨⟨hc1, he⟩, hpos⟩ := hkt
    have he := List.contains_iff_mem.1 he
    rcases DataW.trod_slice hu h with ⟨rfl, _⟩ | ⟨a, len, cap, elems, rest, m, hm, rfl, _, hb, hlc, hcm, hel, hget, _, _⟩
    ·refine ⟨[.sl (P.cellsOf e) (fl e) []], rfl, hc1.symm, by unfold Cn; rw [hu]; exact ⟨[], rfl, Nat.zero_le _, fun r hr => by cases hr⟩, by simp [Value.oneCell'], single (.empty _ _ _ _)⟩
    ·obtain rfl : m = n := by omega
     -- the rows
     have hrow : ∀ i, i < len → ∃ us cs' , us.length = P.cellsOf e ∧ Cn P fl m e us ∧ cs'.length = P.cellsOf e ∧ w.cells? base (a.add (i * P.cellsOf e)) (P.cellsOf e) = some cs' ∧ (∀ u ∈ cs', u.oneCell' = true) ∧
       ∀ (j : Nat) (v : V) (u : Value), us[j]? = some v → cs'[j]? = some u → Rd w (fun k => k < w.heap.size) v u := by
      intro i hi
      have h1 := hget i hi
      cases hcs : w.cells? base (a.add (i * P.cellsOf e)) (P.cellsOf e) with
      | none => rw [hcs] at h1; simp at h1; omega
      | some cs' =>
       rw [hcs] at h1
       have hsome : ∃ y, elems[i]? = some y := ⟨_, List.getElem?_eq_getElem (by omega)⟩
       obtain ⟨y, hy⟩ := hsome
       rw [hy] at h1
       obtain ⟨us, g1, g2, g3, g4, g5⟩ := ih e cs' y he h1
       exact ⟨us, cs', by omega, g3, g2, rfl, g4, g5⟩
     have hch : ∀ i : Nat, ∃ us : List V, i < len → us.length = P.cellsOf e ∧ Cn P fl m e us ∧ ∃ cs', cs'.length = P.cellsOf e ∧ w.cells? base (a.add (i * P.cellsOf e)) (P.cellsOf e) = some cs' ∧ (∀ u ∈ cs', u.oneCell' = true) ∧
       ∀ (j : Nat) (v : V) (u : Value), us[j]? = some v → cs'[j]? = some u → Rd w (fun k => k < w.heap.size) v u := by
      intro i
      by_cases hi : i < len
      ·obtain ⟨us, cs', g1, g2, g3, g4, g5, g6⟩ := hrow i hi
       exact ⟨us, fun _ => ⟨g1, g2, cs', g3, g4, g5, g6⟩⟩
      ·exact ⟨[], fun h => absurd h hi⟩
     let F : Nat → List V := fun i => (hch i).choose
     have hF : ∀ i, i < len → _ := fun i hi => (hch i).choose_spec hi
     let mk : List V → V := fun us => match P.underlying e with
      | some (.struct _) => .agg us
      | _ => us.headD .undef
     have hmk : ∀ i, i < len → (mk (F i)).cells = F i := by
      intro i hi
      obtain ⟨g1, g2, _⟩ := hF i hi
      show (match P.underlying e with
       | some (.struct _) => V.agg (F i)
       | _ => (F i).headD .undef).cells = F i
      change (F i).length = P.cellsOf e at g1
      change Cn P fl m e (F i) at g2
      cases m with
      | zero => cases g2
      | succ m =>
       unfold Cn at g2
       split at g2
       ·rename_i hue; obtain ⟨b, hb⟩ := g2; rw [hue, hb]; rfl
       ·rename_i k hue; obtain ⟨b, hb, _⟩ := g2; rw [hue, hb]; rfl
       ·rename_i hue; obtain ⟨b, hb, _⟩ := g2; rw [hue, hb]; rfl
       ·rename_i e' hue; obtain ⟨b, hb, _⟩ := g2; rw [hue, hb]; rfl
       ·rename_i fs hue; rw [hue]; rfl
       ·cases g2
     let rows : List V := (List.range len).map fun i => mk (F i)
     have hrl : rows.length = len := by simp [rows]
     have hrg : ∀ (i : Nat) (r : V), rows[i]? = some r → i < len ∧ r = mk (F i) := by
      intro i r hr
      have hi : i < len := by have := (gs_ hr).1; omega
      refine ⟨hi, ?_⟩
      simp only [rows, List.getElem?_map, List.getElem?_range hi, Option.map_some, sj_] at hr
      exact hr.symm
     refine ⟨[.sl (P.cellsOf e) (fl e) rows], rfl, hc1.symm, ?_, by simp [Value.oneCell'], single ?_⟩
     ·unfold Cn
      rw [hu]
      refine ⟨rows, rfl, by omega, fun r hr => ?_⟩
      obtain ⟨i, hi⟩ := List.getElem?_of_mem hr
      obtain ⟨h1, rfl⟩ := hrg i r hi
      obtain ⟨g1, g2, _⟩ := hF i h1
      exact ⟨F i, g1, g2, rfl⟩
     ·by_cases h0 : len = 0
      ·subst h0
       have : rows = [] := List.eq_nil_of_length_eq_zero hrl
       rw [this]
       exact .empty _ _ _ _
      · -- the address is plain
       have hplain : a.spot = none ∧ a.block < w.heap.size := by
        obtain ⟨_, _, cs', g3, g4, _⟩ := hF 0 (by omega)
        unfold World.cells? at g4
        split at g4
        ·have g5 := mapM_some_get g4 0 0 (List.getElem?_range hpos)
         have g6 : ∃ z, cs'[0]? = some z := ⟨_, List.getElem?_eq_getElem (by omega)⟩
         obtain ⟨z, hz⟩ := g6
         rw [hz] at g5
         have e0 : (a.add (0 * P.cellsOf e)).add 0 = a := by simp [Addr.add]
         rw [e0] at g5
         unfold World.cell? at g5
         split at g5
         ·rename_i cc _ _ hh
          split at g5
          ·cases g5
          ·rename_i hs
           refine ⟨by simpa using hs, ?_⟩
           exact (Array.getElem?_eq_some_iff.1 hh).1
         ·cases g5
        ·cases g4
       obtain ⟨ablk, aoff, aspot⟩ := a
       simp only at hplain
       obtain ⟨rfl, hblk⟩ := hplain
       have haddr : ∀ i j : Nat, ((⟨ablk, aoff, none⟩ : Addr).add i).add j = ⟨ablk, aoff + i + j, none⟩ := by
        intro i j
        by_cases hi : i = 0 <;> by_cases hj : j = 0 <;> simp [Addr.add, hi, hj]
       have hcellat : ∀ i j : Nat, i < len → j < P.cellsOf e → ∃ u, w.cell? ⟨ablk, aoff + i * P.cellsOf e + j, none⟩ = some u ∧ u.oneCell' = true ∧ ∀ v, (F i)[j]? = some v → Rd w (fun k => k < w.heap.size) v u := by
        intro i j hi hj
        obtain ⟨_, _, cs', g3, g4, g5, g6⟩ := hF i hi
        unfold World.cells? at g4
        split at g4
        ·have g7 := mapM_some_get g4 j j (List.getElem?_range hj)
         obtain ⟨z, hz⟩ : ∃ z, cs'[j]? = some z := ⟨_, List.getElem?_eq_getElem (by omega)⟩
         rw [hz, haddr] at g7
         exact ⟨z, g7, g5 z (List.mem_of_getElem? hz), fun v hv => g6 j v z hv hz⟩
        ·cases g4
       refine hrl ▸ .sl (P.cellsOf e) (fl e) rows ablk aoff cap (fun i j => (w.cell? ⟨ablk, aoff + i * P.cellsOf e + j, none⟩).getD undef) (by omega) (by omega) hblk (fun r hr => ?_) (fun hfl r hr v hv => ?_) (fun i j hi hj => ?_) (fun i r j v hr hv => ?_)
       ·obtain ⟨i, hi⟩ := List.getElem?_of_mem hr
        obtain ⟨h1, rfl⟩ := hrg i r hi
        rw [hmk i h1]
        exact (hF i h1).1
       ·obtain ⟨i, hi⟩ := List.getElem?_of_mem hr
        obtain ⟨h1, rfl⟩ := hrg i r hi
        rw [hmk i h1] at hv
        exact cn_flat hk hf m e _ he (hF i h1).2.1 hfl v hv
       ·obtain ⟨u, h1, h2, _⟩ := hcellat i j (by omega) hj
        rw [h1]
        exact ⟨rfl, h2⟩
       ·obtain ⟨h1, rfl⟩ := hrg i r hr
        rw [hmk i h1] at hv
        have hj : j < P.cellsOf e := by rw [← (hF i h1).1]; exact (gs_ hv).1
        obtain ⟨u, h2, _, h3⟩ := hcellat i j h1 hj
        rw [h2]
        exact h3 v hv
   | struct fs =>
    simp only [Bool.and_eq_true, beq_iff_eq, List.all_eq_true] at hkt
    obtain ⟨⟨hfm, hsz⟩, hoff⟩ := hkt
    obtain ⟨xs, m, hm, _, hlen, hxl, hget⟩ := DataW.trod_struct hu h
    obtain rfl : m = n := by omega
    -- the fields
    have hfld : ∀ (i : Nat) (f : Field), fs.toList[i]? = some f → ∃ us : List V, us.length = P.cellsOf f.type ∧ Cn P fl m f.type us ∧ (∀ u ∈ (cs.drop f.offset).take (P.cellsOf f.type), u.oneCell' = true) ∧
      ∀ (j : Nat) (v : V) (u : Value), us[j]? = some v → ((cs.drop f.offset).take (P.cellsOf f.type))[j]? = some u → Rd w (fun k => k < w.heap.size) v u := by
     intro i f hf'
     have hi : i < fs.size := by have := (gs_ hf').1; rwa [Array.length_toList] at this
     have h1 := hget i f (by simpa using hf')
     obtain ⟨y, hy⟩ : ∃ y, xs[i]? = some y := ⟨_, List.getElem?_eq_getElem (by omega)⟩
     rw [hy] at h1
     obtain ⟨us, g1, g2, g3, g4, g5⟩ := ih f.type _ y (List.contains_iff_mem.1 (hfm f (List.mem_of_getElem? hf'))) h1
     exact ⟨us, by omega, g3, g4, g5⟩
    have build : ∀ (gs : List Field) (o : Nat), offsOk P o gs = true → (∀ f ∈ gs, ∃ i : Nat, fs.toList[i]? = some f) → ∃ vs : List V, vs.length = lenSum P gs ∧ (∀ f ∈ gs, o ≤ f.offset ∧ Cn P fl m f.type ((vs.drop (f.offset - o)).take (P.cellsOf f.type))) ∧
      ∀ (j : Nat) (v : V) (u : Value), vs[j]? = some v → cs[o + j]? = some u → Rd w (fun k => k < w.heap.size) v u := by
     intro gs
     induction gs with
     | nil => intro o _ _; exact ⟨[], rfl, fun f hf => by simp at hf, fun j v u h => by simp at h⟩
     | cons f gs ihg =>
      intro o ho hin
      rw [offsOk, Bool.and_eq_true, beq_iff_eq] at ho
      obtain ⟨rfl, ho⟩ := ho
      obtain ⟨i, hi⟩ := hin f (by simp)
      obtain ⟨us, g1, g2, g3, g4⟩ := hfld i f hi
      obtain ⟨vs, k1, k2, k3⟩ := ihg _ ho (fun f hf => hin f (by simp [hf]))
      refine ⟨us ++ vs, by rw [List.length_append, lenSum]; omega, fun f' hf' => ?_, fun j v u hj hu' => ?_⟩
      ·rcases List.mem_cons.1 hf' with rfl | hf'
       ·refine ⟨Nat.le_refl _, ?_⟩
        rw [Nat.sub_self, List.drop_zero, ← g1, List.take_left']
        ·exact g2
        ·rfl
       ·obtain ⟨k4, k5⟩ := k2 f' hf'
        refine ⟨by omega, ?_⟩
        rw [List.drop_append, List.drop_eq_nil_of_le (by omega), List.nil_append, show f'.offset - f.offset - us.length = f'.offset - (f.offset + P.cellsOf f.type) by omega]
        exact k5
      ·rcases Nat.lt_or_ge j us.length with hlt | hge
       ·rw [List.getElem?_append_left hlt] at hj
        refine g4 j v u hj ?_
        rw [List.getElem?_take_of_lt (by omega), List.getElem?_drop]
        exact hu'
       ·rw [List.getElem?_append_right hge] at hj
        refine k3 _ v u hj ?_
        rw [← hu']
        congr 1
        omega
    obtain ⟨vs, k1, k2, k3⟩ := build fs.toList 0 hoff (fun f hf => List.getElem?_of_mem hf)
    refine ⟨vs, by omega, hlen, ?_, fun u hu' => ?_, fun j v u h1 h2 => k3 j v u h1 (by rw [Nat.zero_add]; exact h2)⟩
    ·unfold Cn
     rw [hu]
     exact ⟨by omega, fun f hf => by simpa using (k2 f hf).2⟩
    ·obtain ⟨j, hj⟩ := List.getElem?_of_mem hu'
     have hlt := (gs_ hj).1
     obtain ⟨f, hfm', g1, g2⟩ := mem_part (vs := vs) hoff j (by omega) (by omega)
     obtain ⟨i, hi⟩ := List.getElem?_of_mem hfm'
     obtain ⟨us, q1, q2, q3, q4⟩ := hfld i f hi
     refine q3 u ?_
     have : ((cs.drop f.offset).take (P.cellsOf f.type))[j - f.offset]? = some u := by
      rw [List.getElem?_take_of_lt (by omega), List.getElem?_drop, ← hj]
      congr 1
      omega
     exact List.mem_of_getElem? this
   | _ => cases hkt
end Go.Am
