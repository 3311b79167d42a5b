/-
  An append to a slice of the call's own.
-/
import Derived.Test.YtoljfpgnhfkdcaavAmEff
section
set_option linter.unusedVariables false
set_option linter.unusedSimpArgs false
namespace Go.Am
open Go Go.RowKit
section
variable {P : Program} {c : Cfg} {Γ Γ' : Ctx} {st : St} {a : Act} {w w' : World} {den : Nat → List V → Option V} {η : Nat → Option V} {d : Nat}
theorem rows_mk {S : Nat → Prop} {s : Nat} {xs : List V} {k o : Nat} (h1 : ∀ x ∈ xs, x.cells.length = s)
  (h2 : ∀ (i : Nat) (x : V) (j : Nat) (u : V), xs[i]? = some x → x.cells[j]? = some u → ∃ v, w.cell? ⟨k, o + i * s + j, none⟩ = some v ∧ v.oneCell' = true ∧ Rd w S u v) : Rows w S s xs k o := by
 refine ⟨h1, fun i j => (w.cell? ⟨k, o + i * s + j, none⟩).getD undef, fun i j hi hj => ?_, fun i x j u hx hu => ?_⟩
 ·obtain ⟨x, hx⟩ : ∃ x, xs[i]? = some x := ⟨_, List.getElem?_eq_getElem hi⟩
  obtain ⟨u, hu⟩ : ∃ u, x.cells[j]? = some u := ⟨_, List.getElem?_eq_getElem (by rw [h1 x (mem_of_get hx)]; exact hj)⟩
  obtain ⟨v, e1, e2, _⟩ := h2 i x j u hx hu
  simp only [e1, Option.getD_some]
  exact ⟨trivial, e2⟩
 ·obtain ⟨v, e1, _, e3⟩ := h2 i x j u hx hu
  simp only [e1, Option.getD_some]
  exact e3
theorem Rows.at_ {S : Nat → Prop} {s : Nat} {xs : List V} {k o : Nat} (h : Rows w S s xs k o) {i : Nat} {x : V} {j : Nat} {u : V} (hx : xs[i]? = some x) (hu : x.cells[j]? = some u) :
  i < xs.length ∧ j < s ∧ ∃ v, w.cell? ⟨k, o + i * s + j, none⟩ = some v ∧ v.oneCell' = true ∧ Rd w S u v := by
 obtain ⟨r1, g, r2, r3⟩ := h
 have hi := (List.getElem?_eq_some_iff.1 hx).1
 have hj : j < s := by rw [← r1 x (mem_of_get hx)]; exact (List.getElem?_eq_some_iff.1 hu).1
 exact ⟨hi, hj, g i j, (r2 i j hi hj).1, (r2 i j hi hj).2, r3 i x j u hx hu⟩
theorem trRows_mk {N : Nat → Prop} {s : Nat} {xs : List V} {k o : Nat} (h1 : ∀ x ∈ xs, x.cells.length = s) (T : Nat → Nat → Nat → Prop)
  (h2 : ∀ (i : Nat) (x : V) (j : Nat) (u : V), xs[i]? = some x → x.cells[j]? = some u → ∃ v, w.cell? ⟨k, o + i * s + j, none⟩ = some v ∧ Tr w u v (T i j))
  (h3 : ∀ i j i' j' m, T i j m → T i' j' m → i = i' ∧ j = j') (h4 : ∀ i j m, T i j m → N m) : TrRows w N s xs k o := by
 refine ⟨fun i j => (w.cell? ⟨k, o + i * s + j, none⟩).getD undef, T, fun i j hi hj => ?_, fun i x j u hx hu => ?_, h3, h4⟩
 ·obtain ⟨x, hx⟩ : ∃ x, xs[i]? = some x := ⟨_, List.getElem?_eq_getElem hi⟩
  obtain ⟨u, hu⟩ : ∃ u, x.cells[j]? = some u := ⟨_, List.getElem?_eq_getElem (by rw [h1 x (mem_of_get hx)]; exact hj)⟩
  obtain ⟨v, e1, _⟩ := h2 i x j u hx hu
  simp only [e1, Option.getD_some]
 ·obtain ⟨v, e1, e3⟩ := h2 i x j u hx hu
  simp only [e1, Option.getD_some]
  exact e3
theorem tr_at {s : Nat} {xs : List V} {k o : Nat} {g : Nat → Nat → Value} {T : Nat → Nat → Nat → Prop} (r1 : ∀ x ∈ xs, x.cells.length = s) (r2 : ∀ i j : Nat, i < xs.length → j < s → w.cell? ⟨k, o + i * s + j, none⟩ = some (g i j))
  (r3 : ∀ (i : Nat) (x : V) (j : Nat) (c : V), xs[i]? = some x → x.cells[j]? = some c → Tr w c (g i j) (T i j)) {i : Nat} {x : V} {j : Nat} {u : V} (hx : xs[i]? = some x) (hu : x.cells[j]? = some u) :
  ∃ v, w.cell? ⟨k, o + i * s + j, none⟩ = some v ∧ Tr w u v (T i j) := by
 have hi := (List.getElem?_eq_some_iff.1 hx).1
 have hj : j < s := by rw [← r1 x (mem_of_get hx)]; exact (List.getElem?_eq_some_iff.1 hu).1
 exact ⟨g i j, r2 i j hi hj, r3 i x j u hx hu⟩
theorem rowPos {i n s j : Nat} (hi : i < n) (hj : j < s) : i * s + j < n * s := by
 have := Nat.mul_le_mul_right s (show i + 1 ≤ n from hi)
 rw [Nat.add_mul, Nat.one_mul] at this
 omega
theorem mulLe {n m s : Nat} (h : n ≤ m) : n * s ≤ m * s := Nat.mul_le_mul_right s h
theorem cell_of {k j : Nat} {cur : Array Value} {e : TypeId} (h : w.heap[k]? = some (.cells cur e (0, 0))) : w.cell? ⟨k, j, none⟩ = cur[j]? := by simp [World.cell?, h]
theorem addS_lt (g : Good Γ w) {esc : List Nat} {k : Nat} (h : addS Γ esc k) : k < w.heap.size := by
 rcases h with h | ⟨b, _, hb, rfl⟩
 ·exact g.slt k h
 ·exact (g.base b hb).2.1
theorem addS_box (g : Good Γ w) {esc : List Nat} {k : Nat} (hk : Γ.lb k) : ¬ addS Γ esc (Γ.box k) := by
 rintro (h | ⟨b, _, hb, h⟩)
 ·exact (g.box k hk).2.1 h
 ·exact g.baseBox b k hb hk h.symm
theorem addS_base (g : Good Γ w) {esc : List Nat} {b : Nat} (hb : Γ.has b) (hS : ¬ Γ.S (Γ.blk b)) (he : esc.contains b = false) : ¬ addS Γ esc (Γ.blk b) := by
 rintro (h | ⟨b', h1, h2, h⟩)
 ·exact hS h
 ·have := g.baseInj b b' hb h2 h
  subst this
  simp [h1] at he
theorem Good.write {b : Nat} {cur cs : Array Value} {e : TypeId} {esc : List Nat} {N' : Nat → Nat → Prop} {U' : Prop} (g : Good Γ w) (hb : Γ.has b) (hcur : w.heap[Γ.blk b]? = some (.cells cur e (0, 0))) (hsz : cs.size = cur.size) (hN' : ∀ b', Γ.has b' → ∀ m, N' b' m → addS Γ esc m ∧ Γ.Z m) :
  Good { Γ with S := addS Γ esc, N := N', U := U' } (w.setRow (Γ.blk b) cs) := by
 have hoth : ∀ (k : Nat), k ≠ Γ.blk b → (w.setRow (Γ.blk b) cs).heap[k]? = w.heap[k]? := fun k hk => setRow_other w _ k cs hk
 refine ⟨g.os, g.tape, g.output, by rw [setRow_size]; exact g.size, fun k hk hF => ?_, g.new, fun k hk => by rw [setRow_size]; exact addS_lt g hk, fun b' hb1 => ?_, g.baseInj, fun k hk => ?_, g.boxInj, g.baseBox, addS_sr g, g.gl, g.bz, fun k hk => ?_, hN', g.h9⟩
 ·exact (hoth k (fun e => hF (e ▸ (g.base b hb).1))).trans (g.old k hk hF)
 ·obtain ⟨e1, e2, e3, cur', e', e4, e5⟩ := g.base b' hb1
  refine ⟨e1, by rw [setRow_size]; exact e2, e3, ?_⟩
  by_cases hbb : Γ.blk b' = Γ.blk b
  ·refine ⟨cs, e, ?_, ?_⟩
   ·show (w.setRow (Γ.blk b) cs).heap[Γ.blk b']? = _
    rw [hbb]
    exact setRow_heap w _ cur cs e _ hcur
   ·rw [hbb, hcur] at e4
    simp only [Option.some.injEq, Obj.cells.injEq] at e4
    show Γ.off b' + Γ.cap b' * Γ.sz b' ≤ cs.size
    rw [hsz, e4.1]
    exact e5
  ·exact ⟨cur', e', (hoth _ hbb).trans e4, e5⟩
 ·obtain ⟨e1, _, e3⟩ := g.box k hk
  exact ⟨e1, addS_box g hk, by rw [setRow_size]; exact e3⟩
 ·obtain ⟨z1, z2, cur', e', h'⟩ := g.zf k hk
  refine ⟨z1, by rw [setRow_size]; exact z2, ?_⟩
  by_cases hbb : k = Γ.blk b
  ·subst hbb
   exact ⟨cs, e, setRow_heap w _ cur cs e _ hcur⟩
  ·exact ⟨cur', e', (hoth _ hbb).trans h'⟩
theorem VR.write {v : V} {x : Value} {b : Nat} {cs : Array Value} {esc : List Nat} {ln : Nat → Nat} {N' : Nat → Nat → Prop} {U' : Prop} (g : Good Γ w) (h : VR Γ w v x) (hb : Γ.has b) (hS : ¬ Γ.S (Γ.blk b)) (hp : v.anyB (fun b' => b' == b) = false) (hln : ∀ b', b' ≠ b → ln b' = Γ.ln b')
  (hU : U' → Γ.U) (hN : ∀ b', b' ≠ b → ∀ m, Γ.N b' m → N' b' m) :
  VR { Γ with S := addS Γ esc, ln := ln, N := N', U := U' } (w.setRow (Γ.blk b) cs) v x := by
 refine VR.mono (Γ := Γ) (Γ' := { Γ with S := addS Γ esc, ln := ln, N := N', U := U' }) (w := w) (w' := w.setRow (Γ.blk b) cs) (p := fun b' => b' == b) (r := fun _ => false) hU (fun _ h => .inl h) (fun _ h => h) (fun k hk => cell?_of_heap (setRow_other w _ k cs (fun e => hS (e ▸ hk))))
  (fun b' hb' => ⟨Iff.rfl, fun hh => ⟨rfl, rfl, rfl, rfl, hln b' (by simpa using hb'), hN b' (by simpa using hb'), cell?_of_heap (setRow_other w _ _ cs (fun e => ?_))⟩⟩) (fun _ _ => ⟨fun h => h, rfl⟩) h hp (anyP_false _)
 have := g.baseInj b' b hh hb e
 subst this
 simp at hb'
theorem cellQ_ok {S' : Nat → Prop} {q q' : Q} {u : V} {y : Value} (h1 : Rd w Γ.S u y) (h2 : q.good = true → Rd w (fun k => Γ.S k ∧ Γ.Z k) u y) (hS : ∀ k, Γ.S k → Γ'.S k) (hF : ∀ k, Γ.Z k → Γ'.Z k) (hq : q'.good = true → q.good = true)
  (hc : ∀ k, Γ.S k → ∀ o, w'.cell? ⟨k, o, none⟩ = w.cell? ⟨k, o, none⟩) : Rd w' (Γ'.Sq q') u y := by
 cases q' with
 | any => exact h1.mono hS hc
 | flat => exact (h2 (hq rfl)).mono (fun k hk => ⟨hS k hk.1, hF k hk.2⟩) (fun k hk => hc k hk.1)
 | clean => exact (h2 (hq rfl)).mono (fun k hk => ⟨hS k hk.1, hF k hk.2⟩) (fun k hk => hc k hk.1)
theorem Sq_rd {q : Q} {u : V} {y : Value} (h : Rd w (Γ.Sq q) u y) : Rd w Γ.S u y ∧ (q.good = true → Rd w (fun k => Γ.S k ∧ Γ.Z k) u y) := by
 refine ⟨h.mono (fun k hk => Sq_le hk) (fun _ _ _ => rfl), fun hq => ?_⟩
 cases q with
 | any => cases hq
 | flat => exact h
 | clean => exact h
theorem flat_isCell {v u : V} (h : flat v = some u) : u.isCell = true := by
 cases v <;> simp only [flat, Option.some.injEq] at h <;> first | (cases h; done) | (subst h; rfl)
theorem renew_one (b : Nat) (q : Q) (ys : List V) : ∀ v u, renew b q ys v = some u → u.cells = [u] := by
 intro v u h
 cases v <;> simp only [renew] at h <;> first
  | (cases h; done)
  | (split at h <;> first
    | (simp only [Option.some.injEq] at h; subst h; first | rfl | (split <;> rfl))
    | cases h)
theorem poison_one (b : Nat) : ∀ v u, poison b v = some u → u.cells = [u] := by
 intro v u h
 cases v <;> simp only [poison] at h <;> first
  | (cases h; done)
  | (split at h <;> first
    | (simp only [Option.some.injEq] at h; subst h; rfl)
    | cases h)
theorem allCell_nils : ∀ (zs cs : List V), allCell cs = true → allCell (nilCells zs cs) = true := by
 intro zs
 induction zs with
 | nil => intro cs h; cases cs <;> exact h
 | cons z zs ih =>
  intro cs h
  cases cs with
  | nil => rfl
  | cons v cs =>
   rw [allCell, Bool.and_eq_true] at h
   rw [nilCells, allCell, Bool.and_eq_true]
   refine ⟨?_, ih cs h.2⟩
   unfold nilCell
   split
   ·rfl
   ·exact h.1
theorem allCell_nil {zs : List V} {v : V} (h : allCell v.cells = true) : allCell (nilRow zs v).cells = true := by
 rw [nilRow_cells]
 exact allCell_nils _ _ h
theorem Sim.putRow {b s : Nat} {q : Q} {xs ys : List V} {k o : Nat} {v : V} {x px : Value} {new : List V} (hs : Sim Γ st a w) (hp : VR Γ w (.eptr b s q xs k o) px) (hdead : st.dead b = false) (hv : VR Γ w v x)
  (hc : allCell v.cells = true) (hesc : (cellsB v.cells).contains b = false) (hn : flats v.cells = some new) (hst : storeRow xs k o new = some ys) :
  ∃ cur e, px = .pointer (some ⟨Γ.blk b, Γ.off b + k * s + o, none⟩) ∧ w.heap[Γ.blk b]? = some (.cells cur e (0, 0)) ∧ Γ.off b + k * s + o + x.cells.size ≤ cur.size ∧
   Sims Γ (((st.sweep (renew b (q.join (cellsQ v.cells)) ys)).kill (cellsB v.cells)).mark (!moveOk st.dead (cellsB v.cells))) a (w.setRow (Γ.blk b) (cur.toList.take (Γ.off b + k * s + o) ++ x.cells.toList ++ cur.toList.drop (Γ.off b + k * s + o + x.cells.size)).toArray) := by
 obtain ⟨rfl, hb, hsz, hcap, hk, hrow, hq⟩ := hp.eptr_inv
 have g := hs.good
 have hS := hs.nds b hb hdead
 obtain ⟨gF, glt, gm, cur, e, hcur, hfit⟩ := g.base b hb
 have hlen := hv.cellLen (isCell_def hc)
 have hcl := hv.cells hlen
 obtain ⟨n1, n2⟩ := flats_get hn
 unfold storeRow at hst
 cases hxk : xs[k]? with
 | none => rw [hxk] at hst; cases hst
 | some rx =>
  rw [hxk] at hst
  simp only at hst
  cases hov : over rx.cells o new with
  | none => rw [hov] at hst; cases hst
  | some cs =>
   rw [hov] at hst
   simp only [Option.some.injEq] at hst
   obtain ⟨l1, l2⟩ := over_len hov
   have hrl := hrow.1 rx (mem_of_get hxk)
   have hks := mulLe (s := s) (show k + 1 ≤ xs.length from hk)
   rw [Nat.add_mul, Nat.one_mul] at hks
   have hxc := mulLe (s := s) hcap.1
   have hfit1 : Γ.off b + k * s + o + x.cells.size ≤ cur.size := by rw [← hsz] at hfit; omega
   refine ⟨cur, e, rfl, hcur, hfit1, ?_⟩
   have hfit2 : Γ.off b + k * s + o + x.cells.toList.length ≤ cur.toList.length := by simpa using hfit1
   have hget := fun j => seg_get cur.toList x.cells.toList (Γ.off b + k * s + o) j hfit2
   have hsl := seg_len cur.toList x.cells.toList (Γ.off b + k * s + o) hfit2
   simp only [Array.length_toList] at hget hsl
   let Γ' : Ctx := { Γ with S := addS Γ (cellsB v.cells), N := fun b' m => if b' = b then Γ.N b m ∨ ∃ b1 ∈ cellsB v.cells, Γ.has b1 ∧ (m = Γ.blk b1 ∨ Γ.N b1 m) else Γ.N b' m, U := Γ.U ∧ moveOk st.dead (cellsB v.cells) = true }
   have hN0 : ∀ m, Γ'.N b m → Γ.N b m ∨ ∃ b1 ∈ cellsB v.cells, Γ.has b1 ∧ (m = Γ.blk b1 ∨ Γ.N b1 m) := fun m h => by simpa [Γ'] using h
   have hN1 : ∀ b' m, b' ≠ b → Γ'.N b' m → Γ.N b' m := fun b' m hb h => by simpa [Γ', hb] using h
   have hN2 : ∀ b' m, b' ≠ b → Γ.N b' m → Γ'.N b' m := fun b' m hb h => by simpa [Γ', hb] using h
   have hNZ : ∀ m, (Γ.N b m ∨ ∃ b1 ∈ cellsB v.cells, Γ.has b1 ∧ (m = Γ.blk b1 ∨ Γ.N b1 m)) → addS Γ (cellsB v.cells) m ∧ Γ.Z m := fun m h => by
    rcases h with h | ⟨b1, h1, h2, rfl | h3⟩
    ·exact ⟨.inl (g.ns b hb m h).1, (g.ns b hb m h).2⟩
    ·exact ⟨.inr ⟨b1, h1, h2, rfl⟩, g.bz b1 h2⟩
    ·exact ⟨.inl (g.ns b1 h2 m h3).1, (g.ns b1 h2 m h3).2⟩
   have hNS := fun m h => (hNZ m h).1
   let cs' := (cur.toList.take (Γ.off b + k * s + o) ++ x.cells.toList ++ cur.toList.drop (Γ.off b + k * s + o + x.cells.size)).toArray
   have hcs' : cs'.size = cur.size := hsl
   have hgood : Good Γ' (w.setRow (Γ.blk b) cs') := g.write hb hcur hcs' (fun b' hb' m hm => by
    by_cases hbb : b' = b
    ·rw [if_pos hbb] at hm; exact hNZ m hm
    ·rw [if_neg hbb] at hm; exact ⟨.inl (g.ns b' hb' m hm).1, (g.ns b' hb' m hm).2⟩)
   have hcs : ∀ c ∈ cs, c.isCell = true ∨ c ∈ rx.cells := by
    intro u hu
    obtain ⟨j, hj⟩ := List.getElem?_of_mem hu
    rw [over_get hov j] at hj
    split at hj
    ·obtain ⟨z, _, hz⟩ := n2 _ _ hj
     exact .inl (flat_isCell hz)
    ·exact .inr (mem_of_get hj)
   have hrc := reshape_cells (r := rx) l1 hcs
   have hSn : ¬ addS Γ (cellsB v.cells) (Γ.blk b) := addS_base g hb hS hesc
   have hsame : ∀ k', addS Γ (cellsB v.cells) k' → ∀ o', (w.setRow (Γ.blk b) cs').cell? ⟨k', o', none⟩ = w.cell? ⟨k', o', none⟩ := fun k' hk' => cell?_of_heap (setRow_other w _ k' cs' (fun e => hSn (e ▸ hk')))
   have hheap : (w.setRow (Γ.blk b) cs').heap[Γ.blk b]? = some (.cells cs' e (0, 0)) := setRow_heap w _ cur cs' e _ hcur
   have hcell : ∀ j, (w.setRow (Γ.blk b) cs').cell? ⟨Γ.blk b, j, none⟩ = if Γ.off b + k * s + o ≤ j ∧ j < Γ.off b + k * s + o + x.cells.size then x.cells[j - (Γ.off b + k * s + o)]? else cur[j]? := by
    intro j
    rw [cell_of hheap]
    show (List.toArray _)[j]? = _
    rw [List.getElem?_toArray, hget]
    simp
   have hgq : ∀ q0 : Q, (q.join (cellsQ v.cells)).good = true → q.good = true := fun _ h => (join_good h).1
   -- an old cell, kept
   have hold : ∀ (i : Nat) (rw_ : V) (j : Nat) (u : V), xs[i]? = some rw_ → rw_.cells[j]? = some u → (i ≠ k ∨ ¬ (o ≤ j ∧ j < o + x.cells.size)) →
     ∃ z, (w.setRow (Γ.blk b) cs').cell? ⟨Γ.blk b, Γ.off b + i * s + j, none⟩ = some z ∧ z.oneCell' = true ∧ Rd (w.setRow (Γ.blk b) cs') (Γ'.Sq (q.join (cellsQ v.cells))) u z := by
    intro i rw_ j u h1 h2 h3
    obtain ⟨hi, hj, z, e1, e2, e3⟩ := hrow.at_ h1 h2
    refine ⟨z, ?_, e2, ?_⟩
    ·rw [hcell, if_neg, ← cell_of hcur]
     ·exact e1
     ·rcases Nat.lt_trichotomy i k with h4 | h4 | h4
      ·have := rowPos (j := j) h4 hj
       omega
      ·subst h4
       rcases h3 with h3 | h3
       ·exact absurd rfl h3
       ·omega
      ·have := mulLe (s := s) (show k + 1 ≤ i from h4)
       rw [Nat.add_mul, Nat.one_mul] at this
       omega
    ·obtain ⟨f1, f2⟩ := Sq_rd e3
     exact cellQ_ok (S' := Γ.S) f1 f2 (fun _ h => .inl h) (fun _ h => h) (hgq q) (fun k' hk' => hsame k' (.inl hk'))
   have hrows : Rows (w.setRow (Γ.blk b) cs') (Γ'.Sq (q.join (cellsQ v.cells))) s ys (Γ.blk b) (Γ.off b) := by
    refine rows_mk (fun r hr => ?_) (fun i r j u hr hu => ?_)
    ·rw [← hst] at hr
     rcases List.mem_or_eq_of_mem_set hr with hr | rfl
     ·exact hrow.1 r hr
     ·rw [hrc, l1]; exact hrl
    ·rw [← hst, List.getElem?_set] at hr
     split at hr
     ·rename_i hik
      subst hik
      try rw [if_pos hk] at hr
      simp only [Option.some.injEq] at hr
      subst hr
      rw [hrc, over_get hov] at hu
      have hnl : new.length = x.cells.size := by omega
      rw [hnl] at hu
      split at hu
      ·rename_i hjj
       obtain ⟨z, z1, z2⟩ := n2 _ _ hu
       obtain ⟨y, y1, y2⟩ := hcl _ _ z1
       obtain ⟨f1, f2, f3, f4⟩ := flat_ok (S' := addS Γ (cellsB v.cells)) g y2 z2 (fun _ h => .inl h) (fun b1 hb1 hh => .inr ⟨b1, cellsB_mem (mem_of_get z1) b1 hb1, hh, rfl⟩)
       refine ⟨y, ?_, f2, ?_⟩
       ·rw [hcell, if_pos (by omega), ← y1]
        congr 1
        omega
       ·have hqq : (q.join (cellsQ v.cells)).good = true → Rd w (fun k => addS Γ (cellsB v.cells) k ∧ Γ.Z k) u y := fun h => f3 (cellsQ_good (join_good h).2 z (mem_of_get z1))
        cases hqj : q.join (cellsQ v.cells) with
        | any => exact f1.mono (fun _ h => h) hsame
        | flat => exact (hqq (by rw [hqj]; rfl)).mono (fun _ h => h) (fun k' hk' => hsame k' hk'.1)
        | clean => exact (hqq (by rw [hqj]; rfl)).mono (fun _ h => h) (fun k' hk' => hsame k' hk'.1)
      ·rename_i hjj
       exact hold _ rx j u hxk hu (.inr hjj)
     ·rename_i hik
      exact hold i r j u hr hu (.inl (fun e => hik e.symm))
   have hflat : flatOk (q.join (cellsQ v.cells)) ys := by
    intro hqf r hr u hu
    obtain ⟨j1, j2⟩ := join_flat hqf
    rw [← hst] at hr
    rcases List.mem_or_eq_of_mem_set hr with hr | rfl
    ·exact hq j1 r hr u hu
    ·rw [hrc] at hu
     obtain ⟨j, hj⟩ := List.getElem?_of_mem hu
     rw [over_get hov j] at hj
     split at hj
     ·obtain ⟨z, z1, z2⟩ := n2 _ _ hj
      obtain ⟨y, y1, y2⟩ := hcl _ _ z1
      exact (flat_ok (S' := addS Γ (cellsB v.cells)) g y2 z2 (fun _ h => .inl h) (fun b1 hb1 hh => .inr ⟨b1, cellsB_mem (mem_of_get z1) b1 hb1, hh, rfl⟩)).2.2.2 (cellsQ_flat j2 z (mem_of_get z1))
     ·exact hq j1 rx (mem_of_get hxk) u (mem_of_get hj)
   have hyl : ys.length = xs.length := by rw [← hst, List.length_set]
   have no9 : ∀ b, Γ.has b → b ≠ 999 := fun b hb e => g.h9 (e ▸ hb)
   have huq : Γ'.Uq (w.setRow (Γ.blk b) cs') (q.join (cellsQ v.cells)) b s ys (Γ.blk b) (Γ.off b) := by
    rintro hqc ⟨hU, hmv⟩
    have hgd : (q.join (cellsQ v.cells)).good = true := by rw [hqc]; rfl
    obtain ⟨gg, T, t1, t2, t3, t4⟩ := Uq_tr hp.eptr_uq hrow hq (join_good hgd).1 hU
    have hsame2 : ∀ (T0 : Nat → Prop) (u : V) (z : Value), Tr w u z T0 → (∀ m, T0 m → addS Γ (cellsB v.cells) m) → Tr (w.setRow (Γ.blk b) cs') u z T0 := fun T0 u z h h2 => h.mono (fun k' hk' => hsame k' (h2 k' hk'))
    let T' : Nat → Nat → Nat → Prop := fun i j m => if i = k ∧ o ≤ j ∧ j < o + x.cells.size then ∃ z, v.cells[j - o]? = some z ∧ ∃ b1 ∈ cellB z, Γ.has b1 ∧ (m = Γ.blk b1 ∨ Γ.N b1 m) else T i j m
    have hT1 : ∀ i j, (i = k ∧ o ≤ j ∧ j < o + x.cells.size) → ∀ m, T' i j m → ∃ z, v.cells[j - o]? = some z ∧ ∃ b1 ∈ cellB z, Γ.has b1 ∧ (m = Γ.blk b1 ∨ Γ.N b1 m) := fun i j h m hm => by
     have e : T' i j m = _ := if_pos h
     rw [e] at hm; exact hm
    have hT2 : ∀ i j, ¬ (i = k ∧ o ≤ j ∧ j < o + x.cells.size) → ∀ m, T' i j m → T i j m := fun i j h m hm => by
     have e : T' i j m = T i j m := if_neg h
     rw [e] at hm; exact hm
    have hmem : ∀ {i : Nat} {z : V} {b1 : Nat}, v.cells[i]? = some z → b1 ∈ cellB z → b1 ∈ cellsB v.cells := fun h1 h2 => cellsB_mem (mem_of_get h1) _ h2
    have hne : ∀ b1, b1 ∈ cellsB v.cells → b1 ≠ b := fun b1 h1 e => by subst e; simp [h1] at hesc
    have hcross : ∀ i j i' j' m, (i = k ∧ o ≤ j ∧ j < o + x.cells.size) → ¬ (i' = k ∧ o ≤ j' ∧ j' < o + x.cells.size) → T' i j m → T' i' j' m → False := fun i j i' j' m c1 c2 m1 m2 => by
     obtain ⟨z, z1, b1, z2, z3, z4⟩ := hT1 i j c1 m m1
     have := (t4 i' j' m (hT2 i' j' c2 m m2)).1
     exact hs.apart hU z3 hb (moveOk_live hmv b1 (hmem z1 z2) (no9 b1 z3)) hdead (hne b1 (hmem z1 z2)) z4 (.inr this)
    refine trRows_mk hrows.1 T' (fun i r j u hr hu => ?_) (fun i j i' j' m m1 m2 => ?_) (fun i j m hm => ?_)
    ·have hold2 : ∀ rw_, xs[i]? = some rw_ → rw_.cells[j]? = some u → ¬ (i = k ∧ o ≤ j ∧ j < o + x.cells.size) → ∃ z, (w.setRow (Γ.blk b) cs').cell? ⟨Γ.blk b, Γ.off b + i * s + j, none⟩ = some z ∧ Tr (w.setRow (Γ.blk b) cs') u z (T' i j) := fun rw_ e1 e2 c => by
      obtain ⟨z, z1, _, _⟩ := hold i rw_ j u e1 e2 (by
       by_cases hik : i = k
       ·exact .inr (fun h => c ⟨hik, h⟩)
       ·exact .inl hik)
      obtain ⟨hi, hj, z', z2, _, _⟩ := hrow.at_ e1 e2
      obtain ⟨z'', z3, z4⟩ := tr_at hrow.1 t1 t2 e1 e2
      rw [z2] at z3
      injection z3 with z3
      subst z3
      have hpos : ¬ (Γ.off b + k * s + o ≤ Γ.off b + i * s + j ∧ Γ.off b + i * s + j < Γ.off b + k * s + o + x.cells.size) := by
       rcases Nat.lt_trichotomy i k with h4 | h4 | h4
       ·have := rowPos (j := j) h4 hj
        omega
       ·subst h4
        intro h
        exact c ⟨rfl, by omega, by omega⟩
       ·have := mulLe (s := s) (show k + 1 ≤ i from h4)
        rw [Nat.add_mul, Nat.one_mul] at this
        omega
      refine ⟨z', ?_, ?_⟩
      ·rw [hcell, if_neg hpos, ← cell_of hcur]
       exact z2
      ·rw [show T' i j = T i j from funext fun m => if_neg c]
       exact hsame2 _ _ _ z4 (fun m hm => .inl (t4 i j m hm).2)
     rw [← hst, List.getElem?_set] at hr
     split at hr
     ·rename_i hik
      subst hik
      try rw [if_pos hk] at hr
      simp only [Option.some.injEq] at hr
      subst hr
      rw [hrc, over_get hov] at hu
      have hnl : new.length = x.cells.size := by omega
      rw [hnl] at hu
      split at hu
      ·rename_i hjj
       obtain ⟨z, z1, z2⟩ := n2 _ _ hu
       obtain ⟨y, y1, y2⟩ := hcl _ _ z1
       refine ⟨y, ?_, ?_⟩
       ·rw [hcell, if_pos (by omega), ← y1]
        congr 1
        omega
       ·rw [show T' k j = _ from funext fun m => if_pos ⟨rfl, hjj⟩]
        refine hsame2 _ _ _ ((flat_tr y2 z2 (cellsQ_good (join_good hgd).2 z (mem_of_get z1)) hU (fun b1 hb1 hh => hs.nds b1 hh (moveOk_live hmv b1 (hmem z1 hb1) (no9 b1 hh)))).weaken (fun m hm => ⟨z, z1, hm⟩)) (fun m ⟨z', q1, b1, q2, q3, q4⟩ => hNS m (.inr ⟨b1, hmem q1 q2, q3, q4⟩))
      ·rename_i hjj
       exact hold2 rx hxk hu (fun h => hjj h.2)
     ·rename_i hik
      exact hold2 r hr hu (fun h => hik h.1.symm)
    ·by_cases c1 : i = k ∧ o ≤ j ∧ j < o + x.cells.size
     ·by_cases c2 : i' = k ∧ o ≤ j' ∧ j' < o + x.cells.size
      ·obtain ⟨z, z1, b1, z2, z3, z4⟩ := hT1 i j c1 m m1
       obtain ⟨z', z1', b1', z2', z3', z4'⟩ := hT1 i' j' c2 m m2
       have hbb : b1 = b1' := Classical.byContradiction fun hne => hs.apart hU z3 z3' (moveOk_live hmv b1 (hmem z1 z2) (no9 b1 z3)) (moveOk_live hmv b1' (hmem z1' z2') (no9 b1' z3')) hne z4 z4'
       subst hbb
       have := cellB_nodup hmv _ _ z z' b1 z1 z1' z2 z2' (no9 b1 z3)
       exact ⟨c1.1.trans c2.1.symm, by omega⟩
      ·exact (hcross i j i' j' m c1 c2 m1 m2).elim
     ·by_cases c2 : i' = k ∧ o ≤ j' ∧ j' < o + x.cells.size
      ·exact (hcross i' j' i j m c2 c1 m2 m1).elim
      ·exact t3 i j i' j' m (hT2 i j c1 m m1) (hT2 i' j' c2 m m2)
    ·by_cases c1 : i = k ∧ o ≤ j ∧ j < o + x.cells.size
     ·obtain ⟨z, z1, b1, z2, z3, z4⟩ := hT1 i j c1 m hm
      have : Γ.N b m ∨ ∃ b1 ∈ cellsB v.cells, Γ.has b1 ∧ (m = Γ.blk b1 ∨ Γ.N b1 m) := .inr ⟨b1, hmem z1 z2, z3, z4⟩
      exact ⟨by simpa [Γ'] using this, hNS m this⟩
     ·have h4 := t4 i j m (hT2 i j c1 m hm)
      have : Γ.N b m ∨ ∃ b1 ∈ cellsB v.cells, Γ.has b1 ∧ (m = Γ.blk b1 ∨ Γ.N b1 m) := .inl h4.1
      exact ⟨by simpa [Γ'] using this, hNS m this⟩
   refine ⟨Γ', ⟨rfl, rfl, rfl⟩, ?_⟩
   refine Sim.sweep (f := renew b (q.join (cellsQ v.cells)) ys) (dead := fun b' => (cellsB v.cells).contains b' || st.dead b') (dup := !moveOk st.dead (cellsB v.cells) || st.dup) hs ?_ (renew_one b _ ys) hgood (fun _ h => h) (fun _ => rfl) (fun k' hk' => setRow_other w _ _ cs' (fun e => g.baseBox b k' hb hk' e.symm)) ?_ (fun h => ?_) ?_
   ·intro u y hleaf hu
    have keep : u.anyB (fun b' => b' == b) = false → VR Γ' (w.setRow (Γ.blk b) cs') u y := fun h => hu.write g hb hS h (fun _ _ => rfl) (fun h => h.1) (fun b' hb' m hm => hN2 b' m hb' hm)
    cases u with
    | own b' s' q' zs =>
     simp only [renew]
     split
     ·rename_i hbb
      subst hbb
      simp only [Option.getD_some]
      rcases hu.own_inv with ⟨_, _, h3⟩ | ⟨h1, _, h3, h4, _⟩
      ·exact absurd hb h3
      ·have hzl : zs.length = ys.length := by rw [hyl, h4.2, hcap.2]
       have := VR.own (Γ := Γ') (w := w.setRow (Γ.blk b') cs') b' s' (q.join (cellsQ v.cells)) ys hb h3 (by rw [hyl]; exact hcap) (by rw [h3, ← hsz]; exact hrows) hflat (by rw [h3, ← hsz]; exact huq)
       rw [h1, hzl]
       exact this
     ·rename_i hbb
      exact keep (by simpa [V.anyB] using hbb)
    | view b' s' q' zs =>
     simp only [renew]
     split
     ·exact VR.undef_ _
     ·rename_i hbb
      exact keep (by simpa [V.anyB] using hbb)
    | eptr b' s' q' zs i' o' =>
     simp only [renew]
     split
     ·exact VR.undef_ _
     ·rename_i hbb
      exact keep (by simpa [V.anyB] using hbb)
    | vptr b' z o' =>
     simp only [renew]
     split
     ·exact VR.undef_ _
     ·rename_i hbb
      exact keep (by simpa [V.anyB] using hbb)
    | agg _ => cases hleaf
    | tup _ => cases hleaf
    | clo _ _ => cases hleaf
    | _ => exact keep rfl
   ·intro b' hb' hdd
    simp only [Bool.or_eq_false_iff] at hdd
    exact addS_base g hb' (hs.nds b' hb' hdd.2) hdd.1
   ·simp only [Bool.or_eq_false_iff, Bool.not_eq_false'] at h
    exact ⟨hs.du h.2, h.1⟩
   ·rintro ⟨hU, hmv⟩ b1 b2 k1 k2 d1 d2 hne m m1 m2
    simp only [Bool.or_eq_false_iff] at d1 d2
    have aux : ∀ b2, Γ.has b2 → (cellsB v.cells).contains b2 = false → st.dead b2 = false → b2 ≠ b → Γ'.N b m → Γ'.N b2 m → False := fun b2 k2 c2 d2 hne m1 m2 => by
     have m2 := hN1 b2 m hne m2
     rcases hN0 m m1 with m1 | ⟨b3, j1, j2, j3⟩
     ·exact hs.nd hU b b2 hb k2 hdead d2 hne.symm m m1 m2
     ·exact hs.apart hU j2 k2 (moveOk_live hmv b3 j1 (no9 b3 j2)) d2 (fun e => by subst e; simp [j1] at c2) j3 (.inr m2)
    by_cases e1 : b1 = b
    ·subst e1
     exact aux b2 k2 d2.1 d2.2 hne.symm m1 m2
    ·by_cases e2 : b2 = b
     ·subst e2
      exact aux b1 k1 d1.1 d1.2 hne m2 m1
     ·exact hs.nd hU b1 b2 k1 k2 d1.2 d2.2 hne m (hN1 b1 m e1 m1) (hN1 b2 m e2 m2)
theorem allCell_one {v : V} {x : Value} (hv : VR Γ w v x) (hc : allCell v.cells = true) : ∀ u ∈ x.cells.toList, u.oneCell' = true := by
 have hlen := hv.cellLen (isCell_def hc)
 intro z hz
 obtain ⟨j, hj⟩ := List.getElem?_of_mem hz
 obtain ⟨u, hu⟩ : ∃ u, v.cells[j]? = some u := ⟨_, List.getElem?_eq_getElem (by rw [hlen]; simpa using (List.getElem?_eq_some_iff.1 hj).1)⟩
 obtain ⟨y, e1, e2⟩ := hv.cells hlen j u hu
 have : y = z := by simpa [e1] using hj
 subst this
 exact isCell_one e2 (allCell_mem hc u (mem_of_get hu))
theorem sound_store (hA : Agree P c) (hs : Sim Γ st a w) {o : Oper} {t : TypeId} {ad x : Operand} {st' : St} (ho : o.op = .store t ad x) (h : effOp c st o.dst o.op = some st') :
  ∃ w', (execOp a.eval o).run P w = .ok .skip w' ∧ Sims Γ st' (a.put o.dst undef) w' := by
 rw [ho] at h
 simp only [effOp] at h
 split at h
 ·rename_i i hi
  split at h
  ·rename_i hc
   obtain ⟨hl, hc, hd⟩ := hc
   split at h
   ·rename_i b off had
    split at h
    ·rename_i r hb
     split at h
     ·rename_i cs hov
      simp only [Option.some.injEq] at h
      subst h
      exact sound_storeBox hA hs ho hi hl hc hd had hb hov
     ·cases h
    ·cases h
   ·rename_i b s q xs k off had
    split at h
    ·rename_i hcc
     split at h
     ·rename_i new hn
      split at h
      ·rename_i ys hys
       simp only [Option.some.injEq] at h
       subst h
       obtain ⟨ti, ai⟩ := hA _ _ hi
       have hv := hs.ev x
       have hp := hs.ev ad
       rw [had] at hp
       obtain ⟨cur, e, h1, h2, h3, h4⟩ := hs.putRow hp hcc.1 (nilRow_ok hv) (allCell_nil hc) hcc.2 hn hys
       have hlen := hv.cellLen (isCell_def hc)
       have hr := run_storeVar_at P w (Γ.blk b) (Γ.off b + k * s + off) e t ti cur (a.eval x) h2 ai.info (by rw [ai.size, ← hl, hlen]) h3 (allCell_one hv hc)
       refine ⟨_, ?_, by rw [hd]; exact h4⟩
       simp [execOp, ho, h1, hr]
      ·cases h
     ·cases h
    ·cases h
   ·cases h
  ·cases h
 ·cases h
end
end Go.Am
end
section
set_option linter.unusedVariables false
set_option linter.unusedSimpArgs false
namespace Go.Am
open Go Go.RowKit
section
variable {P : Program} {c : Cfg} {Γ Γ' : Ctx} {st : St} {a : Act} {w w' : World} {den : Nat → List V → Option V} {η : Nat → Option V} {d : Nat}
theorem leaf_poison {b : Nat} (h : ∀ u y, VR Γ w u y → u.anyB (fun b' => b' == b) = false → VR Γ' w' u y) : LeafOk Γ Γ' w w' (poison b) := by
 intro u y hleaf hu
 have keep := h u y hu
 cases u with
 | own b' s' q' zs =>
  simp only [poison]
  split
  ·exact VR.undef_ _
  ·rename_i hbb
   exact keep (by simpa [V.anyB] using hbb)
 | view b' s' q' zs =>
  simp only [poison]
  split
  ·exact VR.undef_ _
  ·rename_i hbb
   exact keep (by simpa [V.anyB] using hbb)
 | eptr b' s' q' zs i' o' =>
  simp only [poison]
  split
  ·exact VR.undef_ _
  ·rename_i hbb
   exact keep (by simpa [V.anyB] using hbb)
 | vptr b' z o' =>
  simp only [poison]
  split
  ·exact VR.undef_ _
  ·rename_i hbb
   exact keep (by simpa [V.anyB] using hbb)
 | agg _ => cases hleaf
 | tup _ => cases hleaf
 | clo _ _ => cases hleaf
 | _ => exact keep rfl
def AppTr (Γ : Ctx) (w : World) (esc : List Nat) (b s : Nat) (ys : List V) (cell : Nat → Option Value) : Prop :=
 ∃ T : Nat → Nat → Nat → Prop, (∀ (i : Nat) (x : V) (j : Nat) (u : V) (v : Value), ys[i]? = some x → x.cells[j]? = some u → cell (i * s + j) = some v → Tr w u v (T i j)) ∧
 (∀ i j i' j' m, T i j m → T i' j' m → i = i' ∧ j = j') ∧ ∀ i j m, T i j m → (Γ.has b ∧ Γ.N b m) ∨ ∃ b1 ∈ esc, Γ.has b1 ∧ Γ.N b1 m
def SrcTr (Γ : Ctx) (w : World) (esc : List Nat) (s : Nat) (ys : List V) (cell : Nat → Option Value) : Prop :=
 ∃ T : Nat → Nat → Nat → Prop, (∀ (i : Nat) (x : V) (j : Nat) (u : V) (v : Value), ys[i]? = some x → x.cells[j]? = some u → cell (i * s + j) = some v → Tr w u v (T i j)) ∧
 (∀ i j i' j' m, T i j m → T i' j' m → i = i' ∧ j = j') ∧ ∀ i j m, T i j m → ∃ b1 ∈ esc, Γ.has b1 ∧ Γ.N b1 m
theorem SrcTr.app {esc : List Nat} {b s : Nat} {ys : List V} {cell : Nat → Option Value} (h : SrcTr Γ w esc s ys cell) : AppTr Γ w esc b s ys cell := by
 obtain ⟨T, h1, h2, h3⟩ := h
 exact ⟨T, h1, h2, fun i j m hm => .inr (h3 i j m hm)⟩
theorem Sim.joinTr (hs : Sim Γ st a w) (hU : Γ.U) {b s : Nat} {esc : List Nat} {xs ys : List V} {cell1 cell2 cell : Nat → Option Value} (hb : Γ.has b) (hdead : st.dead b = false) (hmv : moveOk st.dead esc = true) (hc : esc.contains b = false)
  (h1 : ∃ T : Nat → Nat → Nat → Prop, (∀ (i : Nat) (x : V) (j : Nat) (u : V) (v : Value), xs[i]? = some x → x.cells[j]? = some u → cell1 (i * s + j) = some v → Tr w u v (T i j)) ∧
   (∀ i j i' j' m, T i j m → T i' j' m → i = i' ∧ j = j') ∧ ∀ i j m, T i j m → Γ.N b m) (h2 : SrcTr Γ w esc s ys cell2)
  (e1 : ∀ i j x, xs[i]? = some x → j < x.cells.length → cell (i * s + j) = cell1 (i * s + j)) (e2 : ∀ i j y, ys[i]? = some y → j < y.cells.length → cell ((xs.length + i) * s + j) = cell2 (i * s + j)) : AppTr Γ w esc b s (xs ++ ys) cell := by
 obtain ⟨T1, a1, a2, a3⟩ := h1
 obtain ⟨T2, b1, b2, b3⟩ := h2
 have hcross : ∀ i j i' j' m, T1 i j m → T2 i' j' m → False := fun i j i' j' m m1 m2 => by
  obtain ⟨b', q1, q2, q3⟩ := b3 i' j' m m2
  exact hs.nd hU b b' hb q2 hdead (moveOk_live hmv b' q1 (fun e => hs.good.h9 (e ▸ q2))) (fun e => by subst e; simp [q1] at hc) m (a3 i j m m1) q3
 refine ⟨fun i j m => if i < xs.length then T1 i j m else T2 (i - xs.length) j m, fun i x j u v hx hu hv => ?_, fun i j i' j' m m1 m2 => ?_, fun i j m hm => ?_⟩
 ·rcases Nat.lt_or_ge i xs.length with hi | hi
  ·rw [List.getElem?_append_left hi] at hx
   simp only [hi, if_true]
   rw [e1 i j x hx (List.getElem?_eq_some_iff.1 hu).1] at hv
   exact a1 i x j u v hx hu hv
  ·rw [List.getElem?_append_right hi] at hx
   simp only [Nat.not_lt.2 hi, if_false]
   have := e2 (i - xs.length) j x hx (List.getElem?_eq_some_iff.1 hu).1
   rw [show xs.length + (i - xs.length) = i by omega] at this
   rw [this] at hv
   exact b1 _ x j u v hx hu hv
 ·by_cases c1 : i < xs.length
  ·by_cases c2 : i' < xs.length
   ·simp only [c1, c2, if_true] at m1 m2
    exact a2 i j i' j' m m1 m2
   ·simp only [c1, c2, if_true, if_false] at m1 m2
    exact (hcross _ _ _ _ m m1 m2).elim
  ·by_cases c2 : i' < xs.length
   ·simp only [c1, c2, if_true, if_false] at m1 m2
    exact (hcross _ _ _ _ m m2 m1).elim
   ·simp only [c1, c2, if_false] at m1 m2
    obtain ⟨g1, g2⟩ := b2 _ _ _ _ m m1 m2
    exact ⟨by omega, g2⟩
 ·by_cases c1 : i < xs.length
  ·simp only [c1, if_true] at hm
   exact .inl ⟨hb, a3 i j m hm⟩
  ·simp only [c1, if_false] at hm
   exact .inr (b3 _ j m hm)
theorem src_news (hs : Sim Γ st a w) {v : V} {x : Value} {s : Nat} {q : Q} {ys : List V} (h : VR Γ w v x) (hq : srcOf s v = some (q, ys)) (hg : q.good = true) (hU : Γ.U) {k o cap : Nat} {news : List Value} (hx : x = .slice (some ⟨k, o, none⟩) ys.length cap) (hl : 0 < ys.length)
  (hn2 : ∀ (p : Nat) (u : Value), news[p]? = some u → w.cell? ⟨k, o + p, none⟩ = some u ∧ u.oneCell' = true) (hn3 : ∀ y ∈ ys, y.cells.length = s) : SrcTr Γ w (srcB q v) s ys (fun p => news[p]?) := by
 obtain ⟨gg, T, t1, t2, t3, t4⟩ := src_tr hs h hq hg hU k o cap hx hl
 refine ⟨T, fun i x j u v hx hu hv => ?_, t3, t4⟩
 obtain ⟨z, z1, z2⟩ := tr_at hn3 t1 t2 hx hu
 have := (hn2 _ v hv).1
 rw [← Nat.add_assoc, z1] at this
 injection this with this
 rw [← this]
 exact z2
theorem Sim.regrow {b s : Nat} {q : Q} {ys : List V} {cs : Array Value} {e : TypeId} {n : Nat} {esc : List Nat} (hs : Sim Γ st a w) (hdead : st.dead b = false) (h9 : b ≠ 999)
    (hl : ys.length ≤ n) (hn : n * s ≤ cs.size) (hm : n ≤ maxLen) (hr : NewRows Γ w Γ.S s q ys cs) (hT : q.good = true → Γ.U → moveOk st.dead esc = true → esc.contains b = false → AppTr Γ w esc b s ys (fun p => cs[p]?)) :
    Sims Γ ((({ st.sweep (poison b) with t := (st.sweep (poison b)).t.set d (.own b s q ys) } : St).kill esc).mark (!moveOk st.dead esc || esc.contains b)) (a.put (some d) (.slice (some ⟨w.heap.size, 0, none⟩) ys.length n)) (w.alloc (.cells cs e)) := by
  let Γ' : Ctx := { Γ with has := fun b' => Γ.has b' ∨ b' = b, blk := fun b' => if b' = b then w.heap.size else Γ.blk b',
                           off := fun b' => if b' = b then 0 else Γ.off b', cap := fun b' => if b' = b then n else Γ.cap b', sz := fun b' => if b' = b then s else Γ.sz b', ln := fun b' => if b' = b then ys.length else Γ.ln b', Z := fun k => Γ.Z k ∨ k = w.heap.size,
                           N := fun b' m => if b' = b then (Γ.has b ∧ Γ.N b m) ∨ ∃ b1 ∈ esc, Γ.has b1 ∧ Γ.N b1 m else Γ.N b' m, U := Γ.U ∧ moveOk st.dead esc = true ∧ esc.contains b = false }
  have g := hs.good
  have hN0 : ∀ m, Γ'.N b m → (Γ.has b ∧ Γ.N b m) ∨ ∃ b1 ∈ esc, Γ.has b1 ∧ Γ.N b1 m := fun m h => by simpa [Γ'] using h
  have hN1 : ∀ b' m, b' ≠ b → Γ'.N b' m → Γ.N b' m := fun b' m hb h => by simpa [Γ', hb] using h
  have hN2 : ∀ b' m, b' ≠ b → Γ.N b' m → Γ'.N b' m := fun b' m hb h => by simpa [Γ', hb] using h
  have hNZ : ∀ m, ((Γ.has b ∧ Γ.N b m) ∨ ∃ b1 ∈ esc, Γ.has b1 ∧ Γ.N b1 m) → Γ.S m ∧ Γ.Z m := fun m h => by
    rcases h with h | ⟨b1, _, h2, h3⟩
    · exact g.ns b h.1 m h.2
    · exact g.ns b1 h2 m h3
  have hNS := fun m h => (hNZ m h).1
  have hsz := size_alloc w (.cells cs e)
  have hcell : ∀ k, k < w.heap.size → ∀ o, (w.alloc (.cells cs e)).cell? ⟨k, o, none⟩ = w.cell? ⟨k, o, none⟩ := fun k hk o => cell?_of_heap (heap_alloc_lt w _ hk) o
  have e1 : Γ'.blk b = w.heap.size := if_pos rfl
  have e2 : Γ'.off b = 0 := if_pos rfl
  have e3 : Γ'.cap b = n := if_pos rfl
  have e4 : Γ'.sz b = s := if_pos rfl
  have hgood : Good Γ' (w.alloc (.cells cs e)) := by
    refine ⟨g.os, g.tape, g.output, Nat.le_trans g.size (by rw [hsz]; omega), fun k hk hF => ?_, g.new, fun k hk => ?_, fun b' hb => ?_, fun b1 b2 hb hb' he => ?_, fun k hk => ?_, g.boxInj, fun b' k hb hk => ?_, g.sr, g.gl, fun b' hb => ?bz, fun k hk => ?zf, fun b' hb m hm => ?ns, fun h => ?h9⟩
    case h9 => exact h.elim g.h9 (fun h => h9 h.symm)
    case ns =>
      by_cases h0 : b' = b
      · subst h0
        exact ⟨hNS m (hN0 m hm), .inl (hNZ m (hN0 m hm)).2⟩
      · have := g.ns b' (hb.resolve_right h0) m (hN1 b' m h0 hm)
        exact ⟨this.1, .inl this.2⟩
    case bz =>
      show Γ.Z (if b' = b then _ else _) ∨ (if b' = b then _ else _) = _
      by_cases h0 : b' = b
      · rw [if_pos h0]; exact .inr rfl
      · rw [if_neg h0]; exact .inl (g.bz b' (hb.resolve_right h0))
    case zf =>
      rcases hk with hk | hk
      · obtain ⟨z1, z2, cur, e', h⟩ := g.zf k hk
        exact ⟨z1, by rw [hsz]; omega, cur, e', (heap_alloc_lt w _ z2).trans h⟩
      · subst hk
        exact ⟨g.new _ g.size, by rw [hsz]; omega, cs, e, heap_alloc_eq w _⟩
    · exact (heap_alloc_lt w _ (Nat.lt_of_lt_of_le hk g.size)).trans (g.old k hk hF)
    · have := g.slt k hk; rw [hsz]; omega
    · show Γ.F (if b' = b then _ else _) ∧ (if b' = b then _ else _) < _ ∧ (if b' = b then _ else _) ≤ _ ∧ ∃ cur e', (w.alloc (.cells cs e)).heap[if b' = b then w.heap.size else Γ.blk b']? = some (.cells cur e' (0, 0)) ∧ (if b' = b then 0 else Γ.off b') + (if b' = b then n else Γ.cap b') * (if b' = b then s else Γ.sz b') ≤ cur.size
      by_cases h0 : b' = b
      · simp only [if_pos h0]
        exact ⟨g.new _ g.size, by rw [hsz]; omega, hm, cs, e, heap_alloc_eq w _, by omega⟩
      · rcases hb with hb | hb
        · obtain ⟨h1, h2, h3, cur, e', h4, h5⟩ := g.base b' hb
          simp only [if_neg h0]
          exact ⟨h1, by rw [hsz]; omega, h3, cur, e', (heap_alloc_lt w _ h2).trans h4, h5⟩
        · exact absurd hb h0
    · change (if b1 = b then w.heap.size else Γ.blk b1) = (if b2 = b then w.heap.size else Γ.blk b2) at he
      by_cases h1 : b1 = b
      · by_cases h2 : b2 = b
        · rw [h1, h2]
        · rcases hb' with hb' | hb'
          · rw [if_pos h1, if_neg h2] at he
            have := (g.base b2 hb').2.1; omega
          · exact absurd hb' h2
      · rcases hb with hb | hb
        · by_cases h2 : b2 = b
          · rw [if_neg h1, if_pos h2] at he
            have := (g.base b1 hb).2.1; omega
          · rcases hb' with hb' | hb'
            · rw [if_neg h1, if_neg h2] at he
              exact g.baseInj b1 b2 hb hb' he
            · exact absurd hb' h2
        · exact absurd hb h1
    · obtain ⟨h1, h2, h3⟩ := g.box k hk
      exact ⟨h1, h2, Nat.lt_of_lt_of_le h3 (by rw [hsz]; omega)⟩
    · show (if b' = b then w.heap.size else Γ.blk b') ≠ Γ.box k
      by_cases h1 : b' = b
      · rw [if_pos h1]; have := (g.box k hk).2.2; omega
      · rcases hb with hb | hb
        · rw [if_neg h1]; exact g.baseBox b' k hb hk
        · exact absurd hb h1
  have hv : VR Γ' (w.alloc (.cells cs e)) (.own b s q ys) (.slice (some ⟨w.heap.size, 0, none⟩) ys.length n) := by
    obtain ⟨r1, r2⟩ := hr
    have := VR.own (Γ := Γ') (w := w.alloc (.cells cs e)) b s q ys (.inr rfl) e4.symm (by rw [e3]; exact ⟨hl, (if_pos rfl).symm⟩) ?_ (fun hqf x hx u hu => ?_) ?uq
    · rwa [e1, e2, e3] at this
    case uq =>
      rintro hqc ⟨hU, hmv, hcb⟩
      obtain ⟨T, t1, t2, t3⟩ := hT (by rw [hqc]; rfl) hU hmv hcb
      rw [e1, e2]
      refine trRows_mk r1 T (fun i x j u hx hu => ?_) t2 (fun i j m hm => ⟨?_, hNS m (t3 i j m hm)⟩)
      · obtain ⟨v, h1, _⟩ := r2 i x j u hx hu
        refine ⟨v, ?_, (t1 i x j u v hx hu h1).mono (fun k hk => hcell k (g.slt k (hNS k (t3 i j k hk))))⟩
        rw [cell_of (heap_alloc_eq w (.cells cs e)), Nat.zero_add]
        exact h1
      · show if b = b then _ else _
        rw [if_pos rfl]
        exact t3 i j m hm
    · rw [e1, e2]
      refine rows_mk r1 (fun i x j u hx hu => ?_)
      obtain ⟨v, h1, h2, h3, h4, h5⟩ := r2 i x j u hx hu
      refine ⟨v, ?_, h2, cellQ_ok (S' := Γ.S) (q := q) h3 h4 (fun _ h => h) (fun _ h => .inl h) (fun h => h) (fun k hk => hcell k (g.slt k hk))⟩
      rw [cell_of (heap_alloc_eq w (.cells cs e)), Nat.zero_add]
      exact h1
    · obtain ⟨i, hi⟩ := List.getElem?_of_mem hx
      obtain ⟨j, hj⟩ := List.getElem?_of_mem hu
      obtain ⟨v, _, _, _, _, h5⟩ := r2 i x j u hi hj
      exact h5 hqf
  have hsim : Sim Γ' { st.sweep (poison b) with dead := fun b' => esc.contains b' || st.dead b', dup := (!moveOk st.dead esc || esc.contains b) || st.dup } a (w.alloc (.cells cs e)) := by
    refine Sim.sweep (f := poison b) (dead := fun b' => esc.contains b' || st.dead b') (dup := (!moveOk st.dead esc || esc.contains b) || st.dup) hs (leaf_poison (fun u y hu hp => ?_)) (poison_one b) hgood (fun _ h => h) (fun _ => rfl) (fun k hk => heap_alloc_lt w _ (g.box k hk).2.2) (fun b' hb hdd => ?_) (fun h => ?_) ?_
    · refine VR.mono (Γ := Γ) (Γ' := Γ') (w := w) (w' := w.alloc (.cells cs e)) (p := fun b' => b' == b) (r := fun _ => false) (fun h => h.1) (fun _ h => h) (fun _ h => .inl h) (fun k hk => hcell k (g.slt k hk)) (fun b' hb' => ?_) (fun _ _ => ⟨fun h => h, rfl⟩) hu hp (anyP_false _)
      have hb' : b' ≠ b := by simpa using hb'
      exact ⟨⟨fun h => h.resolve_right hb', fun h => .inl h⟩, fun hh => ⟨if_neg hb', if_neg hb', if_neg hb', if_neg hb', if_neg hb', fun m hm => hN2 b' m hb' hm, hcell _ (g.base b' hh).2.1⟩⟩
    · show ¬ Γ.S (if b' = b then w.heap.size else Γ.blk b')
      by_cases h1 : b' = b
      · rw [if_pos h1]
        intro h
        have := g.slt _ h
        omega
      · rw [if_neg h1]
        simp only [Bool.or_eq_false_iff] at hdd
        exact hs.nds b' (hb.resolve_right h1) hdd.2
    · simp only [Bool.or_eq_false_iff, Bool.not_eq_false'] at h
      exact ⟨hs.du h.2, h.1.1, h.1.2⟩
    · rintro ⟨hU, hmv, hcb⟩ b1 b2 k1 k2 d1 d2 hne m m1 m2
      simp only [Bool.or_eq_false_iff] at d1 d2
      have aux : ∀ b2, Γ'.has b2 → esc.contains b2 = false → st.dead b2 = false → b2 ≠ b → Γ'.N b m → Γ'.N b2 m → False := fun b2 k2 c2 d2 hne m1 m2 => by
        have m2 := hN1 b2 m hne m2
        have k2 := k2.resolve_right hne
        rcases hN0 m m1 with ⟨h0, m1⟩ | ⟨b3, j1, j2, j3⟩
        · exact hs.nd hU b b2 h0 k2 hdead d2 hne.symm m m1 m2
        · exact hs.nd hU b3 b2 j2 k2 (moveOk_live hmv b3 j1 (fun e => g.h9 (e ▸ j2))) d2 (fun e => by subst e; simp [j1] at c2) m j3 m2
      by_cases e1 : b1 = b
      · subst e1
        exact aux b2 k2 d2.1 d2.2 hne.symm m1 m2
      · by_cases e2 : b2 = b
        · subst e2
          exact aux b1 k1 d1.1 d1.2 hne m2 m1
        · exact hs.nd hU b1 b2 (k1.resolve_right e1) (k2.resolve_right e2) d1.2 d2.2 hne m (hN1 b1 m e1 m1) (hN1 b2 m e2 m2)
  exact ⟨Γ', ⟨rfl, rfl, rfl⟩, hsim.put hv⟩
theorem Sim.roomy {b s : Nat} {q q' : Q} {xs ys : List V} {cur : Array Value} {e : TypeId} {news : List Value} {esc : List Nat} (hs : Sim Γ st a w) (hb : Γ.has b) (hdead : st.dead b = false) (hsz : s = Γ.sz b)
  (hrow : Rows w (Γ.Sq q) s xs (Γ.blk b) (Γ.off b)) (hq : flatOk q xs) (hcur : w.heap[Γ.blk b]? = some (.cells cur e (0, 0))) (hn1 : news.length = ys.length * s) (hcap : xs.length + ys.length ≤ Γ.cap b)
  (hn2 : ∀ (p : Nat) (u : Value), news[p]? = some u → u.oneCell' = true) (hn3 : ∀ y ∈ ys, y.cells.length = s)
  (hn4 : ∀ (i : Nat) (y : V) (j : Nat) (u : V), ys[i]? = some y → y.cells[j]? = some u → ∃ z, news[i * s + j]? = some z ∧ z.oneCell' = true ∧ Rd w Γ.S u z ∧ (q'.good = true → Rd w (fun k => Γ.S k ∧ Γ.Z k) u z) ∧ (q' = .flat → noSl u))
  (hu : Γ.Uq w q b s xs (Γ.blk b) (Γ.off b)) (hT : q'.good = true → Γ.U → SrcTr Γ w esc s ys (fun p => news[p]?)) :
  Γ.off b + xs.length * s + news.length ≤ cur.size ∧
  Sims Γ ((({ st.sweep (poison b) with t := (st.sweep (poison b)).t.set d (.own b s (q.join q') (xs ++ ys)) } : St).kill esc).mark (!moveOk st.dead esc || esc.contains b)) (a.put (some d) (.slice (some ⟨Γ.blk b, Γ.off b, none⟩) (xs.length + ys.length) (Γ.cap b)))
   (w.setRow (Γ.blk b) (cur.toList.take (Γ.off b + xs.length * s) ++ news ++ cur.toList.drop (Γ.off b + xs.length * s + news.length)).toArray) := by
 have g := hs.good
 have hS := hs.nds b hb hdead
 obtain ⟨gF, glt, gm, cur', e', hcur', hfit⟩ := g.base b hb
 rw [hcur] at hcur'
 simp only [Option.some.injEq, Obj.cells.injEq] at hcur'
 obtain ⟨rfl, rfl, _⟩ := hcur'
 have hmul := mulLe (s := s) hcap
 rw [Nat.add_mul] at hmul
 have hfit1 : Γ.off b + xs.length * s + news.length ≤ cur.size := by rw [← hsz] at hfit; omega
 refine ⟨hfit1, ?_⟩
 have hfit2 : Γ.off b + xs.length * s + news.length ≤ cur.toList.length := by simpa using hfit1
 have hget := fun j => seg_get cur.toList news (Γ.off b + xs.length * s) j hfit2
 have hsl := seg_len cur.toList news (Γ.off b + xs.length * s) hfit2
 simp only [Array.length_toList] at hsl
 let Γ' : Ctx := { Γ with S := addS Γ [], ln := fun b' => if b' = b then xs.length + ys.length else Γ.ln b', N := fun b' m => if b' = b then Γ.N b m ∨ ∃ b1 ∈ esc, Γ.has b1 ∧ Γ.N b1 m else Γ.N b' m, U := Γ.U ∧ moveOk st.dead esc = true ∧ esc.contains b = false }
 have hN0 : ∀ m, Γ'.N b m → Γ.N b m ∨ ∃ b1 ∈ esc, Γ.has b1 ∧ Γ.N b1 m := fun m h => by simpa [Γ'] using h
 have hN1 : ∀ b' m, b' ≠ b → Γ'.N b' m → Γ.N b' m := fun b' m hb h => by simpa [Γ', hb] using h
 have hN2 : ∀ b' m, b' ≠ b → Γ.N b' m → Γ'.N b' m := fun b' m hb h => by simpa [Γ', hb] using h
 have hNZ : ∀ m, (Γ.N b m ∨ ∃ b1 ∈ esc, Γ.has b1 ∧ Γ.N b1 m) → Γ.S m ∧ Γ.Z m := fun m h => by
  rcases h with h | ⟨b1, _, h2, h3⟩
  ·exact g.ns b hb m h
  ·exact g.ns b1 h2 m h3
 have hNS := fun m h => (hNZ m h).1
 let cs' := (cur.toList.take (Γ.off b + xs.length * s) ++ news ++ cur.toList.drop (Γ.off b + xs.length * s + news.length)).toArray
 have hgood : Good Γ' (w.setRow (Γ.blk b) cs') := by
  have g' : Good { Γ with S := addS Γ [], N := Γ'.N, U := Γ'.U } (w.setRow (Γ.blk b) cs') := g.write hb hcur hsl (fun b' hb' m hm => by
   by_cases hbb : b' = b
   ·subst hbb
    exact ⟨.inl (hNS m (hN0 m hm)), (hNZ m (hN0 m hm)).2⟩
   ·have := g.ns b' hb' m (hN1 b' m hbb hm)
    exact ⟨.inl this.1, this.2⟩)
  exact ⟨g'.os, g'.tape, g'.output, g'.size, g'.old, g'.new, g'.slt, g'.base, g'.baseInj, g'.box, g'.boxInj, g'.baseBox, g'.sr, g'.gl, g'.bz, g'.zf, g'.ns, g'.h9⟩
 have hSn : ¬ addS Γ [] (Γ.blk b) := addS_base g hb hS rfl
 have hsame : ∀ k', Γ.S k' → ∀ o', (w.setRow (Γ.blk b) cs').cell? ⟨k', o', none⟩ = w.cell? ⟨k', o', none⟩ := fun k' hk' => cell?_of_heap (setRow_other w _ k' cs' (fun e => hS (e ▸ hk')))
 have hheap : (w.setRow (Γ.blk b) cs').heap[Γ.blk b]? = some (.cells cs' e (0, 0)) := setRow_heap w _ cur cs' e _ hcur
 have hcell : ∀ j, (w.setRow (Γ.blk b) cs').cell? ⟨Γ.blk b, j, none⟩ = if Γ.off b + xs.length * s ≤ j ∧ j < Γ.off b + xs.length * s + news.length then news[j - (Γ.off b + xs.length * s)]? else cur[j]? := by
  intro j
  rw [cell_of hheap]
  show (List.toArray _)[j]? = _
  rw [List.getElem?_toArray, hget]
  simp
 have hrows : Rows (w.setRow (Γ.blk b) cs') (Γ'.Sq (q.join q')) s (xs ++ ys) (Γ.blk b) (Γ.off b) := by
  refine rows_mk (fun r hr => ?_) (fun i r j u hr hu => ?_)
  ·rcases List.mem_append.1 hr with hr | hr
   ·exact hrow.1 r hr
   ·exact hn3 r hr
  ·rcases Nat.lt_or_ge i xs.length with hi | hi
   ·rw [List.getElem?_append_left hi] at hr
    obtain ⟨_, hj, z, e1, e2, e3⟩ := hrow.at_ hr hu
    have := rowPos hi hj
    refine ⟨z, ?_, e2, ?_⟩
    ·rw [hcell, if_neg (by omega), ← cell_of hcur]
     exact e1
    ·obtain ⟨f1, f2⟩ := Sq_rd e3
     exact cellQ_ok (S' := Γ.S) (q := q) f1 f2 (fun _ h => .inl h) (fun _ h => h) (fun h => (join_good h).1) hsame
   ·rw [List.getElem?_append_right hi] at hr
    obtain ⟨z, z1, z2, z3, z4, z5⟩ := hn4 _ _ _ _ hr hu
    have hlt := (List.getElem?_eq_some_iff.1 z1).1
    have hidx : i * s = xs.length * s + (i - xs.length) * s := by rw [← Nat.add_mul]; congr 1; omega
    refine ⟨z, ?_, z2, cellQ_ok (S' := Γ.S) (q := q') z3 z4 (fun _ h => .inl h) (fun _ h => h) (fun h => (join_good h).2) hsame⟩
    rw [hcell, if_pos (by omega), ← z1]
    congr 1
    omega
 have hflat : flatOk (q.join q') (xs ++ ys) := by
  intro hqf r hr u hu
  obtain ⟨j1, j2⟩ := join_flat hqf
  rcases List.mem_append.1 hr with hr | hr
  ·exact hq j1 r hr u hu
  ·obtain ⟨i, hi⟩ := List.getElem?_of_mem hr
   obtain ⟨j, hj⟩ := List.getElem?_of_mem hu
   obtain ⟨z, _, _, _, _, z5⟩ := hn4 i r j u hi hj
   exact z5 j2
 have huq : Γ'.Uq (w.setRow (Γ.blk b) cs') (q.join q') b s (xs ++ ys) (Γ.blk b) (Γ.off b) := by
  rintro hqc ⟨hU, hmv, hcb⟩
  have hgd : (q.join q').good = true := by rw [hqc]; rfl
  obtain ⟨gg, T1, t1, t2, t3, t4⟩ := Uq_tr hu hrow hq (join_good hgd).1 hU
  obtain ⟨T, j1, j2, j3⟩ := hs.joinTr hU (xs := xs) (ys := ys) (cell1 := fun p => w.cell? ⟨Γ.blk b, Γ.off b + p, none⟩) (cell2 := fun p => news[p]?) (cell := fun p => (w.setRow (Γ.blk b) cs').cell? ⟨Γ.blk b, Γ.off b + p, none⟩) hb hdead hmv hcb
   ⟨T1, fun i x j u v hx hu hv => by
    obtain ⟨z, z1, z2⟩ := tr_at hrow.1 t1 t2 hx hu
    rw [Nat.add_assoc] at z1
    change w.cell? ⟨Γ.blk b, Γ.off b + (i * s + j), none⟩ = some v at hv
    rw [z1] at hv
    injection hv with hv
    rw [← hv]
    exact z2, t3, fun i j m hm => (t4 i j m hm).1⟩ (hT (join_good hgd).2 hU) (fun i j x hx hj => by
    have hi := (List.getElem?_eq_some_iff.1 hx).1
    rw [hrow.1 x (mem_of_get hx)] at hj
    have := rowPos hi hj
    show (w.setRow (Γ.blk b) cs').cell? ⟨Γ.blk b, Γ.off b + (i * s + j), none⟩ = w.cell? ⟨Γ.blk b, Γ.off b + (i * s + j), none⟩
    rw [hcell, if_neg (by omega), ← cell_of hcur]) (fun i j y hy hj => by
    have hi := (List.getElem?_eq_some_iff.1 hy).1
    rw [hn3 y (mem_of_get hy)] at hj
    have := rowPos hi hj
    show (w.setRow (Γ.blk b) cs').cell? ⟨Γ.blk b, Γ.off b + ((xs.length + i) * s + j), none⟩ = news[i * s + j]?
    rw [Nat.add_mul]
    rw [hcell, if_pos (by omega)]
    congr 1
    omega)
  have hin : ∀ i j m, T i j m → Γ.N b m ∨ ∃ b1 ∈ esc, Γ.has b1 ∧ Γ.N b1 m := fun i j m hm => (j3 i j m hm).imp (fun h => h.2) (fun h => h)
  refine trRows_mk hrows.1 T (fun i x j u hx hu => ?_) j2 (fun i j m hm => ⟨?_, .inl (hNS m (hin i j m hm))⟩)
  ·obtain ⟨_, _, z, z1, _, _⟩ := hrows.at_ hx hu
   refine ⟨z, z1, (j1 i x j u z hx hu (by rw [Nat.add_assoc] at z1; exact z1)).mono (fun k' hk' => hsame k' (hNS k' (hin i j k' hk')))⟩
  ·show if b = b then _ else _
   rw [if_pos rfl]
   exact hin i j m hm
 have hv := VR.own (Γ := Γ') (w := w.setRow (Γ.blk b) cs') b s (q.join q') (xs ++ ys) hb hsz (by rw [List.length_append]; exact ⟨hcap, (if_pos rfl).symm⟩) hrows hflat huq
 rw [List.length_append] at hv
 have hsim : Sim Γ' { st.sweep (poison b) with dead := fun b' => esc.contains b' || st.dead b', dup := (!moveOk st.dead esc || esc.contains b) || st.dup } a (w.setRow (Γ.blk b) cs') := by
  refine Sim.sweep (f := poison b) (dead := fun b' => esc.contains b' || st.dead b') (dup := (!moveOk st.dead esc || esc.contains b) || st.dup) hs (leaf_poison (fun u y hu hp => hu.write g hb hS hp (fun b' hb' => if_neg hb') (fun h => h.1) (fun b' hb' m hm => hN2 b' m hb' hm))) (poison_one b) hgood (fun _ h => h) (fun _ => rfl) (fun k' hk' => setRow_other w _ _ cs' (fun e => g.baseBox b k' hb hk' e.symm)) (fun b' hb' hdd => ?_) (fun h => ?_) ?_
  ·simp only [Bool.or_eq_false_iff] at hdd
   exact addS_base g hb' (hs.nds b' hb' hdd.2) rfl
  ·simp only [Bool.or_eq_false_iff, Bool.not_eq_false'] at h
   exact ⟨hs.du h.2, h.1.1, h.1.2⟩
  ·rintro ⟨hU, hmv, hcb⟩ b1 b2 k1 k2 d1 d2 hne m m1 m2
   simp only [Bool.or_eq_false_iff] at d1 d2
   have aux : ∀ b2, Γ.has b2 → esc.contains b2 = false → st.dead b2 = false → b2 ≠ b → Γ'.N b m → Γ'.N b2 m → False := fun b2 k2 c2 d2 hne m1 m2 => by
    have m2 := hN1 b2 m hne m2
    rcases hN0 m m1 with m1 | ⟨b3, j1, j2, j3⟩
    ·exact hs.nd hU b b2 hb k2 hdead d2 hne.symm m m1 m2
    ·exact hs.nd hU b3 b2 j2 k2 (moveOk_live hmv b3 j1 (fun e => g.h9 (e ▸ j2))) d2 (fun e => by subst e; simp [j1] at c2) m j3 m2
   by_cases e1 : b1 = b
   ·subst e1
    exact aux b2 k2 d2.1 d2.2 hne.symm m1 m2
   ·by_cases e2 : b2 = b
    ·subst e2
     exact aux b1 k1 d1.1 d1.2 hne m2 m1
    ·exact hs.nd hU b1 b2 k1 k2 d1.2 d2.2 hne m (hN1 b1 m e1 m1) (hN1 b2 m e2 m2)
 exact ⟨Γ', ⟨rfl, rfl, rfl⟩, hsim.put hv⟩
theorem Sim.same {b s : Nat} {q : Q} {xs : List V} {x : Value} {esc : List Nat} (hs : Sim Γ st a w) (hv : VR Γ w (.own b s q xs) x) :
  Sims Γ ((({ st.sweep (poison b) with t := (st.sweep (poison b)).t.set d (.own b s q xs) } : St).kill esc).mark (!moveOk st.dead esc || esc.contains b)) (a.put (some d) x) w := by
 have hsim : Sim Γ { st.sweep (poison b) with dead := fun b' => esc.contains b' || st.dead b', dup := (!moveOk st.dead esc || esc.contains b) || st.dup } a w :=
  Sim.sweep (f := poison b) (dead := fun b' => esc.contains b' || st.dead b') (dup := (!moveOk st.dead esc || esc.contains b) || st.dup) hs (leaf_poison (fun u y hu _ => hu)) (poison_one b) hs.good (fun _ h => h) (fun _ => rfl) (fun k' hk' => rfl) (fun b' hb' hdd => by
   simp only [Bool.or_eq_false_iff] at hdd
   exact hs.nds b' hb' hdd.2) (fun h => by
   simp only [Bool.or_eq_false_iff] at h
   exact hs.du h.2) (fun hU b1 b2 k1 k2 d1 d2 => by
   simp only [Bool.or_eq_false_iff] at d1 d2
   exact hs.nd hU b1 b2 k1 k2 d1.2 d2.2)
 exact ⟨Γ, ⟨rfl, rfl, rfl⟩, hsim.put hv⟩
theorem own_le {b s : Nat} {q q' : Q} {xs : List V} {x : Value} (hv : VR Γ w (.own b s q xs) x) (hq : q' = q.join q ∨ ∃ p, q' = q.join p) : VR Γ w (.own b s q' xs) x := by
  have hg : q'.good = true → q.good = true := by
    rcases hq with rfl | ⟨p, rfl⟩
    · exact fun h => (join_good h).1
    · exact fun h => (join_good h).1
  have hf : q' = .flat → q = .flat := by
    rcases hq with rfl | ⟨p, rfl⟩
    · exact fun h => (join_flat h).1
    · exact fun h => (join_flat h).1
  have hu := hv.own_uq
  rcases hv.own_inv with ⟨rfl, rfl, h3⟩ | ⟨rfl, h1, h2, h3, h4, h5⟩
  · exact .ownNil _ _ _ h3
  · refine .own _ _ _ _ h1 h2 h3 (h4.mono (fun k hk => ?_) (fun _ _ _ => rfl) (fun _ _ _ => rfl)) (fun e => h5 (hf e)) (fun hq hU => Uq_tr hu h4 h5 (hg (by rw [hq]; rfl)) hU)
    cases hq'' : q' with
    | any => exact Sq_le hk
    | flat => have := hg (by rw [hq'']; rfl)
              cases q <;> first | exact hk | cases this
    | clean => have := hg (by rw [hq'']; rfl)
               cases q <;> first | exact hk | cases this
theorem sound_appendOwn (hA : Agree P c) (hs : Sim Γ st a w) {o : Oper} {args : Array Operand} {ts : Array TypeId} {st' : St} (ho : o.op = .call ⟨.builtin .append, args, ts⟩) (h : effOp c st o.dst o.op = some st') :
  ∃ x w', (execOp a.eval o).run P w = .ok (.value x) w' ∧ Sims Γ st' (a.put o.dst x) w' := by
 rw [ho] at h
 simp only [effOp] at h
 split at h
 ·rename_i x y t t' d hx ht2 hd
  obtain rfl := arr2 hx
  obtain rfl := arr2 ht2
  split at h
  ·rename_i e sz by_ z0 cm nz_ qz_ ht
   split at h
   ·rename_i i b s q xs hi hxv
    split at h
    ·rename_i q' ys hsrc
     split at h
     ·rename_i hc
      obtain ⟨rfl, rfl, hne, hdead, hb1, hb2, hb9⟩ := hc
      simp only [Option.some.injEq] at h
      subst h
      obtain ⟨tt, at_⟩ := hA _ _ ht
      obtain ⟨ti, ai⟩ := hA _ _ hi
      obtain ⟨z, hz, hz1, hz2, hz3, hz4⟩ := ai.zero
      have hzs : z.cells.size = i.size := by rw [← ai.zsz, ← hz2]; simp
      have hxr := hs.ev x
      rw [hxv] at hxr
      have hmax : xs.length + ys.length ≤ maxLen := by unfold maxLen; omega
      rcases src_ok hs.good (hs.ev y) hsrc with ⟨rfl, ad, cap, ey⟩ | ⟨k, o', cap, news, ey, hl, hn1, hn2, hn3, hn4⟩
      ·have hfc : (Builtin.firstCells ti.size 0 (.slice ad 0 cap)).run P w = .ok #[] w := by
        cases ad with
        | none => exact run_firstCells_none _ _ _ _ _
        | some b => exact run_firstCells_some w ti.size 0 b 0 cap [] (by simp) (fun j v h => by simp at h)
       have hsim := hs.same (d := d) (esc := srcB q' (ev st.t y)) (own_le hxr (.inr ⟨q', rfl⟩))
       rw [List.append_nil]
       refine ⟨_, w, ?_, by rw [hd]; exact hsim⟩
       rcases hxr.own_inv with ⟨ex, rfl, _⟩ | ⟨ex, h1, h2, h3, h4, h5⟩
       ·simp [execOp, ho, ex, ey, resolve, invoke, builtin, Builtin.append_, run_underlying (at_.slice e rfl), sizeOf, typeInfo, ai.info, hz, zeroValue, Builtin.lenOf, hfc]
       ·simp [execOp, ho, ex, ey, resolve, invoke, builtin, Builtin.append_, run_underlying (at_.slice e rfl), sizeOf, typeInfo, ai.info, hz, zeroValue, Builtin.lenOf, hfc, h3.1, storeCells]
      ·have hadd : ∀ k o' n, (⟨k, o', none⟩ : Addr).add n = ⟨k, o' + n, none⟩ := by intro k o' n; simp [Addr.add]
       have hsl : ∀ (j : Nat) (v : Value), news[j]? = some v → w.cell? ((⟨k, o', none⟩ : Addr).add j) = some v := fun j v hv => by rw [hadd]; exact (hn2 j v hv).1
       rcases hxr.own_inv with ⟨ex, rfl, hnb⟩ | ⟨ex, h1, h2, h3, h4, h5⟩
       ·have hr := run_append_nil (P := P) w t' o.type e ti z (at_.slice e rfl) ai.info hz ⟨k, o', none⟩ ys.length cap news (by rw [ai.size]; exact hn1) hsl hl (by omega) (by rw [ai.bytes]; simp only [List.length_nil, Nat.zero_add] at hb1; omega)
        have hge := grownCap_ge w ys.length 0 e
        have hle := grownCap_le_maxLen w ys.length 0 e (by unfold maxLen; omega)
        have hsz : (news.toArray ++ Builtin.zeroCells z.cells (grownCap w ys.length 0 e - ys.length)).size = grownCap w ys.length 0 e * i.size := by
         rw [Array.size_append, size_zeroCells, List.size_toArray, hn1, ← hzs, ← Nat.add_mul]
         congr 1
         omega
        have hrows : NewRows Γ w.drew Γ.S i.size (q.join q') ys (news.toArray ++ Builtin.zeroCells z.cells (grownCap w ys.length 0 e - ys.length)) := by
         refine ⟨hn3, fun ii x jj u hx hu => ?_⟩
         obtain ⟨zz, h1, h2, h3, h4, h5⟩ := hn4 ii x jj u hx hu
         have hlt := (List.getElem?_eq_some_iff.1 h1).1
         have hrm : ∀ {S1 : Nat → Prop} {u : V} {v : Value}, Rd w S1 u v → Rd w.drew S1 u v := fun h => Rd.mono (w := w) (w' := w.drew) (fun _ h => h) (fun _ _ _ => rfl) h
         refine ⟨zz, ?_, h2, hrm h3, fun hg => hrm (h4 (join_good hg).2), fun hf => h5 (join_flat hf).2⟩
         rw [Array.getElem?_append_left (by simpa using hlt)]
         simpa using h1
        have htr : (q.join q').good = true → Γ.U → moveOk st.dead (srcB q' (ev st.t y)) = true → (srcB q' (ev st.t y)).contains b = false → AppTr Γ w.drew (srcB q' (ev st.t y)) b i.size ys (fun p => (news.toArray ++ Builtin.zeroCells z.cells (grownCap w ys.length 0 e - ys.length))[p]?) := fun hq hU _ _ => by
         obtain ⟨T, t1, t2, t3⟩ := src_news hs (hs.ev y) hsrc (join_good hq).2 hU ey hl hn2 hn3
         refine ⟨T, fun ii x jj u v hx hu hv => ?_, t2, fun i j m hm => .inr (t3 i j m hm)⟩
         obtain ⟨zz, h1, _⟩ := hn4 ii x jj u hx hu
         have hlt := (List.getElem?_eq_some_iff.1 h1).1
         simp only at hv
         rw [Array.getElem?_append_left (by simpa using hlt), List.getElem?_toArray] at hv
         exact (t1 ii x jj u v hx hu hv).mono (fun _ _ _ => rfl)
        have hsim := Sim.regrow (d := d) (b := b) (e := e) (n := grownCap w ys.length 0 e) (esc := srcB q' (ev st.t y)) hs.drew hdead hb9 hge (Nat.le_of_eq hsz.symm) hle hrows htr
        refine ⟨_, _, ?_, by rw [hd]; exact hsim⟩
        simp [execOp, ho, ex, ey, resolve, invoke, builtin, hr]
       ·obtain ⟨gF, glt, gm, cur, e0, hcur, hfit⟩ := hs.good.base b h1
        by_cases hroom : xs.length + ys.length ≤ Γ.cap b
        ·obtain ⟨r1, r2⟩ := Sim.roomy (d := d) (q' := q') (esc := srcB q' (ev st.t y)) hs h1 hdead h2 h4 h5 hcur hn1 hroom (fun p u hu => (hn2 p u hu).2) hn3 hn4 hxr.own_uq (fun hg hU => src_news hs (hs.ev y) hsrc hg hU ey hl hn2 hn3)
         refine ⟨_, _, ?_, by rw [hd]; exact r2⟩
         have hf := run_firstCells_some (P := P) w ti.size ys.length ⟨k, o', none⟩ ys.length cap news (by rw [ai.size]; exact hn1) hsl
         have hst := run_storeCells_at P (Γ.blk b) (Γ.off b + xs.length * i.size) e0 news 0 cur w hcur (by simpa using r1) (fun v hv => by obtain ⟨j, hj⟩ := List.getElem?_of_mem hv; exact (hn2 j v hj).2)
         simp only [Nat.add_zero] at hst
         rw [ai.size] at hf
         simp [execOp, ho, ex, ey, resolve, invoke, builtin, Builtin.append_, run_underlying (at_.slice e rfl), sizeOf, typeInfo, ai.info, Builtin.lenOf, hroom, hf, hadd, ai.size, hst]
        ·have hr1 := h4.1
         obtain ⟨gg, hg1, hg2⟩ := h4.2
         have hol : (flatG xs.length i.size gg).length = xs.length * ti.size := by rw [flatG_len, ai.size]
         have holds : ∀ (j : Nat) (v : Value), (flatG xs.length i.size gg)[j]? = some v → w.cell? ((⟨Γ.blk b, Γ.off b, none⟩ : Addr).add j) = some v := by
          intro j v hv
          obtain ⟨f1, f2, rfl, f4⟩ := flatG_inv hv
          have := (hg1 _ _ f1 f2).1
          rw [Nat.add_assoc, ← f4] at this
          rw [hadd]
          exact this
         have hr := run_append_grow (P := P) w t' o.type e ti z (at_.slice e rfl) ai.info hz ⟨Γ.blk b, Γ.off b, none⟩ xs.length (Γ.cap b) _ hol holds ⟨k, o', none⟩ ys.length cap news (by rw [ai.size]; exact hn1) hsl (by omega) (by omega)
          (growslice_fits (by omega) (by rw [ai.bytes]; exact hb1))
         have hge := grownCap_ge w (xs.length + ys.length) (Γ.cap b) e
         have hle := grownCap_le_maxLen w (xs.length + ys.length) (Γ.cap b) e hmax
         have hsz : ((flatG xs.length i.size gg).toArray ++ news.toArray ++ Builtin.zeroCells z.cells (grownCap w (xs.length + ys.length) (Γ.cap b) e - (xs.length + ys.length))).size = grownCap w (xs.length + ys.length) (Γ.cap b) e * i.size := by
          rw [Array.size_append, Array.size_append, size_zeroCells, List.size_toArray, List.size_toArray, hn1, flatG_len, hzs, ← Nat.add_mul, ← Nat.add_mul]
          congr 1
          omega
         have hrows : NewRows Γ w.drew Γ.S i.size (q.join q') (xs ++ ys) ((flatG xs.length i.size gg).toArray ++ news.toArray ++ Builtin.zeroCells z.cells (grownCap w (xs.length + ys.length) (Γ.cap b) e - (xs.length + ys.length))) := by
          have hrm : ∀ {S1 : Nat → Prop} {u : V} {v : Value}, Rd w S1 u v → Rd w.drew S1 u v := fun h => Rd.mono (w := w) (w' := w.drew) (fun _ h => h) (fun _ _ _ => rfl) h
          refine ⟨fun r hr => ?_, fun ii x jj u hx hu => ?_⟩
          ·rcases List.mem_append.1 hr with hr | hr
           ·exact hr1 r hr
           ·exact hn3 r hr
          ·rcases Nat.lt_or_ge ii xs.length with hi | hi
           ·rw [List.getElem?_append_left hi] at hx
            have hj : jj < i.size := by rw [← hr1 x (mem_of_get hx)]; exact (List.getElem?_eq_some_iff.1 hu).1
            have hpos := rowPos hi hj
            obtain ⟨f1, f2⟩ := Sq_rd (hg2 ii x jj u hx hu)
            refine ⟨gg ii jj, ?_, (hg1 ii jj hi hj).2, hrm f1, fun hg => hrm (f2 (join_good hg).1), fun hf => h5 (join_flat hf).1 x (mem_of_get hx) u (mem_of_get hu)⟩
            rw [Array.append_assoc, Array.getElem?_append_left (by simpa [flatG_len] using hpos)]
            simpa using flatG_get hi hj
           ·rw [List.getElem?_append_right hi] at hx
            obtain ⟨zz, z1, z2, z3, z4, z5⟩ := hn4 _ x jj u hx hu
            have hlt := (List.getElem?_eq_some_iff.1 z1).1
            have hidx : ii * i.size = xs.length * i.size + (ii - xs.length) * i.size := by rw [← Nat.add_mul]; congr 1; omega
            refine ⟨zz, ?_, z2, hrm z3, fun hg => hrm (z4 (join_good hg).2), fun hf => z5 (join_flat hf).2⟩
            rw [Array.append_assoc, Array.getElem?_append_right (by simp [flatG_len]; omega), Array.getElem?_append_left (by simp [flatG_len]; omega)]
            rw [List.getElem?_toArray, ← z1]
            congr 1
            simp [flatG_len]
            omega
         have htr : (q.join q').good = true → Γ.U → moveOk st.dead (srcB q' (ev st.t y)) = true → (srcB q' (ev st.t y)).contains b = false → AppTr Γ w.drew (srcB q' (ev st.t y)) b i.size (xs ++ ys) (fun p => ((flatG xs.length i.size gg).toArray ++ news.toArray ++ Builtin.zeroCells z.cells (grownCap w (xs.length + ys.length) (Γ.cap b) e - (xs.length + ys.length)))[p]?) := fun hq hU hmv hcb => by
          obtain ⟨gg1, T1, t1, t2, t3, t4⟩ := Uq_tr hxr.own_uq h4 h5 (join_good hq).1 hU
          obtain ⟨T, j1, j2, j3⟩ := hs.joinTr hU (xs := xs) (ys := ys) (cell1 := fun p => (flatG xs.length i.size gg)[p]?) (cell2 := fun p => news[p]?) (cell := fun p => ((flatG xs.length i.size gg).toArray ++ news.toArray ++ Builtin.zeroCells z.cells (grownCap w (xs.length + ys.length) (Γ.cap b) e - (xs.length + ys.length)))[p]?) h1 hdead hmv hcb
           ⟨T1, fun ii x jj u v hx hu hv => by
            have hi := (List.getElem?_eq_some_iff.1 hx).1
            have hj : jj < i.size := by rw [← hr1 x (mem_of_get hx)]; exact (List.getElem?_eq_some_iff.1 hu).1
            obtain ⟨zz, z1, z2⟩ := tr_at hr1 t1 t2 hx hu
            rw [(hg1 ii jj hi hj).1] at z1
            injection z1 with z1
            change (flatG xs.length i.size gg)[ii * i.size + jj]? = some v at hv
            rw [flatG_get hi hj] at hv
            injection hv with hv
            rw [← hv, z1]
            exact z2, t3, fun i j m hm => (t4 i j m hm).1⟩ (src_news hs (hs.ev y) hsrc (join_good hq).2 hU ey hl hn2 hn3) (fun ii jj x hx hj => by
            have hi := (List.getElem?_eq_some_iff.1 hx).1
            rw [hr1 x (mem_of_get hx)] at hj
            have hpos := rowPos hi hj
            show ((flatG xs.length i.size gg).toArray ++ news.toArray ++ _)[ii * i.size + jj]? = (flatG xs.length i.size gg)[ii * i.size + jj]?
            rw [Array.append_assoc, Array.getElem?_append_left (by simpa [flatG_len] using hpos), List.getElem?_toArray]) (fun ii jj y hy hj => by
            have hi := (List.getElem?_eq_some_iff.1 hy).1
            rw [hn3 y (mem_of_get hy)] at hj
            have hpos := rowPos hi hj
            show ((flatG xs.length i.size gg).toArray ++ news.toArray ++ _)[(xs.length + ii) * i.size + jj]? = news[ii * i.size + jj]?
            rw [Nat.add_mul]
            rw [Array.append_assoc, Array.getElem?_append_right (by simp [flatG_len]; omega), Array.getElem?_append_left (by simp [flatG_len]; omega)]
            rw [List.getElem?_toArray]
            congr 1
            simp [flatG_len]
            omega)
          exact ⟨T, fun ii x jj u v hx hu hv => (j1 ii x jj u v hx hu hv).mono (fun _ _ _ => rfl), j2, j3⟩
         have hsim := Sim.regrow (d := d) (b := b) (e := e) (n := grownCap w (xs.length + ys.length) (Γ.cap b) e) (esc := srcB q' (ev st.t y)) hs.drew hdead hb9 (by rw [List.length_append]; exact hge) (Nat.le_of_eq hsz.symm) hle hrows htr
         rw [List.length_append] at hsim
         refine ⟨_, _, ?_, by rw [hd]; exact hsim⟩
         simp [execOp, ho, ex, ey, resolve, invoke, builtin, hr]
     ·cases h
    ·cases h
   ·cases h
  ·cases h
 ·cases h
end
end Go.Am
end
