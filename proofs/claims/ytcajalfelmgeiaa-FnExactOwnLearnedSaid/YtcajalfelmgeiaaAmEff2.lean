/-
  The operations that write, in a slice of the call's own: a store into a row, an append. No theorem about a Go program stands here.
-/
import Derived.Test.YtcajalfelmgeiaaAmEff
set_option linter.unusedVariables false
set_option linter.unusedSimpArgs false
namespace Go.Am
open Go Go.RowKit
section
variable {P : Program} {c : Cfg} {Γ Γ' : Ctx} {st : St} {a : Act} {w w' : World} {den : Nat → List V → Option V} {η : Nat → Option V} {d : Nat}

theorem rows_mk {S : Nat → Prop} {s : Nat} {xs : List V} {k o : Nat} (h1 : ∀ x ∈ xs, x.cells.length = s)
    (h2 : ∀ (i : Nat) (x : V) (j : Nat) (u : V), xs[i]? = some x → x.cells[j]? = some u → ∃ v, w.cell? ⟨k, o + i * s + j, none⟩ = some v ∧ v.oneCell' = true ∧ Rd w S u v) : Rows w S s xs k o := by
  refine ⟨h1, fun i j => (w.cell? ⟨k, o + i * s + j, none⟩).getD undef, fun i j hi hj => ?_, fun i x j u hx hu => ?_⟩
  · obtain ⟨x, hx⟩ : ∃ x, xs[i]? = some x := ⟨_, List.getElem?_eq_getElem hi⟩
    obtain ⟨u, hu⟩ : ∃ u, x.cells[j]? = some u := ⟨_, List.getElem?_eq_getElem (by rw [h1 x (mem_of_get hx)]; exact hj)⟩
    obtain ⟨v, e1, e2, _⟩ := h2 i x j u hx hu
    simp only [e1, Option.getD_some]
    exact ⟨trivial, e2⟩
  · obtain ⟨v, e1, _, e3⟩ := h2 i x j u hx hu
    simp only [e1, Option.getD_some]
    exact e3
theorem Rows.at_ {S : Nat → Prop} {s : Nat} {xs : List V} {k o : Nat} (h : Rows w S s xs k o) {i : Nat} {x : V} {j : Nat} {u : V} (hx : xs[i]? = some x) (hu : x.cells[j]? = some u) :
    i < xs.length ∧ j < s ∧ ∃ v, w.cell? ⟨k, o + i * s + j, none⟩ = some v ∧ v.oneCell' = true ∧ Rd w S u v := by
  obtain ⟨r1, g, r2, r3⟩ := h
  have hi := (List.getElem?_eq_some_iff.1 hx).1
  have hj : j < s := by rw [← r1 x (mem_of_get hx)]; exact (List.getElem?_eq_some_iff.1 hu).1
  exact ⟨hi, hj, g i j, (r2 i j hi hj).1, (r2 i j hi hj).2, r3 i x j u hx hu⟩
theorem rowPos {i n s j : Nat} (hi : i < n) (hj : j < s) : i * s + j < n * s := by
  have := Nat.mul_le_mul_right s (show i + 1 ≤ n from hi)
  rw [Nat.add_mul, Nat.one_mul] at this
  omega
theorem mulLe {n m s : Nat} (h : n ≤ m) : n * s ≤ m * s := Nat.mul_le_mul_right s h

theorem cell_of {k j : Nat} {cur : Array Value} {e : TypeId} (h : w.heap[k]? = some (.cells cur e (0, 0))) : w.cell? ⟨k, j, none⟩ = cur[j]? := by simp [World.cell?, h]

/-- What is written no more, in sum. -/
theorem addS_lt (g : Good Γ w) {esc : List Nat} {k : Nat} (h : addS Γ esc k) : k < w.heap.size := by
  rcases h with h | ⟨b, _, hb, rfl⟩
  · exact g.slt k h
  · exact (g.base b hb).2.1
theorem addS_box (g : Good Γ w) {esc : List Nat} {k : Nat} (hk : Γ.lb k) : ¬ addS Γ esc (Γ.box k) := by
  rintro (h | ⟨b, _, hb, h⟩)
  · exact (g.box k hk).2.1 h
  · exact g.baseBox b k hb hk h.symm
theorem addS_base (g : Good Γ w) {esc : List Nat} {b : Nat} (hb : Γ.has b) (hS : ¬ Γ.S (Γ.blk b)) (he : esc.contains b = false) : ¬ addS Γ esc (Γ.blk b) := by
  rintro (h | ⟨b', h1, h2, h⟩)
  · exact hS h
  · have := g.baseInj b b' hb h2 h
    subst this
    simp [h1] at he

/-- A base's block is overwritten. -/
theorem Good.write {b : Nat} {cur cs : Array Value} {e : TypeId} {esc : List Nat} (g : Good Γ w) (hb : Γ.has b) (hcur : w.heap[Γ.blk b]? = some (.cells cur e (0, 0))) (hsz : cs.size = cur.size) :
    Good { Γ with S := addS Γ esc } (w.setRow (Γ.blk b) cs) := by
  have hoth : ∀ (k : Nat), k ≠ Γ.blk b → (w.setRow (Γ.blk b) cs).heap[k]? = w.heap[k]? := fun k hk => setRow_other w _ k cs hk
  refine ⟨g.os, g.tape, g.output, by rw [setRow_size]; exact g.size, fun k hk hF => ?_, g.new, fun k hk => by rw [setRow_size]; exact addS_lt g hk, fun b' hb1 => ?_, g.baseInj, fun k hk => ?_, g.boxInj, g.baseBox, addS_sr g, g.gl, g.bz, fun k hk => ?_⟩
  · exact (hoth k (fun e => hF (e ▸ (g.base b hb).1))).trans (g.old k hk hF)
  · obtain ⟨e1, e2, e3, cur', e', e4, e5⟩ := g.base b' hb1
    refine ⟨e1, by rw [setRow_size]; exact e2, e3, ?_⟩
    by_cases hbb : Γ.blk b' = Γ.blk b
    · refine ⟨cs, e, ?_, ?_⟩
      · show (w.setRow (Γ.blk b) cs).heap[Γ.blk b']? = _
        rw [hbb]
        exact setRow_heap w _ cur cs e _ hcur
      · rw [hbb, hcur] at e4
        simp only [Option.some.injEq, Obj.cells.injEq] at e4
        show Γ.off b' + Γ.cap b' * Γ.sz b' ≤ cs.size
        rw [hsz, e4.1]
        exact e5
    · exact ⟨cur', e', (hoth _ hbb).trans e4, e5⟩
  · obtain ⟨e1, _, e3⟩ := g.box k hk
    exact ⟨e1, addS_box g hk, by rw [setRow_size]; exact e3⟩
  · obtain ⟨z1, z2, cur', e', h'⟩ := g.zf k hk
    refine ⟨z1, by rw [setRow_size]; exact z2, ?_⟩
    by_cases hbb : k = Γ.blk b
    · subst hbb
      exact ⟨cs, e, setRow_heap w _ cur cs e _ hcur⟩
    · exact ⟨cur', e', (hoth _ hbb).trans h'⟩

/-- What does not hang on base b is kept when b's block is overwritten. -/
theorem VR.write {v : V} {x : Value} {b : Nat} {cs : Array Value} {esc : List Nat} {ln : Nat → Nat} (g : Good Γ w) (h : VR Γ w v x) (hb : Γ.has b) (hS : ¬ Γ.S (Γ.blk b)) (hp : v.anyB (fun b' => b' == b) = false) (hln : ∀ b', b' ≠ b → ln b' = Γ.ln b') :
    VR { Γ with S := addS Γ esc, ln := ln } (w.setRow (Γ.blk b) cs) v x := by
  refine VR.mono (Γ := Γ) (Γ' := { Γ with S := addS Γ esc, ln := ln }) (w := w) (w' := w.setRow (Γ.blk b) cs) (p := fun b' => b' == b) (r := fun _ => false) (fun _ h => .inl h) (fun _ h => h) (fun k hk => cell?_of_heap (setRow_other w _ k cs (fun e => hS (e ▸ hk))))
    (fun b' hb' => ⟨Iff.rfl, fun hh => ⟨rfl, rfl, rfl, rfl, hln b' (by simpa using hb'), cell?_of_heap (setRow_other w _ _ cs (fun e => ?_))⟩⟩) (fun _ _ => ⟨fun h => h, rfl⟩) h hp (anyP_false _)
  have := g.baseInj b' b hh hb e
  subst this
  simp at hb'

theorem cellQ_ok {S' : Nat → Prop} {q q' : Q} {u : V} {y : Value} (h1 : Rd w Γ.S u y) (h2 : q.good = true → Rd w (fun k => Γ.S k ∧ Γ.Z k) u y) (hS : ∀ k, Γ.S k → Γ'.S k) (hF : ∀ k, Γ.Z k → Γ'.Z k) (hq : q'.good = true → q.good = true)
    (hc : ∀ k, Γ.S k → ∀ o, w'.cell? ⟨k, o, none⟩ = w.cell? ⟨k, o, none⟩) : Rd w' (Γ'.Sq q') u y := by
  cases q' with
  | any => exact h1.mono hS hc
  | flat => exact (h2 (hq rfl)).mono (fun k hk => ⟨hS k hk.1, hF k hk.2⟩) (fun k hk => hc k hk.1)
  | clean => exact (h2 (hq rfl)).mono (fun k hk => ⟨hS k hk.1, hF k hk.2⟩) (fun k hk => hc k hk.1)
theorem Sq_rd {q : Q} {u : V} {y : Value} (h : Rd w (Γ.Sq q) u y) : Rd w Γ.S u y ∧ (q.good = true → Rd w (fun k => Γ.S k ∧ Γ.Z k) u y) := by
  refine ⟨h.mono (fun k hk => Sq_le hk) (fun _ _ _ => rfl), fun hq => ?_⟩
  cases q with
  | any => cases hq
  | flat => exact h
  | clean => exact h

theorem flats_len {cs us : List V} (h : flats cs = some us) : us.length = cs.length := (flats_get h).1
theorem flat_isCell {v u : V} (h : flat v = some u) : u.isCell = true := by
  cases v <;> simp only [flat, Option.some.injEq] at h <;> first | (cases h; done) | (subst h; rfl)

theorem renew_one (b : Nat) (q : Q) (ys : List V) : ∀ v u, renew b q ys v = some u → u.cells = [u] := by
  intro v u h
  cases v <;> simp only [renew] at h <;> first
    | (cases h; done)
    | (split at h <;> first
        | (simp only [Option.some.injEq] at h; subst h; first | rfl | (split <;> rfl))
        | cases h)
theorem poison_one (b : Nat) : ∀ v u, poison b v = some u → u.cells = [u] := by
  intro v u h
  cases v <;> simp only [poison] at h <;> first
    | (cases h; done)
    | (split at h <;> first
        | (simp only [Option.some.injEq] at h; subst h; rfl)
        | cases h)

theorem allCell_nils : ∀ (zs cs : List V), allCell cs = true → allCell (nilCells zs cs) = true := by
  intro zs
  induction zs with
  | nil => intro cs h; cases cs <;> exact h
  | cons z zs ih =>
    intro cs h
    cases cs with
    | nil => rfl
    | cons v cs =>
      rw [allCell, Bool.and_eq_true] at h
      rw [nilCells, allCell, Bool.and_eq_true]
      refine ⟨?_, ih cs h.2⟩
      unfold nilCell
      split
      · rfl
      · exact h.1
theorem allCell_nil {zs : List V} {v : V} (h : allCell v.cells = true) : allCell (nilRow zs v).cells = true := by
  rw [nilRow_cells]
  exact allCell_nils _ _ h

/-- A store into a row of a slice of the call's own. -/
theorem Sim.putRow {b s : Nat} {q : Q} {xs ys : List V} {k o : Nat} {v : V} {x px : Value} {new : List V} (hs : Sim Γ st a w) (hp : VR Γ w (.eptr b s q xs k o) px) (hdead : st.dead b = false) (hv : VR Γ w v x)
    (hc : allCell v.cells = true) (hesc : (cellsB v.cells).contains b = false) (hn : flats v.cells = some new) (hst : storeRow xs k o new = some ys) :
    ∃ cur e, px = .pointer (some ⟨Γ.blk b, Γ.off b + k * s + o, none⟩) ∧ w.heap[Γ.blk b]? = some (.cells cur e (0, 0)) ∧ Γ.off b + k * s + o + x.cells.size ≤ cur.size ∧
      Sims Γ ((st.sweep (renew b (q.join (cellsQ v.cells)) ys)).kill (cellsB v.cells)) a (w.setRow (Γ.blk b) (cur.toList.take (Γ.off b + k * s + o) ++ x.cells.toList ++ cur.toList.drop (Γ.off b + k * s + o + x.cells.size)).toArray) := by
  obtain ⟨rfl, hb, hsz, hcap, hk, hrow, hq⟩ := hp.eptr_inv
  have g := hs.good
  have hS := hs.nds b hb hdead
  obtain ⟨gF, glt, gm, cur, e, hcur, hfit⟩ := g.base b hb
  have hlen := hv.cellLen (isCell_def hc)
  have hcl := hv.cells hlen
  obtain ⟨n1, n2⟩ := flats_get hn
  unfold storeRow at hst
  cases hxk : xs[k]? with
  | none => rw [hxk] at hst; cases hst
  | some rx =>
    rw [hxk] at hst
    simp only at hst
    cases hov : over rx.cells o new with
    | none => rw [hov] at hst; cases hst
    | some cs =>
      rw [hov] at hst
      simp only [Option.some.injEq] at hst
      obtain ⟨l1, l2⟩ := over_len hov
      have hrl := hrow.1 rx (mem_of_get hxk)
      have hks := mulLe (s := s) (show k + 1 ≤ xs.length from hk)
      rw [Nat.add_mul, Nat.one_mul] at hks
      have hxc := mulLe (s := s) hcap.1
      have hfit1 : Γ.off b + k * s + o + x.cells.size ≤ cur.size := by rw [← hsz] at hfit; omega
      refine ⟨cur, e, rfl, hcur, hfit1, ?_⟩
      have hfit2 : Γ.off b + k * s + o + x.cells.toList.length ≤ cur.toList.length := by simpa using hfit1
      have hget := fun j => seg_get cur.toList x.cells.toList (Γ.off b + k * s + o) j hfit2
      have hsl := seg_len cur.toList x.cells.toList (Γ.off b + k * s + o) hfit2
      simp only [Array.length_toList] at hget hsl
      let Γ' : Ctx := { Γ with S := addS Γ (cellsB v.cells) }
      let cs' := (cur.toList.take (Γ.off b + k * s + o) ++ x.cells.toList ++ cur.toList.drop (Γ.off b + k * s + o + x.cells.size)).toArray
      have hcs' : cs'.size = cur.size := hsl
      have hgood : Good Γ' (w.setRow (Γ.blk b) cs') := g.write hb hcur hcs'
      have hcs : ∀ c ∈ cs, c.isCell = true ∨ c ∈ rx.cells := by
        intro u hu
        obtain ⟨j, hj⟩ := List.getElem?_of_mem hu
        rw [over_get hov j] at hj
        split at hj
        · obtain ⟨z, _, hz⟩ := n2 _ _ hj
          exact .inl (flat_isCell hz)
        · exact .inr (mem_of_get hj)
      have hrc := reshape_cells (r := rx) l1 hcs
      have hSn : ¬ addS Γ (cellsB v.cells) (Γ.blk b) := addS_base g hb hS hesc
      have hsame : ∀ k', addS Γ (cellsB v.cells) k' → ∀ o', (w.setRow (Γ.blk b) cs').cell? ⟨k', o', none⟩ = w.cell? ⟨k', o', none⟩ := fun k' hk' => cell?_of_heap (setRow_other w _ k' cs' (fun e => hSn (e ▸ hk')))
      have hheap : (w.setRow (Γ.blk b) cs').heap[Γ.blk b]? = some (.cells cs' e (0, 0)) := setRow_heap w _ cur cs' e _ hcur
      have hcell : ∀ j, (w.setRow (Γ.blk b) cs').cell? ⟨Γ.blk b, j, none⟩ = if Γ.off b + k * s + o ≤ j ∧ j < Γ.off b + k * s + o + x.cells.size then x.cells[j - (Γ.off b + k * s + o)]? else cur[j]? := by
        intro j
        rw [cell_of hheap]
        show (List.toArray _)[j]? = _
        rw [List.getElem?_toArray, hget]
        simp
      have hgq : ∀ q0 : Q, (q.join (cellsQ v.cells)).good = true → q.good = true := fun _ h => (join_good h).1
      -- an old cell, kept
      have hold : ∀ (i : Nat) (rw_ : V) (j : Nat) (u : V), xs[i]? = some rw_ → rw_.cells[j]? = some u → (i ≠ k ∨ ¬ (o ≤ j ∧ j < o + x.cells.size)) →
          ∃ z, (w.setRow (Γ.blk b) cs').cell? ⟨Γ.blk b, Γ.off b + i * s + j, none⟩ = some z ∧ z.oneCell' = true ∧ Rd (w.setRow (Γ.blk b) cs') (Γ'.Sq (q.join (cellsQ v.cells))) u z := by
        intro i rw_ j u h1 h2 h3
        obtain ⟨hi, hj, z, e1, e2, e3⟩ := hrow.at_ h1 h2
        refine ⟨z, ?_, e2, ?_⟩
        · rw [hcell, if_neg, ← cell_of hcur]
          · exact e1
          · rcases Nat.lt_trichotomy i k with h4 | h4 | h4
            · have := rowPos (j := j) h4 hj
              omega
            · subst h4
              rcases h3 with h3 | h3
              · exact absurd rfl h3
              · omega
            · have := mulLe (s := s) (show k + 1 ≤ i from h4)
              rw [Nat.add_mul, Nat.one_mul] at this
              omega
        · obtain ⟨f1, f2⟩ := Sq_rd e3
          exact cellQ_ok (S' := Γ.S) f1 f2 (fun _ h => .inl h) (fun _ h => h) (hgq q) (fun k' hk' => hsame k' (.inl hk'))
      have hrows : Rows (w.setRow (Γ.blk b) cs') (Γ'.Sq (q.join (cellsQ v.cells))) s ys (Γ.blk b) (Γ.off b) := by
        refine rows_mk (fun r hr => ?_) (fun i r j u hr hu => ?_)
        · rw [← hst] at hr
          rcases List.mem_or_eq_of_mem_set hr with hr | rfl
          · exact hrow.1 r hr
          · rw [hrc, l1]; exact hrl
        · rw [← hst, List.getElem?_set] at hr
          split at hr
          · rename_i hik
            subst hik
            try rw [if_pos hk] at hr
            simp only [Option.some.injEq] at hr
            subst hr
            rw [hrc, over_get hov] at hu
            have hnl : new.length = x.cells.size := by omega
            rw [hnl] at hu
            split at hu
            · rename_i hjj
              obtain ⟨z, z1, z2⟩ := n2 _ _ hu
              obtain ⟨y, y1, y2⟩ := hcl _ _ z1
              obtain ⟨f1, f2, f3, f4⟩ := flat_ok (S' := addS Γ (cellsB v.cells)) g y2 z2 (fun _ h => .inl h) (fun b1 hb1 hh => .inr ⟨b1, cellsB_mem (mem_of_get z1) b1 hb1, hh, rfl⟩)
              refine ⟨y, ?_, f2, ?_⟩
              · rw [hcell, if_pos (by omega), ← y1]
                congr 1
                omega
              · have hqq : (q.join (cellsQ v.cells)).good = true → Rd w (fun k => addS Γ (cellsB v.cells) k ∧ Γ.Z k) u y := fun h => f3 (cellsQ_good (join_good h).2 z (mem_of_get z1))
                cases hqj : q.join (cellsQ v.cells) with
                | any => exact f1.mono (fun _ h => h) hsame
                | flat => exact (hqq (by rw [hqj]; rfl)).mono (fun _ h => h) (fun k' hk' => hsame k' hk'.1)
                | clean => exact (hqq (by rw [hqj]; rfl)).mono (fun _ h => h) (fun k' hk' => hsame k' hk'.1)
            · rename_i hjj
              exact hold _ rx j u hxk hu (.inr hjj)
          · rename_i hik
            exact hold i r j u hr hu (.inl (fun e => hik e.symm))
      have hflat : flatOk (q.join (cellsQ v.cells)) ys := by
        intro hqf r hr u hu
        obtain ⟨j1, j2⟩ := join_flat hqf
        rw [← hst] at hr
        rcases List.mem_or_eq_of_mem_set hr with hr | rfl
        · exact hq j1 r hr u hu
        · rw [hrc] at hu
          obtain ⟨j, hj⟩ := List.getElem?_of_mem hu
          rw [over_get hov j] at hj
          split at hj
          · obtain ⟨z, z1, z2⟩ := n2 _ _ hj
            obtain ⟨y, y1, y2⟩ := hcl _ _ z1
            exact (flat_ok (S' := addS Γ (cellsB v.cells)) g y2 z2 (fun _ h => .inl h) (fun b1 hb1 hh => .inr ⟨b1, cellsB_mem (mem_of_get z1) b1 hb1, hh, rfl⟩)).2.2.2 (cellsQ_flat j2 z (mem_of_get z1))
          · exact hq j1 rx (mem_of_get hxk) u (mem_of_get hj)
      have hyl : ys.length = xs.length := by rw [← hst, List.length_set]
      refine ⟨Γ', ⟨rfl, rfl, rfl⟩, ?_⟩
      refine Sim.sweep (f := renew b (q.join (cellsQ v.cells)) ys) (dead := fun b' => (cellsB v.cells).contains b' || st.dead b') hs ?_ (renew_one b _ ys) hgood (fun _ h => h) (fun _ => rfl) (fun k' hk' => setRow_other w _ _ cs' (fun e => g.baseBox b k' hb hk' e.symm)) ?_
      · intro u y hleaf hu
        have keep : u.anyB (fun b' => b' == b) = false → VR Γ' (w.setRow (Γ.blk b) cs') u y := fun h => hu.write g hb hS h (fun _ _ => rfl)
        cases u with
        | own b' s' q' zs =>
          simp only [renew]
          split
          · rename_i hbb
            subst hbb
            simp only [Option.getD_some]
            rcases hu.own_inv with ⟨_, _, h3⟩ | ⟨h1, _, h3, h4, _⟩
            · exact absurd hb h3
            · have hzl : zs.length = ys.length := by rw [hyl, h4.2, hcap.2]
              have := VR.own (Γ := Γ') (w := w.setRow (Γ.blk b') cs') b' s' (q.join (cellsQ v.cells)) ys hb h3 (by rw [hyl]; exact hcap) (by rw [h3, ← hsz]; exact hrows) hflat
              rw [h1, hzl]
              exact this
          · rename_i hbb
            exact keep (by simpa [V.anyB] using hbb)
        | view b' s' q' zs =>
          simp only [renew]
          split
          · exact VR.undef_ _
          · rename_i hbb
            exact keep (by simpa [V.anyB] using hbb)
        | eptr b' s' q' zs i' o' =>
          simp only [renew]
          split
          · exact VR.undef_ _
          · rename_i hbb
            exact keep (by simpa [V.anyB] using hbb)
        | vptr b' z o' =>
          simp only [renew]
          split
          · exact VR.undef_ _
          · rename_i hbb
            exact keep (by simpa [V.anyB] using hbb)
        | agg _ => cases hleaf
        | tup _ => cases hleaf
        | clo _ _ => cases hleaf
        | _ => exact keep rfl
      · intro b' hb' hdd
        simp only [Bool.or_eq_false_iff] at hdd
        exact addS_base g hb' (hs.nds b' hb' hdd.2) hdd.1

theorem allCell_one {v : V} {x : Value} (hv : VR Γ w v x) (hc : allCell v.cells = true) : ∀ u ∈ x.cells.toList, u.oneCell' = true := by
  have hlen := hv.cellLen (isCell_def hc)
  intro z hz
  obtain ⟨j, hj⟩ := List.getElem?_of_mem hz
  obtain ⟨u, hu⟩ : ∃ u, v.cells[j]? = some u := ⟨_, List.getElem?_eq_getElem (by rw [hlen]; simpa using (List.getElem?_eq_some_iff.1 hj).1)⟩
  obtain ⟨y, e1, e2⟩ := hv.cells hlen j u hu
  have : y = z := by simpa [e1] using hj
  subst this
  exact isCell_one e2 (allCell_mem hc u (mem_of_get hu))

/-- A store. -/
theorem sound_store (hA : Agree P c) (hs : Sim Γ st a w) {o : Oper} {t : TypeId} {ad x : Operand} {st' : St} (ho : o.op = .store t ad x) (h : effOp c st o.dst o.op = some st') :
    ∃ w', (execOp a.eval o).run P w = .ok .skip w' ∧ Sims Γ st' (a.put o.dst undef) w' := by
  rw [ho] at h
  simp only [effOp] at h
  split at h
  · rename_i i hi
    split at h
    · rename_i hc
      obtain ⟨hl, hc, hd⟩ := hc
      split at h
      · rename_i b off had
        split at h
        · rename_i r hb
          split at h
          · rename_i cs hov
            simp only [Option.some.injEq] at h
            subst h
            exact sound_storeBox hA hs ho hi hl hc hd had hb hov
          · cases h
        · cases h
      · rename_i b s q xs k off had
        split at h
        · rename_i hcc
          split at h
          · rename_i new hn
            split at h
            · rename_i ys hys
              simp only [Option.some.injEq] at h
              subst h
              obtain ⟨ti, ai⟩ := hA _ _ hi
              have hv := hs.ev x
              have hp := hs.ev ad
              rw [had] at hp
              obtain ⟨cur, e, h1, h2, h3, h4⟩ := hs.putRow hp hcc.1 (nilRow_ok hv) (allCell_nil hc) hcc.2 hn hys
              have hlen := hv.cellLen (isCell_def hc)
              have hr := run_storeVar_at P w (Γ.blk b) (Γ.off b + k * s + off) e t ti cur (a.eval x) h2 ai.info (by rw [ai.size, ← hl, hlen]) h3 (allCell_one hv hc)
              refine ⟨_, ?_, by rw [hd]; exact h4⟩
              simp [execOp, ho, h1, hr]
            · cases h
          · cases h
        · cases h
      · cases h
    · cases h
  · cases h
end
end Go.Am
