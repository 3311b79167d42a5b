/-
  An append to a slice of the call's own. No theorem about a Go program stands here.
-/
import Derived.Test.YtcajalfelmgeiaaAmEff2
set_option linter.unusedVariables false
set_option linter.unusedSimpArgs false
namespace Go.Am
open Go Go.RowKit
section
variable {P : Program} {c : Cfg} {Γ Γ' : Ctx} {st : St} {a : Act} {w w' : World} {den : Nat → List V → Option V} {η : Nat → Option V} {d : Nat}

theorem leaf_poison {b : Nat} (h : ∀ u y, VR Γ w u y → u.anyB (fun b' => b' == b) = false → VR Γ' w' u y) : LeafOk Γ Γ' w w' (poison b) := by
  intro u y hleaf hu
  have keep := h u y hu
  cases u with
  | own b' s' q' zs =>
    simp only [poison]
    split
    · exact VR.undef_ _
    · rename_i hbb
      exact keep (by simpa [V.anyB] using hbb)
  | view b' s' q' zs =>
    simp only [poison]
    split
    · exact VR.undef_ _
    · rename_i hbb
      exact keep (by simpa [V.anyB] using hbb)
  | eptr b' s' q' zs i' o' =>
    simp only [poison]
    split
    · exact VR.undef_ _
    · rename_i hbb
      exact keep (by simpa [V.anyB] using hbb)
  | vptr b' z o' =>
    simp only [poison]
    split
    · exact VR.undef_ _
    · rename_i hbb
      exact keep (by simpa [V.anyB] using hbb)
  | agg _ => cases hleaf
  | tup _ => cases hleaf
  | clo _ _ => cases hleaf
  | _ => exact keep rfl

/-- A slice of the call's own moves to a new block. -/
theorem Sim.regrow {b s : Nat} {q : Q} {ys : List V} {cs : Array Value} {e : TypeId} {n : Nat} (hs : Sim Γ st a w) (hdead : st.dead b = false)
    (hl : ys.length ≤ n) (hn : n * s ≤ cs.size) (hm : n ≤ maxLen) (hr : NewRows Γ w Γ.S s q ys cs) :
    Sims Γ { st.sweep (poison b) with t := (st.sweep (poison b)).t.set d (.own b s q ys) } (a.put (some d) (.slice (some ⟨w.heap.size, 0, none⟩) ys.length n)) (w.alloc (.cells cs e)) := by
  let Γ' : Ctx := { Γ with has := fun b' => Γ.has b' ∨ b' = b, blk := fun b' => if b' = b then w.heap.size else Γ.blk b',
                           off := fun b' => if b' = b then 0 else Γ.off b', cap := fun b' => if b' = b then n else Γ.cap b', sz := fun b' => if b' = b then s else Γ.sz b', ln := fun b' => if b' = b then ys.length else Γ.ln b', Z := fun k => Γ.Z k ∨ k = w.heap.size }
  have g := hs.good
  have hsz := size_alloc w (.cells cs e)
  have hcell : ∀ k, k < w.heap.size → ∀ o, (w.alloc (.cells cs e)).cell? ⟨k, o, none⟩ = w.cell? ⟨k, o, none⟩ := fun k hk o => cell?_of_heap (heap_alloc_lt w _ hk) o
  have e1 : Γ'.blk b = w.heap.size := if_pos rfl
  have e2 : Γ'.off b = 0 := if_pos rfl
  have e3 : Γ'.cap b = n := if_pos rfl
  have e4 : Γ'.sz b = s := if_pos rfl
  have hgood : Good Γ' (w.alloc (.cells cs e)) := by
    refine ⟨g.os, g.tape, g.output, Nat.le_trans g.size (by rw [hsz]; omega), fun k hk hF => ?_, g.new, fun k hk => ?_, fun b' hb => ?_, fun b1 b2 hb hb' he => ?_, fun k hk => ?_, g.boxInj, fun b' k hb hk => ?_, g.sr, g.gl, fun b' hb => ?bz, fun k hk => ?zf⟩
    case bz =>
      show Γ.Z (if b' = b then _ else _) ∨ (if b' = b then _ else _) = _
      by_cases h0 : b' = b
      · rw [if_pos h0]; exact .inr rfl
      · rw [if_neg h0]; exact .inl (g.bz b' (hb.resolve_right h0))
    case zf =>
      rcases hk with hk | hk
      · obtain ⟨z1, z2, cur, e', h⟩ := g.zf k hk
        exact ⟨z1, by rw [hsz]; omega, cur, e', (heap_alloc_lt w _ z2).trans h⟩
      · subst hk
        exact ⟨g.new _ g.size, by rw [hsz]; omega, cs, e, heap_alloc_eq w _⟩
    · exact (heap_alloc_lt w _ (Nat.lt_of_lt_of_le hk g.size)).trans (g.old k hk hF)
    · have := g.slt k hk; rw [hsz]; omega
    · show Γ.F (if b' = b then _ else _) ∧ (if b' = b then _ else _) < _ ∧ (if b' = b then _ else _) ≤ _ ∧ ∃ cur e', (w.alloc (.cells cs e)).heap[if b' = b then w.heap.size else Γ.blk b']? = some (.cells cur e' (0, 0)) ∧ (if b' = b then 0 else Γ.off b') + (if b' = b then n else Γ.cap b') * (if b' = b then s else Γ.sz b') ≤ cur.size
      by_cases h0 : b' = b
      · simp only [if_pos h0]
        exact ⟨g.new _ g.size, by rw [hsz]; omega, hm, cs, e, heap_alloc_eq w _, by omega⟩
      · rcases hb with hb | hb
        · obtain ⟨h1, h2, h3, cur, e', h4, h5⟩ := g.base b' hb
          simp only [if_neg h0]
          exact ⟨h1, by rw [hsz]; omega, h3, cur, e', (heap_alloc_lt w _ h2).trans h4, h5⟩
        · exact absurd hb h0
    · change (if b1 = b then w.heap.size else Γ.blk b1) = (if b2 = b then w.heap.size else Γ.blk b2) at he
      by_cases h1 : b1 = b
      · by_cases h2 : b2 = b
        · rw [h1, h2]
        · rcases hb' with hb' | hb'
          · rw [if_pos h1, if_neg h2] at he
            have := (g.base b2 hb').2.1; omega
          · exact absurd hb' h2
      · rcases hb with hb | hb
        · by_cases h2 : b2 = b
          · rw [if_neg h1, if_pos h2] at he
            have := (g.base b1 hb).2.1; omega
          · rcases hb' with hb' | hb'
            · rw [if_neg h1, if_neg h2] at he
              exact g.baseInj b1 b2 hb hb' he
            · exact absurd hb' h2
        · exact absurd hb h1
    · obtain ⟨h1, h2, h3⟩ := g.box k hk
      exact ⟨h1, h2, Nat.lt_of_lt_of_le h3 (by rw [hsz]; omega)⟩
    · show (if b' = b then w.heap.size else Γ.blk b') ≠ Γ.box k
      by_cases h1 : b' = b
      · rw [if_pos h1]; have := (g.box k hk).2.2; omega
      · rcases hb with hb | hb
        · rw [if_neg h1]; exact g.baseBox b' k hb hk
        · exact absurd hb h1
  have hv : VR Γ' (w.alloc (.cells cs e)) (.own b s q ys) (.slice (some ⟨w.heap.size, 0, none⟩) ys.length n) := by
    obtain ⟨r1, r2⟩ := hr
    have := VR.own (Γ := Γ') (w := w.alloc (.cells cs e)) b s q ys (.inr rfl) e4.symm (by rw [e3]; exact ⟨hl, (if_pos rfl).symm⟩) ?_ (fun hqf x hx u hu => ?_)
    · rwa [e1, e2, e3] at this
    · rw [e1, e2]
      refine rows_mk r1 (fun i x j u hx hu => ?_)
      obtain ⟨v, h1, h2, h3, h4, h5⟩ := r2 i x j u hx hu
      refine ⟨v, ?_, h2, cellQ_ok (S' := Γ.S) (q := q) h3 h4 (fun _ h => h) (fun _ h => .inl h) (fun h => h) (fun k hk => hcell k (g.slt k hk))⟩
      rw [cell_of (heap_alloc_eq w (.cells cs e)), Nat.zero_add]
      exact h1
    · obtain ⟨i, hi⟩ := List.getElem?_of_mem hx
      obtain ⟨j, hj⟩ := List.getElem?_of_mem hu
      obtain ⟨v, _, _, _, _, h5⟩ := r2 i x j u hi hj
      exact h5 hqf
  have hsim : Sim Γ' { st.sweep (poison b) with dead := st.dead } a (w.alloc (.cells cs e)) := by
    refine Sim.sweep (f := poison b) (dead := st.dead) hs (leaf_poison (fun u y hu hp => ?_)) (poison_one b) hgood (fun _ h => h) (fun _ => rfl) (fun k hk => heap_alloc_lt w _ (g.box k hk).2.2) (fun b' hb hdd => ?_)
    · refine VR.mono (Γ := Γ) (Γ' := Γ') (w := w) (w' := w.alloc (.cells cs e)) (p := fun b' => b' == b) (r := fun _ => false) (fun _ h => h) (fun _ h => .inl h) (fun k hk => hcell k (g.slt k hk)) (fun b' hb' => ?_) (fun _ _ => ⟨fun h => h, rfl⟩) hu hp (anyP_false _)
      have hb' : b' ≠ b := by simpa using hb'
      exact ⟨⟨fun h => h.resolve_right hb', fun h => .inl h⟩, fun hh => ⟨if_neg hb', if_neg hb', if_neg hb', if_neg hb', if_neg hb', hcell _ (g.base b' hh).2.1⟩⟩
    · show ¬ Γ.S (if b' = b then w.heap.size else Γ.blk b')
      by_cases h1 : b' = b
      · rw [if_pos h1]
        intro h
        have := g.slt _ h
        omega
      · rw [if_neg h1]
        exact hs.nds b' (hb.resolve_right h1) hdd
  exact ⟨Γ', ⟨rfl, rfl, rfl⟩, hsim.put hv⟩

/-- An append where there is room. -/
theorem Sim.roomy {b s : Nat} {q q' : Q} {xs ys : List V} {cur : Array Value} {e : TypeId} {news : List Value} (hs : Sim Γ st a w) (hb : Γ.has b) (hdead : st.dead b = false) (hsz : s = Γ.sz b)
    (hrow : Rows w (Γ.Sq q) s xs (Γ.blk b) (Γ.off b)) (hq : flatOk q xs) (hcur : w.heap[Γ.blk b]? = some (.cells cur e (0, 0))) (hn1 : news.length = ys.length * s) (hcap : xs.length + ys.length ≤ Γ.cap b)
    (hn2 : ∀ (p : Nat) (u : Value), news[p]? = some u → u.oneCell' = true) (hn3 : ∀ y ∈ ys, y.cells.length = s)
    (hn4 : ∀ (i : Nat) (y : V) (j : Nat) (u : V), ys[i]? = some y → y.cells[j]? = some u → ∃ z, news[i * s + j]? = some z ∧ z.oneCell' = true ∧ Rd w Γ.S u z ∧ (q'.good = true → Rd w (fun k => Γ.S k ∧ Γ.Z k) u z) ∧ (q' = .flat → noSl u)) :
    Γ.off b + xs.length * s + news.length ≤ cur.size ∧
    Sims Γ { st.sweep (poison b) with t := (st.sweep (poison b)).t.set d (.own b s (q.join q') (xs ++ ys)) } (a.put (some d) (.slice (some ⟨Γ.blk b, Γ.off b, none⟩) (xs.length + ys.length) (Γ.cap b)))
      (w.setRow (Γ.blk b) (cur.toList.take (Γ.off b + xs.length * s) ++ news ++ cur.toList.drop (Γ.off b + xs.length * s + news.length)).toArray) := by
  have g := hs.good
  have hS := hs.nds b hb hdead
  obtain ⟨gF, glt, gm, cur', e', hcur', hfit⟩ := g.base b hb
  rw [hcur] at hcur'
  simp only [Option.some.injEq, Obj.cells.injEq] at hcur'
  obtain ⟨rfl, rfl, _⟩ := hcur'
  have hmul := mulLe (s := s) hcap
  rw [Nat.add_mul] at hmul
  have hfit1 : Γ.off b + xs.length * s + news.length ≤ cur.size := by rw [← hsz] at hfit; omega
  refine ⟨hfit1, ?_⟩
  have hfit2 : Γ.off b + xs.length * s + news.length ≤ cur.toList.length := by simpa using hfit1
  have hget := fun j => seg_get cur.toList news (Γ.off b + xs.length * s) j hfit2
  have hsl := seg_len cur.toList news (Γ.off b + xs.length * s) hfit2
  simp only [Array.length_toList] at hsl
  let Γ' : Ctx := { Γ with S := addS Γ [], ln := fun b' => if b' = b then xs.length + ys.length else Γ.ln b' }
  let cs' := (cur.toList.take (Γ.off b + xs.length * s) ++ news ++ cur.toList.drop (Γ.off b + xs.length * s + news.length)).toArray
  have hgood : Good Γ' (w.setRow (Γ.blk b) cs') := by
    have g' : Good { Γ with S := addS Γ [] } (w.setRow (Γ.blk b) cs') := g.write hb hcur hsl
    exact ⟨g'.os, g'.tape, g'.output, g'.size, g'.old, g'.new, g'.slt, g'.base, g'.baseInj, g'.box, g'.boxInj, g'.baseBox, g'.sr, g'.gl, g'.bz, g'.zf⟩
  have hSn : ¬ addS Γ [] (Γ.blk b) := addS_base g hb hS rfl
  have hsame : ∀ k', Γ.S k' → ∀ o', (w.setRow (Γ.blk b) cs').cell? ⟨k', o', none⟩ = w.cell? ⟨k', o', none⟩ := fun k' hk' => cell?_of_heap (setRow_other w _ k' cs' (fun e => hS (e ▸ hk')))
  have hheap : (w.setRow (Γ.blk b) cs').heap[Γ.blk b]? = some (.cells cs' e (0, 0)) := setRow_heap w _ cur cs' e _ hcur
  have hcell : ∀ j, (w.setRow (Γ.blk b) cs').cell? ⟨Γ.blk b, j, none⟩ = if Γ.off b + xs.length * s ≤ j ∧ j < Γ.off b + xs.length * s + news.length then news[j - (Γ.off b + xs.length * s)]? else cur[j]? := by
    intro j
    rw [cell_of hheap]
    show (List.toArray _)[j]? = _
    rw [List.getElem?_toArray, hget]
    simp
  have hrows : Rows (w.setRow (Γ.blk b) cs') (Γ'.Sq (q.join q')) s (xs ++ ys) (Γ.blk b) (Γ.off b) := by
    refine rows_mk (fun r hr => ?_) (fun i r j u hr hu => ?_)
    · rcases List.mem_append.1 hr with hr | hr
      · exact hrow.1 r hr
      · exact hn3 r hr
    · rcases Nat.lt_or_ge i xs.length with hi | hi
      · rw [List.getElem?_append_left hi] at hr
        obtain ⟨_, hj, z, e1, e2, e3⟩ := hrow.at_ hr hu
        have := rowPos hi hj
        refine ⟨z, ?_, e2, ?_⟩
        · rw [hcell, if_neg (by omega), ← cell_of hcur]
          exact e1
        · obtain ⟨f1, f2⟩ := Sq_rd e3
          exact cellQ_ok (S' := Γ.S) (q := q) f1 f2 (fun _ h => .inl h) (fun _ h => h) (fun h => (join_good h).1) hsame
      · rw [List.getElem?_append_right hi] at hr
        obtain ⟨z, z1, z2, z3, z4, z5⟩ := hn4 _ _ _ _ hr hu
        have hlt := (List.getElem?_eq_some_iff.1 z1).1
        have hidx : i * s = xs.length * s + (i - xs.length) * s := by rw [← Nat.add_mul]; congr 1; omega
        refine ⟨z, ?_, z2, cellQ_ok (S' := Γ.S) (q := q') z3 z4 (fun _ h => .inl h) (fun _ h => h) (fun h => (join_good h).2) hsame⟩
        rw [hcell, if_pos (by omega), ← z1]
        congr 1
        omega
  have hflat : flatOk (q.join q') (xs ++ ys) := by
    intro hqf r hr u hu
    obtain ⟨j1, j2⟩ := join_flat hqf
    rcases List.mem_append.1 hr with hr | hr
    · exact hq j1 r hr u hu
    · obtain ⟨i, hi⟩ := List.getElem?_of_mem hr
      obtain ⟨j, hj⟩ := List.getElem?_of_mem hu
      obtain ⟨z, _, _, _, _, z5⟩ := hn4 i r j u hi hj
      exact z5 j2
  have hv := VR.own (Γ := Γ') (w := w.setRow (Γ.blk b) cs') b s (q.join q') (xs ++ ys) hb hsz (by rw [List.length_append]; exact ⟨hcap, (if_pos rfl).symm⟩) hrows hflat
  rw [List.length_append] at hv
  have hsim : Sim Γ' { st.sweep (poison b) with dead := st.dead } a (w.setRow (Γ.blk b) cs') := by
    refine Sim.sweep (f := poison b) (dead := st.dead) hs (leaf_poison (fun u y hu hp => hu.write g hb hS hp (fun b' hb' => if_neg hb'))) (poison_one b) hgood (fun _ h => h) (fun _ => rfl) (fun k' hk' => setRow_other w _ _ cs' (fun e => g.baseBox b k' hb hk' e.symm)) (fun b' hb' hdd => ?_)
    exact addS_base g hb' (hs.nds b' hb' hdd) rfl
  exact ⟨Γ', ⟨rfl, rfl, rfl⟩, hsim.put hv⟩

/-- Where the append leaves memory as it is. -/
theorem Sim.same {b s : Nat} {q : Q} {xs : List V} {x : Value} (hs : Sim Γ st a w) (hv : VR Γ w (.own b s q xs) x) :
    Sims Γ { st.sweep (poison b) with t := (st.sweep (poison b)).t.set d (.own b s q xs) } (a.put (some d) x) w := by
  have hsim : Sim Γ { st.sweep (poison b) with dead := st.dead } a w :=
    Sim.sweep (f := poison b) (dead := st.dead) hs (leaf_poison (fun u y hu _ => hu)) (poison_one b) hs.good (fun _ h => h) (fun _ => rfl) (fun k' hk' => rfl) hs.nds
  exact ⟨Γ, ⟨rfl, rfl, rfl⟩, hsim.put hv⟩

theorem own_le {b s : Nat} {q q' : Q} {xs : List V} {x : Value} (hv : VR Γ w (.own b s q xs) x) (hq : q' = q.join q ∨ ∃ p, q' = q.join p) : VR Γ w (.own b s q' xs) x := by
  have hg : q'.good = true → q.good = true := by
    rcases hq with rfl | ⟨p, rfl⟩
    · exact fun h => (join_good h).1
    · exact fun h => (join_good h).1
  have hf : q' = .flat → q = .flat := by
    rcases hq with rfl | ⟨p, rfl⟩
    · exact fun h => (join_flat h).1
    · exact fun h => (join_flat h).1
  rcases hv.own_inv with ⟨rfl, rfl, h3⟩ | ⟨rfl, h1, h2, h3, h4, h5⟩
  · exact .ownNil _ _ _ h3
  · refine .own _ _ _ _ h1 h2 h3 (h4.mono (fun k hk => ?_) (fun _ _ _ => rfl) (fun _ _ _ => rfl)) (fun e => h5 (hf e))
    cases hq'' : q' with
    | any => exact Sq_le hk
    | flat => have := hg (by rw [hq'']; rfl)
              cases q <;> first | exact hk | cases this
    | clean => have := hg (by rw [hq'']; rfl)
               cases q <;> first | exact hk | cases this

/-- An append to a slice of the call's own. -/
theorem sound_appendOwn (hA : Agree P c) (hs : Sim Γ st a w) {o : Oper} {args : Array Operand} {ts : Array TypeId} {st' : St} (ho : o.op = .call ⟨.builtin .append, args, ts⟩) (h : effOp c st o.dst o.op = some st') :
    ∃ x w', (execOp a.eval o).run P w = .ok (.value x) w' ∧ Sims Γ st' (a.put o.dst x) w' := by
  rw [ho] at h
  simp only [effOp] at h
  split at h
  · rename_i x y t t' d hx ht2 hd
    obtain rfl := arr2 hx
    obtain rfl := arr2 ht2
    split at h
    · rename_i e sz by_ z0 cm nz_ qz_ ht
      split at h
      · rename_i i b s q xs hi hxv
        split at h
        · rename_i q' ys hsrc
          split at h
          · rename_i hc
            obtain ⟨rfl, rfl, hne, hdead, hb1, hb2⟩ := hc
            simp only [Option.some.injEq] at h
            subst h
            obtain ⟨tt, at_⟩ := hA _ _ ht
            obtain ⟨ti, ai⟩ := hA _ _ hi
            obtain ⟨z, hz, hz1, hz2, hz3, hz4⟩ := ai.zero
            have hzs : z.cells.size = i.size := by rw [← ai.zsz, ← hz2]; simp
            have hxr := hs.ev x
            rw [hxv] at hxr
            have hmax : xs.length + ys.length ≤ maxLen := by unfold maxLen; omega
            rcases src_ok hs.good (hs.ev y) hsrc with ⟨rfl, ad, cap, ey⟩ | ⟨k, o', cap, news, ey, hl, hn1, hn2, hn3, hn4⟩
            · have hfc : (Builtin.firstCells ti.size 0 (.slice ad 0 cap)).run P w = .ok #[] w := by
                cases ad with
                | none => exact run_firstCells_none _ _ _ _ _
                | some b => exact run_firstCells_some w ti.size 0 b 0 cap [] (by simp) (fun j v h => by simp at h)
              have hsim := hs.same (d := d) (own_le hxr (.inr ⟨q', rfl⟩))
              rw [List.append_nil]
              refine ⟨_, w, ?_, by rw [hd]; exact hsim⟩
              rcases hxr.own_inv with ⟨ex, rfl, _⟩ | ⟨ex, h1, h2, h3, h4, h5⟩
              · simp [execOp, ho, ex, ey, resolve, invoke, builtin, Builtin.append_, run_underlying (at_.slice e rfl), sizeOf, typeInfo, ai.info, hz, zeroValue, Builtin.lenOf, hfc]
              · simp [execOp, ho, ex, ey, resolve, invoke, builtin, Builtin.append_, run_underlying (at_.slice e rfl), sizeOf, typeInfo, ai.info, hz, zeroValue, Builtin.lenOf, hfc, h3.1, storeCells]
            · have hadd : ∀ k o' n, (⟨k, o', none⟩ : Addr).add n = ⟨k, o' + n, none⟩ := by intro k o' n; simp [Addr.add]
              have hsl : ∀ (j : Nat) (v : Value), news[j]? = some v → w.cell? ((⟨k, o', none⟩ : Addr).add j) = some v := fun j v hv => by rw [hadd]; exact (hn2 j v hv).1
              rcases hxr.own_inv with ⟨ex, rfl, hnb⟩ | ⟨ex, h1, h2, h3, h4, h5⟩
              · have hr := run_append_nil (P := P) w t' o.type e ti z (at_.slice e rfl) ai.info hz ⟨k, o', none⟩ ys.length cap news (by rw [ai.size]; exact hn1) hsl hl (by omega) (by rw [ai.bytes]; simp only [List.length_nil, Nat.zero_add] at hb1; omega)
                have hge := grownCap_ge w ys.length 0 e
                have hle := grownCap_le_maxLen w ys.length 0 e (by unfold maxLen; omega)
                have hsz : (news.toArray ++ Builtin.zeroCells z.cells (grownCap w ys.length 0 e - ys.length)).size = grownCap w ys.length 0 e * i.size := by
                  rw [Array.size_append, size_zeroCells, List.size_toArray, hn1, ← hzs, ← Nat.add_mul]
                  congr 1
                  omega
                have hrows : NewRows Γ w.drew Γ.S i.size (q.join q') ys (news.toArray ++ Builtin.zeroCells z.cells (grownCap w ys.length 0 e - ys.length)) := by
                  refine ⟨hn3, fun ii x jj u hx hu => ?_⟩
                  obtain ⟨zz, h1, h2, h3, h4, h5⟩ := hn4 ii x jj u hx hu
                  have hlt := (List.getElem?_eq_some_iff.1 h1).1
                  have hrm : ∀ {S1 : Nat → Prop} {u : V} {v : Value}, Rd w S1 u v → Rd w.drew S1 u v := fun h => Rd.mono (w := w) (w' := w.drew) (fun _ h => h) (fun _ _ _ => rfl) h
                  refine ⟨zz, ?_, h2, hrm h3, fun hg => hrm (h4 (join_good hg).2), fun hf => h5 (join_flat hf).2⟩
                  rw [Array.getElem?_append_left (by simpa using hlt)]
                  simpa using h1
                have hsim := Sim.regrow (d := d) (b := b) (e := e) (n := grownCap w ys.length 0 e) hs.drew hdead hge (Nat.le_of_eq hsz.symm) hle hrows
                refine ⟨_, _, ?_, by rw [hd]; exact hsim⟩
                simp [execOp, ho, ex, ey, resolve, invoke, builtin, hr]
              · obtain ⟨gF, glt, gm, cur, e0, hcur, hfit⟩ := hs.good.base b h1
                by_cases hroom : xs.length + ys.length ≤ Γ.cap b
                · obtain ⟨r1, r2⟩ := Sim.roomy (d := d) (q' := q') hs h1 hdead h2 h4 h5 hcur hn1 hroom (fun p u hu => (hn2 p u hu).2) hn3 hn4
                  refine ⟨_, _, ?_, by rw [hd]; exact r2⟩
                  have hf := run_firstCells_some (P := P) w ti.size ys.length ⟨k, o', none⟩ ys.length cap news (by rw [ai.size]; exact hn1) hsl
                  have hst := run_storeCells_at P (Γ.blk b) (Γ.off b + xs.length * i.size) e0 news 0 cur w hcur (by simpa using r1) (fun v hv => by obtain ⟨j, hj⟩ := List.getElem?_of_mem hv; exact (hn2 j v hj).2)
                  simp only [Nat.add_zero] at hst
                  rw [ai.size] at hf
                  simp [execOp, ho, ex, ey, resolve, invoke, builtin, Builtin.append_, run_underlying (at_.slice e rfl), sizeOf, typeInfo, ai.info, Builtin.lenOf, hroom, hf, hadd, ai.size, hst]
                · have hr1 := h4.1
                  obtain ⟨gg, hg1, hg2⟩ := h4.2
                  have hol : (flatG xs.length i.size gg).length = xs.length * ti.size := by rw [flatG_len, ai.size]
                  have holds : ∀ (j : Nat) (v : Value), (flatG xs.length i.size gg)[j]? = some v → w.cell? ((⟨Γ.blk b, Γ.off b, none⟩ : Addr).add j) = some v := by
                    intro j v hv
                    obtain ⟨f1, f2, rfl, f4⟩ := flatG_inv hv
                    have := (hg1 _ _ f1 f2).1
                    rw [Nat.add_assoc, ← f4] at this
                    rw [hadd]
                    exact this
                  have hr := run_append_grow (P := P) w t' o.type e ti z (at_.slice e rfl) ai.info hz ⟨Γ.blk b, Γ.off b, none⟩ xs.length (Γ.cap b) _ hol holds ⟨k, o', none⟩ ys.length cap news (by rw [ai.size]; exact hn1) hsl (by omega) (by omega)
                    (growslice_fits (by omega) (by rw [ai.bytes]; exact hb1))
                  have hge := grownCap_ge w (xs.length + ys.length) (Γ.cap b) e
                  have hle := grownCap_le_maxLen w (xs.length + ys.length) (Γ.cap b) e hmax
                  have hsz : ((flatG xs.length i.size gg).toArray ++ news.toArray ++ Builtin.zeroCells z.cells (grownCap w (xs.length + ys.length) (Γ.cap b) e - (xs.length + ys.length))).size = grownCap w (xs.length + ys.length) (Γ.cap b) e * i.size := by
                    rw [Array.size_append, Array.size_append, size_zeroCells, List.size_toArray, List.size_toArray, hn1, flatG_len, hzs, ← Nat.add_mul, ← Nat.add_mul]
                    congr 1
                    omega
                  have hrows : NewRows Γ w.drew Γ.S i.size (q.join q') (xs ++ ys) ((flatG xs.length i.size gg).toArray ++ news.toArray ++ Builtin.zeroCells z.cells (grownCap w (xs.length + ys.length) (Γ.cap b) e - (xs.length + ys.length))) := by
                    have hrm : ∀ {S1 : Nat → Prop} {u : V} {v : Value}, Rd w S1 u v → Rd w.drew S1 u v := fun h => Rd.mono (w := w) (w' := w.drew) (fun _ h => h) (fun _ _ _ => rfl) h
                    refine ⟨fun r hr => ?_, fun ii x jj u hx hu => ?_⟩
                    · rcases List.mem_append.1 hr with hr | hr
                      · exact hr1 r hr
                      · exact hn3 r hr
                    · rcases Nat.lt_or_ge ii xs.length with hi | hi
                      · rw [List.getElem?_append_left hi] at hx
                        have hj : jj < i.size := by rw [← hr1 x (mem_of_get hx)]; exact (List.getElem?_eq_some_iff.1 hu).1
                        have hpos := rowPos hi hj
                        obtain ⟨f1, f2⟩ := Sq_rd (hg2 ii x jj u hx hu)
                        refine ⟨gg ii jj, ?_, (hg1 ii jj hi hj).2, hrm f1, fun hg => hrm (f2 (join_good hg).1), fun hf => h5 (join_flat hf).1 x (mem_of_get hx) u (mem_of_get hu)⟩
                        rw [Array.append_assoc, Array.getElem?_append_left (by simpa [flatG_len] using hpos)]
                        simpa using flatG_get hi hj
                      · rw [List.getElem?_append_right hi] at hx
                        obtain ⟨zz, z1, z2, z3, z4, z5⟩ := hn4 _ x jj u hx hu
                        have hlt := (List.getElem?_eq_some_iff.1 z1).1
                        have hidx : ii * i.size = xs.length * i.size + (ii - xs.length) * i.size := by rw [← Nat.add_mul]; congr 1; omega
                        refine ⟨zz, ?_, z2, hrm z3, fun hg => hrm (z4 (join_good hg).2), fun hf => z5 (join_flat hf).2⟩
                        rw [Array.append_assoc, Array.getElem?_append_right (by simp [flatG_len]; omega), Array.getElem?_append_left (by simp [flatG_len]; omega)]
                        rw [List.getElem?_toArray, ← z1]
                        congr 1
                        simp [flatG_len]
                        omega
                  have hsim := Sim.regrow (d := d) (b := b) (e := e) (n := grownCap w (xs.length + ys.length) (Γ.cap b) e) hs.drew hdead (by rw [List.length_append]; exact hge) (Nat.le_of_eq hsz.symm) hle hrows
                  rw [List.length_append] at hsim
                  refine ⟨_, _, ?_, by rw [hd]; exact hsim⟩
                  simp [execOp, ho, ex, ey, resolve, invoke, builtin, hr]
          · cases h
        · cases h
      · cases h
    · cases h
  · cases h
end
end Go.Am
