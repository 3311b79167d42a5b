/-
  A call's way home: the caller behind the call. No theorem about a Go program stands here.
-/
import Derived.Test.YtcajalfelmgeiaaAmCall
set_option linter.unusedVariables false
set_option linter.unusedSimpArgs false
namespace Go.Am
open Go Go.RowKit
section
variable {P : Program} {c : Cfg} {Γ Γ' : Ctx} {st : St} {a : Act} {w w' : World} {den : Nat → List V → Option V} {η : Nat → Option V} {d : Nat}

theorem takeR_inv {az : List V} {r v : V} {esc : List Nat} {n : Nat} (h : takeR d az r = some (.fresh v esc n)) :
    r.anyB (fun b => decide (1000 ≤ b)) = false ∧ v = r.mapB (thawB d) ∧ n = (if r.anyB (fun _ => true) then 1 else 0) ∧ (r.old = true → V.anyPs (fun _ => true) az = false ∧ esc = V.basess [] az) ∧ (r.old = false → esc = []) := by
  unfold takeR at h
  split at h
  · cases h
  · rename_i h1
    split at h
    · rename_i h2
      split at h
      · cases h
      · rename_i h3
        simp only [Option.some.injEq, Out.fresh.injEq] at h
        obtain ⟨rfl, rfl, rfl⟩ := h
        exact ⟨by simpa using h1, rfl, rfl, fun _ => ⟨by simpa using h3, rfl⟩, fun e => by rw [h2] at e; cases e⟩
    · rename_i h2
      simp only [Option.some.injEq, Out.fresh.injEq] at h
      obtain ⟨rfl, rfl, rfl⟩ := h
      exact ⟨by simpa using h1, rfl, rfl, fun e => absurd e h2, fun _ => rfl⟩

theorem olds_mem : ∀ {cs : List V}, V.olds cs = false → ∀ u ∈ cs, u.old = false := by
  intro cs
  induction cs with
  | nil => intro _ u hu; cases hu
  | cons v vs ih =>
    intro h u hu
    rw [V.olds, Bool.or_eq_false_iff] at h
    rcases List.mem_cons.1 hu with rfl | hu
    · exact h.1
    · exact ih h.2 u hu
theorem olds_any {cs : List V} {u : V} (hu : u ∈ cs) (h : u.old = true) : V.olds cs = true := by
  cases ho : V.olds cs with
  | true => rfl
  | false => rw [olds_mem ho u hu] at h; cases h
theorem anyBs_any {p : Nat → Bool} {cs : List V} {u : V} (hu : u ∈ cs) (h : u.anyB p = true) : V.anyBs p cs = true := by
  cases ho : V.anyBs p cs with
  | true => rfl
  | false => rw [anyBs_mem ho u hu] at h; cases h

/-- Behind a call. -/
theorem Sim.home {az : List V} {r v : V} {x : Value} {esc : List Nat} {n : Nat} {R : Nat → Prop} (hs : Sim Γ st a w) (hd : d < 1000) (hf : n = 0 ∨ st.freeD d = true) (ht : takeR d az r = some (.fresh v esc n))
    (hR : r.old = true → ∀ k, R k → addS Γ esc k) (ha : Answer R w r x w') : Sims Γ (({ st with t := st.t.set d v } : St).kill esc) (a.put (some d) x) w' := by
  obtain ⟨t1, rfl, t3, t4, t5⟩ := takeR_inv ht
  obtain ⟨Γr, hv, rF, rS, rb, rinj, rbz, rzf⟩ := ha.val
  have g := hs.good
  let p : Nat → Bool := fun b => (n != 0) && (b / 1000 == d)
  let Γ' : Ctx := { Γ with S := fun k => addS Γ esc k ∨ (w.heap.size ≤ k ∧ Γr.S k), has := fun b => if p b = true then Γr.has (b % 1000) else Γ.has b,
                           blk := fun b => if p b = true then Γr.blk (b % 1000) else Γ.blk b, off := fun b => if p b = true then Γr.off (b % 1000) else Γ.off b,
                           cap := fun b => if p b = true then Γr.cap (b % 1000) else Γ.cap b, sz := fun b => if p b = true then Γr.sz (b % 1000) else Γ.sz b,
                           ln := fun b => if p b = true then Γr.ln (b % 1000) else Γ.ln b, Z := fun k => Γ.Z k ∨ Γr.Z k }
  have hne : ∀ b, p b = true → st.freeD d = true ∧ b / 1000 = d := by
    intro b hb
    simp only [p, Bool.and_eq_true, bne_iff_ne, ne_eq, beq_iff_eq] at hb
    exact ⟨hf.resolve_left hb.1, hb.2⟩
  have hS' : ∀ k, Γ'.S k → k < w'.heap.size := by
    rintro k (hk | ⟨_, hk⟩)
    · exact Nat.lt_of_lt_of_le (addS_lt g hk) ha.size
    · exact (rS k hk).2
  have hgood : Good Γ' w' := by
    refine ⟨ha.os.trans g.os, ha.tape.trans g.tape, ha.output.trans g.output, Nat.le_trans g.size ha.size, fun k hk hF => ?_, g.new, hS', fun b hb => ?_, fun b b' hb hb' he => ?_, fun k hk => ?_, g.boxInj, fun b k hb hk => ?_, fun k hk => hk.elim (addS_sr g k) (fun h => .inr (g.new k (Nat.le_trans g.size h.1))), g.gl, fun b hb => ?bz, fun k hk => ?zf⟩
    case bz =>
      change (if p b = true then Γr.has (b % 1000) else Γ.has b) at hb
      show Γ.Z (if p b = true then _ else _) ∨ Γr.Z (if p b = true then _ else _)
      by_cases hp : p b = true
      · rw [if_pos hp] at hb ⊢
        exact .inr (rbz _ hb)
      · rw [if_neg hp] at hb ⊢
        exact .inl (g.bz b hb)
    case zf =>
      rcases hk with hk | hk
      · obtain ⟨z1, z2, cur, e, h⟩ := g.zf k hk
        exact ⟨z1, Nat.lt_of_lt_of_le z2 ha.size, cur, e, (ha.old _ z2).trans h⟩
      · obtain ⟨z1, z2, cur, e, h⟩ := rzf k hk
        exact ⟨g.new k (Nat.le_trans g.size z1), z2, cur, e, h⟩
    · exact (ha.old k (Nat.lt_of_lt_of_le hk g.size)).trans (g.old k hk hF)
    · change (if p b = true then Γr.has (b % 1000) else Γ.has b) at hb
      show Γ.F (if p b = true then _ else _) ∧ (if p b = true then _ else _) < _ ∧ (if p b = true then _ else _) ≤ _ ∧ ∃ cur e, w'.heap[if p b = true then Γr.blk (b % 1000) else Γ.blk b]? = some (.cells cur e (0, 0)) ∧
        (if p b = true then Γr.off (b % 1000) else Γ.off b) + (if p b = true then Γr.cap (b % 1000) else Γ.cap b) * (if p b = true then Γr.sz (b % 1000) else Γ.sz b) ≤ cur.size
      by_cases hp : p b = true
      · simp only [if_pos hp] at hb ⊢
        obtain ⟨h1, h2, _, h4, h5⟩ := rb _ hb
        exact ⟨g.new _ (Nat.le_trans g.size h1), h2, h4, h5⟩
      · simp only [if_neg hp] at hb ⊢
        obtain ⟨h1, h2, h3, cur, e, h4, h5⟩ := g.base b hb
        exact ⟨h1, Nat.lt_of_lt_of_le h2 ha.size, h3, cur, e, (ha.old _ h2).trans h4, h5⟩
    · change (if p b = true then Γr.has (b % 1000) else Γ.has b) at hb
      change (if p b' = true then Γr.has (b' % 1000) else Γ.has b') at hb'
      change (if p b = true then Γr.blk (b % 1000) else Γ.blk b) = (if p b' = true then Γr.blk (b' % 1000) else Γ.blk b') at he
      by_cases hp : p b = true
      · by_cases hp' : p b' = true
        · rw [if_pos hp] at hb; rw [if_pos hp'] at hb'; rw [if_pos hp, if_pos hp'] at he
          have h1 := rinj _ _ hb hb' he
          have h2 := (hne b hp).2
          have h3 := (hne b' hp').2
          omega
        · rw [if_pos hp] at hb; rw [if_neg hp'] at hb'; rw [if_pos hp, if_neg hp'] at he
          have h1 := (rb _ hb).1
          have h2 := (g.base _ hb').2.1
          omega
      · by_cases hp' : p b' = true
        · rw [if_neg hp] at hb; rw [if_pos hp'] at hb'; rw [if_neg hp, if_pos hp'] at he
          have h1 := (rb _ hb').1
          have h2 := (g.base _ hb).2.1
          omega
        · rw [if_neg hp] at hb; rw [if_neg hp'] at hb'; rw [if_neg hp, if_neg hp'] at he
          exact g.baseInj b b' hb hb' he
    · obtain ⟨h1, h2, h3⟩ := g.box k hk
      refine ⟨h1, ?_, Nat.lt_of_lt_of_le h3 ha.size⟩
      rintro (h | ⟨h, _⟩)
      · exact addS_box g hk h
      · exact absurd h (by show ¬ w.heap.size ≤ Γ.box k; omega)
    · change (if p b = true then Γr.has (b % 1000) else Γ.has b) at hb
      show (if p b = true then Γr.blk (b % 1000) else Γ.blk b) ≠ Γ.box k
      have h3 := (g.box k hk).2.2
      by_cases hp : p b = true
      · rw [if_pos hp] at hb ⊢
        have := (rb _ hb).1
        omega
      · rw [if_neg hp] at hb ⊢
        exact g.baseBox b k hb hk
  refine ⟨Γ', ⟨rfl, rfl, rfl⟩, ?_⟩
  refine Sim.extend (p := p) hs ha.old (fun k hk => .inl (.inl hk)) (fun _ h => .inl h) (fun b hb => ?_) (fun _ h => h) (fun _ => rfl) (fun i u hi hu => ?_) (fun i u hu => ?_) hgood ?_ ?_
  · have hb : ¬ p b = true := by rw [hb]; simp
    exact ⟨by show (if p b = true then _ else _) ↔ _; rw [if_neg hb], fun _ => ⟨if_neg hb, if_neg hb, if_neg hb, if_neg hb, if_neg hb⟩⟩
  · rcases hf with h0 | hf
    · have : p = fun _ => false := by funext b; simp [p, h0]
      rw [this]; exact anyB_false u
    · have h1 := freeD_t hf i u hi hu
      by_cases h0 : n = 0
      · have : p = fun _ => false := by funext b; simp [p, h0]
        rw [this]; exact anyB_false u
      · have : p = fun b => b / 1000 == d := by funext b; simp [p, h0]
        rw [this]; exact h1
  · rcases hf with h0 | hf
    · have : p = fun _ => false := by funext b; simp [p, h0]
      rw [this]; exact anyB_false u
    · have h1 := freeD_h hf i u hu
      by_cases h0 : n = 0
      · have : p = fun _ => false := by funext b; simp [p, h0]
        rw [this]; exact anyB_false u
      · have : p = fun b => b / 1000 == d := by funext b; simp [p, h0]
        rw [this]; exact h1
  · intro b hb he hdd
    change (if p b = true then Γr.has (b % 1000) else Γ.has b) at hb
    show ¬ (addS Γ esc (if p b = true then Γr.blk (b % 1000) else Γ.blk b) ∨ (w.heap.size ≤ (if p b = true then Γr.blk (b % 1000) else Γ.blk b) ∧ Γr.S (if p b = true then Γr.blk (b % 1000) else Γ.blk b)))
    by_cases hp : p b = true
    · rw [if_pos hp] at hb ⊢
      obtain ⟨h1, _, h3, _⟩ := rb _ hb
      rintro (h | ⟨_, h⟩)
      · have := addS_lt g h; omega
      · exact h3 h
    · rw [if_neg hp] at hb ⊢
      rintro (h | ⟨h, _⟩)
      · exact addS_base g hb (hs.nds b hb hdd) he h
      · have := (g.base b hb).2.1; omega
  · -- the value
    have hSq : ∀ (q : Q), (q.good = false → r.old = true) → ∀ k, Γr.Sq q k → Γ'.Sq q k := by
      intro q hq k hk
      cases q with
      | any =>
        have ho := hq rfl
        rcases (rS k hk).1 with h | h
        · exact .inl (hR ho k h)
        · exact .inr ⟨h, hk⟩
      | flat => exact ⟨.inr ⟨(rzf k hk.2).1, hk.1⟩, .inr hk.2⟩
      | clean => exact ⟨.inr ⟨(rzf k hk.2).1, hk.1⟩, .inr hk.2⟩
    have hSo : r.old = true → ∀ k, Γr.S k → Γ'.S k := fun ho k hk => hSq .any (fun _ => ho) k hk
    refine VR.sweepC (Γ := Γr) (Γ' := Γ') (w := w') (w' := w') (fun u => u.anyB (fun b => decide (1000 ≤ b)) = false ∧ (u.old = true → r.old = true) ∧ (u.anyB (fun _ => true) = true → n ≠ 0))
      (fun cs h u hu => ⟨anyBs_mem h.1 u hu, fun e => h.2.1 (olds_any hu e), fun e => h.2.2 (anyBs_any hu e)⟩) (fun cs h u hu => ⟨anyBs_mem h.1 u hu, fun e => h.2.1 (olds_any hu e), fun e => h.2.2 (anyBs_any hu e)⟩)
      (fun _ cs h u hu => ⟨anyBs_mem h.1 u hu, fun e => h.2.1 (olds_any hu e), fun e => h.2.2 (anyBs_any hu e)⟩) (fun u y hleaf hc hu => ?_) r x ⟨t1, fun e => e, fun e => by rw [t3, if_pos e]; simp⟩ hv
    obtain ⟨c1, c2, c3⟩ := hc
    cases u with
    | undef => exact VR.undef_ _
    | bool b => rw [hu.bool_inv]; exact .rd _ _ (.bool b)
    | int k m => rw [hu.int_inv]; exact .rd _ _ (.int k m)
    | str s => obtain ⟨z, rfl, hz⟩ := hu.str_inv; exact .rd _ _ (.str s z hz)
    | nil => rw [hu.nil_inv]; exact .rd _ _ .nil
    | sl s f xs => exact .rd _ _ (hu.sl_inv.mono (hSo (c2 rfl)) (fun _ _ _ => rfl))
    | iptr z o =>
      cases hu with
      | rd _ _ h => exact .rd _ _ (h.mono (hSo (c2 rfl)) (fun _ _ _ => rfl))
    | ptr _ _ => exact VR.undef_ _
    | eptr _ _ _ _ _ _ => exact VR.undef_ _
    | vptr _ _ _ => exact VR.undef_ _
    | agg _ => cases hleaf
    | tup _ => cases hleaf
    | clo _ _ => cases hleaf
    | own b s q xs =>
      have hb : b < 1000 := by simpa [V.anyB] using c1
      have hn0 := c3 rfl
      have hpb : p (base d b) = true := by simp [p, hn0, base_div hd hb]
      have hmod : base d b % 1000 = b := by unfold base; omega
      have e0 : Γ'.has (base d b) = Γr.has b := by show (if p (base d b) = true then _ else _) = _; rw [if_pos hpb, hmod]
      have e1 : Γ'.blk (base d b) = Γr.blk b := by show (if p (base d b) = true then _ else _) = _; rw [if_pos hpb, hmod]
      have e2 : Γ'.off (base d b) = Γr.off b := by show (if p (base d b) = true then _ else _) = _; rw [if_pos hpb, hmod]
      have e3 : Γ'.cap (base d b) = Γr.cap b := by show (if p (base d b) = true then _ else _) = _; rw [if_pos hpb, hmod]
      have e4 : Γ'.sz (base d b) = Γr.sz b := by show (if p (base d b) = true then _ else _) = _; rw [if_pos hpb, hmod]
      have e5 : Γ'.ln (base d b) = Γr.ln b := by show (if p (base d b) = true then _ else _) = _; rw [if_pos hpb, hmod]
      simp only [thawB, Option.getD_some]
      rcases hu.own_inv with ⟨rfl, rfl, h3⟩ | ⟨rfl, h1, h2, h3, h4, h5⟩
      · exact .ownNil _ _ _ (by rw [e0]; exact h3)
      · have := VR.own (Γ := Γ') (w := w') (base d b) s q xs (by rw [e0]; exact h1) (by rw [e4]; exact h2) (by rw [e3, e5]; exact h3)
          (by rw [e1, e2]; exact h4.mono (hSq q (fun e => c2 (by simp [V.old, e]))) (fun _ _ _ => rfl) (fun _ _ _ => rfl)) h5
        rwa [e1, e2, e3] at this
    | view b s q xs =>
      have hb : b < 1000 := by simpa [V.anyB] using c1
      have hn0 := c3 rfl
      have hpb : p (base d b) = true := by simp [p, hn0, base_div hd hb]
      have hmod : base d b % 1000 = b := by unfold base; omega
      have e0 : Γ'.has (base d b) = Γr.has b := by show (if p (base d b) = true then _ else _) = _; rw [if_pos hpb, hmod]
      have e1 : Γ'.blk (base d b) = Γr.blk b := by show (if p (base d b) = true then _ else _) = _; rw [if_pos hpb, hmod]
      have e2 : Γ'.off (base d b) = Γr.off b := by show (if p (base d b) = true then _ else _) = _; rw [if_pos hpb, hmod]
      have e3 : Γ'.cap (base d b) = Γr.cap b := by show (if p (base d b) = true then _ else _) = _; rw [if_pos hpb, hmod]
      have e4 : Γ'.sz (base d b) = Γr.sz b := by show (if p (base d b) = true then _ else _) = _; rw [if_pos hpb, hmod]
      simp only [thawB, Option.getD_some]
      rcases hu.view_inv with ⟨ad, cap, rfl, rfl⟩ | ⟨o, cap, rfl, h1, hx, h3, hfit, h4, h5⟩
      · exact .view0 _ _ _ _ _
      · have := VR.view (Γ := Γ') (w := w') (base d b) s q xs o cap (by rw [e0]; exact h1) hx h3 (by rw [e2, e3, e4]; exact hfit)
          (by rw [e1]; exact h4.mono (hSq q (fun e => c2 (by simp [V.old, e]))) (fun _ _ _ => rfl) (fun _ _ _ => rfl)) h5
        rwa [e1] at this

theorem nilArgCells_get : ∀ (zs vs : List V) (j : Nat) (u : V), (nilArgCells zs vs)[j]? = some u → ∃ v z, vs[j]? = some v ∧ (u = nilArgCell z v ∨ u = v) := by
  intro zs
  induction zs with
  | nil => intro vs j u h; cases vs <;> exact ⟨u, u, h, .inr rfl⟩
  | cons z zs ih =>
    intro vs j u h
    cases vs with
    | nil => simp [nilArgCells] at h
    | cons v vs =>
      rw [nilArgCells] at h
      cases j with
      | zero =>
        simp only [List.getElem?_cons_zero, Option.some.injEq] at h
        exact ⟨v, z, rfl, .inl h.symm⟩
      | succ j => exact ih vs j u (by simpa using h)
theorem nilArgCells_len : ∀ (zs vs : List V), (nilArgCells zs vs).length = vs.length := by
  intro zs
  induction zs with
  | nil => intro vs; cases vs <;> rfl
  | cons z zs ih => intro vs; cases vs with
    | nil => rfl
    | cons v vs => rw [nilArgCells, List.length_cons, ih, List.length_cons]
theorem nilArgs_len : ∀ (zs : List (List V)) (vs : List V), (nilArgs zs vs).length = vs.length := by
  intro zs
  induction zs with
  | nil => intro vs; cases vs <;> rfl
  | cons z zs ih => intro vs; cases vs with
    | nil => rfl
    | cons v vs => rw [nilArgs, List.length_cons, ih, List.length_cons]
theorem nilArgCell_ok {R : Nat → Prop} {z v : V} {x : Value} (h : Rd w R v x) : Rd w R (nilArgCell z v) x := by
  unfold nilArgCell
  split
  · cases h; exact .empty _ _ _ _
  · exact h
theorem nilArg_ok {R : Nat → Prop} {zs : List V} {v : V} {x : Value} (h : Rd w R v x) : Rd w R (nilArg zs v) x := by
  cases v with
  | agg cs =>
    cases h with
    | agg _ vs hl hr =>
      refine .agg _ vs (by rw [nilArgCells_len]; exact hl) (fun i c v e1 e2 => ?_)
      obtain ⟨y, z, hy, hu⟩ := nilArgCells_get _ _ _ _ e1
      rcases hu with rfl | rfl
      · exact nilArgCell_ok (hr i y v hy e2)
      · exact hr i _ v hy e2
  | _ =>
    unfold nilArg
    split
    · rename_i heq; cases heq
    · split
      · exact nilArgCell_ok h
      · exact h
theorem nilArgs_ok {R : Nat → Prop} {vals : Array Value} : ∀ {zs : List (List V)} {vs : List V}, (∀ (i : Nat) (c : V) (v : Value), vs[i]? = some c → vals[i]? = some v → Rd w R c v) → ∀ (i : Nat) (c : V) (v : Value), (nilArgs zs vs)[i]? = some c → vals[i]? = some v → Rd w R c v := by
  intro zs vs h i c v hc hv
  have key : ∀ (zs : List (List V)) (vs : List V) (i : Nat) (c : V), (nilArgs zs vs)[i]? = some c → ∃ u, vs[i]? = some u ∧ ((∃ z, c = nilArg z u) ∨ c = u) := by
    intro zs
    induction zs with
    | nil => intro vs i c h; cases vs <;> exact ⟨c, h, .inr rfl⟩
    | cons z zs ih =>
      intro vs i c h
      cases vs with
      | nil => simp [nilArgs] at h
      | cons u vs =>
        rw [nilArgs] at h
        cases i with
        | zero => simp only [List.getElem?_cons_zero, Option.some.injEq] at h; exact ⟨u, rfl, .inl ⟨z, h.symm⟩⟩
        | succ i => exact ih vs i c (by simpa using h)
  obtain ⟨u, hu, hor⟩ := key zs vs i c hc
  rcases hor with ⟨z, rfl⟩ | rfl
  · exact nilArg_ok (h i u v hu hv)
  · exact h i _ v hu hv
theorem strips_ok {R : Nat → Prop} (hs : Sim Γ st a w) (hR : ∀ k, Γ.S k → R k) : ∀ (az us : List V), strips (fun b => st.h.getD b none) az = some us → us.length = az.length ∧ ∀ (i : Nat) (z u : V) (y : Value), az[i]? = some z → us[i]? = some u → VR Γ w z y →
      (∀ b, Γ.has b → V.anyBs (fun b' => b' == b) az = true → R (Γ.blk b)) → (V.anyPs (fun _ => true) az = true → (∀ d, Γ.lb d → R (Γ.box d)) ∧ ∀ b, Γ.has b → R (Γ.blk b)) → Rd w R u y := by
  intro az
  induction az with
  | nil =>
    intro us h
    simp only [strips, Option.some.injEq] at h
    subst h
    exact ⟨rfl, fun i c u y hc => by simp at hc⟩
  | cons z cs ih =>
    intro us h
    simp only [strips] at h
    cases h1 : strip (fun b => st.h.getD b none) z with
    | none => rw [h1] at h; cases h
    | some u0 =>
      cases h2 : strips (fun b => st.h.getD b none) cs with
      | none => rw [h1, h2] at h; cases h
      | some us0 =>
        rw [h1, h2] at h
        simp only [Option.some.injEq] at h
        subst h
        obtain ⟨l1, l2⟩ := ih us0 h2
        refine ⟨by simp [l1], fun i cc u y hc hu hv hb hp => ?_⟩
        cases i with
        | zero =>
          simp only [List.getElem?_cons_zero, Option.some.injEq] at hc hu
          subst hc; subst hu
          exact strip_ok hs hR z u0 y h1 hv (fun b hb1 hb2 => hb b hb1 (by rw [V.anyBs, hb2]; rfl)) (fun h => hp (by rw [V.anyPs, h]; rfl))
        | succ i =>
          simp only [List.getElem?_cons_succ] at hc hu
          exact l2 i cc u y hc hu hv (fun b hb1 hb2 => hb b hb1 (by rw [V.anyBs, hb2, Bool.or_true])) (fun h => hp (by rw [V.anyPs, h, Bool.or_true]))

/-- A call. -/
theorem sound_call (hD : Answers P den) (hs : Sim Γ st a w) {o : Oper} {f : Operand} {args : Array Operand} {ts : Array TypeId} {v : V} {esc : List Nat} {n : Nat} (ho : o.op = .call ⟨.value f, args, ts⟩)
    (h : valOp c den (ev st.t) (fun b => st.h.getD b none) d o.op = some (.fresh v esc n)) (hd : d < 1000) (hf : n = 0 ∨ st.freeD d = true) (hod : o.dst = some d)
    (next : Act → World → Prop) (Q : Exit → Act → World → Prop) (hn : ∀ a' w', Sims Γ (({ st with t := st.t.set d v } : St).kill esc) a' w' → next a' w') : o.wp P a w next Q := by
  rw [ho] at h
  simp only [valOp] at h
  split at h
  · rename_i g cap hfv
    split at h
    · rename_i us hus
      split at h
      · rename_i r hr
        obtain ⟨⟨fn, hfn, hbody, hname⟩, hcall⟩ := hD _ _ _ hr
        have hfr := hs.ev f
        rw [hfv] at hfr
        obtain ⟨cv, ef, hcl, hcv⟩ := hfr.clo_inv
        have hexec : (execOp a.eval o).run P w = .ok (.enter g (args.map a.eval ++ cv)) w := by
          simp [execOp, ho, ef, resolve, Deferred.ofValue, invoke, callFunc, hfn, hbody]
          have : ¬ fn.name = "runtime.NumGoroutine" := by simpa using hname
          simp [this]
          intro hb
          simp [hb] at hbody
        unfold Oper.wp
        rw [hexec, Oper.upon_enter]
        let az := args.toList.map (ev st.t) ++ cap
        obtain ⟨_, _, _, t4, t5⟩ := takeR_inv h
        let R : Nat → Prop := fun k => if V.anyPs (fun _ => true) az = true then Γ.S k ∨ (∃ b, Γ.has b ∧ k = Γ.blk b) ∨ (∃ d, Γ.lb d ∧ k = Γ.box d) else addS Γ (V.basess [] az) k
        have hRlt : ∀ k, R k → k < w.heap.size := by
          intro k hk
          simp only [R] at hk
          split at hk
          · rcases hk with hk | ⟨b, hb, rfl⟩ | ⟨d, hb, rfl⟩
            · exact hs.good.slt k hk
            · exact (hs.good.base b hb).2.1
            · exact (hs.good.box d hb).2.2
          · exact addS_lt hs.good hk
        have hRS : ∀ k, Γ.S k → R k := by
          intro k hk
          simp only [R]
          split
          · exact .inl hk
          · exact .inl hk
        have hRb : ∀ b, Γ.has b → V.anyBs (fun b' => b' == b) az = true → R (Γ.blk b) := by
          intro b hb hbs
          simp only [R]
          split
          · exact .inr (.inl ⟨b, hb, rfl⟩)
          · refine .inr ⟨b, ?_, hb, rfl⟩
            exact bases_mem b (.agg az) [] (.inr hbs)
        have hRp : V.anyPs (fun _ => true) az = true → (∀ d, Γ.lb d → R (Γ.box d)) ∧ ∀ b, Γ.has b → R (Γ.blk b) := by
          intro hp
          constructor
          · intro d hd; simp only [R]; rw [if_pos hp]; exact .inr (.inr ⟨d, hd, rfl⟩)
          · intro b hb; simp only [R]; rw [if_pos hp]; exact .inr (.inl ⟨b, hb, rfl⟩)
        obtain ⟨l1, l2⟩ := strips_ok hs hRS az us hus
        have hlen : us.length = (args.map a.eval ++ cv).size := by
          rw [l1]; simp [az, hcl]
        refine Calls.mono (hcall R w _ hs.good.glob hRlt (by rw [nilArgs_len]; exact hlen) (nilArgs_ok (fun i u y hu hy => ?_))) (fun e w' he => ?_)
        · obtain ⟨z, hz⟩ : ∃ z, az[i]? = some z := ⟨_, List.getElem?_eq_getElem (by rw [← l1]; exact (List.getElem?_eq_some_iff.1 hu).1)⟩
          refine l2 i z u y hz hu ?_ hRb hRp
          rcases Nat.lt_or_ge i args.size with hi | hi
          · simp only [az] at hz
            rw [List.getElem?_append_left (by simpa using hi), List.getElem?_map] at hz
            rw [Array.getElem?_append_left (by simpa using hi), Array.getElem?_map] at hy
            simp only [Array.getElem?_toList, Array.getElem?_eq_getElem hi, Option.map_some, Option.some.injEq] at hz hy
            subst hz; subst hy
            exact hs.ev _
          · simp only [az] at hz
            rw [List.getElem?_append_right (by simpa using hi)] at hz
            rw [Array.getElem?_append_right (by simpa using hi)] at hy
            simp only [List.length_map, Array.length_toList, Array.size_map] at hz hy
            exact hcv _ z y hz hy
        · cases e with
          | returned x =>
            refine hn _ _ ?_
            rw [hod]
            refine Sim.home hs hd hf h (fun ho k hk => ?_) he
            obtain ⟨t6, t7⟩ := t4 ho
            simp only [R] at hk
            rw [if_neg (by rw [t6]; simp)] at hk
            rw [t7]
            exact hk
          | panicked _ => cases he
          | outgrown => cases he
      · cases h
    · cases h
  · cases h
end
end Go.Am
