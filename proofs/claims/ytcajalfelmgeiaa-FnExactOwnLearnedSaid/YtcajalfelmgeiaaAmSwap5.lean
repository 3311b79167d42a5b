/-
  Operations in another order: whole regions. No theorem about a Go program stands here.
-/
import Derived.Test.YtcajalfelmgeiaaAmSwap
set_option linter.unusedVariables false
set_option linter.unusedSimpArgs false
namespace Go.Am
open Go Go.RowKit
section
variable {P : Program} {c : Cfg} {Γ Γ' : Ctx} {st st2 st' s1 s2 : St} {a : Act} {w w' : World} {den : Nat → List V → Option V} {η η' : Nat → Option V} {d : Nat} {p q r : Nat → Bool} {ops : Array Oper} {o : Oper}

/-- A value that no sweep touches: an address in a box; the mark of an operation that was passed by. -/
def Inert (v : V) : Prop := (∃ d n, v = .ptr d n) ∨ v = skipped ∨ ∃ b, v = .bool b
def St.slot (st : St) (d : Nat) (v : V) : St := { st with t := st.t.set d v }

theorem inert_poison {v : V} (h : Inert v) (b : Nat) : v.mapB (poison b) = v := by
  rcases h with ⟨d, n, rfl⟩ | rfl | ⟨b, rfl⟩ <;> rfl
theorem inert_renew {v : V} (h : Inert v) (b : Nat) (k : Q) (ys : List V) : v.mapB (renew b k ys) = v := by
  rcases h with ⟨d, n, rfl⟩ | rfl | ⟨b, rfl⟩ <;> rfl
theorem mapBs_set (f : V → Option V) : ∀ (l : List V) (d : Nat) (v : V), V.mapBs f (l.set d v) = (V.mapBs f l).set d (v.mapB f) := by
  intro l
  induction l with
  | nil => intro d v; rfl
  | cons x l ih =>
    intro d v
    cases d with
    | zero => rfl
    | succ d => simp only [List.set_cons_succ, V.mapBs, ih]
theorem slot_sweep {v : V} {f : V → Option V} (h : v.mapB f = v) : (st.slot d v).sweep f = (st.sweep f).slot d v := by
  unfold St.slot St.sweep
  simp only [mapBs_set, h]

theorem ev_slot {v : V} {x : Operand} (h : ∀ t, x = .tmp t → t ≠ d) : ev (st.slot d v).t x = ev st.t x := by
  cases x with
  | tmp t => exact setD_ne (h t rfl)
  | _ => rfl

/-- A writing operation beside an inert slot. -/
theorem effOp_slot {v : V} (hv : Inert v) {dst : Option Nat} {op : Op} (hr : ∀ t, Operand.tmp t ∈ op.operands.toList → t ≠ d) (hd : dst ≠ some d) : effOp c (st.slot d v) dst op = (effOp c st dst op).map (fun s => s.slot d v) := by
  cases op with
  | store t ad x =>
    have h1 : ev (st.slot d v).t ad = ev st.t ad := ev_slot (fun t e => hr t (by simp [Op.operands, e]))
    have h2 : ev (st.slot d v).t x = ev st.t x := ev_slot (fun t e => hr t (by simp [Op.operands, e]))
    simp only [effOp, h1, h2]
    cases c.ty t with
    | none => rfl
    | some i =>
      simp only
      split
      · cases ev st.t ad with
        | ptr b o =>
          simp only
          show (match st.h.getD b none with
            | some r => _
            | none => none) = _
          cases st.h.getD b none with
          | none => rfl
          | some rr =>
            simp only
            cases over rr.cells o (ev st.t x).cells <;> rfl
        | eptr b s k xs i' o =>
          have hdd : (st.slot d v).dead = st.dead := rfl
          simp only [hdd]
          by_cases hcc : st.dead b = false ∧ (cellsB (nilRow i.nz (ev st.t x)).cells).contains b = false
          · rw [if_pos hcc, if_pos hcc]
            cases flats (nilRow i.nz (ev st.t x)).cells with
            | none => rfl
            | some new =>
              simp only
              cases storeRow xs i' o new with
              | none => rfl
              | some ys =>
                simp only [Option.map_some, slot_sweep (inert_renew hv _ _ _)]
                rfl
          · rw [if_neg hcc, if_neg hcc]
            rfl
        | _ => rfl
      · rfl
  | call cl =>
    obtain ⟨callee, args, ts⟩ := cl
    cases callee with
    | builtin bi =>
      cases bi with
      | append =>
        simp only [effOp]
        rcases hl : args.toList with _ | ⟨x, _ | ⟨y, _ | ⟨z, zs⟩⟩⟩
        · rfl
        · rfl
        · have h1 : ev (st.slot d v).t x = ev st.t x := ev_slot (fun t e => hr t (by simp [Op.operands, Call.operands, hl, e]))
          have h2 : ev (st.slot d v).t y = ev st.t y := ev_slot (fun t e => hr t (by simp [Op.operands, Call.operands, hl, e]))
          rcases hts : ts.toList with _ | ⟨t1, _ | ⟨t2, _ | ⟨t3, tr⟩⟩⟩
          · rfl
          · rfl
          · cases dst with
            | none => rfl
            | some e =>
              have he : e ≠ d := fun h => hd (by rw [h])
              simp only [h1, h2]
              cases c.ty t1 with
              | none => rfl
              | some i =>
                obtain ⟨dd, sz, by_, z0, cm⟩ := i
                cases dd with
                | slice e' =>
                  simp only
                  cases c.ty e' with
                  | none => rfl
                  | some j =>
                    cases ev st.t x with
                    | own b s k xs =>
                      simp only
                      cases srcOf s (ev st.t y) with
                      | none => rfl
                      | some qq =>
                        obtain ⟨k', ys⟩ := qq
                        have hdd : (st.slot d v).dead = st.dead := rfl
                        simp only [hdd]
                        by_cases hcc : t2 = t1 ∧ s = j.size ∧ j.size ≠ 0 ∧ st.dead b = false ∧ (xs.length + ys.length) * j.bytes ≤ 140737488355328 ∧ xs.length + ys.length ≤ 140737488355328
                        · rw [if_pos hcc, if_pos hcc]
                          simp only [Option.map_some, slot_sweep (inert_poison hv _)]
                          unfold St.slot
                          simp only [List.set_comm _ _ he]
                        · rw [if_neg hcc, if_neg hcc]
                          rfl
                    | _ => rfl
                | _ => rfl
          · rfl
        · rfl
      | _ => rfl
    | _ => rfl
  | _ => rfl
end
end Go.Am
namespace Go.Am
open Go Go.RowKit
section
variable {P : Program} {c : Cfg} {Γ Γ' : Ctx} {st st2 st' s1 s2 : St} {a : Act} {w w' : World} {den : Nat → List V → Option V} {η η' : Nat → Option V} {d : Nat} {p q r : Nat → Bool} {ops : Array Oper} {o : Oper}

theorem mapB_none (v : V) : v.mapB (fun _ => none) = v :=
  V.rec (motive_1 := fun v => v.mapB (fun _ => none) = v) (motive_2 := fun vs => V.mapBs (fun _ => none) vs = vs)
    rfl (fun _ => rfl) (fun _ _ => rfl) (fun _ => rfl) rfl (fun _ _ _ _ => rfl) (fun _ _ _ _ _ => rfl) (fun _ _ _ _ _ => rfl) (fun _ _ => rfl) (fun _ _ _ _ _ _ _ => rfl) (fun _ _ _ _ => rfl) (fun _ _ _ => rfl)
    (fun _ h => by rw [V.mapB, h]) (fun _ h => by rw [V.mapB, h]) (fun _ _ h => by rw [V.mapB, h]) rfl (fun _ _ h1 h2 => by rw [V.mapBs, h1, h2]) v

/-- A sweep that leaves alone what is inert, and makes nothing inert. -/
def Gentle (f : V → Option V) : Prop := (∀ u : V, Inert u → u.mapB f = u) ∧ (∀ u : V, Inert (u.mapB f) → u.mapB f = u) ∧ f .undef = none

theorem gentle_none : Gentle (fun _ => none) := ⟨fun u _ => mapB_none u, fun u _ => mapB_none u, rfl⟩
theorem skipped_inv {f : V → Option V} {cs : List V} (h : V.tup (V.mapBs f cs) = skipped) : cs = [] := by
  unfold skipped at h
  injection h with h
  cases cs with
  | nil => rfl
  | cons v vs => rw [V.mapBs] at h; cases h
theorem gentle_poison (b : Nat) : Gentle (poison b) := by
  refine ⟨fun u h => inert_poison h b, fun u h => ?_, rfl⟩
  cases u with
  | agg cs => rcases h with ⟨_, _, h⟩ | h | ⟨_, h⟩ <;> cases h
  | clo g cs => rcases h with ⟨_, _, h⟩ | h | ⟨_, h⟩ <;> cases h
  | tup cs =>
    rcases h with ⟨_, _, h⟩ | h | ⟨_, h⟩
    · cases h
    · rw [skipped_inv h]; rfl
    · cases h
  | own b' s k xs =>
    simp only [V.mapB, poison] at h ⊢
    split at h
    · rcases h with ⟨_, _, h⟩ | h | ⟨_, h⟩ <;> cases h
    · rename_i hb; rw [if_neg hb]; rfl
  | view b' s k xs =>
    simp only [V.mapB, poison] at h ⊢
    split at h
    · rcases h with ⟨_, _, h⟩ | h | ⟨_, h⟩ <;> cases h
    · rename_i hb; rw [if_neg hb]; rfl
  | eptr b' s k xs i n =>
    simp only [V.mapB, poison] at h ⊢
    split at h
    · rcases h with ⟨_, _, h⟩ | h | ⟨_, h⟩ <;> cases h
    · rename_i hb; rw [if_neg hb]; rfl
  | vptr b' x n =>
    simp only [V.mapB, poison] at h ⊢
    split at h
    · rcases h with ⟨_, _, h⟩ | h | ⟨_, h⟩ <;> cases h
    · rename_i hb; rw [if_neg hb]; rfl
  | _ => rfl
theorem gentle_renew (b : Nat) (kk : Q) (ys : List V) : Gentle (renew b kk ys) := by
  refine ⟨fun u h => inert_renew h b kk ys, fun u h => ?_, rfl⟩
  cases u with
  | agg cs => rcases h with ⟨_, _, h⟩ | h | ⟨_, h⟩ <;> cases h
  | clo g cs => rcases h with ⟨_, _, h⟩ | h | ⟨_, h⟩ <;> cases h
  | tup cs =>
    rcases h with ⟨_, _, h⟩ | h | ⟨_, h⟩
    · cases h
    · rw [skipped_inv h]; rfl
    · cases h
  | own b' s k xs =>
    simp only [V.mapB, renew] at h ⊢
    split at h
    · rcases h with ⟨_, _, h⟩ | h | ⟨_, h⟩ <;> cases h
    · rename_i hb; rw [if_neg hb]; rfl
  | view b' s k xs =>
    simp only [V.mapB, renew] at h ⊢
    split at h
    · rcases h with ⟨_, _, h⟩ | h | ⟨_, h⟩ <;> cases h
    · rename_i hb; rw [if_neg hb]; rfl
  | eptr b' s k xs i n =>
    simp only [V.mapB, renew] at h ⊢
    split at h
    · rcases h with ⟨_, _, h⟩ | h | ⟨_, h⟩ <;> cases h
    · rename_i hb; rw [if_neg hb]; rfl
  | vptr b' x n =>
    simp only [V.mapB, renew] at h ⊢
    split at h
    · rcases h with ⟨_, _, h⟩ | h | ⟨_, h⟩ <;> cases h
    · rename_i hb; rw [if_neg hb]; rfl
  | _ => rfl

theorem getD_mapBs {f : V → Option V} (hu : f .undef = none) (l : List V) (z : Nat) : (V.mapBs f l).getD z .undef = (l.getD z .undef).mapB f := by
  rw [List.getD_eq_getElem?_getD, List.getD_eq_getElem?_getD, mapBs_get]
  cases l[z]? with
  | none => show V.undef = (f .undef).getD .undef; rw [hu]; rfl
  | some v => rfl

/-- What a writing operation does to other slots. -/
theorem eff_slots {dst : Option Nat} {op : Op} (h : effOp c st dst op = some st') : ∃ f, Gentle f ∧ ∀ z, dst ≠ some z → st'.t.getD z .undef = (st.t.getD z .undef).mapB f := by
  cases op with
  | store t ad x =>
    simp only [effOp] at h
    repeat' split at h
    all_goals first | (cases h; done) | skip
    · simp only [Option.some.injEq] at h
      subst h
      exact ⟨_, gentle_none, fun z _ => (mapB_none _).symm⟩
    · simp only [Option.some.injEq] at h
      subst h
      exact ⟨_, gentle_renew _ _ _, fun z _ => getD_mapBs rfl _ _⟩
  | call cl =>
    obtain ⟨callee, args, ts⟩ := cl
    cases callee with
    | builtin bi =>
      cases bi with
      | append =>
        simp only [effOp] at h
        repeat' split at h
        all_goals first | (cases h; done) | skip
        simp only [Option.some.injEq] at h
        subst h

        exact ⟨_, gentle_poison _, fun z hz => (setD_ne (fun e => hz (by rw [e]))).trans (getD_mapBs rfl _ _)⟩
      | _ => simp only [effOp] at h; cases h
    | _ => simp only [effOp] at h; cases h
  | _ => simp only [effOp] at h; cases h
end
end Go.Am
namespace Go.Am
open Go Go.RowKit
section
variable {P : Program} {c : Cfg} {Γ Γ' : Ctx} {st st2 st' s1 s2 : St} {a : Act} {w w' : World} {den : Nat → List V → Option V} {η η' : Nat → Option V} {d : Nat} {p q r : Nat → Bool} {ops : Array Oper} {o : Oper}

theorem addrSlot_op {x : Nat} (h : addrSlot o = some x) : ∃ t k, o.op = .fieldAddr t (.tmp x) k := by
  unfold addrSlot at h
  split at h
  · rename_i t y k _ hop _
    simp only [Option.some.injEq] at h
    subst h
    exact ⟨t, k, hop⟩
  · cases h
theorem addrSlot_dst {x : Nat} (h : addrSlot o = some x) : o.dst ≠ none := by
  unfold addrSlot at h
  split at h
  · rename_i hd
    rw [hd]; simp
  · cases h

/-- An address reckoned in a box: what it puts into its slot is inert, and it is put there wherever the address and the guard are the same. -/
theorem addr_step {x df : Nat} (ha : addrSlot o = some x) (hd : o.dst = some df) {e n : Nat} (hp : st.t.getD x .undef = .ptr e n) (h : step1 c den ops st o = some st') :
    ∃ v, Inert v ∧ st' = st.slot df v ∧ ∀ st2 : St, wanted ops st2.t o = wanted ops st.t o → st2.t.getD x .undef = .ptr e n → step1 c den ops st2 o = some (st2.slot df v) := by
  obtain ⟨t, k, hop⟩ := addrSlot_op ha
  unfold step1 at h
  cases hw : wanted ops st.t o with
  | none => rw [hw] at h; cases h
  | some b =>
    rw [hw] at h
    cases b with
    | false =>
      simp only [hd, Option.some.injEq] at h
      subst h
      refine ⟨skipped, .inr (.inl rfl), rfl, fun st2 h1 _ => ?_⟩
      unfold step1
      rw [h1]
      simp only [hd]
      rfl
    | true =>
      simp only at h
      have he : ∀ s : St, isEff s o.op = false := fun s => by rw [hop]; rfl
      have hv : ∀ (s : St), s.t.getD x .undef = .ptr e n → ∀ η, valOp c den (ev s.t) η df o.op = valOp c den (fun _ => .ptr e n) (fun _ => none) df o.op := by
        intro s hs η
        rw [hop]
        have : ev s.t (.tmp x) = .ptr e n := hs
        simp only [valOp, this]
      unfold step at h
      rw [if_neg (by rw [he st]; simp), hd] at h
      simp only at h
      rw [hv st hp] at h
      have inert : ∀ out, valOp c den (fun _ => V.ptr e n) (fun _ => none) df o.op = some out → ∃ m, out = .val (.ptr e m) := by
        intro out ho
        rw [hop] at ho
        simp only [valOp, plain, addOff] at ho
        repeat' split at ho
        all_goals first | (cases ho; done) | skip
        simp only [Option.some.injEq] at ho
        exact ⟨_, ho.symm⟩
      cases ho : valOp c den (fun _ => V.ptr e n) (fun _ => none) df o.op with
      | none => rw [ho] at h; cases h
      | some out =>
        obtain ⟨m, rfl⟩ := inert out ho
        rw [ho] at h
        simp only [Option.some.injEq] at h
        subst h
        refine ⟨.ptr e m, .inl ⟨_, _, rfl⟩, rfl, fun st2 h1 h2 => ?_⟩
        unfold step1
        rw [h1]
        simp only
        unfold step
        rw [if_neg (by rw [he st2]; simp), hd]
        simp only
        rw [hv st2 h2, ho]
        rfl

theorem isEff_may {st : St} {op : Op} (h : isEff st op = true) : mayEff op = true := by
  cases op with
  | store t a x => rfl
  | call cl =>
    obtain ⟨callee, args, ts⟩ := cl
    cases callee with
    | builtin bi => cases bi <;> first | rfl | cases h
    | _ => cases h
  | _ => cases h

/-- The guard of an operation beside a writing one. -/
theorem wanted_eff {f : V → Option V} (hg : Gentle f) {s : St} (hsl : ∀ z, z ∈ reads ops o → s.t.getD z .undef = (st.t.getD z .undef).mapB f) : ∀ b, (wanted ops st.t o = some b ↔ wanted ops s.t o = some b) := by
  intro b
  unfold wanted
  cases hgd : o.guard with
  | none => exact Iff.rfl
  | some jw =>
    obtain ⟨j, want⟩ := jw
    simp only
    cases hd : (ops[j]?).bind (·.dst) with
    | none => exact Iff.rfl
    | some d =>
      simp only
      rw [hsl d (by unfold reads; rw [hgd]; exact List.mem_append.2 (.inr (by simp [hd])))]
      generalize st.t.getD d .undef = u
      constructor
      · intro h
        have hi : Inert u := by
          split at h
          · exact .inr (.inr ⟨_, rfl⟩)
          · exact .inr (.inl rfl)
          · cases h
        rw [hg.1 u hi]
        exact h
      · intro h
        have hi : Inert (u.mapB f) := by
          split at h
          · rename_i b' hb; rw [hb]; exact .inr (.inr ⟨_, rfl⟩)
          · rename_i hb; rw [hb]; exact .inr (.inl rfl)
          · cases h
        rw [hg.2.1 u hi] at h
        exact h

theorem wanted_slot {v : V} (h : d ∉ reads ops o) : wanted ops (st.slot d v).t o = wanted ops st.t o :=
  wanted_congr (st := st) (st2 := st.slot d v) fun x hx => setD_ne (fun e => h (e ▸ hx))

/-- A writing operation ahead of one that reckons an address. -/
theorem swap_eff_addr {x y : Oper} (hx : step1 c den ops st x = some s1) (hy : step1 c den ops s1 y = some s2) (sx : ¬ Still ops st x) {z dy e n : Nat} (ha : addrSlot y = some z) (hdy : y.dst = some dy) (hp : st.t.getD z .undef = .ptr e n)
    (hne : x.dst ≠ some dy) (rx : dy ∉ reads ops x) (ry : ∀ e, x.dst = some e → e ∉ reads ops y) : ∃ s, step1 c den ops st y = some s ∧ step1 c den ops s x = some s2 := by
  have h1 : isEff st x.op = true := by
    cases hi : isEff st x.op with
    | true => rfl
    | false => exact absurd (.inl hi) sx
  have hw : wanted ops st.t x = some true := by
    unfold step1 at hx
    cases hw : wanted ops st.t x with
    | none => rw [hw] at hx; cases hx
    | some b =>
      cases b with
      | true => rfl
      | false => exact absurd (.inr hw) sx
  have hx' : effOp c st x.dst x.op = some s1 := by
    unfold step1 at hx
    rw [hw] at hx
    simp only at hx
    unfold step at hx
    rw [if_pos h1] at hx
    exact hx
  obtain ⟨f, hg, hsl⟩ := eff_slots hx'
  obtain ⟨t, k, hop⟩ := addrSlot_op ha
  have hzr : z ∈ reads ops y := tmp_reads (by rw [hop]; simp [Op.operands])
  have hp1 : s1.t.getD z .undef = .ptr e n := by
    rw [hsl z (fun h => ry z h hzr), hp]
    exact hg.1 _ (.inl ⟨_, _, rfl⟩)
  obtain ⟨v, hv, rfl, hty⟩ := addr_step ha hdy hp1 hy
  have hwy : wanted ops st.t y = wanted ops s1.t y := by
    have := wanted_eff (ops := ops) (o := y) (st := st) (s := s1) hg (fun q hq => hsl q (fun h => ry q h hq))
    cases hq : wanted ops s1.t y with
    | none =>
      cases hq2 : wanted ops st.t y with
      | none => rfl
      | some b => rw [(this b).1 hq2] at hq; cases hq
    | some b => exact (this b).2 hq
  refine ⟨_, hty st hwy hp, ?_⟩
  unfold step1
  rw [wanted_slot rx, hw]
  simp only
  unfold step
  have hr : ∀ t, Operand.tmp t ∈ x.op.operands.toList → t ≠ dy := fun t ht e => rx (e ▸ tmp_reads ht)
  rw [isEff_congr (st := st) (fun q hq => ev_slot (fun t e => hr t (e ▸ hq))), if_pos h1, effOp_slot hv hr hne, hx']
  rfl

/-- One that reckons an address ahead of a writing operation. -/
theorem swap_addr_eff {x y : Oper} (hx : step1 c den ops st x = some s1) (hy : step1 c den ops s1 y = some s2) (sy : ¬ Still ops s1 y) {z dx e n : Nat} (ha : addrSlot x = some z) (hdx : x.dst = some dx) (hp : st.t.getD z .undef = .ptr e n)
    (hne : y.dst ≠ some dx) (ry : dx ∉ reads ops y) (rx : ∀ e, y.dst = some e → e ∉ reads ops x) : ∃ s, step1 c den ops st y = some s ∧ step1 c den ops s x = some s2 := by
  have h1 : isEff s1 y.op = true := by
    cases hi : isEff s1 y.op with
    | true => rfl
    | false => exact absurd (.inl hi) sy
  have hw : wanted ops s1.t y = some true := by
    unfold step1 at hy
    cases hw : wanted ops s1.t y with
    | none => rw [hw] at hy; cases hy
    | some b =>
      cases b with
      | true => rfl
      | false => exact absurd (.inr hw) sy
  have hy' : effOp c s1 y.dst y.op = some s2 := by
    unfold step1 at hy
    rw [hw] at hy
    simp only at hy
    unfold step at hy
    rw [if_pos h1] at hy
    exact hy
  obtain ⟨v, hv, rfl, htx⟩ := addr_step ha hdx hp hx
  have hr : ∀ t, Operand.tmp t ∈ y.op.operands.toList → t ≠ dx := fun t ht e => ry (e ▸ tmp_reads ht)
  rw [effOp_slot hv hr hne] at hy'
  cases hs : effOp c st y.dst y.op with
  | none => rw [hs] at hy'; cases hy'
  | some s =>
    rw [hs] at hy'
    simp only [Option.map_some, Option.some.injEq] at hy'
    subst hy'
    obtain ⟨f, hg, hsl⟩ := eff_slots hs
    obtain ⟨t, k, hop⟩ := addrSlot_op ha
    have hzr : z ∈ reads ops x := tmp_reads (by rw [hop]; simp [Op.operands])
    have hp1 : s.t.getD z .undef = .ptr e n := by
      rw [hsl z (fun h => rx z h hzr), hp]
      exact hg.1 _ (.inl ⟨_, _, rfl⟩)
    refine ⟨s, ?_, htx s ?_ hp1⟩
    · unfold step1
      rw [← wanted_slot ry, hw]
      simp only
      unfold step
      rw [← isEff_congr (st := st) (st2 := st.slot dx v) (fun q hq => ev_slot (fun t e => hr t (e ▸ hq))), if_pos h1, hs]
    · have := wanted_eff (ops := ops) (o := x) (st := st) (s := s) hg (fun q hq => hsl q (fun h => rx q h hq))
      cases hq : wanted ops s.t x with
      | none =>
        cases hq2 : wanted ops st.t x with
        | none => rfl
        | some b => rw [(this b).1 hq2] at hq; cases hq
      | some b => exact ((this b).2 hq).symm
end
end Go.Am
