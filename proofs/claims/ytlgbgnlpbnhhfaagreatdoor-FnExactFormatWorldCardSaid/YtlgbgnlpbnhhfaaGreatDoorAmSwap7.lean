/-
  Any two operations that do not clash, in either order. No theorem about a Go program stands here.
-/
import Derived.Test.YtlgbgnlpbnhhfaaGreatDoorAmSwap6
set_option linter.unusedVariables false
set_option linter.unusedSimpArgs false
namespace Go.Am
open Go Go.RowKit
section
variable {P : Program} {c : Cfg} {Γ Γ' : Ctx} {st st2 st' s1 s2 : St} {a : Act} {w w' : World} {den : Nat → List V → Option V} {η η' : Nat → Option V} {d : Nat} {p q r : Nat → Bool} {ops : Array Oper} {o : Oper}

theorem addrSlot_op {x : Nat} (h : addrSlot o = some x) : ∃ t k, o.op = .fieldAddr t (.tmp x) k := by
  unfold addrSlot at h
  split at h
  · rename_i t y k _ hop _
    simp only [Option.some.injEq] at h
    subst h
    exact ⟨t, k, hop⟩
  · cases h
theorem addrSlot_dst {x : Nat} (h : addrSlot o = some x) : o.dst ≠ none := by
  unfold addrSlot at h
  split at h
  · rename_i hd
    rw [hd]; simp
  · cases h

/-- An address reckoned in a box: what it puts into its slot is inert, and it is put there wherever the address and the guard are the same. -/
theorem addr_step {x df : Nat} (ha : addrSlot o = some x) (hd : o.dst = some df) {e n : Nat} (hp : st.t.getD x .undef = .ptr e n) (h : step1 c den ops st o = some st') :
    ∃ v, Inert v ∧ st' = st.slot df v ∧ ∀ st2 : St, wanted ops st2.t o = wanted ops st.t o → st2.t.getD x .undef = .ptr e n → step1 c den ops st2 o = some (st2.slot df v) := by
  obtain ⟨t, k, hop⟩ := addrSlot_op ha
  unfold step1 at h
  cases hw : wanted ops st.t o with
  | none => rw [hw] at h; cases h
  | some b =>
    rw [hw] at h
    cases b with
    | false =>
      simp only [hd, Option.some.injEq] at h
      subst h
      refine ⟨skipped, .inr (.inl rfl), rfl, fun st2 h1 _ => ?_⟩
      unfold step1
      rw [h1]
      simp only [hd]
      rfl
    | true =>
      simp only at h
      have he : ∀ s : St, isEff s o.op = false := fun s => by rw [hop]; rfl
      have hv : ∀ (s : St), s.t.getD x .undef = .ptr e n → ∀ η, valOp c den (ev s.t) η df o.op = valOp c den (fun _ => .ptr e n) (fun _ => none) df o.op := by
        intro s hs η
        rw [hop]
        have : ev s.t (.tmp x) = .ptr e n := hs
        simp only [valOp, this]
      unfold step at h
      rw [if_neg (by rw [he st]; simp), hd] at h
      simp only at h
      rw [hv st hp] at h
      have inert : ∀ out, valOp c den (fun _ => V.ptr e n) (fun _ => none) df o.op = some out → ∃ m, out = .val (.ptr e m) := by
        intro out ho
        rw [hop] at ho
        simp only [valOp, plain, addOff] at ho
        repeat' split at ho
        all_goals first | (cases ho; done) | skip
        simp only [Option.some.injEq] at ho
        exact ⟨_, ho.symm⟩
      cases ho : valOp c den (fun _ => V.ptr e n) (fun _ => none) df o.op with
      | none => rw [ho] at h; cases h
      | some out =>
        obtain ⟨m, rfl⟩ := inert out ho
        rw [ho] at h
        simp only [Option.some.injEq] at h
        subst h
        refine ⟨.ptr e m, .inl ⟨_, _, rfl⟩, rfl, fun st2 h1 h2 => ?_⟩
        unfold step1
        rw [h1]
        simp only
        unfold step
        rw [if_neg (by rw [he st2]; simp), hd]
        simp only
        rw [hv st2 h2, ho]
        rfl

theorem isEff_may {st : St} {op : Op} (h : isEff st op = true) : mayEff op = true := by
  cases op with
  | store t a x => rfl
  | call cl =>
    obtain ⟨callee, args, ts⟩ := cl
    cases callee with
    | builtin bi => cases bi <;> first | rfl | cases h
    | _ => cases h
  | _ => cases h

/-- The guard of an operation beside a writing one. -/
theorem wanted_eff {f : V → Option V} (hg : Gentle f) {s : St} (hsl : ∀ z, z ∈ reads ops o → s.t.getD z .undef = (st.t.getD z .undef).mapB f) : ∀ b, (wanted ops st.t o = some b ↔ wanted ops s.t o = some b) := by
  intro b
  unfold wanted
  cases hgd : o.guard with
  | none => exact Iff.rfl
  | some jw =>
    obtain ⟨j, want⟩ := jw
    simp only
    cases hd : (ops[j]?).bind (·.dst) with
    | none => exact Iff.rfl
    | some d =>
      simp only
      rw [hsl d (by unfold reads; rw [hgd]; exact List.mem_append.2 (.inr (by simp [hd])))]
      generalize st.t.getD d .undef = u
      constructor
      · intro h
        have hi : Inert u := by
          split at h
          · exact .inr (.inr ⟨_, rfl⟩)
          · exact .inr (.inl rfl)
          · cases h
        rw [hg.1 u hi]
        exact h
      · intro h
        have hi : Inert (u.mapB f) := by
          split at h
          · rename_i b' hb; rw [hb]; exact .inr (.inr ⟨_, rfl⟩)
          · rename_i hb; rw [hb]; exact .inr (.inl rfl)
          · cases h
        rw [hg.2.1 u hi] at h
        exact h

theorem wanted_slot {v : V} (h : d ∉ reads ops o) : wanted ops (st.slot d v).t o = wanted ops st.t o :=
  wanted_congr (st := st) (st2 := st.slot d v) fun x hx => setD_ne (fun e => h (e ▸ hx))

/-- A writing operation ahead of one that reckons an address. -/
theorem swap_eff_addr {x y : Oper} (hx : step1 c den ops st x = some s1) (hy : step1 c den ops s1 y = some s2) (sx : ¬ Still ops st x) {z dy e n : Nat} (ha : addrSlot y = some z) (hdy : y.dst = some dy) (hp : st.t.getD z .undef = .ptr e n)
    (hne : x.dst ≠ some dy) (rx : dy ∉ reads ops x) (ry : ∀ e, x.dst = some e → e ∉ reads ops y) : ∃ s, step1 c den ops st y = some s ∧ step1 c den ops s x = some s2 := by
  have h1 : isEff st x.op = true := by
    cases hi : isEff st x.op with
    | true => rfl
    | false => exact absurd (.inl hi) sx
  have hw : wanted ops st.t x = some true := by
    unfold step1 at hx
    cases hw : wanted ops st.t x with
    | none => rw [hw] at hx; cases hx
    | some b =>
      cases b with
      | true => rfl
      | false => exact absurd (.inr hw) sx
  have hx' : effOp c st x.dst x.op = some s1 := by
    unfold step1 at hx
    rw [hw] at hx
    simp only at hx
    unfold step at hx
    rw [if_pos h1] at hx
    exact hx
  obtain ⟨f, hg, hsl⟩ := eff_slots hx'
  obtain ⟨t, k, hop⟩ := addrSlot_op ha
  have hzr : z ∈ reads ops y := tmp_reads (by rw [hop]; simp [Op.operands])
  have hp1 : s1.t.getD z .undef = .ptr e n := by
    rw [hsl z (fun h => ry z h hzr), hp]
    exact hg.1 _ (.inl ⟨_, _, rfl⟩)
  obtain ⟨v, hv, rfl, hty⟩ := addr_step ha hdy hp1 hy
  have hwy : wanted ops st.t y = wanted ops s1.t y := by
    have := wanted_eff (ops := ops) (o := y) (st := st) (s := s1) hg (fun q hq => hsl q (fun h => ry q h hq))
    cases hq : wanted ops s1.t y with
    | none =>
      cases hq2 : wanted ops st.t y with
      | none => rfl
      | some b => rw [(this b).1 hq2] at hq; cases hq
    | some b => exact (this b).2 hq
  refine ⟨_, hty st hwy hp, ?_⟩
  unfold step1
  rw [wanted_slot rx, hw]
  simp only
  unfold step
  have hr : ∀ t, Operand.tmp t ∈ x.op.operands.toList → t ≠ dy := fun t ht e => rx (e ▸ tmp_reads ht)
  rw [isEff_congr (st := st) (fun q hq => ev_slot (fun t e => hr t (e ▸ hq))), if_pos h1, effOp_slot hv hr hne, hx']
  rfl

/-- One that reckons an address ahead of a writing operation. -/
theorem swap_addr_eff {x y : Oper} (hx : step1 c den ops st x = some s1) (hy : step1 c den ops s1 y = some s2) (sy : ¬ Still ops s1 y) {z dx e n : Nat} (ha : addrSlot x = some z) (hdx : x.dst = some dx) (hp : st.t.getD z .undef = .ptr e n)
    (hne : y.dst ≠ some dx) (ry : dx ∉ reads ops y) (rx : ∀ e, y.dst = some e → e ∉ reads ops x) : ∃ s, step1 c den ops st y = some s ∧ step1 c den ops s x = some s2 := by
  have h1 : isEff s1 y.op = true := by
    cases hi : isEff s1 y.op with
    | true => rfl
    | false => exact absurd (.inl hi) sy
  have hw : wanted ops s1.t y = some true := by
    unfold step1 at hy
    cases hw : wanted ops s1.t y with
    | none => rw [hw] at hy; cases hy
    | some b =>
      cases b with
      | true => rfl
      | false => exact absurd (.inr hw) sy
  have hy' : effOp c s1 y.dst y.op = some s2 := by
    unfold step1 at hy
    rw [hw] at hy
    simp only at hy
    unfold step at hy
    rw [if_pos h1] at hy
    exact hy
  obtain ⟨v, hv, rfl, htx⟩ := addr_step ha hdx hp hx
  have hr : ∀ t, Operand.tmp t ∈ y.op.operands.toList → t ≠ dx := fun t ht e => ry (e ▸ tmp_reads ht)
  rw [effOp_slot hv hr hne] at hy'
  cases hs : effOp c st y.dst y.op with
  | none => rw [hs] at hy'; cases hy'
  | some s =>
    rw [hs] at hy'
    simp only [Option.map_some, Option.some.injEq] at hy'
    subst hy'
    obtain ⟨f, hg, hsl⟩ := eff_slots hs
    obtain ⟨t, k, hop⟩ := addrSlot_op ha
    have hzr : z ∈ reads ops x := tmp_reads (by rw [hop]; simp [Op.operands])
    have hp1 : s.t.getD z .undef = .ptr e n := by
      rw [hsl z (fun h => rx z h hzr), hp]
      exact hg.1 _ (.inl ⟨_, _, rfl⟩)
    refine ⟨s, ?_, htx s ?_ hp1⟩
    · unfold step1
      rw [← wanted_slot ry, hw]
      simp only
      unfold step
      rw [← isEff_congr (st := st) (st2 := st.slot dx v) (fun q hq => ev_slot (fun t e => hr t (e ▸ hq))), if_pos h1, hs]
    · have := wanted_eff (ops := ops) (o := x) (st := st) (s := s) hg (fun q hq => hsl q (fun h => rx q h hq))
      cases hq : wanted ops s.t x with
      | none =>
        cases hq2 : wanted ops st.t x with
        | none => rfl
        | some b => rw [(this b).1 hq2] at hq; cases hq
      | some b => exact ((this b).2 hq).symm
end
end Go.Am
