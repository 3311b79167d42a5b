/-
  The swap of two operations of a drawn region, and what runs first. No theorem about a Go program stands here.
-/
import Derived.Test.YtlgbgnlpbnhhfaaGreatDoorAmDraw
set_option linter.unusedVariables false
set_option linter.unusedSimpArgs false
namespace Go.Am
open Go Go.RowKit
section
variable {P : Program} {c : Cfg} {Γ Γ' : Ctx} {st st2 st' s1 s2 : St} {a : Act} {w w' : World} {den : Nat → List V → Option V} {η η' : Nat → Option V} {d : Nat} {p q r : Nat → Bool} {ops : Array Oper} {o : Oper} {B : List Nat}

theorem still_none (h : step1 c den ops st o = some st') (hs : Still ops st o) (hd : o.dst = none) : wanted ops st.t o = some false ∧ st' = st := by
  unfold step1 at h
  cases hw : wanted ops st.t o with
  | none => rw [hw] at h; cases h
  | some b =>
    rw [hw] at h
    cases b with
    | false => simp only [hd, Option.some.injEq] at h; exact ⟨rfl, h.symm⟩
    | true =>
      simp only at h
      have hne : isEff st o.op = false := by
        rcases hs with h | h
        · exact h
        · rw [hw] at h; cases h
      unfold step at h
      rw [if_neg (by rw [hne]; simp), hd] at h
      cases h
theorem passed (hw : wanted ops st.t o = some false) (hd : o.dst = none) : step1 c den ops st o = some st := by
  unfold step1
  rw [hw]
  simp only [hd]

theorem clash_inv {free : Bool} {x y : Oper} (h : clash ops free x y = false) : (∀ e, x.dst = some e → e ∉ reads ops y ∧ y.dst ≠ some e) ∧ (∀ e, y.dst = some e → e ∉ reads ops x) ∧ ((mayEff x.op = true ∨ mayEff y.op = true) → free = true) := by
  unfold clash at h
  simp only [Bool.or_eq_false_iff] at h
  obtain ⟨⟨h1, h2⟩, h3⟩ := h
  refine ⟨fun e he => ?_, fun e he => ?_, fun hm => ?_⟩
  · rw [he] at h1
    simp only [Bool.or_eq_false_iff] at h1
    refine ⟨fun hc => ?_, fun hy => ?_⟩
    · rw [List.contains_iff_mem.2 hc] at h1; cases h1.1
    · rw [hy] at h1; simp at h1
  · rw [he] at h2
    intro hc
    simp only at h2
    rw [List.contains_iff_mem.2 hc] at h2; cases h2
  · cases hf : free with
    | true => rfl
    | false =>
      rw [hf] at h3
      rcases hm with hm | hm <;> rw [hm] at h3 <;> simp at h3

/-- Two operations of a region that do not clash. -/
theorem swap (hA : Agree P c) (hD : Answers P den) (hR : Reg ops B) {i j : Nat} {x y : Oper} (hi : ops[i]? = some x) (hj : ops[j]? = some y) (hcl : clash ops (B.contains i || B.contains j) x y = false) {L : List Nat} (hI : Inv ops B L st) (iL : i ∈ L) (jL : j ∈ L)
    (hx : step1 c den ops st x = some s1) (hy : step1 c den ops s1 y = some s2) : ∃ s, step1 c den ops st y = some s ∧ step1 c den ops s x = some s2 := by
  obtain ⟨k1, k2, k3⟩ := clash_inv hcl
  by_cases sx : Still ops st x
  · by_cases sy : Still ops s1 y
    · cases hdx : x.dst with
      | none =>
        obtain ⟨hw, rfl⟩ := still_none hx sx hdx
        refine ⟨s2, hy, ?_⟩
        cases hdy : y.dst with
        | none =>
          obtain ⟨_, rfl⟩ := still_none hy sy hdy
          exact hx
        | some dy =>
          obtain ⟨v, bx, esc, rfl, _, _, _⟩ := neat hy sy hdy
          refine passed ?_ hdx
          rw [← hw]
          exact wanted_congr fun z hz => setD_ne (fun e => k2 dy hdy (e ▸ hz))
      | some dx =>
        cases hdy : y.dst with
        | none =>
          obtain ⟨hw, rfl⟩ := still_none hy sy hdy
          refine ⟨st, passed ?_ hdy, hx⟩
          obtain ⟨v, bx, esc, rfl, _, _, _⟩ := neat hx sx hdx
          rw [← hw]
          exact (wanted_congr (st := st) (st2 := st.upd dx v bx esc) fun z hz => setD_ne (fun e : z = dx => (k1 dx hdx).1 (e ▸ hz))).symm
        | some dy =>
          have hne : dx ≠ dy := fun e => (k1 dx hdx).2 (by rw [hdy, e])
          exact swap_still hA hD hI.real hx hy sx sy hdx hdy hne (hR.lt i x dx hi hdx) (hR.lt j y dy hj hdy) (k2 dy hdy) (k1 dx hdx).1 (hI.clean i iL x dx hi hdx) (hI.clean j jL y dy hj hdy)
    · have hm : mayEff y.op = true := isEff_may (st := s1) (by
        cases hq : isEff s1 y.op with
        | true => rfl
        | false => exact absurd (.inl hq) sy)
      have hfree := k3 (.inr hm)
      have hiB : i ∈ B := by
        rw [Bool.or_eq_true] at hfree
        rcases hfree with h | h
        · exact List.contains_iff_mem.1 h
        · obtain ⟨o, z, ho, hz, _⟩ := hR.addr j (List.contains_iff_mem.1 h)
          rw [hj] at ho
          injection ho with ho
          subst ho
          obtain ⟨t, k, hop⟩ := addrSlot_op hz
          rw [hop] at hm
          cases hm
      obtain ⟨o, z, ho, hz, _⟩ := hR.addr i hiB
      rw [hi] at ho
      injection ho with ho
      subst ho
      obtain ⟨e, n, hp⟩ := hI.addr i hiB x z hi hz
      cases hdx : x.dst with
      | none =>
        exact absurd hdx (addrSlot_dst hz)
      | some dx => exact swap_addr_eff hx hy sy hz hdx hp (k1 dx hdx).2 (k1 dx hdx).1 k2
  · have hm : mayEff x.op = true := isEff_may (st := st) (by
      cases hq : isEff st x.op with
      | true => rfl
      | false => exact absurd (.inl hq) sx)
    have hfree := k3 (.inl hm)
    have hjB : j ∈ B := by
      rw [Bool.or_eq_true] at hfree
      rcases hfree with h | h
      · obtain ⟨o, z, ho, hz, _⟩ := hR.addr i (List.contains_iff_mem.1 h)
        rw [hi] at ho
        injection ho with ho
        subst ho
        obtain ⟨t, k, hop⟩ := addrSlot_op hz
        rw [hop] at hm
        cases hm
      · exact List.contains_iff_mem.1 h
    obtain ⟨o, z, ho, hz, _⟩ := hR.addr j hjB
    rw [hj] at ho
    injection ho with ho
    subst ho
    obtain ⟨e, n, hp⟩ := hI.addr j hjB y z hj hz
    cases hdy : y.dst with
    | none => exact absurd hdy (addrSlot_dst hz)
    | some dy => exact swap_eff_addr hx hy sx hz hdy hp (fun e => (k1 dy e).2 hdy) (k2 dy hdy) (fun e he => (k1 e he).1)
end
end Go.Am
