/-
  Regions that draw their order. No theorem about a Go program stands here.
-/
import Derived.Test.YtcajalfelmgeiaaAmAside
set_option linter.unusedVariables false
set_option linter.unusedSimpArgs false
namespace Go.Am
open Go Go.RowKit
section
variable {P : Program} {c : Cfg} {Γ Γ' : Ctx} {st st2 st' s1 s2 : St} {a : Act} {w w' : World} {den : Nat → List V → Option V} {η η' : Nat → Option V} {d : Nat} {p q r : Nat → Bool} {ops : Array Oper} {o : Oper} {B : List Nat}

def runI (c : Cfg) (den : Nat → List V → Option V) (ops : Array Oper) : List Nat → St → Option St
  | [], st => some st
  | i :: is, st => match ops[i]? with
    | some o => (step1 c den ops st o).bind (runI c den ops is)
    | none => none

/-- What holds of a region's text. -/
structure Reg (ops : Array Oper) (B : List Nat) : Prop where
  lt : ∀ (i : Nat) (o : Oper) (e : Nat), ops[i]? = some o → o.dst = some e → e < 1000
  inj : ∀ (i j : Nat) (o o' : Oper) (e : Nat), ops[i]? = some o → ops[j]? = some o' → o.dst = some e → o'.dst = some e → i = j
  addr : ∀ i, i ∈ B → ∃ (o : Oper) (x : Nat), ops[i]? = some o ∧ addrSlot o = some x ∧ ∀ (j : Nat) (o' : Oper), ops[j]? = some o' → o'.dst ≠ some x
  back : ∀ (j : Nat) (o : Oper), ops[j]? = some o → ∀ e ∈ o.after.toList, e.on < j
  ord : ∀ (i j : Nat) (x y : Oper), i < j → ops[i]? = some x → ops[j]? = some y → clash ops ((B.contains i || B.contains j) || (aside ops i x y || aside ops j y x)) x y = false ∨ prec ops ops.size j i = true

theorem nodup_filterMap_inj {α : Type} {f : α → Option Nat} : ∀ {l : List α}, (l.filterMap f).Nodup → ∀ (i j : Nat) (x y : α) (e : Nat), l[i]? = some x → l[j]? = some y → f x = some e → f y = some e → i = j := by
  intro l
  induction l with
  | nil => intro _ i j x y e h; simp at h
  | cons z l ih =>
    intro hn i j x y e hx hy fx fy
    have hmem : ∀ (k : Nat) (u : α), l[k]? = some u → f u = some e → e ∈ l.filterMap f := fun k u hk hu => List.mem_filterMap.2 ⟨u, List.mem_of_getElem? hk, hu⟩
    rw [List.filterMap_cons] at hn
    have hn' : (l.filterMap f).Nodup := by
      split at hn
      · exact hn
      · exact (List.nodup_cons.1 hn).2
    cases i with
    | zero =>
      cases j with
      | zero => rfl
      | succ j =>
        simp only [List.getElem?_cons_zero, Option.some.injEq] at hx
        subst hx
        rw [fx] at hn
        exact absurd (hmem j y (by simpa using hy) fy) (List.nodup_cons.1 hn).1
    | succ i =>
      cases j with
      | zero =>
        simp only [List.getElem?_cons_zero, Option.some.injEq] at hy
        subst hy
        rw [fy] at hn
        exact absurd (hmem i x (by simpa using hx) fx) (List.nodup_cons.1 hn).1
      | succ j => rw [ih hn' i j x y e (by simpa using hx) (by simpa using hy) fx fy]

theorem reg_of (h : regionOk ops B = true) : Reg ops B := by
  unfold regionOk at h
  simp only [Bool.and_eq_true, List.all_eq_true, decide_eq_true_eq, List.mem_range] at h
  obtain ⟨⟨⟨h1, h2⟩, h3⟩, h4⟩ := h
  have mem : ∀ (i : Nat) (o : Oper) (e : Nat), ops[i]? = some o → o.dst = some e → e ∈ ops.toList.filterMap (·.dst) := fun i o e hi he => List.mem_filterMap.2 ⟨o, List.mem_of_getElem? (by simpa using hi), he⟩
  have lt : ∀ (j : Nat) (o : Oper), ops[j]? = some o → j < ops.toList.length := fun j o hj => by simpa using (Array.getElem?_eq_some_iff.1 hj).1
  refine ⟨fun i o e hi he => h1 e (mem i o e hi he), fun i j o o' e hi hj he he' => nodup_filterMap_inj h2 i j o o' e (by simpa using hi) (by simpa using hj) he he', fun i hi => ?_, fun j o hj e he => ?_, fun i j x y hij hi hj => ?_⟩
  · have := h3 i hi
    cases ho : ops[i]? with
    | none => rw [ho] at this; cases this
    | some o =>
      rw [ho] at this
      simp only [Option.bind_some] at this
      cases hx : addrSlot o with
      | none => rw [hx] at this; cases this
      | some x =>
        rw [hx] at this
        simp only [Bool.not_eq_true'] at this
        refine ⟨o, x, rfl, hx, fun j o' hj he => ?_⟩
        have hc := List.contains_iff_mem.2 (mem j o' x hj he)
        rw [this] at hc
        cases hc
  · have := h4 j (lt j o hj)
    rw [hj] at this
    simp only [Bool.and_eq_true, List.all_eq_true, decide_eq_true_eq] at this
    exact this.1 e he
  · have := h4 j (lt j y hj)
    rw [hj] at this
    simp only [Bool.and_eq_true, List.all_eq_true, decide_eq_true_eq, List.mem_range] at this
    have h5 := this.2 i hij
    rw [hi] at h5
    simp only [Bool.or_eq_true, Bool.not_eq_true'] at h5
    simpa using h5

/-- What holds while a region runs; L: what is still to be run. -/
structure Inv (ops : Array Oper) (B : List Nat) (L : List Nat) (st : St) : Prop where
  real : Real st
  clean : ∀ i, i ∈ L → ∀ (o : Oper) (e : Nat), ops[i]? = some o → o.dst = some e → CleanAt e (mkBox o.op) st
  addr : ∀ i, i ∈ B → ∀ (o : Oper) (x : Nat), ops[i]? = some o → addrSlot o = some x → ∃ e n, st.t.getD x .undef = .ptr e n
  iso : ∀ (e : Nat) (T : List Nat), closedT ops e T = true → (∃ (i : Nat) (o : Oper), ops[i]? = some o ∧ o.dst = some e) → (∃ i, i ∈ L ∧ i < ops.size) → Iso e T st
  orig : ∀ (f k : Nat) (o : Oper) (x e : Nat), ops[k]? = some o → o.dst = some x → origin ops f k = some e → k ∉ L → OwnOf e (st.t.getD x .undef)
/-- What an operation waits for has run. -/
def Rdy (ops : Array Oper) (L : List Nat) (j : Nat) : Prop := ∀ (o : Oper) (ed : Edge), ops[j]? = some o → ed ∈ o.after.toList → Region.binds .any ed = true → ed.on ∉ L
end
end Go.Am
namespace Go.Am
open Go Go.RowKit
section
variable {P : Program} {c : Cfg} {Γ Γ' : Ctx} {st st2 st' s1 s2 : St} {a : Act} {w w' : World} {den : Nat → List V → Option V} {η η' : Nat → Option V} {d : Nat} {p q r : Nat → Bool} {ops : Array Oper} {o : Oper} {B : List Nat}

theorem clash_inv {free : Bool} {x y : Oper} (h : clash ops free x y = false) : (∀ e, x.dst = some e → e ∉ reads ops y ∧ y.dst ≠ some e) ∧ (∀ e, y.dst = some e → e ∉ reads ops x) ∧ ((mayEff x.op = true ∨ mayEff y.op = true) → free = true) := by
  unfold clash at h
  simp only [Bool.or_eq_false_iff] at h
  obtain ⟨⟨h1, h2⟩, h3⟩ := h
  refine ⟨fun e he => ?_, fun e he => ?_, fun hm => ?_⟩
  · rw [he] at h1
    simp only [Bool.or_eq_false_iff] at h1
    refine ⟨fun hc => ?_, fun hy => ?_⟩
    · rw [List.contains_iff_mem.2 hc] at h1; cases h1.1
    · rw [hy] at h1; simp at h1
  · rw [he] at h2
    intro hc
    simp only at h2
    rw [List.contains_iff_mem.2 hc] at h2; cases h2
  · cases hf : free with
    | true => rfl
    | false =>
      rw [hf] at h3
      rcases hm with hm | hm <;> rw [hm] at h3 <;> simp at h3

theorem quiet_may {op : Op} (h : quiet op = true) : mayEff op = false := by
  cases op <;> first | rfl | (cases h; done)
theorem aside_inv {i : Nat} {x y : Oper} (h : aside ops i x y = true) : quiet y.op = true ∧ ∃ sx e, appSrc x = some sx ∧ origin ops ops.size i = some e ∧ closedT ops e (taint ops e) = true ∧ (∀ z ∈ reads ops y, z ∉ taint ops e) ∧ (∀ d, y.dst = some d → d ∉ taint ops e) := by
  unfold aside at h
  simp only [Bool.and_eq_true] at h
  obtain ⟨⟨h1, h2⟩, h3⟩ := h
  split at h3
  · rename_i e he
    simp only [Bool.and_eq_true, Bool.not_eq_true'] at h3
    obtain ⟨sx, hsx⟩ := Option.isSome_iff_exists.1 h2
    refine ⟨h1, sx, e, hsx, he, h3.1.1, any_contains h3.1.2, fun d hd => ?_⟩
    have := h3.2
    rw [hd] at this
    exact mem_contains.1 (by simpa using this)
  · cases h3
theorem closedT_inv {e : Nat} {T : List Nat} (h : closedT ops e T = true) : e ∈ T ∧ e ≠ 0 := by
  unfold closedT at h
  simp only [Bool.and_eq_true, bne_iff_ne] at h
  exact ⟨List.contains_iff_mem.1 h.1.1, h.1.2⟩
theorem appSrc_reads {x : Oper} {sx : Nat} (h : appSrc x = some sx) : sx ∈ reads ops x := by
  unfold appSrc at h
  split at h
  · rename_i args ts hop
    split at h
    · rename_i z zs hargs
      injection h with h
      subst h
      exact tmp_reads (by rw [hop]; simp [Op.operands, Call.operands, hargs])
    · cases h
  · cases h
theorem origin_app {f i e sx : Nat} {x : Oper} (h : origin ops f i = some e) (hi : ops[i]? = some x) (hs : appSrc x = some sx) : ∃ f' i' o', origin ops f' i' = some e ∧ ops[i']? = some o' ∧ o'.dst = some sx ∧ ∃ ed ∈ x.after.toList, Region.binds .any ed = true ∧ ed.on = i' := by
  cases f with
  | zero => cases h
  | succ f =>
    rw [origin, hi] at h
    simp only at h
    split at h
    · rename_i hop
      unfold appSrc at hs
      rw [hop] at hs
      cases hs
    · rw [hs] at h
      simp only at h
      split at h
      · rename_i i' hw
        split at h
        · rename_i hany
          obtain ⟨o', h1, h2⟩ := writer_spec hw
          obtain ⟨ed, h3, h4⟩ := List.any_eq_true.1 hany
          rw [Bool.and_eq_true, beq_iff_eq] at h4
          exact ⟨f, i', o', h, h1, h2, ed, h3, h4.1, h4.2⟩
        · cases h
      · cases h
theorem Inv.own {L : List Nat} (hI : Inv ops B L st) {f i e sx : Nat} {x : Oper} (h : origin ops f i = some e) (hi : ops[i]? = some x) (hs : appSrc x = some sx) (hr : Rdy ops L i) : OwnOf e (st.t.getD sx .undef) := by
  obtain ⟨f', i', o', h1, h2, h3, ed, h4, h5, h6⟩ := origin_app h hi hs
  exact hI.orig f' i' o' sx e h2 h3 h1 (h6 ▸ hr x ed hi h4 h5)
/-- Two operations of a region that do not clash. -/
theorem swap (hA : Agree P c) (hD : Answers P den) (hR : Reg ops B) {i j : Nat} {x y : Oper} (hi : ops[i]? = some x) (hj : ops[j]? = some y) (hcl : clash ops ((B.contains i || B.contains j) || (aside ops i x y || aside ops j y x)) x y = false) {L : List Nat} (hI : Inv ops B L st) (iL : i ∈ L) (jL : j ∈ L) (ri : Rdy ops L i) (rj : Rdy ops L j)
    (hx : step1 c den ops st x = some s1) (hy : step1 c den ops s1 y = some s2) : ∃ s, step1 c den ops st y = some s ∧ step1 c den ops s x = some s2 := by
  obtain ⟨k1, k2, k3⟩ := clash_inv hcl
  by_cases sx : Still ops st x
  · by_cases sy : Still ops s1 y
    · cases hdx : x.dst with
      | none =>
        obtain ⟨hw, rfl⟩ := still_none hx sx hdx
        refine ⟨s2, hy, ?_⟩
        cases hdy : y.dst with
        | none =>
          obtain ⟨_, rfl⟩ := still_none hy sy hdy
          exact hx
        | some dy =>
          obtain ⟨v, bx, esc, rfl, _, _, _⟩ := neat hy sy hdy
          refine passed ?_ hdx
          rw [← hw]
          exact wanted_congr fun z hz => setD_ne (fun e => k2 dy hdy (e ▸ hz))
      | some dx =>
        cases hdy : y.dst with
        | none =>
          obtain ⟨hw, rfl⟩ := still_none hy sy hdy
          refine ⟨st, passed ?_ hdy, hx⟩
          obtain ⟨v, bx, esc, rfl, _, _, _⟩ := neat hx sx hdx
          rw [← hw]
          exact (wanted_congr (st := st) (st2 := st.upd dx v bx esc) fun z hz => setD_ne (fun e : z = dx => (k1 dx hdx).1 (e ▸ hz))).symm
        | some dy =>
          have hne : dx ≠ dy := fun e => (k1 dx hdx).2 (by rw [hdy, e])
          exact swap_still hA hD hI.real hx hy sx sy hdx hdy hne (hR.lt i x dx hi hdx) (hR.lt j y dy hj hdy) (k2 dy hdy) (k1 dx hdx).1 (hI.clean i iL x dx hi hdx) (hI.clean j jL y dy hj hdy)
    · have hm : mayEff y.op = true := isEff_may (st := s1) (by
        cases hq : isEff s1 y.op with
        | true => rfl
        | false => exact absurd (.inl hq) sy)
      have hfree := k3 (.inr hm)
      rw [Bool.or_eq_true] at hfree
      rcases hfree with hfree | hfree
      case inr =>
        rw [Bool.or_eq_true] at hfree
        rcases hfree with h | h
        · have := quiet_may (aside_inv h).1
          rw [hm] at this
          cases this
        · obtain ⟨qx, sy', e, ay, hor, hct, r1, r2⟩ := aside_inv h
          obtain ⟨heT, _⟩ := closedT_inv hct
          exact swap_quiet_app hA hD hI.real ay hx hy sy qx (hI.iso e _ hct (origin_written hor) ⟨i, iL, (Array.getElem?_eq_some_iff.1 hi).1⟩) (hI.own hor hj ay rj) heT r1 r2 (appSrc_reads ay) (fun d hd => ⟨(k1 d hd).1, (k1 d hd).2⟩) k2 (fun d hd => hI.clean i iL x d hi hd) (fun d hd => hR.lt i x d hi hd) (fun d hd => hR.lt j y d hj hd)
      have hiB : i ∈ B := by
        rw [Bool.or_eq_true] at hfree
        rcases hfree with h | h
        · exact List.contains_iff_mem.1 h
        · obtain ⟨o, z, ho, hz, _⟩ := hR.addr j (List.contains_iff_mem.1 h)
          rw [hj] at ho
          injection ho with ho
          subst ho
          obtain ⟨t, k, hop⟩ := addrSlot_op hz
          rw [hop] at hm
          cases hm
      obtain ⟨o, z, ho, hz, _⟩ := hR.addr i hiB
      rw [hi] at ho
      injection ho with ho
      subst ho
      obtain ⟨e, n, hp⟩ := hI.addr i hiB x z hi hz
      cases hdx : x.dst with
      | none =>
        exact absurd hdx (addrSlot_dst hz)
      | some dx => exact swap_addr_eff hx hy sy hz hdx hp (k1 dx hdx).2 (k1 dx hdx).1 k2
  · have hm : mayEff x.op = true := isEff_may (st := st) (by
      cases hq : isEff st x.op with
      | true => rfl
      | false => exact absurd (.inl hq) sx)
    have hfree := k3 (.inl hm)
    rw [Bool.or_eq_true] at hfree
    rcases hfree with hfree | hfree
    case inr =>
      rw [Bool.or_eq_true] at hfree
      rcases hfree with h | h
      · obtain ⟨qy, sx', e, ax, hor, hct, r1, r2⟩ := aside_inv h
        obtain ⟨heT, he0⟩ := closedT_inv hct
        exact swap_app_quiet hA hD hI.real ax hx hy sx qy he0 (hI.iso e _ hct (origin_written hor) ⟨j, jL, (Array.getElem?_eq_some_iff.1 hj).1⟩) (hI.own hor hi ax ri) heT r1 r2 k1 k2 (fun d hd => hI.clean j jL y d hj hd) (fun d hd => hR.lt j y d hj hd)
      · have := quiet_may (aside_inv h).1
        rw [hm] at this
        cases this
    have hjB : j ∈ B := by
      rw [Bool.or_eq_true] at hfree
      rcases hfree with h | h
      · obtain ⟨o, z, ho, hz, _⟩ := hR.addr i (List.contains_iff_mem.1 h)
        rw [hi] at ho
        injection ho with ho
        subst ho
        obtain ⟨t, k, hop⟩ := addrSlot_op hz
        rw [hop] at hm
        cases hm
      · exact List.contains_iff_mem.1 h
    obtain ⟨o, z, ho, hz, _⟩ := hR.addr j hjB
    rw [hj] at ho
    injection ho with ho
    subst ho
    obtain ⟨e, n, hp⟩ := hI.addr j hjB y z hj hz
    cases hdy : y.dst with
    | none => exact absurd hdy (addrSlot_dst hz)
    | some dy => exact swap_eff_addr hx hy sx hz hdy hp (fun e => (k1 dy e).2 hdy) (k2 dy hdy) (fun e he => (k1 e he).1)
end
end Go.Am
namespace Go.Am
open Go Go.RowKit
section
variable {P : Program} {c : Cfg} {Γ Γ' : Ctx} {st st2 st' s1 s2 : St} {a : Act} {w w' : World} {den : Nat → List V → Option V} {η η' : Nat → Option V} {d : Nat} {p q r : Nat → Bool} {ops : Array Oper} {o : Oper} {B : List Nat}

theorem slot_keep (h : step1 c den ops st o = some st') {x : Nat} (hx : o.dst ≠ some x) {e n : Nat} (hp : st.t.getD x .undef = .ptr e n) : st'.t.getD x .undef = .ptr e n := by
  by_cases hs : Still ops st o
  · cases hd : o.dst with
    | none => obtain ⟨_, rfl⟩ := still_none h hs hd; exact hp
    | some dd =>
      obtain ⟨v, bx, esc, rfl, _, _, _⟩ := neat h hs hd
      exact (setD_ne (fun e => hx (by rw [hd, e]))).trans hp
  · have h1 : isEff st o.op = true := by
      cases hi : isEff st o.op with
      | true => rfl
      | false => exact absurd (.inl hi) hs
    unfold step1 at h
    cases hw : wanted ops st.t o with
    | none => rw [hw] at h; cases h
    | some b =>
      rw [hw] at h
      cases b with
      | false => exact absurd (.inr hw) hs
      | true =>
        simp only at h
        unfold step at h
        rw [if_pos h1] at h
        obtain ⟨f, hg, hsl⟩ := eff_slots h
        rw [hsl x hx, hp]
        exact hg.1 _ (.inl ⟨_, _, rfl⟩)

/-- What holds is kept; j: what has run. -/
theorem Inv.step (hA : Agree P c) (hD : Answers P den) (hR : Reg ops B) {L L' : List Nat} {j : Nat} {y : Oper} (hj : ops[j]? = some y) (hI : Inv ops B L st) (h : step1 c den ops st y = some st') (hL : ∀ i, i ∈ L' → i ∈ L ∧ i ≠ j) (hL2 : ∀ i, i ∈ L → i ≠ j → i ∈ L') (hr : Rdy ops L j) : Inv ops B L' st' := by
  refine ⟨real_step1 hA hD hI.real h, fun i hi o e ho he => ?_, fun i hi o x ho hx => ?_, fun e T hc hw hex => ?iso, fun f k o x e ho hx hor hk => ?_⟩
  case iso =>
    obtain ⟨i, hi, hil⟩ := hex
    obtain ⟨h1, h2⟩ := hL i hi
    refine iso_step hA hI.real hc (core_mem hj (fun ⟨hla, hjm⟩ => ?_)) (fun d hd => hR.lt j y d hj hd) h (hI.iso e T hc hw ⟨i, h1, hil⟩)
    have hj' : ops[ops.size - 1]? = some y := by rw [← hj]; congr 1; omega
    unfold lastly at hla
    rw [hj'] at hla
    simp only [List.all_eq_true, List.mem_range] at hla
    obtain ⟨ed, he1, he2⟩ := List.any_eq_true.1 (hla i (by omega))
    rw [Bool.and_eq_true, beq_iff_eq] at he2
    exact hr y ed hj he1 he2.1 (he2.2 ▸ h1)
  · obtain ⟨h1, h2⟩ := hL i hi
    exact clean_step1 hA hI.real h (fun e' he' => ⟨fun heq => h2 (hR.inj i j o y e ho hj he (by rw [he', heq])), hR.lt j y e' hj he'⟩) (hI.clean i h1 o e ho he)
  · obtain ⟨e, n, hp⟩ := hI.addr i hi o x ho hx
    obtain ⟨o', x', ho', hx', hno⟩ := hR.addr i hi
    rw [ho] at ho'
    injection ho' with ho'
    subst ho'
    rw [hx] at hx'
    injection hx' with hx'
    subst hx'
    exact ⟨e, n, slot_keep h (hno j y hj) hp⟩
  · by_cases hkj : k = j
    · subst hkj
      rw [hj] at ho
      injection ho with ho
      subst ho
      cases f with
      | zero => cases hor
      | succ f =>
        refine origin_run hj hx (hR.lt k y x hj hx) hor h (fun sx i hs hw ⟨ed, h1, h2, h3⟩ ho => ?_)
        obtain ⟨o', h4, h5⟩ := writer_spec hw
        exact hI.orig f i o' sx e h4 h5 ho (h3 ▸ hr y ed hj h1 h2)
    · exact step1_own h (fun hd => hkj (hR.inj k j o y x ho hj hx hd)) (hI.orig f k o x e ho hx hor (fun hkL => hk (hL2 k hkL hkj)))

theorem runI_cons {i : Nat} {x : Oper} (hi : ops[i]? = some x) (L : List Nat) (st : St) : runI c den ops (i :: L) st = (step1 c den ops st x).bind (runI c den ops L) := by simp only [runI, hi]

/-- What clashes with nothing ahead of it may run first. -/
theorem bubble (hA : Agree P c) (hD : Answers P den) (hR : Reg ops B) {i : Nat} {x : Oper} (hi : ops[i]? = some x) : ∀ (pre suf : List Nat) (st st' : St), Inv ops B (pre ++ i :: suf) st → (pre ++ i :: suf).Pairwise (· < ·) → Rdy ops (pre ++ i :: suf) i →
    (∀ j, j ∈ pre → ∀ y, ops[j]? = some y → clash ops ((B.contains j || B.contains i) || (aside ops j y x || aside ops i x y)) y x = false) → runI c den ops (pre ++ i :: suf) st = some st' → ∃ s, step1 c den ops st x = some s ∧ runI c den ops (pre ++ suf) s = some st' := by
  intro pre
  induction pre with
  | nil =>
    intro suf st st' hI _ _ _ h
    rw [List.nil_append, runI_cons hi] at h
    cases hs : step1 c den ops st x with
    | none => rw [hs] at h; cases h
    | some s => rw [hs] at h; exact ⟨s, rfl, h⟩
  | cons j pre ih =>
    intro suf st st' hI hS hri hcl h
    cases hj : ops[j]? with
    | none => simp only [List.cons_append, runI, hj] at h; cases h
    | some y =>
      rw [List.cons_append, runI_cons hj] at h
      cases hs : step1 c den ops st y with
      | none => rw [hs] at h; cases h
      | some s1 =>
        rw [hs] at h
        have hN : (j :: (pre ++ i :: suf)).Nodup := List.Pairwise.imp (fun h => Nat.ne_of_lt h) hS
        rw [List.nodup_cons] at hN
        have hS' := List.pairwise_cons.1 hS
        have hrj : Rdy ops (j :: (pre ++ i :: suf)) j := fun o ed ho hed _ hm => by
          have h1 := hR.back j o ho ed hed
          rcases List.mem_cons.1 hm with h2 | h2
          · omega
          · have := hS'.1 _ h2
            omega
        have hI1 : Inv ops B (pre ++ i :: suf) s1 := hI.step hA hD hR hj hs (fun k hk => ⟨by simp only [List.cons_append, List.mem_cons]; exact .inr hk, fun e => hN.1 (e ▸ hk)⟩) (fun k hk hkj => by simp only [List.cons_append, List.mem_cons] at hk; exact hk.resolve_left hkj) hrj
        obtain ⟨s2, h1, h2⟩ := ih suf s1 st' hI1 hS'.2 (fun o ed ho hed hb hm => hri o ed ho hed hb (by simp only [List.cons_append, List.mem_cons]; exact .inr hm)) (fun k hk => hcl k (by simp [hk])) h
        obtain ⟨s, h3, h4⟩ := swap hA hD hR hj hi (hcl j (by simp) y hj) hI (by simp) (by simp) hrj hri hs h1
        refine ⟨s, h3, ?_⟩
        rw [List.cons_append, runI_cons hj, h4]
        exact h2

/-- What must run ahead has run. -/
theorem prec_listed {listed : Nat → Bool} (hcl : ∀ j o, listed j = true → ops[j]? = some o → ∀ e ∈ o.after.toList, Region.binds .any e = true → listed e.on = true) : ∀ (k j i : Nat) (o : Oper), ops[j]? = some o →
    (∀ e ∈ o.after.toList, Region.binds .any e = true → listed e.on = true) → prec ops k j i = true → listed i = true := by
  intro k
  induction k with
  | zero => intro j i o _ _ h; cases h
  | succ k ih =>
    intro j i o ho hr h
    simp only [prec, ho, List.any_eq_true, Bool.and_eq_true, Bool.or_eq_true, beq_iff_eq] at h
    obtain ⟨e, he, hb, h⟩ := h
    have hl := hr e he hb
    rcases h with rfl | h
    · exact hl
    · cases hon : ops[e.on]? with
      | none =>
        cases k with
        | zero => cases h
        | succ k => simp only [prec, hon] at h; cases h
      | some o' => exact ih e.on i o' hon (hcl e.on o' hl hon) h
end
end Go.Am
namespace Go.Am
open Go Go.RowKit
section
variable {P : Program} {c : Cfg} {Γ Γ' : Ctx} {st st2 st' s1 s2 : St} {a : Act} {w w' : World} {den : Nat → List V → Option V} {ops : Array Oper} {o : Oper} {B : List Nat}

/-- What is still to be run, in the region's own order. -/
def pend (ops : Array Oper) (listed : Array Bool) : List Nat := (List.range ops.size).filter fun i => !listed.getD i true

theorem mem_pend {listed : Array Bool} {j : Nat} : j ∈ pend ops listed ↔ j < ops.size ∧ listed.getD j true = false := by
  unfold pend
  rw [List.mem_filter, List.mem_range]
  simp only [Bool.not_eq_true']
theorem pend_start : pend ops (Array.replicate ops.size false) = List.range ops.size := by
  unfold pend
  rw [List.filter_eq_self]
  intro i hi
  have := List.mem_range.1 hi
  simp [this]
theorem pend_sorted (listed : Array Bool) : (pend ops listed).Pairwise (· < ·) := List.Pairwise.filter _ List.pairwise_lt_range
theorem pend_nodup (listed : Array Bool) : (pend ops listed).Nodup := (pend_sorted listed).imp (fun h => Nat.ne_of_lt h)
theorem filter_split {i : Nat} : ∀ {pre suf : List Nat}, (pre ++ i :: suf).Nodup → (pre ++ i :: suf).filter (fun j => j != i) = pre ++ suf := by
  intro pre suf h
  have h1 : ∀ j ∈ pre, j ≠ i := fun j hj e => by
    subst e
    exact (List.nodup_append.1 h).2.2 j hj j (by simp) rfl
  have h2 : ∀ j ∈ suf, j ≠ i := fun j hj e => by
    subst e
    exact (List.nodup_cons.1 (List.nodup_append.1 h).2.1).1 hj
  rw [List.filter_append, List.filter_cons]
  simp only [bne_self_eq_false, Bool.false_eq_true, if_false]
  rw [List.filter_eq_self.2 (fun j hj => by simpa using h1 j hj), List.filter_eq_self.2 (fun j hj => by simpa using h2 j hj)]
theorem pend_set {listed : Array Bool} {i : Nat} : pend ops (listed.setIfInBounds i true) = (pend ops listed).filter (fun j => j != i) := by
  unfold pend
  rw [List.filter_filter]
  refine List.filter_congr fun j _ => ?_
  by_cases h : j = i
  · subst h
    by_cases hl : j < listed.size
    · simp [hl]
    · simp [Array.getElem?_eq_none (Nat.le_of_not_lt hl)]
  · rw [getD_set_ne true (Ne.symm h)]
    simp [h]

theorem runI_drop : ∀ (m k : Nat) (st : St), k + m = ops.size → runI c den ops (List.range' k m) st = runOps c den ops (ops.toList.drop k) st := by
  intro m
  induction m with
  | zero =>
    intro k st h
    rw [List.drop_eq_nil_of_le (by simp; omega)]
    rfl
  | succ m ih =>
    intro k st h
    have hk : k < ops.size := by omega
    rw [List.range'_succ, List.drop_eq_getElem_cons (by simpa using hk), runOps_cons, runI_cons (x := ops[k]) (by simp [hk])]
    simp only [Array.getElem_toList]
    refine congrArg _ (funext fun s => ih (k + 1) s (by omega))
theorem runI_all (st : St) : runI c den ops (List.range ops.size) st = runOps c den ops ops.toList st := by
  rw [List.range_eq_range', runI_drop ops.size 0 st (by omega), List.drop_zero]

/-- One operation of a drawn region. -/
theorem wpOp_ok (hA : Agree P c) (hD : Answers P den) {i : Nat} (hi : ops[i]? = some o) (hs : Sim Γ st a w) (h : step1 c den ops st o = some st') {Q : Exit → Act → World → Prop} {K : Act → World → Prop} (hK : ∀ a' w', Sims Γ st' a' w' → K a' w') : wpOp P ops Q i K a w := by
  unfold wpOp
  simp only [hi]
  unfold step1 at h
  cases hw : wanted ops st.t o with
  | none => rw [hw] at h; cases h
  | some b =>
    rw [hw] at h
    rw [wanted_ok hs hw]
    cases b with
    | true =>
      simp only [if_true] at h ⊢
      exact .inl (sound_step hA hD hs h K Q hK)
    | false =>
      simp only [Bool.false_eq_true, if_false] at h ⊢
      cases hd : o.dst with
      | none => rw [hd] at h; simp only [Option.some.injEq] at h; subst h; exact hK _ _ ⟨Γ, Same.rfl', hs⟩
      | some d => rw [hd] at h; simp only [Option.some.injEq] at h; subst h; exact hK _ _ ⟨Γ, Same.rfl', skip_ok hs d⟩

theorem any_ok (hA : Agree P c) (hD : Answers P den) (hR : Reg ops B) {Q : Exit → Act → World → Prop} : ∀ (fuel : Nat) (listed : Array Bool) (Γ : Ctx) (st : St) (a : Act) (w : World) (st' : St), Sim Γ st a w → Inv ops B (pend ops listed) st → listed.size = ops.size →
    (∀ j o, listed.getD j false = true → ops[j]? = some o → ∀ e ∈ o.after.toList, Region.binds .any e = true → listed.getD e.on false = true) → (pend ops listed).length ≤ fuel → runI c den ops (pend ops listed) st = some st' →
    (∀ a' w', Sims Γ st' a' w' → Q .normal a' w') → wpAny P .any ops Q fuel listed a w := by
  intro fuel
  have agree : ∀ (listed : Array Bool), listed.size = ops.size → ∀ j, j < ops.size → ∀ b, listed.getD j true = b → listed.getD j false = b := by
    intro listed hz j hj b h
    have : j < listed.size := by omega
    simpa [this] using h
  -- where nothing is ready nothing is pending
  have hdone : ∀ (listed : Array Bool), listed.size = ops.size → Region.ready .any ops listed = [] → pend ops listed = [] := by
    intro listed hz hr
    cases hp : pend ops listed with
    | nil => rfl
    | cons j rest =>
      exfalso
      have hj := mem_pend.1 (show j ∈ pend ops listed by rw [hp]; simp)
      have hsome : ops[j]? = some ops[j] := by simp [hj.1]
      have : j ∈ Region.ready .any ops listed := by
        refine mem_ready.2 ⟨hj.2, ops[j], hsome, fun e he _ => ?_⟩
        have hlt := hR.back j _ hsome e (by simpa using he)
        have hlt2 : e.on < ops.size := by omega
        cases hb : listed.getD e.on true with
        | true => exact agree listed hz e.on hlt2 true hb
        | false =>
          exfalso
          have hm : e.on ∈ pend ops listed := mem_pend.2 ⟨hlt2, hb⟩
          have hs := pend_sorted (ops := ops) listed
          rw [hp] at hm hs
          rcases List.mem_cons.1 hm with h | h
          · omega
          · have := (List.pairwise_cons.1 hs).1 _ h
            omega
      rw [hr] at this
      cases this
  induction fuel with
  | zero =>
    intro listed Γ st a w st' hs hI hz hcl hlen h hQ
    have hp : pend ops listed = [] := List.eq_nil_of_length_eq_zero (by omega)
    rw [hp] at h
    simp only [runI, Option.some.injEq] at h
    subst h
    refine ⟨?_, hQ a w ⟨Γ, Same.rfl', hs⟩⟩
    cases hr : Region.ready .any ops listed with
    | nil => rfl
    | cons i rest =>
      exfalso
      obtain ⟨h0, o, ho, _⟩ := mem_ready.1 (show i ∈ Region.ready .any ops listed by rw [hr]; simp)
      have : i ∈ pend ops listed := mem_pend.2 ⟨(Array.getElem?_eq_some_iff.1 ho).1, h0⟩
      rw [hp] at this
      cases this
  | succ fuel ih =>
    intro listed Γ st a w st' hs hI hz hcl hlen h hQ
    refine ⟨fun hr => ?_, fun i hi => ?_⟩
    · rw [hdone listed hz hr] at h
      simp only [runI, Option.some.injEq] at h
      subst h
      exact hQ a w ⟨Γ, Same.rfl', hs⟩
    · obtain ⟨h0, o, ho, hall⟩ := mem_ready.1 hi
      have hilt := (Array.getElem?_eq_some_iff.1 ho).1
      have him : i ∈ pend ops listed := mem_pend.2 ⟨hilt, h0⟩
      obtain ⟨pre, suf, hsplit⟩ := List.append_of_mem him
      have hnd := pend_nodup (ops := ops) listed
      have hsrt := pend_sorted (ops := ops) listed
      have hset : pend ops (listed.setIfInBounds i true) = pre ++ suf := by
        rw [pend_set, hsplit, filter_split (by rw [← hsplit]; exact hnd)]
      have hI' := hI
      rw [hsplit] at h hnd hsrt hI'
      have hrdy : Rdy ops (pend ops listed) i := fun o' ed ho' hed hb hm => by
        rw [ho] at ho'
        injection ho' with ho'
        subst ho'
        have h3 := hall ed (by simpa using hed) hb
        have h4 := mem_pend.1 hm
        have h5 := agree listed hz ed.on h4.1 false h4.2
        rw [h3] at h5
        cases h5
      have hrdy' := hrdy
      rw [hsplit] at hrdy'
      obtain ⟨s, h1, h2⟩ := bubble hA hD hR ho pre suf st st' hI' hsrt hrdy' (fun j hj y hy => by
        have hjp : j ∈ pend ops listed := by rw [hsplit]; simp [hj]
        have hji : j < i := (List.pairwise_append.1 hsrt).2.2 j hj i (by simp)
        rcases hR.ord j i y o hji hy ho with h | h
        · exact h
        · exfalso
          have hlj := prec_listed (listed := fun k => listed.getD k false) hcl ops.size i j o ho (fun e he hb => hall e (by simpa using he) hb) h
          have := agree listed hz j (by omega) false (mem_pend.1 hjp).2
          simp only [this] at hlj
          cases hlj) h
      refine wpOp_ok hA hD ho hs h1 (fun a' w' hs' => ?_)
      obtain ⟨Γ', hsame, hs''⟩ := hs'
      have hilt2 : i < listed.size := by omega
      refine ih (listed.setIfInBounds i true) Γ' s a' w' st' hs'' ?_ (by simpa using hz) ?_ ?_ (by rw [hset]; exact h2) (fun a2 w2 h' => hQ _ _ (Sims.of hsame h'))
      · refine hI.step hA hD hR ho h1 (fun k hk => ?_) ?_ ?_
        · rw [pend_set, List.mem_filter] at hk
          exact ⟨hk.1, by simpa using hk.2⟩
        · intro k hk hki
          rw [pend_set, List.mem_filter]
          exact ⟨hk, by simpa using hki⟩
        · exact hrdy
      · intro j oj hj hoj e he hb
        by_cases hji : j = i
        · subst hji
          rw [ho] at hoj
          injection hoj with hoj
          subst hoj
          exact getD_set_true (hall e (by simpa using he) hb)
        · rw [getD_set_ne false (Ne.symm hji)] at hj
          exact getD_set_true (hcl j oj hj hoj e he hb)
      · have : (pend ops listed).length = (pre ++ suf).length + 1 := by rw [hsplit]; simp; omega
        rw [hset]
        omega

theorem Sim.drawn (hs : Sim Γ st a w) (n : Nat) : Sim Γ st a { w with drawn := n } := by
  have hc : ∀ x : Addr, ({ w with drawn := n } : World).cell? x = w.cell? x := fun x => rfl
  have hvr : ∀ v x, VR Γ w v x → VR Γ { w with drawn := n } v x := fun v x h =>
    VR.mono (w := w) (w' := { w with drawn := n }) (Γ := Γ) (Γ' := Γ) (p := fun _ => false) (r := fun _ => false) (fun _ h => h) (fun _ h => h) (fun _ _ _ => rfl) (fun b _ => ⟨Iff.rfl, fun _ => ⟨rfl, rfl, rfl, rfl, rfl, fun _ => rfl⟩⟩) (fun d _ => ⟨fun h => h, rfl⟩) h (anyB_false v) (anyP_false v)
  have g := hs.good
  refine ⟨⟨g.os, g.tape, g.output, g.size, g.old, g.new, g.slt, g.base, g.baseInj, g.box, g.boxInj, g.baseBox, g.sr, g.gl, g.bz, g.zf⟩, hs.dz, hs.len, fun i v h => ?_, fun d v h => ?_, hs.nds⟩
  · obtain ⟨x, h1, h2⟩ := hs.tm i v h
    exact ⟨x, h1, hvr v x h2⟩
  · obtain ⟨h1, cur, e, h2, h3, h4⟩ := hs.bx d v h
    refine ⟨h1, cur, e, h2, h3, fun j u hj => ?_⟩
    obtain ⟨x, h5, h6⟩ := h4 j u hj
    exact ⟨x, h5, hvr u x h6⟩

theorem drawOk (hA : Agree P c) (hm : P.follows .mixedOrders = true) (hD : Answers P den) : DrawOk P c den := by
  intro id ops B Γ st st' a w Q hs hclean hreg hent h hQ
  have hR := reg_of hreg
  unfold entryOk at hent
  rw [Bool.and_eq_true, List.all_eq_true, List.all_eq_true] at hent
  obtain ⟨he1, he2⟩ := hent
  refine wp_region_any hm ?_
  have hs' := hs.drawn (w.drawn + 1)
  refine any_ok hA hD hR ops.size (Array.replicate ops.size false) Γ st a _ st' hs' ?_ (by simp) ?_ ?_ (by rw [pend_start, runI_all]; exact h) hQ
  · refine ⟨⟨Γ, a, w, hs⟩, fun i hi o e ho he => ?_, fun i hi o x ho hx => ?_, fun e T _ hw => ?_, fun f k o x e ho _ _ hk => ?_⟩
    · have hlt := hR.lt i o e ho he
      obtain ⟨hc1, hc2⟩ := hclean e hlt
      have hmem : o ∈ ops.toList := List.mem_of_getElem? (i := i) (by simpa using ho)
      have hb := he2 o hmem
      simp only [he, Bool.or_eq_true, Bool.not_eq_true', Bool.and_eq_true] at hb
      intro v hv
      refine ⟨?_, ?_⟩
      · rcases hv with hv | hv
        · exact anyBs_mem hc1 v hv
        · exact anyBo_mem hc2 v hv
      · cases hbx : mkBox o.op with
        | false => simp only [Bool.false_and]; exact anyP_false v
        | true =>
          rw [hbx] at hb
          simp only [Bool.true_eq_false, false_or] at hb
          simp only [Bool.true_and]
          rcases hv with hv | hv
          · exact anyPs_mem hb.1 v hv
          · exact anyPo_mem hb.2 v hv
    · have := he1 i hi
      rw [ho] at this
      simp only [Option.bind_some, hx] at this
      split at this
      · rename_i d n hq; exact ⟨d, n, hq⟩
      · cases this
    · obtain ⟨i, o, ho, he⟩ := hw
      obtain ⟨hc1, hc2⟩ := hclean e (hR.lt i o e ho he)
      refine fun _ => ⟨fun z _ => ?_, fun v hv => anyBo_mem hc2 v hv⟩
      rw [List.getD_eq_getElem?_getD]
      cases ht : st.t[z]? with
      | none => rfl
      | some v => exact anyBs_mem hc1 v (mem_of_get ht)
    · exfalso
      apply hk
      rw [pend_start, List.mem_range]
      exact (Array.getElem?_eq_some_iff.1 ho).1
  · intro j o hj
    by_cases hjl : j < ops.size
    · simp [hjl] at hj
    · simp [hjl] at hj
  · rw [pend_start]; simp
end
end Go.Am
