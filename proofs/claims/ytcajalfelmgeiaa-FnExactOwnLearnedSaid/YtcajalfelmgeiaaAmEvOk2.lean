/-
  What the looking form gives is what the machine gives: regions, code, functions. No theorem about a Go program stands here.
-/
import Derived.Test.YtcajalfelmgeiaaAmEvOk
set_option linter.unusedVariables false
set_option linter.unusedSimpArgs false
namespace Go.Am
open Go
section
variable {c : Cfg} {den : Nat → List V → Option V} {α : Type}

theorem effK_ok {st : St} {d : Option Nat} {op : Op} {k : St → Option α} {r : α} (h : effK c st d op k = some r) : ∃ s, effOp c st d op = some s ∧ k s = some r := by
  cases op with
  | store t a x =>
    simp only [effK] at h
    split at h
    · rename_i i hi
      split at h
      · rename_i hc
        split at h
        · rename_i b o ha
          split at h
          · rename_i rr hr
            split at h
            · rename_i cs hcs
              refine ⟨_, ?_, h⟩
              simp only [effOp, hi]
              rw [if_pos hc]
              simp only [ha, hr, hcs]
            · cases h
          · cases h
        · rename_i b s q xs j o ha
          split at h
          · rename_i hcc
            split at h
            · rename_i new hn
              unfold storeO at h
              split at h
              · rename_i ys hys
                refine ⟨_, ?_, h⟩
                simp only [effOp, hi]
                rw [if_pos hc]
                simp only [ha]
                rw [if_pos hcc]
                simp only [hn, hys]
              · cases h
            · cases h
          · cases h
        · cases h
      · cases h
    · cases h
  | call cl =>
    obtain ⟨callee, args, ts⟩ := cl
    cases callee with
    | builtin bi =>
      cases bi with
      | append =>
        simp only [effK] at h
        split at h
        · rename_i x y t t' d' hx ht'
          split at h
          · rename_i e sz by_ z0 cm nz_ qz_ hti
            split at h
            · rename_i i b s q xs hi hxv
              split at h
              · rename_i q' ys hsrc
                split at h
                · rename_i hc
                  obtain ⟨h1, h2⟩ := chk_some h
                  refine ⟨_, ?_, h2⟩
                  simp only [effOp, hx, ht', hti, hi, hxv, hsrc]
                  rw [if_pos ⟨hc.1, hc.2.1, hc.2.2.1, hc.2.2.2, h1.1, h1.2⟩]
                · cases h
              · cases h
            · cases h
          · cases h
        · cases h
      | _ => simp only [effK] at h; cases h
    | _ => simp only [effK] at h; cases h
  | _ => simp only [effK] at h; cases h

theorem stepK_ok {tab : Nat → List V → (V → Option α) → Option α} (ht : TabOk den tab) {st : St} {o : Oper} {k : St → Option α} {r : α} (h : stepK c tab st o k = some r) : ∃ s, step c den st o = some s ∧ k s = some r := by
  unfold stepK at h
  unfold step
  split at h
  · rename_i he
    rw [if_pos he]
    exact effK_ok h
  · rename_i he
    rw [if_neg he]
    split at h
    · cases h
    · rename_i d hd
      obtain ⟨out, h1, h2⟩ := valK_ok ht h
      simp only [hd, h1]
      cases out with
      | val v => exact ⟨_, rfl, h2⟩
      | box rr =>
        simp only [outK] at h2
        split at h2
        · rename_i hc; exact ⟨_, by simp only []; rw [if_pos hc], h2⟩
        · cases h2
      | fresh v esc n =>
        simp only [outK] at h2
        split at h2
        · rename_i hc; exact ⟨_, by simp only []; rw [if_pos hc], h2⟩
        · cases h2

theorem know_eq {st : St} {d : Nat} {b : Bool} (h : st.t.getD d .undef = .bool b) : st.know d b = st := by
  unfold St.know
  rw [List.getD_eq_getElem?_getD] at h
  cases hd : st.t[d]? with
  | none => rw [hd] at h; cases h
  | some v =>
    rw [hd] at h
    simp only [Option.getD_some] at h
    subst h
    have hlt := (List.getElem?_eq_some_iff.1 hd).1
    have : st.t.set d (.bool b) = st.t := by
      apply List.ext_getElem?
      intro i
      rw [List.getElem?_set]
      split
      · rename_i e
        subst e
        simp [hd]
      · rfl
    rw [this]
theorem br_some {b : Bool} {x y : Option α} {r : α} (h : br b x y = some r) : (b = true ∧ x = some r) ∨ (b = false ∧ y = some r) := by
  cases b with
  | true => exact .inl ⟨rfl, h⟩
  | false => exact .inr ⟨rfl, h⟩

theorem runOps_skip {ops : Array Oper} {o : Oper} {os : List Oper} {st : St} (hw : wanted ops st.t o = some false) : runOps c den ops (o :: os) st = runOps c den ops os (st.skip o) := by
  simp only [runOps, hw, St.skip]
  cases o.dst <;> rfl
theorem runOps_do {ops : Array Oper} {o : Oper} {os : List Oper} {st s : St} (hw : wanted ops st.t o = some true) (hs : step c den st o = some s) : runOps c den ops (o :: os) st = runOps c den ops os s := by
  simp only [runOps, hw, hs]

theorem runK_ok {tab : Nat → List V → (V → Option α) → Option α} (ht : TabOk den tab) {ops : Array Oper} : ∀ (l : List Oper) (st : St) (k : St → Option α) (r : α), runK c tab ops l st k = some r → ∃ s, runOps c den ops l st = some s ∧ k s = some r := by
  intro l
  induction l with
  | nil => intro st k r h; exact ⟨st, rfl, h⟩
  | cons o l ih =>
    intro st k r h
    have doit : ∀ st', wanted ops st'.t o = some true → stepK c tab st' o (fun s => runK c tab ops l s k) = some r → ∃ s, runOps c den ops (o :: l) st' = some s ∧ k s = some r := by
      intro st' hw h
      obtain ⟨s, h1, h2⟩ := stepK_ok ht h
      obtain ⟨s', h3, h4⟩ := ih s k r h2
      exact ⟨s', by rw [runOps_do hw h1]; exact h3, h4⟩
    have pass : ∀ st', wanted ops st'.t o = some false → runK c tab ops l (st'.skip o) k = some r → ∃ s, runOps c den ops (o :: l) st' = some s ∧ k s = some r := by
      intro st' hw h
      obtain ⟨s', h3, h4⟩ := ih _ k r h
      exact ⟨s', by rw [runOps_skip hw]; exact h3, h4⟩
    rw [runK] at h
    split at h
    · rename_i hg
      exact doit st (by unfold wanted; rw [hg]) h
    · rename_i j want hg
      split at h
      · rename_i hd
        exact pass st (by unfold wanted; rw [hg]; simp only [hd]) h
      · rename_i dd hd
        split at h
        · rename_i b hb
          have hk := know_eq hb
          have hw : wanted ops st.t o = some (b == want) := by unfold wanted; rw [hg]; simp only [hd, hb]
          rcases br_some h with ⟨rfl, h⟩ | ⟨rfl, h⟩
          · cases want with
            | true => simp only at h; rw [hk] at h; exact doit st hw h
            | false => simp only at h; rw [hk] at h; exact pass st hw h
          · cases want with
            | true => simp only at h; rw [hk] at h; exact pass st hw h
            | false => simp only at h; rw [hk] at h; exact doit st hw h
        · rename_i hb
          exact pass st (by unfold wanted; rw [hg]; simp only [hd, hb]) h
        · cases h

/-! ### forms and leaves -/
theorem get_mid {α : Type} {pre l post : List α} {a : α} {n : Nat} (hn : n = pre.length) (h : l = [a]) : (pre ++ l ++ post)[n]? = some a := by
  subst hn; subst h
  simp
theorem bd_lv (v : V) : ∀ (pre post : List Leaf), V.bd (pre ++ v.lv ++ post) v.sk pre.length = (v, pre.length + v.lv.length) := by
  have g1 : ∀ {pre post : List Leaf} {a : Leaf}, (pre ++ [a] ++ post)[pre.length]? = some a := fun {pre post a} => by simp
  refine V.rec (motive_1 := fun v => ∀ (pre post : List Leaf), V.bd (pre ++ v.lv ++ post) v.sk pre.length = (v, pre.length + v.lv.length))
    (motive_2 := fun vs => ∀ (pre post : List Leaf), V.bds (pre ++ V.lvs vs ++ post) (V.sks vs) pre.length = (vs, pre.length + (V.lvs vs).length))
    ?_ ?_ ?_ ?_ ?_ ?_ ?_ ?_ ?_ ?_ ?_ ?_ ?_ ?_ ?_ ?_ ?_ v
  · intro pre post; rfl
  · intro b pre post; simp only [V.lv, V.sk, V.bd, lB, g1]; rfl
  · intro k n pre post; simp only [V.lv, V.sk, V.bd, lI, g1]; rfl
  · intro s pre post; simp only [V.lv, V.sk, V.bd, lS, g1]; rfl
  · intro pre post; rfl
  · intro s f xs _ pre post; simp only [V.lv, V.sk, V.bd, lL, g1]; rfl
  · intro b s q xs _ pre post; simp only [V.lv, V.sk, V.bd, lL, g1]; rfl
  · intro b s q xs _ pre post; simp only [V.lv, V.sk, V.bd, lL, g1]; rfl
  · intro d o pre post; rfl
  · intro b s q xs i o _ pre post
    have e1 : (pre ++ [Leaf.l xs, Leaf.i i] ++ post)[pre.length]? = some (.l xs) := by simp
    have e2 : (pre ++ [Leaf.l xs, Leaf.i i] ++ post)[pre.length + 1]? = some (.i i) := by simp
    simp only [V.lv, V.sk, V.bd, lL, lI, e1, e2]
    rfl
  · intro b x o ih pre post; simp only [V.lv, V.sk, V.bd, ih]
  · intro x o ih pre post; simp only [V.lv, V.sk, V.bd, ih]
  · intro cs ih pre post; simp only [V.lv, V.sk, V.bd, ih]
  · intro cs ih pre post; simp only [V.lv, V.sk, V.bd, ih]
  · intro f cs ih pre post; simp only [V.lv, V.sk, V.bd, ih]
  · intro pre post; rfl
  · intro u us hu hus pre post
    have h1 := hu pre (V.lvs us ++ post)
    have h2 := hus (pre ++ u.lv) post
    rw [← List.append_assoc] at h1
    rw [List.length_append] at h2
    simp only [V.lvs, V.sks, V.bds, ← List.append_assoc, h1, h2, List.length_append, Nat.add_assoc]
theorem bds_lv (vs : List V) (pre post : List Leaf) : V.bds (pre ++ V.lvs vs ++ post) (V.sks vs) pre.length = (vs, pre.length + (V.lvs vs).length) := by
  have := bd_lv (.agg vs) pre post
  simp only [V.lv, V.sk, V.bd, Prod.mk.injEq, V.agg.injEq] at this
  exact Prod.ext this.1 this.2
theorem bdo_lv : ∀ (hs : List (Option V)) (pre post : List Leaf), bdo (pre ++ lvo hs ++ post) (sko hs) pre.length = hs := by
  intro hs
  induction hs with
  | nil => intro pre post; rfl
  | cons x hs ih =>
    intro pre post
    cases x with
    | none => simp only [lvo, sko, bdo, ih]
    | some v =>
      have h1 := bd_lv v pre (lvo hs ++ post)
      have h2 := ih (pre ++ v.lv) post
      rw [← List.append_assoc] at h1
      rw [List.length_append] at h2
      simp only [lvo, sko, bdo, ← List.append_assoc, h1, h2]
theorem bdSt_lv {st : St} (hd : st.dead = fun _ => false) : bdSt st.lv st.sk = st := by
  obtain ⟨t, h, dead⟩ := st
  simp only at hd
  subst hd
  have h1 := bds_lv t [] (lvo h)
  have h2 := bdo_lv h (V.lvs t) []
  simp only [List.nil_append, List.length_nil, Nat.zero_add, List.append_nil] at h1 h2
  simp only [bdSt, St.lv, St.sk, h1, h2]

theorem same_eq (v : V) : ∀ w, V.same v w = true → v = w := by
  refine V.rec (motive_1 := fun v => ∀ w, V.same v w = true → v = w) (motive_2 := fun vs => ∀ ws, V.sames vs ws = true → vs = ws)
    ?_ ?_ ?_ ?_ ?_ ?_ ?_ ?_ ?_ ?_ ?_ ?_ ?_ ?_ ?_ ?_ ?_ v
  · intro w h; cases w <;> first | rfl | simp [V.same] at h
  · intro b w h; cases w <;> simp [V.same] at h ⊢; exact h
  · intro k n w h; cases w <;> simp [V.same] at h ⊢; exact h
  · intro s w h
    cases s with
    | nil => cases w with
      | str s => cases s with
        | nil => rfl
        | cons _ _ => simp [V.same] at h
      | _ => simp [V.same] at h
    | cons _ _ => cases w <;> simp [V.same] at h
  · intro w h; cases w <;> first | rfl | simp [V.same] at h
  · intro s f xs _ w h
    cases xs with
    | nil => cases w with
      | sl s' f' ys => cases ys with
        | nil => simp [V.same] at h; rw [h.1, h.2]
        | cons _ _ => simp [V.same] at h
      | _ => simp [V.same] at h
    | cons _ _ => cases w <;> simp [V.same] at h
  · intro b s q xs _ w h
    cases xs with
    | nil => cases w with
      | own b' s' q' ys => cases ys with
        | nil => simp [V.same] at h; rw [h.1.1, h.1.2, h.2]
        | cons _ _ => simp [V.same] at h
      | _ => simp [V.same] at h
    | cons _ _ => cases w <;> simp [V.same] at h
  · intro b s q xs _ w h
    cases xs with
    | nil => cases w with
      | view b' s' q' ys => cases ys with
        | nil => simp [V.same] at h; rw [h.1.1, h.1.2, h.2]
        | cons _ _ => simp [V.same] at h
      | _ => simp [V.same] at h
    | cons _ _ => cases w <;> simp [V.same] at h
  · intro d o w h; cases w <;> simp [V.same] at h ⊢; exact h
  · intro b s q xs i o _ w h
    cases xs with
    | nil => cases w with
      | eptr b' s' q' ys i' o' => cases ys with
        | nil => simp [V.same] at h; rw [h.1.1.1.1, h.1.1.1.2, h.1.1.2, h.1.2, h.2]
        | cons _ _ => simp [V.same] at h
      | _ => simp [V.same] at h
    | cons _ _ => cases w <;> simp [V.same] at h
  · intro b x o ih w h; cases w <;> simp [V.same] at h ⊢; exact ⟨h.1.1, ih _ h.1.2, h.2⟩
  · intro x o ih w h; cases w <;> simp [V.same] at h ⊢; exact ⟨ih _ h.1, h.2⟩
  · intro cs ih w h; cases w <;> simp [V.same] at h ⊢; exact ih _ h
  · intro cs ih w h; cases w <;> simp [V.same] at h ⊢; exact ih _ h
  · intro f cs ih w h; cases w <;> simp [V.same] at h ⊢; exact ⟨h.1, ih _ h.2⟩
  · intro ws h; cases ws <;> first | rfl | simp [V.sames] at h
  · intro u us hu hus ws h
    cases ws with
    | nil => simp [V.sames] at h
    | cons w ws => simp [V.sames] at h; rw [hu _ h.1, hus _ h.2]
theorem sames_eq {vs ws : List V} (h : V.sames vs ws = true) : vs = ws := by
  have := same_eq (.agg vs) (.agg ws) (by simpa [V.same] using h)
  injection this
theorem sameo_eq : ∀ {a b : List (Option V)}, sameo a b = true → a = b := by
  intro a
  induction a with
  | nil => intro b h; cases b with
    | nil => rfl
    | cons _ _ => simp [sameo] at h
  | cons x a ih =>
    intro b h
    cases b with
    | nil => cases x <;> simp [sameo] at h
    | cons y b =>
      cases x <;> cases y <;> simp [sameo] at h
      · rw [ih h]
      · rw [same_eq _ _ h.1, ih h.2]
theorem sameSk_eq {k k' : List V × List (Option V)} (h : sameSk k k' = true) : k = k' := by
  unfold sameSk at h
  rw [Bool.and_eq_true] at h
  exact Prod.ext (sames_eq h.1) (sameo_eq h.2)
theorem exsame_eq {e e' : Ex} (h : e.same e' = true) : e = e' := by
  cases e <;> cases e' <;> simp [Ex.same] at h ⊢; exact h

theorem findEx_some {e : Ex} {k : List V × List (Option V)} : ∀ {l : List (Ex × List V × List (Option V))} {n j : Nat}, findEx e k n l = some j → n ≤ j ∧ l[j - n]? = some (e, k) := by
  intro l
  induction l with
  | nil => intro n j h; cases h
  | cons x l ih =>
    intro n j h
    obtain ⟨e', k'⟩ := x
    rw [findEx] at h
    split at h
    · rename_i hc
      rw [Bool.and_eq_true] at hc
      injection h with h
      subst h
      rw [exsame_eq hc.1, sameSk_eq hc.2]
      exact ⟨Nat.le_refl _, by simp⟩
    · obtain ⟨h1, h2⟩ := ih h
      refine ⟨by omega, ?_⟩
      rw [show j - n = (j - (n + 1)) + 1 by omega, List.getElem?_cons_succ]
      exact h2
theorem outEx_some {lv : List Leaf} {e : Ex} {k : List V × List (Option V)} {K : Ex → St → Option α} {r : α} : ∀ {l : List (Ex × List V × List (Option V))} {n j : Nat}, n ≤ j → l[j - n]? = some (e, k) → outEx lv j K n l = some r → K e (bdSt lv k) = some r := by
  intro l
  induction l with
  | nil => intro n j _ h; simp at h
  | cons x l ih =>
    intro n j hn hj h
    obtain ⟨e', k'⟩ := x
    cases l with
    | nil =>
      have : j - n = 0 := by
        have := (List.getElem?_eq_some_iff.1 hj).1
        simp at this
        omega
      rw [this] at hj
      simp only [List.getElem?_cons_zero, Option.some.injEq, Prod.mk.injEq] at hj
      obtain ⟨rfl, rfl⟩ := hj
      exact h
    | cons y l =>
      simp only [outEx] at h
      split at h
      · rename_i e1
        subst e1
        simp only [Nat.sub_self, List.getElem?_cons_zero, Option.some.injEq, Prod.mk.injEq] at hj
        obtain ⟨rfl, rfl⟩ := hj
        exact h
      · rename_i e1
        refine ih (n := n + 1) (by omega) ?_ h
        rw [show j - n = (j - (n + 1)) + 1 by omega, List.getElem?_cons_succ] at hj
        exact hj

theorem head_dead (st : St) (fs : List Nat × List Nat) : (st.head fs).dead = fun _ => false := rfl

theorem codeK_ok {tab : Tab} (ht : ∀ β, TabOk den (tab β)) {g : Told} {X : Exits} : ∀ (code : Code) (α : Type) (st : St) (k : Ex → St → Option α) (r : α), codeK c tab g X code α st k = some r → ∃ e s, exec c den loopInf g code st = some (e, s) ∧ k e s = some r := by
  intro code
  induction code with
  | skip => intro α st k r h; exact ⟨_, _, rfl, h⟩
  | region i ops draw =>
    intro α st k r h
    cases draw with
    | true =>
      simp only [codeK, force_eq] at h
      split at h
      · rename_i hc
        obtain ⟨s, h1, h2⟩ := runK_ok (ht α) _ _ _ _ h
        exact ⟨.normal, s, by simp only [exec, if_true, hc, h1, Option.map_some], h2⟩
      · cases h
    | false =>
      simp only [codeK, force_eq] at h
      obtain ⟨s, h1, h2⟩ := runK_ok (ht α) _ _ _ _ h
      exact ⟨.normal, s, by simp only [exec, Bool.false_eq_true, if_false, h1, Option.map_some], h2⟩
  | seq a b iha ihb =>
    intro α st k r h
    simp only [codeK] at h
    obtain ⟨e, s, h1, h2⟩ := iha α _ _ _ h
    cases e with
    | normal =>
      obtain ⟨e', s', h3, h4⟩ := ihb α _ _ _ h2
      exact ⟨e', s', by simp only [exec, h1, h3], h4⟩
    | exit i => exact ⟨_, s, by simp only [exec, h1], h2⟩
    | ret => exact ⟨_, s, by simp only [exec, h1], h2⟩
  | cond x a b iha ihb =>
    intro α st k r h
    simp only [codeK] at h
    split at h
    · rename_i d t hx
      have hk : st.know d t = st := know_eq hx
      rcases br_some h with ⟨rfl, h⟩ | ⟨rfl, h⟩
      · rw [hk] at h
        obtain ⟨e, s, h1, h2⟩ := iha α _ _ _ h
        exact ⟨e, s, by simp only [exec, hx, h1], h2⟩
      · rw [hk] at h
        obtain ⟨e, s, h1, h2⟩ := ihb α _ _ _ h
        exact ⟨e, s, by simp only [exec, hx, h1], h2⟩
    · rename_i t hne hx
      rcases br_some h with ⟨rfl, h⟩ | ⟨rfl, h⟩
      · obtain ⟨e, s, h1, h2⟩ := iha α _ _ _ h
        exact ⟨e, s, by simp only [exec, hx, h1], h2⟩
      · obtain ⟨e, s, h1, h2⟩ := ihb α _ _ _ h
        exact ⟨e, s, by simp only [exec, hx, h1], h2⟩
    · cases h
  | block i b ih =>
    intro α st k r h
    simp only [codeK] at h
    obtain ⟨e, s, h1, h2⟩ := ih α _ _ _ h
    cases e with
    | normal => exact ⟨_, s, by simp only [exec, h1], h2⟩
    | ret => exact ⟨_, s, by simp only [exec, h1], h2⟩
    | exit j =>
      simp only at h2
      split at h2
      · rename_i hj; exact ⟨.normal, s, by simp only [exec, h1, if_pos hj], h2⟩
      · rename_i hj; exact ⟨.exit j, s, by simp only [exec, h1, if_neg hj], h2⟩
  | loop b ih =>
    intro α st k r h
    simp only [codeK] at h
    unfold whileK at h
    split at h
    · rename_i z hw
      obtain ⟨n, hn⟩ := whileInf_some hw
      clear hw
      have key : ∀ (n : Nat) (s1 : St) (z : Nat × List Leaf), (s1.head ((g (firstId b)).1, (g (firstId b)).2.1)).sk = (st.head ((g (firstId b)).1, (g (firstId b)).2.1)).sk →
          whileN (fun σ => codeK c tab g X b (List Leaf ⊕ (Nat × List Leaf)) (bdSt σ (st.head ((g (firstId b)).1, (g (firstId b)).2.1)).sk) (fun e s => match e with
            | .normal => if sameSk (s.head ((g (firstId b)).1, (g (firstId b)).2.1)).sk (st.head ((g (firstId b)).1, (g (firstId b)).2.1)).sk then some (.inl (s.head ((g (firstId b)).1, (g (firstId b)).2.1)).lv) else none
            | e => match findEx e (s.head ((g (1000 + firstId b)).1, (g (1000 + firstId b)).2.1)).sk 0 (X (firstId b)) with
              | some j => some (.inr (j, (s.head ((g (1000 + firstId b)).1, (g (1000 + firstId b)).2.1)).lv))
              | none => none)) n (s1.head ((g (firstId b)).1, (g (firstId b)).2.1)).lv = some z →
          ∃ e s2, loopInf (exec c den loopInf g b) (fun s => s.head ((g (firstId b)).1, (g (firstId b)).2.1)) s1 = some (e, s2) ∧
            findEx e (s2.head ((g (1000 + firstId b)).1, (g (1000 + firstId b)).2.1)).sk 0 (X (firstId b)) = some z.1 ∧ z.2 = (s2.head ((g (1000 + firstId b)).1, (g (1000 + firstId b)).2.1)).lv := by
        intro n
        induction n with
        | zero => intro s1 z _ h; cases h
        | succ n ihn =>
          intro s1 z hsk h
          rw [whileN] at h
          rw [loopInf_step]
          split at h
          · rename_i σ' hb
            rw [← hsk, bdSt_lv (head_dead _ _)] at hb
            obtain ⟨e, s, h1, h2⟩ := ih _ _ _ _ hb
            cases e with
            | normal =>
              simp only at h2
              split at h2
              · rename_i hs
                simp only [Option.some.injEq, Sum.inl.injEq] at h2
                subst h2
                have hsk' := (sameSk_eq hs).trans hsk
                obtain ⟨e2, s2, g1, g2, g3⟩ := ihn s z hsk' h
                exact ⟨e2, s2, by rw [h1]; exact g1, g2, g3⟩
              · cases h2
            | exit i => simp only at h2; split at h2 <;> cases h2
            | ret => simp only at h2; split at h2 <;> cases h2
          · rename_i rr hb
            injection h with h
            subst h
            rw [← hsk, bdSt_lv (head_dead _ _)] at hb
            obtain ⟨e, s, h1, h2⟩ := ih _ _ _ _ hb
            cases e with
            | normal => simp only at h2; split at h2 <;> cases h2
            | exit i =>
              simp only at h2
              split at h2
              · rename_i j hj
                simp only [Option.some.injEq, Sum.inr.injEq] at h2
                subst h2
                exact ⟨.exit i, s, by rw [h1], hj, rfl⟩
              · cases h2
            | ret =>
              simp only at h2
              split at h2
              · rename_i j hj
                simp only [Option.some.injEq, Sum.inr.injEq] at h2
                subst h2
                exact ⟨.ret, s, by rw [h1], hj, rfl⟩
              · cases h2
          · cases h
      obtain ⟨e, s2, g1, g2, g3⟩ := key n st z rfl hn
      obtain ⟨_, hj⟩ := findEx_some g2
      have hout := outEx_some (Nat.zero_le _) hj h
      rw [g3, bdSt_lv (head_dead _ _)] at hout
      exact ⟨e, _, by simp only [exec, g1, Option.map_some], hout⟩
    · cases h
  | exit i => intro α st k r h; exact ⟨_, _, rfl, h⟩
  | ret => intro α st k r h; exact ⟨_, _, rfl, h⟩
  | _ => intro α st k r h; cases h

theorem fnK_ok {tab : Tab} (ht : ∀ β, TabOk den (tab β)) {X : Exits} {f : Nat} {fn : Func} {args : List V} {k : V → Option α} {r : α} (h : fnK c tab X f fn α args k = some r) : ∃ v, fnRun c den loopInf f fn args = some v ∧ k v = some r := by
  unfold fnK at h
  split at h
  · cases h
  · rename_i code hcode
    split at h
    · cases h
    · rename_i hdr
      obtain ⟨e, s, h1, h2⟩ := codeK_ok ht _ _ _ _ _ h
      unfold fnRun
      rw [hcode]
      simp only
      rw [if_neg hdr, h1]
      cases e with
      | exit i => cases h2
      | normal =>
        simp only at h2 ⊢
        split at h2
        · rename_i v hv; exact ⟨v, hv, h2⟩
        · cases h2
      | ret =>
        simp only at h2 ⊢
        split at h2
        · rename_i v hv; exact ⟨v, hv, h2⟩
        · cases h2
end

/-- A state's form, told by its slots and boxes that hold something. -/
def assoc (k : Nat) : List (Nat × V) → Option V
  | [] => none
  | (i, a) :: r => if i = k then some a else assoc k r
def xkT (l : List (Nat × V)) : Nat → Nat → List V
  | _, 0 => []
  | i, n + 1 => (assoc i l).getD .undef :: xkT l (i + 1) n
def xkH (l : List (Nat × V)) : Nat → Nat → List (Option V)
  | _, 0 => []
  | i, n + 1 => assoc i l :: xkH l (i + 1) n
def xk (n : Nat) (ts hs : List (Nat × V)) : List V × List (Option V) := (xkT ts 0 n, xkH hs 0 n)
def noX : Exits := fun _ => []

/-- A table out of a list. -/
def tabL : List (Nat × ((β : Type) → List V → (V → Option β) → Option β)) → Tab
  | [], _, _, _, _ => none
  | (f, w) :: r, β, g, args, k => if g = f then w β args k else tabL r β g args k
/-- A function's answers are right. -/
def FnOk (den : Nat → List V → Option V) (f : Nat) (w : (β : Type) → List V → (V → Option β) → Option β) : Prop := ∀ β args k r, w β args k = some r → ∃ v, den f args = some v ∧ k v = some r
theorem tabL_nil {den : Nat → List V → Option V} : ∀ β, TabOk den (tabL [] β) := fun β g args k r h => by cases h
theorem tabL_cons {den : Nat → List V → Option V} {f : Nat} {w : (β : Type) → List V → (V → Option β) → Option β} {l : List (Nat × ((β : Type) → List V → (V → Option β) → Option β))} (hf : FnOk den f w) (hl : ∀ β, TabOk den (tabL l β)) : ∀ β, TabOk den (tabL ((f, w) :: l) β) := by
  intro β g args k r h
  simp only [tabL] at h
  split at h
  · rename_i e
    subst e
    exact hf β args k r h
  · exact hl β g args k r h

/-- Arguments as data. -/
def argsT : List (Bool × List CK) → Type
  | [] => Unit
  | s :: r => cellsT s.2 × argsT r
def argsEnc : (sh : List (Bool × List CK)) → argsT sh → List V
  | [], _ => []
  | s :: r, e => rowEnc s.1 s.2 e.1 :: argsEnc r e.2
def argsDec : (sh : List (Bool × List CK)) → List V → Option (argsT sh)
  | [], [] => some ()
  | s :: r, v :: vs => match rowDec s.1 s.2 v, argsDec r vs with
    | some a, some b => some (a, b)
    | _, _ => none
  | _, _ => none
theorem args_enc : ∀ {sh : List (Bool × List CK)} {vs : List V} {e : argsT sh}, argsDec sh vs = some e → argsEnc sh e = vs := by
  intro sh
  induction sh with
  | nil =>
    intro vs e h
    cases vs with
    | nil => rfl
    | cons v vs => simp [argsDec] at h
  | cons s sh ih =>
    intro vs e h
    cases vs with
    | nil => simp [argsDec] at h
    | cons v vs =>
      simp only [argsDec] at h
      split at h
      · rename_i a b ha hb
        injection h with h
        subst h
        show rowEnc s.1 s.2 a :: argsEnc sh b = _
        rw [row_enc ha, ih hb]
      · cases h
/-- A function of data, as the machine calls it. -/
def wrap (sh : List (Bool × List CK)) (G : (β : Type) → argsT sh → (V → Option β) → Option β) : (β : Type) → List V → (V → Option β) → Option β := fun β args k =>
  match argsDec sh args with
  | some e => G β e k
  | none => none

/-- A function of the program. -/
theorem fn_ok {P : Program} {c : Cfg} {ext : Nat → List V → Option V} {f : Nat} {fn : Func} {l : List (Nat × ((β : Type) → List V → (V → Option β) → Option β))} {X : Exits} {w : (β : Type) → List V → (V → Option β) → Option β} (he : ∀ args, ext f args = none) (hf : P.funcs[f]? = some fn) (hnm : (fn.name == "runtime.NumGoroutine") = false)
    (hl : ∀ β, TabOk (den P c ext) (tabL l β)) (hw : ∀ β args k r, w β args k = some r → fnK c (tabL l) X f fn β args k = some r) : FnOk (den P c ext) f w := by
  intro β args k r h
  obtain ⟨v, h1, h2⟩ := fnK_ok hl (hw β args k r h)
  exact ⟨v, den_run (he args) hf hnm h1, h2⟩
theorem fn_okW {P : Program} {c : Cfg} {ext : Nat → List V → Option V} {f : Nat} {fn : Func} (l : List (Nat × ((β : Type) → List V → (V → Option β) → Option β))) (X : Exits) {sh : List (Bool × List CK)} {G : (β : Type) → argsT sh → (V → Option β) → Option β} (he : ∀ args, ext f args = none) (hf : P.funcs[f]? = some fn) (hnm : (fn.name == "runtime.NumGoroutine") = false)
    (hl : ∀ β, TabOk (den P c ext) (tabL l β)) (hk : ∀ β (e : argsT sh) (k : V → Option β), fnK c (tabL l) X f fn β (argsEnc sh e) k = G β e k) : FnOk (den P c ext) f (wrap sh G) :=
  fn_ok (l := l) (X := X) he hf hnm hl (fun β args k r h => by
    unfold wrap at h
    split at h
    · rename_i e he
      rw [← h, ← args_enc he]
      exact hk β e k
    · cases h)
end Go.Am
