/-
  The law of IsWorld and AuditWorld, in its typed form.
-/
import Derived.Test.YtbpoaadkjjfmgaaGreatDoorAmOk
import Derived.Test.YtbpoaadkjjfmgaaGreatDoorEw
section
set_option linter.unusedVariables false
set_option linter.unusedSimpArgs false
namespace Go.Am
open Go
section
variable {T ρ : Type}
theorem getI_nat {l : List T} {i : Nat} {x : T} (h : l[i]? = some x) : getI l (i : Int) = some x := by
 unfold getI
 rw [if_pos (Int.natCast_nonneg _)]
 exact h
theorem forA_eqL [DecidableEq T] {body : Nat → T → Unit → Option (Unit ⊕ ρ)} {fin : Unit → ρ} {r : ρ} {a b : List T}
  (h : ∀ i x y, a[i]? = some x → b[i]? = some y → body i x () = some (if x = y then .inl () else .inr r)) : ∀ (zs ys : List T) (i : Nat), a.drop i = zs → b.drop i = ys → zs.length = ys.length → forA body fin i zs () = some (if zs = ys then fin () else r) := by
 intro zs
 induction zs with
 | nil =>
  intro ys i _ _ hl
  obtain rfl : ys = [] := List.length_eq_zero_iff.1 hl.symm
  rfl
 | cons z zs ih =>
  intro ys i h1 h2 hl
  cases ys with
  | nil => simp at hl
  | cons y ys =>
   have hz : a[i]? = some z := by
    have := congrArg (fun l => l[0]?) h1
    simpa using this
   have hy : b[i]? = some y := by
    have := congrArg (fun l => l[0]?) h2
    simpa using this
   rw [forA, h i z y hz hy]
   by_cases c : z = y
   ·rw [if_pos c]
    show forA body fin (i + 1) zs () = _
    rw [ih ys (i + 1) (by rw [← List.tail_drop, h1]; rfl) (by rw [← List.tail_drop, h2]; rfl) (by simpa using hl)]
    subst c
    simp
   ·rw [if_neg c]
    show some r = _
    rw [if_neg (by intro e; exact c (List.cons.inj e).1)]
theorem for_eqL [DecidableEq T] {body : Nat → T → Unit → Option (Unit ⊕ ρ)} {fin : Unit → ρ} (r : ρ) {a b : List T} (hl : a.length = b.length) (hm : a.length ≤ maxLen)
  (h : ∀ i x y, a[i]? = some x → b[i]? = some y → body i x () = some (if x = y then .inl () else .inr r)) : forE a body fin () = some (if a = b then fin () else r) := by
 unfold forE
 rw [if_pos hm]
 exact forA_eqL h a b 0 rfl rfl hl
theorem len_ne {a b : List T} : ((a.length : Int) != (b.length : Int)) = !decide (a.length = b.length) := by
 by_cases h : a.length = b.length
 ·simp [h]
 ·have h2 : (a.length : Int) ≠ (b.length : Int) := by omega
  rw [decide_eq_false h]
  simpa using h2
end
end Go.Am
end
set_option linter.unusedVariables false
set_option linter.unusedSimpArgs false
namespace Go.Am
open Go
variable {β : Type}
theorem foldl_join (sep : List UInt8) (r : List (List UInt8)) (x : List UInt8) : r.foldl (fun a y => (a ++ sep) ++ y) x = x ++ Lib.joinTail sep r := by
 induction r generalizing x with
 | nil => simp [Lib.joinTail]
 | cons y r ih =>
  rw [List.foldl_cons, ih]
  simp [Lib.joinTail, List.append_assoc]
def Dec (x : Option Bool) (p : Prop) : Prop := ∃ b, x = some b ∧ (b = true ↔ p)
def DecS (x : Option (Unit ⊕ (Unit ⊕ Unit))) (p : Prop) : Prop := (p → x = some (.inl ())) ∧ (¬ p → x = some (.inr (.inl ())))
section
variable {T : Type} {p q : Prop} {X f : Option Bool} {b : Bool}
theorem Dec.iff (h : Dec X p) (e : p ↔ q) : Dec X q := by obtain ⟨b, h1, h2⟩ := h; exact ⟨b, h1, h2.trans e⟩
theorem Dec.lit (h : b = true ↔ p) : Dec (some b) p := ⟨b, rfl, h⟩
theorem Dec.tt : Dec (some true) True := ⟨true, rfl, by simp⟩
theorem Dec.and (hb : b = true ↔ p) (hX : Dec X q) : Dec (br b X (some false)) (p ∧ q) := by
 obtain ⟨c, h1, h2⟩ := hX
 cases b with
 | true => exact ⟨c, h1, by rw [h2]; exact ⟨fun h => ⟨hb.1 rfl, h⟩, fun h => h.2⟩⟩
 | false => exact ⟨false, rfl, ⟨fun h => (by cases h), fun h => by have := hb.2 h.1; cases this⟩⟩
theorem Dec.nand (hb : b = true ↔ p) (hX : Dec X q) : Dec (br (!b) (some false) X) (p ∧ q) := by
 have := Dec.and hb hX
 cases b <;> exact this
theorem Dec.ne {x y : Int} (hX : Dec X q) : Dec (br (x != y) (some false) X) (x = y ∧ q) := Dec.nand (b := x == y) (by simp) hX
theorem Dec.bindE (hf : Dec f p) : Dec (f.bind fun r => some r) p := by
 obtain ⟨c, rfl, h2⟩ := hf
 exact ⟨c, rfl, h2⟩
theorem DecS.get {l : List T} {i : Nat} {y : T} {X : T → Option (Unit ⊕ (Unit ⊕ Unit))} (h : l[i]? = some y) (hX : DecS (X y) p) : DecS ((getI l (i : Int)).bind X) p := by rw [getI_nat h]; exact hX
theorem DecS.iff {X : Option (Unit ⊕ (Unit ⊕ Unit))} (h : DecS X p) (e : p ↔ q) : DecS X q := ⟨fun h2 => h.1 (e.2 h2), fun h2 => h.2 (fun h3 => h2 (e.1 h3))⟩
theorem DecS.tt : DecS (some (.inl ())) True := ⟨fun _ => rfl, fun h => absurd trivial h⟩
theorem DecS.nand {X : Option (Unit ⊕ (Unit ⊕ Unit))} (hb : b = true ↔ p) (hX : DecS X q) : DecS (br (!b) (some (.inr (.inl ()))) X) (p ∧ q) := by
 cases b with
 | true => exact hX.iff ⟨fun h => ⟨hb.1 rfl, h⟩, fun h => h.2⟩
 | false => exact ⟨fun h => (by have := hb.2 h.1; cases this), fun _ => rfl⟩
theorem DecS.ne {x y : Int} {X : Option (Unit ⊕ (Unit ⊕ Unit))} (hX : DecS X q) : DecS (br (x != y) (some (.inr (.inl ()))) X) (x = y ∧ q) := DecS.nand (b := x == y) (by simp) hX
theorem DecS.call {X : Option (Unit ⊕ (Unit ⊕ Unit))} (hf : Dec f p) (hX : DecS X q) : DecS (f.bind fun r => br (!r) (some (.inr (.inl ()))) X) (p ∧ q) := by
 obtain ⟨c, rfl, h2⟩ := hf
 exact DecS.nand h2 hX
theorem DecS.call1 (hf : Dec f p) : DecS (f.bind fun r => br (!r) (some (.inr (.inl ()))) (some (.inl ()))) p := (DecS.call hf DecS.tt).iff (by simp)
end
section
variable {T : Type} {p q : Prop} {X f : Option Bool} {b : Bool}
theorem Dec.same {x y : Option Bool} (h : Dec x p) (h' : Dec y p) : ∃ r, x = some r ∧ y = some r := by
 obtain ⟨a, h1, h2⟩ := h
 obtain ⟨c, h3, h4⟩ := h'
 exact ⟨a, h1, by rw [h3]; congr 1; rw [Bool.eq_iff_iff, h2, h4]⟩
theorem Dec.nandC (hb : b = true ↔ p) (hX : p → Dec X q) : Dec (br (!b) (some false) X) (p ∧ q) := by
 cases b with
 | true => exact (hX (hb.1 rfl)).iff ⟨fun h => ⟨hb.1 rfl, h⟩, fun h => h.2⟩
 | false => exact ⟨false, rfl, ⟨fun h => (by cases h), fun h => by have := hb.2 h.1; cases this⟩⟩
theorem Dec.andC (hb : b = true ↔ p) (hX : p → Dec X q) : Dec (br b X (some false)) (p ∧ q) := by
 have := Dec.nandC hb hX
 cases b <;> exact this
theorem Dec.bindC (hf : Dec f p) (hX : p → Dec X q) : Dec (f.bind fun r => br (!r) (some false) X) (p ∧ q) := by
 obtain ⟨c, rfl, h2⟩ := hf
 exact Dec.nandC h2 hX
theorem Dec.bindP (hf : Dec f p) (hX : p → Dec X q) : Dec (f.bind fun r => br r X (some false)) (p ∧ q) := by
 obtain ⟨c, rfl, h2⟩ := hf
 exact Dec.andC h2 hX
theorem Dec.getC {l : List T} {n : Int} {X : T → Option Bool} {x : T} (h0 : 0 ≤ n) (h : l[n.toNat]? = some x) (hX : Dec (X x) p) : Dec ((getI l n).bind X) p := by
 have : getI l n = some x := by
  unfold getI
  rw [if_pos h0, h]
 rw [this]; exact hX
theorem Dec.all {l : List T} {P : Nat → T → Prop} {body : Nat → T → Unit → Option (Unit ⊕ (Unit ⊕ Unit))} (hm : l.length ≤ maxLen) (h : ∀ i x, l[i]? = some x → DecS (body i x ()) (P i x)) (hX : Dec X q) :
  Dec ((forE l body (fun _ => (.inr () : Unit ⊕ Unit)) ()).bind (Sum.elim (fun _ => some false) (fun _ => X))) ((∀ i x, l[i]? = some x → P i x) ∧ q) := by
 have key : ∀ (zs : List T) (i : Nat), l.drop i = zs → i ≤ l.length → ∃ r : Unit ⊕ Unit, forA body (fun _ => (.inr () : Unit ⊕ Unit)) i zs () = some r ∧ ((r = .inr ()) ↔ ∀ j x, i ≤ j → l[j]? = some x → P j x) := by
  intro zs
  induction zs with
  | nil =>
   intro i hd hi
   have := List.drop_eq_nil_iff.1 hd
   exact ⟨.inr (), rfl, by simp; intro j x hj hx; have := (gs_ hx).1; omega⟩
  | cons z zs ih =>
   intro i hd hi
   have hz : l[i]? = some z := by
    have := congrArg (fun l => l[0]?) hd
    simpa using this
   have hlt := (gs_ hz).1
   have hd' : l.drop (i + 1) = zs := by rw [← List.tail_drop, hd]; rfl
   obtain ⟨h1, h2⟩ := h i z hz
   by_cases c : P i z
   ·obtain ⟨r, h3, h4⟩ := ih (i + 1) hd' (by omega)
    refine ⟨r, by rw [forA, h1 c]; exact h3, h4.trans ⟨fun hr j x hj hx => ?_, fun hr j x hj hx => hr j x (by omega) hx⟩⟩
    by_cases e : j = i
    ·subst e; rw [hz] at hx; injection hx with hx; subst hx; exact c
    ·exact hr j x (by omega) hx
   ·exact ⟨.inl (), by rw [forA, h2 c], by simp; exact ⟨i, Nat.le_refl _, z, hz, c⟩⟩
 obtain ⟨r, h1, h2⟩ := key l 0 rfl (Nat.zero_le _)
 unfold forE
 rw [if_pos hm, h1]
 cases r with
 | inl u => exact ⟨false, rfl, ⟨fun h => (by cases h), fun h => by have := h2.2 (fun j x _ hx => h.1 j x hx); cases this⟩⟩
 | inr u => exact hX.iff ⟨fun h => ⟨fun i x hx => h2.1 rfl i x (Nat.zero_le _) hx, h⟩, fun h => h.2⟩
theorem Dec.all1 {l : List T} {P : Nat → T → Prop} {body : Nat → T → Unit → Option (Unit ⊕ (Unit ⊕ Unit))} (hm : l.length ≤ maxLen) (h : ∀ i x, l[i]? = some x → DecS (body i x ()) (P i x)) :
  Dec ((forE l body (fun _ => (.inr () : Unit ⊕ Unit)) ()).bind (Sum.elim (fun _ => some false) (fun _ => some true))) (∀ i x, l[i]? = some x → P i x) :=
 (Dec.all hm h Dec.tt).iff (by simp)
theorem Dec.any {l : List T} {P : T → Prop} {body : Nat → T → Unit → Option (Unit ⊕ (Unit ⊕ Unit))} (hm : l.length ≤ maxLen) (h : ∀ i x, l[i]? = some x → DecS (body i x ()) (¬ P x)) :
  Dec ((forE l body (fun _ => (.inr () : Unit ⊕ Unit)) ()).bind (Sum.elim (fun _ => some true) (fun _ => some false))) (∃ x ∈ l, P x) := by
 have := Dec.all1 hm h
 obtain ⟨c, h1, h2⟩ := this
 cases hf : forE l body (fun _ => (.inr () : Unit ⊕ Unit)) () with
 | none => rw [hf] at h1; cases h1
 | some r =>
  rw [hf] at h1
  cases r with
  | inl u =>
   have hc : c = false := by injection h1 with h1; exact h1.symm
   refine ⟨true, rfl, ⟨fun _ => ?_, fun _ => rfl⟩⟩
   subst hc
   apply Classical.byContradiction
   intro hn
   have : ∀ i x, l[i]? = some x → ¬ P x := fun i x hx hp => hn ⟨x, List.mem_of_getElem? hx, hp⟩
   have := h2.2 this
   cases this
  | inr u =>
   have hc : c = true := by injection h1 with h1; exact h1.symm
   refine ⟨false, rfl, ⟨fun h => (by cases h), fun ⟨x, hx, hp⟩ => ?_⟩⟩
   obtain ⟨i, hi, rfl⟩ := List.mem_iff_getElem.1 hx
   exact absurd hp (h2.1 hc i _ (List.getElem?_eq_getElem hi))
theorem Dec.whileAll {n i0 : Nat} {P : Nat → Prop} {body : Int → Option (Int ⊕ (Unit ⊕ Unit))} (hi : i0 ≤ n)
  (h : ∀ i : Nat, i0 ≤ i → i < n → (P i → body i = some (.inl ((i + 1 : Nat) : Int))) ∧ (¬ P i → body i = some (.inr (.inl ())))) (hf : body n = some (.inr (.inr ()))) (hX : Dec X q) :
  Dec ((whileE body (i0 : Int)).bind (Sum.elim (fun _ => some false) (fun _ => X))) ((∀ i : Nat, i0 ≤ i → i < n → P i) ∧ q) := by
 have key : ∀ (m i : Nat), n - i = m → i0 ≤ i → i ≤ n → ∃ r : Unit ⊕ Unit, whileE body (i : Int) = some r ∧ ((r = .inr ()) ↔ ∀ j : Nat, i ≤ j → j < n → P j) := by
  intro m
  induction m with
  | zero =>
   intro i hm h0 hn
   have : i = n := by omega
   subst this
   refine ⟨.inr (), ?_, by simp; intro j hj hj2; omega⟩
   unfold whileE
   rw [whileInf_step, hf]
  | succ m ih =>
   intro i hm h0 hn
   obtain ⟨h1, h2⟩ := h i h0 (by omega)
   unfold whileE
   rw [whileInf_step]
   by_cases c : P i
   ·rw [h1 c]
    obtain ⟨r, h3, h4⟩ := ih (i + 1) (by omega) (by omega) (by omega)
    refine ⟨r, h3, h4.trans ⟨fun hr j hj hn => ?_, fun hr j hj hn => hr j (by omega) hn⟩⟩
    by_cases e : j = i
    ·subst e; exact c
    ·exact hr j (by omega) hn
   ·rw [h2 c]
    exact ⟨.inl (), rfl, by simp; exact ⟨i, Nat.le_refl _, by omega, c⟩⟩
 obtain ⟨r, h1, h2⟩ := key (n - i0) i0 rfl (Nat.le_refl _) hi
 rw [h1]
 cases r with
 | inl u => exact ⟨false, rfl, ⟨fun h => (by cases h), fun h => by have := h2.2 h.1; cases this⟩⟩
 | inr u => exact hX.iff ⟨fun h => ⟨h2.1 rfl, h⟩, fun h => h.2⟩
end
theorem d_iIn (n a c : Int) : Dec (iInRange n a c) (a ≤ n ∧ n ≤ c) := Dec.and (by simp) (Dec.lit (by simp))
theorem d_sIn (n a c : Int) : Dec (sl1In n a c) (a ≤ n ∧ n ≤ c) := Dec.and (by simp) (Dec.lit (by simp))
theorem ok_IsName (s : List UInt8) (h : okS s) : Ok (iIsName s) (fun b => b = true → s.length ≤ 8) := by
 unfold iIsName
 refine Ok.bind (Q1 := fun _ => True) (Ok.for h (fun _ _ => True) trivial (fun i x s _ _ => ?_) (fun _ _ => trivial)) (fun r _ _ => ?_)
 ·exact Ok.br (fun _ => Ok.ret trivial) (fun _ => Ok.br (fun _ => Ok.ret trivial) (fun _ => Ok.ret trivial))
 ·cases r with
  | inl r => exact Ok.ret (fun h => by cases h)
  | inr r => exact Ok.bind (Q1 := fun b => b = true → s.length ≤ 8) (Ok.br (fun _ => Ok.ret (fun h => by have := of_decide_eq_true h; omega)) (fun _ => Ok.ret (fun h => by cases h))) (fun r _ h => Ok.ret h)
def NameP (s : List UInt8) : Prop := iIsName s = some true
theorem d_iName (s : List UInt8) (h : okS s) : Dec (iIsName s) (NameP s) := by
 obtain ⟨b, hb, _⟩ := ok_IsName s h
 exact ⟨b, hb, by unfold NameP; rw [hb]; simp⟩
theorem d_sName (s : List UInt8) (h : okS s) : Dec (sIsName s) (NameP s) := d_iName s h
theorem name_nil : ¬ NameP [] := by
 intro h
 unfold NameP iIsName forE at h
 rw [if_pos (show ([] : List UInt8).length ≤ maxLen from Nat.zero_le _)] at h
 cases h
def VoidP (s : List UInt8) : Prop := s = [105, 109, 103] ∨ s = [108, 105, 110, 107]
theorem d_iVoid (s : List UInt8) : Dec (iIsVoid s) (VoidP s) := by
 unfold iIsVoid VoidP
 by_cases h : s = [105, 109, 103]
 ·exact ⟨true, by rw [h]; rfl, by simp [h]⟩
 ·refine ⟨s == [108, 105, 110, 107], ?_, by simp [h]⟩
  rw [show (s == [105, 109, 103]) = false by simpa using h]
  rfl
theorem d_sVoid (s : List UInt8) : Dec (sIsVoid s) (VoidP s) := d_iVoid s
def OpenP (b : TBuilder) (n : Int) : Prop := 0 ≤ n ∧ ∃ x, b.xNodes[n.toNat]? = some x ∧ x.xName ≠ [] ∧ ¬ VoidP x.xName
theorem d_iOpen (b : TBuilder) (n : Int) : Dec (iisOpenable b n) (OpenP b n) := by
 unfold iisOpenable OpenP
 refine Dec.andC (p := 0 ≤ n) (by simp) (fun h0 => ?_)
 by_cases h1 : n < (b.xNodes.length : Int)
 ·have hlt : n.toNat < b.xNodes.length := by omega
  rw [show decide (n < (b.xNodes.length : Int)) = true by simpa using h1]
  have hx := List.getElem?_eq_getElem hlt
  refine Dec.getC h0 hx ?_
  refine Dec.iff (Dec.andC (p := b.xNodes[n.toNat].xName ≠ []) (by simp) (fun hn => Dec.getC h0 hx ?_)) ⟨fun h => ⟨_, hx, h.1, h.2⟩, fun ⟨x, e, h2, h3⟩ => ?_⟩
  ·obtain ⟨v, h5, h6⟩ := d_iVoid b.xNodes[n.toNat].xName
   rw [h5]
   exact ⟨!v, rfl, by rw [← h6]; simp⟩
  ·rw [hx] at e
   injection e with e
   subst e
   exact ⟨h2, h3⟩
 ·refine ⟨false, ?_, ⟨fun h => (by cases h), fun ⟨x, e, _⟩ => ?_⟩⟩
  ·rw [show decide (n < (b.xNodes.length : Int)) = false by simpa using h1]
   rfl
  ·have := (gs_ e).1
   omega
def NodeP (b : TBuilder) (i : Nat) (x : TNode) : Prop := x.xParent < i ∧ OpenP b x.xParent ∧ ((NameP x.xName ∧ x.xText = []) ∨ (x.xName = [] ∧ x.xText ≠ [] ∧ x.xAttrs.length = 0))
theorem d_sNode (b : TBuilder) (h : b.ok) (i : Nat) (x : TNode) (h1 : 1 ≤ i) (hx : b.xNodes[i]? = some x) (hl : b.xNodes.length ≤ 40) : Dec (sl6Node b i) (NodeP b i x) := by
 have hlt := (gs_ hx).1
 have hok : TNode.ok x := h.1.2 x (List.mem_of_getElem? hx)
 unfold sl6Node NodeP
 refine Dec.getC (by omega) (by simpa using hx) ?_
 have hw : IntKind.wrap .i64 ((i : Int) - 1) = (i : Int) - 1 := by simp [IntKind.wrap, IntKind.bits, IntKind.signed]; omega
 rw [hw]
 refine Dec.iff (Dec.bindC (d_sIn _ _ _) (fun hp => ?_)) ⟨fun ⟨hp, hr⟩ => ⟨by omega, hr⟩, fun ⟨hp, ho, hr⟩ => ⟨⟨ho.1, by omega⟩, ho, hr⟩⟩
 have hlp : x.xParent.toNat < b.xNodes.length := by omega
 have hpx := List.getElem?_eq_getElem hlp
 have hopen : OpenP b x.xParent ↔ (b.xNodes[x.xParent.toNat].xName ≠ [] ∧ ¬ VoidP b.xNodes[x.xParent.toNat].xName) := ⟨fun ⟨_, y, e, h2, h3⟩ => by rw [hpx] at e; injection e with e; subst e; exact ⟨h2, h3⟩, fun h => ⟨hp.1, _, hpx, h.1, h.2⟩⟩
 rw [hopen]
 refine Dec.getC hp.1 hpx ?_
 obtain ⟨c7, e7, i7⟩ := d_sName x.xName hok.1
 obtain ⟨v, ev, iv⟩ := d_sVoid b.xNodes[x.xParent.toNat].xName
 have gg : ∀ X : TNode → Option Bool, (getI b.xNodes x.xParent).bind X = X b.xNodes[x.xParent.toNat] := fun X => by
  have : getI b.xNodes x.xParent = some b.xNodes[x.xParent.toNat] := by
   unfold getI
   rw [if_pos hp.1, hpx]
  rw [this]; rfl
 simp only [gg]
 have B : ∀ l : List UInt8, ∃ b, (l == []) = b ∧ (b = true ↔ l = []) := fun l => ⟨_, rfl, by simp⟩
 have hn7 : x.xName = [] → c7 = false := fun e => by
  cases hc : c7 with
  | false => rfl
  | true => exact absurd (by rw [← e]; exact i7.1 hc) name_nil
 obtain ⟨bn, en, jn⟩ := B b.xNodes[x.xParent.toNat].xName
 obtain ⟨bm, em, jm⟩ := B x.xName
 obtain ⟨bt, et, jt⟩ := B x.xText
 obtain ⟨ba, ea, ja⟩ : ∃ c, ((x.xAttrs.length : Int) == 0) = c ∧ (c = true ↔ x.xAttrs.length = 0) := ⟨_, rfl, by simp⟩
 rw [← jm] at hn7
 rw [ev, e7, en, em, et, ea, ← iv, ← i7, ← ja, Ne, Ne, ← jn, ← jm, ← jt]
 clear iv i7 ja jn jm jt ev e7 en em et ea gg hopen B
 cases bn <;> cases bm <;> cases bt <;> cases v <;> cases c7 <;> cases ba <;> first | exact Bool.noConfusion (hn7 rfl) | exact ⟨_, rfl, by simp⟩
def OpP (b : TBuilder) (i : Nat) (n : Int) : Prop := OpenP b n ∧ ∃ x, b.xNodes[n.toNat]? = some x ∧ b.xOpen[i - 1]? = some x.xParent
def BuilderP (b : TBuilder) : Prop := (1 ≤ (b.xNodes.length : Int) ∧ (b.xNodes.length : Int) ≤ 40) ∧ (1 ≤ (b.xOpen.length : Int) ∧ (b.xOpen.length : Int) ≤ 8) ∧ b.xOpen[0]? = some 0 ∧
 (∃ r, b.xNodes[0]? = some r ∧ r.xName = [112, 97, 103, 101] ∧ r.xParent = -1 ∧ r.xText = [] ∧ r.xAttrs.length = 0) ∧
 (∀ i x, b.xNodes[i]? = some x → i ≠ 0 → NodeP b i x) ∧ (∀ i n, b.xOpen[i]? = some n → i ≠ 0 → OpP b i n)
theorem op_pos {b : TBuilder} (h0 : b.xOpen[0]? = some 0) (hr : ∃ r, b.xNodes[0]? = some r ∧ r.xParent = -1) (h : ∀ i n, b.xOpen[i]? = some n → i ≠ 0 → OpP b i n) (i : Nat) (n : Int) (hn : b.xOpen[i]? = some n) (hi : i ≠ 0) : 1 ≤ n := by
 obtain ⟨⟨hge, _⟩, x, hx, hp⟩ := h i n hn hi
 by_cases e : n = 0
 ·subst e
  obtain ⟨r, hr, hr1⟩ := hr
  rw [show (0 : Int).toNat = 0 from rfl, hr] at hx
  injection hx with hx
  subst hx
  rw [hr1] at hp
  by_cases e1 : i - 1 = 0
  ·rw [e1, h0] at hp; cases hp
  ·have := (h (i - 1) (-1) hp e1).1.1
   omega
 ·omega
theorem d_sBuilder (b : TBuilder) (h : b.ok) : Dec (sIsBuilder b) (BuilderP b) := by
 unfold sIsBuilder BuilderP
 refine Dec.bindC (d_sIn _ _ _) (fun h1 => Dec.bindC (d_sIn _ _ _) (fun h2 => ?_))
 have ho : 0 < b.xOpen.length := by omega
 have hn : 0 < b.xNodes.length := by omega
 have ho0 := List.getElem?_eq_getElem ho
 have hn0 := List.getElem?_eq_getElem hn
 refine Dec.getC (Int.le_refl 0) ho0 ?_
 refine Dec.iff (Dec.ne (q := b.xNodes[0].xName = [112, 97, 103, 101] ∧ b.xNodes[0].xParent = -1 ∧ b.xNodes[0].xText = [] ∧ (b.xNodes[0].xAttrs.length : Int) = 0 ∧
  (∀ i : Nat, 1 ≤ i → i < b.xNodes.length → ∀ x, b.xNodes[i]? = some x → NodeP b i x) ∧ (∀ i : Nat, 1 ≤ i → i < b.xOpen.length → ∀ n, b.xOpen[i]? = some n → 1 ≤ n ∧ OpP b i n)) ?_)
  ⟨fun ⟨e, a1, a2, a3, a4, a5, a6⟩ => ⟨by rw [ho0, e], ⟨_, hn0, a1, a2, a3, by omega⟩, fun i x hx hi => a5 i (by omega) ((gs_ hx).1) x hx, fun i n hx hi => (a6 i (by omega) ((gs_ hx).1) n hx).2⟩,
   fun ⟨e, ⟨r, hr, a1, a2, a3, a4⟩, a5, a6⟩ => by
   have hpos := op_pos e ⟨r, hr, a2⟩ a6
   rw [ho0] at e
   injection e with e
   rw [hn0] at hr
   injection hr with hr
   subst hr
   exact ⟨e, a1, a2, a3, by omega, fun i hi hl x hx => a5 i x hx (by omega), fun i hi hl n hx => ⟨hpos i n hx (by omega), a6 i n hx (by omega)⟩⟩⟩
 refine Dec.getC (Int.le_refl 0) hn0 ?_
 refine Dec.nand (by simp) (Dec.ne (Dec.nand (by simp) (Dec.ne ?_)))
 refine Dec.iff (Dec.whileAll (n := b.xNodes.length) (i0 := 1) (P := fun i => ∀ x, b.xNodes[i]? = some x → NodeP b i x) (by omega) (fun i hi hl => ?_) ?_ (Dec.whileAll (n := b.xOpen.length) (i0 := 1) (P := fun i => ∀ n, b.xOpen[i]? = some n → 1 ≤ n ∧ OpP b i n) (by omega) (fun i hi hl => ?_) ?_ Dec.tt)) (by simp)
 ·have hx := List.getElem?_eq_getElem hl
  obtain ⟨c, e1, e2⟩ := d_sNode b h i _ hi hx (by omega)
  have hw : IntKind.wrap .i64 ((i : Int) + 1) = ((i + 1 : Nat) : Int) := by simp [IntKind.wrap, IntKind.bits, IntKind.signed]; omega
  have hp : (∀ x, b.xNodes[i]? = some x → NodeP b i x) ↔ c = true := by
   rw [e2, hx]
   exact ⟨fun h => h _ rfl, fun h x e => by injection e with e; subst e; exact h⟩
  rw [hp, show decide ((i : Int) < (b.xNodes.length : Int)) = true by simpa using hl, e1, hw]
  cases c <;> exact ⟨fun h => (by first | rfl | cases h), fun h => (by first | rfl | exact absurd rfl h)⟩
 ·rw [show decide ((b.xNodes.length : Int) < (b.xNodes.length : Int)) = false by simp]
  rfl
 ·have hx := List.getElem?_eq_getElem hl
  have hw : IntKind.wrap .i64 ((i : Int) + 1) = ((i + 1 : Nat) : Int) := by simp [IntKind.wrap, IntKind.bits, IntKind.signed]; omega
  have hw1 : IntKind.wrap .i64 ((i : Int) - 1) = ((i - 1 : Nat) : Int) := by simp [IntKind.wrap, IntKind.bits, IntKind.signed]; omega
  have hw2 : IntKind.wrap .i64 ((b.xNodes.length : Int) - 1) = (b.xNodes.length : Int) - 1 := by simp [IntKind.wrap, IntKind.bits, IntKind.signed]; omega
  have hl1 : i - 1 < b.xOpen.length := by omega
  have hx1 := List.getElem?_eq_getElem hl1
  have g1 : getI b.xOpen (i : Int) = some b.xOpen[i] := getI_nat hx
  have g2 : getI b.xOpen ((i - 1 : Nat) : Int) = some b.xOpen[i - 1] := getI_nat hx1
  have hp : (∀ n, b.xOpen[i]? = some n → 1 ≤ n ∧ OpP b i n) ↔ (1 ≤ b.xOpen[i] ∧ OpP b i b.xOpen[i]) := by
   rw [hx]
   exact ⟨fun h => h _ rfl, fun h x e => by injection e with e; subst e; exact h⟩
  rw [hp, show decide ((i : Int) < (b.xOpen.length : Int)) = true by simpa using hl, hw, hw1, hw2, g1]
  unfold OpP
  rw [hx1]
  show (_ → (((sl1In b.xOpen[i] 1 ((b.xNodes.length : Int) - 1)).bind _ : Option (Int ⊕ (Unit ⊕ Unit))) = _)) ∧ (_ → ((sl1In b.xOpen[i] 1 ((b.xNodes.length : Int) - 1)).bind _ : Option (Int ⊕ (Unit ⊕ Unit))) = _)
  generalize b.xOpen[i] = n
  generalize b.xOpen[i - 1] = m at g2 ⊢
  obtain ⟨ci, ei, ii⟩ := d_sIn n 1 ((b.xNodes.length : Int) - 1)
  rw [ei]
  cases ci with
  | false =>
   refine ⟨fun ⟨h1, ⟨_, y, hy, _⟩, _⟩ => ?_, fun _ => rfl⟩
   have := (gs_ hy).1
   have := ii.2 ⟨h1, by omega⟩
   cases this
  | true =>
   obtain ⟨i1, i2⟩ := ii.1 rfl
   have hlt : n.toNat < b.xNodes.length := by omega
   have hnx := List.getElem?_eq_getElem hlt
   have g3 : getI b.xNodes n = some b.xNodes[n.toNat] := by
    unfold getI
    rw [if_pos (by omega), hnx]
   have hop : (1 ≤ n ∧ OpenP b n ∧ ∃ x, b.xNodes[n.toNat]? = some x ∧ some m = some x.xParent) ↔ (b.xNodes[n.toNat].xName ≠ [] ∧ ¬ VoidP b.xNodes[n.toNat].xName ∧ b.xNodes[n.toNat].xParent = m) := by
    constructor
    ·rintro ⟨_, ⟨_, y, hy, h3, h4⟩, z, hz, h5⟩
     rw [hnx] at hy hz
     injection hy with hy
     injection hz with hz
     injection h5 with h5
     subst hy
     rw [hz]
     rw [hz] at h3 h4
     exact ⟨h3, h4, h5.symm⟩
    ·rintro ⟨h3, h4, h5⟩
     exact ⟨i1, ⟨by omega, _, hnx, h3, h4⟩, _, hnx, by rw [h5]⟩
   rw [hop]
   simp only [br, Bool.not_true, if_false, Bool.false_eq_true, g3, g2, Option.bind_some]
   obtain ⟨v, ev, iv⟩ := d_sVoid b.xNodes[n.toNat].xName
   obtain ⟨bn, en, jn⟩ : ∃ c, (b.xNodes[n.toNat].xName == []) = c ∧ (c = true ↔ b.xNodes[n.toNat].xName = []) := ⟨_, rfl, by simp⟩
   obtain ⟨bp, ep, jp⟩ : ∃ c, (b.xNodes[n.toNat].xParent != m) = c ∧ (c = false ↔ b.xNodes[n.toNat].xParent = m) := ⟨_, rfl, by simp⟩
   rw [ev, en, ep, ← iv, Ne, ← jn, ← jp]
   clear iv jn jp ev en ep
   cases bn <;> cases bp <;> cases v <;> simp
 ·rw [show decide ((b.xOpen.length : Int) < (b.xOpen.length : Int)) = false by simp]
  rfl
theorem d_iBuilder (b : TBuilder) (h : b.ok) : Dec (iIsBuilder b) (BuilderP b) := by
 unfold iIsBuilder BuilderP
 refine Dec.bindC (d_iIn _ _ _) (fun h1 => Dec.bindC (d_iIn _ _ _) (fun h2 => ?_))
 have ho : 0 < b.xOpen.length := by omega
 have hn : 0 < b.xNodes.length := by omega
 have ho0 := List.getElem?_eq_getElem ho
 have hn0 := List.getElem?_eq_getElem hn
 refine Dec.getC (Int.le_refl 0) ho0 ?_
 refine Dec.iff (Dec.ne (q := b.xNodes[0].xName = [112, 97, 103, 101] ∧ b.xNodes[0].xParent = -1 ∧ b.xNodes[0].xText = [] ∧ b.xNodes[0].xAttrs.length = 0 ∧
  (∀ i x, b.xNodes[i]? = some x → (i ≠ 0 → NodeP b i x)) ∧ (∀ i n, b.xOpen[i]? = some n → (i ≠ 0 → OpP b i n))) ?_)
  ⟨fun ⟨e, a1, a2, a3, a4, a5, a6⟩ => ⟨by rw [ho0, e], ⟨_, hn0, a1, a2, a3, a4⟩, a5, a6⟩,
   fun ⟨e, ⟨r, hr, a1, a2, a3, a4⟩, a5, a6⟩ => by
   rw [ho0] at e
   injection e with e
   rw [hn0] at hr
   injection hr with hr
   subst hr
   exact ⟨e, a1, a2, a3, a4, a5, a6⟩⟩
 refine Dec.getC (Int.le_refl 0) hn0 ?_
 have hA : (decide ((b.xNodes[0].xAttrs.length : Int) > 0)) = !(decide (b.xNodes[0].xAttrs.length = 0)) := by
  by_cases c : b.xNodes[0].xAttrs.length = 0
  ·rw [decide_eq_true c, decide_eq_false (by omega : ¬ ((b.xNodes[0].xAttrs.length : Int) > 0))]; rfl
  ·rw [decide_eq_false c, decide_eq_true (by omega : (b.xNodes[0].xAttrs.length : Int) > 0)]; rfl
 refine Dec.nand (by simp) (Dec.ne (Dec.nand (by simp) ?_))
 rw [hA]
 refine Dec.nand (by simp) (Dec.all h.1.1 (fun i x hx => ?_) (Dec.all1 h.2.1.1 (fun i n hx => ?_)))
 ·have hok : TNode.ok x := h.1.2 x (List.mem_of_getElem? hx)
  obtain ⟨c7, e7, i7⟩ := d_iName x.xName hok.1
  obtain ⟨o, eo, jo⟩ := d_iOpen b x.xParent
  have B : ∀ l : List UInt8, ∃ b, (l == []) = b ∧ (b = true ↔ l = []) := fun l => ⟨_, rfl, by simp⟩
  obtain ⟨bm, em, jm⟩ := B x.xName
  obtain ⟨bt, et, jt⟩ := B x.xText
  obtain ⟨ba, ea, ja⟩ : ∃ c, ((x.xAttrs.length : Int) == 0) = c ∧ (c = true ↔ x.xAttrs.length = 0) := ⟨_, rfl, by simp⟩
  obtain ⟨bg, eg, jg⟩ : ∃ c, (decide (x.xParent ≥ (i : Int))) = c ∧ (c = false ↔ x.xParent < i) := ⟨_, rfl, by simp⟩
  obtain ⟨bi, ei, ji⟩ : ∃ c, ((i : Int) == 0) = c ∧ (c = false ↔ ¬ i = 0) := ⟨_, rfl, by simp⟩
  unfold NodeP
  simp only [Ne]
  rw [e7, eo, em, et, ea, eg, ei, ← i7, ← jo, ← ja, ← jg, ← ji, ← jm, ← jt]
  clear i7 jo ja jg ji jm jt e7 eo em et ea eg ei B
  cases bi with
  | true => exact ⟨fun _ => rfl, fun h => absurd (fun e => (by cases e)) h⟩
  | false => cases bm <;> cases bt <;> cases bg <;> cases o <;> cases c7 <;> cases ba <;> exact ⟨fun h => (by first | rfl | simp at h), fun h => (by first | rfl | simp at h)⟩
 ·obtain ⟨o, eo, jo⟩ := d_iOpen b n
  obtain ⟨bi, ei, ji⟩ : ∃ c, (decide ((i : Int) > 0)) = c ∧ (c = true ↔ i ≠ 0) := ⟨_, rfl, by simp; omega⟩
  have hlt := (gs_ hx).1
  rw [ei, ← ji]
  cases bi with
  | false => exact ⟨fun _ => rfl, fun h => absurd (fun e => (by cases e)) h⟩
  | true =>
   have hi := ji.1 rfl
   have hw1 : IntKind.wrap .i64 ((i : Int) - 1) = ((i - 1 : Nat) : Int) := by simp [IntKind.wrap, IntKind.bits, IntKind.signed]; omega
   have hl1 : i - 1 < b.xOpen.length := by omega
   have hx1 := List.getElem?_eq_getElem hl1
   have g2 : getI b.xOpen ((i - 1 : Nat) : Int) = some b.xOpen[i - 1] := getI_nat hx1
   unfold OpP
   rw [eo, hw1, g2, hx1]
   cases o with
   | false => exact ⟨fun h => (by have := jo.2 (h rfl).1; cases this), fun _ => rfl⟩
   | true =>
    have hop := jo.1 rfl
    obtain ⟨hge, y, hy, _⟩ := id hop
    have g3 : getI b.xNodes n = some y := by
     unfold getI
     rw [if_pos hge, hy]
    show (_ → (((getI b.xNodes n).bind _ : Option (Unit ⊕ (Unit ⊕ Unit))) = _)) ∧ (_ → ((getI b.xNodes n).bind _ : Option (Unit ⊕ (Unit ⊕ Unit))) = _)
    rw [g3]
    generalize b.xOpen[i - 1] = m
    have hiff : (true = true → OpenP b n ∧ ∃ x, b.xNodes[n.toNat]? = some x ∧ some m = some x.xParent) ↔ y.xParent = m := by
     constructor
     ·intro h
      obtain ⟨_, z, hz, h5⟩ := h rfl
      rw [hy] at hz
      injection hz with hz
      injection h5 with h5
      rw [hz, h5]
     ·exact fun e _ => ⟨hop, y, hy, by rw [e]⟩
    rw [hiff]
    obtain ⟨bp, ep, jp⟩ : ∃ c, (y.xParent != m) = c ∧ (c = false ↔ y.xParent = m) := ⟨_, rfl, by simp⟩
    simp only [Option.bind_some]
    rw [ep, ← jp]
    clear ep jp
    cases bp
    ·exact ⟨fun _ => rfl, fun h => absurd rfl h⟩
    ·exact ⟨fun h => (by cases h), fun _ => rfl⟩
section
variable {T : Type} {p q : Prop} {X f : Option Bool} {b : Bool}
theorem Dec.own (h : Ok f (fun _ => True)) : Dec f (f = some true) := by
 obtain ⟨r, rfl, _⟩ := h
 exact ⟨r, rfl, by simp⟩
theorem DecS.br {X Y : Option (Unit ⊕ (Unit ⊕ Unit))} (h1 : b = true → DecS X p) (h2 : b = false → DecS Y p) : DecS (Go.Am.br b X Y) p := by
 cases b with
 | true => exact h1 rfl
 | false => exact h2 rfl
theorem DecS.yes (h : p) : DecS (some (.inl ())) p := ⟨fun _ => rfl, fun h2 => absurd h h2⟩
theorem DecS.no (h : ¬ p) : DecS (some (.inr (.inl ()))) p := ⟨fun h2 => absurd h2 h, fun _ => rfl⟩
def Fst (l : List T) (Q : T → Prop) (r : Int) : Prop := (r = -1 ∧ ∀ x ∈ l, ¬ Q x) ∨ ∃ (i : Nat) (x : T), r = i ∧ l[i]? = some x ∧ Q x ∧ ∀ (j : Nat) (y : T), j < i → l[j]? = some y → ¬ Q y
theorem Fst.at {l : List T} {Q : T → Prop} {r : Int} (h : Fst l Q r) {i : Nat} {x : T} (hx : l[i]? = some x) (hq : Q x) : r = (i : Int) ↔ ∀ (j : Nat) (y : T), j < i → l[j]? = some y → ¬ Q y := by
 rcases h with ⟨_, h⟩ | ⟨k, y, rfl, hy, hqy, h⟩
 ·exact absurd hq (h x (List.mem_of_getElem? hx))
 ·constructor
  ·intro e
   have : k = i := by omega
   subst this
   exact h
  ·intro h2
   by_cases c1 : k < i
   ·exact absurd hqy (h2 k y c1 hy)
   ·by_cases c2 : i < k
    ·exact absurd hq (h i x c2 hx)
    ·have : k = i := by omega
     rw [this]
theorem ok_first {l : List T} {Q : T → Prop} {body : Nat → T → Unit → Option (Unit ⊕ (Int ⊕ Unit))} (hm : l.length ≤ maxLen) (h : ∀ (i : Nat) (x : T), l[i]? = some x → (Q x → body i x () = some (.inr (.inl (i : Int)))) ∧ (¬ Q x → body i x () = some (.inl ()))) :
  Ok ((forE l body (fun _ => (.inr () : Int ⊕ Unit)) ()).bind (Sum.elim (fun r => some r) (fun _ => some (-1)))) (Fst l Q) := by
 have key : ∀ (zs : List T) (i : Nat), l.drop i = zs → i ≤ l.length → (∀ (j : Nat) (y : T), j < i → l[j]? = some y → ¬ Q y) → ∃ r, (forA body (fun _ => (.inr () : Int ⊕ Unit)) i zs ()).bind (Sum.elim (fun r => some r) (fun _ => some (-1))) = some r ∧ Fst l Q r := by
  intro zs
  induction zs with
  | nil =>
   intro i hd hi hb
   have := List.drop_eq_nil_iff.1 hd
   refine ⟨-1, rfl, .inl ⟨rfl, fun x hx => ?_⟩⟩
   obtain ⟨j, hj, e⟩ := List.mem_iff_getElem.1 hx
   exact hb j x (by omega) (by rw [← e]; exact List.getElem?_eq_getElem hj)
  | cons z zs ih =>
   intro i hd hi hb
   have hz : l[i]? = some z := by
    have := congrArg (fun l => l[0]?) hd
    simpa using this
   have hlt := (gs_ hz).1
   by_cases c : Q z
   ·refine ⟨(i : Int), ?_, .inr ⟨i, z, rfl, hz, c, hb⟩⟩
    rw [forA, (h i z hz).1 c]
    rfl
   ·obtain ⟨r, h1, h2⟩ := ih (i + 1) (by rw [← List.tail_drop, hd]; rfl) (by omega) (fun j y hj hy => by
     by_cases e : j = i
     ·subst e
      rw [hz] at hy
      injection hy with hy
      subst hy
      exact c
     ·exact hb j y (by omega) hy)
    refine ⟨r, ?_, h2⟩
    rw [forA, (h i z hz).2 c]
    exact h1
 unfold forE
 rw [if_pos hm]
 exact key l 0 rfl (Nat.zero_le _) (fun j y hj => by omega)
theorem DecS.first {l : List T} {Q : T → Prop} {g : Option Int} {i : Nat} {x : T} {X : Option (Unit ⊕ (Unit ⊕ Unit))} (h : Ok g (Fst l Q)) (hx : l[i]? = some x) (hq : Q x) (hX : DecS X q) :
  DecS (g.bind fun r => Go.Am.br (r != (i : Int)) (some (.inr (.inl ()))) X) ((∀ (j : Nat) (y : T), j < i → l[j]? = some y → ¬ Q y) ∧ q) := by
 obtain ⟨r, rfl, hr⟩ := h
 exact (DecS.ne hX).iff (by rw [hr.at hx hq])
theorem DecS.first1 {l : List T} {Q : T → Prop} {g : Option Int} {i : Nat} {x : T} (h : Ok g (Fst l Q)) (hx : l[i]? = some x) (hq : Q x) :
  DecS (g.bind fun r => Go.Am.br (r != (i : Int)) (some (.inr (.inl ()))) (some (.inl ()))) (∀ (j : Nat) (y : T), j < i → l[j]? = some y → ¬ Q y) := (DecS.first h hx hq DecS.tt).iff (by simp)
theorem DecS.below {i : Nat} {Q : Nat → Prop} {body : Nat → Unit → Option (Unit ⊕ (Unit ⊕ Unit))} (hi : (i : Int) ≤ maxLen) (h : ∀ j, j < i → DecS (body j ()) (Q j)) :
  DecS ((forI (i : Int) body (fun _ => (.inr () : Unit ⊕ Unit)) ()).bind (Sum.elim (fun _ => some (.inr (.inl ()))) (fun _ => some (.inl ())))) (∀ j, j < i → Q j) := by
 have key : ∀ (zs : List Unit) (k : Nat), k + zs.length = i → ∃ r : Unit ⊕ Unit, forA (fun j (_ : Unit) s => body j s) (fun _ => (.inr () : Unit ⊕ Unit)) k zs () = some r ∧ ((r = .inr ()) ↔ ∀ j, k ≤ j → j < i → Q j) := by
  intro zs
  induction zs with
  | nil =>
   intro k hk
   simp at hk
   exact ⟨.inr (), rfl, by simp; intro j h1 h2; omega⟩
  | cons z zs ih =>
   intro k hk
   simp at hk
   obtain ⟨h1, h2⟩ := h k (by omega)
   by_cases c : Q k
   ·obtain ⟨r, h3, h4⟩ := ih (k + 1) (by omega)
    refine ⟨r, ?_, h4.trans ⟨fun hr j hj hji => ?_, fun hr j hj hji => hr j (by omega) hji⟩⟩
    ·rw [forA, h1 c]; exact h3
    ·by_cases e : j = k
     ·rw [e]; exact c
     ·exact hr j (by omega) hji
   ·exact ⟨.inl (), by rw [forA, h2 c], by simp; exact ⟨k, Nat.le_refl _, by omega, c⟩⟩
 obtain ⟨r, h1, h2⟩ := key (List.replicate (i : Int).toNat ()) 0 (by simp)
 unfold forI
 rw [if_pos ⟨hi, Int.natCast_nonneg _⟩, h1]
 cases r with
 | inl u => exact ⟨fun hp => (by have := h2.2 (fun j _ hj => hp j hj); cases this), fun _ => rfl⟩
 | inr u => exact ⟨fun _ => rfl, fun hp => absurd (fun j hj => h2.1 rfl j (Nat.zero_le _) hj) hp⟩
end
theorem splitC_cons_ne {c b : UInt8} {l : List UInt8} (h : b ≠ c) : ∃ p ps, splitC c l = p :: ps ∧ splitC c (b :: l) = (b :: p) :: ps := by
 cases hs : splitC c l with
 | nil => exact absurd hs (splitC_ne c l)
 | cons p ps => exact ⟨p, ps, rfl, by rw [splitC, if_neg h, hs]⟩
theorem splitC_free {c : UInt8} : ∀ {x : List UInt8}, ¬ c ∈ x → ∀ y p ps, splitC c y = p :: ps → splitC c (x ++ y) = (x ++ p) :: ps := by
 intro x
 induction x with
 | nil => intro _ y p ps h; exact h
 | cons b x ih =>
  intro hx y p ps h
  have hb : b ≠ c := fun e => hx (by rw [e]; simp)
  have := ih (fun e => hx (List.mem_cons_of_mem _ e)) y p ps h
  rw [List.cons_append, splitC, if_neg hb, this]
  rfl
theorem splitC_sep {c : UInt8} {x : List UInt8} (hx : ¬ c ∈ x) (y : List UInt8) : splitC c (x ++ [c] ++ y) = x :: splitC c y := by
 rw [List.append_assoc, splitC_free hx ([c] ++ y) [] (splitC c y) (by rw [List.singleton_append, splitC, if_pos rfl]), List.append_nil]
theorem splitC_one {c : UInt8} {x : List UInt8} (hx : ¬ c ∈ x) : splitC c x = [x] := by
 have := splitC_free hx [] [] [] rfl
 simpa using this
theorem splitC_no (c : UInt8) : ∀ (s : List UInt8), ∀ p ∈ splitC c s, ¬ c ∈ p := by
 intro s
 induction s with
 | nil => intro p hp; simp [splitC] at hp; subst hp; simp
 | cons b l ih =>
  by_cases h : b = c
  ·subst h
   intro p hp
   rw [splitC, if_pos rfl] at hp
   rcases List.mem_cons.1 hp with rfl | hp
   ·simp
   ·exact ih p hp
  ·obtain ⟨p0, ps, e1, e2⟩ := splitC_cons_ne (l := l) h
   intro p hp
   rw [e2] at hp
   rcases List.mem_cons.1 hp with rfl | hp
   ·intro hc
    rcases List.mem_cons.1 hc with e | hc
    ·exact h e.symm
    ·exact ih p0 (by rw [e1]; simp) hc
   ·exact ih p (by rw [e1]; exact List.mem_cons_of_mem _ hp)
theorem splitC_mem (c : UInt8) : ∀ (s : List UInt8), ∀ p ∈ splitC c s, ∀ b ∈ p, b ∈ s := by
 intro s
 induction s with
 | nil => intro p hp; simp [splitC] at hp; subst hp; simp
 | cons x l ih =>
  by_cases h : x = c
  ·subst h
   intro p hp b hb
   rw [splitC, if_pos rfl] at hp
   rcases List.mem_cons.1 hp with rfl | hp
   ·simp at hb
   ·exact List.mem_cons_of_mem _ (ih p hp b hb)
  ·obtain ⟨p0, ps, e1, e2⟩ := splitC_cons_ne (l := l) h
   intro p hp b hb
   rw [e2] at hp
   rcases List.mem_cons.1 hp with rfl | hp
   ·rcases List.mem_cons.1 hb with rfl | hb
    ·simp
    ·exact List.mem_cons_of_mem _ (ih p0 (by rw [e1]; simp) b hb)
   ·exact List.mem_cons_of_mem _ (ih p (by rw [e1]; exact List.mem_cons_of_mem _ hp) b hb)
def lens : List (List UInt8) → Nat
 | [] => 0
 | x :: l => x.length + 1 + lens l
theorem splitC_lens (c : UInt8) : ∀ (s : List UInt8), lens (splitC c s) = s.length + 1 := by
 intro s
 induction s with
 | nil => rfl
 | cons b l ih =>
  by_cases h : b = c
  ·rw [splitC, if_pos h]
   simp only [lens, ih, List.length_nil, List.length_cons]
   omega
  ·obtain ⟨p0, ps, e1, e2⟩ := splitC_cons_ne (l := l) h
   rw [e1] at ih
   rw [e2]
   simp only [lens, List.length_cons] at ih ⊢
   omega
theorem lens_mem {l : List (List UInt8)} {x : List UInt8} (h : x ∈ l) : x.length + 1 ≤ lens l := by
 induction l with
 | nil => cases h
 | cons y l ih =>
  simp only [lens]
  rcases List.mem_cons.1 h with rfl | h
  ·omega
  ·have := ih h
   omega
theorem lens_len (l : List (List UInt8)) : l.length ≤ lens l := by
 induction l with
 | nil => exact Nat.le_refl _
 | cons y l ih => simp only [lens, List.length_cons]; omega
theorem lens_tail (l : List (List UInt8)) : lens l.tail ≤ lens l := by
 cases l with
 | nil => exact Nat.le_refl _
 | cons y l => simp only [lens, List.tail_cons]; omega
def words (x : List UInt8) (l : List (List UInt8)) : List UInt8 := l.foldl (fun a y => (a ++ [32]) ++ y) x
theorem words_len (l : List (List UInt8)) : ∀ x, (words x l).length = x.length + lens l := by
 induction l with
 | nil => intro x; rfl
 | cons y l ih =>
  intro x
  show (words ((x ++ [32]) ++ y) l).length = _
  rw [ih]
  simp only [lens, List.length_append, List.length_singleton]
  omega
theorem words_free {c : UInt8} (hc : c ≠ 32) (l : List (List UInt8)) : ∀ x, ¬ c ∈ x → (∀ y ∈ l, ¬ c ∈ y) → ¬ c ∈ words x l := by
 induction l with
 | nil => intro x hx _; exact hx
 | cons y l ih =>
  intro x hx hl
  refine ih ((x ++ [32]) ++ y) (fun h => ?_) (fun z hz => hl z (by simp [hz]))
  rcases List.mem_append.1 h with h | h
  ·rcases List.mem_append.1 h with h | h
   ·exact hx h
   ·exact hc (List.mem_singleton.1 h)
  ·exact hl y (by simp) h
theorem words_join (x : List UInt8) (l : List (List UInt8)) : Lib.join (x :: l) [32] = words x l := by
 rw [Lib.join_cons]
 exact (foldl_join [32] l x).symm
def wScript : List UInt8 := [115, 99, 114, 105, 112, 116]
def wStyle : List UInt8 := [115, 116, 121, 108, 101]
def wImg : List UInt8 := [105, 109, 103]
def wNonce : List UInt8 := [110, 111, 110, 99, 101, 32]
def polText (a b c : List (List UInt8)) (x : List UInt8) : List UInt8 := words wScript a ++ [59] ++ (words wStyle b ++ [59] ++ (words wImg c ++ (if x = [] then [] else [59] ++ (wNonce ++ x))))
theorem pol_fourth {s a0 a1 a2 a3 : List UInt8} {rest : List (List UInt8)} (hs : splitC 59 s = a0 :: a1 :: a2 :: a3 :: rest) (hn : ¬ wNonce <+: a3) (x : List UInt8) :
  polText (splitC 32 a0).tail (splitC 32 a1).tail (splitC 32 a2).tail x ≠ s := by
 intro he
 have free : ∀ (w a : List UInt8), a ∈ splitC 59 s → ¬ 59 ∈ w → ¬ 59 ∈ words w (splitC 32 a).tail := fun w a ha hw =>
  words_free (by decide) _ w hw (fun y hy h => splitC_no 59 s a ha (splitC_mem 32 a y (List.mem_of_mem_tail hy) 59 h))
 have f0 := free wScript a0 (by rw [hs]; simp) (by decide)
 have f1 := free wStyle a1 (by rw [hs]; simp) (by decide)
 have f2 := free wImg a2 (by rw [hs]; simp) (by decide)
 unfold polText at he
 generalize words wScript (splitC 32 a0).tail = u0 at he f0
 generalize words wStyle (splitC 32 a1).tail = u1 at he f1
 generalize words wImg (splitC 32 a2).tail = u2 at he f2
 by_cases hx : x = []
 ·rw [if_pos hx, List.append_nil] at he
  have := hs
  rw [← he, splitC_sep f0, splitC_sep f1, splitC_one f2] at this
  simp at this
 ·rw [if_neg hx] at he
  have h2 := hs
  rw [← he, splitC_sep f0, splitC_sep f1, ← List.append_assoc, splitC_sep f2] at h2
  cases hy : splitC 59 x with
  | nil => exact splitC_ne _ _ hy
  | cons p ps =>
   rw [splitC_free (show ¬ (59 : UInt8) ∈ wNonce by decide) x p ps hy] at h2
   simp only [List.cons.injEq] at h2
   exact hn ⟨p, h2.2.2.2.1⟩
theorem spec_split {s : List UInt8} (c : UInt8) (hs : s.length ≤ 2097152) : sl5Split s (c.toNat : Int) = some (splitC c s) := by
 have key : Ok (sl5Split s (c.toNat : Int)) (fun r => r = splitC c s) := by
  unfold sl5Split
  refine Ok.bind (Q1 := fun r => r = splitC c s) (Ok.while (fun st => ∃ i f : Nat, st.2.2 = (i : Int) ∧ st.2.1 = (f : Int) ∧ st.1.length ≤ i ∧ ((f ≤ i ∧ i ≤ s.length ∧ (¬ c ∈ (s.take i).drop f) ∧ splitC c s = st.1 ++ splitC c (s.drop f)) ∨ (i = s.length + 1 ∧ splitC c s = st.1)))
   (fun st => s.length + 2 - st.2.2.toNat) ?_ ?_) (fun r _ hr => Ok.ret hr)
  ·exact ⟨0, 0, rfl, rfl, Nat.le_refl 0, .inl ⟨Nat.le_refl _, Nat.zero_le _, by simp, by simp⟩⟩
  ·rintro ⟨out, fr, n⟩ ⟨i, f, h1, h2, h3, h4⟩
   simp only at h1 h2 h3 h4 ⊢
   subst h1
   subst h2
   rcases h4 with ⟨h5, h6, h7, h8⟩ | ⟨h5, h8⟩
   ·have ew : IntKind.wrap .i64 ((i : Int) + 1) = ((i + 1 : Nat) : Int) := wrapS (by omega)
    refine Ok.br (fun _ => Ok.br (fun e => ?_) (fun e => ?_)) (fun e => absurd e (by simp; omega))
    ·have hi : i = s.length := by
      have : (i : Int) = (s.length : Int) := by simpa using e
      omega
     refine Ok.chk ⟨by omega, by omega, by omega⟩ (Ok.chk ⟨by omega, by omega⟩ (Ok.ret (And.intro ⟨i + 1, i + 1, ew, ew, by simp; omega, .inr ⟨by omega, ?_⟩⟩ ?_)))
     ·show splitC c s = out ++ [((s.take ((i : Int).toNat)).drop ((f : Int).toNat))]
      rw [Int.toNat_natCast, Int.toNat_natCast, h8]
      rw [hi, List.take_length] at h7 ⊢
      rw [splitC_one h7]
     ·rw [ew]
      show s.length + 2 - (((i + 1 : Nat) : Int)).toNat < s.length + 2 - ((i : Int)).toNat
      rw [Int.toNat_natCast, Int.toNat_natCast]
      omega
    ·have hi : i < s.length := by
      have : ¬ (i : Int) = (s.length : Int) := by simpa using e
      omega
     obtain ⟨b, hb⟩ : ∃ b, s[i]? = some b := ⟨_, List.getElem?_eq_getElem hi⟩
     have ht : s.take (i + 1) = s.take i ++ [b] := by
      rw [List.take_add_one, hb]
      rfl
     have hlt : (s.take i).length = i := by simp; omega
     have hd : s.drop f = (s.take i).drop f ++ ([b] ++ s.drop (i + 1)) := by
      have e1 : s.drop i = [b] ++ s.drop (i + 1) := by
       obtain ⟨hi2, e2⟩ := gs_ hb
       rw [List.drop_eq_getElem_cons hi2, e2]
       rfl
      conv => lhs; rw [← List.take_append_drop i s]
      rw [List.drop_append, hlt, show f - i = 0 by omega, List.drop_zero, e1]
     refine Ok.bind (Ok.getS (Int.natCast_nonneg _) (by simpa using hi)) (fun r _ hr => ?_)
     obtain ⟨b', hb', rfl⟩ := hr
     rw [Int.toNat_natCast, hb] at hb'
     injection hb' with hb'
     subst hb'
     refine Ok.br (fun e => ?_) (fun e => ?_)
     ·have hbc : b = c := by
       have : (b.toNat : Int) = (c.toNat : Int) := by simpa using e
       exact UInt8.toNat_inj.1 (by omega)
      subst hbc
      refine Ok.chk ⟨by omega, by omega, by omega⟩ (Ok.chk ⟨by omega, by omega⟩ (Ok.ret (And.intro ⟨i + 1, i + 1, ew, ew, by simp; omega, .inl ⟨Nat.le_refl _, by omega, by simp, ?_⟩⟩ ?_)))
      ·show splitC b s = (out ++ [((s.take ((i : Int).toNat)).drop ((f : Int).toNat))]) ++ splitC b (s.drop (i + 1))
       rw [Int.toNat_natCast, Int.toNat_natCast, h8, hd, ← List.append_assoc, splitC_sep h7, List.append_assoc]
       rfl
      ·rw [ew]
       show s.length + 2 - (((i + 1 : Nat) : Int)).toNat < s.length + 2 - ((i : Int)).toNat
       rw [Int.toNat_natCast, Int.toNat_natCast]
       omega
     ·have hbc : c ≠ b := by
       intro e2
       subst e2
       simp at e
      refine Ok.ret (And.intro ⟨i + 1, f, ew, rfl, (by show out.length ≤ i + 1; omega), .inl ⟨by omega, by omega, ?_, h8⟩⟩ ?_)
      ·rw [ht, List.drop_append, hlt, show f - i = 0 by omega, List.drop_zero]
       intro hm
       rcases List.mem_append.1 hm with hm | hm
       ·exact h7 hm
       ·exact hbc (List.mem_singleton.1 hm)
      ·rw [ew]
       show s.length + 2 - (((i + 1 : Nat) : Int)).toNat < s.length + 2 - ((i : Int)).toNat
       rw [Int.toNat_natCast, Int.toNat_natCast]
       omega
   ·exact Ok.br (fun e => absurd e (by simp; omega)) (fun _ => Ok.ret h8.symm)
 obtain ⟨r, hr, e⟩ := key
 rw [hr, e]
theorem d_in (n a c : Int) : Dec (sl1In n a c) (a ≤ n ∧ n ≤ c) := Dec.and (by simp) (Dec.lit (by simp))
theorem d_in2 (n a c : Int) : Dec (iInRange n a c) (a ≤ n ∧ n ≤ c) := Dec.and (by simp) (Dec.lit (by simp))
theorem in_eq (n a c : Int) : sl1In n a c = some (decide (a ≤ n) && decide (n ≤ c)) := by
 unfold sl1In
 by_cases h : a ≤ n
 ·rw [decide_eq_true (show n ≥ a from h)]; rfl
 ·rw [decide_eq_false (show ¬ n ≥ a from h)]; rfl
def Nm (s : List UInt8) : Prop := sIsName s = some true
theorem d_sNm (s : List UInt8) (h : okS s) : Dec (sIsName s) (Nm s) := Dec.own ((ok_IsName s h).mono (fun _ _ _ => trivial))
theorem d_iNm (s : List UInt8) (h : okS s) : Dec (iIsName s) (Nm s) := d_sNm s h
theorem d_sAddr (a : TAddr) (h : a.ok) : Dec (sIsAddr a) (Nm a.xHost ∧ Nm a.xPath) := Dec.bindP (d_sNm _ h.1) (fun _ => Dec.bindE (d_sNm _ h.2.1))
theorem d_iAddr (a : TAddr) (h : a.ok) : Dec (iIsAddr a) (Nm a.xHost ∧ Nm a.xPath) := d_sAddr a h
theorem d_sNames (l : List (List UInt8)) (h : okL okS l) : Dec (sl9Names l) ((∀ x ∈ l, Nm x) ∧ l.length ≤ 4) := by
 unfold sl9Names
 refine Dec.iff (Dec.all (P := fun _ x => Nm x) (q := l.length ≤ 4) h.1 (fun i x hx => DecS.call1 (d_sNm x (h.2 x (List.mem_of_getElem? hx)))) (Dec.lit (by simp; omega))) ?_
 constructor
 ·rintro ⟨a, b⟩
  refine ⟨fun x hx => ?_, b⟩
  obtain ⟨i, hi, rfl⟩ := List.mem_iff_getElem.1 hx
  exact a i _ (List.getElem?_eq_getElem hi)
 ·exact fun ⟨a, b⟩ => ⟨fun i x hx => a x (List.mem_of_getElem? hx), b⟩
theorem d_iHosts (l : List (List UInt8)) (h : okL okS l) : Dec (iareHosts l) ((∀ x ∈ l, Nm x) ∧ l.length ≤ 4) := by
 have h1 : Ok (g_slices_IndexFunc_string_string_iareHosts_1 l) (Fst l (fun x => ¬ Nm x)) := by
  unfold g_slices_IndexFunc_string_string_iareHosts_1
  refine ok_first h.1 (fun i x hx => ?_)
  obtain ⟨b, e1, e2⟩ := d_iNm x (h.2 x (List.mem_of_getElem? hx))
  have e3 : iareHosts_1 x = some (!b) := by unfold iareHosts_1; rw [e1]; rfl
  rw [e3, ← e2]
  cases b with
  | true => exact ⟨fun h => absurd rfl h, fun _ => rfl⟩
  | false => exact ⟨fun _ => rfl, fun h => absurd (by simp) h⟩
 obtain ⟨r, e, hr⟩ := h1
 have h2 : g_slices_ContainsFunc_string_string_iareHosts_1 l = some (decide (r ≥ 0)) := by
  unfold g_slices_ContainsFunc_string_string_iareHosts_1
  rw [e]
  rfl
 unfold iareHosts
 rw [h2]
 refine Dec.iff (Dec.and (p := l.length ≤ 4) (q := ∀ x ∈ l, Nm x) (by simp; omega) (Dec.lit ?_)) ⟨fun ⟨a, b⟩ => ⟨b, a⟩, fun ⟨a, b⟩ => ⟨b, a⟩⟩
 rcases hr with ⟨rfl, hr⟩ | ⟨i, x, rfl, hx, hq, _⟩
 ·simp only [Bool.not_eq_true', decide_eq_false_iff_not]
  exact ⟨fun _ x hx => Classical.not_not.1 (hr x hx), fun _ => by omega⟩
 ·simp only [Bool.not_eq_true', decide_eq_false_iff_not]
  exact ⟨fun h => absurd (by omega) h, fun h => absurd (h x (List.mem_of_getElem? hx)) hq⟩
def ValP (s : List UInt8) : Prop := (∀ (i : Nat) (x : UInt8), s[i]? = some x → ((97 ≤ (x.toNat : Int) ∧ (x.toNat : Int) ≤ 122) ∨ (48 ≤ (x.toNat : Int) ∧ (x.toNat : Int) ≤ 57) ∨ (x.toNat : Int) = 47)) ∧ (1 ≤ (s.length : Int) ∧ (s.length : Int) ≤ 20)
theorem d_sValue (s : List UInt8) (h : okS s) : Dec (sIsValue s) (ValP s) := by
 unfold sIsValue ValP
 refine Dec.all h (fun i x hx => ?_) (Dec.bindE (d_in _ _ _))
 repeat' (refine DecS.br (fun h => ?_) (fun h => ?_))
 all_goals simp only [decide_eq_true_eq, decide_eq_false_iff_not, bne_iff_ne, Bool.not_eq_true', beq_eq_false_iff_ne, beq_iff_eq, bne_eq_false_iff_eq, Ne] at *
 all_goals first | exact DecS.yes (by omega) | exact DecS.no (by omega)
theorem d_iValue (s : List UInt8) (h : okS s) : Dec (iIsValue s) (ValP s) := by
 unfold iIsValue ValP
 refine Dec.all h (fun i x hx => ?_) (Dec.bindE (d_in2 _ _ _))
 repeat' (refine DecS.br (fun h => ?_) (fun h => ?_))
 all_goals simp only [decide_eq_true_eq, decide_eq_false_iff_not, bne_iff_ne, Bool.not_eq_true', Bool.not_eq_false', beq_eq_false_iff_ne, beq_iff_eq, bne_eq_false_iff_eq, Ne] at *
 all_goals first | exact DecS.yes (by omega) | exact DecS.no (by omega)
def PolP (a b e : List (List UInt8)) (n : List UInt8) : Prop := ((∀ x ∈ a, Nm x) ∧ a.length ≤ 4) ∧ ((∀ x ∈ b, Nm x) ∧ b.length ≤ 4) ∧ ((∀ x ∈ e, Nm x) ∧ e.length ≤ 4) ∧ (n = [] ∨ ValP n)
theorem Dec.orE {n : List UInt8} {f : Option Bool} {p : Prop} (h : Dec f p) : Dec (Go.Am.br (n == []) (some true) (f.bind fun r => some r)) (n = [] ∨ p) := by
 by_cases c : n = []
 ·subst c
  exact ⟨true, rfl, by simp⟩
 ·obtain ⟨b, rfl, hb⟩ := h
  have : (n == []) = false := by simpa using c
  rw [this]
  exact ⟨b, rfl, by rw [hb]; simp [c]⟩
theorem d_sPol (a b e : List (List UInt8)) (n : List UInt8) (ha : okL okS a) (hb : okL okS b) (he : okL okS e) (hn : okS n) : Dec (sIsPolicy ⟨true, a, b, e, n⟩) (PolP a b e n) :=
 Dec.bindP (d_sNames a ha) (fun _ => Dec.bindP (d_sNames b hb) (fun _ => Dec.bindP (d_sNames e he) (fun _ => Dec.orE (d_sValue n hn))))
theorem d_iPol (a b e : List (List UInt8)) (n : List UInt8) (ha : okL okS a) (hb : okL okS b) (he : okL okS e) (hn : okS n) : Dec (iIsPolicy ⟨true, a, b, e, n⟩) (PolP a b e n) :=
 Dec.bindP (d_iHosts a ha) (fun _ => Dec.bindP (d_iHosts b hb) (fun _ => Dec.bindP (d_iHosts e he) (fun _ => Dec.orE (d_iValue n hn))))
theorem spec_words (x : List UInt8) (l : List (List UInt8)) (hx : x.length ≤ 8) (hl : lens l ≤ 2097152) : sl9Words x l = some (words x l) := by
 have hn := lens_len l
 have key : Ok (sl9Words x l) (fun r => r = words x l) := by
  unfold sl9Words
  refine Ok.bind (Q1 := fun r => r = words x l) (Ok.for (by unfold maxLen; omega) (fun i s => s = words x (l.take i)) (by simp [words]) (fun i y s hy hs => ?_) (fun s hs => by rw [hs, List.take_length])) (fun r _ hr => Ok.ret hr)
  have hlt := (gs_ hy).1
  have hle : s.length ≤ 2097160 := by
   rw [hs, words_len]
   have : ∀ (l : List (List UInt8)) (i : Nat), lens (l.take i) ≤ lens l := by
    intro l
    induction l with
    | nil => intro i; simp
    | cons z l ih =>
     intro i
     cases i with
     | zero => simp [lens]
     | succ i =>
      have := ih i
      simp only [List.take_succ_cons, lens]
      omega
   have := this l i
   omega
  have hyl := lens_mem (List.mem_of_getElem? hy)
  refine Ok.chk (by omega) (Ok.chk (by simp; omega) (Ok.ret ?_))
  show (s ++ [32]) ++ y = words x (l.take (i + 1))
  rw [List.take_add_one, hy, hs]
  simp [words, List.foldl_append]
 obtain ⟨r, hr, e⟩ := key
 rw [hr, e]
theorem impl_words (x : List UInt8) (l : List (List UInt8)) (hx : x.length ≤ 8) (hl : lens l ≤ 2097152) : g_strings_Join ([x] ++ l) [32] = some (words x l) := by
 have hn := lens_len l
 have e : Lib.join ([x] ++ l) [32] = words x l := words_join x l
 show joinE ([x] ++ l) [32] = _
 unfold joinE
 rw [e, chk_pos ⟨by simp; omega, by rw [words_len]; omega⟩]
noncomputable def fmtR (a b e : List (List UInt8)) (n : List UInt8) : List UInt8 := by
 classical exact if PolP a b e n then polText a b e n else []
theorem okL_lens {l : List (List UInt8)} (h : lens l ≤ 2097152) : okL okS l := by
 have hn := lens_len l
 refine ⟨by unfold maxLen; omega, fun x hx => ?_⟩
 have := lens_mem hx
 unfold okS maxLen
 omega
theorem sFmt (a b e : List (List UInt8)) (n : List UInt8) (ha : lens a ≤ 2097152) (hb : lens b ≤ 2097152) (he : lens e ≤ 2097152) (hn : n.length ≤ 2097152) : sFormatPolicy ⟨true, a, b, e, n⟩ = some (fmtR a b e n) := by
 obtain ⟨c, h1, h2⟩ := d_sPol a b e n (okL_lens ha) (okL_lens hb) (okL_lens he) (by unfold okS maxLen; omega)
 unfold sFormatPolicy fmtR
 rw [h1]
 cases c with
 | false => rw [if_neg (fun h => by have := h2.2 h; cases this)]; rfl
 | true =>
  rw [if_pos (h2.1 rfl)]
  simp only [Option.bind_some, Bool.not_true, br_false]
  rw [spec_words _ a (by simp) ha, Option.bind_some, spec_words _ b (by simp) hb, Option.bind_some, spec_words _ e (by simp) he]
  have l1 := words_len a [115, 99, 114, 105, 112, 116]
  have l2 := words_len b [115, 116, 121, 108, 101]
  have l3 := words_len e [105, 109, 103]
  simp only [List.length_cons, List.length_nil] at l1 l2 l3
  rw [chk_pos (by omega), chk_pos (by simp; omega), chk_pos (by simp; omega), Option.bind_some, chk_pos (by simp; omega)]
  unfold polText wScript wStyle wImg wNonce
  by_cases c : n = []
  ·subst c
   simp only [List.beq_nil_eq, List.isEmpty_nil, Bool.not_true, br_false, if_pos, List.append_nil]
   simp [List.append_assoc]
  ·have : (n == []) = false := by simpa using c
   rw [this, if_neg c]
   simp only [Bool.not_false, br_true]
   rw [chk_pos (by simp; omega), chk_pos (by simp; omega)]
   simp [List.append_assoc]
theorem iFmt (a b e : List (List UInt8)) (n : List UInt8) (ha : lens a ≤ 2097152) (hb : lens b ≤ 2097152) (he : lens e ≤ 2097152) (hn : n.length ≤ 2097152) : iFormatPolicy ⟨true, a, b, e, n⟩ = some (fmtR a b e n) := by
 obtain ⟨c, h1, h2⟩ := d_iPol a b e n (okL_lens ha) (okL_lens hb) (okL_lens he) (by unfold okS maxLen; omega)
 have n1 := lens_len a
 have n2 := lens_len b
 have n3 := lens_len e
 unfold iFormatPolicy fmtR
 rw [h1]
 cases c with
 | false => rw [if_neg (fun h => by have := h2.2 h; cases this)]; rfl
 | true =>
  rw [if_pos (h2.1 rfl)]
  simp only [Option.bind_some, Bool.not_true, br_false]
  rw [impl_words _ a (by simp) ha, Option.bind_some, impl_words _ b (by simp) hb, Option.bind_some, impl_words _ e (by simp) he]
  have l1 := words_len a [115, 99, 114, 105, 112, 116]
  have l2 := words_len b [115, 116, 121, 108, 101]
  have l3 := words_len e [105, 109, 103]
  simp only [List.length_cons, List.length_nil] at l1 l2 l3
  rw [chk_pos ⟨by omega, by omega⟩, chk_pos (by omega), chk_pos ⟨by omega, by omega⟩, chk_pos (by simp; omega), chk_pos (by simp; omega), chk_pos ⟨by omega, by omega⟩, Option.bind_some, chk_pos (by simp; omega)]
  unfold polText wScript wStyle wImg wNonce
  by_cases c : n = []
  ·subst c
   simp only [List.beq_nil_eq, List.isEmpty_nil, Bool.not_true, br_false, if_pos, List.append_nil]
   simp [List.append_assoc]
  ·have : (n == []) = false := by simpa using c
   rw [this, if_neg c]
   simp only [Bool.not_false, br_true]
   rw [chk_pos (by omega), chk_pos (by simp; omega)]
   simp [List.append_assoc]
theorem fmt_ne {s a0 a1 a2 a3 : List UInt8} {rest : List (List UInt8)} (h0 : s ≠ []) (hs : splitC 59 s = a0 :: a1 :: a2 :: a3 :: rest) (hn : ¬ wNonce <+: a3) (x : List UInt8) : fmtR (splitC 32 a0).tail (splitC 32 a1).tail (splitC 32 a2).tail x ≠ s := by
 unfold fmtR
 split
 ·exact pol_fourth hs hn x
 ·exact fun e => h0 e.symm
theorem iCpy (a b e : List (List UInt8)) (n : List UInt8) (ha : lens a ≤ 2097152) (hb : lens b ≤ 2097152) (he : lens e ≤ 2097152) : icopyPolicy ⟨true, a, b, e, n⟩ = some ⟨true, a, b, e, n⟩ := by
 have n1 := lens_len a
 have n2 := lens_len b
 have n3 := lens_len e
 unfold icopyPolicy
 rw [chk_pos ⟨by simp only []; omega, by simp only []; omega⟩, chk_pos ⟨by simp only []; omega, by simp only []; omega⟩, chk_pos ⟨by simp only []; omega, by simp only []; omega⟩]
 rfl
noncomputable def polB (s : List UInt8) : Bool :=
 if s = [] then true else match splitC 59 s with
  | a0 :: a1 :: a2 :: rest => fmtR (splitC 32 a0).tail (splitC 32 a1).tail (splitC 32 a2).tail (nonceOf rest) == s
  | _ => false
theorem parts_le {s : List UInt8} (hs : s.length ≤ 1048576) {p : List UInt8} (hp : p ∈ splitC 59 s) : p.length ≤ 1048576 ∧ lens (splitC 32 p).tail ≤ 2097152 := by
 have h1 := splitC_le 59 s p hp
 have h2 := lens_tail (splitC 32 p)
 rw [splitC_lens] at h2
 exact ⟨by omega, by omega⟩
theorem trim_le (a b : List UInt8) : (Lib.trimPrefix a b).length ≤ a.length := by
 unfold Lib.trimPrefix
 split <;> simp
theorem polE_eq (s : List UInt8) (hs : s.length ≤ 1048576) : polE (fun a b e n => iFormatPolicy (⟨true, a, b, e, n⟩ : TPolicy)) (fun a b e n => icopyPolicy (⟨true, a, b, e, n⟩ : TPolicy)) s = some (polB s) := by
 unfold polE polB
 by_cases h0 : s = []
 ·rw [if_pos h0, if_pos h0]
 ·rw [if_neg h0, if_neg h0]
  have hp := fun p hp => parts_le (s := s) hs (p := p) hp
  rcases hr : splitC 59 s with _ | ⟨a0, _ | ⟨a1, _ | ⟨a2, rest⟩⟩⟩
  ·rfl
  ·rfl
  ·rfl
  ·rw [hr] at hp
   obtain ⟨_, b0⟩ := hp a0 (by simp)
   obtain ⟨_, b1⟩ := hp a1 (by simp)
   obtain ⟨_, b2⟩ := hp a2 (by simp)
   have hn : (nonceOf rest).length ≤ 2097152 := by
    cases rest with
    | nil => simp [nonceOf]
    | cons a3 rest =>
     have := (hp a3 (by simp)).1
     have h3 := trim_le a3 nonceW
     simp only [nonceOf]
     omega
   simp only [iFmt _ _ _ _ b0 b1 b2 hn, iCpy _ _ _ _ b0 b1 b2, Option.bind_some]
theorem sParse (s : List UInt8) (hs : s.length ≤ 1048576) : Ok (sParsePolicy s) (fun r => r.2 = polB s) := by
 unfold sParsePolicy polB
 by_cases h0 : s = []
 ·rw [if_pos h0, h0]
  exact ⟨_, rfl, rfl⟩
 ·have hb : (s == []) = false := by simpa using h0
  rw [if_neg h0, hb, br_false, show (59 : Int) = ((59 : UInt8).toNat : Int) from rfl, spec_split 59 (by omega), Option.bind_some]
  have hp := fun p hp => parts_le (s := s) hs (p := p) hp
  rcases hr : splitC 59 s with _ | ⟨a0, _ | ⟨a1, _ | ⟨a2, rest⟩⟩⟩
  ·exact ⟨_, rfl, rfl⟩
  ·exact ⟨_, rfl, rfl⟩
  ·exact ⟨_, rfl, rfl⟩
  ·rw [hr] at hp
   obtain ⟨l0, b0⟩ := hp a0 (by simp)
   obtain ⟨l1, b1⟩ := hp a1 (by simp)
   obtain ⟨l2, b2⟩ := hp a2 (by simp)
   have cut : ∀ l : List (List UInt8), ((l.take ((l.length : Int).toNat)).drop 1) = l.tail := fun l => by
    rw [Int.toNat_natCast, List.take_length]
    cases l <;> rfl
   have one : ∀ p : List UInt8, (1 : Int) ≤ ((splitC 32 p).length : Int) := fun p => by
    cases h : splitC 32 p with
    | nil => exact absurd h (splitC_ne _ _)
    | cons x xs => simp only [List.length_cons]; omega
   have w32 : (32 : Int) = ((32 : UInt8).toNat : Int) := rfl
   have tail3 : ∀ x : List UInt8, x.length ≤ 2097152 → ∀ X, X = (fmtR (splitC 32 a0).tail (splitC 32 a1).tail (splitC 32 a2).tail x == s) →
     Ok ((sFormatPolicy (⟨true, (splitC 32 a0).tail, (splitC 32 a1).tail, (splitC 32 a2).tail, x⟩ : TPolicy)).bind fun (r10 : List UInt8) => Go.Am.br (!(r10 == s)) (some ((⟨false, [], [], [], []⟩ : TPolicy), false)) (some ((⟨true, (splitC 32 a0).tail, (splitC 32 a1).tail, (splitC 32 a2).tail, x⟩ : TPolicy), true)))
      (fun r => r.2 = X) := fun x hx X hX => by
    rw [sFmt _ _ _ _ b0 b1 b2 hx, Option.bind_some, hX]
    cases (fmtR (splitC 32 a0).tail (splitC 32 a1).tail (splitC 32 a2).tail x == s) with
    | true => exact ⟨_, rfl, rfl⟩
    | false => exact ⟨_, rfl, rfl⟩
   have n3 : decide (((a0 :: a1 :: a2 :: rest).length : Int) < 3) = false := by simp only [List.length_cons]; exact decide_eq_false (by omega)
   rw [n3, br_false]
   refine Ok.chk ⟨by omega, by simp⟩ ?_
   rw [show getI (a0 :: a1 :: a2 :: rest) (0 : Int) = some a0 from rfl, Option.bind_some, w32, spec_split 32 (by omega), Option.bind_some]
   refine Ok.chk ⟨by omega, one _, by omega⟩ (Ok.chk ⟨by omega, by simp⟩ ?_)
   rw [show getI (a0 :: a1 :: a2 :: rest) (1 : Int) = some a1 from rfl, Option.bind_some, spec_split 32 (by omega), Option.bind_some]
   refine Ok.chk ⟨by omega, one _, by omega⟩ (Ok.chk ⟨by omega, by simp⟩ ?_)
   rw [show getI (a0 :: a1 :: a2 :: rest) (2 : Int) = some a2 from rfl, Option.bind_some, spec_split 32 (by omega), Option.bind_some]
   refine Ok.chk ⟨by omega, one _, by omega⟩ ?_
   simp only [cut]
   cases rest with
   | nil =>
    refine Ok.br (fun e => absurd e (by simp)) (fun _ => ?_)
    exact tail3 [] (by simp) _ rfl
   | cons a3 rest =>
    have l3 := (hp a3 (by simp)).1
    refine Ok.br (fun _ => ?_) (fun e => absurd e (by simp; omega))
    refine Ok.chk ⟨by omega, by simp⟩ ?_
    rw [show getI (a0 :: a1 :: a2 :: a3 :: rest) (3 : Int) = some a3 from rfl, Option.bind_some]
    have hc : ((a3.take ((a3.length : Int).toNat)).drop 6) = a3.drop 6 := by rw [Int.toNat_natCast, List.take_length]
    have done : ∀ x : List UInt8, (wNonce <+: a3 → x = Lib.trimPrefix a3 nonceW) → (fmtR (splitC 32 a0).tail (splitC 32 a1).tail (splitC 32 a2).tail (nonceOf (a3 :: rest)) == s) = (fmtR (splitC 32 a0).tail (splitC 32 a1).tail (splitC 32 a2).tail x == s) := fun x hx => by
     by_cases c : wNonce <+: a3
     ·rw [hx c]; rfl
     ·have e1 := fmt_ne h0 hr c x
      have e2 := fmt_ne h0 hr c (nonceOf (a3 :: rest))
      rw [show (fmtR (splitC 32 a0).tail (splitC 32 a1).tail (splitC 32 a2).tail x == s) = false by simpa using e1, show (fmtR (splitC 32 a0).tail (splitC 32 a1).tail (splitC 32 a2).tail (nonceOf (a3 :: rest)) == s) = false by simpa using e2]
    have trim : wNonce <+: a3 → Lib.trimPrefix a3 nonceW = a3.drop 6 := fun c => by
     unfold Lib.trimPrefix
     have : Lib.hasPrefix a3 nonceW = true := List.isPrefixOf_iff_prefix.2 c
     rw [if_pos this]
     rfl
    refine Ok.br (fun _ => ?_) (fun e => ?_)
    ·refine Ok.chk ⟨by omega, by simp⟩ ?_
     rw [Option.bind_some]
     refine Ok.chk ⟨by omega, ?_, by omega⟩ ?_
     ·rename_i e
      have : (a3.length : Int) > 6 := by simpa using e
      omega
     ·simp only [hc]
      exact tail3 (a3.drop 6) (by simp; omega) _ (done _ (fun c => (trim c).symm))
    ·have e : ¬ (a3.length : Int) > 6 := by simpa using e
     refine tail3 [] (by simp) _ (done _ (fun c => ?_))
     rw [trim c, List.drop_eq_nil_of_le (by omega)]
def RespP (x : TResponse) : Prop := sIsResponse x = some true
theorem eq_Resp (x : TResponse) (hs : x.size ≤ 1048576) : ∃ b, sIsResponse x = some b ∧ iIsResponse x = some b := by
 have hp : x.xPolicy.length ≤ 1048576 := by unfold TResponse.size at hs; omega
 obtain ⟨r, h1, h2⟩ := sParse x.xPolicy hp
 refine ⟨respB (polB x.xPolicy) x.xStatus x.xKind x.xBody.length x.xAge, ?_, ?_⟩
 ·unfold sIsResponse respB
  rw [h1, Option.bind_some, in_eq, in_eq, in_eq, h2]
  simp only [Option.bind_some]
  generalize polB x.xPolicy = b
  generalize (decide (100 ≤ x.xStatus) && decide (x.xStatus ≤ 599)) = b1
  generalize (decide (1 ≤ x.xKind) && decide (x.xKind ≤ 5)) = b2
  generalize decide ((x.xBody.length : Int) ≤ 400) = b3
  generalize (decide (0 ≤ x.xAge) && decide (x.xAge ≤ 1000)) = b4
  cases b <;> cases b1 <;> cases b2 <;> cases b3 <;> cases b4 <;> rfl
 ·unfold iIsResponse respE
  rw [chk_pos (by omega), polE_eq _ hp]
  rfl
theorem d_sResp (x : TResponse) (hs : x.size ≤ 1048576) : Dec (sIsResponse x) (RespP x) := by
 obtain ⟨b, h, _⟩ := eq_Resp x hs
 exact Dec.own ⟨b, h, trivial⟩
theorem d_iResp (x : TResponse) (hs : x.size ≤ 1048576) : Dec (iIsResponse x) (RespP x) := by
 obtain ⟨b, h, h2⟩ := eq_Resp x hs
 refine ⟨b, h2, ?_⟩
 unfold RespP
 rw [h]
 simp
theorem fin_nat {n : Nat} {k : Int} (h : 0 ≤ k) : decide ((n : Int) ≤ k) = true ↔ n ≤ k.toNat := by
 simp only [decide_eq_true_eq]
 omega
def ServerP (s : TServer) : Prop := (∀ (i : Nat) (x : TFile), s.xFiles[i]? = some x → Nm x.xPath ∧ RespP x.xResponse ∧ ∀ (j : Nat) (y : TFile), j < i → s.xFiles[j]? = some y → ¬ y.xPath = x.xPath) ∧ Nm s.xHost ∧ s.xFiles.length ≤ 10
theorem ok_fileAt (s : TServer) (path : List UInt8) (h : s.xFiles.length ≤ maxLen) : Ok (ifileAt s path) (Fst s.xFiles (fun f => f.xPath = path)) := by
 unfold ifileAt g_slices_IndexFunc_File_File_ifileAt_1
 rw [bind_some']
 refine ok_first h (fun i x hx => ?_)
 unfold ifileAt_1_iptr
 by_cases c : x.xPath = path
 ·rw [show (x.xPath == path) = true by simpa using c]; exact ⟨fun _ => rfl, fun h => absurd c h⟩
 ·rw [show (x.xPath == path) = false by simpa using c]; exact ⟨fun h => absurd h c, fun _ => rfl⟩
theorem ok_serverAt (l : List TServer) (host : List UInt8) (h : l.length ≤ maxLen) : Ok (iserverAt l host) (Fst l (fun f => f.xHost = host)) := by
 unfold iserverAt g_slices_IndexFunc_Server_Server_iserverAt_1
 rw [bind_some']
 refine ok_first h (fun i x hx => ?_)
 unfold iserverAt_1_iptr
 by_cases c : x.xHost = host
 ·rw [show (x.xHost == host) = true by simpa using c]; exact ⟨fun _ => rfl, fun h => absurd c h⟩
 ·rw [show (x.xHost == host) = false by simpa using c]; exact ⟨fun h => absurd h c, fun _ => rfl⟩
theorem ok_sServer (l : List TServer) (host : List UInt8) (h : l.length ≤ maxLen) : Ok (sl12Server l host) (Fst l (fun f => f.xHost = host)) := by
 unfold sl12Server
 refine ok_first h (fun i x hx => ?_)
 by_cases c : x.xHost = host
 ·rw [show (x.xHost == host) = true by simpa using c]; exact ⟨fun _ => rfl, fun h => absurd c h⟩
 ·rw [show (x.xHost == host) = false by simpa using c]; exact ⟨fun h => absurd h c, fun _ => rfl⟩
theorem ok_entryAt (c : TCache) (top : List UInt8) (a : TAddr) (h : c.xEntries.length ≤ maxLen) : Ok (ientryAt c top a) (Fst c.xEntries (fun e => e.xTop = top ∧ e.xTo = a)) := by
 unfold ientryAt g_slices_IndexFunc_Entry_Entry_ientryAt_1
 rw [bind_some']
 refine ok_first h (fun i x hx => ?_)
 unfold ientryAt_1_iptr_iptr
 rw [TAddr.cmp x.xTo a]
 by_cases c1 : x.xTop = top
 ·rw [show (x.xTop == top) = true by simpa using c1]
  by_cases c2 : x.xTo = a
  ·rw [decide_eq_true c2]; exact ⟨fun _ => rfl, fun h => absurd ⟨c1, c2⟩ h⟩
  ·rw [decide_eq_false c2]; exact ⟨fun h => absurd h.2 c2, fun _ => rfl⟩
 ·rw [show (x.xTop == top) = false by simpa using c1]; exact ⟨fun h => absurd h.1 c1, fun _ => rfl⟩
theorem ok_sFind (c : TCache) (top : List UInt8) (a : TAddr) (h : c.xEntries.length ≤ maxLen) : Ok (sl13Find c top a) (Fst c.xEntries (fun e => e.xTop = top ∧ e.xTo = a)) := by
 unfold sl13Find
 refine ok_first h (fun i x hx => ?_)
 rw [TAddr.cmp x.xTo a]
 by_cases c1 : x.xTop = top
 ·rw [show (x.xTop == top) = true by simpa using c1]
  by_cases c2 : x.xTo = a
  ·rw [decide_eq_true c2]; exact ⟨fun _ => rfl, fun h => absurd ⟨c1, c2⟩ h⟩
  ·rw [decide_eq_false c2]; exact ⟨fun h => absurd h.2 c2, fun _ => rfl⟩
 ·rw [show (x.xTop == top) = false by simpa using c1]; exact ⟨fun h => absurd h.1 c1, fun _ => rfl⟩
theorem file_size {s : TServer} {x : TFile} (h : x ∈ s.xFiles) : x.xResponse.size ≤ s.size := by
 have := sumL_mem (f := TFile.size) h
 have e : x.xResponse.size ≤ TFile.size x := by unfold TFile.size; omega
 unfold TServer.size
 omega
theorem d_sServer1 (s : TServer) (h : s.ok) (hs : s.size ≤ 1048576) : Dec (sIsServer s) (ServerP s) := by
 obtain ⟨h1, h2, _⟩ := h
 unfold sIsServer ServerP
 refine Dec.all h2.1 (fun i x hx => ?_) (Dec.bindP (d_sNm _ h1) (fun _ => Dec.lit (fin_nat (by decide))))
 have hm := List.mem_of_getElem? hx
 have hlt := (gs_ hx).1
 have hl := h2.1
 refine DecS.call (d_sNm _ (h2.2 x hm).1) (DecS.call (d_sResp _ (Nat.le_trans (file_size hm) hs)) ?_)
 refine DecS.iff (DecS.below (Q := fun j => ∀ y, s.xFiles[j]? = some y → ¬ y.xPath = x.xPath) (by unfold maxLen at hl ⊢; omega) (fun j hj => ?_)) ⟨fun h j y hj hy => h j hj y hy, fun h j hj y hy => h j y hj hy⟩
 have hy : s.xFiles[j]? = some (s.xFiles[j]'(by omega)) := List.getElem?_eq_getElem (by omega)
 refine DecS.get hy ?_
 refine DecS.br (fun e => DecS.no ?_) (fun e => DecS.yes ?_)
 ·intro h
  exact h _ hy (by simpa using e)
 ·intro y hy2
  rw [hy] at hy2
  injection hy2 with hy2
  rw [← hy2]
  simpa using e
theorem d_iServer1 (s : TServer) (h : s.ok) (hs : s.size ≤ 1048576) : Dec (iIsServer s) (ServerP s) := by
 obtain ⟨h1, h2, _⟩ := h
 unfold iIsServer ServerP
 refine Dec.all h2.1 (fun i x hx => ?_) (Dec.bindP (d_iNm _ h1) (fun _ => Dec.lit (fin_nat (by decide))))
 have hm := List.mem_of_getElem? hx
 refine DecS.iff (DecS.call (d_iNm _ (h2.2 x hm).1) (DecS.first (ok_fileAt s x.xPath h2.1) hx rfl (DecS.call1 (d_iResp _ (Nat.le_trans (file_size hm) hs))))) ⟨fun ⟨a, b, c⟩ => ⟨a, c, b⟩, fun ⟨a, b, c⟩ => ⟨a, c, b⟩⟩
def ServersP (l : List TServer) : Prop := (∀ (i : Nat) (x : TServer), l[i]? = some x → ServerP x ∧ ∀ (j : Nat) (y : TServer), j < i → l[j]? = some y → ¬ y.xHost = x.xHost) ∧ l.length ≤ 4
theorem d_sServers1 (l : List TServer) (h : okL TServer.ok l) (hs : sumL TServer.size l ≤ 1048576) : Dec (sAreServers l) (ServersP l) := by
 unfold sAreServers ServersP
 refine Dec.all h.1 (fun i x hx => ?_) (Dec.lit (fin_nat (by decide)))
 have hm := List.mem_of_getElem? hx
 exact DecS.call (d_sServer1 x (h.2 x hm) (Nat.le_trans (sumL_mem (f := TServer.size) hm) hs)) (DecS.first1 (ok_sServer l x.xHost h.1) hx rfl)
theorem d_iServers1 (l : List TServer) (h : okL TServer.ok l) (hs : sumL TServer.size l ≤ 1048576) : Dec (iAreServers l) (ServersP l) := by
 unfold iAreServers ServersP
 refine Dec.all h.1 (fun i x hx => ?_) (Dec.lit (fin_nat (by decide)))
 have hm := List.mem_of_getElem? hx
 exact DecS.call (d_iServer1 x (h.2 x hm) (Nat.le_trans (sumL_mem (f := TServer.size) hm) hs)) (DecS.first1 (ok_serverAt l x.xHost h.1) hx rfl)
def CacheP (c : TCache) : Prop := (∀ (i : Nat) (x : TEntry), c.xEntries[i]? = some x → Nm x.xTop ∧ (Nm x.xTo.xHost ∧ Nm x.xTo.xPath) ∧ RespP x.xResponse ∧ x.xResponse.xStatus = 200 ∧ ∀ (j : Nat) (y : TEntry), j < i → c.xEntries[j]? = some y → ¬ (y.xTop = x.xTop ∧ y.xTo = x.xTo)) ∧ c.xEntries.length ≤ 100
theorem entry_size {c : TCache} {x : TEntry} (h : x ∈ c.xEntries) : x.xResponse.size ≤ c.size := by
 have := sumL_mem (f := TEntry.size) h
 have e : x.xResponse.size ≤ TEntry.size x := by unfold TEntry.size; omega
 unfold TCache.size
 omega
theorem d_sCache (c : TCache) (h : c.ok) (hs : c.size ≤ 1048576) : Dec (sIsCache c) (CacheP c) := by
 obtain ⟨h, _⟩ := h
 unfold sIsCache CacheP
 refine Dec.all h.1 (fun i x hx => ?_) (Dec.lit (fin_nat (by decide)))
 have hm := List.mem_of_getElem? hx
 obtain ⟨o1, o2, o3, _⟩ := h.2 x hm
 exact DecS.call (d_sNm _ o1) (DecS.call (d_sAddr _ o2) (DecS.call (d_sResp _ (Nat.le_trans (entry_size hm) hs)) (DecS.ne (DecS.first1 (ok_sFind c x.xTop x.xTo h.1) hx ⟨rfl, rfl⟩))))
theorem d_iCache (c : TCache) (h : c.ok) (hs : c.size ≤ 1048576) : Dec (iIsCache c) (CacheP c) := by
 obtain ⟨h, _⟩ := h
 unfold iIsCache CacheP
 refine Dec.all h.1 (fun i x hx => ?_) (Dec.lit (fin_nat (by decide)))
 have hm := List.mem_of_getElem? hx
 obtain ⟨o1, o2, o3, _⟩ := h.2 x hm
 exact DecS.call (d_iNm _ o1) (DecS.call (d_iAddr _ o2) (DecS.call (d_iResp _ (Nat.le_trans (entry_size hm) hs)) (DecS.ne (DecS.first1 (ok_entryAt c x.xTop x.xTo h.1) hx ⟨rfl, rfl⟩))))
theorem eq_CacheSound (n : TNet) (h : n.ok) (hs : n.size ≤ 1048576) : ∃ r, sCacheSound n = some r ∧ iCacheSound n = some r := by
 obtain ⟨_, hc, _⟩ := h
 have hcs : n.xCache.size ≤ 1048576 := by unfold TNet.size at hs; omega
 have body : ∀ (i : Nat) (x : TEntry), n.xCache.xEntries[i]? = some x → DecS (br (decide (x.xUntil > IntKind.wrap .i64 (n.xNow + 1000))) (some (.inr (.inl ()))) (some (.inl ()))) (¬ x.xUntil > IntKind.wrap .i64 (n.xNow + 1000)) := fun i x _ =>
  DecS.br (fun e => DecS.no (fun h => h (of_decide_eq_true e))) (fun e => DecS.yes (of_decide_eq_false e))
 have d1 : Dec (sCacheSound n) _ := Dec.all hc.1.1 body (Dec.bindE (d_sCache _ hc hcs))
 have d2 : Dec (iCacheSound n) _ := Dec.all hc.1.1 body (Dec.bindE (d_iCache _ hc hcs))
 exact Dec.same d1 d2
def Rising (l : List Pr) : Prop := l.Pairwise (fun x y => ltPr x y = true)
theorem rising_nodup {l : List Pr} (h : Rising l) : l.Nodup := h.imp (fun {x y} hxy e => by subst e; rw [lt_irrefl] at hxy; cases hxy)
def Sorted' (m : List Pr) : Prop := m.Pairwise (fun x y => ltPr y x = false)
theorem ms_sorted (l : List Pr) : Sorted' (l.mergeSort fun x y => !ltPr y x) := by
 have := List.pairwise_mergeSort (le := fun x y => !ltPr y x) (fun a b c h1 h2 => by
  simp only [Bool.not_eq_true'] at h1 h2 ⊢
  cases h : ltPr c a with
  | false => rfl
  | true =>
   by_cases e : b = c
   ·subst e; rw [h] at h1; cases h1
   ·have := lt_trans' (lt_of_not h2 e) h
    rw [this] at h1; cases h1) (fun a b => by
  cases h : ltPr b a with
  | false => rfl
  | true => rw [lt_asym h]; rfl) l
 exact this.imp (fun {x y} h => by simpa using h)
theorem cut_mem (m : List Pr) (n : Nat) (hn : n ≤ m.length) (x : Pr) : x ∈ Lib.compactUpTo m.toArray n ↔ x ∈ m.take n := by
 induction n with
 | zero => simp [Lib.compactUpTo]
 | succ n ih =>
  have hn' : n < m.length := by omega
  have hg : m.toArray[n]! = m[n] := by simp [hn']
  rw [Lib.compactUpTo_succ, List.mem_append, ih (by omega), List.take_succ_eq_append_getElem hn', List.mem_append]
  cases hk : Lib.keeps m.toArray n with
  | true => simp [hg]
  | false =>
   have h2 : n ≠ 0 ∧ m.toArray[n]! = m.toArray[n - 1]! := by
    simp only [Lib.keeps, decide_eq_false_iff_not, not_or, Decidable.not_not] at hk
    exact hk
   have hg1 : m.toArray[n - 1]! = m[n - 1] := by
    have : n - 1 < m.length := by omega
    simp [this]
   constructor
   ·rintro (h | h)
    ·exact .inl h
    ·simp at h
   ·rintro (h | h)
    ·exact .inl h
    ·left
     simp only [List.mem_cons, List.not_mem_nil, or_false] at h
     rw [h, ← hg, h2.2, hg1]
     refine List.mem_iff_getElem.2 ⟨n - 1, by simp; omega, by simp⟩
theorem cut_rising (m : List Pr) (hm : Sorted' m) (n : Nat) (hn : n ≤ m.length) : Rising (Lib.compactUpTo m.toArray n) := by
 induction n with
 | zero => simp [Lib.compactUpTo, Rising]
 | succ n ih =>
  have hn' : n < m.length := by omega
  have hg : m.toArray[n]! = m[n] := by simp [hn']
  rw [Lib.compactUpTo_succ]
  cases hk : Lib.keeps m.toArray n with
  | false => simpa using ih (by omega)
  | true =>
   rw [if_pos rfl, hg]
   refine List.pairwise_append.2 ⟨ih (by omega), by simp, fun x hx y hy => ?_⟩
   simp only [List.mem_cons, List.not_mem_nil, or_false] at hy
   subst hy
   have hx' := (cut_mem m n (by omega) x).1 hx
   obtain ⟨i, hi, rfl⟩ := List.mem_iff_getElem.1 hx'
   have hi' : i < n := by simp at hi; omega
   rw [List.getElem_take]
   have hord : ∀ a b (ha : a < b) (hb : b < m.length), ltPr m[b] (m[a]'(by omega)) = false := fun a b ha hb => List.pairwise_iff_getElem.1 hm a b (by omega) hb ha
   have hlast : ltPr (m[n - 1]'(by omega)) m[n] = true := by
    refine lt_of_not (hord (n - 1) n (by omega) hn') (fun e => ?_)
    simp only [Lib.keeps, decide_eq_true_eq] at hk
    rcases hk with h | h
    ·omega
    ·apply h
     have : n - 1 < m.length := by omega
     rw [hg]
     rw [List.getElem!_toArray, getElem!_pos m (n - 1) this]
     exact e.symm
   by_cases e : i = n - 1
   ·subst e; exact hlast
   ·cases h : ltPr m[i] m[n] with
    | true => rfl
    | false =>
     have h1 := hord i (n - 1) (by omega) (by omega)
     by_cases e2 : m[i]'(by omega) = m[n - 1]'(by omega)
     ·rw [e2] at h; rw [h] at hlast; cases hlast
     ·have := lt_trans' (lt_of_not h1 e2) hlast
      rw [this] at h; cases h
theorem sortPr_mem (l : List Pr) (x : Pr) : x ∈ sortPr l ↔ x ∈ l := by
 unfold sortPr Lib.compact
 rw [cut_mem _ _ (Nat.le_refl _), List.take_length]
 exact List.mem_mergeSort
theorem sortPr_rising (l : List Pr) : Rising (sortPr l) := cut_rising _ (ms_sorted l) _ (Nat.le_refl _)
theorem sortPr_len (l : List Pr) : (sortPr l).length = l.length ↔ l.Nodup := by
 constructor
 ·intro h
  have hp : (l.mergeSort fun x y => !ltPr y x).Perm l := List.mergeSort_perm _ _
  have hs := ms_sorted l
  generalize hm : (l.mergeSort fun x y => !ltPr y x) = m at hp hs
  have hml : m.length = l.length := hp.length_eq
  have e : sortPr l = Lib.compact m := by unfold sortPr; rw [hm]
  rw [e] at h
  have hall : ∀ j, j < m.length → Lib.keeps m.toArray j = true := by
   have hl : ∀ n, n ≤ m.length → (Lib.compactUpTo m.toArray n).length ≤ n ∧ ((Lib.compactUpTo m.toArray n).length = n → ∀ j, j < n → Lib.keeps m.toArray j = true) := by
    intro n
    induction n with
    | zero => intro _; exact ⟨by simp [Lib.compactUpTo], fun _ j hj => by omega⟩
    | succ n ih =>
     intro hn
     obtain ⟨h1, h2⟩ := ih (by omega)
     rw [Lib.compactUpTo_succ]
     cases hk : Lib.keeps m.toArray n with
     | true =>
      refine ⟨by simp; omega, fun h3 j hj => ?_⟩
      by_cases e : j = n
      ·subst e; exact hk
      ·exact h2 (by simp at h3; omega) j (by omega)
     | false => exact ⟨by simp; omega, fun h3 => by simp at h3; omega⟩
   exact (hl m.length (Nat.le_refl _)).2 (by unfold Lib.compact at h; omega)
  have hc : Lib.compact m = m := Lib.compact_all m hall
  have := cut_rising m hs m.length (Nat.le_refl _)
  have hr : Rising m := by
   have h3 : Lib.compactUpTo m.toArray m.length = m := hc
   rwa [h3] at this
  exact hp.nodup_iff.1 (rising_nodup hr)
 ·intro h
  have h1 : (sortPr l).Nodup := rising_nodup (sortPr_rising l)
  have hp : (sortPr l).Perm l := (List.perm_ext_iff_of_nodup h1 h).2 (fun x => sortPr_mem l x)
  exact hp.length_eq
theorem sPr_len {T : Type} {to : T → Pr} {of : Pr → T} {l : List T} (h : l.length ≤ 1099511627776) : sortPrE to of l = some ((sortPr (l.map to)).map of) := by
 unfold sortPrE
 rw [chk_pos h]
def prA (a : TAddr) : Pr := (a.xHost, a.xPath)
def ofA (p : Pr) : TAddr := ⟨p.1, p.2⟩
theorem iSort_eq (l : List TAddr) (h : l.length ≤ 1099511627776) : iSortAddrs l = some ((sortPr (l.map prA)).map ofA) := sPr_len h
theorem prA_inj {a b : TAddr} (h : prA a = prA b) : a = b := by
 cases a; cases b
 simp only [prA, Prod.mk.injEq] at h
 rw [h.1, h.2]
theorem nodup_pr (l : List TAddr) : (l.map prA).Nodup ↔ l.Nodup := by
 induction l with
 | nil => simp
 | cons a l ih =>
  rw [List.map_cons, List.nodup_cons, List.nodup_cons, ih]
  constructor
  ·exact fun ⟨h1, h2⟩ => ⟨fun h => h1 (List.mem_map_of_mem h), h2⟩
  ·refine fun ⟨h1, h2⟩ => ⟨fun h => ?_, h2⟩
   obtain ⟨b, hb, e⟩ := List.mem_map.1 h
   rw [prA_inj e] at hb
   exact h1 hb
theorem d_sHas (l : List TAddr) (a : TAddr) (h : l.length ≤ maxLen) : Dec (sHasAddr l a) (a ∈ l) := by
 unfold sHasAddr
 refine Dec.iff (Dec.any (P := fun x => x = a) h (fun i x hx => ?_)) (by simp)
 have hc : ((x.xHost == a.xHost) && ((x.xPath == a.xPath) && true)) = decide (x = a) := TAddr.cmp x a
 rw [hc]
 by_cases c : x = a
 ·rw [decide_eq_true c]; exact ⟨fun h => absurd c h, fun _ => rfl⟩
 ·rw [decide_eq_false c]; exact ⟨fun _ => rfl, fun h => absurd c h⟩
theorem d_iRan (p : TPage) (hs : p.xRan.length ≤ 1048576) : Dec (iRanOnce p) p.xRan.Nodup := by
 unfold iRanOnce
 rw [iSort_eq _ (by omega)]
 refine ⟨_, rfl, ?_⟩
 rw [List.length_map]
 have := sortPr_len (p.xRan.map prA)
 rw [List.length_map, nodup_pr] at this
 rw [← this]
 simp only [beq_iff_eq]
 omega
theorem d_sRan (p : TPage) (hs : p.xRan.length ≤ 1048576) : Dec (sRanOnce p) p.xRan.Nodup := by
 unfold sRanOnce
 refine Dec.iff (Dec.all1 (P := fun i x => ¬ x ∈ (p.xRan.take i)) (by unfold maxLen; omega) (fun i x hx => ?_)) ?_
 ·have hlt := (gs_ hx).1
  rw [chk_pos ⟨by omega, by omega, by omega⟩]
  obtain ⟨c, e1, e2⟩ := d_sHas ((p.xRan.take i).drop 0) x (by simp; unfold maxLen; omega)
  rw [List.drop_zero] at e1 e2
  rw [show ((i : Int).toNat) = i from Int.toNat_natCast i, List.drop_zero, e1, ← e2]
  cases c
  ·exact ⟨fun _ => rfl, fun h => absurd (by simp) h⟩
  ·exact ⟨fun h => absurd rfl h, fun _ => rfl⟩
 ·constructor
  ·intro h
   refine List.pairwise_iff_getElem.2 (fun i j hi hj hij e => ?_)
   refine h j _ (List.getElem?_eq_getElem hj) ?_
   rw [← e]
   exact List.mem_iff_getElem.2 ⟨i, by simp; omega, by simp⟩
  ·intro h i x hx hm
   obtain ⟨j, hj, e⟩ := List.mem_iff_getElem.1 hm
   have hj2 : j < i := by simp at hj; omega
   have hlt := (gs_ hx)
   obtain ⟨hi, hx2⟩ := hlt
   rw [List.getElem_take] at e
   exact List.pairwise_iff_getElem.1 h j i (by omega) hi hj2 (by rw [e, hx2])
theorem d_sHasS (l : List (List UInt8)) (s : List UInt8) (h : l.length ≤ maxLen) : Dec (sl9Has l s) (s ∈ l) := by
 unfold sl9Has
 refine Dec.iff (Dec.any (P := fun x => x = s) h (fun i x hx => ?_)) (by simp)
 by_cases c : x = s
 ·rw [show (x == s) = true by simpa using c]; exact ⟨fun h => absurd c h, fun _ => rfl⟩
 ·rw [show (x == s) = false by simpa using c]; exact ⟨fun _ => rfl, fun h => absurd c h⟩
theorem d_contains (l : List (List UInt8)) (s : List UInt8) (h : l.length ≤ maxLen) : Dec (g_slices_Contains_string_string l s) (s ∈ l) := by
 have key : Ok (g_slices_Index_string_string l s) (fun r => (0 ≤ r ↔ s ∈ l)) := by
  unfold g_slices_Index_string_string
  refine Ok.bind (Q1 := fun z => match z with
   | .inl r => (0 ≤ r ∧ s ∈ l)
   | .inr _ => ¬ s ∈ l) (Ok.for h (fun i _ => ∀ j x, j < i → l[j]? = some x → x ≠ s) (fun j x hj => by omega) (fun i x u hx hi => ?_) (fun u hu => ?_)) (fun r _ hr => ?_)
  ·refine Ok.br (fun c => Ok.ret ⟨by omega, ?_⟩) (fun c => Ok.ret (fun j y hj hy => ?_))
   ·have : s = x := by simpa using c
    rw [this]; exact List.mem_of_getElem? hx
   ·by_cases e : j = i
    ·subst e
     rw [hx] at hy
     injection hy with hy
     subst hy
     have : ¬ s = x := by simpa using c
     exact fun e => this e.symm
    ·exact hi j y (by omega) hy
  ·intro hm
   obtain ⟨j, hj, e⟩ := List.mem_iff_getElem.1 hm
   exact hu j _ hj (List.getElem?_eq_getElem hj) e
  ·cases r with
   | inl r => exact Ok.ret ⟨fun _ => hr.2, fun _ => hr.1⟩
   | inr u => exact Ok.ret ⟨fun h => absurd h (by omega), fun h => absurd h hr⟩
 obtain ⟨r, hr, hq⟩ := key
 unfold g_slices_Contains_string_string
 rw [hr]
 exact ⟨_, rfl, by rw [← hq]; simp⟩
theorem eq_PageSound (p : TPage) (h : p.ok) (hs : p.size ≤ 1048576) : ∃ r, sPageSound p = some r ∧ iPageSound p = some r := by
 have s1 : p.xRan.length ≤ 1048576 := by unfold TPage.size at hs; omega
 have s2 : p.xLog.length ≤ 1048576 := by unfold TPage.size at hs; omega
 have s3 : p.xSlots.length ≤ 1048576 := by unfold TPage.size at hs; omega
 have s4 : p.xMods.length ≤ 1048576 := by unfold TPage.size at hs; omega
 have hb : p.xBuilder.ok := by obtain ⟨_, _, _, _, _, hb, _⟩ := h; exact hb
 obtain ⟨r1, a1, b1⟩ := Dec.same (d_sRan p s1) (d_iRan p s1)
 obtain ⟨r2, a2, b2⟩ := Dec.same (d_sBuilder _ hb) (d_iBuilder _ hb)
 obtain ⟨r3, a3, b3⟩ := Dec.same (d_sHasS p.xLog [108, 111, 97, 100] (by unfold maxLen; omega)) (d_contains p.xLog [108, 111, 97, 100] (by unfold maxLen; omega))
 have e : sPageSound p = iPageSound p := by
  unfold sPageSound iPageSound
  rw [a1, a2, a3, b1, b2, b3]
  rfl
 have key : Ok (iPageSound p) (fun _ => True) := by
  unfold iPageSound
  rw [b1, b2, b3]
  refine Ok.bind (Q1 := fun _ => True) (Ok.for (by unfold maxLen; omega) (fun _ _ => True) trivial (fun i x s _ _ => Ok.br (fun _ => Ok.br (fun _ => Ok.ret trivial) (fun _ => Ok.ret trivial)) (fun _ => Ok.ret trivial)) (fun _ _ => trivial)) (fun r _ _ => ?_)
  cases r with
  | inl r => exact Ok.ret trivial
  | inr r =>
   refine Ok.bind (Q1 := fun _ => True) (Ok.for (by unfold maxLen; omega) (fun _ _ => True) trivial (fun i x s _ _ => Ok.br (fun _ => Ok.br (fun _ => Ok.ret trivial) (fun _ => Ok.ret trivial)) (fun _ => Ok.ret trivial)) (fun _ _ => trivial)) (fun r _ _ => ?_)
   cases r with
   | inl r => exact Ok.ret trivial
   | inr r =>
    have o1 : Ok (iIsParsed p) (fun _ => True) := Ok.br (fun _ => Ok.br (fun _ => Ok.br (fun _ => Ok.ret trivial) (fun _ => Ok.ret trivial)) (fun _ => Ok.ret trivial)) (fun _ => Ok.ret trivial)
    have o2 : Ok (iOpenSlots p) (fun _ => True) := Ok.bind (Q1 := fun _ => True) (Ok.for (by unfold maxLen; omega) (fun i l => l.length ≤ i) (Nat.le_refl 0) (fun i x l hx hi => by
     have := (gs_ hx).1
     exact Ok.br (fun _ => Ok.chk (by omega) (Ok.ret (by simpa using hi))) (fun _ => Ok.ret (Nat.le_succ_of_le hi))) (fun _ _ => trivial)) (fun r _ _ => Ok.ret trivial)
    have o3 : Ok (iOpenMods p) (fun _ => True) := Ok.bind (Q1 := fun _ => True) (Ok.for (by unfold maxLen; omega) (fun i l => l.length ≤ i) (Nat.le_refl 0) (fun i x l hx hi => by
     have := (gs_ hx).1
     exact Ok.br (fun _ => Ok.chk (by omega) (Ok.ret (by simpa using hi))) (fun _ => Ok.ret (Nat.le_succ_of_le hi))) (fun _ _ => trivial)) (fun r _ _ => Ok.ret trivial)
    refine Ok.br (fun _ => Ok.ret trivial) (fun _ => Ok.br (fun _ => Ok.ret trivial) (fun _ => Ok.br (fun _ => Ok.ret trivial) (fun _ => Ok.bind o1 (fun _ _ _ => Ok.br (fun _ => Ok.bind o2 (fun _ _ _ => Ok.br (fun _ => Ok.bind o3 (fun _ _ _ => Ok.br (fun _ => ?_) (fun _ => Ok.ret trivial))) (fun _ => Ok.ret trivial))) (fun _ => Ok.ret trivial)))))
    exact Ok.br (fun _ => Ok.ret trivial) (fun _ => Ok.ret trivial)
 obtain ⟨r, hr, _⟩ := key
 exact ⟨r, by rw [e, hr], hr⟩
def TabP (t : TTab) : Prop := (∀ (i : Nat) (x : TVisit), t.xVisits[i]? = some x → (x.xKept = true → x.xPage.xAddr = x.xAddr)) ∧ (t.xVisits.length : Int) ≤ 6 ∧ ((0 ≤ t.xAt ∧ t.xAt < (t.xVisits.length : Int)) ∨ (t.xVisits.length = 0 ∧ t.xAt = -1))
theorem d_iTab (t : TTab) (h : t.ok) : Dec (iIsTab t) (TabP t) := by
 unfold iIsTab TabP
 refine Dec.all h.1.1 (fun i x hx => ?_) (Dec.andC (by simp) (fun hl => ?_))
 ·rw [TAddr.cmp]
  cases x.xKept with
  | false => exact ⟨fun _ => rfl, fun h => absurd (fun e => by cases e) h⟩
  | true =>
   by_cases c : x.xPage.xAddr = x.xAddr
   ·rw [decide_eq_true c]; exact ⟨fun _ => rfl, fun h => absurd (fun _ => c) h⟩
   ·rw [decide_eq_false c]; exact ⟨fun h => absurd (h rfl) c, fun _ => rfl⟩
 ·have hp : Dec (ihasPresent t) (0 ≤ t.xAt ∧ t.xAt < (t.xVisits.length : Int)) := Dec.and (by simp) (Dec.lit (by simp))
  obtain ⟨c, e1, e2⟩ := hp
  rw [e1, ← e2]
  cases c with
  | true => exact ⟨true, rfl, by simp⟩
  | false =>
   by_cases c0 : t.xVisits.length = 0
   ·rw [show ((t.xVisits.length : Int) == 0) = true by simp only [beq_iff_eq]; omega]
    exact ⟨_, rfl, by simp [c0]⟩
   ·rw [show ((t.xVisits.length : Int) == 0) = false by simp only [beq_eq_false_iff_ne, Ne]; omega]
    exact ⟨_, rfl, by simp only [c0]; simp⟩
theorem d_sTab (t : TTab) (h : t.ok) : Dec (sIsTab t) (TabP t) := by
 unfold sIsTab TabP
 refine Dec.all h.1.1 (fun i x hx => ?_) (Dec.andC (by simp) (fun hl => ?_))
 ·rw [TAddr.cmp]
  cases x.xKept with
  | false => exact ⟨fun _ => rfl, fun h => absurd (fun e => by cases e) h⟩
  | true =>
   by_cases c : x.xPage.xAddr = x.xAddr
   ·rw [decide_eq_true c.symm]; exact ⟨fun _ => rfl, fun h => absurd (fun _ => c) h⟩
   ·rw [decide_eq_false (fun e => c e.symm)]; exact ⟨fun h => absurd (h rfl) c, fun _ => rfl⟩
 ·have hw : IntKind.wrap .i64 ((t.xVisits.length : Int) - 1) = (t.xVisits.length : Int) - 1 := by simp [IntKind.wrap, IntKind.bits, IntKind.signed]; omega
  rw [hw]
  obtain ⟨c, e1, e2⟩ := d_sIn t.xAt 0 ((t.xVisits.length : Int) - 1)
  rw [e1]
  by_cases c0 : t.xVisits.length = 0
  ·rw [show ((t.xVisits.length : Int) == 0) = true by simp only [beq_iff_eq]; omega]
   by_cases a0 : t.xAt = -1
   ·rw [show (t.xAt == -1) = true by simpa using a0]
    exact ⟨true, rfl, by simp [c0, a0]⟩
   ·rw [show (t.xAt == -1) = false by simpa using a0]
    refine ⟨c, rfl, ?_⟩
    rw [e2]
    omega
  ·rw [show ((t.xVisits.length : Int) == 0) = false by simp only [beq_eq_false_iff_ne, Ne]; omega]
   refine ⟨c, rfl, ?_⟩
   rw [e2]
   omega
theorem eq_TabSound (t : TTab) (h : t.ok) (hs : t.size ≤ 1048576) : ∃ r, sTabSound t = some r ∧ iTabSound t = some r := by
  obtain ⟨r2, a2, b2⟩ := Dec.same (d_sTab t h) (d_iTab t h)
  have pg : ∀ (i : Nat) (x : TVisit), t.xVisits[i]? = some x → ∃ r, sPageSound x.xPage = some r ∧ iPageSound x.xPage = some r := fun i x hx => by
    have hm := List.mem_of_getElem? hx
    have hv := h.1.2 x hm
    have := sumL_mem (f := TVisit.size) hm
    refine eq_PageSound _ hv.2.1 ?_
    have hxp : x.xPage.size ≤ TVisit.size x := by unfold TVisit.size; omega
    unfold TTab.size at hs
    omega
  have body : ∀ (i : Nat) (x : TVisit), t.xVisits[i]? = some x → ∃ r : Unit ⊕ (Unit ⊕ Unit), ∀ (f : TPage → Option Bool), (f = sPageSound ∨ f = iPageSound) → br x.xKept (br (decide ((x.xPage.xBuilder.xNodes.length : Int) > 0)) ((f x.xPage).bind fun (r3 : Bool) => br (!r3) (some (.inr (.inl ()))) (some (.inl ()))) (some (.inl ()))) (some (.inl ())) = some r := fun i x hx => by
    obtain ⟨c, e1, e2⟩ := pg i x hx
    cases x.xKept with
    | false => exact ⟨_, fun f _ => rfl⟩
    | true =>
      cases decide ((x.xPage.xBuilder.xNodes.length : Int) > 0) with
      | false => exact ⟨_, fun f _ => rfl⟩
      | true =>
        cases c with
        | false => exact ⟨.inr (.inl ()), fun f hf => by rcases hf with rfl | rfl; · rw [e1]; rfl
                                                         · rw [e2]; rfl⟩
        | true => exact ⟨.inl (), fun f hf => by rcases hf with rfl | rfl; · rw [e1]; rfl
                                                 · rw [e2]; rfl⟩
  have loop : ∀ (zs : List TVisit) (i : Nat), t.xVisits.drop i = zs → ∃ r : Unit ⊕ Unit, ∀ (f : TPage → Option Bool), (f = sPageSound ∨ f = iPageSound) →
      forA (fun (_ : Nat) (x : TVisit) (_ : Unit) => (br x.xKept (br (decide ((x.xPage.xBuilder.xNodes.length : Int) > 0)) ((f x.xPage).bind fun (r3 : Bool) => br (!r3) (some (.inr (.inl ()))) (some (.inl ()))) (some (.inl ()))) (some (.inl ())) : Option (Unit ⊕ (Unit ⊕ Unit)))) (fun (_ : Unit) => (.inr () : Unit ⊕ Unit)) i zs () = some r := by
    intro zs
    induction zs with
    | nil => intro i _; exact ⟨_, fun f _ => rfl⟩
    | cons z zs ih =>
      intro i hd
      have hz : t.xVisits[i]? = some z := by
        have := congrArg (fun l => l[0]?) hd
        simpa using this
      have hd' : t.xVisits.drop (i + 1) = zs := by rw [← List.tail_drop, hd]; rfl
      obtain ⟨r, hr⟩ := body i z hz
      cases r with
      | inl u =>
        obtain ⟨q, hq⟩ := ih (i + 1) hd'
        exact ⟨q, fun f hf => by rw [forA, hr f hf]; exact hq f hf⟩
      | inr u => exact ⟨u, fun f hf => by rw [forA, hr f hf]⟩
  obtain ⟨r, hr⟩ := loop t.xVisits 0 rfl
  have hl : t.xVisits.length ≤ maxLen := h.1.1
  have both : ∀ (f : TPage → Option Bool) (g : Option Bool), (f = sPageSound ∨ f = iPageSound) → g = some r2 →
      ((forE t.xVisits (fun (_ : Nat) (x : TVisit) (_ : Unit) => (br x.xKept (br (decide ((x.xPage.xBuilder.xNodes.length : Int) > 0)) ((f x.xPage).bind fun (r3 : Bool) => br (!r3) (some (.inr (.inl ()))) (some (.inl ()))) (some (.inl ()))) (some (.inl ())) : Option (Unit ⊕ (Unit ⊕ Unit)))) (fun (_ : Unit) => (.inr () : Unit ⊕ Unit)) ()).bind (Sum.elim (fun _ => some false) (fun _ => g.bind fun r => some r))) = (match r with
      | .inl _ => some false
      | .inr _ => some r2) := by
    intro f g hf hg
    unfold forE
    rw [if_pos hl, hr f hf, hg]
    cases r <;> rfl
  have e1 := both sPageSound (sIsTab t) (.inl rfl) a2
  have e2 := both iPageSound (iIsTab t) (.inr rfl) b2
  cases r with
  | inl u => exact ⟨false, e1, e2⟩
  | inr u => exact ⟨r2, e1, e2⟩
theorem eq_IsNet (n : TNet) (h : n.ok) (hs : n.size ≤ 1048576) : ∃ r, sIsNet n = some r ∧ iIsNet n = some r := by
 obtain ⟨hv, hc, _⟩ := h
 have hcs : n.xCache.size ≤ 1048576 := by unfold TNet.size at hs; omega
 have hvs : sumL TServer.size n.xServers ≤ 1048576 := by unfold TNet.size at hs; omega
 have d1 : Dec (sIsNet n) (ServersP n.xServers ∧ CacheP n.xCache ∧ n.xLog.length ≤ (400 : Int).toNat ∧ (0 ≤ n.xNow ∧ n.xNow ≤ 999999998000)) :=
  Dec.bindP (d_sServers1 _ hv hvs) (fun _ => Dec.bindP (d_sCache _ hc hcs) (fun _ => Dec.and (fin_nat (by decide)) (Dec.bindE (d_in _ _ _))))
 have d2 : Dec (iIsNet n) (ServersP n.xServers ∧ CacheP n.xCache ∧ n.xLog.length ≤ (400 : Int).toNat ∧ (0 ≤ n.xNow ∧ n.xNow ≤ 999999998000)) :=
  Dec.bindP (d_iServers1 _ hv hvs) (fun _ => Dec.bindP (d_iCache _ hc hcs) (fun _ => Dec.and (fin_nat (by decide)) (Dec.bindE (d_in2 _ _ _))))
 exact Dec.same d1 d2
theorem eq_IsWorld (w : TWorld) (h : w.ok) (hs : w.size ≤ 1048576) : ∃ r, sIsWorld w = some r ∧ iIsWorld w = some r := by
 obtain ⟨hn, ht, _⟩ := h
 have hns : w.xNet.size ≤ 1048576 := by unfold TWorld.size at hs; omega
 obtain ⟨r1, a1, b1⟩ := eq_IsNet w.xNet hn hns
 obtain ⟨r2, a2, b2⟩ := Dec.same (d_sTab w.xTab ht) (d_iTab w.xTab ht)
 unfold sIsWorld iIsWorld
 rw [a1, b1, a2, b2]
 cases r1 with
 | true => exact ⟨r2, rfl, rfl⟩
 | false => exact ⟨false, rfl, rfl⟩
theorem eq_Guesses (n : TNet) (h : n.ok) : ∃ r, sGuessesSound n = some r ∧ iGuessesSound n = some r := by
 obtain ⟨_, _, hl, _⟩ := h
 have own : ∀ x : TSent, Dec (sIsOwnGuess x) (sIsOwnGuess x = some true) := fun x => Dec.own (Ok.br (fun _ => Ok.ret trivial) (fun _ => Ok.ret trivial))
 have d1 : Dec (sGuessesSound n) (∀ (i : Nat) (x : TSent), n.xLog[i]? = some x → sIsOwnGuess x = some true) := Dec.all1 hl.1 (fun i x _ => DecS.call1 (own x))
 have h1 : Ok (g_slices_IndexFunc_Sent_Sent_iGuessesSound_1 n.xLog) (Fst n.xLog (fun x => ¬ sIsOwnGuess x = some true)) := by
  unfold g_slices_IndexFunc_Sent_Sent_iGuessesSound_1
  refine ok_first hl.1 (fun i x hx => ?_)
  obtain ⟨b, e1, e2⟩ := own x
  have e3 : iGuessesSound_1 x = some (!b) := by
   unfold iGuessesSound_1
   rw [show iIsOwnGuess x = some b from e1]
   rfl
  rw [e3, ← e2]
  cases b with
  | true => exact ⟨fun h => absurd rfl h, fun _ => rfl⟩
  | false => exact ⟨fun _ => rfl, fun h => absurd (by simp) h⟩
 obtain ⟨r, e, hr⟩ := h1
 have d2 : Dec (iGuessesSound n) (∀ (i : Nat) (x : TSent), n.xLog[i]? = some x → sIsOwnGuess x = some true) := by
  unfold iGuessesSound g_slices_ContainsFunc_Sent_Sent_iGuessesSound_1
  rw [e]
  refine ⟨!(decide (r ≥ 0)), rfl, ?_⟩
  rcases hr with ⟨rfl, hr⟩ | ⟨i, x, rfl, hx, hq, _⟩
  ·simp only [Bool.not_eq_true', decide_eq_false_iff_not]
   exact ⟨fun _ i x hx => Classical.not_not.1 (hr x (List.mem_of_getElem? hx)), fun _ => by omega⟩
  ·simp only [Bool.not_eq_true', decide_eq_false_iff_not]
   exact ⟨fun h => absurd (by omega) h, fun h => absurd (h i x hx) hq⟩
 exact Dec.same d1 d2
theorem eq_AuditWorld (w : TWorld) (h : w.ok) (hs : w.size ≤ 1048576) : ∃ r, sAuditWorld w = some r ∧ iAuditWorld w = some r := by
 have h0 := h
 obtain ⟨hn, ht, hh, _⟩ := h
 have hns : w.xNet.size ≤ 1048576 := by unfold TWorld.size at hs; omega
 have hts : w.xTab.size ≤ 1048576 := by unfold TWorld.size at hs; omega
 have hps : w.xHidden.xPage.size ≤ 1048576 := by unfold TWorld.size THidden.size at hs; omega
 have hp : w.xHidden.xPage.ok := by
  unfold THidden.ok at hh
  simp only [hh]
 obtain ⟨r1, a1, b1⟩ := eq_IsWorld w h0 hs
 obtain ⟨r2, a2, b2⟩ := eq_TabSound w.xTab ht hts
 obtain ⟨r3, a3, b3⟩ := eq_Guesses w.xNet hn
 obtain ⟨r4, a4, b4⟩ := eq_CacheSound w.xNet hn hns
 obtain ⟨r5, a5, b5⟩ := eq_PageSound w.xHidden.xPage hp hps
 unfold sAuditWorld iAuditWorld
 rw [a1, b1, a2, b2, a3, b3, a4, b4, a5, b5]
 cases r1 with
 | false => exact ⟨_, rfl, rfl⟩
 | true =>
  cases r2 with
  | false => exact ⟨_, rfl, rfl⟩
  | true =>
   cases r3 with
   | false => exact ⟨_, rfl, rfl⟩
   | true =>
    cases r4 with
    | false => exact ⟨_, rfl, rfl⟩
    | true =>
     cases w.xHidden.xReady with
     | false => exact ⟨_, rfl, rfl⟩
     | true => exact ⟨_, rfl, rfl⟩
theorem le_FnExactAuditWorld (w : TWorld) (h : w.ok) : lFnExactAuditWorld w = some true := by
 refine E_sz (n := w.size) (if_pos ⟨by omega, by omega, h⟩) (fun m hm h0 hle => ?_)
 have hs : w.size ≤ 1048576 := by omega
 obtain ⟨r, hr, hi⟩ := eq_AuditWorld w h hs
 exact E_bind (if_pos hs) (E_bind hr (E_bind (if_pos hs) (E_bind hi (E_no (by simp) (E_bind (if_pos hs) (E_bind (if_pos h) (E_no (by simp) rfl)))))))
theorem law4 (a0 : TWorld) (o0 : a0.ok) (k : Bool → Option β) : F4 β (rows kServer TServer.row a0.xNet.xServers) (rows kEntry TEntry.row a0.xNet.xCache.xEntries) (rows kSent TSent.row a0.xNet.xLog) a0.xNet.xNow (rows kVisit TVisit.row a0.xTab.xVisits) a0.xTab.xAt a0.xHidden.xReady a0.xHidden.xPage.xAddr.xHost a0.xHidden.xPage.xAddr.xPath a0.xHidden.xPage.xPolicy.xSet (rStr a0.xHidden.xPage.xPolicy.xScripts) (rStr a0.xHidden.xPage.xPolicy.xStyles) (rStr a0.xHidden.xPage.xPolicy.xImages) a0.xHidden.xPage.xPolicy.xNonce a0.xHidden.xPage.xTok.xRest (rows kToken TToken.row a0.xHidden.xPage.xQueue) a0.xHidden.xPage.xEnded (rows kNode TNode.row a0.xHidden.xPage.xBuilder.xNodes) (rInt a0.xHidden.xPage.xBuilder.xOpen) (rows kSlot TSlot.row a0.xHidden.xPage.xSlots) (rows kModule TModule.row a0.xHidden.xPage.xMods) (rows kAddr TAddr.row a0.xHidden.xPage.xEntries) a0.xHidden.xPage.xBlock a0.xHidden.xPage.xInline a0.xHidden.xPage.xDeferred a0.xHidden.xPage.xEntered (rows kAddr TAddr.row a0.xHidden.xPage.xRan) (rStr a0.xHidden.xPage.xLog) a0.xHidden.xPage.xLoaded (rows kKept TKept.row a0.xHidden.xTaken) (rows kServer TServer.row a0.xHidden.xServers) a0.xHidden.xNow a0.xFast k = k true :=
 ei_lFnExactAuditWorld a0 k true (le_FnExactAuditWorld a0 o0)
end Go.Am
