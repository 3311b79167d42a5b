/-
  The law of IsWorld, in its typed form.
-/
import Derived.Test.YtbpoaadkjjfmgaaGreatDoorEw
import Derived.Test.YtbpoaadkjjfmgaaGreatDoorAmOk
import Derived.Test.YtbpoaadkjjfmgaaGreatDoorAmEq
import Derived.Test.YtbpoaadkjjfmgaaGreatDoorAmMore
set_option linter.unusedVariables false
set_option linter.unusedSimpArgs false
namespace Go.Am
open Go
variable {β : Type}
theorem foldl_join (sep : List UInt8) (r : List (List UInt8)) (x : List UInt8) : r.foldl (fun a y => (a ++ sep) ++ y) x = x ++ Lib.joinTail sep r := by
  induction r generalizing x with
  | nil => simp [Lib.joinTail]
  | cons y r ih =>
    rw [List.foldl_cons, ih]
    simp [Lib.joinTail, List.append_assoc]
theorem ok_IsName (s : List UInt8) (h : okS s) : Ok (iIsName s) (fun b => b = true → s.length ≤ 8) := by
  unfold iIsName
  refine Ok.bind (Q1 := fun _ => True) (Ok.for h (fun _ _ => True) trivial (fun i x s _ _ => ?_) (fun _ _ => trivial)) (fun r _ _ => ?_)
  · exact Ok.br (fun _ => Ok.ret trivial) (fun _ => Ok.br (fun _ => Ok.ret trivial) (fun _ => Ok.ret trivial))
  · cases r with
    | inl r => exact Ok.ret (fun h => by cases h)
    | inr r => exact Ok.bind (Q1 := fun b => b = true → s.length ≤ 8) (Ok.br (fun _ => Ok.ret (fun h => by have := of_decide_eq_true h; omega)) (fun _ => Ok.ret (fun h => by cases h))) (fun r _ h => Ok.ret h)
def Dec (x : Option Bool) (p : Prop) : Prop := ∃ b, x = some b ∧ (b = true ↔ p)
def DecS (x : Option (Unit ⊕ (Unit ⊕ Unit))) (p : Prop) : Prop := (p → x = some (.inl ())) ∧ (¬ p → x = some (.inr (.inl ())))
section
variable {T : Type} {p q : Prop} {X f : Option Bool} {b : Bool}
theorem Dec.iff (h : Dec X p) (e : p ↔ q) : Dec X q := by obtain ⟨b, h1, h2⟩ := h; exact ⟨b, h1, h2.trans e⟩
theorem Dec.lit (h : b = true ↔ p) : Dec (some b) p := ⟨b, rfl, h⟩
theorem Dec.tt : Dec (some true) True := ⟨true, rfl, by simp⟩
theorem Dec.and (hb : b = true ↔ p) (hX : Dec X q) : Dec (br b X (some false)) (p ∧ q) := by
  obtain ⟨c, h1, h2⟩ := hX
  cases b with
  | true => exact ⟨c, h1, by rw [h2]; exact ⟨fun h => ⟨hb.1 rfl, h⟩, fun h => h.2⟩⟩
  | false => exact ⟨false, rfl, ⟨fun h => (by cases h), fun h => by have := hb.2 h.1; cases this⟩⟩
theorem Dec.nand (hb : b = true ↔ p) (hX : Dec X q) : Dec (br (!b) (some false) X) (p ∧ q) := by
  have := Dec.and hb hX
  cases b <;> exact this
theorem Dec.ne {x y : Int} (hX : Dec X q) : Dec (br (x != y) (some false) X) (x = y ∧ q) := Dec.nand (b := x == y) (by simp) hX
theorem Dec.bind (hf : Dec f p) (hX : Dec X q) : Dec (f.bind fun r => br r X (some false)) (p ∧ q) := by
  obtain ⟨c, rfl, h2⟩ := hf
  exact Dec.and h2 hX
theorem Dec.bindE (hf : Dec f p) : Dec (f.bind fun r => some r) p := by
  obtain ⟨c, rfl, h2⟩ := hf
  exact ⟨c, rfl, h2⟩
theorem Dec.len {a b : List T} (hX : a.length = b.length → Dec X q) : Dec (br ((a.length : Int) != (b.length : Int)) (some false) X) (a.length = b.length ∧ q) := by
  rw [len_ne]
  by_cases c : a.length = b.length
  · rw [decide_eq_true c]; exact (hX c).iff ⟨fun h => ⟨c, h⟩, fun h => h.2⟩
  · rw [decide_eq_false c]; exact ⟨false, rfl, ⟨fun h => (by cases h), fun h => absurd h.1 c⟩⟩
theorem Dec.loopK [DecidableEq T] {a b : List T} {body : Nat → T → Unit → Option (Unit ⊕ (Unit ⊕ Unit))} (hl : a.length = b.length) (hm : a.length ≤ maxLen)
    (h : ∀ i x y, a[i]? = some x → b[i]? = some y → DecS (body i x ()) (x = y)) (hX : Dec X q) : Dec ((forE a body (fun _ => (.inr () : Unit ⊕ Unit)) ()).bind (Sum.elim (fun _ => some false) (fun _ => X))) (a = b ∧ q) := by
  rw [for_eqL (.inl ()) hl hm (fun i x y hx hy => by
    obtain ⟨h1, h2⟩ := h i x y hx hy
    by_cases c : x = y
    · rw [if_pos c]; exact h1 c
    · rw [if_neg c]; exact h2 c)]
  by_cases c : a = b
  · rw [if_pos c]; exact hX.iff ⟨fun h => ⟨c, h⟩, fun h => h.2⟩
  · rw [if_neg c]; exact ⟨false, rfl, ⟨fun h => (by cases h), fun h => absurd h.1 c⟩⟩
theorem Dec.loop [DecidableEq T] {a b : List T} {body : Nat → T → Unit → Option (Unit ⊕ (Unit ⊕ Unit))} (hl : a.length = b.length) (hm : a.length ≤ maxLen)
    (h : ∀ i x y, a[i]? = some x → b[i]? = some y → DecS (body i x ()) (x = y)) : Dec ((forE a body (fun _ => (.inr () : Unit ⊕ Unit)) ()).bind (Sum.elim (fun _ => some false) (fun _ => some true))) (a = b) :=
  (Dec.loopK hl hm h Dec.tt).iff (by simp)
theorem Dec.list [DecidableEq T] {a b : List T} {body : Nat → T → Unit → Option (Unit ⊕ (Unit ⊕ Unit))} (hm : a.length ≤ maxLen)
    (h : ∀ i x y, a[i]? = some x → b[i]? = some y → DecS (body i x ()) (x = y)) : Dec (br ((a.length : Int) != (b.length : Int)) (some false) ((forE a body (fun _ => (.inr () : Unit ⊕ Unit)) ()).bind (Sum.elim (fun _ => some false) (fun _ => some true)))) (a = b) :=
  (Dec.len (fun hl => Dec.loop hl hm h)).iff ⟨fun h => h.2, fun h => ⟨by rw [h], h⟩⟩
theorem DecS.get {l : List T} {i : Nat} {y : T} {X : T → Option (Unit ⊕ (Unit ⊕ Unit))} (h : l[i]? = some y) (hX : DecS (X y) p) : DecS ((getI l (i : Int)).bind X) p := by rw [getI_nat h]; exact hX
theorem DecS.iff {X : Option (Unit ⊕ (Unit ⊕ Unit))} (h : DecS X p) (e : p ↔ q) : DecS X q := ⟨fun h2 => h.1 (e.2 h2), fun h2 => h.2 (fun h3 => h2 (e.1 h3))⟩
theorem DecS.tt : DecS (some (.inl ())) True := ⟨fun _ => rfl, fun h => absurd trivial h⟩
theorem DecS.nand {X : Option (Unit ⊕ (Unit ⊕ Unit))} (hb : b = true ↔ p) (hX : DecS X q) : DecS (br (!b) (some (.inr (.inl ()))) X) (p ∧ q) := by
  cases b with
  | true => exact hX.iff ⟨fun h => ⟨hb.1 rfl, h⟩, fun h => h.2⟩
  | false => exact ⟨fun h => (by have := hb.2 h.1; cases this), fun _ => rfl⟩
theorem DecS.flat (hb : b = true ↔ p) : DecS (br (!b) (some (.inr (.inl ()))) (some (.inl ()))) p := (DecS.nand hb DecS.tt).iff (by simp)
theorem DecS.ne {x y : Int} {X : Option (Unit ⊕ (Unit ⊕ Unit))} (hX : DecS X q) : DecS (br (x != y) (some (.inr (.inl ()))) X) (x = y ∧ q) := DecS.nand (b := x == y) (by simp) hX
theorem DecS.call {X : Option (Unit ⊕ (Unit ⊕ Unit))} (hf : Dec f p) (hX : DecS X q) : DecS (f.bind fun r => br (!r) (some (.inr (.inl ()))) X) (p ∧ q) := by
  obtain ⟨c, rfl, h2⟩ := hf
  exact DecS.nand h2 hX
theorem DecS.call1 (hf : Dec f p) : DecS (f.bind fun r => br (!r) (some (.inr (.inl ()))) (some (.inl ()))) p := (DecS.call hf DecS.tt).iff (by simp)
theorem DecS.len {a b : List T} {X : Option (Unit ⊕ (Unit ⊕ Unit))} (hX : a.length = b.length → DecS X q) : DecS (br ((a.length : Int) != (b.length : Int)) (some (.inr (.inl ()))) X) (a.length = b.length ∧ q) := by
  rw [len_ne]
  by_cases c : a.length = b.length
  · rw [decide_eq_true c]; exact (hX c).iff ⟨fun h => ⟨c, h⟩, fun h => h.2⟩
  · rw [decide_eq_false c]; exact ⟨fun h => absurd h.1 c, fun _ => rfl⟩
end
section
variable {T : Type} {p q : Prop} {X f : Option Bool} {b : Bool}
theorem Dec.same {x y : Option Bool} (h : Dec x p) (h' : Dec y p) : ∃ r, x = some r ∧ y = some r := by
  obtain ⟨a, h1, h2⟩ := h
  obtain ⟨c, h3, h4⟩ := h'
  exact ⟨a, h1, by rw [h3]; congr 1; rw [Bool.eq_iff_iff, h2, h4]⟩
theorem Dec.nandC (hb : b = true ↔ p) (hX : p → Dec X q) : Dec (br (!b) (some false) X) (p ∧ q) := by
  cases b with
  | true => exact (hX (hb.1 rfl)).iff ⟨fun h => ⟨hb.1 rfl, h⟩, fun h => h.2⟩
  | false => exact ⟨false, rfl, ⟨fun h => (by cases h), fun h => by have := hb.2 h.1; cases this⟩⟩
theorem Dec.andC (hb : b = true ↔ p) (hX : p → Dec X q) : Dec (br b X (some false)) (p ∧ q) := by
  have := Dec.nandC hb hX
  cases b <;> exact this
theorem Dec.bindP (hf : Dec f p) (hX : p → Dec X q) : Dec (f.bind fun r => br r X (some false)) (p ∧ q) := by
  obtain ⟨c, rfl, h2⟩ := hf
  exact Dec.andC h2 hX
theorem Dec.all {l : List T} {P : Nat → T → Prop} {body : Nat → T → Unit → Option (Unit ⊕ (Unit ⊕ Unit))} (hm : l.length ≤ maxLen) (h : ∀ i x, l[i]? = some x → DecS (body i x ()) (P i x)) (hX : Dec X q) :
    Dec ((forE l body (fun _ => (.inr () : Unit ⊕ Unit)) ()).bind (Sum.elim (fun _ => some false) (fun _ => X))) ((∀ i x, l[i]? = some x → P i x) ∧ q) := by
  have key : ∀ (zs : List T) (i : Nat), l.drop i = zs → i ≤ l.length → ∃ r : Unit ⊕ Unit, forA body (fun _ => (.inr () : Unit ⊕ Unit)) i zs () = some r ∧ ((r = .inr ()) ↔ ∀ j x, i ≤ j → l[j]? = some x → P j x) := by
    intro zs
    induction zs with
    | nil =>
      intro i hd hi
      have := List.drop_eq_nil_iff.1 hd
      exact ⟨.inr (), rfl, by simp; intro j x hj hx; have := (List.getElem?_eq_some_iff.1 hx).1; omega⟩
    | cons z zs ih =>
      intro i hd hi
      have hz : l[i]? = some z := by
        have := congrArg (fun l => l[0]?) hd
        simpa using this
      have hlt := (List.getElem?_eq_some_iff.1 hz).1
      have hd' : l.drop (i + 1) = zs := by rw [← List.tail_drop, hd]; rfl
      obtain ⟨h1, h2⟩ := h i z hz
      by_cases c : P i z
      · obtain ⟨r, h3, h4⟩ := ih (i + 1) hd' (by omega)
        refine ⟨r, by rw [forA, h1 c]; exact h3, h4.trans ⟨fun hr j x hj hx => ?_, fun hr j x hj hx => hr j x (by omega) hx⟩⟩
        by_cases e : j = i
        · subst e; rw [hz] at hx; injection hx with hx; subst hx; exact c
        · exact hr j x (by omega) hx
      · exact ⟨.inl (), by rw [forA, h2 c], by simp; exact ⟨i, Nat.le_refl _, z, hz, c⟩⟩
  obtain ⟨r, h1, h2⟩ := key l 0 rfl (Nat.zero_le _)
  unfold forE
  rw [if_pos hm, h1]
  cases r with
  | inl u => exact ⟨false, rfl, ⟨fun h => (by cases h), fun h => by have := h2.2 (fun j x _ hx => h.1 j x hx); cases this⟩⟩
  | inr u => exact hX.iff ⟨fun h => ⟨fun i x hx => h2.1 rfl i x (Nat.zero_le _) hx, h⟩, fun h => h.2⟩
theorem Dec.all1 {l : List T} {P : Nat → T → Prop} {body : Nat → T → Unit → Option (Unit ⊕ (Unit ⊕ Unit))} (hm : l.length ≤ maxLen) (h : ∀ i x, l[i]? = some x → DecS (body i x ()) (P i x)) :
    Dec ((forE l body (fun _ => (.inr () : Unit ⊕ Unit)) ()).bind (Sum.elim (fun _ => some false) (fun _ => some true))) (∀ i x, l[i]? = some x → P i x) :=
  (Dec.all hm h Dec.tt).iff (by simp)
theorem Dec.any {l : List T} {P : T → Prop} {body : Nat → T → Unit → Option (Unit ⊕ (Unit ⊕ Unit))} (hm : l.length ≤ maxLen) (h : ∀ i x, l[i]? = some x → DecS (body i x ()) (¬ P x)) :
    Dec ((forE l body (fun _ => (.inr () : Unit ⊕ Unit)) ()).bind (Sum.elim (fun _ => some true) (fun _ => some false))) (∃ x ∈ l, P x) := by
  have := Dec.all1 hm h
  obtain ⟨c, h1, h2⟩ := this
  cases hf : forE l body (fun _ => (.inr () : Unit ⊕ Unit)) () with
  | none => rw [hf] at h1; cases h1
  | some r =>
    rw [hf] at h1
    cases r with
    | inl u =>
      have hc : c = false := by injection h1 with h1; exact h1.symm
      refine ⟨true, rfl, ⟨fun _ => ?_, fun _ => rfl⟩⟩
      subst hc
      apply Classical.byContradiction
      intro hn
      have : ∀ i x, l[i]? = some x → ¬ P x := fun i x hx hp => hn ⟨x, List.mem_of_getElem? hx, hp⟩
      have := h2.2 this
      cases this
    | inr u =>
      have hc : c = true := by injection h1 with h1; exact h1.symm
      refine ⟨false, rfl, ⟨fun h => (by cases h), fun ⟨x, hx, hp⟩ => ?_⟩⟩
      obtain ⟨i, hi, rfl⟩ := List.mem_iff_getElem.1 hx
      exact absurd hp (h2.1 hc i _ (List.getElem?_eq_getElem hi))
end
section
variable {T : Type} {p q : Prop} {X f : Option Bool} {b : Bool}
theorem Dec.own (h : Ok f (fun _ => True)) : Dec f (f = some true) := by
  obtain ⟨r, rfl, _⟩ := h
  exact ⟨r, rfl, by simp⟩
theorem DecS.br {X Y : Option (Unit ⊕ (Unit ⊕ Unit))} (h1 : b = true → DecS X p) (h2 : b = false → DecS Y p) : DecS (Go.Am.br b X Y) p := by
  cases b with
  | true => exact h1 rfl
  | false => exact h2 rfl
theorem DecS.yes (h : p) : DecS (some (.inl ())) p := ⟨fun _ => rfl, fun h2 => absurd h h2⟩
theorem DecS.no (h : ¬ p) : DecS (some (.inr (.inl ()))) p := ⟨fun h2 => absurd h2 h, fun _ => rfl⟩
def Fst (l : List T) (Q : T → Prop) (r : Int) : Prop := (r = -1 ∧ ∀ x ∈ l, ¬ Q x) ∨ ∃ (i : Nat) (x : T), r = i ∧ l[i]? = some x ∧ Q x ∧ ∀ (j : Nat) (y : T), j < i → l[j]? = some y → ¬ Q y
theorem Fst.at {l : List T} {Q : T → Prop} {r : Int} (h : Fst l Q r) {i : Nat} {x : T} (hx : l[i]? = some x) (hq : Q x) : r = (i : Int) ↔ ∀ (j : Nat) (y : T), j < i → l[j]? = some y → ¬ Q y := by
  rcases h with ⟨_, h⟩ | ⟨k, y, rfl, hy, hqy, h⟩
  · exact absurd hq (h x (List.mem_of_getElem? hx))
  · constructor
    · intro e
      have : k = i := by omega
      subst this
      exact h
    · intro h2
      by_cases c1 : k < i
      · exact absurd hqy (h2 k y c1 hy)
      · by_cases c2 : i < k
        · exact absurd hq (h i x c2 hx)
        · have : k = i := by omega
          rw [this]
theorem ok_first {l : List T} {Q : T → Prop} {body : Nat → T → Unit → Option (Unit ⊕ (Int ⊕ Unit))} (hm : l.length ≤ maxLen) (h : ∀ (i : Nat) (x : T), l[i]? = some x → (Q x → body i x () = some (.inr (.inl (i : Int)))) ∧ (¬ Q x → body i x () = some (.inl ()))) :
    Ok ((forE l body (fun _ => (.inr () : Int ⊕ Unit)) ()).bind (Sum.elim (fun r => some r) (fun _ => some (-1)))) (Fst l Q) := by
  have key : ∀ (zs : List T) (i : Nat), l.drop i = zs → i ≤ l.length → (∀ (j : Nat) (y : T), j < i → l[j]? = some y → ¬ Q y) → ∃ r, (forA body (fun _ => (.inr () : Int ⊕ Unit)) i zs ()).bind (Sum.elim (fun r => some r) (fun _ => some (-1))) = some r ∧ Fst l Q r := by
    intro zs
    induction zs with
    | nil =>
      intro i hd hi hb
      have := List.drop_eq_nil_iff.1 hd
      refine ⟨-1, rfl, .inl ⟨rfl, fun x hx => ?_⟩⟩
      obtain ⟨j, hj, e⟩ := List.mem_iff_getElem.1 hx
      exact hb j x (by omega) (by rw [← e]; exact List.getElem?_eq_getElem hj)
    | cons z zs ih =>
      intro i hd hi hb
      have hz : l[i]? = some z := by
        have := congrArg (fun l => l[0]?) hd
        simpa using this
      have hlt := (List.getElem?_eq_some_iff.1 hz).1
      by_cases c : Q z
      · refine ⟨(i : Int), ?_, .inr ⟨i, z, rfl, hz, c, hb⟩⟩
        rw [forA, (h i z hz).1 c]
        rfl
      · obtain ⟨r, h1, h2⟩ := ih (i + 1) (by rw [← List.tail_drop, hd]; rfl) (by omega) (fun j y hj hy => by
          by_cases e : j = i
          · subst e
            rw [hz] at hy
            injection hy with hy
            subst hy
            exact c
          · exact hb j y (by omega) hy)
        refine ⟨r, ?_, h2⟩
        rw [forA, (h i z hz).2 c]
        exact h1
  unfold forE
  rw [if_pos hm]
  exact key l 0 rfl (Nat.zero_le _) (fun j y hj => by omega)
theorem DecS.first {l : List T} {Q : T → Prop} {g : Option Int} {i : Nat} {x : T} {X : Option (Unit ⊕ (Unit ⊕ Unit))} (h : Ok g (Fst l Q)) (hx : l[i]? = some x) (hq : Q x) (hX : DecS X q) :
    DecS (g.bind fun r => Go.Am.br (r != (i : Int)) (some (.inr (.inl ()))) X) ((∀ (j : Nat) (y : T), j < i → l[j]? = some y → ¬ Q y) ∧ q) := by
  obtain ⟨r, rfl, hr⟩ := h
  exact (DecS.ne hX).iff (by rw [hr.at hx hq])
theorem DecS.first1 {l : List T} {Q : T → Prop} {g : Option Int} {i : Nat} {x : T} (h : Ok g (Fst l Q)) (hx : l[i]? = some x) (hq : Q x) :
    DecS (g.bind fun r => Go.Am.br (r != (i : Int)) (some (.inr (.inl ()))) (some (.inl ()))) (∀ (j : Nat) (y : T), j < i → l[j]? = some y → ¬ Q y) := (DecS.first h hx hq DecS.tt).iff (by simp)
theorem DecS.below {i : Nat} {Q : Nat → Prop} {body : Nat → Unit → Option (Unit ⊕ (Unit ⊕ Unit))} (hi : (i : Int) ≤ maxLen) (h : ∀ j, j < i → DecS (body j ()) (Q j)) :
    DecS ((forI (i : Int) body (fun _ => (.inr () : Unit ⊕ Unit)) ()).bind (Sum.elim (fun _ => some (.inr (.inl ()))) (fun _ => some (.inl ())))) (∀ j, j < i → Q j) := by
  have key : ∀ (zs : List Unit) (k : Nat), k + zs.length = i → ∃ r : Unit ⊕ Unit, forA (fun j (_ : Unit) s => body j s) (fun _ => (.inr () : Unit ⊕ Unit)) k zs () = some r ∧ ((r = .inr ()) ↔ ∀ j, k ≤ j → j < i → Q j) := by
    intro zs
    induction zs with
    | nil =>
      intro k hk
      simp at hk
      exact ⟨.inr (), rfl, by simp; intro j h1 h2; omega⟩
    | cons z zs ih =>
      intro k hk
      simp at hk
      obtain ⟨h1, h2⟩ := h k (by omega)
      by_cases c : Q k
      · obtain ⟨r, h3, h4⟩ := ih (k + 1) (by omega)
        refine ⟨r, ?_, h4.trans ⟨fun hr j hj hji => ?_, fun hr j hj hji => hr j (by omega) hji⟩⟩
        · rw [forA, h1 c]; exact h3
        · by_cases e : j = k
          · rw [e]; exact c
          · exact hr j (by omega) hji
      · exact ⟨.inl (), by rw [forA, h2 c], by simp; exact ⟨k, Nat.le_refl _, by omega, c⟩⟩
  obtain ⟨r, h1, h2⟩ := key (List.replicate (i : Int).toNat ()) 0 (by simp)
  unfold forI
  rw [if_pos ⟨hi, Int.natCast_nonneg _⟩, h1]
  cases r with
  | inl u => exact ⟨fun hp => (by have := h2.2 (fun j _ hj => hp j hj); cases this), fun _ => rfl⟩
  | inr u => exact ⟨fun _ => rfl, fun hp => absurd (fun j hj => h2.1 rfl j (Nat.zero_le _) hj) hp⟩
end
theorem splitC_cons_ne {c b : UInt8} {l : List UInt8} (h : b ≠ c) : ∃ p ps, splitC c l = p :: ps ∧ splitC c (b :: l) = (b :: p) :: ps := by
  cases hs : splitC c l with
  | nil => exact absurd hs (splitC_ne c l)
  | cons p ps => exact ⟨p, ps, rfl, by rw [splitC, if_neg h, hs]⟩
theorem splitC_free {c : UInt8} : ∀ {x : List UInt8}, ¬ c ∈ x → ∀ y p ps, splitC c y = p :: ps → splitC c (x ++ y) = (x ++ p) :: ps := by
  intro x
  induction x with
  | nil => intro _ y p ps h; exact h
  | cons b x ih =>
    intro hx y p ps h
    have hb : b ≠ c := fun e => hx (by rw [e]; simp)
    have := ih (fun e => hx (List.mem_cons_of_mem _ e)) y p ps h
    rw [List.cons_append, splitC, if_neg hb, this]
    rfl
theorem splitC_sep {c : UInt8} {x : List UInt8} (hx : ¬ c ∈ x) (y : List UInt8) : splitC c (x ++ [c] ++ y) = x :: splitC c y := by
  rw [List.append_assoc, splitC_free hx ([c] ++ y) [] (splitC c y) (by rw [List.singleton_append, splitC, if_pos rfl]), List.append_nil]
theorem splitC_one {c : UInt8} {x : List UInt8} (hx : ¬ c ∈ x) : splitC c x = [x] := by
  have := splitC_free hx [] [] [] rfl
  simpa using this
theorem splitC_no (c : UInt8) : ∀ (s : List UInt8), ∀ p ∈ splitC c s, ¬ c ∈ p := by
  intro s
  induction s with
  | nil => intro p hp; simp [splitC] at hp; subst hp; simp
  | cons b l ih =>
    by_cases h : b = c
    · subst h
      intro p hp
      rw [splitC, if_pos rfl] at hp
      rcases List.mem_cons.1 hp with rfl | hp
      · simp
      · exact ih p hp
    · obtain ⟨p0, ps, e1, e2⟩ := splitC_cons_ne (l := l) h
      intro p hp
      rw [e2] at hp
      rcases List.mem_cons.1 hp with rfl | hp
      · intro hc
        rcases List.mem_cons.1 hc with e | hc
        · exact h e.symm
        · exact ih p0 (by rw [e1]; simp) hc
      · exact ih p (by rw [e1]; exact List.mem_cons_of_mem _ hp)
theorem splitC_mem (c : UInt8) : ∀ (s : List UInt8), ∀ p ∈ splitC c s, ∀ b ∈ p, b ∈ s := by
  intro s
  induction s with
  | nil => intro p hp; simp [splitC] at hp; subst hp; simp
  | cons x l ih =>
    by_cases h : x = c
    · subst h
      intro p hp b hb
      rw [splitC, if_pos rfl] at hp
      rcases List.mem_cons.1 hp with rfl | hp
      · simp at hb
      · exact List.mem_cons_of_mem _ (ih p hp b hb)
    · obtain ⟨p0, ps, e1, e2⟩ := splitC_cons_ne (l := l) h
      intro p hp b hb
      rw [e2] at hp
      rcases List.mem_cons.1 hp with rfl | hp
      · rcases List.mem_cons.1 hb with rfl | hb
        · simp
        · exact List.mem_cons_of_mem _ (ih p0 (by rw [e1]; simp) b hb)
      · exact List.mem_cons_of_mem _ (ih p (by rw [e1]; exact List.mem_cons_of_mem _ hp) b hb)
def lens : List (List UInt8) → Nat
  | [] => 0
  | x :: l => x.length + 1 + lens l
theorem splitC_lens (c : UInt8) : ∀ (s : List UInt8), lens (splitC c s) = s.length + 1 := by
  intro s
  induction s with
  | nil => rfl
  | cons b l ih =>
    by_cases h : b = c
    · rw [splitC, if_pos h]
      simp only [lens, ih, List.length_nil, List.length_cons]
      omega
    · obtain ⟨p0, ps, e1, e2⟩ := splitC_cons_ne (l := l) h
      rw [e1] at ih
      rw [e2]
      simp only [lens, List.length_cons] at ih ⊢
      omega
theorem lens_mem {l : List (List UInt8)} {x : List UInt8} (h : x ∈ l) : x.length + 1 ≤ lens l := by
  induction l with
  | nil => cases h
  | cons y l ih =>
    simp only [lens]
    rcases List.mem_cons.1 h with rfl | h
    · omega
    · have := ih h
      omega
theorem lens_len (l : List (List UInt8)) : l.length ≤ lens l := by
  induction l with
  | nil => exact Nat.le_refl _
  | cons y l ih => simp only [lens, List.length_cons]; omega
theorem lens_tail (l : List (List UInt8)) : lens l.tail ≤ lens l := by
  cases l with
  | nil => exact Nat.le_refl _
  | cons y l => simp only [lens, List.tail_cons]; omega
def words (x : List UInt8) (l : List (List UInt8)) : List UInt8 := l.foldl (fun a y => (a ++ [32]) ++ y) x
theorem words_len (l : List (List UInt8)) : ∀ x, (words x l).length = x.length + lens l := by
  induction l with
  | nil => intro x; rfl
  | cons y l ih =>
    intro x
    show (words ((x ++ [32]) ++ y) l).length = _
    rw [ih]
    simp only [lens, List.length_append, List.length_singleton]
    omega
theorem words_free {c : UInt8} (hc : c ≠ 32) (l : List (List UInt8)) : ∀ x, ¬ c ∈ x → (∀ y ∈ l, ¬ c ∈ y) → ¬ c ∈ words x l := by
  induction l with
  | nil => intro x hx _; exact hx
  | cons y l ih =>
    intro x hx hl
    refine ih ((x ++ [32]) ++ y) (fun h => ?_) (fun z hz => hl z (by simp [hz]))
    rcases List.mem_append.1 h with h | h
    · rcases List.mem_append.1 h with h | h
      · exact hx h
      · exact hc (List.mem_singleton.1 h)
    · exact hl y (by simp) h
theorem words_join (x : List UInt8) (l : List (List UInt8)) : Lib.join (x :: l) [32] = words x l := by
  rw [Lib.join_cons]
  exact (foldl_join [32] l x).symm
def wScript : List UInt8 := [115, 99, 114, 105, 112, 116]
def wStyle : List UInt8 := [115, 116, 121, 108, 101]
def wImg : List UInt8 := [105, 109, 103]
def wNonce : List UInt8 := [110, 111, 110, 99, 101, 32]
def polText (a b c : List (List UInt8)) (x : List UInt8) : List UInt8 := words wScript a ++ [59] ++ (words wStyle b ++ [59] ++ (words wImg c ++ (if x = [] then [] else [59] ++ (wNonce ++ x))))
theorem pol_fourth {s a0 a1 a2 a3 : List UInt8} {rest : List (List UInt8)} (hs : splitC 59 s = a0 :: a1 :: a2 :: a3 :: rest) (hn : ¬ wNonce <+: a3) (x : List UInt8) :
    polText (splitC 32 a0).tail (splitC 32 a1).tail (splitC 32 a2).tail x ≠ s := by
  intro he
  have free : ∀ (w a : List UInt8), a ∈ splitC 59 s → ¬ 59 ∈ w → ¬ 59 ∈ words w (splitC 32 a).tail := fun w a ha hw =>
    words_free (by decide) _ w hw (fun y hy h => splitC_no 59 s a ha (splitC_mem 32 a y (List.mem_of_mem_tail hy) 59 h))
  have f0 := free wScript a0 (by rw [hs]; simp) (by decide)
  have f1 := free wStyle a1 (by rw [hs]; simp) (by decide)
  have f2 := free wImg a2 (by rw [hs]; simp) (by decide)
  unfold polText at he
  generalize words wScript (splitC 32 a0).tail = u0 at he f0
  generalize words wStyle (splitC 32 a1).tail = u1 at he f1
  generalize words wImg (splitC 32 a2).tail = u2 at he f2
  by_cases hx : x = []
  · rw [if_pos hx, List.append_nil] at he
    have := hs
    rw [← he, splitC_sep f0, splitC_sep f1, splitC_one f2] at this
    simp at this
  · rw [if_neg hx] at he
    have h2 := hs
    rw [← he, splitC_sep f0, splitC_sep f1, ← List.append_assoc, splitC_sep f2] at h2
    cases hy : splitC 59 x with
    | nil => exact splitC_ne _ _ hy
    | cons p ps =>
      rw [splitC_free (show ¬ (59 : UInt8) ∈ wNonce by decide) x p ps hy] at h2
      simp only [List.cons.injEq] at h2
      exact hn ⟨p, h2.2.2.2.1⟩
theorem spec_split {s : List UInt8} (c : UInt8) (hs : s.length ≤ 2097152) : sl5Split s (c.toNat : Int) = some (splitC c s) := by
  have key : Ok (sl5Split s (c.toNat : Int)) (fun r => r = splitC c s) := by
    unfold sl5Split
    refine Ok.bind (Q1 := fun r => r = splitC c s) (Ok.while (fun st => ∃ i f : Nat, st.2.2 = (i : Int) ∧ st.2.1 = (f : Int) ∧ st.1.length ≤ i ∧ ((f ≤ i ∧ i ≤ s.length ∧ (¬ c ∈ (s.take i).drop f) ∧ splitC c s = st.1 ++ splitC c (s.drop f)) ∨ (i = s.length + 1 ∧ splitC c s = st.1)))
      (fun st => s.length + 2 - st.2.2.toNat) ?_ ?_) (fun r _ hr => Ok.ret hr)
    · exact ⟨0, 0, rfl, rfl, Nat.le_refl 0, .inl ⟨Nat.le_refl _, Nat.zero_le _, by simp, by simp⟩⟩
    · rintro ⟨out, fr, n⟩ ⟨i, f, h1, h2, h3, h4⟩
      simp only at h1 h2 h3 h4 ⊢
      subst h1
      subst h2
      rcases h4 with ⟨h5, h6, h7, h8⟩ | ⟨h5, h8⟩
      · have ew : IntKind.wrap .i64 ((i : Int) + 1) = ((i + 1 : Nat) : Int) := wrapS (by omega)
        refine Ok.br (fun _ => Ok.br (fun e => ?_) (fun e => ?_)) (fun e => absurd e (by simp; omega))
        · have hi : i = s.length := by
            have : (i : Int) = (s.length : Int) := by simpa using e
            omega
          refine Ok.chk ⟨by omega, by omega, by omega⟩ (Ok.chk ⟨by omega, by omega⟩ (Ok.ret (And.intro ⟨i + 1, i + 1, ew, ew, by simp; omega, .inr ⟨by omega, ?_⟩⟩ ?_)))
          · show splitC c s = out ++ [((s.take ((i : Int).toNat)).drop ((f : Int).toNat))]
            rw [Int.toNat_natCast, Int.toNat_natCast, h8]
            rw [hi, List.take_length] at h7 ⊢
            rw [splitC_one h7]
          · rw [ew]
            show s.length + 2 - (((i + 1 : Nat) : Int)).toNat < s.length + 2 - ((i : Int)).toNat
            rw [Int.toNat_natCast, Int.toNat_natCast]
            omega
        · have hi : i < s.length := by
            have : ¬ (i : Int) = (s.length : Int) := by simpa using e
            omega
          obtain ⟨b, hb⟩ : ∃ b, s[i]? = some b := ⟨_, List.getElem?_eq_getElem hi⟩
          have ht : s.take (i + 1) = s.take i ++ [b] := by
            rw [List.take_add_one, hb]
            rfl
          have hlt : (s.take i).length = i := by simp; omega
          have hd : s.drop f = (s.take i).drop f ++ ([b] ++ s.drop (i + 1)) := by
            have e1 : s.drop i = [b] ++ s.drop (i + 1) := by
              obtain ⟨hi2, e2⟩ := List.getElem?_eq_some_iff.1 hb
              rw [List.drop_eq_getElem_cons hi2, e2]
              rfl
            conv => lhs; rw [← List.take_append_drop i s]
            rw [List.drop_append, hlt, show f - i = 0 by omega, List.drop_zero, e1]
          refine Ok.bind (Ok.getS (Int.natCast_nonneg _) (by simpa using hi)) (fun r _ hr => ?_)
          obtain ⟨b', hb', rfl⟩ := hr
          rw [Int.toNat_natCast, hb] at hb'
          injection hb' with hb'
          subst hb'
          refine Ok.br (fun e => ?_) (fun e => ?_)
          · have hbc : b = c := by
              have : (b.toNat : Int) = (c.toNat : Int) := by simpa using e
              exact UInt8.toNat_inj.1 (by omega)
            subst hbc
            refine Ok.chk ⟨by omega, by omega, by omega⟩ (Ok.chk ⟨by omega, by omega⟩ (Ok.ret (And.intro ⟨i + 1, i + 1, ew, ew, by simp; omega, .inl ⟨Nat.le_refl _, by omega, by simp, ?_⟩⟩ ?_)))
            · show splitC b s = (out ++ [((s.take ((i : Int).toNat)).drop ((f : Int).toNat))]) ++ splitC b (s.drop (i + 1))
              rw [Int.toNat_natCast, Int.toNat_natCast, h8, hd, ← List.append_assoc, splitC_sep h7, List.append_assoc]
              rfl
            · rw [ew]
              show s.length + 2 - (((i + 1 : Nat) : Int)).toNat < s.length + 2 - ((i : Int)).toNat
              rw [Int.toNat_natCast, Int.toNat_natCast]
              omega
          · have hbc : c ≠ b := by
              intro e2
              subst e2
              simp at e
            refine Ok.ret (And.intro ⟨i + 1, f, ew, rfl, (by show out.length ≤ i + 1; omega), .inl ⟨by omega, by omega, ?_, h8⟩⟩ ?_)
            · rw [ht, List.drop_append, hlt, show f - i = 0 by omega, List.drop_zero]
              intro hm
              rcases List.mem_append.1 hm with hm | hm
              · exact h7 hm
              · exact hbc (List.mem_singleton.1 hm)
            · rw [ew]
              show s.length + 2 - (((i + 1 : Nat) : Int)).toNat < s.length + 2 - ((i : Int)).toNat
              rw [Int.toNat_natCast, Int.toNat_natCast]
              omega
      · exact Ok.br (fun e => absurd e (by simp; omega)) (fun _ => Ok.ret h8.symm)
  obtain ⟨r, hr, e⟩ := key
  rw [hr, e]
theorem d_in (n a c : Int) : Dec (sl1In n a c) (a ≤ n ∧ n ≤ c) := Dec.and (by simp) (Dec.lit (by simp))
theorem d_in2 (n a c : Int) : Dec (iInRange n a c) (a ≤ n ∧ n ≤ c) := Dec.and (by simp) (Dec.lit (by simp))
theorem in_eq (n a c : Int) : sl1In n a c = some (decide (a ≤ n) && decide (n ≤ c)) := by
  unfold sl1In
  by_cases h : a ≤ n
  · rw [decide_eq_true (show n ≥ a from h)]; rfl
  · rw [decide_eq_false (show ¬ n ≥ a from h)]; rfl
def Nm (s : List UInt8) : Prop := sIsName s = some true
theorem d_sNm (s : List UInt8) (h : okS s) : Dec (sIsName s) (Nm s) := Dec.own ((ok_IsName s h).mono (fun _ _ _ => trivial))
theorem d_iNm (s : List UInt8) (h : okS s) : Dec (iIsName s) (Nm s) := d_sNm s h
theorem d_sAddr (a : TAddr) (h : a.ok) : Dec (sIsAddr a) (Nm a.xHost ∧ Nm a.xPath) := Dec.bindP (d_sNm _ h.1) (fun _ => Dec.bindE (d_sNm _ h.2.1))
theorem d_iAddr (a : TAddr) (h : a.ok) : Dec (iIsAddr a) (Nm a.xHost ∧ Nm a.xPath) := d_sAddr a h
theorem d_sNames (l : List (List UInt8)) (h : okL okS l) : Dec (sl9Names l) ((∀ x ∈ l, Nm x) ∧ l.length ≤ 4) := by
  unfold sl9Names
  refine Dec.iff (Dec.all (P := fun _ x => Nm x) (q := l.length ≤ 4) h.1 (fun i x hx => DecS.call1 (d_sNm x (h.2 x (List.mem_of_getElem? hx)))) (Dec.lit (by simp; omega))) ?_
  constructor
  · rintro ⟨a, b⟩
    refine ⟨fun x hx => ?_, b⟩
    obtain ⟨i, hi, rfl⟩ := List.mem_iff_getElem.1 hx
    exact a i _ (List.getElem?_eq_getElem hi)
  · exact fun ⟨a, b⟩ => ⟨fun i x hx => a x (List.mem_of_getElem? hx), b⟩
theorem d_iHosts (l : List (List UInt8)) (h : okL okS l) : Dec (iareHosts l) ((∀ x ∈ l, Nm x) ∧ l.length ≤ 4) := by
  have h1 : Ok (g_slices_IndexFunc_string_string_iareHosts_1 l) (Fst l (fun x => ¬ Nm x)) := by
    unfold g_slices_IndexFunc_string_string_iareHosts_1
    refine ok_first h.1 (fun i x hx => ?_)
    obtain ⟨b, e1, e2⟩ := d_iNm x (h.2 x (List.mem_of_getElem? hx))
    have e3 : iareHosts_1 x = some (!b) := by unfold iareHosts_1; rw [e1]; rfl
    rw [e3, ← e2]
    cases b with
    | true => exact ⟨fun h => absurd rfl h, fun _ => rfl⟩
    | false => exact ⟨fun _ => rfl, fun h => absurd (by simp) h⟩
  obtain ⟨r, e, hr⟩ := h1
  have h2 : g_slices_ContainsFunc_string_string_iareHosts_1 l = some (decide (r ≥ 0)) := by
    unfold g_slices_ContainsFunc_string_string_iareHosts_1
    rw [e]
    rfl
  unfold iareHosts
  rw [h2]
  refine Dec.iff (Dec.and (p := l.length ≤ 4) (q := ∀ x ∈ l, Nm x) (by simp; omega) (Dec.lit ?_)) ⟨fun ⟨a, b⟩ => ⟨b, a⟩, fun ⟨a, b⟩ => ⟨b, a⟩⟩
  rcases hr with ⟨rfl, hr⟩ | ⟨i, x, rfl, hx, hq, _⟩
  · simp only [Bool.not_eq_true', decide_eq_false_iff_not]
    exact ⟨fun _ x hx => Classical.not_not.1 (hr x hx), fun _ => by omega⟩
  · simp only [Bool.not_eq_true', decide_eq_false_iff_not]
    exact ⟨fun h => absurd (by omega) h, fun h => absurd (h x (List.mem_of_getElem? hx)) hq⟩
def ValP (s : List UInt8) : Prop := (∀ (i : Nat) (x : UInt8), s[i]? = some x → ((97 ≤ (x.toNat : Int) ∧ (x.toNat : Int) ≤ 122) ∨ (48 ≤ (x.toNat : Int) ∧ (x.toNat : Int) ≤ 57) ∨ (x.toNat : Int) = 47)) ∧ (1 ≤ (s.length : Int) ∧ (s.length : Int) ≤ 20)
theorem d_sValue (s : List UInt8) (h : okS s) : Dec (sIsValue s) (ValP s) := by
  unfold sIsValue ValP
  refine Dec.all h (fun i x hx => ?_) (Dec.bindE (d_in _ _ _))
  repeat' (refine DecS.br (fun h => ?_) (fun h => ?_))
  all_goals simp only [decide_eq_true_eq, decide_eq_false_iff_not, bne_iff_ne, Bool.not_eq_true', beq_eq_false_iff_ne, beq_iff_eq, bne_eq_false_iff_eq, Ne] at *
  all_goals first | exact DecS.yes (by omega) | exact DecS.no (by omega)
theorem d_iValue (s : List UInt8) (h : okS s) : Dec (iIsValue s) (ValP s) := by
  unfold iIsValue ValP
  refine Dec.all h (fun i x hx => ?_) (Dec.bindE (d_in2 _ _ _))
  repeat' (refine DecS.br (fun h => ?_) (fun h => ?_))
  all_goals simp only [decide_eq_true_eq, decide_eq_false_iff_not, bne_iff_ne, Bool.not_eq_true', Bool.not_eq_false', beq_eq_false_iff_ne, beq_iff_eq, bne_eq_false_iff_eq, Ne] at *
  all_goals first | exact DecS.yes (by omega) | exact DecS.no (by omega)
def PolP (a b e : List (List UInt8)) (n : List UInt8) : Prop := ((∀ x ∈ a, Nm x) ∧ a.length ≤ 4) ∧ ((∀ x ∈ b, Nm x) ∧ b.length ≤ 4) ∧ ((∀ x ∈ e, Nm x) ∧ e.length ≤ 4) ∧ (n = [] ∨ ValP n)
theorem Dec.orE {n : List UInt8} {f : Option Bool} {p : Prop} (h : Dec f p) : Dec (Go.Am.br (n == []) (some true) (f.bind fun r => some r)) (n = [] ∨ p) := by
  by_cases c : n = []
  · subst c
    exact ⟨true, rfl, by simp⟩
  · obtain ⟨b, rfl, hb⟩ := h
    have : (n == []) = false := by simpa using c
    rw [this]
    exact ⟨b, rfl, by rw [hb]; simp [c]⟩
theorem d_sPol (a b e : List (List UInt8)) (n : List UInt8) (ha : okL okS a) (hb : okL okS b) (he : okL okS e) (hn : okS n) : Dec (sIsPolicy ⟨true, a, b, e, n⟩) (PolP a b e n) :=
  Dec.bindP (d_sNames a ha) (fun _ => Dec.bindP (d_sNames b hb) (fun _ => Dec.bindP (d_sNames e he) (fun _ => Dec.orE (d_sValue n hn))))
theorem d_iPol (a b e : List (List UInt8)) (n : List UInt8) (ha : okL okS a) (hb : okL okS b) (he : okL okS e) (hn : okS n) : Dec (iIsPolicy ⟨true, a, b, e, n⟩) (PolP a b e n) :=
  Dec.bindP (d_iHosts a ha) (fun _ => Dec.bindP (d_iHosts b hb) (fun _ => Dec.bindP (d_iHosts e he) (fun _ => Dec.orE (d_iValue n hn))))
theorem spec_words (x : List UInt8) (l : List (List UInt8)) (hx : x.length ≤ 8) (hl : lens l ≤ 2097152) : sl9Words x l = some (words x l) := by
  have hn := lens_len l
  have key : Ok (sl9Words x l) (fun r => r = words x l) := by
    unfold sl9Words
    refine Ok.bind (Q1 := fun r => r = words x l) (Ok.for (by unfold maxLen; omega) (fun i s => s = words x (l.take i)) (by simp [words]) (fun i y s hy hs => ?_) (fun s hs => by rw [hs, List.take_length])) (fun r _ hr => Ok.ret hr)
    have hlt := (List.getElem?_eq_some_iff.1 hy).1
    have hle : s.length ≤ 2097160 := by
      rw [hs, words_len]
      have : ∀ (l : List (List UInt8)) (i : Nat), lens (l.take i) ≤ lens l := by
        intro l
        induction l with
        | nil => intro i; simp
        | cons z l ih =>
          intro i
          cases i with
          | zero => simp [lens]
          | succ i =>
            have := ih i
            simp only [List.take_succ_cons, lens]
            omega
      have := this l i
      omega
    have hyl := lens_mem (List.mem_of_getElem? hy)
    refine Ok.chk (by omega) (Ok.chk (by simp; omega) (Ok.ret ?_))
    show (s ++ [32]) ++ y = words x (l.take (i + 1))
    rw [List.take_add_one, hy, hs]
    simp [words, List.foldl_append]
  obtain ⟨r, hr, e⟩ := key
  rw [hr, e]
theorem impl_words (x : List UInt8) (l : List (List UInt8)) (hx : x.length ≤ 8) (hl : lens l ≤ 2097152) : g_strings_Join ([x] ++ l) [32] = some (words x l) := by
  have hn := lens_len l
  have e : Lib.join ([x] ++ l) [32] = words x l := words_join x l
  show joinE ([x] ++ l) [32] = _
  unfold joinE
  rw [e, chk_pos ⟨by simp; omega, by rw [words_len]; omega⟩]
noncomputable def fmtR (a b e : List (List UInt8)) (n : List UInt8) : List UInt8 := by
  classical exact if PolP a b e n then polText a b e n else []
theorem okL_lens {l : List (List UInt8)} (h : lens l ≤ 2097152) : okL okS l := by
  have hn := lens_len l
  refine ⟨by unfold maxLen; omega, fun x hx => ?_⟩
  have := lens_mem hx
  unfold okS maxLen
  omega
theorem sFmt (a b e : List (List UInt8)) (n : List UInt8) (ha : lens a ≤ 2097152) (hb : lens b ≤ 2097152) (he : lens e ≤ 2097152) (hn : n.length ≤ 2097152) : sFormatPolicy ⟨true, a, b, e, n⟩ = some (fmtR a b e n) := by
  obtain ⟨c, h1, h2⟩ := d_sPol a b e n (okL_lens ha) (okL_lens hb) (okL_lens he) (by unfold okS maxLen; omega)
  unfold sFormatPolicy fmtR
  rw [h1]
  cases c with
  | false => rw [if_neg (fun h => by have := h2.2 h; cases this)]; rfl
  | true =>
    rw [if_pos (h2.1 rfl)]
    simp only [Option.bind_some, Bool.not_true, br_false]
    rw [spec_words _ a (by simp) ha, Option.bind_some, spec_words _ b (by simp) hb, Option.bind_some, spec_words _ e (by simp) he]
    have l1 := words_len a [115, 99, 114, 105, 112, 116]
    have l2 := words_len b [115, 116, 121, 108, 101]
    have l3 := words_len e [105, 109, 103]
    simp only [List.length_cons, List.length_nil] at l1 l2 l3
    rw [chk_pos (by omega), chk_pos (by simp; omega), chk_pos (by simp; omega), Option.bind_some, chk_pos (by simp; omega)]
    unfold polText wScript wStyle wImg wNonce
    by_cases c : n = []
    · subst c
      simp only [List.beq_nil_eq, List.isEmpty_nil, Bool.not_true, br_false, if_pos, List.append_nil]
      simp [List.append_assoc]
    · have : (n == []) = false := by simpa using c
      rw [this, if_neg c]
      simp only [Bool.not_false, br_true]
      rw [chk_pos (by simp; omega), chk_pos (by simp; omega)]
      simp [List.append_assoc]
theorem iFmt (a b e : List (List UInt8)) (n : List UInt8) (ha : lens a ≤ 2097152) (hb : lens b ≤ 2097152) (he : lens e ≤ 2097152) (hn : n.length ≤ 2097152) : iFormatPolicy ⟨true, a, b, e, n⟩ = some (fmtR a b e n) := by
  obtain ⟨c, h1, h2⟩ := d_iPol a b e n (okL_lens ha) (okL_lens hb) (okL_lens he) (by unfold okS maxLen; omega)
  have n1 := lens_len a
  have n2 := lens_len b
  have n3 := lens_len e
  unfold iFormatPolicy fmtR
  rw [h1]
  cases c with
  | false => rw [if_neg (fun h => by have := h2.2 h; cases this)]; rfl
  | true =>
    rw [if_pos (h2.1 rfl)]
    simp only [Option.bind_some, Bool.not_true, br_false]
    rw [impl_words _ a (by simp) ha, Option.bind_some, impl_words _ b (by simp) hb, Option.bind_some, impl_words _ e (by simp) he]
    have l1 := words_len a [115, 99, 114, 105, 112, 116]
    have l2 := words_len b [115, 116, 121, 108, 101]
    have l3 := words_len e [105, 109, 103]
    simp only [List.length_cons, List.length_nil] at l1 l2 l3
    rw [chk_pos ⟨by omega, by omega⟩, chk_pos (by omega), chk_pos ⟨by omega, by omega⟩, chk_pos (by simp; omega), chk_pos (by simp; omega), chk_pos ⟨by omega, by omega⟩, Option.bind_some, chk_pos (by simp; omega)]
    unfold polText wScript wStyle wImg wNonce
    by_cases c : n = []
    · subst c
      simp only [List.beq_nil_eq, List.isEmpty_nil, Bool.not_true, br_false, if_pos, List.append_nil]
      simp [List.append_assoc]
    · have : (n == []) = false := by simpa using c
      rw [this, if_neg c]
      simp only [Bool.not_false, br_true]
      rw [chk_pos (by omega), chk_pos (by simp; omega)]
      simp [List.append_assoc]
theorem fmt_ne {s a0 a1 a2 a3 : List UInt8} {rest : List (List UInt8)} (h0 : s ≠ []) (hs : splitC 59 s = a0 :: a1 :: a2 :: a3 :: rest) (hn : ¬ wNonce <+: a3) (x : List UInt8) : fmtR (splitC 32 a0).tail (splitC 32 a1).tail (splitC 32 a2).tail x ≠ s := by
  unfold fmtR
  split
  · exact pol_fourth hs hn x
  · exact fun e => h0 e.symm
theorem iCpy (a b e : List (List UInt8)) (n : List UInt8) (ha : lens a ≤ 2097152) (hb : lens b ≤ 2097152) (he : lens e ≤ 2097152) : icopyPolicy ⟨true, a, b, e, n⟩ = some ⟨true, a, b, e, n⟩ := by
  have n1 := lens_len a
  have n2 := lens_len b
  have n3 := lens_len e
  unfold icopyPolicy
  rw [chk_pos ⟨by simp only []; omega, by simp only []; omega⟩, chk_pos ⟨by simp only []; omega, by simp only []; omega⟩, chk_pos ⟨by simp only []; omega, by simp only []; omega⟩]
  rfl
noncomputable def polB (s : List UInt8) : Bool :=
  if s = [] then true else match splitC 59 s with
    | a0 :: a1 :: a2 :: rest => fmtR (splitC 32 a0).tail (splitC 32 a1).tail (splitC 32 a2).tail (nonceOf rest) == s
    | _ => false
theorem parts_le {s : List UInt8} (hs : s.length ≤ 1048576) {p : List UInt8} (hp : p ∈ splitC 59 s) : p.length ≤ 1048576 ∧ lens (splitC 32 p).tail ≤ 2097152 := by
  have h1 := splitC_le 59 s p hp
  have h2 := lens_tail (splitC 32 p)
  rw [splitC_lens] at h2
  exact ⟨by omega, by omega⟩
theorem trim_le (a b : List UInt8) : (Lib.trimPrefix a b).length ≤ a.length := by
  unfold Lib.trimPrefix
  split <;> simp
theorem polE_eq (s : List UInt8) (hs : s.length ≤ 1048576) : polE (fun a b e n => iFormatPolicy (⟨true, a, b, e, n⟩ : TPolicy)) (fun a b e n => icopyPolicy (⟨true, a, b, e, n⟩ : TPolicy)) s = some (polB s) := by
  unfold polE polB
  by_cases h0 : s = []
  · rw [if_pos h0, if_pos h0]
  · rw [if_neg h0, if_neg h0]
    have hp := fun p hp => parts_le (s := s) hs (p := p) hp
    rcases hr : splitC 59 s with _ | ⟨a0, _ | ⟨a1, _ | ⟨a2, rest⟩⟩⟩
    · rfl
    · rfl
    · rfl
    · rw [hr] at hp
      obtain ⟨_, b0⟩ := hp a0 (by simp)
      obtain ⟨_, b1⟩ := hp a1 (by simp)
      obtain ⟨_, b2⟩ := hp a2 (by simp)
      have hn : (nonceOf rest).length ≤ 2097152 := by
        cases rest with
        | nil => simp [nonceOf]
        | cons a3 rest =>
          have := (hp a3 (by simp)).1
          have h3 := trim_le a3 nonceW
          simp only [nonceOf]
          omega
      simp only [iFmt _ _ _ _ b0 b1 b2 hn, iCpy _ _ _ _ b0 b1 b2, Option.bind_some]
theorem sParse (s : List UInt8) (hs : s.length ≤ 1048576) : Ok (sParsePolicy s) (fun r => r.2 = polB s) := by
  unfold sParsePolicy polB
  by_cases h0 : s = []
  · rw [if_pos h0, h0]
    exact ⟨_, rfl, rfl⟩
  · have hb : (s == []) = false := by simpa using h0
    rw [if_neg h0, hb, br_false, show (59 : Int) = ((59 : UInt8).toNat : Int) from rfl, spec_split 59 (by omega), Option.bind_some]
    have hp := fun p hp => parts_le (s := s) hs (p := p) hp
    rcases hr : splitC 59 s with _ | ⟨a0, _ | ⟨a1, _ | ⟨a2, rest⟩⟩⟩
    · exact ⟨_, rfl, rfl⟩
    · exact ⟨_, rfl, rfl⟩
    · exact ⟨_, rfl, rfl⟩
    · rw [hr] at hp
      obtain ⟨l0, b0⟩ := hp a0 (by simp)
      obtain ⟨l1, b1⟩ := hp a1 (by simp)
      obtain ⟨l2, b2⟩ := hp a2 (by simp)
      have cut : ∀ l : List (List UInt8), ((l.take ((l.length : Int).toNat)).drop 1) = l.tail := fun l => by
        rw [Int.toNat_natCast, List.take_length]
        cases l <;> rfl
      have one : ∀ p : List UInt8, (1 : Int) ≤ ((splitC 32 p).length : Int) := fun p => by
        cases h : splitC 32 p with
        | nil => exact absurd h (splitC_ne _ _)
        | cons x xs => simp only [List.length_cons]; omega
      have w32 : (32 : Int) = ((32 : UInt8).toNat : Int) := rfl
      have tail3 : ∀ x : List UInt8, x.length ≤ 2097152 → ∀ X, X = (fmtR (splitC 32 a0).tail (splitC 32 a1).tail (splitC 32 a2).tail x == s) →
          Ok ((sFormatPolicy (⟨true, (splitC 32 a0).tail, (splitC 32 a1).tail, (splitC 32 a2).tail, x⟩ : TPolicy)).bind fun (r10 : List UInt8) => Go.Am.br (!(r10 == s)) (some ((⟨false, [], [], [], []⟩ : TPolicy), false)) (some ((⟨true, (splitC 32 a0).tail, (splitC 32 a1).tail, (splitC 32 a2).tail, x⟩ : TPolicy), true)))
            (fun r => r.2 = X) := fun x hx X hX => by
        rw [sFmt _ _ _ _ b0 b1 b2 hx, Option.bind_some, hX]
        cases (fmtR (splitC 32 a0).tail (splitC 32 a1).tail (splitC 32 a2).tail x == s) with
        | true => exact ⟨_, rfl, rfl⟩
        | false => exact ⟨_, rfl, rfl⟩
      have n3 : decide (((a0 :: a1 :: a2 :: rest).length : Int) < 3) = false := by simp only [List.length_cons]; exact decide_eq_false (by omega)
      rw [n3, br_false]
      refine Ok.chk ⟨by omega, by simp⟩ ?_
      rw [show getI (a0 :: a1 :: a2 :: rest) (0 : Int) = some a0 from rfl, Option.bind_some, w32, spec_split 32 (by omega), Option.bind_some]
      refine Ok.chk ⟨by omega, one _, by omega⟩ (Ok.chk ⟨by omega, by simp⟩ ?_)
      rw [show getI (a0 :: a1 :: a2 :: rest) (1 : Int) = some a1 from rfl, Option.bind_some, spec_split 32 (by omega), Option.bind_some]
      refine Ok.chk ⟨by omega, one _, by omega⟩ (Ok.chk ⟨by omega, by simp⟩ ?_)
      rw [show getI (a0 :: a1 :: a2 :: rest) (2 : Int) = some a2 from rfl, Option.bind_some, spec_split 32 (by omega), Option.bind_some]
      refine Ok.chk ⟨by omega, one _, by omega⟩ ?_
      simp only [cut]
      cases rest with
      | nil =>
        refine Ok.br (fun e => absurd e (by simp)) (fun _ => ?_)
        exact tail3 [] (by simp) _ rfl
      | cons a3 rest =>
        have l3 := (hp a3 (by simp)).1
        refine Ok.br (fun _ => ?_) (fun e => absurd e (by simp; omega))
        refine Ok.chk ⟨by omega, by simp⟩ ?_
        rw [show getI (a0 :: a1 :: a2 :: a3 :: rest) (3 : Int) = some a3 from rfl, Option.bind_some]
        have hc : ((a3.take ((a3.length : Int).toNat)).drop 6) = a3.drop 6 := by rw [Int.toNat_natCast, List.take_length]
        have done : ∀ x : List UInt8, (wNonce <+: a3 → x = Lib.trimPrefix a3 nonceW) → (fmtR (splitC 32 a0).tail (splitC 32 a1).tail (splitC 32 a2).tail (nonceOf (a3 :: rest)) == s) = (fmtR (splitC 32 a0).tail (splitC 32 a1).tail (splitC 32 a2).tail x == s) := fun x hx => by
          by_cases c : wNonce <+: a3
          · rw [hx c]; rfl
          · have e1 := fmt_ne h0 hr c x
            have e2 := fmt_ne h0 hr c (nonceOf (a3 :: rest))
            rw [show (fmtR (splitC 32 a0).tail (splitC 32 a1).tail (splitC 32 a2).tail x == s) = false by simpa using e1, show (fmtR (splitC 32 a0).tail (splitC 32 a1).tail (splitC 32 a2).tail (nonceOf (a3 :: rest)) == s) = false by simpa using e2]
        have trim : wNonce <+: a3 → Lib.trimPrefix a3 nonceW = a3.drop 6 := fun c => by
          unfold Lib.trimPrefix
          have : Lib.hasPrefix a3 nonceW = true := List.isPrefixOf_iff_prefix.2 c
          rw [if_pos this]
          rfl
        refine Ok.br (fun _ => ?_) (fun e => ?_)
        · refine Ok.chk ⟨by omega, by simp⟩ ?_
          rw [Option.bind_some]
          refine Ok.chk ⟨by omega, ?_, by omega⟩ ?_
          · rename_i e
            have : (a3.length : Int) > 6 := by simpa using e
            omega
          · simp only [hc]
            exact tail3 (a3.drop 6) (by simp; omega) _ (done _ (fun c => (trim c).symm))
        · have e : ¬ (a3.length : Int) > 6 := by simpa using e
          refine tail3 [] (by simp) _ (done _ (fun c => ?_))
          rw [trim c, List.drop_eq_nil_of_le (by omega)]
def TabP (t : TTab) : Prop := (∀ (i : Nat) (x : TVisit), t.xVisits[i]? = some x → (x.xKept = true → x.xPage.xAddr = x.xAddr)) ∧ (t.xVisits.length : Int) ≤ 6 ∧ ((0 ≤ t.xAt ∧ t.xAt < (t.xVisits.length : Int)) ∨ (t.xVisits.length = 0 ∧ t.xAt = -1))
theorem d_iTab (t : TTab) (h : t.ok) : Dec (iIsTab t) (TabP t) := by
  unfold iIsTab TabP
  refine Dec.all h.1.1 (fun i x hx => ?_) (Dec.andC (by simp) (fun hl => ?_))
  · rw [TAddr.cmp]
    cases x.xKept with
    | false => exact ⟨fun _ => rfl, fun h => absurd (fun e => by cases e) h⟩
    | true =>
      by_cases c : x.xPage.xAddr = x.xAddr
      · rw [decide_eq_true c]; exact ⟨fun _ => rfl, fun h => absurd (fun _ => c) h⟩
      · rw [decide_eq_false c]; exact ⟨fun h => absurd (h rfl) c, fun _ => rfl⟩
  · have hp : Dec (ihasPresent t) (0 ≤ t.xAt ∧ t.xAt < (t.xVisits.length : Int)) := Dec.and (by simp) (Dec.lit (by simp))
    obtain ⟨c, e1, e2⟩ := hp
    rw [e1, ← e2]
    cases c with
    | true => exact ⟨true, rfl, by simp⟩
    | false =>
      by_cases c0 : t.xVisits.length = 0
      · rw [show ((t.xVisits.length : Int) == 0) = true by simp only [beq_iff_eq]; omega]
        exact ⟨_, rfl, by simp [c0]⟩
      · rw [show ((t.xVisits.length : Int) == 0) = false by simp only [beq_eq_false_iff_ne, Ne]; omega]
        exact ⟨_, rfl, by simp only [c0]; simp⟩
theorem d_sTab (t : TTab) (h : t.ok) : Dec (sIsTab t) (TabP t) := by
  unfold sIsTab TabP
  refine Dec.all h.1.1 (fun i x hx => ?_) (Dec.andC (by simp) (fun hl => ?_))
  · rw [TAddr.cmp]
    cases x.xKept with
    | false => exact ⟨fun _ => rfl, fun h => absurd (fun e => by cases e) h⟩
    | true =>
      by_cases c : x.xPage.xAddr = x.xAddr
      · rw [decide_eq_true c.symm]; exact ⟨fun _ => rfl, fun h => absurd (fun _ => c) h⟩
      · rw [decide_eq_false (fun e => c e.symm)]; exact ⟨fun h => absurd (h rfl) c, fun _ => rfl⟩
  · have hw : IntKind.wrap .i64 ((t.xVisits.length : Int) - 1) = (t.xVisits.length : Int) - 1 := by simp [IntKind.wrap, IntKind.bits, IntKind.signed]; omega
    rw [hw]
    obtain ⟨c, e1, e2⟩ := (show Dec (sl1In t.xAt 0 ((t.xVisits.length : Int) - 1)) (0 ≤ t.xAt ∧ t.xAt ≤ (t.xVisits.length : Int) - 1) from Dec.and (by simp) (Dec.lit (by simp)))
    rw [e1]
    by_cases c0 : t.xVisits.length = 0
    · rw [show ((t.xVisits.length : Int) == 0) = true by simp only [beq_iff_eq]; omega]
      by_cases a0 : t.xAt = -1
      · rw [show (t.xAt == -1) = true by simpa using a0]
        exact ⟨true, rfl, by simp [c0, a0]⟩
      · rw [show (t.xAt == -1) = false by simpa using a0]
        refine ⟨c, rfl, ?_⟩
        rw [e2]
        omega
    · rw [show ((t.xVisits.length : Int) == 0) = false by simp only [beq_eq_false_iff_ne, Ne]; omega]
      refine ⟨c, rfl, ?_⟩
      rw [e2]
      omega
def RespP (x : TResponse) : Prop := sIsResponse x = some true
theorem eq_Resp (x : TResponse) (hs : x.size ≤ 1048576) : ∃ b, sIsResponse x = some b ∧ iIsResponse x = some b := by
  have hp : x.xPolicy.length ≤ 1048576 := by unfold TResponse.size at hs; omega
  obtain ⟨r, h1, h2⟩ := sParse x.xPolicy hp
  refine ⟨respB (polB x.xPolicy) x.xStatus x.xKind x.xBody.length x.xAge, ?_, ?_⟩
  · unfold sIsResponse respB
    rw [h1, Option.bind_some, in_eq, in_eq, in_eq, h2]
    simp only [Option.bind_some]
    generalize polB x.xPolicy = b
    generalize (decide (100 ≤ x.xStatus) && decide (x.xStatus ≤ 599)) = b1
    generalize (decide (1 ≤ x.xKind) && decide (x.xKind ≤ 5)) = b2
    generalize decide ((x.xBody.length : Int) ≤ 400) = b3
    generalize (decide (0 ≤ x.xAge) && decide (x.xAge ≤ 1000)) = b4
    cases b <;> cases b1 <;> cases b2 <;> cases b3 <;> cases b4 <;> rfl
  · unfold iIsResponse respE
    rw [chk_pos (by omega), polE_eq _ hp]
    rfl
theorem d_sResp (x : TResponse) (hs : x.size ≤ 1048576) : Dec (sIsResponse x) (RespP x) := by
  obtain ⟨b, h, _⟩ := eq_Resp x hs
  exact Dec.own ⟨b, h, trivial⟩
theorem d_iResp (x : TResponse) (hs : x.size ≤ 1048576) : Dec (iIsResponse x) (RespP x) := by
  obtain ⟨b, h, h2⟩ := eq_Resp x hs
  refine ⟨b, h2, ?_⟩
  unfold RespP
  rw [h]
  simp
theorem fin_nat {n : Nat} {k : Int} (h : 0 ≤ k) : decide ((n : Int) ≤ k) = true ↔ n ≤ k.toNat := by
  simp only [decide_eq_true_eq]
  omega
def ServerP (s : TServer) : Prop := (∀ (i : Nat) (x : TFile), s.xFiles[i]? = some x → Nm x.xPath ∧ RespP x.xResponse ∧ ∀ (j : Nat) (y : TFile), j < i → s.xFiles[j]? = some y → ¬ y.xPath = x.xPath) ∧ Nm s.xHost ∧ s.xFiles.length ≤ 10
theorem ok_fileAt (s : TServer) (path : List UInt8) (h : s.xFiles.length ≤ maxLen) : Ok (ifileAt s path) (Fst s.xFiles (fun f => f.xPath = path)) := by
  unfold ifileAt g_slices_IndexFunc_File_File_ifileAt_1
  rw [bind_some']
  refine ok_first h (fun i x hx => ?_)
  unfold ifileAt_1_iptr
  by_cases c : x.xPath = path
  · rw [show (x.xPath == path) = true by simpa using c]; exact ⟨fun _ => rfl, fun h => absurd c h⟩
  · rw [show (x.xPath == path) = false by simpa using c]; exact ⟨fun h => absurd h c, fun _ => rfl⟩
theorem ok_serverAt (l : List TServer) (host : List UInt8) (h : l.length ≤ maxLen) : Ok (iserverAt l host) (Fst l (fun f => f.xHost = host)) := by
  unfold iserverAt g_slices_IndexFunc_Server_Server_iserverAt_1
  rw [bind_some']
  refine ok_first h (fun i x hx => ?_)
  unfold iserverAt_1_iptr
  by_cases c : x.xHost = host
  · rw [show (x.xHost == host) = true by simpa using c]; exact ⟨fun _ => rfl, fun h => absurd c h⟩
  · rw [show (x.xHost == host) = false by simpa using c]; exact ⟨fun h => absurd h c, fun _ => rfl⟩
theorem ok_sServer (l : List TServer) (host : List UInt8) (h : l.length ≤ maxLen) : Ok (sl12Server l host) (Fst l (fun f => f.xHost = host)) := by
  unfold sl12Server
  refine ok_first h (fun i x hx => ?_)
  by_cases c : x.xHost = host
  · rw [show (x.xHost == host) = true by simpa using c]; exact ⟨fun _ => rfl, fun h => absurd c h⟩
  · rw [show (x.xHost == host) = false by simpa using c]; exact ⟨fun h => absurd h c, fun _ => rfl⟩
theorem file_size {s : TServer} {x : TFile} (h : x ∈ s.xFiles) : x.xResponse.size ≤ s.size := by
  have := sumL_mem (f := TFile.size) h
  have e : x.xResponse.size ≤ TFile.size x := by unfold TFile.size; omega
  unfold TServer.size
  omega
theorem d_sServer1 (s : TServer) (h : s.ok) (hs : s.size ≤ 1048576) : Dec (sIsServer s) (ServerP s) := by
  obtain ⟨h1, h2, _⟩ := h
  unfold sIsServer ServerP
  refine Dec.all h2.1 (fun i x hx => ?_) (Dec.bindP (d_sNm _ h1) (fun _ => Dec.lit (fin_nat (by decide))))
  have hm := List.mem_of_getElem? hx
  have hlt := (List.getElem?_eq_some_iff.1 hx).1
  have hl := h2.1
  refine DecS.call (d_sNm _ (h2.2 x hm).1) (DecS.call (d_sResp _ (Nat.le_trans (file_size hm) hs)) ?_)
  refine DecS.iff (DecS.below (Q := fun j => ∀ y, s.xFiles[j]? = some y → ¬ y.xPath = x.xPath) (by unfold maxLen at hl ⊢; omega) (fun j hj => ?_)) ⟨fun h j y hj hy => h j hj y hy, fun h j hj y hy => h j y hj hy⟩
  have hy : s.xFiles[j]? = some (s.xFiles[j]'(by omega)) := List.getElem?_eq_getElem (by omega)
  refine DecS.get hy ?_
  refine DecS.br (fun e => DecS.no ?_) (fun e => DecS.yes ?_)
  · intro h
    exact h _ hy (by simpa using e)
  · intro y hy2
    rw [hy] at hy2
    injection hy2 with hy2
    rw [← hy2]
    simpa using e
theorem d_iServer1 (s : TServer) (h : s.ok) (hs : s.size ≤ 1048576) : Dec (iIsServer s) (ServerP s) := by
  obtain ⟨h1, h2, _⟩ := h
  unfold iIsServer ServerP
  refine Dec.all h2.1 (fun i x hx => ?_) (Dec.bindP (d_iNm _ h1) (fun _ => Dec.lit (fin_nat (by decide))))
  have hm := List.mem_of_getElem? hx
  refine DecS.iff (DecS.call (d_iNm _ (h2.2 x hm).1) (DecS.first (ok_fileAt s x.xPath h2.1) hx rfl (DecS.call1 (d_iResp _ (Nat.le_trans (file_size hm) hs))))) ⟨fun ⟨a, b, c⟩ => ⟨a, c, b⟩, fun ⟨a, b, c⟩ => ⟨a, c, b⟩⟩
def ServersP (l : List TServer) : Prop := (∀ (i : Nat) (x : TServer), l[i]? = some x → ServerP x ∧ ∀ (j : Nat) (y : TServer), j < i → l[j]? = some y → ¬ y.xHost = x.xHost) ∧ l.length ≤ 4
theorem d_sServers1 (l : List TServer) (h : okL TServer.ok l) (hs : sumL TServer.size l ≤ 1048576) : Dec (sAreServers l) (ServersP l) := by
  unfold sAreServers ServersP
  refine Dec.all h.1 (fun i x hx => ?_) (Dec.lit (fin_nat (by decide)))
  have hm := List.mem_of_getElem? hx
  exact DecS.call (d_sServer1 x (h.2 x hm) (Nat.le_trans (sumL_mem (f := TServer.size) hm) hs)) (DecS.first1 (ok_sServer l x.xHost h.1) hx rfl)
theorem d_iServers1 (l : List TServer) (h : okL TServer.ok l) (hs : sumL TServer.size l ≤ 1048576) : Dec (iAreServers l) (ServersP l) := by
  unfold iAreServers ServersP
  refine Dec.all h.1 (fun i x hx => ?_) (Dec.lit (fin_nat (by decide)))
  have hm := List.mem_of_getElem? hx
  exact DecS.call (d_iServer1 x (h.2 x hm) (Nat.le_trans (sumL_mem (f := TServer.size) hm) hs)) (DecS.first1 (ok_serverAt l x.xHost h.1) hx rfl)
theorem ok_entryAt (c : TCache) (top : List UInt8) (a : TAddr) (h : c.xEntries.length ≤ maxLen) : Ok (ientryAt c top a) (Fst c.xEntries (fun e => e.xTop = top ∧ e.xTo = a)) := by
  unfold ientryAt g_slices_IndexFunc_Entry_Entry_ientryAt_1
  rw [bind_some']
  refine ok_first h (fun i x hx => ?_)
  unfold ientryAt_1_iptr_iptr
  rw [TAddr.cmp x.xTo a]
  by_cases c1 : x.xTop = top
  · rw [show (x.xTop == top) = true by simpa using c1]
    by_cases c2 : x.xTo = a
    · rw [decide_eq_true c2]; exact ⟨fun _ => rfl, fun h => absurd ⟨c1, c2⟩ h⟩
    · rw [decide_eq_false c2]; exact ⟨fun h => absurd h.2 c2, fun _ => rfl⟩
  · rw [show (x.xTop == top) = false by simpa using c1]; exact ⟨fun h => absurd h.1 c1, fun _ => rfl⟩
theorem ok_sFind (c : TCache) (top : List UInt8) (a : TAddr) (h : c.xEntries.length ≤ maxLen) : Ok (sl13Find c top a) (Fst c.xEntries (fun e => e.xTop = top ∧ e.xTo = a)) := by
  unfold sl13Find
  refine ok_first h (fun i x hx => ?_)
  rw [TAddr.cmp x.xTo a]
  by_cases c1 : x.xTop = top
  · rw [show (x.xTop == top) = true by simpa using c1]
    by_cases c2 : x.xTo = a
    · rw [decide_eq_true c2]; exact ⟨fun _ => rfl, fun h => absurd ⟨c1, c2⟩ h⟩
    · rw [decide_eq_false c2]; exact ⟨fun h => absurd h.2 c2, fun _ => rfl⟩
  · rw [show (x.xTop == top) = false by simpa using c1]; exact ⟨fun h => absurd h.1 c1, fun _ => rfl⟩
def CacheP (c : TCache) : Prop := (∀ (i : Nat) (x : TEntry), c.xEntries[i]? = some x → Nm x.xTop ∧ (Nm x.xTo.xHost ∧ Nm x.xTo.xPath) ∧ RespP x.xResponse ∧ x.xResponse.xStatus = 200 ∧ ∀ (j : Nat) (y : TEntry), j < i → c.xEntries[j]? = some y → ¬ (y.xTop = x.xTop ∧ y.xTo = x.xTo)) ∧ c.xEntries.length ≤ 100
theorem entry_size {c : TCache} {x : TEntry} (h : x ∈ c.xEntries) : x.xResponse.size ≤ c.size := by
  have := sumL_mem (f := TEntry.size) h
  have e : x.xResponse.size ≤ TEntry.size x := by unfold TEntry.size; omega
  unfold TCache.size
  omega
theorem d_sCache (c : TCache) (h : c.ok) (hs : c.size ≤ 1048576) : Dec (sIsCache c) (CacheP c) := by
  obtain ⟨h, _⟩ := h
  unfold sIsCache CacheP
  refine Dec.all h.1 (fun i x hx => ?_) (Dec.lit (fin_nat (by decide)))
  have hm := List.mem_of_getElem? hx
  obtain ⟨o1, o2, o3, _⟩ := h.2 x hm
  exact DecS.call (d_sNm _ o1) (DecS.call (d_sAddr _ o2) (DecS.call (d_sResp _ (Nat.le_trans (entry_size hm) hs)) (DecS.ne (DecS.first1 (ok_sFind c x.xTop x.xTo h.1) hx ⟨rfl, rfl⟩))))
theorem d_iCache (c : TCache) (h : c.ok) (hs : c.size ≤ 1048576) : Dec (iIsCache c) (CacheP c) := by
  obtain ⟨h, _⟩ := h
  unfold iIsCache CacheP
  refine Dec.all h.1 (fun i x hx => ?_) (Dec.lit (fin_nat (by decide)))
  have hm := List.mem_of_getElem? hx
  obtain ⟨o1, o2, o3, _⟩ := h.2 x hm
  exact DecS.call (d_iNm _ o1) (DecS.call (d_iAddr _ o2) (DecS.call (d_iResp _ (Nat.le_trans (entry_size hm) hs)) (DecS.ne (DecS.first1 (ok_entryAt c x.xTop x.xTo h.1) hx ⟨rfl, rfl⟩))))
theorem eq_IsNet (n : TNet) (h : n.ok) (hs : n.size ≤ 1048576) : ∃ r, sIsNet n = some r ∧ iIsNet n = some r := by
  obtain ⟨hv, hc, _⟩ := h
  have hcs : n.xCache.size ≤ 1048576 := by unfold TNet.size at hs; omega
  have hvs : sumL TServer.size n.xServers ≤ 1048576 := by unfold TNet.size at hs; omega
  have d1 : Dec (sIsNet n) (ServersP n.xServers ∧ CacheP n.xCache ∧ n.xLog.length ≤ (400 : Int).toNat ∧ (0 ≤ n.xNow ∧ n.xNow ≤ 999999998000)) :=
    Dec.bindP (d_sServers1 _ hv hvs) (fun _ => Dec.bindP (d_sCache _ hc hcs) (fun _ => Dec.and (fin_nat (by decide)) (Dec.bindE (d_in _ _ _))))
  have d2 : Dec (iIsNet n) (ServersP n.xServers ∧ CacheP n.xCache ∧ n.xLog.length ≤ (400 : Int).toNat ∧ (0 ≤ n.xNow ∧ n.xNow ≤ 999999998000)) :=
    Dec.bindP (d_iServers1 _ hv hvs) (fun _ => Dec.bindP (d_iCache _ hc hcs) (fun _ => Dec.and (fin_nat (by decide)) (Dec.bindE (d_in2 _ _ _))))
  exact Dec.same d1 d2
theorem eq_IsWorld (w : TWorld) (h : w.ok) (hs : w.size ≤ 1048576) : ∃ r, sIsWorld w = some r ∧ iIsWorld w = some r := by
  obtain ⟨hn, ht, _⟩ := h
  have hns : w.xNet.size ≤ 1048576 := by unfold TWorld.size at hs; omega
  obtain ⟨r1, a1, b1⟩ := eq_IsNet w.xNet hn hns
  obtain ⟨r2, a2, b2⟩ := Dec.same (d_sTab w.xTab ht) (d_iTab w.xTab ht)
  unfold sIsWorld iIsWorld
  rw [a1, b1, a2, b2]
  cases r1 with
  | true => exact ⟨r2, rfl, rfl⟩
  | false => exact ⟨false, rfl, rfl⟩
theorem le_FnExactIsWorld (w : TWorld) (h : w.ok) : lFnExactIsWorld w = some true := by
  refine E_sz (n := w.size) (if_pos ⟨by omega, by omega, h⟩) (fun m hm h0 hle => ?_)
  have hs : w.size ≤ 1048576 := by omega
  obtain ⟨r, hr, hi⟩ := eq_IsWorld w h hs
  exact E_bind (if_pos hs) (E_bind hr (E_bind (if_pos hs) (E_bind hi (E_no (by simp) (E_bind (if_pos hs) (E_bind (if_pos h) (E_no (by simp) rfl)))))))
theorem law3 (a0 : TWorld) (o0 : a0.ok) (k : Bool → Option β) : F3 β (rows kServer TServer.row a0.xNet.xServers) (rows kEntry TEntry.row a0.xNet.xCache.xEntries) (rows kSent TSent.row a0.xNet.xLog) a0.xNet.xNow (rows kVisit TVisit.row a0.xTab.xVisits) a0.xTab.xAt a0.xHidden.xReady a0.xHidden.xPage.xAddr.xHost a0.xHidden.xPage.xAddr.xPath a0.xHidden.xPage.xPolicy.xSet (rStr a0.xHidden.xPage.xPolicy.xScripts) (rStr a0.xHidden.xPage.xPolicy.xStyles) (rStr a0.xHidden.xPage.xPolicy.xImages) a0.xHidden.xPage.xPolicy.xNonce a0.xHidden.xPage.xTok.xRest (rows kToken TToken.row a0.xHidden.xPage.xQueue) a0.xHidden.xPage.xEnded (rows kNode TNode.row a0.xHidden.xPage.xBuilder.xNodes) (rInt a0.xHidden.xPage.xBuilder.xOpen) (rows kSlot TSlot.row a0.xHidden.xPage.xSlots) (rows kModule TModule.row a0.xHidden.xPage.xMods) (rows kAddr TAddr.row a0.xHidden.xPage.xEntries) a0.xHidden.xPage.xBlock a0.xHidden.xPage.xInline a0.xHidden.xPage.xDeferred a0.xHidden.xPage.xEntered (rows kAddr TAddr.row a0.xHidden.xPage.xRan) (rStr a0.xHidden.xPage.xLog) a0.xHidden.xPage.xLoaded (rows kKept TKept.row a0.xHidden.xTaken) (rows kServer TServer.row a0.xHidden.xServers) a0.xHidden.xNow a0.xFast k = k true :=
  ei_lFnExactIsWorld a0 k true (le_FnExactIsWorld a0 o0)
end Go.Am
