/-
  Trees of slices in memory, no block of them twice; trees whose cells hold marks, one number after the other.
-/
import Derived.Test.YthncjpkjmgmdlaaGreatqhAmMore
import Derived.Test.YthncjpkjmgmdlaaGreatqhAmExt3
import Derived.Test.YthncjpkjmgmdlaaGreatqhAmDraw
section
set_option linter.unusedVariables false
set_option linter.unusedSimpArgs false
namespace Go.Am
open Go
variable {β : Type}
noncomputable def mt (k : Nat) : List UInt8 := (lmarkText (k : Int)).getD []
theorem mt_eq (k : Nat) (h : k < 4611686018427387904) : lmarkText (k : Int) = some (mt k) := by
 have : Ok (lmarkText (k : Int)) (fun _ => True) := by
  unfold lmarkText
  refine Ok.br (fun _ => Ok.ret trivial) (fun _ => Ok.bind (Q1 := fun r : List UInt8 => r.length ≤ k) (Ok.while (fun s : Int × List UInt8 => 0 ≤ s.1 ∧ s.2.length + s.1.toNat ≤ k) (fun s => s.1.toNat) ⟨Int.natCast_nonneg _, by simp⟩ (fun s hs => ?_)) (fun r _ hr => Ok.chk (by omega) (Ok.ret trivial)))
  obtain ⟨s1, s2⟩ := s
  obtain ⟨h0, h1⟩ := hs
  dsimp only at h0 h1 ⊢
  refine Ok.br (fun c => ?_) (fun c => Ok.ret (by omega))
  have c : 0 < s1 := by simpa using c
  have ht : Int.tdiv s1 10 = ((s1.toNat / 10 : Nat) : Int) := by
   conv => lhs; rw [show s1 = ((s1.toNat : Nat) : Int) by omega]
   rfl
  have hw : IntKind.wrap .i64 (Int.tdiv s1 10) = ((s1.toNat / 10 : Nat) : Int) := by
   rw [ht]
   simp [IntKind.wrap, IntKind.bits, IntKind.signed]
   omega
  refine Ok.chk (by simp [strI]; omega) (Ok.ret ?_)
  rw [hw]
  refine ⟨⟨Int.natCast_nonneg _, ?_⟩, ?_⟩
  ·simp [strI]; omega
  ·simp; omega
 obtain ⟨r, e, _⟩ := this
 unfold mt
 rw [e]
 rfl
theorem Ok.copy {T : Type} {l : List T} {body : Nat → T → List T → Option (List T ⊕ List T)} (hl : l.length ≤ maxLen) (h : ∀ i x s, l[i]? = some x → i < l.length → s.length = i → Ok (body i x s) (fun z => z = .inl (s ++ [x]))) : Ok (forE l body (fun s => s) []) (fun r => r = l) := by
 refine Ok.for hl (fun i s => s = l.take i) (by simp) (fun i x s hx hs => ?_) (fun s hs => by rw [hs]; exact List.take_length)
 have hi := (gs_ hx).1
 refine Ok.mono (h i x s hx hi (by rw [hs, List.length_take]; omega)) (fun z _ hz => ?_)
 subst hz
 show s ++ [x] = l.take (i + 1)
 rw [hs, List.take_add_one, hx]
 rfl
theorem Ok.eq {α : Type} {x : Option α} {a : α} (h : Ok x (fun r => r = a)) : x = some a := by
 obtain ⟨r, h1, rfl⟩ := h
 exact h1
theorem Ok.is {α γ : Type} {x : Option α} {a : α} {f : α → Option γ} {Q : γ → Prop} (h : x = some a) (h2 : Ok (f a) Q) : Ok (x.bind f) Q := by
 subst h
 exact h2
def Rising (l : List Pr) : Prop := l.Pairwise (fun x y => ltPr x y = true)
theorem rising_ext : ∀ {l m : List Pr}, Rising l → Rising m → (∀ x, x ∈ l ↔ x ∈ m) → l = m := by
 intro l
 induction l with
 | nil =>
  intro m _ _ h
  cases m with
  | nil => rfl
  | cons y m => exact absurd ((h y).2 (by simp)) (by simp)
 | cons x l ih =>
  intro m hl hm h
  cases m with
  | nil => exact absurd ((h x).1 (by simp)) (by simp)
  | cons y m =>
   have hl' := List.pairwise_cons.1 hl
   have hm' := List.pairwise_cons.1 hm
   have hxy : x = y := by
    rcases List.mem_cons.1 ((h x).1 (by simp)) with e | e
    ·exact e
    ·rcases List.mem_cons.1 ((h y).2 (by simp)) with e' | e'
     ·exact e'.symm
     ·have a := hm'.1 x e
      have b := hl'.1 y e'
      rw [lt_asym a] at b; cases b
   subst hxy
   congr 1
   refine ih hl'.2 hm'.2 (fun z => ?_)
   constructor
   ·intro hz
    rcases List.mem_cons.1 ((h z).1 (List.mem_cons_of_mem _ hz)) with e | e
    ·subst e
     have := hl'.1 z hz
     rw [lt_irrefl] at this; cases this
    ·exact e
   ·intro hz
    rcases List.mem_cons.1 ((h z).2 (List.mem_cons_of_mem _ hz)) with e | e
    ·subst e
     have := hm'.1 z hz
     rw [lt_irrefl] at this; cases this
    ·exact e
def Sorted' (m : List Pr) : Prop := m.Pairwise (fun x y => ltPr y x = false)
theorem ms_sorted (l : List Pr) : Sorted' (l.mergeSort fun x y => !ltPr y x) := by
 have := List.pairwise_mergeSort (le := fun x y => !ltPr y x) (fun a b c h1 h2 => by
  simp only [Bool.not_eq_true'] at h1 h2 ⊢
  cases h : ltPr c a with
  | false => rfl
  | true =>
   by_cases e : b = c
   ·subst e; rw [h] at h1; cases h1
   ·have := lt_trans' (lt_of_not h2 e) h
    rw [this] at h1; cases h1) (fun a b => by
  cases h : ltPr b a with
  | false => rfl
  | true => rw [lt_asym h]; rfl) l
 exact this.imp (fun {x y} h => by simpa using h)
theorem cut_mem (m : List Pr) (n : Nat) (hn : n ≤ m.length) (x : Pr) : x ∈ Lib.compactUpTo m.toArray n ↔ x ∈ m.take n := by
 induction n with
 | zero => simp [Lib.compactUpTo]
 | succ n ih =>
  have hn' : n < m.length := by omega
  have hg : m.toArray[n]! = m[n] := by simp [hn']
  rw [Lib.compactUpTo_succ, List.mem_append, ih (by omega), List.take_succ_eq_append_getElem hn', List.mem_append]
  cases hk : Lib.keeps m.toArray n with
  | true => simp [hg]
  | false =>
   have h2 : n ≠ 0 ∧ m.toArray[n]! = m.toArray[n - 1]! := by
    simp only [Lib.keeps, decide_eq_false_iff_not, not_or, Decidable.not_not] at hk
    exact hk
   have hg1 : m.toArray[n - 1]! = m[n - 1] := by
    have : n - 1 < m.length := by omega
    simp [this]
   constructor
   ·rintro (h | h)
    ·exact .inl h
    ·simp at h
   ·rintro (h | h)
    ·exact .inl h
    ·left
     simp only [List.mem_cons, List.not_mem_nil, or_false] at h
     rw [h, ← hg, h2.2, hg1]
     refine List.mem_iff_getElem.2 ⟨n - 1, by simp; omega, by simp⟩
theorem cut_rising (m : List Pr) (hm : Sorted' m) (n : Nat) (hn : n ≤ m.length) : Rising (Lib.compactUpTo m.toArray n) := by
 induction n with
 | zero => simp [Lib.compactUpTo, Rising]
 | succ n ih =>
  have hn' : n < m.length := by omega
  have hg : m.toArray[n]! = m[n] := by simp [hn']
  rw [Lib.compactUpTo_succ]
  cases hk : Lib.keeps m.toArray n with
  | false => simpa using ih (by omega)
  | true =>
   rw [if_pos rfl, hg]
   refine List.pairwise_append.2 ⟨ih (by omega), by simp, fun x hx y hy => ?_⟩
   simp only [List.mem_cons, List.not_mem_nil, or_false] at hy
   subst hy
   have hx' := (cut_mem m n (by omega) x).1 hx
   obtain ⟨i, hi, rfl⟩ := List.mem_iff_getElem.1 hx'
   have hi' : i < n := by simp at hi; omega
   rw [List.getElem_take]
   have hord : ∀ a b (ha : a < b) (hb : b < m.length), ltPr m[b] (m[a]'(by omega)) = false := fun a b ha hb => List.pairwise_iff_getElem.1 hm a b (by omega) hb ha
   have hlast : ltPr (m[n - 1]'(by omega)) m[n] = true := by
    refine lt_of_not (hord (n - 1) n (by omega) hn') (fun e => ?_)
    simp only [Lib.keeps, decide_eq_true_eq] at hk
    rcases hk with h | h
    ·omega
    ·apply h
     have : n - 1 < m.length := by omega
     rw [hg]
     rw [List.getElem!_toArray, getElem!_pos m (n - 1) this]
     exact e.symm
   by_cases e : i = n - 1
   ·subst e; exact hlast
   ·cases h : ltPr m[i] m[n] with
    | true => rfl
    | false =>
     have h1 := hord i (n - 1) (by omega) (by omega)
     by_cases e2 : m[i]'(by omega) = m[n - 1]'(by omega)
     ·rw [e2] at h; rw [h] at hlast; cases hlast
     ·have := lt_trans' (lt_of_not h1 e2) hlast
      rw [this] at h; cases h
theorem sortPr_mem (l : List Pr) (x : Pr) : x ∈ sortPr l ↔ x ∈ l := by
 unfold sortPr Lib.compact
 rw [cut_mem _ _ (Nat.le_refl _), List.take_length]
 exact List.mem_mergeSort
theorem sortPr_rising (l : List Pr) : Rising (sortPr l) := cut_rising _ (ms_sorted l) _ (Nat.le_refl _)
theorem sortPr_eq {l m : List Pr} (hr : Rising m) (h : ∀ x, x ∈ m ↔ x ∈ l) : m = sortPr l := rising_ext hr (sortPr_rising l) (fun x => (h x).trans (sortPr_mem l x).symm)
def Dec (x : Option Bool) (p : Prop) : Prop := ∃ b, x = some b ∧ (b = true ↔ p)
def DecS (x : Option (Unit ⊕ (Unit ⊕ Unit))) (p : Prop) : Prop := (p → x = some (.inl ())) ∧ (¬ p → x = some (.inr (.inl ())))
section
variable {T : Type} {p q : Prop} {X f : Option Bool} {b : Bool}
theorem Dec.iff (h : Dec X p) (e : p ↔ q) : Dec X q := by obtain ⟨b, h1, h2⟩ := h; exact ⟨b, h1, h2.trans e⟩
theorem Dec.lit (h : b = true ↔ p) : Dec (some b) p := ⟨b, rfl, h⟩
theorem Dec.tt : Dec (some true) True := ⟨true, rfl, by simp⟩
theorem Dec.and (hb : b = true ↔ p) (hX : Dec X q) : Dec (br b X (some false)) (p ∧ q) := by
 obtain ⟨c, h1, h2⟩ := hX
 cases b with
 | true => exact ⟨c, h1, by rw [h2]; exact ⟨fun h => ⟨hb.1 rfl, h⟩, fun h => h.2⟩⟩
 | false => exact ⟨false, rfl, ⟨fun h => (by cases h), fun h => by have := hb.2 h.1; cases this⟩⟩
theorem Dec.nand (hb : b = true ↔ p) (hX : Dec X q) : Dec (br (!b) (some false) X) (p ∧ q) := by
 have := Dec.and hb hX
 cases b <;> exact this
theorem Dec.ne {x y : Int} (hX : Dec X q) : Dec (br (x != y) (some false) X) (x = y ∧ q) := Dec.nand (b := x == y) (by simp) hX
theorem Dec.bind (hf : Dec f p) (hX : Dec X q) : Dec (f.bind fun r => br r X (some false)) (p ∧ q) := by
 obtain ⟨c, rfl, h2⟩ := hf
 exact Dec.and h2 hX
theorem Dec.len {a b : List T} (hX : a.length = b.length → Dec X q) : Dec (br ((a.length : Int) != (b.length : Int)) (some false) X) (a.length = b.length ∧ q) := by
 rw [len_ne]
 by_cases c : a.length = b.length
 ·rw [decide_eq_true c]; exact (hX c).iff ⟨fun h => ⟨c, h⟩, fun h => h.2⟩
 ·rw [decide_eq_false c]; exact ⟨false, rfl, ⟨fun h => (by cases h), fun h => absurd h.1 c⟩⟩
theorem Dec.loopK [DecidableEq T] {a b : List T} {body : Nat → T → Unit → Option (Unit ⊕ (Unit ⊕ Unit))} (hl : a.length = b.length) (hm : a.length ≤ maxLen)
  (h : ∀ i x y, a[i]? = some x → b[i]? = some y → DecS (body i x ()) (x = y)) (hX : Dec X q) : Dec ((forE a body (fun _ => (.inr () : Unit ⊕ Unit)) ()).bind (Sum.elim (fun _ => some false) (fun _ => X))) (a = b ∧ q) := by
 rw [for_eqL (.inl ()) hl hm (fun i x y hx hy => by
  obtain ⟨h1, h2⟩ := h i x y hx hy
  by_cases c : x = y
  ·rw [if_pos c]; exact h1 c
  ·rw [if_neg c]; exact h2 c)]
 by_cases c : a = b
 ·rw [if_pos c]; exact hX.iff ⟨fun h => ⟨c, h⟩, fun h => h.2⟩
 ·rw [if_neg c]; exact ⟨false, rfl, ⟨fun h => (by cases h), fun h => absurd h.1 c⟩⟩
theorem Dec.loop [DecidableEq T] {a b : List T} {body : Nat → T → Unit → Option (Unit ⊕ (Unit ⊕ Unit))} (hl : a.length = b.length) (hm : a.length ≤ maxLen)
  (h : ∀ i x y, a[i]? = some x → b[i]? = some y → DecS (body i x ()) (x = y)) : Dec ((forE a body (fun _ => (.inr () : Unit ⊕ Unit)) ()).bind (Sum.elim (fun _ => some false) (fun _ => some true))) (a = b) :=
 (Dec.loopK hl hm h Dec.tt).iff (by simp)
theorem Dec.list [DecidableEq T] {a b : List T} {body : Nat → T → Unit → Option (Unit ⊕ (Unit ⊕ Unit))} (hm : a.length ≤ maxLen)
  (h : ∀ i x y, a[i]? = some x → b[i]? = some y → DecS (body i x ()) (x = y)) : Dec (br ((a.length : Int) != (b.length : Int)) (some false) ((forE a body (fun _ => (.inr () : Unit ⊕ Unit)) ()).bind (Sum.elim (fun _ => some false) (fun _ => some true)))) (a = b) :=
 (Dec.len (fun hl => Dec.loop hl hm h)).iff ⟨fun h => h.2, fun h => ⟨by rw [h], h⟩⟩
theorem DecS.get {l : List T} {i : Nat} {y : T} {X : T → Option (Unit ⊕ (Unit ⊕ Unit))} (h : l[i]? = some y) (hX : DecS (X y) p) : DecS ((getI l (i : Int)).bind X) p := by rw [getI_nat h]; exact hX
theorem DecS.iff {X : Option (Unit ⊕ (Unit ⊕ Unit))} (h : DecS X p) (e : p ↔ q) : DecS X q := ⟨fun h2 => h.1 (e.2 h2), fun h2 => h.2 (fun h3 => h2 (e.1 h3))⟩
theorem DecS.tt : DecS (some (.inl ())) True := ⟨fun _ => rfl, fun h => absurd trivial h⟩
theorem DecS.nand {X : Option (Unit ⊕ (Unit ⊕ Unit))} (hb : b = true ↔ p) (hX : DecS X q) : DecS (br (!b) (some (.inr (.inl ()))) X) (p ∧ q) := by
 cases b with
 | true => exact hX.iff ⟨fun h => ⟨hb.1 rfl, h⟩, fun h => h.2⟩
 | false => exact ⟨fun h => (by have := hb.2 h.1; cases this), fun _ => rfl⟩
theorem DecS.flat (hb : b = true ↔ p) : DecS (br (!b) (some (.inr (.inl ()))) (some (.inl ()))) p := (DecS.nand hb DecS.tt).iff (by simp)
theorem DecS.ne {x y : Int} {X : Option (Unit ⊕ (Unit ⊕ Unit))} (hX : DecS X q) : DecS (br (x != y) (some (.inr (.inl ()))) X) (x = y ∧ q) := DecS.nand (b := x == y) (by simp) hX
theorem DecS.call {X : Option (Unit ⊕ (Unit ⊕ Unit))} (hf : Dec f p) (hX : DecS X q) : DecS (f.bind fun r => br (!r) (some (.inr (.inl ()))) X) (p ∧ q) := by
 obtain ⟨c, rfl, h2⟩ := hf
 exact DecS.nand h2 hX
theorem DecS.len {a b : List T} {X : Option (Unit ⊕ (Unit ⊕ Unit))} (hX : a.length = b.length → DecS X q) : DecS (br ((a.length : Int) != (b.length : Int)) (some (.inr (.inl ()))) X) (a.length = b.length ∧ q) := by
 rw [len_ne]
 by_cases c : a.length = b.length
 ·rw [decide_eq_true c]; exact (hX c).iff ⟨fun h => ⟨c, h⟩, fun h => h.2⟩
 ·rw [decide_eq_false c]; exact ⟨fun h => absurd h.1 c, fun _ => rfl⟩
end
section
variable {T : Type} {p q : Prop} {X f : Option Bool} {b : Bool}
theorem Dec.same {x y : Option Bool} (h : Dec x p) (h' : Dec y p) : ∃ r, x = some r ∧ y = some r := by
 obtain ⟨a, h1, h2⟩ := h
 obtain ⟨c, h3, h4⟩ := h'
 exact ⟨a, h1, by rw [h3]; congr 1; rw [Bool.eq_iff_iff, h2, h4]⟩
theorem Dec.all {l : List T} {P : Nat → T → Prop} {body : Nat → T → Unit → Option (Unit ⊕ (Unit ⊕ Unit))} (hm : l.length ≤ maxLen) (h : ∀ i x, l[i]? = some x → DecS (body i x ()) (P i x)) (hX : Dec X q) :
  Dec ((forE l body (fun _ => (.inr () : Unit ⊕ Unit)) ()).bind (Sum.elim (fun _ => some false) (fun _ => X))) ((∀ i x, l[i]? = some x → P i x) ∧ q) := by
 have key : ∀ (zs : List T) (i : Nat), l.drop i = zs → i ≤ l.length → ∃ r : Unit ⊕ Unit, forA body (fun _ => (.inr () : Unit ⊕ Unit)) i zs () = some r ∧ ((r = .inr ()) ↔ ∀ j x, i ≤ j → l[j]? = some x → P j x) := by
  intro zs
  induction zs with
  | nil =>
   intro i hd hi
   have := List.drop_eq_nil_iff.1 hd
   exact ⟨.inr (), rfl, by simp; intro j x hj hx; have := (gs_ hx).1; omega⟩
  | cons z zs ih =>
   intro i hd hi
   have hz : l[i]? = some z := by
    have := congrArg (fun l => l[0]?) hd
    simpa using this
   have hlt := (gs_ hz).1
   have hd' : l.drop (i + 1) = zs := by rw [← List.tail_drop, hd]; rfl
   obtain ⟨h1, h2⟩ := h i z hz
   by_cases c : P i z
   ·obtain ⟨r, h3, h4⟩ := ih (i + 1) hd' (by omega)
    refine ⟨r, by rw [forA, h1 c]; exact h3, h4.trans ⟨fun hr j x hj hx => ?_, fun hr j x hj hx => hr j x (by omega) hx⟩⟩
    by_cases e : j = i
    ·subst e; rw [hz] at hx; injection hx with hx; subst hx; exact c
    ·exact hr j x (by omega) hx
   ·exact ⟨.inl (), by rw [forA, h2 c], by simp; exact ⟨i, Nat.le_refl _, z, hz, c⟩⟩
 obtain ⟨r, h1, h2⟩ := key l 0 rfl (Nat.zero_le _)
 unfold forE
 rw [if_pos hm, h1]
 cases r with
 | inl u => exact ⟨false, rfl, ⟨fun h => (by cases h), fun h => by have := h2.2 (fun j x _ hx => h.1 j x hx); cases this⟩⟩
 | inr u => exact hX.iff ⟨fun h => ⟨fun i x hx => h2.1 rfl i x (Nat.zero_le _) hx, h⟩, fun h => h.2⟩
theorem Dec.all1 {l : List T} {P : Nat → T → Prop} {body : Nat → T → Unit → Option (Unit ⊕ (Unit ⊕ Unit))} (hm : l.length ≤ maxLen) (h : ∀ i x, l[i]? = some x → DecS (body i x ()) (P i x)) :
  Dec ((forE l body (fun _ => (.inr () : Unit ⊕ Unit)) ()).bind (Sum.elim (fun _ => some false) (fun _ => some true))) (∀ i x, l[i]? = some x → P i x) :=
 (Dec.all hm h Dec.tt).iff (by simp)
theorem Dec.any {l : List T} {P : T → Prop} {body : Nat → T → Unit → Option (Unit ⊕ (Unit ⊕ Unit))} (hm : l.length ≤ maxLen) (h : ∀ i x, l[i]? = some x → DecS (body i x ()) (¬ P x)) :
  Dec ((forE l body (fun _ => (.inr () : Unit ⊕ Unit)) ()).bind (Sum.elim (fun _ => some true) (fun _ => some false))) (∃ x ∈ l, P x) := by
 have := Dec.all1 hm h
 obtain ⟨c, h1, h2⟩ := this
 cases hf : forE l body (fun _ => (.inr () : Unit ⊕ Unit)) () with
 | none => rw [hf] at h1; cases h1
 | some r =>
  rw [hf] at h1
  cases r with
  | inl u =>
   have hc : c = false := by injection h1 with h1; exact h1.symm
   refine ⟨true, rfl, ⟨fun _ => ?_, fun _ => rfl⟩⟩
   subst hc
   apply Classical.byContradiction
   intro hn
   have : ∀ i x, l[i]? = some x → ¬ P x := fun i x hx hp => hn ⟨x, List.mem_of_getElem? hx, hp⟩
   have := h2.2 this
   cases this
  | inr u =>
   have hc : c = true := by injection h1 with h1; exact h1.symm
   refine ⟨false, rfl, ⟨fun h => (by cases h), fun ⟨x, hx, hp⟩ => ?_⟩⟩
   obtain ⟨i, hi, rfl⟩ := List.mem_iff_getElem.1 hx
   exact absurd hp (h2.1 hc i _ (List.getElem?_eq_getElem hi))
end
theorem sPr_len {T : Type} {to : T → Pr} {of : Pr → T} {l : List T} (h : l.length ≤ 1099511627776) : sortPrE to of l = some ((sortPr (l.map to)).map of) := by
 unfold sortPrE
 rw [chk_pos h]
def prA (a : TAddr) : Pr := (a.xHost, a.xPath)
def ofA (p : Pr) : TAddr := ⟨p.1, p.2⟩
theorem iSort_eq (l : List TAddr) (h : l.length ≤ 1099511627776) : iSortAddrs l = some ((sortPr (l.map prA)).map ofA) := sPr_len h
theorem prA_inj {a b : TAddr} (h : prA a = prA b) : a = b := by
 cases a; cases b
 simp only [prA, Prod.mk.injEq] at h
 rw [h.1, h.2]
theorem d_sHas (l : List TAddr) (a : TAddr) (h : l.length ≤ maxLen) : Dec (sHasAddr l a) (a ∈ l) := by
 unfold sHasAddr
 refine Dec.iff (Dec.any (P := fun x => x = a) h (fun i x hx => ?_)) (by simp)
 have hc : ((x.xHost == a.xHost) && ((x.xPath == a.xPath) && true)) = decide (x = a) := TAddr.cmp x a
 rw [hc]
 by_cases c : x = a
 ·rw [decide_eq_true c]; exact ⟨fun h => absurd c h, fun _ => rfl⟩
 ·rw [decide_eq_false c]; exact ⟨fun _ => rfl, fun h => absurd c h⟩
theorem less_cb : ∀ a b : List UInt8, less a b = decide (Lib.compareBytes a b < 0) := by
 intro a
 induction a with
 | nil => intro b; cases b <;> rfl
 | cons x a ih =>
  intro b
  cases b with
  | nil => rfl
  | cons y b =>
   have ih' : Op.bytesLess a b = decide (Lib.compareBytes a b < 0) := ih b
   simp only [less, Lib.compareBytes, Op.bytesLess]
   by_cases h1 : x < y
   ·simp [h1]
   ·by_cases h2 : y < x
    ·simp [h1, h2]
     try (rw [UInt8.lt_iff_toNat_lt] at h1 h2; intro e; subst e; omega)
    ·have e : x = y := by
      apply UInt8.toNat_inj.1
      rw [UInt8.lt_iff_toNat_lt] at h1 h2
      omega
     simp [h1, h2, e, ih']
theorem d_sCmp (a b : TAddr) : Ok (sCompareAddrs a b) (fun r => (r < 0 ↔ ltPr (prA a) (prA b) = true)) := by
 unfold sCompareAddrs
 rw [TAddr.cmp]
 by_cases c : a = b
 ·rw [decide_eq_true c]
  refine Ok.ret ?_
  rw [c, lt_irrefl]
  simp
 ·rw [decide_eq_false c]
  rw [less_cb, less_cb]
  have e : ltPr (prA a) (prA b) = decide ((if Lib.compareBytes a.xHost b.xHost ≠ 0 then Lib.compareBytes a.xHost b.xHost else Lib.compareBytes a.xPath b.xPath) < 0) := rfl
  rw [e]
  by_cases h1 : Lib.compareBytes a.xHost b.xHost < 0
  ·rw [decide_eq_true h1]
   refine Ok.ret ?_
   rw [if_pos (by omega)]
   simp [h1]
  ·rw [decide_eq_false h1]
   by_cases h2 : a.xHost = b.xHost
   ·rw [show (a.xHost == b.xHost) = true by simpa using h2]
    have h3 : Lib.compareBytes a.xHost b.xHost = 0 := by rw [h2]; exact cb_self _
    rw [if_neg (by simpa using h3)]
    by_cases h4 : Lib.compareBytes a.xPath b.xPath < 0
    ·rw [decide_eq_true h4]; exact Ok.ret (by simp)
    ·rw [decide_eq_false h4]; exact Ok.ret (by simp)
   ·rw [show (a.xHost == b.xHost) = false by simpa using h2]
    have h3 : Lib.compareBytes a.xHost b.xHost ≠ 0 := fun e => h2 (cb_eq e)
    refine Ok.ret ?_
    rw [if_pos h3]
    simp [h1]
theorem insert_rising {s : List TAddr} {x : TAddr} {k : Nat} (hr : Rising (s.map prA)) (hx : ¬ x ∈ s) (hk : k ≤ s.length) (h1 : ∀ j y, k ≤ j → s[j]? = some y → ltPr (prA x) (prA y) = true) (h2 : k = 0 ∨ ∃ y, s[k - 1]? = some y ∧ ltPr (prA x) (prA y) = false) :
  Rising ((s.take k ++ [x] ++ s.drop k).map prA) := by
 have hp := List.pairwise_map.1 hr
 have hlow : ∀ y ∈ s.take k, ltPr (prA y) (prA x) = true := by
  intro y hy
  obtain ⟨j, hj, rfl⟩ := List.mem_iff_getElem.1 hy
  have hjk : j < k := by simp at hj; omega
  rw [List.getElem_take]
  rcases h2 with h2 | ⟨z, hz, h2⟩
  ·omega
  ·obtain ⟨hz1, hz2⟩ := gs_ hz
   have hzx : ltPr (prA z) (prA x) = true := lt_of_not h2 (fun e => hx (by rw [← prA_inj e, ← hz2]; exact List.getElem_mem hz1))
   by_cases e : j = k - 1
   ·subst e; rw [hz2]; exact hzx
   ·have := List.pairwise_iff_getElem.1 hp j (k - 1) (by omega) hz1 (by omega)
    rw [hz2] at this
    exact lt_trans' this hzx
 have hhigh : ∀ y ∈ s.drop k, ltPr (prA x) (prA y) = true := by
  intro y hy
  obtain ⟨j, hj, rfl⟩ := List.mem_iff_getElem.1 hy
  refine h1 (k + j) _ (by omega) ?_
  rw [List.getElem_drop, List.getElem?_eq_getElem]
 refine List.pairwise_map.2 (List.pairwise_append.2 ⟨List.pairwise_append.2 ⟨hp.sublist (List.take_sublist _ _), by simp, fun a ha b hb => ?_⟩, hp.sublist (List.drop_sublist _ _), fun a ha b hb => ?_⟩)
 ·rw [List.mem_singleton.1 hb]; exact hlow a ha
 ·rcases List.mem_append.1 ha with ha | ha
  ·exact lt_trans' (hlow a ha) (hhigh b hb)
  ·rw [List.mem_singleton.1 ha]; exact hhigh b hb
theorem sSort_eq (l : List TAddr) (h : l.length ≤ 1048576) : sSortAddrs l = some ((sortPr (l.map prA)).map ofA) := by
 have key : Ok (sSortAddrs l) (fun r => r = (sortPr (l.map prA)).map ofA) := by
  unfold sSortAddrs
  refine Ok.bind (Q1 := fun r => r = (sortPr (l.map prA)).map ofA) (Ok.for (by unfold maxLen; omega) (fun i s => Rising (s.map prA) ∧ (∀ x, x ∈ s ↔ x ∈ l.take i) ∧ s.length ≤ i) ⟨by simp [Rising], by simp, Nat.le_refl _⟩ (fun i x s hx hi => ?_) (fun s hs => ?_)) (fun r _ hr => Ok.ret hr)
  ·obtain ⟨hr, hm, hlen⟩ := hi
   obtain ⟨hil, hix⟩ := gs_ hx
   have htk : l.take (i + 1) = l.take i ++ [x] := by rw [List.take_succ_eq_append_getElem hil, hix]
   obtain ⟨c, e1, e2⟩ := d_sHas s x (by unfold maxLen; omega)
   rw [e1]
   cases c with
   | true =>
    refine Ok.ret ⟨hr, fun y => ?_, by omega⟩
    have := e2.1 rfl
    rw [htk, List.mem_append, ← hm]
    constructor
    ·exact fun h => .inl h
    ·rintro (h | h)
     ·exact h
     ·rw [List.mem_singleton.1 h]; exact this
   | false =>
    have hxs : ¬ x ∈ s := fun hh => by have := e2.2 hh; cases this
    refine Ok.bind (Q1 := fun r : Int => 0 ≤ r ∧ r ≤ s.length ∧ (∀ (j : Nat) y, r ≤ j → s[j]? = some y → ltPr (prA x) (prA y) = true) ∧ (r = 0 ∨ ∃ y, s[r.toNat - 1]? = some y ∧ ltPr (prA x) (prA y) = false)) ?_ (fun r _ hr8 => ?_)
    ·refine Ok.while (fun r : Int => 0 ≤ r ∧ r ≤ s.length ∧ (∀ (j : Nat) y, r ≤ j → s[j]? = some y → ltPr (prA x) (prA y) = true)) (fun r => r.toNat) ⟨by omega, by omega, fun j y hj hy => by have := (gs_ hy).1; omega⟩ (fun r hr => ?_)
     obtain ⟨r0, r1, r2⟩ := hr
     by_cases c : r > 0
     ·rw [decide_eq_true c]
      have hw : IntKind.wrap .i64 (r - 1) = r - 1 := by simp [IntKind.wrap, IntKind.bits, IntKind.signed]; omega
      have hlt : (r - 1).toNat < s.length := by omega
      rw [hw]
      refine Ok.chk ⟨by omega, hlt⟩ (Ok.bind (Ok.getI (by omega) hlt) (fun y _ hy => Ok.bind (d_sCmp x y) (fun c7 _ h7 => Ok.br (fun c8 => Ok.ret ⟨⟨by omega, by omega, fun j z hj hz => ?_⟩, by omega⟩) (fun c8 => Ok.ret ⟨r0, r1, r2, .inr ⟨y, ?_, ?_⟩⟩))))
      ·by_cases e : (j : Int) = r - 1
       ·have hj2 : j = (r - 1).toNat := by omega
        rw [hj2, hy.1] at hz
        injection hz with hz
        subst hz
        exact h7.1 (of_decide_eq_true c8)
       ·exact r2 j z (by omega) hz
      ·rw [show r.toNat - 1 = (r - 1).toNat by omega]; exact hy.1
      ·cases hh : ltPr (prA x) (prA y) with
       | false => rfl
       | true => have := h7.2 hh; exact absurd this (of_decide_eq_false c8)
     ·rw [decide_eq_false c]
      exact Ok.ret ⟨r0, r1, r2, .inl (by omega)⟩
    ·obtain ⟨r0, r1, r2, r3⟩ := hr8
     have hrl : r.toNat ≤ s.length := by omega
     have hT : (s.take ((s.length : Int).toNat)) = s := by rw [Int.toNat_natCast]; exact List.take_length
     simp only [hT, List.drop_zero, List.nil_append]
     have l1 : (s.take r.toNat).length = r.toNat := by simp; omega
     have l2 : (s.drop r.toNat).length = s.length - r.toNat := by simp
     refine Ok.chk ⟨by omega, by omega, r1⟩ (Ok.chk ⟨by omega, by omega⟩ (Ok.chk ⟨by omega, by omega⟩ (Ok.chk ⟨by omega, by omega, by omega⟩ (Ok.chk ?_ (Ok.ret ⟨?_, fun y => ?_, ?_⟩)))))
     ·rw [List.length_append, l1, l2, List.length_singleton]; omega
     ·refine insert_rising hr hxs hrl (fun j y hj hy => r2 j y (by omega) hy) ?_
      rcases r3 with r3 | r3
      ·exact .inl (by omega)
      ·exact .inr r3
     ·rw [htk, List.mem_append (t := [x]), ← hm, List.mem_append, List.mem_append]
      conv => rhs; rw [← List.take_append_drop r.toNat s, List.mem_append]
      constructor
      ·rintro ((h | h) | h)
       ·exact .inl (.inl h)
       ·exact .inr h
       ·exact .inl (.inr h)
      ·rintro ((h | h) | h)
       ·exact .inl (.inl h)
       ·exact .inr h
       ·exact .inl (.inr h)
     ·rw [List.length_append, List.length_append, l1, l2, List.length_singleton]; omega
  ·obtain ⟨hr, hm, _⟩ := hs
   rw [List.take_length] at hm
   have : s.map prA = sortPr (l.map prA) := sortPr_eq hr (fun x => by
    constructor
    ·intro hx
     obtain ⟨a, ha, rfl⟩ := List.mem_map.1 hx
     exact List.mem_map_of_mem ((hm a).1 ha)
    ·intro hx
     obtain ⟨a, ha, rfl⟩ := List.mem_map.1 hx
     exact List.mem_map_of_mem ((hm a).2 ha))
   rw [← this, List.map_map]
   conv => lhs; rw [← List.map_id s]
   exact List.map_congr_left (fun a _ => rfl)
 obtain ⟨r, hr, hq⟩ := key
 rw [hr, hq]
theorem sortPr_le (l : List Pr) : (sortPr l).length ≤ l.length := by
 unfold sortPr Lib.compact Lib.compactUpTo
 rw [List.length_map]
 exact Nat.le_trans (List.length_filter_le _ _) (by simp)
theorem sumL_le {T : Type} {f : T → Nat} {c : Nat} : ∀ {l : List T}, (∀ x ∈ l, f x ≤ c) → sumL f l ≤ l.length * c := by
 intro l
 induction l with
 | nil => intro _; simp [sumL]
 | cons x l ih =>
  intro h
  have h1 := h x (by simp)
  have h2 := ih (fun y hy => h y (by simp [hy]))
  simp only [sumL, List.map_cons, List.sum_cons, List.length_cons, Nat.add_mul] at h2 ⊢
  omega
theorem wrap_predL {n : Nat} (h : n ≤ 1048576) : IntKind.wrap .i64 ((n : Int) - 1) = (n : Int) - 1 := by
 simp [IntKind.wrap, IntKind.bits, IntKind.signed]
 omega
theorem s_InL (n : Nat) (i : Int) (h : n ≤ 1048576) : sl1In i 0 (IntKind.wrap .i64 ((n : Int) - 1)) = some (decide (0 ≤ i ∧ i < (n : Int))) := by
 rw [wrap_predL h]
 obtain ⟨r, h1, h2⟩ : Ok (sl1In i 0 ((n : Int) - 1)) (fun r => r = decide (0 ≤ i ∧ i < (n : Int))) := by
  refine Ok.br (fun c => Ok.ret ?_) (fun c => Ok.ret ?_)
  ·have c : 0 ≤ i := by simpa using c
   rw [Bool.eq_iff_iff]
   simp only [decide_eq_true_eq]
   omega
  ·have c : ¬ 0 ≤ i := by simpa using c
   rw [decide_eq_false (fun h => c h.1)]
 rw [h1, h2]
def SmallA (a : TAddr) : Prop := a.ok ∧ a.size ≤ 1048576
theorem nil_small : SmallA ⟨[], []⟩ := by simp [SmallA, TAddr.ok, TAddr.size, okS, maxLen]
theorem slot_req (p : TPage) (o : p.ok) (h : p.size ≤ 1048576) (k : Int) : ∃ r, sSlotRequest p k = some r ∧ iSlotRequest p k = some r ∧ SmallA r.xTo := by
 have hl : p.xSlots.length ≤ 1048576 := by unfold TPage.size at h; omega
 by_cases c : 0 ≤ k ∧ k < (p.xSlots.length : Int)
 ·have hc : k.toNat < p.xSlots.length := by omega
  have hg : getI p.xSlots k = some p.xSlots[k.toNat] := by unfold getI; rw [if_pos c.1, List.getElem?_eq_getElem hc]
  have hm := List.getElem_mem hc
  have hk : Ok (sKindOfMode p.xSlots[k.toNat].xMode) (fun _ => True) := Ok.br (fun _ => Ok.ret trivial) (fun _ => Ok.br (fun _ => Ok.ret trivial) (fun _ => Ok.br (fun _ => Ok.ret trivial) (fun _ => Ok.br (fun _ => Ok.ret trivial) (fun _ => Ok.ret trivial))))
  obtain ⟨m, hm1, _⟩ := hk
  refine ⟨⟨m, p.xSlots[k.toNat].xTo, p.xAddr.xHost, p.xSlots[k.toNat].xDigest⟩, ?_, ?_, ?_⟩
  ·obtain ⟨r, e1, e2⟩ : Ok (sSlotRequest p k) (fun r => r = (⟨m, p.xSlots[k.toNat].xTo, p.xAddr.xHost, p.xSlots[k.toNat].xDigest⟩ : TRequest)) := by
    unfold sSlotRequest
    rw [s_InL _ _ hl]
    exact Ok.br (fun e => by simp [c] at e) (fun _ => by rw [hg]; show Ok ((sKindOfMode _).bind _) _; rw [hm1]; exact Ok.ret rfl)
   rw [e1, e2]
  ·obtain ⟨r, e1, e2⟩ : Ok (iSlotRequest p k) (fun r => r = (⟨m, p.xSlots[k.toNat].xTo, p.xAddr.xHost, p.xSlots[k.toNat].xDigest⟩ : TRequest)) := by
    unfold iSlotRequest
    refine Ok.br (fun e => by simp at e; omega) (fun _ => Ok.br (fun e => by simp at e; omega) (fun _ => ?_))
    rw [hg]
    show Ok ((iKindOfMode _).bind _) _
    rw [show iKindOfMode p.xSlots[k.toNat].xMode = some m from hm1]
    exact Ok.ret rfl
   rw [e1, e2]
  ·have h1 := o.2.2.2.2.2.2.1.2 _ hm
   refine ⟨h1.2.1, ?_⟩
   have h2 := sumL_mem (f := TSlot.size) hm
   have h3 : p.xSlots[k.toNat].xTo.size ≤ p.xSlots[k.toNat].size := by unfold TSlot.size; omega
   unfold TPage.size at h
   show p.xSlots[k.toNat].xTo.size ≤ _
   omega
 ·refine ⟨⟨0, ⟨[], []⟩, [], []⟩, ?_, ?_, nil_small⟩
  ·obtain ⟨r, e1, e2⟩ : Ok (sSlotRequest p k) (fun r => r = (⟨0, ⟨[], []⟩, [], []⟩ : TRequest)) := by
    unfold sSlotRequest
    rw [s_InL _ _ hl]
    exact Ok.br (fun _ => Ok.ret rfl) (fun e => by simp [c] at e)
   rw [e1, e2]
  ·obtain ⟨r, e1, e2⟩ : Ok (iSlotRequest p k) (fun r => r = (⟨0, ⟨[], []⟩, [], []⟩ : TRequest)) := by
    unfold iSlotRequest
    exact Ok.br (fun _ => Ok.ret rfl) (fun c1 => Ok.br (fun _ => Ok.ret rfl) (fun c2 => by simp at c1 c2; omega))
   rw [e1, e2]
theorem mod_req (p : TPage) (o : p.ok) (h : p.size ≤ 1048576) (k : Int) : ∃ r, sModRequest p k = some r ∧ iModRequest p k = some r ∧ SmallA r.xTo := by
 have hl : p.xMods.length ≤ 1048576 := by unfold TPage.size at h; omega
 by_cases c : 0 ≤ k ∧ k < (p.xMods.length : Int)
 ·have hc : k.toNat < p.xMods.length := by omega
  have hg : getI p.xMods k = some p.xMods[k.toNat] := by unfold getI; rw [if_pos c.1, List.getElem?_eq_getElem hc]
  have hm := List.getElem_mem hc
  refine ⟨⟨5, p.xMods[k.toNat].xTo, p.xAddr.xHost, []⟩, ?_, ?_, ?_⟩
  ·obtain ⟨r, e1, e2⟩ : Ok (sModRequest p k) (fun r => r = (⟨5, p.xMods[k.toNat].xTo, p.xAddr.xHost, []⟩ : TRequest)) := by
    unfold sModRequest
    rw [s_InL _ _ hl]
    exact Ok.br (fun e => by simp [c] at e) (fun _ => by rw [hg]; exact Ok.ret rfl)
   rw [e1, e2]
  ·obtain ⟨r, e1, e2⟩ : Ok (iModRequest p k) (fun r => r = (⟨5, p.xMods[k.toNat].xTo, p.xAddr.xHost, []⟩ : TRequest)) := by
    unfold iModRequest
    refine Ok.br (fun e => by simp at e; omega) (fun _ => Ok.br (fun e => by simp at e; omega) (fun _ => ?_))
    rw [hg]
    exact Ok.ret rfl
   rw [e1, e2]
  ·have h1 := o.2.2.2.2.2.2.2.1.2 _ hm
   refine ⟨h1.1, ?_⟩
   have h2 := sumL_mem (f := TModule.size) hm
   have h3 : p.xMods[k.toNat].xTo.size ≤ p.xMods[k.toNat].size := by unfold TModule.size; omega
   unfold TPage.size at h
   show p.xMods[k.toNat].xTo.size ≤ _
   omega
 ·refine ⟨⟨0, ⟨[], []⟩, [], []⟩, ?_, ?_, nil_small⟩
  ·obtain ⟨r, e1, e2⟩ : Ok (sModRequest p k) (fun r => r = (⟨0, ⟨[], []⟩, [], []⟩ : TRequest)) := by
    unfold sModRequest
    rw [s_InL _ _ hl]
    exact Ok.br (fun _ => Ok.ret rfl) (fun e => by simp [c] at e)
   rw [e1, e2]
  ·obtain ⟨r, e1, e2⟩ : Ok (iModRequest p k) (fun r => r = (⟨0, ⟨[], []⟩, [], []⟩ : TRequest)) := by
    unfold iModRequest
    exact Ok.br (fun _ => Ok.ret rfl) (fun c1 => Ok.br (fun _ => Ok.ret rfl) (fun c2 => by simp at c1 c2; omega))
   rw [e1, e2]
theorem open_slots (p : TPage) (h : p.xSlots.length ≤ 1048576) : Ok (sOpenSlots p) (fun l => l.length ≤ p.xSlots.length) := by
 refine Ok.bind (Ok.for (by unfold maxLen; omega) (fun i s => s.length ≤ i) (Nat.le_refl _) (fun i x s hx hs => ?_) (fun s hs => hs)) (fun r _ hr => Ok.ret hr)
 have hi := (gs_ hx).1
 exact Ok.br (fun _ => Ok.chk (by omega) (Ok.ret (by show (s ++ [(i : Int)]).length ≤ i + 1; simp; exact hs))) (fun _ => Ok.ret (Nat.le_succ_of_le hs))
theorem open_mods (p : TPage) (h : p.xMods.length ≤ 1048576) : Ok (sOpenMods p) (fun l => l.length ≤ p.xMods.length) := by
 refine Ok.bind (Ok.for (by unfold maxLen; omega) (fun i s => s.length ≤ i) (Nat.le_refl _) (fun i x s hx hs => ?_) (fun s hs => hs)) (fun r _ hr => Ok.ret hr)
 have hi := (gs_ hx).1
 exact Ok.br (fun _ => Ok.chk (by omega) (Ok.ret (by show (s ++ [(i : Int)]).length ≤ i + 1; simp; exact hs))) (fun _ => Ok.ret (Nat.le_succ_of_le hs))
theorem needs_eq (p : TPage) (o : p.ok) (h : p.size ≤ 1048576) : iNextNeeds p = sNextNeeds p := by
 have e1 : (fun k => iSlotRequest p k) = fun k => sSlotRequest p k := by funext k; obtain ⟨r, a, b, _⟩ := slot_req p o h k; rw [a, b]
 have e2 : (fun k => iModRequest p k) = fun k => sModRequest p k := by funext k; obtain ⟨r, a, b, _⟩ := mod_req p o h k; rw [a, b]
 have e1 : iSlotRequest p = sSlotRequest p := e1
 have e2 : iModRequest p = sModRequest p := e2
 unfold iNextNeeds sNextNeeds
 rw [e1, e2]
 rfl
theorem needs_ok (p : TPage) (o : p.ok) (h : p.size ≤ 1048576) : Ok (sNextNeeds p) (fun l => l.length ≤ 1048576 ∧ ∀ x ∈ l, SmallA x.xTo) := by
 have hl : p.xSlots.length + p.xMods.length ≤ 1048576 := by unfold TPage.size at h; omega
 refine Ok.bind (open_slots p (by omega)) (fun r1 _ h1 => ?_)
 refine Ok.bind (Q1 := fun l => l.length ≤ r1.length ∧ ∀ x ∈ l, SmallA x.xTo) (Ok.for (by unfold maxLen; omega) (fun i s => s.length ≤ i ∧ ∀ x ∈ s, SmallA x.xTo) ⟨Nat.le_refl _, by simp⟩ (fun i x s hx hs => ?_) (fun s hs => hs)) (fun r9 _ h9 => ?_)
 ·have hi := (gs_ hx).1
  obtain ⟨r, a, _, b⟩ := slot_req p o h x
  show Ok ((sSlotRequest p x).bind _) _
  rw [a]
  refine Ok.chk (by omega) (Ok.ret ⟨by simp; exact hs.1, fun y hy => ?_⟩)
  rcases List.mem_append.1 hy with hy | hy
  ·exact hs.2 y hy
  ·rw [List.mem_singleton.1 hy]; exact b
 ·refine Ok.bind (open_mods p (by omega)) (fun r10 _ h10 => ?_)
  refine Ok.bind (Q1 := fun l => l.length ≤ 1048576 ∧ ∀ x ∈ l, SmallA x.xTo) (Ok.for (by unfold maxLen; omega) (fun i s => s.length ≤ r9.length + i ∧ ∀ x ∈ s, SmallA x.xTo) ⟨Nat.le_refl _, h9.2⟩ (fun i x s hx hs => ?_) (fun s hs => ⟨by omega, hs.2⟩)) (fun r18 _ h18 => Ok.ret h18)
  have hi := (gs_ hx).1
  obtain ⟨r, a, _, b⟩ := mod_req p o h x
  show Ok ((sModRequest p x).bind _) _
  rw [a]
  refine Ok.chk (by omega) (Ok.ret ⟨by simp; omega, fun y hy => ?_⟩)
  rcases List.mem_append.1 hy with hy | hy
  ·exact hs.2 y hy
  ·rw [List.mem_singleton.1 hy]; exact b
theorem eq_HiddenNeeds (w : THidden) (o : w.ok) (h : w.size ≤ 1048576) : ∃ r, sHiddenNeeds w = some r ∧ iHiddenNeeds w = some r ∧ r.length + sumL TAddr.size r ≤ 1125899906842624 ∧ okL TAddr.ok r := by
 have hp : w.xPage.size ≤ 1048576 := by unfold THidden.size at h; omega
 have op : w.xPage.ok := o.2.1
 obtain ⟨l, e1, hl, hm⟩ := needs_ok w.xPage op hp
 have e2 : iNextNeeds w.xPage = some l := (needs_eq w.xPage op hp).trans e1
 let m : List TAddr := if w.xReady then l.map (·.xTo) else []
 have hml : m.length ≤ 1048576 := by
  show (if w.xReady then l.map (·.xTo) else []).length ≤ _
  split
  ·rw [List.length_map]; exact hl
  ·simp
 have hmm : ∀ a ∈ m, SmallA a := by
  intro a ha
  have ha : a ∈ (if w.xReady then l.map (·.xTo) else []) := ha
  split at ha
  ·obtain ⟨x, hx, rfl⟩ := List.mem_map.1 ha; exact hm x hx
  ·cases ha
 have q1 : Ok (forE l (fun (i_2 : Nat) (x_2 : TRequest) (s2 : List TAddr) => (
  br w.xReady (
   chk ((s2.length + 1) * 32 ≤ 140737488355328 ∧ s2.length + 1 ≤ 140737488355328) <|
   some (.inl (s2 ++ [x_2.xTo]))
  ) (
   some (.inr s2)
  )
 : Option ((List TAddr) ⊕ (List TAddr)))) (fun (s2 : List TAddr) => (s2 : List TAddr)) ([] : List TAddr)) (fun r => r = m) := by
  cases hr : w.xReady with
  | true =>
   refine Ok.for (by unfold maxLen; omega) (fun i s => s = (l.take i).map (·.xTo)) (by simp) (fun i x s hx hs => ?_) (fun s hs => by show s = if w.xReady then _ else _; rw [hr, if_pos rfl, hs, List.take_length])
   have hi := (gs_ hx).1
   have hsl : s.length ≤ i := by rw [hs, List.length_map, List.length_take]; omega
   exact Ok.br (fun _ => Ok.chk (by omega) (Ok.ret (by show s ++ [x.xTo] = _; rw [hs, List.take_add_one, hx]; simp))) (fun e => by cases e)
  | false =>
   refine Ok.for (by unfold maxLen; omega) (fun i s => s = []) rfl (fun i x s hx hs => Ok.br (fun e => by cases e) (fun _ => Ok.ret (by show s = m; rw [hs]; show [] = if w.xReady then _ else _; rw [hr]; rfl))) (fun s hs => by show s = if w.xReady then _ else _; rw [hr, hs]; rfl)
 have q2 : Ok (forE l (fun (i_2 : Nat) (x_2 : TRequest) (s2 : List TAddr) => (
  br w.xReady (
   chk ((s2.length + 1) * 32 ≤ 140737488355328 ∧ s2.length + 1 ≤ 140737488355328) <|
   some (.inl (s2 ++ [x_2.xTo]))
  ) (
   some (.inl s2)
  )
 : Option ((List TAddr) ⊕ (List TAddr)))) (fun (s2 : List TAddr) => (s2 : List TAddr)) ([] : List TAddr)) (fun r => r = m) := by
  cases hr : w.xReady with
  | true =>
   refine Ok.for (by unfold maxLen; omega) (fun i s => s = (l.take i).map (·.xTo)) (by simp) (fun i x s hx hs => ?_) (fun s hs => by show s = if w.xReady then _ else _; rw [hr, if_pos rfl, hs, List.take_length])
   have hi := (gs_ hx).1
   have hsl : s.length ≤ i := by rw [hs, List.length_map, List.length_take]; omega
   exact Ok.br (fun _ => Ok.chk (by omega) (Ok.ret (by show s ++ [x.xTo] = _; rw [hs, List.take_add_one, hx]; simp))) (fun e => by cases e)
  | false =>
   exact Ok.for (by unfold maxLen; omega) (fun i s => s = []) rfl (fun i x s hx hs => Ok.br (fun e => by cases e) (fun _ => Ok.ret hs)) (fun s hs => by show s = if w.xReady then _ else _; rw [hr, hs]; rfl)
 have hlen : ((sortPr (m.map prA)).map ofA).length ≤ 1048576 := by
  rw [List.length_map]
  have := sortPr_le (m.map prA)
  rw [List.length_map] at this
  omega
 have hel : ∀ a ∈ (sortPr (m.map prA)).map ofA, SmallA a := by
  intro a ha
  obtain ⟨p, hp, rfl⟩ := List.mem_map.1 ha
  obtain ⟨b, hb, rfl⟩ := List.mem_map.1 ((sortPr_mem _ _).1 hp)
  exact hmm b hb
 refine ⟨(sortPr (m.map prA)).map ofA, ?_, ?_, ?_, by unfold maxLen; omega, fun a ha => (hel a ha).1⟩
 ·unfold sHiddenNeeds
  rw [e1, Option.bind_some]
  obtain ⟨r, q, rfl⟩ := q1
  refine Eq.trans (congrArg (fun o => Option.bind o _) q) ?_
  show (sSortAddrs m).bind _ = _
  rw [sSort_eq _ hml]
  rfl
 ·unfold iHiddenNeeds
  rw [e2, Option.bind_some]
  obtain ⟨r, q, rfl⟩ := q2
  refine Eq.trans (congrArg (fun o => Option.bind o _) q) ?_
  show (iSortAddrs m).bind _ = _
  rw [iSort_eq _ (by omega)]
  rfl
 ·have := sumL_le (f := TAddr.size) (fun a ha => (hel a ha).2)
  have : ((sortPr (m.map prA)).map ofA).length * 1048576 ≤ 1048576 * 1048576 := Nat.mul_le_mul_right _ hlen
  omega
end Go.Am
end
section
set_option linter.unusedVariables false
set_option linter.unusedSimpArgs false
namespace Go.Am
open Go Go.RowKit
structure Ag (n : Nat) (s : Nat → Value) (a : Act) : Prop where
  dz : a.defers = []
  sz : a.tmps.size = n
  at_ : ∀ i, a.tmps.getD i undef = s i
def upd (s : Nat → Value) (d : Nat) (x : Value) : Nat → Value := fun i => if i = d then x else s i
theorem upd_same {s : Nat → Value} {d : Nat} {x : Value} : upd s d x d = x := if_pos rfl
theorem upd_ne {s : Nat → Value} {d i : Nat} {x : Value} (h : i ≠ d) : upd s d x i = s i := if_neg h
def evs (s : Nat → Value) : Operand → Value
 | .tmp t => s t
 | .const v => v
 | .global g => .pointer (some ⟨g, 0, none⟩)
 | .func f => .func (.func f) #[] #[]
section
variable {P : Program} {n d : Nat} {s : Nat → Value} {a : Act} {w w' : World} {x : Value}
theorem Ag.eval (h : Ag n s a) : a.eval = evs s := by
 funext x
 cases x with
 | tmp t => exact h.at_ t
 | _ => rfl
theorem Ag.put (h : Ag n s a) (hd : d < n) : Ag n (upd s d x) (a.put (some d) x) := by
 refine ⟨h.dz, by simp [Act.put, h.sz], fun i => ?_⟩
 simp only [Act.put, Array.getD_eq_getD_getElem?, Array.getElem?_setIfInBounds]
 by_cases hi : i = d
 ·subst hi
  rw [upd_same, if_pos rfl, if_pos (by rw [h.sz]; exact hd)]
  rfl
 ·rw [upd_ne hi, if_neg (fun e => hi e.symm), ← Array.getD_eq_getD_getElem?]
  exact h.at_ i
theorem Ag.enter (args : Array Value) (m : Nat) : Ag (args.size + m) (fun i => args.getD i undef) { tmps := args ++ Array.replicate m undef, defers := [] } := by
 refine ⟨rfl, by simp, fun i => ?_⟩
 simp only [Array.getD_eq_getD_getElem?]
 rcases Nat.lt_or_ge i args.size with h | h
 ·rw [Array.getElem?_append_left h]
 ·rw [Array.getElem?_append_right h, Array.getElem?_eq_none h, Array.getElem?_replicate]
  split <;> rfl
def R (P : Program) (n : Nat) (ops : Array Oper) (l : List Oper) (s : Nat → Value) (w : World) (K : (Nat → Value) → World → Prop) : Prop :=
 ∀ (Q : Exit → Act → World → Prop), (∀ s' a' w', Ag n s' a' → K s' w' → Q .normal a' w') → ∀ a, Ag n s a → wpList P ops Q l a w
def W (P : Program) (n : Nat) (c : Code) (s : Nat → Value) (w : World) (K : Exit → (Nat → Value) → World → Prop) : Prop :=
 ∀ (Q : Exit → Act → World → Prop), (∀ e s' a' w', Ag n s' a' → K e s' w' → Q e a' w') → ∀ a, Ag n s a → c.wp P Q a w
variable {ops : Array Oper} {l : List Oper} {o : Oper} {K K' : (Nat → Value) → World → Prop} {c c1 c2 : Code} {J J' : Exit → (Nat → Value) → World → Prop}
theorem R.mono (h : R P n ops l s w K) (hk : ∀ s' w', K s' w' → K' s' w') : R P n ops l s w K' := fun Q hQ a ha => h Q (fun s' a' w' h1 h2 => hQ s' a' w' h1 (hk s' w' h2)) a ha
theorem W.mono (h : W P n c s w J) (hk : ∀ e s' w', J e s' w' → J' e s' w') : W P n c s w J' := fun Q hQ a ha => h Q (fun e s' a' w' h1 h2 => hQ e s' a' w' h1 (hk e s' w' h2)) a ha
theorem R.nil (h : K s w) : R P n ops [] s w K := fun Q hQ a ha => wpList_nil (hQ s a w ha h)
theorem R.step (hg : o.guard = none) (h : ∀ (a : Act) (Q : Exit → Act → World → Prop) (N : Act → World → Prop), (∀ s' a' w', Ag n s' a' → R P n ops l s' w' K → N a' w') → Ag n s a → o.wp P a w N Q) : R P n ops (o :: l) s w K := by
 intro Q hQ a ha
 refine wpList_step fun N hN => ?_
 rw [if_pos (by simp [Region.wanted, hg])]
 exact h a Q N (fun s' a' w' h1 h2 => hN _ _ (h2 Q hQ a' h1)) ha
theorem R.value (hg : o.guard = none) (hd : o.dst = some d) (hn : d < n) (he : (execOp (evs s) o).run P w = .ok (.value x) w') (h : R P n ops l (upd s d x) w' K) : R P n ops (o :: l) s w K := by
 refine R.step hg fun a Q N hN ha => ?_
 unfold Oper.wp
 rw [ha.eval, he, Oper.upon_value, hd]
 exact hN _ _ _ (ha.put hn) h
theorem R.skip (hg : o.guard = none) (hd : o.dst = none) (he : (execOp (evs s) o).run P w = .ok .skip w') (h : R P n ops l s w' K) : R P n ops (o :: l) s w K := by
 refine R.step hg fun a Q N hN ha => ?_
 unfold Oper.wp
 rw [ha.eval, he, Oper.upon_skip, hd]
 exact hN _ a _ ha h
theorem R.call {f : FuncId} {args : Array Value} (hg : o.guard = none) (hd : o.dst = some d) (hn : d < n) (he : (execOp (evs s) o).run P w = .ok (.enter f args) w)
  (hc : Calls P f args w fun e w' => ∃ x, e = .returned x ∧ R P n ops l (upd s d x) w' K) : R P n ops (o :: l) s w K := by
 refine R.step hg fun a Q N hN ha => ?_
 unfold Oper.wp
 rw [ha.eval, he, Oper.upon_enter]
 refine Calls.mono hc fun e w' h => ?_
 obtain ⟨x, rfl, h⟩ := h
 show N (a.put o.dst x) w'
 rw [hd]
 exact hN _ _ _ (ha.put hn) h
def Known (P : Program) (f : Nat) : Prop := ∃ fn, P.funcs[f]? = some fn ∧ fn.body.isNone = false ∧ (fn.name == "runtime.NumGoroutine") = false
theorem call_enter {f : Nat} {args : Array Operand} {ts : Array TypeId} (hk : Known P f) (ho : o.op = .call ⟨.value (.func f), args, ts⟩) : (execOp (evs s) o).run P w = .ok (.enter f (args.map (evs s))) w := by
 obtain ⟨fn, h1, h2, h3⟩ := hk
 have h3 : ¬ fn.name = "runtime.NumGoroutine" := by simpa using h3
 simp [execOp, ho, resolve, Deferred.ofValue, invoke, callFunc, evs, h1, h2, h3]
 intro hb
 simp [hb] at h2
def O1 (P : Program) (n : Nat) (o : Oper) (s : Nat → Value) (w : World) (K : (Nat → Value) → World → Prop) : Prop :=
 o.guard = none ∧ ∀ (a : Act) (Q : Exit → Act → World → Prop) (N : Act → World → Prop), (∀ s' a' w', Ag n s' a' → K s' w' → N a' w') → Ag n s a → o.wp P a w N Q
theorem O1.mono (h : O1 P n o s w K) (hk : ∀ s' w', K s' w' → K' s' w') : O1 P n o s w K' := ⟨h.1, fun a Q N hN ha => h.2 a Q N (fun s' a' w' h1 h2 => hN s' a' w' h1 (hk s' w' h2)) ha⟩
theorem R.one (h : O1 P n o s w (fun s' w' => R P n ops l s' w' K)) : R P n ops (o :: l) s w K := R.step h.1 h.2
theorem O1.value (hg : o.guard = none) (hd : o.dst = some d) (hn : d < n) (he : (execOp (evs s) o).run P w = .ok (.value x) w') (h : K (upd s d x) w') : O1 P n o s w K := by
 refine ⟨hg, fun a Q N hN ha => ?_⟩
 unfold Oper.wp
 rw [ha.eval, he, Oper.upon_value, hd]
 exact hN _ _ _ (ha.put hn) h
theorem O1.skip (hg : o.guard = none) (hd : o.dst = none) (he : (execOp (evs s) o).run P w = .ok .skip w') (h : K s w') : O1 P n o s w K := by
 refine ⟨hg, fun a Q N hN ha => ?_⟩
 unfold Oper.wp
 rw [ha.eval, he, Oper.upon_skip, hd]
 exact hN _ a _ ha h
theorem O1.call {f : FuncId} {args : Array Value} (hg : o.guard = none) (hd : o.dst = some d) (hn : d < n) (he : (execOp (evs s) o).run P w = .ok (.enter f args) w)
  (hc : Calls P f args w fun e w' => ∃ x, e = .returned x ∧ K (upd s d x) w') : O1 P n o s w K := by
 refine ⟨hg, fun a Q N hN ha => ?_⟩
 unfold Oper.wp
 rw [ha.eval, he, Oper.upon_enter]
 refine Calls.mono hc fun e w' h => ?_
 obtain ⟨x, rfl, h⟩ := h
 show N (a.put o.dst x) w'
 rw [hd]
 exact hN _ _ _ (ha.put hn) h
theorem any_gen (I : Array Bool → (Nat → Value) → World → Prop) {J0 : (Nat → Value) → World → Prop} (hback : ∀ (j : Nat) (o : Oper), ops[j]? = some o → ∀ e ∈ o.after.toList, e.on < j)
  (step : ∀ (listed : Array Bool) (s : Nat → Value) (w : World) (i : Nat) (o : Oper), I listed s w → ops[i]? = some o → listed.getD i true = false → listed.size = ops.size → (∀ e ∈ o.after.toList, Region.binds .any e = true → listed.getD e.on false = true) → O1 P n o s w (fun s' w' => I (listed.setIfInBounds i true) s' w'))
  (fin : ∀ (listed : Array Bool) (s : Nat → Value) (w : World), (∀ j, j < ops.size → listed.getD j true = true) → I listed s w → J0 s w) :
  ∀ (fuel : Nat) (listed : Array Bool) (s : Nat → Value) (w : World), I listed s w → listed.size = ops.size → (pend ops listed).length ≤ fuel → ∀ (Q : Exit → Act → World → Prop), (∀ s' a' w', Ag n s' a' → J0 s' w' → Q .normal a' w') → ∀ a, Ag n s a → wpAny P .any ops Q fuel listed a w := by
 have agree : ∀ (listed : Array Bool), listed.size = ops.size → ∀ j, j < ops.size → ∀ b, listed.getD j true = b → listed.getD j false = b := by
  intro listed hz j hj b h
  have : j < listed.size := by omega
  simpa [this] using h
 have hdone : ∀ (listed : Array Bool), listed.size = ops.size → Region.ready .any ops listed = [] → pend ops listed = [] := by
  intro listed hz hr
  cases hp : pend ops listed with
  | nil => rfl
  | cons j rest =>
   exfalso
   have hj := mem_pend.1 (show j ∈ pend ops listed by rw [hp]; simp)
   have hsome : ops[j]? = some ops[j] := by simp [hj.1]
   have : j ∈ Region.ready .any ops listed := by
    refine mem_ready.2 ⟨hj.2, ops[j], hsome, fun e he _ => ?_⟩
    have hlt := hback j _ hsome e (by simpa using he)
    have hlt2 : e.on < ops.size := by omega
    cases hb : listed.getD e.on true with
    | true => exact agree listed hz e.on hlt2 true hb
    | false =>
     exfalso
     have hm : e.on ∈ pend ops listed := mem_pend.2 ⟨hlt2, hb⟩
     have hs := pend_sorted (ops := ops) listed
     rw [hp] at hm hs
     rcases List.mem_cons.1 hm with h | h
     ·omega
     ·have := (List.pairwise_cons.1 hs).1 _ h
      omega
   rw [hr] at this
   cases this
 have hall : ∀ (listed : Array Bool), pend ops listed = [] → ∀ j, j < ops.size → listed.getD j true = true := by
  intro listed hp j hj
  cases hb : listed.getD j true with
  | true => rfl
  | false =>
   have := mem_pend.2 ⟨hj, hb⟩
   rw [hp] at this
   cases this
 intro fuel
 induction fuel with
 | zero =>
  intro listed s w hI hz hlen Q hQ a ha
  have hp : pend ops listed = [] := List.eq_nil_of_length_eq_zero (by omega)
  refine ⟨?_, hQ s a w ha (fin listed s w (hall listed hp) hI)⟩
  cases hr : Region.ready .any ops listed with
  | nil => rfl
  | cons i rest =>
   exfalso
   obtain ⟨h0, o, ho, _⟩ := mem_ready.1 (show i ∈ Region.ready .any ops listed by rw [hr]; simp)
   have : i ∈ pend ops listed := mem_pend.2 ⟨(Array.getElem?_eq_some_iff.1 ho).1, h0⟩
   rw [hp] at this
   cases this
 | succ fuel ih =>
  intro listed s w hI hz hlen Q hQ a ha
  refine ⟨fun hr => hQ s a w ha (fin listed s w (hall listed (hdone listed hz hr)) hI), fun i hi => ?_⟩
  obtain ⟨h0, o, ho, hedges⟩ := mem_ready.1 hi
  have hilt := (Array.getElem?_eq_some_iff.1 ho).1
  have hlen2 : (pend ops (listed.setIfInBounds i true)).length ≤ fuel := by
   have him : i ∈ pend ops listed := mem_pend.2 ⟨hilt, h0⟩
   obtain ⟨pre, suf, hsplit⟩ := List.append_of_mem him
   have hnd := pend_nodup (ops := ops) listed
   have hset : pend ops (listed.setIfInBounds i true) = pre ++ suf := by
    rw [pend_set, hsplit, filter_split (by rw [← hsplit]; exact hnd)]
   have : (pend ops listed).length = (pre ++ suf).length + 1 := by rw [hsplit]; simp; omega
   rw [hset]
   omega
  obtain ⟨g1, g2⟩ := step listed s w i o hI ho h0 hz (fun e he hb => hedges e (by simpa using he) hb)
  unfold wpOp
  rw [ho]
  simp only
  rw [if_pos (by simp [Region.wanted, g1])]
  exact .inl (g2 a Q _ (fun s' a' w' h1 h2 => ih _ s' w' h2 (by simpa using hz) hlen2 Q hQ a' h1) ha)
theorem W.drawn {i : Nat} (hm : P.follows .mixedOrders = true) (I : Array Bool → (Nat → Value) → World → Prop) (hback : ∀ (j : Nat) (o : Oper), ops[j]? = some o → ∀ e ∈ o.after.toList, e.on < j)
  (step : ∀ (listed : Array Bool) (s : Nat → Value) (w : World) (i : Nat) (o : Oper), I listed s w → ops[i]? = some o → listed.getD i true = false → listed.size = ops.size → (∀ e ∈ o.after.toList, Region.binds .any e = true → listed.getD e.on false = true) → O1 P n o s w (fun s' w' => I (listed.setIfInBounds i true) s' w'))
  (fin : ∀ (listed : Array Bool) (s : Nat → Value) (w : World), (∀ j, j < ops.size → listed.getD j true = true) → I listed s w → J .normal s w) (h0 : I (Array.replicate ops.size false) s { w with drawn := w.drawn + 1 }) : W P n (.region i ops true) s w J := by
 intro Q hQ a ha
 refine wp_region_any hm ?_
 exact any_gen I hback step fin ops.size _ s _ h0 (by simp) (by rw [pend_start]; simp) Q (fun s' a' w' h1 h2 => hQ _ _ _ _ h1 h2) a ha
theorem W.skip (h : J .normal s w) : W P n .skip s w J := fun Q hQ a ha => wp_skip (hQ _ _ _ _ ha h)
theorem W.exit {i : Nat} (h : J (.exit i) s w) : W P n (.exit i) s w J := fun Q hQ a ha => wp_exit (hQ _ _ _ _ ha h)
theorem W.ret (h : J .ret s w) : W P n .ret s w J := fun Q hQ a ha => wp_ret (hQ _ _ _ _ ha h)
theorem W.region {i : Nat} (h : R P n ops ops.toList s w (J .normal)) : W P n (.region i ops false) s w J := fun Q hQ a ha => wp_region_list (h Q (fun s' a' w' h1 h2 => hQ _ _ _ _ h1 h2) a ha)
def thenW (P : Program) (n : Nat) (c : Code) (J : Exit → (Nat → Value) → World → Prop) : Exit → (Nat → Value) → World → Prop
 | .normal, s, w => W P n c s w J
 | e, s, w => J e s w
theorem W.seq (h : W P n c1 s w (thenW P n c2 J)) : W P n (.seq c1 c2) s w J := by
 intro Q hQ a ha
 refine wp_seq (h _ (fun e s' a' w' h1 h2 => ?_) a ha)
 cases e with
 | normal => exact h2 Q hQ a' h1
 | _ => exact hQ _ _ _ _ h1 h2
theorem W.cond {y : Operand} {b : Bool} (hb : evs s y = .bool b) (h : W P n (if b then c1 else c2) s w J) : W P n (.cond y c1 c2) s w J := fun Q hQ a ha => wp_cond (by rw [ha.eval]; exact hb) (h Q hQ a ha)
def outW (i : Nat) (J : Exit → (Nat → Value) → World → Prop) : Exit → (Nat → Value) → World → Prop
 | .exit j, s, w => if j = i then J .normal s w else J (.exit j) s w
 | e, s, w => J e s w
theorem W.block {i : Nat} (h : W P n c s w (outW i J)) : W P n (.block i c) s w J := by
 intro Q hQ a ha
 refine wp_block (h _ (fun e s' a' w' h1 h2 => ?_) a ha)
 cases e with
 | exit j =>
  show (if j = i then _ else _)
  simp only [outW] at h2
  split
  ·rename_i e; rw [if_pos e] at h2; exact hQ _ _ _ _ h1 h2
  ·rename_i e; rw [if_neg e] at h2; exact hQ _ _ _ _ h1 h2
 | _ => exact hQ _ _ _ _ h1 h2
open Classical in
theorem W.loop (I : Nat → (Nat → Value) → World → Prop) {m : Nat} (h0 : I m s w) (round : ∀ m s w, I m s w → W P n c s w (fun e s' w' => match e with
   | .normal => ∃ m', m' < m ∧ I m' s' w'
   | e => J e s' w')) : W P n (.loop c) s w J := by
 intro Q hQ a ha
 have least : ∀ (p : Nat → Prop), (∃ m, p m) → ∃ m, p m ∧ ∀ k, p k → m ≤ k := by
  intro p ⟨m, hm⟩
  induction m using Nat.strongRecOn with
  | _ m ih =>
   by_cases h : ∃ k, k < m ∧ p k
   ·obtain ⟨k, hk, hp⟩ := h
    exact ih k hk hp
   ·exact ⟨m, hm, fun k hk => Nat.le_of_not_lt fun hlt => h ⟨k, hlt, hk⟩⟩
 let p : Act → World → Nat → Prop := fun a w m => ∃ s, Ag n s a ∧ I m s w
 refine wp_loop (fun a w => ∃ m, p a w m) (fun a w => if h : ∃ m, p a w m then (least _ h).choose else 0) ⟨m, s, ha, h0⟩ (fun a w h => ?_)
 obtain ⟨⟨s1, h1, h2⟩, h3⟩ := (least _ h).choose_spec
 refine round _ s1 w h2 _ (fun e s' a' w' g1 g2 => ?_) a h1
 cases e with
 | normal =>
  obtain ⟨m', hlt, hI⟩ := g2
  have hex : ∃ m, p a' w' m := ⟨m', s', g1, hI⟩
  refine ⟨hex, ?_⟩
  show (if h : ∃ m, p a' w' m then (least _ h).choose else 0) < (if h : ∃ m, p a w m then (least _ h).choose else 0)
  rw [dif_pos hex, dif_pos h]
  exact Nat.lt_of_le_of_lt ((least _ hex).choose_spec.2 m' ⟨s', g1, hI⟩) hlt
 | _ => exact hQ _ _ _ _ g1 g2
theorem calls_W {f : Nat} {fn : Func} {args : Array Value} {r : Nat} {B : Ending → World → Prop} (hf : P.funcs[f]? = some fn) (hb : fn.body = some c) (hr : fn.results = #[.tmp r]) (hn : args.size ≤ fn.ntmps)
  (h : W P fn.ntmps c (fun i => args.getD i undef) w (fun e s' w' => match e with
   | .ret => B (.returned (s' r)) w'
   | .normal => B (.returned (s' r)) w'
   | _ => False)) : Calls P f args w B := by
 refine calls_of_wp hf hb ?_
 have ha := Ag.enter args (fn.ntmps - args.size)
 rw [Nat.add_sub_cancel' hn] at ha
 have hres : ∀ (s' : Nat → Value) (a' : Act) (w' : World), Ag fn.ntmps s' a' → (results fn a'.tmps).run P w' = .ok (s' r) w' := by
  intro s' a' w' h
  simp only [results, hr]
  simp [h.at_]
 refine h _ (fun e s' a' w' h1 h2 => ?_) _ ha
 cases e with
 | ret => exact ⟨h1.dz, _, hres s' a' w' h1, h2⟩
 | normal => exact ⟨h1.dz, _, hres s' a' w' h1, h2⟩
 | _ => exact h2.elim
def flatC : Code → List Code
 | .seq a b => flatC a ++ flatC b
 | c => [c]
def WL (P : Program) (n : Nat) : List Code → (Nat → Value) → World → (Exit → (Nat → Value) → World → Prop) → Prop
 | [], s, w, J => J .normal s w
 | c :: cs, s, w, J => W P n c s w (fun e s' w' => match e with
  | .normal => WL P n cs s' w' J
  | e => J e s' w')
theorem WL.mono : ∀ {cs : List Code} {s : Nat → Value} {w : World} {J J' : Exit → (Nat → Value) → World → Prop}, WL P n cs s w J → (∀ e s' w', J e s' w' → J' e s' w') → WL P n cs s w J' := by
 intro cs
 induction cs with
 | nil => intro s w J J' h hk; exact hk _ _ _ h
 | cons c cs ih =>
  intro s w J J' h hk
  refine W.mono h (fun e s' w' h => ?_)
  cases e with
  | normal => exact ih h hk
  | _ => exact hk _ _ _ h
theorem WL.flat : ∀ (c : Code) (rest : List Code) (s : Nat → Value) (w : World) (J : Exit → (Nat → Value) → World → Prop), WL P n (flatC c ++ rest) s w J → WL P n (c :: rest) s w J := by
 intro c
 induction c with
 | seq a b iha ihb =>
  intro rest s w J h
  rw [flatC, List.append_assoc] at h
  have h := iha _ _ _ _ h
  refine W.seq (W.mono h (fun e s' w' h => ?_))
  cases e with
  | normal => exact ihb rest s' w' J h
  | _ => exact h
 | _ => intro rest s w J h; exact h
theorem WL.code (h : WL P n (flatC c) s w J) : W P n c s w J := by
 have := WL.flat c [] s w J (by rw [List.append_nil]; exact h)
 refine W.mono this (fun e s' w' h => ?_)
 cases e with
 | normal => exact h
 | _ => exact h
end
end Go.Am
end
section
set_option linter.unusedVariables false
set_option linter.unusedSimpArgs false
namespace Go.Am
open Go Go.RowKit
structure Mod (X : Nat → Prop) (w w' : World) : Prop where
  os : w'.os = w.os
  tape : w'.tape = w.tape
  output : w'.output = w.output
  size : w.heap.size ≤ w'.heap.size
  old : ∀ k, k < w.heap.size → ¬ X k → w'.heap[k]? = w.heap[k]?
theorem Mod.refl {X : Nat → Prop} (w : World) : Mod X w w := ⟨rfl, rfl, rfl, Nat.le_refl _, fun _ _ _ => rfl⟩
theorem Mod.trans {X : Nat → Prop} {w w1 w2 : World} (h : Mod X w w1) (h' : Mod X w1 w2) : Mod X w w2 :=
 ⟨h'.os.trans h.os, h'.tape.trans h.tape, h'.output.trans h.output, Nat.le_trans h.size h'.size, fun k hk hx => (h'.old k (Nat.lt_of_lt_of_le hk h.size) hx).trans (h.old k hk hx)⟩
theorem Mod.of_kept {X : Nat → Prop} {w w' : World} (h : Kept w w') : Mod X w w' := ⟨h.1, h.2.1, h.2.2.1, h.2.2.2.1, fun k hk _ => h.2.2.2.2 k hk⟩
theorem Mod.mono {X Y : Nat → Prop} {w w' : World} (h : Mod X w w') (hx : ∀ k, X k → Y k) : Mod Y w w' := ⟨h.os, h.tape, h.output, h.size, fun k hk hy => h.old k hk (fun e => hy (hx k e))⟩
theorem Mod.glob {X : Nat → Prop} {w w' : World} (h : Mod X w w') (hx : ∀ k, X k → globN ≤ k) (hg : globOk w) : globOk w' :=
 ⟨globStable _ _ hg.1 (fun k hk => h.old k (Nat.lt_of_lt_of_le hk hg.2) (fun e => absurd (hx k e) (Nat.not_le.2 hk))), Nat.le_trans hg.2 h.size⟩
theorem Kept.glob' {w w' : World} (h : Kept w w') (hg : globOk w) : globOk w' := Mod.glob (X := fun _ => False) (Mod.of_kept h) (fun _ h => h.elim) hg
theorem Kept.tr {w w1 w2 : World} (h : Kept w w1) (h' : Kept w1 w2) : Kept w w2 :=
 ⟨h'.1.trans h.1, h'.2.1.trans h.2.1, h'.2.2.1.trans h.2.2.1, Nat.le_trans h.2.2.2.1 h'.2.2.2.1, fun k hk => (h'.2.2.2.2 k (Nat.lt_of_lt_of_le hk h.2.2.2.1)).trans (h.2.2.2.2 k hk)⟩
theorem Kept.al (w : World) (o : Obj) : Kept w (w.alloc o) := ⟨rfl, rfl, rfl, by rw [size_alloc]; omega, fun k hk => heap_alloc_lt w o hk⟩
structure Stored (w w' : World) (g : Nat) (cur : Array Value) (ty : TypeId) : Prop where
  mod : Mod (fun k => k = g) w w'
  at_ : w'.heap[g]? = some (.cells cur ty (0, 0))
theorem Stored.other {w w' : World} {g : Nat} {cur : Array Value} {ty : TypeId} (h : Stored w w' g cur ty) {k : Nat} (hk : k < w.heap.size) (hne : k ≠ g) : w'.heap[k]? = w.heap[k]? := h.mod.old k hk hne
theorem seg_one {cur : Array Value} {o : Nat} {x : Value} (h : o < cur.size) : (cur.toList.take o ++ [x] ++ cur.toList.drop (o + 1)).toArray = cur.setIfInBounds o x := by
 apply Array.ext_getElem?
 intro j
 have := seg_get cur.toList [x] o j (by simp; omega)
 simp only [List.length_singleton] at this
 rw [List.getElem?_toArray, this, Array.getElem?_setIfInBounds]
 by_cases e : o = j
 ·subst e
  rw [if_pos ⟨Nat.le_refl _, Nat.lt_succ_self _⟩, if_pos rfl, if_pos h]
  simp
 ·rw [if_neg (by omega), if_neg e]
  simp
theorem run_storeOne (P : Program) (w : World) (g o : Nat) (t ty : TypeId) (ti : TypeInfo) (cur : Array Value) (x : Value) (hg : w.heap[g]? = some (.cells cur t (0, 0))) (hi : P.info? ty = some ti) (h1 : ti.size = 1) (hx : x.cells = #[x]) (ho : x.oneCell' = true) (hfit : o < cur.size) :
  ∃ w', (Instr.storeAt ty (.pointer (some ⟨g, o, none⟩)) x).run P w = .ok () w' ∧ Stored w w' g (cur.setIfInBounds o x) t := by
 have hr := run_storeVar_at P w g o t ty ti cur x hg hi (by rw [hx, h1]; rfl) (by rw [hx]; exact hfit) (by rw [hx]; intro v hv; simp at hv; subst hv; exact ho)
 refine ⟨_, hr, ⟨rfl, rfl, rfl, by rw [setRow_size]; exact Nat.le_refl _, fun k _ hk => setRow_other w g k _ hk⟩, ?_⟩
 have e : (cur.toList.take o ++ x.cells.toList ++ cur.toList.drop (o + x.cells.size)).toArray = cur.setIfInBounds o x := by rw [hx]; exact seg_one hfit
 rw [e]
 exact setRow_heap w g cur _ t _ hg
theorem blk_lt {W : World} {g : Nat} {ob : Obj} (h : W.heap[g]? = some ob) : g < W.heap.size := (Array.getElem?_eq_some_iff.1 h).1
inductive Kd where
  | str
  | int
  | bool
  | sl (ks : List Kd)
def Kd.leaf : Kd → Bool
 | .sl _ => false
 | _ => true
def leafIs : Kd → Value → Prop
 | .str, x => ∃ b : ByteArray, x = .string b
 | .int, x => ∃ n : Int, x = .int .i64 n
 | .bool, x => ∃ b : Bool, x = .bool b
 | .sl _, _ => False
def markIs (mt : Nat → List UInt8) : Kd → Nat → Value → Prop
 | .str, k, x => ∃ b : ByteArray, x = .string b ∧ b.data.toList = mt k
 | .int, k, x => x = .int .i64 (k : Int)
 | .bool, k, x => x = .bool (k % 3 == 0)
 | .sl _, _, _ => False
theorem markIs.leaf {mt : Nat → List UInt8} {kd : Kd} {k : Nat} {x : Value} (h : markIs mt kd k x) : leafIs kd x := by
 cases kd with
 | str => obtain ⟨b, h, _⟩ := h; exact ⟨b, h⟩
 | int => exact ⟨_, h⟩
 | bool => exact ⟨_, h⟩
 | sl ks => exact h.elim
def sumN (N : Nat → Nat) : Nat → Nat
 | 0 => 0
 | p + 1 => sumN N p + N p
theorem sumN_le {N : Nat → Nat} {p q : Nat} (h : p ≤ q) : sumN N p ≤ sumN N q := by
  induction q with
  | zero => obtain rfl : p = 0 := by omega
            exact Nat.le_refl _
  | succ q ih =>
    by_cases e : p = q + 1
    · subst e; exact Nat.le_refl _
    · exact Nat.le_trans (ih (by omega)) (Nat.le_add_right _ _)
inductive MT (mt : Nat → List UInt8) (mk : Bool) (w : World) : Kd → Value → Nat → Nat → (Nat → Prop) → Prop
  | leaf (kd : Kd) (x : Value) (k0 : Nat) (T : Nat → Prop) (h : leafIs kd x) (hm : mk = true → markIs mt kd k0 x) : MT mt mk w kd x k0 1 T
  | nil (ks : List Kd) (a : Option Addr) (cap k0 : Nat) (T : Nat → Prop) : MT mt mk w (.sl ks) (.slice a 0 cap) k0 0 T
  | sl (ks : List Kd) (k o m cap k0 : Nat) (cur : Array Value) (ty : TypeId) (N : Nat → Nat) (Ts : Nat → Nat → Prop) (T : Nat → Prop) (h0 : 0 < m) (hm : m ≤ 1152921504606846976) (hb : w.heap[k]? = some (.cells cur ty (0, 0))) (hsz : o + m * ks.length ≤ cur.size)
      (hc : ∀ (p : Nat) (kd : Kd) (v : Value), p < m * ks.length → ks[p % ks.length]? = some kd → cur[o + p]? = some v → MT mt mk w kd v (k0 + sumN N p) (N p) (Ts p))
      (hd : ∀ p p' x, Ts p x → Ts p' x → p = p') (hk : ∀ p, ¬ Ts p k) (hTk : T k) (hT : ∀ p x, Ts p x → T x) : MT mt mk w (.sl ks) (.slice (some ⟨k, o, none⟩) m cap) k0 (sumN N (m * ks.length)) T
section
variable {mt : Nat → List UInt8} {mk : Bool} {w w' : World} {kd : Kd} {x : Value} {k0 n : Nat} {T T' : Nat → Prop}
theorem MT.mono (h : MT mt mk w kd x k0 n T) (hw : ∀ b, T b → w'.heap[b]? = w.heap[b]?) : MT mt mk w' kd x k0 n T := by
 induction h with
 | leaf kd x k0 T h hm => exact .leaf kd x k0 T h hm
 | nil ks a cap k0 T => exact .nil ks a cap k0 T
 | sl ks k o m cap k0 cur ty N Ts T h0 hm hb hsz hc hd hk hTk hT ih => exact .sl ks k o m cap k0 cur ty N Ts T h0 hm ((hw k hTk).trans hb) hsz (fun p kd v hp h1 h2 => ih p kd v hp h1 h2 (fun b hb => hw b (hT p b hb))) hd hk hTk hT
theorem MT.weaken (h : MT mt mk w kd x k0 n T) (hT : ∀ b, T b → T' b) : MT mt mk w kd x k0 n T' := by
 cases h with
 | leaf _ _ _ _ h hm => exact .leaf kd x k0 T' h hm
 | nil ks a cap _ _ => exact .nil ks a cap k0 T'
 | sl ks k o m cap _ cur ty N Ts _ h0 hm hb hsz hc hd hk hTk hT' => exact .sl ks k o m cap k0 cur ty N Ts T' h0 hm hb hsz hc hd hk (hT k hTk) (fun p x hx => hT x (hT' p x hx))
theorem MT.start (h : MT mt false w kd x k0 n T) : ∀ k1, MT mt false w kd x k1 n T := by
 induction h with
 | leaf kd x k0 T h hm => exact fun k1 => .leaf kd x k1 T h (fun e => by cases e)
 | nil ks a cap k0 T => exact fun k1 => .nil ks a cap k1 T
 | sl ks k o m cap k0 cur ty N Ts T h0 hm hb hsz hc hd hk hTk hT ih => exact fun k1 => .sl ks k o m cap k1 cur ty N Ts T h0 hm hb hsz (fun p kd v hp h1 h2 => ih p kd v hp h1 h2 _) hd hk hTk hT
theorem MT.one (h : MT mt mk w kd x k0 n T) (hl : kd.leaf = true) : n = 1 ∧ leafIs kd x ∧ (mk = true → markIs mt kd k0 x) := by
 cases h with
 | leaf _ _ _ _ h hm => exact ⟨rfl, h, hm⟩
 | nil => cases hl
 | sl => cases hl
structure SlInv (mt : Nat → List UInt8) (w0 w : World) (ks : List Kd) (bk o m : Nat) (cur : Array Value) (ty : TypeId) (N : Nat → Nat) (Ts : Nat → Nat → Prop) (k0 p : Nat) : Prop where
  hb : w.heap[bk]? = some (.cells cur ty (0, 0))
  hsz : o + m * ks.length ≤ cur.size
  done : ∀ (q : Nat) (kd : Kd) (v : Value), q < p → q < m * ks.length → ks[q % ks.length]? = some kd → cur[o + q]? = some v → MT mt true w kd v (k0 + sumN N q) (N q) (Ts q)
  todo : ∀ (q : Nat) (kd : Kd) (v : Value), p ≤ q → q < m * ks.length → ks[q % ks.length]? = some kd → cur[o + q]? = some v → MT mt false w kd v 0 (N q) (Ts q)
  mod : Mod (fun x => x = bk ∨ ∃ q, Ts q x) w0 w
  hd : ∀ p p' x, Ts p x → Ts p' x → p = p'
  hk : ∀ p, ¬ Ts p bk
  lt : ∀ p x, Ts p x → x < w.heap.size
variable {w0 : World} {ks : List Kd} {bk o m p : Nat} {cur : Array Value} {ty : TypeId} {N : Nat → Nat} {Ts : Nat → Nat → Prop} {v : Value}
theorem SlInv.kept (h : SlInv mt w0 w ks bk o m cur ty N Ts k0 p) (hk : Kept w w') : SlInv mt w0 w' ks bk o m cur ty N Ts k0 p := by
 have hold : ∀ q b, Ts q b → w'.heap[b]? = w.heap[b]? := fun q b hq => hk.2.2.2.2 b (h.lt q b hq)
 exact ⟨(hk.2.2.2.2 bk (blk_lt h.hb)).trans h.hb, h.hsz, fun q kd v h1 h2 h3 h4 => (h.done q kd v h1 h2 h3 h4).mono (hold q), fun q kd v h1 h2 h3 h4 => (h.todo q kd v h1 h2 h3 h4).mono (hold q), h.mod.trans (Mod.of_kept hk), h.hd, h.hk, fun q x hx => Nat.lt_of_lt_of_le (h.lt q x hx) hk.2.2.2.1⟩
theorem SlInv.leaf (h : SlInv mt w0 w ks bk o m cur ty N Ts k0 p) (hp : p < m * ks.length) (hkd : ks[p % ks.length]? = some kd) (hl : kd.leaf = true) (hv : markIs mt kd (k0 + sumN N p) v) (hst : Stored w w' bk (cur.setIfInBounds (o + p) v) ty) :
  N p = 1 ∧ SlInv mt w0 w' ks bk o m (cur.setIfInBounds (o + p) v) ty N Ts k0 (p + 1) := by
 have hlt : o + p < cur.size := by have := h.hsz; omega
 obtain ⟨u, hu⟩ : ∃ u, cur[o + p]? = some u := ⟨_, Array.getElem?_eq_getElem hlt⟩
 have h1 := ((h.todo p kd u (Nat.le_refl _) hp hkd hu).one hl).1
 have hold : ∀ q b, Ts q b → w'.heap[b]? = w.heap[b]? := fun q b hq => hst.other (h.lt q b hq) (fun e => h.hk q (e ▸ hq))
 refine ⟨h1, hst.at_, by rw [Array.size_setIfInBounds]; exact h.hsz, fun q kd' v' g1 g2 g3 g4 => ?_, fun q kd' v' g1 g2 g3 g4 => ?_, h.mod.trans (hst.mod.mono (fun k e => .inl e)), h.hd, h.hk, fun q x hx => Nat.lt_of_lt_of_le (h.lt q x hx) hst.mod.size⟩
 ·by_cases e : q = p
  ·subst e
   rw [hkd] at g3
   injection g3 with g3
   subst g3
   rw [Array.getElem?_setIfInBounds_self_of_lt hlt] at g4
   injection g4 with g4
   subst g4
   rw [h1]
   exact .leaf kd v _ _ hv.leaf (fun _ => hv)
  ·rw [Array.getElem?_setIfInBounds_ne (by omega)] at g4
   exact (h.done q kd' v' (by omega) g2 g3 g4).mono (hold q)
 ·rw [Array.getElem?_setIfInBounds_ne (by omega)] at g4
  exact (h.todo q kd' v' (by omega) g2 g3 g4).mono (hold q)
theorem SlInv.sub (h : SlInv mt w0 w ks bk o m cur ty N Ts k0 p) (hp : p < m * ks.length) (hkd : ks[p % ks.length]? = some kd) (hv : cur[o + p]? = some v) (hm : Mod (Ts p) w w') (ht : MT mt true w' kd v (k0 + sumN N p) (N p) (Ts p)) :
  SlInv mt w0 w' ks bk o m cur ty N Ts k0 (p + 1) := by
 have hold : ∀ q, q ≠ p → ∀ b, Ts q b → w'.heap[b]? = w.heap[b]? := fun q hq b hb => hm.old b (h.lt q b hb) (fun e => hq (h.hd q p b hb e))
 refine ⟨(hm.old bk (blk_lt h.hb) (h.hk p)).trans h.hb, h.hsz, fun q kd' v' g1 g2 g3 g4 => ?_, fun q kd' v' g1 g2 g3 g4 => ?_, h.mod.trans (hm.mono (fun k hk => .inr ⟨p, hk⟩)), h.hd, h.hk, fun q x hx => Nat.lt_of_lt_of_le (h.lt q x hx) hm.size⟩
 ·by_cases e : q = p
  ·subst e
   rw [hkd] at g3
   injection g3 with g3
   subst g3
   rw [hv] at g4
   injection g4 with g4
   subst g4
   exact ht
  ·exact (h.done q kd' v' (by omega) g2 g3 g4).mono (hold q e)
 ·exact (h.todo q kd' v' (by omega) g2 g3 g4).mono (hold q (by omega))
end
def MarkOk (P : Program) (mt : Nat → List UInt8) (f : Nat) (kd : Kd) : Prop := Known P f ∧ ∀ (T : Nat → Prop) (x : Value) (n k0 : Nat) (w : World), globOk w → (∀ b, T b → globN ≤ b ∧ b < w.heap.size) → MT mt false w kd x 0 n T → k0 + n ≤ 1152921504606846976 →
 Calls P f #[x, .int .i64 (k0 : Int)] w fun e w' => e = .returned (.int .i64 ((k0 + n : Nat) : Int)) ∧ Mod T w w' ∧ MT mt true w' kd x k0 n T
def HeldOk (P : Program) (mt : Nat → List UInt8) (f : Nat) (kd : Kd) : Prop := Known P f ∧ ∀ (T : Nat → Prop) (x : Value) (n k0 : Nat) (w : World), globOk w → (∀ b, T b → b < w.heap.size) → MT mt true w kd x k0 n T → k0 + n ≤ 1152921504606846976 →
 Calls P f #[x, .int .i64 (k0 : Int)] w fun e w' => e = .returned (.int .i64 ((k0 + n : Nat) : Int)) ∧ Kept w w'
def TextOk (P : Program) (mt : Nat → List UInt8) (f : Nat) : Prop := Known P f ∧ ∀ (k : Nat) (w : World), k < 4611686018427387904 → globOk w →
 Calls P f #[.int .i64 (k : Int)] w fun e w' => ∃ b : ByteArray, e = .returned (.string b) ∧ b.data.toList = mt k ∧ Kept w w'
end Go.Am
end
