/-
  TabSound and its specification.
-/
import Derived.Test.YtlgbgnlpbnhhfaaGreatEps
import Derived.Test.YtlgbgnlpbnhhfaaGreatAmOk
import Derived.Test.YtlgbgnlpbnhhfaaGreatAmEq
import Derived.Test.YtlgbgnlpbnhhfaaGreatAmMore
set_option linter.unusedVariables false
set_option linter.unusedSimpArgs false
namespace Go.Am
open Go
variable {β : Type}
/-! ### lists sorted without repetition -/
/-- Rising. -/
def Rising (l : List Pr) : Prop := l.Pairwise (fun x y => ltPr x y = true)
theorem rising_nodup {l : List Pr} (h : Rising l) : l.Nodup := h.imp (fun {x y} hxy e => by subst e; rw [lt_irrefl] at hxy; cases hxy)
theorem rising_ext : ∀ {l m : List Pr}, Rising l → Rising m → (∀ x, x ∈ l ↔ x ∈ m) → l = m := by
  intro l
  induction l with
  | nil =>
    intro m _ _ h
    cases m with
    | nil => rfl
    | cons y m => exact absurd ((h y).2 (by simp)) (by simp)
  | cons x l ih =>
    intro m hl hm h
    cases m with
    | nil => exact absurd ((h x).1 (by simp)) (by simp)
    | cons y m =>
      have hl' := List.pairwise_cons.1 hl
      have hm' := List.pairwise_cons.1 hm
      have hxy : x = y := by
        rcases List.mem_cons.1 ((h x).1 (by simp)) with e | e
        · exact e
        · rcases List.mem_cons.1 ((h y).2 (by simp)) with e' | e'
          · exact e'.symm
          · have a := hm'.1 x e
            have b := hl'.1 y e'
            rw [lt_asym a] at b; cases b
      subst hxy
      congr 1
      refine ih hl'.2 hm'.2 (fun z => ?_)
      constructor
      · intro hz
        rcases List.mem_cons.1 ((h z).1 (List.mem_cons_of_mem _ hz)) with e | e
        · subst e
          have := hl'.1 z hz
          rw [lt_irrefl] at this; cases this
        · exact e
      · intro hz
        rcases List.mem_cons.1 ((h z).2 (List.mem_cons_of_mem _ hz)) with e | e
        · subst e
          have := hm'.1 z hz
          rw [lt_irrefl] at this; cases this
        · exact e
/-- Not falling. -/
def Sorted' (m : List Pr) : Prop := m.Pairwise (fun x y => ltPr y x = false)
theorem ms_sorted (l : List Pr) : Sorted' (l.mergeSort fun x y => !ltPr y x) := by
  have := List.pairwise_mergeSort (le := fun x y => !ltPr y x) (fun a b c h1 h2 => by
    simp only [Bool.not_eq_true'] at h1 h2 ⊢
    cases h : ltPr c a with
    | false => rfl
    | true =>
      by_cases e : b = c
      · subst e; rw [h] at h1; cases h1
      · have := lt_trans' (lt_of_not h2 e) h
        rw [this] at h1; cases h1) (fun a b => by
    cases h : ltPr b a with
    | false => rfl
    | true => rw [lt_asym h]; rfl) l
  exact this.imp (fun {x y} h => by simpa using h)
theorem cut_mem (m : List Pr) (n : Nat) (hn : n ≤ m.length) (x : Pr) : x ∈ Lib.compactUpTo m.toArray n ↔ x ∈ m.take n := by
  induction n with
  | zero => simp [Lib.compactUpTo]
  | succ n ih =>
    have hn' : n < m.length := by omega
    have hg : m.toArray[n]! = m[n] := by simp [hn']
    rw [Lib.compactUpTo_succ, List.mem_append, ih (by omega), List.take_succ_eq_append_getElem hn', List.mem_append]
    cases hk : Lib.keeps m.toArray n with
    | true => simp [hg]
    | false =>
      have h2 : n ≠ 0 ∧ m.toArray[n]! = m.toArray[n - 1]! := by
        simp only [Lib.keeps, decide_eq_false_iff_not, not_or, Decidable.not_not] at hk
        exact hk
      have hg1 : m.toArray[n - 1]! = m[n - 1] := by
        have : n - 1 < m.length := by omega
        simp [this]
      constructor
      · rintro (h | h)
        · exact .inl h
        · simp at h
      · rintro (h | h)
        · exact .inl h
        · left
          simp only [List.mem_cons, List.not_mem_nil, or_false] at h
          rw [h, ← hg, h2.2, hg1]
          refine List.mem_iff_getElem.2 ⟨n - 1, by simp; omega, by simp⟩
theorem cut_rising (m : List Pr) (hm : Sorted' m) (n : Nat) (hn : n ≤ m.length) : Rising (Lib.compactUpTo m.toArray n) := by
  induction n with
  | zero => simp [Lib.compactUpTo, Rising]
  | succ n ih =>
    have hn' : n < m.length := by omega
    have hg : m.toArray[n]! = m[n] := by simp [hn']
    rw [Lib.compactUpTo_succ]
    cases hk : Lib.keeps m.toArray n with
    | false => simpa using ih (by omega)
    | true =>
      rw [if_pos rfl, hg]
      refine List.pairwise_append.2 ⟨ih (by omega), by simp, fun x hx y hy => ?_⟩
      simp only [List.mem_cons, List.not_mem_nil, or_false] at hy
      subst hy
      have hx' := (cut_mem m n (by omega) x).1 hx
      obtain ⟨i, hi, rfl⟩ := List.mem_iff_getElem.1 hx'
      have hi' : i < n := by simp at hi; omega
      rw [List.getElem_take]
      have hord : ∀ a b (ha : a < b) (hb : b < m.length), ltPr m[b] (m[a]'(by omega)) = false := fun a b ha hb => List.pairwise_iff_getElem.1 hm a b (by omega) hb ha
      have hlast : ltPr (m[n - 1]'(by omega)) m[n] = true := by
        refine lt_of_not (hord (n - 1) n (by omega) hn') (fun e => ?_)
        simp only [Lib.keeps, decide_eq_true_eq] at hk
        rcases hk with h | h
        · omega
        · apply h
          have : n - 1 < m.length := by omega
          rw [hg]
          rw [List.getElem!_toArray, getElem!_pos m (n - 1) this]
          exact e.symm
      by_cases e : i = n - 1
      · subst e; exact hlast
      · cases h : ltPr m[i] m[n] with
        | true => rfl
        | false =>
          have h1 := hord i (n - 1) (by omega) (by omega)
          by_cases e2 : m[i]'(by omega) = m[n - 1]'(by omega)
          · rw [e2] at h; rw [h] at hlast; cases hlast
          · have := lt_trans' (lt_of_not h1 e2) hlast
            rw [this] at h; cases h
theorem sortPr_mem (l : List Pr) (x : Pr) : x ∈ sortPr l ↔ x ∈ l := by
  unfold sortPr Lib.compact
  rw [cut_mem _ _ (Nat.le_refl _), List.take_length]
  exact List.mem_mergeSort
theorem sortPr_rising (l : List Pr) : Rising (sortPr l) := cut_rising _ (ms_sorted l) _ (Nat.le_refl _)
theorem sortPr_eq {l m : List Pr} (hr : Rising m) (h : ∀ x, x ∈ m ↔ x ∈ l) : m = sortPr l := rising_ext hr (sortPr_rising l) (fun x => (h x).trans (sortPr_mem l x).symm)
theorem sortPr_len (l : List Pr) : (sortPr l).length = l.length ↔ l.Nodup := by
  constructor
  · intro h
    have hp : (l.mergeSort fun x y => !ltPr y x).Perm l := List.mergeSort_perm _ _
    have hs := ms_sorted l
    generalize hm : (l.mergeSort fun x y => !ltPr y x) = m at hp hs
    have hml : m.length = l.length := hp.length_eq
    have e : sortPr l = Lib.compact m := by unfold sortPr; rw [hm]
    rw [e] at h
    have hall : ∀ j, j < m.length → Lib.keeps m.toArray j = true := by
      have hl : ∀ n, n ≤ m.length → (Lib.compactUpTo m.toArray n).length ≤ n ∧ ((Lib.compactUpTo m.toArray n).length = n → ∀ j, j < n → Lib.keeps m.toArray j = true) := by
        intro n
        induction n with
        | zero => intro _; exact ⟨by simp [Lib.compactUpTo], fun _ j hj => by omega⟩
        | succ n ih =>
          intro hn
          obtain ⟨h1, h2⟩ := ih (by omega)
          rw [Lib.compactUpTo_succ]
          cases hk : Lib.keeps m.toArray n with
          | true =>
            refine ⟨by simp; omega, fun h3 j hj => ?_⟩
            by_cases e : j = n
            · subst e; exact hk
            · exact h2 (by simp at h3; omega) j (by omega)
          | false => exact ⟨by simp; omega, fun h3 => by simp at h3; omega⟩
      exact (hl m.length (Nat.le_refl _)).2 (by unfold Lib.compact at h; omega)
    have hc : Lib.compact m = m := Lib.compact_all m hall
    have := cut_rising m hs m.length (Nat.le_refl _)
    have hr : Rising m := by
      have h3 : Lib.compactUpTo m.toArray m.length = m := hc
      rwa [h3] at this
    exact hp.nodup_iff.1 (rising_nodup hr)
  · intro h
    have h1 : (sortPr l).Nodup := rising_nodup (sortPr_rising l)
    have hp : (sortPr l).Perm l := (List.perm_ext_iff_of_nodup h1 h).2 (fun x => sortPr_mem l x)
    exact hp.length_eq
/-- An answer that tells whether p. -/
def Dec (x : Option Bool) (p : Prop) : Prop := ∃ b, x = some b ∧ (b = true ↔ p)
def DecS (x : Option (Unit ⊕ (Unit ⊕ Unit))) (p : Prop) : Prop := (p → x = some (.inl ())) ∧ (¬ p → x = some (.inr (.inl ())))
section
variable {T : Type} {p q : Prop} {X f : Option Bool} {b : Bool}
theorem Dec.iff (h : Dec X p) (e : p ↔ q) : Dec X q := by obtain ⟨b, h1, h2⟩ := h; exact ⟨b, h1, h2.trans e⟩
theorem Dec.lit (h : b = true ↔ p) : Dec (some b) p := ⟨b, rfl, h⟩
theorem Dec.tt : Dec (some true) True := ⟨true, rfl, by simp⟩
theorem Dec.and (hb : b = true ↔ p) (hX : Dec X q) : Dec (br b X (some false)) (p ∧ q) := by
  obtain ⟨c, h1, h2⟩ := hX
  cases b with
  | true => exact ⟨c, h1, by rw [h2]; exact ⟨fun h => ⟨hb.1 rfl, h⟩, fun h => h.2⟩⟩
  | false => exact ⟨false, rfl, ⟨fun h => (by cases h), fun h => by have := hb.2 h.1; cases this⟩⟩
theorem Dec.nand (hb : b = true ↔ p) (hX : Dec X q) : Dec (br (!b) (some false) X) (p ∧ q) := by
  have := Dec.and hb hX
  cases b <;> exact this
theorem Dec.ne {x y : Int} (hX : Dec X q) : Dec (br (x != y) (some false) X) (x = y ∧ q) := Dec.nand (b := x == y) (by simp) hX
theorem Dec.bind (hf : Dec f p) (hX : Dec X q) : Dec (f.bind fun r => br r X (some false)) (p ∧ q) := by
  obtain ⟨c, rfl, h2⟩ := hf
  exact Dec.and h2 hX
theorem Dec.bindN (hf : Dec f p) (hX : Dec X q) : Dec (f.bind fun r => br (!r) (some false) X) (p ∧ q) := by
  obtain ⟨c, rfl, h2⟩ := hf
  exact Dec.nand h2 hX
theorem Dec.bindE (hf : Dec f p) : Dec (f.bind fun r => some r) p := by
  obtain ⟨c, rfl, h2⟩ := hf
  exact ⟨c, rfl, h2⟩
theorem Dec.len {a b : List T} (hX : a.length = b.length → Dec X q) : Dec (br ((a.length : Int) != (b.length : Int)) (some false) X) (a.length = b.length ∧ q) := by
  rw [len_ne]
  by_cases c : a.length = b.length
  · rw [decide_eq_true c]; exact (hX c).iff ⟨fun h => ⟨c, h⟩, fun h => h.2⟩
  · rw [decide_eq_false c]; exact ⟨false, rfl, ⟨fun h => (by cases h), fun h => absurd h.1 c⟩⟩
theorem Dec.loopK [DecidableEq T] {a b : List T} {body : Nat → T → Unit → Option (Unit ⊕ (Unit ⊕ Unit))} (hl : a.length = b.length) (hm : a.length ≤ maxLen)
    (h : ∀ i x y, a[i]? = some x → b[i]? = some y → DecS (body i x ()) (x = y)) (hX : Dec X q) : Dec ((forE a body (fun _ => (.inr () : Unit ⊕ Unit)) ()).bind (Sum.elim (fun _ => some false) (fun _ => X))) (a = b ∧ q) := by
  rw [for_eqL (.inl ()) hl hm (fun i x y hx hy => by
    obtain ⟨h1, h2⟩ := h i x y hx hy
    by_cases c : x = y
    · rw [if_pos c]; exact h1 c
    · rw [if_neg c]; exact h2 c)]
  by_cases c : a = b
  · rw [if_pos c]; exact hX.iff ⟨fun h => ⟨c, h⟩, fun h => h.2⟩
  · rw [if_neg c]; exact ⟨false, rfl, ⟨fun h => (by cases h), fun h => absurd h.1 c⟩⟩
theorem Dec.loop [DecidableEq T] {a b : List T} {body : Nat → T → Unit → Option (Unit ⊕ (Unit ⊕ Unit))} (hl : a.length = b.length) (hm : a.length ≤ maxLen)
    (h : ∀ i x y, a[i]? = some x → b[i]? = some y → DecS (body i x ()) (x = y)) : Dec ((forE a body (fun _ => (.inr () : Unit ⊕ Unit)) ()).bind (Sum.elim (fun _ => some false) (fun _ => some true))) (a = b) :=
  (Dec.loopK hl hm h Dec.tt).iff (by simp)
/-- The library's comparison of two lists, and the specification's. -/
theorem Dec.list [DecidableEq T] {a b : List T} {body : Nat → T → Unit → Option (Unit ⊕ (Unit ⊕ Unit))} (hm : a.length ≤ maxLen)
    (h : ∀ i x y, a[i]? = some x → b[i]? = some y → DecS (body i x ()) (x = y)) : Dec (br ((a.length : Int) != (b.length : Int)) (some false) ((forE a body (fun _ => (.inr () : Unit ⊕ Unit)) ()).bind (Sum.elim (fun _ => some false) (fun _ => some true)))) (a = b) :=
  (Dec.len (fun hl => Dec.loop hl hm h)).iff ⟨fun h => h.2, fun h => ⟨by rw [h], h⟩⟩
theorem DecS.get {l : List T} {i : Nat} {y : T} {X : T → Option (Unit ⊕ (Unit ⊕ Unit))} (h : l[i]? = some y) (hX : DecS (X y) p) : DecS ((getI l (i : Int)).bind X) p := by rw [getI_nat h]; exact hX
theorem DecS.iff {X : Option (Unit ⊕ (Unit ⊕ Unit))} (h : DecS X p) (e : p ↔ q) : DecS X q := ⟨fun h2 => h.1 (e.2 h2), fun h2 => h.2 (fun h3 => h2 (e.1 h3))⟩
theorem DecS.tt : DecS (some (.inl ())) True := ⟨fun _ => rfl, fun h => absurd trivial h⟩
theorem DecS.nand {X : Option (Unit ⊕ (Unit ⊕ Unit))} (hb : b = true ↔ p) (hX : DecS X q) : DecS (br (!b) (some (.inr (.inl ()))) X) (p ∧ q) := by
  cases b with
  | true => exact hX.iff ⟨fun h => ⟨hb.1 rfl, h⟩, fun h => h.2⟩
  | false => exact ⟨fun h => (by have := hb.2 h.1; cases this), fun _ => rfl⟩
theorem DecS.flat (hb : b = true ↔ p) : DecS (br (!b) (some (.inr (.inl ()))) (some (.inl ()))) p := (DecS.nand hb DecS.tt).iff (by simp)
theorem DecS.ne {x y : Int} {X : Option (Unit ⊕ (Unit ⊕ Unit))} (hX : DecS X q) : DecS (br (x != y) (some (.inr (.inl ()))) X) (x = y ∧ q) := DecS.nand (b := x == y) (by simp) hX
theorem DecS.call {X : Option (Unit ⊕ (Unit ⊕ Unit))} (hf : Dec f p) (hX : DecS X q) : DecS (f.bind fun r => br (!r) (some (.inr (.inl ()))) X) (p ∧ q) := by
  obtain ⟨c, rfl, h2⟩ := hf
  exact DecS.nand h2 hX
theorem DecS.call1 (hf : Dec f p) : DecS (f.bind fun r => br (!r) (some (.inr (.inl ()))) (some (.inl ()))) p := (DecS.call hf DecS.tt).iff (by simp)
theorem DecS.len {a b : List T} {X : Option (Unit ⊕ (Unit ⊕ Unit))} (hX : a.length = b.length → DecS X q) : DecS (br ((a.length : Int) != (b.length : Int)) (some (.inr (.inl ()))) X) (a.length = b.length ∧ q) := by
  rw [len_ne]
  by_cases c : a.length = b.length
  · rw [decide_eq_true c]; exact (hX c).iff ⟨fun h => ⟨c, h⟩, fun h => h.2⟩
  · rw [decide_eq_false c]; exact ⟨fun h => absurd h.1 c, fun _ => rfl⟩
/-- A counting loop that compares two lists. -/
theorem while_dec [DecidableEq T] {a b : List T} {body : Int → Option (Int ⊕ (Unit ⊕ Unit))} (hl : a.length = b.length)
    (h : ∀ (i : Nat) x y, a[i]? = some x → b[i]? = some y → body (i : Int) = some (if x = y then .inl ((i + 1 : Nat) : Int) else .inr (.inl ()))) (hf : body (a.length : Int) = some (.inr (.inr ()))) :
    ∀ (zs ys : List T) (i : Nat), a.drop i = zs → b.drop i = ys → i ≤ a.length → whileE body (i : Int) = some (if zs = ys then .inr () else .inl ()) := by
  intro zs
  induction zs with
  | nil =>
    intro ys i h1 h2 hi
    have : i = a.length := by
      have := List.drop_eq_nil_iff.1 h1
      omega
    subst this
    obtain rfl : ys = [] := by rw [← h2, hl]; simp
    unfold whileE
    rw [whileInf_step, hf]
    rfl
  | cons z zs ih =>
    intro ys i h1 h2 hi
    have hz : a[i]? = some z := by
      have := congrArg (fun l => l[0]?) h1
      simpa using this
    have hlt := (List.getElem?_eq_some_iff.1 hz).1
    cases ys with
    | nil => have := List.drop_eq_nil_iff.1 h2; omega
    | cons y ys =>
      have hy : b[i]? = some y := by
        have := congrArg (fun l => l[0]?) h2
        simpa using this
      unfold whileE
      rw [whileInf_step, h i z y hz hy]
      by_cases c : z = y
      · rw [if_pos c]
        show whileE body ((i + 1 : Nat) : Int) = _
        rw [ih ys (i + 1) (by rw [← List.tail_drop, h1]; rfl) (by rw [← List.tail_drop, h2]; rfl) (by omega)]
        subst c
        simp
      · rw [if_neg c]
        show some _ = some _
        rw [if_neg (by intro e; exact c (List.cons.inj e).1)]
theorem DecS.whileD [DecidableEq T] {a b : List T} {body : Int → Option (Int ⊕ (Unit ⊕ Unit))} (hl : a.length = b.length)
    (h : ∀ (i : Nat) x y, a[i]? = some x → b[i]? = some y → body (i : Int) = some (if x = y then .inl ((i + 1 : Nat) : Int) else .inr (.inl ()))) (hf : body (a.length : Int) = some (.inr (.inr ()))) :
    DecS ((whileE body 0).bind (Sum.elim (fun _ => some (.inr (.inl ()))) (fun _ => some (.inl ())))) (a = b) := by
  have := while_dec hl h hf a b 0 rfl rfl (Nat.zero_le _)
  rw [show ((0 : Nat) : Int) = 0 from rfl] at this
  rw [this]
  by_cases c : a = b
  · rw [if_pos c]; exact ⟨fun _ => rfl, fun h => absurd c h⟩
  · rw [if_neg c]; exact ⟨fun h => absurd h c, fun _ => rfl⟩
end
theorem beqT {T : Type} [BEq T] [LawfulBEq T] {x y : T} : (x == y) = true ↔ x = y := beq_iff_eq
theorem cmpT {p : Prop} [Decidable p] {b : Bool} (h : b = decide p) : b = true ↔ p := by rw [h]; simp
section
variable {T : Type} {p q : Prop} {X f : Option Bool} {b : Bool}
theorem Dec.same {x y : Option Bool} (h : Dec x p) (h' : Dec y p) : ∃ r, x = some r ∧ y = some r := by
  obtain ⟨a, h1, h2⟩ := h
  obtain ⟨c, h3, h4⟩ := h'
  exact ⟨a, h1, by rw [h3]; congr 1; rw [Bool.eq_iff_iff, h2, h4]⟩
theorem Dec.nandC (hb : b = true ↔ p) (hX : p → Dec X q) : Dec (br (!b) (some false) X) (p ∧ q) := by
  cases b with
  | true => exact (hX (hb.1 rfl)).iff ⟨fun h => ⟨hb.1 rfl, h⟩, fun h => h.2⟩
  | false => exact ⟨false, rfl, ⟨fun h => (by cases h), fun h => by have := hb.2 h.1; cases this⟩⟩
theorem Dec.andC (hb : b = true ↔ p) (hX : p → Dec X q) : Dec (br b X (some false)) (p ∧ q) := by
  have := Dec.nandC hb hX
  cases b <;> exact this
theorem Dec.bindC (hf : Dec f p) (hX : p → Dec X q) : Dec (f.bind fun r => br (!r) (some false) X) (p ∧ q) := by
  obtain ⟨c, rfl, h2⟩ := hf
  exact Dec.nandC h2 hX
theorem Dec.bindP (hf : Dec f p) (hX : p → Dec X q) : Dec (f.bind fun r => br r X (some false)) (p ∧ q) := by
  obtain ⟨c, rfl, h2⟩ := hf
  exact Dec.andC h2 hX
theorem Dec.getC {l : List T} {n : Int} {X : T → Option Bool} {x : T} (h0 : 0 ≤ n) (h : l[n.toNat]? = some x) (hX : Dec (X x) p) : Dec ((getI l n).bind X) p := by
  have : getI l n = some x := by
    unfold getI
    rw [if_pos h0, h]
  rw [this]; exact hX
/-- A loop that asks something of every element. -/
theorem Dec.all {l : List T} {P : Nat → T → Prop} {body : Nat → T → Unit → Option (Unit ⊕ (Unit ⊕ Unit))} (hm : l.length ≤ maxLen) (h : ∀ i x, l[i]? = some x → DecS (body i x ()) (P i x)) (hX : Dec X q) :
    Dec ((forE l body (fun _ => (.inr () : Unit ⊕ Unit)) ()).bind (Sum.elim (fun _ => some false) (fun _ => X))) ((∀ i x, l[i]? = some x → P i x) ∧ q) := by
  have key : ∀ (zs : List T) (i : Nat), l.drop i = zs → i ≤ l.length → ∃ r : Unit ⊕ Unit, forA body (fun _ => (.inr () : Unit ⊕ Unit)) i zs () = some r ∧ ((r = .inr ()) ↔ ∀ j x, i ≤ j → l[j]? = some x → P j x) := by
    intro zs
    induction zs with
    | nil =>
      intro i hd hi
      have := List.drop_eq_nil_iff.1 hd
      exact ⟨.inr (), rfl, by simp; intro j x hj hx; have := (List.getElem?_eq_some_iff.1 hx).1; omega⟩
    | cons z zs ih =>
      intro i hd hi
      have hz : l[i]? = some z := by
        have := congrArg (fun l => l[0]?) hd
        simpa using this
      have hlt := (List.getElem?_eq_some_iff.1 hz).1
      have hd' : l.drop (i + 1) = zs := by rw [← List.tail_drop, hd]; rfl
      obtain ⟨h1, h2⟩ := h i z hz
      by_cases c : P i z
      · obtain ⟨r, h3, h4⟩ := ih (i + 1) hd' (by omega)
        refine ⟨r, by rw [forA, h1 c]; exact h3, h4.trans ⟨fun hr j x hj hx => ?_, fun hr j x hj hx => hr j x (by omega) hx⟩⟩
        by_cases e : j = i
        · subst e; rw [hz] at hx; injection hx with hx; subst hx; exact c
        · exact hr j x (by omega) hx
      · exact ⟨.inl (), by rw [forA, h2 c], by simp; exact ⟨i, Nat.le_refl _, z, hz, c⟩⟩
  obtain ⟨r, h1, h2⟩ := key l 0 rfl (Nat.zero_le _)
  unfold forE
  rw [if_pos hm, h1]
  cases r with
  | inl u => exact ⟨false, rfl, ⟨fun h => (by cases h), fun h => by have := h2.2 (fun j x _ hx => h.1 j x hx); cases this⟩⟩
  | inr u => exact hX.iff ⟨fun h => ⟨fun i x hx => h2.1 rfl i x (Nat.zero_le _) hx, h⟩, fun h => h.2⟩
theorem Dec.all1 {l : List T} {P : Nat → T → Prop} {body : Nat → T → Unit → Option (Unit ⊕ (Unit ⊕ Unit))} (hm : l.length ≤ maxLen) (h : ∀ i x, l[i]? = some x → DecS (body i x ()) (P i x)) :
    Dec ((forE l body (fun _ => (.inr () : Unit ⊕ Unit)) ()).bind (Sum.elim (fun _ => some false) (fun _ => some true))) (∀ i x, l[i]? = some x → P i x) :=
  (Dec.all hm h Dec.tt).iff (by simp)
/-- A loop that looks for one. -/
theorem Dec.any {l : List T} {P : T → Prop} {body : Nat → T → Unit → Option (Unit ⊕ (Unit ⊕ Unit))} (hm : l.length ≤ maxLen) (h : ∀ i x, l[i]? = some x → DecS (body i x ()) (¬ P x)) :
    Dec ((forE l body (fun _ => (.inr () : Unit ⊕ Unit)) ()).bind (Sum.elim (fun _ => some true) (fun _ => some false))) (∃ x ∈ l, P x) := by
  have := Dec.all1 hm h
  obtain ⟨c, h1, h2⟩ := this
  cases hf : forE l body (fun _ => (.inr () : Unit ⊕ Unit)) () with
  | none => rw [hf] at h1; cases h1
  | some r =>
    rw [hf] at h1
    cases r with
    | inl u =>
      have hc : c = false := by injection h1 with h1; exact h1.symm
      refine ⟨true, rfl, ⟨fun _ => ?_, fun _ => rfl⟩⟩
      subst hc
      apply Classical.byContradiction
      intro hn
      have : ∀ i x, l[i]? = some x → ¬ P x := fun i x hx hp => hn ⟨x, List.mem_of_getElem? hx, hp⟩
      have := h2.2 this
      cases this
    | inr u =>
      have hc : c = true := by injection h1 with h1; exact h1.symm
      refine ⟨false, rfl, ⟨fun h => (by cases h), fun ⟨x, hx, hp⟩ => ?_⟩⟩
      obtain ⟨i, hi, rfl⟩ := List.mem_iff_getElem.1 hx
      exact absurd hp (h2.1 hc i _ (List.getElem?_eq_getElem hi))
/-- A counting loop that asks something of every number. -/
theorem Dec.whileAll {n i0 : Nat} {P : Nat → Prop} {body : Int → Option (Int ⊕ (Unit ⊕ Unit))} (hi : i0 ≤ n)
    (h : ∀ i : Nat, i0 ≤ i → i < n → (P i → body i = some (.inl ((i + 1 : Nat) : Int))) ∧ (¬ P i → body i = some (.inr (.inl ())))) (hf : body n = some (.inr (.inr ()))) (hX : Dec X q) :
    Dec ((whileE body (i0 : Int)).bind (Sum.elim (fun _ => some false) (fun _ => X))) ((∀ i : Nat, i0 ≤ i → i < n → P i) ∧ q) := by
  have key : ∀ (m i : Nat), n - i = m → i0 ≤ i → i ≤ n → ∃ r : Unit ⊕ Unit, whileE body (i : Int) = some r ∧ ((r = .inr ()) ↔ ∀ j : Nat, i ≤ j → j < n → P j) := by
    intro m
    induction m with
    | zero =>
      intro i hm h0 hn
      have : i = n := by omega
      subst this
      refine ⟨.inr (), ?_, by simp; intro j hj hj2; omega⟩
      unfold whileE
      rw [whileInf_step, hf]
    | succ m ih =>
      intro i hm h0 hn
      obtain ⟨h1, h2⟩ := h i h0 (by omega)
      unfold whileE
      rw [whileInf_step]
      by_cases c : P i
      · rw [h1 c]
        obtain ⟨r, h3, h4⟩ := ih (i + 1) (by omega) (by omega) (by omega)
        refine ⟨r, h3, h4.trans ⟨fun hr j hj hn => ?_, fun hr j hj hn => hr j (by omega) hn⟩⟩
        by_cases e : j = i
        · subst e; exact c
        · exact hr j (by omega) hn
      · rw [h2 c]
        exact ⟨.inl (), rfl, by simp; exact ⟨i, Nat.le_refl _, by omega, c⟩⟩
  obtain ⟨r, h1, h2⟩ := key (n - i0) i0 rfl (Nat.le_refl _) hi
  rw [h1]
  cases r with
  | inl u => exact ⟨false, rfl, ⟨fun h => (by cases h), fun h => by have := h2.2 h.1; cases this⟩⟩
  | inr u => exact hX.iff ⟨fun h => ⟨h2.1 rfl, h⟩, fun h => h.2⟩
end
theorem d_iIn (n a c : Int) : Dec (iInRange n a c) (a ≤ n ∧ n ≤ c) := Dec.and (by simp) (Dec.lit (by simp))
theorem d_sIn (n a c : Int) : Dec (sl1In n a c) (a ≤ n ∧ n ≤ c) := Dec.and (by simp) (Dec.lit (by simp))
theorem ok_IsName (s : List UInt8) (h : okS s) : Ok (iIsName s) (fun b => b = true → s.length ≤ 8) := by
  unfold iIsName
  refine Ok.bind (Q1 := fun _ => True) (Ok.for h (fun _ _ => True) trivial (fun i x s _ _ => ?_) (fun _ _ => trivial)) (fun r _ _ => ?_)
  · exact Ok.br (fun _ => Ok.ret trivial) (fun _ => Ok.br (fun _ => Ok.ret trivial) (fun _ => Ok.ret trivial))
  · cases r with
    | inl r => exact Ok.ret (fun h => by cases h)
    | inr r => exact Ok.bind (Q1 := fun b => b = true → s.length ≤ 8) (Ok.br (fun _ => Ok.ret (fun h => by have := of_decide_eq_true h; omega)) (fun _ => Ok.ret (fun h => by cases h))) (fun r _ h => Ok.ret h)
def NameP (s : List UInt8) : Prop := iIsName s = some true
theorem d_iName (s : List UInt8) (h : okS s) : Dec (iIsName s) (NameP s) := by
  obtain ⟨b, hb, _⟩ := ok_IsName s h
  exact ⟨b, hb, by unfold NameP; rw [hb]; simp⟩
theorem d_sName (s : List UInt8) (h : okS s) : Dec (sIsName s) (NameP s) := d_iName s h
theorem name_nil : ¬ NameP [] := by
  intro h
  unfold NameP iIsName forE at h
  rw [if_pos (show ([] : List UInt8).length ≤ maxLen from Nat.zero_le _)] at h
  cases h
def VoidP (s : List UInt8) : Prop := s = [105, 109, 103] ∨ s = [108, 105, 110, 107]
theorem d_iVoid (s : List UInt8) : Dec (iIsVoid s) (VoidP s) := by
  unfold iIsVoid VoidP
  by_cases h : s = [105, 109, 103]
  · exact ⟨true, by rw [h]; rfl, by simp [h]⟩
  · refine ⟨s == [108, 105, 110, 107], ?_, by simp [h]⟩
    rw [show (s == [105, 109, 103]) = false by simpa using h]
    rfl
theorem d_sVoid (s : List UInt8) : Dec (sIsVoid s) (VoidP s) := d_iVoid s
/-- A place that takes children. -/
def OpenP (b : TBuilder) (n : Int) : Prop := 0 ≤ n ∧ ∃ x, b.xNodes[n.toNat]? = some x ∧ x.xName ≠ [] ∧ ¬ VoidP x.xName
theorem d_iOpen (b : TBuilder) (n : Int) : Dec (iisOpenable b n) (OpenP b n) := by
  unfold iisOpenable OpenP
  refine Dec.andC (p := 0 ≤ n) (by simp) (fun h0 => ?_)
  by_cases h1 : n < (b.xNodes.length : Int)
  · have hlt : n.toNat < b.xNodes.length := by omega
    rw [show decide (n < (b.xNodes.length : Int)) = true by simpa using h1]
    have hx := List.getElem?_eq_getElem hlt
    refine Dec.getC h0 hx ?_
    refine Dec.iff (Dec.andC (p := b.xNodes[n.toNat].xName ≠ []) (by simp) (fun hn => Dec.getC h0 hx ?_)) ⟨fun h => ⟨_, hx, h.1, h.2⟩, fun ⟨x, e, h2, h3⟩ => ?_⟩
    · obtain ⟨v, h5, h6⟩ := d_iVoid b.xNodes[n.toNat].xName
      rw [h5]
      exact ⟨!v, rfl, by rw [← h6]; simp⟩
    · rw [hx] at e
      injection e with e
      subst e
      exact ⟨h2, h3⟩
  · refine ⟨false, ?_, ⟨fun h => (by cases h), fun ⟨x, e, _⟩ => ?_⟩⟩
    · rw [show decide (n < (b.xNodes.length : Int)) = false by simpa using h1]
      rfl
    · have := (List.getElem?_eq_some_iff.1 e).1
      omega
def NodeP (b : TBuilder) (i : Nat) (x : TNode) : Prop := x.xParent < i ∧ OpenP b x.xParent ∧ ((NameP x.xName ∧ x.xText = []) ∨ (x.xName = [] ∧ x.xText ≠ [] ∧ x.xAttrs.length = 0))
theorem d_sNode (b : TBuilder) (h : b.ok) (i : Nat) (x : TNode) (h1 : 1 ≤ i) (hx : b.xNodes[i]? = some x) (hl : b.xNodes.length ≤ 40) : Dec (sl6Node b i) (NodeP b i x) := by
  have hlt := (List.getElem?_eq_some_iff.1 hx).1
  have hok : TNode.ok x := h.1.2 x (List.mem_of_getElem? hx)
  unfold sl6Node NodeP
  refine Dec.getC (by omega) (by simpa using hx) ?_
  have hw : IntKind.wrap .i64 ((i : Int) - 1) = (i : Int) - 1 := by simp [IntKind.wrap, IntKind.bits, IntKind.signed]; omega
  rw [hw]
  refine Dec.iff (Dec.bindC (d_sIn _ _ _) (fun hp => ?_)) ⟨fun ⟨hp, hr⟩ => ⟨by omega, hr⟩, fun ⟨hp, ho, hr⟩ => ⟨⟨ho.1, by omega⟩, ho, hr⟩⟩
  have hlp : x.xParent.toNat < b.xNodes.length := by omega
  have hpx := List.getElem?_eq_getElem hlp
  have hopen : OpenP b x.xParent ↔ (b.xNodes[x.xParent.toNat].xName ≠ [] ∧ ¬ VoidP b.xNodes[x.xParent.toNat].xName) := ⟨fun ⟨_, y, e, h2, h3⟩ => by rw [hpx] at e; injection e with e; subst e; exact ⟨h2, h3⟩, fun h => ⟨hp.1, _, hpx, h.1, h.2⟩⟩
  rw [hopen]
  refine Dec.getC hp.1 hpx ?_
  obtain ⟨c7, e7, i7⟩ := d_sName x.xName hok.1
  obtain ⟨v, ev, iv⟩ := d_sVoid b.xNodes[x.xParent.toNat].xName
  have gg : ∀ X : TNode → Option Bool, (getI b.xNodes x.xParent).bind X = X b.xNodes[x.xParent.toNat] := fun X => by
    have : getI b.xNodes x.xParent = some b.xNodes[x.xParent.toNat] := by
      unfold getI
      rw [if_pos hp.1, hpx]
    rw [this]; rfl
  simp only [gg]
  have B : ∀ l : List UInt8, ∃ b, (l == []) = b ∧ (b = true ↔ l = []) := fun l => ⟨_, rfl, by simp⟩
  have hn7 : x.xName = [] → c7 = false := fun e => by
    cases hc : c7 with
    | false => rfl
    | true => exact absurd (by rw [← e]; exact i7.1 hc) name_nil
  obtain ⟨bn, en, jn⟩ := B b.xNodes[x.xParent.toNat].xName
  obtain ⟨bm, em, jm⟩ := B x.xName
  obtain ⟨bt, et, jt⟩ := B x.xText
  obtain ⟨ba, ea, ja⟩ : ∃ c, ((x.xAttrs.length : Int) == 0) = c ∧ (c = true ↔ x.xAttrs.length = 0) := ⟨_, rfl, by simp⟩
  rw [← jm] at hn7
  rw [ev, e7, en, em, et, ea, ← iv, ← i7, ← ja, Ne, Ne, ← jn, ← jm, ← jt]
  clear iv i7 ja jn jm jt ev e7 en em et ea gg hopen B
  cases bn <;> cases bm <;> cases bt <;> cases v <;> cases c7 <;> cases ba <;> first | exact Bool.noConfusion (hn7 rfl) | exact ⟨_, rfl, by simp⟩
/-- An open place hangs on the one before it. -/
def OpP (b : TBuilder) (i : Nat) (n : Int) : Prop := OpenP b n ∧ ∃ x, b.xNodes[n.toNat]? = some x ∧ b.xOpen[i - 1]? = some x.xParent
def BuilderP (b : TBuilder) : Prop := (1 ≤ (b.xNodes.length : Int) ∧ (b.xNodes.length : Int) ≤ 40) ∧ (1 ≤ (b.xOpen.length : Int) ∧ (b.xOpen.length : Int) ≤ 8) ∧ b.xOpen[0]? = some 0 ∧
  (∃ r, b.xNodes[0]? = some r ∧ r.xName = [112, 97, 103, 101] ∧ r.xParent = -1 ∧ r.xText = [] ∧ r.xAttrs.length = 0) ∧
  (∀ i x, b.xNodes[i]? = some x → i ≠ 0 → NodeP b i x) ∧ (∀ i n, b.xOpen[i]? = some n → i ≠ 0 → OpP b i n)
theorem op_pos {b : TBuilder} (h0 : b.xOpen[0]? = some 0) (hr : ∃ r, b.xNodes[0]? = some r ∧ r.xParent = -1) (h : ∀ i n, b.xOpen[i]? = some n → i ≠ 0 → OpP b i n) (i : Nat) (n : Int) (hn : b.xOpen[i]? = some n) (hi : i ≠ 0) : 1 ≤ n := by
  obtain ⟨⟨hge, _⟩, x, hx, hp⟩ := h i n hn hi
  by_cases e : n = 0
  · subst e
    obtain ⟨r, hr, hr1⟩ := hr
    rw [show (0 : Int).toNat = 0 from rfl, hr] at hx
    injection hx with hx
    subst hx
    rw [hr1] at hp
    by_cases e1 : i - 1 = 0
    · rw [e1, h0] at hp; cases hp
    · have := (h (i - 1) (-1) hp e1).1.1
      omega
  · omega
theorem d_sBuilder (b : TBuilder) (h : b.ok) : Dec (sIsBuilder b) (BuilderP b) := by
  unfold sIsBuilder BuilderP
  refine Dec.bindC (d_sIn _ _ _) (fun h1 => Dec.bindC (d_sIn _ _ _) (fun h2 => ?_))
  have ho : 0 < b.xOpen.length := by omega
  have hn : 0 < b.xNodes.length := by omega
  have ho0 := List.getElem?_eq_getElem ho
  have hn0 := List.getElem?_eq_getElem hn
  refine Dec.getC (Int.le_refl 0) ho0 ?_
  refine Dec.iff (Dec.ne (q := b.xNodes[0].xName = [112, 97, 103, 101] ∧ b.xNodes[0].xParent = -1 ∧ b.xNodes[0].xText = [] ∧ (b.xNodes[0].xAttrs.length : Int) = 0 ∧
    (∀ i : Nat, 1 ≤ i → i < b.xNodes.length → ∀ x, b.xNodes[i]? = some x → NodeP b i x) ∧ (∀ i : Nat, 1 ≤ i → i < b.xOpen.length → ∀ n, b.xOpen[i]? = some n → 1 ≤ n ∧ OpP b i n)) ?_)
    ⟨fun ⟨e, a1, a2, a3, a4, a5, a6⟩ => ⟨by rw [ho0, e], ⟨_, hn0, a1, a2, a3, by omega⟩, fun i x hx hi => a5 i (by omega) ((List.getElem?_eq_some_iff.1 hx).1) x hx, fun i n hx hi => (a6 i (by omega) ((List.getElem?_eq_some_iff.1 hx).1) n hx).2⟩,
     fun ⟨e, ⟨r, hr, a1, a2, a3, a4⟩, a5, a6⟩ => by
      have hpos := op_pos e ⟨r, hr, a2⟩ a6
      rw [ho0] at e
      injection e with e
      rw [hn0] at hr
      injection hr with hr
      subst hr
      exact ⟨e, a1, a2, a3, by omega, fun i hi hl x hx => a5 i x hx (by omega), fun i hi hl n hx => ⟨hpos i n hx (by omega), a6 i n hx (by omega)⟩⟩⟩
  refine Dec.getC (Int.le_refl 0) hn0 ?_
  refine Dec.nand (by simp) (Dec.ne (Dec.nand (by simp) (Dec.ne ?_)))
  refine Dec.iff (Dec.whileAll (n := b.xNodes.length) (i0 := 1) (P := fun i => ∀ x, b.xNodes[i]? = some x → NodeP b i x) (by omega) (fun i hi hl => ?_) ?_ (Dec.whileAll (n := b.xOpen.length) (i0 := 1) (P := fun i => ∀ n, b.xOpen[i]? = some n → 1 ≤ n ∧ OpP b i n) (by omega) (fun i hi hl => ?_) ?_ Dec.tt)) (by simp)
  · have hx := List.getElem?_eq_getElem hl
    obtain ⟨c, e1, e2⟩ := d_sNode b h i _ hi hx (by omega)
    have hw : IntKind.wrap .i64 ((i : Int) + 1) = ((i + 1 : Nat) : Int) := by simp [IntKind.wrap, IntKind.bits, IntKind.signed]; omega
    have hp : (∀ x, b.xNodes[i]? = some x → NodeP b i x) ↔ c = true := by
      rw [e2, hx]
      exact ⟨fun h => h _ rfl, fun h x e => by injection e with e; subst e; exact h⟩
    rw [hp, show decide ((i : Int) < (b.xNodes.length : Int)) = true by simpa using hl, e1, hw]
    cases c <;> exact ⟨fun h => (by first | rfl | cases h), fun h => (by first | rfl | exact absurd rfl h)⟩
  · rw [show decide ((b.xNodes.length : Int) < (b.xNodes.length : Int)) = false by simp]
    rfl
  · have hx := List.getElem?_eq_getElem hl
    have hw : IntKind.wrap .i64 ((i : Int) + 1) = ((i + 1 : Nat) : Int) := by simp [IntKind.wrap, IntKind.bits, IntKind.signed]; omega
    have hw1 : IntKind.wrap .i64 ((i : Int) - 1) = ((i - 1 : Nat) : Int) := by simp [IntKind.wrap, IntKind.bits, IntKind.signed]; omega
    have hw2 : IntKind.wrap .i64 ((b.xNodes.length : Int) - 1) = (b.xNodes.length : Int) - 1 := by simp [IntKind.wrap, IntKind.bits, IntKind.signed]; omega
    have hl1 : i - 1 < b.xOpen.length := by omega
    have hx1 := List.getElem?_eq_getElem hl1
    have g1 : getI b.xOpen (i : Int) = some b.xOpen[i] := getI_nat hx
    have g2 : getI b.xOpen ((i - 1 : Nat) : Int) = some b.xOpen[i - 1] := getI_nat hx1
    have hp : (∀ n, b.xOpen[i]? = some n → 1 ≤ n ∧ OpP b i n) ↔ (1 ≤ b.xOpen[i] ∧ OpP b i b.xOpen[i]) := by
      rw [hx]
      exact ⟨fun h => h _ rfl, fun h x e => by injection e with e; subst e; exact h⟩
    rw [hp, show decide ((i : Int) < (b.xOpen.length : Int)) = true by simpa using hl, hw, hw1, hw2, g1]
    unfold OpP
    rw [hx1]
    show (_ → (((sl1In b.xOpen[i] 1 ((b.xNodes.length : Int) - 1)).bind _ : Option (Int ⊕ (Unit ⊕ Unit))) = _)) ∧ (_ → ((sl1In b.xOpen[i] 1 ((b.xNodes.length : Int) - 1)).bind _ : Option (Int ⊕ (Unit ⊕ Unit))) = _)
    generalize b.xOpen[i] = n
    generalize b.xOpen[i - 1] = m at g2 ⊢
    obtain ⟨ci, ei, ii⟩ := d_sIn n 1 ((b.xNodes.length : Int) - 1)
    rw [ei]
    cases ci with
    | false =>
      refine ⟨fun ⟨h1, ⟨_, y, hy, _⟩, _⟩ => ?_, fun _ => rfl⟩
      have := (List.getElem?_eq_some_iff.1 hy).1
      have := ii.2 ⟨h1, by omega⟩
      cases this
    | true =>
      obtain ⟨i1, i2⟩ := ii.1 rfl
      have hlt : n.toNat < b.xNodes.length := by omega
      have hnx := List.getElem?_eq_getElem hlt
      have g3 : getI b.xNodes n = some b.xNodes[n.toNat] := by
        unfold getI
        rw [if_pos (by omega), hnx]
      have hop : (1 ≤ n ∧ OpenP b n ∧ ∃ x, b.xNodes[n.toNat]? = some x ∧ some m = some x.xParent) ↔ (b.xNodes[n.toNat].xName ≠ [] ∧ ¬ VoidP b.xNodes[n.toNat].xName ∧ b.xNodes[n.toNat].xParent = m) := by
        constructor
        · rintro ⟨_, ⟨_, y, hy, h3, h4⟩, z, hz, h5⟩
          rw [hnx] at hy hz
          injection hy with hy
          injection hz with hz
          injection h5 with h5
          subst hy
          rw [hz]
          rw [hz] at h3 h4
          exact ⟨h3, h4, h5.symm⟩
        · rintro ⟨h3, h4, h5⟩
          exact ⟨i1, ⟨by omega, _, hnx, h3, h4⟩, _, hnx, by rw [h5]⟩
      rw [hop]
      simp only [br, Bool.not_true, if_false, Bool.false_eq_true, g3, g2, Option.bind_some]
      obtain ⟨v, ev, iv⟩ := d_sVoid b.xNodes[n.toNat].xName
      obtain ⟨bn, en, jn⟩ : ∃ c, (b.xNodes[n.toNat].xName == []) = c ∧ (c = true ↔ b.xNodes[n.toNat].xName = []) := ⟨_, rfl, by simp⟩
      obtain ⟨bp, ep, jp⟩ : ∃ c, (b.xNodes[n.toNat].xParent != m) = c ∧ (c = false ↔ b.xNodes[n.toNat].xParent = m) := ⟨_, rfl, by simp⟩
      rw [ev, en, ep, ← iv, Ne, ← jn, ← jp]
      clear iv jn jp ev en ep
      cases bn <;> cases bp <;> cases v <;> simp
  · rw [show decide ((b.xOpen.length : Int) < (b.xOpen.length : Int)) = false by simp]
    rfl
theorem d_iBuilder (b : TBuilder) (h : b.ok) : Dec (iIsBuilder b) (BuilderP b) := by
  unfold iIsBuilder BuilderP
  refine Dec.bindC (d_iIn _ _ _) (fun h1 => Dec.bindC (d_iIn _ _ _) (fun h2 => ?_))
  have ho : 0 < b.xOpen.length := by omega
  have hn : 0 < b.xNodes.length := by omega
  have ho0 := List.getElem?_eq_getElem ho
  have hn0 := List.getElem?_eq_getElem hn
  refine Dec.getC (Int.le_refl 0) ho0 ?_
  refine Dec.iff (Dec.ne (q := b.xNodes[0].xName = [112, 97, 103, 101] ∧ b.xNodes[0].xParent = -1 ∧ b.xNodes[0].xText = [] ∧ b.xNodes[0].xAttrs.length = 0 ∧
    (∀ i x, b.xNodes[i]? = some x → (i ≠ 0 → NodeP b i x)) ∧ (∀ i n, b.xOpen[i]? = some n → (i ≠ 0 → OpP b i n))) ?_)
    ⟨fun ⟨e, a1, a2, a3, a4, a5, a6⟩ => ⟨by rw [ho0, e], ⟨_, hn0, a1, a2, a3, a4⟩, a5, a6⟩,
     fun ⟨e, ⟨r, hr, a1, a2, a3, a4⟩, a5, a6⟩ => by
      rw [ho0] at e
      injection e with e
      rw [hn0] at hr
      injection hr with hr
      subst hr
      exact ⟨e, a1, a2, a3, a4, a5, a6⟩⟩
  refine Dec.getC (Int.le_refl 0) hn0 ?_
  have hA : (decide ((b.xNodes[0].xAttrs.length : Int) > 0)) = !(decide (b.xNodes[0].xAttrs.length = 0)) := by
    by_cases c : b.xNodes[0].xAttrs.length = 0
    · rw [decide_eq_true c, decide_eq_false (by omega : ¬ ((b.xNodes[0].xAttrs.length : Int) > 0))]; rfl
    · rw [decide_eq_false c, decide_eq_true (by omega : (b.xNodes[0].xAttrs.length : Int) > 0)]; rfl
  refine Dec.nand (by simp) (Dec.ne (Dec.nand (by simp) ?_))
  rw [hA]
  refine Dec.nand (by simp) (Dec.all h.1.1 (fun i x hx => ?_) (Dec.all1 h.2.1.1 (fun i n hx => ?_)))
  · have hok : TNode.ok x := h.1.2 x (List.mem_of_getElem? hx)
    obtain ⟨c7, e7, i7⟩ := d_iName x.xName hok.1
    obtain ⟨o, eo, jo⟩ := d_iOpen b x.xParent
    have B : ∀ l : List UInt8, ∃ b, (l == []) = b ∧ (b = true ↔ l = []) := fun l => ⟨_, rfl, by simp⟩
    obtain ⟨bm, em, jm⟩ := B x.xName
    obtain ⟨bt, et, jt⟩ := B x.xText
    obtain ⟨ba, ea, ja⟩ : ∃ c, ((x.xAttrs.length : Int) == 0) = c ∧ (c = true ↔ x.xAttrs.length = 0) := ⟨_, rfl, by simp⟩
    obtain ⟨bg, eg, jg⟩ : ∃ c, (decide (x.xParent ≥ (i : Int))) = c ∧ (c = false ↔ x.xParent < i) := ⟨_, rfl, by simp⟩
    obtain ⟨bi, ei, ji⟩ : ∃ c, ((i : Int) == 0) = c ∧ (c = false ↔ ¬ i = 0) := ⟨_, rfl, by simp⟩
    unfold NodeP
    simp only [Ne]
    rw [e7, eo, em, et, ea, eg, ei, ← i7, ← jo, ← ja, ← jg, ← ji, ← jm, ← jt]
    clear i7 jo ja jg ji jm jt e7 eo em et ea eg ei B
    cases bi with
    | true => exact ⟨fun _ => rfl, fun h => absurd (fun e => (by cases e)) h⟩
    | false => cases bm <;> cases bt <;> cases bg <;> cases o <;> cases c7 <;> cases ba <;> exact ⟨fun h => (by first | rfl | simp at h), fun h => (by first | rfl | simp at h)⟩
  · obtain ⟨o, eo, jo⟩ := d_iOpen b n
    obtain ⟨bi, ei, ji⟩ : ∃ c, (decide ((i : Int) > 0)) = c ∧ (c = true ↔ i ≠ 0) := ⟨_, rfl, by simp; omega⟩
    have hlt := (List.getElem?_eq_some_iff.1 hx).1
    rw [ei, ← ji]
    cases bi with
    | false => exact ⟨fun _ => rfl, fun h => absurd (fun e => (by cases e)) h⟩
    | true =>
      have hi := ji.1 rfl
      have hw1 : IntKind.wrap .i64 ((i : Int) - 1) = ((i - 1 : Nat) : Int) := by simp [IntKind.wrap, IntKind.bits, IntKind.signed]; omega
      have hl1 : i - 1 < b.xOpen.length := by omega
      have hx1 := List.getElem?_eq_getElem hl1
      have g2 : getI b.xOpen ((i - 1 : Nat) : Int) = some b.xOpen[i - 1] := getI_nat hx1
      unfold OpP
      rw [eo, hw1, g2, hx1]
      cases o with
      | false => exact ⟨fun h => (by have := jo.2 (h rfl).1; cases this), fun _ => rfl⟩
      | true =>
        have hop := jo.1 rfl
        obtain ⟨hge, y, hy, _⟩ := id hop
        have g3 : getI b.xNodes n = some y := by
          unfold getI
          rw [if_pos hge, hy]
        show (_ → (((getI b.xNodes n).bind _ : Option (Unit ⊕ (Unit ⊕ Unit))) = _)) ∧ (_ → ((getI b.xNodes n).bind _ : Option (Unit ⊕ (Unit ⊕ Unit))) = _)
        rw [g3]
        generalize b.xOpen[i - 1] = m
        have hiff : (true = true → OpenP b n ∧ ∃ x, b.xNodes[n.toNat]? = some x ∧ some m = some x.xParent) ↔ y.xParent = m := by
          constructor
          · intro h
            obtain ⟨_, z, hz, h5⟩ := h rfl
            rw [hy] at hz
            injection hz with hz
            injection h5 with h5
            rw [hz, h5]
          · exact fun e _ => ⟨hop, y, hy, by rw [e]⟩
        rw [hiff]
        obtain ⟨bp, ep, jp⟩ : ∃ c, (y.xParent != m) = c ∧ (c = false ↔ y.xParent = m) := ⟨_, rfl, by simp⟩
        simp only [Option.bind_some]
        rw [ep, ← jp]
        clear ep jp
        cases bp
        · exact ⟨fun _ => rfl, fun h => absurd rfl h⟩
        · exact ⟨fun h => (by cases h), fun _ => rfl⟩
theorem sPr_len {T : Type} {to : T → Pr} {of : Pr → T} {l : List T} (h : l.length ≤ 1099511627776) : sortPrE to of l = some ((sortPr (l.map to)).map of) := by
  unfold sortPrE
  rw [chk_pos h]
def prA (a : TAddr) : Pr := (a.xHost, a.xPath)
def ofA (p : Pr) : TAddr := ⟨p.1, p.2⟩
theorem iSort_eq (l : List TAddr) (h : l.length ≤ 1099511627776) : iSortAddrs l = some ((sortPr (l.map prA)).map ofA) := sPr_len h
theorem prA_inj {a b : TAddr} (h : prA a = prA b) : a = b := by
  cases a; cases b
  simp only [prA, Prod.mk.injEq] at h
  rw [h.1, h.2]
theorem nodup_pr (l : List TAddr) : (l.map prA).Nodup ↔ l.Nodup := by
  induction l with
  | nil => simp
  | cons a l ih =>
    rw [List.map_cons, List.nodup_cons, List.nodup_cons, ih]
    constructor
    · exact fun ⟨h1, h2⟩ => ⟨fun h => h1 (List.mem_map_of_mem h), h2⟩
    · refine fun ⟨h1, h2⟩ => ⟨fun h => ?_, h2⟩
      obtain ⟨b, hb, e⟩ := List.mem_map.1 h
      rw [prA_inj e] at hb
      exact h1 hb
theorem d_sHas (l : List TAddr) (a : TAddr) (h : l.length ≤ maxLen) : Dec (sHasAddr l a) (a ∈ l) := by
  unfold sHasAddr
  refine Dec.iff (Dec.any (P := fun x => x = a) h (fun i x hx => ?_)) (by simp)
  have hc : ((x.xHost == a.xHost) && ((x.xPath == a.xPath) && true)) = decide (x = a) := TAddr.cmp x a
  rw [hc]
  by_cases c : x = a
  · rw [decide_eq_true c]; exact ⟨fun h => absurd c h, fun _ => rfl⟩
  · rw [decide_eq_false c]; exact ⟨fun _ => rfl, fun h => absurd c h⟩
theorem d_iRan (p : TPage) (hs : p.xRan.length ≤ 1048576) : Dec (iRanOnce p) p.xRan.Nodup := by
  unfold iRanOnce
  rw [iSort_eq _ (by omega)]
  refine ⟨_, rfl, ?_⟩
  rw [List.length_map]
  have := sortPr_len (p.xRan.map prA)
  rw [List.length_map, nodup_pr] at this
  rw [← this]
  simp only [beq_iff_eq]
  omega
theorem d_sRan (p : TPage) (hs : p.xRan.length ≤ 1048576) : Dec (sRanOnce p) p.xRan.Nodup := by
  unfold sRanOnce
  refine Dec.iff (Dec.all1 (P := fun i x => ¬ x ∈ (p.xRan.take i)) (by unfold maxLen; omega) (fun i x hx => ?_)) ?_
  · have hlt := (List.getElem?_eq_some_iff.1 hx).1
    rw [chk_pos ⟨by omega, by omega, by omega⟩]
    obtain ⟨c, e1, e2⟩ := d_sHas ((p.xRan.take i).drop 0) x (by simp; unfold maxLen; omega)
    rw [List.drop_zero] at e1 e2
    rw [show ((i : Int).toNat) = i from Int.toNat_natCast i, List.drop_zero, e1, ← e2]
    cases c
    · exact ⟨fun _ => rfl, fun h => absurd (by simp) h⟩
    · exact ⟨fun h => absurd rfl h, fun _ => rfl⟩
  · constructor
    · intro h
      refine List.pairwise_iff_getElem.2 (fun i j hi hj hij e => ?_)
      refine h j _ (List.getElem?_eq_getElem hj) ?_
      rw [← e]
      exact List.mem_iff_getElem.2 ⟨i, by simp; omega, by simp⟩
    · intro h i x hx hm
      obtain ⟨j, hj, e⟩ := List.mem_iff_getElem.1 hm
      have hj2 : j < i := by simp at hj; omega
      have hlt := (List.getElem?_eq_some_iff.1 hx)
      obtain ⟨hi, hx2⟩ := hlt
      rw [List.getElem_take] at e
      exact List.pairwise_iff_getElem.1 h j i (by omega) hi hj2 (by rw [e, hx2])
theorem d_sHasS (l : List (List UInt8)) (s : List UInt8) (h : l.length ≤ maxLen) : Dec (sl9Has l s) (s ∈ l) := by
  unfold sl9Has
  refine Dec.iff (Dec.any (P := fun x => x = s) h (fun i x hx => ?_)) (by simp)
  by_cases c : x = s
  · rw [show (x == s) = true by simpa using c]; exact ⟨fun h => absurd c h, fun _ => rfl⟩
  · rw [show (x == s) = false by simpa using c]; exact ⟨fun _ => rfl, fun h => absurd c h⟩
theorem d_contains (l : List (List UInt8)) (s : List UInt8) (h : l.length ≤ maxLen) : Dec (g_slices_Contains_string_string l s) (s ∈ l) := by
  have key : Ok (g_slices_Index_string_string l s) (fun r => (0 ≤ r ↔ s ∈ l)) := by
    unfold g_slices_Index_string_string
    refine Ok.bind (Q1 := fun z => match z with
      | .inl r => (0 ≤ r ∧ s ∈ l)
      | .inr _ => ¬ s ∈ l) (Ok.for h (fun i _ => ∀ j x, j < i → l[j]? = some x → x ≠ s) (fun j x hj => by omega) (fun i x u hx hi => ?_) (fun u hu => ?_)) (fun r _ hr => ?_)
    · refine Ok.br (fun c => Ok.ret ⟨by omega, ?_⟩) (fun c => Ok.ret (fun j y hj hy => ?_))
      · have : s = x := by simpa using c
        rw [this]; exact List.mem_of_getElem? hx
      · by_cases e : j = i
        · subst e
          rw [hx] at hy
          injection hy with hy
          subst hy
          have : ¬ s = x := by simpa using c
          exact fun e => this e.symm
        · exact hi j y (by omega) hy
    · intro hm
      obtain ⟨j, hj, e⟩ := List.mem_iff_getElem.1 hm
      exact hu j _ hj (List.getElem?_eq_getElem hj) e
    · cases r with
      | inl r => exact Ok.ret ⟨fun _ => hr.2, fun _ => hr.1⟩
      | inr u => exact Ok.ret ⟨fun h => absurd h (by omega), fun h => absurd h hr⟩
  obtain ⟨r, hr, hq⟩ := key
  unfold g_slices_Contains_string_string
  rw [hr]
  exact ⟨_, rfl, by rw [← hq]; simp⟩
theorem eq_PageSound (p : TPage) (h : p.ok) (hs : p.size ≤ 1048576) : ∃ r, sPageSound p = some r ∧ iPageSound p = some r := by
  have s1 : p.xRan.length ≤ 1048576 := by unfold TPage.size at hs; omega
  have s2 : p.xLog.length ≤ 1048576 := by unfold TPage.size at hs; omega
  have s3 : p.xSlots.length ≤ 1048576 := by unfold TPage.size at hs; omega
  have s4 : p.xMods.length ≤ 1048576 := by unfold TPage.size at hs; omega
  have hb : p.xBuilder.ok := by obtain ⟨_, _, _, _, _, hb, _⟩ := h; exact hb
  obtain ⟨r1, a1, b1⟩ := Dec.same (d_sRan p s1) (d_iRan p s1)
  obtain ⟨r2, a2, b2⟩ := Dec.same (d_sBuilder _ hb) (d_iBuilder _ hb)
  obtain ⟨r3, a3, b3⟩ := Dec.same (d_sHasS p.xLog [108, 111, 97, 100] (by unfold maxLen; omega)) (d_contains p.xLog [108, 111, 97, 100] (by unfold maxLen; omega))
  have e : sPageSound p = iPageSound p := by
    unfold sPageSound iPageSound
    rw [a1, a2, a3, b1, b2, b3]
    rfl
  have key : Ok (iPageSound p) (fun _ => True) := by
    unfold iPageSound
    rw [b1, b2, b3]
    refine Ok.bind (Q1 := fun _ => True) (Ok.for (by unfold maxLen; omega) (fun _ _ => True) trivial (fun i x s _ _ => Ok.br (fun _ => Ok.br (fun _ => Ok.ret trivial) (fun _ => Ok.ret trivial)) (fun _ => Ok.ret trivial)) (fun _ _ => trivial)) (fun r _ _ => ?_)
    cases r with
    | inl r => exact Ok.ret trivial
    | inr r =>
      refine Ok.bind (Q1 := fun _ => True) (Ok.for (by unfold maxLen; omega) (fun _ _ => True) trivial (fun i x s _ _ => Ok.br (fun _ => Ok.br (fun _ => Ok.ret trivial) (fun _ => Ok.ret trivial)) (fun _ => Ok.ret trivial)) (fun _ _ => trivial)) (fun r _ _ => ?_)
      cases r with
      | inl r => exact Ok.ret trivial
      | inr r =>
        have o1 : Ok (iIsParsed p) (fun _ => True) := Ok.br (fun _ => Ok.br (fun _ => Ok.br (fun _ => Ok.ret trivial) (fun _ => Ok.ret trivial)) (fun _ => Ok.ret trivial)) (fun _ => Ok.ret trivial)
        have o2 : Ok (iOpenSlots p) (fun _ => True) := Ok.bind (Q1 := fun _ => True) (Ok.for (by unfold maxLen; omega) (fun i l => l.length ≤ i) (Nat.le_refl 0) (fun i x l hx hi => by
          have := (List.getElem?_eq_some_iff.1 hx).1
          exact Ok.br (fun _ => Ok.chk (by omega) (Ok.ret (by simpa using hi))) (fun _ => Ok.ret (Nat.le_succ_of_le hi))) (fun _ _ => trivial)) (fun r _ _ => Ok.ret trivial)
        have o3 : Ok (iOpenMods p) (fun _ => True) := Ok.bind (Q1 := fun _ => True) (Ok.for (by unfold maxLen; omega) (fun i l => l.length ≤ i) (Nat.le_refl 0) (fun i x l hx hi => by
          have := (List.getElem?_eq_some_iff.1 hx).1
          exact Ok.br (fun _ => Ok.chk (by omega) (Ok.ret (by simpa using hi))) (fun _ => Ok.ret (Nat.le_succ_of_le hi))) (fun _ _ => trivial)) (fun r _ _ => Ok.ret trivial)
        refine Ok.br (fun _ => Ok.ret trivial) (fun _ => Ok.br (fun _ => Ok.ret trivial) (fun _ => Ok.br (fun _ => Ok.ret trivial) (fun _ => Ok.bind o1 (fun _ _ _ => Ok.br (fun _ => Ok.bind o2 (fun _ _ _ => Ok.br (fun _ => Ok.bind o3 (fun _ _ _ => Ok.br (fun _ => ?_) (fun _ => Ok.ret trivial))) (fun _ => Ok.ret trivial))) (fun _ => Ok.ret trivial)))))
        exact Ok.br (fun _ => Ok.ret trivial) (fun _ => Ok.ret trivial)
  obtain ⟨r, hr, _⟩ := key
  exact ⟨r, by rw [e, hr], hr⟩
def TabP (t : TTab) : Prop := (∀ (i : Nat) (x : TVisit), t.xVisits[i]? = some x → (x.xKept = true → x.xPage.xAddr = x.xAddr)) ∧ (t.xVisits.length : Int) ≤ 6 ∧ ((0 ≤ t.xAt ∧ t.xAt < (t.xVisits.length : Int)) ∨ (t.xVisits.length = 0 ∧ t.xAt = -1))
theorem d_iTab (t : TTab) (h : t.ok) : Dec (iIsTab t) (TabP t) := by
  unfold iIsTab TabP
  refine Dec.all h.1.1 (fun i x hx => ?_) (Dec.andC (by simp) (fun hl => ?_))
  · rw [TAddr.cmp]
    cases x.xKept with
    | false => exact ⟨fun _ => rfl, fun h => absurd (fun e => by cases e) h⟩
    | true =>
      by_cases c : x.xPage.xAddr = x.xAddr
      · rw [decide_eq_true c]; exact ⟨fun _ => rfl, fun h => absurd (fun _ => c) h⟩
      · rw [decide_eq_false c]; exact ⟨fun h => absurd (h rfl) c, fun _ => rfl⟩
  · have hp : Dec (ihasPresent t) (0 ≤ t.xAt ∧ t.xAt < (t.xVisits.length : Int)) := Dec.and (by simp) (Dec.lit (by simp))
    obtain ⟨c, e1, e2⟩ := hp
    rw [e1, ← e2]
    cases c with
    | true => exact ⟨true, rfl, by simp⟩
    | false =>
      by_cases c0 : t.xVisits.length = 0
      · rw [show ((t.xVisits.length : Int) == 0) = true by simp only [beq_iff_eq]; omega]
        exact ⟨_, rfl, by simp [c0]⟩
      · rw [show ((t.xVisits.length : Int) == 0) = false by simp only [beq_eq_false_iff_ne, Ne]; omega]
        exact ⟨_, rfl, by simp only [c0]; simp⟩
theorem d_sTab (t : TTab) (h : t.ok) : Dec (sIsTab t) (TabP t) := by
  unfold sIsTab TabP
  refine Dec.all h.1.1 (fun i x hx => ?_) (Dec.andC (by simp) (fun hl => ?_))
  · rw [TAddr.cmp]
    cases x.xKept with
    | false => exact ⟨fun _ => rfl, fun h => absurd (fun e => by cases e) h⟩
    | true =>
      by_cases c : x.xPage.xAddr = x.xAddr
      · rw [decide_eq_true c.symm]; exact ⟨fun _ => rfl, fun h => absurd (fun _ => c) h⟩
      · rw [decide_eq_false (fun e => c e.symm)]; exact ⟨fun h => absurd (h rfl) c, fun _ => rfl⟩
  · have hw : IntKind.wrap .i64 ((t.xVisits.length : Int) - 1) = (t.xVisits.length : Int) - 1 := by simp [IntKind.wrap, IntKind.bits, IntKind.signed]; omega
    rw [hw]
    obtain ⟨c, e1, e2⟩ := d_sIn t.xAt 0 ((t.xVisits.length : Int) - 1)
    rw [e1]
    by_cases c0 : t.xVisits.length = 0
    · rw [show ((t.xVisits.length : Int) == 0) = true by simp only [beq_iff_eq]; omega]
      by_cases a0 : t.xAt = -1
      · rw [show (t.xAt == -1) = true by simpa using a0]
        exact ⟨true, rfl, by simp [c0, a0]⟩
      · rw [show (t.xAt == -1) = false by simpa using a0]
        refine ⟨c, rfl, ?_⟩
        rw [e2]
        omega
    · rw [show ((t.xVisits.length : Int) == 0) = false by simp only [beq_eq_false_iff_ne, Ne]; omega]
      refine ⟨c, rfl, ?_⟩
      rw [e2]
      omega
theorem eq_TabSound (t : TTab) (h : t.ok) (hs : t.size ≤ 1048576) : ∃ r, sTabSound t = some r ∧ iTabSound t = some r := by
  obtain ⟨r2, a2, b2⟩ := Dec.same (d_sTab t h) (d_iTab t h)
  have pg : ∀ (i : Nat) (x : TVisit), t.xVisits[i]? = some x → ∃ r, sPageSound x.xPage = some r ∧ iPageSound x.xPage = some r := fun i x hx => by
    have hm := List.mem_of_getElem? hx
    have hv := h.1.2 x hm
    have := sumL_mem (f := TVisit.size) hm
    refine eq_PageSound _ hv.2.1 ?_
    have hxp : x.xPage.size ≤ TVisit.size x := by unfold TVisit.size; omega
    unfold TTab.size at hs
    omega
  have body : ∀ (i : Nat) (x : TVisit), t.xVisits[i]? = some x → ∃ r : Unit ⊕ (Unit ⊕ Unit), ∀ (f : TPage → Option Bool), (f = sPageSound ∨ f = iPageSound) → br x.xKept (br (decide ((x.xPage.xBuilder.xNodes.length : Int) > 0)) ((f x.xPage).bind fun (r3 : Bool) => br (!r3) (some (.inr (.inl ()))) (some (.inl ()))) (some (.inl ()))) (some (.inl ())) = some r := fun i x hx => by
    obtain ⟨c, e1, e2⟩ := pg i x hx
    cases x.xKept with
    | false => exact ⟨_, fun f _ => rfl⟩
    | true =>
      cases decide ((x.xPage.xBuilder.xNodes.length : Int) > 0) with
      | false => exact ⟨_, fun f _ => rfl⟩
      | true =>
        cases c with
        | false => exact ⟨.inr (.inl ()), fun f hf => by rcases hf with rfl | rfl; · rw [e1]; rfl
                                                         · rw [e2]; rfl⟩
        | true => exact ⟨.inl (), fun f hf => by rcases hf with rfl | rfl; · rw [e1]; rfl
                                                 · rw [e2]; rfl⟩
  have loop : ∀ (zs : List TVisit) (i : Nat), t.xVisits.drop i = zs → ∃ r : Unit ⊕ Unit, ∀ (f : TPage → Option Bool), (f = sPageSound ∨ f = iPageSound) →
      forA (fun (_ : Nat) (x : TVisit) (_ : Unit) => (br x.xKept (br (decide ((x.xPage.xBuilder.xNodes.length : Int) > 0)) ((f x.xPage).bind fun (r3 : Bool) => br (!r3) (some (.inr (.inl ()))) (some (.inl ()))) (some (.inl ()))) (some (.inl ())) : Option (Unit ⊕ (Unit ⊕ Unit)))) (fun (_ : Unit) => (.inr () : Unit ⊕ Unit)) i zs () = some r := by
    intro zs
    induction zs with
    | nil => intro i _; exact ⟨_, fun f _ => rfl⟩
    | cons z zs ih =>
      intro i hd
      have hz : t.xVisits[i]? = some z := by
        have := congrArg (fun l => l[0]?) hd
        simpa using this
      have hd' : t.xVisits.drop (i + 1) = zs := by rw [← List.tail_drop, hd]; rfl
      obtain ⟨r, hr⟩ := body i z hz
      cases r with
      | inl u =>
        obtain ⟨q, hq⟩ := ih (i + 1) hd'
        exact ⟨q, fun f hf => by rw [forA, hr f hf]; exact hq f hf⟩
      | inr u => exact ⟨u, fun f hf => by rw [forA, hr f hf]⟩
  obtain ⟨r, hr⟩ := loop t.xVisits 0 rfl
  have hl : t.xVisits.length ≤ maxLen := h.1.1
  have both : ∀ (f : TPage → Option Bool) (g : Option Bool), (f = sPageSound ∨ f = iPageSound) → g = some r2 →
      ((forE t.xVisits (fun (_ : Nat) (x : TVisit) (_ : Unit) => (br x.xKept (br (decide ((x.xPage.xBuilder.xNodes.length : Int) > 0)) ((f x.xPage).bind fun (r3 : Bool) => br (!r3) (some (.inr (.inl ()))) (some (.inl ()))) (some (.inl ()))) (some (.inl ())) : Option (Unit ⊕ (Unit ⊕ Unit)))) (fun (_ : Unit) => (.inr () : Unit ⊕ Unit)) ()).bind (Sum.elim (fun _ => some false) (fun _ => g.bind fun r => some r))) = (match r with
      | .inl _ => some false
      | .inr _ => some r2) := by
    intro f g hf hg
    unfold forE
    rw [if_pos hl, hr f hf, hg]
    cases r <;> rfl
  have e1 := both sPageSound (sIsTab t) (.inl rfl) a2
  have e2 := both iPageSound (iIsTab t) (.inr rfl) b2
  cases r with
  | inl u => exact ⟨false, e1, e2⟩
  | inr u => exact ⟨r2, e1, e2⟩
theorem le_FnExactTabSound (t : TTab) (h : t.ok) : lFnExactTabSound t = some true := by
  refine E_sz (n := t.size) (if_pos ⟨by omega, by omega, h⟩) (fun m hm h0 hle => ?_)
  have hs : t.size ≤ 1048576 := by omega
  obtain ⟨r, hr, hi⟩ := eq_TabSound t h hs
  exact E_bind (if_pos hs) (E_bind hr (E_bind (if_pos hs) (E_bind hi (E_no (by simp) (E_bind (if_pos hs) (E_bind (if_pos h) (E_no (by simp) rfl)))))))
theorem law6 (a0 : TTab) (o0 : a0.ok) (k : Bool → Option β) : F6 β (rows kVisit TVisit.row a0.xVisits) a0.xAt k = k true :=
  ei_lFnExactTabSound a0 k true (le_FnExactTabSound a0 o0)
end Go.Am
