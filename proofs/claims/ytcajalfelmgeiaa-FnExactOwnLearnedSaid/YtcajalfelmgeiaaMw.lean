/-
  Mathematics of rows 20 and 21.
-/
import Derived.Test.YtcajalfelmgeiaaEw
import Derived.Test.YtcajalfelmgeiaaAmOk
import Derived.Test.YtcajalfelmgeiaaAmEq
import Derived.Test.YtcajalfelmgeiaaAmMore
set_option linter.unusedVariables false
set_option linter.unusedSimpArgs false
namespace Go.Am
open Go
variable {β : Type}
/-! ### lists sorted without repetition -/
/-- Rising. -/
def Rising (l : List Pr) : Prop := l.Pairwise (fun x y => ltPr x y = true)
theorem rising_nodup {l : List Pr} (h : Rising l) : l.Nodup := h.imp (fun {x y} hxy e => by subst e; rw [lt_irrefl] at hxy; cases hxy)
theorem rising_ext : ∀ {l m : List Pr}, Rising l → Rising m → (∀ x, x ∈ l ↔ x ∈ m) → l = m := by
  intro l
  induction l with
  | nil =>
    intro m _ _ h
    cases m with
    | nil => rfl
    | cons y m => exact absurd ((h y).2 (by simp)) (by simp)
  | cons x l ih =>
    intro m hl hm h
    cases m with
    | nil => exact absurd ((h x).1 (by simp)) (by simp)
    | cons y m =>
      have hl' := List.pairwise_cons.1 hl
      have hm' := List.pairwise_cons.1 hm
      have hxy : x = y := by
        rcases List.mem_cons.1 ((h x).1 (by simp)) with e | e
        · exact e
        · rcases List.mem_cons.1 ((h y).2 (by simp)) with e' | e'
          · exact e'.symm
          · have a := hm'.1 x e
            have b := hl'.1 y e'
            rw [lt_asym a] at b; cases b
      subst hxy
      congr 1
      refine ih hl'.2 hm'.2 (fun z => ?_)
      constructor
      · intro hz
        rcases List.mem_cons.1 ((h z).1 (List.mem_cons_of_mem _ hz)) with e | e
        · subst e
          have := hl'.1 z hz
          rw [lt_irrefl] at this; cases this
        · exact e
      · intro hz
        rcases List.mem_cons.1 ((h z).2 (List.mem_cons_of_mem _ hz)) with e | e
        · subst e
          have := hm'.1 z hz
          rw [lt_irrefl] at this; cases this
        · exact e
/-- Not falling. -/
def Sorted' (m : List Pr) : Prop := m.Pairwise (fun x y => ltPr y x = false)
theorem ms_sorted (l : List Pr) : Sorted' (l.mergeSort fun x y => !ltPr y x) := by
  have := List.pairwise_mergeSort (le := fun x y => !ltPr y x) (fun a b c h1 h2 => by
    simp only [Bool.not_eq_true'] at h1 h2 ⊢
    cases h : ltPr c a with
    | false => rfl
    | true =>
      by_cases e : b = c
      · subst e; rw [h] at h1; cases h1
      · have := lt_trans' (lt_of_not h2 e) h
        rw [this] at h1; cases h1) (fun a b => by
    cases h : ltPr b a with
    | false => rfl
    | true => rw [lt_asym h]; rfl) l
  exact this.imp (fun {x y} h => by simpa using h)
theorem cut_mem (m : List Pr) (n : Nat) (hn : n ≤ m.length) (x : Pr) : x ∈ Lib.compactUpTo m.toArray n ↔ x ∈ m.take n := by
  induction n with
  | zero => simp [Lib.compactUpTo]
  | succ n ih =>
    have hn' : n < m.length := by omega
    have hg : m.toArray[n]! = m[n] := by simp [hn']
    rw [Lib.compactUpTo_succ, List.mem_append, ih (by omega), List.take_succ_eq_append_getElem hn', List.mem_append]
    cases hk : Lib.keeps m.toArray n with
    | true => simp [hg]
    | false =>
      have h2 : n ≠ 0 ∧ m.toArray[n]! = m.toArray[n - 1]! := by
        simp only [Lib.keeps, decide_eq_false_iff_not, not_or, Decidable.not_not] at hk
        exact hk
      have hg1 : m.toArray[n - 1]! = m[n - 1] := by
        have : n - 1 < m.length := by omega
        simp [this]
      constructor
      · rintro (h | h)
        · exact .inl h
        · simp at h
      · rintro (h | h)
        · exact .inl h
        · left
          simp only [List.mem_cons, List.not_mem_nil, or_false] at h
          rw [h, ← hg, h2.2, hg1]
          refine List.mem_iff_getElem.2 ⟨n - 1, by simp; omega, by simp⟩
theorem cut_rising (m : List Pr) (hm : Sorted' m) (n : Nat) (hn : n ≤ m.length) : Rising (Lib.compactUpTo m.toArray n) := by
  induction n with
  | zero => simp [Lib.compactUpTo, Rising]
  | succ n ih =>
    have hn' : n < m.length := by omega
    have hg : m.toArray[n]! = m[n] := by simp [hn']
    rw [Lib.compactUpTo_succ]
    cases hk : Lib.keeps m.toArray n with
    | false => simpa using ih (by omega)
    | true =>
      rw [if_pos rfl, hg]
      refine List.pairwise_append.2 ⟨ih (by omega), by simp, fun x hx y hy => ?_⟩
      simp only [List.mem_cons, List.not_mem_nil, or_false] at hy
      subst hy
      have hx' := (cut_mem m n (by omega) x).1 hx
      obtain ⟨i, hi, rfl⟩ := List.mem_iff_getElem.1 hx'
      have hi' : i < n := by simp at hi; omega
      rw [List.getElem_take]
      have hord : ∀ a b (ha : a < b) (hb : b < m.length), ltPr m[b] (m[a]'(by omega)) = false := fun a b ha hb => List.pairwise_iff_getElem.1 hm a b (by omega) hb ha
      have hlast : ltPr (m[n - 1]'(by omega)) m[n] = true := by
        refine lt_of_not (hord (n - 1) n (by omega) hn') (fun e => ?_)
        simp only [Lib.keeps, decide_eq_true_eq] at hk
        rcases hk with h | h
        · omega
        · apply h
          have : n - 1 < m.length := by omega
          rw [hg]
          rw [List.getElem!_toArray, getElem!_pos m (n - 1) this]
          exact e.symm
      by_cases e : i = n - 1
      · subst e; exact hlast
      · cases h : ltPr m[i] m[n] with
        | true => rfl
        | false =>
          have h1 := hord i (n - 1) (by omega) (by omega)
          by_cases e2 : m[i]'(by omega) = m[n - 1]'(by omega)
          · rw [e2] at h; rw [h] at hlast; cases hlast
          · have := lt_trans' (lt_of_not h1 e2) hlast
            rw [this] at h; cases h
theorem sortPr_mem (l : List Pr) (x : Pr) : x ∈ sortPr l ↔ x ∈ l := by
  unfold sortPr Lib.compact
  rw [cut_mem _ _ (Nat.le_refl _), List.take_length]
  exact List.mem_mergeSort
theorem sortPr_rising (l : List Pr) : Rising (sortPr l) := cut_rising _ (ms_sorted l) _ (Nat.le_refl _)
theorem sortPr_eq {l m : List Pr} (hr : Rising m) (h : ∀ x, x ∈ m ↔ x ∈ l) : m = sortPr l := rising_ext hr (sortPr_rising l) (fun x => (h x).trans (sortPr_mem l x).symm)
theorem sortPr_len (l : List Pr) : (sortPr l).length = l.length ↔ l.Nodup := by
  constructor
  · intro h
    have hp : (l.mergeSort fun x y => !ltPr y x).Perm l := List.mergeSort_perm _ _
    have hs := ms_sorted l
    generalize hm : (l.mergeSort fun x y => !ltPr y x) = m at hp hs
    have hml : m.length = l.length := hp.length_eq
    have e : sortPr l = Lib.compact m := by unfold sortPr; rw [hm]
    rw [e] at h
    have hall : ∀ j, j < m.length → Lib.keeps m.toArray j = true := by
      have hl : ∀ n, n ≤ m.length → (Lib.compactUpTo m.toArray n).length ≤ n ∧ ((Lib.compactUpTo m.toArray n).length = n → ∀ j, j < n → Lib.keeps m.toArray j = true) := by
        intro n
        induction n with
        | zero => intro _; exact ⟨by simp [Lib.compactUpTo], fun _ j hj => by omega⟩
        | succ n ih =>
          intro hn
          obtain ⟨h1, h2⟩ := ih (by omega)
          rw [Lib.compactUpTo_succ]
          cases hk : Lib.keeps m.toArray n with
          | true =>
            refine ⟨by simp; omega, fun h3 j hj => ?_⟩
            by_cases e : j = n
            · subst e; exact hk
            · exact h2 (by simp at h3; omega) j (by omega)
          | false => exact ⟨by simp; omega, fun h3 => by simp at h3; omega⟩
      exact (hl m.length (Nat.le_refl _)).2 (by unfold Lib.compact at h; omega)
    have hc : Lib.compact m = m := Lib.compact_all m hall
    have := cut_rising m hs m.length (Nat.le_refl _)
    have hr : Rising m := by
      have h3 : Lib.compactUpTo m.toArray m.length = m := hc
      rwa [h3] at this
    exact hp.nodup_iff.1 (rising_nodup hr)
  · intro h
    have h1 : (sortPr l).Nodup := rising_nodup (sortPr_rising l)
    have hp : (sortPr l).Perm l := (List.perm_ext_iff_of_nodup h1 h).2 (fun x => sortPr_mem l x)
    exact hp.length_eq
/-- An answer that tells whether p. -/
def Dec (x : Option Bool) (p : Prop) : Prop := ∃ b, x = some b ∧ (b = true ↔ p)
def DecS (x : Option (Unit ⊕ (Unit ⊕ Unit))) (p : Prop) : Prop := (p → x = some (.inl ())) ∧ (¬ p → x = some (.inr (.inl ())))
section
variable {T : Type} {p q : Prop} {X f : Option Bool} {b : Bool}
theorem Dec.iff (h : Dec X p) (e : p ↔ q) : Dec X q := by obtain ⟨b, h1, h2⟩ := h; exact ⟨b, h1, h2.trans e⟩
theorem Dec.lit (h : b = true ↔ p) : Dec (some b) p := ⟨b, rfl, h⟩
theorem Dec.tt : Dec (some true) True := ⟨true, rfl, by simp⟩
theorem Dec.and (hb : b = true ↔ p) (hX : Dec X q) : Dec (br b X (some false)) (p ∧ q) := by
  obtain ⟨c, h1, h2⟩ := hX
  cases b with
  | true => exact ⟨c, h1, by rw [h2]; exact ⟨fun h => ⟨hb.1 rfl, h⟩, fun h => h.2⟩⟩
  | false => exact ⟨false, rfl, ⟨fun h => (by cases h), fun h => by have := hb.2 h.1; cases this⟩⟩
theorem Dec.nand (hb : b = true ↔ p) (hX : Dec X q) : Dec (br (!b) (some false) X) (p ∧ q) := by
  have := Dec.and hb hX
  cases b <;> exact this
theorem Dec.ne {x y : Int} (hX : Dec X q) : Dec (br (x != y) (some false) X) (x = y ∧ q) := Dec.nand (b := x == y) (by simp) hX
theorem Dec.bind (hf : Dec f p) (hX : Dec X q) : Dec (f.bind fun r => br r X (some false)) (p ∧ q) := by
  obtain ⟨c, rfl, h2⟩ := hf
  exact Dec.and h2 hX
theorem Dec.bindN (hf : Dec f p) (hX : Dec X q) : Dec (f.bind fun r => br (!r) (some false) X) (p ∧ q) := by
  obtain ⟨c, rfl, h2⟩ := hf
  exact Dec.nand h2 hX
theorem Dec.bindE (hf : Dec f p) : Dec (f.bind fun r => some r) p := by
  obtain ⟨c, rfl, h2⟩ := hf
  exact ⟨c, rfl, h2⟩
theorem Dec.len {a b : List T} (hX : a.length = b.length → Dec X q) : Dec (br ((a.length : Int) != (b.length : Int)) (some false) X) (a.length = b.length ∧ q) := by
  rw [len_ne]
  by_cases c : a.length = b.length
  · rw [decide_eq_true c]; exact (hX c).iff ⟨fun h => ⟨c, h⟩, fun h => h.2⟩
  · rw [decide_eq_false c]; exact ⟨false, rfl, ⟨fun h => (by cases h), fun h => absurd h.1 c⟩⟩
theorem Dec.loopK [DecidableEq T] {a b : List T} {body : Nat → T → Unit → Option (Unit ⊕ (Unit ⊕ Unit))} (hl : a.length = b.length) (hm : a.length ≤ maxLen)
    (h : ∀ i x y, a[i]? = some x → b[i]? = some y → DecS (body i x ()) (x = y)) (hX : Dec X q) : Dec ((forE a body (fun _ => (.inr () : Unit ⊕ Unit)) ()).bind (Sum.elim (fun _ => some false) (fun _ => X))) (a = b ∧ q) := by
  rw [for_eqL (.inl ()) hl hm (fun i x y hx hy => by
    obtain ⟨h1, h2⟩ := h i x y hx hy
    by_cases c : x = y
    · rw [if_pos c]; exact h1 c
    · rw [if_neg c]; exact h2 c)]
  by_cases c : a = b
  · rw [if_pos c]; exact hX.iff ⟨fun h => ⟨c, h⟩, fun h => h.2⟩
  · rw [if_neg c]; exact ⟨false, rfl, ⟨fun h => (by cases h), fun h => absurd h.1 c⟩⟩
theorem Dec.loop [DecidableEq T] {a b : List T} {body : Nat → T → Unit → Option (Unit ⊕ (Unit ⊕ Unit))} (hl : a.length = b.length) (hm : a.length ≤ maxLen)
    (h : ∀ i x y, a[i]? = some x → b[i]? = some y → DecS (body i x ()) (x = y)) : Dec ((forE a body (fun _ => (.inr () : Unit ⊕ Unit)) ()).bind (Sum.elim (fun _ => some false) (fun _ => some true))) (a = b) :=
  (Dec.loopK hl hm h Dec.tt).iff (by simp)
/-- The library's comparison of two lists, and the specification's. -/
theorem Dec.list [DecidableEq T] {a b : List T} {body : Nat → T → Unit → Option (Unit ⊕ (Unit ⊕ Unit))} (hm : a.length ≤ maxLen)
    (h : ∀ i x y, a[i]? = some x → b[i]? = some y → DecS (body i x ()) (x = y)) : Dec (br ((a.length : Int) != (b.length : Int)) (some false) ((forE a body (fun _ => (.inr () : Unit ⊕ Unit)) ()).bind (Sum.elim (fun _ => some false) (fun _ => some true)))) (a = b) :=
  (Dec.len (fun hl => Dec.loop hl hm h)).iff ⟨fun h => h.2, fun h => ⟨by rw [h], h⟩⟩
theorem DecS.get {l : List T} {i : Nat} {y : T} {X : T → Option (Unit ⊕ (Unit ⊕ Unit))} (h : l[i]? = some y) (hX : DecS (X y) p) : DecS ((getI l (i : Int)).bind X) p := by rw [getI_nat h]; exact hX
theorem DecS.iff {X : Option (Unit ⊕ (Unit ⊕ Unit))} (h : DecS X p) (e : p ↔ q) : DecS X q := ⟨fun h2 => h.1 (e.2 h2), fun h2 => h.2 (fun h3 => h2 (e.1 h3))⟩
theorem DecS.tt : DecS (some (.inl ())) True := ⟨fun _ => rfl, fun h => absurd trivial h⟩
theorem DecS.nand {X : Option (Unit ⊕ (Unit ⊕ Unit))} (hb : b = true ↔ p) (hX : DecS X q) : DecS (br (!b) (some (.inr (.inl ()))) X) (p ∧ q) := by
  cases b with
  | true => exact hX.iff ⟨fun h => ⟨hb.1 rfl, h⟩, fun h => h.2⟩
  | false => exact ⟨fun h => (by have := hb.2 h.1; cases this), fun _ => rfl⟩
theorem DecS.flat (hb : b = true ↔ p) : DecS (br (!b) (some (.inr (.inl ()))) (some (.inl ()))) p := (DecS.nand hb DecS.tt).iff (by simp)
theorem DecS.ne {x y : Int} {X : Option (Unit ⊕ (Unit ⊕ Unit))} (hX : DecS X q) : DecS (br (x != y) (some (.inr (.inl ()))) X) (x = y ∧ q) := DecS.nand (b := x == y) (by simp) hX
theorem DecS.call {X : Option (Unit ⊕ (Unit ⊕ Unit))} (hf : Dec f p) (hX : DecS X q) : DecS (f.bind fun r => br (!r) (some (.inr (.inl ()))) X) (p ∧ q) := by
  obtain ⟨c, rfl, h2⟩ := hf
  exact DecS.nand h2 hX
theorem DecS.call1 (hf : Dec f p) : DecS (f.bind fun r => br (!r) (some (.inr (.inl ()))) (some (.inl ()))) p := (DecS.call hf DecS.tt).iff (by simp)
theorem DecS.len {a b : List T} {X : Option (Unit ⊕ (Unit ⊕ Unit))} (hX : a.length = b.length → DecS X q) : DecS (br ((a.length : Int) != (b.length : Int)) (some (.inr (.inl ()))) X) (a.length = b.length ∧ q) := by
  rw [len_ne]
  by_cases c : a.length = b.length
  · rw [decide_eq_true c]; exact (hX c).iff ⟨fun h => ⟨c, h⟩, fun h => h.2⟩
  · rw [decide_eq_false c]; exact ⟨fun h => absurd h.1 c, fun _ => rfl⟩
/-- A counting loop that compares two lists. -/
theorem while_dec [DecidableEq T] {a b : List T} {body : Int → Option (Int ⊕ (Unit ⊕ Unit))} (hl : a.length = b.length)
    (h : ∀ (i : Nat) x y, a[i]? = some x → b[i]? = some y → body (i : Int) = some (if x = y then .inl ((i + 1 : Nat) : Int) else .inr (.inl ()))) (hf : body (a.length : Int) = some (.inr (.inr ()))) :
    ∀ (zs ys : List T) (i : Nat), a.drop i = zs → b.drop i = ys → i ≤ a.length → whileE body (i : Int) = some (if zs = ys then .inr () else .inl ()) := by
  intro zs
  induction zs with
  | nil =>
    intro ys i h1 h2 hi
    have : i = a.length := by
      have := List.drop_eq_nil_iff.1 h1
      omega
    subst this
    obtain rfl : ys = [] := by rw [← h2, hl]; simp
    unfold whileE
    rw [whileInf_step, hf]
    rfl
  | cons z zs ih =>
    intro ys i h1 h2 hi
    have hz : a[i]? = some z := by
      have := congrArg (fun l => l[0]?) h1
      simpa using this
    have hlt := (List.getElem?_eq_some_iff.1 hz).1
    cases ys with
    | nil => have := List.drop_eq_nil_iff.1 h2; omega
    | cons y ys =>
      have hy : b[i]? = some y := by
        have := congrArg (fun l => l[0]?) h2
        simpa using this
      unfold whileE
      rw [whileInf_step, h i z y hz hy]
      by_cases c : z = y
      · rw [if_pos c]
        show whileE body ((i + 1 : Nat) : Int) = _
        rw [ih ys (i + 1) (by rw [← List.tail_drop, h1]; rfl) (by rw [← List.tail_drop, h2]; rfl) (by omega)]
        subst c
        simp
      · rw [if_neg c]
        show some _ = some _
        rw [if_neg (by intro e; exact c (List.cons.inj e).1)]
theorem DecS.whileD [DecidableEq T] {a b : List T} {body : Int → Option (Int ⊕ (Unit ⊕ Unit))} (hl : a.length = b.length)
    (h : ∀ (i : Nat) x y, a[i]? = some x → b[i]? = some y → body (i : Int) = some (if x = y then .inl ((i + 1 : Nat) : Int) else .inr (.inl ()))) (hf : body (a.length : Int) = some (.inr (.inr ()))) :
    DecS ((whileE body 0).bind (Sum.elim (fun _ => some (.inr (.inl ()))) (fun _ => some (.inl ())))) (a = b) := by
  have := while_dec hl h hf a b 0 rfl rfl (Nat.zero_le _)
  rw [show ((0 : Nat) : Int) = 0 from rfl] at this
  rw [this]
  by_cases c : a = b
  · rw [if_pos c]; exact ⟨fun _ => rfl, fun h => absurd c h⟩
  · rw [if_neg c]; exact ⟨fun h => absurd h c, fun _ => rfl⟩
end
theorem beqT {T : Type} [BEq T] [LawfulBEq T] {x y : T} : (x == y) = true ↔ x = y := beq_iff_eq
theorem cmpT {p : Prop} [Decidable p] {b : Bool} (h : b = decide p) : b = true ↔ p := by rw [h]; simp
section
variable {T : Type} {p q : Prop} {X f : Option Bool} {b : Bool}
theorem Dec.same {x y : Option Bool} (h : Dec x p) (h' : Dec y p) : ∃ r, x = some r ∧ y = some r := by
  obtain ⟨a, h1, h2⟩ := h
  obtain ⟨c, h3, h4⟩ := h'
  exact ⟨a, h1, by rw [h3]; congr 1; rw [Bool.eq_iff_iff, h2, h4]⟩
theorem Dec.nandC (hb : b = true ↔ p) (hX : p → Dec X q) : Dec (br (!b) (some false) X) (p ∧ q) := by
  cases b with
  | true => exact (hX (hb.1 rfl)).iff ⟨fun h => ⟨hb.1 rfl, h⟩, fun h => h.2⟩
  | false => exact ⟨false, rfl, ⟨fun h => (by cases h), fun h => by have := hb.2 h.1; cases this⟩⟩
theorem Dec.andC (hb : b = true ↔ p) (hX : p → Dec X q) : Dec (br b X (some false)) (p ∧ q) := by
  have := Dec.nandC hb hX
  cases b <;> exact this
theorem Dec.bindC (hf : Dec f p) (hX : p → Dec X q) : Dec (f.bind fun r => br (!r) (some false) X) (p ∧ q) := by
  obtain ⟨c, rfl, h2⟩ := hf
  exact Dec.nandC h2 hX
theorem Dec.bindP (hf : Dec f p) (hX : p → Dec X q) : Dec (f.bind fun r => br r X (some false)) (p ∧ q) := by
  obtain ⟨c, rfl, h2⟩ := hf
  exact Dec.andC h2 hX
theorem Dec.getC {l : List T} {n : Int} {X : T → Option Bool} {x : T} (h0 : 0 ≤ n) (h : l[n.toNat]? = some x) (hX : Dec (X x) p) : Dec ((getI l n).bind X) p := by
  have : getI l n = some x := by
    unfold getI
    rw [if_pos h0, h]
  rw [this]; exact hX
/-- A loop that asks something of every element. -/
theorem Dec.all {l : List T} {P : Nat → T → Prop} {body : Nat → T → Unit → Option (Unit ⊕ (Unit ⊕ Unit))} (hm : l.length ≤ maxLen) (h : ∀ i x, l[i]? = some x → DecS (body i x ()) (P i x)) (hX : Dec X q) :
    Dec ((forE l body (fun _ => (.inr () : Unit ⊕ Unit)) ()).bind (Sum.elim (fun _ => some false) (fun _ => X))) ((∀ i x, l[i]? = some x → P i x) ∧ q) := by
  have key : ∀ (zs : List T) (i : Nat), l.drop i = zs → i ≤ l.length → ∃ r : Unit ⊕ Unit, forA body (fun _ => (.inr () : Unit ⊕ Unit)) i zs () = some r ∧ ((r = .inr ()) ↔ ∀ j x, i ≤ j → l[j]? = some x → P j x) := by
    intro zs
    induction zs with
    | nil =>
      intro i hd hi
      have := List.drop_eq_nil_iff.1 hd
      exact ⟨.inr (), rfl, by simp; intro j x hj hx; have := (List.getElem?_eq_some_iff.1 hx).1; omega⟩
    | cons z zs ih =>
      intro i hd hi
      have hz : l[i]? = some z := by
        have := congrArg (fun l => l[0]?) hd
        simpa using this
      have hlt := (List.getElem?_eq_some_iff.1 hz).1
      have hd' : l.drop (i + 1) = zs := by rw [← List.tail_drop, hd]; rfl
      obtain ⟨h1, h2⟩ := h i z hz
      by_cases c : P i z
      · obtain ⟨r, h3, h4⟩ := ih (i + 1) hd' (by omega)
        refine ⟨r, by rw [forA, h1 c]; exact h3, h4.trans ⟨fun hr j x hj hx => ?_, fun hr j x hj hx => hr j x (by omega) hx⟩⟩
        by_cases e : j = i
        · subst e; rw [hz] at hx; injection hx with hx; subst hx; exact c
        · exact hr j x (by omega) hx
      · exact ⟨.inl (), by rw [forA, h2 c], by simp; exact ⟨i, Nat.le_refl _, z, hz, c⟩⟩
  obtain ⟨r, h1, h2⟩ := key l 0 rfl (Nat.zero_le _)
  unfold forE
  rw [if_pos hm, h1]
  cases r with
  | inl u => exact ⟨false, rfl, ⟨fun h => (by cases h), fun h => by have := h2.2 (fun j x _ hx => h.1 j x hx); cases this⟩⟩
  | inr u => exact hX.iff ⟨fun h => ⟨fun i x hx => h2.1 rfl i x (Nat.zero_le _) hx, h⟩, fun h => h.2⟩
theorem Dec.all1 {l : List T} {P : Nat → T → Prop} {body : Nat → T → Unit → Option (Unit ⊕ (Unit ⊕ Unit))} (hm : l.length ≤ maxLen) (h : ∀ i x, l[i]? = some x → DecS (body i x ()) (P i x)) :
    Dec ((forE l body (fun _ => (.inr () : Unit ⊕ Unit)) ()).bind (Sum.elim (fun _ => some false) (fun _ => some true))) (∀ i x, l[i]? = some x → P i x) :=
  (Dec.all hm h Dec.tt).iff (by simp)
/-- A loop that looks for one. -/
theorem Dec.any {l : List T} {P : T → Prop} {body : Nat → T → Unit → Option (Unit ⊕ (Unit ⊕ Unit))} (hm : l.length ≤ maxLen) (h : ∀ i x, l[i]? = some x → DecS (body i x ()) (¬ P x)) :
    Dec ((forE l body (fun _ => (.inr () : Unit ⊕ Unit)) ()).bind (Sum.elim (fun _ => some true) (fun _ => some false))) (∃ x ∈ l, P x) := by
  have := Dec.all1 hm h
  obtain ⟨c, h1, h2⟩ := this
  cases hf : forE l body (fun _ => (.inr () : Unit ⊕ Unit)) () with
  | none => rw [hf] at h1; cases h1
  | some r =>
    rw [hf] at h1
    cases r with
    | inl u =>
      have hc : c = false := by injection h1 with h1; exact h1.symm
      refine ⟨true, rfl, ⟨fun _ => ?_, fun _ => rfl⟩⟩
      subst hc
      apply Classical.byContradiction
      intro hn
      have : ∀ i x, l[i]? = some x → ¬ P x := fun i x hx hp => hn ⟨x, List.mem_of_getElem? hx, hp⟩
      have := h2.2 this
      cases this
    | inr u =>
      have hc : c = true := by injection h1 with h1; exact h1.symm
      refine ⟨false, rfl, ⟨fun h => (by cases h), fun ⟨x, hx, hp⟩ => ?_⟩⟩
      obtain ⟨i, hi, rfl⟩ := List.mem_iff_getElem.1 hx
      exact absurd hp (h2.1 hc i _ (List.getElem?_eq_getElem hi))
/-- A counting loop that asks something of every number. -/
theorem Dec.whileAll {n i0 : Nat} {P : Nat → Prop} {body : Int → Option (Int ⊕ (Unit ⊕ Unit))} (hi : i0 ≤ n)
    (h : ∀ i : Nat, i0 ≤ i → i < n → (P i → body i = some (.inl ((i + 1 : Nat) : Int))) ∧ (¬ P i → body i = some (.inr (.inl ())))) (hf : body n = some (.inr (.inr ()))) (hX : Dec X q) :
    Dec ((whileE body (i0 : Int)).bind (Sum.elim (fun _ => some false) (fun _ => X))) ((∀ i : Nat, i0 ≤ i → i < n → P i) ∧ q) := by
  have key : ∀ (m i : Nat), n - i = m → i0 ≤ i → i ≤ n → ∃ r : Unit ⊕ Unit, whileE body (i : Int) = some r ∧ ((r = .inr ()) ↔ ∀ j : Nat, i ≤ j → j < n → P j) := by
    intro m
    induction m with
    | zero =>
      intro i hm h0 hn
      have : i = n := by omega
      subst this
      refine ⟨.inr (), ?_, by simp; intro j hj hj2; omega⟩
      unfold whileE
      rw [whileInf_step, hf]
    | succ m ih =>
      intro i hm h0 hn
      obtain ⟨h1, h2⟩ := h i h0 (by omega)
      unfold whileE
      rw [whileInf_step]
      by_cases c : P i
      · rw [h1 c]
        obtain ⟨r, h3, h4⟩ := ih (i + 1) (by omega) (by omega) (by omega)
        refine ⟨r, h3, h4.trans ⟨fun hr j hj hn => ?_, fun hr j hj hn => hr j (by omega) hn⟩⟩
        by_cases e : j = i
        · subst e; exact c
        · exact hr j (by omega) hn
      · rw [h2 c]
        exact ⟨.inl (), rfl, by simp; exact ⟨i, Nat.le_refl _, by omega, c⟩⟩
  obtain ⟨r, h1, h2⟩ := key (n - i0) i0 rfl (Nat.le_refl _) hi
  rw [h1]
  cases r with
  | inl u => exact ⟨false, rfl, ⟨fun h => (by cases h), fun h => by have := h2.2 h.1; cases this⟩⟩
  | inr u => exact hX.iff ⟨fun h => ⟨h2.1 rfl, h⟩, fun h => h.2⟩
end
theorem sPr_len {T : Type} {to : T → Pr} {of : Pr → T} {l : List T} (h : l.length ≤ 1099511627776) : sortPrE to of l = some ((sortPr (l.map to)).map of) := by
  unfold sortPrE
  rw [chk_pos h]
def prA (a : TAddr) : Pr := (a.xHost, a.xPath)
def ofA (p : Pr) : TAddr := ⟨p.1, p.2⟩
theorem iSort_eq (l : List TAddr) (h : l.length ≤ 1099511627776) : iSortAddrs l = some ((sortPr (l.map prA)).map ofA) := sPr_len h
theorem prA_inj {a b : TAddr} (h : prA a = prA b) : a = b := by
  cases a; cases b
  simp only [prA, Prod.mk.injEq] at h
  rw [h.1, h.2]
theorem nodup_pr (l : List TAddr) : (l.map prA).Nodup ↔ l.Nodup := by
  induction l with
  | nil => simp
  | cons a l ih =>
    rw [List.map_cons, List.nodup_cons, List.nodup_cons, ih]
    constructor
    · exact fun ⟨h1, h2⟩ => ⟨fun h => h1 (List.mem_map_of_mem h), h2⟩
    · refine fun ⟨h1, h2⟩ => ⟨fun h => ?_, h2⟩
      obtain ⟨b, hb, e⟩ := List.mem_map.1 h
      rw [prA_inj e] at hb
      exact h1 hb
theorem d_sHas (l : List TAddr) (a : TAddr) (h : l.length ≤ maxLen) : Dec (sHasAddr l a) (a ∈ l) := by
  unfold sHasAddr
  refine Dec.iff (Dec.any (P := fun x => x = a) h (fun i x hx => ?_)) (by simp)
  have hc : ((x.xHost == a.xHost) && ((x.xPath == a.xPath) && true)) = decide (x = a) := TAddr.cmp x a
  rw [hc]
  by_cases c : x = a
  · rw [decide_eq_true c]; exact ⟨fun h => absurd c h, fun _ => rfl⟩
  · rw [decide_eq_false c]; exact ⟨fun _ => rfl, fun h => absurd c h⟩
theorem less_cb : ∀ a b : List UInt8, less a b = decide (Lib.compareBytes a b < 0) := by
  intro a
  induction a with
  | nil => intro b; cases b <;> rfl
  | cons x a ih =>
    intro b
    cases b with
    | nil => rfl
    | cons y b =>
      have ih' : Op.bytesLess a b = decide (Lib.compareBytes a b < 0) := ih b
      simp only [less, Lib.compareBytes, Op.bytesLess]
      by_cases h1 : x < y
      · simp [h1]
      · by_cases h2 : y < x
        · simp [h1, h2]
          try (rw [UInt8.lt_iff_toNat_lt] at h1 h2; intro e; subst e; omega)
        · have e : x = y := by
            apply UInt8.toNat_inj.1
            rw [UInt8.lt_iff_toNat_lt] at h1 h2
            omega
          simp [h1, h2, e, ih']
theorem d_sCmp (a b : TAddr) : Ok (sCompareAddrs a b) (fun r => (r < 0 ↔ ltPr (prA a) (prA b) = true)) := by
  unfold sCompareAddrs
  rw [TAddr.cmp]
  by_cases c : a = b
  · rw [decide_eq_true c]
    refine Ok.ret ?_
    rw [c, lt_irrefl]
    simp
  · rw [decide_eq_false c]
    rw [less_cb, less_cb]
    have e : ltPr (prA a) (prA b) = decide ((if Lib.compareBytes a.xHost b.xHost ≠ 0 then Lib.compareBytes a.xHost b.xHost else Lib.compareBytes a.xPath b.xPath) < 0) := rfl
    rw [e]
    by_cases h1 : Lib.compareBytes a.xHost b.xHost < 0
    · rw [decide_eq_true h1]
      refine Ok.ret ?_
      rw [if_pos (by omega)]
      simp [h1]
    · rw [decide_eq_false h1]
      by_cases h2 : a.xHost = b.xHost
      · rw [show (a.xHost == b.xHost) = true by simpa using h2]
        have h3 : Lib.compareBytes a.xHost b.xHost = 0 := by rw [h2]; exact cb_self _
        rw [if_neg (by simpa using h3)]
        by_cases h4 : Lib.compareBytes a.xPath b.xPath < 0
        · rw [decide_eq_true h4]; exact Ok.ret (by simp)
        · rw [decide_eq_false h4]; exact Ok.ret (by simp)
      · rw [show (a.xHost == b.xHost) = false by simpa using h2]
        have h3 : Lib.compareBytes a.xHost b.xHost ≠ 0 := fun e => h2 (cb_eq e)
        refine Ok.ret ?_
        rw [if_pos h3]
        simp [h1]
theorem insert_rising {s : List TAddr} {x : TAddr} {k : Nat} (hr : Rising (s.map prA)) (hx : ¬ x ∈ s) (hk : k ≤ s.length) (h1 : ∀ j y, k ≤ j → s[j]? = some y → ltPr (prA x) (prA y) = true) (h2 : k = 0 ∨ ∃ y, s[k - 1]? = some y ∧ ltPr (prA x) (prA y) = false) :
    Rising ((s.take k ++ [x] ++ s.drop k).map prA) := by
  have hp := List.pairwise_map.1 hr
  have hlow : ∀ y ∈ s.take k, ltPr (prA y) (prA x) = true := by
    intro y hy
    obtain ⟨j, hj, rfl⟩ := List.mem_iff_getElem.1 hy
    have hjk : j < k := by simp at hj; omega
    rw [List.getElem_take]
    rcases h2 with h2 | ⟨z, hz, h2⟩
    · omega
    · obtain ⟨hz1, hz2⟩ := List.getElem?_eq_some_iff.1 hz
      have hzx : ltPr (prA z) (prA x) = true := lt_of_not h2 (fun e => hx (by rw [← prA_inj e, ← hz2]; exact List.getElem_mem hz1))
      by_cases e : j = k - 1
      · subst e; rw [hz2]; exact hzx
      · have := List.pairwise_iff_getElem.1 hp j (k - 1) (by omega) hz1 (by omega)
        rw [hz2] at this
        exact lt_trans' this hzx
  have hhigh : ∀ y ∈ s.drop k, ltPr (prA x) (prA y) = true := by
    intro y hy
    obtain ⟨j, hj, rfl⟩ := List.mem_iff_getElem.1 hy
    refine h1 (k + j) _ (by omega) ?_
    rw [List.getElem_drop, List.getElem?_eq_getElem]
  refine List.pairwise_map.2 (List.pairwise_append.2 ⟨List.pairwise_append.2 ⟨hp.sublist (List.take_sublist _ _), by simp, fun a ha b hb => ?_⟩, hp.sublist (List.drop_sublist _ _), fun a ha b hb => ?_⟩)
  · rw [List.mem_singleton.1 hb]; exact hlow a ha
  · rcases List.mem_append.1 ha with ha | ha
    · exact lt_trans' (hlow a ha) (hhigh b hb)
    · rw [List.mem_singleton.1 ha]; exact hhigh b hb
theorem sSort_eq (l : List TAddr) (h : l.length ≤ 1048576) : sSortAddrs l = some ((sortPr (l.map prA)).map ofA) := by
  have key : Ok (sSortAddrs l) (fun r => r = (sortPr (l.map prA)).map ofA) := by
    unfold sSortAddrs
    refine Ok.bind (Q1 := fun r => r = (sortPr (l.map prA)).map ofA) (Ok.for (by unfold maxLen; omega) (fun i s => Rising (s.map prA) ∧ (∀ x, x ∈ s ↔ x ∈ l.take i) ∧ s.length ≤ i) ⟨by simp [Rising], by simp, Nat.le_refl _⟩ (fun i x s hx hi => ?_) (fun s hs => ?_)) (fun r _ hr => Ok.ret hr)
    · obtain ⟨hr, hm, hlen⟩ := hi
      obtain ⟨hil, hix⟩ := List.getElem?_eq_some_iff.1 hx
      have htk : l.take (i + 1) = l.take i ++ [x] := by rw [List.take_succ_eq_append_getElem hil, hix]
      obtain ⟨c, e1, e2⟩ := d_sHas s x (by unfold maxLen; omega)
      rw [e1]
      cases c with
      | true =>
        refine Ok.ret ⟨hr, fun y => ?_, by omega⟩
        have := e2.1 rfl
        rw [htk, List.mem_append, ← hm]
        constructor
        · exact fun h => .inl h
        · rintro (h | h)
          · exact h
          · rw [List.mem_singleton.1 h]; exact this
      | false =>
        have hxs : ¬ x ∈ s := fun hh => by have := e2.2 hh; cases this
        refine Ok.bind (Q1 := fun r : Int => 0 ≤ r ∧ r ≤ s.length ∧ (∀ (j : Nat) y, r ≤ j → s[j]? = some y → ltPr (prA x) (prA y) = true) ∧ (r = 0 ∨ ∃ y, s[r.toNat - 1]? = some y ∧ ltPr (prA x) (prA y) = false)) ?_ (fun r _ hr8 => ?_)
        · refine Ok.while (fun r : Int => 0 ≤ r ∧ r ≤ s.length ∧ (∀ (j : Nat) y, r ≤ j → s[j]? = some y → ltPr (prA x) (prA y) = true)) (fun r => r.toNat) ⟨by omega, by omega, fun j y hj hy => by have := (List.getElem?_eq_some_iff.1 hy).1; omega⟩ (fun r hr => ?_)
          obtain ⟨r0, r1, r2⟩ := hr
          by_cases c : r > 0
          · rw [decide_eq_true c]
            have hw : IntKind.wrap .i64 (r - 1) = r - 1 := by simp [IntKind.wrap, IntKind.bits, IntKind.signed]; omega
            have hlt : (r - 1).toNat < s.length := by omega
            rw [hw]
            refine Ok.chk ⟨by omega, hlt⟩ (Ok.bind (Ok.getI (by omega) hlt) (fun y _ hy => Ok.bind (d_sCmp x y) (fun c7 _ h7 => Ok.br (fun c8 => Ok.ret ⟨⟨by omega, by omega, fun j z hj hz => ?_⟩, by omega⟩) (fun c8 => Ok.ret ⟨r0, r1, r2, .inr ⟨y, ?_, ?_⟩⟩))))
            · by_cases e : (j : Int) = r - 1
              · have hj2 : j = (r - 1).toNat := by omega
                rw [hj2, hy.1] at hz
                injection hz with hz
                subst hz
                exact h7.1 (of_decide_eq_true c8)
              · exact r2 j z (by omega) hz
            · rw [show r.toNat - 1 = (r - 1).toNat by omega]; exact hy.1
            · cases hh : ltPr (prA x) (prA y) with
              | false => rfl
              | true => have := h7.2 hh; exact absurd this (of_decide_eq_false c8)
          · rw [decide_eq_false c]
            exact Ok.ret ⟨r0, r1, r2, .inl (by omega)⟩
        · obtain ⟨r0, r1, r2, r3⟩ := hr8
          have hrl : r.toNat ≤ s.length := by omega
          have hT : (s.take ((s.length : Int).toNat)) = s := by rw [Int.toNat_natCast]; exact List.take_length
          simp only [hT, List.drop_zero, List.nil_append]
          have l1 : (s.take r.toNat).length = r.toNat := by simp; omega
          have l2 : (s.drop r.toNat).length = s.length - r.toNat := by simp
          refine Ok.chk ⟨by omega, by omega, r1⟩ (Ok.chk ⟨by omega, by omega⟩ (Ok.chk ⟨by omega, by omega⟩ (Ok.chk ⟨by omega, by omega, by omega⟩ (Ok.chk ?_ (Ok.ret ⟨?_, fun y => ?_, ?_⟩)))))
          · rw [List.length_append, l1, l2, List.length_singleton]; omega
          · refine insert_rising hr hxs hrl (fun j y hj hy => r2 j y (by omega) hy) ?_
            rcases r3 with r3 | r3
            · exact .inl (by omega)
            · exact .inr r3
          · rw [htk, List.mem_append (t := [x]), ← hm, List.mem_append, List.mem_append]
            conv => rhs; rw [← List.take_append_drop r.toNat s, List.mem_append]
            constructor
            · rintro ((h | h) | h)
              · exact .inl (.inl h)
              · exact .inr h
              · exact .inl (.inr h)
            · rintro ((h | h) | h)
              · exact .inl (.inl h)
              · exact .inr h
              · exact .inl (.inr h)
          · rw [List.length_append, List.length_append, l1, l2, List.length_singleton]; omega
    · obtain ⟨hr, hm, _⟩ := hs
      rw [List.take_length] at hm
      have : s.map prA = sortPr (l.map prA) := sortPr_eq hr (fun x => by
        constructor
        · intro hx
          obtain ⟨a, ha, rfl⟩ := List.mem_map.1 hx
          exact List.mem_map_of_mem ((hm a).1 ha)
        · intro hx
          obtain ⟨a, ha, rfl⟩ := List.mem_map.1 hx
          exact List.mem_map_of_mem ((hm a).2 ha))
      rw [← this, List.map_map]
      conv => lhs; rw [← List.map_id s]
      exact List.map_congr_left (fun a _ => rfl)
  obtain ⟨r, hr, hq⟩ := key
  rw [hr, hq]
theorem sortPr_le (l : List Pr) : (sortPr l).length ≤ l.length := by
  unfold sortPr Lib.compact Lib.compactUpTo
  rw [List.length_map]
  exact Nat.le_trans (List.length_filter_le _ _) (by simp)
theorem ok_SentTo (n : TNet) (host : List UInt8) (hs : n.xLog.length ≤ 1048576) : Ok (iSentTo n host) (fun l => l.length ≤ n.xLog.length ∧ ∀ x ∈ l, x ∈ n.xLog) := by
  unfold iSentTo
  refine Ok.bind (Q1 := fun l => l.length ≤ n.xLog.length ∧ ∀ x ∈ l, x ∈ n.xLog) (Ok.for (by unfold maxLen; omega) (fun i l => l.length ≤ i ∧ ∀ x ∈ l, x ∈ n.xLog) ⟨Nat.le_refl 0, by simp⟩ (fun i x l hx hi => ?_) (fun l hl => hl)) (fun r _ hr => Ok.ret hr)
  have hlt := (List.getElem?_eq_some_iff.1 hx).1
  refine Ok.br (fun _ => Ok.chk (by omega) (Ok.ret ⟨by simp; exact hi.1, fun y hy => ?_⟩)) (fun _ => Ok.ret ⟨Nat.le_succ_of_le hi.1, hi.2⟩)
  rcases List.mem_append.1 hy with h | h
  · exact hi.2 y h
  · rw [List.mem_singleton.1 h]; exact List.mem_of_getElem? hx
theorem eq_Cross (n : TNet) (host : List UInt8) (h : n.ok) (hs : n.xLog.length ≤ 1048576) : ∃ l, sCrossLearned n host = some l ∧ iCrossLearned n host = some l ∧ l.length ≤ 1048576 ∧ ∀ a ∈ l, TAddr.ok a := by
  obtain ⟨l1, e1, q1, q2⟩ := ok_SentTo n host hs
  have k2 : Ok (forE l1 (fun (i_2 : Nat) (x_2 : TSent) (s2 : List TAddr) => (
    br (!(x_2.xTop == host)) (
      chk ((s2.length + 1) * 32 ≤ 140737488355328 ∧ s2.length + 1 ≤ 140737488355328) <|
      some (.inl (s2 ++ [x_2.xTo]))
    ) (
      some (.inl s2)
    )
  : Option ((List TAddr) ⊕ (List TAddr)))) (fun (s2 : List TAddr) => (s2 : List TAddr)) ([] : List TAddr)) (fun l => l.length ≤ l1.length ∧ ∀ a ∈ l, ∃ s ∈ l1, a = s.xTo) := by
    refine Ok.for (by unfold maxLen; omega) (fun i l => l.length ≤ i ∧ ∀ a ∈ l, ∃ s ∈ l1, a = s.xTo) ⟨Nat.le_refl 0, by simp⟩ (fun i x l hx hi => ?_) (fun l hl => hl)
    have hlt := (List.getElem?_eq_some_iff.1 hx).1
    refine Ok.br (fun _ => Ok.chk (by omega) (Ok.ret ⟨by simp; exact hi.1, fun y hy => ?_⟩)) (fun _ => Ok.ret ⟨Nat.le_succ_of_le hi.1, hi.2⟩)
    rcases List.mem_append.1 hy with h | h
    · exact hi.2 y h
    · exact ⟨x, List.mem_of_getElem? hx, List.mem_singleton.1 h⟩
  obtain ⟨l2, e2, q3, q4⟩ := k2
  refine ⟨(sortPr (l2.map prA)).map ofA, ?_, ?_, ?_, fun a ha => ?_⟩
  · unfold sCrossLearned
    rw [show sSentTo n host = some l1 from e1, Option.bind_some]
    refine Eq.trans (congrArg (fun o => Option.bind o _) e2) ?_
    show (sSortAddrs l2).bind _ = _
    rw [sSort_eq _ (by omega)]
    rfl
  · unfold iCrossLearned
    rw [e1, Option.bind_some]
    refine Eq.trans (congrArg (fun o => Option.bind o _) e2) ?_
    show (iSortAddrs l2).bind _ = _
    rw [iSort_eq _ (by omega)]
    rfl
  · rw [List.length_map]
    have := sortPr_le (l2.map prA)
    rw [List.length_map] at this
    omega
  · obtain ⟨p, hp, rfl⟩ := List.mem_map.1 ha
    obtain ⟨b, hb, rfl⟩ := List.mem_map.1 ((sortPr_mem _ _).1 hp)
    obtain ⟨s, hsm, rfl⟩ := q4 b hb
    have := h.2.2.1.2 s (q2 s hsm)
    exact this.2.1
theorem eq_Own (n : TNet) (host : List UInt8) (h : n.ok) (hs : n.xLog.length ≤ 1048576) : ∃ l, sOwnLearned n host = some l ∧ iOwnLearned n host = some l ∧ l.length ≤ 1048576 ∧ ∀ a ∈ l, TAddr.ok a := by
  obtain ⟨l1, e1, q1, q2⟩ := ok_SentTo n host hs
  have k2 : Ok (forE l1 (fun (i_2 : Nat) (x_2 : TSent) (s2 : List TAddr) => (
    br (x_2.xTop == host) (
      br (!x_2.xGuess) (
        chk ((s2.length + 1) * 32 ≤ 140737488355328 ∧ s2.length + 1 ≤ 140737488355328) <|
        some (.inl (s2 ++ [x_2.xTo]))
      ) (
        some (.inl s2)
      )
    ) (
      some (.inl s2)
    )
  : Option ((List TAddr) ⊕ (List TAddr)))) (fun (s2 : List TAddr) => (s2 : List TAddr)) ([] : List TAddr)) (fun l => l.length ≤ l1.length ∧ ∀ a ∈ l, ∃ s ∈ l1, a = s.xTo) := by
    refine Ok.for (by unfold maxLen; omega) (fun i l => l.length ≤ i ∧ ∀ a ∈ l, ∃ s ∈ l1, a = s.xTo) ⟨Nat.le_refl 0, by simp⟩ (fun i x l hx hi => ?_) (fun l hl => hl)
    have hlt := (List.getElem?_eq_some_iff.1 hx).1
    refine Ok.br (fun _ => Ok.br (fun _ => Ok.chk (by omega) (Ok.ret ⟨by simp; exact hi.1, fun y hy => ?_⟩)) (fun _ => Ok.ret ⟨Nat.le_succ_of_le hi.1, hi.2⟩)) (fun _ => Ok.ret ⟨Nat.le_succ_of_le hi.1, hi.2⟩)
    rcases List.mem_append.1 hy with h | h
    · exact hi.2 y h
    · exact ⟨x, List.mem_of_getElem? hx, List.mem_singleton.1 h⟩
  obtain ⟨l2, e2, q3, q4⟩ := k2
  refine ⟨(sortPr (l2.map prA)).map ofA, ?_, ?_, ?_, fun a ha => ?_⟩
  · unfold sOwnLearned
    rw [show sSentTo n host = some l1 from e1, Option.bind_some]
    refine Eq.trans (congrArg (fun o => Option.bind o _) e2) ?_
    show (sSortAddrs l2).bind _ = _
    rw [sSort_eq _ (by omega)]
    rfl
  · unfold iOwnLearned
    rw [e1, Option.bind_some]
    refine Eq.trans (congrArg (fun o => Option.bind o _) e2) ?_
    show (iSortAddrs l2).bind _ = _
    rw [iSort_eq _ (by omega)]
    rfl
  · rw [List.length_map]
    have := sortPr_le (l2.map prA)
    rw [List.length_map] at this
    omega
  · obtain ⟨p, hp, rfl⟩ := List.mem_map.1 ha
    obtain ⟨b, hb, rfl⟩ := List.mem_map.1 ((sortPr_mem _ _).1 hp)
    obtain ⟨s, hsm, rfl⟩ := q4 b hb
    have := h.2.2.1.2 s (q2 s hsm)
    exact this.2.1
/-! ### marks -/
noncomputable def mt (k : Nat) : List UInt8 := (lmarkText (k : Int)).getD []
theorem mt_eq (k : Nat) (h : k < 4611686018427387904) : lmarkText (k : Int) = some (mt k) := by
  have : Ok (lmarkText (k : Int)) (fun _ => True) := by
    unfold lmarkText
    refine Ok.br (fun _ => Ok.ret trivial) (fun _ => Ok.bind (Q1 := fun r : List UInt8 => r.length ≤ k) (Ok.while (fun s : Int × List UInt8 => 0 ≤ s.1 ∧ s.2.length + s.1.toNat ≤ k) (fun s => s.1.toNat) ⟨Int.natCast_nonneg _, by simp⟩ (fun s hs => ?_)) (fun r _ hr => Ok.chk (by omega) (Ok.ret trivial)))
    obtain ⟨s1, s2⟩ := s
    obtain ⟨h0, h1⟩ := hs
    dsimp only at h0 h1 ⊢
    refine Ok.br (fun c => ?_) (fun c => Ok.ret (by omega))
    have c : 0 < s1 := by simpa using c
    have ht : Int.tdiv s1 10 = ((s1.toNat / 10 : Nat) : Int) := by
      conv => lhs; rw [show s1 = ((s1.toNat : Nat) : Int) by omega]
      rfl
    have hw : IntKind.wrap .i64 (Int.tdiv s1 10) = ((s1.toNat / 10 : Nat) : Int) := by
      rw [ht]
      simp [IntKind.wrap, IntKind.bits, IntKind.signed]
      omega
    refine Ok.chk (by simp [strI]; omega) (Ok.ret ?_)
    rw [hw]
    refine ⟨⟨Int.natCast_nonneg _, ?_⟩, ?_⟩
    · simp [strI]; omega
    · simp; omega
  obtain ⟨r, e, _⟩ := this
  unfold mt
  rw [e]
  rfl
noncomputable def mAddr (k : Nat) : TAddr := ⟨mt k, mt (k + 1)⟩
noncomputable def mAddrs (n : Nat) : List TAddr := (List.range n).map fun j => mAddr (1 + j * 2)
theorem held_mAddrs (n : Nat) (hn : n ≤ 1048576) : lheldAddrS (mAddrs n) 1 = some ((1 + n * 2 : Nat) : Int) := by
  have hl : (mAddrs n).length = n := by simp [mAddrs]
  have : Ok (lheldAddrS (mAddrs n) 1) (fun r => r = ((1 + n * 2 : Nat) : Int)) := by
    unfold lheldAddrS
    refine Ok.bind (Q1 := fun r : Int ⊕ Int => r = .inr ((1 + n * 2 : Nat) : Int)) (Ok.for (by rw [hl]; unfold maxLen; omega) (fun i s => s = ((1 + i * 2 : Nat) : Int)) rfl (fun i x s hx hi => ?_) (fun s hs => ?_)) (fun r _ hr => ?_)
    · have hlt := (List.getElem?_eq_some_iff.1 hx).1
      rw [hl] at hlt
      have hxe : x = mAddr (1 + i * 2) := by
        unfold mAddrs at hx
        rw [List.getElem?_map, List.getElem?_range hlt] at hx
        simpa using hx.symm
      subst hxe
      subst hi
      have w1 : IntKind.wrap .i64 (((1 + i * 2 : Nat) : Int) + 1) = ((1 + i * 2 + 1 : Nat) : Int) := by
        simp [IntKind.wrap, IntKind.bits, IntKind.signed]; omega
      have w2 : IntKind.wrap .i64 (((1 + i * 2 + 1 : Nat) : Int) + 1) = ((1 + (i + 1) * 2 : Nat) : Int) := by
        simp [IntKind.wrap, IntKind.bits, IntKind.signed]; omega
      rw [mt_eq _ (by omega), Option.bind_some, w1, mt_eq _ (by omega), Option.bind_some, w2]
      refine Ok.br (fun c => by simp [mAddr] at c) (fun _ => Ok.br (fun c => by simp [mAddr] at c) (fun _ => Ok.ret rfl))
    · rw [hl] at hs; rw [hs]
    · subst hr; exact Ok.ret rfl
  obtain ⟨r, e, rfl⟩ := this
  exact e
noncomputable def mrA (k : Nat) : V := rowEnc true kAddr (TAddr.row (mAddr k))
end Go.Am
