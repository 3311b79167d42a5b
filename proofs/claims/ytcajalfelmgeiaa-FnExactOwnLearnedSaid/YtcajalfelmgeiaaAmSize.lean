/-
  Sizes, copies and comparisons of data, the steps that all types share. No theorem about a Go program stands here.
-/
import Derived.Test.YtcajalfelmgeiaaAmMath
import Derived.Test.YtcajalfelmgeiaaAmLaw
set_option linter.unusedVariables false
set_option linter.unusedSimpArgs false
namespace Go.Am
open Go
section
variable {β : Type}
/-- What is left of an allowance. -/
def szL (left : Int) (n : Nat) : Int := if left < (n : Int) then -1 else left - (n : Int)
def sumL {T : Type} (f : T → Nat) (l : List T) : Nat := (l.map f).sum
theorem sumL_mem {T : Type} {f : T → Nat} {l : List T} {x : T} (h : x ∈ l) : f x ≤ sumL f l := by
  induction l with
  | nil => cases h
  | cons y l ih =>
    have e : sumL f (y :: l) = f y + sumL f l := by simp [sumL]
    rcases List.mem_cons.1 h with rfl | h
    · omega
    · have := ih h; omega
theorem szCase {m : Int} {n : Nat} : (m < (n : Int) ∧ szL m n = -1) ∨ ((n : Int) ≤ m ∧ szL m n = m - n) := by
  unfold szL
  by_cases h : m < (n : Int)
  · exact .inl ⟨h, if_pos h⟩
  · exact .inr ⟨by omega, if_neg h⟩
theorem wrap_sub {l : Int} {n : Nat} (h0 : 0 ≤ l) (h1 : l ≤ 1048576) (h2 : n ≤ maxLen) : IntKind.wrap .i64 (l - (n : Int)) = l - (n : Int) := by
  unfold maxLen at h2
  exact wrap_of (by omega) (by omega)
theorem szCut {l : Int} {n t : Nat} {x : Option β} {k : Int → Option β} (h0 : 0 ≤ l) (h1 : l ≤ 1048576) (hn : n ≤ maxLen) (h : ∀ m : Int, IntKind.wrap .i64 (l - (n : Int)) = m → 0 ≤ m → m ≤ 1048576 → x = k (szL m t)) : br (decide (IntKind.wrap .i64 (l - (n : Int)) < 0)) (k (-1)) x = k (szL l (n + t)) := by
  have hw := wrap_sub h0 h1 hn
  by_cases c : l < (n : Int)
  · refine brE (by rw [hw]; omega) ?_
    unfold szL
    rw [if_pos (by omega)]
  · refine brN (by rw [hw]; omega) ((h _ hw (by omega) (by omega)).trans ?_)
    congr 1
    unfold szL
    by_cases c2 : l - (n : Int) < (t : Int)
    · rw [if_pos c2, if_pos (by omega)]
    · rw [if_neg c2, if_neg (by omega)]; omega
theorem szSub {l : Int} {n t : Nat} {x : Option β} {k : Int → Option β} (h0 : 0 ≤ l) (h1 : l ≤ 1048576) (h : ∀ m : Int, szL l n = m → 0 ≤ m → m ≤ 1048576 → x = k (szL m t)) : br (decide (szL l n < 0)) (k (-1)) x = k (szL l (n + t)) := by
  rcases @szCase l n with ⟨c, e⟩ | ⟨c, e⟩
  · refine brE (by rw [e]; decide) ?_
    unfold szL
    rw [if_pos (by omega)]
  · refine brN (by rw [e]; omega) ((h _ e (by omega) (by omega)).trans ?_)
    congr 1
    unfold szL
    by_cases c2 : l - (n : Int) < (t : Int)
    · rw [if_pos c2, if_pos (by omega)]
    · rw [if_neg c2, if_neg (by omega)]; omega
theorem szEnd {l : Int} {k : Int → Option β} (h0 : 0 ≤ l) : k l = k (szL l 0) := by
  unfold szL
  rw [if_neg (by omega)]
  simp
/-- A loop that takes every element's size off. -/
theorem while_sz {T : Type} {step : List Leaf → Option (List Leaf ⊕ (Nat × List Leaf))} {kk : (Nat × List Leaf) → Option β} {K : Int → Option β} (S : Nat → Int → List Leaf) (ys : List T) (size : T → Nat) (fin : Int → Nat × List Leaf)
    (h1 : ∀ i y m, ys[i]? = some y → 0 ≤ m → m ≤ 1048576 → (∃ q, m < (size y : Int) ∧ step (S i m) = some (.inr q) ∧ kk q = K (-1)) ∨ ((size y : Int) ≤ m ∧ step (S i m) = some (.inl (S (i + 1) (m - (size y : Int))))))
    (h2 : ∀ m, step (S ys.length m) = some (.inr (fin m))) (hf : ∀ m, kk (fin m) = K m) {l : Int} (h0 : 0 ≤ l) (hl : l ≤ 1048576) {s0 : List Leaf} (hs : s0 = S 0 l) :
    whileK step s0 kk = K (szL l (sumL size ys)) := by
  have key : ∀ (zs : List T) (i : Nat) (m : Int), ys.drop i = zs → i ≤ ys.length → 0 ≤ m → m ≤ 1048576 → whileK step (S i m) kk = K (szL m (sumL size zs)) := by
    intro zs
    induction zs with
    | nil =>
      intro i m hd hi hm _
      have : i = ys.length := by
        have := List.drop_eq_nil_iff.1 hd
        omega
      subst this
      unfold whileK
      rw [whileInf_step, h2 m]
      show kk (fin m) = _
      rw [hf]
      exact szEnd hm
    | cons y zs ih =>
      intro i m hd hi hm hm1
      have hy : ys[i]? = some y := by
        have := congrArg (fun l => l[0]?) hd
        simpa using this
      have hlt := (List.getElem?_eq_some_iff.1 hy).1
      have hd' : ys.drop (i + 1) = zs := by
        rw [← List.tail_drop, hd]
        rfl
      have hsum : sumL size (y :: zs) = size y + sumL size zs := by simp [sumL]
      rcases h1 i y m hy hm hm1 with ⟨q, c, e1, e2⟩ | ⟨c, e1⟩
      · unfold whileK
        rw [whileInf_step, e1]
        show kk q = _
        rw [e2]
        congr 1
        unfold szL
        rw [if_pos (by omega)]
      · have := ih (i + 1) (m - (size y : Int)) hd' (by omega) (by omega) (by omega)
        unfold whileK at this ⊢
        rw [whileInf_step, e1]
        refine this.trans ?_
        congr 1
        unfold szL
        by_cases c2 : m - (size y : Int) < (sumL size zs : Int)
        · rw [if_pos c2, if_pos (by omega)]
        · rw [if_neg c2, if_neg (by omega)]; omega
  rw [hs]
  exact key ys 0 l rfl (Nat.zero_le _) h0 hl

/-! ### lists -/
theorem two {A B C : Type} (f : A → B → C) {a a2 : A} {b b2 : B} (h1 : a = a2) (h2 : b = b2) : f a b = f a2 b2 := by subst h1; subst h2; rfl
def okL {T : Type} (ok : T → Prop) (a : List T) : Prop := a.length ≤ maxLen ∧ ∀ e ∈ a, ok e
def okI (i : Int) : Prop := -9223372036854775808 ≤ i ∧ i ≤ 9223372036854775807
theorem okI_of {m : Int} (h : (Lit.int .i64 m).wf = true) : okI m := by
  simp [Lit.wf, IntKind.min, IntKind.max, IntKind.signed, IntKind.bits] at h
  unfold okI
  omega
def okS (s : List UInt8) : Prop := s.length ≤ maxLen
abbrev rStr (l : List (List UInt8)) : List V := rows1 .str (fun e => e) l
abbrev rInt (l : List Int) : List V := rows1 (.int .i64) (fun e => e) l
theorem rStr_len (l : List (List UInt8)) : (rStr l).length = l.length := List.length_map _
theorem rInt_len (l : List Int) : (rInt l).length = l.length := List.length_map _
theorem rStr_copy0 {a : List (List UInt8)} : List.replicate a.length (.str []) = rStr (copyS a ([] : List UInt8) 0) := rows1_copy0 (kd := .str) (g1 := fun e => e) rfl
theorem rInt_copy0 {a : List Int} : List.replicate a.length (.int .i64 0) = rInt (copyS a (0 : Int) 0) := rows1_copy0 (kd := .int .i64) (g1 := fun e => e) rfl
theorem rlt {T : Type} {ks : List CK} {g : T → cellsT ks} {a : List T} {i : Nat} (h : i < a.length) : (i : Int) < ((rows ks g a).length : Int) := by rw [rows_len]; omega
theorem rirr {T : Type} {ks : List CK} {g : T → cellsT ks} {a : List T} : ¬ (a.length : Int) < ((rows ks g a).length : Int) := by rw [rows_len]; omega
theorem rlt1 {T : Type} {kd : CK} {g : T → kd.T} {a : List T} {i : Nat} (h : i < a.length) : (i : Int) < ((rows1 kd g a).length : Int) := by rw [rows1_len]; omega
theorem rirr1 {T : Type} {kd : CK} {g : T → kd.T} {a : List T} : ¬ (a.length : Int) < ((rows1 kd g a).length : Int) := by rw [rows1_len]; omega

/-! ### comparisons -/
theorem eqCut {p q : Bool} {x : Option β} {k : Bool → Option β} (h : x = k q) : br (!p) (k false) x = k (p && q) := by
  cases p
  · rfl
  · exact h
theorem zip_any {T : Type} [DecidableEq T] : ∀ (a b : List T), a.length = b.length → (a.zip b).any (fun p => !decide (p.1 = p.2)) = !decide (a = b) := by
  intro a
  induction a with
  | nil => intro b h; cases b with
    | nil => simp
    | cons y b => simp at h
  | cons x a ih => intro b h; cases b with
    | nil => simp at h
    | cons y b =>
      rw [List.zip_cons_cons, List.any_cons, ih b (by simpa using h)]
      by_cases e : x = y <;> simp [e]
/-- A loop that compares two lists of one length, place by place. -/
theorem while_eq {T : Type} [DecidableEq T] {step : List Leaf → Option (List Leaf ⊕ (Nat × List Leaf))} {k : Bool → Option β} {kk : (Nat × List Leaf) → Option β} (S : Nat → List Leaf) (a b : List T) (hl : a.length = b.length)
    (h1 : ∀ i x y, i < a.length → a[i]? = some x → b[i]? = some y → step (S i) = if (!decide (x = y)) = true then some (.inr (0, [.b false])) else some (.inl (S (i + 1)))) (h2 : step (S a.length) = some (.inr (1, [])))
    (hk1 : kk (0, [.b false]) = k false) (hk2 : kk (1, []) = k true) {s0 : List Leaf} (hs : s0 = S 0) : whileK step s0 kk = k (decide (a = b)) := by
  have hz : (a.zip b).length = a.length := by simp [hl]
  unfold whileK
  rw [while_any S (a.zip b) (fun p => !decide (p.1 = p.2)) (0, [.b false]) (1, []) (fun i p hp => by
    obtain ⟨g1, g2⟩ := List.getElem?_zip_eq_some.1 hp
    exact h1 i p.1 p.2 (List.getElem?_eq_some_iff.1 g1).1 g1 g2) (by rw [hz]; exact h2) _ hs, zip_any a b hl]
  by_cases e : a = b
  · simp [e, hk2]
  · simp [e, hk1]
/-- Lists of other lengths are other lists. -/
theorem eqLen {T : Type} [DecidableEq T] {a b : List T} {n m : Nat} {x : Option β} {k : Bool → Option β} (hn : n = a.length) (hm : m = b.length) (h : a.length = b.length → x = k (decide (a = b))) : br ((n : Int) != (m : Int)) (k false) x = k (decide (a = b)) := by
  subst hn; subst hm
  by_cases c : a.length = b.length
  · rw [show ((a.length : Int) != (b.length : Int)) = false by simp [c]]
    exact h c
  · rw [show ((a.length : Int) != (b.length : Int)) = true by simp; omega, decide_eq_false (fun e => c (by rw [e]))]
    rfl
/-! ### the law's last steps -/
theorem sameB {b : Bool} {x y z : Option β} (h : y = z) : br (!(b == b)) x y = z := by cases b <;> exact h
theorem sameI {n : Int} {x y z : Option β} (h : y = z) : br (n != n) x y = z := by rw [bne_self_eq_false]; exact h
theorem sameS {s : List UInt8} {x y z : Option β} (h : y = z) : br (!(s == s)) x y = z := by rw [BEq.rfl]; exact h
theorem sameD {T : Type} [DecidableEq T] {a : T} {x y z : Option β} (h : y = z) : br (!decide (a = a)) x y = z := by rw [decide_eq_true rfl]; exact h
/-- A law's size bound. -/
theorem szLaw {l : Int} {n : Nat} {k : Bool → Option β} {x : Option β} (h0 : 0 ≤ l) (h : ∀ m : Int, szL l n = m → 0 ≤ m → m = l - (n : Int) → (n : Int) ≤ l → x = k true) : br (decide (szL l n < 0)) (k true) x = k true := by
  rcases @szCase l n with ⟨c, e⟩ | ⟨c, e⟩
  · exact brE (by rw [e]; decide) rfl
  · exact brN (by rw [e]; omega) (h _ e (by omega) rfl c)

/-! ### folds -/
theorem while_fold {T A σ γ : Type} {step : σ → Option (σ ⊕ γ)} (S : Nat → A → σ) (ys : List T) (f : A → T → A) (Inv : Nat → A → Prop) (fin : A → γ)
    (h1 : ∀ i y a, ys[i]? = some y → Inv i a → step (S i a) = some (.inl (S (i + 1) (f a y))) ∧ Inv (i + 1) (f a y)) (h2 : ∀ a, Inv ys.length a → step (S ys.length a) = some (.inr (fin a))) (a0 : A) (h0 : Inv 0 a0) (s0 : σ) (hs : s0 = S 0 a0) :
    whileInf step s0 = some (fin (ys.foldl f a0)) := by
  have key : ∀ (zs : List T) (i : Nat) (a : A), ys.drop i = zs → i ≤ ys.length → Inv i a → whileInf step (S i a) = some (fin (zs.foldl f a)) := by
    intro zs
    induction zs with
    | nil =>
      intro i a hd hi ha
      have : i = ys.length := by
        have := List.drop_eq_nil_iff.1 hd
        omega
      subst this
      rw [whileInf_step, h2 a ha]
      rfl
    | cons y zs ih =>
      intro i a hd hi ha
      have hy : ys[i]? = some y := by
        have := congrArg (fun l => l[0]?) hd
        simpa using this
      have hlt := (List.getElem?_eq_some_iff.1 hy).1
      have hd' : ys.drop (i + 1) = zs := by
        rw [← List.tail_drop, hd]
        rfl
      obtain ⟨e1, e2⟩ := h1 i y a hy ha
      rw [whileInf_step, e1]
      exact ih (i + 1) _ hd' (by omega) e2
  rw [hs]
  exact key ys 0 a0 rfl (Nat.zero_le _) h0
theorem foldl_filter {T : Type} (p : T → Bool) (ys acc : List T) : ys.foldl (fun a y => if p y then a ++ [y] else a) acc = acc ++ ys.filter p := by
  induction ys generalizing acc with
  | nil => simp
  | cons y ys ih =>
    rw [List.foldl_cons, ih]
    cases h : p y <;> simp [h]
theorem foldl_count {T : Type} (p : T → Bool) (ys : List T) (n : Nat) : ys.foldl (fun a y => if p y then a + 1 else a) n = n + ys.countP p := by
  induction ys generalizing n with
  | nil => simp
  | cons y ys ih =>
    rw [List.foldl_cons, ih]
    cases h : p y <;> simp [h]
    omega
end
end Go.Am
