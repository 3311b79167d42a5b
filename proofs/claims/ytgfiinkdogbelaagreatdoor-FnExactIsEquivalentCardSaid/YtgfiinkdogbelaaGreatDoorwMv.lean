/-
  What the two functions of the program and of the reference compute, and that they agree: SameVisits, IsEquivalent.
-/
import Derived.Test.YtgfiinkdogbelaaGreatDoorwEv
import Derived.Test.YtgfiinkdogbelaaGreatDoorwAmMore
set_option linter.unusedVariables false
set_option linter.unusedSimpArgs false
namespace Go.Am
noncomputable section
open Go
variable {M : Type}
def fiBody : (List UInt8) × Int -> Option (((List UInt8) × Int) ⊕ (List UInt8)) := λ (s1 : (List UInt8) × Int) => (
 br (s1.2 != 0) (
 br (decide (Int.tmod s1.2 10 < 0)) (
 chk ((strI [(IntKind.wrap .u8 (IntKind.wrap .i64 (48 + (IntKind.wrap .i64 (0 - (Int.tmod s1.2 10))))))]).length + s1.1.length <= 9223372036854775807) <|
 some (.inl (((strI [(IntKind.wrap .u8 (IntKind.wrap .i64 (48 + (IntKind.wrap .i64 (0 - (Int.tmod s1.2 10))))))]) ++ s1.1), (IntKind.wrap .i64 (Int.tdiv s1.2 10))))
 ) (
 chk ((strI [(IntKind.wrap .u8 (IntKind.wrap .i64 (48 + (Int.tmod s1.2 10))))]).length + s1.1.length <= 9223372036854775807) <|
 some (.inl (((strI [(IntKind.wrap .u8 (IntKind.wrap .i64 (48 + (Int.tmod s1.2 10))))]) ++ s1.1), (IntKind.wrap .i64 (Int.tdiv s1.2 10))))
 )
 ) (
 some (.inr s1.1)
 )
 : Option (((List UInt8) × Int) ⊕ (List UInt8)))
theorem digit_pos {d : Nat} (h : d < 10) : strI [(IntKind.wrap .u8 (IntKind.wrap .i64 (48 + (d : Int))))] = [UInt8.ofNat (48 + d)] := by
 have : d = 0 \/ d = 1 \/ d = 2 \/ d = 3 \/ d = 4 \/ d = 5 \/ d = 6 \/ d = 7 \/ d = 8 \/ d = 9 := by omega
 rcases this with rfl | rfl | rfl | rfl | rfl | rfl | rfl | rfl | rfl | rfl <;> decide
theorem digit_neg {d : Nat} (h : d < 10) : strI [(IntKind.wrap .u8 (IntKind.wrap .i64 (48 + (IntKind.wrap .i64 (0 - (-(d : Int)))))))] = [UInt8.ofNat (48 + d)] := by
 have : d = 0 \/ d = 1 \/ d = 2 \/ d = 3 \/ d = 4 \/ d = 5 \/ d = 6 \/ d = 7 \/ d = 8 \/ d = 9 := by omega
 rcases this with rfl | rfl | rfl | rfl | rfl | rfl | rfl | rfl | rfl | rfl <;> decide
theorem fi_round (u : Nat) (b : Bool) (s : List UInt8) (h0 : 0 < u) (hu : u <= 9223372036854775808) (hs : s.length <= 1000) :
  fiBody (s, if b then -(u : Int) else u) = some (.inl (UInt8.ofNat (48 + u % 10) :: s, if b then -((u / 10 : Nat) : Int) else ((u / 10 : Nat) : Int))) := by
 have hm : u % 10 < 10 := Nat.mod_lt _ (by decide)
 have hd : u / 10 <= 922337203685477580 := by omega
 cases b
 ·simp only [Bool.false_eq_true, if_false]
  unfold fiBody
  have e0 : ((u : Int) != 0) = true := by simp; omega
  have e1 : Int.tmod (u : Int) 10 = ((u % 10 : Nat) : Int) := rfl
  have e2 : Int.tdiv (u : Int) 10 = ((u / 10 : Nat) : Int) := rfl
  simp only [e0, e1, e2, br_true]
  rw [decide_eq_false (by omega), br_false, digit_pos hm, chk_pos (by simp; omega), wrap_of (by omega) (by omega)]
  rfl
 ·simp only [if_true]
  unfold fiBody
  have e0 : ((-(u : Int)) != 0) = true := by simp; omega
  have e1 : Int.tmod (-(u : Int)) 10 = -((u % 10 : Nat) : Int) := by rw [Int.neg_tmod]; rfl
  have e2 : Int.tdiv (-(u : Int)) 10 = -((u / 10 : Nat) : Int) := by rw [Int.neg_tdiv]; rfl
  simp only [e0, e1, e2, br_true]
  by_cases c : u % 10 = 0
  ·rw [decide_eq_false (by omega), br_false, c]
   have := digit_pos (d := 0) (by decide)
   rw [show (48 + -((0 : Nat) : Int)) = 48 + ((0 : Nat) : Int) by rfl, this, chk_pos (by simp; omega), wrap_of (by omega) (by omega)]
   rfl
  ·rw [decide_eq_true (by omega), br_true, digit_neg hm, chk_pos (by simp; omega), wrap_of (by omega) (by omega)]
   rfl
theorem dec_len (u : Nat) : ∀ k, u < 10 ^ (k + 1) -> (Lib.decDigits u).length <= k + 1 := by
 intro k
 induction k generalizing u with
 | zero =>
  intro h
  rw [Lib.decDigits, dif_pos (by simpa using h)]
  simp
 | succ k ih =>
  intro h
  rw [Lib.decDigits]
  by_cases c : u < 10
  ·rw [dif_pos c]; simp
  ·rw [dif_neg c]
   have := ih (u / 10) (by rw [Nat.pow_succ] at h; omega)
   simp only [List.length_append, List.length_singleton]
   omega
theorem fi_loop (b : Bool) : ∀ (u : Nat) (s : List UInt8), u <= 9223372036854775808 -> (u ≠ 0 -> s.length + (Lib.decDigits u).length <= 1000) ->
  whileE fiBody (s, if b then -(u : Int) else u) = some (if u = 0 then s else Lib.decDigits u ++ s) := by
 intro u
 induction u using Nat.strongRecOn with
 | _ u ih =>
  intro s hu hs
  unfold whileE
  rw [whileInf_step]
  by_cases h0 : u = 0
  ·subst h0
   have : (if b then -((0 : Nat) : Int) else ((0 : Nat) : Int)) = 0 := by cases b <;> rfl
   rw [this]
   rfl
  ·have hs := hs h0
   rw [fi_round u b s (by omega) hu (by omega)]
   show whileE fiBody (UInt8.ofNat (48 + u % 10) :: s, if b then -((u / 10 : Nat) : Int) else ((u / 10 : Nat) : Int)) = _
   have hlen : (Lib.decDigits (u / 10)).length <= 20 := dec_len _ 19 (by omega)
   have hs2 : s.length <= 999 := by
    have : 1 <= (Lib.decDigits u).length := by
     rw [Lib.decDigits]; split <;> simp
    omega
   rw [if_neg h0]
   by_cases c : u < 10
   ·have e : u / 10 = 0 := by omega
    have hi := ih 0 (by omega) (UInt8.ofNat (48 + u % 10) :: s) (by omega) (λ h => absurd rfl h)
    rw [e, hi, if_pos rfl, Lib.decDigits, dif_pos c, show u % 10 = u by omega]
    rfl
   ·have hl : (Lib.decDigits u).length = (Lib.decDigits (u / 10)).length + 1 := by
     conv => lhs; rw [Lib.decDigits, dif_neg c]
     simp
    have hi := ih (u / 10) (by omega) (UInt8.ofNat (48 + u % 10) :: s) (by omega) (λ _ => by simp only [List.length_cons]; omega)
    rw [hi, if_neg (by omega)]
    conv => rhs; rw [Lib.decDigits, dif_neg c]
    simp
theorem spec_FormatInt {n : Int} (h1 : -9223372036854775808 <= n) (h2 : n <= 9223372036854775807) : sFormatInt n = some (Lib.itoa n) := by
 show br (n == 0) (some [48]) ((whileE fiBody ([], n)).bind λ (r4 : List UInt8) => br (decide (n < 0)) (chk (1 + r4.length <= 9223372036854775807) <| some ([45] ++ r4)) (some r4)) = _
 by_cases c : n = 0
 ·subst c
  rw [show ((0 : Int) == 0) = true from rfl, br_true]
  unfold Lib.itoa
  rw [if_neg (by decide), Lib.decDigits, dif_pos (by decide)]
  rfl
 ·rw [show (n == 0) = false by simpa using c, br_false]
  by_cases hn : n < 0
  ·have hl := dec_len n.natAbs 19 (by omega)
   have := fi_loop true n.natAbs [] (by omega) (λ _ => by simp; omega)
   rw [show (if true = true then -((n.natAbs : Nat) : Int) else ((n.natAbs : Nat) : Int)) = n by rw [if_pos rfl]; omega, if_neg (by omega), List.append_nil] at this
   rw [this, Option.bind_some, decide_eq_true hn, br_true, chk_pos (by omega)]
   unfold Lib.itoa
   rw [if_pos hn]
   rfl
  ·have hl := dec_len n.toNat 19 (by omega)
   have := fi_loop false n.toNat [] (by omega) (λ _ => by simp; omega)
   rw [show (if false = true then -((n.toNat : Nat) : Int) else ((n.toNat : Nat) : Int)) = n by rw [if_neg (by decide)]; omega, if_neg (by omega), List.append_nil] at this
   rw [this, Option.bind_some, decide_eq_false hn, br_false]
   unfold Lib.itoa
   rw [if_neg hn]
def isDg (c : UInt8) : Prop := 48 <= c.toNat /\ c.toNat <= 57
def numF (a : Nat) (l : List UInt8) : Nat := l.foldl (λ a c => a * 10 + (c.toNat - 48)) a
theorem dg_ofNat {d : Nat} (h : d < 10) : (UInt8.ofNat (48 + d)).toNat = 48 + d := by
 have : d = 0 \/ d = 1 \/ d = 2 \/ d = 3 \/ d = 4 \/ d = 5 \/ d = 6 \/ d = 7 \/ d = 8 \/ d = 9 := by omega
 rcases this with rfl | rfl | rfl | rfl | rfl | rfl | rfl | rfl | rfl | rfl <;> decide
theorem dec_says : ∀ (u : Nat), (∀ c ∈ Lib.decDigits u, isDg c) /\ numF 0 (Lib.decDigits u) = u /\ Lib.decDigits u ≠ [] := by
 intro u
 induction u using Nat.strongRecOn with
 | _ u ih =>
  rw [Lib.decDigits]
  by_cases c : u < 10
  ·rw [dif_pos c]
   have e := dg_ofNat c
   refine ⟨λ x hx => ?_, ?_, by simp⟩
   ·rw [List.mem_singleton.1 hx]
    unfold isDg
    omega
   ·simp only [numF, List.foldl_cons, List.foldl_nil]
    omega
  ·rw [dif_neg c]
   obtain ⟨h1, h2, h3⟩ := ih (u / 10) (by omega)
   have e := dg_ofNat (Nat.mod_lt u (show 0 < 10 by decide))
   refine ⟨λ x hx => ?_, ?_, by simp⟩
   ·rcases List.mem_append.1 hx with h | h
    ·exact h1 x h
    ·rw [List.mem_singleton.1 h]
     unfold isDg
     omega
   ·unfold numF at h2 ⊢
    rw [List.foldl_append, h2]
    simp only [List.foldl_cons, List.foldl_nil]
    omega
theorem numF_mono : ∀ (l : List UInt8) (a : Nat), a <= numF a l := by
 intro l
 induction l with
 | nil => intro a; exact Nat.le_refl _
 | cons c l ih =>
  intro a
  have := ih (a * 10 + (c.toNat - 48))
  show a <= numF (a * 10 + (c.toNat - 48)) l
  omega
theorem parse10 : ∀ (l : List UInt8) (a : Nat), (∀ c ∈ l, isDg c) -> numF a l <= 1000000000000 -> Lib.parseUint10 a l = .ok (numF a l) := by
 intro l
 induction l with
 | nil => intro a _ _; rfl
 | cons c l ih =>
  intro a hd hn
  have hc := hd c (by simp)
  unfold isDg at hc
  have h1 := numF_mono l (a * 10 + (c.toNat - 48))
  have hn : numF (a * 10 + (c.toNat - 48)) l <= 1000000000000 := hn
  rw [Lib.parseUint10]
  rw [if_pos hc, if_neg (by omega), if_neg (by omega)]
  exact ih _ (λ x hx => hd x (by simp [hx])) hn
theorem atoi_dec {u : Nat} (h : u <= 1000000000000) : Lib.atoiAll (Lib.decDigits u) = .ok (u : Int) := by
 obtain ⟨h1, h2, h3⟩ := dec_says u
 have hp : Lib.parseMag (Lib.decDigits u) = .ok u := by
  unfold Lib.parseMag
  rw [if_neg h3, parse10 _ 0 h1 (by rw [h2]; exact h), h2]
 cases hd : Lib.decDigits u with
 | nil => exact absurd hd h3
 | cons c r =>
  have hc := h1 c (by rw [hd]; simp)
  unfold isDg at hc
  rw [hd] at hp
  unfold Lib.atoiAll
  simp only []
  rw [if_neg (by omega), hp]
  simp only []
  rw [if_neg (by omega), if_neg (by omega), if_neg (by omega)]
theorem itoa_nat (u : Nat) : Lib.itoa (u : Int) = Lib.decDigits u := by
 unfold Lib.itoa
 rw [if_neg (by omega)]
 simp
theorem pInt_dec {u : Nat} (h : u <= 1000000000000) : pInt (Lib.decDigits u) = ((u : Int), true) := by
 unfold pInt
 rw [atoi_dec h]
 simp only []
 rw [if_pos ⟨by omega, by omega, itoa_nat u⟩]
theorem pInt_cases (s : List UInt8) : (∃ u : Nat, u <= 1000000000000 /\ s = Lib.decDigits u /\ pInt s = ((u : Int), true)) \/ ((∀ u : Nat, u <= 1000000000000 -> s ≠ Lib.decDigits u) /\ pInt s = (0, false)) := by
 by_cases c : ∃ u : Nat, u <= 1000000000000 /\ s = Lib.decDigits u
 ·obtain ⟨u, h1, h2⟩ := c
  exact .inl ⟨u, h1, h2, by rw [h2]; exact pInt_dec h1⟩
 ·refine .inr ⟨λ u h1 h2 => c ⟨u, h1, h2⟩, ?_⟩
  unfold pInt
  split
  ·rename_i v hv
   split
   ·rename_i hc
    obtain ⟨u, rfl⟩ : ∃ u : Nat, v = u := ⟨v.toNat, by omega⟩
    exact absurd ⟨u, by omega, by rw [<- itoa_nat]; exact hc.2.2.symm⟩ c
   ·rfl
  ·rfl
theorem wrap_u8 {n : Int} (h1 : 0 <= n) (h2 : n < 256) : IntKind.wrap .u8 n = n := by
 simp [IntKind.wrap, IntKind.bits, IntKind.signed]
 omega
theorem l1In_eq (x a b : Int) : sl1In x a b = some (decide (a <= x /\ x <= b)) := by
 unfold sl1In
 by_cases c : x >= a
 ·rw [decide_eq_true c, br_true]
  congr 1
  rw [Bool.eq_iff_iff]
  simp only [decide_eq_true_eq]
  omega
 ·rw [decide_eq_false c, br_false]
  congr 1
  rw [eq_comm, decide_eq_false_iff_not]
  omega
theorem spec_ParseInt (s : List UInt8) (hs : s.length <= 1048576) : sParseInt s = some (pInt s) := by
 have hlen : ∀ u : Nat, u <= 1000000000000 -> s = Lib.decDigits u -> 1 <= s.length /\ s.length <= 13 := λ u h1 h2 => by
  have h3 := dec_len u 12 (by omega)
  have h4 := (dec_says u).2.2
  rw [h2]
  exact ⟨List.length_pos_iff.2 h4, h3⟩
 obtain ⟨r, h1, h2, h3⟩ : Ok (sParseInt s) (λ r => (r = (0, false) \/ ∃ u : Nat, u <= 1000000000000 /\ s = Lib.decDigits u /\ r = ((u : Int), true)) /\ ∀ u : Nat, u <= 1000000000000 -> s = Lib.decDigits u -> r = ((u : Int), true)) := by
  unfold sParseInt
  rw [l1In_eq, Option.bind_some]
  refine Ok.br (λ c => Ok.ret ⟨.inl rfl, λ u h1 h2 => ?_⟩) (λ c => ?_)
  ·have := hlen u h1 h2
   simp at c
   omega
  ·have hl : 1 <= s.length /\ s.length <= 13 := by
    simp at c
    omega
   refine Ok.bind (Q1 := λ z => match z with
    | .inl _ => ∃ c ∈ s, ¬ isDg c
    | .inr v => v = (numF 0 s : Int) /\ numF 0 s < 10 ^ 13) (Ok.for (by unfold maxLen; omega) (λ i v => v = (numF 0 (s.take i) : Int) /\ numF 0 (s.take i) < 10 ^ i) ⟨rfl, by simp [numF]⟩ (λ i x v hx hi => ?_) (λ v hv => ?_)) (λ z _ hz => ?_)
   ·obtain ⟨e1, e2⟩ := hi
    obtain ⟨hil, hix⟩ := gs_ hx
    have hx256 : x.toNat < 256 := x.toNat_lt
    rw [wrap_of (by omega) (by omega), l1In_eq, Option.bind_some]
    refine Ok.br (λ c => Ok.ret ⟨x, List.mem_of_getElem? hx, ?_⟩) (λ c => Ok.ret ?_)
    ·unfold isDg
     simp at c
     omega
    ·have c : 48 <= x.toNat /\ x.toNat <= 57 := by simp at c; omega
     have hp : 10 ^ i <= 10 ^ 12 := Nat.pow_le_pow_right (by decide) (by omega)
     have e3 : numF 0 (s.take (i + 1)) = numF 0 (s.take i) * 10 + (x.toNat - 48) := by
      rw [List.take_succ_eq_append_getElem hil, hix]
      unfold numF
      rw [List.foldl_append]
      rfl
     have e4 : 10 ^ (i + 1) = 10 ^ i * 10 := Nat.pow_succ ..
     show _ = _ /\ _
     rw [e1, e3, e4]
     generalize numF 0 (s.take i) = m at e2 ⊢
     generalize 10 ^ i = p at e2 hp ⊢
     rw [wrap_u8 (by omega) (by omega), wrap_of (n := 10 * (m : Int)) (by omega) (by omega), wrap_of (n := (x.toNat : Int) - 48) (by omega) (by omega), wrap_of (by omega) (by omega)]
     exact ⟨by omega, by omega⟩
   ·obtain ⟨e1, e2⟩ := hv
    rw [List.take_length] at e1 e2
    exact ⟨e1, Nat.lt_of_lt_of_le e2 (Nat.pow_le_pow_right (by decide) hl.2)⟩
   ·cases z with
    | inl v =>
     obtain ⟨c, hc, hd⟩ := hz
     exact Ok.ret ⟨.inl rfl, λ u _ h2 => absurd ((dec_says u).1 c (by rw [<- h2]; exact hc)) hd⟩
    | inr v =>
     obtain ⟨rfl, hv⟩ := hz
     show Ok (br _ _ _) _
     have hdec : ∀ u : Nat, s = Lib.decDigits u -> numF 0 s = u := λ u h => by rw [h]; exact (dec_says u).2.1
     refine Ok.br (λ c => Ok.ret ⟨.inl rfl, λ u h1 h2 => ?_⟩) (λ c => ?_)
     ·have := hdec u h2
      simp at c
      omega
     ·have c : numF 0 s <= 1000000000000 := by simp at c; omega
      rw [spec_FormatInt (by omega) (by omega), Option.bind_some, itoa_nat]
      refine Ok.br (λ c2 => Ok.ret ⟨.inl rfl, λ u h1 h2 => ?_⟩) (λ c2 => Ok.ret ⟨.inr ⟨numF 0 s, c, ?_, rfl⟩, λ u h1 h2 => ?_⟩)
      ·have := hdec u h2
       rw [this, <- h2, beq_self_eq_true] at c2
       cases c2
      ·cases hb : (Lib.decDigits (numF 0 s) == s) with
       | false => rw [hb] at c2; cases c2
       | true => exact (beq_iff_eq.1 hb).symm
      ·rw [hdec u h2]
 rw [h1]
 congr 1
 rcases pInt_cases s with ⟨u, a1, a2, a3⟩ | ⟨a1, a2⟩
 ·rw [a3]
  exact h3 u a1 a2
 ·rw [a2]
  rcases h2 with h2 | ⟨u, b1, b2, _⟩
  ·exact h2
  ·exact absurd b2 (a1 u b1)
theorem impl_ParseInt (s : List UInt8) (hs : s.length <= 1048576) : iParseInt s = some (pInt s) := by
 unfold iParseInt pintE
 exact chk_pos (by omega)
theorem rise_eq {a b : List (List UInt8)} (ha : a.Pairwise (· < ·)) (hb : b.Pairwise (· < ·)) : a = b ↔ ∀ x, x ∈ a ↔ x ∈ b := by
 constructor
 ·intro h x
  rw [h]
 ·intro h
  have na : a.Nodup := ha.imp (λ {x y} hxy e => by subst e; exact List.lt_irrefl _ hxy)
  have nb : b.Nodup := hb.imp (λ {x y} hxy e => by subst e; exact List.lt_irrefl _ hxy)
  exact List.Perm.eq_of_pairwise (le := λ a b => a < b) (λ a b _ _ h1 h2 => absurd (List.lt_trans h1 h2) (List.lt_irrefl _)) ha hb ((List.perm_ext_iff_of_nodup na nb).2 h)
theorem insert_riseS {s : List (List UInt8)} {x : List UInt8} {k : Nat} (hp : s.Pairwise (· < ·)) (hxs : ¬ x ∈ s) (hk : k <= s.length) (h1 : ∀ (j : Nat) y, k <= j -> s[j]? = some y -> x < y) (h2 : k = 0 \/ ∃ y, s[k - 1]? = some y /\ ¬ x < y) :
  ((s.take k ++ [x]) ++ s.drop k).Pairwise (· < ·) := by
 have hlow : ∀ y ∈ s.take k, y < x := by
  intro y hy
  rcases h2 with h2 | ⟨z, hz, hzx⟩
  ·subst h2; simp at hy
  ·obtain ⟨hz1, hz2⟩ := gs_ hz
   have hzlt : z < x := by
    apply Classical.byContradiction
    intro hn
    have e : z = x := List.le_antisymm (List.not_lt.1 hzx) (List.not_lt.1 hn)
    exact hxs (by rw [<- e, <- hz2]; exact List.getElem_mem hz1)
   obtain ⟨j, hj, rfl⟩ := List.mem_iff_getElem.1 hy
   have hj' : j < k := by simp at hj; omega
   rw [List.getElem_take]
   by_cases e : j = k - 1
   ·subst e; rw [hz2]; exact hzlt
   ·have := List.pairwise_iff_getElem.1 hp j (k - 1) (by omega) hz1 (by omega)
    rw [hz2] at this
    exact List.lt_trans this hzlt
 have hhigh : ∀ y ∈ s.drop k, x < y := by
  intro y hy
  obtain ⟨j, hj, rfl⟩ := List.mem_iff_getElem.1 hy
  refine h1 (k + j) _ (by omega) ?_
  rw [List.getElem_drop, List.getElem?_eq_getElem]
 refine List.pairwise_append.2 ⟨List.pairwise_append.2 ⟨hp.sublist (List.take_sublist _ _), by simp, λ a ha b hb => ?_⟩, hp.sublist (List.drop_sublist _ _), λ a ha b hb => ?_⟩
 ·rw [List.mem_singleton.1 hb]; exact hlow a ha
 ·rcases List.mem_append.1 ha with ha | ha
  ·exact List.lt_trans (hlow a ha) (hhigh b hb)
  ·rw [List.mem_singleton.1 ha]; exact hhigh b hb
theorem less_lt (a b : List UInt8) : less a b = decide (a < b) := Go.Proofs.bytesLess_eq a b
theorem cutS_mem (m : List (List UInt8)) (n : Nat) (hn : n <= m.length) (x : List UInt8) : x ∈ Lib.compactUpTo m.toArray n ↔ x ∈ m.take n := by
 induction n with
 | zero => simp [Lib.compactUpTo]
 | succ n ih =>
  have hn' : n < m.length := by omega
  have hg : m.toArray[n]! = m[n] := by simp [hn']
  rw [Lib.compactUpTo_succ, List.mem_append, ih (by omega), List.take_succ_eq_append_getElem hn', List.mem_append]
  cases hk : Lib.keeps m.toArray n with
  | true => simp [hg]
  | false =>
   have h2 : n ≠ 0 /\ m.toArray[n]! = m.toArray[n - 1]! := by
    simp only [Lib.keeps, decide_eq_false_iff_not, not_or, Decidable.not_not] at hk
    exact hk
   have hg1 : m.toArray[n - 1]! = m[n - 1] := by
    have : n - 1 < m.length := by omega
    simp [this]
   constructor
   ·rintro (h | h)
    ·exact .inl h
    ·simp at h
   ·rintro (h | h)
    ·exact .inl h
    ·left
     simp only [List.mem_cons, List.not_mem_nil, or_false] at h
     rw [h, <- hg, h2.2, hg1]
     refine List.mem_iff_getElem.2 ⟨n - 1, by simp; omega, by simp⟩
theorem cutS_rise (m : List (List UInt8)) (hm : m.Pairwise (· <= ·)) (n : Nat) (hn : n <= m.length) : (Lib.compactUpTo m.toArray n).Pairwise (· < ·) := by
 induction n with
 | zero => simp [Lib.compactUpTo]
 | succ n ih =>
  have hn' : n < m.length := by omega
  have hg : m.toArray[n]! = m[n] := by simp [hn']
  rw [Lib.compactUpTo_succ]
  cases hk : Lib.keeps m.toArray n with
  | false => simpa using ih (by omega)
  | true =>
   rw [if_pos rfl, hg]
   refine List.pairwise_append.2 ⟨ih (by omega), by simp, λ x hx y hy => ?_⟩
   simp only [List.mem_cons, List.not_mem_nil, or_false] at hy
   subst hy
   have hx' := (cutS_mem m n (by omega) x).1 hx
   obtain ⟨i, hi, rfl⟩ := List.mem_iff_getElem.1 hx'
   have hi' : i < n := by simp at hi; omega
   rw [List.getElem_take]
   have hord : ∀ a b (ha : a < b) (hb : b < m.length), m[a]'(by omega) <= m[b] := λ a b ha hb => List.pairwise_iff_getElem.1 hm a b (by omega) hb ha
   have hlast : m[n - 1]'(by omega) < m[n] := by
    apply Classical.byContradiction
    intro hnl
    have e := List.le_antisymm (hord (n - 1) n (by omega) hn') (List.not_lt.1 hnl)
    simp only [Lib.keeps, decide_eq_true_eq] at hk
    rcases hk with h | h
    ·omega
    ·apply h
     have : n - 1 < m.length := by omega
     rw [hg, List.getElem!_toArray, getElem!_pos m (n - 1) this]
     exact e.symm
   by_cases e : i = n - 1
   ·subst e; exact hlast
   ·apply Classical.byContradiction
    intro hnl
    have h1 := hord i (n - 1) (by omega) (by omega)
    have h2 := List.le_trans (List.not_lt.1 hnl) h1
    exact (List.not_lt.2 h2) hlast
theorem sortS_le (l : List (List UInt8)) : (sortS l).Pairwise (· <= ·) := by
 have tr : ∀ a b c : List UInt8, decide (a <= b) = true -> decide (b <= c) = true -> decide (a <= c) = true := λ a b c h1 h2 => by simp only [decide_eq_true_eq] at *; exact List.le_trans h1 h2
 have tot : ∀ a b : List UInt8, (decide (a <= b) || decide (b <= a)) = true := λ a b => by simp only [Bool.or_eq_true, decide_eq_true_eq]; exact List.le_total a b
 exact (List.pairwise_mergeSort tr tot l).imp (λ h => of_decide_eq_true h)
theorem compS_mem (l : List (List UInt8)) (x : List UInt8) : x ∈ compS (sortS l) ↔ x ∈ l := by
 unfold compS Lib.compact
 rw [cutS_mem _ _ (Nat.le_refl _), List.take_length]
 exact List.mem_mergeSort
theorem compS_rise (l : List (List UInt8)) : (compS (sortS l)).Pairwise (· < ·) := cutS_rise _ (sortS_le l) _ (Nat.le_refl _)
theorem compS_len (l : List (List UInt8)) : (compS l).length <= l.length := by
 unfold compS Lib.compact Lib.compactUpTo
 rw [List.length_map]
 exact Nat.le_trans (List.length_filter_le _ _) (by simp)
theorem color_eq (l : List TSheet) (name : List UInt8) : iColorOf l name = sColorOf l name := rfl
def colB (l : List TSheet) (name : List UInt8) : Int := (sColorOf l name).getD 0
def FewR (l : List TSheet) : Prop := l.length <= 1048576 /\ ∀ x ∈ l, x.xRules.length <= 8
theorem color_b {l : List TSheet} (h : FewR l) (name : List UInt8) : sColorOf l name = some (colB l name) := by
 obtain ⟨r, h1, _⟩ : Ok (sColorOf l name) (λ _ => True) := by
  unfold sColorOf
  rw [wrap_of (n := (l.length : Int) - 1) (by have := h.1; omega) (by have := h.1; omega)]
  refine Ok.bind (Q1 := λ _ => True) (Ok.while (λ s => -1 <= s /\ s < (l.length : Int)) (λ s => (s + 1).toNat) ⟨by omega, by omega⟩ (λ s hs => ?_)) (λ r _ _ => ?_)
  ·refine Ok.br (λ k => ?_) (λ _ => Ok.ret trivial)
   have k : 0 <= s := of_decide_eq_true k
   have hl := h.1
   refine Ok.bind (Ok.getI k (by omega)) (λ e he hq => ?_)
   have h8 := h.2 e hq.2
   rw [wrap_of (n := (e.xRules.length : Int) - 1) (by omega) (by omega)]
   refine Ok.bind (Q1 := λ _ => True) (Ok.while (λ j => -1 <= j /\ j < (e.xRules.length : Int)) (λ j => (j + 1).toNat) ⟨by omega, by omega⟩ (λ j hj => ?_)) (λ r _ _ => ?_)
   ·refine Ok.br (λ k2 => ?_) (λ _ => Ok.ret trivial)
    have k2 : 0 <= j := of_decide_eq_true k2
    rw [he, Option.bind_some]
    refine Ok.bind (Ok.getI k2 (by omega)) (λ e2 he2 _ => ?_)
    refine Ok.br (λ _ => ?_) (λ _ => ?_)
    ·rw [Option.bind_some, he2, Option.bind_some]
     exact Ok.ret trivial
    ·rw [wrap_of (n := j - 1) (by omega) (by omega)]
     exact Ok.ret (And.intro ⟨by omega, by omega⟩ (by show (j - 1 + 1).toNat < (j + 1).toNat; omega))
   ·cases r with
    | inl v => exact Ok.ret trivial
    | inr v =>
     show Ok (some (Sum.inl _)) _
     rw [wrap_of (n := s - 1) (by omega) (by omega)]
     exact Ok.ret (And.intro ⟨by omega, by omega⟩ (by show (s - 1 + 1).toNat < (s + 1).toNat; omega))
  ·cases r with
   | inl v => exact Ok.ret trivial
   | inr v => exact Ok.ret trivial
 unfold colB
 rw [h1]
 rfl
def namesL (l : List TSheet) : List (List UInt8) := l.flatMap λ x => x.xRules.map TRule.xName
theorem names_take {l : List TSheet} {i : Nat} {x : TSheet} (hx : l[i]? = some x) : namesL (l.take (i + 1)) = namesL (l.take i) ++ x.xRules.map TRule.xName := by
 obtain ⟨h1, h2⟩ := gs_ hx
 rw [List.take_succ_eq_append_getElem h1, h2]
 unfold namesL
 rw [List.flatMap_append]
 simp
def joinR (l : List TSheet) : List TRule := (compS (sortS (namesL l))).map λ n => ⟨n, colB l n⟩
theorem impl_Join {l : List TSheet} (h : FewR l) : iJoinSheets l = some ⟨joinR l⟩ := by
 have hl := h.1
 obtain ⟨r, h1, h2⟩ : Ok (iJoinSheets l) (λ r => r = ⟨joinR l⟩) := by
  unfold iJoinSheets
  refine Ok.bind (Q1 := λ r => r = namesL l /\ r.length <= 8 * l.length) (Ok.for (by unfold maxLen; omega) (λ i s => s = namesL (l.take i) /\ s.length <= 8 * i) ⟨rfl, by simp⟩ (λ i x s hx hi => ?_) (λ s hs => by rw [List.take_length] at hs; exact hs)) (λ r6 _ hr6 => ?_)
  ·obtain ⟨e1, e2⟩ := hi
   have hil := (gs_ hx).1
   have h8 := h.2 x (List.mem_of_getElem? hx)
   refine Ok.bind (Q1 := λ r => r = s ++ x.xRules.map TRule.xName) (Ok.for (by unfold maxLen; omega) (λ j s3 => s3 = s ++ (x.xRules.take j).map TRule.xName) (by simp) (λ j y s3 hy hj => ?_) (λ s3 h3 => by rw [List.take_length] at h3; exact h3)) (λ r _ hr => Ok.ret ⟨?_, ?_⟩)
   ·obtain ⟨hjl, hjy⟩ := gs_ hy
    have h3 : s3.length <= s.length + j := by rw [hj]; simp; omega
    refine Ok.chk (by omega) (Ok.ret ?_)
    show s3 ++ [y.xName] = _
    rw [List.take_succ_eq_append_getElem hjl, hjy, hj]
    simp
   ·rw [names_take hx, hr, e1]
   ·rw [hr]
    simp
    omega
  ·obtain ⟨e1, e2⟩ := hr6
   subst e1
   rw [show sortStrE (namesL l) = some (sortS (namesL l)) from chk_pos (by omega), Option.bind_some]
   have hm : (sortS (namesL l)).length = (namesL l).length := List.length_mergeSort _
   have hc := compS_len (sortS (namesL l))
   rw [show compStrE (sortS (namesL l)) = some (compS (sortS (namesL l))) from chk_pos (by omega), Option.bind_some]
   refine Ok.bind (Q1 := λ r => r = joinR l) (Ok.for (by unfold maxLen; omega) (λ i s => s = ((compS (sortS (namesL l))).take i).map (λ n => (⟨n, colB l n⟩ : TRule)) /\ s.length <= i) ⟨rfl, Nat.le_refl _⟩ (λ i x s hx hi => ?_) (λ s hs => by rw [hs.1, List.take_length]; rfl)) (λ r _ hr => Ok.ret (by rw [hr]))
   obtain ⟨e3, e4⟩ := hi
   obtain ⟨hil, hix⟩ := gs_ hx
   rw [color_eq, color_b h, Option.bind_some]
   refine Ok.chk (by omega) (Ok.ret ⟨?_, by simp; exact e4⟩)
   rw [List.take_succ_eq_append_getElem hil, hix, e3]
   simp
 rw [h1, h2]
def JI (l : List TSheet) (seen : List (List UInt8)) (s : List TRule) : Prop := ∃ N : List (List UInt8), s = N.map (λ n => (⟨n, colB l n⟩ : TRule)) /\ N.Pairwise (· < ·) /\ (∀ n, n ∈ N ↔ n ∈ seen) /\ N.length <= seen.length
theorem names_len {l : List TSheet} (h : FewR l) : ∀ i, i <= l.length -> (namesL (l.take i)).length <= 8 * i := by
 intro i
 induction i with
 | zero => intro _; simp [namesL]
 | succ i ih =>
  intro hi
  have hx : l[i]? = some l[i] := List.getElem?_eq_getElem (by omega)
  have h8 := h.2 _ (List.mem_of_getElem? hx)
  have := ih (by omega)
  rw [names_take hx, List.length_append, List.length_map]
  omega
theorem join_round {l : List TSheet} (h : FewR l) {seen : List (List UInt8)} {s : List TRule} (hs : JI l seen s) (hl : seen.length <= 8388616) (e5 : TRule) (j : Nat) (hj : j <= 8) :
  Ok ((whileE (λ (s6 : Int) => (
     br (decide (s6 > 0)) (
      chk (0 <= IntKind.wrap .i64 (s6 - 1) /\ (IntKind.wrap .i64 (s6 - 1)).toNat < s.length) <|
      (getI s (IntKind.wrap .i64 (s6 - 1))).bind λ (e7 : TRule) =>
      br (less e5.xName e7.xName) (
       some (.inl (IntKind.wrap .i64 (s6 - 1)))
      ) (
       some (.inr s6)
      )
     ) (
      some (.inr s6)
     )
    : Option (Int ⊕ Int))) ((s.length : Int) : Int)).bind <|
    λ (r8 : Int) =>
    br (decide (r8 > 0)) (
     chk (0 <= IntKind.wrap .i64 (r8 - 1) /\ (IntKind.wrap .i64 (r8 - 1)).toNat < s.length) <|
     (getI s (IntKind.wrap .i64 (r8 - 1))).bind λ (e9 : TRule) =>
     br (e9.xName == e5.xName) (
      some (.inl ((IntKind.wrap .i64 ((j : Int) + 1)), s))
     ) (
      chk (0 <= (0 : Int) /\ (0 : Int) <= r8 /\ r8 <= (s.length : Int)) <|
      chk ((0 + ((s.take (r8.toNat)).drop 0).length) * 24 <= 140737488355328 /\ 0 + ((s.take (r8.toNat)).drop 0).length <= 140737488355328) <|
      (sColorOf l e5.xName).bind λ (r10 : Int) =>
      chk ((([] ++ ((s.take (r8.toNat)).drop 0)).length + 1) * 24 <= 140737488355328 /\ ([] ++ ((s.take (r8.toNat)).drop 0)).length + 1 <= 140737488355328) <|
      chk (0 <= r8 /\ r8 <= (s.length : Int) /\ (s.length : Int) <= (s.length : Int)) <|
      chk (((([] ++ ((s.take (r8.toNat)).drop 0)) ++ [{ e5 with xColor := r10 }]).length + ((s.take ((s.length : Int).toNat)).drop (r8.toNat)).length) * 24 <= 140737488355328 /\ (([] ++ ((s.take (r8.toNat)).drop 0)) ++ [{ e5 with xColor := r10 }]).length + ((s.take ((s.length : Int).toNat)).drop (r8.toNat)).length <= 140737488355328) <|
      some (.inl ((IntKind.wrap .i64 ((j : Int) + 1)), ((([] ++ ((s.take (r8.toNat)).drop 0)) ++ [{ e5 with xColor := r10 }]) ++ ((s.take ((s.length : Int).toNat)).drop (r8.toNat)))))
     )
    ) (
     chk (0 <= (0 : Int) /\ (0 : Int) <= r8 /\ r8 <= (s.length : Int)) <|
     chk ((0 + ((s.take (r8.toNat)).drop 0).length) * 24 <= 140737488355328 /\ 0 + ((s.take (r8.toNat)).drop 0).length <= 140737488355328) <|
     (sColorOf l e5.xName).bind λ (r11 : Int) =>
     chk ((([] ++ ((s.take (r8.toNat)).drop 0)).length + 1) * 24 <= 140737488355328 /\ ([] ++ ((s.take (r8.toNat)).drop 0)).length + 1 <= 140737488355328) <|
     chk (0 <= r8 /\ r8 <= (s.length : Int) /\ (s.length : Int) <= (s.length : Int)) <|
     chk (((([] ++ ((s.take (r8.toNat)).drop 0)) ++ [{ e5 with xColor := r11 }]).length + ((s.take ((s.length : Int).toNat)).drop (r8.toNat)).length) * 24 <= 140737488355328 /\ (([] ++ ((s.take (r8.toNat)).drop 0)) ++ [{ e5 with xColor := r11 }]).length + ((s.take ((s.length : Int).toNat)).drop (r8.toNat)).length <= 140737488355328) <|
     some (.inl ((IntKind.wrap .i64 ((j : Int) + 1)), ((([] ++ ((s.take (r8.toNat)).drop 0)) ++ [{ e5 with xColor := r11 }]) ++ ((s.take ((s.length : Int).toNat)).drop (r8.toNat)))))
    ) : Option ((Int × List TRule) ⊕ List TRule)) (λ z => ∃ s', z = .inl (((j + 1 : Nat) : Int), s') /\ JI l (seen ++ [e5.xName]) s') := by
 obtain ⟨N, hN, hp, hm, hln⟩ := hs
 have hsl : s.length = N.length := by rw [hN, List.length_map]
 have hg : ∀ (k : Nat) (y : TRule), s[k]? = some y -> N[k]? = some y.xName := λ k y hy => by
  rw [hN, List.getElem?_map] at hy
  cases hk : N[k]? with
  | none => rw [hk] at hy; cases hy
  | some n => rw [hk] at hy; injection hy with hy; subst hy; rfl
 have hT : (s.take ((s.length : Int).toNat)) = s := by rw [Int.toNat_natCast]; exact List.take_length
 have hwj : IntKind.wrap .i64 ((j : Int) + 1) = ((j + 1 : Nat) : Int) := by rw [wrap_of (by omega) (by omega)]; rfl
 simp only [hT, List.drop_zero, List.nil_append, hwj]
 refine Ok.bind (Q1 := λ r : Int => 0 <= r /\ r <= s.length /\ (∀ (k : Nat) y, r <= k -> N[k]? = some y -> e5.xName < y) /\ (r = 0 \/ ∃ y, N[r.toNat - 1]? = some y /\ ¬ e5.xName < y)) ?_ (λ r _ hr8 => ?_)
 ·refine Ok.while (λ r : Int => 0 <= r /\ r <= s.length /\ (∀ (k : Nat) y, r <= k -> N[k]? = some y -> e5.xName < y)) (λ r => r.toNat) ⟨by omega, by omega, λ k y hk hy => by have := (gs_ hy).1; omega⟩ (λ r hr => ?_)
  obtain ⟨r0, r1, r2⟩ := hr
  by_cases c : r > 0
  ·rw [decide_eq_true c]
   have hw : IntKind.wrap .i64 (r - 1) = r - 1 := wrap_of (by omega) (by omega)
   have hlt : (r - 1).toNat < s.length := by omega
   rw [hw]
   refine Ok.chk ⟨by omega, hlt⟩ (Ok.bind (Ok.getI (by omega) hlt) (λ y _ hy => Ok.br (λ c8 => Ok.ret ⟨⟨by omega, by omega, λ k z hk hz => ?_⟩, by omega⟩) (λ c8 => Ok.ret ⟨r0, r1, r2, .inr ⟨y.xName, ?_, ?_⟩⟩)))
   ·by_cases e : (k : Int) = r - 1
    ·have hk2 : k = (r - 1).toNat := by omega
     rw [hk2, hg _ _ hy.1] at hz
     injection hz with hz
     subst hz
     rw [less_lt] at c8
     exact of_decide_eq_true c8
    ·exact r2 k z (by omega) hz
   ·rw [show r.toNat - 1 = (r - 1).toNat by omega]; exact hg _ _ hy.1
   ·rw [less_lt] at c8
    exact of_decide_eq_false c8
  ·rw [decide_eq_false c]
   exact Ok.ret ⟨r0, r1, r2, .inl (by omega)⟩
 ·obtain ⟨r0, r1, r2, r3⟩ := hr8
  have hrl : r.toNat <= N.length := by omega
  have l1 : (s.take r.toNat).length = r.toNat := by simp; omega
  have l2 : (s.drop r.toNat).length = s.length - r.toNat := by simp
  have ins : ¬ e5.xName ∈ N -> JI l (seen ++ [e5.xName]) ((s.take r.toNat ++ [(⟨e5.xName, colB l e5.xName⟩ : TRule)]) ++ s.drop r.toNat) := λ hxs => by
   refine ⟨(N.take r.toNat ++ [e5.xName]) ++ N.drop r.toNat, ?_, insert_riseS hp hxs hrl (λ k y hk hy => r2 k y (by omega) hy) ?_, λ y => ?_, ?_⟩
   ·rw [hN]
    simp [List.map_take, List.map_drop]
   ·rcases r3 with r3 | r3
    ·exact .inl (by omega)
    ·exact .inr r3
   ·have h1 : y ∈ (N.take r.toNat ++ [e5.xName]) ++ N.drop r.toNat ↔ y ∈ N \/ y = e5.xName := by
     rw [List.mem_append, List.mem_append, List.mem_singleton]
     conv => rhs; rw [<- List.take_append_drop r.toNat N, List.mem_append]
     constructor
     ·rintro ((h | h) | h)
      ·exact .inl (.inl h)
      ·exact .inr h
      ·exact .inl (.inr h)
     ·rintro ((h | h) | h)
      ·exact .inl (.inl h)
      ·exact .inr h
      ·exact .inl (.inr h)
    rw [h1, hm, List.mem_append, List.mem_singleton]
   ·simp only [List.length_append, List.length_take, List.length_drop, List.length_singleton]
    omega
  have out : ∀ k : Nat, r.toNat <= k -> N[k]? ≠ some e5.xName := λ k hk he => List.lt_irrefl _ (r2 k _ (by omega) he)
  refine Ok.br (λ c8 => ?_) (λ c8 => ?_)
  ·have c8 : r > 0 := of_decide_eq_true c8
   have hw : IntKind.wrap .i64 (r - 1) = r - 1 := wrap_of (by omega) (by omega)
   rw [hw]
   refine Ok.chk ⟨by omega, by omega⟩ (Ok.bind (Ok.getI (by omega) (by omega)) (λ y _ hy => Ok.br (λ c9 => Ok.ret ⟨s, rfl, N, hN, hp, λ n => ?_, ?_⟩) (λ c9 => ?_)))
   ·have c9 : y.xName = e5.xName := by simpa using c9
    have hin : e5.xName ∈ N := by rw [<- c9]; exact List.mem_of_getElem? (hg _ _ hy.1)
    rw [List.mem_append, List.mem_singleton, <- hm]
    constructor
    ·exact .inl
    ·rintro (h1 | h1)
     ·exact h1
     ·rw [h1]; exact hin
   ·rw [List.length_append]
    omega
   ·have c9 : y.xName ≠ e5.xName := by simpa using c9
    have hy1 := hg _ _ hy.1
    rcases r3 with r3 | ⟨z, hz, hz2⟩
    ·omega
    ·rw [show r.toNat - 1 = (r - 1).toNat by omega, hy1] at hz
     injection hz with hz
     subst hz
     have hxs : ¬ e5.xName ∈ N := λ hmem => by
      obtain ⟨k, hk, he⟩ := List.mem_iff_getElem.1 hmem
      have hk2 : N[k]? = some e5.xName := by rw [List.getElem?_eq_getElem hk, he]
      rcases Nat.lt_or_ge k r.toNat with hlt | hge
      ·obtain ⟨q1, q2⟩ := gs_ hy1
       by_cases e : k = (r - 1).toNat
       ·subst e
        rw [hk2] at hy1
        injection hy1 with hy1
        exact c9 hy1.symm
       ·have := List.pairwise_iff_getElem.1 hp k (r - 1).toNat hk q1 (by omega)
        rw [he, q2] at this
        exact hz2 this
      ·exact out k hge hk2
     refine Ok.chk ⟨by omega, by omega, r1⟩ (Ok.chk ⟨by omega, by omega⟩ ?_)
     rw [color_b h, Option.bind_some]
     refine Ok.chk ⟨by omega, by omega⟩ (Ok.chk ⟨by omega, by omega, by omega⟩ (Ok.chk ?_ (Ok.ret ⟨_, rfl, ins hxs⟩)))
     rw [List.length_append, l1, l2, List.length_singleton]; omega
  ·have c8 : r = 0 := by simp at c8; omega
   have hxs : ¬ e5.xName ∈ N := λ hmem => by
    obtain ⟨k, hk, he⟩ := List.mem_iff_getElem.1 hmem
    exact out k (by omega) (by rw [List.getElem?_eq_getElem hk, he])
   refine Ok.chk ⟨by omega, by omega, r1⟩ (Ok.chk ⟨by omega, by omega⟩ ?_)
   rw [color_b h, Option.bind_some]
   refine Ok.chk ⟨by omega, by omega⟩ (Ok.chk ⟨by omega, by omega, by omega⟩ (Ok.chk ?_ (Ok.ret ⟨_, rfl, ins hxs⟩)))
   rw [List.length_append, l1, l2, List.length_singleton]; omega
theorem spec_Join {l : List TSheet} (h : FewR l) : sJoinSheets l = some ⟨joinR l⟩ := by
 have hl := h.1
 obtain ⟨r, h1, h2⟩ : Ok (sJoinSheets l) (λ r => JI l (namesL l) r.xRules) := by
  unfold sJoinSheets
  refine Ok.bind (Q1 := λ r => JI l (namesL l) r) (Ok.for (by unfold maxLen; omega) (λ i s => JI l (namesL (l.take i)) s) ⟨[], rfl, by simp, by simp [namesL], by simp⟩ (λ i x s hx hi => ?_) (λ s hs => by rw [List.take_length] at hs; exact hs)) (λ r _ hr => Ok.ret hr)
  have hil := (gs_ hx).1
  have h8 := h.2 x (List.mem_of_getElem? hx)
  have hn := names_len h i (by omega)
  refine Ok.bind (Q1 := λ r => JI l (namesL (l.take (i + 1))) r) (Ok.while (λ st : Int × List TRule => ∃ j : Nat, st.1 = (j : Int) /\ j <= x.xRules.length /\ JI l (namesL (l.take i) ++ (x.xRules.take j).map TRule.xName) st.2) (λ st => x.xRules.length - st.1.toNat) ⟨0, rfl, Nat.zero_le _, by simpa using hi⟩ (λ st hst => ?_)) (λ r _ hr => Ok.ret hr)
  obtain ⟨j0, s2⟩ := st
  obtain ⟨j, hj, hjl, hJ⟩ := hst
  simp only at hj hJ
  subst hj
  refine Ok.br (λ c => ?_) (λ c => Ok.ret ?_)
  ·have c : j < x.xRules.length := by simpa using c
   refine Ok.bind (Ok.getI (by omega) (by rw [Int.toNat_natCast]; exact c)) (λ e5 _ he => ?_)
   rw [Int.toNat_natCast] at he
   obtain ⟨hj1, hj2⟩ := gs_ he.1
   refine Ok.mono (join_round h hJ (by simp only [List.length_append, List.length_map, List.length_take]; omega) e5 j (by omega)) (λ z _ hz => ?_)
   obtain ⟨s', rfl, hs'⟩ := hz
   refine ⟨⟨j + 1, rfl, by omega, ?_⟩, ?_⟩
   ·rw [List.take_succ_eq_append_getElem hj1, hj2, List.map_append, <- List.append_assoc]
    exact hs'
   ·show x.xRules.length - (((j + 1 : Nat) : Int)).toNat < x.xRules.length - ((j : Int)).toNat
    rw [Int.toNat_natCast, Int.toNat_natCast]
    omega
  ·have c : ¬ j < x.xRules.length := by simpa using c
   show JI l (namesL (l.take (i + 1))) s2
   rw [names_take hx]
   have e : x.xRules.take j = x.xRules := List.take_of_length_le (by omega)
   rw [e] at hJ
   exact hJ
 rw [h1]
 congr 1
 obtain ⟨N, e1, e2, e3, _⟩ := h2
 have : N = compS (sortS (namesL l)) := (rise_eq e2 (compS_rise _)).2 (λ x => by rw [e3, compS_mem])
 obtain ⟨rs⟩ := r
 simp only at e1
 rw [e1, this]
 rfl
theorem ok_IsName (s : List UInt8) (h : okS s) : Ok (iIsName s) (λ b => b = true -> s.length <= 8) := by
 unfold iIsName
 refine Ok.bind (Q1 := λ _ => True) (Ok.for h (λ _ _ => True) trivial (λ i x s _ _ => ?_) (λ _ _ => trivial)) (λ r _ _ => ?_)
 ·exact Ok.br (λ _ => Ok.ret trivial) (λ _ => Ok.br (λ _ => Ok.ret trivial) (λ _ => Ok.ret trivial))
 ·cases r with
  | inl r => exact Ok.ret (λ h => by cases h)
  | inr r => exact Ok.bind (Q1 := λ b => b = true -> s.length <= 8) (Ok.br (λ _ => Ok.ret (λ h => by have := of_decide_eq_true h; omega)) (λ _ => Ok.ret (λ h => by cases h))) (λ r _ h => Ok.ret h)
theorem ok_IsAddr (a : TAddr) (h : a.ok) : Ok (iIsAddr a) (λ b => b = true -> a.xHost.length <= 8 /\ a.xPath.length <= 8) := by
 obtain ⟨h1, h2, _⟩ := h
 exact Ok.bind (ok_IsName _ h1) (λ r _ hr => Ok.br (λ e => Ok.bind (ok_IsName _ h2) (λ r _ hr2 => Ok.ret (λ e2 => ⟨hr e, hr2 e2⟩))) (λ _ => Ok.ret (λ h => by cases h)))
theorem ok_FormatAddr (a : TAddr) (h : a.ok) : Ok (iFormatAddr a) (λ r => r.length <= 17) := by
 refine Ok.bind (ok_IsAddr a h) (λ r _ hr => Ok.br (λ _ => Ok.ret (by simp)) (λ hb => ?_))
 obtain ⟨h1, h2⟩ := hr (by simpa using hb)
 exact Ok.chk (by omega) (Ok.chk (by simp; omega) (Ok.ret (by simp; omega)))
theorem Ok.copy {T : Type} {l : List T} {body : Nat -> T -> List T -> Option (List T ⊕ List T)} (hl : l.length <= maxLen) (h : ∀ i x s, l[i]? = some x -> i < l.length -> s.length = i -> Ok (body i x s) (λ z => z = .inl (s ++ [x]))) : Ok (forE l body (λ s => s) []) (λ r => r = l) := by
 refine Ok.for hl (λ i s => s = l.take i) (by simp) (λ i x s hx hs => ?_) (λ s hs => by rw [hs]; exact List.take_length)
 have hi := (gs_ hx).1
 refine Ok.mono (h i x s hx hi (by rw [hs, List.length_take]; omega)) (λ z _ hz => ?_)
 subst hz
 show s ++ [x] = l.take (i + 1)
 rw [hs, List.take_add_one, hx]
 rfl
theorem Ok.eq {α : Type} {x : Option α} {a : α} (h : Ok x (λ r => r = a)) : x = some a := by
 obtain ⟨r, h1, rfl⟩ := h
 exact h1
theorem Ok.is {α γ : Type} {x : Option α} {a : α} {f : α -> Option γ} {Q : γ -> Prop} (h : x = some a) (h2 : Ok (f a) Q) : Ok (x.bind f) Q := by
 subst h
 exact h2
theorem s_Attrs (l : List TAttr) (h : l.length <= 1048576) : sl6Attrs l = some l := Ok.eq (Ok.chk (by omega) (Ok.ret rfl))
theorem s_Builder (b : TBuilder) (h : b.size <= 1048576) : sl6Copy b = some b := by
 unfold TBuilder.size at h
 refine Ok.eq (Ok.chk (by omega) (Ok.bind (Ok.copy (by unfold maxLen; omega) (λ i x s hx hi hs => ?_)) (λ r _ hr => Ok.ret (by rw [hr]; rfl))))
 have := sumL_mem (f := TNode.size) (List.mem_of_getElem? hx)
 have h2 : x.xAttrs.length <= x.size := by unfold TNode.size; omega
 exact Ok.is (s_Attrs _ (by omega)) (Ok.chk (by omega) (Ok.ret rfl))
theorem i_Builder (b : TBuilder) (h : b.size <= 1048576) : icopyBuilder b = some b := by
 unfold TBuilder.size at h
 refine Ok.eq (Ok.chk (by omega) (Ok.bind (Ok.copy (by unfold maxLen; omega) (λ i x s hx hi hs => ?_)) (λ r _ hr => Ok.ret (by rw [hr]; rfl))))
 have := sumL_mem (f := TNode.size) (List.mem_of_getElem? hx)
 have h2 : x.xAttrs.length <= x.size := by unfold TNode.size; omega
 exact Ok.chk (by omega) (Ok.chk (by omega) (Ok.ret rfl))
theorem splitC_cons_ne {c b : UInt8} {l : List UInt8} (h : b ≠ c) : ∃ p ps, splitC c l = p :: ps /\ splitC c (b :: l) = (b :: p) :: ps := by
 cases hs : splitC c l with
 | nil => exact absurd hs (splitC_ne c l)
 | cons p ps => exact ⟨p, ps, rfl, by rw [splitC, if_neg h, hs]⟩
theorem splitC_free {c : UInt8} : ∀ {x : List UInt8}, ¬ c ∈ x -> ∀ y p ps, splitC c y = p :: ps -> splitC c (x ++ y) = (x ++ p) :: ps := by
 intro x
 induction x with
 | nil => intro _ y p ps h; exact h
 | cons b x ih =>
  intro hx y p ps h
  have hb : b ≠ c := λ e => hx (by rw [e]; simp)
  have := ih (λ e => hx (List.mem_cons_of_mem _ e)) y p ps h
  rw [List.cons_append, splitC, if_neg hb, this]
  rfl
theorem splitC_sep {c : UInt8} {x : List UInt8} (hx : ¬ c ∈ x) (y : List UInt8) : splitC c (x ++ [c] ++ y) = x :: splitC c y := by
 rw [List.append_assoc, splitC_free hx ([c] ++ y) [] (splitC c y) (by rw [List.singleton_append, splitC, if_pos rfl]), List.append_nil]
theorem splitC_one {c : UInt8} {x : List UInt8} (hx : ¬ c ∈ x) : splitC c x = [x] := by
 have := splitC_free hx [] [] [] rfl
 simpa using this
def lens : List (List UInt8) -> Nat
 | [] => 0
 | x :: l => x.length + 1 + lens l
theorem splitC_lens (c : UInt8) : ∀ (s : List UInt8), lens (splitC c s) = s.length + 1 := by
 intro s
 induction s with
 | nil => rfl
 | cons b l ih =>
  by_cases h : b = c
  ·rw [splitC, if_pos h]
   simp only [lens, ih, List.length_nil, List.length_cons]
   omega
  ·obtain ⟨p0, ps, e1, e2⟩ := splitC_cons_ne (l := l) h
   rw [e1] at ih
   rw [e2]
   simp only [lens, List.length_cons] at ih ⊢
   omega
theorem lens_mem {l : List (List UInt8)} {x : List UInt8} (h : x ∈ l) : x.length + 1 <= lens l := by
 induction l with
 | nil => cases h
 | cons y l ih =>
  simp only [lens]
  rcases List.mem_cons.1 h with rfl | h
  ·omega
  ·have := ih h
   omega
theorem lens_len (l : List (List UInt8)) : l.length <= lens l := by
 induction l with
 | nil => exact Nat.le_refl _
 | cons y l ih => simp only [lens, List.length_cons]; omega
theorem spec_split {s : List UInt8} (c : UInt8) (hs : s.length <= 2097152) : sl5Split s (c.toNat : Int) = some (splitC c s) := by
 have key : Ok (sl5Split s (c.toNat : Int)) (λ r => r = splitC c s) := by
  unfold sl5Split
  refine Ok.bind (Q1 := λ r => r = splitC c s) (Ok.while (λ st => ∃ i f : Nat, st.2.2 = (i : Int) /\ st.2.1 = (f : Int) /\ st.1.length <= i /\ ((f <= i /\ i <= s.length /\ (¬ c ∈ (s.take i).drop f) /\ splitC c s = st.1 ++ splitC c (s.drop f)) \/ (i = s.length + 1 /\ splitC c s = st.1)))
   (λ st => s.length + 2 - st.2.2.toNat) ?_ ?_) (λ r _ hr => Ok.ret hr)
  ·exact ⟨0, 0, rfl, rfl, Nat.le_refl 0, .inl ⟨Nat.le_refl _, Nat.zero_le _, by simp, by simp⟩⟩
  ·rintro ⟨out, fr, n⟩ ⟨i, f, h1, h2, h3, h4⟩
   simp only at h1 h2 h3 h4 ⊢
   subst h1
   subst h2
   rcases h4 with ⟨h5, h6, h7, h8⟩ | ⟨h5, h8⟩
   ·have ew : IntKind.wrap .i64 ((i : Int) + 1) = ((i + 1 : Nat) : Int) := wrapS (by omega)
    refine Ok.br (λ _ => Ok.br (λ e => ?_) (λ e => ?_)) (λ e => absurd e (by simp; omega))
    ·have hi : i = s.length := by
      have : (i : Int) = (s.length : Int) := by simpa using e
      omega
     refine Ok.chk ⟨by omega, by omega, by omega⟩ (Ok.chk ⟨by omega, by omega⟩ (Ok.ret (And.intro ⟨i + 1, i + 1, ew, ew, by simp; omega, .inr ⟨by omega, ?_⟩⟩ ?_)))
     ·show splitC c s = out ++ [((s.take ((i : Int).toNat)).drop ((f : Int).toNat))]
      rw [Int.toNat_natCast, Int.toNat_natCast, h8]
      rw [hi, List.take_length] at h7 ⊢
      rw [splitC_one h7]
     ·rw [ew]
      show s.length + 2 - (((i + 1 : Nat) : Int)).toNat < s.length + 2 - ((i : Int)).toNat
      rw [Int.toNat_natCast, Int.toNat_natCast]
      omega
    ·have hi : i < s.length := by
      have : ¬ (i : Int) = (s.length : Int) := by simpa using e
      omega
     obtain ⟨b, hb⟩ : ∃ b, s[i]? = some b := ⟨_, List.getElem?_eq_getElem hi⟩
     have ht : s.take (i + 1) = s.take i ++ [b] := by
      rw [List.take_add_one, hb]
      rfl
     have hlt : (s.take i).length = i := by simp; omega
     have hd : s.drop f = (s.take i).drop f ++ ([b] ++ s.drop (i + 1)) := by
      have e1 : s.drop i = [b] ++ s.drop (i + 1) := by
       obtain ⟨hi2, e2⟩ := gs_ hb
       rw [List.drop_eq_getElem_cons hi2, e2]
       rfl
      conv => lhs; rw [<- List.take_append_drop i s]
      rw [List.drop_append, hlt, show f - i = 0 by omega, List.drop_zero, e1]
     refine Ok.bind (Ok.getS (Int.natCast_nonneg _) (by simpa using hi)) (λ r _ hr => ?_)
     obtain ⟨b', hb', rfl⟩ := hr
     rw [Int.toNat_natCast, hb] at hb'
     injection hb' with hb'
     subst hb'
     refine Ok.br (λ e => ?_) (λ e => ?_)
     ·have hbc : b = c := by
       have : (b.toNat : Int) = (c.toNat : Int) := by simpa using e
       exact UInt8.toNat_inj.1 (by omega)
      subst hbc
      refine Ok.chk ⟨by omega, by omega, by omega⟩ (Ok.chk ⟨by omega, by omega⟩ (Ok.ret (And.intro ⟨i + 1, i + 1, ew, ew, by simp; omega, .inl ⟨Nat.le_refl _, by omega, by simp, ?_⟩⟩ ?_)))
      ·show splitC b s = (out ++ [((s.take ((i : Int).toNat)).drop ((f : Int).toNat))]) ++ splitC b (s.drop (i + 1))
       rw [Int.toNat_natCast, Int.toNat_natCast, h8, hd, <- List.append_assoc, splitC_sep h7, List.append_assoc]
       rfl
      ·rw [ew]
       show s.length + 2 - (((i + 1 : Nat) : Int)).toNat < s.length + 2 - ((i : Int)).toNat
       rw [Int.toNat_natCast, Int.toNat_natCast]
       omega
     ·have hbc : c ≠ b := by
       intro e2
       subst e2
       simp at e
      refine Ok.ret (And.intro ⟨i + 1, f, ew, rfl, (by show out.length <= i + 1; omega), .inl ⟨by omega, by omega, ?_, h8⟩⟩ ?_)
      ·rw [ht, List.drop_append, hlt, show f - i = 0 by omega, List.drop_zero]
       intro hm
       rcases List.mem_append.1 hm with hm | hm
       ·exact h7 hm
       ·exact hbc (List.mem_singleton.1 hm)
      ·rw [ew]
       show s.length + 2 - (((i + 1 : Nat) : Int)).toNat < s.length + 2 - ((i : Int)).toNat
       rw [Int.toNat_natCast, Int.toNat_natCast]
       omega
   ·exact Ok.br (λ e => absurd e (by simp; omega)) (λ _ => Ok.ret h8.symm)
 obtain ⟨r, hr, e⟩ := key
 rw [hr, e]
theorem isName_eq (s : List UInt8) : sIsName s = iIsName s := rfl
def nameB (s : List UInt8) : Bool := (iIsName s).getD false
theorem isName_b {s : List UInt8} (h : okS s) : iIsName s = some (nameB s) := by
 obtain ⟨b, h1, _⟩ := ok_IsName s h
 unfold nameB
 rw [h1]
 rfl
theorem inRange_eq (x a b : Int) : iInRange x a b = some (decide (a <= x /\ x <= b)) := l1In_eq x a b
theorem byte_at (c : UInt8) : ∀ (x : List UInt8), (¬ c ∈ x /\ Lib.indexByte x c = -1) \/ ∃ p q, x = p ++ [c] ++ q /\ ¬ c ∈ p /\ Lib.indexByte x c = (p.length : Int) := by
 intro x
 induction x with
 | nil => exact .inl ⟨by simp, rfl⟩
 | cons b l ih =>
  rw [Lib.indexByte]
  by_cases h : b = c
  ·subst h
   exact .inr ⟨[], l, rfl, by simp, by simp⟩
  ·have hb : (b == c) = false := by rw [beq_eq_false_iff_ne]; exact h
   rw [hb]
   rcases ih with ⟨h1, h2⟩ | ⟨p, q, h1, h2, h3⟩
   ·refine .inl ⟨λ hm => ?_, ?_⟩
    ·rcases List.mem_cons.1 hm with e | hm
     ·exact h e.symm
     ·exact h1 hm
    ·rw [h2]
     rfl
   ·refine .inr ⟨b :: p, q, by rw [h1]; rfl, λ hm => ?_, ?_⟩
    ·rcases List.mem_cons.1 hm with e | hm
     ·exact h e.symm
     ·exact h2 hm
    ·rw [h3]
     have : ((p.length : Int) == -1) = false := by rw [beq_eq_false_iff_ne]; omega
     rw [this]
     simp
theorem cut_cases (c : UInt8) (x : List UInt8) : (¬ c ∈ x /\ splitC c x = [x] /\ Lib.cut x [c] = (x, [], false)) \/ ∃ p q, x = p ++ [c] ++ q /\ ¬ c ∈ p /\ splitC c x = p :: splitC c q /\ Lib.cut x [c] = (p, q, true) := by
 rcases byte_at c x with ⟨h1, h2⟩ | ⟨p, q, h1, h2, h3⟩
 ·refine .inl ⟨h1, splitC_one h1, ?_⟩
  unfold Lib.cut
  rw [Lib.index_one, h2]
  rfl
 ·refine .inr ⟨p, q, h1, h2, by rw [h1, splitC_sep h2], ?_⟩
  unfold Lib.cut
  rw [Lib.index_one, h3, if_pos (by omega), Int.toNat_natCast, h1]
  simp
def partR (x : List UInt8) : Option TRule :=
 if (pInt (Lib.cut x [58]).2.1).2 = true /\ nameB (Lib.cut x [58]).1 = true /\ 1 <= (pInt (Lib.cut x [58]).2.1).1 /\ (pInt (Lib.cut x [58]).2.1).1 <= 999 then some ⟨(Lib.cut x [58]).1, (pInt (Lib.cut x [58]).2.1).1⟩ else none
def sheetStep (s : List TRule) (x : List UInt8) : List TRule :=
 match partR x with
 | some r => if s.length < 8 then s ++ [r] else s
 | none => s
def sheetL (l : List (List UInt8)) : List TRule := l.foldl sheetStep []
theorem step_len (s : List TRule) (x : List UInt8) (h : s.length <= 8) : (sheetStep s x).length <= 8 := by
 unfold sheetStep
 split
 ·split
  ·simp
   omega
  ·exact h
 ·exact h
theorem step_full (l : List (List UInt8)) (s : List TRule) (h : ¬ s.length < 8) : l.foldl sheetStep s = s := by
 induction l generalizing s with
 | nil => rfl
 | cons x l ih =>
  have : sheetStep s x = s := by
   unfold sheetStep
   split
   ·rw [if_neg h]
   ·rfl
  rw [List.foldl_cons, this]
  exact ih s h
theorem take_step (l : List (List UInt8)) {i : Nat} {x : List UInt8} (hx : l[i]? = some x) : sheetL (l.take (i + 1)) = sheetStep (sheetL (l.take i)) x := by
 obtain ⟨h1, h2⟩ := gs_ hx
 rw [List.take_succ_eq_append_getElem h1, h2]
 unfold sheetL
 rw [List.foldl_append]
 rfl
theorem cut_short (x : List UInt8) : (Lib.cut x [58]).1.length <= x.length /\ (Lib.cut x [58]).2.1.length <= x.length := by
 rcases cut_cases 58 x with ⟨_, _, h1⟩ | ⟨p, q, h1, _, _, h2⟩
 ·rw [h1]
  simp
 ·rw [h2, h1]
  simp
  omega
theorem impl_ParseSheet (s : List UInt8) (hs : s.length <= 1048576) : iParseSheet s = some ⟨sheetL (splitC 59 s)⟩ := by
 have hsp : g_strings_Split s [59] = some (splitC 59 s) := chk_pos (by omega)
 have hll := splitC_lens 59 s
 have hln := lens_len (splitC 59 s)
 obtain ⟨r, h1, h2⟩ : Ok (iParseSheet s) (λ r => r = ⟨sheetL (splitC 59 s)⟩) := by
  unfold iParseSheet
  rw [hsp, Option.bind_some]
  refine Ok.bind (Q1 := λ r => r = sheetL (splitC 59 s)) (Ok.for (by unfold maxLen; omega) (λ i v => v = sheetL ((splitC 59 s).take i) /\ v.length <= 8) ⟨rfl, by simp⟩ (λ i x v hx hi => ?_) (λ v hv => by rw [hv.1, List.take_length])) (λ r _ hr => Ok.ret (by rw [hr]))
  obtain ⟨e1, e2⟩ := hi
  have hxl : x.length <= 1048576 := by have := lens_mem (List.mem_of_getElem? hx); omega
  have e3 := take_step _ hx
  rw [<- e1] at e3
  have e4 := step_len v x e2
  have hc : g_strings_Cut x [58] = some (Lib.cut x [58]) := chk_pos (by omega)
  rw [hc, Option.bind_some]
  obtain ⟨c1, c2⟩ := cut_short x
  rw [impl_ParseInt _ (by omega), Option.bind_some]
  have fin : ∀ w, w = sheetStep v x -> w = sheetL ((splitC 59 s).take (i + 1)) /\ w.length <= 8 := λ w hw => ⟨by rw [e3]; exact hw, by rw [hw]; exact e4⟩
  refine Ok.br (λ k1 => ?_) (λ k1 => Ok.ret (fin _ ?_))
  ·rw [isName_b (by unfold okS maxLen; omega), Option.bind_some]
   refine Ok.br (λ k2 => ?_) (λ k2 => Ok.ret (fin _ ?_))
   ·rw [inRange_eq, Option.bind_some]
    refine Ok.br (λ k3 => ?_) (λ k3 => Ok.ret (fin _ ?_))
    ·have hp : partR x = some ⟨(Lib.cut x [58]).1, (pInt (Lib.cut x [58]).2.1).1⟩ := if_pos ⟨k1, k2, of_decide_eq_true k3⟩
     refine Ok.br (λ k4 => Ok.chk (by omega) (Ok.ret (fin _ ?_))) (λ k4 => Ok.ret (fin _ ?_))
     ·unfold sheetStep
      rw [hp]
      simp only []
      rw [if_pos (by simp at k4; omega)]
     ·unfold sheetStep
      rw [hp]
      simp only []
      rw [if_neg (by simp at k4; omega)]
    ·have hp : partR x = none := if_neg λ h => by have := of_decide_eq_false k3; exact this h.2.2
     unfold sheetStep
     rw [hp]
   ·have hp : partR x = none := if_neg λ h => by rw [h.2.1] at k2; cases k2
    unfold sheetStep
    rw [hp]
  ·have hp : partR x = none := if_neg λ h => by rw [h.1] at k1; cases k1
   unfold sheetStep
   rw [hp]
 rw [h1, h2]
theorem dec_no_colon (u : Nat) : ¬ (58 : UInt8) ∈ Lib.decDigits u := λ h => by
 have := (dec_says u).1 58 h
 unfold isDg at this
 have e : (58 : UInt8).toNat = 58 := rfl
 omega
theorem pInt_colon {q : List UInt8} (h : (58 : UInt8) ∈ q) : pInt q = (0, false) := by
 rcases pInt_cases q with ⟨u, _, h2, _⟩ | ⟨_, h2⟩
 ·exact absurd (h2 ▸ h) (dec_no_colon u)
 ·exact h2
theorem spec_ParseSheet (s : List UInt8) (hs : s.length <= 1048576) : sParseSheet s = some ⟨sheetL (splitC 59 s)⟩ := by
 have hsp : sl5Split s 59 = some (splitC 59 s) := spec_split 59 (by omega)
 have hll := splitC_lens 59 s
 have hln := lens_len (splitC 59 s)
 obtain ⟨r, h1, h2⟩ : Ok (sParseSheet s) (λ r => r = ⟨sheetL (splitC 59 s)⟩) := by
  unfold sParseSheet
  rw [hsp, Option.bind_some]
  refine Ok.bind (Q1 := λ r => r = sheetL (splitC 59 s)) (Ok.for (by unfold maxLen; omega) (λ i v => v = sheetL ((splitC 59 s).take i) /\ v.length <= 8) ⟨rfl, by simp⟩ (λ i x v hx hi => ?_) (λ v hv => by rw [hv.1, List.take_length])) (λ r _ hr => Ok.ret (by rw [hr]))
  obtain ⟨e1, e2⟩ := hi
  have hxl : x.length <= 1048576 := by have := lens_mem (List.mem_of_getElem? hx); omega
  have e3 := take_step _ hx
  rw [<- e1] at e3
  have e4 := step_len v x e2
  have fin : ∀ w, w = sheetStep v x -> w = sheetL ((splitC 59 s).take (i + 1)) /\ w.length <= 8 := λ w hw => ⟨by rw [e3]; exact hw, by rw [hw]; exact e4⟩
  have none_ : partR x = none -> v = sheetL ((splitC 59 s).take (i + 1)) /\ v.length <= 8 := λ hp => fin _ (by unfold sheetStep; rw [hp])
  refine Ok.br (λ k4 => ?_) (λ k4 => Ok.ret ?_)
  ·have k4 : v.length < 8 := by simp at k4; omega
   rw [show sl5Split x 58 = some (splitC 58 x) from spec_split 58 (by omega), Option.bind_some]
   rcases cut_cases 58 x with ⟨_, c2, c3⟩ | ⟨p, q, c1, cp, c2, c3⟩
   ·have hp : partR x = none := if_neg λ h => by
     rw [c3] at h
     have : pInt [] = (0, false) := rfl
     rw [this] at h
     cases h.1
    rw [c2]
    exact Ok.br (λ _ => Ok.ret (none_ hp)) (λ k => by simp at k)
   ·by_cases cq : (58 : UInt8) ∈ q
    ·have hp : partR x = none := if_neg λ h => by
      rw [c3, pInt_colon cq] at h
      cases h.1
     have hl : 2 <= (splitC 58 q).length := by
      rcases cut_cases 58 q with ⟨h, _⟩ | ⟨p', q', _, _, h, _⟩
      ·exact absurd cq h
      ·rw [h, List.length_cons]
       have := List.length_pos_iff.2 (splitC_ne 58 q')
       omega
     rw [c2]
     exact Ok.br (λ _ => Ok.ret (none_ hp)) (λ k => by simp at k; omega)
    ·rw [c2, splitC_one cq]
     have hpl : p.length <= 1048576 /\ q.length <= 1048576 := by rw [c1] at hxl; simp at hxl; omega
     refine Ok.br (λ k => by simp at k) (λ _ => Ok.chk (by simp) ?_)
     show Ok ((sIsName p).bind _) _
     rw [isName_eq, isName_b (by unfold okS maxLen; omega), Option.bind_some]
     refine Ok.br (λ k1 => Ok.ret (none_ (if_neg λ h => ?_))) (λ k1 => Ok.chk (by simp) ?_)
     ·rw [c3] at h
      rw [h.2.1] at k1
      cases k1
     ·have k1 : nameB p = true := by
       cases hb : nameB p with
       | true => rfl
       | false => rw [hb] at k1; cases k1
      show Ok ((sParseInt q).bind _) _
      rw [spec_ParseInt q (by omega), Option.bind_some]
      refine Ok.br (λ k2 => ?_) (λ k2 => Ok.ret (none_ (if_neg λ h => ?_)))
      ·rw [l1In_eq, Option.bind_some]
       refine Ok.br (λ k3 => Ok.chk (by simp) ?_) (λ k3 => Ok.ret (none_ (if_neg λ h => ?_)))
       ·have hp : partR x = some ⟨p, (pInt q).1⟩ := by
         have : partR x = some ⟨(Lib.cut x [58]).1, (pInt (Lib.cut x [58]).2.1).1⟩ := if_pos (by rw [c3]; exact ⟨k2, k1, of_decide_eq_true k3⟩)
         rw [this, c3]
        show Ok (chk _ _) _
        refine Ok.chk (by omega) (Ok.ret (fin _ ?_))
        unfold sheetStep
        rw [hp]
        simp only []
        rw [if_pos k4]
       ·rw [c3] at h
        exact (of_decide_eq_false k3) h.2.2
      ·rw [c3] at h
       have := h.1
       rw [this] at k2
       cases k2
  ·have k4 : ¬ v.length < 8 := by simp at k4; omega
   show v = sheetL (splitC 59 s)
   have : sheetL (splitC 59 s) = ((splitC 59 s).drop i).foldl sheetStep (sheetL ((splitC 59 s).take i)) := by
    unfold sheetL
    rw [<- List.foldl_append, List.take_append_drop]
   rw [this, <- e1, step_full _ _ k4]
 rw [h1, h2]
theorem eq_Kind (k : Int) : sKindName k = iKindName k /\ Ok (iKindName k) (λ r => r.length <= 16) := by
 by_cases c : 1 <= k /\ k <= 5
 ·have : k = 1 \/ k = 2 \/ k = 3 \/ k = 4 \/ k = 5 := by omega
  rcases this with rfl | rfl | rfl | rfl | rfl <;> exact ⟨rfl, _, rfl, by decide⟩
 ·have h1 : sKindName k = some [] := by
   unfold sKindName
   rw [l1In_eq, decide_eq_false c]
   rfl
  have h2 : iKindName k = some [] := by
   unfold iKindName
   rw [inRange_eq, decide_eq_false c]
   rfl
  exact ⟨h1.trans h2.symm, [], h2, by decide⟩
theorem eq_VName (k : Int) : sVerdictName k = iVerdictName k /\ Ok (iVerdictName k) (λ r => r.length <= 16) := by
 by_cases c : 1 <= k /\ k <= 6
 ·have : k = 1 \/ k = 2 \/ k = 3 \/ k = 4 \/ k = 5 \/ k = 6 := by omega
  rcases this with rfl | rfl | rfl | rfl | rfl | rfl <;> exact ⟨rfl, _, rfl, by decide⟩
 ·have h1 : sVerdictName k = some [] := by
   unfold sVerdictName
   rw [l1In_eq, decide_eq_false c]
   rfl
  have h2 : iVerdictName k = some [] := by
   unfold iVerdictName
   rw [inRange_eq, decide_eq_false c]
   rfl
  exact ⟨h1.trans h2.symm, [], h2, by decide⟩
theorem eq_verdict (k : Int) (a : TAddr) (d : Bool) (c : Int) (h : a.ok) : sl21Verdict k a d c = iverdict k a d c /\ Ok (iverdict k a d c) (λ _ => True) := by
 obtain ⟨e1, n, n1, n2⟩ := eq_Kind k
 obtain ⟨e2, m, m1, m2⟩ := eq_VName c
 obtain ⟨f, f1, f2⟩ := ok_FormatAddr a h
 refine ⟨?_, ?_⟩
 ·unfold sl21Verdict iverdict
  rw [e1, e2]
  rfl
 ·unfold iverdict
  rw [f1, n1, m1]
  simp only [Option.bind_some]
  have s2 : ∀ x : List UInt8, (x ++ [32]).length = x.length + 1 := λ x => by simp
  refine Ok.br (λ _ => Ok.br (λ _ => ?_) (λ _ => ?_)) (λ _ => Ok.br (λ _ => ?_) (λ _ => ?_))
  all_goals
   refine Ok.chk (by omega) (Ok.chk ?_ (Ok.chk ?_ (Ok.chk ?_ (Ok.ret trivial))))
   all_goals
    simp only [List.length_append, List.length_singleton]
    omega
theorem collect {T : Type} {l : List T} {body : Nat -> T -> List (List UInt8) -> Option (List (List UInt8) ⊕ List (List UInt8))} {g : T -> List UInt8} {base : List (List UInt8)} (hl : l.length <= 1048576) (hb : base.length <= 1048576)
  (h : ∀ i x s, x ∈ l -> s.length <= 2097152 -> body i x s = some (.inl (s ++ [g x]))) : forE l body (λ s => s) base = some (base ++ l.map g) := by
 refine Ok.eq (Ok.for (by unfold maxLen; omega) (λ i s => s = base ++ (l.take i).map g) (by simp) (λ i x s hx hi => ?_) (λ s hs => by rw [hs, List.take_length]))
 obtain ⟨hil, hix⟩ := gs_ hx
 rw [h i x s (List.mem_of_getElem? hx) (by rw [hi]; simp; omega)]
 refine Ok.ret ?_
 show s ++ [g x] = _
 rw [List.take_succ_eq_append_getElem hil, hix, hi]
 simp
def verdB (k : Int) (a : TAddr) (d : Bool) (c : Int) : List UInt8 := (iverdict k a d c).getD []
theorem verd_i {a : TAddr} (h : a.ok) (k : Int) (d : Bool) (c : Int) : iverdict k a d c = some (verdB k a d c) := by
 obtain ⟨_, r, h1, _⟩ := eq_verdict k a d c h
 unfold verdB
 rw [h1]
 rfl
theorem verd_s {a : TAddr} (h : a.ok) (k : Int) (d : Bool) (c : Int) : sl21Verdict k a d c = some (verdB k a d c) := (eq_verdict k a d c h).1.trans (verd_i h k d c)
def kmB (m : Int) : Int := (iKindOfMode m).getD 0
theorem km_i (m : Int) : iKindOfMode m = some (kmB m) := by
 obtain ⟨r, h, _⟩ : Ok (iKindOfMode m) (λ _ => True) := Ok.br (λ _ => Ok.ret trivial) (λ _ => Ok.br (λ _ => Ok.ret trivial) (λ _ => Ok.br (λ _ => Ok.ret trivial) (λ _ => Ok.br (λ _ => Ok.ret trivial) (λ _ => Ok.ret trivial))))
 unfold kmB
 rw [h]
 rfl
theorem km_s (m : Int) : sKindOfMode m = some (kmB m) := km_i m
def verdsB (p : TPage) : List (List UInt8) := ([] ++ p.xSlots.map λ x => verdB (kmB x.xMode) x.xTo x.xDone x.xCode) ++ p.xMods.map λ x => verdB 5 x.xTo x.xDone x.xCode
theorem eq_Verdicts (p : TPage) (o : p.ok) (h : p.size <= 1048576) : sVerdictsOf p = some (verdsB p) /\ iVerdictsOf p = some (verdsB p) /\ (verdsB p).length <= 2097152 := by
 have h1 : p.xSlots.length <= 1048576 /\ p.xMods.length <= 1048576 := by unfold TPage.size at h; omega
 have hs : ∀ x ∈ p.xSlots, TAddr.ok x.xTo := λ x hx => (o.2.2.2.2.2.2.1.2 x hx).2.1
 have hm : ∀ x ∈ p.xMods, TAddr.ok x.xTo := λ x hx => (o.2.2.2.2.2.2.2.1.2 x hx).1
 refine ⟨?_, ?_, by unfold verdsB; simp; omega⟩
 ·unfold sVerdictsOf
  rw [collect (g := λ x : TSlot => verdB (kmB x.xMode) x.xTo x.xDone x.xCode) h1.1 (by simp) (λ i x s hx hl => by
   rw [km_s, Option.bind_some, verd_s (hs x hx), Option.bind_some, chk_pos (by omega)]), Option.bind_some]
  rw [collect (g := λ x : TModule => verdB 5 x.xTo x.xDone x.xCode) h1.2 (by simp; omega) (λ i x s hx hl => by
   rw [verd_s (hm x hx), Option.bind_some, chk_pos (by omega)]), Option.bind_some]
  rfl
 ·unfold iVerdictsOf
  rw [collect (g := λ x : TSlot => verdB (kmB x.xMode) x.xTo x.xDone x.xCode) h1.1 (by simp) (λ i x s hx hl => by
   rw [km_i, Option.bind_some, verd_i (hs x hx), Option.bind_some, chk_pos (by omega)]), Option.bind_some]
  rw [collect (g := λ x : TModule => verdB 5 x.xTo x.xDone x.xCode) h1.2 (by simp; omega) (λ i x s hx hl => by
   rw [verd_i (hm x hx), Option.bind_some, chk_pos (by omega)]), Option.bind_some]
  rfl
def sheetsB (p : TPage) : List TSheet := (p.xSlots.filter λ x => x.xMode == 2 && x.xDone && x.xCode == 1).map λ x => ⟨sheetL (splitC 59 x.xBody)⟩
theorem sheet_len (l : List (List UInt8)) : (sheetL l).length <= 8 := by
 have : ∀ (l : List (List UInt8)) (s : List TRule), s.length <= 8 -> (l.foldl sheetStep s).length <= 8 := by
  intro l
  induction l with
  | nil => intro s h; exact h
  | cons x l ih => intro s h; exact ih _ (step_len s x h)
 exact this l [] (by simp)
theorem few (p : TPage) (h : p.size <= 1048576) : FewR (sheetsB p) := by
 refine ⟨?_, λ x hx => ?_⟩
 ·have : p.xSlots.length <= 1048576 := by unfold TPage.size at h; omega
  unfold sheetsB
  rw [List.length_map]
  exact Nat.le_trans (List.length_filter_le _ _) this
 ·obtain ⟨y, _, rfl⟩ := List.mem_map.1 hx
  exact sheet_len _
theorem eq_Sheets (p : TPage) (h : p.size <= 1048576) : sSheetsOf p = some (sheetsB p) /\ iSheetsOf p = some (sheetsB p) := by
 have h1 : p.xSlots.length <= 1048576 := by unfold TPage.size at h; omega
 have hb : ∀ x ∈ p.xSlots, x.xBody.length <= 1048576 := λ x hx => by
  have h2 := sumL_mem (f := TSlot.size) hx
  have h3 : x.xBody.length <= x.size := by unfold TSlot.size; omega
  unfold TPage.size at h
  omega
 have key : ∀ (P : List UInt8 -> Option TSheet), (∀ s : List UInt8, s.length <= 1048576 -> P s = some ⟨sheetL (splitC 59 s)⟩) -> Ok ((forE p.xSlots (λ (i_1 : Nat) (x_1 : TSlot) (s1 : List TSheet) => (
  br (x_1.xMode == 2) (
   br x_1.xDone (
    br (x_1.xCode == 1) (
     (P x_1.xBody).bind λ (r3 : TSheet) =>
     chk ((s1.length + 1) * 24 <= 140737488355328 /\ s1.length + 1 <= 140737488355328) <|
     some (.inl (s1 ++ [r3]))
    ) (
     some (.inl s1)
    )
   ) (
    some (.inl s1)
   )
  ) (
   some (.inl s1)
  )
 : Option ((List TSheet) ⊕ (List TSheet)))) (λ (s1 : List TSheet) => (s1 : List TSheet)) ([] : List TSheet)).bind <|
 λ (r4 : List TSheet) =>
 some r4) (λ r => r = sheetsB p) := λ P hP => by
  refine Ok.bind (Q1 := λ r => r = sheetsB p) (Ok.for (by unfold maxLen; omega) (λ i s => s = ((p.xSlots.take i).filter λ x => x.xMode == 2 && x.xDone && x.xCode == 1).map (λ x => (⟨sheetL (splitC 59 x.xBody)⟩ : TSheet)) /\ s.length <= i) ⟨rfl, Nat.le_refl _⟩ (λ i x s hx hi => ?_) (λ s hs => by rw [hs.1, List.take_length]; rfl)) (λ r _ hr => Ok.ret hr)
  obtain ⟨e1, e2⟩ := hi
  obtain ⟨hil, hix⟩ := gs_ hx
  have ht : ((p.xSlots.take (i + 1)).filter λ x => x.xMode == 2 && x.xDone && x.xCode == 1).map (λ x => (⟨sheetL (splitC 59 x.xBody)⟩ : TSheet)) = s ++ (if (x.xMode == 2 && x.xDone && x.xCode == 1) = true then [⟨sheetL (splitC 59 x.xBody)⟩] else []) := by
   rw [List.take_succ_eq_append_getElem hil, hix, List.filter_append, List.map_append, <- e1]
   congr 1
   by_cases c : (x.xMode == 2 && x.xDone && x.xCode == 1) = true
   ·rw [if_pos c]
    simp only [List.filter_cons, List.filter_nil]
    rw [if_pos c]
    rfl
   ·rw [if_neg c]
    simp only [List.filter_cons, List.filter_nil]
    rw [if_neg c]
    rfl
  have no : (x.xMode == 2 && x.xDone && x.xCode == 1) = false -> s = ((p.xSlots.take (i + 1)).filter λ x => x.xMode == 2 && x.xDone && x.xCode == 1).map (λ x => (⟨sheetL (splitC 59 x.xBody)⟩ : TSheet)) /\ s.length <= i + 1 := λ c => ⟨by rw [ht, c]; simp, Nat.le_succ_of_le e2⟩
  refine Ok.br (λ c1 => Ok.br (λ c2 => Ok.br (λ c3 => ?_) (λ c3 => Ok.ret (no (by rw [c1, c2, c3]; rfl)))) (λ c2 => Ok.ret (no (by rw [c1, c2]; rfl)))) (λ c1 => Ok.ret (no (by rw [c1]; rfl)))
  rw [hP _ (hb x (List.mem_of_getElem? hx)), Option.bind_some]
  refine Ok.chk (by omega) (Ok.ret ⟨?_, ?_⟩)
  ·rw [ht, c1, c2, c3]
   rfl
  ·simp
   exact e2
 exact ⟨Ok.eq (key sParseSheet spec_ParseSheet), Ok.eq (key iParseSheet impl_ParseSheet)⟩
def resB (p : TPage) : TResult := ⟨p.xBuilder, [] ++ p.xLog, verdsB p, ⟨joinR (sheetsB p)⟩, p.xLoaded⟩
theorem eq_ResultOf (p : TPage) (o : p.ok) (h : p.size <= 1048576) : sResultOf p = some (resB p) /\ iResultOf p = some (resB p) := by
 have hb : p.xBuilder.size <= 1048576 := by unfold TPage.size at h; omega
 have hl : p.xLog.length <= 1048576 := by unfold TPage.size at h; omega
 obtain ⟨v1, v2, _⟩ := eq_Verdicts p o h
 obtain ⟨s1, s2⟩ := eq_Sheets p h
 refine ⟨?_, ?_⟩
 ·unfold sResultOf
  rw [s_Builder _ hb, Option.bind_some, chk_pos (by omega), v1, Option.bind_some, s1, Option.bind_some, spec_Join (few p h), Option.bind_some]
  rfl
 ·unfold iResultOf
  rw [i_Builder _ hb, Option.bind_some, chk_pos (by omega), v2, Option.bind_some, s2, Option.bind_some, impl_Join (few p h), Option.bind_some]
  rfl
def Dec (x : Option Bool) (p : Prop) : Prop := ∃ b, x = some b /\ (b = true ↔ p)
def DecS (x : Option (Unit ⊕ (Unit ⊕ Unit))) (p : Prop) : Prop := (p -> x = some (.inl ())) /\ (¬ p -> x = some (.inr (.inl ())))
section
variable {T : Type} {p q : Prop} {X f : Option Bool} {b : Bool}
theorem Dec.iff (h : Dec X p) (e : p ↔ q) : Dec X q := by obtain ⟨b, h1, h2⟩ := h; exact ⟨b, h1, h2.trans e⟩
theorem Dec.lit (h : b = true ↔ p) : Dec (some b) p := ⟨b, rfl, h⟩
theorem Dec.tt : Dec (some true) True := ⟨true, rfl, by simp⟩
theorem Dec.and (hb : b = true ↔ p) (hX : Dec X q) : Dec (br b X (some false)) (p /\ q) := by
 obtain ⟨c, h1, h2⟩ := hX
 cases b with
 | true => exact ⟨c, h1, by rw [h2]; exact ⟨λ h => ⟨hb.1 rfl, h⟩, λ h => h.2⟩⟩
 | false => exact ⟨false, rfl, ⟨λ h => (by cases h), λ h => by have := hb.2 h.1; cases this⟩⟩
theorem Dec.nand (hb : b = true ↔ p) (hX : Dec X q) : Dec (br (!b) (some false) X) (p /\ q) := by
 have := Dec.and hb hX
 cases b <;> exact this
theorem Dec.ne {x y : Int} (hX : Dec X q) : Dec (br (x != y) (some false) X) (x = y /\ q) := Dec.nand (b := x == y) (by simp) hX
theorem Dec.bind (hf : Dec f p) (hX : Dec X q) : Dec (f.bind λ r => br r X (some false)) (p /\ q) := by
 obtain ⟨c, rfl, h2⟩ := hf
 exact Dec.and h2 hX
theorem Dec.bindN (hf : Dec f p) (hX : Dec X q) : Dec (f.bind λ r => br (!r) (some false) X) (p /\ q) := by
 obtain ⟨c, rfl, h2⟩ := hf
 exact Dec.nand h2 hX
theorem Dec.bindE (hf : Dec f p) : Dec (f.bind λ r => some r) p := by
 obtain ⟨c, rfl, h2⟩ := hf
 exact ⟨c, rfl, h2⟩
theorem Dec.len {a b : List T} (hX : a.length = b.length -> Dec X q) : Dec (br ((a.length : Int) != (b.length : Int)) (some false) X) (a.length = b.length /\ q) := by
 rw [len_ne]
 by_cases c : a.length = b.length
 ·rw [decide_eq_true c]; exact (hX c).iff ⟨λ h => ⟨c, h⟩, λ h => h.2⟩
 ·rw [decide_eq_false c]; exact ⟨false, rfl, ⟨λ h => (by cases h), λ h => absurd h.1 c⟩⟩
theorem Dec.loopK [DecidableEq T] {a b : List T} {body : Nat -> T -> Unit -> Option (Unit ⊕ (Unit ⊕ Unit))} (hl : a.length = b.length) (hm : a.length <= maxLen)
  (h : ∀ i x y, a[i]? = some x -> b[i]? = some y -> DecS (body i x ()) (x = y)) (hX : Dec X q) : Dec ((forE a body (λ _ => (.inr () : Unit ⊕ Unit)) ()).bind (Sum.elim (λ _ => some false) (λ _ => X))) (a = b /\ q) := by
 rw [for_eqL (.inl ()) hl hm (λ i x y hx hy => by
  obtain ⟨h1, h2⟩ := h i x y hx hy
  by_cases c : x = y
  ·rw [if_pos c]; exact h1 c
  ·rw [if_neg c]; exact h2 c)]
 by_cases c : a = b
 ·rw [if_pos c]; exact hX.iff ⟨λ h => ⟨c, h⟩, λ h => h.2⟩
 ·rw [if_neg c]; exact ⟨false, rfl, ⟨λ h => (by cases h), λ h => absurd h.1 c⟩⟩
theorem Dec.loop [DecidableEq T] {a b : List T} {body : Nat -> T -> Unit -> Option (Unit ⊕ (Unit ⊕ Unit))} (hl : a.length = b.length) (hm : a.length <= maxLen)
  (h : ∀ i x y, a[i]? = some x -> b[i]? = some y -> DecS (body i x ()) (x = y)) : Dec ((forE a body (λ _ => (.inr () : Unit ⊕ Unit)) ()).bind (Sum.elim (λ _ => some false) (λ _ => some true))) (a = b) :=
 (Dec.loopK hl hm h Dec.tt).iff (by simp)
theorem Dec.list [DecidableEq T] {a b : List T} {body : Nat -> T -> Unit -> Option (Unit ⊕ (Unit ⊕ Unit))} (hm : a.length <= maxLen)
  (h : ∀ i x y, a[i]? = some x -> b[i]? = some y -> DecS (body i x ()) (x = y)) : Dec (br ((a.length : Int) != (b.length : Int)) (some false) ((forE a body (λ _ => (.inr () : Unit ⊕ Unit)) ()).bind (Sum.elim (λ _ => some false) (λ _ => some true)))) (a = b) :=
 (Dec.len (λ hl => Dec.loop hl hm h)).iff ⟨λ h => h.2, λ h => ⟨by rw [h], h⟩⟩
theorem DecS.get {l : List T} {i : Nat} {y : T} {X : T -> Option (Unit ⊕ (Unit ⊕ Unit))} (h : l[i]? = some y) (hX : DecS (X y) p) : DecS ((getI l (i : Int)).bind X) p := by rw [getI_nat h]; exact hX
theorem DecS.iff {X : Option (Unit ⊕ (Unit ⊕ Unit))} (h : DecS X p) (e : p ↔ q) : DecS X q := ⟨λ h2 => h.1 (e.2 h2), λ h2 => h.2 (λ h3 => h2 (e.1 h3))⟩
theorem DecS.tt : DecS (some (.inl ())) True := ⟨λ _ => rfl, λ h => absurd trivial h⟩
theorem DecS.nand {X : Option (Unit ⊕ (Unit ⊕ Unit))} (hb : b = true ↔ p) (hX : DecS X q) : DecS (br (!b) (some (.inr (.inl ()))) X) (p /\ q) := by
 cases b with
 | true => exact hX.iff ⟨λ h => ⟨hb.1 rfl, h⟩, λ h => h.2⟩
 | false => exact ⟨λ h => (by have := hb.2 h.1; cases this), λ _ => rfl⟩
theorem DecS.flat (hb : b = true ↔ p) : DecS (br (!b) (some (.inr (.inl ()))) (some (.inl ()))) p := (DecS.nand hb DecS.tt).iff (by simp)
theorem DecS.ne {x y : Int} {X : Option (Unit ⊕ (Unit ⊕ Unit))} (hX : DecS X q) : DecS (br (x != y) (some (.inr (.inl ()))) X) (x = y /\ q) := DecS.nand (b := x == y) (by simp) hX
theorem DecS.call {X : Option (Unit ⊕ (Unit ⊕ Unit))} (hf : Dec f p) (hX : DecS X q) : DecS (f.bind λ r => br (!r) (some (.inr (.inl ()))) X) (p /\ q) := by
 obtain ⟨c, rfl, h2⟩ := hf
 exact DecS.nand h2 hX
theorem DecS.call1 (hf : Dec f p) : DecS (f.bind λ r => br (!r) (some (.inr (.inl ()))) (some (.inl ()))) p := (DecS.call hf DecS.tt).iff (by simp)
theorem DecS.len {a b : List T} {X : Option (Unit ⊕ (Unit ⊕ Unit))} (hX : a.length = b.length -> DecS X q) : DecS (br ((a.length : Int) != (b.length : Int)) (some (.inr (.inl ()))) X) (a.length = b.length /\ q) := by
 rw [len_ne]
 by_cases c : a.length = b.length
 ·rw [decide_eq_true c]; exact (hX c).iff ⟨λ h => ⟨c, h⟩, λ h => h.2⟩
 ·rw [decide_eq_false c]; exact ⟨λ h => absurd h.1 c, λ _ => rfl⟩
theorem while_dec [DecidableEq T] {a b : List T} {body : Int -> Option (Int ⊕ (Unit ⊕ Unit))} (hl : a.length = b.length)
  (h : ∀ (i : Nat) x y, a[i]? = some x -> b[i]? = some y -> body (i : Int) = some (if x = y then .inl ((i + 1 : Nat) : Int) else .inr (.inl ()))) (hf : body (a.length : Int) = some (.inr (.inr ()))) :
  ∀ (zs ys : List T) (i : Nat), a.drop i = zs -> b.drop i = ys -> i <= a.length -> whileE body (i : Int) = some (if zs = ys then .inr () else .inl ()) := by
 intro zs
 induction zs with
 | nil =>
  intro ys i h1 h2 hi
  have : i = a.length := by
   have := List.drop_eq_nil_iff.1 h1
   omega
  subst this
  obtain rfl : ys = [] := by rw [<- h2, hl]; simp
  unfold whileE
  rw [whileInf_step, hf]
  rfl
 | cons z zs ih =>
  intro ys i h1 h2 hi
  have hz : a[i]? = some z := by
   have := congrArg (λ l => l[0]?) h1
   simpa using this
  have hlt := (gs_ hz).1
  cases ys with
  | nil => have := List.drop_eq_nil_iff.1 h2; omega
  | cons y ys =>
   have hy : b[i]? = some y := by
    have := congrArg (λ l => l[0]?) h2
    simpa using this
   unfold whileE
   rw [whileInf_step, h i z y hz hy]
   by_cases c : z = y
   ·rw [if_pos c]
    show whileE body ((i + 1 : Nat) : Int) = _
    rw [ih ys (i + 1) (by rw [<- List.tail_drop, h1]; rfl) (by rw [<- List.tail_drop, h2]; rfl) (by omega)]
    subst c
    simp
   ·rw [if_neg c]
    show some _ = some _
    rw [if_neg (by intro e; exact c (List.cons.inj e).1)]
theorem DecS.whileD [DecidableEq T] {a b : List T} {body : Int -> Option (Int ⊕ (Unit ⊕ Unit))} (hl : a.length = b.length)
  (h : ∀ (i : Nat) x y, a[i]? = some x -> b[i]? = some y -> body (i : Int) = some (if x = y then .inl ((i + 1 : Nat) : Int) else .inr (.inl ()))) (hf : body (a.length : Int) = some (.inr (.inr ()))) :
  DecS ((whileE body 0).bind (Sum.elim (λ _ => some (.inr (.inl ()))) (λ _ => some (.inl ())))) (a = b) := by
 have := while_dec hl h hf a b 0 rfl rfl (Nat.zero_le _)
 rw [show ((0 : Nat) : Int) = 0 from rfl] at this
 rw [this]
 by_cases c : a = b
 ·rw [if_pos c]; exact ⟨λ _ => rfl, λ h => absurd c h⟩
 ·rw [if_neg c]; exact ⟨λ h => absurd h c, λ _ => rfl⟩
end
theorem beqT {T : Type} [BEq T] [LawfulBEq T] {x y : T} : (x == y) = true ↔ x = y := beq_iff_eq
theorem cmpT {p : Prop} [Decidable p] {b : Bool} (h : b = decide p) : b = true ↔ p := by rw [h]; simp
section
variable {T : Type} {p q : Prop} {X f : Option Bool} {b : Bool}
theorem Dec.same {x y : Option Bool} (h : Dec x p) (h' : Dec y p) : ∃ r, x = some r /\ y = some r := by
 obtain ⟨a, h1, h2⟩ := h
 obtain ⟨c, h3, h4⟩ := h'
 exact ⟨a, h1, by rw [h3]; congr 1; rw [Bool.eq_iff_iff, h2, h4]⟩
theorem Dec.all {l : List T} {P : Nat -> T -> Prop} {body : Nat -> T -> Unit -> Option (Unit ⊕ (Unit ⊕ Unit))} (hm : l.length <= maxLen) (h : ∀ i x, l[i]? = some x -> DecS (body i x ()) (P i x)) (hX : Dec X q) :
  Dec ((forE l body (λ _ => (.inr () : Unit ⊕ Unit)) ()).bind (Sum.elim (λ _ => some false) (λ _ => X))) ((∀ i x, l[i]? = some x -> P i x) /\ q) := by
 have key : ∀ (zs : List T) (i : Nat), l.drop i = zs -> i <= l.length -> ∃ r : Unit ⊕ Unit, forA body (λ _ => (.inr () : Unit ⊕ Unit)) i zs () = some r /\ ((r = .inr ()) ↔ ∀ j x, i <= j -> l[j]? = some x -> P j x) := by
  intro zs
  induction zs with
  | nil =>
   intro i hd hi
   have := List.drop_eq_nil_iff.1 hd
   exact ⟨.inr (), rfl, by simp; intro j x hj hx; have := (gs_ hx).1; omega⟩
  | cons z zs ih =>
   intro i hd hi
   have hz : l[i]? = some z := by
    have := congrArg (λ l => l[0]?) hd
    simpa using this
   have hlt := (gs_ hz).1
   have hd' : l.drop (i + 1) = zs := by rw [<- List.tail_drop, hd]; rfl
   obtain ⟨h1, h2⟩ := h i z hz
   by_cases c : P i z
   ·obtain ⟨r, h3, h4⟩ := ih (i + 1) hd' (by omega)
    refine ⟨r, by rw [forA, h1 c]; exact h3, h4.trans ⟨λ hr j x hj hx => ?_, λ hr j x hj hx => hr j x (by omega) hx⟩⟩
    by_cases e : j = i
    ·subst e; rw [hz] at hx; injection hx with hx; subst hx; exact c
    ·exact hr j x (by omega) hx
   ·exact ⟨.inl (), by rw [forA, h2 c], by simp; exact ⟨i, Nat.le_refl _, z, hz, c⟩⟩
 obtain ⟨r, h1, h2⟩ := key l 0 rfl (Nat.zero_le _)
 unfold forE
 rw [if_pos hm, h1]
 cases r with
 | inl u => exact ⟨false, rfl, ⟨λ h => (by cases h), λ h => by have := h2.2 (λ j x _ hx => h.1 j x hx); cases this⟩⟩
 | inr u => exact hX.iff ⟨λ h => ⟨λ i x hx => h2.1 rfl i x (Nat.zero_le _) hx, h⟩, λ h => h.2⟩
theorem Dec.all1 {l : List T} {P : Nat -> T -> Prop} {body : Nat -> T -> Unit -> Option (Unit ⊕ (Unit ⊕ Unit))} (hm : l.length <= maxLen) (h : ∀ i x, l[i]? = some x -> DecS (body i x ()) (P i x)) :
  Dec ((forE l body (λ _ => (.inr () : Unit ⊕ Unit)) ()).bind (Sum.elim (λ _ => some false) (λ _ => some true))) (∀ i x, l[i]? = some x -> P i x) :=
 (Dec.all hm h Dec.tt).iff (by simp)
theorem Dec.any {l : List T} {P : T -> Prop} {body : Nat -> T -> Unit -> Option (Unit ⊕ (Unit ⊕ Unit))} (hm : l.length <= maxLen) (h : ∀ i x, l[i]? = some x -> DecS (body i x ()) (¬ P x)) :
  Dec ((forE l body (λ _ => (.inr () : Unit ⊕ Unit)) ()).bind (Sum.elim (λ _ => some true) (λ _ => some false))) (∃ x ∈ l, P x) := by
 have := Dec.all1 hm h
 obtain ⟨c, h1, h2⟩ := this
 cases hf : forE l body (λ _ => (.inr () : Unit ⊕ Unit)) () with
 | none => rw [hf] at h1; cases h1
 | some r =>
  rw [hf] at h1
  cases r with
  | inl u =>
   have hc : c = false := by injection h1 with h1; exact h1.symm
   refine ⟨true, rfl, ⟨λ _ => ?_, λ _ => rfl⟩⟩
   subst hc
   apply Classical.byContradiction
   intro hn
   have : ∀ i x, l[i]? = some x -> ¬ P x := λ i x hx hp => hn ⟨x, List.mem_of_getElem? hx, hp⟩
   have := h2.2 this
   cases this
  | inr u =>
   have hc : c = true := by injection h1 with h1; exact h1.symm
   refine ⟨false, rfl, ⟨λ h => (by cases h), λ ⟨x, hx, hp⟩ => ?_⟩⟩
   obtain ⟨i, hi, rfl⟩ := List.mem_iff_getElem.1 hx
   exact absurd hp (h2.1 hc i _ (List.getElem?_eq_getElem hi))
end
theorem d_Attr (a b : List TAttr) (h : a.length <= maxLen) : Dec (g_slices_Equal_Attr_Attr a b) (a = b) := Dec.list h (λ i x y _ hy => DecS.get hy (DecS.flat (cmpT (TAttr.cmp x y))))
theorem d_string (a b : List (List UInt8)) (h : a.length <= maxLen) : Dec (g_slices_Equal_string_string a b) (a = b) := Dec.list h (λ i x y _ hy => DecS.get hy (DecS.flat beqT))
theorem d_int (a b : List Int) (h : a.length <= maxLen) : Dec (g_slices_Equal_int_int a b) (a = b) := Dec.list h (λ i x y _ hy => DecS.get hy ((DecS.ne DecS.tt).iff (by simp)))
theorem d_iNode (a b : TNode) (h : a.ok) : Dec (iequalNodes a b) (a = b) := by
 obtain ⟨_, _, _, h4, _⟩ := h
 refine (Dec.and beqT (Dec.and beqT (Dec.and beqT (Dec.bindE (d_Attr _ _ h4.1))))).iff ?_
 obtain ⟨a1, a2, a3, a4⟩ := a; obtain ⟨b1, b2, b3, b4⟩ := b
 simp
theorem d_iBuilders (a b : TBuilder) (h : a.ok) : Dec (iEqualBuilders a b) (a = b) := by
 obtain ⟨h1, h2, _⟩ := h
 refine (Dec.bind (Dec.list h1.1 (λ i x y hx hy => DecS.get hy (DecS.call1 (d_iNode x y (h1.2 x (List.mem_of_getElem? hx)))))) (Dec.bindE (d_int _ _ h2.1))).iff ?_
 obtain ⟨a1, a2⟩ := a; obtain ⟨b1, b2⟩ := b
 simp
theorem d_l9Same (a b : List (List UInt8)) (h : a.length <= maxLen) : Dec (sl9Same a b) (a = b) := Dec.list h (λ i x y _ hy => DecS.get hy (DecS.flat beqT))
theorem d_sInts (a b : List Int) (h : a.length <= maxLen) : Dec (sEqualInts a b) (a = b) := Dec.list h (λ i x y _ hy => DecS.get hy ((DecS.ne DecS.tt).iff (by simp)))
theorem d_sNode (a b : TNode) (h : a.ok) : Dec (sl6Same a b) (a = b) := by
 obtain ⟨_, _, _, h4, _⟩ := h
 refine (Dec.nand beqT (Dec.nand beqT (Dec.ne (Dec.len (λ hl => Dec.loop hl h4.1 (λ i x y _ hy => DecS.get hy (DecS.flat (cmpT (TAttr.cmp x y))))))))).iff ?_
 obtain ⟨a1, a2, a3, a4⟩ := a; obtain ⟨b1, b2, b3, b4⟩ := b
 simp <;> grind
theorem d_sBuilders (a b : TBuilder) (h : a.ok) : Dec (sEqualBuilders a b) (a = b) := by
 obtain ⟨h1, h2, _⟩ := h
 refine (Dec.len (λ hl => Dec.bindN (d_sInts _ _ h2.1) (Dec.loop hl h1.1 (λ i x y hx hy => DecS.get hy (DecS.call1 (d_sNode x y (h1.2 x (List.mem_of_getElem? hx)))))))).iff ?_
 obtain ⟨a1, a2⟩ := a; obtain ⟨b1, b2⟩ := b
 simp <;> grind
theorem d_File (a b : List TFile) (h : a.length <= maxLen) : Dec (g_slices_Equal_File_File a b) (a = b) := Dec.list h (λ i x y _ hy => DecS.get hy (DecS.flat (cmpT (TFile.cmp x y))))
theorem d_iServer (x y : TServer) (h : x.ok) : Dec (iEqualServers_1 x y) (x = y) := by
 obtain ⟨_, h2, _⟩ := h
 refine (Dec.and beqT (Dec.bindE (d_File _ _ h2.1))).iff ?_
 obtain ⟨x1, x2⟩ := x; obtain ⟨y1, y2⟩ := y
 simp
theorem d_iServers (a b : List TServer) (h : okL TServer.ok a) : Dec (iEqualServers a b) (a = b) :=
 Dec.bindE (Dec.list h.1 (λ i x y hx hy => DecS.get hy (DecS.call1 (d_iServer x y (h.2 x (List.mem_of_getElem? hx))))))
theorem DecS.val {A : Type} {f : Option A} {v : A} {X : A -> Option (Unit ⊕ (Unit ⊕ Unit))} {p : Prop} (h : f = some v) (hX : DecS (X v) p) : DecS (f.bind X) p := by subst h; exact hX
theorem while_body {T : Type} [DecidableEq T] {x y : T} {b : Bool} {i : Nat} (hb : b = true ↔ x = y) (hi : i < 9223372036854775807) : br (!b) (some (.inr (.inl ()))) (some (.inl (IntKind.wrap .i64 ((i : Int) + 1)))) = some (if x = y then (.inl ((i + 1 : Nat) : Int) : Int ⊕ (Unit ⊕ Unit)) else .inr (.inl ())) := by
 rw [wrapS hi]
 by_cases c : x = y
 ·rw [if_pos c, hb.2 c]; rfl
 ·rw [if_neg c]
  have : b = false := by cases b with
   | true => exact absurd (hb.1 rfl) c
   | false => rfl
  rw [this]; rfl
theorem d_sServers (a b : List TServer) (h : okL TServer.ok a) : Dec (sEqualServers a b) (a = b) := by
 refine Dec.list h.1 (λ i x y hx hy => ?_)
 obtain ⟨_, h2, _⟩ := h.2 x (List.mem_of_getElem? hx)
 have hm := h2.1
 unfold maxLen at hm
 refine DecS.iff (p := x.xHost = y.xHost /\ x.xFiles.length = y.xFiles.length /\ x.xFiles = y.xFiles) ?_ ?_
 ·refine DecS.get hy (DecS.nand beqT (DecS.get hy (DecS.len (λ hl => DecS.whileD hl ?_ ?_))))
  ·intro j u v hu hv
   have hj := (gs_ hu).1
   exact brE (Int.ofNat_lt.2 hj) (getI_bind hu (getI_bind hy (getI_bind hv (while_body (cmpT (TFile.cmp u v)) (by omega)))))
  ·exact brN (Int.lt_irrefl _) rfl
 obtain ⟨x1, x2⟩ := x; obtain ⟨y1, y2⟩ := y
 constructor
 ·rintro ⟨e1, _, e2⟩; simp only at e1 e2; subst e1; subst e2; rfl
 ·intro e; cases e; exact ⟨rfl, rfl, rfl⟩
theorem d_Rule (a b : List TRule) (h : a.length <= maxLen) : Dec (g_slices_Equal_Rule_Rule a b) (a = b) := Dec.list h (λ i x y _ hy => DecS.get hy (DecS.flat (cmpT (TRule.cmp x y))))
theorem d_sSheets (a b : List TSheet) (hl : a.length <= maxLen) (h : ∀ x ∈ a, x.xRules.length <= 8388608) : Dec (sEqualSheets a b) (a = b) := by
 refine Dec.list hl (λ i x y hx hy => ?_)
 have h2 := h x (List.mem_of_getElem? hx)
 refine DecS.iff (p := x.xRules.length = y.xRules.length /\ x.xRules = y.xRules) ?_ ?_
 ·refine DecS.get hy (DecS.len (λ hl => DecS.whileD hl ?_ ?_))
  ·intro j u v hu hv
   have hj := (gs_ hu).1
   exact brE (Int.ofNat_lt.2 hj) (getI_bind hu (getI_bind hy (getI_bind hv (while_body (cmpT (TRule.cmp u v)) (by omega)))))
  ·exact brN (Int.lt_irrefl _) rfl
 obtain ⟨x1⟩ := x; obtain ⟨y1⟩ := y
 constructor
 ·rintro ⟨_, e2⟩; simp only at e2; subst e2; rfl
 ·intro e; cases e; exact ⟨rfl, rfl⟩
def ResOk (a : TResult) : Prop := a.xBuilder.ok /\ a.xLog.length <= maxLen /\ a.xVerdicts.length <= maxLen /\ a.xSheet.xRules.length <= 8388608
theorem d_iResults (a b : TResult) (h : ResOk a) : Dec (iEqualResults a b) (a = b) := by
 obtain ⟨h1, h2, h3, h4⟩ := h
 refine (Dec.bind (d_iBuilders _ _ h1) (Dec.bind (d_string _ _ h2) (Dec.bind (d_string _ _ h3) (Dec.bind (Dec.bindE (d_Rule _ _ (by unfold maxLen; omega))) (Dec.lit beqT))))).iff ?_
 obtain ⟨a1, a2, a3, ⟨a4⟩, a5⟩ := a; obtain ⟨b1, b2, b3, ⟨b4⟩, b5⟩ := b
 simp
theorem d_sResults (a b : TResult) (h : ResOk a) : Dec (sEqualResults a b) (a = b) := by
 obtain ⟨h1, h2, h3, h4⟩ := h
 refine (Dec.bind (d_sBuilders _ _ h1) (Dec.bind (d_l9Same _ _ h2) (Dec.bind (d_l9Same _ _ h3) (Dec.bind (d_sSheets [a.xSheet] [b.xSheet] (by simp [maxLen]) (λ x hx => by rw [List.mem_singleton.1 hx]; exact h4)) (Dec.lit beqT))))).iff ?_
 obtain ⟨a1, a2, a3, ⟨a4⟩, a5⟩ := a; obtain ⟨b1, b2, b3, ⟨b4⟩, b5⟩ := b
 simp
theorem res_ok (p : TPage) (o : p.ok) (h : p.size <= 1048576) : ResOk (resB p) := by
 have hl : p.xLog.length <= 1048576 := by unfold TPage.size at h; omega
 obtain ⟨_, _, hv⟩ := eq_Verdicts p o h
 refine ⟨o.2.2.2.2.2.1, ?_, ?_, ?_⟩
 ·show ([] ++ p.xLog).length <= maxLen
  unfold maxLen
  simp
  omega
 ·show (verdsB p).length <= maxLen
  unfold maxLen
  omega
 ·show (joinR (sheetsB p)).length <= 8388608
  unfold joinR
  rw [List.length_map]
  have h1 := compS_len (sortS (namesL (sheetsB p)))
  have h2 : (sortS (namesL (sheetsB p))).length = (namesL (sheetsB p)).length := List.length_mergeSort _
  have h3 := names_len (few p h) (sheetsB p).length (Nat.le_refl _)
  rw [List.take_length] at h3
  have h4 := (few p h).1
  omega
def SameV (x y : TVisit) : Prop := x.xAddr = y.xAddr /\ x.xKept = y.xKept /\ resB x.xPage = resB y.xPage
theorem d_iVisit1 (x y : TVisit) (ox : x.ok) (oy : y.ok) (hx : x.xPage.size <= 1048576) (hy : y.xPage.size <= 1048576) : Dec (iSameVisits_1 x y) (SameV x y) := by
 refine Dec.and (cmpT (TAddr.cmp _ _)) (Dec.and beqT ?_)
 rw [(eq_ResultOf _ ox.2.1 hx).2, (eq_ResultOf _ oy.2.1 hy).2, Option.bind_some, Option.bind_some]
 exact Dec.bindE (d_iResults _ _ (res_ok _ ox.2.1 hx))
theorem visit_size {t : TTab} (h : t.size <= 1048576) {i : Nat} {x : TVisit} (hx : t.xVisits[i]? = some x) : x.xPage.size <= 1048576 := by
 have h1 := sumL_mem (f := TVisit.size) (List.mem_of_getElem? hx)
 have h2 : x.xPage.size <= x.size := by unfold TVisit.size; omega
 unfold TTab.size at h
 omega
def SameT (a b : TTab) : Prop := a.xAt = b.xAt /\ a.xVisits.length = b.xVisits.length /\ ∀ (i : Nat) (x : TVisit), a.xVisits[i]? = some x -> ∀ y : TVisit, b.xVisits[i]? = some y -> SameV x y
theorem at_len {T : Type} {a b : List T} (hl : a.length = b.length) {i : Nat} {x : T} (hx : a[i]? = some x) : ∃ y, b[i]? = some y := by
 have := (gs_ hx).1
 exact ⟨b[i], List.getElem?_eq_getElem (by omega)⟩
theorem only_y {T : Type} {b : List T} {i : Nat} {y : T} {Q : T -> Prop} (hy : b[i]? = some y) : (∀ y, b[i]? = some y -> Q y) ↔ Q y := ⟨λ h => h y hy, λ h z hz => by rw [hy] at hz; injection hz with hz; rw [<- hz]; exact h⟩
theorem d_iTab (a b : TTab) (oa : a.ok) (ob : b.ok) (ha : a.size <= 1048576) (hb : b.size <= 1048576) : Dec (iSameVisits a b) (SameT a b) := by
 have hl : a.xVisits.length <= maxLen := oa.1.1
 refine Dec.and beqT (Dec.bindE (Dec.len (λ hlen => Dec.all1 hl (λ i x hx => ?_))))
 obtain ⟨y, hy⟩ := at_len hlen hx
 exact (DecS.get hy (DecS.call1 (d_iVisit1 x y (oa.1.2 x (List.mem_of_getElem? hx)) (ob.1.2 y (List.mem_of_getElem? hy)) (visit_size ha hx) (visit_size hb hy)))).iff (only_y hy).symm
theorem d_sTab (a b : TTab) (oa : a.ok) (ob : b.ok) (ha : a.size <= 1048576) (hb : b.size <= 1048576) : Dec (sSameVisits a b) (SameT a b) := by
 have hl : a.xVisits.length <= maxLen := oa.1.1
 refine Dec.ne (Dec.len (λ hlen => Dec.all1 hl (λ i x hx => ?_)))
 obtain ⟨y, hy⟩ := at_len hlen hx
 have ox := oa.1.2 x (List.mem_of_getElem? hx)
 have oy := ob.1.2 y (List.mem_of_getElem? hy)
 refine (DecS.get hy (DecS.nand (cmpT (TAddr.cmp _ _)) (DecS.nand beqT (DecS.val (eq_ResultOf _ ox.2.1 (visit_size ha hx)).1 (DecS.val (eq_ResultOf _ oy.2.1 (visit_size hb hy)).1 (DecS.call1 (d_sResults _ _ (res_ok _ ox.2.1 (visit_size ha hx))))))))).iff ?_
 exact (only_y (Q := λ y => SameV x y) hy).symm
theorem d_sHasE (c : TCache) (e : TEntry) (h : c.xEntries.length <= maxLen) : Dec (sl37Has c e) (e ∈ c.xEntries) := by
 unfold sl37Has
 refine Dec.iff (Dec.any (P := λ x => x = e) h (λ i x hx => ?_)) (by simp)
 rw [TEntry.cmp]
 by_cases c : x = e
 ·rw [decide_eq_true c]; exact ⟨λ h => absurd c h, λ _ => rfl⟩
 ·rw [decide_eq_false c]; exact ⟨λ _ => rfl, λ h => absurd c h⟩
theorem d_hasE (l : List TEntry) (s : TEntry) (h : l.length <= maxLen) : Dec (g_slices_Contains_Entry_Entry l s) (s ∈ l) := by
 have key : Ok (g_slices_Index_Entry_Entry l s) (λ r => (0 <= r ↔ s ∈ l)) := by
  unfold g_slices_Index_Entry_Entry
  refine Ok.bind (Q1 := λ z => match z with
   | .inl r => (0 <= r /\ s ∈ l)
   | .inr _ => ¬ s ∈ l) (Ok.for h (λ i _ => ∀ j x, j < i -> l[j]? = some x -> x ≠ s) (λ j x hj => by omega) (λ i x u hx hi => ?_) (λ u hu => ?_)) (λ r _ hr => ?_)
  ·rw [TEntry.cmp]
   refine Ok.br (λ c => Ok.ret ⟨by omega, ?_⟩) (λ c => Ok.ret (λ j y hj hy => ?_))
   ·have : s = x := of_decide_eq_true c
    rw [this]; exact List.mem_of_getElem? hx
   ·by_cases e : j = i
    ·subst e
     rw [hx] at hy
     injection hy with hy
     subst hy
     have : ¬ s = x := of_decide_eq_false c
     exact λ e => this e.symm
    ·exact hi j y (by omega) hy
  ·intro hm
   obtain ⟨j, hj, e⟩ := List.mem_iff_getElem.1 hm
   exact hu j _ hj (List.getElem?_eq_getElem hj) e
  ·cases r with
   | inl r => exact Ok.ret ⟨λ _ => hr.2, λ _ => hr.1⟩
   | inr u => exact Ok.ret ⟨λ h => absurd h (by omega), λ h => absurd h hr⟩
 obtain ⟨r, hr, hq⟩ := key
 unfold g_slices_Contains_Entry_Entry
 rw [hr]
 exact ⟨_, rfl, by rw [<- hq]; simp⟩
def CoverP (a b : TCache) : Prop := ∀ (i : Nat) (x : TEntry), a.xEntries[i]? = some x -> x ∈ b.xEntries
theorem d_cover (a b : TCache) (ha : a.xEntries.length <= maxLen) (hb : b.xEntries.length <= maxLen) : Dec (icoveredBy a b) (CoverP a b) :=
 Dec.all1 ha (λ i x _ => DecS.call1 (d_hasE _ x hb))
theorem d_iCachesS (a b : TCache) (ha : a.xEntries.length <= maxLen) (hb : b.xEntries.length <= maxLen) : Dec (iSameCaches a b) (CoverP a b /\ CoverP b a) :=
 Dec.bind (d_cover a b ha hb) (Dec.bindE (d_cover b a hb ha))
theorem d_sCachesS (a b : TCache) (ha : a.xEntries.length <= maxLen) (hb : b.xEntries.length <= maxLen) : Dec (sSameCaches a b) (CoverP a b /\ CoverP b a) :=
 Dec.all ha (λ i x _ => DecS.call1 (d_sHasE b x hb)) (Dec.all1 hb (λ i x _ => DecS.call1 (d_sHasE a x ha)))
theorem eq_IsEquivalent (a b : TWorld) (oa : a.ok) (ob : b.ok) (ha : a.size <= 1048576) (hb : b.size <= 1048576) : ∃ r, sIsEquivalent a b = some r /\ iIsEquivalent a b = some r := by
 have ta : a.xTab.size <= 1048576 /\ a.xTab.ok /\ okL TServer.ok a.xNet.xServers /\ a.xNet.xCache.xEntries.length <= maxLen := ⟨by unfold TWorld.size at ha; omega, oa.2.1, oa.1.1, oa.1.2.1.1.1⟩
 have tb : b.xTab.size <= 1048576 /\ b.xTab.ok /\ okL TServer.ok b.xNet.xServers /\ b.xNet.xCache.xEntries.length <= maxLen := ⟨by unfold TWorld.size at hb; omega, ob.2.1, ob.1.1, ob.1.2.1.1.1⟩
 refine Dec.same (p := SameT a.xTab b.xTab /\ (CoverP a.xNet.xCache b.xNet.xCache /\ CoverP b.xNet.xCache a.xNet.xCache) /\ a.xNet.xServers = b.xNet.xServers /\ a.xNet.xNow = b.xNet.xNow) ?_ ?_
 ·exact Dec.bind (d_sTab _ _ ta.2.1 tb.2.1 ta.1 tb.1) (Dec.bind (d_sCachesS _ _ ta.2.2.2 tb.2.2.2) (Dec.bind (d_sServers _ _ ta.2.2.1) (Dec.lit beqT)))
 ·exact Dec.bind (d_iTab _ _ ta.2.1 tb.2.1 ta.1 tb.1) (Dec.bind (d_iCachesS _ _ ta.2.2.2 tb.2.2.2) (Dec.bind (d_iServers _ _ ta.2.2.1) (Dec.lit beqT)))
theorem le_FnExactIsEquivalent (a b : TWorld) (ha : a.ok) (hb : b.ok) : lFnExactIsEquivalent a b = some true := by
 refine E_sz (n := a.size) (if_pos ⟨by omega, by omega, ha⟩) (λ m hm h0 hle => E_sz (n := b.size) (if_pos ⟨h0, by omega, hb⟩) (λ m2 hm2 h02 hle2 => ?_))
 have hs : a.size <= 1048576 := by omega
 have hs' : b.size <= 1048576 := by omega
 obtain ⟨u, hu, hv⟩ := eq_IsEquivalent a b ha hb hs hs'
 exact E_bind (if_pos hs) (E_bind (if_pos hs') (E_bind hu (E_bind (if_pos hs) (E_bind (if_pos hs') (E_bind hv (E_no (by simp) (E_bind (if_pos hs) (E_bind (if_pos ha) (E_no (by simp) (E_bind (if_pos hs') (E_bind (if_pos hb) (E_no (by simp) rfl))))))))))))
theorem law4 (a0 : TWorld) (a1 : TWorld) (o0 : a0.ok) (o1 : a1.ok) (k : Bool -> Option M) : F4 M (rows kServer TServer.row a0.xNet.xServers) (rows kEntry TEntry.row a0.xNet.xCache.xEntries) (rows kSent TSent.row a0.xNet.xLog) a0.xNet.xNow (rows kVisit TVisit.row a0.xTab.xVisits) a0.xTab.xAt a0.xHidden.xReady a0.xHidden.xPage.xAddr.xHost a0.xHidden.xPage.xAddr.xPath a0.xHidden.xPage.xPolicy.xSet (rStr a0.xHidden.xPage.xPolicy.xScripts) (rStr a0.xHidden.xPage.xPolicy.xStyles) (rStr a0.xHidden.xPage.xPolicy.xImages) a0.xHidden.xPage.xPolicy.xNonce a0.xHidden.xPage.xTok.xRest (rows kToken TToken.row a0.xHidden.xPage.xQueue) a0.xHidden.xPage.xEnded (rows kNode TNode.row a0.xHidden.xPage.xBuilder.xNodes) (rInt a0.xHidden.xPage.xBuilder.xOpen) (rows kSlot TSlot.row a0.xHidden.xPage.xSlots) (rows kModule TModule.row a0.xHidden.xPage.xMods) (rows kAddr TAddr.row a0.xHidden.xPage.xEntries) a0.xHidden.xPage.xBlock a0.xHidden.xPage.xInline a0.xHidden.xPage.xDeferred a0.xHidden.xPage.xEntered (rows kAddr TAddr.row a0.xHidden.xPage.xRan) (rStr a0.xHidden.xPage.xLog) a0.xHidden.xPage.xLoaded (rows kKept TKept.row a0.xHidden.xTaken) (rows kServer TServer.row a0.xHidden.xServers) a0.xHidden.xNow a0.xFast (rows kServer TServer.row a1.xNet.xServers) (rows kEntry TEntry.row a1.xNet.xCache.xEntries) (rows kSent TSent.row a1.xNet.xLog) a1.xNet.xNow (rows kVisit TVisit.row a1.xTab.xVisits) a1.xTab.xAt a1.xHidden.xReady a1.xHidden.xPage.xAddr.xHost a1.xHidden.xPage.xAddr.xPath a1.xHidden.xPage.xPolicy.xSet (rStr a1.xHidden.xPage.xPolicy.xScripts) (rStr a1.xHidden.xPage.xPolicy.xStyles) (rStr a1.xHidden.xPage.xPolicy.xImages) a1.xHidden.xPage.xPolicy.xNonce a1.xHidden.xPage.xTok.xRest (rows kToken TToken.row a1.xHidden.xPage.xQueue) a1.xHidden.xPage.xEnded (rows kNode TNode.row a1.xHidden.xPage.xBuilder.xNodes) (rInt a1.xHidden.xPage.xBuilder.xOpen) (rows kSlot TSlot.row a1.xHidden.xPage.xSlots) (rows kModule TModule.row a1.xHidden.xPage.xMods) (rows kAddr TAddr.row a1.xHidden.xPage.xEntries) a1.xHidden.xPage.xBlock a1.xHidden.xPage.xInline a1.xHidden.xPage.xDeferred a1.xHidden.xPage.xEntered (rows kAddr TAddr.row a1.xHidden.xPage.xRan) (rStr a1.xHidden.xPage.xLog) a1.xHidden.xPage.xLoaded (rows kKept TKept.row a1.xHidden.xTaken) (rows kServer TServer.row a1.xHidden.xServers) a1.xHidden.xNow a1.xFast k = k true :=
 ei_lFnExactIsEquivalent a0 a1 k true (le_FnExactIsEquivalent a0 a1 o0 o1)
end
end Go.Am
