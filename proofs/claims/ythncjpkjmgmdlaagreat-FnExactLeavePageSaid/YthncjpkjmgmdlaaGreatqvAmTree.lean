/-
  Trees of slices in memory, no block of them twice; trees whose cells hold marks, one number after the other.
-/
import Derived.Test.YthncjpkjmgmdlaaGreatqvAmMore
import Derived.Test.YthncjpkjmgmdlaaGreatqvAmExt
import Derived.Test.YthncjpkjmgmdlaaGreatqvAmDraw
section
set_option linter.unusedVariables false
set_option linter.unusedSimpArgs false
namespace Go.Am
open Go
variable {β : Type}
noncomputable def mt (k : Nat) : List UInt8 := (lmarkText (k : Int)).getD []
theorem mt_eq (k : Nat) (h : k < 4611686018427387904) : lmarkText (k : Int) = some (mt k) := by
 have : Ok (lmarkText (k : Int)) (fun _ => True) := by
  unfold lmarkText
  refine Ok.br (fun _ => Ok.ret trivial) (fun _ => Ok.bind (Q1 := fun r : List UInt8 => r.length ≤ k) (Ok.while (fun s : Int × List UInt8 => 0 ≤ s.1 ∧ s.2.length + s.1.toNat ≤ k) (fun s => s.1.toNat) ⟨Int.natCast_nonneg _, by simp⟩ (fun s hs => ?_)) (fun r _ hr => Ok.chk (by omega) (Ok.ret trivial)))
  obtain ⟨s1, s2⟩ := s
  obtain ⟨h0, h1⟩ := hs
  dsimp only at h0 h1 ⊢
  refine Ok.br (fun c => ?_) (fun c => Ok.ret (by omega))
  have c : 0 < s1 := by simpa using c
  have ht : Int.tdiv s1 10 = ((s1.toNat / 10 : Nat) : Int) := by
   conv => lhs; rw [show s1 = ((s1.toNat : Nat) : Int) by omega]
   rfl
  have hw : IntKind.wrap .i64 (Int.tdiv s1 10) = ((s1.toNat / 10 : Nat) : Int) := by
   rw [ht]
   simp [IntKind.wrap, IntKind.bits, IntKind.signed]
   omega
  refine Ok.chk (by simp [strI]; omega) (Ok.ret ?_)
  rw [hw]
  refine ⟨⟨Int.natCast_nonneg _, ?_⟩, ?_⟩
  ·simp [strI]; omega
  ·simp; omega
 obtain ⟨r, e, _⟩ := this
 unfold mt
 rw [e]
 rfl
theorem Ok.copy {T : Type} {l : List T} {body : Nat → T → List T → Option (List T ⊕ List T)} (hl : l.length ≤ maxLen) (h : ∀ i x s, l[i]? = some x → i < l.length → s.length = i → Ok (body i x s) (fun z => z = .inl (s ++ [x]))) : Ok (forE l body (fun s => s) []) (fun r => r = l) := by
 refine Ok.for hl (fun i s => s = l.take i) (by simp) (fun i x s hx hs => ?_) (fun s hs => by rw [hs]; exact List.take_length)
 have hi := (List.getElem?_eq_some_iff.1 hx).1
 refine Ok.mono (h i x s hx hi (by rw [hs, List.length_take]; omega)) (fun z _ hz => ?_)
 subst hz
 show s ++ [x] = l.take (i + 1)
 rw [hs, List.take_add_one, hx]
 rfl
theorem Ok.eq {α : Type} {x : Option α} {a : α} (h : Ok x (fun r => r = a)) : x = some a := by
 obtain ⟨r, h1, rfl⟩ := h
 exact h1
theorem Ok.is {α γ : Type} {x : Option α} {a : α} {f : α → Option γ} {Q : γ → Prop} (h : x = some a) (h2 : Ok (f a) Q) : Ok (x.bind f) Q := by
 subst h
 exact h2
theorem s_Policy (p : TPolicy) (h : p.size ≤ 1048576) : sl9Copy p = some p := by
 unfold TPolicy.size at h
 exact Ok.eq (Ok.chk (by omega) (Ok.chk (by omega) (Ok.chk (by omega) (Ok.ret rfl))))
theorem i_Policy (p : TPolicy) (h : p.size ≤ 1048576) : icopyPolicy p = some p := by
 unfold TPolicy.size at h
 exact Ok.eq (Ok.chk (by omega) (Ok.chk (by omega) (Ok.chk (by omega) (Ok.ret rfl))))
theorem s_Attrs (l : List TAttr) (h : l.length ≤ 1048576) : sl6Attrs l = some l := Ok.eq (Ok.chk (by omega) (Ok.ret rfl))
theorem s_Tokens (l : List TToken) (h : l.length + sumL TToken.size l ≤ 1048576) : sl15Tokens l = some l := by
 refine Ok.eq (Ok.bind (Ok.copy (by unfold maxLen; omega) (fun i x s hx hi hs => ?_)) (fun r _ hr => Ok.ret hr))
 have := sumL_mem (f := TToken.size) (List.mem_of_getElem? hx)
 have h2 : x.xAttrs.length ≤ x.size := by unfold TToken.size; omega
 exact Ok.is (s_Attrs _ (by omega)) (Ok.chk (by omega) (Ok.ret rfl))
theorem i_Token (x : TToken) (h : x.size ≤ 1048576) : icopyToken x = some x := by
 have h2 : x.xAttrs.length ≤ x.size := by unfold TToken.size; omega
 exact Ok.eq (Ok.chk (by omega) (Ok.ret rfl))
theorem i_Tokens (l : List TToken) (h : l.length + sumL TToken.size l ≤ 1048576) : icopyTokens l = some l := by
 refine Ok.eq (Ok.bind (Ok.copy (by unfold maxLen; omega) (fun i x s hx hi hs => ?_)) (fun r _ hr => Ok.ret hr))
 have := sumL_mem (f := TToken.size) (List.mem_of_getElem? hx)
 exact Ok.is (i_Token _ (by omega)) (Ok.chk (by omega) (Ok.ret rfl))
theorem s_Builder (b : TBuilder) (h : b.size ≤ 1048576) : sl6Copy b = some b := by
 unfold TBuilder.size at h
 refine Ok.eq (Ok.chk (by omega) (Ok.bind (Ok.copy (by unfold maxLen; omega) (fun i x s hx hi hs => ?_)) (fun r _ hr => Ok.ret (by rw [hr]; rfl))))
 have := sumL_mem (f := TNode.size) (List.mem_of_getElem? hx)
 have h2 : x.xAttrs.length ≤ x.size := by unfold TNode.size; omega
 exact Ok.is (s_Attrs _ (by omega)) (Ok.chk (by omega) (Ok.ret rfl))
theorem i_Builder (b : TBuilder) (h : b.size ≤ 1048576) : icopyBuilder b = some b := by
 unfold TBuilder.size at h
 refine Ok.eq (Ok.chk (by omega) (Ok.bind (Ok.copy (by unfold maxLen; omega) (fun i x s hx hi hs => ?_)) (fun r _ hr => Ok.ret (by rw [hr]; rfl))))
 have := sumL_mem (f := TNode.size) (List.mem_of_getElem? hx)
 have h2 : x.xAttrs.length ≤ x.size := by unfold TNode.size; omega
 exact Ok.chk (by omega) (Ok.chk (by omega) (Ok.ret rfl))
theorem s_Page (p : TPage) (h : p.size ≤ 1048576) : sl15Copy p = some p := by
 unfold TPage.size at h
 exact Ok.eq (Ok.is (s_Policy _ (by omega)) (Ok.is (s_Tokens _ (by omega)) (Ok.is (s_Builder _ (by omega)) (Ok.chk (by omega) (Ok.chk (by omega) (Ok.chk (by omega) (Ok.chk (by omega) (Ok.chk (by omega) (Ok.ret rfl)))))))))
theorem i_Page (p : TPage) (h : p.size ≤ 1048576) : icopyPage p = some p := by
 unfold TPage.size at h
 exact Ok.eq (Ok.is (i_Policy _ (by omega)) (Ok.is (i_Tokens _ (by omega)) (Ok.is (i_Builder _ (by omega)) (Ok.chk (by omega) (Ok.chk (by omega) (Ok.chk (by omega) (Ok.chk (by omega) (Ok.chk (by omega) (Ok.ret rfl)))))))))
theorem s_Tab (t : TTab) (h : t.size ≤ 1048576) : sl31Copy t = some t := by
 unfold TTab.size at h
 refine Ok.eq (Ok.bind (Ok.copy (by unfold maxLen; omega) (fun i x s hx hi hs => ?_)) (fun r _ hr => Ok.ret (by rw [hr])))
 have := sumL_mem (f := TVisit.size) (List.mem_of_getElem? hx)
 have h2 : x.xPage.size ≤ x.size := by unfold TVisit.size; omega
 exact Ok.is (s_Page _ (by omega)) (Ok.chk (by omega) (Ok.ret rfl))
theorem i_Tab (t : TTab) (h : t.size ≤ 1048576) : icopyTab t = some t := by
 unfold TTab.size at h
 refine Ok.eq (Ok.bind (Ok.copy (by unfold maxLen; omega) (fun i x s hx hi hs => ?_)) (fun r _ hr => Ok.ret (by rw [hr])))
 have := sumL_mem (f := TVisit.size) (List.mem_of_getElem? hx)
 have h2 : x.xPage.size ≤ x.size := by unfold TVisit.size; omega
 exact Ok.is (i_Page _ (by omega)) (Ok.chk (by omega) (Ok.ret rfl))
theorem modI_at {T : Type} {l : List T} {n : Int} {f : T → T} (h : n.toNat < l.length) : modI l n f = some (l.set n.toNat (f l[n.toNat])) := by
 unfold modI
 rw [List.getElem?_eq_getElem h]
theorem wrap_pred {n : Nat} (h : n ≤ 1048576) : IntKind.wrap .i64 ((n : Int) - 1) = (n : Int) - 1 := by
 simp [IntKind.wrap, IntKind.bits, IntKind.signed]
 omega
theorem s_In (t : TTab) (i : Int) (h : t.size ≤ 1048576) : sl1In i 0 (IntKind.wrap .i64 ((t.xVisits.length : Int) - 1)) = some (decide (0 ≤ i ∧ i < (t.xVisits.length : Int))) := by
 unfold TTab.size at h
 rw [wrap_pred (by omega)]
 refine Ok.eq (Ok.br (fun c => Ok.ret ?_) (fun c => Ok.ret ?_))
 ·have c : 0 ≤ i := by simpa using c
  rw [Bool.eq_iff_iff]
  simp only [decide_eq_true_eq]
  omega
 ·have c : ¬ 0 ≤ i := by simpa using c
  rw [decide_eq_false (fun h => c h.1)]
theorem i_In (t : TTab) : ihasPresent t = some (decide (0 ≤ t.xAt ∧ t.xAt < (t.xVisits.length : Int))) := by
 refine Ok.eq (Ok.br (fun c => Ok.ret ?_) (fun c => Ok.ret ?_))
 ·have c : 0 ≤ t.xAt := by simpa using c
  rw [Bool.eq_iff_iff]
  simp only [decide_eq_true_eq]
  omega
 ·have c : ¬ 0 ≤ t.xAt := by simpa using c
  rw [decide_eq_false (fun h => c h.1)]
def zpage : TPage := ⟨⟨[], []⟩, ⟨false, [], [], [], []⟩, ⟨[]⟩, [], false, ⟨[], []⟩, [], [], [], 0, 0, 0, 0, [], [], false⟩
theorem zpage_ok : zpage.ok := by simp [zpage, TPage.ok, TAddr.ok, TPolicy.ok, TTokenizer.ok, TBuilder.ok, okL, okS, okI, maxLen]
theorem zpage_size : zpage.size = 0 := by simp [zpage, TPage.size, TAddr.size, TPolicy.size, TTokenizer.size, TBuilder.size, sumL]
def gone (y : TVisit) : TVisit := { y with xKept := false, xPage := zpage }
def given (t : TTab) (i : Int) : TTab := if h : 0 ≤ i ∧ i.toNat < t.xVisits.length then { t with xVisits := t.xVisits.set i.toNat (gone t.xVisits[i.toNat]) } else t
theorem sumL_set' {T : Type} {f : T → Nat} : ∀ {l : List T} {i : Nat} {y : T} (h : i < l.length), sumL f (l.set i y) + f l[i] = sumL f l + f y := by
 intro l
 induction l with
 | nil => intro i y h; cases h
 | cons x l ih =>
  intro i y h
  cases i with
  | zero => simp only [List.set_cons_zero, sumL, List.map_cons, List.sum_cons, List.getElem_cons_zero]; omega
  | succ i =>
   have := ih (i := i) (y := y) (by simpa using h)
   simp only [List.set_cons_succ, sumL, List.map_cons, List.sum_cons, List.getElem_cons_succ] at this ⊢
   omega
theorem gone_size (y : TVisit) : (gone y).size ≤ y.size := by
 show y.xAddr.size + (zpage.size + 0) ≤ y.xAddr.size + (y.xPage.size + 0)
 rw [zpage_size]
 omega
theorem given_size (t : TTab) (i : Int) : (given t i).size ≤ t.size := by
 unfold given
 split
 ·rename_i h
  unfold TTab.size
  have h1 := sumL_set' (f := TVisit.size) (y := gone t.xVisits[i.toNat]) h.2
  have h2 := gone_size t.xVisits[i.toNat]
  simp only [List.length_set]
  omega
 ·exact Nat.le_refl _
theorem given_len (t : TTab) (i : Int) : (given t i).xVisits.length = t.xVisits.length := by
 unfold given
 split
 ·simp only [List.length_set]
 ·rfl
theorem given_at (t : TTab) (i : Int) : (given t i).xAt = t.xAt := by
 unfold given
 split <;> rfl
theorem given_ok (t : TTab) (i : Int) (o : t.ok) : (given t i).ok := by
 unfold given
 split
 ·rename_i h
  refine ⟨⟨by rw [List.length_set]; exact o.1.1, fun e he => ?_⟩, o.2⟩
  rcases List.mem_or_eq_of_mem_set he with he | rfl
  ·exact o.1.2 e he
  ·exact ⟨(o.1.2 _ (List.getElem_mem h.2)).1, zpage_ok, trivial, trivial⟩
 ·exact o
theorem modI_two {l : List TVisit} {i : Int} {f g : TVisit → TVisit} (h : i.toNat < l.length) : ∃ l4, modI l i f = some l4 ∧ l4.length = l.length ∧ modI l4 i g = some (l.set i.toNat (g (f l[i.toNat]))) := by
 refine ⟨_, modI_at h, List.length_set, ?_⟩
 rw [modI_at (by rw [List.length_set]; exact h), List.getElem_set_self, List.set_set]
theorem s_GiveUp (t : TTab) (i : Int) (h : t.size ≤ 1048576) : sGiveUp t i = some (given t i) := by
 by_cases c : 0 ≤ i ∧ i < (t.xVisits.length : Int)
 ·have hc : i.toNat < t.xVisits.length := by omega
  obtain ⟨l4, m1, m2, m3⟩ := modI_two (l := t.xVisits) (i := i) (f := fun y => { y with xKept := false }) (g := fun y => { y with xPage := zpage }) hc
  have e : given t i = { t with xVisits := t.xVisits.set i.toNat (gone t.xVisits[i.toNat]) } := by unfold given; rw [dif_pos ⟨c.1, hc⟩]
  refine Ok.eq (Ok.is (s_Tab t h) (Ok.is (s_In t i h) (Ok.br (fun e => by simp [c] at e) (fun _ => Ok.chk ⟨c.1, hc⟩ (Ok.is m1 (Ok.chk ⟨c.1, by rw [m2]; exact hc⟩ (Ok.is m3 (Ok.ret ?_))))))))
  rw [e]
  rfl
 ·have e : given t i = t := by unfold given; rw [dif_neg (by omega)]
  rw [e]
  exact Ok.eq (Ok.is (s_Tab t h) (Ok.is (s_In t i h) (Ok.br (fun _ => Ok.ret rfl) (fun e => by simp [c] at e))))
theorem i_GiveUp (t : TTab) (i : Int) (h : t.size ≤ 1048576) : iGiveUp t i = some (given t i) := by
 by_cases c : 0 ≤ i ∧ i < (t.xVisits.length : Int)
 ·have hc : i.toNat < t.xVisits.length := by omega
  obtain ⟨l4, m1, m2, m3⟩ := modI_two (l := t.xVisits) (i := i) (f := fun y => { y with xKept := false }) (g := fun y => { y with xPage := zpage }) hc
  have e : given t i = { t with xVisits := t.xVisits.set i.toNat (gone t.xVisits[i.toNat]) } := by unfold given; rw [dif_pos ⟨c.1, hc⟩]
  refine Ok.eq (Ok.is (i_Tab t h) (Ok.br (fun _ => Ok.br (fun _ => Ok.chk ⟨c.1, hc⟩ (Ok.is m1 (Ok.chk ⟨c.1, by rw [m2]; exact hc⟩ (Ok.is m3 (Ok.ret ?_))))) (fun e => by simp at e; omega)) (fun e => by simp at e; omega)))
  rw [e]
  rfl
 ·have e : given t i = t := by unfold given; rw [dif_neg (by omega)]
  rw [e]
  exact Ok.eq (Ok.is (i_Tab t h) (Ok.br (fun c1 => Ok.br (fun c2 => by simp at c1 c2; exact absurd ⟨c1, c2⟩ c) (fun _ => Ok.ret rfl)) (fun _ => Ok.ret rfl)))
def kc (l : List TVisit) : Nat := (l.filter (·.xKept)).length
theorem kc_le (l : List TVisit) : kc l ≤ l.length := List.length_filter_le _ _
theorem s_Kept (t : TTab) (h : t.xVisits.length ≤ 1048576) : sKeptCount t = some (kc t.xVisits : Int) := by
 refine Ok.eq (Ok.bind (Q1 := fun r => r = (kc t.xVisits : Int)) (Ok.for (by unfold maxLen; omega) (fun i s => s = (kc (t.xVisits.take i) : Int)) rfl (fun i x s hx hs => ?_) (fun s hs => by rw [hs, List.take_length])) (fun r _ hr => Ok.ret hr))
 have hi := (List.getElem?_eq_some_iff.1 hx).1
 have hk := kc_le (t.xVisits.take i)
 rw [List.length_take] at hk
 have e : kc (t.xVisits.take (i + 1)) = kc (t.xVisits.take i) + (if x.xKept then 1 else 0) := by
  unfold kc
  rw [List.take_add_one, hx, List.filter_append, List.length_append]
  congr 1
  cases hx2 : x.xKept <;> simp [hx2]
 refine Ok.br (fun c => Ok.ret ?_) (fun c => Ok.ret ?_)
 ·show IntKind.wrap .i64 (s + 1) = _
  rw [e, if_pos c, hs]
  simp [IntKind.wrap, IntKind.bits, IntKind.signed]
  omega
 ·show s = _
  rw [e, if_neg (by simp [c]), hs]
  rfl
theorem i_Kept (t : TTab) (h : t.xVisits.length ≤ 1048576) : iKeptCount t = some (kc t.xVisits : Int) := s_Kept t h
noncomputable def bodyS (at_ : Int) : Int × TTab → Option ((Int × TTab) ⊕ TTab) := fun s8 =>
 br (decide (s8.1 < (s8.2.xVisits.length : Int))) (
 (sKeptCount s8.2).bind fun (r9 : Int) =>
 br (decide (r9 > 3)) (
 chk (0 ≤ s8.1 ∧ s8.1.toNat < s8.2.xVisits.length) <|
 (getI s8.2.xVisits s8.1).bind fun (e10 : TVisit) =>
 br e10.xKept (
 br (s8.1 != at_) (
 (sGiveUp s8.2 s8.1).bind fun (r11 : TTab) =>
 some (.inl ((IntKind.wrap .i64 (s8.1 + 1)), r11))
 ) (
 some (.inl ((IntKind.wrap .i64 (s8.1 + 1)), s8.2))
 )
 ) (
 some (.inl ((IntKind.wrap .i64 (s8.1 + 1)), s8.2))
 )
 ) (
 some (.inl ((IntKind.wrap .i64 (s8.1 + 1)), s8.2))
 )
 ) (
 some (.inr s8.2)
 )
noncomputable def bodyI : Int × TTab → Option ((Int × TTab) ⊕ TTab) := fun s8 =>
 br (decide (s8.1 < (s8.2.xVisits.length : Int))) (
 (iKeptCount s8.2).bind fun (r9 : Int) =>
 br (decide (r9 > 3)) (
 chk (0 ≤ s8.1 ∧ s8.1.toNat < s8.2.xVisits.length) <|
 (getI s8.2.xVisits s8.1).bind fun (e10 : TVisit) =>
 br e10.xKept (
 br (s8.1 != s8.2.xAt) (
 (iGiveUp s8.2 s8.1).bind fun (r11 : TTab) =>
 some (.inl ((IntKind.wrap .i64 (s8.1 + 1)), r11))
 ) (
 some (.inl ((IntKind.wrap .i64 (s8.1 + 1)), s8.2))
 )
 ) (
 some (.inl ((IntKind.wrap .i64 (s8.1 + 1)), s8.2))
 )
 ) (
 some (.inr s8.2)
 )
 ) (
 some (.inr s8.2)
 )
def keptAt (t : TTab) (i : Nat) : Bool := match t.xVisits[i]? with
 | some v => v.xKept
 | none => false
def lv1 (at_ : Int) (i : Nat) (t : TTab) : TTab := if 3 < kc t.xVisits ∧ keptAt t i = true ∧ (i : Int) ≠ at_ then given t i else t
def lvN (at_ : Int) : Nat → Nat → TTab → TTab
 | 0, _, t => t
 | k + 1, i, t => lvN at_ k (i + 1) (lv1 at_ i t)
theorem lvN_few {at_ : Int} : ∀ (k i : Nat) (t : TTab), ¬ 3 < kc t.xVisits → lvN at_ k i t = t := by
 intro k
 induction k with
 | zero => intro i t _; rfl
 | succ k ih =>
  intro i t h
  rw [lvN]
  have e : lv1 at_ i t = t := by unfold lv1; rw [if_neg (fun c => h c.1)]
  rw [e]
  exact ih (i + 1) t h
theorem lv1_keeps (at_ : Int) (i : Nat) (t : TTab) : (lv1 at_ i t).size ≤ t.size ∧ (lv1 at_ i t).xVisits.length = t.xVisits.length ∧ (lv1 at_ i t).xAt = t.xAt ∧ (t.ok → (lv1 at_ i t).ok) := by
 unfold lv1
 split
 ·exact ⟨given_size _ _, given_len _ _, given_at _ _, given_ok _ _⟩
 ·exact ⟨Nat.le_refl _, rfl, rfl, fun h => h⟩
theorem lvN_keeps (at_ : Int) : ∀ (k i : Nat) (t : TTab), (lvN at_ k i t).size ≤ t.size ∧ (t.ok → (lvN at_ k i t).ok) := by
 intro k
 induction k with
 | zero => intro i t; exact ⟨Nat.le_refl _, fun h => h⟩
 | succ k ih =>
  intro i t
  obtain ⟨a1, _, _, a4⟩ := lv1_keeps at_ i t
  obtain ⟨b1, b2⟩ := ih (i + 1) (lv1 at_ i t)
  exact ⟨Nat.le_trans b1 a1, fun h => b2 (a4 h)⟩
theorem len_size (t : TTab) : t.xVisits.length ≤ t.size := by unfold TTab.size; omega
theorem wrap_succ {i : Nat} (h : i ≤ 1048576) : IntKind.wrap .i64 ((i : Int) + 1) = ((i + 1 : Nat) : Int) := by
 simp [IntKind.wrap, IntKind.bits, IntKind.signed]
 omega
theorem getI_at {l : List TVisit} {i : Nat} (h : i < l.length) : getI l (i : Int) = some l[i] := by
 unfold getI
 rw [if_pos (Int.natCast_nonneg _)]
 simp [h]
theorem keptAt_at {t : TTab} {i : Nat} (h : i < t.xVisits.length) : keptAt t i = t.xVisits[i].xKept := by
 unfold keptAt
 rw [List.getElem?_eq_getElem h]
theorem bodyS_go {at_ : Int} {t : TTab} {i : Nat} (h : i < t.xVisits.length) (hs : t.size ≤ 1048576) : bodyS at_ ((i : Int), t) = some (.inl (((i + 1 : Nat) : Int), lv1 at_ i t)) := by
 have hl := len_size t
 have hw := wrap_succ (i := i) (by omega)
 unfold lv1
 rw [keptAt_at h]
 refine Ok.eq (Ok.br (fun _ => Ok.is (s_Kept t (by omega)) (Ok.br (fun c => Ok.chk ⟨Int.natCast_nonneg _, by show Int.toNat (i : Int) < _; simpa using h⟩ (Ok.is (getI_at h) (Ok.br (fun c2 => Ok.br (fun c3 => Ok.is (s_GiveUp t i hs) (Ok.ret ?_)) (fun c3 => Ok.ret ?_)) (fun c2 => Ok.ret ?_)))) (fun c => Ok.ret ?_))) (fun c => by simp at c; omega))
 ·rw [hw, if_pos ⟨by simp at c; omega, c2, by simpa using c3⟩]
 ·rw [hw, if_neg (fun q => by simp at c3; exact q.2.2 c3)]
 ·rw [hw, if_neg (fun q => by rw [c2] at q; cases q.2.1)]
 ·rw [hw, if_neg (fun q => by simp at c; omega)]
theorem bodyI_go {t : TTab} {i : Nat} (h : i < t.xVisits.length) (hs : t.size ≤ 1048576) (hk : 3 < kc t.xVisits) : bodyI ((i : Int), t) = some (.inl (((i + 1 : Nat) : Int), lv1 t.xAt i t)) := by
 have hl := len_size t
 have hw := wrap_succ (i := i) (by omega)
 unfold lv1
 rw [keptAt_at h]
 refine Ok.eq (Ok.br (fun _ => Ok.is (i_Kept t (by omega)) (Ok.br (fun c => Ok.chk ⟨Int.natCast_nonneg _, by show Int.toNat (i : Int) < _; simpa using h⟩ (Ok.is (getI_at h) (Ok.br (fun c2 => Ok.br (fun c3 => Ok.is (i_GiveUp t i hs) (Ok.ret ?_)) (fun c3 => Ok.ret ?_)) (fun c2 => Ok.ret ?_)))) (fun c => by simp at c; omega))) (fun c => by simp at c; omega))
 ·rw [hw, if_pos ⟨hk, c2, by simpa using c3⟩]
 ·rw [hw, if_neg (fun q => by simp at c3; exact q.2.2 c3)]
 ·rw [hw, if_neg (fun q => by rw [c2] at q; cases q.2.1)]
theorem while_go {σ ρ : Type} {body : σ → Option (σ ⊕ ρ)} {s s' : σ} (h : body s = some (.inl s')) : whileE body s = whileE body s' := by
 unfold whileE
 conv => lhs; rw [whileInf_step, h]
theorem while_end {σ ρ : Type} {body : σ → Option (σ ⊕ ρ)} {s : σ} {r : ρ} (h : body s = some (.inr r)) : whileE body s = some r := by
 unfold whileE
 rw [whileInf_step, h]
theorem loopS (at_ : Int) : ∀ (k i : Nat) (t : TTab), t.xVisits.length = i + k → t.size ≤ 1048576 → whileE (bodyS at_) ((i : Int), t) = some (lvN at_ k i t) := by
 intro k
 induction k with
 | zero =>
  intro i t h hs
  exact while_end (Ok.eq (Ok.br (fun c => by simp at c; omega) (fun _ => Ok.ret rfl)))
 | succ k ih =>
  intro i t h hs
  obtain ⟨a1, a2, _, _⟩ := lv1_keeps at_ i t
  rw [while_go (bodyS_go (by omega) hs), lvN]
  exact ih (i + 1) _ (by omega) (by omega)
theorem loopI : ∀ (k i : Nat) (t : TTab), t.xVisits.length = i + k → t.size ≤ 1048576 → whileE bodyI ((i : Int), t) = some (lvN t.xAt k i t) := by
 intro k
 induction k with
 | zero =>
  intro i t h hs
  exact while_end (Ok.eq (Ok.br (fun c => by simp at c; omega) (fun _ => Ok.ret rfl)))
 | succ k ih =>
  intro i t h hs
  obtain ⟨a1, a2, a3, _⟩ := lv1_keeps t.xAt i t
  by_cases hk : 3 < kc t.xVisits
  ·rw [while_go (bodyI_go (by omega) hs hk), lvN]
   have := ih (i + 1) (lv1 t.xAt i t) (by omega) (by omega)
   rw [a3] at this
   exact this
  ·rw [lvN_few (k + 1) i t hk]
   have hl := len_size t
   exact while_end (Ok.eq (Ok.br (fun _ => Ok.is (i_Kept t (by omega)) (Ok.br (fun c => by simp at c; omega) (fun _ => Ok.ret rfl))) (fun c => by simp at c; omega)))
theorem eq_LeavePage (t : TTab) (ot : t.ok) (h : t.size ≤ 1048576) : ∃ r, sLeavePage t = some r ∧ iLeavePage t = some r ∧ r.size ≤ 1125899906842624 ∧ r.ok := by
 have fin : ∀ u : TTab, u.size ≤ t.size → u.xAt = t.xAt → u.ok → (∀ X : TTab → Option TTab, (whileE (bodyS t.xAt) ((0 : Int), u)).bind X = X (lvN t.xAt u.xVisits.length 0 u)) ∧ (∀ X : TTab → Option TTab, (whileE bodyI ((0 : Int), u)).bind X = X (lvN t.xAt u.xVisits.length 0 u)) ∧ (lvN t.xAt u.xVisits.length 0 u).size ≤ 1125899906842624 ∧ (lvN t.xAt u.xVisits.length 0 u).ok := by
  intro u h1 h2 h3
  obtain ⟨b1, b2⟩ := lvN_keeps t.xAt u.xVisits.length 0 u
  have e1 := loopS t.xAt u.xVisits.length 0 u (by omega) (by omega)
  have e2 := loopI u.xVisits.length 0 u (by omega) (by omega)
  rw [h2] at e2
  exact ⟨fun X => by rw [show ((0 : Int), u) = (((0 : Nat) : Int), u) from rfl, e1]; rfl, fun X => by rw [show ((0 : Int), u) = (((0 : Nat) : Int), u) from rfl, e2]; rfl, by omega, b2 h3⟩
 by_cases c : 0 ≤ t.xAt ∧ t.xAt < (t.xVisits.length : Int)
 ·have hc : t.xAt.toNat < t.xVisits.length := by omega
  have hg : getI t.xVisits t.xAt = some t.xVisits[t.xAt.toNat] := by unfold getI; rw [if_pos c.1, List.getElem?_eq_getElem hc]
  by_cases cl : t.xVisits[t.xAt.toNat].xPage.xLoaded = true
  ·obtain ⟨w1, w2, w3, w4⟩ := fin t (Nat.le_refl _) rfl ot
   refine ⟨_, ?_, ?_, w3, w4⟩
   ·exact Ok.eq (Ok.is (s_Tab t h) (Ok.is (s_In t t.xAt h) (Ok.br (fun _ => Ok.is hg (Ok.is (a := true) (by rw [← cl]; rfl) (Ok.br (fun e => by cases e) (fun _ => ⟨_, w1 _, rfl⟩)))) (fun e => by simp [c] at e))))
   ·exact Ok.eq (Ok.is (i_Tab t h) (Ok.is (i_In t) (Ok.br (fun _ => Ok.is hg (Ok.is (a := true) (by rw [← cl]; rfl) (Ok.br (fun e => by cases e) (fun _ => ⟨_, w2 _, rfl⟩)))) (fun e => by simp [c] at e))))
  ·have cl : t.xVisits[t.xAt.toNat].xPage.xLoaded = false := by simpa using cl
   obtain ⟨w1, w2, w3, w4⟩ := fin (given t t.xAt) (given_size _ _) (given_at _ _) (given_ok _ _ ot)
   refine ⟨_, ?_, ?_, w3, w4⟩
   ·exact Ok.eq (Ok.is (s_Tab t h) (Ok.is (s_In t t.xAt h) (Ok.br (fun _ => Ok.is hg (Ok.is (a := false) (by rw [← cl]; rfl) (Ok.br (fun _ => Ok.is (s_GiveUp t t.xAt h) ⟨_, w1 _, rfl⟩) (fun e => by cases e)))) (fun e => by simp [c] at e))))
   ·exact Ok.eq (Ok.is (i_Tab t h) (Ok.is (i_In t) (Ok.br (fun _ => Ok.is hg (Ok.is (a := false) (by rw [← cl]; rfl) (Ok.br (fun _ => Ok.is (i_GiveUp t t.xAt h) ⟨_, w2 _, rfl⟩) (fun e => by cases e)))) (fun e => by simp [c] at e))))
 ·obtain ⟨w1, w2, w3, w4⟩ := fin t (Nat.le_refl _) rfl ot
  refine ⟨_, ?_, ?_, w3, w4⟩
  ·exact Ok.eq (Ok.is (s_Tab t h) (Ok.is (s_In t t.xAt h) (Ok.br (fun e => by simp [c] at e) (fun _ => ⟨_, w1 _, rfl⟩))))
  ·exact Ok.eq (Ok.is (i_Tab t h) (Ok.is (i_In t) (Ok.br (fun e => by simp [c] at e) (fun _ => ⟨_, w2 _, rfl⟩))))
end Go.Am
end
section
set_option linter.unusedVariables false
set_option linter.unusedSimpArgs false
namespace Go.Am
open Go Go.RowKit
structure Ag (n : Nat) (s : Nat → Value) (a : Act) : Prop where
  dz : a.defers = []
  sz : a.tmps.size = n
  at_ : ∀ i, a.tmps.getD i undef = s i
def upd (s : Nat → Value) (d : Nat) (x : Value) : Nat → Value := fun i => if i = d then x else s i
theorem upd_same {s : Nat → Value} {d : Nat} {x : Value} : upd s d x d = x := if_pos rfl
theorem upd_ne {s : Nat → Value} {d i : Nat} {x : Value} (h : i ≠ d) : upd s d x i = s i := if_neg h
def evs (s : Nat → Value) : Operand → Value
 | .tmp t => s t
 | .const v => v
 | .global g => .pointer (some ⟨g, 0, none⟩)
 | .func f => .func (.func f) #[] #[]
section
variable {P : Program} {n d : Nat} {s : Nat → Value} {a : Act} {w w' : World} {x : Value}
theorem Ag.eval (h : Ag n s a) : a.eval = evs s := by
 funext x
 cases x with
 | tmp t => exact h.at_ t
 | _ => rfl
theorem Ag.put (h : Ag n s a) (hd : d < n) : Ag n (upd s d x) (a.put (some d) x) := by
 refine ⟨h.dz, by simp [Act.put, h.sz], fun i => ?_⟩
 simp only [Act.put, Array.getD_eq_getD_getElem?, Array.getElem?_setIfInBounds]
 by_cases hi : i = d
 ·subst hi
  rw [upd_same, if_pos rfl, if_pos (by rw [h.sz]; exact hd)]
  rfl
 ·rw [upd_ne hi, if_neg (fun e => hi e.symm), ← Array.getD_eq_getD_getElem?]
  exact h.at_ i
theorem Ag.enter (args : Array Value) (m : Nat) : Ag (args.size + m) (fun i => args.getD i undef) { tmps := args ++ Array.replicate m undef, defers := [] } := by
 refine ⟨rfl, by simp, fun i => ?_⟩
 simp only [Array.getD_eq_getD_getElem?]
 rcases Nat.lt_or_ge i args.size with h | h
 ·rw [Array.getElem?_append_left h]
 ·rw [Array.getElem?_append_right h, Array.getElem?_eq_none h, Array.getElem?_replicate]
  split <;> rfl
def R (P : Program) (n : Nat) (ops : Array Oper) (l : List Oper) (s : Nat → Value) (w : World) (K : (Nat → Value) → World → Prop) : Prop :=
 ∀ (Q : Exit → Act → World → Prop), (∀ s' a' w', Ag n s' a' → K s' w' → Q .normal a' w') → ∀ a, Ag n s a → wpList P ops Q l a w
def W (P : Program) (n : Nat) (c : Code) (s : Nat → Value) (w : World) (K : Exit → (Nat → Value) → World → Prop) : Prop :=
 ∀ (Q : Exit → Act → World → Prop), (∀ e s' a' w', Ag n s' a' → K e s' w' → Q e a' w') → ∀ a, Ag n s a → c.wp P Q a w
variable {ops : Array Oper} {l : List Oper} {o : Oper} {K K' : (Nat → Value) → World → Prop} {c c1 c2 : Code} {J J' : Exit → (Nat → Value) → World → Prop}
theorem R.mono (h : R P n ops l s w K) (hk : ∀ s' w', K s' w' → K' s' w') : R P n ops l s w K' := fun Q hQ a ha => h Q (fun s' a' w' h1 h2 => hQ s' a' w' h1 (hk s' w' h2)) a ha
theorem W.mono (h : W P n c s w J) (hk : ∀ e s' w', J e s' w' → J' e s' w') : W P n c s w J' := fun Q hQ a ha => h Q (fun e s' a' w' h1 h2 => hQ e s' a' w' h1 (hk e s' w' h2)) a ha
theorem R.nil (h : K s w) : R P n ops [] s w K := fun Q hQ a ha => wpList_nil (hQ s a w ha h)
theorem R.step (hg : o.guard = none) (h : ∀ (a : Act) (Q : Exit → Act → World → Prop) (N : Act → World → Prop), (∀ s' a' w', Ag n s' a' → R P n ops l s' w' K → N a' w') → Ag n s a → o.wp P a w N Q) : R P n ops (o :: l) s w K := by
 intro Q hQ a ha
 refine wpList_step fun N hN => ?_
 rw [if_pos (by simp [Region.wanted, hg])]
 exact h a Q N (fun s' a' w' h1 h2 => hN _ _ (h2 Q hQ a' h1)) ha
theorem R.value (hg : o.guard = none) (hd : o.dst = some d) (hn : d < n) (he : (execOp (evs s) o).run P w = .ok (.value x) w') (h : R P n ops l (upd s d x) w' K) : R P n ops (o :: l) s w K := by
 refine R.step hg fun a Q N hN ha => ?_
 unfold Oper.wp
 rw [ha.eval, he, Oper.upon_value, hd]
 exact hN _ _ _ (ha.put hn) h
theorem R.skip (hg : o.guard = none) (hd : o.dst = none) (he : (execOp (evs s) o).run P w = .ok .skip w') (h : R P n ops l s w' K) : R P n ops (o :: l) s w K := by
 refine R.step hg fun a Q N hN ha => ?_
 unfold Oper.wp
 rw [ha.eval, he, Oper.upon_skip, hd]
 exact hN _ a _ ha h
theorem R.call {f : FuncId} {args : Array Value} (hg : o.guard = none) (hd : o.dst = some d) (hn : d < n) (he : (execOp (evs s) o).run P w = .ok (.enter f args) w)
  (hc : Calls P f args w fun e w' => ∃ x, e = .returned x ∧ R P n ops l (upd s d x) w' K) : R P n ops (o :: l) s w K := by
 refine R.step hg fun a Q N hN ha => ?_
 unfold Oper.wp
 rw [ha.eval, he, Oper.upon_enter]
 refine Calls.mono hc fun e w' h => ?_
 obtain ⟨x, rfl, h⟩ := h
 show N (a.put o.dst x) w'
 rw [hd]
 exact hN _ _ _ (ha.put hn) h
def Known (P : Program) (f : Nat) : Prop := ∃ fn, P.funcs[f]? = some fn ∧ fn.body.isNone = false ∧ (fn.name == "runtime.NumGoroutine") = false
theorem call_enter {f : Nat} {args : Array Operand} {ts : Array TypeId} (hk : Known P f) (ho : o.op = .call ⟨.value (.func f), args, ts⟩) : (execOp (evs s) o).run P w = .ok (.enter f (args.map (evs s))) w := by
 obtain ⟨fn, h1, h2, h3⟩ := hk
 have h3 : ¬ fn.name = "runtime.NumGoroutine" := by simpa using h3
 simp [execOp, ho, resolve, Deferred.ofValue, invoke, callFunc, evs, h1, h2, h3]
 intro hb
 simp [hb] at h2
def O1 (P : Program) (n : Nat) (o : Oper) (s : Nat → Value) (w : World) (K : (Nat → Value) → World → Prop) : Prop :=
 o.guard = none ∧ ∀ (a : Act) (Q : Exit → Act → World → Prop) (N : Act → World → Prop), (∀ s' a' w', Ag n s' a' → K s' w' → N a' w') → Ag n s a → o.wp P a w N Q
theorem O1.mono (h : O1 P n o s w K) (hk : ∀ s' w', K s' w' → K' s' w') : O1 P n o s w K' := ⟨h.1, fun a Q N hN ha => h.2 a Q N (fun s' a' w' h1 h2 => hN s' a' w' h1 (hk s' w' h2)) ha⟩
theorem R.one (h : O1 P n o s w (fun s' w' => R P n ops l s' w' K)) : R P n ops (o :: l) s w K := R.step h.1 h.2
theorem O1.value (hg : o.guard = none) (hd : o.dst = some d) (hn : d < n) (he : (execOp (evs s) o).run P w = .ok (.value x) w') (h : K (upd s d x) w') : O1 P n o s w K := by
 refine ⟨hg, fun a Q N hN ha => ?_⟩
 unfold Oper.wp
 rw [ha.eval, he, Oper.upon_value, hd]
 exact hN _ _ _ (ha.put hn) h
theorem O1.skip (hg : o.guard = none) (hd : o.dst = none) (he : (execOp (evs s) o).run P w = .ok .skip w') (h : K s w') : O1 P n o s w K := by
 refine ⟨hg, fun a Q N hN ha => ?_⟩
 unfold Oper.wp
 rw [ha.eval, he, Oper.upon_skip, hd]
 exact hN _ a _ ha h
theorem O1.call {f : FuncId} {args : Array Value} (hg : o.guard = none) (hd : o.dst = some d) (hn : d < n) (he : (execOp (evs s) o).run P w = .ok (.enter f args) w)
  (hc : Calls P f args w fun e w' => ∃ x, e = .returned x ∧ K (upd s d x) w') : O1 P n o s w K := by
 refine ⟨hg, fun a Q N hN ha => ?_⟩
 unfold Oper.wp
 rw [ha.eval, he, Oper.upon_enter]
 refine Calls.mono hc fun e w' h => ?_
 obtain ⟨x, rfl, h⟩ := h
 show N (a.put o.dst x) w'
 rw [hd]
 exact hN _ _ _ (ha.put hn) h
theorem any_gen (I : Array Bool → (Nat → Value) → World → Prop) {J0 : (Nat → Value) → World → Prop} (hback : ∀ (j : Nat) (o : Oper), ops[j]? = some o → ∀ e ∈ o.after.toList, e.on < j)
  (step : ∀ (listed : Array Bool) (s : Nat → Value) (w : World) (i : Nat) (o : Oper), I listed s w → ops[i]? = some o → listed.getD i true = false → listed.size = ops.size → (∀ e ∈ o.after.toList, Region.binds .any e = true → listed.getD e.on false = true) → O1 P n o s w (fun s' w' => I (listed.setIfInBounds i true) s' w'))
  (fin : ∀ (listed : Array Bool) (s : Nat → Value) (w : World), (∀ j, j < ops.size → listed.getD j true = true) → I listed s w → J0 s w) :
  ∀ (fuel : Nat) (listed : Array Bool) (s : Nat → Value) (w : World), I listed s w → listed.size = ops.size → (pend ops listed).length ≤ fuel → ∀ (Q : Exit → Act → World → Prop), (∀ s' a' w', Ag n s' a' → J0 s' w' → Q .normal a' w') → ∀ a, Ag n s a → wpAny P .any ops Q fuel listed a w := by
 have agree : ∀ (listed : Array Bool), listed.size = ops.size → ∀ j, j < ops.size → ∀ b, listed.getD j true = b → listed.getD j false = b := by
  intro listed hz j hj b h
  have : j < listed.size := by omega
  simpa [this] using h
 have hdone : ∀ (listed : Array Bool), listed.size = ops.size → Region.ready .any ops listed = [] → pend ops listed = [] := by
  intro listed hz hr
  cases hp : pend ops listed with
  | nil => rfl
  | cons j rest =>
   exfalso
   have hj := mem_pend.1 (show j ∈ pend ops listed by rw [hp]; simp)
   have hsome : ops[j]? = some ops[j] := by simp [hj.1]
   have : j ∈ Region.ready .any ops listed := by
    refine mem_ready.2 ⟨hj.2, ops[j], hsome, fun e he _ => ?_⟩
    have hlt := hback j _ hsome e (by simpa using he)
    have hlt2 : e.on < ops.size := by omega
    cases hb : listed.getD e.on true with
    | true => exact agree listed hz e.on hlt2 true hb
    | false =>
     exfalso
     have hm : e.on ∈ pend ops listed := mem_pend.2 ⟨hlt2, hb⟩
     have hs := pend_sorted (ops := ops) listed
     rw [hp] at hm hs
     rcases List.mem_cons.1 hm with h | h
     ·omega
     ·have := (List.pairwise_cons.1 hs).1 _ h
      omega
   rw [hr] at this
   cases this
 have hall : ∀ (listed : Array Bool), pend ops listed = [] → ∀ j, j < ops.size → listed.getD j true = true := by
  intro listed hp j hj
  cases hb : listed.getD j true with
  | true => rfl
  | false =>
   have := mem_pend.2 ⟨hj, hb⟩
   rw [hp] at this
   cases this
 intro fuel
 induction fuel with
 | zero =>
  intro listed s w hI hz hlen Q hQ a ha
  have hp : pend ops listed = [] := List.eq_nil_of_length_eq_zero (by omega)
  refine ⟨?_, hQ s a w ha (fin listed s w (hall listed hp) hI)⟩
  cases hr : Region.ready .any ops listed with
  | nil => rfl
  | cons i rest =>
   exfalso
   obtain ⟨h0, o, ho, _⟩ := mem_ready.1 (show i ∈ Region.ready .any ops listed by rw [hr]; simp)
   have : i ∈ pend ops listed := mem_pend.2 ⟨(Array.getElem?_eq_some_iff.1 ho).1, h0⟩
   rw [hp] at this
   cases this
 | succ fuel ih =>
  intro listed s w hI hz hlen Q hQ a ha
  refine ⟨fun hr => hQ s a w ha (fin listed s w (hall listed (hdone listed hz hr)) hI), fun i hi => ?_⟩
  obtain ⟨h0, o, ho, hedges⟩ := mem_ready.1 hi
  have hilt := (Array.getElem?_eq_some_iff.1 ho).1
  have hlen2 : (pend ops (listed.setIfInBounds i true)).length ≤ fuel := by
   have him : i ∈ pend ops listed := mem_pend.2 ⟨hilt, h0⟩
   obtain ⟨pre, suf, hsplit⟩ := List.append_of_mem him
   have hnd := pend_nodup (ops := ops) listed
   have hset : pend ops (listed.setIfInBounds i true) = pre ++ suf := by
    rw [pend_set, hsplit, filter_split (by rw [← hsplit]; exact hnd)]
   have : (pend ops listed).length = (pre ++ suf).length + 1 := by rw [hsplit]; simp; omega
   rw [hset]
   omega
  obtain ⟨g1, g2⟩ := step listed s w i o hI ho h0 hz (fun e he hb => hedges e (by simpa using he) hb)
  unfold wpOp
  rw [ho]
  simp only
  rw [if_pos (by simp [Region.wanted, g1])]
  exact .inl (g2 a Q _ (fun s' a' w' h1 h2 => ih _ s' w' h2 (by simpa using hz) hlen2 Q hQ a' h1) ha)
theorem W.drawn {i : Nat} (hm : P.follows .mixedOrders = true) (I : Array Bool → (Nat → Value) → World → Prop) (hback : ∀ (j : Nat) (o : Oper), ops[j]? = some o → ∀ e ∈ o.after.toList, e.on < j)
  (step : ∀ (listed : Array Bool) (s : Nat → Value) (w : World) (i : Nat) (o : Oper), I listed s w → ops[i]? = some o → listed.getD i true = false → listed.size = ops.size → (∀ e ∈ o.after.toList, Region.binds .any e = true → listed.getD e.on false = true) → O1 P n o s w (fun s' w' => I (listed.setIfInBounds i true) s' w'))
  (fin : ∀ (listed : Array Bool) (s : Nat → Value) (w : World), (∀ j, j < ops.size → listed.getD j true = true) → I listed s w → J .normal s w) (h0 : I (Array.replicate ops.size false) s { w with drawn := w.drawn + 1 }) : W P n (.region i ops true) s w J := by
 intro Q hQ a ha
 refine wp_region_any hm ?_
 exact any_gen I hback step fin ops.size _ s _ h0 (by simp) (by rw [pend_start]; simp) Q (fun s' a' w' h1 h2 => hQ _ _ _ _ h1 h2) a ha
theorem W.skip (h : J .normal s w) : W P n .skip s w J := fun Q hQ a ha => wp_skip (hQ _ _ _ _ ha h)
theorem W.exit {i : Nat} (h : J (.exit i) s w) : W P n (.exit i) s w J := fun Q hQ a ha => wp_exit (hQ _ _ _ _ ha h)
theorem W.ret (h : J .ret s w) : W P n .ret s w J := fun Q hQ a ha => wp_ret (hQ _ _ _ _ ha h)
theorem W.region {i : Nat} (h : R P n ops ops.toList s w (J .normal)) : W P n (.region i ops false) s w J := fun Q hQ a ha => wp_region_list (h Q (fun s' a' w' h1 h2 => hQ _ _ _ _ h1 h2) a ha)
def thenW (P : Program) (n : Nat) (c : Code) (J : Exit → (Nat → Value) → World → Prop) : Exit → (Nat → Value) → World → Prop
 | .normal, s, w => W P n c s w J
 | e, s, w => J e s w
theorem W.seq (h : W P n c1 s w (thenW P n c2 J)) : W P n (.seq c1 c2) s w J := by
 intro Q hQ a ha
 refine wp_seq (h _ (fun e s' a' w' h1 h2 => ?_) a ha)
 cases e with
 | normal => exact h2 Q hQ a' h1
 | _ => exact hQ _ _ _ _ h1 h2
theorem W.cond {y : Operand} {b : Bool} (hb : evs s y = .bool b) (h : W P n (if b then c1 else c2) s w J) : W P n (.cond y c1 c2) s w J := fun Q hQ a ha => wp_cond (by rw [ha.eval]; exact hb) (h Q hQ a ha)
def outW (i : Nat) (J : Exit → (Nat → Value) → World → Prop) : Exit → (Nat → Value) → World → Prop
 | .exit j, s, w => if j = i then J .normal s w else J (.exit j) s w
 | e, s, w => J e s w
theorem W.block {i : Nat} (h : W P n c s w (outW i J)) : W P n (.block i c) s w J := by
 intro Q hQ a ha
 refine wp_block (h _ (fun e s' a' w' h1 h2 => ?_) a ha)
 cases e with
 | exit j =>
  show (if j = i then _ else _)
  simp only [outW] at h2
  split
  ·rename_i e; rw [if_pos e] at h2; exact hQ _ _ _ _ h1 h2
  ·rename_i e; rw [if_neg e] at h2; exact hQ _ _ _ _ h1 h2
 | _ => exact hQ _ _ _ _ h1 h2
open Classical in
theorem W.loop (I : Nat → (Nat → Value) → World → Prop) {m : Nat} (h0 : I m s w) (round : ∀ m s w, I m s w → W P n c s w (fun e s' w' => match e with
   | .normal => ∃ m', m' < m ∧ I m' s' w'
   | e => J e s' w')) : W P n (.loop c) s w J := by
 intro Q hQ a ha
 have least : ∀ (p : Nat → Prop), (∃ m, p m) → ∃ m, p m ∧ ∀ k, p k → m ≤ k := by
  intro p ⟨m, hm⟩
  induction m using Nat.strongRecOn with
  | _ m ih =>
   by_cases h : ∃ k, k < m ∧ p k
   ·obtain ⟨k, hk, hp⟩ := h
    exact ih k hk hp
   ·exact ⟨m, hm, fun k hk => Nat.le_of_not_lt fun hlt => h ⟨k, hlt, hk⟩⟩
 let p : Act → World → Nat → Prop := fun a w m => ∃ s, Ag n s a ∧ I m s w
 refine wp_loop (fun a w => ∃ m, p a w m) (fun a w => if h : ∃ m, p a w m then (least _ h).choose else 0) ⟨m, s, ha, h0⟩ (fun a w h => ?_)
 obtain ⟨⟨s1, h1, h2⟩, h3⟩ := (least _ h).choose_spec
 refine round _ s1 w h2 _ (fun e s' a' w' g1 g2 => ?_) a h1
 cases e with
 | normal =>
  obtain ⟨m', hlt, hI⟩ := g2
  have hex : ∃ m, p a' w' m := ⟨m', s', g1, hI⟩
  refine ⟨hex, ?_⟩
  show (if h : ∃ m, p a' w' m then (least _ h).choose else 0) < (if h : ∃ m, p a w m then (least _ h).choose else 0)
  rw [dif_pos hex, dif_pos h]
  exact Nat.lt_of_le_of_lt ((least _ hex).choose_spec.2 m' ⟨s', g1, hI⟩) hlt
 | _ => exact hQ _ _ _ _ g1 g2
theorem calls_W {f : Nat} {fn : Func} {args : Array Value} {r : Nat} {B : Ending → World → Prop} (hf : P.funcs[f]? = some fn) (hb : fn.body = some c) (hr : fn.results = #[.tmp r]) (hn : args.size ≤ fn.ntmps)
  (h : W P fn.ntmps c (fun i => args.getD i undef) w (fun e s' w' => match e with
   | .ret => B (.returned (s' r)) w'
   | .normal => B (.returned (s' r)) w'
   | _ => False)) : Calls P f args w B := by
 refine calls_of_wp hf hb ?_
 have ha := Ag.enter args (fn.ntmps - args.size)
 rw [Nat.add_sub_cancel' hn] at ha
 have hres : ∀ (s' : Nat → Value) (a' : Act) (w' : World), Ag fn.ntmps s' a' → (results fn a'.tmps).run P w' = .ok (s' r) w' := by
  intro s' a' w' h
  simp only [results, hr]
  simp [h.at_]
 refine h _ (fun e s' a' w' h1 h2 => ?_) _ ha
 cases e with
 | ret => exact ⟨h1.dz, _, hres s' a' w' h1, h2⟩
 | normal => exact ⟨h1.dz, _, hres s' a' w' h1, h2⟩
 | _ => exact h2.elim
def flatC : Code → List Code
 | .seq a b => flatC a ++ flatC b
 | c => [c]
def WL (P : Program) (n : Nat) : List Code → (Nat → Value) → World → (Exit → (Nat → Value) → World → Prop) → Prop
 | [], s, w, J => J .normal s w
 | c :: cs, s, w, J => W P n c s w (fun e s' w' => match e with
  | .normal => WL P n cs s' w' J
  | e => J e s' w')
theorem WL.mono : ∀ {cs : List Code} {s : Nat → Value} {w : World} {J J' : Exit → (Nat → Value) → World → Prop}, WL P n cs s w J → (∀ e s' w', J e s' w' → J' e s' w') → WL P n cs s w J' := by
 intro cs
 induction cs with
 | nil => intro s w J J' h hk; exact hk _ _ _ h
 | cons c cs ih =>
  intro s w J J' h hk
  refine W.mono h (fun e s' w' h => ?_)
  cases e with
  | normal => exact ih h hk
  | _ => exact hk _ _ _ h
theorem WL.flat : ∀ (c : Code) (rest : List Code) (s : Nat → Value) (w : World) (J : Exit → (Nat → Value) → World → Prop), WL P n (flatC c ++ rest) s w J → WL P n (c :: rest) s w J := by
 intro c
 induction c with
 | seq a b iha ihb =>
  intro rest s w J h
  rw [flatC, List.append_assoc] at h
  have h := iha _ _ _ _ h
  refine W.seq (W.mono h (fun e s' w' h => ?_))
  cases e with
  | normal => exact ihb rest s' w' J h
  | _ => exact h
 | _ => intro rest s w J h; exact h
theorem WL.code (h : WL P n (flatC c) s w J) : W P n c s w J := by
 have := WL.flat c [] s w J (by rw [List.append_nil]; exact h)
 refine W.mono this (fun e s' w' h => ?_)
 cases e with
 | normal => exact h
 | _ => exact h
end
end Go.Am
end
section
set_option linter.unusedVariables false
set_option linter.unusedSimpArgs false
namespace Go.Am
open Go Go.RowKit
structure Mod (X : Nat → Prop) (w w' : World) : Prop where
  os : w'.os = w.os
  tape : w'.tape = w.tape
  output : w'.output = w.output
  size : w.heap.size ≤ w'.heap.size
  old : ∀ k, k < w.heap.size → ¬ X k → w'.heap[k]? = w.heap[k]?
theorem Mod.refl {X : Nat → Prop} (w : World) : Mod X w w := ⟨rfl, rfl, rfl, Nat.le_refl _, fun _ _ _ => rfl⟩
theorem Mod.trans {X : Nat → Prop} {w w1 w2 : World} (h : Mod X w w1) (h' : Mod X w1 w2) : Mod X w w2 :=
 ⟨h'.os.trans h.os, h'.tape.trans h.tape, h'.output.trans h.output, Nat.le_trans h.size h'.size, fun k hk hx => (h'.old k (Nat.lt_of_lt_of_le hk h.size) hx).trans (h.old k hk hx)⟩
theorem Mod.of_kept {X : Nat → Prop} {w w' : World} (h : Kept w w') : Mod X w w' := ⟨h.1, h.2.1, h.2.2.1, h.2.2.2.1, fun k hk _ => h.2.2.2.2 k hk⟩
theorem Mod.mono {X Y : Nat → Prop} {w w' : World} (h : Mod X w w') (hx : ∀ k, X k → Y k) : Mod Y w w' := ⟨h.os, h.tape, h.output, h.size, fun k hk hy => h.old k hk (fun e => hy (hx k e))⟩
theorem Mod.glob {X : Nat → Prop} {w w' : World} (h : Mod X w w') (hx : ∀ k, X k → globN ≤ k) (hg : globOk w) : globOk w' :=
 ⟨globStable _ _ hg.1 (fun k hk => h.old k (Nat.lt_of_lt_of_le hk hg.2) (fun e => absurd (hx k e) (Nat.not_le.2 hk))), Nat.le_trans hg.2 h.size⟩
theorem Kept.glob' {w w' : World} (h : Kept w w') (hg : globOk w) : globOk w' := Mod.glob (X := fun _ => False) (Mod.of_kept h) (fun _ h => h.elim) hg
theorem Kept.tr {w w1 w2 : World} (h : Kept w w1) (h' : Kept w1 w2) : Kept w w2 :=
 ⟨h'.1.trans h.1, h'.2.1.trans h.2.1, h'.2.2.1.trans h.2.2.1, Nat.le_trans h.2.2.2.1 h'.2.2.2.1, fun k hk => (h'.2.2.2.2 k (Nat.lt_of_lt_of_le hk h.2.2.2.1)).trans (h.2.2.2.2 k hk)⟩
theorem Kept.al (w : World) (o : Obj) : Kept w (w.alloc o) := ⟨rfl, rfl, rfl, by rw [size_alloc]; omega, fun k hk => heap_alloc_lt w o hk⟩
structure Stored (w w' : World) (g : Nat) (cur : Array Value) (ty : TypeId) : Prop where
  mod : Mod (fun k => k = g) w w'
  at_ : w'.heap[g]? = some (.cells cur ty (0, 0))
theorem Stored.other {w w' : World} {g : Nat} {cur : Array Value} {ty : TypeId} (h : Stored w w' g cur ty) {k : Nat} (hk : k < w.heap.size) (hne : k ≠ g) : w'.heap[k]? = w.heap[k]? := h.mod.old k hk hne
theorem seg_one {cur : Array Value} {o : Nat} {x : Value} (h : o < cur.size) : (cur.toList.take o ++ [x] ++ cur.toList.drop (o + 1)).toArray = cur.setIfInBounds o x := by
 apply Array.ext_getElem?
 intro j
 have := seg_get cur.toList [x] o j (by simp; omega)
 simp only [List.length_singleton] at this
 rw [List.getElem?_toArray, this, Array.getElem?_setIfInBounds]
 by_cases e : o = j
 ·subst e
  rw [if_pos ⟨Nat.le_refl _, Nat.lt_succ_self _⟩, if_pos rfl, if_pos h]
  simp
 ·rw [if_neg (by omega), if_neg e]
  simp
theorem run_storeOne (P : Program) (w : World) (g o : Nat) (t ty : TypeId) (ti : TypeInfo) (cur : Array Value) (x : Value) (hg : w.heap[g]? = some (.cells cur t (0, 0))) (hi : P.info? ty = some ti) (h1 : ti.size = 1) (hx : x.cells = #[x]) (ho : x.oneCell' = true) (hfit : o < cur.size) :
  ∃ w', (Instr.storeAt ty (.pointer (some ⟨g, o, none⟩)) x).run P w = .ok () w' ∧ Stored w w' g (cur.setIfInBounds o x) t := by
 have hr := run_storeVar_at P w g o t ty ti cur x hg hi (by rw [hx, h1]; rfl) (by rw [hx]; exact hfit) (by rw [hx]; intro v hv; simp at hv; subst hv; exact ho)
 refine ⟨_, hr, ⟨rfl, rfl, rfl, by rw [setRow_size]; exact Nat.le_refl _, fun k _ hk => setRow_other w g k _ hk⟩, ?_⟩
 have e : (cur.toList.take o ++ x.cells.toList ++ cur.toList.drop (o + x.cells.size)).toArray = cur.setIfInBounds o x := by rw [hx]; exact seg_one hfit
 rw [e]
 exact setRow_heap w g cur _ t _ hg
theorem blk_lt {W : World} {g : Nat} {ob : Obj} (h : W.heap[g]? = some ob) : g < W.heap.size := (Array.getElem?_eq_some_iff.1 h).1
inductive Kd where
  | str
  | int
  | bool
  | sl (ks : List Kd)
def Kd.leaf : Kd → Bool
 | .sl _ => false
 | _ => true
def leafIs : Kd → Value → Prop
 | .str, x => ∃ b : ByteArray, x = .string b
 | .int, x => ∃ n : Int, x = .int .i64 n
 | .bool, x => ∃ b : Bool, x = .bool b
 | .sl _, _ => False
def markIs (mt : Nat → List UInt8) : Kd → Nat → Value → Prop
 | .str, k, x => ∃ b : ByteArray, x = .string b ∧ b.data.toList = mt k
 | .int, k, x => x = .int .i64 (k : Int)
 | .bool, k, x => x = .bool (k % 3 == 0)
 | .sl _, _, _ => False
theorem markIs.leaf {mt : Nat → List UInt8} {kd : Kd} {k : Nat} {x : Value} (h : markIs mt kd k x) : leafIs kd x := by
 cases kd with
 | str => obtain ⟨b, h, _⟩ := h; exact ⟨b, h⟩
 | int => exact ⟨_, h⟩
 | bool => exact ⟨_, h⟩
 | sl ks => exact h.elim
def sumN (N : Nat → Nat) : Nat → Nat
 | 0 => 0
 | p + 1 => sumN N p + N p
theorem sumN_le {N : Nat → Nat} {p q : Nat} (h : p ≤ q) : sumN N p ≤ sumN N q := by
  induction q with
  | zero => obtain rfl : p = 0 := by omega
            exact Nat.le_refl _
  | succ q ih =>
    by_cases e : p = q + 1
    · subst e; exact Nat.le_refl _
    · exact Nat.le_trans (ih (by omega)) (Nat.le_add_right _ _)
inductive MT (mt : Nat → List UInt8) (mk : Bool) (w : World) : Kd → Value → Nat → Nat → (Nat → Prop) → Prop
  | leaf (kd : Kd) (x : Value) (k0 : Nat) (T : Nat → Prop) (h : leafIs kd x) (hm : mk = true → markIs mt kd k0 x) : MT mt mk w kd x k0 1 T
  | nil (ks : List Kd) (a : Option Addr) (cap k0 : Nat) (T : Nat → Prop) : MT mt mk w (.sl ks) (.slice a 0 cap) k0 0 T
  | sl (ks : List Kd) (k o m cap k0 : Nat) (cur : Array Value) (ty : TypeId) (N : Nat → Nat) (Ts : Nat → Nat → Prop) (T : Nat → Prop) (h0 : 0 < m) (hm : m ≤ 1152921504606846976) (hb : w.heap[k]? = some (.cells cur ty (0, 0))) (hsz : o + m * ks.length ≤ cur.size)
      (hc : ∀ (p : Nat) (kd : Kd) (v : Value), p < m * ks.length → ks[p % ks.length]? = some kd → cur[o + p]? = some v → MT mt mk w kd v (k0 + sumN N p) (N p) (Ts p))
      (hd : ∀ p p' x, Ts p x → Ts p' x → p = p') (hk : ∀ p, ¬ Ts p k) (hTk : T k) (hT : ∀ p x, Ts p x → T x) : MT mt mk w (.sl ks) (.slice (some ⟨k, o, none⟩) m cap) k0 (sumN N (m * ks.length)) T
section
variable {mt : Nat → List UInt8} {mk : Bool} {w w' : World} {kd : Kd} {x : Value} {k0 n : Nat} {T T' : Nat → Prop}
theorem MT.mono (h : MT mt mk w kd x k0 n T) (hw : ∀ b, T b → w'.heap[b]? = w.heap[b]?) : MT mt mk w' kd x k0 n T := by
 induction h with
 | leaf kd x k0 T h hm => exact .leaf kd x k0 T h hm
 | nil ks a cap k0 T => exact .nil ks a cap k0 T
 | sl ks k o m cap k0 cur ty N Ts T h0 hm hb hsz hc hd hk hTk hT ih => exact .sl ks k o m cap k0 cur ty N Ts T h0 hm ((hw k hTk).trans hb) hsz (fun p kd v hp h1 h2 => ih p kd v hp h1 h2 (fun b hb => hw b (hT p b hb))) hd hk hTk hT
theorem MT.weaken (h : MT mt mk w kd x k0 n T) (hT : ∀ b, T b → T' b) : MT mt mk w kd x k0 n T' := by
 cases h with
 | leaf _ _ _ _ h hm => exact .leaf kd x k0 T' h hm
 | nil ks a cap _ _ => exact .nil ks a cap k0 T'
 | sl ks k o m cap _ cur ty N Ts _ h0 hm hb hsz hc hd hk hTk hT' => exact .sl ks k o m cap k0 cur ty N Ts T' h0 hm hb hsz hc hd hk (hT k hTk) (fun p x hx => hT x (hT' p x hx))
theorem MT.start (h : MT mt false w kd x k0 n T) : ∀ k1, MT mt false w kd x k1 n T := by
 induction h with
 | leaf kd x k0 T h hm => exact fun k1 => .leaf kd x k1 T h (fun e => by cases e)
 | nil ks a cap k0 T => exact fun k1 => .nil ks a cap k1 T
 | sl ks k o m cap k0 cur ty N Ts T h0 hm hb hsz hc hd hk hTk hT ih => exact fun k1 => .sl ks k o m cap k1 cur ty N Ts T h0 hm hb hsz (fun p kd v hp h1 h2 => ih p kd v hp h1 h2 _) hd hk hTk hT
theorem MT.one (h : MT mt mk w kd x k0 n T) (hl : kd.leaf = true) : n = 1 ∧ leafIs kd x ∧ (mk = true → markIs mt kd k0 x) := by
 cases h with
 | leaf _ _ _ _ h hm => exact ⟨rfl, h, hm⟩
 | nil => cases hl
 | sl => cases hl
structure SlInv (mt : Nat → List UInt8) (w0 w : World) (ks : List Kd) (bk o m : Nat) (cur : Array Value) (ty : TypeId) (N : Nat → Nat) (Ts : Nat → Nat → Prop) (k0 p : Nat) : Prop where
  hb : w.heap[bk]? = some (.cells cur ty (0, 0))
  hsz : o + m * ks.length ≤ cur.size
  done : ∀ (q : Nat) (kd : Kd) (v : Value), q < p → q < m * ks.length → ks[q % ks.length]? = some kd → cur[o + q]? = some v → MT mt true w kd v (k0 + sumN N q) (N q) (Ts q)
  todo : ∀ (q : Nat) (kd : Kd) (v : Value), p ≤ q → q < m * ks.length → ks[q % ks.length]? = some kd → cur[o + q]? = some v → MT mt false w kd v 0 (N q) (Ts q)
  mod : Mod (fun x => x = bk ∨ ∃ q, Ts q x) w0 w
  hd : ∀ p p' x, Ts p x → Ts p' x → p = p'
  hk : ∀ p, ¬ Ts p bk
  lt : ∀ p x, Ts p x → x < w.heap.size
variable {w0 : World} {ks : List Kd} {bk o m p : Nat} {cur : Array Value} {ty : TypeId} {N : Nat → Nat} {Ts : Nat → Nat → Prop} {v : Value}
theorem SlInv.kept (h : SlInv mt w0 w ks bk o m cur ty N Ts k0 p) (hk : Kept w w') : SlInv mt w0 w' ks bk o m cur ty N Ts k0 p := by
 have hold : ∀ q b, Ts q b → w'.heap[b]? = w.heap[b]? := fun q b hq => hk.2.2.2.2 b (h.lt q b hq)
 exact ⟨(hk.2.2.2.2 bk (blk_lt h.hb)).trans h.hb, h.hsz, fun q kd v h1 h2 h3 h4 => (h.done q kd v h1 h2 h3 h4).mono (hold q), fun q kd v h1 h2 h3 h4 => (h.todo q kd v h1 h2 h3 h4).mono (hold q), h.mod.trans (Mod.of_kept hk), h.hd, h.hk, fun q x hx => Nat.lt_of_lt_of_le (h.lt q x hx) hk.2.2.2.1⟩
theorem SlInv.leaf (h : SlInv mt w0 w ks bk o m cur ty N Ts k0 p) (hp : p < m * ks.length) (hkd : ks[p % ks.length]? = some kd) (hl : kd.leaf = true) (hv : markIs mt kd (k0 + sumN N p) v) (hst : Stored w w' bk (cur.setIfInBounds (o + p) v) ty) :
  N p = 1 ∧ SlInv mt w0 w' ks bk o m (cur.setIfInBounds (o + p) v) ty N Ts k0 (p + 1) := by
 have hlt : o + p < cur.size := by have := h.hsz; omega
 obtain ⟨u, hu⟩ : ∃ u, cur[o + p]? = some u := ⟨_, Array.getElem?_eq_getElem hlt⟩
 have h1 := ((h.todo p kd u (Nat.le_refl _) hp hkd hu).one hl).1
 have hold : ∀ q b, Ts q b → w'.heap[b]? = w.heap[b]? := fun q b hq => hst.other (h.lt q b hq) (fun e => h.hk q (e ▸ hq))
 refine ⟨h1, hst.at_, by rw [Array.size_setIfInBounds]; exact h.hsz, fun q kd' v' g1 g2 g3 g4 => ?_, fun q kd' v' g1 g2 g3 g4 => ?_, h.mod.trans (hst.mod.mono (fun k e => .inl e)), h.hd, h.hk, fun q x hx => Nat.lt_of_lt_of_le (h.lt q x hx) hst.mod.size⟩
 ·by_cases e : q = p
  ·subst e
   rw [hkd] at g3
   injection g3 with g3
   subst g3
   rw [Array.getElem?_setIfInBounds_self_of_lt hlt] at g4
   injection g4 with g4
   subst g4
   rw [h1]
   exact .leaf kd v _ _ hv.leaf (fun _ => hv)
  ·rw [Array.getElem?_setIfInBounds_ne (by omega)] at g4
   exact (h.done q kd' v' (by omega) g2 g3 g4).mono (hold q)
 ·rw [Array.getElem?_setIfInBounds_ne (by omega)] at g4
  exact (h.todo q kd' v' (by omega) g2 g3 g4).mono (hold q)
theorem SlInv.sub (h : SlInv mt w0 w ks bk o m cur ty N Ts k0 p) (hp : p < m * ks.length) (hkd : ks[p % ks.length]? = some kd) (hv : cur[o + p]? = some v) (hm : Mod (Ts p) w w') (ht : MT mt true w' kd v (k0 + sumN N p) (N p) (Ts p)) :
  SlInv mt w0 w' ks bk o m cur ty N Ts k0 (p + 1) := by
 have hold : ∀ q, q ≠ p → ∀ b, Ts q b → w'.heap[b]? = w.heap[b]? := fun q hq b hb => hm.old b (h.lt q b hb) (fun e => hq (h.hd q p b hb e))
 refine ⟨(hm.old bk (blk_lt h.hb) (h.hk p)).trans h.hb, h.hsz, fun q kd' v' g1 g2 g3 g4 => ?_, fun q kd' v' g1 g2 g3 g4 => ?_, h.mod.trans (hm.mono (fun k hk => .inr ⟨p, hk⟩)), h.hd, h.hk, fun q x hx => Nat.lt_of_lt_of_le (h.lt q x hx) hm.size⟩
 ·by_cases e : q = p
  ·subst e
   rw [hkd] at g3
   injection g3 with g3
   subst g3
   rw [hv] at g4
   injection g4 with g4
   subst g4
   exact ht
  ·exact (h.done q kd' v' (by omega) g2 g3 g4).mono (hold q e)
 ·exact (h.todo q kd' v' (by omega) g2 g3 g4).mono (hold q (by omega))
end
def MarkOk (P : Program) (mt : Nat → List UInt8) (f : Nat) (kd : Kd) : Prop := Known P f ∧ ∀ (T : Nat → Prop) (x : Value) (n k0 : Nat) (w : World), globOk w → (∀ b, T b → globN ≤ b ∧ b < w.heap.size) → MT mt false w kd x 0 n T → k0 + n ≤ 1152921504606846976 →
 Calls P f #[x, .int .i64 (k0 : Int)] w fun e w' => e = .returned (.int .i64 ((k0 + n : Nat) : Int)) ∧ Mod T w w' ∧ MT mt true w' kd x k0 n T
def HeldOk (P : Program) (mt : Nat → List UInt8) (f : Nat) (kd : Kd) : Prop := Known P f ∧ ∀ (T : Nat → Prop) (x : Value) (n k0 : Nat) (w : World), globOk w → (∀ b, T b → b < w.heap.size) → MT mt true w kd x k0 n T → k0 + n ≤ 1152921504606846976 →
 Calls P f #[x, .int .i64 (k0 : Int)] w fun e w' => e = .returned (.int .i64 ((k0 + n : Nat) : Int)) ∧ Kept w w'
def TextOk (P : Program) (mt : Nat → List UInt8) (f : Nat) : Prop := Known P f ∧ ∀ (k : Nat) (w : World), k < 4611686018427387904 → globOk w →
 Calls P f #[.int .i64 (k : Int)] w fun e w' => ∃ b : ByteArray, e = .returned (.string b) ∧ b.data.toList = mt k ∧ Kept w w'
end Go.Am
end
