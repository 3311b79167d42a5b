/-
  Laws that mark what they were given and what they were handed: the data's kinds, the functions that mark and that look for marks, the laws' own code. Written by program (walklaw3.py).
-/
import Derived.Test.YtoljfpgnhfkdcaavAmRunO
import Derived.Test.YtoljfpgnhfkdcaavTy
import Derived.Test.YtoljfpgnhfkdcaavMz
import Derived.Test.YtoljfpgnhfkdcaavTq
section
set_option linter.unusedVariables false
set_option linter.unusedSimpArgs false
namespace Go.Am
open Go Go.RowKit
def isLoud : Op → Bool
 | .call _ => true
 | .binOp .neq _ _ _ _ => true
 | _ => false
def isAlloc : Op → Bool
 | .alloc _ => true
 | _ => false
def isBox : Op → Bool
 | .box _ _ => true
 | _ => false
def edgeTo (o : Oper) (k : Nat) : Bool := o.after.toList.any fun e => e.on == k && Region.binds .any e
def loudAt (ops : Array Oper) (k : Nat) : Bool := match ops[k]? with
 | some o => isLoud o.op
 | none => false
def allocAt (ops : Array Oper) (k : Nat) : Bool := match ops[k]? with
 | some o => isAlloc o.op
 | none => false
def prevLoud (ops : Array Oper) : Nat → Option Nat
 | 0 => none
 | i + 1 => if loudAt ops i = true then some i else prevLoud ops i
def lfold (c : Cfg) (ag : List (Option Nat)) (n : Nat) : List Oper → LS → Option LS
 | [], σ => some σ
 | o :: os, σ => match lone c ag n σ o with
  | some σ' => lfold c ag n os σ'
  | none => none
def ldrawOk (ops : Array Oper) (m : Nat) : Bool :=
 decide ((dstsOf (ops.toList.take m)).Nodup) && ((List.range m).all fun i => (List.range m).all fun j => !(allocAt ops i && allocAt ops j) || i == j) && ((List.range ops.size).all fun j => match ops[j]? with
  | some o => o.after.toList.all (fun e => decide (e.on < j)) && o.guard.isNone
  | none => true) && (List.range m).all fun j => match ops[j]? with
  | some o => o.dst.isSome && !isBox o.op && (match prevLoud ops j with
    | some k => !isLoud o.op || edgeTo o k
    | none => true) && o.op.operands.toList.all fun
   | .tmp x => !(dstsOf (ops.toList.take m)).contains x || o.after.toList.any fun e => Region.binds .any e && (match ops[e.on]? with
    | some o' => o'.dst == some x
    | none => false)
   | _ => true
  | none => true
def ldraw (c : Cfg) (ag : List (Option Nat)) (n : Nat) (ops : Array Oper) (σ : LS) : Option LS :=
 if σ.fr = true then none else
 if ldrawOk ops ops.size = true then lfold c ag n ops.toList σ else
 if ldrawOk ops (ops.size - 1) = true ∧ 0 < ops.size then (match ops[ops.size - 1]? with
  | some o => if (List.range (ops.size - 1)).all (edgeTo o) = true then (match lfold c ag n (ops.toList.take (ops.size - 1)) σ with
   | some σp => lone c ag n σp o
   | none => none) else none
  | none => none) else none
section
variable {X : LX} {c : Cfg} {n d : Nat} {s : Nat → Value} {w w' : World} {o : Oper} {σ σ' : LS} {ops : Array Oper}
theorem lop_quiet {ag : List (Option Nat)} {g : Nat → LV} {tb tb' : List LE} {e e' : List LC} {op : Op} {v : LV} (h : lop c ag g tb e op = some (v, tb', e')) (hq : isLoud op = false) : tb' = tb ∧ e' = e ∧ ∀ tb2 e2, lop c ag g tb2 e2 op = some (v, tb2, e2) := by
 unfold lop at h
 split at h
 ·split at h
  ·rename_i v1 hv
   split at h
   ·rename_i hf
    simp only [Option.some.injEq, Prod.mk.injEq] at h
    obtain ⟨rfl, rfl, rfl⟩ := h
    exact ⟨rfl, rfl, fun tb2 e2 => by simp only [lop, hv, hf, if_true]⟩
   ·cases h
  ·cases h
 ·split at h
  ·rename_i v1 hv
   split at h
   ·rename_i hf
    simp only [Option.some.injEq, Prod.mk.injEq] at h
    obtain ⟨rfl, rfl, rfl⟩ := h
    exact ⟨rfl, rfl, fun tb2 e2 => by simp only [lop, hv, hf, if_true]⟩
   ·cases h
  ·cases h
 ·split at h
  ·rename_i j i hx ht
   split at h
   ·rename_i hcc
    simp only [Option.some.injEq, Prod.mk.injEq] at h
    obtain ⟨rfl, rfl, rfl⟩ := h
    exact ⟨rfl, rfl, fun tb2 e2 => by simp only [lop, hx, ht, hcc, and_self, if_true]⟩
   ·cases h
  ·cases h
 ·split at h
  ·rename_i b hx
   simp only [Option.some.injEq, Prod.mk.injEq] at h
   obtain ⟨rfl, rfl, rfl⟩ := h
   exact ⟨rfl, rfl, fun tb2 e2 => by simp only [lop, hx]⟩
  ·cases h
 ·split at h
  ·rename_i b hb
   split at h
   ·rename_i v1 hv
    split at h
    ·rename_i hf
     simp only [Option.some.injEq, Prod.mk.injEq] at h
     obtain ⟨rfl, rfl, rfl⟩ := h
     exact ⟨rfl, rfl, fun tb2 e2 => by simp only [lop, hb, hv, hf, if_true]⟩
    ·cases h
   ·cases h
  ·cases h
 ·split at h
  ·rename_i v1 hv
   simp only [Option.some.injEq, Prod.mk.injEq] at h
   obtain ⟨rfl, rfl, rfl⟩ := h
   exact ⟨rfl, rfl, fun tb2 e2 => by simp only [lop, hv]⟩
  ·cases h
 ·cases hq
 ·cases hq
 ·cases hq
 ·split at h
  ·rename_i js hx
   split at h
   ·rename_i j hj
    simp only [Option.some.injEq, Prod.mk.injEq] at h
    obtain ⟨rfl, rfl, rfl⟩ := h
    exact ⟨rfl, rfl, fun tb2 e2 => by simp only [lop, hx, hj]⟩
   ·cases h
  ·cases h
 ·cases h
theorem lone_dst {ag : List (Option Nat)} (h : lone c ag n σ o = some σ') (hd : o.dst = some d) (hb : isBox o.op = false) : d < n ∧ ∃ v, σ'.env = (d, v) :: σ.env ∧ (isLoud o.op = false → σ'.tb = σ.tb ∧ σ'.evs = σ.evs) ∧ (isAlloc o.op = true → σ.fr = false ∧ σ'.fr = true) ∧ (isAlloc o.op = false → σ'.fr = σ.fr) := by
 unfold lone at h
 rw [hd] at h
 simp only at h
 split at h
 ·rename_i hdn
  refine ⟨hdn, ?_⟩
  split at h
  ·rename_i t ho
   split at h
   ·split at h
    ·rename_i hf
     injection h with h
     subst h
     exact ⟨_, rfl, fun _ => ⟨rfl, rfl⟩, fun _ => ⟨hf, rfl⟩, fun e => by rw [ho] at e; cases e⟩
    ·cases h
   ·cases h
  ·rename_i bt x ho
   rw [ho] at hb
   cases hb
  ·rename_i op hno1 hno2
   split at h
   ·rename_i v tb' evs' hop
    injection h with h
    subst h
    refine ⟨v, rfl, fun hq => ?_, fun ha => ?_, fun _ => rfl⟩
    ·obtain ⟨e1, e2, _⟩ := lop_quiet hop hq
     exact ⟨e1, e2⟩
    ·cases hop' : o.op with
     | alloc t => exact absurd hop' (hno1 t)
     | _ => rw [hop'] at ha; cases ha
   ·cases h
 ·cases h
theorem lfold_take {ag : List (Option Nat)} : ∀ (l : List Oper) (σ σ' : LS), lfold c ag n l σ = some σ' → ∀ j o, l[j]? = some o → ∃ σj σj', lfold c ag n (l.take j) σ = some σj ∧ lone c ag n σj o = some σj' ∧ lfold c ag n (l.take (j + 1)) σ = some σj' ∧ lfold c ag n (l.drop (j + 1)) σj' = some σ' := by
 intro l
 induction l with
 | nil => intro σ σ' h j o hj; simp at hj
 | cons o l ih =>
  intro σ σ' h j o' hj
  rw [lfold] at h
  split at h
  ·rename_i σ1 h1
   cases j with
   | zero =>
    simp only [List.getElem?_cons_zero, Option.some.injEq] at hj
    subst hj
    exact ⟨σ, σ1, rfl, h1, by simp [lfold, h1], by simpa using h⟩
   | succ j =>
    obtain ⟨σj, σj', a1, a2, a3, a4⟩ := ih σ1 σ' h j o' (by simpa using hj)
    exact ⟨σj, σj', by simp [lfold, h1, a1], a2, by simp [lfold, h1, a3], by simpa using a4⟩
  ·cases h
def plainOps (l : List Oper) : Prop := ∀ o ∈ l, (∃ d, o.dst = some d) ∧ isBox o.op = false
theorem lfold_env {ag : List (Option Nat)} : ∀ (l : List Oper) (σ σ' : LS), lfold c ag n l σ = some σ' → plainOps l → (∀ t, t ∉ dstsOf l → lget σ'.env t = lget σ.env t) ∧ ((∀ o ∈ l, isLoud o.op = false) → σ'.tb = σ.tb ∧ σ'.evs = σ.evs) ∧ (σ.fr = true → σ'.fr = true) ∧ ((∀ o ∈ l, isAlloc o.op = false) → σ'.fr = σ.fr) := by
 intro l
 induction l with
 | nil => intro σ σ' h _; injection h with h; subst h; exact ⟨fun _ _ => rfl, fun _ => ⟨rfl, rfl⟩, fun h => h, fun _ => rfl⟩
 | cons o l ih =>
  intro σ σ' h hp
  rw [lfold] at h
  split at h
  ·rename_i σ1 h1
   obtain ⟨⟨d, hd⟩, hb⟩ := hp o List.mem_cons_self
   obtain ⟨hdn, v, b1, b2, b3, b4⟩ := lone_dst h1 hd hb
   obtain ⟨i1, i2, i3, i4⟩ := ih σ1 σ' h (fun o ho => hp o (List.mem_cons_of_mem _ ho))
   have hds : dstsOf (o :: l) = d :: dstsOf l := by simp [dstsOf, hd]
   refine ⟨fun t ht => ?_, fun hl => ?_, fun hf => ?_, fun ha => ?_⟩
   ·rw [hds, List.mem_cons, not_or] at ht
    rw [i1 t ht.2, b1, lget, if_neg (fun e => ht.1 e.symm)]
   ·obtain ⟨c1, c2⟩ := b2 (hl o List.mem_cons_self)
    obtain ⟨c3, c4⟩ := i2 (fun o ho => hl o (List.mem_cons_of_mem _ ho))
    exact ⟨c3.trans c1, c4.trans c2⟩
   ·cases ha : isAlloc o.op with
    | true => have := (b3 ha).1; rw [hf] at this; cases this
    | false => exact i3 ((b4 ha).trans hf)
   ·exact (i4 (fun o ho => ha o (List.mem_cons_of_mem _ ho))).trans (b4 (ha o List.mem_cons_self))
  ·cases h
theorem prevLoud_lt : ∀ {i k : Nat}, prevLoud ops i = some k → k < i ∧ loudAt ops k = true ∧ ∀ j, k < j → j < i → loudAt ops j = false := by
 intro i
 induction i with
 | zero => intro k h; cases h
 | succ i ih =>
  intro k h
  rw [prevLoud] at h
  split at h
  ·rename_i hl
   injection h with h
   subst h
   exact ⟨Nat.lt_succ_self _, hl, fun j h1 h2 => by omega⟩
  ·rename_i hl
   obtain ⟨a1, a2, a3⟩ := ih h
   refine ⟨by omega, a2, fun j h1 h2 => ?_⟩
   by_cases e : j = i
   ·subst e; simpa using hl
   ·exact a3 j h1 (by omega)
theorem prevLoud_none : ∀ {i : Nat}, prevLoud ops i = none → ∀ j, j < i → loudAt ops j = false := by
 intro i
 induction i with
 | zero => intro _ j hj; omega
 | succ i ih =>
  intro h j hj
  rw [prevLoud] at h
  split at h
  ·cases h
  ·rename_i hl
   by_cases e : j = i
   ·subst e; simpa using hl
   ·exact ih h j (by omega)
def LX.Half (X : LX) (c : Cfg) (n : Nat) (ops : Array Oper) (m : Nat) (σ0 σp : LS) (listed : Array Bool) (s : Nat → Value) (w : World) : Prop :=
 (∀ i, n ≤ i → s i = undef) ∧ ∃ (q : Nat) (σq : LS) (tv : List LM) (bl : List (Nat × Nat)) (fr : Option (Nat × Nat)), q ≤ m ∧ lfold c X.ag n (ops.toList.take q) σ0 = some σq ∧ (∀ i, i < m → loudAt ops i = true → (listed.getD i false = true ↔ i < q)) ∧ X.Inv σq.tb tv bl fr w ∧ X.H σq.evs ∧
 (∀ t, t ∉ dstsOf (ops.toList.take m) → X.LR tv bl fr (lget σ0.env t) (s t)) ∧ (∀ (j : Nat) (o : Oper) (d : Nat), j < m → ops[j]? = some o → o.dst = some d → listed.getD j false = true → X.LR tv bl fr (lget σp.env d) (s d)) ∧
 (fr = none ∨ ∃ j, j < m ∧ allocAt ops j = true ∧ listed.getD j false = true)
theorem loud_none {m q i : Nat} {σq σi : LS} {ag : List (Option Nat)} {σ0 : LS} (hp : plainOps (ops.toList.take m)) (hq : lfold c ag n (ops.toList.take q) σ0 = some σq) (hi : lfold c ag n (ops.toList.take i) σ0 = some σi) (hqi : q ≤ i) (him : i ≤ m) (hl : ∀ j, q ≤ j → j < i → loudAt ops j = false) : σi.tb = σq.tb ∧ σi.evs = σq.evs := by
 have app : ∀ (a b : List Oper) (σ : LS), lfold c ag n (a ++ b) σ = (lfold c ag n a σ).bind (fun σ => lfold c ag n b σ) := by
  intro a b
  induction a with
  | nil => intro σ; rfl
  | cons o a ih =>
   intro σ
   rw [List.cons_append, lfold, lfold]
   cases lone c ag n σ o with
   | none => rfl
   | some σ1 => exact ih σ1
 have e : ops.toList.take i = ops.toList.take q ++ (ops.toList.take i).drop q := by
  have := (List.take_append_drop q (ops.toList.take i)).symm
  rw [List.take_take, Nat.min_eq_left hqi] at this
  exact this
 rw [e, app, hq] at hi
 have hi : lfold c ag n ((ops.toList.take i).drop q) σq = some σi := hi
 have sub : ∀ o ∈ (ops.toList.take i).drop q, ∃ j, q ≤ j ∧ j < i ∧ ops[j]? = some o := fun o ho => by
  obtain ⟨j, hj⟩ := List.getElem?_of_mem ho
  rw [List.getElem?_drop] at hj
  have hlt := (List.getElem?_eq_some_iff.1 hj).1
  rw [List.length_take] at hlt
  rw [List.getElem?_take_of_lt (by omega)] at hj
  exact ⟨q + j, by omega, by omega, by simpa using hj⟩
 refine (lfold_env _ _ _ hi (fun o ho => ?_)).2.1 (fun o ho => ?_)
 ·obtain ⟨j, h1, h2, h3⟩ := sub o ho
  refine hp o (List.mem_of_getElem? (i := j) ?_)
  rw [List.getElem?_take_of_lt (by omega)]
  simpa using h3
 ·obtain ⟨j, h1, h2, h3⟩ := sub o ho
  have := hl j h1 h2
  unfold loudAt at this
  rw [h3] at this
  exact this
theorem getD_set (l : Array Bool) (i j : Nat) (h : i < l.size) : (l.setIfInBounds i true).getD j false = if i = j then true else l.getD j false := by
 simp only [Array.getD_eq_getD_getElem?, Array.getElem?_setIfInBounds]
 split
 ·rename_i e; subst e; simp [h]
 ·rfl
structure LDraw (ops : Array Oper) (m : Nat) : Prop where
  nodup : (dstsOf (ops.toList.take m)).Nodup
  one : ∀ i j, i < m → j < m → allocAt ops i = true → allocAt ops j = true → i = j
  back : ∀ (j : Nat) (o : Oper), ops[j]? = some o → (∀ e ∈ o.after.toList, e.on < j) ∧ o.guard = none
  at_ : ∀ (j : Nat) (o : Oper), j < m → ops[j]? = some o → (∃ d, o.dst = some d) ∧ isBox o.op = false ∧ (∀ k, prevLoud ops j = some k → isLoud o.op = true → edgeTo o k = true) ∧
    ∀ x, .tmp x ∈ o.op.operands.toList → x ∉ dstsOf (ops.toList.take m) ∨ ∃ e ∈ o.after.toList, Region.binds .any e = true ∧ ∃ o', ops[e.on]? = some o' ∧ o'.dst = some x
theorem drawOk_inv {m : Nat} (hm : m ≤ ops.size) (h : ldrawOk ops m = true) : LDraw ops m := by
 unfold ldrawOk at h
 simp only [Bool.and_eq_true, decide_eq_true_eq, List.all_eq_true] at h
 obtain ⟨⟨⟨h1, h2⟩, h3⟩, h4⟩ := h
 refine ⟨h1, fun i j hi hj ha hb => ?_, fun j o ho => ?_, fun j o hj ho => ?_⟩
 ·have := h2 i (List.mem_range.2 hi) j (List.mem_range.2 hj)
  rw [ha, hb] at this
  simpa using this
 ·have := h3 j (List.mem_range.2 (Array.getElem?_eq_some_iff.1 ho).1)
  rw [ho] at this
  simp only [Bool.and_eq_true, List.all_eq_true, decide_eq_true_eq] at this
  refine ⟨this.1, ?_⟩
  cases hg : o.guard with
  | none => rfl
  | some _ => rw [hg] at this; cases this.2
 ·have := h4 j (List.mem_range.2 hj)
  rw [ho] at this
  simp only [Bool.and_eq_true, List.all_eq_true] at this
  obtain ⟨⟨⟨a1, a2⟩, a3⟩, a4⟩ := this
  refine ⟨?_, by simpa using a2, fun k hk hl => ?_, fun x hx => ?_⟩
  ·cases hd : o.dst with
   | none => rw [hd] at a1; cases a1
   | some d => exact ⟨d, rfl⟩
  ·rw [hk, hl] at a3
   simpa using a3
  ·have h2 := a4 _ hx
   simp only [Bool.or_eq_true, Bool.not_eq_true', List.any_eq_true, Bool.and_eq_true] at h2
   rcases h2 with h2 | ⟨e, he, hb, h2⟩
   ·exact .inl (fun hm => by rw [List.contains_iff_mem.2 hm] at h2; cases h2)
   ·refine .inr ⟨e, he, hb, ?_⟩
    split at h2
    ·rename_i o' ho'
     exact ⟨o', ho', by simpa using h2⟩
    ·cases h2
theorem LDraw.plain {m : Nat} (h : LDraw ops m) : plainOps (ops.toList.take m) := fun o ho => by
 obtain ⟨j, hj⟩ := List.getElem?_of_mem ho
 have hlt := (List.getElem?_eq_some_iff.1 hj).1
 rw [List.length_take] at hlt
 rw [List.getElem?_take_of_lt (by omega)] at hj
 obtain ⟨h1, h2, _⟩ := h.at_ j o (by omega) (by simpa using hj)
 exact ⟨h1, h2⟩
theorem LDraw.inj {m : Nat} (h : LDraw ops m) {i j : Nat} {x y : Oper} {d : Nat} (hi : i < m) (hj : j < m) (h1 : ops[i]? = some x) (h2 : ops[j]? = some y) (h3 : x.dst = some d) (h4 : y.dst = some d) : i = j :=
 nodup_filterMap_inj h.nodup i j x y d (by rw [List.getElem?_take_of_lt hi]; simpa using h1) (by rw [List.getElem?_take_of_lt hj]; simpa using h2) h3 h4
theorem mem_dsts {m j : Nat} {o : Oper} {d : Nat} (hj : j < m) (h1 : ops[j]? = some o) (h2 : o.dst = some d) : d ∈ dstsOf (ops.toList.take m) :=
 List.mem_filterMap.2 ⟨o, List.mem_of_getElem? (i := j) (by rw [List.getElem?_take_of_lt hj]; simpa using h1), h2⟩
theorem half_step {m i : Nat} {σ0 σp : LS} {listed : Array Bool} (hO : X.Ok) (hA : Agree X.P c) (hk : LDraw ops m) (hm : m ≤ ops.size) (hf : lfold c X.ag n (ops.toList.take m) σ0 = some σp) (hI : X.Half c n ops m σ0 σp listed s w) (ho : ops[i]? = some o) (him : i < m) (hli : listed.getD i true = false) (hsz : listed.size = ops.size)
  (hedges : ∀ e ∈ o.after.toList, Region.binds .any e = true → listed.getD e.on false = true) : O1 X.P n o s w (fun s' w' => X.Half c n ops m σ0 σp (listed.setIfInBounds i true) s' w') := by
 obtain ⟨hn, q, σq, tv, bl, fr, hqm, hq, hloud, hInv, hH, S1, S2, hfr⟩ := hI
 obtain ⟨⟨d, hd⟩, hbox, hprev, hopd⟩ := hk.at_ i o him ho
 obtain ⟨hback, hguard⟩ := hk.back i o ho
 refine ⟨hguard, ?_⟩
 have hil : i < listed.size := by omega
 have hli' : listed.getD i false = false := by simpa [hil] using hli
 have hol : (ops.toList.take m)[i]? = some o := by rw [List.getElem?_take_of_lt him]; simpa using ho
 obtain ⟨σi, σi', f1, f2, f3, f4⟩ := lfold_take _ _ _ hf i o hol
 rw [List.take_take, Nat.min_eq_left (by omega)] at f1 f3
 obtain ⟨hdn, v, e1, e2, e3, e4⟩ := lone_dst f2 hd hbox
 have tailp : plainOps ((ops.toList.take m).drop (i + 1)) := fun o ho => hk.plain o (List.mem_of_mem_drop ho)
 obtain ⟨t1, t2, t3, t4⟩ := lfold_env _ _ _ f4 tailp
 -- where a slot is written
 have notLater : ∀ x, (x ∉ dstsOf (ops.toList.take m) ∨ ∃ k o', k ≤ i ∧ ops[k]? = some o' ∧ o'.dst = some x) → x ∉ dstsOf ((ops.toList.take m).drop (i + 1)) := by
  intro x hx hmem
  obtain ⟨y, hy, hyd⟩ := List.mem_filterMap.1 hmem
  obtain ⟨p, hp⟩ := List.getElem?_of_mem hy
  rw [List.getElem?_drop] at hp
  have hplt := (List.getElem?_eq_some_iff.1 hp).1
  rw [List.length_take] at hplt
  rw [List.getElem?_take_of_lt (by omega)] at hp
  rcases hx with hno | ⟨k, o', hki, hok, hdk⟩
  ·exact hno (mem_dsts (j := i + 1 + p) (by omega) (by simpa using hp) hyd)
  ·have := hk.inj (i := k) (j := i + 1 + p) (by omega) (by omega) hok (by simpa using hp) hdk hyd
   omega
 have hvd : lget σp.env d = v := by
  rw [t1 d (notLater d (.inr ⟨i, o, Nat.le_refl _, ho, hd⟩)), e1, lget, if_pos rfl]
 have tailq : plainOps ((ops.toList.take m).drop i) := fun o ho => hk.plain o (List.mem_of_mem_drop ho)
 have hops : ∀ x, .tmp x ∈ o.op.operands.toList → X.LR tv bl fr (lget σi.env x) (s x) := by
  intro x hx
  rcases hopd x hx with hno | ⟨e, he, hb, o', ho', hd'⟩
  ·have h0 : lget σi.env x = lget σ0.env x := (lfold_env _ _ _ f1 (fun o ho => hk.plain o (by
    obtain ⟨p, hp⟩ := List.getElem?_of_mem ho
    have hplt := (List.getElem?_eq_some_iff.1 hp).1
    rw [List.length_take] at hplt
    rw [List.getElem?_take_of_lt (by omega)] at hp
    exact List.mem_of_getElem? (i := p) (by rw [List.getElem?_take_of_lt (by omega)]; exact hp)))).1 x (fun hmem => by
     obtain ⟨y, hy, hyd⟩ := List.mem_filterMap.1 hmem
     obtain ⟨p, hp⟩ := List.getElem?_of_mem hy
     have hplt := (List.getElem?_eq_some_iff.1 hp).1
     rw [List.length_take] at hplt
     rw [List.getElem?_take_of_lt (by omega)] at hp
     exact hno (mem_dsts (j := p) (by omega) (by simpa using hp) hyd))
   rw [h0]
   exact S1 x hno
  ·have hlt := hback e he
   have hne : x ≠ d := fun ee => by
    have := hk.inj (i := e.on) (j := i) (by omega) him ho' ho hd' (by rw [hd, ee])
    omega
   have hx2 : lget σp.env x = lget σi.env x := by
    rw [t1 x (notLater x (.inr ⟨e.on, o', by omega, ho', hd'⟩)), e1, lget, if_neg (fun ee => hne ee.symm)]
   rw [← hx2]
   exact S2 e.on o' x (by omega) ho' hd' (hedges e he hb)
 have hset : ∀ j, (listed.setIfInBounds i true).getD j false = if i = j then true else listed.getD j false := fun j => getD_set listed i j hil
 -- the slots afterwards
 have slots : ∀ {x : Value} {tv' : List LM} {fr' : Option (Nat × Nat)}, tv <+: tv' → (∀ b ty, fr = some (b, ty) → fr' = some (b, ty)) → X.LR tv' bl fr' v x →
   (∀ t, t ∉ dstsOf (ops.toList.take m) → X.LR tv' bl fr' (lget σ0.env t) (upd s d x t)) ∧ (∀ (j : Nat) (o : Oper) (t : Nat), j < m → ops[j]? = some o → o.dst = some t → (listed.setIfInBounds i true).getD j false = true → X.LR tv' bl fr' (lget σp.env t) (upd s d x t)) := by
  intro x tv' fr' hp1 hp2 hx
  refine ⟨fun t ht => ?_, fun j o' t hj hoj hdj hl => ?_⟩
  ·rw [upd_ne (fun e => ht (by rw [e]; exact mem_dsts him ho hd))]
   exact (S1 t ht).mono hp1 (fun _ h => h) hp2
  ·by_cases e : j = i
   ·subst e
    rw [ho] at hoj
    injection hoj with hoj
    subst hoj
    rw [hd] at hdj
    injection hdj with hdj
    subst hdj
    rw [upd_same, hvd]
    exact hx
   ·rw [upd_ne (fun e2 : t = d => e (hk.inj hj him hoj ho hdj (by rw [e2]; exact hd)))]
    rw [hset, if_neg (Ne.symm e)] at hl
    exact (S2 j o' t hj hoj hdj hl).mono hp1 (fun _ h => h) hp2
 have frk : fr = none ∨ ∃ j, j < m ∧ allocAt ops j = true ∧ (listed.setIfInBounds i true).getD j false = true := hfr.imp (fun h => h) (fun ⟨j, h1, h2, h3⟩ => ⟨j, h1, h2, by rw [hset]; split <;> first | rfl | exact h3⟩)
 have hloi : loudAt ops i = isLoud o.op := by unfold loudAt; rw [ho]
 have hali : allocAt ops i = isAlloc o.op := by unfold allocAt; rw [ho]
 cases hal : isAlloc o.op with
 | true =>
  -- an empty box
  obtain ⟨ty, hop⟩ : ∃ ty, o.op = .alloc ty := by
   cases hop : o.op with
   | alloc ty => exact ⟨ty, rfl⟩
   | _ => rw [hop] at hal; cases hal
  have hnl : isLoud o.op = false := by rw [hop]; rfl
  obtain rfl : fr = none := by
   rcases hfr with h | ⟨j, h1, h2, h3⟩
   ·exact h
   ·have := hk.one j i h1 him h2 (by rw [hali, hal])
    subst this
    rw [hli'] at h3
    cases h3
  unfold lone at f2
  rw [hd] at f2
  simp only [if_pos hdn, hop] at f2
  split at f2
  ·rename_i ii hi
   split at f2
   ·injection f2 with f2
    have hv : v = .fb ty := by
     rw [← f2] at e1
     simp only [List.cons.injEq, Prod.mk.injEq, true_and, and_true] at e1
     exact e1.symm
    refine (alloc_ok (s := s) hA hInv hop hi hd hdn).mono (fun s' w' h => ?_)
    obtain ⟨rfl, h2⟩ := h
    obtain ⟨g1, g2⟩ := slots (fr' := some (w.heap.size, ty)) (List.prefix_refl _) (fun _ _ e => by cases e) (show X.LR tv bl _ v _ by rw [hv]; exact ⟨_, rfl, rfl⟩)
    refine ⟨undef_upd hn hdn _, q, σq, tv, bl, _, hqm, hq, fun j hj hl => ?_, h2, hH, g1, g2, .inr ⟨i, him, by rw [hali, hal], by rw [hset, if_pos rfl]⟩⟩
    rw [hset, if_neg (fun e => by subst e; rw [hloi, hnl] at hl; cases hl)]
    exact hloud j hj hl
   ·cases f2
  ·cases f2
 | false =>
  have hlop : lop c X.ag (lget σi.env) σi.tb σi.evs o.op = some (v, σi'.tb, σi'.evs) := by
   unfold lone at f2
   rw [hd] at f2
   simp only [if_pos hdn] at f2
   split at f2
   ·rename_i ty hop; rw [hop] at hal; cases hal
   ·rename_i bt x hop; rw [hop] at hbox; cases hbox
   ·split at f2
    ·rename_i v1 tb1 ev1 hop
     injection f2 with f2
     subst f2
     simp only [List.cons.injEq, Prod.mk.injEq, true_and, and_true] at e1
     rw [hop, e1]
    ·cases f2
  cases hll : isLoud o.op with
  | false =>
   obtain ⟨_, _, hany⟩ := lop_quiet hlop hll
   refine (lop_ok hO hA hInv (hany σq.tb σq.evs) hH hops hn hd hdn).mono (fun s' w' h => ?_)
   obtain ⟨x, tv', rfl, h1, h2, h3, h4⟩ := h
   obtain ⟨g1, g2⟩ := slots (fr' := fr) h1 (fun _ _ e => e) h2
   refine ⟨undef_upd hn hdn _, q, σq, tv', bl, fr, hqm, hq, fun j hj hl => ?_, h3, h4, g1, g2, frk⟩
   rw [hset, if_neg (fun e => by subst e; rw [hloi, hll] at hl; cases hl)]
   exact hloud j hj hl
  | true =>
   have hiq : q ≤ i := by
    rcases Nat.lt_or_ge i q with h | h
    ·have := (hloud i him (by rw [hloi, hll])).2 h
     rw [hli'] at this
     cases this
    ·exact h
   have hbetween : ∀ j, q ≤ j → j < i → loudAt ops j = false := by
    intro j h1 h2
    cases hp : prevLoud ops i with
    | none => exact prevLoud_none hp j h2
    | some k =>
     obtain ⟨k1, k2, k3⟩ := prevLoud_lt hp
     have hed := hprev k hp hll
     unfold edgeTo at hed
     rw [List.any_eq_true] at hed
     obtain ⟨e, he, hee⟩ := hed
     simp only [Bool.and_eq_true, beq_iff_eq] at hee
     have hlk := hedges e he hee.2
     rw [hee.1] at hlk
     have hkq := (hloud k (by omega) k2).1 hlk
     exact k3 j (by omega) h2
   obtain ⟨s1, s2⟩ := loud_none hk.plain hq f1 hiq (Nat.le_of_lt him) hbetween
   rw [s1, s2] at hlop
   refine (lop_ok hO hA hInv hlop hH hops hn hd hdn).mono (fun s' w' h => ?_)
   obtain ⟨x, tv', rfl, h1, h2, h3, h4⟩ := h
   obtain ⟨g1, g2⟩ := slots (fr' := fr) h1 (fun _ _ e => e) h2
   refine ⟨undef_upd hn hdn _, i + 1, σi', tv', bl, fr, by omega, f3, fun j hj hl => ?_, h3, h4, g1, g2, frk⟩
   rw [hset]
   by_cases e : i = j
   ·rw [if_pos e]; exact ⟨fun _ => by omega, fun _ => rfl⟩
   ·rw [if_neg e, hloud j hj hl]
    refine ⟨fun h => by omega, fun h => ?_⟩
    rcases Nat.lt_or_ge j q with h' | h'
    ·exact h'
    ·have := hbetween j h' (by omega)
     rw [hl] at this
     cases this
theorem half_all {m : Nat} {σ0 σp : LS} {listed : Array Bool} (hk : LDraw ops m) (hm : m ≤ ops.size) (hf : lfold c X.ag n (ops.toList.take m) σ0 = some σp) (hI : X.Half c n ops m σ0 σp listed s w) (hl : ∀ j, j < m → listed.getD j false = true) : X.SI n σp s w := by
 obtain ⟨hn, q, σq, tv, bl, fr, hqm, hq, hloud, hInv, hH, S1, S2, hfr⟩ := hI
 obtain ⟨s1, s2⟩ := loud_none hk.plain hq hf hqm (Nat.le_refl _) (fun j h1 h2 => by
  cases hc : loudAt ops j with
  | false => rfl
  | true => have := (hloud j h2 hc).1 (hl j h2); omega)
 obtain ⟨a1, a2, a3, a4⟩ := lfold_env _ _ _ hf hk.plain
 refine ⟨tv, bl, fr, fun t => ?_, hn, by rw [s1]; exact hInv, by rw [s2]; exact hH, fun hfr0 => ?_⟩
 ·by_cases ht : t ∈ dstsOf (ops.toList.take m)
  ·obtain ⟨o, ho, hd⟩ := List.mem_filterMap.1 ht
   obtain ⟨j, hj⟩ := List.getElem?_of_mem ho
   have hlt := (List.getElem?_eq_some_iff.1 hj).1
   rw [List.length_take] at hlt
   rw [List.getElem?_take_of_lt (by omega)] at hj
   exact S2 j o t (by omega) (by simpa using hj) hd (hl j (by omega))
  ·rw [a1 t ht]; exact S1 t ht
 ·rcases hfr with h | ⟨j, h1, h2, h3⟩
  ·exact h
  ·exfalso
   obtain ⟨o, ho⟩ : ∃ o, ops[j]? = some o := ⟨_, Array.getElem?_eq_getElem (by omega)⟩
   have hol : (ops.toList.take m)[j]? = some o := by rw [List.getElem?_take_of_lt h1]; simpa using ho
   obtain ⟨σj, σj', f1, f2, f3, f4⟩ := lfold_take _ _ _ hf j o hol
   obtain ⟨⟨d, hd⟩, hbox, _, _⟩ := hk.at_ j o h1 ho
   obtain ⟨_, v, _, _, e3, _⟩ := lone_dst f2 hd hbox
   have : isAlloc o.op = true := by unfold allocAt at h2; rw [ho] at h2; exact h2
   have := (lfold_env _ _ _ f4 (fun o ho => hk.plain o (List.mem_of_mem_drop ho))).2.2.1 (e3 this).2
   rw [hfr0] at this
   cases this
theorem half_start {m : Nat} {σ0 σp : LS} {k : Nat} (hS : X.SI n σ0 s w) (hf : σ0.fr = false) {w' : World} (hw : Kept w w') : X.Half c n ops m σ0 σp (Array.replicate k false) s w' := by
 obtain ⟨tv, bl, fr, hL, hn, hI, hH, hfr⟩ := hS
 obtain rfl := hfr hf
 have hz : ∀ j, (Array.replicate k false).getD j false = false := fun j => by
  rw [Array.getD_eq_getD_getElem?, Array.getElem?_replicate]
  split <;> rfl
 have hz' : ∀ j, (Array.replicate k false).getD j false = true → False := fun j h => by rw [hz] at h; cases h
 exact ⟨hn, 0, σ0, tv, bl, none, Nat.zero_le _, by rw [List.take_zero]; rfl, fun i _ _ => ⟨fun h => (hz' i h).elim, fun h => absurd h (Nat.not_lt_zero _)⟩, hI.grow hw, hH, fun t _ => hL t, fun j o d _ _ _ h => (hz' j h).elim, .inl rfl⟩
theorem ldraw_ok {id : Nat} {J : Exit → (Nat → Value) → World → Prop} (hmx : X.P.follows .mixedOrders = true) (hO : X.Ok) (hA : Agree X.P c) (h : ldraw c X.ag n ops σ = some σ') (hS : X.SI n σ s w) (hJ : ∀ s' w', X.SI n σ' s' w' → J .normal s' w') : W X.P n (.region id ops true) s w J := by
 have hdr : Kept w { w with drawn := w.drawn + 1 } := ⟨rfl, rfl, rfl, Nat.le_refl _, fun _ _ => rfl⟩
 have agree : ∀ (listed : Array Bool), listed.size = ops.size → ∀ j, j < ops.size → listed.getD j true = true → listed.getD j false = true := by
  intro listed hz j hj h
  have : j < listed.size := by omega
  simpa [this] using h
 unfold ldraw at h
 split at h
 ·cases h
 ·rename_i hfr
  have hfr : σ.fr = false := by simpa using hfr
  split at h
  ·rename_i hok
   have hk := drawOk_inv (Nat.le_refl _) hok
   have hf : lfold c X.ag n (ops.toList.take ops.size) σ = some σ' := by rw [List.take_of_length_le (by simp)]; exact h
   refine W.drawn hmx (fun listed s' w' => listed.size = ops.size ∧ X.Half c n ops ops.size σ σ' listed s' w') (fun j o ho => (hk.back j o ho).1) (fun listed s' w' i o hI ho hli hsz hed => ?_) (fun listed s' w' hl hI => hJ s' w' (half_all hk (Nat.le_refl _) hf hI.2 (fun j hj => agree listed hI.1 j hj (hl j hj)))) ⟨by simp, half_start hS hfr hdr⟩
   exact (half_step hO hA hk (Nat.le_refl _) hf hI.2 ho (Array.getElem?_eq_some_iff.1 ho).1 hli hsz hed).mono (fun _ _ h => ⟨by simpa using hsz, h⟩)
  ·split at h
   ·rename_i hcc
    obtain ⟨hok, hpos⟩ := hcc
    split at h
    ·rename_i ol hol
     split at h
     ·rename_i hall
      split at h
      ·rename_i σp hf
       have hk := drawOk_inv (by omega) hok
       rw [List.all_eq_true] at hall
       refine W.drawn hmx (fun listed s' w' => listed.size = ops.size ∧ ((listed.getD (ops.size - 1) false = true ∧ (∀ j, j < ops.size - 1 → listed.getD j false = true) ∧ X.SI n σ' s' w') ∨ (listed.getD (ops.size - 1) false = false ∧ X.Half c n ops (ops.size - 1) σ σp listed s' w'))) (fun j o ho => (hk.back j o ho).1) (fun listed s' w' i o hI ho hli hsz hed => ?_) (fun listed s' w' hl hI => ?_) ⟨by simp, .inr ⟨?_, half_start hS hfr hdr⟩⟩
       ·have hilt := (Array.getElem?_eq_some_iff.1 ho).1
        have hil : i < listed.size := by omega
        have hli' : listed.getD i false = false := by simpa [hil] using hli
        rcases hI.2 with ⟨h1, h2, _⟩ | ⟨h1, h2⟩
        ·exfalso
         by_cases e : i = ops.size - 1
         ·rw [e] at hli'; rw [hli'] at h1; cases h1
         ·have := h2 i (by omega); rw [hli'] at this; cases this
        ·by_cases e : i = ops.size - 1
         ·subst e
          rw [hol] at ho
          injection ho with ho
          subst ho
          have hpre : ∀ j, j < ops.size - 1 → listed.getD j false = true := fun j hj => by
           have := hall j (List.mem_range.2 hj)
           unfold edgeTo at this
           rw [List.any_eq_true] at this
           obtain ⟨ee, he, hee⟩ := this
           simp only [Bool.and_eq_true, beq_iff_eq] at hee
           have := hed ee he hee.2
           rw [hee.1] at this
           exact this
          have hSI := half_all hk (by omega) hf h2 hpre
          refine ⟨(hk.back _ _ hol).2, (lone_ok hO hA h hSI).mono (fun s2 w2 h2 => ⟨by simpa using hsz, .inl ⟨by rw [getD_set listed _ _ hil, if_pos rfl], fun j hj => ?_, h2⟩⟩)⟩
          rw [getD_set listed _ _ hil]
          split
          ·rfl
          ·exact hpre j hj
         ·refine (half_step hO hA hk (by omega) hf h2 ho (by omega) hli hsz hed).mono (fun s2 w2 h3 => ⟨by simpa using hsz, .inr ⟨?_, h3⟩⟩)
          rw [getD_set listed _ _ hil, if_neg e]
          exact h1
       ·rcases hI.2 with ⟨_, _, h3⟩ | ⟨h1, _⟩
        ·exact hJ s' w' h3
        ·have := agree listed hI.1 (ops.size - 1) (by omega) (hl _ (by omega))
         rw [h1] at this
         cases this
       ·rw [Array.getD_eq_getD_getElem?, Array.getElem?_replicate]
        split <;> rfl
      ·cases h
     ·cases h
    ·cases h
   ·cases h
end
end Go.Am
end
section
set_option linter.unusedVariables false
set_option linter.unusedSimpArgs false
namespace Go.Am
open Go Go.RowKit
def isSkip : Code → Bool
 | .skip => true
 | _ => false
theorem isSkip_eq {k : Code} (h : isSkip k = true) : k = .skip := by cases k <;> first | rfl | cases h
def retTrue (n r : Nat) (k : Code) : Bool :=
 match flatC k with
 | [.region _ ops false, .ret] => match ops.toList with
  | [o] => match o.op, o.dst, o.guard with
   | .assign (.const (.bool true)), some d, none => d == r && decide (r < n)
   | _, _, _ => false
  | _ => false
 | _ => false
def lrun (c : Cfg) (ag : List (Option Nat)) (n r : Nat) : List Code → LS → Bool
 | [], _ => false
 | .region _ ops false :: K, σ => match lseq c ag n ops ops.toList σ with
  | some σ' => lrun c ag n r K σ'
  | none => false
 | .region _ ops true :: K, σ => match ldraw c ag n ops σ with
  | some σ' => lrun c ag n r K σ'
  | none => false
 | .cond (.tmp t) A B :: K, σ => isSkip B && match lget σ.env t with
  | .kb false => lrun c ag n r K σ
  | .lt0 i => retTrue n r A && match σ.evs with
   | .low i' :: es => i' == i && lrun c ag n r K { σ with evs := es }
   | _ => false
  | .gt i m => retTrue n r A && match σ.evs with
   | .big i' m' :: es => i' == i && m' == m && lrun c ag n r K { σ with evs := es }
   | _ => false
  | _ => false
 | .ret :: _, σ => decide (lget σ.env r = .kb true)
 | _ :: _, _ => false
def initE : Nat → List (Nat × LV)
 | 0 => []
 | k + 1 => (k, .v k) :: initE k
theorem initE_get : ∀ {k t : Nat}, lget (initE k) t = if t < k then .v t else .un := by
 intro k t
 induction k with
 | zero => rw [if_neg (Nat.not_lt_zero _)]; rfl
 | succ k ih =>
  rw [initE, lget]
  split
  ·rename_i e; subst e; rw [if_pos (Nat.lt_succ_self _)]
  ·rw [ih]
   split
   ·rw [if_pos (by omega)]
   ·rw [if_neg (by omega)]
section
variable {X : LX} {c : Cfg} {n r : Nat} {s : Nat → Value} {w w' : World} {σ σ' : LS} {J : Exit → (Nat → Value) → World → Prop}
theorem retTrue_ok {P : Program} {k : Code} (h : retTrue n r k = true) (hJ : ∀ s', s' r = .bool true → J .ret s' w) : W P n k s w J := by
 unfold retTrue at h
 split at h
 ·rename_i id ops hk
  split at h
  ·rename_i o ho
   split at h
   ·rename_i d hop hd hg
    simp only [Bool.and_eq_true, beq_iff_eq, decide_eq_true_eq] at h
    obtain ⟨rfl, hn⟩ := h
    refine WL.code ?_
    rw [hk]
    refine W.region ?_
    rw [ho]
    exact R.value (x := .bool true) hg hd hn (by simp [execOp, hop, evs]) (R.nil (W.ret (hJ _ upd_same)))
   ·cases h
  ·cases h
 ·cases h
theorem lrun_ok (hmx : X.P.follows .mixedOrders = true) (hO : X.Ok) (hA : Agree X.P c) (hJ : ∀ s' w', s' r = .bool true → Mod (fun k => X.w0.heap.size ≤ k) X.w0 w' → J .ret s' w') :
  ∀ (K : List Code) (σ : LS) (s : Nat → Value) (w : World), lrun c X.ag n r K σ = true → X.SI n σ s w → WL X.P n K s w J := by
 intro K
 induction K with
 | nil => intro σ s w h; cases h
 | cons k K ih =>
  intro σ s w h hS
  unfold lrun at h
  split at h
  ·rename_i heq; cases heq
  ·rename_i id ops K' σ1 heq
   injection heq with e1 e2
   subst e1; subst e2
   split at h
   ·rename_i σ' h1
    exact W.region (lseq_ok hO hA _ _ _ _ h1 hS (fun s' w' h2 => ih _ _ _ h h2))
   ·cases h
  ·rename_i id ops K' σ1 heq
   injection heq with e1 e2
   subst e1; subst e2
   split at h
   ·rename_i σ' h1
    exact ldraw_ok hmx hO hA h1 hS (fun s' w' h2 => ih _ _ _ h h2)
   ·cases h
  ·rename_i t A B K' heq
   injection heq with e1 e2
   subst e1; subst e2
   rw [Bool.and_eq_true] at h
   obtain ⟨hB, h⟩ := h
   obtain rfl := isSkip_eq hB
   have hS' := hS
   obtain ⟨tv, bl, fr, hL, hn, hI, hH, hf⟩ := hS
   have ht := hL t
   split at h
   ·rename_i hlt
    rw [hlt] at ht
    refine W.cond (b := false) ht ?_
    exact W.skip (ih _ _ _ h hS')
   ·rename_i i hlt
    rw [hlt] at ht
    have ht : s t = .bool (decide (X.Z i < 0)) := ht
    rw [Bool.and_eq_true] at h
    obtain ⟨hret, h⟩ := h
    split at h
    ·rename_i i' es hev
     rw [Bool.and_eq_true, beq_iff_eq] at h
     obtain ⟨rfl, h⟩ := h
     by_cases hz : X.Z i' < 0
     ·refine W.cond (b := true) (by show s t = _; rw [ht, decide_eq_true hz]) ?_
      exact retTrue_ok hret (fun s' hs' => hJ s' w hs' hI.base)
     ·refine W.cond (b := false) (by show s t = _; rw [ht, decide_eq_false hz]) ?_
      rw [hev] at hH
      exact W.skip (ih _ _ _ h ⟨tv, bl, fr, hL, hn, hI, hH (by omega), hf⟩)
    ·cases h
   ·rename_i i m hlt
    rw [hlt] at ht
    have ht : s t = .bool (decide (m < X.Z i)) := ht
    rw [Bool.and_eq_true] at h
    obtain ⟨hret, h⟩ := h
    split at h
    ·rename_i i' m' es hev
     simp only [Bool.and_eq_true, beq_iff_eq] at h
     obtain ⟨⟨rfl, rfl⟩, h⟩ := h
     by_cases hz : m' < X.Z i'
     ·refine W.cond (b := true) (by show s t = _; rw [ht, decide_eq_true hz]) ?_
      exact retTrue_ok hret (fun s' hs' => hJ s' w hs' hI.base)
     ·refine W.cond (b := false) (by show s t = _; rw [ht, decide_eq_false hz]) ?_
      rw [hev] at hH
      exact W.skip (ih _ _ _ h ⟨tv, bl, fr, hL, hn, hI, hH (by omega), hf⟩)
    ·cases h
   ·cases h
  ·rename_i K' σ1 heq
   injection heq with e1 e2
   subst e1; subst e2
   rw [decide_eq_true_eq] at h
   obtain ⟨tv, bl, fr, hL, hn, hI, hH, hf⟩ := hS
   have hr := hL r
   rw [h] at hr
   exact W.ret (hJ s w hr hI.base)
  ·cases h
theorem law_marks {P : Program} {D : Nat → List V → Option V} {mt : Nat → List UInt8} {Vh Vo : Nat → V} {nn : Nat → Nat} {shp : Nat → Shp} {ag : List (Option Nat)} {Z : Nat → Int} {f k : Nat} {fn : Func} {code : Code} {es : List LC} (hmx : P.follows .mixedOrders = true) (hD : Answers P D) (hA : Agree P c)
  (agv : ∀ j n, ag[j]? = some (some n) → ∃ cs, Vh j = .agg cs ∧ cs.length = n ∧ allCell cs = true) (hf : P.funcs[f]? = some fn) (hb : fn.body = some code) (hr : fn.results = #[.tmp r]) (hk : k ≤ fn.ntmps)
  (hH : ∀ R w, LX.H ⟨P, D, mt, Vh, Vo, nn, shp, ag, Z, R, w⟩ es) (h : lrun c ag fn.ntmps r (flatC code) ⟨initE k, List.replicate k ⟨0, .ar⟩, es, false⟩ = true)
  (R : Nat → Prop) (w : World) (vals : Array Value) (hg : globOk w) (hR : ∀ k, R k → k < w.heap.size) (hl : k = vals.size) (hv : ∀ (i : Nat) (v : Value), vals[i]? = some v → Rd w R (Vh i) v) :
  Calls P f vals w fun
   | .returned x, w' => Answer R w (.bool true) x w'
   | _, _ => False := by
 subst hl
 let X : LX := ⟨P, D, mt, Vh, Vo, nn, shp, ag, Z, R, w⟩
 have hO : X.Ok := ⟨hD, agv⟩
 have hget : ∀ (j : Nat) (t : LM), (vals.toList.map fun x => (⟨x, 0, 0, fun _ => False⟩ : LM))[j]? = some t → ∃ v, vals[j]? = some v ∧ t = ⟨v, 0, 0, fun _ => False⟩ := fun j t h => by
  rw [List.getElem?_map, Array.getElem?_toList] at h
  cases hj : vals[j]? with
  | none => rw [hj] at h; cases h
  | some v => rw [hj] at h; injection h with h; exact ⟨v, rfl, h.symm⟩
 have hst : ∀ (j : Nat) (e : LE), (List.replicate vals.size (⟨0, .ar⟩ : LE))[j]? = some e → e = ⟨0, .ar⟩ := fun j e h => List.eq_of_mem_replicate (List.mem_of_getElem? h)
 have hInv : X.Inv (List.replicate vals.size ⟨0, .ar⟩) (vals.toList.map fun x => (⟨x, 0, 0, fun _ => False⟩ : LM)) [] none w := by
  refine ⟨hR, hg, Mod.refl w, by simp, fun j e t h1 h2 => ?_, fun i j ei ej ti tj h1 h2 _ _ hlt => ?_, fun i j ei ej ti tj _ _ h3 _ _ _ b hb => ?_, fun e he => ?_, fun p hp => absurd hp List.not_mem_nil, fun b ty hb => (Option.some_ne_none _ hb.symm).elim⟩
  ·obtain ⟨v, h3, rfl⟩ := hget j t h2
   obtain rfl := hst j e h1
   exact ⟨hO.agx (hv j v h3), Nat.zero_le _, fun b hb => hb.elim, hv j v h3, fun hne => absurd rfl hne⟩
  ·rw [hst i ei h1, hst j ej h2] at hlt
   exact absurd hlt (Nat.lt_irrefl _)
  ·obtain ⟨v, _, rfl⟩ := hget i ti h3
   exact hb.elim
  ·rw [List.eq_of_mem_replicate he]; exact Nat.zero_le _
 refine calls_W hf hb hr hk ?_
 refine WL.code (lrun_ok (X := X) hmx hO hA (fun s' w' hs hm => ?_) _ _ _ _ h ⟨_, [], none, fun t => ?_, fun i hi => ?_, hInv, hH R w, fun _ => rfl⟩)
 ·show (match (Ending.returned (s' r)), w' with
   | .returned x, w' => Answer R w (.bool true) x w'
   | _, _ => False)
  rw [hs]
  exact answer_plain ⟨hm.os, hm.tape, hm.output, hm.size, fun k hk => hm.old k hk (Nat.not_le.2 hk)⟩ (.bool true)
 ·show X.LR _ _ _ (lget (initE vals.size) t) _
  rw [initE_get]
  split
  ·rename_i ht
   refine ⟨⟨vals[t], 0, 0, fun _ => False⟩, ?_, ?_⟩
   ·rw [List.getElem?_map, Array.getElem?_toList, Array.getElem?_eq_getElem ht]; rfl
   ·show vals.getD t undef = _
    rw [Array.getD_eq_getD_getElem?, Array.getElem?_eq_getElem ht]; rfl
  ·exact trivial
 ·show vals.getD i undef = undef
  rw [Array.getD_eq_getD_getElem?, Array.getElem?_eq_none (by omega)]; rfl
end
end Go.Am
end
section
set_option linter.unusedVariables false
set_option linter.unusedSimpArgs false
namespace Go.Am
open Go
def VKb (v : V) (kd : Kd) (B : Nat) : Prop := ∃ n, VK v kd n ∧ n ≤ B
inductive VKrow : List V → List Kd → Nat → Prop
  | nil (B : Nat) : VKrow [] [] B
  | cons {v : V} {kd : Kd} {b : Nat} {cs : List V} {kds : List Kd} {B : Nat} (h1 : VKb v kd b) (h2 : VKrow cs kds B) : VKrow (v :: cs) (kd :: kds) (b + B)
theorem VKb.mono {v : V} {kd : Kd} {B B' : Nat} (h : VKb v kd B) (hb : B ≤ B') : VKb v kd B' := by
 obtain ⟨n, h1, h2⟩ := h
 exact ⟨n, h1, Nat.le_trans h2 hb⟩
theorem VKrow.get {cs : List V} {kds : List Kd} {B : Nat} (h : VKrow cs kds B) : ∃ ns : List Nat, ns.length = kds.length ∧ cs.length = kds.length ∧ ns.sum ≤ B ∧ ∀ (j : Nat) (c : V) (kd : Kd) (n : Nat), cs[j]? = some c → kds[j]? = some kd → ns[j]? = some n → VK c kd n := by
 induction h with
 | nil B => exact ⟨[], rfl, rfl, Nat.zero_le _, fun j c kd n h => by simp at h⟩
 | cons h1 h2 ih =>
  obtain ⟨n, a1, a2⟩ := h1
  obtain ⟨ns, b1, b2, b3, b4⟩ := ih
  refine ⟨n :: ns, by simp [b1], by simp [b2], by simp; omega, fun j c kd m h1 h2 h3 => ?_⟩
  cases j with
  | zero =>
   simp only [List.getElem?_cons_zero, Option.some.injEq] at h1 h2 h3
   subst h1; subst h2; subst h3
   exact a1
  | succ j => exact b4 j c kd m (by simpa using h1) (by simpa using h2) (by simpa using h3)
theorem VKrow.mono {cs : List V} {kds : List Kd} {B B' : Nat} (h : VKrow cs kds B) (hb : B ≤ B') : VKrow cs kds B' := by
 cases h with
 | nil => exact .nil B'
 | @cons v kd b cs' kds' B0 h1 h2 =>
  have := VKrow.cons (h1.mono (B' := b + (B' - (b + B0))) (by omega)) h2
  rwa [show b + (B' - (b + B0)) + B0 = B' by omega] at this
theorem sumN_add (N : Nat → Nat) (a k : Nat) : sumN N (a + k) = sumN N a + sumN (fun j => N (a + j)) k := by
 induction k with
 | zero => rfl
 | succ k ih => rw [← Nat.add_assoc, sumN, ih, sumN]; omega
theorem sumN_list (l : List Nat) : ∀ (N : Nat → Nat), (∀ j n, l[j]? = some n → N j = n) → sumN N l.length = l.sum := by
 induction l with
 | nil => intro N _; rfl
 | cons x l ih =>
  intro N h
  rw [List.length_cons, Nat.add_comm, sumN_add, ih (fun j => N (1 + j)) (fun j n hj => h (1 + j) n (by rw [Nat.add_comm]; simpa using hj)), List.sum_cons, sumN, h 0 x (by simp), sumN, Nat.zero_add]
theorem vkb_sl {s : Nat} {f : Bool} {xs : List V} {kds : List Kd} {fs : List Nat} (hs : s = kds.length) (hp : 0 < kds.length) (hm : xs.length ≤ 1152921504606846976) (hl : fs.length = xs.length) (h : ∀ (i : Nat) (x : V) (n : Nat), xs[i]? = some x → fs[i]? = some n → VKrow x.cells kds n) : VKb (.sl s f xs) (.sl kds) fs.sum := by
 have hch : ∀ i : Nat, ∃ ns : List Nat, ∀ x n, xs[i]? = some x → fs[i]? = some n → ns.length = kds.length ∧ ns.sum ≤ n ∧ ∀ (j : Nat) (c : V) (kd : Kd) (m : Nat), x.cells[j]? = some c → kds[j]? = some kd → ns[j]? = some m → VK c kd m := by
  intro i
  rcases Nat.lt_or_ge i xs.length with hi | hi
  ·obtain ⟨ns, a1, a2, a3, a4⟩ := (h i _ _ (List.getElem?_eq_getElem hi) (List.getElem?_eq_getElem (by omega))).get
   refine ⟨ns, fun x n hx hn => ?_⟩
   rw [List.getElem?_eq_getElem hi] at hx
   rw [List.getElem?_eq_getElem (by omega)] at hn
   injection hx with hx
   injection hn with hn
   subst hx; subst hn
   exact ⟨a1, a3, a4⟩
  ·exact ⟨[], fun x n hx => by rw [List.getElem?_eq_none hi] at hx; cases hx⟩
 let G : Nat → List Nat := fun i => (hch i).choose
 let N : Nat → Nat := fun p => (G (p / kds.length)).getD (p % kds.length) 0
 have hN : ∀ i j, j < kds.length → N (i * kds.length + j) = (G i).getD j 0 := fun i j hj => by
  show (G ((i * kds.length + j) / kds.length)).getD ((i * kds.length + j) % kds.length) 0 = _
  rw [Nat.mul_comm, Nat.mul_add_div hp, Nat.div_eq_of_lt hj, Nat.add_zero, Nat.mul_add_mod, Nat.mod_eq_of_lt hj]
 refine ⟨sumN N (xs.length * kds.length), .sl s f xs kds N hs hp hm (fun i x j c kd h1 h2 h3 => ?_), ?_⟩
 ·have hi := (List.getElem?_eq_some_iff.1 h1).1
  have hj := (List.getElem?_eq_some_iff.1 h3).1
  obtain ⟨a1, a2, a3⟩ := (hch i).choose_spec x _ h1 (List.getElem?_eq_getElem (show i < fs.length by omega))
  rw [hN i j hj]
  have hlt : j < (G i).length := by rw [show (G i).length = kds.length from a1]; exact hj
  have hg : (G i)[j]? = some ((G i).getD j 0) := by
   rw [List.getD_eq_getElem?_getD, List.getElem?_eq_getElem hlt]; rfl
  exact a3 j c kd _ h2 h3 hg
 ·have key : ∀ m, m ≤ xs.length → sumN N (m * kds.length) ≤ (fs.take m).sum := by
   intro m
   induction m with
   | zero => intro _; rw [Nat.zero_mul]; exact Nat.zero_le _
   | succ m ih =>
    intro hm'
    have hx := List.getElem?_eq_getElem (show m < xs.length by omega)
    have hn := List.getElem?_eq_getElem (show m < fs.length by omega)
    obtain ⟨a1, a2, a3⟩ := (hch m).choose_spec _ _ hx hn
    have e1 : sumN (fun j => N (m * kds.length + j)) kds.length = (G m).sum := by
     rw [← show (G m).length = kds.length from a1]
     refine sumN_list (G m) _ (fun j n hj => ?_)
     have hlt := (List.getElem?_eq_some_iff.1 hj).1
     have e2 : (G m).length = kds.length := a1
     show N (m * (G m).length + j) = n
     rw [e2, hN m j (by omega), List.getD_eq_getElem?_getD, hj]
     rfl
    rw [Nat.succ_mul, sumN_add, e1, List.take_add_one, hn, List.sum_append]
    have := ih (by omega)
    simp only [Option.toList_some, List.sum_cons, List.sum_nil, Nat.add_zero]
    have a2' : (G m).sum ≤ fs[m] := a2
    omega
  have := key xs.length (Nat.le_refl _)
  rw [List.take_of_length_le (by omega)] at this
  exact this
section
variable {T : Type} {ks : List CK} {g : T → cellsT ks} {kd : CK} {g1 : T → kd.T}
theorem vkb_rows {s : Nat} {f : Bool} {l : List T} {kds : List Kd} {cnt : T → Nat} (hs : s = kds.length) (hp : 0 < kds.length) (hm : l.length ≤ 1152921504606846976) (h : ∀ a ∈ l, VKrow (cellsEnc ks (g a)) kds (cnt a)) : VKb (.sl s f (rows ks g l)) (.sl kds) (sumL cnt l) := by
 refine vkb_sl hs hp (by rw [rows_len]; exact hm) (by rw [rows_len, List.length_map]) (fun i x n h1 h2 => ?_)
 rw [rows, List.getElem?_map] at h1
 rw [List.getElem?_map] at h2
 cases hi : l[i]? with
 | none => rw [hi] at h1; cases h1
 | some a =>
  rw [hi] at h1 h2
  injection h1 with h1
  injection h2 with h2
  subst h1; subst h2
  exact h a (List.mem_of_getElem? hi)
theorem sumL_lin {f : T → Nat} (c : Nat) (l : List T) : sumL (fun x => c + c * f x) l = c * l.length + c * sumL f l := by
 induction l with
 | nil => simp [sumL]
 | cons x l ih =>
  have e : ∀ (h : T → Nat), sumL h (x :: l) = h x + sumL h l := fun h => by simp [sumL]
  rw [e, e, ih, List.length_cons, Nat.mul_add, Nat.mul_add]
  omega
theorem vkb_list {s : Nat} {f : Bool} {l : List T} {kds : List Kd} {sz : T → Nat} (hs : s = kds.length) (hp : 0 < kds.length) (hm : l.length ≤ 1152921504606846976) (h : ∀ a ∈ l, VKrow (cellsEnc ks (g a)) kds (32 + 32 * sz a)) : VKb (.sl s f (rows ks g l)) (.sl kds) (32 * l.length + 32 * sumL sz l) := by
 rw [← sumL_lin]
 exact vkb_rows hs hp hm h
end
theorem vk_s (s : List UInt8) : VKb (.str s) .str 1 := ⟨1, .str s, Nat.le_refl _⟩
theorem vk_i (n : Int) : VKb (.int .i64 n) .int 1 := ⟨1, .int n, Nat.le_refl _⟩
theorem vk_b (b : Bool) : VKb (.bool b) .bool 1 := ⟨1, .bool b, Nat.le_refl _⟩
def OwnB (cs : List V) (fs : List (Nat × List Kd)) (used : List Nat) (B : Nat) : Prop := ∃ n, OwnA cs fs used n ∧ n ≤ B
theorem OwnB.mono {cs : List V} {fs : List (Nat × List Kd)} {used : List Nat} {B B' : Nat} (h : OwnB cs fs used B) (hb : B ≤ B') : OwnB cs fs used B' := by
 obtain ⟨n, h1, h2⟩ := h
 exact ⟨n, h1, Nat.le_trans h2 hb⟩
theorem OwnB.nil (cs : List V) (used : List Nat) : OwnB cs [] used 0 := ⟨0, rfl, Nat.le_refl _⟩
theorem OwnB.cons {cs : List V} {fs : List (Nat × List Kd)} {used : List Nat} {B1 B2 j b s : Nat} {q : Q} (f : Bool) {xs : List V} {ks : List Kd} (h1 : cs[j]? = some (.own b s q xs)) (hq : q ≠ .any) (hu : b ∉ used) (h : VKb (.sl s f xs) (.sl ks) B1) (h2 : OwnB cs fs (b :: used) B2) : OwnB cs ((j, ks) :: fs) used (B1 + B2) := by
 obtain ⟨n1, a1, a2⟩ := h
 obtain ⟨n2, b1, b2⟩ := h2
 exact ⟨n1 + n2, ⟨n1, n2, rfl, .inl ⟨b, s, q, f, xs, h1, hq, hu, a1, b1⟩⟩, by omega⟩
theorem OwnB.shp {cs : List V} {fs : List (Nat × List Kd)} {B sz : Nat} (h : OwnB cs fs [] B) (hz : cs.length = sz) : ∃ n, (Shp.a sz fs).own (.agg cs) n ∧ n ≤ B := by
 obtain ⟨n, h1, h2⟩ := h
 exact ⟨n, ⟨cs, rfl, hz, h1⟩, h2⟩
theorem shp_s {b s : Nat} {q : Q} (f : Bool) {xs : List V} {ks : List Kd} {B : Nat} (hq : q ≠ .any) (h : VKb (.sl s f xs) (.sl ks) B) : ∃ n, (Shp.s ks).own (.own b s q xs) n ∧ n ≤ B := by
 obtain ⟨n, h1, h2⟩ := h
 exact ⟨n, .inl ⟨b, s, q, f, xs, rfl, hq, h1⟩, h2⟩
def CK.plain : CK → Bool
 | .sl _ _ => false
 | _ => true
inductive Hands (cl : Bool) : List V → List V → Prop
  | nil : Hands cl [] []
  | cons {v v' : V} {cs cs' : List V} (h1 : Hand cl v v') (h2 : Hands cl cs cs') : Hands cl (v :: cs) (v' :: cs')
theorem Hands.agg {cl : Bool} {cs cs' : List V} (h : Hands cl cs cs') : Hand cl (.agg cs) (.agg cs') := by
 have key : cs.length = cs'.length ∧ ∀ (i : Nat) (c c' : V), cs[i]? = some c → cs'[i]? = some c' → Hand cl c c' := by
  induction h with
  | nil => exact ⟨rfl, fun i c c' h => by simp at h⟩
  | cons h1 h2 ih =>
   refine ⟨by simp [ih.1], fun i c c' g1 g2 => ?_⟩
   cases i with
   | zero => simp only [List.getElem?_cons_zero, Option.some.injEq] at g1 g2; subst g1; subst g2; exact h1
   | succ i => exact ih.2 i c c' (by simpa using g1) (by simpa using g2)
 exact .agg cs cs' key.1 key.2
end Go.Am
namespace Go.Am
open Go
section
variable {X : LX} {r : List LC}
theorem LX.H_nil : X.H [] := trivial
theorem LX.H_sh {f i : Nat} {js : List Nat} (h : X.D f (js.map X.Vh) = some (X.Vo i)) (hh : Hand false (X.Vo i) (X.Vh i)) (hr : X.H r) : X.H (.mk f js true i :: r) := ⟨⟨h, hh, fun e => by cases e⟩, hr⟩
theorem LX.H_nw {f i : Nat} {js : List Nat} (h : X.D f (js.map X.Vh) = some (X.Vo i)) (hh : Hand true (X.Vo i) (X.Vh i)) (ho : (X.shp i).own (X.Vo i) (X.nn i)) (hr : X.H r) : X.H (.mk f js false i :: r) := ⟨⟨h, hh, fun _ => ho⟩, hr⟩
theorem LX.H_tt {f : Nat} {js : List Nat} (h : X.D f (js.map X.Vh) = some (.bool true)) (hr : X.H r) : X.H (.tt f js :: r) := ⟨h, hr⟩
theorem LX.H_mark {f j : Nat} {l : List Nat} (h : (X.shp j).MarkOk X.P X.mt f) (hb : X.ctv l + X.nn j ≤ 1152921504606846976) (hr : X.H r) : X.H (.mark f j l :: r) := ⟨⟨h, hb⟩, hr⟩
theorem LX.H_held {f j : Nat} {l : List Nat} (h : (X.shp j).HeldOk X.P X.mt f) (hb : X.ctv l + X.nn j ≤ 1152921504606846976) (hr : X.H r) : X.H (.held f j l :: r) := ⟨⟨h, hb⟩, hr⟩
end
theorem under {P : Prop} {α : Type} {Q : α → Prop} (d : α) (h : P → ∃ x, Q x) : ∃ x, P → Q x := by
 by_cases c : P
 ·obtain ⟨x, hx⟩ := h c
  exact ⟨x, fun _ => hx⟩
 ·exact ⟨d, fun h => absurd h c⟩
theorem fnok_any {d : Nat → List V → Option V} {f : Nat} {W : (β : Type) → List V → (V → Option β) → Option β} (h : FnOk d f W) {args : List V} {v : V} (hw : W V args some = some v) : d f args = some v := by
 obtain ⟨v', h1, h2⟩ := h V args some v hw
 injection h2 with h2
 rw [← h2]; exact h1
end Go.Am
end
section
set_option linter.unusedVariables false
set_option linter.unusedSimpArgs false
set_option maxRecDepth 100000
namespace Go.Am
open Go Go.Proofs
theorem textOk : TextOk Try.prog mt 12 := by
 refine ⟨⟨Try.f12, Try.func12, rfl, by decide⟩, fun k w hk hg => ?_⟩
 have hd : D 12 [.int .i64 (k : Int)] = some (.str (mt k)) := fnok_any ok12 (show F12 V (k : Int) (fun y => some (.str y)) = _ from ei_lmarkText (k : Int) (fun y => some (V.str y)) _ (mt_eq k hk))
 refine ((answers _ _ _ hd).2 (fun _ => False) w #[.int .i64 (k : Int)] hg (fun _ h => h.elim) rfl (fun i c v h1 h2 => ?_)).mono (fun e w' h => ?_)
 ·match i, h1, h2 with
  | 0, h1, h2 => injection h1 with h1; injection h2 with h2; subst h1; subst h2; exact .int _ _
  | i + 1, h1, _ => simp at h1
 ·cases e with
  | returned x =>
   obtain ⟨Γ, hv, _⟩ := h.val
   cases hv with
   | rd _ _ hr => cases hr with | str _ s hs => exact ⟨s, rfl, hs, kept_of h⟩
  | _ => exact h.elim
def kdFile : List Kd := [.str, .int, .int, .str, .int, .bool, .str]
theorem vkFile (a : TFile) (h : a.size ≤ 1125899906842624) : VKrow (cellsEnc kFile a.row) kdFile (32 + 32 * a.size) := by
 simp only [TFile.size, TResponse.size] at h ⊢
 have hh : VKrow [.str a.xPath, .int .i64 a.xResponse.xStatus, .int .i64 a.xResponse.xKind, .str a.xResponse.xBody, .int .i64 a.xResponse.xAge, .bool a.xResponse.xShares, .str a.xResponse.xPolicy] kdFile _ := .cons (vk_s a.xPath) (.cons (vk_i a.xResponse.xStatus) (.cons (vk_i a.xResponse.xKind) (.cons (vk_s a.xResponse.xBody) (.cons (vk_i a.xResponse.xAge) (.cons (vk_b a.xResponse.xShares) (.cons (vk_s a.xResponse.xPolicy) (.nil 0)))))))
 refine VKrow.mono hh ?_
 clear hh h
 omega
def kdServer : List Kd := [.str, .sl kdFile]
theorem vkServer (a : TServer) (h : a.size ≤ 1125899906842624) : VKrow (cellsEnc kServer a.row) kdServer (32 + 32 * a.size) := by
 simp only [TServer.size] at h ⊢
 have hh : VKrow [.str a.xHost, .sl 7 true (rows kFile TFile.row a.xFiles)] kdServer _ := .cons (vk_s a.xHost) (.cons (vkb_list (l := a.xFiles) (g := TFile.row) (kds := kdFile) rfl (by decide) (by omega) (fun x hx => vkFile x (by have := sumL_mem (f := TFile.size) hx; omega))) (.nil 0))
 refine VKrow.mono hh ?_
 clear hh h
 omega
theorem mk13 : MarkOk Try.prog mt 13 (.sl kdFile) :=
 mark_sl (c := cfg) (subs := []) agree textOk (fun _ h => absurd h List.not_mem_nil) Try.func13 rfl rfl rfl (by kernel_rfl)
theorem mk7 : MarkOk Try.prog mt 7 (.sl kdServer) :=
 mark_sl (c := cfg) (subs := [(13, .sl kdFile)]) agree textOk (List.forall_mem_cons.2 ⟨mk13, fun _ h => absurd h List.not_mem_nil⟩) Try.func7 rfl rfl rfl (by kernel_rfl)
theorem hd14 : HeldOk Try.prog mt 14 (.sl kdFile) :=
 held_sl (c := cfg) (subs := []) (by kernel_rfl) agree textOk (fun _ h => absurd h List.not_mem_nil) Try.func14 rfl rfl rfl (by kernel_rfl)
theorem hd8 : HeldOk Try.prog mt 8 (.sl kdServer) :=
 held_sl (c := cfg) (subs := [(14, .sl kdFile)]) (by kernel_rfl) agree textOk (List.forall_mem_cons.2 ⟨hd14, fun _ h => absurd h List.not_mem_nil⟩) Try.func8 rfl rfl rfl (by kernel_rfl)
theorem handListTServer (cl : Bool) (a : List TServer) : Hand cl (.own 0 2 .clean (rows kServer TServer.row a)) (.sl 2 false (rows kServer TServer.row a)) :=
 .own _ _ _ _ _ (fun _ => by decide) (fun h => by cases h)
set_option maxHeartbeats 2000000 in
theorem ownListTServer (a : List TServer) (h : (a.length + sumL TServer.size a) ≤ 1125899906842624) : ∃ n, (Shp.s kdServer).own (.own 0 2 .clean (rows kServer TServer.row a)) n ∧ n ≤ 36028797018964000 := by
 have hh : VKb (.sl 2 false (rows kServer TServer.row a)) (.sl kdServer) _ := (vkb_list (l := a) (g := TServer.row) (kds := kdServer) rfl (by decide) (by omega) (fun x hx => vkServer x (by have := sumL_mem (f := TServer.size) hx; omega)))
 obtain ⟨n, h1, h2⟩ := shp_s (b := 0) (q := .clean) false (by decide) hh
 exact ⟨n, h1, by omega⟩
theorem d4  {r : List TServer} (e : sStandardServers  = some r) : D 4 [] = some (.own 0 2 .clean (rows kServer TServer.row r)) :=
 fnok_any ok4 (show F4 V  (fun y0 => (some (.own 0 2 .clean y0) : Option V)) = _ from ei_sStandardServers  (fun y0 => (some (.own 0 2 .clean y0) : Option V)) _ e)
theorem d5  {r : List TServer} (e : iStandardServers  = some r) : D 5 [] = some (.own 0 2 .clean (rows kServer TServer.row r)) :=
 fnok_any ok5 (show F5 V  (fun y0 => (some (.own 0 2 .clean y0) : Option V)) = _ from ei_iStandardServers  (fun y0 => (some (.own 0 2 .clean y0) : Option V)) _ e)
theorem d6 (a : List TServer) (h : okL TServer.ok a) : D 6 [.sl 2 false (rows kServer TServer.row a), .sl 2 false (rows kServer TServer.row a)] = some (.bool true) :=
 fnok_any ok6 (show F6 V (rows kServer TServer.row a) (rows kServer TServer.row a) (fun y => some (.bool y)) = _ from (eqServerS a a h _).trans (by rw [decide_eq_true rfl]))
theorem lawg3 {vrListTServer orListTServer : V} {n1 : Nat} {zz : Int}
  (h0 : D 4 [] = some (orListTServer))
  (h1 : Hand false orListTServer vrListTServer)
  (h2 : D 5 [] = some (orListTServer))
  (h3 : Hand true orListTServer vrListTServer)
  (h4 : (Shp.s kdServer).own orListTServer n1)
  (h5 : D 6 [vrListTServer, vrListTServer] = some (.bool true))
  (h6 : n1 ≤ 36028797018964000)
  (R : Nat → Prop) (w : World) (vals : Array Value) (hg : globOk w) (hR : ∀ k, R k → k < w.heap.size) (hl : 0 = vals.size) (hv : ∀ (i : Nat) (v : Value), vals[i]? = some v → Rd w R ([vrListTServer, vrListTServer, vrListTServer].getD i .undef) v) :
  Calls Try.prog 3 vals w fun
   | .returned x, w' => Answer R w (.bool true) x w'
   | _, _ => False := by
 refine law_marks (c := cfg) (P := Try.prog) (D := D) (mt := mt) (Vh := fun i => [vrListTServer, vrListTServer, vrListTServer].getD i .undef) (Vo := fun i => [orListTServer, orListTServer, orListTServer].getD i .undef) (nn := fun j => if j = 1 then n1 else 0) (shp := fun j => if j = 1 then .s kdServer else .s []) (ag := [none, none, none]) (Z := fun i => ([] : List Int).getD i 0) (k := 0) (fn := Try.f3)
  (es := [.mk 4 [] true 0, .mk 5 [] false 1, .tt 6 [1, 0], .mark 7 1 [], .held 8 1 [], .mk 5 [] true 2, .tt 6 [2, 0], .held 8 1 []])
  (by kernel_rfl) answers agree (fun j n hj => ?_) Try.func3 rfl rfl (by decide) (fun R w => ?_) (by kernel_rfl) R w vals hg hR hl hv
 ·match j, hj with
  | 0, hj => injection hj with hj; cases hj
  | 1, hj => injection hj with hj; cases hj
  | 2, hj => injection hj with hj; cases hj
  | j + 3, hj => simp at hj
 ·exact LX.H_sh (h0) (h1) (LX.H_nw (h2) (h3) (h4) (LX.H_tt (h5) (LX.H_mark mk7 (by have b0 := (h6); show 1 + (0) + n1 ≤ _; simp only [Nat.add_zero]; omega) (LX.H_held hd8 (by have b0 := (h6); show 1 + (0) + n1 ≤ _; simp only [Nat.add_zero]; omega) (LX.H_sh (h2) (h1) (LX.H_tt (h5) (LX.H_held hd8 (by have b0 := (h6); show 1 + (0) + n1 ≤ _; simp only [Nat.add_zero]; omega) (LX.H_nil))))))))
def Told3 (args : List V) : Prop := ∀ (R : Nat → Prop) (w : World) (vals : Array Value), globOk w → (∀ k, R k → k < w.heap.size) → args.length = vals.size → (∀ (i : Nat) (c : V) (v : Value), args[i]? = some c → vals[i]? = some v → Rd w R c v) →
  Calls Try.prog 3 vals w fun
   | .returned x, w' => Answer R w (.bool true) x w'
   | _, _ => False
open Classical in
noncomputable def D3 : Nat → List V → Option V := fun f args => if f = 3 ∧ Told3 args then some (.bool true) else D f args
theorem answers3 : Answers Try.prog D3 := by
 intro f args r h
 unfold D3 at h
 split at h
 ·rename_i hc
  obtain ⟨rfl, ht⟩ := hc
  injection h with h
  subst h
  exact ⟨⟨Try.f3, Try.func3, rfl, by decide⟩, ht⟩
 ·exact answers f args r h
theorem law3   : D3 3 [] = some (.bool true) := by
 refine if_pos ⟨rfl, ?_⟩
 intro R w vals hg hR hl hv
 obtain ⟨r, hr⟩ := under (P := True) ([] : List TServer) (fun h => eq_StandardServers   h)
 obtain ⟨n1, b1⟩ := under (P := True) 0 (fun h => ownListTServer r (by have := (hr h).2.2.1; omega))
 have two : ∀ {l : Int} {n : Nat}, 0 ≤ szL l n → (n : Int) ≤ l ∧ szL l n = l - n := fun {l n} h => by
  unfold szL at h ⊢
  split at h
  ·omega
  ·rename_i hc; rw [if_neg hc]; omega
 have hval : ∀ (i : Nat) (v : Value), vals[i]? = some v → Rd w R ([.sl 2 false (rows kServer TServer.row r), .sl 2 false (rows kServer TServer.row r), .sl 2 false (rows kServer TServer.row r)].getD i .undef) v := fun i v h => by
  have hi : i < vals.size := (Array.getElem?_eq_some_iff.1 h).1
  have hi : i < 0 := by rw [← hl] at hi; exact hi
  exact absurd hi (Nat.not_lt_zero _)
 exact lawg3 (zz := 0)
  (d4  (hr (by exact trivial)).1)
  (handListTServer _ r)
  (d5  (hr (by exact trivial)).2.1)
  (handListTServer _ r)
  ((b1 (by exact trivial)).1)
  (d6 r (hr (by exact trivial)).2.2.2)
  ((b1 (by exact trivial)).2)
  R w vals hg hR hl hval
end Go.Am
end
