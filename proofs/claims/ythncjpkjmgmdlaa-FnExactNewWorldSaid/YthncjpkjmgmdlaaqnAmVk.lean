/-
  Data as trees of kinds, and how many cells there are at most.
-/
import Derived.Test.YthncjpkjmgmdlaaqnAmRunP
import Derived.Test.YthncjpkjmgmdlaaqnAmTyped
section
set_option linter.unusedVariables false
set_option linter.unusedSimpArgs false
namespace Go.Am
open Go Go.RowKit
def isSkip : Code → Bool
 | .skip => true
 | _ => false
theorem isSkip_eq {k : Code} (h : isSkip k = true) : k = .skip := by cases k <;> first | rfl | cases h
def retTrue (n r : Nat) (k : Code) : Bool :=
 match flatC k with
 | [.region _ ops false, .ret] => match ops.toList with
  | [o] => match o.op, o.dst, o.guard with
   | .assign (.const (.bool true)), some d, none => d == r && decide (r < n)
   | _, _, _ => false
  | _ => false
 | _ => false
def lrun (c : Cfg) (ag : List (Option Nat)) (n r : Nat) : List Code → LS → Bool
 | [], _ => false
 | .region _ ops false :: K, σ => match lseq c ag n ops ops.toList σ with
  | some σ' => lrun c ag n r K σ'
  | none => false
 | .region _ ops true :: K, σ => match ldraw c ag n ops σ with
  | some σ' => lrun c ag n r K σ'
  | none => false
 | .cond (.tmp t) A B :: K, σ => isSkip B && match lget σ.env t with
  | .kb false => lrun c ag n r K σ
  | .lt0 i => retTrue n r A && match σ.evs with
   | .low i' :: es => i' == i && lrun c ag n r K { σ with evs := es }
   | _ => false
  | .gt i m => retTrue n r A && match σ.evs with
   | .big i' m' :: es => i' == i && m' == m && lrun c ag n r K { σ with evs := es }
   | _ => false
  | _ => false
 | .ret :: _, σ => decide (lget σ.env r = .kb true)
 | _ :: _, _ => false
def initE : Nat → List (Nat × LV)
 | 0 => []
 | k + 1 => (k, .v k) :: initE k
theorem initE_get : ∀ {k t : Nat}, lget (initE k) t = if t < k then .v t else .un := by
 intro k t
 induction k with
 | zero => rw [if_neg (Nat.not_lt_zero _)]; rfl
 | succ k ih =>
  rw [initE, lget]
  split
  ·rename_i e; subst e; rw [if_pos (Nat.lt_succ_self _)]
  ·rw [ih]
   split
   ·rw [if_pos (by omega)]
   ·rw [if_neg (by omega)]
section
variable {X : LX} {c : Cfg} {n r : Nat} {s : Nat → Value} {w w' : World} {σ σ' : LS} {J : Exit → (Nat → Value) → World → Prop}
theorem retTrue_ok {P : Program} {k : Code} (h : retTrue n r k = true) (hJ : ∀ s', s' r = .bool true → J .ret s' w) : W P n k s w J := by
 unfold retTrue at h
 split at h
 ·rename_i id ops hk
  split at h
  ·rename_i o ho
   split at h
   ·rename_i d hop hd hg
    simp only [Bool.and_eq_true, beq_iff_eq, decide_eq_true_eq] at h
    obtain ⟨rfl, hn⟩ := h
    refine WL.code ?_
    rw [hk]
    refine W.region ?_
    rw [ho]
    exact R.value (x := .bool true) hg hd hn (by simp [execOp, hop, evs]) (R.nil (W.ret (hJ _ upd_same)))
   ·cases h
  ·cases h
 ·cases h
theorem lrun_ok (hmx : X.P.follows .mixedOrders = true) (hO : X.Ok) (hA : Agree X.P c) (hJ : ∀ s' w', s' r = .bool true → Mod (fun k => X.w0.heap.size ≤ k) X.w0 w' → J .ret s' w') :
  ∀ (K : List Code) (σ : LS) (s : Nat → Value) (w : World), lrun c X.ag n r K σ = true → X.SI n σ s w → WL X.P n K s w J := by
 intro K
 induction K with
 | nil => intro σ s w h; cases h
 | cons k K ih =>
  intro σ s w h hS
  unfold lrun at h
  split at h
  ·rename_i heq; cases heq
  ·rename_i id ops K' σ1 heq
   injection heq with e1 e2
   subst e1; subst e2
   split at h
   ·rename_i σ' h1
    exact W.region (lseq_ok hO hA _ _ _ _ h1 hS (fun s' w' h2 => ih _ _ _ h h2))
   ·cases h
  ·rename_i id ops K' σ1 heq
   injection heq with e1 e2
   subst e1; subst e2
   split at h
   ·rename_i σ' h1
    exact ldraw_ok hmx hO hA h1 hS (fun s' w' h2 => ih _ _ _ h h2)
   ·cases h
  ·rename_i t A B K' heq
   injection heq with e1 e2
   subst e1; subst e2
   rw [Bool.and_eq_true] at h
   obtain ⟨hB, h⟩ := h
   obtain rfl := isSkip_eq hB
   have hS' := hS
   obtain ⟨tv, bl, fr, hL, hn, hI, hH, hf⟩ := hS
   have ht := hL t
   split at h
   ·rename_i hlt
    rw [hlt] at ht
    refine W.cond (b := false) ht ?_
    exact W.skip (ih _ _ _ h hS')
   ·rename_i i hlt
    rw [hlt] at ht
    have ht : s t = .bool (decide (X.Z i < 0)) := ht
    rw [Bool.and_eq_true] at h
    obtain ⟨hret, h⟩ := h
    split at h
    ·rename_i i' es hev
     rw [Bool.and_eq_true, beq_iff_eq] at h
     obtain ⟨rfl, h⟩ := h
     by_cases hz : X.Z i' < 0
     ·refine W.cond (b := true) (by show s t = _; rw [ht, decide_eq_true hz]) ?_
      exact retTrue_ok hret (fun s' hs' => hJ s' w hs' hI.base)
     ·refine W.cond (b := false) (by show s t = _; rw [ht, decide_eq_false hz]) ?_
      rw [hev] at hH
      exact W.skip (ih _ _ _ h ⟨tv, bl, fr, hL, hn, hI, hH (by omega), hf⟩)
    ·cases h
   ·rename_i i m hlt
    rw [hlt] at ht
    have ht : s t = .bool (decide (m < X.Z i)) := ht
    rw [Bool.and_eq_true] at h
    obtain ⟨hret, h⟩ := h
    split at h
    ·rename_i i' m' es hev
     simp only [Bool.and_eq_true, beq_iff_eq] at h
     obtain ⟨⟨rfl, rfl⟩, h⟩ := h
     by_cases hz : m' < X.Z i'
     ·refine W.cond (b := true) (by show s t = _; rw [ht, decide_eq_true hz]) ?_
      exact retTrue_ok hret (fun s' hs' => hJ s' w hs' hI.base)
     ·refine W.cond (b := false) (by show s t = _; rw [ht, decide_eq_false hz]) ?_
      rw [hev] at hH
      exact W.skip (ih _ _ _ h ⟨tv, bl, fr, hL, hn, hI, hH (by omega), hf⟩)
    ·cases h
   ·cases h
  ·rename_i K' σ1 heq
   injection heq with e1 e2
   subst e1; subst e2
   rw [decide_eq_true_eq] at h
   obtain ⟨tv, bl, fr, hL, hn, hI, hH, hf⟩ := hS
   have hr := hL r
   rw [h] at hr
   exact W.ret (hJ s w hr hI.base)
  ·cases h
theorem law_marks {P : Program} {D : Nat → List V → Option V} {mt : Nat → List UInt8} {Vh Vo : Nat → V} {nn : Nat → Nat} {shp : Nat → Shp} {ag : List (Option Nat)} {Z : Nat → Int} {f k : Nat} {fn : Func} {code : Code} {es : List LC} (hmx : P.follows .mixedOrders = true) (hD : Answers P D) (hA : Agree P c)
  (agv : ∀ j n, ag[j]? = some (some n) → ∃ cs, Vh j = .agg cs ∧ cs.length = n ∧ allCell cs = true) (hf : P.funcs[f]? = some fn) (hb : fn.body = some code) (hr : fn.results = #[.tmp r]) (hk : k ≤ fn.ntmps)
  (hH : ∀ R w, LX.H ⟨P, D, mt, Vh, Vo, nn, shp, ag, Z, R, w⟩ es) (h : lrun c ag fn.ntmps r (flatC code) ⟨initE k, List.replicate k ⟨0, .ar⟩, es, false⟩ = true)
  (R : Nat → Prop) (w : World) (vals : Array Value) (hg : globOk w) (hR : ∀ k, R k → k < w.heap.size) (hl : k = vals.size) (hv : ∀ (i : Nat) (v : Value), vals[i]? = some v → Rd w R (Vh i) v) :
  Calls P f vals w fun
   | .returned x, w' => Answer R w (.bool true) x w'
   | _, _ => False := by
 subst hl
 let X : LX := ⟨P, D, mt, Vh, Vo, nn, shp, ag, Z, R, w⟩
 have hO : X.Ok := ⟨hD, agv⟩
 have hget : ∀ (j : Nat) (t : LM), (vals.toList.map fun x => (⟨x, 0, 0, fun _ => False⟩ : LM))[j]? = some t → ∃ v, vals[j]? = some v ∧ t = ⟨v, 0, 0, fun _ => False⟩ := fun j t h => by
  rw [List.getElem?_map, Array.getElem?_toList] at h
  cases hj : vals[j]? with
  | none => rw [hj] at h; cases h
  | some v => rw [hj] at h; injection h with h; exact ⟨v, rfl, h.symm⟩
 have hst : ∀ (j : Nat) (e : LE), (List.replicate vals.size (⟨0, .ar⟩ : LE))[j]? = some e → e = ⟨0, .ar⟩ := fun j e h => List.eq_of_mem_replicate (List.mem_of_getElem? h)
 have hInv : X.Inv (List.replicate vals.size ⟨0, .ar⟩) (vals.toList.map fun x => (⟨x, 0, 0, fun _ => False⟩ : LM)) [] none w := by
  refine ⟨hR, hg, Mod.refl w, by simp, fun j e t h1 h2 => ?_, fun i j ei ej ti tj h1 h2 _ _ hlt => ?_, fun i j ei ej ti tj _ _ h3 _ _ _ b hb => ?_, fun e he => ?_, fun p hp => absurd hp List.not_mem_nil, fun b ty hb => (Option.some_ne_none _ hb.symm).elim⟩
  ·obtain ⟨v, h3, rfl⟩ := hget j t h2
   obtain rfl := hst j e h1
   exact ⟨hO.agx (hv j v h3), Nat.zero_le _, fun b hb => hb.elim, hv j v h3, fun hne => absurd rfl hne⟩
  ·rw [hst i ei h1, hst j ej h2] at hlt
   exact absurd hlt (Nat.lt_irrefl _)
  ·obtain ⟨v, _, rfl⟩ := hget i ti h3
   exact hb.elim
  ·rw [List.eq_of_mem_replicate he]; exact Nat.zero_le _
 refine calls_W hf hb hr hk ?_
 refine WL.code (lrun_ok (X := X) hmx hO hA (fun s' w' hs hm => ?_) _ _ _ _ h ⟨_, [], none, fun t => ?_, fun i hi => ?_, hInv, hH R w, fun _ => rfl⟩)
 ·show (match (Ending.returned (s' r)), w' with
   | .returned x, w' => Answer R w (.bool true) x w'
   | _, _ => False)
  rw [hs]
  exact answer_plain ⟨hm.os, hm.tape, hm.output, hm.size, fun k hk => hm.old k hk (Nat.not_le.2 hk)⟩ (.bool true)
 ·show X.LR _ _ _ (lget (initE vals.size) t) _
  rw [initE_get]
  split
  ·rename_i ht
   refine ⟨⟨vals[t], 0, 0, fun _ => False⟩, ?_, ?_⟩
   ·rw [List.getElem?_map, Array.getElem?_toList, Array.getElem?_eq_getElem ht]; rfl
   ·show vals.getD t undef = _
    rw [Array.getD_eq_getD_getElem?, Array.getElem?_eq_getElem ht]; rfl
  ·exact trivial
 ·show vals.getD i undef = undef
  rw [Array.getD_eq_getD_getElem?, Array.getElem?_eq_none (by omega)]; rfl
end
end Go.Am
end
section
set_option linter.unusedVariables false
set_option linter.unusedSimpArgs false
namespace Go.Am
open Go
def VKb (v : V) (kd : Kd) (B : Nat) : Prop := ∃ n, VK v kd n ∧ n ≤ B
inductive VKrow : List V → List Kd → Nat → Prop
  | nil (B : Nat) : VKrow [] [] B
  | cons {v : V} {kd : Kd} {b : Nat} {cs : List V} {kds : List Kd} {B : Nat} (h1 : VKb v kd b) (h2 : VKrow cs kds B) : VKrow (v :: cs) (kd :: kds) (b + B)
theorem VKb.mono {v : V} {kd : Kd} {B B' : Nat} (h : VKb v kd B) (hb : B ≤ B') : VKb v kd B' := by
 obtain ⟨n, h1, h2⟩ := h
 exact ⟨n, h1, Nat.le_trans h2 hb⟩
theorem VKrow.get {cs : List V} {kds : List Kd} {B : Nat} (h : VKrow cs kds B) : ∃ ns : List Nat, ns.length = kds.length ∧ cs.length = kds.length ∧ ns.sum ≤ B ∧ ∀ (j : Nat) (c : V) (kd : Kd) (n : Nat), cs[j]? = some c → kds[j]? = some kd → ns[j]? = some n → VK c kd n := by
 induction h with
 | nil B => exact ⟨[], rfl, rfl, Nat.zero_le _, fun j c kd n h => by simp at h⟩
 | cons h1 h2 ih =>
  obtain ⟨n, a1, a2⟩ := h1
  obtain ⟨ns, b1, b2, b3, b4⟩ := ih
  refine ⟨n :: ns, by simp [b1], by simp [b2], by simp; omega, fun j c kd m h1 h2 h3 => ?_⟩
  cases j with
  | zero =>
   simp only [List.getElem?_cons_zero, Option.some.injEq] at h1 h2 h3
   subst h1; subst h2; subst h3
   exact a1
  | succ j => exact b4 j c kd m (by simpa using h1) (by simpa using h2) (by simpa using h3)
theorem VKrow.mono {cs : List V} {kds : List Kd} {B B' : Nat} (h : VKrow cs kds B) (hb : B ≤ B') : VKrow cs kds B' := by
 cases h with
 | nil => exact .nil B'
 | @cons v kd b cs' kds' B0 h1 h2 =>
  have := VKrow.cons (h1.mono (B' := b + (B' - (b + B0))) (by omega)) h2
  rwa [show b + (B' - (b + B0)) + B0 = B' by omega] at this
theorem sumN_add (N : Nat → Nat) (a k : Nat) : sumN N (a + k) = sumN N a + sumN (fun j => N (a + j)) k := by
 induction k with
 | zero => rfl
 | succ k ih => rw [← Nat.add_assoc, sumN, ih, sumN]; omega
theorem sumN_list (l : List Nat) : ∀ (N : Nat → Nat), (∀ j n, l[j]? = some n → N j = n) → sumN N l.length = l.sum := by
 induction l with
 | nil => intro N _; rfl
 | cons x l ih =>
  intro N h
  rw [List.length_cons, Nat.add_comm, sumN_add, ih (fun j => N (1 + j)) (fun j n hj => h (1 + j) n (by rw [Nat.add_comm]; simpa using hj)), List.sum_cons, sumN, h 0 x (by simp), sumN, Nat.zero_add]
theorem vkb_sl {s : Nat} {f : Bool} {xs : List V} {kds : List Kd} {fs : List Nat} (hs : s = kds.length) (hp : 0 < kds.length) (hm : xs.length ≤ 1152921504606846976) (hl : fs.length = xs.length) (h : ∀ (i : Nat) (x : V) (n : Nat), xs[i]? = some x → fs[i]? = some n → VKrow x.cells kds n) : VKb (.sl s f xs) (.sl kds) fs.sum := by
 have hch : ∀ i : Nat, ∃ ns : List Nat, ∀ x n, xs[i]? = some x → fs[i]? = some n → ns.length = kds.length ∧ ns.sum ≤ n ∧ ∀ (j : Nat) (c : V) (kd : Kd) (m : Nat), x.cells[j]? = some c → kds[j]? = some kd → ns[j]? = some m → VK c kd m := by
  intro i
  rcases Nat.lt_or_ge i xs.length with hi | hi
  ·obtain ⟨ns, a1, a2, a3, a4⟩ := (h i _ _ (List.getElem?_eq_getElem hi) (List.getElem?_eq_getElem (by omega))).get
   refine ⟨ns, fun x n hx hn => ?_⟩
   rw [List.getElem?_eq_getElem hi] at hx
   rw [List.getElem?_eq_getElem (by omega)] at hn
   injection hx with hx
   injection hn with hn
   subst hx; subst hn
   exact ⟨a1, a3, a4⟩
  ·exact ⟨[], fun x n hx => by rw [List.getElem?_eq_none hi] at hx; cases hx⟩
 let G : Nat → List Nat := fun i => (hch i).choose
 let N : Nat → Nat := fun p => (G (p / kds.length)).getD (p % kds.length) 0
 have hN : ∀ i j, j < kds.length → N (i * kds.length + j) = (G i).getD j 0 := fun i j hj => by
  show (G ((i * kds.length + j) / kds.length)).getD ((i * kds.length + j) % kds.length) 0 = _
  rw [Nat.mul_comm, Nat.mul_add_div hp, Nat.div_eq_of_lt hj, Nat.add_zero, Nat.mul_add_mod, Nat.mod_eq_of_lt hj]
 refine ⟨sumN N (xs.length * kds.length), .sl s f xs kds N hs hp hm (fun i x j c kd h1 h2 h3 => ?_), ?_⟩
 ·have hi := (List.getElem?_eq_some_iff.1 h1).1
  have hj := (List.getElem?_eq_some_iff.1 h3).1
  obtain ⟨a1, a2, a3⟩ := (hch i).choose_spec x _ h1 (List.getElem?_eq_getElem (show i < fs.length by omega))
  rw [hN i j hj]
  have hlt : j < (G i).length := by rw [show (G i).length = kds.length from a1]; exact hj
  have hg : (G i)[j]? = some ((G i).getD j 0) := by
   rw [List.getD_eq_getElem?_getD, List.getElem?_eq_getElem hlt]; rfl
  exact a3 j c kd _ h2 h3 hg
 ·have key : ∀ m, m ≤ xs.length → sumN N (m * kds.length) ≤ (fs.take m).sum := by
   intro m
   induction m with
   | zero => intro _; rw [Nat.zero_mul]; exact Nat.zero_le _
   | succ m ih =>
    intro hm'
    have hx := List.getElem?_eq_getElem (show m < xs.length by omega)
    have hn := List.getElem?_eq_getElem (show m < fs.length by omega)
    obtain ⟨a1, a2, a3⟩ := (hch m).choose_spec _ _ hx hn
    have e1 : sumN (fun j => N (m * kds.length + j)) kds.length = (G m).sum := by
     rw [← show (G m).length = kds.length from a1]
     refine sumN_list (G m) _ (fun j n hj => ?_)
     have hlt := (List.getElem?_eq_some_iff.1 hj).1
     have e2 : (G m).length = kds.length := a1
     show N (m * (G m).length + j) = n
     rw [e2, hN m j (by omega), List.getD_eq_getElem?_getD, hj]
     rfl
    rw [Nat.succ_mul, sumN_add, e1, List.take_add_one, hn, List.sum_append]
    have := ih (by omega)
    simp only [Option.toList_some, List.sum_cons, List.sum_nil, Nat.add_zero]
    have a2' : (G m).sum ≤ fs[m] := a2
    omega
  have := key xs.length (Nat.le_refl _)
  rw [List.take_of_length_le (by omega)] at this
  exact this
section
variable {T : Type} {ks : List CK} {g : T → cellsT ks} {kd : CK} {g1 : T → kd.T}
theorem vkb_rows {s : Nat} {f : Bool} {l : List T} {kds : List Kd} {cnt : T → Nat} (hs : s = kds.length) (hp : 0 < kds.length) (hm : l.length ≤ 1152921504606846976) (h : ∀ a ∈ l, VKrow (cellsEnc ks (g a)) kds (cnt a)) : VKb (.sl s f (rows ks g l)) (.sl kds) (sumL cnt l) := by
 refine vkb_sl hs hp (by rw [rows_len]; exact hm) (by rw [rows_len, List.length_map]) (fun i x n h1 h2 => ?_)
 rw [rows, List.getElem?_map] at h1
 rw [List.getElem?_map] at h2
 cases hi : l[i]? with
 | none => rw [hi] at h1; cases h1
 | some a =>
  rw [hi] at h1 h2
  injection h1 with h1
  injection h2 with h2
  subst h1; subst h2
  exact h a (List.mem_of_getElem? hi)
theorem sumL_lin {f : T → Nat} (c : Nat) (l : List T) : sumL (fun x => c + c * f x) l = c * l.length + c * sumL f l := by
 induction l with
 | nil => simp [sumL]
 | cons x l ih =>
  have e : ∀ (h : T → Nat), sumL h (x :: l) = h x + sumL h l := fun h => by simp [sumL]
  rw [e, e, ih, List.length_cons, Nat.mul_add, Nat.mul_add]
  omega
theorem vkb_list {s : Nat} {f : Bool} {l : List T} {kds : List Kd} {sz : T → Nat} (hs : s = kds.length) (hp : 0 < kds.length) (hm : l.length ≤ 1152921504606846976) (h : ∀ a ∈ l, VKrow (cellsEnc ks (g a)) kds (32 + 32 * sz a)) : VKb (.sl s f (rows ks g l)) (.sl kds) (32 * l.length + 32 * sumL sz l) := by
 rw [← sumL_lin]
 exact vkb_rows hs hp hm h
theorem vkb_strs {f : Bool} {l : List (List UInt8)} (hm : l.length ≤ 1152921504606846976) : VKb (.sl 1 f (rStr l)) (.sl [.str]) (32 * l.length) := by
 refine VKb.mono (vkb_sl (fs := List.replicate l.length 1) rfl (by decide) (by rw [show (rStr l).length = l.length from List.length_map _]; exact hm) (by rw [List.length_replicate]; exact (List.length_map _).symm) (fun i x n h1 h2 => ?_)) (by simp; omega)
 obtain rfl := List.eq_of_mem_replicate (List.mem_of_getElem? h2)
 obtain ⟨a, _, rfl⟩ := List.mem_map.1 (List.mem_of_getElem? h1)
 exact .cons ⟨1, .str _, Nat.le_refl _⟩ (.nil 0)
theorem vkb_ints {f : Bool} {l : List Int} (hm : l.length ≤ 1152921504606846976) : VKb (.sl 1 f (rInt l)) (.sl [.int]) (32 * l.length) := by
 refine VKb.mono (vkb_sl (fs := List.replicate l.length 1) rfl (by decide) (by rw [show (rInt l).length = l.length from List.length_map _]; exact hm) (by rw [List.length_replicate]; exact (List.length_map _).symm) (fun i x n h1 h2 => ?_)) (by simp; omega)
 obtain rfl := List.eq_of_mem_replicate (List.mem_of_getElem? h2)
 obtain ⟨a, _, rfl⟩ := List.mem_map.1 (List.mem_of_getElem? h1)
 exact .cons ⟨1, .int _, Nat.le_refl _⟩ (.nil 0)
end
theorem vk_s (s : List UInt8) : VKb (.str s) .str 1 := ⟨1, .str s, Nat.le_refl _⟩
theorem vk_i (n : Int) : VKb (.int .i64 n) .int 1 := ⟨1, .int n, Nat.le_refl _⟩
theorem vk_b (b : Bool) : VKb (.bool b) .bool 1 := ⟨1, .bool b, Nat.le_refl _⟩
def OwnB (cs : List V) (fs : List (Nat × List Kd)) (used : List Nat) (B : Nat) : Prop := ∃ n, OwnA cs fs used n ∧ n ≤ B
theorem OwnB.mono {cs : List V} {fs : List (Nat × List Kd)} {used : List Nat} {B B' : Nat} (h : OwnB cs fs used B) (hb : B ≤ B') : OwnB cs fs used B' := by
 obtain ⟨n, h1, h2⟩ := h
 exact ⟨n, h1, Nat.le_trans h2 hb⟩
theorem OwnB.nil (cs : List V) (used : List Nat) : OwnB cs [] used 0 := ⟨0, rfl, Nat.le_refl _⟩
theorem OwnB.cons {cs : List V} {fs : List (Nat × List Kd)} {used : List Nat} {B1 B2 j b s : Nat} {q : Q} (f : Bool) {xs : List V} {ks : List Kd} (h1 : cs[j]? = some (.own b s q xs)) (hq : q ≠ .any) (hu : b ∉ used) (h : VKb (.sl s f xs) (.sl ks) B1) (h2 : OwnB cs fs (b :: used) B2) : OwnB cs ((j, ks) :: fs) used (B1 + B2) := by
 obtain ⟨n1, a1, a2⟩ := h
 obtain ⟨n2, b1, b2⟩ := h2
 exact ⟨n1 + n2, ⟨n1, n2, rfl, .inl ⟨b, s, q, f, xs, h1, hq, hu, a1, b1⟩⟩, by omega⟩
theorem OwnB.shp {cs : List V} {fs : List (Nat × List Kd)} {B sz : Nat} (h : OwnB cs fs [] B) (hz : cs.length = sz) : ∃ n, (Shp.a sz fs).own (.agg cs) n ∧ n ≤ B := by
 obtain ⟨n, h1, h2⟩ := h
 exact ⟨n, ⟨cs, rfl, hz, h1⟩, h2⟩
theorem shp_s {b s : Nat} {q : Q} (f : Bool) {xs : List V} {ks : List Kd} {B : Nat} (hq : q ≠ .any) (h : VKb (.sl s f xs) (.sl ks) B) : ∃ n, (Shp.s ks).own (.own b s q xs) n ∧ n ≤ B := by
 obtain ⟨n, h1, h2⟩ := h
 exact ⟨n, .inl ⟨b, s, q, f, xs, rfl, hq, h1⟩, h2⟩
theorem flat_rows {T : Type} {ks : List CK} {g : T → cellsT ks} (l : List T) (h : ∀ e : cellsT ks, ∀ c ∈ cellsEnc ks e, noSl c) : ∀ x ∈ rows ks g l, ∀ c ∈ x.cells, noSl c := by
 intro x hx c hc
 obtain ⟨a, _, rfl⟩ := List.mem_map.1 hx
 exact h _ c hc
theorem flat_strs (l : List (List UInt8)) : ∀ x ∈ rStr l, ∀ c ∈ x.cells, noSl c := by
 intro x hx c hc
 obtain ⟨a, _, rfl⟩ := List.mem_map.1 hx
 rw [List.mem_singleton.1 hc]
 exact trivial
theorem flat_ints (l : List Int) : ∀ x ∈ rInt l, ∀ c ∈ x.cells, noSl c := by
 intro x hx c hc
 obtain ⟨a, _, rfl⟩ := List.mem_map.1 hx
 rw [List.mem_singleton.1 hc]
 exact trivial
def CK.plain : CK → Bool
 | .sl _ _ => false
 | _ => true
theorem flat_plain : ∀ {ks : List CK}, ks.all CK.plain = true → ∀ e : cellsT ks, ∀ c ∈ cellsEnc ks e, noSl c := by
 intro ks
 induction ks with
 | nil => intro _ e c hc; cases hc
 | cons k ks ih =>
  intro h e c hc
  rw [List.all_cons, Bool.and_eq_true] at h
  rcases List.mem_cons.1 hc with rfl | hc
  ·cases k with
   | sl s f => cases h.1
   | _ => exact trivial
  ·exact ih h.2 e.2 c hc
inductive Hands (cl : Bool) : List V → List V → Prop
  | nil : Hands cl [] []
  | cons {v v' : V} {cs cs' : List V} (h1 : Hand cl v v') (h2 : Hands cl cs cs') : Hands cl (v :: cs) (v' :: cs')
theorem Hands.agg {cl : Bool} {cs cs' : List V} (h : Hands cl cs cs') : Hand cl (.agg cs) (.agg cs') := by
 have key : cs.length = cs'.length ∧ ∀ (i : Nat) (c c' : V), cs[i]? = some c → cs'[i]? = some c' → Hand cl c c' := by
  induction h with
  | nil => exact ⟨rfl, fun i c c' h => by simp at h⟩
  | cons h1 h2 ih =>
   refine ⟨by simp [ih.1], fun i c c' g1 g2 => ?_⟩
   cases i with
   | zero => simp only [List.getElem?_cons_zero, Option.some.injEq] at g1 g2; subst g1; subst g2; exact h1
   | succ i => exact ih.2 i c c' (by simpa using g1) (by simpa using g2)
 exact .agg cs cs' key.1 key.2
end Go.Am
namespace Go.Am
open Go
section
variable {X : LX} {r : List LC}
theorem LX.H_nil : X.H [] := trivial
theorem LX.H_sz {f j i : Nat} {a : LV} (z : Int) (hz : X.argZ a = some z) (h : X.D f [X.Vh j, .int .i64 z] = some (.int .i64 (X.Z i))) (hr : X.H r) : X.H (.sz f j a i :: r) := ⟨⟨z, hz, h⟩, hr⟩
theorem LX.H_low {i : Nat} (hr : 0 ≤ X.Z i → X.H r) : X.H (.low i :: r) := hr
theorem LX.H_sh {f i : Nat} {js : List Nat} (h : X.D f (js.map X.Vh) = some (X.Vo i)) (hh : Hand false (X.Vo i) (X.Vh i)) (hr : X.H r) : X.H (.mk f js true i :: r) := ⟨⟨h, hh, fun e => by cases e⟩, hr⟩
theorem LX.H_nw {f i : Nat} {js : List Nat} (h : X.D f (js.map X.Vh) = some (X.Vo i)) (hh : Hand true (X.Vo i) (X.Vh i)) (ho : (X.shp i).own (X.Vo i) (X.nn i)) (hr : X.H r) : X.H (.mk f js false i :: r) := ⟨⟨h, hh, fun _ => ho⟩, hr⟩
theorem LX.H_tt {f : Nat} {js : List Nat} (h : X.D f (js.map X.Vh) = some (.bool true)) (hr : X.H r) : X.H (.tt f js :: r) := ⟨h, hr⟩
theorem LX.H_mark {f j : Nat} {l : List Nat} (h : (X.shp j).MarkOk X.P X.mt f) (hb : X.ctv l + X.nn j ≤ 1152921504606846976) (hr : X.H r) : X.H (.mark f j l :: r) := ⟨⟨h, hb⟩, hr⟩
theorem LX.H_held {f j : Nat} {l : List Nat} (h : (X.shp j).HeldOk X.P X.mt f) (hb : X.ctv l + X.nn j ≤ 1152921504606846976) (hr : X.H r) : X.H (.held f j l :: r) := ⟨⟨h, hb⟩, hr⟩
end
theorem under {P : Prop} {α : Type} {Q : α → Prop} (d : α) (h : P → ∃ x, Q x) : ∃ x, P → Q x := by
 by_cases c : P
 ·obtain ⟨x, hx⟩ := h c
  exact ⟨x, fun _ => hx⟩
 ·exact ⟨d, fun h => absurd h c⟩
theorem fnok_any {d : Nat → List V → Option V} {f : Nat} {W : (β : Type) → List V → (V → Option β) → Option β} (h : FnOk d f W) {args : List V} {v : V} (hw : W V args some = some v) : d f args = some v := by
 obtain ⟨v', h1, h2⟩ := h V args some v hw
 injection h2 with h2
 rw [← h2]; exact h1
end Go.Am
end
