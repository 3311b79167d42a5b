/-
  Laws' functions that write marks into slices of rows, and those that look for them: known by their code's form, checked by reckoning.
-/
import Derived.Test.YthncjpkjmgmdlaaGreatqsAmCfg
import Derived.Test.YthncjpkjmgmdlaaGreatqsAmDraw
section
set_option linter.unusedVariables false
set_option linter.unusedSimpArgs false
namespace Go.Am
open Go Go.RowKit
structure Ag (n : Nat) (s : Nat → Value) (a : Act) : Prop where
  dz : a.defers = []
  sz : a.tmps.size = n
  at_ : ∀ i, a.tmps.getD i undef = s i
def upd (s : Nat → Value) (d : Nat) (x : Value) : Nat → Value := fun i => if i = d then x else s i
theorem upd_same {s : Nat → Value} {d : Nat} {x : Value} : upd s d x d = x := if_pos rfl
theorem upd_ne {s : Nat → Value} {d i : Nat} {x : Value} (h : i ≠ d) : upd s d x i = s i := if_neg h
def evs (s : Nat → Value) : Operand → Value
 | .tmp t => s t
 | .const v => v
 | .global g => .pointer (some ⟨g, 0, none⟩)
 | .func f => .func (.func f) #[] #[]
section
variable {P : Program} {n d : Nat} {s : Nat → Value} {a : Act} {w w' : World} {x : Value}
theorem Ag.eval (h : Ag n s a) : a.eval = evs s := by
 funext x
 cases x with
 | tmp t => exact h.at_ t
 | _ => rfl
theorem Ag.put (h : Ag n s a) (hd : d < n) : Ag n (upd s d x) (a.put (some d) x) := by
 refine ⟨h.dz, by simp [Act.put, h.sz], fun i => ?_⟩
 simp only [Act.put, Array.getD_eq_getD_getElem?, Array.getElem?_setIfInBounds]
 by_cases hi : i = d
 ·subst hi
  rw [upd_same, if_pos rfl, if_pos (by rw [h.sz]; exact hd)]
  rfl
 ·rw [upd_ne hi, if_neg (fun e => hi e.symm), ← Array.getD_eq_getD_getElem?]
  exact h.at_ i
theorem Ag.enter (args : Array Value) (m : Nat) : Ag (args.size + m) (fun i => args.getD i undef) { tmps := args ++ Array.replicate m undef, defers := [] } := by
 refine ⟨rfl, by simp, fun i => ?_⟩
 simp only [Array.getD_eq_getD_getElem?]
 rcases Nat.lt_or_ge i args.size with h | h
 ·rw [Array.getElem?_append_left h]
 ·rw [Array.getElem?_append_right h, Array.getElem?_eq_none h, Array.getElem?_replicate]
  split <;> rfl
def R (P : Program) (n : Nat) (ops : Array Oper) (l : List Oper) (s : Nat → Value) (w : World) (K : (Nat → Value) → World → Prop) : Prop :=
 ∀ (Q : Exit → Act → World → Prop), (∀ s' a' w', Ag n s' a' → K s' w' → Q .normal a' w') → ∀ a, Ag n s a → wpList P ops Q l a w
def W (P : Program) (n : Nat) (c : Code) (s : Nat → Value) (w : World) (K : Exit → (Nat → Value) → World → Prop) : Prop :=
 ∀ (Q : Exit → Act → World → Prop), (∀ e s' a' w', Ag n s' a' → K e s' w' → Q e a' w') → ∀ a, Ag n s a → c.wp P Q a w
variable {ops : Array Oper} {l : List Oper} {o : Oper} {K K' : (Nat → Value) → World → Prop} {c c1 c2 : Code} {J J' : Exit → (Nat → Value) → World → Prop}
theorem R.mono (h : R P n ops l s w K) (hk : ∀ s' w', K s' w' → K' s' w') : R P n ops l s w K' := fun Q hQ a ha => h Q (fun s' a' w' h1 h2 => hQ s' a' w' h1 (hk s' w' h2)) a ha
theorem W.mono (h : W P n c s w J) (hk : ∀ e s' w', J e s' w' → J' e s' w') : W P n c s w J' := fun Q hQ a ha => h Q (fun e s' a' w' h1 h2 => hQ e s' a' w' h1 (hk e s' w' h2)) a ha
theorem R.nil (h : K s w) : R P n ops [] s w K := fun Q hQ a ha => wpList_nil (hQ s a w ha h)
theorem R.step (hg : o.guard = none) (h : ∀ (a : Act) (Q : Exit → Act → World → Prop) (N : Act → World → Prop), (∀ s' a' w', Ag n s' a' → R P n ops l s' w' K → N a' w') → Ag n s a → o.wp P a w N Q) : R P n ops (o :: l) s w K := by
 intro Q hQ a ha
 refine wpList_step fun N hN => ?_
 rw [if_pos (by simp [Region.wanted, hg])]
 exact h a Q N (fun s' a' w' h1 h2 => hN _ _ (h2 Q hQ a' h1)) ha
theorem R.value (hg : o.guard = none) (hd : o.dst = some d) (hn : d < n) (he : (execOp (evs s) o).run P w = .ok (.value x) w') (h : R P n ops l (upd s d x) w' K) : R P n ops (o :: l) s w K := by
 refine R.step hg fun a Q N hN ha => ?_
 unfold Oper.wp
 rw [ha.eval, he, Oper.upon_value, hd]
 exact hN _ _ _ (ha.put hn) h
theorem R.skip (hg : o.guard = none) (hd : o.dst = none) (he : (execOp (evs s) o).run P w = .ok .skip w') (h : R P n ops l s w' K) : R P n ops (o :: l) s w K := by
 refine R.step hg fun a Q N hN ha => ?_
 unfold Oper.wp
 rw [ha.eval, he, Oper.upon_skip, hd]
 exact hN _ a _ ha h
theorem R.call {f : FuncId} {args : Array Value} (hg : o.guard = none) (hd : o.dst = some d) (hn : d < n) (he : (execOp (evs s) o).run P w = .ok (.enter f args) w)
  (hc : Calls P f args w fun e w' => ∃ x, e = .returned x ∧ R P n ops l (upd s d x) w' K) : R P n ops (o :: l) s w K := by
 refine R.step hg fun a Q N hN ha => ?_
 unfold Oper.wp
 rw [ha.eval, he, Oper.upon_enter]
 refine Calls.mono hc fun e w' h => ?_
 obtain ⟨x, rfl, h⟩ := h
 show N (a.put o.dst x) w'
 rw [hd]
 exact hN _ _ _ (ha.put hn) h
def Known (P : Program) (f : Nat) : Prop := ∃ fn, P.funcs[f]? = some fn ∧ fn.body.isNone = false ∧ (fn.name == "runtime.NumGoroutine") = false
theorem call_enter {f : Nat} {args : Array Operand} {ts : Array TypeId} (hk : Known P f) (ho : o.op = .call ⟨.value (.func f), args, ts⟩) : (execOp (evs s) o).run P w = .ok (.enter f (args.map (evs s))) w := by
 obtain ⟨fn, h1, h2, h3⟩ := hk
 have h3 : ¬ fn.name = "runtime.NumGoroutine" := by simpa using h3
 simp [execOp, ho, resolve, Deferred.ofValue, invoke, callFunc, evs, h1, h2, h3]
 intro hb
 simp [hb] at h2
def O1 (P : Program) (n : Nat) (o : Oper) (s : Nat → Value) (w : World) (K : (Nat → Value) → World → Prop) : Prop :=
 o.guard = none ∧ ∀ (a : Act) (Q : Exit → Act → World → Prop) (N : Act → World → Prop), (∀ s' a' w', Ag n s' a' → K s' w' → N a' w') → Ag n s a → o.wp P a w N Q
theorem O1.mono (h : O1 P n o s w K) (hk : ∀ s' w', K s' w' → K' s' w') : O1 P n o s w K' := ⟨h.1, fun a Q N hN ha => h.2 a Q N (fun s' a' w' h1 h2 => hN s' a' w' h1 (hk s' w' h2)) ha⟩
theorem R.one (h : O1 P n o s w (fun s' w' => R P n ops l s' w' K)) : R P n ops (o :: l) s w K := R.step h.1 h.2
theorem O1.value (hg : o.guard = none) (hd : o.dst = some d) (hn : d < n) (he : (execOp (evs s) o).run P w = .ok (.value x) w') (h : K (upd s d x) w') : O1 P n o s w K := by
 refine ⟨hg, fun a Q N hN ha => ?_⟩
 unfold Oper.wp
 rw [ha.eval, he, Oper.upon_value, hd]
 exact hN _ _ _ (ha.put hn) h
theorem O1.skip (hg : o.guard = none) (hd : o.dst = none) (he : (execOp (evs s) o).run P w = .ok .skip w') (h : K s w') : O1 P n o s w K := by
 refine ⟨hg, fun a Q N hN ha => ?_⟩
 unfold Oper.wp
 rw [ha.eval, he, Oper.upon_skip, hd]
 exact hN _ a _ ha h
theorem O1.call {f : FuncId} {args : Array Value} (hg : o.guard = none) (hd : o.dst = some d) (hn : d < n) (he : (execOp (evs s) o).run P w = .ok (.enter f args) w)
  (hc : Calls P f args w fun e w' => ∃ x, e = .returned x ∧ K (upd s d x) w') : O1 P n o s w K := by
 refine ⟨hg, fun a Q N hN ha => ?_⟩
 unfold Oper.wp
 rw [ha.eval, he, Oper.upon_enter]
 refine Calls.mono hc fun e w' h => ?_
 obtain ⟨x, rfl, h⟩ := h
 show N (a.put o.dst x) w'
 rw [hd]
 exact hN _ _ _ (ha.put hn) h
theorem any_gen (I : Array Bool → (Nat → Value) → World → Prop) {J0 : (Nat → Value) → World → Prop} (hback : ∀ (j : Nat) (o : Oper), ops[j]? = some o → ∀ e ∈ o.after.toList, e.on < j)
  (step : ∀ (listed : Array Bool) (s : Nat → Value) (w : World) (i : Nat) (o : Oper), I listed s w → ops[i]? = some o → listed.getD i true = false → listed.size = ops.size → (∀ e ∈ o.after.toList, Region.binds .any e = true → listed.getD e.on false = true) → O1 P n o s w (fun s' w' => I (listed.setIfInBounds i true) s' w'))
  (fin : ∀ (listed : Array Bool) (s : Nat → Value) (w : World), (∀ j, j < ops.size → listed.getD j true = true) → I listed s w → J0 s w) :
  ∀ (fuel : Nat) (listed : Array Bool) (s : Nat → Value) (w : World), I listed s w → listed.size = ops.size → (pend ops listed).length ≤ fuel → ∀ (Q : Exit → Act → World → Prop), (∀ s' a' w', Ag n s' a' → J0 s' w' → Q .normal a' w') → ∀ a, Ag n s a → wpAny P .any ops Q fuel listed a w := by
 have agree : ∀ (listed : Array Bool), listed.size = ops.size → ∀ j, j < ops.size → ∀ b, listed.getD j true = b → listed.getD j false = b := by
  intro listed hz j hj b h
  have : j < listed.size := by omega
  simpa [this] using h
 have hdone : ∀ (listed : Array Bool), listed.size = ops.size → Region.ready .any ops listed = [] → pend ops listed = [] := by
  intro listed hz hr
  cases hp : pend ops listed with
  | nil => rfl
  | cons j rest =>
   exfalso
   have hj := mem_pend.1 (show j ∈ pend ops listed by rw [hp]; simp)
   have hsome : ops[j]? = some ops[j] := by simp [hj.1]
   have : j ∈ Region.ready .any ops listed := by
    refine mem_ready.2 ⟨hj.2, ops[j], hsome, fun e he _ => ?_⟩
    have hlt := hback j _ hsome e (by simpa using he)
    have hlt2 : e.on < ops.size := by omega
    cases hb : listed.getD e.on true with
    | true => exact agree listed hz e.on hlt2 true hb
    | false =>
     exfalso
     have hm : e.on ∈ pend ops listed := mem_pend.2 ⟨hlt2, hb⟩
     have hs := pend_sorted (ops := ops) listed
     rw [hp] at hm hs
     rcases List.mem_cons.1 hm with h | h
     ·omega
     ·have := (List.pairwise_cons.1 hs).1 _ h
      omega
   rw [hr] at this
   cases this
 have hall : ∀ (listed : Array Bool), pend ops listed = [] → ∀ j, j < ops.size → listed.getD j true = true := by
  intro listed hp j hj
  cases hb : listed.getD j true with
  | true => rfl
  | false =>
   have := mem_pend.2 ⟨hj, hb⟩
   rw [hp] at this
   cases this
 intro fuel
 induction fuel with
 | zero =>
  intro listed s w hI hz hlen Q hQ a ha
  have hp : pend ops listed = [] := List.eq_nil_of_length_eq_zero (by omega)
  refine ⟨?_, hQ s a w ha (fin listed s w (hall listed hp) hI)⟩
  cases hr : Region.ready .any ops listed with
  | nil => rfl
  | cons i rest =>
   exfalso
   obtain ⟨h0, o, ho, _⟩ := mem_ready.1 (show i ∈ Region.ready .any ops listed by rw [hr]; simp)
   have : i ∈ pend ops listed := mem_pend.2 ⟨(Array.getElem?_eq_some_iff.1 ho).1, h0⟩
   rw [hp] at this
   cases this
 | succ fuel ih =>
  intro listed s w hI hz hlen Q hQ a ha
  refine ⟨fun hr => hQ s a w ha (fin listed s w (hall listed (hdone listed hz hr)) hI), fun i hi => ?_⟩
  obtain ⟨h0, o, ho, hedges⟩ := mem_ready.1 hi
  have hilt := (Array.getElem?_eq_some_iff.1 ho).1
  have hlen2 : (pend ops (listed.setIfInBounds i true)).length ≤ fuel := by
   have him : i ∈ pend ops listed := mem_pend.2 ⟨hilt, h0⟩
   obtain ⟨pre, suf, hsplit⟩ := List.append_of_mem him
   have hnd := pend_nodup (ops := ops) listed
   have hset : pend ops (listed.setIfInBounds i true) = pre ++ suf := by
    rw [pend_set, hsplit, filter_split (by rw [← hsplit]; exact hnd)]
   have : (pend ops listed).length = (pre ++ suf).length + 1 := by rw [hsplit]; simp; omega
   rw [hset]
   omega
  obtain ⟨g1, g2⟩ := step listed s w i o hI ho h0 hz (fun e he hb => hedges e (by simpa using he) hb)
  unfold wpOp
  rw [ho]
  simp only
  rw [if_pos (by simp [Region.wanted, g1])]
  exact .inl (g2 a Q _ (fun s' a' w' h1 h2 => ih _ s' w' h2 (by simpa using hz) hlen2 Q hQ a' h1) ha)
theorem W.drawn {i : Nat} (hm : P.follows .mixedOrders = true) (I : Array Bool → (Nat → Value) → World → Prop) (hback : ∀ (j : Nat) (o : Oper), ops[j]? = some o → ∀ e ∈ o.after.toList, e.on < j)
  (step : ∀ (listed : Array Bool) (s : Nat → Value) (w : World) (i : Nat) (o : Oper), I listed s w → ops[i]? = some o → listed.getD i true = false → listed.size = ops.size → (∀ e ∈ o.after.toList, Region.binds .any e = true → listed.getD e.on false = true) → O1 P n o s w (fun s' w' => I (listed.setIfInBounds i true) s' w'))
  (fin : ∀ (listed : Array Bool) (s : Nat → Value) (w : World), (∀ j, j < ops.size → listed.getD j true = true) → I listed s w → J .normal s w) (h0 : I (Array.replicate ops.size false) s { w with drawn := w.drawn + 1 }) : W P n (.region i ops true) s w J := by
 intro Q hQ a ha
 refine wp_region_any hm ?_
 exact any_gen I hback step fin ops.size _ s _ h0 (by simp) (by rw [pend_start]; simp) Q (fun s' a' w' h1 h2 => hQ _ _ _ _ h1 h2) a ha
theorem W.skip (h : J .normal s w) : W P n .skip s w J := fun Q hQ a ha => wp_skip (hQ _ _ _ _ ha h)
theorem W.exit {i : Nat} (h : J (.exit i) s w) : W P n (.exit i) s w J := fun Q hQ a ha => wp_exit (hQ _ _ _ _ ha h)
theorem W.ret (h : J .ret s w) : W P n .ret s w J := fun Q hQ a ha => wp_ret (hQ _ _ _ _ ha h)
theorem W.region {i : Nat} (h : R P n ops ops.toList s w (J .normal)) : W P n (.region i ops false) s w J := fun Q hQ a ha => wp_region_list (h Q (fun s' a' w' h1 h2 => hQ _ _ _ _ h1 h2) a ha)
def thenW (P : Program) (n : Nat) (c : Code) (J : Exit → (Nat → Value) → World → Prop) : Exit → (Nat → Value) → World → Prop
 | .normal, s, w => W P n c s w J
 | e, s, w => J e s w
theorem W.seq (h : W P n c1 s w (thenW P n c2 J)) : W P n (.seq c1 c2) s w J := by
 intro Q hQ a ha
 refine wp_seq (h _ (fun e s' a' w' h1 h2 => ?_) a ha)
 cases e with
 | normal => exact h2 Q hQ a' h1
 | _ => exact hQ _ _ _ _ h1 h2
theorem W.cond {y : Operand} {b : Bool} (hb : evs s y = .bool b) (h : W P n (if b then c1 else c2) s w J) : W P n (.cond y c1 c2) s w J := fun Q hQ a ha => wp_cond (by rw [ha.eval]; exact hb) (h Q hQ a ha)
def outW (i : Nat) (J : Exit → (Nat → Value) → World → Prop) : Exit → (Nat → Value) → World → Prop
 | .exit j, s, w => if j = i then J .normal s w else J (.exit j) s w
 | e, s, w => J e s w
theorem W.block {i : Nat} (h : W P n c s w (outW i J)) : W P n (.block i c) s w J := by
 intro Q hQ a ha
 refine wp_block (h _ (fun e s' a' w' h1 h2 => ?_) a ha)
 cases e with
 | exit j =>
  show (if j = i then _ else _)
  simp only [outW] at h2
  split
  ·rename_i e; rw [if_pos e] at h2; exact hQ _ _ _ _ h1 h2
  ·rename_i e; rw [if_neg e] at h2; exact hQ _ _ _ _ h1 h2
 | _ => exact hQ _ _ _ _ h1 h2
open Classical in
theorem W.loop (I : Nat → (Nat → Value) → World → Prop) {m : Nat} (h0 : I m s w) (round : ∀ m s w, I m s w → W P n c s w (fun e s' w' => match e with
   | .normal => ∃ m', m' < m ∧ I m' s' w'
   | e => J e s' w')) : W P n (.loop c) s w J := by
 intro Q hQ a ha
 have least : ∀ (p : Nat → Prop), (∃ m, p m) → ∃ m, p m ∧ ∀ k, p k → m ≤ k := by
  intro p ⟨m, hm⟩
  induction m using Nat.strongRecOn with
  | _ m ih =>
   by_cases h : ∃ k, k < m ∧ p k
   ·obtain ⟨k, hk, hp⟩ := h
    exact ih k hk hp
   ·exact ⟨m, hm, fun k hk => Nat.le_of_not_lt fun hlt => h ⟨k, hlt, hk⟩⟩
 let p : Act → World → Nat → Prop := fun a w m => ∃ s, Ag n s a ∧ I m s w
 refine wp_loop (fun a w => ∃ m, p a w m) (fun a w => if h : ∃ m, p a w m then (least _ h).choose else 0) ⟨m, s, ha, h0⟩ (fun a w h => ?_)
 obtain ⟨⟨s1, h1, h2⟩, h3⟩ := (least _ h).choose_spec
 refine round _ s1 w h2 _ (fun e s' a' w' g1 g2 => ?_) a h1
 cases e with
 | normal =>
  obtain ⟨m', hlt, hI⟩ := g2
  have hex : ∃ m, p a' w' m := ⟨m', s', g1, hI⟩
  refine ⟨hex, ?_⟩
  show (if h : ∃ m, p a' w' m then (least _ h).choose else 0) < (if h : ∃ m, p a w m then (least _ h).choose else 0)
  rw [dif_pos hex, dif_pos h]
  exact Nat.lt_of_le_of_lt ((least _ hex).choose_spec.2 m' ⟨s', g1, hI⟩) hlt
 | _ => exact hQ _ _ _ _ g1 g2
theorem calls_W {f : Nat} {fn : Func} {args : Array Value} {r : Nat} {B : Ending → World → Prop} (hf : P.funcs[f]? = some fn) (hb : fn.body = some c) (hr : fn.results = #[.tmp r]) (hn : args.size ≤ fn.ntmps)
  (h : W P fn.ntmps c (fun i => args.getD i undef) w (fun e s' w' => match e with
   | .ret => B (.returned (s' r)) w'
   | .normal => B (.returned (s' r)) w'
   | _ => False)) : Calls P f args w B := by
 refine calls_of_wp hf hb ?_
 have ha := Ag.enter args (fn.ntmps - args.size)
 rw [Nat.add_sub_cancel' hn] at ha
 have hres : ∀ (s' : Nat → Value) (a' : Act) (w' : World), Ag fn.ntmps s' a' → (results fn a'.tmps).run P w' = .ok (s' r) w' := by
  intro s' a' w' h
  simp only [results, hr]
  simp [h.at_]
 refine h _ (fun e s' a' w' h1 h2 => ?_) _ ha
 cases e with
 | ret => exact ⟨h1.dz, _, hres s' a' w' h1, h2⟩
 | normal => exact ⟨h1.dz, _, hres s' a' w' h1, h2⟩
 | _ => exact h2.elim
def flatC : Code → List Code
 | .seq a b => flatC a ++ flatC b
 | c => [c]
def WL (P : Program) (n : Nat) : List Code → (Nat → Value) → World → (Exit → (Nat → Value) → World → Prop) → Prop
 | [], s, w, J => J .normal s w
 | c :: cs, s, w, J => W P n c s w (fun e s' w' => match e with
  | .normal => WL P n cs s' w' J
  | e => J e s' w')
theorem WL.mono : ∀ {cs : List Code} {s : Nat → Value} {w : World} {J J' : Exit → (Nat → Value) → World → Prop}, WL P n cs s w J → (∀ e s' w', J e s' w' → J' e s' w') → WL P n cs s w J' := by
 intro cs
 induction cs with
 | nil => intro s w J J' h hk; exact hk _ _ _ h
 | cons c cs ih =>
  intro s w J J' h hk
  refine W.mono h (fun e s' w' h => ?_)
  cases e with
  | normal => exact ih h hk
  | _ => exact hk _ _ _ h
theorem WL.flat : ∀ (c : Code) (rest : List Code) (s : Nat → Value) (w : World) (J : Exit → (Nat → Value) → World → Prop), WL P n (flatC c ++ rest) s w J → WL P n (c :: rest) s w J := by
 intro c
 induction c with
 | seq a b iha ihb =>
  intro rest s w J h
  rw [flatC, List.append_assoc] at h
  have h := iha _ _ _ _ h
  refine W.seq (W.mono h (fun e s' w' h => ?_))
  cases e with
  | normal => exact ihb rest s' w' J h
  | _ => exact h
 | _ => intro rest s w J h; exact h
theorem WL.code (h : WL P n (flatC c) s w J) : W P n c s w J := by
 have := WL.flat c [] s w J (by rw [List.append_nil]; exact h)
 refine W.mono this (fun e s' w' h => ?_)
 cases e with
 | normal => exact h
 | _ => exact h
end
end Go.Am
end
section
set_option linter.unusedVariables false
set_option linter.unusedSimpArgs false
namespace Go.Am
open Go Go.RowKit
structure Mod (X : Nat → Prop) (w w' : World) : Prop where
  os : w'.os = w.os
  tape : w'.tape = w.tape
  output : w'.output = w.output
  size : w.heap.size ≤ w'.heap.size
  old : ∀ k, k < w.heap.size → ¬ X k → w'.heap[k]? = w.heap[k]?
theorem Mod.refl {X : Nat → Prop} (w : World) : Mod X w w := ⟨rfl, rfl, rfl, Nat.le_refl _, fun _ _ _ => rfl⟩
theorem Mod.trans {X : Nat → Prop} {w w1 w2 : World} (h : Mod X w w1) (h' : Mod X w1 w2) : Mod X w w2 :=
 ⟨h'.os.trans h.os, h'.tape.trans h.tape, h'.output.trans h.output, Nat.le_trans h.size h'.size, fun k hk hx => (h'.old k (Nat.lt_of_lt_of_le hk h.size) hx).trans (h.old k hk hx)⟩
theorem Mod.of_kept {X : Nat → Prop} {w w' : World} (h : Kept w w') : Mod X w w' := ⟨h.1, h.2.1, h.2.2.1, h.2.2.2.1, fun k hk _ => h.2.2.2.2 k hk⟩
theorem Mod.mono {X Y : Nat → Prop} {w w' : World} (h : Mod X w w') (hx : ∀ k, X k → Y k) : Mod Y w w' := ⟨h.os, h.tape, h.output, h.size, fun k hk hy => h.old k hk (fun e => hy (hx k e))⟩
theorem Mod.glob {X : Nat → Prop} {w w' : World} (h : Mod X w w') (hx : ∀ k, X k → globN ≤ k) (hg : globOk w) : globOk w' :=
 ⟨globStable _ _ hg.1 (fun k hk => h.old k (Nat.lt_of_lt_of_le hk hg.2) (fun e => absurd (hx k e) (Nat.not_le.2 hk))), Nat.le_trans hg.2 h.size⟩
theorem Kept.glob' {w w' : World} (h : Kept w w') (hg : globOk w) : globOk w' := Mod.glob (X := fun _ => False) (Mod.of_kept h) (fun _ h => h.elim) hg
theorem Kept.tr {w w1 w2 : World} (h : Kept w w1) (h' : Kept w1 w2) : Kept w w2 :=
 ⟨h'.1.trans h.1, h'.2.1.trans h.2.1, h'.2.2.1.trans h.2.2.1, Nat.le_trans h.2.2.2.1 h'.2.2.2.1, fun k hk => (h'.2.2.2.2 k (Nat.lt_of_lt_of_le hk h.2.2.2.1)).trans (h.2.2.2.2 k hk)⟩
theorem Kept.al (w : World) (o : Obj) : Kept w (w.alloc o) := ⟨rfl, rfl, rfl, by rw [size_alloc]; omega, fun k hk => heap_alloc_lt w o hk⟩
structure Stored (w w' : World) (g : Nat) (cur : Array Value) (ty : TypeId) : Prop where
  mod : Mod (fun k => k = g) w w'
  at_ : w'.heap[g]? = some (.cells cur ty (0, 0))
theorem Stored.other {w w' : World} {g : Nat} {cur : Array Value} {ty : TypeId} (h : Stored w w' g cur ty) {k : Nat} (hk : k < w.heap.size) (hne : k ≠ g) : w'.heap[k]? = w.heap[k]? := h.mod.old k hk hne
theorem seg_one {cur : Array Value} {o : Nat} {x : Value} (h : o < cur.size) : (cur.toList.take o ++ [x] ++ cur.toList.drop (o + 1)).toArray = cur.setIfInBounds o x := by
 apply Array.ext_getElem?
 intro j
 have := seg_get cur.toList [x] o j (by simp; omega)
 simp only [List.length_singleton] at this
 rw [List.getElem?_toArray, this, Array.getElem?_setIfInBounds]
 by_cases e : o = j
 ·subst e
  rw [if_pos ⟨Nat.le_refl _, Nat.lt_succ_self _⟩, if_pos rfl, if_pos h]
  simp
 ·rw [if_neg (by omega), if_neg e]
  simp
theorem run_storeOne (P : Program) (w : World) (g o : Nat) (t ty : TypeId) (ti : TypeInfo) (cur : Array Value) (x : Value) (hg : w.heap[g]? = some (.cells cur t (0, 0))) (hi : P.info? ty = some ti) (h1 : ti.size = 1) (hx : x.cells = #[x]) (ho : x.oneCell' = true) (hfit : o < cur.size) :
  ∃ w', (Instr.storeAt ty (.pointer (some ⟨g, o, none⟩)) x).run P w = .ok () w' ∧ Stored w w' g (cur.setIfInBounds o x) t := by
 have hr := run_storeVar_at P w g o t ty ti cur x hg hi (by rw [hx, h1]; rfl) (by rw [hx]; exact hfit) (by rw [hx]; intro v hv; simp at hv; subst hv; exact ho)
 refine ⟨_, hr, ⟨rfl, rfl, rfl, by rw [setRow_size]; exact Nat.le_refl _, fun k _ hk => setRow_other w g k _ hk⟩, ?_⟩
 have e : (cur.toList.take o ++ x.cells.toList ++ cur.toList.drop (o + x.cells.size)).toArray = cur.setIfInBounds o x := by rw [hx]; exact seg_one hfit
 rw [e]
 exact setRow_heap w g cur _ t _ hg
theorem blk_lt {W : World} {g : Nat} {ob : Obj} (h : W.heap[g]? = some ob) : g < W.heap.size := (Array.getElem?_eq_some_iff.1 h).1
inductive Kd where
  | str
  | int
  | bool
  | sl (ks : List Kd)
def Kd.leaf : Kd → Bool
 | .sl _ => false
 | _ => true
def leafIs : Kd → Value → Prop
 | .str, x => ∃ b : ByteArray, x = .string b
 | .int, x => ∃ n : Int, x = .int .i64 n
 | .bool, x => ∃ b : Bool, x = .bool b
 | .sl _, _ => False
def markIs (mt : Nat → List UInt8) : Kd → Nat → Value → Prop
 | .str, k, x => ∃ b : ByteArray, x = .string b ∧ b.data.toList = mt k
 | .int, k, x => x = .int .i64 (k : Int)
 | .bool, k, x => x = .bool (k % 3 == 0)
 | .sl _, _, _ => False
theorem markIs.leaf {mt : Nat → List UInt8} {kd : Kd} {k : Nat} {x : Value} (h : markIs mt kd k x) : leafIs kd x := by
 cases kd with
 | str => obtain ⟨b, h, _⟩ := h; exact ⟨b, h⟩
 | int => exact ⟨_, h⟩
 | bool => exact ⟨_, h⟩
 | sl ks => exact h.elim
def sumN (N : Nat → Nat) : Nat → Nat
 | 0 => 0
 | p + 1 => sumN N p + N p
theorem sumN_le {N : Nat → Nat} {p q : Nat} (h : p ≤ q) : sumN N p ≤ sumN N q := by
  induction q with
  | zero => obtain rfl : p = 0 := by omega
            exact Nat.le_refl _
  | succ q ih =>
    by_cases e : p = q + 1
    · subst e; exact Nat.le_refl _
    · exact Nat.le_trans (ih (by omega)) (Nat.le_add_right _ _)
inductive MT (mt : Nat → List UInt8) (mk : Bool) (w : World) : Kd → Value → Nat → Nat → (Nat → Prop) → Prop
  | leaf (kd : Kd) (x : Value) (k0 : Nat) (T : Nat → Prop) (h : leafIs kd x) (hm : mk = true → markIs mt kd k0 x) : MT mt mk w kd x k0 1 T
  | nil (ks : List Kd) (a : Option Addr) (cap k0 : Nat) (T : Nat → Prop) : MT mt mk w (.sl ks) (.slice a 0 cap) k0 0 T
  | sl (ks : List Kd) (k o m cap k0 : Nat) (cur : Array Value) (ty : TypeId) (N : Nat → Nat) (Ts : Nat → Nat → Prop) (T : Nat → Prop) (h0 : 0 < m) (hm : m ≤ 1152921504606846976) (hb : w.heap[k]? = some (.cells cur ty (0, 0))) (hsz : o + m * ks.length ≤ cur.size)
      (hc : ∀ (p : Nat) (kd : Kd) (v : Value), p < m * ks.length → ks[p % ks.length]? = some kd → cur[o + p]? = some v → MT mt mk w kd v (k0 + sumN N p) (N p) (Ts p))
      (hd : ∀ p p' x, Ts p x → Ts p' x → p = p') (hk : ∀ p, ¬ Ts p k) (hTk : T k) (hT : ∀ p x, Ts p x → T x) : MT mt mk w (.sl ks) (.slice (some ⟨k, o, none⟩) m cap) k0 (sumN N (m * ks.length)) T
section
variable {mt : Nat → List UInt8} {mk : Bool} {w w' : World} {kd : Kd} {x : Value} {k0 n : Nat} {T T' : Nat → Prop}
theorem MT.mono (h : MT mt mk w kd x k0 n T) (hw : ∀ b, T b → w'.heap[b]? = w.heap[b]?) : MT mt mk w' kd x k0 n T := by
 induction h with
 | leaf kd x k0 T h hm => exact .leaf kd x k0 T h hm
 | nil ks a cap k0 T => exact .nil ks a cap k0 T
 | sl ks k o m cap k0 cur ty N Ts T h0 hm hb hsz hc hd hk hTk hT ih => exact .sl ks k o m cap k0 cur ty N Ts T h0 hm ((hw k hTk).trans hb) hsz (fun p kd v hp h1 h2 => ih p kd v hp h1 h2 (fun b hb => hw b (hT p b hb))) hd hk hTk hT
theorem MT.weaken (h : MT mt mk w kd x k0 n T) (hT : ∀ b, T b → T' b) : MT mt mk w kd x k0 n T' := by
 cases h with
 | leaf _ _ _ _ h hm => exact .leaf kd x k0 T' h hm
 | nil ks a cap _ _ => exact .nil ks a cap k0 T'
 | sl ks k o m cap _ cur ty N Ts _ h0 hm hb hsz hc hd hk hTk hT' => exact .sl ks k o m cap k0 cur ty N Ts T' h0 hm hb hsz hc hd hk (hT k hTk) (fun p x hx => hT x (hT' p x hx))
theorem MT.start (h : MT mt false w kd x k0 n T) : ∀ k1, MT mt false w kd x k1 n T := by
 induction h with
 | leaf kd x k0 T h hm => exact fun k1 => .leaf kd x k1 T h (fun e => by cases e)
 | nil ks a cap k0 T => exact fun k1 => .nil ks a cap k1 T
 | sl ks k o m cap k0 cur ty N Ts T h0 hm hb hsz hc hd hk hTk hT ih => exact fun k1 => .sl ks k o m cap k1 cur ty N Ts T h0 hm hb hsz (fun p kd v hp h1 h2 => ih p kd v hp h1 h2 _) hd hk hTk hT
theorem MT.one (h : MT mt mk w kd x k0 n T) (hl : kd.leaf = true) : n = 1 ∧ leafIs kd x ∧ (mk = true → markIs mt kd k0 x) := by
 cases h with
 | leaf _ _ _ _ h hm => exact ⟨rfl, h, hm⟩
 | nil => cases hl
 | sl => cases hl
structure SlInv (mt : Nat → List UInt8) (w0 w : World) (ks : List Kd) (bk o m : Nat) (cur : Array Value) (ty : TypeId) (N : Nat → Nat) (Ts : Nat → Nat → Prop) (k0 p : Nat) : Prop where
  hb : w.heap[bk]? = some (.cells cur ty (0, 0))
  hsz : o + m * ks.length ≤ cur.size
  done : ∀ (q : Nat) (kd : Kd) (v : Value), q < p → q < m * ks.length → ks[q % ks.length]? = some kd → cur[o + q]? = some v → MT mt true w kd v (k0 + sumN N q) (N q) (Ts q)
  todo : ∀ (q : Nat) (kd : Kd) (v : Value), p ≤ q → q < m * ks.length → ks[q % ks.length]? = some kd → cur[o + q]? = some v → MT mt false w kd v 0 (N q) (Ts q)
  mod : Mod (fun x => x = bk ∨ ∃ q, Ts q x) w0 w
  hd : ∀ p p' x, Ts p x → Ts p' x → p = p'
  hk : ∀ p, ¬ Ts p bk
  lt : ∀ p x, Ts p x → x < w.heap.size
variable {w0 : World} {ks : List Kd} {bk o m p : Nat} {cur : Array Value} {ty : TypeId} {N : Nat → Nat} {Ts : Nat → Nat → Prop} {v : Value}
theorem SlInv.kept (h : SlInv mt w0 w ks bk o m cur ty N Ts k0 p) (hk : Kept w w') : SlInv mt w0 w' ks bk o m cur ty N Ts k0 p := by
 have hold : ∀ q b, Ts q b → w'.heap[b]? = w.heap[b]? := fun q b hq => hk.2.2.2.2 b (h.lt q b hq)
 exact ⟨(hk.2.2.2.2 bk (blk_lt h.hb)).trans h.hb, h.hsz, fun q kd v h1 h2 h3 h4 => (h.done q kd v h1 h2 h3 h4).mono (hold q), fun q kd v h1 h2 h3 h4 => (h.todo q kd v h1 h2 h3 h4).mono (hold q), h.mod.trans (Mod.of_kept hk), h.hd, h.hk, fun q x hx => Nat.lt_of_lt_of_le (h.lt q x hx) hk.2.2.2.1⟩
theorem SlInv.leaf (h : SlInv mt w0 w ks bk o m cur ty N Ts k0 p) (hp : p < m * ks.length) (hkd : ks[p % ks.length]? = some kd) (hl : kd.leaf = true) (hv : markIs mt kd (k0 + sumN N p) v) (hst : Stored w w' bk (cur.setIfInBounds (o + p) v) ty) :
  N p = 1 ∧ SlInv mt w0 w' ks bk o m (cur.setIfInBounds (o + p) v) ty N Ts k0 (p + 1) := by
 have hlt : o + p < cur.size := by have := h.hsz; omega
 obtain ⟨u, hu⟩ : ∃ u, cur[o + p]? = some u := ⟨_, Array.getElem?_eq_getElem hlt⟩
 have h1 := ((h.todo p kd u (Nat.le_refl _) hp hkd hu).one hl).1
 have hold : ∀ q b, Ts q b → w'.heap[b]? = w.heap[b]? := fun q b hq => hst.other (h.lt q b hq) (fun e => h.hk q (e ▸ hq))
 refine ⟨h1, hst.at_, by rw [Array.size_setIfInBounds]; exact h.hsz, fun q kd' v' g1 g2 g3 g4 => ?_, fun q kd' v' g1 g2 g3 g4 => ?_, h.mod.trans (hst.mod.mono (fun k e => .inl e)), h.hd, h.hk, fun q x hx => Nat.lt_of_lt_of_le (h.lt q x hx) hst.mod.size⟩
 ·by_cases e : q = p
  ·subst e
   rw [hkd] at g3
   injection g3 with g3
   subst g3
   rw [Array.getElem?_setIfInBounds_self_of_lt hlt] at g4
   injection g4 with g4
   subst g4
   rw [h1]
   exact .leaf kd v _ _ hv.leaf (fun _ => hv)
  ·rw [Array.getElem?_setIfInBounds_ne (by omega)] at g4
   exact (h.done q kd' v' (by omega) g2 g3 g4).mono (hold q)
 ·rw [Array.getElem?_setIfInBounds_ne (by omega)] at g4
  exact (h.todo q kd' v' (by omega) g2 g3 g4).mono (hold q)
theorem SlInv.sub (h : SlInv mt w0 w ks bk o m cur ty N Ts k0 p) (hp : p < m * ks.length) (hkd : ks[p % ks.length]? = some kd) (hv : cur[o + p]? = some v) (hm : Mod (Ts p) w w') (ht : MT mt true w' kd v (k0 + sumN N p) (N p) (Ts p)) :
  SlInv mt w0 w' ks bk o m cur ty N Ts k0 (p + 1) := by
 have hold : ∀ q, q ≠ p → ∀ b, Ts q b → w'.heap[b]? = w.heap[b]? := fun q hq b hb => hm.old b (h.lt q b hb) (fun e => hq (h.hd q p b hb e))
 refine ⟨(hm.old bk (blk_lt h.hb) (h.hk p)).trans h.hb, h.hsz, fun q kd' v' g1 g2 g3 g4 => ?_, fun q kd' v' g1 g2 g3 g4 => ?_, h.mod.trans (hm.mono (fun k hk => .inr ⟨p, hk⟩)), h.hd, h.hk, fun q x hx => Nat.lt_of_lt_of_le (h.lt q x hx) hm.size⟩
 ·by_cases e : q = p
  ·subst e
   rw [hkd] at g3
   injection g3 with g3
   subst g3
   rw [hv] at g4
   injection g4 with g4
   subst g4
   exact ht
  ·exact (h.done q kd' v' (by omega) g2 g3 g4).mono (hold q e)
 ·exact (h.todo q kd' v' (by omega) g2 g3 g4).mono (hold q (by omega))
end
def MarkOk (P : Program) (mt : Nat → List UInt8) (f : Nat) (kd : Kd) : Prop := Known P f ∧ ∀ (T : Nat → Prop) (x : Value) (n k0 : Nat) (w : World), globOk w → (∀ b, T b → globN ≤ b ∧ b < w.heap.size) → MT mt false w kd x 0 n T → k0 + n ≤ 1152921504606846976 →
 Calls P f #[x, .int .i64 (k0 : Int)] w fun e w' => e = .returned (.int .i64 ((k0 + n : Nat) : Int)) ∧ Mod T w w' ∧ MT mt true w' kd x k0 n T
def HeldOk (P : Program) (mt : Nat → List UInt8) (f : Nat) (kd : Kd) : Prop := Known P f ∧ ∀ (T : Nat → Prop) (x : Value) (n k0 : Nat) (w : World), globOk w → (∀ b, T b → b < w.heap.size) → MT mt true w kd x k0 n T → k0 + n ≤ 1152921504606846976 →
 Calls P f #[x, .int .i64 (k0 : Int)] w fun e w' => e = .returned (.int .i64 ((k0 + n : Nat) : Int)) ∧ Kept w w'
def TextOk (P : Program) (mt : Nat → List UInt8) (f : Nat) : Prop := Known P f ∧ ∀ (k : Nat) (w : World), k < 4611686018427387904 → globOk w →
 Calls P f #[.int .i64 (k : Int)] w fun e w' => ∃ b : ByteArray, e = .returned (.string b) ∧ b.data.toList = mt k ∧ Kept w w'
end Go.Am
end
section
set_option linter.unusedVariables false
set_option linter.unusedSimpArgs false
namespace Go.Am
open Go Go.RowKit
inductive KV where
  | un
  | sl
  | ix
  | ct
  | ad (j : Nat)
  | ce (j : Nat)
  | tx
  | c1
  | rm
  | fl
  | ne
  | ng
  deriving DecidableEq
def kget : List (Nat × KV) → Nat → KV
 | [], _ => .un
 | (d, v) :: r, t => if d = t then v else kget r t
def Kd.num : Kd → Nat
 | .str => 0
 | .int => 1
 | .bool => 2
 | .sl _ => 3
def kval (c : Cfg) (mtF s jc kc : Nat) (g : Nat → KV) (op : Op) : Option KV :=
 match op with
 | .move (.tmp x) => some (g x)
 | .assign (.tmp x) => some (g x)
 | .indexAddr t (.tmp x) (.tmp y) => match g x, g y, c.ty t with
  | .sl, .ix, some i => match i.d with
   | .slice el => match c.ty el with
    | some j => if j.size = s then some (.ad 0) else none
    | none => none
   | _ => none
  | _, _, _ => none
 | .fieldAddr t (.tmp x) f => match g x, c.ty t with
  | .ad j, some i => match i.d with
   | .struct fs => match fs[f]? with
    | some (off, ft) => match c.ty ft with
     | some i' => if i'.size = 0 then none else some (.ad (j + off))
     | none => none
    | none => none
   | _ => none
  | _, _ => none
 | .load t (.tmp x) => match g x, c.ty t with
  | .ad j, some i => if i.size = 1 ∧ i.d.isAgg = false ∧ j < s then some (.ce j) else none
  | _, _ => none
 | .call ⟨.value (.func f), args, _⟩ => match args.toList with
  | [.tmp x] => match g x with
   | .ct => if f = mtF then some .tx else none
   | _ => none
  | _ => none
 | .binOp op t (.tmp x) (.const (.int .i64 z)) _ => match c.ty t with
  | some i => match i.d with
   | .int .i64 => match op, g x, z with
    | .add, .ct, 1 => some .c1
    | .rem, .ct, 3 => some .rm
    | .eql, .rm, 0 => some .fl
    | .lss, .ct, 0 => some .ng
    | _, _, _ => none
   | _ => none
  | none => none
 | .binOp .neq t (.tmp x) (.tmp y) _ => match c.ty t, g x with
  | some i, .ce j => if j = jc then (match i.d, g y, kc with
   | .str, .tx, 0 => some .ne
   | .int .i64, .ct, 1 => some .ne
   | .bool, .fl, 2 => some .ne
   | _, _, _ => none) else none
  | _, _ => none
 | _ => none
def kop (c : Cfg) (mtF n s jc kc : Nat) (e : List (Nat × KV)) (o : Oper) : Option (List (Nat × KV)) :=
 match o.guard, o.dst with
 | none, some d => if d < n then (match kval c mtF s jc kc (kget e) o.op with
  | some v => some ((d, v) :: e)
  | none => none) else none
 | _, _ => none
theorem kval_congr {c : Cfg} {mtF s jc kc : Nat} {g g' : Nat → KV} {op : Op} (hx : ∀ x, .tmp x ∈ op.operands.toList → g' x = g x) : kval c mtF s jc kc g' op = kval c mtF s jc kc g op := by
 unfold kval
 split
 ·rw [hx _ (by simp [Op.operands])]
 ·rw [hx _ (by simp [Op.operands])]
 ·rw [hx _ (by simp [Op.operands]), hx _ (by simp [Op.operands])]
 ·rw [hx _ (by simp [Op.operands])]
 ·rw [hx _ (by simp [Op.operands])]
 ·rename_i f args ts
  split
  ·rename_i x hargs; rw [hx x (by simp [Op.operands, Call.operands, hargs])]
  ·rfl
 ·rw [hx _ (by simp [Op.operands])]
 ·rw [hx _ (by simp [Op.operands]), hx _ (by simp [Op.operands])]
 ·rfl
structure KC where
  mt : Nat → List UInt8
  bk : Nat
  o : Nat
  m : Nat
  cap : Nat
  i : Nat
  s : Nat
  kk : Nat
  vals : Nat → Value
def KR (C : KC) : KV → Value → Prop
 | .un, _ => True
 | .sl, x => x = .slice (some ⟨C.bk, C.o, none⟩) C.m C.cap
 | .ix, x => x = .int .i64 (C.i : Int)
 | .ct, x => x = .int .i64 (C.kk : Int)
 | .ad j, x => x = .pointer (some ⟨C.bk, C.o + C.i * C.s + j, none⟩)
 | .ce j, x => x = C.vals j
 | .tx, x => ∃ b : ByteArray, x = .string b ∧ b.data.toList = C.mt C.kk
 | .c1, x => x = .int .i64 ((C.kk + 1 : Nat) : Int)
 | .rm, x => x = .int .i64 ((C.kk % 3 : Nat) : Int)
 | .fl, x => x = .bool (C.kk % 3 == 0)
 | .ne, x => x = .bool false
 | .ng, x => x = .bool false
def KIn (C : KC) (w : World) : Prop := C.bk < w.heap.size ∧ ∀ j, j < C.s → w.cell? ⟨C.bk, C.o + C.i * C.s + j, none⟩ = some (C.vals j)
theorem KIn.kept {C : KC} {w w' : World} (h : KIn C w) (hk : Kept w w') : KIn C w' := ⟨Nat.lt_of_lt_of_le h.1 hk.2.2.2.1, fun j hj => (cell?_of_heap (hk.2.2.2.2 C.bk h.1) _).trans (h.2 j hj)⟩
def KE (C : KC) (e : List (Nat × KV)) (s : Nat → Value) : Prop := ∀ t, KR C (kget e t) (s t)
theorem KE.put {C : KC} {e : List (Nat × KV)} {s : Nat → Value} {d : Nat} {v : KV} {x : Value} (h : KE C e s) (hx : KR C v x) : KE C ((d, v) :: e) (upd s d x) := by
 intro t
 rw [kget]
 split
 ·rename_i hd; subst hd; rw [upd_same]; exact hx
 ·rename_i hd; rw [upd_ne (fun e => hd e.symm)]; exact h t
section
variable {P : Program} {c : Cfg} {n d : Nat} {s : Nat → Value} {w w' : World} {C : KC} {ops : Array Oper} {o : Oper} {e e' : List (Nat × KV)}
theorem add_none {k o j : Nat} : (⟨k, o, none⟩ : Addr).add j = ⟨k, o + j, none⟩ := by unfold Addr.add; split <;> simp_all
theorem wrap_small {n : Nat} (h : n < 9223372036854775808) : IntKind.wrap .i64 (n : Int) = (n : Int) := by
 simp [IntKind.wrap, IntKind.bits, IntKind.signed]; omega
theorem scal_op (hA : Agree P c) (hg : globOk w) (τ : Nat → V) (hτ : ∀ i, Rd w (fun _ => False) (τ i) (s i)) {v : V} (h : valOp c (fun _ _ => none) (Go.Am.ev ((List.range n).map τ)) (fun b => ([] : List (Option V)).getD b none) d o.op = some (.val v)) (hn : ∀ i, n ≤ i → s i = undef) :
  ∃ x, (execOp (evs s) o).run P w = .ok (.value x) w ∧ ∃ Γ : Ctx, VR Γ w v x := by
 let Γ : Ctx := { w0 := w, F := fun k => w.heap.size ≤ k, S := fun _ => False, has := fun _ => False, blk := fun _ => 0, off := fun _ => 0, cap := fun _ => 0, sz := fun _ => 0, ln := fun _ => 0, lb := fun _ => False, box := fun _ => 0, R := fun _ => False, Z := fun _ => False, N := fun _ _ => False, U := True }
 let a : Act := { tmps := ((List.range n).map s).toArray, defers := [] }
 have ha : Ag n s a := by
  refine ⟨rfl, by simp [a], fun i => ?_⟩
  rcases Nat.lt_or_ge i n with h | h
  ·simp [a, h]
  ·simp [a, h, hn i h]
 have hgood : Good Γ w := ⟨rfl, rfl, rfl, Nat.le_refl _, fun _ _ _ => rfl, fun _ h => h, fun _ h => h.elim, fun _ h => h.elim, fun _ _ h => h.elim, fun _ h => h.elim, fun _ _ h => h.elim, fun _ _ h => h.elim, fun _ h => h.elim, ⟨hg, fun k h => Nat.le_trans hg.2 h⟩, fun _ h => h.elim, fun _ h => h.elim, fun _ h => h.elim, fun h => h⟩
 have hs : Sim Γ ⟨(List.range n).map τ, [], fun _ => false, false⟩ a w := by
  refine ⟨hgood, rfl, by simp [a], fun i v hi => ?_, fun k v hk => by simp at hk, fun _ h => h.elim, fun _ => trivial, fun _ _ _ h => h.elim⟩
  simp only at hi
  have hlt : i < n := by have := (gs_ hi).1; simpa using this
  rw [List.getElem?_map, List.getElem?_range hlt] at hi
  injection hi with hi
  subst hi
  exact ⟨s i, by simp [a, hlt], .rd _ _ (hτ i)⟩
 obtain ⟨x, h1, h2⟩ := pure_val (den := fun _ _ => none) hA hs h
 rw [ha.eval] at h1
 exact ⟨x, h1, Γ, h2⟩
def KC.toV (C : KC) (m1 m2 : V) : KV → V
 | .ix => .int .i64 (C.i : Int)
 | .ct => .int .i64 (C.kk : Int)
 | .tx => .str (C.mt C.kk)
 | .c1 => .int .i64 ((C.kk + 1 : Nat) : Int)
 | .rm => .int .i64 ((C.kk % 3 : Nat) : Int)
 | .fl => .bool (C.kk % 3 == 0)
 | .ce _ => m1
 | _ => m2
def markNum (mt : Nat → List UInt8) (kc kk : Nat) (x : Value) : Prop := (kc = 0 → markIs mt .str kk x) ∧ (kc = 1 → markIs mt .int kk x) ∧ (kc = 2 → markIs mt .bool kk x)
theorem KR.rd {kv : KV} {x : Value} (h : KR C kv x) {S : Nat → Prop} (hc : ∀ j, kv ≠ .ce j) : Rd w S (C.toV .undef .undef kv) x := by
 cases kv with
 | ix => rw [show x = _ from h]; exact .int _ _
 | ct => rw [show x = _ from h]; exact .int _ _
 | tx => obtain ⟨b, rfl, hb⟩ := h; exact .str _ b hb
 | c1 => rw [show x = _ from h]; exact .int _ _
 | rm => rw [show x = _ from h]; exact .int _ _
 | fl => rw [show x = _ from h]; exact .bool _
 | ce j => exact absurd rfl (hc j)
 | _ => exact .undef x
def twoV (x : Nat) (v : V) (y : Nat) (u : V) : Nat → V := fun t => if t = x then v else if t = y then u else .undef
theorem twoV_rd {x y : Nat} {v u : V} (h1 : Rd w (fun _ => False) v (s x)) (h2 : Rd w (fun _ => False) u (s y)) : ∀ t, Rd w (fun _ => False) (twoV x v y u t) (s t) := by
 intro t
 unfold twoV
 split
 ·rename_i e; subst e; exact h1
 ·split
  ·rename_i e; subst e; exact h2
  ·exact .undef _
theorem twoV_ev {x y m : Nat} {v u : V} (hx : x < m) (hy : y < m) : Go.Am.ev ((List.range m).map (twoV x v y u)) (.tmp x) = v ∧ (x ≠ y → Go.Am.ev ((List.range m).map (twoV x v y u)) (.tmp y) = u) := by
 constructor
 ·simp [Go.Am.ev, twoV, hx, List.getD_eq_getElem?_getD]
 ·intro hne
  simp [Go.Am.ev, twoV, hy, List.getD_eq_getElem?_getD, Ne.symm hne]
theorem KE.lt (hE : KE C e s) (hn : ∀ i, n ≤ i → s i = undef) {x : Nat} (h : KR C (kget e x) undef → False) : x < n := by
 rcases Nat.lt_or_ge x n with hx | hx
 ·exact hx
 ·exact (h (by have := hE x; rwa [hn x hx] at this)).elim
theorem scal_bin (hA : Agree P c) (hg : globOk w) (hn : ∀ i, n ≤ i → s i = undef) {op : BinOp} {t t' : TypeId} {x : Nat} {y : Operand} {i : TyInfo} {v u r : V} (ho : o.op = .binOp op t (.tmp x) y t') (ht : c.ty t = some i) (hx : x < n) (hv : Rd w (fun _ => False) v (s x))
  (hy : (∃ y', y = .tmp y' ∧ y' < n ∧ y' ≠ x ∧ Rd w (fun _ => False) u (s y')) ∨ (∃ z, y = .const z ∧ ofVal z = u)) (hb : binV i op v u = some r) : ∃ z, (execOp (evs s) o).run P w = .ok (.value z) w ∧ ∃ Γ : Ctx, VR Γ w r z := by
 rcases hy with ⟨y', rfl, hy1, hy2, hy3⟩ | ⟨z, rfl, hz⟩
 ·obtain ⟨e1, e2⟩ := twoV_ev (v := v) (u := u) hx hy1
  refine scal_op (d := 0) (n := n) hA hg (twoV x v y' u) (twoV_rd hv hy3) ?_ hn
  rw [ho]
  simp only [valOp, ht, e1, e2 (Ne.symm hy2), hb, plain]
 ·obtain ⟨e1, _⟩ := twoV_ev (v := v) (u := V.undef) hx hx
  refine scal_op (d := 0) (n := n) hA hg (twoV x v x .undef) (twoV_rd hv (.undef _)) ?_ hn
  rw [ho]
  simp only [valOp, ht, e1, show Go.Am.ev ((List.range n).map (twoV x v x .undef)) (.const z) = u from hz, hb, plain]
theorem kk_mod (k : Nat) : (k : Int).tmod 3 = ((k % 3 : Nat) : Int) := by
 rw [Int.tmod_eq_emod_of_nonneg (Int.natCast_nonneg _)]; rfl
theorem kop_val {mtF jc kc : Nat} (hA : Agree P c) (htx : TextOk P C.mt mtF) (hkk : C.kk < 4611686018427387904) (hi : C.i < C.m) (hc : markNum C.mt kc C.kk (C.vals jc)) (h : kop c mtF n C.s jc kc e o = some e') (hE : KE C e s) (hn : ∀ i, n ≤ i → s i = undef) (hg : globOk w) (hin : KIn C w) :
  o.guard = none ∧ ∃ d v, o.dst = some d ∧ d < n ∧ e' = (d, v) :: e ∧ ((∃ x, (execOp (evs s) o).run P w = .ok (.value x) w ∧ KR C v x) ∨ (v = .tx ∧ (execOp (evs s) o).run P w = .ok (.enter mtF #[.int .i64 (C.kk : Int)]) w)) := by
 unfold kop at h
 split at h
 rotate_left
 ·cases h
 rename_i d hgd hdst
 split at h
 rotate_left
 ·cases h
 rename_i hdn
 split at h
 rotate_left
 ·cases h
 rename_i v hv
 injection h with h
 refine ⟨hgd, d, v, hdst, hdn, h.symm, ?_⟩
 clear h
 unfold kval at hv
 have nw : ∀ {x : Nat} {kv : KV}, kget e x = kv → KR C kv (s x) := fun h => h ▸ hE _
 split at hv
 · -- move
  rename_i x ho
  injection hv with hv
  exact .inl ⟨s x, by simp [execOp, ho, evs], nw hv⟩
 ·rename_i x ho
  injection hv with hv
  exact .inl ⟨s x, by simp [execOp, ho, evs], nw hv⟩
 · -- indexAddr
  rename_i t x y ho
  split at hv
  ·rename_i i hx hy ht
   split at hv
   ·rename_i el hd
    split at hv
    ·rename_i j hj
     split at hv
     ·rename_i hs
      injection hv with hv
      obtain ⟨ti, ai⟩ := hA _ _ ht
      obtain ⟨tj, aj⟩ := hA _ _ hj
      have ex : s x = _ := nw hx
      have ey : s y = _ := nw hy
      refine .inl ⟨.pointer (some ⟨C.bk, C.o + C.i * C.s, none⟩), ?_, by rw [← hv]; rfl⟩
      simp [execOp, ho, evs, ex, ey, Instr.indexAt, asIntOf, run_underlying (ai.slice _ hd), hi, sizeOf, typeInfo, aj.info, aj.size, add_none, hs]
     ·cases hv
    ·cases hv
   ·cases hv
  ·cases hv
 · -- fieldAddr
  rename_i t x f ho
  split at hv
  ·rename_i j i hx ht
   split at hv
   ·rename_i fs hd
    split at hv
    ·rename_i off ft hf
     split at hv
     ·rename_i i' hi'
      split at hv
      ·cases hv
      ·rename_i hz
       injection hv with hv
       obtain ⟨ti, ai⟩ := hA _ _ ht
       obtain ⟨tj, aj⟩ := hA _ _ hi'
       obtain ⟨fields, hfs, hmap, _⟩ := ai.struct fs hd
       have hfld : ∃ fl, fields[f]? = some fl ∧ fl.offset = off ∧ fl.type = ft := by
        rw [← hmap, List.getElem?_map, Array.getElem?_toList] at hf
        cases hq : fields[f]? with
        | none => rw [hq] at hf; cases hf
        | some fl => rw [hq] at hf; simp only [Option.map_some, sj_, Prod.mk.injEq] at hf; exact ⟨fl, rfl, hf.1, hf.2⟩
       obtain ⟨fl, hfl, rfl, rfl⟩ := hfld
       have ex : s x = _ := nw hx
       refine .inl ⟨.pointer (some ⟨C.bk, C.o + C.i * C.s + (j + fl.offset), none⟩), ?_, by rw [← hv]; rfl⟩
       simp [execOp, ho, evs, ex, Instr.fieldAt, run_underlying hfs, hfl, Instr.sureAddr, fieldPlace, sizeOf, typeInfo, aj.info, aj.size, hz, add_none, Nat.add_assoc]
     ·cases hv
    ·cases hv
   ·cases hv
  ·cases hv
 · -- load
  rename_i t x ho
  split at hv
  ·rename_i j i hx ht
   split at hv
   ·rename_i hcc
    injection hv with hv
    obtain ⟨ti, ai⟩ := hA _ _ ht
    obtain ⟨dd, hdd, n1, n2⟩ := ai.agg hcc.2.1
    have ex : s x = _ := nw hx
    have hcell := hin.2 j hcc.2.2
    refine .inl ⟨C.vals j, ?_, by rw [← hv]; rfl⟩
    have : (loadVar t ⟨C.bk, C.o + C.i * C.s + j, none⟩).run P w = .ok (C.vals j) w := by
     simp only [loadVar, isAgg, Sem.run_bind, run_underlying hdd, Result.andThen_ok]
     cases dd with
     | struct fs => exact absurd rfl (n1 fs)
     | array n e => exact absurd rfl (n2 n e)
     | _ => simp [hcell]
    simp [execOp, ho, evs, ex, Instr.loadAt, Instr.sureAddr, this]
   ·cases hv
  ·cases hv
 · -- call
  rename_i f args ts ho
  split at hv
  ·rename_i x hargs
   split at hv
   ·rename_i hx
    split at hv
    ·rename_i hf
     injection hv with hv
     subst hf
     have ex : s x = _ := nw hx
     refine .inr ⟨hv.symm, ?_⟩
     rw [call_enter htx.1 ho, arr1 hargs]
     simp [evs, ex]
    ·cases hv
   ·cases hv
  ·cases hv
 · -- binOp, a number
  rename_i op t x z t' ho
  split at hv
  ·rename_i i ht
   split at hv
   ·rename_i hd
    split at hv
    ·rename_i hx
     injection hv with hv
     have ex : s x = _ := nw hx
     have hlt : x < n := hE.lt hn (fun h => by rw [hx] at h; cases h)
     obtain ⟨y, h1, Γ, h2⟩ := scal_bin (v := .int .i64 (C.kk : Int)) (u := .int .i64 1) (r := .int .i64 ((C.kk + 1 : Nat) : Int)) hA hg hn ho ht hlt (by rw [ex]; exact .int _ _) (.inr ⟨_, rfl, rfl⟩) (by simp [binV, intOp, cmpInt, arith]; exact wrap_small (n := C.kk + 1) (by omega))
     rw [h2.int_inv] at h1
     exact .inl ⟨_, h1, by rw [← hv]; rfl⟩
    ·rename_i hx
     injection hv with hv
     have ex : s x = _ := nw hx
     have hlt : x < n := hE.lt hn (fun h => by rw [hx] at h; cases h)
     obtain ⟨y, h1, Γ, h2⟩ := scal_bin (v := .int .i64 (C.kk : Int)) (u := .int .i64 3) (r := .int .i64 ((C.kk % 3 : Nat) : Int)) hA hg hn ho ht hlt (by rw [ex]; exact .int _ _) (.inr ⟨_, rfl, rfl⟩) (by simp only [binV, intOp]; simp [kk_mod])
     rw [h2.int_inv] at h1
     exact .inl ⟨_, h1, by rw [← hv]; rfl⟩
    ·rename_i hx
     injection hv with hv
     have ex : s x = _ := nw hx
     have hlt : x < n := hE.lt hn (fun h => by rw [hx] at h; cases h)
     obtain ⟨y, h1, Γ, h2⟩ := scal_bin (v := .int .i64 ((C.kk % 3 : Nat) : Int)) (u := .int .i64 0) (r := .bool (((C.kk % 3 : Nat) : Int) == 0)) hA hg hn ho ht hlt (by rw [ex]; exact .int _ _) (.inr ⟨_, rfl, rfl⟩) (by simp [binV, intOp, cmpInt])
     rw [h2.bool_inv] at h1
     refine .inl ⟨_, h1, ?_⟩
     rw [← hv]
     show Value.bool _ = Value.bool _
     congr 1
     rw [Bool.eq_iff_iff, beq_iff_eq, beq_iff_eq]
     omega
    ·rename_i hx
     injection hv with hv
     have ex : s x = _ := nw hx
     have hlt : x < n := hE.lt hn (fun h => by rw [hx] at h; cases h)
     obtain ⟨y, h1, Γ, h2⟩ := scal_bin (v := .int .i64 (C.kk : Int)) (u := .int .i64 0) (r := .bool (decide ((C.kk : Int) < 0))) hA hg hn ho ht hlt (by rw [ex]; exact .int _ _) (.inr ⟨_, rfl, rfl⟩) (by simp [binV, intOp, cmpInt])
     rw [h2.bool_inv] at h1
     refine .inl ⟨_, h1, ?_⟩
     rw [← hv]
     have : decide ((C.kk : Int) < 0) = false := decide_eq_false (by omega)
     rw [this]
     rfl
    ·cases hv
   ·cases hv
  ·cases hv
 · -- neq
  rename_i t x y t' ho
  split at hv
  ·rename_i i j ht hx
   split at hv
   ·rename_i hj
    subst hj
    have ex : s x = _ := nw hx
    split at hv
    ·rename_i hd hy
     injection hv with hv
     obtain ⟨b, hb1, hb2⟩ := hc.1 rfl
     have hlt : x < n := Classical.byContradiction fun hge => by
      have := hn x (Nat.le_of_not_lt hge)
      rw [ex, hb1] at this; cases this
     have hly : y < n := hE.lt hn (fun h => by rw [hy] at h; obtain ⟨_, h, _⟩ := h; cases h)
     have hne : y ≠ x := fun e => by subst e; rw [hx] at hy; cases hy
     have hyr : Rd w (fun _ => False) (.str (C.mt C.kk)) (s y) := (nw hy).rd (fun j => by simp)
     obtain ⟨z, h1, Γ, h2⟩ := scal_bin (v := .str (C.mt C.kk)) (u := .str (C.mt C.kk)) (r := .bool false) hA hg hn ho ht hlt (by rw [ex, hb1]; exact .str _ b hb2) (.inl ⟨y, rfl, hly, hne, hyr⟩) (by simp [binV, strOp])
     rw [h2.bool_inv] at h1
     exact .inl ⟨_, h1, by rw [← hv]; rfl⟩
    ·rename_i hd hy
     injection hv with hv
     have hb1 : C.vals j = _ := hc.2.1 rfl
     have hlt : x < n := Classical.byContradiction fun hge => by
      have := hn x (Nat.le_of_not_lt hge)
      rw [ex, hb1] at this; cases this
     have hly : y < n := hE.lt hn (fun h => by rw [hy] at h; cases h)
     have hne : y ≠ x := fun e => by subst e; rw [hx] at hy; cases hy
     have hyr : Rd w (fun _ => False) (.int .i64 (C.kk : Int)) (s y) := (nw hy).rd (fun j => by simp)
     obtain ⟨z, h1, Γ, h2⟩ := scal_bin (v := .int .i64 (C.kk : Int)) (u := .int .i64 (C.kk : Int)) (r := .bool false) hA hg hn ho ht hlt (by rw [ex, hb1]; exact .int _ _) (.inl ⟨y, rfl, hly, hne, hyr⟩) (by simp [binV, intOp, cmpInt])
     rw [h2.bool_inv] at h1
     exact .inl ⟨_, h1, by rw [← hv]; rfl⟩
    ·rename_i hd hy
     injection hv with hv
     have hb1 : C.vals j = _ := hc.2.2 rfl
     have hlt : x < n := Classical.byContradiction fun hge => by
      have := hn x (Nat.le_of_not_lt hge)
      rw [ex, hb1] at this; cases this
     have hly : y < n := hE.lt hn (fun h => by rw [hy] at h; cases h)
     have hne : y ≠ x := fun e => by subst e; rw [hx] at hy; cases hy
     have hyr : Rd w (fun _ => False) (.bool (C.kk % 3 == 0)) (s y) := (nw hy).rd (fun j => by simp)
     obtain ⟨z, h1, Γ, h2⟩ := scal_bin (v := .bool (C.kk % 3 == 0)) (u := .bool (C.kk % 3 == 0)) (r := .bool false) hA hg hn ho ht hlt (by rw [ex, hb1]; exact .bool _) (.inl ⟨y, rfl, hly, hne, hyr⟩) (by simp [binV, hd])
     rw [h2.bool_inv] at h1
     exact .inl ⟨_, h1, by rw [← hv]; rfl⟩
    ·cases hv
   ·cases hv
  ·cases hv
 ·cases hv
theorem kop_one {mtF jc kc : Nat} (hA : Agree P c) (htx : TextOk P C.mt mtF) (hkk : C.kk < 4611686018427387904) (hi : C.i < C.m) (hc : markNum C.mt kc C.kk (C.vals jc)) (h : kop c mtF n C.s jc kc e o = some e') (hE : KE C e s) (hn : ∀ i, n ≤ i → s i = undef) (hg : globOk w) (hin : KIn C w) :
  ∃ d v, o.dst = some d ∧ d < n ∧ e' = (d, v) :: e ∧ O1 P n o s w (fun s' w' => ∃ x, s' = upd s d x ∧ KR C v x ∧ Kept w w') := by
 obtain ⟨hgd, d, v, hd, hdn, he, hor⟩ := kop_val hA htx hkk hi hc h hE hn hg hin
 refine ⟨d, v, hd, hdn, he, ?_⟩
 rcases hor with ⟨x, h1, h2⟩ | ⟨rfl, h1⟩
 ·exact O1.value hgd hd hdn h1 ⟨x, rfl, h2, Kept.refl w⟩
 ·refine O1.call hgd hd hdn h1 ((htx.2 C.kk w hkk hg).mono (fun en w' h => ?_))
  obtain ⟨b, rfl, h2, h3⟩ := h
  exact ⟨_, rfl, _, rfl, ⟨b, rfl, h2⟩, h3⟩
theorem undef_upd (hn : ∀ i, n ≤ i → s i = undef) {d : Nat} (hd : d < n) (x : Value) : ∀ i, n ≤ i → upd s d x i = undef := fun i hi => by rw [upd_ne (by omega)]; exact hn i hi
def kops (c : Cfg) (mtF n s jc kc : Nat) : List Oper → List (Nat × KV) → List (Nat × KV) × List Oper
 | [], e => (e, [])
 | o :: os, e => match kop c mtF n s jc kc e o with
  | some e' => kops c mtF n s jc kc os e'
  | none => (e, o :: os)
theorem kops_ok {mtF jc kc : Nat} (hA : Agree P c) (htx : TextOk P C.mt mtF) (hkk : C.kk < 4611686018427387904) (hi : C.i < C.m) (hc : markNum C.mt kc C.kk (C.vals jc)) : ∀ (l : List Oper) (e : List (Nat × KV)) (s : Nat → Value) (w : World), KE C e s → (∀ i, n ≤ i → s i = undef) → globOk w → KIn C w →
  ∀ K, (∀ s' w', KE C (kops c mtF n C.s jc kc l e).1 s' → (∀ i, n ≤ i → s' i = undef) → Kept w w' → R P n ops (kops c mtF n C.s jc kc l e).2 s' w' K) → R P n ops l s w K := by
 intro l
 induction l with
 | nil => intro e s w hE hn hg hin K hK; exact hK s w hE hn (Kept.refl w)
 | cons o l ih =>
  intro e s w hE hn hg hin K hK
  cases hk : kop c mtF n C.s jc kc e o with
  | none => simp only [kops, hk] at hK; exact hK s w hE hn (Kept.refl w)
  | some e' =>
   simp only [kops, hk] at hK
   obtain ⟨d, v, hd, hdn, rfl, h1⟩ := kop_one hA htx hkk hi hc hk hE hn hg hin
   refine R.one (h1.mono (fun s' w' h => ?_))
   obtain ⟨x, rfl, hx, hkp⟩ := h
   exact ih _ _ w' (hE.put hx) (undef_upd hn hdn x) (hkp.glob' hg) (hin.kept hkp) K (fun s' w'' a b d => hK s' w'' a b (hkp.tr d))
theorem kop_congr {mtF s jc kc : Nat} {e e2 e' : List (Nat × KV)} (hx : ∀ x, .tmp x ∈ o.op.operands.toList → kget e2 x = kget e x) (h : kop c mtF n s jc kc e o = some e') : ∃ d v, o.dst = some d ∧ d < n ∧ e' = (d, v) :: e ∧ kop c mtF n s jc kc e2 o = some ((d, v) :: e2) := by
 unfold kop at h ⊢
 split at h
 rotate_left
 ·cases h
 rename_i d hgd hdst
 split at h
 rotate_left
 ·cases h
 rename_i hdn
 rw [if_pos hdn]
 split at h
 rotate_left
 ·cases h
 rename_i v hv
 injection h with h
 exact ⟨d, v, hdst, hdn, h.symm, by rw [kval_congr hx, hv]⟩
def dstsOf (l : List Oper) : List Nat := l.filterMap (·.dst)
def kdrawOk (ops : Array Oper) : Bool :=
 decide ((dstsOf ops.toList ++ [0, 1, 5]).Nodup) && (List.range ops.size).all fun j => match ops[j]? with
  | some o => o.after.toList.all (fun e => decide (e.on < j)) && o.op.operands.toList.all fun
   | .tmp x => !(dstsOf ops.toList).contains x || o.after.toList.any fun e => Region.binds .any e && (match ops[e.on]? with
    | some o' => o'.dst == some x
    | none => false)
   | _ => true
  | none => true
theorem kops_all {mtF s jc kc : Nat} {e1 : List (Nat × KV)} : ∀ (l : List Oper) (e : List (Nat × KV)), kops c mtF n s jc kc l e = (e1, []) → (dstsOf l).Nodup → (∀ t, t ∉ dstsOf l → kget e1 t = kget e t) ∧
  ∀ j o, l[j]? = some o → ∃ ej d v, kop c mtF n s jc kc ej o = some ((d, v) :: ej) ∧ o.dst = some d ∧ kget e1 d = v ∧ ∀ t, t ∉ dstsOf (l.drop j) → kget ej t = kget e1 t := by
 intro l
 induction l with
 | nil =>
  intro e h _
  simp only [kops, Prod.mk.injEq, and_true] at h
  subst h
  exact ⟨fun _ _ => rfl, fun j o h => by simp at h⟩
 | cons o l ih =>
  intro e h hnd
  simp only [kops] at h
  cases hk : kop c mtF n s jc kc e o with
  | none => rw [hk] at h; simp at h
  | some e' =>
   rw [hk] at h
   obtain ⟨d, v, hd, hdn, rfl, _⟩ := kop_congr (e2 := e) (fun _ _ => rfl) hk
   have hds : dstsOf (o :: l) = d :: dstsOf l := by simp [dstsOf, hd]
   rw [hds] at hnd ⊢
   obtain ⟨n1, n2⟩ := List.nodup_cons.1 hnd
   obtain ⟨i1, i2⟩ := ih _ h n2
   refine ⟨fun t ht => ?_, fun j o' hj => ?_⟩
   ·rw [List.mem_cons, not_or] at ht
    rw [i1 t ht.2, kget, if_neg (fun e => ht.1 e.symm)]
   ·cases j with
    | zero =>
     simp only [List.getElem?_cons_zero, sj_] at hj
     subst hj
     refine ⟨e, d, v, hk, hd, by rw [i1 d n1, kget, if_pos rfl], fun t ht => ?_⟩
     rw [List.drop_zero, hds, List.mem_cons, not_or] at ht
     rw [i1 t ht.2, kget, if_neg (fun e => ht.1 e.symm)]
    | succ j => exact i2 j o' (by simpa using hj)
theorem kdraw_ok {mtF jc kc : Nat} {e0 e1 : List (Nat × KV)} (hm : P.follows .mixedOrders = true) (hA : Agree P c) (htx : TextOk P C.mt mtF) (hkk : C.kk < 4611686018427387904) (hi : C.i < C.m) (hc : markNum C.mt kc C.kk (C.vals jc)) (hk : kops c mtF n C.s jc kc ops.toList e0 = (e1, []))
  (hok : kdrawOk ops = true) (hE : KE C e0 s) (hn : ∀ i, n ≤ i → s i = undef) (hg : globOk w) (hin : KIn C w) {id : Nat} {J : Exit → (Nat → Value) → World → Prop} (hJ : ∀ s' w', KE C e1 s' → (∀ i, n ≤ i → s' i = undef) → Kept w w' → J .normal s' w') : W P n (.region id ops true) s w J := by
 unfold kdrawOk at hok
 rw [Bool.and_eq_true, decide_eq_true_eq, List.all_eq_true] at hok
 obtain ⟨hnd, hall⟩ := hok
 have hnd1 := (List.nodup_append.1 hnd).1
 obtain ⟨a1, a2⟩ := kops_all _ _ hk hnd1
 have hops : ∀ (j : Nat) (o : Oper), ops[j]? = some o → ops.toList[j]? = some o := fun j o h => by simpa using h
 have hinj : ∀ (i j : Nat) (x y : Oper) (d : Nat), ops[i]? = some x → ops[j]? = some y → x.dst = some d → y.dst = some d → i = j := fun i j x y d h1 h2 h3 h4 => nodup_filterMap_inj hnd1 i j x y d (hops i x h1) (hops j y h2) h3 h4
 have hmem : ∀ (j : Nat) (o : Oper) (d : Nat), ops[j]? = some o → o.dst = some d → d ∈ dstsOf ops.toList := fun j o d h1 h2 => List.mem_filterMap.2 ⟨o, List.mem_of_getElem? (hops j o h1), h2⟩
 have hat : ∀ (j : Nat) (o : Oper), ops[j]? = some o → (∀ e ∈ o.after.toList, e.on < j) ∧ ∀ x, .tmp x ∈ o.op.operands.toList → x ∉ dstsOf ops.toList ∨ ∃ e ∈ o.after.toList, Region.binds .any e = true ∧ ∃ o', ops[e.on]? = some o' ∧ o'.dst = some x := by
  intro j o ho
  have h := hall j (List.mem_range.2 (Array.getElem?_eq_some_iff.1 ho).1)
  rw [ho] at h
  simp only [Bool.and_eq_true, List.all_eq_true, decide_eq_true_eq] at h
  refine ⟨h.1, fun x hx => ?_⟩
  have h2 := h.2 _ hx
  simp only [Bool.or_eq_true, Bool.not_eq_true', List.any_eq_true, Bool.and_eq_true] at h2
  rcases h2 with h2 | ⟨e, he, hb, h2⟩
  ·exact .inl (fun hm => by rw [List.contains_iff_mem.2 hm] at h2; cases h2)
  ·refine .inr ⟨e, he, hb, ?_⟩
   split at h2
   ·rename_i o' ho'
    exact ⟨o', ho', by simpa using h2⟩
   ·cases h2
 refine W.drawn hm (fun listed s' w' => listed.size = ops.size ∧ (∀ i, n ≤ i → s' i = undef) ∧ globOk w' ∧ KIn C w' ∧ Kept w w' ∧ (∀ t, t ∉ dstsOf ops.toList → KR C (kget e0 t) (s' t)) ∧ ∀ (j : Nat) (o : Oper) (t : Nat), ops[j]? = some o → o.dst = some t → listed.getD j false = true → KR C (kget e1 t) (s' t)) (fun j o ho => (hat j o ho).1) ?_ ?_ ?_
 ·intro listed s' w' i o hI ho hli hsz hedges
  obtain ⟨i0, i1, i2, i3, i4, i5, i6⟩ := hI
  obtain ⟨ej, d, v, k1, k2, k3, k4⟩ := a2 i o (hops i o ho)
  have hilt := (Array.getElem?_eq_some_iff.1 ho).1
  -- what the operands are
  have hopd : ∀ x, .tmp x ∈ o.op.operands.toList → kget ej x = kget e1 x ∧ KR C (kget e1 x) (s' x) := by
   intro x hx
   rcases (hat i o ho).2 x hx with hno | ⟨e, he, hb, o', ho', hd'⟩
   ·have hno2 : x ∉ dstsOf (ops.toList.drop i) := fun hm => by
     obtain ⟨y, hy, hyd⟩ := List.mem_filterMap.1 hm
     exact hno (List.mem_filterMap.2 ⟨y, List.mem_of_mem_drop hy, hyd⟩)
    refine ⟨k4 x hno2, ?_⟩
    rw [a1 x hno]
    exact i5 x hno
   ·have hlt := (hat i o ho).1 e he
    have hno2 : x ∉ dstsOf (ops.toList.drop i) := fun hm => by
     obtain ⟨y, hy, hyd⟩ := List.mem_filterMap.1 hm
     obtain ⟨q, hq⟩ := List.getElem?_of_mem hy
     rw [List.getElem?_drop] at hq
     have := hinj e.on (i + q) o' y x ho' (by simpa using hq) hd' hyd
     omega
    exact ⟨k4 x hno2, i6 e.on o' x ho' hd' (hedges e he hb)⟩
  let e2 : List (Nat × KV) := o.op.operands.toList.filterMap fun | .tmp x => some (x, kget e1 x) | _ => none
  have hget : ∀ (l : List Operand) (t : Nat), kget (l.filterMap fun | .tmp x => some (x, kget e1 x) | _ => none) t = .un ∨ (.tmp t ∈ l ∧ kget (l.filterMap fun | .tmp x => some (x, kget e1 x) | _ => none) t = kget e1 t) := by
   intro l t
   induction l with
   | nil => exact .inl rfl
   | cons y l ih =>
    cases y with
    | tmp x =>
     simp only [List.filterMap_cons, kget]
     by_cases e : x = t
     ·subst e; rw [if_pos rfl]; exact .inr ⟨by simp, rfl⟩
     ·rw [if_neg e]
      exact ih.imp (fun h => h) (fun h => ⟨by simp [h.1], h.2⟩)
    | _ => exact ih.imp (fun h => h) (fun h => ⟨by simp [h.1], h.2⟩)
  have hget2 : ∀ (l : List Operand) (t : Nat), .tmp t ∈ l → kget (l.filterMap fun | .tmp x => some (x, kget e1 x) | _ => none) t = kget e1 t := by
   intro l t
   induction l with
   | nil => intro h; cases h
   | cons y l ih =>
    intro h
    cases y with
    | tmp x =>
     simp only [List.filterMap_cons, kget]
     by_cases e : x = t
     ·subst e; rw [if_pos rfl]
     ·rw [if_neg e]
      refine ih ((List.mem_cons.1 h).resolve_left (fun h => ?_))
      injection h with h
      exact e h.symm
    | _ => exact ih ((List.mem_cons.1 h).resolve_left (by simp))
  have hE2 : KE C e2 s' := fun t => by
   rcases hget o.op.operands.toList t with h | ⟨h1, h2⟩
   ·rw [show kget e2 t = .un from h]; exact trivial
   ·rw [show kget e2 t = kget e1 t from h2]; exact (hopd t h1).2
  obtain ⟨d', v', q1, q2, q3, q4⟩ := kop_congr (e2 := e2) (fun x hx => (hget2 _ x hx).trans (hopd x hx).1.symm) k1
  rw [k2] at q1
  injection q1 with q1
  subst q1
  injection q3 with q3 _
  injection q3 with _ q3
  subst q3
  obtain ⟨d', v', r1, r2, r3, r4⟩ := kop_one (P := P) hA htx hkk hi hc q4 hE2 i1 i2 i3
  rw [k2] at r1
  injection r1 with r1
  subst r1
  injection r3 with r3 _
  injection r3 with _ r3
  subst r3
  refine r4.mono (fun s2 w2 h => ?_)
  obtain ⟨x, rfl, hx, hkp⟩ := h
  refine ⟨by simpa using i0, undef_upd i1 r2 x, hkp.glob' i2, i3.kept hkp, i4.tr hkp, fun t ht => ?_, fun j o' t hj hd' hl => ?_⟩
  ·rw [upd_ne (fun e : t = d => ht (by rw [e]; exact hmem i o d ho k2))]
   exact i5 t ht
  ·by_cases e : j = i
   ·subst e
    rw [ho] at hj
    injection hj with hj
    subst hj
    rw [k2] at hd'
    injection hd' with hd'
    subst hd'
    rw [upd_same, k3]
    exact hx
   ·rw [upd_ne (fun e2 : t = d => e (hinj j i o' o d hj ho (by rw [← e2]; exact hd') k2))]
    rw [getD_set_ne false (Ne.symm e)] at hl
    exact i6 j o' t hj hd' hl
 ·intro listed s' w' hl hI
  obtain ⟨i0, i1, i2, i3, i4, i5, i6⟩ := hI
  refine hJ s' w' (fun t => ?_) i1 i4
  by_cases ht : t ∈ dstsOf ops.toList
  ·obtain ⟨o, ho, hd⟩ := List.mem_filterMap.1 ht
   obtain ⟨j, hj⟩ := List.getElem?_of_mem ho
   have hj' : ops[j]? = some o := by simpa using hj
   have hjl := (Array.getElem?_eq_some_iff.1 hj').1
   have h1 := hl j hjl
   have h2 : listed.getD j false = true := by
    have : j < listed.size := by omega
    simpa [this] using h1
   exact i6 j o t hj' hd h2
  ·rw [a1 t ht]; exact i5 t ht
 ·refine ⟨by simp, hn, ?_, ?_, ?_, fun t _ => hE t, fun j o t hj _ hl => ?_⟩
  ·exact hg
  ·exact hin
  ·exact ⟨rfl, rfl, rfl, Nat.le_refl _, fun _ _ => rfl⟩
  ·have hjl := (Array.getElem?_eq_some_iff.1 hj).1
   simp [hjl] at hl
end
end Go.Am
end
