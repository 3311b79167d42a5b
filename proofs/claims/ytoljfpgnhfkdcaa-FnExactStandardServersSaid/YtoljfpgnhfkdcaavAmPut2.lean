/-
  Structs that hold a slice, as they are read; and what a function answers that puts a row into one of them.
-/
import Derived.Test.YtoljfpgnhfkdcaavTy
import Derived.Below
import Derived.Lib.Join
import Derived.Lib.ItoaNum
import Derived.Lib.Bytealg
import Derived.Lib.Strings
import Derived.Sort.Grow
import Derived.Deep.Draws
import Derived.Test.YtoljfpgnhfkdcaavAmDraw
import Derived.Deep.AppendLies
section
set_option linter.unusedVariables false
set_option linter.unusedSimpArgs false
namespace Go.Am
open Go Go.RowKit
section
variable {P : Program} {c : Cfg}
def Kept (w w' : World) : Prop := w'.os = w.os ∧ w'.tape = w.tape ∧ w'.output = w.output ∧ w.heap.size ≤ w'.heap.size ∧ ∀ k, k < w.heap.size → w'.heap[k]? = w.heap[k]?
theorem Kept.refl (w : World) : Kept w w := ⟨rfl, rfl, rfl, Nat.le_refl _, fun _ _ => rfl⟩
theorem answer_plain {R : Nat → Prop} {w w' : World} {r : V} {x : Value} (hk : Kept w w') (hr : Rd w' (fun _ => False) r x) : Answer R w r x w' :=
 ⟨hk.1, hk.2.1, hk.2.2.1, hk.2.2.2.1, hk.2.2.2.2, { w0 := w', F := fun k => w.heap.size ≤ k, S := fun _ => False, has := fun _ => False, blk := fun _ => 0, off := fun _ => 0, cap := fun _ => 0, sz := fun _ => 0, ln := fun _ => 0, lb := fun _ => False, box := fun _ => 0, R := fun _ => False, Z := fun _ => False, N := fun _ _ => False, U := True },
  .rd _ _ hr, fun _ h => h, fun _ h => h.elim, fun _ h => h.elim, fun _ _ h => h.elim, fun _ h => h.elim, fun _ h => h.elim, trivial, fun _ h => h.elim, fun _ _ h => h.elim⟩
def ExtOk (P : Program) (f : Nat) (e : List V → Option V) : Prop := ∀ args r, e args = some r →
 (∃ fn, P.funcs[f]? = some fn ∧ fn.body.isNone = false ∧ (fn.name == "runtime.NumGoroutine") = false) ∧
 ∀ (R : Nat → Prop) (w : World) (vals : Array Value), globOk w → (∀ k, R k → k < w.heap.size) → args.length = vals.size → (∀ (i : Nat) (c : V) (v : Value), args[i]? = some c → vals[i]? = some v → Rd w R c v) →
  Calls P f vals w fun
   | .returned x, w' => Answer R w r x w'
   | _, _ => False
def extL : List (Nat × (List V → Option V)) → Nat → List V → Option V
 | [], _, _ => none
 | (g, e) :: r, f, args => if f = g then e args else extL r f args
theorem ext_nil : Answers P (extL []) := fun f args r h => by cases h
theorem ext_cons {g : Nat} {e : List V → Option V} {l : List (Nat × (List V → Option V))} (he : ExtOk P g e) (hl : Answers P (extL l)) : Answers P (extL ((g, e) :: l)) := by
 intro f args r h
 rw [extL] at h
 split at h
 ·rename_i hfg; subst hfg; exact he args r h
 ·exact hl f args r h
theorem ext_okW {ext : Nat → List V → Option V} {f : Nat} {e : List V → Option V} {sh : List (Bool × List CK)} {G : (β : Type) → argsT sh → (V → Option β) → Option β} (hE : ∀ args, ext f args = e args)
  (h : ∀ β (x : argsT sh) (k : V → Option β) r, G β x k = some r → ∃ v, e (argsEnc sh x) = some v ∧ k v = some r) : FnOk (den P c ext) f (wrap sh G) := by
 intro β args k r hr
 unfold wrap at hr
 split at hr
 ·rename_i x hx
  obtain ⟨v, h1, h2⟩ := h β x k r hr
  exact ⟨v, den_ext (by rw [hE, ← args_enc hx]; exact h1), h2⟩
 ·cases hr
theorem rd_str {w : World} {S : Nat → Prop} {s : List UInt8} {x : Value} (h : Rd w S (.str s) x) : ∃ y : ByteArray, x = .string y ∧ y.data.toList = s := by
 cases h with
 | str _ y hy => exact ⟨y, rfl, hy⟩
theorem rd_int {w : World} {S : Nat → Prop} {k : IntKind} {n : Int} {x : Value} (h : Rd w S (.int k n) x) : x = .int k n := by
 cases h; rfl
end
end Go.Am
end
section
set_option linter.unusedVariables false
set_option linter.unusedSimpArgs false
namespace Go.Am
open Go Go.RowKit Go.Sort
section
variable {P : Program} {c : Cfg}
theorem Kept.grow (w : World) (k : Nat) (os : Array Obj) : Kept w (grow (w.drewN k) os) := by
 refine ⟨rfl, rfl, rfl, ?_, fun g h => ?_⟩
 ·simp [Go.Sort.grow, World.drewN]
 ·simp [Go.Sort.grow, World.drewN, Array.getElem?_append, h]
end
end Go.Am
end
section
set_option linter.unusedVariables false
set_option linter.unusedSimpArgs false
namespace Go.Am
open Go Go.RowKit
structure Ag (n : Nat) (s : Nat → Value) (a : Act) : Prop where
  dz : a.defers = []
  sz : a.tmps.size = n
  at_ : ∀ i, a.tmps.getD i undef = s i
def upd (s : Nat → Value) (d : Nat) (x : Value) : Nat → Value := fun i => if i = d then x else s i
theorem upd_same {s : Nat → Value} {d : Nat} {x : Value} : upd s d x d = x := if_pos rfl
theorem upd_ne {s : Nat → Value} {d i : Nat} {x : Value} (h : i ≠ d) : upd s d x i = s i := if_neg h
def evs (s : Nat → Value) : Operand → Value
 | .tmp t => s t
 | .const v => v
 | .global g => .pointer (some ⟨g, 0, none⟩)
 | .func f => .func (.func f) #[] #[]
section
variable {P : Program} {n d : Nat} {s : Nat → Value} {a : Act} {w w' : World} {x : Value}
theorem Ag.eval (h : Ag n s a) : a.eval = evs s := by
 funext x
 cases x with
 | tmp t => exact h.at_ t
 | _ => rfl
theorem Ag.put (h : Ag n s a) (hd : d < n) : Ag n (upd s d x) (a.put (some d) x) := by
 refine ⟨h.dz, by simp [Act.put, h.sz], fun i => ?_⟩
 simp only [Act.put, Array.getD_eq_getD_getElem?, Array.getElem?_setIfInBounds]
 by_cases hi : i = d
 ·subst hi
  rw [upd_same, if_pos rfl, if_pos (by rw [h.sz]; exact hd)]
  rfl
 ·rw [upd_ne hi, if_neg (fun e => hi e.symm), ← Array.getD_eq_getD_getElem?]
  exact h.at_ i
theorem Ag.enter (args : Array Value) (m : Nat) : Ag (args.size + m) (fun i => args.getD i undef) { tmps := args ++ Array.replicate m undef, defers := [] } := by
 refine ⟨rfl, by simp, fun i => ?_⟩
 simp only [Array.getD_eq_getD_getElem?]
 rcases Nat.lt_or_ge i args.size with h | h
 ·rw [Array.getElem?_append_left h]
 ·rw [Array.getElem?_append_right h, Array.getElem?_eq_none h, Array.getElem?_replicate]
  split <;> rfl
def R (P : Program) (n : Nat) (ops : Array Oper) (l : List Oper) (s : Nat → Value) (w : World) (K : (Nat → Value) → World → Prop) : Prop :=
 ∀ (Q : Exit → Act → World → Prop), (∀ s' a' w', Ag n s' a' → K s' w' → Q .normal a' w') → ∀ a, Ag n s a → wpList P ops Q l a w
def W (P : Program) (n : Nat) (c : Code) (s : Nat → Value) (w : World) (K : Exit → (Nat → Value) → World → Prop) : Prop :=
 ∀ (Q : Exit → Act → World → Prop), (∀ e s' a' w', Ag n s' a' → K e s' w' → Q e a' w') → ∀ a, Ag n s a → c.wp P Q a w
variable {ops : Array Oper} {l : List Oper} {o : Oper} {K K' : (Nat → Value) → World → Prop} {c c1 c2 : Code} {J J' : Exit → (Nat → Value) → World → Prop}
theorem R.mono (h : R P n ops l s w K) (hk : ∀ s' w', K s' w' → K' s' w') : R P n ops l s w K' := fun Q hQ a ha => h Q (fun s' a' w' h1 h2 => hQ s' a' w' h1 (hk s' w' h2)) a ha
theorem W.mono (h : W P n c s w J) (hk : ∀ e s' w', J e s' w' → J' e s' w') : W P n c s w J' := fun Q hQ a ha => h Q (fun e s' a' w' h1 h2 => hQ e s' a' w' h1 (hk e s' w' h2)) a ha
theorem R.nil (h : K s w) : R P n ops [] s w K := fun Q hQ a ha => wpList_nil (hQ s a w ha h)
theorem R.step (hg : o.guard = none) (h : ∀ (a : Act) (Q : Exit → Act → World → Prop) (N : Act → World → Prop), (∀ s' a' w', Ag n s' a' → R P n ops l s' w' K → N a' w') → Ag n s a → o.wp P a w N Q) : R P n ops (o :: l) s w K := by
 intro Q hQ a ha
 refine wpList_step fun N hN => ?_
 rw [if_pos (by simp [Region.wanted, hg])]
 exact h a Q N (fun s' a' w' h1 h2 => hN _ _ (h2 Q hQ a' h1)) ha
theorem R.value (hg : o.guard = none) (hd : o.dst = some d) (hn : d < n) (he : (execOp (evs s) o).run P w = .ok (.value x) w') (h : R P n ops l (upd s d x) w' K) : R P n ops (o :: l) s w K := by
 refine R.step hg fun a Q N hN ha => ?_
 unfold Oper.wp
 rw [ha.eval, he, Oper.upon_value, hd]
 exact hN _ _ _ (ha.put hn) h
theorem R.skip (hg : o.guard = none) (hd : o.dst = none) (he : (execOp (evs s) o).run P w = .ok .skip w') (h : R P n ops l s w' K) : R P n ops (o :: l) s w K := by
 refine R.step hg fun a Q N hN ha => ?_
 unfold Oper.wp
 rw [ha.eval, he, Oper.upon_skip, hd]
 exact hN _ a _ ha h
theorem R.call {f : FuncId} {args : Array Value} (hg : o.guard = none) (hd : o.dst = some d) (hn : d < n) (he : (execOp (evs s) o).run P w = .ok (.enter f args) w)
  (hc : Calls P f args w fun e w' => ∃ x, e = .returned x ∧ R P n ops l (upd s d x) w' K) : R P n ops (o :: l) s w K := by
 refine R.step hg fun a Q N hN ha => ?_
 unfold Oper.wp
 rw [ha.eval, he, Oper.upon_enter]
 refine Calls.mono hc fun e w' h => ?_
 obtain ⟨x, rfl, h⟩ := h
 show N (a.put o.dst x) w'
 rw [hd]
 exact hN _ _ _ (ha.put hn) h
def Known (P : Program) (f : Nat) : Prop := ∃ fn, P.funcs[f]? = some fn ∧ fn.body.isNone = false ∧ (fn.name == "runtime.NumGoroutine") = false
theorem call_enter {f : Nat} {args : Array Operand} {ts : Array TypeId} (hk : Known P f) (ho : o.op = .call ⟨.value (.func f), args, ts⟩) : (execOp (evs s) o).run P w = .ok (.enter f (args.map (evs s))) w := by
 obtain ⟨fn, h1, h2, h3⟩ := hk
 have h3 : ¬ fn.name = "runtime.NumGoroutine" := by simpa using h3
 simp [execOp, ho, resolve, Deferred.ofValue, invoke, callFunc, evs, h1, h2, h3]
 intro hb
 simp [hb] at h2
def O1 (P : Program) (n : Nat) (o : Oper) (s : Nat → Value) (w : World) (K : (Nat → Value) → World → Prop) : Prop :=
 o.guard = none ∧ ∀ (a : Act) (Q : Exit → Act → World → Prop) (N : Act → World → Prop), (∀ s' a' w', Ag n s' a' → K s' w' → N a' w') → Ag n s a → o.wp P a w N Q
theorem O1.mono (h : O1 P n o s w K) (hk : ∀ s' w', K s' w' → K' s' w') : O1 P n o s w K' := ⟨h.1, fun a Q N hN ha => h.2 a Q N (fun s' a' w' h1 h2 => hN s' a' w' h1 (hk s' w' h2)) ha⟩
theorem R.one (h : O1 P n o s w (fun s' w' => R P n ops l s' w' K)) : R P n ops (o :: l) s w K := R.step h.1 h.2
theorem O1.value (hg : o.guard = none) (hd : o.dst = some d) (hn : d < n) (he : (execOp (evs s) o).run P w = .ok (.value x) w') (h : K (upd s d x) w') : O1 P n o s w K := by
 refine ⟨hg, fun a Q N hN ha => ?_⟩
 unfold Oper.wp
 rw [ha.eval, he, Oper.upon_value, hd]
 exact hN _ _ _ (ha.put hn) h
theorem O1.skip (hg : o.guard = none) (hd : o.dst = none) (he : (execOp (evs s) o).run P w = .ok .skip w') (h : K s w') : O1 P n o s w K := by
 refine ⟨hg, fun a Q N hN ha => ?_⟩
 unfold Oper.wp
 rw [ha.eval, he, Oper.upon_skip, hd]
 exact hN _ a _ ha h
theorem O1.call {f : FuncId} {args : Array Value} (hg : o.guard = none) (hd : o.dst = some d) (hn : d < n) (he : (execOp (evs s) o).run P w = .ok (.enter f args) w)
  (hc : Calls P f args w fun e w' => ∃ x, e = .returned x ∧ K (upd s d x) w') : O1 P n o s w K := by
 refine ⟨hg, fun a Q N hN ha => ?_⟩
 unfold Oper.wp
 rw [ha.eval, he, Oper.upon_enter]
 refine Calls.mono hc fun e w' h => ?_
 obtain ⟨x, rfl, h⟩ := h
 show N (a.put o.dst x) w'
 rw [hd]
 exact hN _ _ _ (ha.put hn) h
theorem any_gen (I : Array Bool → (Nat → Value) → World → Prop) {J0 : (Nat → Value) → World → Prop} (hback : ∀ (j : Nat) (o : Oper), ops[j]? = some o → ∀ e ∈ o.after.toList, e.on < j)
  (step : ∀ (listed : Array Bool) (s : Nat → Value) (w : World) (i : Nat) (o : Oper), I listed s w → ops[i]? = some o → listed.getD i true = false → listed.size = ops.size → (∀ e ∈ o.after.toList, Region.binds .any e = true → listed.getD e.on false = true) → O1 P n o s w (fun s' w' => I (listed.setIfInBounds i true) s' w'))
  (fin : ∀ (listed : Array Bool) (s : Nat → Value) (w : World), (∀ j, j < ops.size → listed.getD j true = true) → I listed s w → J0 s w) :
  ∀ (fuel : Nat) (listed : Array Bool) (s : Nat → Value) (w : World), I listed s w → listed.size = ops.size → (pend ops listed).length ≤ fuel → ∀ (Q : Exit → Act → World → Prop), (∀ s' a' w', Ag n s' a' → J0 s' w' → Q .normal a' w') → ∀ a, Ag n s a → wpAny P .any ops Q fuel listed a w := by
 have agree : ∀ (listed : Array Bool), listed.size = ops.size → ∀ j, j < ops.size → ∀ b, listed.getD j true = b → listed.getD j false = b := by
  intro listed hz j hj b h
  have : j < listed.size := by omega
  simpa [this] using h
 have hdone : ∀ (listed : Array Bool), listed.size = ops.size → Region.ready .any ops listed = [] → pend ops listed = [] := by
  intro listed hz hr
  cases hp : pend ops listed with
  | nil => rfl
  | cons j rest =>
   exfalso
   have hj := mem_pend.1 (show j ∈ pend ops listed by rw [hp]; simp)
   have hsome : ops[j]? = some ops[j] := by simp [hj.1]
   have : j ∈ Region.ready .any ops listed := by
    refine mem_ready.2 ⟨hj.2, ops[j], hsome, fun e he _ => ?_⟩
    have hlt := hback j _ hsome e (by simpa using he)
    have hlt2 : e.on < ops.size := by omega
    cases hb : listed.getD e.on true with
    | true => exact agree listed hz e.on hlt2 true hb
    | false =>
     exfalso
     have hm : e.on ∈ pend ops listed := mem_pend.2 ⟨hlt2, hb⟩
     have hs := pend_sorted (ops := ops) listed
     rw [hp] at hm hs
     rcases List.mem_cons.1 hm with h | h
     ·omega
     ·have := (List.pairwise_cons.1 hs).1 _ h
      omega
   rw [hr] at this
   cases this
 have hall : ∀ (listed : Array Bool), pend ops listed = [] → ∀ j, j < ops.size → listed.getD j true = true := by
  intro listed hp j hj
  cases hb : listed.getD j true with
  | true => rfl
  | false =>
   have := mem_pend.2 ⟨hj, hb⟩
   rw [hp] at this
   cases this
 intro fuel
 induction fuel with
 | zero =>
  intro listed s w hI hz hlen Q hQ a ha
  have hp : pend ops listed = [] := List.eq_nil_of_length_eq_zero (by omega)
  refine ⟨?_, hQ s a w ha (fin listed s w (hall listed hp) hI)⟩
  cases hr : Region.ready .any ops listed with
  | nil => rfl
  | cons i rest =>
   exfalso
   obtain ⟨h0, o, ho, _⟩ := mem_ready.1 (show i ∈ Region.ready .any ops listed by rw [hr]; simp)
   have : i ∈ pend ops listed := mem_pend.2 ⟨(Array.getElem?_eq_some_iff.1 ho).1, h0⟩
   rw [hp] at this
   cases this
 | succ fuel ih =>
  intro listed s w hI hz hlen Q hQ a ha
  refine ⟨fun hr => hQ s a w ha (fin listed s w (hall listed (hdone listed hz hr)) hI), fun i hi => ?_⟩
  obtain ⟨h0, o, ho, hedges⟩ := mem_ready.1 hi
  have hilt := (Array.getElem?_eq_some_iff.1 ho).1
  have hlen2 : (pend ops (listed.setIfInBounds i true)).length ≤ fuel := by
   have him : i ∈ pend ops listed := mem_pend.2 ⟨hilt, h0⟩
   obtain ⟨pre, suf, hsplit⟩ := List.append_of_mem him
   have hnd := pend_nodup (ops := ops) listed
   have hset : pend ops (listed.setIfInBounds i true) = pre ++ suf := by
    rw [pend_set, hsplit, filter_split (by rw [← hsplit]; exact hnd)]
   have : (pend ops listed).length = (pre ++ suf).length + 1 := by rw [hsplit]; simp; omega
   rw [hset]
   omega
  obtain ⟨g1, g2⟩ := step listed s w i o hI ho h0 hz (fun e he hb => hedges e (by simpa using he) hb)
  unfold wpOp
  rw [ho]
  simp only
  rw [if_pos (by simp [Region.wanted, g1])]
  exact .inl (g2 a Q _ (fun s' a' w' h1 h2 => ih _ s' w' h2 (by simpa using hz) hlen2 Q hQ a' h1) ha)
theorem W.drawn {i : Nat} (hm : P.follows .mixedOrders = true) (I : Array Bool → (Nat → Value) → World → Prop) (hback : ∀ (j : Nat) (o : Oper), ops[j]? = some o → ∀ e ∈ o.after.toList, e.on < j)
  (step : ∀ (listed : Array Bool) (s : Nat → Value) (w : World) (i : Nat) (o : Oper), I listed s w → ops[i]? = some o → listed.getD i true = false → listed.size = ops.size → (∀ e ∈ o.after.toList, Region.binds .any e = true → listed.getD e.on false = true) → O1 P n o s w (fun s' w' => I (listed.setIfInBounds i true) s' w'))
  (fin : ∀ (listed : Array Bool) (s : Nat → Value) (w : World), (∀ j, j < ops.size → listed.getD j true = true) → I listed s w → J .normal s w) (h0 : I (Array.replicate ops.size false) s { w with drawn := w.drawn + 1 }) : W P n (.region i ops true) s w J := by
 intro Q hQ a ha
 refine wp_region_any hm ?_
 exact any_gen I hback step fin ops.size _ s _ h0 (by simp) (by rw [pend_start]; simp) Q (fun s' a' w' h1 h2 => hQ _ _ _ _ h1 h2) a ha
theorem W.skip (h : J .normal s w) : W P n .skip s w J := fun Q hQ a ha => wp_skip (hQ _ _ _ _ ha h)
theorem W.exit {i : Nat} (h : J (.exit i) s w) : W P n (.exit i) s w J := fun Q hQ a ha => wp_exit (hQ _ _ _ _ ha h)
theorem W.ret (h : J .ret s w) : W P n .ret s w J := fun Q hQ a ha => wp_ret (hQ _ _ _ _ ha h)
theorem W.region {i : Nat} (h : R P n ops ops.toList s w (J .normal)) : W P n (.region i ops false) s w J := fun Q hQ a ha => wp_region_list (h Q (fun s' a' w' h1 h2 => hQ _ _ _ _ h1 h2) a ha)
def thenW (P : Program) (n : Nat) (c : Code) (J : Exit → (Nat → Value) → World → Prop) : Exit → (Nat → Value) → World → Prop
 | .normal, s, w => W P n c s w J
 | e, s, w => J e s w
theorem W.seq (h : W P n c1 s w (thenW P n c2 J)) : W P n (.seq c1 c2) s w J := by
 intro Q hQ a ha
 refine wp_seq (h _ (fun e s' a' w' h1 h2 => ?_) a ha)
 cases e with
 | normal => exact h2 Q hQ a' h1
 | _ => exact hQ _ _ _ _ h1 h2
theorem W.cond {y : Operand} {b : Bool} (hb : evs s y = .bool b) (h : W P n (if b then c1 else c2) s w J) : W P n (.cond y c1 c2) s w J := fun Q hQ a ha => wp_cond (by rw [ha.eval]; exact hb) (h Q hQ a ha)
def outW (i : Nat) (J : Exit → (Nat → Value) → World → Prop) : Exit → (Nat → Value) → World → Prop
 | .exit j, s, w => if j = i then J .normal s w else J (.exit j) s w
 | e, s, w => J e s w
theorem W.block {i : Nat} (h : W P n c s w (outW i J)) : W P n (.block i c) s w J := by
 intro Q hQ a ha
 refine wp_block (h _ (fun e s' a' w' h1 h2 => ?_) a ha)
 cases e with
 | exit j =>
  show (if j = i then _ else _)
  simp only [outW] at h2
  split
  ·rename_i e; rw [if_pos e] at h2; exact hQ _ _ _ _ h1 h2
  ·rename_i e; rw [if_neg e] at h2; exact hQ _ _ _ _ h1 h2
 | _ => exact hQ _ _ _ _ h1 h2
open Classical in
theorem W.loop (I : Nat → (Nat → Value) → World → Prop) {m : Nat} (h0 : I m s w) (round : ∀ m s w, I m s w → W P n c s w (fun e s' w' => match e with
   | .normal => ∃ m', m' < m ∧ I m' s' w'
   | e => J e s' w')) : W P n (.loop c) s w J := by
 intro Q hQ a ha
 have least : ∀ (p : Nat → Prop), (∃ m, p m) → ∃ m, p m ∧ ∀ k, p k → m ≤ k := by
  intro p ⟨m, hm⟩
  induction m using Nat.strongRecOn with
  | _ m ih =>
   by_cases h : ∃ k, k < m ∧ p k
   ·obtain ⟨k, hk, hp⟩ := h
    exact ih k hk hp
   ·exact ⟨m, hm, fun k hk => Nat.le_of_not_lt fun hlt => h ⟨k, hlt, hk⟩⟩
 let p : Act → World → Nat → Prop := fun a w m => ∃ s, Ag n s a ∧ I m s w
 refine wp_loop (fun a w => ∃ m, p a w m) (fun a w => if h : ∃ m, p a w m then (least _ h).choose else 0) ⟨m, s, ha, h0⟩ (fun a w h => ?_)
 obtain ⟨⟨s1, h1, h2⟩, h3⟩ := (least _ h).choose_spec
 refine round _ s1 w h2 _ (fun e s' a' w' g1 g2 => ?_) a h1
 cases e with
 | normal =>
  obtain ⟨m', hlt, hI⟩ := g2
  have hex : ∃ m, p a' w' m := ⟨m', s', g1, hI⟩
  refine ⟨hex, ?_⟩
  show (if h : ∃ m, p a' w' m then (least _ h).choose else 0) < (if h : ∃ m, p a w m then (least _ h).choose else 0)
  rw [dif_pos hex, dif_pos h]
  exact Nat.lt_of_le_of_lt ((least _ hex).choose_spec.2 m' ⟨s', g1, hI⟩) hlt
 | _ => exact hQ _ _ _ _ g1 g2
theorem calls_W {f : Nat} {fn : Func} {args : Array Value} {r : Nat} {B : Ending → World → Prop} (hf : P.funcs[f]? = some fn) (hb : fn.body = some c) (hr : fn.results = #[.tmp r]) (hn : args.size ≤ fn.ntmps)
  (h : W P fn.ntmps c (fun i => args.getD i undef) w (fun e s' w' => match e with
   | .ret => B (.returned (s' r)) w'
   | .normal => B (.returned (s' r)) w'
   | _ => False)) : Calls P f args w B := by
 refine calls_of_wp hf hb ?_
 have ha := Ag.enter args (fn.ntmps - args.size)
 rw [Nat.add_sub_cancel' hn] at ha
 have hres : ∀ (s' : Nat → Value) (a' : Act) (w' : World), Ag fn.ntmps s' a' → (results fn a'.tmps).run P w' = .ok (s' r) w' := by
  intro s' a' w' h
  simp only [results, hr]
  simp [h.at_]
 refine h _ (fun e s' a' w' h1 h2 => ?_) _ ha
 cases e with
 | ret => exact ⟨h1.dz, _, hres s' a' w' h1, h2⟩
 | normal => exact ⟨h1.dz, _, hres s' a' w' h1, h2⟩
 | _ => exact h2.elim
def flatC : Code → List Code
 | .seq a b => flatC a ++ flatC b
 | c => [c]
def WL (P : Program) (n : Nat) : List Code → (Nat → Value) → World → (Exit → (Nat → Value) → World → Prop) → Prop
 | [], s, w, J => J .normal s w
 | c :: cs, s, w, J => W P n c s w (fun e s' w' => match e with
  | .normal => WL P n cs s' w' J
  | e => J e s' w')
theorem WL.mono : ∀ {cs : List Code} {s : Nat → Value} {w : World} {J J' : Exit → (Nat → Value) → World → Prop}, WL P n cs s w J → (∀ e s' w', J e s' w' → J' e s' w') → WL P n cs s w J' := by
 intro cs
 induction cs with
 | nil => intro s w J J' h hk; exact hk _ _ _ h
 | cons c cs ih =>
  intro s w J J' h hk
  refine W.mono h (fun e s' w' h => ?_)
  cases e with
  | normal => exact ih h hk
  | _ => exact hk _ _ _ h
theorem WL.flat : ∀ (c : Code) (rest : List Code) (s : Nat → Value) (w : World) (J : Exit → (Nat → Value) → World → Prop), WL P n (flatC c ++ rest) s w J → WL P n (c :: rest) s w J := by
 intro c
 induction c with
 | seq a b iha ihb =>
  intro rest s w J h
  rw [flatC, List.append_assoc] at h
  have h := iha _ _ _ _ h
  refine W.seq (W.mono h (fun e s' w' h => ?_))
  cases e with
  | normal => exact ihb rest s' w' J h
  | _ => exact h
 | _ => intro rest s w J h; exact h
theorem WL.code (h : WL P n (flatC c) s w J) : W P n c s w J := by
 have := WL.flat c [] s w J (by rw [List.append_nil]; exact h)
 refine W.mono this (fun e s' w' h => ?_)
 cases e with
 | normal => exact h
 | _ => exact h
end
end Go.Am
end
section
set_option linter.unusedVariables false
set_option linter.unusedSimpArgs false
namespace Go.Am
open Go Go.RowKit
structure Mod (X : Nat → Prop) (w w' : World) : Prop where
  os : w'.os = w.os
  tape : w'.tape = w.tape
  output : w'.output = w.output
  size : w.heap.size ≤ w'.heap.size
  old : ∀ k, k < w.heap.size → ¬ X k → w'.heap[k]? = w.heap[k]?
theorem Mod.refl {X : Nat → Prop} (w : World) : Mod X w w := ⟨rfl, rfl, rfl, Nat.le_refl _, fun _ _ _ => rfl⟩
theorem Mod.trans {X : Nat → Prop} {w w1 w2 : World} (h : Mod X w w1) (h' : Mod X w1 w2) : Mod X w w2 :=
 ⟨h'.os.trans h.os, h'.tape.trans h.tape, h'.output.trans h.output, Nat.le_trans h.size h'.size, fun k hk hx => (h'.old k (Nat.lt_of_lt_of_le hk h.size) hx).trans (h.old k hk hx)⟩
theorem Mod.of_kept {X : Nat → Prop} {w w' : World} (h : Kept w w') : Mod X w w' := ⟨h.1, h.2.1, h.2.2.1, h.2.2.2.1, fun k hk _ => h.2.2.2.2 k hk⟩
theorem Mod.mono {X Y : Nat → Prop} {w w' : World} (h : Mod X w w') (hx : ∀ k, X k → Y k) : Mod Y w w' := ⟨h.os, h.tape, h.output, h.size, fun k hk hy => h.old k hk (fun e => hy (hx k e))⟩
theorem Mod.glob {X : Nat → Prop} {w w' : World} (h : Mod X w w') (hx : ∀ k, X k → globN ≤ k) (hg : globOk w) : globOk w' :=
 ⟨globStable _ _ hg.1 (fun k hk => h.old k (Nat.lt_of_lt_of_le hk hg.2) (fun e => absurd (hx k e) (Nat.not_le.2 hk))), Nat.le_trans hg.2 h.size⟩
theorem Kept.glob' {w w' : World} (h : Kept w w') (hg : globOk w) : globOk w' := Mod.glob (X := fun _ => False) (Mod.of_kept h) (fun _ h => h.elim) hg
theorem Kept.tr {w w1 w2 : World} (h : Kept w w1) (h' : Kept w1 w2) : Kept w w2 :=
 ⟨h'.1.trans h.1, h'.2.1.trans h.2.1, h'.2.2.1.trans h.2.2.1, Nat.le_trans h.2.2.2.1 h'.2.2.2.1, fun k hk => (h'.2.2.2.2 k (Nat.lt_of_lt_of_le hk h.2.2.2.1)).trans (h.2.2.2.2 k hk)⟩
theorem Kept.al (w : World) (o : Obj) : Kept w (w.alloc o) := ⟨rfl, rfl, rfl, by rw [size_alloc]; omega, fun k hk => heap_alloc_lt w o hk⟩
theorem hsc_same (w : World) (g j : Nat) (v : Value) {cur : Array Value} {ty : TypeId} (h : w.heap[g]? = some (.cells cur ty (0, 0))) : (w.setCell ⟨g, j, none⟩ v).heap[g]? = some (.cells (cur.setIfInBounds j v) ty (0, 0)) := by
 simp [World.setCell, Array.getElem?_modify, h]
theorem hsc_other (w : World) (g j k : Nat) (v : Value) (h : k ≠ g) : (w.setCell ⟨g, j, none⟩ v).heap[k]? = w.heap[k]? := by
 simp [World.setCell, Array.getElem?_modify, Ne.symm h]
theorem Mod.setCell {X : Nat → Prop} {w w' : World} (h : Mod X w w') {g j : Nat} {v : Value} (hg : X g) : Mod X w (w'.setCell ⟨g, j, none⟩ v) :=
 ⟨h.os, h.tape, h.output, by rw [World.size_setCell]; exact h.size, fun k hk hx => (hsc_other w' g j k v (fun e => hx (e ▸ hg))).trans (h.old k hk hx)⟩
structure Stored (w w' : World) (g : Nat) (cur : Array Value) (ty : TypeId) : Prop where
  mod : Mod (fun k => k = g) w w'
  at_ : w'.heap[g]? = some (.cells cur ty (0, 0))
theorem Stored.other {w w' : World} {g : Nat} {cur : Array Value} {ty : TypeId} (h : Stored w w' g cur ty) {k : Nat} (hk : k < w.heap.size) (hne : k ≠ g) : w'.heap[k]? = w.heap[k]? := h.mod.old k hk hne
theorem seg_one {cur : Array Value} {o : Nat} {x : Value} (h : o < cur.size) : (cur.toList.take o ++ [x] ++ cur.toList.drop (o + 1)).toArray = cur.setIfInBounds o x := by
 apply Array.ext_getElem?
 intro j
 have := seg_get cur.toList [x] o j (by simp; omega)
 simp only [List.length_singleton] at this
 rw [List.getElem?_toArray, this, Array.getElem?_setIfInBounds]
 by_cases e : o = j
 ·subst e
  rw [if_pos ⟨Nat.le_refl _, Nat.lt_succ_self _⟩, if_pos rfl, if_pos h]
  simp
 ·rw [if_neg (by omega), if_neg e]
  simp
theorem run_storeOne (P : Program) (w : World) (g o : Nat) (t ty : TypeId) (ti : TypeInfo) (cur : Array Value) (x : Value) (hg : w.heap[g]? = some (.cells cur t (0, 0))) (hi : P.info? ty = some ti) (h1 : ti.size = 1) (hx : x.cells = #[x]) (ho : x.oneCell' = true) (hfit : o < cur.size) :
  ∃ w', (Instr.storeAt ty (.pointer (some ⟨g, o, none⟩)) x).run P w = .ok () w' ∧ Stored w w' g (cur.setIfInBounds o x) t := by
 have hr := run_storeVar_at P w g o t ty ti cur x hg hi (by rw [hx, h1]; rfl) (by rw [hx]; exact hfit) (by rw [hx]; intro v hv; simp at hv; subst hv; exact ho)
 refine ⟨_, hr, ⟨rfl, rfl, rfl, by rw [setRow_size]; exact Nat.le_refl _, fun k _ hk => setRow_other w g k _ hk⟩, ?_⟩
 have e : (cur.toList.take o ++ x.cells.toList ++ cur.toList.drop (o + x.cells.size)).toArray = cur.setIfInBounds o x := by rw [hx]; exact seg_one hfit
 rw [e]
 exact setRow_heap w g cur _ t _ hg
theorem blk_lt {W : World} {g : Nat} {ob : Obj} (h : W.heap[g]? = some ob) : g < W.heap.size := (Array.getElem?_eq_some_iff.1 h).1
inductive Kd where
  | str
  | int
  | bool
  | sl (ks : List Kd)
def Kd.leaf : Kd → Bool
 | .sl _ => false
 | _ => true
def leafIs : Kd → Value → Prop
 | .str, x => ∃ b : ByteArray, x = .string b
 | .int, x => ∃ n : Int, x = .int .i64 n
 | .bool, x => ∃ b : Bool, x = .bool b
 | .sl _, _ => False
def markIs (mt : Nat → List UInt8) : Kd → Nat → Value → Prop
 | .str, k, x => ∃ b : ByteArray, x = .string b ∧ b.data.toList = mt k
 | .int, k, x => x = .int .i64 (k : Int)
 | .bool, k, x => x = .bool (k % 3 == 0)
 | .sl _, _, _ => False
theorem markIs.leaf {mt : Nat → List UInt8} {kd : Kd} {k : Nat} {x : Value} (h : markIs mt kd k x) : leafIs kd x := by
 cases kd with
 | str => obtain ⟨b, h, _⟩ := h; exact ⟨b, h⟩
 | int => exact ⟨_, h⟩
 | bool => exact ⟨_, h⟩
 | sl ks => exact h.elim
def sumN (N : Nat → Nat) : Nat → Nat
 | 0 => 0
 | p + 1 => sumN N p + N p
theorem sumN_le {N : Nat → Nat} {p q : Nat} (h : p ≤ q) : sumN N p ≤ sumN N q := by
  induction q with
  | zero => obtain rfl : p = 0 := by omega
            exact Nat.le_refl _
  | succ q ih =>
    by_cases e : p = q + 1
    · subst e; exact Nat.le_refl _
    · exact Nat.le_trans (ih (by omega)) (Nat.le_add_right _ _)
inductive MT (mt : Nat → List UInt8) (mk : Bool) (w : World) : Kd → Value → Nat → Nat → (Nat → Prop) → Prop
  | leaf (kd : Kd) (x : Value) (k0 : Nat) (T : Nat → Prop) (h : leafIs kd x) (hm : mk = true → markIs mt kd k0 x) : MT mt mk w kd x k0 1 T
  | nil (ks : List Kd) (a : Option Addr) (cap k0 : Nat) (T : Nat → Prop) : MT mt mk w (.sl ks) (.slice a 0 cap) k0 0 T
  | sl (ks : List Kd) (k o m cap k0 : Nat) (cur : Array Value) (ty : TypeId) (N : Nat → Nat) (Ts : Nat → Nat → Prop) (T : Nat → Prop) (h0 : 0 < m) (hm : m ≤ 1152921504606846976) (hb : w.heap[k]? = some (.cells cur ty (0, 0))) (hsz : o + m * ks.length ≤ cur.size)
      (hc : ∀ (p : Nat) (kd : Kd) (v : Value), p < m * ks.length → ks[p % ks.length]? = some kd → cur[o + p]? = some v → MT mt mk w kd v (k0 + sumN N p) (N p) (Ts p))
      (hd : ∀ p p' x, Ts p x → Ts p' x → p = p') (hk : ∀ p, ¬ Ts p k) (hTk : T k) (hT : ∀ p x, Ts p x → T x) : MT mt mk w (.sl ks) (.slice (some ⟨k, o, none⟩) m cap) k0 (sumN N (m * ks.length)) T
section
variable {mt : Nat → List UInt8} {mk : Bool} {w w' : World} {kd : Kd} {x : Value} {k0 n : Nat} {T T' : Nat → Prop}
theorem MT.mono (h : MT mt mk w kd x k0 n T) (hw : ∀ b, T b → w'.heap[b]? = w.heap[b]?) : MT mt mk w' kd x k0 n T := by
 induction h with
 | leaf kd x k0 T h hm => exact .leaf kd x k0 T h hm
 | nil ks a cap k0 T => exact .nil ks a cap k0 T
 | sl ks k o m cap k0 cur ty N Ts T h0 hm hb hsz hc hd hk hTk hT ih => exact .sl ks k o m cap k0 cur ty N Ts T h0 hm ((hw k hTk).trans hb) hsz (fun p kd v hp h1 h2 => ih p kd v hp h1 h2 (fun b hb => hw b (hT p b hb))) hd hk hTk hT
theorem MT.weaken (h : MT mt mk w kd x k0 n T) (hT : ∀ b, T b → T' b) : MT mt mk w kd x k0 n T' := by
 cases h with
 | leaf _ _ _ _ h hm => exact .leaf kd x k0 T' h hm
 | nil ks a cap _ _ => exact .nil ks a cap k0 T'
 | sl ks k o m cap _ cur ty N Ts _ h0 hm hb hsz hc hd hk hTk hT' => exact .sl ks k o m cap k0 cur ty N Ts T' h0 hm hb hsz hc hd hk (hT k hTk) (fun p x hx => hT x (hT' p x hx))
theorem MT.start (h : MT mt false w kd x k0 n T) : ∀ k1, MT mt false w kd x k1 n T := by
 induction h with
 | leaf kd x k0 T h hm => exact fun k1 => .leaf kd x k1 T h (fun e => by cases e)
 | nil ks a cap k0 T => exact fun k1 => .nil ks a cap k1 T
 | sl ks k o m cap k0 cur ty N Ts T h0 hm hb hsz hc hd hk hTk hT ih => exact fun k1 => .sl ks k o m cap k1 cur ty N Ts T h0 hm hb hsz (fun p kd v hp h1 h2 => ih p kd v hp h1 h2 _) hd hk hTk hT
theorem MT.one (h : MT mt mk w kd x k0 n T) (hl : kd.leaf = true) : n = 1 ∧ leafIs kd x ∧ (mk = true → markIs mt kd k0 x) := by
 cases h with
 | leaf _ _ _ _ h hm => exact ⟨rfl, h, hm⟩
 | nil => cases hl
 | sl => cases hl
structure SlInv (mt : Nat → List UInt8) (w0 w : World) (ks : List Kd) (bk o m : Nat) (cur : Array Value) (ty : TypeId) (N : Nat → Nat) (Ts : Nat → Nat → Prop) (k0 p : Nat) : Prop where
  hb : w.heap[bk]? = some (.cells cur ty (0, 0))
  hsz : o + m * ks.length ≤ cur.size
  done : ∀ (q : Nat) (kd : Kd) (v : Value), q < p → q < m * ks.length → ks[q % ks.length]? = some kd → cur[o + q]? = some v → MT mt true w kd v (k0 + sumN N q) (N q) (Ts q)
  todo : ∀ (q : Nat) (kd : Kd) (v : Value), p ≤ q → q < m * ks.length → ks[q % ks.length]? = some kd → cur[o + q]? = some v → MT mt false w kd v 0 (N q) (Ts q)
  mod : Mod (fun x => x = bk ∨ ∃ q, Ts q x) w0 w
  hd : ∀ p p' x, Ts p x → Ts p' x → p = p'
  hk : ∀ p, ¬ Ts p bk
  lt : ∀ p x, Ts p x → x < w.heap.size
variable {w0 : World} {ks : List Kd} {bk o m p : Nat} {cur : Array Value} {ty : TypeId} {N : Nat → Nat} {Ts : Nat → Nat → Prop} {v : Value}
theorem SlInv.kept (h : SlInv mt w0 w ks bk o m cur ty N Ts k0 p) (hk : Kept w w') : SlInv mt w0 w' ks bk o m cur ty N Ts k0 p := by
 have hold : ∀ q b, Ts q b → w'.heap[b]? = w.heap[b]? := fun q b hq => hk.2.2.2.2 b (h.lt q b hq)
 exact ⟨(hk.2.2.2.2 bk (blk_lt h.hb)).trans h.hb, h.hsz, fun q kd v h1 h2 h3 h4 => (h.done q kd v h1 h2 h3 h4).mono (hold q), fun q kd v h1 h2 h3 h4 => (h.todo q kd v h1 h2 h3 h4).mono (hold q), h.mod.trans (Mod.of_kept hk), h.hd, h.hk, fun q x hx => Nat.lt_of_lt_of_le (h.lt q x hx) hk.2.2.2.1⟩
theorem SlInv.leaf (h : SlInv mt w0 w ks bk o m cur ty N Ts k0 p) (hp : p < m * ks.length) (hkd : ks[p % ks.length]? = some kd) (hl : kd.leaf = true) (hv : markIs mt kd (k0 + sumN N p) v) (hst : Stored w w' bk (cur.setIfInBounds (o + p) v) ty) :
  N p = 1 ∧ SlInv mt w0 w' ks bk o m (cur.setIfInBounds (o + p) v) ty N Ts k0 (p + 1) := by
 have hlt : o + p < cur.size := by have := h.hsz; omega
 obtain ⟨u, hu⟩ : ∃ u, cur[o + p]? = some u := ⟨_, Array.getElem?_eq_getElem hlt⟩
 have h1 := ((h.todo p kd u (Nat.le_refl _) hp hkd hu).one hl).1
 have hold : ∀ q b, Ts q b → w'.heap[b]? = w.heap[b]? := fun q b hq => hst.other (h.lt q b hq) (fun e => h.hk q (e ▸ hq))
 refine ⟨h1, hst.at_, by rw [Array.size_setIfInBounds]; exact h.hsz, fun q kd' v' g1 g2 g3 g4 => ?_, fun q kd' v' g1 g2 g3 g4 => ?_, h.mod.trans (hst.mod.mono (fun k e => .inl e)), h.hd, h.hk, fun q x hx => Nat.lt_of_lt_of_le (h.lt q x hx) hst.mod.size⟩
 ·by_cases e : q = p
  ·subst e
   rw [hkd] at g3
   injection g3 with g3
   subst g3
   rw [Array.getElem?_setIfInBounds_self_of_lt hlt] at g4
   injection g4 with g4
   subst g4
   rw [h1]
   exact .leaf kd v _ _ hv.leaf (fun _ => hv)
  ·rw [Array.getElem?_setIfInBounds_ne (by omega)] at g4
   exact (h.done q kd' v' (by omega) g2 g3 g4).mono (hold q)
 ·rw [Array.getElem?_setIfInBounds_ne (by omega)] at g4
  exact (h.todo q kd' v' (by omega) g2 g3 g4).mono (hold q)
theorem SlInv.sub (h : SlInv mt w0 w ks bk o m cur ty N Ts k0 p) (hp : p < m * ks.length) (hkd : ks[p % ks.length]? = some kd) (hv : cur[o + p]? = some v) (hm : Mod (Ts p) w w') (ht : MT mt true w' kd v (k0 + sumN N p) (N p) (Ts p)) :
  SlInv mt w0 w' ks bk o m cur ty N Ts k0 (p + 1) := by
 have hold : ∀ q, q ≠ p → ∀ b, Ts q b → w'.heap[b]? = w.heap[b]? := fun q hq b hb => hm.old b (h.lt q b hb) (fun e => hq (h.hd q p b hb e))
 refine ⟨(hm.old bk (blk_lt h.hb) (h.hk p)).trans h.hb, h.hsz, fun q kd' v' g1 g2 g3 g4 => ?_, fun q kd' v' g1 g2 g3 g4 => ?_, h.mod.trans (hm.mono (fun k hk => .inr ⟨p, hk⟩)), h.hd, h.hk, fun q x hx => Nat.lt_of_lt_of_le (h.lt q x hx) hm.size⟩
 ·by_cases e : q = p
  ·subst e
   rw [hkd] at g3
   injection g3 with g3
   subst g3
   rw [hv] at g4
   injection g4 with g4
   subst g4
   exact ht
  ·exact (h.done q kd' v' (by omega) g2 g3 g4).mono (hold q e)
 ·exact (h.todo q kd' v' (by omega) g2 g3 g4).mono (hold q (by omega))
end
def MarkOk (P : Program) (mt : Nat → List UInt8) (f : Nat) (kd : Kd) : Prop := Known P f ∧ ∀ (T : Nat → Prop) (x : Value) (n k0 : Nat) (w : World), globOk w → (∀ b, T b → globN ≤ b ∧ b < w.heap.size) → MT mt false w kd x 0 n T → k0 + n ≤ 1152921504606846976 →
 Calls P f #[x, .int .i64 (k0 : Int)] w fun e w' => e = .returned (.int .i64 ((k0 + n : Nat) : Int)) ∧ Mod T w w' ∧ MT mt true w' kd x k0 n T
def HeldOk (P : Program) (mt : Nat → List UInt8) (f : Nat) (kd : Kd) : Prop := Known P f ∧ ∀ (T : Nat → Prop) (x : Value) (n k0 : Nat) (w : World), globOk w → (∀ b, T b → b < w.heap.size) → MT mt true w kd x k0 n T → k0 + n ≤ 1152921504606846976 →
 Calls P f #[x, .int .i64 (k0 : Int)] w fun e w' => e = .returned (.int .i64 ((k0 + n : Nat) : Int)) ∧ Kept w w'
def TextOk (P : Program) (mt : Nat → List UInt8) (f : Nat) : Prop := Known P f ∧ ∀ (k : Nat) (w : World), k < 4611686018427387904 → globOk w →
 Calls P f #[.int .i64 (k : Int)] w fun e w' => ∃ b : ByteArray, e = .returned (.string b) ∧ b.data.toList = mt k ∧ Kept w w'
end Go.Am
end
section
set_option linter.unusedVariables false
set_option linter.unusedSimpArgs false
namespace Go.Am
open Go Go.RowKit
def CV (c : V) (v : Value) : Prop := noSl c ∧ v.oneCell' = true ∧ ∀ (w : World) (S : Nat → Prop), Rd w S c v
def FlatN (m : Nat) (fs : List V) (zs : List Value) : Prop := zs.length = fs.length * m ∧ (∀ x ∈ fs, x.cells.length = m) ∧ ∀ (i : Nat) (x : V) (j : Nat) (c : V), fs[i]? = some x → x.cells[j]? = some c → ∃ v, zs[i * m + j]? = some v ∧ CV c v
theorem cv_of {w : World} {S : Nat → Prop} {c : V} {v : Value} (h : Rd w S c v) (hn : noSl c) (h1 : v.oneCell' = true) : CV c v := by
 refine ⟨hn, h1, fun w' S' => ?_⟩
 cases h with
 | bool b => exact .bool b
 | int k n => exact .int k n
 | str s x h => exact .str s x h
 | nil => exact .nil
 | _ => exact hn.elim
theorem FlatN.nil (m : Nat) : FlatN m [] [] := ⟨by simp, by simp, by simp⟩
theorem FlatN.one {m : Nat} {fs : List V} {zs : List Value} (h : FlatN m fs zs) : ∀ u ∈ zs, u.oneCell' = true := by
 intro u hu
 obtain ⟨p, hp, rfl⟩ := List.mem_iff_getElem.1 hu
 have hm : 0 < m := by
  rcases Nat.eq_zero_or_pos m with e | e
  ·have := h.1; rw [e, Nat.mul_zero] at this; omega
  ·exact e
 have hq : p / m < fs.length := Nat.div_lt_of_lt_mul (by rw [Nat.mul_comm, ← h.1]; exact hp)
 have hr : p % m < (fs[p / m]).cells.length := by rw [h.2.1 _ (List.getElem_mem hq)]; exact Nat.mod_lt _ hm
 obtain ⟨v, hv, hc⟩ := h.2.2 _ _ _ _ (List.getElem?_eq_getElem hq) (List.getElem?_eq_getElem hr)
 rw [Nat.div_add_mod' p m, List.getElem?_eq_getElem hp] at hv
 injection hv with hv
 rw [hv]
 exact hc.2.1
theorem FlatN.push {m : Nat} {fs : List V} {zs : List Value} (h : FlatN m fs zs) {x : V} {vs : List Value} (hx : x.cells.length = m) (hl : vs.length = m) (hv : ∀ (j : Nat) (c : V), x.cells[j]? = some c → ∃ v, vs[j]? = some v ∧ CV c v) : FlatN m (fs ++ [x]) (zs ++ vs) := by
 refine ⟨by rw [List.length_append, List.length_append, h.1, hl, List.length_singleton, Nat.add_mul, Nat.one_mul], fun y hy => ?_, fun i y j c hi hj => ?_⟩
 ·rcases List.mem_append.1 hy with hy | hy
  ·exact h.2.1 y hy
  ·rw [List.mem_singleton.1 hy]; exact hx
 ·rcases Nat.lt_or_ge i fs.length with e | e
  ·rw [List.getElem?_append_left e] at hi
   obtain ⟨v, h1, h2⟩ := h.2.2 i y j c hi hj
   exact ⟨v, by rw [List.getElem?_append_left (List.getElem?_eq_some_iff.1 h1).1]; exact h1, h2⟩
  ·rw [List.getElem?_append_right e] at hi
   have e0 : i = fs.length := by
    have := (List.getElem?_eq_some_iff.1 hi).1
    simp at this; omega
   subst e0
   rw [Nat.sub_self] at hi
   injection hi with hi
   subst hi
   obtain ⟨v, h1, h2⟩ := hv j c hj
   exact ⟨v, by rw [List.getElem?_append_right (by rw [h.1]; omega), h.1, Nat.add_sub_cancel_left]; exact h1, h2⟩
theorem owns_keep {w w' : World} {base : Nat} {e : TypeId} {s : Nat} {v : Value} {n : Nat} {xs : List Value} (h : w.ownsRow base e s v n xs) (hk : ∀ k, v.ownBlock = some k → w'.heap[k]? = w.heap[k]?) : w'.ownsRow base e s v n xs := by
 obtain ⟨h1, h2 | ⟨g, cap, cur, rfl, h3, h4, h5⟩⟩ := h
 ·exact ⟨h1, .inl h2⟩
 ·exact ⟨h1, .inr ⟨g, cap, cur, rfl, h3, (hk g rfl).trans h4, h5⟩⟩
theorem owns_lt {w : World} {base : Nat} {e : TypeId} {s : Nat} {v : Value} {n : Nat} {xs : List Value} (h : w.ownsRow base e s v n xs) {k : Nat} (hk : v.ownBlock = some k) : base ≤ k ∧ k < w.heap.size := by
 obtain ⟨h1, ⟨rfl, _⟩ | ⟨g, cap, cur, rfl, h3, h4, h5⟩⟩ := h
 ·cases hk
 ·injection hk with hk
  subst hk
  exact ⟨h3, blk_lt h4⟩
theorem owns_blk {w : World} {base : Nat} {e : TypeId} {s : Nat} {v : Value} {n : Nat} {xs : List Value} (h : w.ownsRow base e s v n xs) {k : Nat} (hk : v.ownBlock = some k) : ∃ cap cur, v = .slice (some ⟨k, 0, none⟩) n cap ∧ w.heap[k]? = some (.cells cur e (0, 0)) ∧ n ≤ cap ∧ cap ≤ maxLen ∧ cur.size = cap * s ∧ cur.toList.take (n * s) = xs := by
 obtain ⟨h1, ⟨rfl, _⟩ | ⟨g, cap, cur, rfl, h3, h4, h5, h6, h7, h8⟩⟩ := h
 ·cases hk
 ·injection hk with hk
  subst hk
  exact ⟨cap, cur, rfl, h4, h5, h6, h7, h8⟩
theorem owns_cell {w : World} {base : Nat} {e : TypeId} {s : Nat} {v : Value} {n : Nat} {xs : List Value} (h : w.ownsRow base e s v n xs) {k : Nat} (hk : v.ownBlock = some k) {j : Nat} {u : Value} (hu : xs[j]? = some u) : w.cell? ⟨k, j, none⟩ = some u ∧ w.frozen? ⟨k, j, none⟩ = false := by
 obtain ⟨cap, cur, rfl, h4, h5, h6, h7, h8⟩ := owns_blk h hk
 rw [← h8, List.getElem?_take] at hu
 split at hu
 ·refine ⟨?_, by simp [World.frozen?, h4]⟩
  simp only [World.cell?, h4]
  simpa using hu
 ·cases hu
abbrev Sv := List UInt8 × List V
def innerBlk (xs : List Value) (i : Nat) : Option Nat := (xs[i * 2 + 1]?).bind Value.ownBlock
structure NS (w : World) (base : Nat) (eS eF : TypeId) (m : Nat) (v : Value) (ys : List Sv) (xs : List Value) : Prop where
  own : w.ownsRow base eS 2 v ys.length xs
  row : ∀ i h fs, ys[i]? = some (h, fs) → ∃ hb sv zs, xs[i * 2]? = some (.string hb) ∧ hb.data.toList = h ∧ xs[i * 2 + 1]? = some sv ∧ w.ownsRow base eF m sv fs.length zs ∧ FlatN m fs zs
  ne : ∀ i b, innerBlk xs i = some b → v.ownBlock ≠ some b
  ap : ∀ i j b, i ≠ j → innerBlk xs i = some b → innerBlk xs j ≠ some b
theorem NS.keep {w w' : World} {base : Nat} {eS eF : TypeId} {m : Nat} {v : Value} {ys : List Sv} {xs : List Value} (h : NS w base eS eF m v ys xs) (hk : ∀ k, base ≤ k → k < w.heap.size → (v.ownBlock = some k ∨ ∃ i, innerBlk xs i = some k) → w'.heap[k]? = w.heap[k]?) : NS w' base eS eF m v ys xs := by
 refine ⟨owns_keep h.own (fun k e => hk k (owns_lt h.own e).1 (owns_lt h.own e).2 (.inl e)), fun i hh fs hi => ?_, h.ne, h.ap⟩
 obtain ⟨hb, sv, zs, h1, h2, h3, h4, h5⟩ := h.row i hh fs hi
 exact ⟨hb, sv, zs, h1, h2, h3, owns_keep h4 (fun k e => hk k (owns_lt h4 e).1 (owns_lt h4 e).2 (.inr ⟨i, by rw [innerBlk, h3]; exact e⟩)), h5⟩
theorem NS.lt {w : World} {base : Nat} {eS eF : TypeId} {m : Nat} {v : Value} {ys : List Sv} {xs : List Value} (h : NS w base eS eF m v ys xs) {k : Nat} (hk : v.ownBlock = some k ∨ ∃ i, innerBlk xs i = some k) : base ≤ k ∧ k < w.heap.size := by
 rcases hk with hk | ⟨i, hk⟩
 ·exact owns_lt h.own hk
 ·unfold innerBlk at hk
  cases hx : xs[i * 2 + 1]? with
  | none => rw [hx] at hk; cases hk
  | some sv =>
   have hi : i < ys.length := by
    have := (List.getElem?_eq_some_iff.1 hx).1
    rw [h.own.1] at this
    omega
   obtain ⟨hb, sv', zs, h1, h2, h3, h4, h5⟩ := h.row i ys[i].1 ys[i].2 (by rw [List.getElem?_eq_getElem hi])
   rw [hx] at h3 hk
   injection h3 with h3
   subst h3
   exact owns_lt h4 hk
theorem NS.nil {w : World} {base : Nat} {eS eF : TypeId} {m : Nat} {v : Value} (h : w.ownsRow base eS 2 v 0 []) : NS w base eS eF m v [] [] :=
 ⟨h, fun i hh fs hi => by simp at hi, fun i b hi => by simp [innerBlk] at hi, fun i j b _ hi => by simp [innerBlk] at hi⟩
theorem inner_append {xs : List Value} {n : Nat} {a b : Value} (hx : xs.length = n * 2) (i : Nat) : innerBlk (xs ++ [a, b]) i = if i < n then innerBlk xs i else if i = n then b.ownBlock else none := by
 unfold innerBlk
 split
 ·rw [List.getElem?_append_left (by omega)]
 ·rw [List.getElem?_append_right (by omega)]
  split
  ·rename_i e
   subst e
   rw [show i * 2 + 1 - xs.length = 1 by omega]
   rfl
  ·rw [List.getElem?_eq_none (by simp; omega)]
   rfl
theorem NS.push {w w' : World} {base : Nat} {eS eF : TypeId} {m : Nat} {v v' : Value} {ys : List Sv} {xs : List Value} (h : NS w base eS eF m v ys xs) {hb : ByteArray} {sv : Value} {fs : List V} {zs : List Value} {hh : List UInt8} (hhb : hb.data.toList = hh)
  (hs : w.ownsRow base eF m sv fs.length zs) (hf : FlatN m fs zs) (hn : w'.ownsRow base eS 2 v' (ys.length + 1) (xs ++ [.string hb, sv])) (hg : w.grownBy w' v.ownBlock) (hv : ∀ b, v'.ownBlock = some b → v.ownBlock = some b ∨ w.heap.size ≤ b)
  (n1 : ∀ b, sv.ownBlock = some b → v.ownBlock ≠ some b ∧ ∀ i, innerBlk xs i ≠ some b) : NS w' base eS eF m v' (ys ++ [(hh, fs)]) (xs ++ [.string hb, sv]) := by
 have hxl := h.own.1
 have keep : ∀ k, k < w.heap.size → v.ownBlock ≠ some k → w'.heap[k]? = w.heap[k]? := fun k h1 h2 => hg.block k h1 (fun e => h2 e.symm)
 refine ⟨by rw [List.length_append]; exact hn, fun i h0 fs0 hi => ?_, fun i b hi => ?_, fun i j b hij hi hj => ?_⟩
 ·rcases Nat.lt_or_ge i ys.length with e | e
  ·rw [List.getElem?_append_left e] at hi
   obtain ⟨hb0, sv0, zs0, h1, h2, h3, h4, h5⟩ := h.row i h0 fs0 hi
   refine ⟨hb0, sv0, zs0, by rw [List.getElem?_append_left (by omega)]; exact h1, h2, by rw [List.getElem?_append_left (by omega)]; exact h3, owns_keep h4 (fun k e => keep k (owns_lt h4 e).2 (h.ne i k (by rw [innerBlk, h3]; exact e))), h5⟩
  ·rw [List.getElem?_append_right e] at hi
   have e0 : i = ys.length := by
    have := (List.getElem?_eq_some_iff.1 hi).1
    simp at this; omega
   subst e0
   rw [Nat.sub_self] at hi
   injection hi with hi
   injection hi with e1 e2
   subst e1 e2
   refine ⟨hb, sv, zs, by rw [List.getElem?_append_right (by omega), hxl, Nat.sub_self]; rfl, hhb, by rw [List.getElem?_append_right (by omega), show ys.length * 2 + 1 - xs.length = 1 by omega]; rfl, owns_keep hs (fun k e => keep k (owns_lt hs e).2 (n1 k e).1), hf⟩
 ·rw [inner_append hxl] at hi
  intro hvb
  rcases hv b hvb with h0 | h0
  ·split at hi
   ·exact h.ne i b hi h0
   ·split at hi
    ·exact (n1 b hi).1 h0
    ·cases hi
  ·split at hi
   ·have := (h.lt (.inr ⟨i, hi⟩)).2
    omega
   ·split at hi
    ·have := (owns_lt hs hi).2
     omega
    ·cases hi
 ·rw [inner_append hxl] at hi hj
  split at hi
  ·split at hj
   ·exact h.ap i j b hij hi hj
   ·split at hj
    ·exact (n1 b hj).2 i hi
    ·cases hj
  ·split at hi
   ·split at hj
    ·exact (n1 b hi).2 j hj
    ·split at hj
     ·omega
     ·cases hj
   ·cases hi
theorem inner_set {xs : List Value} {k : Nat} {sv : Value} (hk : k * 2 + 1 < xs.length) (i : Nat) : innerBlk (xs.set (k * 2 + 1) sv) i = if i = k then sv.ownBlock else innerBlk xs i := by
 unfold innerBlk
 split
 ·rename_i e
  subst e
  rw [List.getElem?_set_self hk]
  rfl
 ·rw [List.getElem?_set_ne (by omega)]
theorem NS.turn {w w1 w2 : World} {base : Nat} {eS eF : TypeId} {m : Nat} {v : Value} {ys : List Sv} {xs : List Value} (h : NS w base eS eF m v ys xs) {k : Nat} {hh : List UInt8} {fs fs' : List V} {sv sv' : Value} {zs' : List Value} (hk : ys[k]? = some (hh, fs)) (hsv : xs[k * 2 + 1]? = some sv)
  (ho : w1.ownsRow base eF m sv' fs'.length zs') (hf : FlatN m fs' zs') (hg : w.grownBy w1 sv.ownBlock) (hsvb : ∀ b, sv'.ownBlock = some b → sv.ownBlock = some b ∨ w.heap.size ≤ b)
  {g : Nat} (hvg : v.ownBlock = some g) (h2 : ∀ cur ty, w1.heap[g]? = some (.cells cur ty (0, 0)) → w2.heap[g]? = some (.cells (cur.setIfInBounds (k * 2 + 1) sv') ty (0, 0))) (h3 : ∀ j, j ≠ g → w2.heap[j]? = w1.heap[j]?) :
  NS w2 base eS eF m v (ys.set k (hh, fs')) (xs.set (k * 2 + 1) sv') := by
 have hkl := (List.getElem?_eq_some_iff.1 hk).1
 have hxl := h.own.1
 have hkx : k * 2 + 1 < xs.length := by omega
 have hib : innerBlk xs k = sv.ownBlock := by rw [innerBlk, hsv]; rfl
 have keep : ∀ b, b < w.heap.size → innerBlk xs k ≠ some b → b ≠ g → w2.heap[b]? = w.heap[b]? := fun b h1 h2' h3' => (h3 b h3').trans (hg.block b h1 (fun e => h2' (by rw [hib, e])))
 have hgk : innerBlk xs k ≠ some g := fun e => h.ne k g e hvg
 obtain ⟨cap, cur, e1, e2, e3, e4, e5, e6⟩ := owns_blk h.own hvg
 have e2' : w1.heap[g]? = some (.cells cur eS (0, 0)) := (hg.block g (blk_lt e2) (fun e => hgk (by rw [hib, e]))).trans e2
 refine ⟨?_, fun i h0 fs0 hi => ?_, fun i b hi => ?_, fun i j b hij hi hj => ?_⟩
 ·refine ⟨by rw [List.length_set, List.length_set]; exact hxl, .inr ⟨g, cap, _, by rw [List.length_set]; exact e1, (owns_lt h.own hvg).1, h2 _ _ e2', by rw [List.length_set]; exact e3, e4, by rw [Array.size_setIfInBounds]; exact e5, ?_⟩⟩
  rw [List.length_set, Array.toList_setIfInBounds, List.take_set, e6]
 ·rw [List.getElem?_set] at hi
  split at hi
  ·rename_i e
   subst e
   injection hi with hi
   injection hi with e7 e8
   subst e7 e8
   obtain ⟨hb0, sv0, zs0, r1, r2, r3, r4, r5⟩ := h.row k hh fs hk
   refine ⟨hb0, sv', zs', by rw [List.getElem?_set_ne (by omega)]; exact r1, r2, List.getElem?_set_self hkx, owns_keep ho (fun b e => h3 b (fun eg => ?_)), hf⟩
   subst eg
   rcases hsvb b e with h0 | h0
   ·exact hgk (by rw [hib]; exact h0)
   ·have := (owns_lt h.own hvg).2
    omega
  ·rename_i hne
   obtain ⟨hb0, sv0, zs0, r1, r2, r3, r4, r5⟩ := h.row i h0 fs0 hi
   have hib' : innerBlk xs i = sv0.ownBlock := by rw [innerBlk, r3]; rfl
   refine ⟨hb0, sv0, zs0, by rw [List.getElem?_set_ne (by omega)]; exact r1, r2, by rw [List.getElem?_set_ne (by omega)]; exact r3, owns_keep r4 (fun b e => keep b (owns_lt r4 e).2 (fun e' => h.ap k i b hne e' (by rw [hib']; exact e)) (fun eg => h.ne i b (by rw [hib']; exact e) (by rw [eg]; exact hvg))), r5⟩
 ·rw [inner_set hkx] at hi
  split at hi
  ·intro hvb
   rw [hvg] at hvb
   injection hvb with hvb
   subst hvb
   rcases hsvb g hi with h0 | h0
   ·exact hgk (by rw [hib]; exact h0)
   ·have := (owns_lt h.own hvg).2
    omega
  ·exact h.ne i b hi
 ·rw [inner_set hkx] at hi hj
  split at hi
  ·rename_i e
   subst e
   rw [if_neg (fun e => hij e.symm)] at hj
   rcases hsvb b hi with h0 | h0
   ·exact h.ap i j b hij (by rw [hib]; exact h0) hj
   ·have := (h.lt (.inr ⟨j, hj⟩)).2
    omega
  ·split at hj
   ·rename_i hne e
    subst e
    rcases hsvb b hj with h0 | h0
    ·exact h.ap j i b (Ne.symm hij) (by rw [hib]; exact h0) hi
    ·have := (h.lt (.inr ⟨i, hi⟩)).2
     omega
   ·exact h.ap i j b hij hi hj
def svV (m : Nat) (y : Sv) : V := .agg [.str y.1, .sl m true y.2]
theorem flat_put {w : World} {base : Nat} {e : TypeId} {m : Nat} {sv : Value} {fs : List V} {zs : List Value} (ho : w.ownsRow base e m sv fs.length zs) (hf : FlatN m fs zs) {S : Nat → Prop} (hS : ∀ b, sv.ownBlock = some b → S b) : Rd w S (.sl m true fs) sv := by
 obtain ⟨h1, ⟨rfl, h2⟩ | ⟨g, cap, cur, rfl, h3, h4, h5, h6, h7, h8⟩⟩ := id ho
 ·rw [List.length_eq_zero_iff.1 h2]
  exact .empty _ _ _ _
 ·by_cases h0 : fs.length = 0
  ·rw [h0, List.length_eq_zero_iff.1 h0]
   exact .empty _ _ _ _
  ·have hz : ∀ i j : Nat, i < fs.length → j < m → i * m + j < zs.length := fun i j hi hj => by
    rw [hf.1]
    have := Nat.mul_le_mul_right m (show i + 1 ≤ fs.length from hi)
    rw [Nat.add_mul, Nat.one_mul] at this
    omega
   refine .sl m true fs g 0 cap (fun i j => (zs[i * m + j]?).getD (.int .i64 0)) (by omega) h5 (hS g rfl) hf.2.1 (fun _ x hx c hc => ?_) (fun i j hi hj => ?_) (fun i x j c hx hc => ?_)
   ·obtain ⟨i, hi, rfl⟩ := List.mem_iff_getElem.1 hx
    obtain ⟨j, hj, rfl⟩ := List.mem_iff_getElem.1 hc
    obtain ⟨_, _, q⟩ := hf.2.2 i _ j _ (List.getElem?_eq_getElem hi) (List.getElem?_eq_getElem hj)
    exact q.1
   ·have hp := hz i j hi hj
    have := owns_cell ho (k := g) rfl (List.getElem?_eq_getElem hp)
    rw [Nat.zero_add, List.getElem?_eq_getElem hp]
    exact ⟨this.1, hf.one _ (List.getElem_mem hp)⟩
   ·obtain ⟨v, q1, q2⟩ := hf.2.2 i x j c hx hc
    rw [q1]
    exact q2.2.2 w S
theorem NS.rd {w : World} {base : Nat} {eS eF : TypeId} {m : Nat} {v : Value} {ys : List Sv} {xs : List Value} (h : NS w base eS eF m v ys xs) {k : Nat} {hh : List UInt8} {fs : List V} (hk : ys[k]? = some (hh, fs)) {hb : ByteArray} {sv : Value} (h1 : xs[k * 2]? = some (.string hb)) (h2 : xs[k * 2 + 1]? = some sv) {S : Nat → Prop} (hS : ∀ b, b < w.heap.size → S b) :
  Rd w S (svV m (hh, fs)) (.agg #[.string hb, sv]) := by
 obtain ⟨hb0, sv0, zs0, r1, r2, r3, r4, r5⟩ := h.row k hh fs hk
 rw [h1] at r1
 rw [h2] at r3
 injection r1 with r1
 injection r1 with r1
 injection r3 with r3
 subst r1 r3
 refine .agg _ _ rfl (fun i c x hc hx => ?_)
 match i, hc, hx with
 | 0, hc, hx =>
  injection hc with hc; injection hx with hx
  subst hc hx
  exact .str _ _ r2
 | 1, hc, hx =>
  injection hc with hc; injection hx with hx
  subst hc hx
  exact flat_put r4 r5 (fun b e => hS b (owns_lt r4 e).2)
 | i + 2, hc, hx => simp at hc
theorem NS.cellT {w : World} {base : Nat} {eS eF : TypeId} {m : Nat} {v : Value} {ys : List Sv} {xs : List Value} (h : NS w base eS eF m v ys xs) : (∀ x ∈ ys.map (svV m), x.cells.length = 2) := fun x hx => by
 obtain ⟨y, _, rfl⟩ := List.mem_map.1 hx
 rfl
theorem NS.answer {w w' : World} {R : Nat → Prop} {base : Nat} {eS eF : TypeId} {m : Nat} {v : Value} {ys : List Sv} {xs : List Value} (h : NS w' base eS eF m v ys xs) (hk : Kept w w') (hb : w.heap.size ≤ base) : Answer R w (.own 0 2 .clean (ys.map (svV m))) v w' := by
 have hblk : ∀ b, innerBlk xs b = none ∨ ∃ k, innerBlk xs b = some k := fun b => by cases innerBlk xs b <;> simp
 have hnew : ∀ k, (v.ownBlock = some k ∨ ∃ i, innerBlk xs i = some k) → w.heap.size ≤ k ∧ k < w'.heap.size := fun k hk' => ⟨Nat.le_trans hb (h.lt hk').1, (h.lt hk').2⟩
 have hcells : ∀ k, (v.ownBlock = some k ∨ ∃ i, innerBlk xs i = some k) → ∃ cur e, w'.heap[k]? = some (.cells cur e (0, 0)) := fun k hk' => by
  rcases hk' with hk' | ⟨i, hk'⟩
  ·obtain ⟨cap, cur, _, e, _⟩ := owns_blk h.own hk'
   exact ⟨cur, _, e⟩
  ·unfold innerBlk at hk'
   cases hx : xs[i * 2 + 1]? with
   | none => rw [hx] at hk'; cases hk'
   | some sv =>
    have hi : i < ys.length := by
     have := (List.getElem?_eq_some_iff.1 hx).1
     rw [h.own.1] at this
     omega
    obtain ⟨hb, sv', zs, h1, h2, h3, h4, h5⟩ := h.row i ys[i].1 ys[i].2 (by rw [List.getElem?_eq_getElem hi])
    rw [hx] at h3 hk'
    injection h3 with h3
    subst h3
    obtain ⟨cap, cur, _, e, _⟩ := owns_blk h4 hk'
    exact ⟨cur, _, e⟩
 obtain ⟨n1, ⟨rfl, n2⟩ | ⟨g, cap, cur, rfl, o3, o4, o5, o6, o7, o8⟩⟩ := id h.own
 ·rw [List.length_eq_zero_iff.1 n2]
  let Γ : Ctx := { w0 := w', F := fun k => w.heap.size ≤ k, S := fun _ => False, has := fun _ => False, blk := fun _ => 0, off := fun _ => 0, cap := fun _ => 0, sz := fun _ => 0, ln := fun _ => 0, lb := fun _ => False, box := fun _ => 0, R := fun _ => False, Z := fun _ => False, N := fun _ _ => False, U := True }
  exact ⟨hk.1, hk.2.1, hk.2.2.1, hk.2.2.2.1, hk.2.2.2.2, Γ, VR.ownNil (Γ := Γ) 0 2 .clean (fun h => h), fun _ h => h, fun _ h => h.elim, fun _ h => h.elim, fun _ _ h => h.elim, fun _ h => h.elim, fun _ h => h.elim, trivial, fun _ h => h.elim, fun _ _ h => h.elim⟩
 ·let N0 : Nat → Prop := fun k => ∃ i, innerBlk xs i = some k
  let Γ : Ctx := { w0 := w', F := fun k => w.heap.size ≤ k, S := N0, has := fun b => b = 0, blk := fun _ => g, off := fun _ => 0, cap := fun _ => cap, sz := fun _ => 2, ln := fun _ => ys.length, lb := fun _ => False, box := fun _ => 0, R := fun _ => False, Z := fun k => k = g ∨ N0 k, N := fun _ k => N0 k, U := True }
  have hz : ∀ i j : Nat, i < ys.length → j < 2 → i * 2 + j < xs.length := fun i j hi hj => by rw [n1]; omega
  have hget : ∀ i j : Nat, i < ys.length → j < 2 → w'.cell? ⟨g, 0 + i * 2 + j, none⟩ = some ((xs[i * 2 + j]?).getD (.int .i64 0)) := fun i j hi hj => by
   have hp := hz i j hi hj
   rw [Nat.zero_add, List.getElem?_eq_getElem hp]
   exact (owns_cell h.own (k := g) rfl (List.getElem?_eq_getElem hp)).1
  have hrow : ∀ (i : Nat) (x : V), (ys.map (svV m))[i]? = some x → ∃ hh fs hb sv zs, x = .agg [.str hh, .sl m true fs] ∧ hb.data.toList = hh ∧ xs[i * 2]? = some (.string hb) ∧ xs[i * 2 + 1]? = some sv ∧ w'.ownsRow base eF m sv (List.length fs) zs ∧ FlatN m fs zs := fun i x hx => by
   rw [List.getElem?_map] at hx
   cases hy : ys[i]? with
   | none => rw [hy] at hx; cases hx
   | some y =>
    rw [hy] at hx
    injection hx with hx
    subst hx
    obtain ⟨hb0, sv0, zs0, r1, r2, r3, r4, r5⟩ := h.row i y.1 y.2 hy
    exact ⟨y.1, y.2, hb0, sv0, zs0, rfl, r2, r1, r3, r4, r5⟩
  have hrows : Rows w' (Γ.Sq .clean) 2 (ys.map (svV m)) g 0 := by
   refine ⟨h.cellT, fun i j => (xs[i * 2 + j]?).getD (.int .i64 0), fun i j hi hj => ?_, fun i x j c hx hc => ?_⟩
   ·rw [List.length_map] at hi
    refine ⟨hget i j hi hj, ?_⟩
    obtain ⟨_, _, hb0, sv0, zs0, _, _, r1, r3, r4, r5⟩ := hrow i (svV m ys[i]) (by rw [List.getElem?_map, List.getElem?_eq_getElem hi]; rfl)
    match j, hj with
    | 0, _ =>
     show ((xs[i * 2]?).getD _).oneCell' = true
     rw [r1]; rfl
    | 1, _ =>
     show ((xs[i * 2 + 1]?).getD _).oneCell' = true
     rw [r3]
     obtain ⟨_, ⟨rfl, _⟩ | ⟨_, _, _, rfl, _⟩⟩ := r4 <;> rfl
   ·obtain ⟨_, _, hb0, sv0, zs0, rfl, rfl, r1, r3, r4, r5⟩ := hrow i x hx
    match j, hc with
    | 0, hc =>
     injection hc with hc
     subst hc
     show Rd _ _ _ ((xs[i * 2]?).getD _)
     rw [r1]
     exact .str _ _ rfl
    | 1, hc =>
     injection hc with hc
     subst hc
     show Rd _ _ _ ((xs[i * 2 + 1]?).getD _)
     rw [r3]
     exact flat_put r4 r5 (fun b e => ⟨⟨i, by rw [innerBlk, r3]; exact e⟩, .inr ⟨i, by rw [innerBlk, r3]; exact e⟩⟩)
    | j + 2, hc => simp [V.cells] at hc
  have hlt := blk_lt o4
  refine ⟨hk.1, hk.2.1, hk.2.2.1, hk.2.2.2.1, hk.2.2.2.2, Γ, ?_, fun _ h => h, fun k hk' => ⟨.inr (hnew k (.inr hk')).1, (hnew k (.inr hk')).2⟩, fun b _ => ⟨Nat.le_trans hb o3, hlt, fun e => (let ⟨i, e⟩ := e; h.ne i g e rfl), o6, cur, eS, o4, by show 0 + cap * 2 ≤ cur.size; omega⟩, fun b b' h1 h2 _ => h1.trans h2.symm, fun _ _ => .inl rfl, fun k hk' => ?_, trivial, fun b _ k hk' => ⟨hk', .inr hk'⟩, fun b b' h1 h2 hne => absurd (h1.trans h2.symm) hne⟩
  ·have := VR.own (Γ := Γ) (w := w') 0 2 .clean (ys.map (svV m)) rfl rfl (by rw [List.length_map]; exact ⟨o5, rfl⟩) hrows (fun e => by cases e) (fun _ _ => ?_)
   ·rw [List.length_map] at this
    exact this
   ·refine ⟨fun i j => (xs[i * 2 + j]?).getD (.int .i64 0), fun i j k => j = 1 ∧ innerBlk xs i = some k, fun i j hi hj => ?_, fun i x j c hx hc => ?_, fun i j i' j' k h1 h2 => ?_, fun i j k h1 => ⟨⟨i, h1.2⟩, ⟨i, h1.2⟩⟩⟩
    ·rw [List.length_map] at hi
     exact hget i j hi hj
    ·obtain ⟨_, _, hb0, sv0, zs0, rfl, rfl, r1, r3, r4, r5⟩ := hrow i x hx
     match j, hc with
     | 0, hc =>
      injection hc with hc
      subst hc
      exact .leaf _ _ _ trivial
     | 1, hc =>
      injection hc with hc
      subst hc
      show Tr _ _ ((xs[i * 2 + 1]?).getD _) _
      rw [r3]
      have hrd := flat_put r4 r5 (S := fun _ => True) (fun _ _ => trivial)
      show Tr w' _ sv0 _
      cases hrd with
      | empty => exact .empty _ _ _ _ _
      | sl _ _ _ k o cap' gg q1 q2 q3 q4 q5 q6 q7 =>
       refine .sl m true _ k o cap' gg (fun _ _ _ => False) _ q1 (fun i j hi hj => (q6 i j hi hj).1) (fun i x j c hx hc => .leaf _ _ _ (q5 rfl x (List.mem_of_getElem? hx) c (List.mem_of_getElem? hc))) (fun _ _ _ _ _ h => h.elim) (fun _ _ h => h) ⟨rfl, by rw [innerBlk, r3]; rfl⟩ (fun _ _ _ h => h.elim)
     | j + 2, hc => simp [V.cells] at hc
    ·obtain ⟨rfl, h1⟩ := h1
     obtain ⟨rfl, h2⟩ := h2
     by_cases e : i = i'
     ·exact ⟨e, rfl⟩
     ·exact absurd h2 (h.ap i i' k e h1)
  ·rcases hk' with rfl | hk'
   ·exact ⟨Nat.le_trans hb o3, hlt, cur, eS, o4⟩
   ·exact ⟨(hnew k (.inr hk')).1, (hnew k (.inr hk')).2, hcells k (.inr hk')⟩
end Go.Am
end
section
set_option linter.unusedVariables false
set_option linter.unusedSimpArgs false
namespace Go.Am
open Go Go.RowKit
def FSrc (w : World) (m : Nat) (sv : Value) (fs : List V) : Prop := (fs = [] ∧ ∃ a c, sv = .slice a 0 c) ∨
 ∃ k o c zs, sv = .slice (some ⟨k, o, none⟩) fs.length c ∧ 0 < fs.length ∧ FlatN m fs zs ∧ k < w.heap.size ∧ ∀ (j : Nat) (u : Value), zs[j]? = some u → w.cell? ⟨k, o + j, none⟩ = some u
def SSrc (w : World) (m : Nat) (v : Value) (ys : List Sv) : Prop := (ys = [] ∧ ∃ a c, v = .slice a 0 c) ∨
 ∃ k o c, v = .slice (some ⟨k, o, none⟩) ys.length c ∧ 0 < ys.length ∧ k < w.heap.size ∧ ∀ (i : Nat) (h : List UInt8) (fs : List V), ys[i]? = some (h, fs) → ∃ hb sv, hb.data.toList = h ∧ w.cell? ⟨k, o + i * 2, none⟩ = some (.string hb) ∧ w.cell? ⟨k, o + i * 2 + 1, none⟩ = some sv ∧ FSrc w m sv fs
theorem fsrc_of {w : World} {R : Nat → Prop} {m : Nat} {fs : List V} {sv : Value} (h : Rd w R (.sl m true fs) sv) (hR : ∀ k, R k → k < w.heap.size) : FSrc w m sv fs := by
 cases h with
 | empty => exact .inl ⟨rfl, _, _, rfl⟩
 | sl _ _ _ k o cap g hl hcap hS hsz hf hg hr =>
  refine .inr ⟨k, o, cap, (List.range (fs.length * m)).map (fun p => g (p / m) (p % m)), rfl, hl, ⟨by simp, hsz, fun i x j c hx hc => ?_⟩, hR k hS, fun j u hu => ?_⟩
  ·have hi := (List.getElem?_eq_some_iff.1 hx).1
   have hj : j < m := by
    have := (List.getElem?_eq_some_iff.1 hc).1
    rwa [hsz x (List.mem_of_getElem? hx)] at this
   have hp : i * m + j < fs.length * m := by
    have := Nat.mul_le_mul_right m (show i + 1 ≤ fs.length from hi)
    rw [Nat.add_mul, Nat.one_mul] at this
    omega
   refine ⟨g i j, ?_, cv_of (hr i x j c hx hc) (hf rfl x (List.mem_of_getElem? hx) c (List.mem_of_getElem? hc)) (hg i j hi hj).2⟩
   rw [List.getElem?_map, List.getElem?_range hp]
   have e1 : (i * m + j) / m = i := by rw [Nat.mul_comm, Nat.mul_add_div (by omega), Nat.div_eq_of_lt hj, Nat.add_zero]
   have e2 : (i * m + j) % m = j := by rw [Nat.mul_comm, Nat.mul_add_mod, Nat.mod_eq_of_lt hj]
   rw [Option.map_some, e1, e2]
  ·rw [List.getElem?_map] at hu
   have hj : j < fs.length * m := by
    rcases Nat.lt_or_ge j (fs.length * m) with h | h
    ·exact h
    ·rw [List.getElem?_eq_none (by simpa using h)] at hu; cases hu
   rw [List.getElem?_range hj, Option.map_some] at hu
   injection hu with hu
   subst hu
   obtain ⟨d1, d2, d3⟩ : j / m < fs.length ∧ j % m < m ∧ j / m * m + j % m = j := by
    have hm : 0 < m := by
     rcases Nat.eq_zero_or_pos m with e | e
     ·rw [e, Nat.mul_zero] at hj; omega
     ·exact e
    exact ⟨Nat.div_lt_of_lt_mul (by rw [Nat.mul_comm]; exact hj), Nat.mod_lt _ hm, Nat.div_add_mod' j m⟩
   have := (hg (j / m) (j % m) d1 d2).1
   rwa [Nat.add_assoc, d3] at this
theorem ssrc_of {w : World} {R : Nat → Prop} {m : Nat} {ys : List Sv} {v : Value} (h : Rd w R (.sl 2 false (ys.map (svV m))) v) (hR : ∀ k, R k → k < w.heap.size) : SSrc w m v ys := by
 generalize hxs : ys.map (svV m) = xs at h
 cases h with
 | empty =>
  cases ys with
  | nil => exact .inl ⟨rfl, _, _, rfl⟩
  | cons y ys => cases hxs
 | sl _ _ _ k o cap g hl hcap hS hsz hf hg hr =>
  have hlen : xs.length = ys.length := by rw [← hxs, List.length_map]
  refine .inr ⟨k, o, cap, by rw [hlen], by omega, hR k hS, fun i hh fs hi => ?_⟩
  have hx : xs[i]? = some (svV m (hh, fs)) := by rw [← hxs, List.getElem?_map, hi]; rfl
  have hil := (List.getElem?_eq_some_iff.1 hx).1
  have h0 := hr i _ 0 _ hx rfl
  have h1 := hr i _ 1 _ hx rfl
  obtain ⟨hb, e, hb'⟩ := rd_str h0
  refine ⟨hb, g i 1, hb', ?_, (hg i 1 hil (by omega)).1, fsrc_of h1 hR⟩
  rw [← e]
  exact (hg i 0 hil (by omega)).1
theorem FSrc.kept {w w' : World} {m : Nat} {sv : Value} {fs : List V} (h : FSrc w m sv fs) (hk : Kept w w') : FSrc w' m sv fs := by
 rcases h with h | ⟨k, o, c, zs, h1, h2, h3, h4, h5⟩
 ·exact .inl h
 ·exact .inr ⟨k, o, c, zs, h1, h2, h3, Nat.lt_of_lt_of_le h4 hk.2.2.2.1, fun j u hu => by rw [← h5 j u hu]; simp only [World.cell?, hk.2.2.2.2 k h4]⟩
theorem SSrc.kept {w w' : World} {m : Nat} {v : Value} {ys : List Sv} (h : SSrc w m v ys) (hk : Kept w w') : SSrc w' m v ys := by
 rcases h with h | ⟨k, o, c, h1, h2, h3, h4⟩
 ·exact .inl h
 ·refine .inr ⟨k, o, c, h1, h2, Nat.lt_of_lt_of_le h3 hk.2.2.2.1, fun i hh fs hi => ?_⟩
  obtain ⟨hb, sv, e1, e2, e3, e4⟩ := h4 i hh fs hi
  exact ⟨hb, sv, e1, by rw [← e2]; simp only [World.cell?, hk.2.2.2.2 k h3], by rw [← e3]; simp only [World.cell?, hk.2.2.2.2 k h3], e4.kept hk⟩
end Go.Am
end
