/-
  Laws that mark: regions whose order is open.
-/
import Derived.Test.YthncjpkjmgmdlaaqnAmRunM
section
set_option linter.unusedVariables false
set_option linter.unusedSimpArgs false
namespace Go.Am
open Go Go.RowKit
def opLV (g : Nat → LV) : Operand → Option LV
 | .tmp x => some (g x)
 | .const (.bool b) => some (.kb b)
 | .const (.int .i64 n) => some (.ki n)
 | _ => none
def LV.free : LV → Bool
 | .fb _ => false
 | _ => true
def kindTy : Ty → Nat → Bool
 | .bool, 0 => true
 | .int .i64, 1 => true
 | .str, 2 => true
 | _, _ => false
def lbin1 (c : Cfg) (op : BinOp) (t : Nat) (a : LV) (z : Int) : Option LV :=
 if isI64 c t = true then (match op, a with
  | .lss, .ct _ => if z = 0 then some (.kb false) else none
  | .lss, .zi i => if z = 0 then some (.lt0 i) else none
  | .gtr, .zi i => some (.gt i z)
  | _, _ => none) else none
def lbin2 (c : Cfg) (tb : List LE) (t : Nat) (a b : LV) (evs : List LC) : Option (LV × List LC) :=
 match a, b with
 | .ct l, .ct l' => if l = l' ∧ isI64 c t = true then some (.kb false, evs) else none
 | .v p, .v q => match evs with
  | .same p' q' k :: es => match c.ty t with
   | some i => if p' = p ∧ q' = q ∧ kindTy i.d k = true ∧ readsAt tb p = true ∧ readsAt tb q = true then some (.kb false, es) else none
   | none => none
  | _ => none
 | _, _ => none
def lop (c : Cfg) (ag : List (Option Nat)) (g : Nat → LV) (tb : List LE) (evs : List LC) (op : Op) : Option (LV × List LE × List LC) :=
 match op with
 | .move x => match opLV g x with
  | some v => if v.free = true then some (v, tb, evs) else none
  | none => none
 | .assign x => match opLV g x with
  | some v => if v.free = true then some (v, tb, evs) else none
  | none => none
 | .load t (.tmp x) => match g x, c.ty t with
  | .bx j, some i => if i.d.isAgg = true ∧ ag[j]? = some (some i.size) then some (.v j, tb, evs) else none
  | _, _ => none
 | .unOp .not _ (.tmp x) => match g x with
  | .kb b => some (.kb (!b), tb, evs)
  | _ => none
 | .pick a x y => match opLV g a with
  | some (.kb b) => match opLV g (if b then x else y) with
   | some v => if v.free = true then some (v, tb, evs) else none
   | none => none
  | _ => none
 | .binOp op t (.tmp x) (.const (.int .i64 z)) _ => match lbin1 c op t (g x) z with
  | some v => some (v, tb, evs)
  | none => none
 | .binOp .neq t (.tmp x) (.tmp y) _ => if x = y then none else match lbin2 c tb t (g x) (g y) evs with
  | some (v, es) => some (v, tb, es)
  | none => none
 | .call ⟨.value (.func f), args, _⟩ => match evs with
  | ev :: es => match lcall f (args.toList.map fun
    | .tmp x => g x
    | _ => .un) tb ev with
   | some (v, tb') => some (v, tb', es)
   | none => none
  | [] => none
 | .call ⟨.builtin .len, args, ts⟩ => match args.toList, ts.toList, evs with
  | [.tmp x], [t], .len j i b :: es => match g x, c.ty t with
   | .v j', some ti => if j' = j ∧ readsAt tb j = true then (match ti.d, b with
    | .slice _, false => some (.zi i, tb, es)
    | .str, true => some (.zi i, tb, es)
    | _, _ => none) else none
   | _, _ => none
  | _, _, _ => none
 | .extract (.tmp x) ix => match g x with
  | .tp js => match js[ix]? with
   | some j => some (.v j, tb, evs)
   | none => none
  | _ => none
 | _ => none
def O0 (P : Program) (n : Nat) (o : Oper) (s : Nat → Value) (w : World) (K : (Nat → Value) → World → Prop) : Prop :=
 ∀ (a : Act) (Q : Exit → Act → World → Prop) (N : Act → World → Prop), (∀ s' a' w', Ag n s' a' → K s' w' → N a' w') → Ag n s a → o.wp P a w N Q
section
variable {P : Program} {n d : Nat} {s : Nat → Value} {w w' : World} {x : Value} {o : Oper} {K K' : (Nat → Value) → World → Prop}
theorem O0.mono (h : O0 P n o s w K) (hk : ∀ s' w', K s' w' → K' s' w') : O0 P n o s w K' := fun a Q N hN ha => h a Q N (fun s' a' w' h1 h2 => hN s' a' w' h1 (hk s' w' h2)) ha
theorem O0.value (hd : o.dst = some d) (hn : d < n) (he : (execOp (evs s) o).run P w = .ok (.value x) w') (h : K (upd s d x) w') : O0 P n o s w K := by
 intro a Q N hN ha
 unfold Oper.wp
 rw [ha.eval, he, Oper.upon_value, hd]
 exact hN _ _ _ (ha.put hn) h
theorem O0.skip (hd : o.dst = none) (he : (execOp (evs s) o).run P w = .ok .skip w') (h : K s w') : O0 P n o s w K := by
 intro a Q N hN ha
 unfold Oper.wp
 rw [ha.eval, he, Oper.upon_skip, hd]
 exact hN _ a _ ha h
theorem O0.call {f : FuncId} {args : Array Value} (hd : o.dst = some d) (hn : d < n) (he : (execOp (evs s) o).run P w = .ok (.enter f args) w)
  (hc : Calls P f args w fun e w' => ∃ x, e = .returned x ∧ K (upd s d x) w') : O0 P n o s w K := by
 intro a Q N hN ha
 unfold Oper.wp
 rw [ha.eval, he, Oper.upon_enter]
 refine Calls.mono hc fun e w' h => ?_
 obtain ⟨x, rfl, h⟩ := h
 show N (a.put o.dst x) w'
 rw [hd]
 exact hN _ _ _ (ha.put hn) h
end
section
variable {X : LX} {c : Cfg} {n d : Nat} {s : Nat → Value} {w w' : World} {o : Oper} {tb tb' : List LE} {tv : List LM} {bl : List (Nat × Nat)} {fr : Option (Nat × Nat)} {evs' evs'' : List LC} {g : Nat → LV} {v : LV}
theorem opLV_ok {x : Operand} (h : opLV g x = some v) (hx : ∀ y, x = .tmp y → X.LR tv bl fr (g y) (s y)) : X.LR tv bl fr v (evs s x) := by
 unfold opLV at h
 split at h
 ·rename_i y
  injection h with h
  subst h
  exact hx y rfl
 ·injection h with h; subst h; rfl
 ·injection h with h; subst h; rfl
 ·cases h
theorem slot_lt (hn : ∀ i, n ≤ i → s i = undef) {x : Nat} (h : s x ≠ undef) : x < n := by
 rcases Nat.lt_or_ge x n with h' | h'
 ·exact h'
 ·exact absurd (hn x h') h
theorem ctv_nn (l : List Nat) : ¬ ((X.ctv l : Int) < 0) := by omega
theorem lop_ok (hO : X.Ok) (hA : Agree X.P c) (hI : X.Inv tb tv bl fr w) (h : lop c X.ag g tb evs' o.op = some (v, tb', evs'')) (hH : X.H evs') (hops : ∀ x, .tmp x ∈ o.op.operands.toList → X.LR tv bl fr (g x) (s x)) (hn : ∀ i, n ≤ i → s i = undef)
  (hdst : o.dst = some d) (hd : d < n) : O0 X.P n o s w (fun s' w' => ∃ x tv', s' = upd s d x ∧ tv <+: tv' ∧ X.LR tv' bl fr v x ∧ X.Inv tb' tv' bl fr w' ∧ X.H evs'') := by
 have val : ∀ {x : Value} {v' : LV}, (execOp (evs s) o).run X.P w = .ok (.value x) w → X.LR tv bl fr v' x → v' = v → tb' = tb → evs'' = evs' → O0 X.P n o s w (fun s' w' => ∃ x tv', s' = upd s d x ∧ tv <+: tv' ∧ X.LR tv' bl fr v x ∧ X.Inv tb' tv' bl fr w' ∧ X.H evs'') := fun he hx e1 e2 e3 => by
  subst e1; subst e2; subst e3
  exact O0.value hdst hd he ⟨_, tv, rfl, List.prefix_refl _, hx, hI, hH⟩
 unfold lop at h
 split at h
 · -- move
  rename_i x ho
  rw [ho] at hops
  split at h
  ·rename_i v1 hv
   split at h
   ·simp only [Option.some.injEq, Prod.mk.injEq] at h
    obtain ⟨rfl, rfl, rfl⟩ := h
    exact val (x := evs s x) (by simp [execOp, ho]) (opLV_ok hv (fun y hy => hops y (by subst hy; simp [Op.operands]))) rfl rfl rfl
   ·cases h
  ·cases h
 · -- assign
  rename_i x ho
  rw [ho] at hops
  split at h
  ·rename_i v1 hv
   split at h
   ·simp only [Option.some.injEq, Prod.mk.injEq] at h
    obtain ⟨rfl, rfl, rfl⟩ := h
    exact val (x := evs s x) (by simp [execOp, ho]) (opLV_ok hv (fun y hy => hops y (by subst hy; simp [Op.operands]))) rfl rfl rfl
   ·cases h
  ·cases h
 · -- load
  rename_i t x ho
  rw [ho] at hops
  split at h
  ·rename_i j i hx ht
   split at h
   ·rename_i hcc
    obtain ⟨hag, hj⟩ := hcc
    simp only [Option.some.injEq, Prod.mk.injEq] at h
    obtain ⟨rfl, rfl, rfl⟩ := h
    have hb := hops x (by simp [Op.operands])
    rw [hx] at hb
    obtain ⟨b, hs, hbl⟩ := hb
    obtain ⟨tm, cs, bt, b1, b2, b3, b4, b5⟩ := hI.boxes _ hbl
    have hjl : j < tb.length := by rw [← hI.len]; exact (List.getElem?_eq_some_iff.1 b1).1
    obtain ⟨vs, v1, v2, _⟩ := (hI.ent j _ tm (List.getElem?_eq_getElem hjl) b1).agx i.size hj
    have hcs : cs.size = i.size := by
     rw [b2] at v1
     injection v1 with v1
     rw [v1]
     exact v2
    obtain ⟨ti, ai⟩ := hA _ _ ht
    have hu : ∃ dd, X.P.underlying t = some dd ∧ ((∃ fs, dd = .struct fs) ∨ (∃ n e, dd = .array n e)) := by
     cases hdd : i.d with
     | struct fs => obtain ⟨f, h1, _⟩ := ai.struct fs hdd; exact ⟨_, h1, .inl ⟨_, rfl⟩⟩
     | array n e => exact ⟨_, ai.array n e hdd, .inr ⟨_, _, rfl⟩⟩
     | _ => rw [hdd] at hag; cases hag
    obtain ⟨dd, hdd, hk⟩ := hu
    have hl := run_loadCells (P := X.P) w ⟨b, 0, none⟩ i.size (fun k => cs.getD k undef) (fun k hk => by
     rw [add_none, Nat.zero_add, cell_of b3]
     have : k < cs.size := by omega
     simp [this])
    have hrun : (loadVar t ⟨b, 0, none⟩).run X.P w = .ok (.agg ((List.range i.size).map fun k => cs.getD k undef).toArray) w := by
     rcases hk with ⟨fs, rfl⟩ | ⟨n, e, rfl⟩ <;> simp [loadVar, isAgg, run_underlying hdd, sizeOf, typeInfo, ai.info, ai.size, hl]
    have ecs : ((List.range i.size).map fun k => cs.getD k undef).toArray = cs := by
     apply Array.ext_getElem?
     intro q
     rcases Nat.lt_or_ge q i.size with hq | hq
     ·have : q < cs.size := by omega
      simp [hq, this]
     ·rw [Array.getElem?_eq_none (by simp; omega), Array.getElem?_eq_none (by omega)]
    rw [ecs] at hrun
    exact val (x := .agg cs) (v' := .v j) (by simp [execOp, ho, evs, hs, Instr.loadAt, Instr.sureAddr, hrun]) ⟨tm, b1, b2.symm⟩ rfl rfl rfl
   ·cases h
  ·cases h
 · -- not
  rename_i t x ho
  rw [ho] at hops
  split at h
  ·rename_i b hx
   simp only [Option.some.injEq, Prod.mk.injEq] at h
   obtain ⟨rfl, rfl, rfl⟩ := h
   have hb := hops x (by simp [Op.operands])
   rw [hx] at hb
   have hb : s x = .bool b := hb
   exact val (x := .bool !b) (v' := .kb !b) (by simp [execOp, ho, evs, hb, Op.unary]) rfl rfl rfl rfl
  ·cases h
 · -- pick
  rename_i a x y ho
  rw [ho] at hops
  split at h
  ·rename_i b hb
   split at h
   ·rename_i v1 hv
    split at h
    ·simp only [Option.some.injEq, Prod.mk.injEq] at h
     obtain ⟨rfl, rfl, rfl⟩ := h
     have h1 : evs s a = .bool b := opLV_ok (X := X) (tv := tv) (bl := bl) (fr := fr) hb (fun y hy => hops y (by subst hy; simp [Op.operands]))
     have h2 := opLV_ok (X := X) (tv := tv) (bl := bl) (fr := fr) (s := s) hv (fun y' hy => hops y' (by cases b <;> simp at hy <;> subst hy <;> simp [Op.operands]))
     refine val (x := evs s (if b then x else y)) ?_ h2 rfl rfl rfl
     cases b <;> simp [execOp, ho, h1, asBool]
    ·cases h
   ·cases h
  ·cases h
 · -- a number against a constant
  rename_i op t x z t' ho
  rw [ho] at hops
  split at h
  ·rename_i v1 hv
   simp only [Option.some.injEq, Prod.mk.injEq] at h
   obtain ⟨rfl, rfl, rfl⟩ := h
   have hx := hops x (by simp [Op.operands])
   unfold lbin1 at hv
   split at hv
   ·rename_i hi64
    obtain ⟨ti, t1, t2⟩ := isI64_ok hi64
    have num : ∀ (m : Int) (r : V), s x = .int .i64 m → binV ti op (.int .i64 m) (.int .i64 z) = some r → ∃ y, (execOp (evs s) o).run X.P w = .ok (.value y) w ∧ ∃ Γ : Ctx, VR Γ w r y := fun m r hm hr =>
     scal_bin hA hI.glob hn ho t1 (slot_lt hn (by rw [hm]; intro e; cases e)) (by rw [hm]; exact .int _ _) (.inr ⟨_, rfl, rfl⟩) hr
    split at hv
    ·rename_i l hg
     rw [hg] at hx
     split at hv
     ·rename_i e0
      subst e0
      injection hv with hv
      subst hv
      obtain ⟨y, y1, Γ, y2⟩ := num _ (.bool false) hx (by
       simp only [binV, intOp, cmpInt, if_pos, if_true]
       rw [decide_eq_false (ctv_nn l)])
      rw [y2.bool_inv] at y1
      exact val (v' := .kb false) y1 rfl rfl rfl rfl
     ·cases hv
    ·rename_i i hg
     rw [hg] at hx
     split at hv
     ·rename_i e0
      subst e0
      injection hv with hv
      subst hv
      obtain ⟨y, y1, Γ, y2⟩ := num _ (.bool (decide (X.Z i < 0))) hx (by simp [binV, intOp, cmpInt])
      rw [y2.bool_inv] at y1
      exact val (v' := .lt0 i) y1 rfl rfl rfl rfl
     ·cases hv
    ·rename_i i hg
     rw [hg] at hx
     injection hv with hv
     subst hv
     obtain ⟨y, y1, Γ, y2⟩ := num _ (.bool (decide (X.Z i > z))) hx (by simp [binV, intOp, cmpInt])
     rw [y2.bool_inv] at y1
     exact val (v' := .gt i z) y1 rfl rfl rfl rfl
    ·cases hv
   ·cases hv
  ·cases h
 · -- two that are compared
  rename_i t x y t' ho
  rw [ho] at hops
  split at h
  ·cases h
  ·rename_i hxy
   split at h
   ·rename_i v1 es hv
    simp only [Option.some.injEq, Prod.mk.injEq] at h
    obtain ⟨rfl, rfl, rfl⟩ := h
    have hx := hops x (by simp [Op.operands])
    have hy := hops y (by simp [Op.operands])
    have two : ∀ (ti : TyInfo) (u : V), c.ty t = some ti → u ≠ .undef → (∀ r : Value, Rd w (fun _ => False) u r → r ≠ undef) → Rd w (fun _ => False) u (s x) → Rd w (fun _ => False) u (s y) → binV ti .neq u u = some (.bool false) → (execOp (evs s) o).run X.P w = .ok (.value (.bool false)) w := fun ti u t1 hu hne h1 h2 hb => by
     obtain ⟨z, z1, Γ, z2⟩ := scal_bin (u := u) hA hI.glob hn ho t1 (slot_lt hn (hne _ h1)) h1 (.inl ⟨y, rfl, slot_lt hn (hne _ h2), fun e => hxy e.symm, h2⟩) hb
     rw [z2.bool_inv] at z1
     exact z1
    have scal : ∀ {S : Nat → Prop} {u : V} {r : Value}, noSl u → Rd w S u r → Rd w (fun _ => False) u r := fun hu hr => by
     cases hr with
     | bool b => exact .bool b
     | int k n => exact .int k n
     | str s x h => exact .str s x h
     | nil => exact .nil
     | _ => exact hu.elim
    unfold lbin2 at hv
    split at hv
    ·rename_i l l' hg1 hg2
     rw [hg1] at hx
     rw [hg2] at hy
     split at hv
     ·rename_i hcc
      obtain ⟨rfl, hi64⟩ := hcc
      simp only [Option.some.injEq, Prod.mk.injEq] at hv
      obtain ⟨rfl, rfl⟩ := hv
      obtain ⟨ti, t1, t2⟩ := isI64_ok hi64
      have hx : s x = .int .i64 (X.ctv l : Int) := hx
      have hy : s y = .int .i64 (X.ctv l : Int) := hy
      exact val (v' := .kb false) (two ti (.int .i64 (X.ctv l : Int)) t1 (by simp) (fun r hr => by cases hr; intro e; cases e) (by rw [hx]; exact .int _ _) (by rw [hy]; exact .int _ _) (by simp [binV, intOp, cmpInt])) rfl rfl rfl rfl
     ·cases hv
    ·rename_i p q hg1 hg2
     rw [hg1] at hx
     rw [hg2] at hy
     split at hv
     ·rename_i p' q' k es'
      split at hv
      ·rename_i ti t1
       split at hv
       ·rename_i hcc
        obtain ⟨rfl, rfl, hkd, hr1, hr2⟩ := hcc
        simp only [Option.some.injEq, Prod.mk.injEq] at hv
        obtain ⟨rfl, rfl⟩ := hv
        obtain ⟨tp, u1, u2⟩ := hx
        obtain ⟨tq, u3, u4⟩ := hy
        obtain ⟨ep, ep1, ep2⟩ := readsAt_inv hr1
        obtain ⟨eq, eq1, eq2⟩ := readsAt_inv hr2
        have rp := hI.rd ep1 u1 ep2
        have rq := hI.rd eq1 u3 eq2
        rw [← u2] at rp
        rw [← u4] at rq
        obtain ⟨hs, hH'⟩ := hH
        have done : (execOp (evs s) o).run X.P w = .ok (.value (.bool false)) w → O0 X.P n o s w (fun s' w' => ∃ x tv', s' = upd s d x ∧ tv <+: tv' ∧ X.LR tv' bl fr (.kb false) x ∧ X.Inv tb tv' bl fr w' ∧ X.H es') := fun he =>
         O0.value hdst hd he ⟨_, tv, rfl, List.prefix_refl _, rfl, hI, hH'⟩
        rcases hs with ⟨rfl, b, b1, b2⟩ | ⟨rfl, b, b1, b2⟩ | ⟨rfl, b, b1, b2⟩
        ·rw [b1] at rp
         rw [b2] at rq
         have htd : ti.d = .bool := by
          unfold kindTy at hkd
          split at hkd
          ·rename_i e _; exact e
          ·rename_i _ e; cases e
          ·rename_i _ e; cases e
          ·cases hkd
         refine done (two ti (.bool b) t1 (by simp) (fun r hr => by cases hr; intro e; cases e) (scal trivial rp) (scal trivial rq) (by simp [binV, htd]))
        ·rw [b1] at rp
         rw [b2] at rq
         exact done (two ti (.int .i64 b) t1 (by simp) (fun r hr => by cases hr; intro e; cases e) (scal trivial rp) (scal trivial rq) (by simp [binV, intOp, cmpInt]))
        ·rw [b1] at rp
         rw [b2] at rq
         exact done (two ti (.str b) t1 (by simp) (fun r hr => by cases hr; intro e; cases e) (scal trivial rp) (scal trivial rq) (by simp [binV, strOp]))
       ·cases hv
      ·cases hv
     ·cases hv
    ·cases hv
   ·cases h
 · -- a call
  rename_i f args ts ho
  rw [ho] at hops
  split at h
  ·rename_i ev es
   split at h
   ·rename_i v1 tb1 hv
    simp only [Option.some.injEq, Prod.mk.injEq] at h
    obtain ⟨rfl, rfl, rfl⟩ := h
    obtain ⟨hk, hH', hcall⟩ := lcall_ok (vals := args.map (evs s)) hO hI hv hH (by simp) (fun i a y h1 h2 => by
     rw [List.getElem?_map, Array.getElem?_toList] at h1
     rw [Array.getElem?_map] at h2
     cases hi : args[i]? with
     | none => rw [hi] at h1; cases h1
     | some u =>
      rw [hi] at h1 h2
      injection h1 with h1
      injection h2 with h2
      subst h1; subst h2
      cases u with
      | tmp p => exact hops p (by simp only [Op.operands, Call.operands]; simp; exact Array.mem_of_getElem? hi)
      | _ => exact trivial)
    refine O0.call hdst hd (call_enter hk ho) (hcall.mono (fun e w' h => ?_))
    obtain ⟨y, tv', rfl, h1, h2, h3⟩ := h
    exact ⟨y, rfl, y, tv', rfl, h1, h2, h3, hH'⟩
   ·cases h
  ·cases h
 · -- len
  rename_i args ts ho
  rw [ho] at hops
  split at h
  ·rename_i x t j i b es hargs hts
   split at h
   ·rename_i j' ti hx hti
    split at h
    ·rename_i hcc
     obtain ⟨rfl, hrd⟩ := hcc
     obtain rfl := arr1 hargs
     obtain rfl := arr1 hts
     have hx' := hops x (by simp [Op.operands, Call.operands])
     rw [hx] at hx'
     obtain ⟨tm, t1, t2⟩ := hx'
     obtain ⟨e, e1, e2⟩ := readsAt_inv hrd
     have hr := hI.rd e1 t1 e2
     rw [← t2] at hr
     obtain ⟨aj, aj2⟩ := hA _ _ hti
     obtain ⟨hlen, hH'⟩ := hH
     have fin : ∀ {m : Nat}, (execOp (evs s) o).run X.P w = .ok (.value (.int .i64 (m : Int))) w → X.Z i = m → O0 X.P n o s w (fun s' w' => ∃ x tv', s' = upd s d x ∧ tv <+: tv' ∧ X.LR tv' bl fr (.zi i) x ∧ X.Inv tb tv' bl fr w' ∧ X.H es) := fun he hm =>
      O0.value hdst hd he ⟨_, tv, rfl, List.prefix_refl _, by show Value.int _ _ = _; rw [hm], hI, hH'⟩
     split at h
     ·rename_i el hel
      simp only [Option.some.injEq, Prod.mk.injEq] at h
      obtain ⟨rfl, rfl, rfl⟩ := h
      obtain ⟨u, f, xs, h1, h2⟩ := hlen
      rw [h1] at hr
      obtain ⟨a, cap, hy⟩ : ∃ a cap, s x = .slice a xs.length cap := by
       generalize s x = y at hr
       cases hr with
       | empty => exact ⟨_, _, rfl⟩
       | sl => exact ⟨_, _, rfl⟩
      exact fin (m := xs.length) (by simp [execOp, ho, evs, hy, resolve, invoke, builtin, Builtin.len_, run_underlying (aj2.slice _ hel), goInt]) h2
     ·rename_i hel
      simp only [Option.some.injEq, Prod.mk.injEq] at h
      obtain ⟨rfl, rfl, rfl⟩ := h
      obtain ⟨u, h1, h2⟩ := hlen
      rw [h1] at hr
      obtain ⟨y, hy, hy2⟩ := rd_str hr
      have e3 : u.length = y.size := by rw [← hy2]; rfl
      exact fin (m := u.length) (by rw [e3]; simp [execOp, ho, evs, hy, resolve, invoke, builtin, Builtin.len_, run_underlying (aj2.str hel), goInt]) h2
     ·cases h
    ·cases h
   ·cases h
  ·cases h
 · -- extract
  rename_i x ix ho
  rw [ho] at hops
  split at h
  ·rename_i js hx
   split at h
   ·rename_i j hj
    simp only [Option.some.injEq, Prod.mk.injEq] at h
    obtain ⟨rfl, rfl, rfl⟩ := h
    have hx' := hops x (by simp [Op.operands])
    rw [hx] at hx'
    obtain ⟨vs, h1, h2, h3⟩ := hx'
    obtain ⟨tm, t1, t2⟩ := h3 ix j hj
    exact val (x := tm.x) (v' := .v j) (by simp [execOp, ho, evs, h1, Instr.extract, t2]) ⟨tm, t1, rfl⟩ rfl rfl rfl
   ·cases h
  ·cases h
 ·cases h
end
end Go.Am
end
section
set_option linter.unusedVariables false
set_option linter.unusedSimpArgs false
namespace Go.Am
open Go Go.RowKit
structure LS where
  env : List (Nat × LV)
  tb : List LE
  evs : List LC
  fr : Bool
def LV.isFb : LV → Bool
 | .fb _ => true
 | _ => false
def lone (c : Cfg) (ag : List (Option Nat)) (n : Nat) (σ : LS) (o : Oper) : Option LS :=
 match o.dst with
 | none => match o.op with
  | .store t (.tmp x) (.tmp y) => match lget σ.env x, lget σ.env y, c.ty t with
   | .fb t', .v j, some i => if t' = t ∧ ag[j]? = some (some i.size) ∧ (σ.env.all fun p => !(lget σ.env p.1).isFb || p.1 == x) = true then some { σ with env := (x, .bx j) :: σ.env, fr := false } else none
   | _, _, _ => none
  | _ => none
 | some d => if d < n then (match o.op with
  | .alloc t => match c.ty t with
   | some _ => if σ.fr = false then some { σ with env := (d, .fb t) :: σ.env, fr := true } else none
   | none => none
  | .box _ (.tmp x) => match lget σ.env x with
   | .v j => match ag[j]? with
    | some (some _) => some { σ with env := (d, .bx j) :: σ.env }
    | _ => none
   | _ => none
  | op => match lop c ag (lget σ.env) σ.tb σ.evs op with
   | some (v, tb', evs') => some { σ with env := (d, v) :: σ.env, tb := tb', evs := evs' }
   | none => none) else none
def lguard (ops : Array Oper) (env : List (Nat × LV)) (o : Oper) : Option Bool :=
 match o.guard with
 | none => some true
 | some (j, b) => match ops[j]? with
  | some o' => match o'.dst with
   | some d => match lget env d with
    | .kb b' => some (b' == b)
    | _ => none
   | none => none
  | none => none
def lseq (c : Cfg) (ag : List (Option Nat)) (n : Nat) (ops : Array Oper) : List Oper → LS → Option LS
 | [], σ => some σ
 | o :: os, σ => match lguard ops σ.env o with
  | some true => match lone c ag n σ o with
   | some σ' => lseq c ag n ops os σ'
   | none => none
  | some false => match o.dst with
   | some d => if d < n then lseq c ag n ops os { σ with env := (d, .un) :: σ.env } else none
   | none => none
  | none => none
def LX.SI (X : LX) (n : Nat) (σ : LS) (s : Nat → Value) (w : World) : Prop :=
 ∃ tv bl fr, (∀ t, X.LR tv bl fr (lget σ.env t) (s t)) ∧ (∀ i, n ≤ i → s i = undef) ∧ X.Inv σ.tb tv bl fr w ∧ X.H σ.evs ∧ (σ.fr = false → fr = none)
section
variable {X : LX} {c : Cfg} {n d : Nat} {s : Nat → Value} {w w' : World} {o : Oper} {σ σ' : LS} {ops : Array Oper}
theorem lget_mem : ∀ {l : List (Nat × LV)} {t : Nat}, lget l t ≠ .un → (t, lget l t) ∈ l := by
 intro l t
 induction l with
 | nil => intro h; exact absurd rfl h
 | cons p l ih =>
  intro h
  rw [lget] at h ⊢
  split
  ·rename_i e; subst e; exact List.mem_cons_self
  ·rename_i e; rw [if_neg e] at h; exact List.mem_cons_of_mem _ (ih h)
theorem LR_put {tv : List LM} {bl : List (Nat × Nat)} {fr : Option (Nat × Nat)} {env : List (Nat × LV)} {v : LV} {x : Value} (h : ∀ t, X.LR tv bl fr (lget env t) (s t)) (hx : X.LR tv bl fr v x) : ∀ t, X.LR tv bl fr (lget ((d, v) :: env) t) (upd s d x t) := by
 intro t
 rw [lget]
 split
 ·rename_i e; subst e; rw [upd_same]; exact hx
 ·rename_i e; rw [upd_ne (fun e' => e e'.symm)]; exact h t
theorem alloc_ok {t : Nat} {tb : List LE} {tv : List LM} {bl : List (Nat × Nat)} {i : TyInfo} (hA : Agree X.P c) (hI : X.Inv tb tv bl none w) (ho : o.op = .alloc t) (hi : c.ty t = some i) (hdst : o.dst = some d) (hd : d < n) :
  O0 X.P n o s w (fun s' w' => s' = upd s d (.pointer (some ⟨w.heap.size, 0, none⟩)) ∧ X.Inv tb tv bl (some (w.heap.size, t)) w') := by
 obtain ⟨ti, ai⟩ := hA _ _ hi
 obtain ⟨z, hz, _, hz2, _, _⟩ := ai.zero
 refine O0.value (w' := w.alloc (.cells z.cells t)) hdst hd (by simp [execOp, ho, Instr.alloc, zeroValue, typeInfo, ai.info, hz, newVar, newRow]) ⟨rfl, hI.alloc ai.info ?_⟩
 have e : z.cells.size = z.cells.toList.length := Array.length_toList.symm
 rw [e, hz2, ai.zsz, ai.size]
theorem lone_ok (hO : X.Ok) (hA : Agree X.P c) (h : lone c X.ag n σ o = some σ') (hS : X.SI n σ s w) : O0 X.P n o s w (fun s' w' => X.SI n σ' s' w') := by
 obtain ⟨tv, bl, fr, hL, hn, hI, hH, hf⟩ := hS
 unfold lone at h
 split at h
 ·rename_i hdst
  split at h
  ·rename_i t x y ho
   split at h
   ·rename_i t' j i hx hy ht
    split at h
    ·rename_i hcc
     obtain ⟨rfl, hj, hall⟩ := hcc
     injection h with h
     subst h
     have hxx := hL x
     rw [hx] at hxx
     obtain ⟨b, hxb, rfl⟩ := hxx
     have hyy := hL y
     rw [hy] at hyy
     obtain ⟨tm, t1, t2⟩ := hyy
     have hjl : j < σ.tb.length := by rw [← hI.len]; exact (List.getElem?_eq_some_iff.1 t1).1
     obtain ⟨vs, v1, v2, v3⟩ := (hI.ent j _ tm (List.getElem?_eq_getElem hjl) t1).agx i.size hj
     obtain ⟨cur, bt, ti, b1, b2, b3, b4, b5, b6⟩ := hI.fresh b _ rfl
     obtain ⟨ti', ai⟩ := hA _ _ ht
     have eti : ti' = ti := by have := ai.info; rw [b2] at this; injection this with this; exact this.symm
     subst eti
     rw [v1] at t2
     have hr := run_storeVar_at X.P w b 0 bt _ ti' cur (.agg vs) b1 b2 (by show vs.size = _; rw [v2, ai.size]) (by show 0 + vs.size ≤ _; rw [b3, ai.size]; omega) (by show ∀ v ∈ vs.toList, _; exact v3)
     have ecs : (cur.toList.take 0 ++ (Value.agg vs).cells.toList ++ cur.toList.drop (0 + (Value.agg vs).cells.size)).toArray = vs := by
      rw [List.take_zero, List.nil_append, List.drop_eq_nil_of_le (by show cur.toList.length ≤ 0 + vs.size; rw [Array.length_toList]; have := ai.size; omega), List.append_nil]
      exact Array.toArray_toList
     rw [ecs] at hr
     have hm : Mod (fun k => k = b) w (w.setRow b vs) := ⟨rfl, rfl, rfl, by rw [setRow_size]; exact Nat.le_refl _, fun k _ hk => setRow_other w b k _ hk⟩
     refine O0.skip hdst (w' := w.setRow b vs) (by simp [execOp, ho, evs, hxb, t2, hr]) ⟨tv, (b, j) :: bl, none, fun t => ?_, hn, hI.store t1 v1 hm (setRow_heap w b cur _ bt _ b1), hH, fun _ => rfl⟩
     rw [lget]
     split
     ·rename_i e; subst e; exact ⟨b, hxb, List.mem_cons_self⟩
     ·rename_i e
      by_cases hu : lget σ.env t = .un
      ·rw [hu]; exact trivial
      ·have := List.all_eq_true.1 hall _ (lget_mem hu)
       have hnf : (lget σ.env t).isFb = false := by
        simp only [Bool.or_eq_true, Bool.not_eq_true', beq_iff_eq] at this
        exact this.resolve_right (fun e' => e e'.symm)
       have hl := hL t
       cases hlg : lget σ.env t with
       | fb ty => rw [hlg] at hnf; cases hnf
       | bx j' =>
        rw [hlg] at hl
        obtain ⟨b', q1, q2⟩ := hl
        exact ⟨b', q1, List.mem_cons_of_mem _ q2⟩
       | _ => rw [hlg] at hl; exact hl
    ·cases h
   ·cases h
  ·cases h
 ·rename_i d hdst
  split at h
  ·rename_i hd
   split at h
   ·rename_i t ho
    split at h
    ·rename_i i hi
     split at h
     ·rename_i hfr
      injection h with h
      subst h
      obtain rfl := hf hfr
      refine (alloc_ok (s := s) hA hI ho hi hdst hd).mono (fun s' w' h => ?_)
      obtain ⟨rfl, h2⟩ := h
      exact ⟨tv, bl, _, LR_put (fun t => (hL t).mono (List.prefix_refl _) (fun _ h => h) (fun _ _ e => by cases e)) ⟨_, rfl, rfl⟩, undef_upd hn hd _, h2, hH, fun e => by cases e⟩
     ·cases h
    ·cases h
   ·rename_i bt x ho
    split at h
    ·rename_i j hx
     split at h
     ·rename_i sz hj
      injection h with h
      subst h
      have hxx := hL x
      rw [hx] at hxx
      obtain ⟨tm, t1, t2⟩ := hxx
      have hjl : j < σ.tb.length := by rw [← hI.len]; exact (List.getElem?_eq_some_iff.1 t1).1
      obtain ⟨vs, v1, v2, v3⟩ := (hI.ent j _ tm (List.getElem?_eq_getElem hjl) t1).agx sz hj
      rw [v1] at t2
      refine O0.value (x := .pointer (some ⟨w.heap.size, 0, none⟩)) (w' := w.alloc (.cells vs bt)) hdst hd (by simp [execOp, ho, evs, t2, Instr.box, newVar, newRow, Value.cells]) ⟨tv, _, fr, LR_put (fun t => (hL t).mono (List.prefix_refl _) (fun p hp => List.mem_cons_of_mem _ hp) (fun _ _ e => e)) ⟨_, rfl, List.mem_cons_self⟩, undef_upd hn hd _, hI.box t1 v1, hH, hf⟩
     ·cases h
    ·cases h
   ·rename_i op hno1 hno2
    split at h
    ·rename_i v tb' evs' hop
     injection h with h
     subst h
     refine (lop_ok hO hA hI hop hH (fun x _ => hL x) hn hdst hd).mono (fun s' w' h => ?_)
     obtain ⟨x, tv', rfl, h1, h2, h3, h4⟩ := h
     exact ⟨tv', bl, fr, LR_put (fun t => (hL t).mono h1 (fun _ h => h) (fun _ _ e => e)) h2, undef_upd hn hd _, h3, h4, hf⟩
    ·cases h
  ·cases h
theorem R.guarded {P : Program} {l : List Oper} {K : (Nat → Value) → World → Prop} {b : Bool} {env : List (Nat × LV)} (hb : lguard ops env o = some b) (hs : ∀ t b, lget env t = .kb b → s t = .bool b)
  (h1 : b = true → O0 P n o s w (fun s' w' => R P n ops l s' w' K)) (h2 : b = false → ∃ d, o.dst = some d ∧ d < n ∧ R P n ops l (upd s d undef) w K) : R P n ops (o :: l) s w K := by
 intro Q hQ a ha
 refine wpList_step fun N hN => ?_
 have hw : Region.wanted o (yielded ops a.tmps) = b := by
  unfold lguard at hb
  unfold Region.wanted
  split at hb
  ·rename_i hg; injection hb with hb; rw [hg]; exact hb
  ·rename_i j b0 hg
   rw [hg]
   split at hb
   ·rename_i o' ho'
    split at hb
    ·rename_i d hd
     split at hb
     ·rename_i b' hl
      injection hb with hb
      have hsd := hs d b' hl
      have hlt : d < a.tmps.size := by
       rcases Nat.lt_or_ge d a.tmps.size with h | h
       ·exact h
       ·have := ha.at_ d
        rw [hsd, Array.getD_eq_getD_getElem?, Array.getElem?_eq_none h] at this
        cases this
      have hy : yielded ops a.tmps j = some b' := by
       have := ha.at_ d
       rw [Array.getD_eq_getD_getElem?, Array.getElem?_eq_getElem hlt] at this
       simp only [Option.getD_some] at this
       unfold yielded
       rw [ho']
       simp only [Option.bind_some, hd]
       rw [Array.getElem?_eq_getElem hlt, this, hsd]
      show (yielded ops a.tmps j == some b0) = b
      rw [← hb, hy]
      cases b' <;> cases b0 <;> rfl
     ·cases hb
    ·cases hb
   ·cases hb
 rw [hw]
 cases b with
 | true =>
  rw [if_pos rfl]
  exact h1 rfl a Q N (fun s' a' w' g1 g2 => hN _ _ (g2 Q hQ a' g1)) ha
 | false =>
  rw [if_neg (by decide)]
  obtain ⟨d, hd, hdn, hR⟩ := h2 rfl
  rw [hd]
  exact hN _ _ (hR Q hQ _ (ha.put hdn))
theorem lseq_ok (hO : X.Ok) (hA : Agree X.P c) {K : (Nat → Value) → World → Prop} : ∀ (l : List Oper) (σ : LS) (s : Nat → Value) (w : World), lseq c X.ag n ops l σ = some σ' → X.SI n σ s w → (∀ s' w', X.SI n σ' s' w' → K s' w') → R X.P n ops l s w K := by
 intro l
 induction l with
 | nil =>
  intro σ s w h hS hK
  injection h with h
  subst h
  exact R.nil (hK s w hS)
 | cons o l ih =>
  intro σ s w h hS hK
  rw [lseq] at h
  have hbool : ∀ t b, lget σ.env t = .kb b → s t = .bool b := fun t b ht => by
   obtain ⟨tv, bl, fr, hL, _⟩ := hS
   have := hL t
   rw [ht] at this
   exact this
  split at h
  ·rename_i hg
   split at h
   ·rename_i σ1 h1
    exact R.guarded hg hbool (fun _ => (lone_ok hO hA h1 hS).mono (fun s' w' h2 => ih σ1 s' w' h h2 hK)) (fun e => by cases e)
   ·cases h
  ·rename_i hg
   split at h
   ·rename_i d hd
    split at h
    ·rename_i hdn
     refine R.guarded hg hbool (fun e => by cases e) (fun _ => ⟨d, hd, hdn, ih _ _ _ h ?_ hK⟩)
     obtain ⟨tv, bl, fr, hL, hn, hI, hH, hf⟩ := hS
     exact ⟨tv, bl, fr, LR_put hL trivial, undef_upd hn hdn _, hI, hH, hf⟩
    ·cases h
   ·cases h
  ·cases h
end
end Go.Am
end
section
set_option linter.unusedVariables false
set_option linter.unusedSimpArgs false
namespace Go.Am
open Go Go.RowKit
def isLoud : Op → Bool
 | .call _ => true
 | .binOp .neq _ _ _ _ => true
 | _ => false
def isAlloc : Op → Bool
 | .alloc _ => true
 | _ => false
def isBox : Op → Bool
 | .box _ _ => true
 | _ => false
def edgeTo (o : Oper) (k : Nat) : Bool := o.after.toList.any fun e => e.on == k && Region.binds .any e
def loudAt (ops : Array Oper) (k : Nat) : Bool := match ops[k]? with
 | some o => isLoud o.op
 | none => false
def allocAt (ops : Array Oper) (k : Nat) : Bool := match ops[k]? with
 | some o => isAlloc o.op
 | none => false
def prevLoud (ops : Array Oper) : Nat → Option Nat
 | 0 => none
 | i + 1 => if loudAt ops i = true then some i else prevLoud ops i
def lfold (c : Cfg) (ag : List (Option Nat)) (n : Nat) : List Oper → LS → Option LS
 | [], σ => some σ
 | o :: os, σ => match lone c ag n σ o with
  | some σ' => lfold c ag n os σ'
  | none => none
def ldrawOk (ops : Array Oper) (m : Nat) : Bool :=
 decide ((dstsOf (ops.toList.take m)).Nodup) && ((List.range m).all fun i => (List.range m).all fun j => !(allocAt ops i && allocAt ops j) || i == j) && ((List.range ops.size).all fun j => match ops[j]? with
  | some o => o.after.toList.all (fun e => decide (e.on < j)) && o.guard.isNone
  | none => true) && (List.range m).all fun j => match ops[j]? with
  | some o => o.dst.isSome && !isBox o.op && (match prevLoud ops j with
    | some k => !isLoud o.op || edgeTo o k
    | none => true) && o.op.operands.toList.all fun
   | .tmp x => !(dstsOf (ops.toList.take m)).contains x || o.after.toList.any fun e => Region.binds .any e && (match ops[e.on]? with
    | some o' => o'.dst == some x
    | none => false)
   | _ => true
  | none => true
def ldraw (c : Cfg) (ag : List (Option Nat)) (n : Nat) (ops : Array Oper) (σ : LS) : Option LS :=
 if σ.fr = true then none else
 if ldrawOk ops ops.size = true then lfold c ag n ops.toList σ else
 if ldrawOk ops (ops.size - 1) = true ∧ 0 < ops.size then (match ops[ops.size - 1]? with
  | some o => if (List.range (ops.size - 1)).all (edgeTo o) = true then (match lfold c ag n (ops.toList.take (ops.size - 1)) σ with
   | some σp => lone c ag n σp o
   | none => none) else none
  | none => none) else none
section
variable {X : LX} {c : Cfg} {n d : Nat} {s : Nat → Value} {w w' : World} {o : Oper} {σ σ' : LS} {ops : Array Oper}
theorem lop_quiet {ag : List (Option Nat)} {g : Nat → LV} {tb tb' : List LE} {e e' : List LC} {op : Op} {v : LV} (h : lop c ag g tb e op = some (v, tb', e')) (hq : isLoud op = false) : tb' = tb ∧ e' = e ∧ ∀ tb2 e2, lop c ag g tb2 e2 op = some (v, tb2, e2) := by
 unfold lop at h
 split at h
 ·split at h
  ·rename_i v1 hv
   split at h
   ·rename_i hf
    simp only [Option.some.injEq, Prod.mk.injEq] at h
    obtain ⟨rfl, rfl, rfl⟩ := h
    exact ⟨rfl, rfl, fun tb2 e2 => by simp only [lop, hv, hf, if_true]⟩
   ·cases h
  ·cases h
 ·split at h
  ·rename_i v1 hv
   split at h
   ·rename_i hf
    simp only [Option.some.injEq, Prod.mk.injEq] at h
    obtain ⟨rfl, rfl, rfl⟩ := h
    exact ⟨rfl, rfl, fun tb2 e2 => by simp only [lop, hv, hf, if_true]⟩
   ·cases h
  ·cases h
 ·split at h
  ·rename_i j i hx ht
   split at h
   ·rename_i hcc
    simp only [Option.some.injEq, Prod.mk.injEq] at h
    obtain ⟨rfl, rfl, rfl⟩ := h
    exact ⟨rfl, rfl, fun tb2 e2 => by simp only [lop, hx, ht, hcc, and_self, if_true]⟩
   ·cases h
  ·cases h
 ·split at h
  ·rename_i b hx
   simp only [Option.some.injEq, Prod.mk.injEq] at h
   obtain ⟨rfl, rfl, rfl⟩ := h
   exact ⟨rfl, rfl, fun tb2 e2 => by simp only [lop, hx]⟩
  ·cases h
 ·split at h
  ·rename_i b hb
   split at h
   ·rename_i v1 hv
    split at h
    ·rename_i hf
     simp only [Option.some.injEq, Prod.mk.injEq] at h
     obtain ⟨rfl, rfl, rfl⟩ := h
     exact ⟨rfl, rfl, fun tb2 e2 => by simp only [lop, hb, hv, hf, if_true]⟩
    ·cases h
   ·cases h
  ·cases h
 ·split at h
  ·rename_i v1 hv
   simp only [Option.some.injEq, Prod.mk.injEq] at h
   obtain ⟨rfl, rfl, rfl⟩ := h
   exact ⟨rfl, rfl, fun tb2 e2 => by simp only [lop, hv]⟩
  ·cases h
 ·cases hq
 ·cases hq
 ·cases hq
 ·split at h
  ·rename_i js hx
   split at h
   ·rename_i j hj
    simp only [Option.some.injEq, Prod.mk.injEq] at h
    obtain ⟨rfl, rfl, rfl⟩ := h
    exact ⟨rfl, rfl, fun tb2 e2 => by simp only [lop, hx, hj]⟩
   ·cases h
  ·cases h
 ·cases h
theorem lone_dst {ag : List (Option Nat)} (h : lone c ag n σ o = some σ') (hd : o.dst = some d) (hb : isBox o.op = false) : d < n ∧ ∃ v, σ'.env = (d, v) :: σ.env ∧ (isLoud o.op = false → σ'.tb = σ.tb ∧ σ'.evs = σ.evs) ∧ (isAlloc o.op = true → σ.fr = false ∧ σ'.fr = true) ∧ (isAlloc o.op = false → σ'.fr = σ.fr) := by
 unfold lone at h
 rw [hd] at h
 simp only at h
 split at h
 ·rename_i hdn
  refine ⟨hdn, ?_⟩
  split at h
  ·rename_i t ho
   split at h
   ·split at h
    ·rename_i hf
     injection h with h
     subst h
     exact ⟨_, rfl, fun _ => ⟨rfl, rfl⟩, fun _ => ⟨hf, rfl⟩, fun e => by rw [ho] at e; cases e⟩
    ·cases h
   ·cases h
  ·rename_i bt x ho
   rw [ho] at hb
   cases hb
  ·rename_i op hno1 hno2
   split at h
   ·rename_i v tb' evs' hop
    injection h with h
    subst h
    refine ⟨v, rfl, fun hq => ?_, fun ha => ?_, fun _ => rfl⟩
    ·obtain ⟨e1, e2, _⟩ := lop_quiet hop hq
     exact ⟨e1, e2⟩
    ·cases hop' : o.op with
     | alloc t => exact absurd hop' (hno1 t)
     | _ => rw [hop'] at ha; cases ha
   ·cases h
 ·cases h
theorem lfold_take {ag : List (Option Nat)} : ∀ (l : List Oper) (σ σ' : LS), lfold c ag n l σ = some σ' → ∀ j o, l[j]? = some o → ∃ σj σj', lfold c ag n (l.take j) σ = some σj ∧ lone c ag n σj o = some σj' ∧ lfold c ag n (l.take (j + 1)) σ = some σj' ∧ lfold c ag n (l.drop (j + 1)) σj' = some σ' := by
 intro l
 induction l with
 | nil => intro σ σ' h j o hj; simp at hj
 | cons o l ih =>
  intro σ σ' h j o' hj
  rw [lfold] at h
  split at h
  ·rename_i σ1 h1
   cases j with
   | zero =>
    simp only [List.getElem?_cons_zero, Option.some.injEq] at hj
    subst hj
    exact ⟨σ, σ1, rfl, h1, by simp [lfold, h1], by simpa using h⟩
   | succ j =>
    obtain ⟨σj, σj', a1, a2, a3, a4⟩ := ih σ1 σ' h j o' (by simpa using hj)
    exact ⟨σj, σj', by simp [lfold, h1, a1], a2, by simp [lfold, h1, a3], by simpa using a4⟩
  ·cases h
def plainOps (l : List Oper) : Prop := ∀ o ∈ l, (∃ d, o.dst = some d) ∧ isBox o.op = false
theorem lfold_env {ag : List (Option Nat)} : ∀ (l : List Oper) (σ σ' : LS), lfold c ag n l σ = some σ' → plainOps l → (∀ t, t ∉ dstsOf l → lget σ'.env t = lget σ.env t) ∧ ((∀ o ∈ l, isLoud o.op = false) → σ'.tb = σ.tb ∧ σ'.evs = σ.evs) ∧ (σ.fr = true → σ'.fr = true) ∧ ((∀ o ∈ l, isAlloc o.op = false) → σ'.fr = σ.fr) := by
 intro l
 induction l with
 | nil => intro σ σ' h _; injection h with h; subst h; exact ⟨fun _ _ => rfl, fun _ => ⟨rfl, rfl⟩, fun h => h, fun _ => rfl⟩
 | cons o l ih =>
  intro σ σ' h hp
  rw [lfold] at h
  split at h
  ·rename_i σ1 h1
   obtain ⟨⟨d, hd⟩, hb⟩ := hp o List.mem_cons_self
   obtain ⟨hdn, v, b1, b2, b3, b4⟩ := lone_dst h1 hd hb
   obtain ⟨i1, i2, i3, i4⟩ := ih σ1 σ' h (fun o ho => hp o (List.mem_cons_of_mem _ ho))
   have hds : dstsOf (o :: l) = d :: dstsOf l := by simp [dstsOf, hd]
   refine ⟨fun t ht => ?_, fun hl => ?_, fun hf => ?_, fun ha => ?_⟩
   ·rw [hds, List.mem_cons, not_or] at ht
    rw [i1 t ht.2, b1, lget, if_neg (fun e => ht.1 e.symm)]
   ·obtain ⟨c1, c2⟩ := b2 (hl o List.mem_cons_self)
    obtain ⟨c3, c4⟩ := i2 (fun o ho => hl o (List.mem_cons_of_mem _ ho))
    exact ⟨c3.trans c1, c4.trans c2⟩
   ·cases ha : isAlloc o.op with
    | true => have := (b3 ha).1; rw [hf] at this; cases this
    | false => exact i3 ((b4 ha).trans hf)
   ·exact (i4 (fun o ho => ha o (List.mem_cons_of_mem _ ho))).trans (b4 (ha o List.mem_cons_self))
  ·cases h
theorem prevLoud_lt : ∀ {i k : Nat}, prevLoud ops i = some k → k < i ∧ loudAt ops k = true ∧ ∀ j, k < j → j < i → loudAt ops j = false := by
 intro i
 induction i with
 | zero => intro k h; cases h
 | succ i ih =>
  intro k h
  rw [prevLoud] at h
  split at h
  ·rename_i hl
   injection h with h
   subst h
   exact ⟨Nat.lt_succ_self _, hl, fun j h1 h2 => by omega⟩
  ·rename_i hl
   obtain ⟨a1, a2, a3⟩ := ih h
   refine ⟨by omega, a2, fun j h1 h2 => ?_⟩
   by_cases e : j = i
   ·subst e; simpa using hl
   ·exact a3 j h1 (by omega)
theorem prevLoud_none : ∀ {i : Nat}, prevLoud ops i = none → ∀ j, j < i → loudAt ops j = false := by
 intro i
 induction i with
 | zero => intro _ j hj; omega
 | succ i ih =>
  intro h j hj
  rw [prevLoud] at h
  split at h
  ·cases h
  ·rename_i hl
   by_cases e : j = i
   ·subst e; simpa using hl
   ·exact ih h j (by omega)
def LX.Half (X : LX) (c : Cfg) (n : Nat) (ops : Array Oper) (m : Nat) (σ0 σp : LS) (listed : Array Bool) (s : Nat → Value) (w : World) : Prop :=
 (∀ i, n ≤ i → s i = undef) ∧ ∃ (q : Nat) (σq : LS) (tv : List LM) (bl : List (Nat × Nat)) (fr : Option (Nat × Nat)), q ≤ m ∧ lfold c X.ag n (ops.toList.take q) σ0 = some σq ∧ (∀ i, i < m → loudAt ops i = true → (listed.getD i false = true ↔ i < q)) ∧ X.Inv σq.tb tv bl fr w ∧ X.H σq.evs ∧
 (∀ t, t ∉ dstsOf (ops.toList.take m) → X.LR tv bl fr (lget σ0.env t) (s t)) ∧ (∀ (j : Nat) (o : Oper) (d : Nat), j < m → ops[j]? = some o → o.dst = some d → listed.getD j false = true → X.LR tv bl fr (lget σp.env d) (s d)) ∧
 (fr = none ∨ ∃ j, j < m ∧ allocAt ops j = true ∧ listed.getD j false = true)
theorem loud_none {m q i : Nat} {σq σi : LS} {ag : List (Option Nat)} {σ0 : LS} (hp : plainOps (ops.toList.take m)) (hq : lfold c ag n (ops.toList.take q) σ0 = some σq) (hi : lfold c ag n (ops.toList.take i) σ0 = some σi) (hqi : q ≤ i) (him : i ≤ m) (hl : ∀ j, q ≤ j → j < i → loudAt ops j = false) : σi.tb = σq.tb ∧ σi.evs = σq.evs := by
 have app : ∀ (a b : List Oper) (σ : LS), lfold c ag n (a ++ b) σ = (lfold c ag n a σ).bind (fun σ => lfold c ag n b σ) := by
  intro a b
  induction a with
  | nil => intro σ; rfl
  | cons o a ih =>
   intro σ
   rw [List.cons_append, lfold, lfold]
   cases lone c ag n σ o with
   | none => rfl
   | some σ1 => exact ih σ1
 have e : ops.toList.take i = ops.toList.take q ++ (ops.toList.take i).drop q := by
  have := (List.take_append_drop q (ops.toList.take i)).symm
  rw [List.take_take, Nat.min_eq_left hqi] at this
  exact this
 rw [e, app, hq] at hi
 have hi : lfold c ag n ((ops.toList.take i).drop q) σq = some σi := hi
 have sub : ∀ o ∈ (ops.toList.take i).drop q, ∃ j, q ≤ j ∧ j < i ∧ ops[j]? = some o := fun o ho => by
  obtain ⟨j, hj⟩ := List.getElem?_of_mem ho
  rw [List.getElem?_drop] at hj
  have hlt := (List.getElem?_eq_some_iff.1 hj).1
  rw [List.length_take] at hlt
  rw [List.getElem?_take_of_lt (by omega)] at hj
  exact ⟨q + j, by omega, by omega, by simpa using hj⟩
 refine (lfold_env _ _ _ hi (fun o ho => ?_)).2.1 (fun o ho => ?_)
 ·obtain ⟨j, h1, h2, h3⟩ := sub o ho
  refine hp o (List.mem_of_getElem? (i := j) ?_)
  rw [List.getElem?_take_of_lt (by omega)]
  simpa using h3
 ·obtain ⟨j, h1, h2, h3⟩ := sub o ho
  have := hl j h1 h2
  unfold loudAt at this
  rw [h3] at this
  exact this
theorem getD_set (l : Array Bool) (i j : Nat) (h : i < l.size) : (l.setIfInBounds i true).getD j false = if i = j then true else l.getD j false := by
 simp only [Array.getD_eq_getD_getElem?, Array.getElem?_setIfInBounds]
 split
 ·rename_i e; subst e; simp [h]
 ·rfl
structure LDraw (ops : Array Oper) (m : Nat) : Prop where
  nodup : (dstsOf (ops.toList.take m)).Nodup
  one : ∀ i j, i < m → j < m → allocAt ops i = true → allocAt ops j = true → i = j
  back : ∀ (j : Nat) (o : Oper), ops[j]? = some o → (∀ e ∈ o.after.toList, e.on < j) ∧ o.guard = none
  at_ : ∀ (j : Nat) (o : Oper), j < m → ops[j]? = some o → (∃ d, o.dst = some d) ∧ isBox o.op = false ∧ (∀ k, prevLoud ops j = some k → isLoud o.op = true → edgeTo o k = true) ∧
    ∀ x, .tmp x ∈ o.op.operands.toList → x ∉ dstsOf (ops.toList.take m) ∨ ∃ e ∈ o.after.toList, Region.binds .any e = true ∧ ∃ o', ops[e.on]? = some o' ∧ o'.dst = some x
theorem drawOk_inv {m : Nat} (hm : m ≤ ops.size) (h : ldrawOk ops m = true) : LDraw ops m := by
 unfold ldrawOk at h
 simp only [Bool.and_eq_true, decide_eq_true_eq, List.all_eq_true] at h
 obtain ⟨⟨⟨h1, h2⟩, h3⟩, h4⟩ := h
 refine ⟨h1, fun i j hi hj ha hb => ?_, fun j o ho => ?_, fun j o hj ho => ?_⟩
 ·have := h2 i (List.mem_range.2 hi) j (List.mem_range.2 hj)
  rw [ha, hb] at this
  simpa using this
 ·have := h3 j (List.mem_range.2 (Array.getElem?_eq_some_iff.1 ho).1)
  rw [ho] at this
  simp only [Bool.and_eq_true, List.all_eq_true, decide_eq_true_eq] at this
  refine ⟨this.1, ?_⟩
  cases hg : o.guard with
  | none => rfl
  | some _ => rw [hg] at this; cases this.2
 ·have := h4 j (List.mem_range.2 hj)
  rw [ho] at this
  simp only [Bool.and_eq_true, List.all_eq_true] at this
  obtain ⟨⟨⟨a1, a2⟩, a3⟩, a4⟩ := this
  refine ⟨?_, by simpa using a2, fun k hk hl => ?_, fun x hx => ?_⟩
  ·cases hd : o.dst with
   | none => rw [hd] at a1; cases a1
   | some d => exact ⟨d, rfl⟩
  ·rw [hk, hl] at a3
   simpa using a3
  ·have h2 := a4 _ hx
   simp only [Bool.or_eq_true, Bool.not_eq_true', List.any_eq_true, Bool.and_eq_true] at h2
   rcases h2 with h2 | ⟨e, he, hb, h2⟩
   ·exact .inl (fun hm => by rw [List.contains_iff_mem.2 hm] at h2; cases h2)
   ·refine .inr ⟨e, he, hb, ?_⟩
    split at h2
    ·rename_i o' ho'
     exact ⟨o', ho', by simpa using h2⟩
    ·cases h2
theorem LDraw.plain {m : Nat} (h : LDraw ops m) : plainOps (ops.toList.take m) := fun o ho => by
 obtain ⟨j, hj⟩ := List.getElem?_of_mem ho
 have hlt := (List.getElem?_eq_some_iff.1 hj).1
 rw [List.length_take] at hlt
 rw [List.getElem?_take_of_lt (by omega)] at hj
 obtain ⟨h1, h2, _⟩ := h.at_ j o (by omega) (by simpa using hj)
 exact ⟨h1, h2⟩
theorem LDraw.inj {m : Nat} (h : LDraw ops m) {i j : Nat} {x y : Oper} {d : Nat} (hi : i < m) (hj : j < m) (h1 : ops[i]? = some x) (h2 : ops[j]? = some y) (h3 : x.dst = some d) (h4 : y.dst = some d) : i = j :=
 nodup_filterMap_inj h.nodup i j x y d (by rw [List.getElem?_take_of_lt hi]; simpa using h1) (by rw [List.getElem?_take_of_lt hj]; simpa using h2) h3 h4
theorem mem_dsts {m j : Nat} {o : Oper} {d : Nat} (hj : j < m) (h1 : ops[j]? = some o) (h2 : o.dst = some d) : d ∈ dstsOf (ops.toList.take m) :=
 List.mem_filterMap.2 ⟨o, List.mem_of_getElem? (i := j) (by rw [List.getElem?_take_of_lt hj]; simpa using h1), h2⟩
theorem half_step {m i : Nat} {σ0 σp : LS} {listed : Array Bool} (hO : X.Ok) (hA : Agree X.P c) (hk : LDraw ops m) (hm : m ≤ ops.size) (hf : lfold c X.ag n (ops.toList.take m) σ0 = some σp) (hI : X.Half c n ops m σ0 σp listed s w) (ho : ops[i]? = some o) (him : i < m) (hli : listed.getD i true = false) (hsz : listed.size = ops.size)
  (hedges : ∀ e ∈ o.after.toList, Region.binds .any e = true → listed.getD e.on false = true) : O1 X.P n o s w (fun s' w' => X.Half c n ops m σ0 σp (listed.setIfInBounds i true) s' w') := by
 obtain ⟨hn, q, σq, tv, bl, fr, hqm, hq, hloud, hInv, hH, S1, S2, hfr⟩ := hI
 obtain ⟨⟨d, hd⟩, hbox, hprev, hopd⟩ := hk.at_ i o him ho
 obtain ⟨hback, hguard⟩ := hk.back i o ho
 refine ⟨hguard, ?_⟩
 have hil : i < listed.size := by omega
 have hli' : listed.getD i false = false := by simpa [hil] using hli
 have hol : (ops.toList.take m)[i]? = some o := by rw [List.getElem?_take_of_lt him]; simpa using ho
 obtain ⟨σi, σi', f1, f2, f3, f4⟩ := lfold_take _ _ _ hf i o hol
 rw [List.take_take, Nat.min_eq_left (by omega)] at f1 f3
 obtain ⟨hdn, v, e1, e2, e3, e4⟩ := lone_dst f2 hd hbox
 have tailp : plainOps ((ops.toList.take m).drop (i + 1)) := fun o ho => hk.plain o (List.mem_of_mem_drop ho)
 obtain ⟨t1, t2, t3, t4⟩ := lfold_env _ _ _ f4 tailp
 -- where a slot is written
 have notLater : ∀ x, (x ∉ dstsOf (ops.toList.take m) ∨ ∃ k o', k ≤ i ∧ ops[k]? = some o' ∧ o'.dst = some x) → x ∉ dstsOf ((ops.toList.take m).drop (i + 1)) := by
  intro x hx hmem
  obtain ⟨y, hy, hyd⟩ := List.mem_filterMap.1 hmem
  obtain ⟨p, hp⟩ := List.getElem?_of_mem hy
  rw [List.getElem?_drop] at hp
  have hplt := (List.getElem?_eq_some_iff.1 hp).1
  rw [List.length_take] at hplt
  rw [List.getElem?_take_of_lt (by omega)] at hp
  rcases hx with hno | ⟨k, o', hki, hok, hdk⟩
  ·exact hno (mem_dsts (j := i + 1 + p) (by omega) (by simpa using hp) hyd)
  ·have := hk.inj (i := k) (j := i + 1 + p) (by omega) (by omega) hok (by simpa using hp) hdk hyd
   omega
 have hvd : lget σp.env d = v := by
  rw [t1 d (notLater d (.inr ⟨i, o, Nat.le_refl _, ho, hd⟩)), e1, lget, if_pos rfl]
 have tailq : plainOps ((ops.toList.take m).drop i) := fun o ho => hk.plain o (List.mem_of_mem_drop ho)
 have hops : ∀ x, .tmp x ∈ o.op.operands.toList → X.LR tv bl fr (lget σi.env x) (s x) := by
  intro x hx
  rcases hopd x hx with hno | ⟨e, he, hb, o', ho', hd'⟩
  ·have h0 : lget σi.env x = lget σ0.env x := (lfold_env _ _ _ f1 (fun o ho => hk.plain o (by
    obtain ⟨p, hp⟩ := List.getElem?_of_mem ho
    have hplt := (List.getElem?_eq_some_iff.1 hp).1
    rw [List.length_take] at hplt
    rw [List.getElem?_take_of_lt (by omega)] at hp
    exact List.mem_of_getElem? (i := p) (by rw [List.getElem?_take_of_lt (by omega)]; exact hp)))).1 x (fun hmem => by
     obtain ⟨y, hy, hyd⟩ := List.mem_filterMap.1 hmem
     obtain ⟨p, hp⟩ := List.getElem?_of_mem hy
     have hplt := (List.getElem?_eq_some_iff.1 hp).1
     rw [List.length_take] at hplt
     rw [List.getElem?_take_of_lt (by omega)] at hp
     exact hno (mem_dsts (j := p) (by omega) (by simpa using hp) hyd))
   rw [h0]
   exact S1 x hno
  ·have hlt := hback e he
   have hne : x ≠ d := fun ee => by
    have := hk.inj (i := e.on) (j := i) (by omega) him ho' ho hd' (by rw [hd, ee])
    omega
   have hx2 : lget σp.env x = lget σi.env x := by
    rw [t1 x (notLater x (.inr ⟨e.on, o', by omega, ho', hd'⟩)), e1, lget, if_neg (fun ee => hne ee.symm)]
   rw [← hx2]
   exact S2 e.on o' x (by omega) ho' hd' (hedges e he hb)
 have hset : ∀ j, (listed.setIfInBounds i true).getD j false = if i = j then true else listed.getD j false := fun j => getD_set listed i j hil
 -- the slots afterwards
 have slots : ∀ {x : Value} {tv' : List LM} {fr' : Option (Nat × Nat)}, tv <+: tv' → (∀ b ty, fr = some (b, ty) → fr' = some (b, ty)) → X.LR tv' bl fr' v x →
   (∀ t, t ∉ dstsOf (ops.toList.take m) → X.LR tv' bl fr' (lget σ0.env t) (upd s d x t)) ∧ (∀ (j : Nat) (o : Oper) (t : Nat), j < m → ops[j]? = some o → o.dst = some t → (listed.setIfInBounds i true).getD j false = true → X.LR tv' bl fr' (lget σp.env t) (upd s d x t)) := by
  intro x tv' fr' hp1 hp2 hx
  refine ⟨fun t ht => ?_, fun j o' t hj hoj hdj hl => ?_⟩
  ·rw [upd_ne (fun e => ht (by rw [e]; exact mem_dsts him ho hd))]
   exact (S1 t ht).mono hp1 (fun _ h => h) hp2
  ·by_cases e : j = i
   ·subst e
    rw [ho] at hoj
    injection hoj with hoj
    subst hoj
    rw [hd] at hdj
    injection hdj with hdj
    subst hdj
    rw [upd_same, hvd]
    exact hx
   ·rw [upd_ne (fun e2 : t = d => e (hk.inj hj him hoj ho hdj (by rw [e2]; exact hd)))]
    rw [hset, if_neg (Ne.symm e)] at hl
    exact (S2 j o' t hj hoj hdj hl).mono hp1 (fun _ h => h) hp2
 have frk : fr = none ∨ ∃ j, j < m ∧ allocAt ops j = true ∧ (listed.setIfInBounds i true).getD j false = true := hfr.imp (fun h => h) (fun ⟨j, h1, h2, h3⟩ => ⟨j, h1, h2, by rw [hset]; split <;> first | rfl | exact h3⟩)
 have hloi : loudAt ops i = isLoud o.op := by unfold loudAt; rw [ho]
 have hali : allocAt ops i = isAlloc o.op := by unfold allocAt; rw [ho]
 cases hal : isAlloc o.op with
 | true =>
  -- an empty box
  obtain ⟨ty, hop⟩ : ∃ ty, o.op = .alloc ty := by
   cases hop : o.op with
   | alloc ty => exact ⟨ty, rfl⟩
   | _ => rw [hop] at hal; cases hal
  have hnl : isLoud o.op = false := by rw [hop]; rfl
  obtain rfl : fr = none := by
   rcases hfr with h | ⟨j, h1, h2, h3⟩
   ·exact h
   ·have := hk.one j i h1 him h2 (by rw [hali, hal])
    subst this
    rw [hli'] at h3
    cases h3
  unfold lone at f2
  rw [hd] at f2
  simp only [if_pos hdn, hop] at f2
  split at f2
  ·rename_i ii hi
   split at f2
   ·injection f2 with f2
    have hv : v = .fb ty := by
     rw [← f2] at e1
     simp only [List.cons.injEq, Prod.mk.injEq, true_and, and_true] at e1
     exact e1.symm
    refine (alloc_ok (s := s) hA hInv hop hi hd hdn).mono (fun s' w' h => ?_)
    obtain ⟨rfl, h2⟩ := h
    obtain ⟨g1, g2⟩ := slots (fr' := some (w.heap.size, ty)) (List.prefix_refl _) (fun _ _ e => by cases e) (show X.LR tv bl _ v _ by rw [hv]; exact ⟨_, rfl, rfl⟩)
    refine ⟨undef_upd hn hdn _, q, σq, tv, bl, _, hqm, hq, fun j hj hl => ?_, h2, hH, g1, g2, .inr ⟨i, him, by rw [hali, hal], by rw [hset, if_pos rfl]⟩⟩
    rw [hset, if_neg (fun e => by subst e; rw [hloi, hnl] at hl; cases hl)]
    exact hloud j hj hl
   ·cases f2
  ·cases f2
 | false =>
  have hlop : lop c X.ag (lget σi.env) σi.tb σi.evs o.op = some (v, σi'.tb, σi'.evs) := by
   unfold lone at f2
   rw [hd] at f2
   simp only [if_pos hdn] at f2
   split at f2
   ·rename_i ty hop; rw [hop] at hal; cases hal
   ·rename_i bt x hop; rw [hop] at hbox; cases hbox
   ·split at f2
    ·rename_i v1 tb1 ev1 hop
     injection f2 with f2
     subst f2
     simp only [List.cons.injEq, Prod.mk.injEq, true_and, and_true] at e1
     rw [hop, e1]
    ·cases f2
  cases hll : isLoud o.op with
  | false =>
   obtain ⟨_, _, hany⟩ := lop_quiet hlop hll
   refine (lop_ok hO hA hInv (hany σq.tb σq.evs) hH hops hn hd hdn).mono (fun s' w' h => ?_)
   obtain ⟨x, tv', rfl, h1, h2, h3, h4⟩ := h
   obtain ⟨g1, g2⟩ := slots (fr' := fr) h1 (fun _ _ e => e) h2
   refine ⟨undef_upd hn hdn _, q, σq, tv', bl, fr, hqm, hq, fun j hj hl => ?_, h3, h4, g1, g2, frk⟩
   rw [hset, if_neg (fun e => by subst e; rw [hloi, hll] at hl; cases hl)]
   exact hloud j hj hl
  | true =>
   have hiq : q ≤ i := by
    rcases Nat.lt_or_ge i q with h | h
    ·have := (hloud i him (by rw [hloi, hll])).2 h
     rw [hli'] at this
     cases this
    ·exact h
   have hbetween : ∀ j, q ≤ j → j < i → loudAt ops j = false := by
    intro j h1 h2
    cases hp : prevLoud ops i with
    | none => exact prevLoud_none hp j h2
    | some k =>
     obtain ⟨k1, k2, k3⟩ := prevLoud_lt hp
     have hed := hprev k hp hll
     unfold edgeTo at hed
     rw [List.any_eq_true] at hed
     obtain ⟨e, he, hee⟩ := hed
     simp only [Bool.and_eq_true, beq_iff_eq] at hee
     have hlk := hedges e he hee.2
     rw [hee.1] at hlk
     have hkq := (hloud k (by omega) k2).1 hlk
     exact k3 j (by omega) h2
   obtain ⟨s1, s2⟩ := loud_none hk.plain hq f1 hiq (Nat.le_of_lt him) hbetween
   rw [s1, s2] at hlop
   refine (lop_ok hO hA hInv hlop hH hops hn hd hdn).mono (fun s' w' h => ?_)
   obtain ⟨x, tv', rfl, h1, h2, h3, h4⟩ := h
   obtain ⟨g1, g2⟩ := slots (fr' := fr) h1 (fun _ _ e => e) h2
   refine ⟨undef_upd hn hdn _, i + 1, σi', tv', bl, fr, by omega, f3, fun j hj hl => ?_, h3, h4, g1, g2, frk⟩
   rw [hset]
   by_cases e : i = j
   ·rw [if_pos e]; exact ⟨fun _ => by omega, fun _ => rfl⟩
   ·rw [if_neg e, hloud j hj hl]
    refine ⟨fun h => by omega, fun h => ?_⟩
    rcases Nat.lt_or_ge j q with h' | h'
    ·exact h'
    ·have := hbetween j h' (by omega)
     rw [hl] at this
     cases this
theorem half_all {m : Nat} {σ0 σp : LS} {listed : Array Bool} (hk : LDraw ops m) (hm : m ≤ ops.size) (hf : lfold c X.ag n (ops.toList.take m) σ0 = some σp) (hI : X.Half c n ops m σ0 σp listed s w) (hl : ∀ j, j < m → listed.getD j false = true) : X.SI n σp s w := by
 obtain ⟨hn, q, σq, tv, bl, fr, hqm, hq, hloud, hInv, hH, S1, S2, hfr⟩ := hI
 obtain ⟨s1, s2⟩ := loud_none hk.plain hq hf hqm (Nat.le_refl _) (fun j h1 h2 => by
  cases hc : loudAt ops j with
  | false => rfl
  | true => have := (hloud j h2 hc).1 (hl j h2); omega)
 obtain ⟨a1, a2, a3, a4⟩ := lfold_env _ _ _ hf hk.plain
 refine ⟨tv, bl, fr, fun t => ?_, hn, by rw [s1]; exact hInv, by rw [s2]; exact hH, fun hfr0 => ?_⟩
 ·by_cases ht : t ∈ dstsOf (ops.toList.take m)
  ·obtain ⟨o, ho, hd⟩ := List.mem_filterMap.1 ht
   obtain ⟨j, hj⟩ := List.getElem?_of_mem ho
   have hlt := (List.getElem?_eq_some_iff.1 hj).1
   rw [List.length_take] at hlt
   rw [List.getElem?_take_of_lt (by omega)] at hj
   exact S2 j o t (by omega) (by simpa using hj) hd (hl j (by omega))
  ·rw [a1 t ht]; exact S1 t ht
 ·rcases hfr with h | ⟨j, h1, h2, h3⟩
  ·exact h
  ·exfalso
   obtain ⟨o, ho⟩ : ∃ o, ops[j]? = some o := ⟨_, Array.getElem?_eq_getElem (by omega)⟩
   have hol : (ops.toList.take m)[j]? = some o := by rw [List.getElem?_take_of_lt h1]; simpa using ho
   obtain ⟨σj, σj', f1, f2, f3, f4⟩ := lfold_take _ _ _ hf j o hol
   obtain ⟨⟨d, hd⟩, hbox, _, _⟩ := hk.at_ j o h1 ho
   obtain ⟨_, v, _, _, e3, _⟩ := lone_dst f2 hd hbox
   have : isAlloc o.op = true := by unfold allocAt at h2; rw [ho] at h2; exact h2
   have := (lfold_env _ _ _ f4 (fun o ho => hk.plain o (List.mem_of_mem_drop ho))).2.2.1 (e3 this).2
   rw [hfr0] at this
   cases this
theorem half_start {m : Nat} {σ0 σp : LS} {k : Nat} (hS : X.SI n σ0 s w) (hf : σ0.fr = false) {w' : World} (hw : Kept w w') : X.Half c n ops m σ0 σp (Array.replicate k false) s w' := by
 obtain ⟨tv, bl, fr, hL, hn, hI, hH, hfr⟩ := hS
 obtain rfl := hfr hf
 have hz : ∀ j, (Array.replicate k false).getD j false = false := fun j => by
  rw [Array.getD_eq_getD_getElem?, Array.getElem?_replicate]
  split <;> rfl
 have hz' : ∀ j, (Array.replicate k false).getD j false = true → False := fun j h => by rw [hz] at h; cases h
 exact ⟨hn, 0, σ0, tv, bl, none, Nat.zero_le _, by rw [List.take_zero]; rfl, fun i _ _ => ⟨fun h => (hz' i h).elim, fun h => absurd h (Nat.not_lt_zero _)⟩, hI.grow hw, hH, fun t _ => hL t, fun j o d _ _ _ h => (hz' j h).elim, .inl rfl⟩
theorem ldraw_ok {id : Nat} {J : Exit → (Nat → Value) → World → Prop} (hmx : X.P.follows .mixedOrders = true) (hO : X.Ok) (hA : Agree X.P c) (h : ldraw c X.ag n ops σ = some σ') (hS : X.SI n σ s w) (hJ : ∀ s' w', X.SI n σ' s' w' → J .normal s' w') : W X.P n (.region id ops true) s w J := by
 have hdr : Kept w { w with drawn := w.drawn + 1 } := ⟨rfl, rfl, rfl, Nat.le_refl _, fun _ _ => rfl⟩
 have agree : ∀ (listed : Array Bool), listed.size = ops.size → ∀ j, j < ops.size → listed.getD j true = true → listed.getD j false = true := by
  intro listed hz j hj h
  have : j < listed.size := by omega
  simpa [this] using h
 unfold ldraw at h
 split at h
 ·cases h
 ·rename_i hfr
  have hfr : σ.fr = false := by simpa using hfr
  split at h
  ·rename_i hok
   have hk := drawOk_inv (Nat.le_refl _) hok
   have hf : lfold c X.ag n (ops.toList.take ops.size) σ = some σ' := by rw [List.take_of_length_le (by simp)]; exact h
   refine W.drawn hmx (fun listed s' w' => listed.size = ops.size ∧ X.Half c n ops ops.size σ σ' listed s' w') (fun j o ho => (hk.back j o ho).1) (fun listed s' w' i o hI ho hli hsz hed => ?_) (fun listed s' w' hl hI => hJ s' w' (half_all hk (Nat.le_refl _) hf hI.2 (fun j hj => agree listed hI.1 j hj (hl j hj)))) ⟨by simp, half_start hS hfr hdr⟩
   exact (half_step hO hA hk (Nat.le_refl _) hf hI.2 ho (Array.getElem?_eq_some_iff.1 ho).1 hli hsz hed).mono (fun _ _ h => ⟨by simpa using hsz, h⟩)
  ·split at h
   ·rename_i hcc
    obtain ⟨hok, hpos⟩ := hcc
    split at h
    ·rename_i ol hol
     split at h
     ·rename_i hall
      split at h
      ·rename_i σp hf
       have hk := drawOk_inv (by omega) hok
       rw [List.all_eq_true] at hall
       refine W.drawn hmx (fun listed s' w' => listed.size = ops.size ∧ ((listed.getD (ops.size - 1) false = true ∧ (∀ j, j < ops.size - 1 → listed.getD j false = true) ∧ X.SI n σ' s' w') ∨ (listed.getD (ops.size - 1) false = false ∧ X.Half c n ops (ops.size - 1) σ σp listed s' w'))) (fun j o ho => (hk.back j o ho).1) (fun listed s' w' i o hI ho hli hsz hed => ?_) (fun listed s' w' hl hI => ?_) ⟨by simp, .inr ⟨?_, half_start hS hfr hdr⟩⟩
       ·have hilt := (Array.getElem?_eq_some_iff.1 ho).1
        have hil : i < listed.size := by omega
        have hli' : listed.getD i false = false := by simpa [hil] using hli
        rcases hI.2 with ⟨h1, h2, _⟩ | ⟨h1, h2⟩
        ·exfalso
         by_cases e : i = ops.size - 1
         ·rw [e] at hli'; rw [hli'] at h1; cases h1
         ·have := h2 i (by omega); rw [hli'] at this; cases this
        ·by_cases e : i = ops.size - 1
         ·subst e
          rw [hol] at ho
          injection ho with ho
          subst ho
          have hpre : ∀ j, j < ops.size - 1 → listed.getD j false = true := fun j hj => by
           have := hall j (List.mem_range.2 hj)
           unfold edgeTo at this
           rw [List.any_eq_true] at this
           obtain ⟨ee, he, hee⟩ := this
           simp only [Bool.and_eq_true, beq_iff_eq] at hee
           have := hed ee he hee.2
           rw [hee.1] at this
           exact this
          have hSI := half_all hk (by omega) hf h2 hpre
          refine ⟨(hk.back _ _ hol).2, (lone_ok hO hA h hSI).mono (fun s2 w2 h2 => ⟨by simpa using hsz, .inl ⟨by rw [getD_set listed _ _ hil, if_pos rfl], fun j hj => ?_, h2⟩⟩)⟩
          rw [getD_set listed _ _ hil]
          split
          ·rfl
          ·exact hpre j hj
         ·refine (half_step hO hA hk (by omega) hf h2 ho (by omega) hli hsz hed).mono (fun s2 w2 h3 => ⟨by simpa using hsz, .inr ⟨?_, h3⟩⟩)
          rw [getD_set listed _ _ hil, if_neg e]
          exact h1
       ·rcases hI.2 with ⟨_, _, h3⟩ | ⟨h1, _⟩
        ·exact hJ s' w' h3
        ·have := agree listed hI.1 (ops.size - 1) (by omega) (hl _ (by omega))
         rw [h1] at this
         cases this
       ·rw [Array.getD_eq_getD_getElem?, Array.getElem?_replicate]
        split <;> rfl
      ·cases h
     ·cases h
    ·cases h
   ·cases h
end
end Go.Am
end
