/-
  The operations that write nothing, one by one. No theorem about a Go program stands here.
-/
import Derived.Test.YtcajalfelmgeiaaAmOps
set_option linter.unusedVariables false
set_option linter.unusedSimpArgs false
namespace Go.Am
open Go Go.RowKit
section
variable {P : Program} {c : Cfg} {Γ : Ctx} {st : St} {a : Act} {w : World} {den : Nat → List V → Option V} {η : Nat → Option V} {d : Nat}

/-- What is to be shown of an operation that writes nothing. -/
def PureOk (P : Program) (Γ : Ctx) (a : Act) (w : World) (o : Oper) (v : V) : Prop := ∃ x, (execOp a.eval o).run P w = .ok (.value x) w ∧ VR Γ w v x

theorem toList_str {y : ByteArray} {s : List UInt8} (h : y.data.toList = s) : y.toList = s := by rw [ByteArray.toList_eq]; exact h

theorem pure_move (hs : Sim Γ st a w) {o : Oper} {x : Operand} (ho : o.op = .move x ∨ o.op = .assign x) : PureOk P Γ a w o (ev st.t x) := by
  refine ⟨a.eval x, ?_, hs.ev x⟩
  rcases ho with ho | ho <;> simp [execOp, ho]

theorem pure_pick (hs : Sim Γ st a w) {o : Oper} {x y z : Operand} {v : V} (ho : o.op = .pick x y z) (h : valOp c den (ev st.t) η d o.op = some (.val v)) : PureOk P Γ a w o v := by
  rw [ho] at h
  simp only [valOp, plain] at h
  have hx := hs.ev x
  cases hv : ev st.t x with
  | bool b =>
    rw [hv] at h hx
    have e := hx.bool_inv
    cases b <;> simp only [Option.some.injEq, Out.val.injEq] at h <;> subst h
    · exact ⟨a.eval z, by simp [execOp, ho, e, asBool], hs.ev z⟩
    · exact ⟨a.eval y, by simp [execOp, ho, e, asBool], hs.ev y⟩
  | _ => rw [hv] at h; cases h

theorem pure_nilCheck (hs : Sim Γ st a w) {o : Oper} {x : Operand} {v : V} (ho : o.op = .nilCheck x) (h : valOp c den (ev st.t) η d o.op = some (.val v)) : PureOk P Γ a w o v := by
  rw [ho] at h
  simp only [valOp, plain] at h
  have hx := hs.ev x
  have key : (∃ p, a.eval x = .pointer (some p)) → (execOp a.eval o).run P w = .ok (.value (a.eval x)) w := by
    rintro ⟨p, hp⟩
    simp [execOp, ho, hp]
  cases hv : ev st.t x with
  | ptr d' n =>
    rw [hv] at h hx
    simp only [Option.some.injEq, Out.val.injEq] at h
    subst h
    exact ⟨a.eval x, key ⟨_, hx.ptr_inv.1⟩, hx⟩
  | iptr x' n =>
    rw [hv] at h hx
    simp only [Option.some.injEq, Out.val.injEq] at h
    subst h
    obtain ⟨_, _, _, e, _⟩ := hx.iptr_inv
    exact ⟨a.eval x, key ⟨_, e⟩, hx⟩
  | vptr b x' n =>
    rw [hv] at h hx
    simp only [Option.some.injEq, Out.val.injEq] at h
    subst h
    obtain ⟨_, _, e, _⟩ := hx.vptr_inv
    exact ⟨a.eval x, key ⟨_, e⟩, hx⟩
  | eptr b s q xs i n =>
    rw [hv] at h hx
    simp only [Option.some.injEq, Out.val.injEq] at h
    subst h
    exact ⟨a.eval x, key ⟨_, hx.eptr_inv.1⟩, hx⟩
  | _ => rw [hv] at h; cases h

theorem pure_unOp (hs : Sim Γ st a w) {o : Oper} {u : UnOp} {t : TypeId} {x : Operand} {v : V} (ho : o.op = .unOp u t x) (h : valOp c den (ev st.t) η d o.op = some (.val v)) : PureOk P Γ a w o v := by
  rw [ho] at h
  have hx := hs.ev x
  cases u with
  | not =>
    simp only [valOp, plain] at h
    cases hv : ev st.t x with
    | bool b =>
      rw [hv] at h hx
      simp only [Option.some.injEq, Out.val.injEq] at h
      subst h
      exact ⟨.bool !b, by simp [execOp, ho, hx.bool_inv, Op.unary], .rd _ _ (.bool _)⟩
    | _ => rw [hv] at h; cases h
  | neg =>
    simp only [valOp, plain] at h
    cases hv : ev st.t x with
    | int k n =>
      rw [hv] at h hx
      simp only [Option.some.injEq, Out.val.injEq] at h
      subst h
      exact ⟨.int k (k.wrap (0 - n)), by simp [execOp, ho, hx.int_inv, Op.unary, Op.intArith], .rd _ _ (.int _ _)⟩
    | _ => rw [hv] at h; cases h
  | _ => simp only [valOp] at h; cases h

theorem pure_extract (hs : Sim Γ st a w) {o : Oper} {x : Operand} {i : Nat} {v : V} (ho : o.op = .extract x i) (h : valOp c den (ev st.t) η d o.op = some (.val v)) : PureOk P Γ a w o v := by
  rw [ho] at h
  simp only [valOp, plain] at h
  have hx := hs.ev x
  cases hv : ev st.t x with
  | tup vs =>
    rw [hv] at h hx
    simp only at h
    cases hi : vs[i]? with
    | none => rw [hi] at h; cases h
    | some u =>
      rw [hi] at h
      simp only [Option.some.injEq, Out.val.injEq] at h
      subst h
      obtain ⟨ys, e, hl, hr⟩ := hx.tup_inv
      have hlt : i < vs.length := (List.getElem?_eq_some_iff.1 hi).1
      have hy : ys[i]? = some (ys[i]'(by omega)) := Array.getElem?_eq_getElem (by omega)
      exact ⟨ys[i]'(by omega), by simp [execOp, ho, e, Instr.extract, hy], hr i _ _ hi hy⟩
  | _ => rw [hv] at h; cases h

theorem pure_makeFunc (hs : Sim Γ st a w) {o : Oper} {fn : Fn} {first cap : Array Operand} {v : V} (ho : o.op = .makeFunc fn first cap) (h : valOp c den (ev st.t) η d o.op = some (.val v)) : PureOk P Γ a w o v := by
  rw [ho] at h
  cases fn with
  | func f =>
    simp only [valOp, plain] at h
    split at h
    · rename_i h0
      simp only [Option.some.injEq, Out.val.injEq] at h
      subst h
      have hf : first.map a.eval = #[] := by
        have : first = #[] := Array.eq_empty_of_size_eq_zero h0
        rw [this]; simp
      refine ⟨.func (.func f) #[] (cap.map a.eval), by simp [execOp, ho, Instr.makeFunc, hf], .clo f _ _ (by simp) ?_⟩
      intro i u y h1 h2
      simp only [List.getElem?_map, Array.getElem?_toList, Array.getElem?_map, Option.map_eq_some_iff] at h1 h2
      obtain ⟨x1, e1, rfl⟩ := h1
      obtain ⟨x2, e2, rfl⟩ := h2
      rw [e1] at e2
      injection e2 with e2
      subst e2
      exact hs.ev x1
    · cases h
  | _ => simp only [valOp] at h; cases h

theorem pure_convert (hA : Agree P c) (hs : Sim Γ st a w) {o : Oper} {s t : TypeId} {x : Operand} {v : V} (ho : o.op = .convert s t x) (hc : convV c s t (ev st.t x) = some v) : PureOk P Γ a w o v := by
    have hx := hs.ev x
    unfold convV at hc
    cases h1 : c.ty s with
    | none => rw [h1] at hc; cases hc
    | some i =>
      cases h2 : c.ty t with
      | none => rw [h1, h2] at hc; cases hc
      | some j =>
        rw [h1, h2] at hc
        simp only at hc
        obtain ⟨ti, ai⟩ := hA _ _ h1
        obtain ⟨tj, aj⟩ := hA _ _ h2
        split at hc
        · rename_i k1 k2 k3 n e1 e2 e3
          injection hc with hc
          subst hc
          rw [e3] at hx
          exact ⟨.int k2 (k2.wrap n), by simp [execOp, ho, hx.int_inv, convert, run_underlying (ai.int _ e1), run_underlying (aj.int _ e2), Conv.intToInt], .rd _ _ (.int _ _)⟩
        · rename_i s' e1 e2 e3
          injection hc with hc
          subst hc
          rw [e3] at hx
          obtain ⟨y, e, hy⟩ := hx.str_inv
          exact ⟨.string y, by simp [execOp, ho, e, convert, run_underlying (ai.str e1), run_underlying (aj.str e2)], .rd _ _ (.str _ _ hy)⟩
        · cases hc

theorem size_str {y : ByteArray} {s : List UInt8} (h : y.data.toList = s) : y.size = s.length := by rw [← h, Array.length_toList]; rfl

theorem intOp_run {op : BinOp} {k : IntKind} {p q : Int} {v : V} (h : intOp op k p q = some v) (t : TypeId) (w : World) : ∃ x, (binOp op t (.int k p) (.int k q)).run P w = .ok x w ∧ VR Γ w v x := by
  cases op <;> simp only [intOp, cmpInt, arith, Option.map_some, Option.some.injEq] at h
  case quo =>
    split at h
    · cases h
    · rename_i h0
      simp only [Option.map_some, Option.some.injEq] at h
      subst h
      exact ⟨_, by simp [binOp, Op.intDiv, h0], .rd _ _ (.int _ _)⟩
  case rem =>
    split at h
    · cases h
    · rename_i h0
      simp only [Option.some.injEq] at h
      subst h
      exact ⟨_, by simp [binOp, Op.intDiv, h0], .rd _ _ (.int _ _)⟩
  all_goals first
    | (subst h; exact ⟨_, by simp [binOp, Op.intArith], .rd _ _ (.int _ _)⟩)
    | (subst h; exact ⟨_, by simp [binOp, Op.intCmp], .rd _ _ (.bool _)⟩)
    | (cases h)

theorem strOp_run {op : BinOp} {p q : List UInt8} {x y : ByteArray} {v : V} (h : strOp op p q = some v) (hx : x.data.toList = p) (hy : y.data.toList = q) (t : TypeId) (w : World) :
    ∃ z, (binOp op t (.string x) (.string y)).run P w = .ok z w ∧ VR Γ w v z := by
  have ex := toList_str hx
  have ey := toList_str hy
  cases op <;> simp only [strOp, Option.some.injEq] at h
  case add =>
    split at h
    · rename_i hle
      simp only [Option.some.injEq] at h
      subst h
      have hs : (x.size : Int) + (y.size : Int) ≤ 9223372036854775807 := by
        rw [size_str hx, size_str hy]
        omega
      refine ⟨.string (x ++ y), by simp [binOp, Op.stringOp]; exact hs, .rd _ _ (.str _ _ ?_)⟩
      rw [ByteArray.data_append, Array.toList_append, hx, hy]
    · cases h
  all_goals first
    | (subst h; exact ⟨_, by simp [binOp, Op.stringOp, ex, ey, less], .rd _ _ (.bool _)⟩)
    | (cases h)

theorem pure_binOp (hA : Agree P c) (hs : Sim Γ st a w) {o : Oper} {op : BinOp} {t t' : TypeId} {x y : Operand} {v : V} (ho : o.op = .binOp op t x y t') (h : valOp c den (ev st.t) η d o.op = some (.val v)) : PureOk P Γ a w o v := by
  rw [ho] at h
  simp only [valOp, plain] at h
  cases ht : c.ty t with
  | none => rw [ht] at h; cases h
  | some i =>
    rw [ht] at h
    simp only at h
    cases hb : binV i op (ev st.t x) (ev st.t y) with
    | none => rw [hb] at h; cases h
    | some u =>
      rw [hb] at h
      simp only [Option.some.injEq, Out.val.injEq] at h
      subst h
      obtain ⟨ti, ai⟩ := hA _ _ ht
      have hx := hs.ev x
      have hy := hs.ev y
      unfold binV at hb
      split at hb
      · rename_i p q e1 e2
        rw [e1] at hx; rw [e2] at hy
        have f1 := hx.bool_inv
        have f2 := hy.bool_inv
        split at hb
        · rename_i hi
          injection hb with hb
          subst hb
          exact ⟨.bool (p == q), by simp [execOp, ho, f1, f2, eqGuard, binOp, Op.equal, Op.maxDepth, run_equalIn_bool' (P := P) w 9999 t p q (ai.bool hi)], .rd _ _ (.bool _)⟩
        · rename_i hi
          injection hb with hb
          subst hb
          exact ⟨.bool (!(p == q)), by simp [execOp, ho, f1, f2, eqGuard, binOp, Op.equal, Op.maxDepth, run_equalIn_bool' (P := P) w 9999 t p q (ai.bool hi)], .rd _ _ (.bool _)⟩
        · cases hb
      · rename_i k p k' q e1 e2
        split at hb
        · rename_i hk
          subst hk
          rw [e1] at hx; rw [e2] at hy
          have f1 := hx.int_inv
          have f2 := hy.int_inv
          obtain ⟨z, hz, hv⟩ := intOp_run (P := P) (Γ := Γ) hb t w
          exact ⟨z, by simp [execOp, ho, f1, f2, eqGuard, hz], hv⟩
        · cases hb
      · rename_i p q e1 e2
        rw [e1] at hx; rw [e2] at hy
        obtain ⟨x1, f1, g1⟩ := hx.str_inv
        obtain ⟨y1, f2, g2⟩ := hy.str_inv
        obtain ⟨z, hz, hv⟩ := strOp_run (P := P) (Γ := Γ) hb g1 g2 t w
        exact ⟨z, by simp [execOp, ho, f1, f2, eqGuard, hz], hv⟩
      · rename_i p q e1 e2
        rw [e1] at hx; rw [e2] at hy
        obtain ⟨xs, f1, hl1, hr1⟩ := hx.agg_inv
        obtain ⟨ys, f2, hl2, hr2⟩ := hy.agg_inv
        have scal : ∀ {v : V} {z : Value}, VR Γ w v z → Scal v z := by
          intro v z hv
          cases v <;> simp only [Scal]
          · exact hv.bool_inv
          · exact hv.int_inv
          · exact hv.str_inv
        split at hb
        · rename_i r hcmp hr
          injection hb with hb
          subst hb
          simp only [Bool.and_eq_true] at hcmp
          obtain ⟨g0, g1⟩ := ai.cmp hcmp.1.1
          have := g1 w xs ys p q r hl1 hl2 hcmp.1.2 hcmp.2 (fun j u z h1 h2 => scal (hr1 j u z h1 h2)) (fun j u z h1 h2 => scal (hr2 j u z h1 h2)) hr
          exact ⟨.bool r, by simp [execOp, ho, f1, f2, run_eqGuard_agg w _ t x y xs ys g0, run_eql_struct, this], .rd _ _ (.bool _)⟩
        · rename_i r hcmp hr
          injection hb with hb
          subst hb
          simp only [Bool.and_eq_true] at hcmp
          obtain ⟨g0, g1⟩ := ai.cmp hcmp.1.1
          have := g1 w xs ys p q r hl1 hl2 hcmp.1.2 hcmp.2 (fun j u z h1 h2 => scal (hr1 j u z h1 h2)) (fun j u z h1 h2 => scal (hr2 j u z h1 h2)) hr
          exact ⟨.bool (!r), by simp [execOp, ho, f1, f2, run_eqGuard_agg w _ t x y xs ys g0, run_neq_struct, this], .rd _ _ (.bool _)⟩
        · cases hb
      · cases hb

/-! ### addresses and memory -/

theorem Rows.cell {S : Nat → Prop} {s : Nat} {xs : List V} {k o : Nat} (h : Rows w S s xs k o) {i : Nat} {x : V} (hx : xs[i]? = some x) : x.cells.length = s ∧ ∃ g : Nat → Value, (∀ j : Nat, j < x.cells.length → w.cell? ⟨k, o + i * s + j, none⟩ = some (g j) ∧ (g j).oneCell' = true) ∧
    ∀ (j : Nat) (u : V), x.cells[j]? = some u → Rd w S u (g j) := by
  obtain ⟨h1, g, h2, h3⟩ := h
  have hl := h1 x (mem_of_get hx)
  have hi : i < xs.length := (List.getElem?_eq_some_iff.1 hx).1
  exact ⟨hl, g i, fun j hj => h2 i j hi (by omega), fun j u hu => h3 i x j u hx hu⟩
theorem Sq_le {q : Q} {k : Nat} (h : Γ.Sq q k) : Γ.S k := by
  cases q with
  | any => exact h
  | flat => exact h.1
  | clean => exact h.1

theorem addOff_ok {v u : V} {x : Value} {n : Nat} (h : VR Γ w v x) (hu : addOff v n = some u) : ∃ (k o : Nat), x = .pointer (some ⟨k, o, none⟩) ∧ VR Γ w u (.pointer (some ⟨k, o + n, none⟩)) := by
  cases v with
  | ptr d' m =>
    simp only [addOff, Option.some.injEq] at hu
    subst hu
    obtain ⟨e, hd⟩ := h.ptr_inv
    exact ⟨_, _, e, .ptr d' (m + n) hd⟩
  | iptr y m =>
    simp only [addOff, Option.some.injEq] at hu
    subst hu
    obtain ⟨k, o, g, e, h1, h2, h3⟩ := h.iptr_inv
    have := Rd.iptr (w := w) (S := Γ.S) y k o (m + n) g h1 h2 h3
    rw [← Nat.add_assoc] at this
    exact ⟨k, o + m, e, .rd _ _ this⟩
  | vptr b y m =>
    simp only [addOff, Option.some.injEq] at hu
    subst hu
    obtain ⟨o, g, e, h1, h2, h3⟩ := h.vptr_inv
    have := VR.vptr (Γ := Γ) (w := w) b y o (m + n) g h1 h2 h3
    rw [← Nat.add_assoc] at this
    exact ⟨_, o + m, e, this⟩
  | eptr b s q xs i m =>
    simp only [addOff, Option.some.injEq] at hu
    subst hu
    obtain ⟨e, h1, h2, h3, h4, h5, h6⟩ := h.eptr_inv
    have := VR.eptr (Γ := Γ) (w := w) b s q xs i (m + n) h1 h2 h3 h4 h5 h6
    rw [← Nat.add_assoc] at this
    exact ⟨_, _, e, this⟩
  | _ => cases hu

theorem addrOf_ok {v u : V} {x : Value} {s : Nat} {n : Int} (h : VR Γ w v x) (hu : addrOf s v n = some u) : 0 ≤ n ∧ ∃ (k o len cap : Nat), x = .slice (some ⟨k, o, none⟩) len cap ∧ n < len ∧ VR Γ w u (.pointer (some ⟨k, o + n.toNat * s, none⟩)) := by
  unfold addrOf at hu
  split at hu
  · cases hu
  rename_i hn
  refine ⟨by omega, ?_⟩
  cases v with
  | sl s' f xs =>
    simp only at hu
    split at hu
    · rename_i hs
      subst hs
      cases hx : xs[n.toNat]? with
      | none => rw [hx] at hu; cases hu
      | some y =>
        rw [hx] at hu
        simp only [Option.map_some, Option.some.injEq] at hu
        subst hu
        have hi : n.toNat < xs.length := (List.getElem?_eq_some_iff.1 hx).1
        have hr := h.sl_inv
        cases hr with
        | empty => simp at hi
        | sl _ _ _ k o cap g hl hcap hS hsz hf hg hr =>
          have hy := hsz y (mem_of_get hx)
          have := Rd.iptr (w := w) (S := Γ.S) y k (o + n.toNat * s') 0 (g n.toNat) hS (fun j hj => (hg n.toNat j hi (by omega)).1) (fun j u hu => hr n.toNat y j u hx hu)
          exact ⟨k, o, _, cap, rfl, by omega, .rd _ _ this⟩
    · cases hu
  | view b s' q xs =>
    simp only at hu
    split at hu
    · rename_i hs
      subst hs
      cases hx : xs[n.toNat]? with
      | none => rw [hx] at hu; cases hu
      | some y =>
        rw [hx] at hu
        simp only [Option.map_some, Option.some.injEq] at hu
        subst hu
        have hi : n.toNat < xs.length := (List.getElem?_eq_some_iff.1 hx).1
        rcases h.view_inv with ⟨_, _, _, e⟩ | ⟨o, cap, e, hb, _, hl, hfit, hr, hq⟩
        · subst e; simp at hi
        · obtain ⟨hsz, g, h2, h3⟩ := hr.cell hx
          have := VR.vptr (Γ := Γ) (w := w) b y (o + n.toNat * s') 0 g hb (fun j hj => (h2 j hj).1) (fun j u hu => (h3 j u hu).mono (fun k hk => Sq_le hk) (fun _ _ _ => rfl))
          exact ⟨_, o, _, cap, e, by omega, this⟩
    · cases hu
  | own b s' q xs =>
    simp only at hu
    split at hu
    · rename_i hs
      subst hs
      split at hu
      · rename_i hi
        injection hu with hu
        subst hu
        rcases h.own_inv with ⟨_, e, _⟩ | ⟨e, hb, h1, h2, h3, h4⟩
        · subst e; simp at hi
        · exact ⟨_, _, _, _, e, by omega, VR.eptr (Γ := Γ) (w := w) b s' q xs n.toNat 0 hb h1 h2 hi h3 h4⟩
      · cases hu
    · cases hu
  | _ => cases hu

/-- What lies behind an address. -/
theorem cellsAt_ok (hs : Sim Γ st a w) {v : V} {x : Value} {cs : List V} (h : VR Γ w v x) (hc : cellsAt (fun b => st.h.getD b none) v = some cs) :
    ∃ (k o : Nat) (g : Nat → Value), x = .pointer (some ⟨k, o, none⟩) ∧ (∀ j : Nat, j < cs.length → w.cell? ⟨k, o + j, none⟩ = some (g j)) ∧ ∀ (j : Nat) (u : V), cs[j]? = some u → VR Γ w u (g j) := by
  cases v with
  | ptr d' m =>
    simp only [cellsAt] at hc
    cases hb : st.h.getD d' none with
    | none => rw [hb] at hc; cases hc
    | some r =>
      rw [hb] at hc
      simp only [Option.map_some, Option.some.injEq] at hc
      subst hc
      have hb' : st.h[d']? = some (some r) := by
        simp only [List.getD] at hb
        cases h0 : st.h[d']? with
        | none => rw [h0] at hb; cases hb
        | some y => rw [h0] at hb; simp only [Option.getD_some] at hb; rw [hb]
      obtain ⟨_, cur, e, hcur, hsz, hv⟩ := hs.bx d' r hb'
      refine ⟨Γ.box d', m, fun j => cur.getD (m + j) undef, h.ptr_inv.1, fun j hj => ?_, fun j u hu => ?_⟩
      · rw [List.length_drop] at hj
        have hlt : m + j < cur.size := by omega
        simp [World.cell?, hcur, hlt, Array.getD_eq_getD_getElem?, Array.getElem?_eq_getElem hlt]
      · rw [List.getElem?_drop] at hu
        obtain ⟨y, hy, hvy⟩ := hv _ _ hu
        simp only [Array.getD_eq_getD_getElem?, hy]
        exact hvy
  | iptr y m =>
    simp only [cellsAt, Option.some.injEq] at hc
    subst hc
    obtain ⟨k, o, g, e, h1, h2, h3⟩ := h.iptr_inv
    refine ⟨k, o + m, fun j => g (m + j), e, fun j hj => ?_, fun j u hu => ?_⟩
    · rw [List.length_drop] at hj
      have := h2 (m + j) (by omega)
      rwa [← Nat.add_assoc] at this
    · rw [List.getElem?_drop] at hu
      exact .rd _ _ (h3 _ _ hu)
  | vptr b y m =>
    simp only [cellsAt, Option.some.injEq] at hc
    subst hc
    obtain ⟨o, g, e, h1, h2, h3⟩ := h.vptr_inv
    refine ⟨_, o + m, fun j => g (m + j), e, fun j hj => ?_, fun j u hu => ?_⟩
    · rw [List.length_drop] at hj
      have := h2 (m + j) (by omega)
      rwa [← Nat.add_assoc] at this
    · rw [List.getElem?_drop] at hu
      exact .rd _ _ (h3 _ _ hu)
  | eptr b s q xs i m =>
    simp only [cellsAt] at hc
    cases hx : xs[i]? with
    | none => rw [hx] at hc; cases hc
    | some y =>
      rw [hx] at hc
      simp only [Option.map_some, Option.some.injEq] at hc
      subst hc
      obtain ⟨e, h1, h2, h3, h4, h5, h6⟩ := h.eptr_inv
      obtain ⟨hsz, g, g2, g3⟩ := h5.cell hx
      refine ⟨_, Γ.off b + i * s + m, fun j => g (m + j), e, fun j hj => ?_, fun j u hu => ?_⟩
      · rw [List.length_drop] at hj
        have := (g2 (m + j) (by omega)).1
        rwa [← Nat.add_assoc] at this
      · rw [List.getElem?_drop] at hu
        exact .rd _ _ ((g3 _ _ hu).mono (fun k hk => Sq_le hk) (fun _ _ _ => rfl))
  | _ => cases hc

theorem packV_ok {i : TyInfo} {ti : TypeInfo} {t : Nat} (ai : AgreeT P c t i ti) {cs : List V} {v : V} {k o : Nat} {g : Nat → Value} (hp : packV i.d.isAgg i.size cs = some v)
    (hg : ∀ j : Nat, j < cs.length → w.cell? ⟨k, o + j, none⟩ = some (g j)) (hr : ∀ (j : Nat) (u : V), cs[j]? = some u → VR Γ w u (g j)) :
    ∃ x, (loadVar t ⟨k, o, none⟩).run P w = .ok x w ∧ VR Γ w v x := by
  unfold packV at hp
  split at hp
  · cases hp
  rename_i hlen
  have hadd : ∀ j, (⟨k, o, none⟩ : Addr).add j = ⟨k, o + j, none⟩ := by intro j; unfold Addr.add; split <;> simp_all
  split at hp
  · rename_i hagg
    injection hp with hp
    subst hp
    have hu : ∃ dd, P.underlying t = some dd ∧ ((∃ fs, dd = .struct fs) ∨ (∃ n e, dd = .array n e)) := by
      cases hd : i.d with
      | struct fs => obtain ⟨f, h1, _⟩ := ai.struct fs hd; exact ⟨_, h1, .inl ⟨_, rfl⟩⟩
      | array n e => exact ⟨_, ai.array n e hd, .inr ⟨_, _, rfl⟩⟩
      | _ => rw [hd] at hagg; cases hagg
    obtain ⟨dd, hdd, hk⟩ := hu
    have hl := run_loadCells (P := P) w ⟨k, o, none⟩ i.size g (fun j hj => by rw [hadd]; exact hg j (by omega))
    refine ⟨.agg ((List.range i.size).map g).toArray, ?_, .agg _ _ (by simp; omega) ?_⟩
    · rcases hk with ⟨fs, rfl⟩ | ⟨n, e, rfl⟩ <;> simp [loadVar, isAgg, run_underlying hdd, sizeOf, typeInfo, ai.info, ai.size, hl]
    · intro j u y h1 h2
      rw [List.getElem?_take] at h1
      split at h1
      · rename_i hj
        have : y = g j := by
          simp only [List.getElem?_toArray, List.getElem?_map, List.getElem?_range hj, Option.map_some, Option.some.injEq] at h2
          exact h2.symm
        subst this
        exact hr j u h1
      · cases h1
  · rename_i hagg
    split at hp
    · rename_i h1
      obtain ⟨dd, hdd, n1, n2⟩ := ai.agg (by simpa using hagg)
      cases cs with
      | nil => cases hp
      | cons u rest =>
        simp only [List.head?_cons, Option.some.injEq] at hp
        subst hp
        have h0 := hg 0 (by simp)
        simp only [Nat.add_zero] at h0
        refine ⟨g 0, ?_, hr 0 u rfl⟩
        simp only [loadVar, isAgg, Sem.run_bind, run_underlying hdd, Result.andThen_ok]
        cases dd with
        | struct fs => exact absurd rfl (n1 fs)
        | array n e => exact absurd rfl (n2 n e)
        | _ => simp [h0]
    · cases hp

theorem pure_load (hA : Agree P c) (hs : Sim Γ st a w) {o : Oper} {t : TypeId} {x : Operand} {v : V} (ho : o.op = .load t x) (h : valOp c den (ev st.t) (fun b => st.h.getD b none) d o.op = some (.val v)) : PureOk P Γ a w o v := by
  rw [ho] at h
  simp only [valOp, plain, loadV] at h
  cases ht : c.ty t with
  | none => rw [ht] at h; cases h
  | some i =>
    rw [ht] at h
    simp only at h
    cases hc : cellsAt (fun b => st.h.getD b none) (ev st.t x) with
    | none => rw [hc] at h; cases h
    | some cs =>
      rw [hc] at h
      simp only at h
      cases hp : packV i.d.isAgg i.size cs with
      | none => rw [hp] at h; cases h
      | some u =>
        rw [hp] at h
        simp only [Option.some.injEq, Out.val.injEq] at h
        subst h
        obtain ⟨ti, ai⟩ := hA _ _ ht
        obtain ⟨k, o', g, e, h1, h2⟩ := cellsAt_ok hs (hs.ev x) hc
        obtain ⟨y, hy, hv⟩ := packV_ok ai hp h1 h2
        exact ⟨y, by simp [execOp, ho, e, Instr.loadAt, Instr.sureAddr, hy], hv⟩

theorem pure_fieldAddr (hA : Agree P c) (hs : Sim Γ st a w) {o : Oper} {t : TypeId} {x : Operand} {f : Nat} {v : V} (ho : o.op = .fieldAddr t x f) (h : valOp c den (ev st.t) η d o.op = some (.val v)) : PureOk P Γ a w o v := by
  rw [ho] at h
  simp only [valOp, plain] at h
  split at h
  · rename_i fs sz by_ z cm nz_ qz_ ht
    split at h
    · rename_i off ft hf
      split at h
      · rename_i j hj
        split at h
        · cases h
        · rename_i hj0
          split at h
          · rename_i u hu
            simp only [Option.some.injEq, Out.val.injEq] at h
            subst h
            obtain ⟨ti, ai⟩ := hA _ _ ht
            obtain ⟨tj, aj⟩ := hA _ _ hj
            obtain ⟨fields, hfs, hmap, _⟩ := ai.struct fs rfl
            obtain ⟨k, o', e, hv⟩ := addOff_ok (hs.ev x) hu
            have hfld : ∃ fl, fields[f]? = some fl ∧ fl.offset = off ∧ fl.type = ft := by
              rw [← hmap, List.getElem?_map, Array.getElem?_toList] at hf
              cases hq : fields[f]? with
              | none => rw [hq] at hf; cases hf
              | some fl => rw [hq] at hf; simp only [Option.map_some, Option.some.injEq, Prod.mk.injEq] at hf; exact ⟨fl, rfl, hf.1, hf.2⟩
            obtain ⟨fl, hfl, rfl, rfl⟩ := hfld
            have hadd : (⟨k, o', none⟩ : Addr).add fl.offset = ⟨k, o' + fl.offset, none⟩ := by unfold Addr.add; split <;> simp_all
            exact ⟨_, by simp [execOp, ho, e, Instr.fieldAt, run_underlying hfs, hfl, Instr.sureAddr, fieldPlace, sizeOf, typeInfo, aj.info, aj.size, hj0, hadd], hv⟩
          · cases h
      · cases h
    · cases h
  · cases h
end
end Go.Am
