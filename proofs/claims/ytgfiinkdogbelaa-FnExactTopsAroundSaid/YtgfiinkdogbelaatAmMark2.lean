/-
  Marks in slices of rows, written and looked for: whole functions, known by their code's form.
-/
import Derived.Test.YtgfiinkdogbelaatAmTree
section
set_option linter.unusedVariables false
set_option linter.unusedSimpArgs false
namespace Go.Am
open Go Go.RowKit
inductive KV where
  | un
  | sl
  | ix
  | ct
  | ad (j : Nat)
  | ce (j : Nat)
  | tx
  | c1
  | rm
  | fl
  | ne
  | ng
  deriving DecidableEq
def kget : List (Nat × KV) → Nat → KV
 | [], _ => .un
 | (d, v) :: r, t => if d = t then v else kget r t
def Kd.num : Kd → Nat
 | .str => 0
 | .int => 1
 | .bool => 2
 | .sl _ => 3
def kval (c : Cfg) (mtF s jc kc : Nat) (g : Nat → KV) (op : Op) : Option KV :=
 match op with
 | .move (.tmp x) => some (g x)
 | .assign (.tmp x) => some (g x)
 | .indexAddr t (.tmp x) (.tmp y) => match g x, g y, c.ty t with
  | .sl, .ix, some i => match i.d with
   | .slice el => match c.ty el with
    | some j => if j.size = s then some (.ad 0) else none
    | none => none
   | _ => none
  | _, _, _ => none
 | .fieldAddr t (.tmp x) f => match g x, c.ty t with
  | .ad j, some i => match i.d with
   | .struct fs => match fs[f]? with
    | some (off, ft) => match c.ty ft with
     | some i' => if i'.size = 0 then none else some (.ad (j + off))
     | none => none
    | none => none
   | _ => none
  | _, _ => none
 | .load t (.tmp x) => match g x, c.ty t with
  | .ad j, some i => if i.size = 1 ∧ i.d.isAgg = false ∧ j < s then some (.ce j) else none
  | _, _ => none
 | .call ⟨.value (.func f), args, _⟩ => match args.toList with
  | [.tmp x] => match g x with
   | .ct => if f = mtF then some .tx else none
   | _ => none
  | _ => none
 | .binOp op t (.tmp x) (.const (.int .i64 z)) _ => match c.ty t with
  | some i => match i.d with
   | .int .i64 => match op, g x, z with
    | .add, .ct, 1 => some .c1
    | .rem, .ct, 3 => some .rm
    | .eql, .rm, 0 => some .fl
    | .lss, .ct, 0 => some .ng
    | _, _, _ => none
   | _ => none
  | none => none
 | .binOp .neq t (.tmp x) (.tmp y) _ => match c.ty t, g x with
  | some i, .ce j => if j = jc then (match i.d, g y, kc with
   | .str, .tx, 0 => some .ne
   | .int .i64, .ct, 1 => some .ne
   | .bool, .fl, 2 => some .ne
   | _, _, _ => none) else none
  | _, _ => none
 | _ => none
def kop (c : Cfg) (mtF n s jc kc : Nat) (e : List (Nat × KV)) (o : Oper) : Option (List (Nat × KV)) :=
 match o.guard, o.dst with
 | none, some d => if d < n then (match kval c mtF s jc kc (kget e) o.op with
  | some v => some ((d, v) :: e)
  | none => none) else none
 | _, _ => none
theorem kval_congr {c : Cfg} {mtF s jc kc : Nat} {g g' : Nat → KV} {op : Op} (hx : ∀ x, .tmp x ∈ op.operands.toList → g' x = g x) : kval c mtF s jc kc g' op = kval c mtF s jc kc g op := by
 unfold kval
 split
 ·rw [hx _ (by simp [Op.operands])]
 ·rw [hx _ (by simp [Op.operands])]
 ·rw [hx _ (by simp [Op.operands]), hx _ (by simp [Op.operands])]
 ·rw [hx _ (by simp [Op.operands])]
 ·rw [hx _ (by simp [Op.operands])]
 ·rename_i f args ts
  split
  ·rename_i x hargs; rw [hx x (by simp [Op.operands, Call.operands, hargs])]
  ·rfl
 ·rw [hx _ (by simp [Op.operands])]
 ·rw [hx _ (by simp [Op.operands]), hx _ (by simp [Op.operands])]
 ·rfl
structure KC where
  mt : Nat → List UInt8
  bk : Nat
  o : Nat
  m : Nat
  cap : Nat
  i : Nat
  s : Nat
  kk : Nat
  vals : Nat → Value
def KR (C : KC) : KV → Value → Prop
 | .un, _ => True
 | .sl, x => x = .slice (some ⟨C.bk, C.o, none⟩) C.m C.cap
 | .ix, x => x = .int .i64 (C.i : Int)
 | .ct, x => x = .int .i64 (C.kk : Int)
 | .ad j, x => x = .pointer (some ⟨C.bk, C.o + C.i * C.s + j, none⟩)
 | .ce j, x => x = C.vals j
 | .tx, x => ∃ b : ByteArray, x = .string b ∧ b.data.toList = C.mt C.kk
 | .c1, x => x = .int .i64 ((C.kk + 1 : Nat) : Int)
 | .rm, x => x = .int .i64 ((C.kk % 3 : Nat) : Int)
 | .fl, x => x = .bool (C.kk % 3 == 0)
 | .ne, x => x = .bool false
 | .ng, x => x = .bool false
def KIn (C : KC) (w : World) : Prop := C.bk < w.heap.size ∧ ∀ j, j < C.s → w.cell? ⟨C.bk, C.o + C.i * C.s + j, none⟩ = some (C.vals j)
theorem KIn.kept {C : KC} {w w' : World} (h : KIn C w) (hk : Kept w w') : KIn C w' := ⟨Nat.lt_of_lt_of_le h.1 hk.2.2.2.1, fun j hj => (cell?_of_heap (hk.2.2.2.2 C.bk h.1) _).trans (h.2 j hj)⟩
def KE (C : KC) (e : List (Nat × KV)) (s : Nat → Value) : Prop := ∀ t, KR C (kget e t) (s t)
theorem KE.put {C : KC} {e : List (Nat × KV)} {s : Nat → Value} {d : Nat} {v : KV} {x : Value} (h : KE C e s) (hx : KR C v x) : KE C ((d, v) :: e) (upd s d x) := by
 intro t
 rw [kget]
 split
 ·rename_i hd; subst hd; rw [upd_same]; exact hx
 ·rename_i hd; rw [upd_ne (fun e => hd e.symm)]; exact h t
section
variable {P : Program} {c : Cfg} {n d : Nat} {s : Nat → Value} {w w' : World} {C : KC} {ops : Array Oper} {o : Oper} {e e' : List (Nat × KV)}
theorem add_none {k o j : Nat} : (⟨k, o, none⟩ : Addr).add j = ⟨k, o + j, none⟩ := by unfold Addr.add; split <;> simp_all
theorem wrap_small {n : Nat} (h : n < 9223372036854775808) : IntKind.wrap .i64 (n : Int) = (n : Int) := by
 simp [IntKind.wrap, IntKind.bits, IntKind.signed]; omega
theorem scal_op (hA : Agree P c) (hg : globOk w) (τ : Nat → V) (hτ : ∀ i, Rd w (fun _ => False) (τ i) (s i)) {v : V} (h : valOp c (fun _ _ => none) (Go.Am.ev ((List.range n).map τ)) (fun b => ([] : List (Option V)).getD b none) d o.op = some (.val v)) (hn : ∀ i, n ≤ i → s i = undef) :
  ∃ x, (execOp (evs s) o).run P w = .ok (.value x) w ∧ ∃ Γ : Ctx, VR Γ w v x := by
 let Γ : Ctx := { w0 := w, F := fun k => w.heap.size ≤ k, S := fun _ => False, has := fun _ => False, blk := fun _ => 0, off := fun _ => 0, cap := fun _ => 0, sz := fun _ => 0, ln := fun _ => 0, lb := fun _ => False, box := fun _ => 0, R := fun _ => False, Z := fun _ => False, N := fun _ _ => False, U := True }
 let a : Act := { tmps := ((List.range n).map s).toArray, defers := [] }
 have ha : Ag n s a := by
  refine ⟨rfl, by simp [a], fun i => ?_⟩
  rcases Nat.lt_or_ge i n with h | h
  ·simp [a, h]
  ·simp [a, h, hn i h]
 have hgood : Good Γ w := ⟨rfl, rfl, rfl, Nat.le_refl _, fun _ _ _ => rfl, fun _ h => h, fun _ h => h.elim, fun _ h => h.elim, fun _ _ h => h.elim, fun _ h => h.elim, fun _ _ h => h.elim, fun _ _ h => h.elim, fun _ h => h.elim, ⟨hg, fun k h => Nat.le_trans hg.2 h⟩, fun _ h => h.elim, fun _ h => h.elim, fun _ h => h.elim, fun h => h⟩
 have hs : Sim Γ ⟨(List.range n).map τ, [], fun _ => false, false⟩ a w := by
  refine ⟨hgood, rfl, by simp [a], fun i v hi => ?_, fun k v hk => by simp at hk, fun _ h => h.elim, fun _ => trivial, fun _ _ _ h => h.elim⟩
  simp only at hi
  have hlt : i < n := by have := (List.getElem?_eq_some_iff.1 hi).1; simpa using this
  rw [List.getElem?_map, List.getElem?_range hlt] at hi
  injection hi with hi
  subst hi
  exact ⟨s i, by simp [a, hlt], .rd _ _ (hτ i)⟩
 obtain ⟨x, h1, h2⟩ := pure_val (den := fun _ _ => none) hA hs h
 rw [ha.eval] at h1
 exact ⟨x, h1, Γ, h2⟩
def KC.toV (C : KC) (m1 m2 : V) : KV → V
 | .ix => .int .i64 (C.i : Int)
 | .ct => .int .i64 (C.kk : Int)
 | .tx => .str (C.mt C.kk)
 | .c1 => .int .i64 ((C.kk + 1 : Nat) : Int)
 | .rm => .int .i64 ((C.kk % 3 : Nat) : Int)
 | .fl => .bool (C.kk % 3 == 0)
 | .ce _ => m1
 | _ => m2
def markNum (mt : Nat → List UInt8) (kc kk : Nat) (x : Value) : Prop := (kc = 0 → markIs mt .str kk x) ∧ (kc = 1 → markIs mt .int kk x) ∧ (kc = 2 → markIs mt .bool kk x)
theorem KR.rd {kv : KV} {x : Value} (h : KR C kv x) {S : Nat → Prop} (hc : ∀ j, kv ≠ .ce j) : Rd w S (C.toV .undef .undef kv) x := by
 cases kv with
 | ix => rw [show x = _ from h]; exact .int _ _
 | ct => rw [show x = _ from h]; exact .int _ _
 | tx => obtain ⟨b, rfl, hb⟩ := h; exact .str _ b hb
 | c1 => rw [show x = _ from h]; exact .int _ _
 | rm => rw [show x = _ from h]; exact .int _ _
 | fl => rw [show x = _ from h]; exact .bool _
 | ce j => exact absurd rfl (hc j)
 | _ => exact .undef x
def twoV (x : Nat) (v : V) (y : Nat) (u : V) : Nat → V := fun t => if t = x then v else if t = y then u else .undef
theorem twoV_rd {x y : Nat} {v u : V} (h1 : Rd w (fun _ => False) v (s x)) (h2 : Rd w (fun _ => False) u (s y)) : ∀ t, Rd w (fun _ => False) (twoV x v y u t) (s t) := by
 intro t
 unfold twoV
 split
 ·rename_i e; subst e; exact h1
 ·split
  ·rename_i e; subst e; exact h2
  ·exact .undef _
theorem twoV_ev {x y m : Nat} {v u : V} (hx : x < m) (hy : y < m) : Go.Am.ev ((List.range m).map (twoV x v y u)) (.tmp x) = v ∧ (x ≠ y → Go.Am.ev ((List.range m).map (twoV x v y u)) (.tmp y) = u) := by
 constructor
 ·simp [Go.Am.ev, twoV, hx, List.getD_eq_getElem?_getD]
 ·intro hne
  simp [Go.Am.ev, twoV, hy, List.getD_eq_getElem?_getD, Ne.symm hne]
theorem KE.lt (hE : KE C e s) (hn : ∀ i, n ≤ i → s i = undef) {x : Nat} (h : KR C (kget e x) undef → False) : x < n := by
 rcases Nat.lt_or_ge x n with hx | hx
 ·exact hx
 ·exact (h (by have := hE x; rwa [hn x hx] at this)).elim
theorem scal_bin (hA : Agree P c) (hg : globOk w) (hn : ∀ i, n ≤ i → s i = undef) {op : BinOp} {t t' : TypeId} {x : Nat} {y : Operand} {i : TyInfo} {v u r : V} (ho : o.op = .binOp op t (.tmp x) y t') (ht : c.ty t = some i) (hx : x < n) (hv : Rd w (fun _ => False) v (s x))
  (hy : (∃ y', y = .tmp y' ∧ y' < n ∧ y' ≠ x ∧ Rd w (fun _ => False) u (s y')) ∨ (∃ z, y = .const z ∧ ofVal z = u)) (hb : binV i op v u = some r) : ∃ z, (execOp (evs s) o).run P w = .ok (.value z) w ∧ ∃ Γ : Ctx, VR Γ w r z := by
 rcases hy with ⟨y', rfl, hy1, hy2, hy3⟩ | ⟨z, rfl, hz⟩
 ·obtain ⟨e1, e2⟩ := twoV_ev (v := v) (u := u) hx hy1
  refine scal_op (d := 0) (n := n) hA hg (twoV x v y' u) (twoV_rd hv hy3) ?_ hn
  rw [ho]
  simp only [valOp, ht, e1, e2 (Ne.symm hy2), hb, plain]
 ·obtain ⟨e1, _⟩ := twoV_ev (v := v) (u := V.undef) hx hx
  refine scal_op (d := 0) (n := n) hA hg (twoV x v x .undef) (twoV_rd hv (.undef _)) ?_ hn
  rw [ho]
  simp only [valOp, ht, e1, show Go.Am.ev ((List.range n).map (twoV x v x .undef)) (.const z) = u from hz, hb, plain]
theorem kk_mod (k : Nat) : (k : Int).tmod 3 = ((k % 3 : Nat) : Int) := by
 rw [Int.tmod_eq_emod_of_nonneg (Int.natCast_nonneg _)]; rfl
theorem kop_val {mtF jc kc : Nat} (hA : Agree P c) (htx : TextOk P C.mt mtF) (hkk : C.kk < 4611686018427387904) (hi : C.i < C.m) (hc : markNum C.mt kc C.kk (C.vals jc)) (h : kop c mtF n C.s jc kc e o = some e') (hE : KE C e s) (hn : ∀ i, n ≤ i → s i = undef) (hg : globOk w) (hin : KIn C w) :
  o.guard = none ∧ ∃ d v, o.dst = some d ∧ d < n ∧ e' = (d, v) :: e ∧ ((∃ x, (execOp (evs s) o).run P w = .ok (.value x) w ∧ KR C v x) ∨ (v = .tx ∧ (execOp (evs s) o).run P w = .ok (.enter mtF #[.int .i64 (C.kk : Int)]) w)) := by
 unfold kop at h
 split at h
 rotate_left
 ·cases h
 rename_i d hgd hdst
 split at h
 rotate_left
 ·cases h
 rename_i hdn
 split at h
 rotate_left
 ·cases h
 rename_i v hv
 injection h with h
 refine ⟨hgd, d, v, hdst, hdn, h.symm, ?_⟩
 clear h
 unfold kval at hv
 have nw : ∀ {x : Nat} {kv : KV}, kget e x = kv → KR C kv (s x) := fun h => h ▸ hE _
 split at hv
 · -- move
  rename_i x ho
  injection hv with hv
  exact .inl ⟨s x, by simp [execOp, ho, evs], nw hv⟩
 ·rename_i x ho
  injection hv with hv
  exact .inl ⟨s x, by simp [execOp, ho, evs], nw hv⟩
 · -- indexAddr
  rename_i t x y ho
  split at hv
  ·rename_i i hx hy ht
   split at hv
   ·rename_i el hd
    split at hv
    ·rename_i j hj
     split at hv
     ·rename_i hs
      injection hv with hv
      obtain ⟨ti, ai⟩ := hA _ _ ht
      obtain ⟨tj, aj⟩ := hA _ _ hj
      have ex : s x = _ := nw hx
      have ey : s y = _ := nw hy
      refine .inl ⟨.pointer (some ⟨C.bk, C.o + C.i * C.s, none⟩), ?_, by rw [← hv]; rfl⟩
      simp [execOp, ho, evs, ex, ey, Instr.indexAt, asIntOf, run_underlying (ai.slice _ hd), hi, sizeOf, typeInfo, aj.info, aj.size, add_none, hs]
     ·cases hv
    ·cases hv
   ·cases hv
  ·cases hv
 · -- fieldAddr
  rename_i t x f ho
  split at hv
  ·rename_i j i hx ht
   split at hv
   ·rename_i fs hd
    split at hv
    ·rename_i off ft hf
     split at hv
     ·rename_i i' hi'
      split at hv
      ·cases hv
      ·rename_i hz
       injection hv with hv
       obtain ⟨ti, ai⟩ := hA _ _ ht
       obtain ⟨tj, aj⟩ := hA _ _ hi'
       obtain ⟨fields, hfs, hmap, _⟩ := ai.struct fs hd
       have hfld : ∃ fl, fields[f]? = some fl ∧ fl.offset = off ∧ fl.type = ft := by
        rw [← hmap, List.getElem?_map, Array.getElem?_toList] at hf
        cases hq : fields[f]? with
        | none => rw [hq] at hf; cases hf
        | some fl => rw [hq] at hf; simp only [Option.map_some, Option.some.injEq, Prod.mk.injEq] at hf; exact ⟨fl, rfl, hf.1, hf.2⟩
       obtain ⟨fl, hfl, rfl, rfl⟩ := hfld
       have ex : s x = _ := nw hx
       refine .inl ⟨.pointer (some ⟨C.bk, C.o + C.i * C.s + (j + fl.offset), none⟩), ?_, by rw [← hv]; rfl⟩
       simp [execOp, ho, evs, ex, Instr.fieldAt, run_underlying hfs, hfl, Instr.sureAddr, fieldPlace, sizeOf, typeInfo, aj.info, aj.size, hz, add_none, Nat.add_assoc]
     ·cases hv
    ·cases hv
   ·cases hv
  ·cases hv
 · -- load
  rename_i t x ho
  split at hv
  ·rename_i j i hx ht
   split at hv
   ·rename_i hcc
    injection hv with hv
    obtain ⟨ti, ai⟩ := hA _ _ ht
    obtain ⟨dd, hdd, n1, n2⟩ := ai.agg hcc.2.1
    have ex : s x = _ := nw hx
    have hcell := hin.2 j hcc.2.2
    refine .inl ⟨C.vals j, ?_, by rw [← hv]; rfl⟩
    have : (loadVar t ⟨C.bk, C.o + C.i * C.s + j, none⟩).run P w = .ok (C.vals j) w := by
     simp only [loadVar, isAgg, Sem.run_bind, run_underlying hdd, Result.andThen_ok]
     cases dd with
     | struct fs => exact absurd rfl (n1 fs)
     | array n e => exact absurd rfl (n2 n e)
     | _ => simp [hcell]
    simp [execOp, ho, evs, ex, Instr.loadAt, Instr.sureAddr, this]
   ·cases hv
  ·cases hv
 · -- call
  rename_i f args ts ho
  split at hv
  ·rename_i x hargs
   split at hv
   ·rename_i hx
    split at hv
    ·rename_i hf
     injection hv with hv
     subst hf
     have ex : s x = _ := nw hx
     refine .inr ⟨hv.symm, ?_⟩
     rw [call_enter htx.1 ho, arr1 hargs]
     simp [evs, ex]
    ·cases hv
   ·cases hv
  ·cases hv
 · -- binOp, a number
  rename_i op t x z t' ho
  split at hv
  ·rename_i i ht
   split at hv
   ·rename_i hd
    split at hv
    ·rename_i hx
     injection hv with hv
     have ex : s x = _ := nw hx
     have hlt : x < n := hE.lt hn (fun h => by rw [hx] at h; cases h)
     obtain ⟨y, h1, Γ, h2⟩ := scal_bin (v := .int .i64 (C.kk : Int)) (u := .int .i64 1) (r := .int .i64 ((C.kk + 1 : Nat) : Int)) hA hg hn ho ht hlt (by rw [ex]; exact .int _ _) (.inr ⟨_, rfl, rfl⟩) (by simp [binV, intOp, cmpInt, arith]; exact wrap_small (n := C.kk + 1) (by omega))
     rw [h2.int_inv] at h1
     exact .inl ⟨_, h1, by rw [← hv]; rfl⟩
    ·rename_i hx
     injection hv with hv
     have ex : s x = _ := nw hx
     have hlt : x < n := hE.lt hn (fun h => by rw [hx] at h; cases h)
     obtain ⟨y, h1, Γ, h2⟩ := scal_bin (v := .int .i64 (C.kk : Int)) (u := .int .i64 3) (r := .int .i64 ((C.kk % 3 : Nat) : Int)) hA hg hn ho ht hlt (by rw [ex]; exact .int _ _) (.inr ⟨_, rfl, rfl⟩) (by simp only [binV, intOp]; simp [kk_mod])
     rw [h2.int_inv] at h1
     exact .inl ⟨_, h1, by rw [← hv]; rfl⟩
    ·rename_i hx
     injection hv with hv
     have ex : s x = _ := nw hx
     have hlt : x < n := hE.lt hn (fun h => by rw [hx] at h; cases h)
     obtain ⟨y, h1, Γ, h2⟩ := scal_bin (v := .int .i64 ((C.kk % 3 : Nat) : Int)) (u := .int .i64 0) (r := .bool (((C.kk % 3 : Nat) : Int) == 0)) hA hg hn ho ht hlt (by rw [ex]; exact .int _ _) (.inr ⟨_, rfl, rfl⟩) (by simp [binV, intOp, cmpInt])
     rw [h2.bool_inv] at h1
     refine .inl ⟨_, h1, ?_⟩
     rw [← hv]
     show Value.bool _ = Value.bool _
     congr 1
     rw [Bool.eq_iff_iff, beq_iff_eq, beq_iff_eq]
     omega
    ·rename_i hx
     injection hv with hv
     have ex : s x = _ := nw hx
     have hlt : x < n := hE.lt hn (fun h => by rw [hx] at h; cases h)
     obtain ⟨y, h1, Γ, h2⟩ := scal_bin (v := .int .i64 (C.kk : Int)) (u := .int .i64 0) (r := .bool (decide ((C.kk : Int) < 0))) hA hg hn ho ht hlt (by rw [ex]; exact .int _ _) (.inr ⟨_, rfl, rfl⟩) (by simp [binV, intOp, cmpInt])
     rw [h2.bool_inv] at h1
     refine .inl ⟨_, h1, ?_⟩
     rw [← hv]
     have : decide ((C.kk : Int) < 0) = false := decide_eq_false (by omega)
     rw [this]
     rfl
    ·cases hv
   ·cases hv
  ·cases hv
 · -- neq
  rename_i t x y t' ho
  split at hv
  ·rename_i i j ht hx
   split at hv
   ·rename_i hj
    subst hj
    have ex : s x = _ := nw hx
    split at hv
    ·rename_i hd hy
     injection hv with hv
     obtain ⟨b, hb1, hb2⟩ := hc.1 rfl
     have hlt : x < n := Classical.byContradiction fun hge => by
      have := hn x (Nat.le_of_not_lt hge)
      rw [ex, hb1] at this; cases this
     have hly : y < n := hE.lt hn (fun h => by rw [hy] at h; obtain ⟨_, h, _⟩ := h; cases h)
     have hne : y ≠ x := fun e => by subst e; rw [hx] at hy; cases hy
     have hyr : Rd w (fun _ => False) (.str (C.mt C.kk)) (s y) := (nw hy).rd (fun j => by simp)
     obtain ⟨z, h1, Γ, h2⟩ := scal_bin (v := .str (C.mt C.kk)) (u := .str (C.mt C.kk)) (r := .bool false) hA hg hn ho ht hlt (by rw [ex, hb1]; exact .str _ b hb2) (.inl ⟨y, rfl, hly, hne, hyr⟩) (by simp [binV, strOp])
     rw [h2.bool_inv] at h1
     exact .inl ⟨_, h1, by rw [← hv]; rfl⟩
    ·rename_i hd hy
     injection hv with hv
     have hb1 : C.vals j = _ := hc.2.1 rfl
     have hlt : x < n := Classical.byContradiction fun hge => by
      have := hn x (Nat.le_of_not_lt hge)
      rw [ex, hb1] at this; cases this
     have hly : y < n := hE.lt hn (fun h => by rw [hy] at h; cases h)
     have hne : y ≠ x := fun e => by subst e; rw [hx] at hy; cases hy
     have hyr : Rd w (fun _ => False) (.int .i64 (C.kk : Int)) (s y) := (nw hy).rd (fun j => by simp)
     obtain ⟨z, h1, Γ, h2⟩ := scal_bin (v := .int .i64 (C.kk : Int)) (u := .int .i64 (C.kk : Int)) (r := .bool false) hA hg hn ho ht hlt (by rw [ex, hb1]; exact .int _ _) (.inl ⟨y, rfl, hly, hne, hyr⟩) (by simp [binV, intOp, cmpInt])
     rw [h2.bool_inv] at h1
     exact .inl ⟨_, h1, by rw [← hv]; rfl⟩
    ·rename_i hd hy
     injection hv with hv
     have hb1 : C.vals j = _ := hc.2.2 rfl
     have hlt : x < n := Classical.byContradiction fun hge => by
      have := hn x (Nat.le_of_not_lt hge)
      rw [ex, hb1] at this; cases this
     have hly : y < n := hE.lt hn (fun h => by rw [hy] at h; cases h)
     have hne : y ≠ x := fun e => by subst e; rw [hx] at hy; cases hy
     have hyr : Rd w (fun _ => False) (.bool (C.kk % 3 == 0)) (s y) := (nw hy).rd (fun j => by simp)
     obtain ⟨z, h1, Γ, h2⟩ := scal_bin (v := .bool (C.kk % 3 == 0)) (u := .bool (C.kk % 3 == 0)) (r := .bool false) hA hg hn ho ht hlt (by rw [ex, hb1]; exact .bool _) (.inl ⟨y, rfl, hly, hne, hyr⟩) (by simp [binV, hd])
     rw [h2.bool_inv] at h1
     exact .inl ⟨_, h1, by rw [← hv]; rfl⟩
    ·cases hv
   ·cases hv
  ·cases hv
 ·cases hv
theorem kop_one {mtF jc kc : Nat} (hA : Agree P c) (htx : TextOk P C.mt mtF) (hkk : C.kk < 4611686018427387904) (hi : C.i < C.m) (hc : markNum C.mt kc C.kk (C.vals jc)) (h : kop c mtF n C.s jc kc e o = some e') (hE : KE C e s) (hn : ∀ i, n ≤ i → s i = undef) (hg : globOk w) (hin : KIn C w) :
  ∃ d v, o.dst = some d ∧ d < n ∧ e' = (d, v) :: e ∧ O1 P n o s w (fun s' w' => ∃ x, s' = upd s d x ∧ KR C v x ∧ Kept w w') := by
 obtain ⟨hgd, d, v, hd, hdn, he, hor⟩ := kop_val hA htx hkk hi hc h hE hn hg hin
 refine ⟨d, v, hd, hdn, he, ?_⟩
 rcases hor with ⟨x, h1, h2⟩ | ⟨rfl, h1⟩
 ·exact O1.value hgd hd hdn h1 ⟨x, rfl, h2, Kept.refl w⟩
 ·refine O1.call hgd hd hdn h1 ((htx.2 C.kk w hkk hg).mono (fun en w' h => ?_))
  obtain ⟨b, rfl, h2, h3⟩ := h
  exact ⟨_, rfl, _, rfl, ⟨b, rfl, h2⟩, h3⟩
theorem undef_upd (hn : ∀ i, n ≤ i → s i = undef) {d : Nat} (hd : d < n) (x : Value) : ∀ i, n ≤ i → upd s d x i = undef := fun i hi => by rw [upd_ne (by omega)]; exact hn i hi
def kops (c : Cfg) (mtF n s jc kc : Nat) : List Oper → List (Nat × KV) → List (Nat × KV) × List Oper
 | [], e => (e, [])
 | o :: os, e => match kop c mtF n s jc kc e o with
  | some e' => kops c mtF n s jc kc os e'
  | none => (e, o :: os)
theorem kops_ok {mtF jc kc : Nat} (hA : Agree P c) (htx : TextOk P C.mt mtF) (hkk : C.kk < 4611686018427387904) (hi : C.i < C.m) (hc : markNum C.mt kc C.kk (C.vals jc)) : ∀ (l : List Oper) (e : List (Nat × KV)) (s : Nat → Value) (w : World), KE C e s → (∀ i, n ≤ i → s i = undef) → globOk w → KIn C w →
  ∀ K, (∀ s' w', KE C (kops c mtF n C.s jc kc l e).1 s' → (∀ i, n ≤ i → s' i = undef) → Kept w w' → R P n ops (kops c mtF n C.s jc kc l e).2 s' w' K) → R P n ops l s w K := by
 intro l
 induction l with
 | nil => intro e s w hE hn hg hin K hK; exact hK s w hE hn (Kept.refl w)
 | cons o l ih =>
  intro e s w hE hn hg hin K hK
  cases hk : kop c mtF n C.s jc kc e o with
  | none => simp only [kops, hk] at hK; exact hK s w hE hn (Kept.refl w)
  | some e' =>
   simp only [kops, hk] at hK
   obtain ⟨d, v, hd, hdn, rfl, h1⟩ := kop_one hA htx hkk hi hc hk hE hn hg hin
   refine R.one (h1.mono (fun s' w' h => ?_))
   obtain ⟨x, rfl, hx, hkp⟩ := h
   exact ih _ _ w' (hE.put hx) (undef_upd hn hdn x) (hkp.glob' hg) (hin.kept hkp) K (fun s' w'' a b d => hK s' w'' a b (hkp.tr d))
theorem kop_congr {mtF s jc kc : Nat} {e e2 e' : List (Nat × KV)} (hx : ∀ x, .tmp x ∈ o.op.operands.toList → kget e2 x = kget e x) (h : kop c mtF n s jc kc e o = some e') : ∃ d v, o.dst = some d ∧ d < n ∧ e' = (d, v) :: e ∧ kop c mtF n s jc kc e2 o = some ((d, v) :: e2) := by
 unfold kop at h ⊢
 split at h
 rotate_left
 ·cases h
 rename_i d hgd hdst
 split at h
 rotate_left
 ·cases h
 rename_i hdn
 rw [if_pos hdn]
 split at h
 rotate_left
 ·cases h
 rename_i v hv
 injection h with h
 exact ⟨d, v, hdst, hdn, h.symm, by rw [kval_congr hx, hv]⟩
def dstsOf (l : List Oper) : List Nat := l.filterMap (·.dst)
def kdrawOk (ops : Array Oper) : Bool :=
 decide ((dstsOf ops.toList ++ [0, 1, 5]).Nodup) && (List.range ops.size).all fun j => match ops[j]? with
  | some o => o.after.toList.all (fun e => decide (e.on < j)) && o.op.operands.toList.all fun
   | .tmp x => !(dstsOf ops.toList).contains x || o.after.toList.any fun e => Region.binds .any e && (match ops[e.on]? with
    | some o' => o'.dst == some x
    | none => false)
   | _ => true
  | none => true
theorem kops_all {mtF s jc kc : Nat} {e1 : List (Nat × KV)} : ∀ (l : List Oper) (e : List (Nat × KV)), kops c mtF n s jc kc l e = (e1, []) → (dstsOf l).Nodup → (∀ t, t ∉ dstsOf l → kget e1 t = kget e t) ∧
  ∀ j o, l[j]? = some o → ∃ ej d v, kop c mtF n s jc kc ej o = some ((d, v) :: ej) ∧ o.dst = some d ∧ kget e1 d = v ∧ ∀ t, t ∉ dstsOf (l.drop j) → kget ej t = kget e1 t := by
 intro l
 induction l with
 | nil =>
  intro e h _
  simp only [kops, Prod.mk.injEq, and_true] at h
  subst h
  exact ⟨fun _ _ => rfl, fun j o h => by simp at h⟩
 | cons o l ih =>
  intro e h hnd
  simp only [kops] at h
  cases hk : kop c mtF n s jc kc e o with
  | none => rw [hk] at h; simp at h
  | some e' =>
   rw [hk] at h
   obtain ⟨d, v, hd, hdn, rfl, _⟩ := kop_congr (e2 := e) (fun _ _ => rfl) hk
   have hds : dstsOf (o :: l) = d :: dstsOf l := by simp [dstsOf, hd]
   rw [hds] at hnd ⊢
   obtain ⟨n1, n2⟩ := List.nodup_cons.1 hnd
   obtain ⟨i1, i2⟩ := ih _ h n2
   refine ⟨fun t ht => ?_, fun j o' hj => ?_⟩
   ·rw [List.mem_cons, not_or] at ht
    rw [i1 t ht.2, kget, if_neg (fun e => ht.1 e.symm)]
   ·cases j with
    | zero =>
     simp only [List.getElem?_cons_zero, Option.some.injEq] at hj
     subst hj
     refine ⟨e, d, v, hk, hd, by rw [i1 d n1, kget, if_pos rfl], fun t ht => ?_⟩
     rw [List.drop_zero, hds, List.mem_cons, not_or] at ht
     rw [i1 t ht.2, kget, if_neg (fun e => ht.1 e.symm)]
    | succ j => exact i2 j o' (by simpa using hj)
theorem kdraw_ok {mtF jc kc : Nat} {e0 e1 : List (Nat × KV)} (hm : P.follows .mixedOrders = true) (hA : Agree P c) (htx : TextOk P C.mt mtF) (hkk : C.kk < 4611686018427387904) (hi : C.i < C.m) (hc : markNum C.mt kc C.kk (C.vals jc)) (hk : kops c mtF n C.s jc kc ops.toList e0 = (e1, []))
  (hok : kdrawOk ops = true) (hE : KE C e0 s) (hn : ∀ i, n ≤ i → s i = undef) (hg : globOk w) (hin : KIn C w) {id : Nat} {J : Exit → (Nat → Value) → World → Prop} (hJ : ∀ s' w', KE C e1 s' → (∀ i, n ≤ i → s' i = undef) → Kept w w' → J .normal s' w') : W P n (.region id ops true) s w J := by
 unfold kdrawOk at hok
 rw [Bool.and_eq_true, decide_eq_true_eq, List.all_eq_true] at hok
 obtain ⟨hnd, hall⟩ := hok
 have hnd1 := (List.nodup_append.1 hnd).1
 obtain ⟨a1, a2⟩ := kops_all _ _ hk hnd1
 have hops : ∀ (j : Nat) (o : Oper), ops[j]? = some o → ops.toList[j]? = some o := fun j o h => by simpa using h
 have hinj : ∀ (i j : Nat) (x y : Oper) (d : Nat), ops[i]? = some x → ops[j]? = some y → x.dst = some d → y.dst = some d → i = j := fun i j x y d h1 h2 h3 h4 => nodup_filterMap_inj hnd1 i j x y d (hops i x h1) (hops j y h2) h3 h4
 have hmem : ∀ (j : Nat) (o : Oper) (d : Nat), ops[j]? = some o → o.dst = some d → d ∈ dstsOf ops.toList := fun j o d h1 h2 => List.mem_filterMap.2 ⟨o, List.mem_of_getElem? (hops j o h1), h2⟩
 have hat : ∀ (j : Nat) (o : Oper), ops[j]? = some o → (∀ e ∈ o.after.toList, e.on < j) ∧ ∀ x, .tmp x ∈ o.op.operands.toList → x ∉ dstsOf ops.toList ∨ ∃ e ∈ o.after.toList, Region.binds .any e = true ∧ ∃ o', ops[e.on]? = some o' ∧ o'.dst = some x := by
  intro j o ho
  have h := hall j (List.mem_range.2 (Array.getElem?_eq_some_iff.1 ho).1)
  rw [ho] at h
  simp only [Bool.and_eq_true, List.all_eq_true, decide_eq_true_eq] at h
  refine ⟨h.1, fun x hx => ?_⟩
  have h2 := h.2 _ hx
  simp only [Bool.or_eq_true, Bool.not_eq_true', List.any_eq_true, Bool.and_eq_true] at h2
  rcases h2 with h2 | ⟨e, he, hb, h2⟩
  ·exact .inl (fun hm => by rw [List.contains_iff_mem.2 hm] at h2; cases h2)
  ·refine .inr ⟨e, he, hb, ?_⟩
   split at h2
   ·rename_i o' ho'
    exact ⟨o', ho', by simpa using h2⟩
   ·cases h2
 refine W.drawn hm (fun listed s' w' => listed.size = ops.size ∧ (∀ i, n ≤ i → s' i = undef) ∧ globOk w' ∧ KIn C w' ∧ Kept w w' ∧ (∀ t, t ∉ dstsOf ops.toList → KR C (kget e0 t) (s' t)) ∧ ∀ (j : Nat) (o : Oper) (t : Nat), ops[j]? = some o → o.dst = some t → listed.getD j false = true → KR C (kget e1 t) (s' t)) (fun j o ho => (hat j o ho).1) ?_ ?_ ?_
 ·intro listed s' w' i o hI ho hli hsz hedges
  obtain ⟨i0, i1, i2, i3, i4, i5, i6⟩ := hI
  obtain ⟨ej, d, v, k1, k2, k3, k4⟩ := a2 i o (hops i o ho)
  have hilt := (Array.getElem?_eq_some_iff.1 ho).1
  -- what the operands are
  have hopd : ∀ x, .tmp x ∈ o.op.operands.toList → kget ej x = kget e1 x ∧ KR C (kget e1 x) (s' x) := by
   intro x hx
   rcases (hat i o ho).2 x hx with hno | ⟨e, he, hb, o', ho', hd'⟩
   ·have hno2 : x ∉ dstsOf (ops.toList.drop i) := fun hm => by
     obtain ⟨y, hy, hyd⟩ := List.mem_filterMap.1 hm
     exact hno (List.mem_filterMap.2 ⟨y, List.mem_of_mem_drop hy, hyd⟩)
    refine ⟨k4 x hno2, ?_⟩
    rw [a1 x hno]
    exact i5 x hno
   ·have hlt := (hat i o ho).1 e he
    have hno2 : x ∉ dstsOf (ops.toList.drop i) := fun hm => by
     obtain ⟨y, hy, hyd⟩ := List.mem_filterMap.1 hm
     obtain ⟨q, hq⟩ := List.getElem?_of_mem hy
     rw [List.getElem?_drop] at hq
     have := hinj e.on (i + q) o' y x ho' (by simpa using hq) hd' hyd
     omega
    exact ⟨k4 x hno2, i6 e.on o' x ho' hd' (hedges e he hb)⟩
  let e2 : List (Nat × KV) := o.op.operands.toList.filterMap fun | .tmp x => some (x, kget e1 x) | _ => none
  have hget : ∀ (l : List Operand) (t : Nat), kget (l.filterMap fun | .tmp x => some (x, kget e1 x) | _ => none) t = .un ∨ (.tmp t ∈ l ∧ kget (l.filterMap fun | .tmp x => some (x, kget e1 x) | _ => none) t = kget e1 t) := by
   intro l t
   induction l with
   | nil => exact .inl rfl
   | cons y l ih =>
    cases y with
    | tmp x =>
     simp only [List.filterMap_cons, kget]
     by_cases e : x = t
     ·subst e; rw [if_pos rfl]; exact .inr ⟨by simp, rfl⟩
     ·rw [if_neg e]
      exact ih.imp (fun h => h) (fun h => ⟨by simp [h.1], h.2⟩)
    | _ => exact ih.imp (fun h => h) (fun h => ⟨by simp [h.1], h.2⟩)
  have hget2 : ∀ (l : List Operand) (t : Nat), .tmp t ∈ l → kget (l.filterMap fun | .tmp x => some (x, kget e1 x) | _ => none) t = kget e1 t := by
   intro l t
   induction l with
   | nil => intro h; cases h
   | cons y l ih =>
    intro h
    cases y with
    | tmp x =>
     simp only [List.filterMap_cons, kget]
     by_cases e : x = t
     ·subst e; rw [if_pos rfl]
     ·rw [if_neg e]
      refine ih ((List.mem_cons.1 h).resolve_left (fun h => ?_))
      injection h with h
      exact e h.symm
    | _ => exact ih ((List.mem_cons.1 h).resolve_left (by simp))
  have hE2 : KE C e2 s' := fun t => by
   rcases hget o.op.operands.toList t with h | ⟨h1, h2⟩
   ·rw [show kget e2 t = .un from h]; exact trivial
   ·rw [show kget e2 t = kget e1 t from h2]; exact (hopd t h1).2
  obtain ⟨d', v', q1, q2, q3, q4⟩ := kop_congr (e2 := e2) (fun x hx => (hget2 _ x hx).trans (hopd x hx).1.symm) k1
  rw [k2] at q1
  injection q1 with q1
  subst q1
  injection q3 with q3 _
  injection q3 with _ q3
  subst q3
  obtain ⟨d', v', r1, r2, r3, r4⟩ := kop_one (P := P) hA htx hkk hi hc q4 hE2 i1 i2 i3
  rw [k2] at r1
  injection r1 with r1
  subst r1
  injection r3 with r3 _
  injection r3 with _ r3
  subst r3
  refine r4.mono (fun s2 w2 h => ?_)
  obtain ⟨x, rfl, hx, hkp⟩ := h
  refine ⟨by simpa using i0, undef_upd i1 r2 x, hkp.glob' i2, i3.kept hkp, i4.tr hkp, fun t ht => ?_, fun j o' t hj hd' hl => ?_⟩
  ·rw [upd_ne (fun e : t = d => ht (by rw [e]; exact hmem i o d ho k2))]
   exact i5 t ht
  ·by_cases e : j = i
   ·subst e
    rw [ho] at hj
    injection hj with hj
    subst hj
    rw [k2] at hd'
    injection hd' with hd'
    subst hd'
    rw [upd_same, k3]
    exact hx
   ·rw [upd_ne (fun e2 : t = d => e (hinj j i o' o d hj ho (by rw [← e2]; exact hd') k2))]
    rw [getD_set_ne false (Ne.symm e)] at hl
    exact i6 j o' t hj hd' hl
 ·intro listed s' w' hl hI
  obtain ⟨i0, i1, i2, i3, i4, i5, i6⟩ := hI
  refine hJ s' w' (fun t => ?_) i1 i4
  by_cases ht : t ∈ dstsOf ops.toList
  ·obtain ⟨o, ho, hd⟩ := List.mem_filterMap.1 ht
   obtain ⟨j, hj⟩ := List.getElem?_of_mem ho
   have hj' : ops[j]? = some o := by simpa using hj
   have hjl := (Array.getElem?_eq_some_iff.1 hj').1
   have h1 := hl j hjl
   have h2 : listed.getD j false = true := by
    have : j < listed.size := by omega
    simpa [this] using h1
   exact i6 j o t hj' hd h2
  ·rw [a1 t ht]; exact i5 t ht
 ·refine ⟨by simp, hn, ?_, ?_, ?_, fun t _ => hE t, fun j o t hj _ hl => ?_⟩
  ·exact hg
  ·exact hin
  ·exact ⟨rfl, rfl, rfl, Nat.le_refl _, fun _ _ => rfl⟩
  ·have hjl := (Array.getElem?_eq_some_iff.1 hj).1
   simp [hjl] at hl
end
end Go.Am
end
section
set_option linter.unusedVariables false
set_option linter.unusedSimpArgs false
namespace Go.Am
open Go Go.RowKit
mutual
def Kd.same : Kd → Kd → Bool
 | .str, .str => true
 | .int, .int => true
 | .bool, .bool => true
 | .sl a, .sl b => Kd.sames a b
 | _, _ => false
def Kd.sames : List Kd → List Kd → Bool
 | [], [] => true
 | a :: az, b :: bs => Kd.same a b && Kd.sames az bs
 | _, _ => false
end
theorem Kd.same_eq (a : Kd) : ∀ b, Kd.same a b = true → a = b :=
 Kd.rec (motive_1 := fun a => ∀ b, Kd.same a b = true → a = b) (motive_2 := fun az => ∀ bs, Kd.sames az bs = true → az = bs)
  (fun b h => by cases b <;> first | rfl | (simp [Kd.same] at h)) (fun b h => by cases b <;> first | rfl | (simp [Kd.same] at h)) (fun b h => by cases b <;> first | rfl | (simp [Kd.same] at h))
  (fun ks ih b h => by
   cases b with
   | sl ks' => rw [ih ks' (by simpa [Kd.same] using h)]
   | _ => simp [Kd.same] at h)
  (fun bs h => by cases bs with
   | nil => rfl
   | cons b bs => simp [Kd.sames] at h)
  (fun a az h1 h2 bs h => by
   cases bs with
   | nil => simp [Kd.sames] at h
   | cons b bs =>
    rw [Kd.sames, Bool.and_eq_true] at h
    rw [h1 b h.1, h2 bs h.2]) a
def kinit : List (Nat × KV) := [(0, .sl), (1, .ct), (5, .ix)]
def kEnd (e : List (Nat × KV)) : Bool := kget e 0 == .sl && kget e 1 == .ct && kget e 5 == .ix
def isLeafSt (c : Cfg) (mtF n s j : Nat) (kd : Kd) (ops : Array Oper) : Bool :=
 match kops c mtF n s j 9 ops.toList kinit with
 | (e, [o]) => match o.op, o.dst, o.guard with
  | .store t (.tmp a) (.tmp v), none, none => (kget e a == .ad j) && (match kd, kget e v with
   | .str, .tx => true
   | .int, .ct => true
   | .bool, .fl => true
   | _, _ => false) && (match c.ty t with
   | some i => i.size == 1
   | none => false) && kEnd e
  | _, _, _ => false
 | _ => false
def isInc (c : Cfg) (mtF n s : Nat) (ops : Array Oper) : Bool :=
 match kops c mtF n s 0 9 ops.toList kinit with
 | (e, []) => kget e 0 == .sl && kget e 1 == .c1 && kget e 5 == .ix
 | _ => false
def subOf (c : Cfg) (mtF n s j : Nat) (ops : Array Oper) : Option Nat :=
 match kops c mtF n s j 9 ops.toList kinit with
 | (e, [o1, o2]) => match o1.op, o1.dst, o1.guard with
  | .call ⟨.value (.func f), args, _⟩, some d, none => match args.toList, o2.op, o2.dst, o2.guard with
   | [.tmp x, .tmp k], .assign (.tmp d'), some 1, none => if (kget e x == .ce j && kget e k == .ct && d' == d && decide (d < n) && decide (1 < n) && d != 0 && d != 5 && kEnd e) = true then some f else none
   | _, _, _, _ => none
  | _, _, _ => none
 | _ => none
def knows (subs : List (Nat × Kd)) (f : Nat) (kd : Kd) : Bool := subs.any fun p => p.1 == f && p.2.same kd
def mField1 (c : Cfg) (mtF n s : Nat) (subs : List (Nat × Kd)) (kd : Kd) (j : Nat) (codes : List Code) : Option (List Code) :=
 if kd.leaf then (match codes with
  | .region _ r false :: .region _ r2 false :: rest => if isLeafSt c mtF n s j kd r && isInc c mtF n s r2 then some rest else none
  | _ => none)
 else (match codes with
  | .region _ r false :: rest => (match subOf c mtF n s j r with
   | some f => if knows subs f kd then some rest else none
   | none => none)
  | _ => none)
def mFields (c : Cfg) (mtF n s : Nat) (subs : List (Nat × Kd)) : List Kd → Nat → List Code → Bool
 | [], _, codes => codes.isEmpty
 | kd :: ks, j, codes => match mField1 c mtF n s subs kd j codes with
  | some rest => mFields c mtF n s subs ks (j + 1) rest
  | none => false
def isLeafCh (c : Cfg) (mtF n s j : Nat) (kd : Kd) (ops : Array Oper) (draw : Bool) (t : Nat) : Bool :=
 match kops c mtF n s j kd.num ops.toList kinit with
 | (e, []) => kget e t == .ne && kEnd e && (!draw || kdrawOk ops)
 | _ => false
def isNeg (c : Cfg) (mtF n s : Nat) (ops : Array Oper) (t : Nat) : Bool :=
 match kops c mtF n s 0 9 ops.toList kinit with
 | (e, []) => kget e t == .ng && kEnd e
 | _ => false
def hField1 (c : Cfg) (mtF n s : Nat) (subs : List (Nat × Kd)) (kd : Kd) (j : Nat) (codes : List Code) : Option (List Code) :=
 if kd.leaf then (match codes with
  | .region _ r draw :: .cond (.tmp t) _ .skip :: .region _ r2 false :: rest => if isLeafCh c mtF n s j kd r draw t && isInc c mtF n s r2 then some rest else none
  | _ => none)
 else (match codes with
  | .region _ r false :: .region _ r3 false :: .cond (.tmp t) _ .skip :: rest => (match subOf c mtF n s j r with
   | some f => if knows subs f kd && isNeg c mtF n s r3 t then some rest else none
   | none => none)
  | _ => none)
def hFields (c : Cfg) (mtF n s : Nat) (subs : List (Nat × Kd)) : List Kd → Nat → List Code → Bool
 | [], _, codes => codes.isEmpty
 | kd :: ks, j, codes => match hField1 c mtF n s subs kd j codes with
  | some rest => hFields c mtF n s subs ks (j + 1) rest
  | none => false
section
variable {P : Program} {c : Cfg} {n : Nat} {s : Nat → Value} {w w' w0 : World} {mt : Nat → List UInt8} {mtF : Nat} {subs : List (Nat × Kd)} {ks : List Kd} {bk o m cap k0 i : Nat} {cur : Array Value} {ty : TypeId} {N : Nat → Nat} {Ts : Nat → Nat → Prop}
theorem knows_ok {f : Nat} {kd : Kd} {Q : Nat → Kd → Prop} (h : knows subs f kd = true) (hs : ∀ p ∈ subs, Q p.1 p.2) : Q f kd := by
 unfold knows at h
 rw [List.any_eq_true] at h
 obtain ⟨p, hp, h⟩ := h
 rw [Bool.and_eq_true, beq_iff_eq] at h
 have := hs p hp
 rw [h.1, Kd.same_eq _ _ h.2] at this
 exact this
structure S5 (n : Nat) (x : Value) (i kk : Nat) (s : Nat → Value) (w : World) : Prop where
  s0 : s 0 = x
  s1 : s 1 = .int .i64 (kk : Int)
  s5 : s 5 = .int .i64 (i : Int)
  un : ∀ t, n ≤ t → s t = undef
  g : globOk w
def kcOf (mt : Nat → List UInt8) (bk o m cap i len kk : Nat) (cur : Array Value) : KC := ⟨mt, bk, o, m, cap, i, len, kk, fun j => cur.getD (o + i * len + j) undef⟩
theorem S5.ke {len kk : Nat} (h : S5 n (.slice (some ⟨bk, o, none⟩) m cap) i kk s w) : KE (kcOf mt bk o m cap i len kk cur) kinit s := by
 intro t
 unfold kinit
 simp only [kget]
 split
 ·rename_i e; subst e; exact h.s0
 ·split
  ·rename_i e; subst e; exact h.s1
  ·split
   ·rename_i e; subst e; exact h.s5
   ·exact trivial
theorem kEnd_inv {e : List (Nat × KV)} (h : kEnd e = true) : kget e 0 = .sl ∧ kget e 1 = .ct ∧ kget e 5 = .ix := by
 unfold kEnd at h
 simp only [Bool.and_eq_true, beq_iff_eq] at h
 exact ⟨h.1.1, h.1.2, h.2⟩
theorem S5.of {len kk : Nat} {e : List (Nat × KV)} (hE : KE (kcOf mt bk o m cap i len kk cur) e s) (h : kEnd e = true) (un : ∀ t, n ≤ t → s t = undef) (g : globOk w) : S5 n (.slice (some ⟨bk, o, none⟩) m cap) i kk s w := by
 obtain ⟨h1, h2, h3⟩ := kEnd_inv h
 have e0 := hE 0
 have e1 := hE 1
 have e5 := hE 5
 rw [h1] at e0; rw [h2] at e1; rw [h3] at e5
 exact ⟨e0, e1, e5, un, g⟩
theorem rowlt {len j : Nat} (hi : i < m) (hj : j < len) : i * len + j < m * len := rowPos hi hj
theorem rowmod {len j : Nat} (hj : j < len) : (i * len + j) % len = j := by rw [Nat.mul_add_mod_self_right, Nat.mod_eq_of_lt hj]
theorem kin_of {len kk : Nat} (hb : w.heap[bk]? = some (.cells cur ty (0, 0))) (hsz : o + m * len ≤ cur.size) (hi : i < m) : KIn (kcOf mt bk o m cap i len kk cur) w := by
 refine ⟨blk_lt hb, fun j hj => ?_⟩
 have hj : j < len := hj
 have := rowlt hi hj
 have hlt : o + i * len + j < cur.size := by omega
 show w.cell? ⟨bk, o + i * len + j, none⟩ = some (cur.getD (o + i * len + j) undef)
 rw [cell_of hb]
 simp [hlt]
theorem num9 {k : Nat} {x : Value} : markNum mt 9 k x := by
 unfold markNum
 exact ⟨(fun h => by cases h), (fun h => by cases h), (fun h => by cases h)⟩
theorem leafSt_ok {j : Nat} {kd : Kd} {ops : Array Oper} {id : Nat} {K : List Code} {J : Exit → (Nat → Value) → World → Prop} (hA : Agree P c) (htx : TextOk P mt mtF) (hB : k0 + sumN N (m * ks.length) ≤ 1152921504606846976) (h : isLeafSt c mtF n ks.length j kd ops = true) (hi : i < m) (hj : ks[j]? = some kd) (hl : kd.leaf = true)
  (h5 : S5 n (.slice (some ⟨bk, o, none⟩) m cap) i (k0 + sumN N (i * ks.length + j)) s w) (hS : SlInv mt w0 w ks bk o m cur ty N Ts k0 (i * ks.length + j))
  (hK : ∀ s' w' cur', S5 n (.slice (some ⟨bk, o, none⟩) m cap) i (k0 + sumN N (i * ks.length + j)) s' w' → N (i * ks.length + j) = 1 → SlInv mt w0 w' ks bk o m cur' ty N Ts k0 (i * ks.length + j + 1) → globN ≤ bk → WL P n K s' w' J) (hgn : globN ≤ bk) : WL P n (.region id ops false :: K) s w J := by
 have hjl : j < ks.length := (List.getElem?_eq_some_iff.1 hj).1
 have hp := rowlt hi hjl
 have hkk : k0 + sumN N (i * ks.length + j) < 4611686018427387904 := by
  have := sumN_le (N := N) (Nat.le_of_lt hp); omega
 unfold isLeafSt at h
 obtain ⟨e, l, hko⟩ : ∃ e l, kops c mtF n ks.length j 9 ops.toList kinit = (e, l) := ⟨_, _, rfl⟩
 rw [hko] at h
 refine W.region (kops_ok (C := kcOf mt bk o m cap i ks.length (k0 + sumN N (i * ks.length + j)) cur) (jc := j) (kc := 9) hA htx hkk hi num9 ops.toList kinit s w h5.ke h5.un h5.g (kin_of hS.hb hS.hsz hi) _ (fun s' w' hE hn hk => ?_))
 rw [show kops c mtF n (kcOf mt bk o m cap i ks.length (k0 + sumN N (i * ks.length + j)) cur).s j 9 ops.toList kinit = (e, l) from hko] at hE ⊢
 have hE : KE _ e s' := hE
 split at h
 rotate_left
 ·cases h
 rename_i e' o1 heq
 simp only [Prod.mk.injEq] at heq
 obtain ⟨rfl, rfl⟩ := heq
 split at h
 rotate_left
 ·cases h
 rename_i t a v ho hd hgd
 simp only [Bool.and_eq_true, beq_iff_eq] at h
 obtain ⟨⟨⟨h1, h2⟩, h3⟩, h4⟩ := h
 have hS' := hS.kept hk
 have hlt : o + (i * ks.length + j) < cur.size := by have := hS.hsz; omega
 have ea : s' a = .pointer (some ⟨bk, o + i * ks.length + j, none⟩) := by have := hE a; rw [h1] at this; exact this
 obtain ⟨kv, hkv⟩ : ∃ kv, kget e v = kv := ⟨_, rfl⟩
 have hv : markIs mt kd (k0 + sumN N (i * ks.length + j)) (s' v) := by
  have hev := hE v
  rw [hkv] at h2 hev
  split at h2
  ·exact hev
  ·exact hev
  ·exact hev
  ·cases h2
 have hone : (s' v).cells = #[s' v] ∧ (s' v).oneCell' = true := by
  cases kd with
  | str => obtain ⟨b, hb, _⟩ := hv; rw [hb]; exact ⟨rfl, rfl⟩
  | int => rw [show s' v = _ from hv]; exact ⟨rfl, rfl⟩
  | bool => rw [show s' v = _ from hv]; exact ⟨rfl, rfl⟩
  | sl ks => cases hl
 split at h3
 rotate_left
 ·cases h3
 rename_i ity hty
 obtain ⟨ti, ai⟩ := hA _ _ hty
 obtain ⟨w2, g1, g2⟩ := run_storeOne P w' bk (o + (i * ks.length + j)) ty t ti cur (s' v) hS'.hb ai.info (by rw [ai.size]; simpa using h3) hone.1 hone.2 hlt
 have hex : (execOp (evs s') o1).run P w' = .ok .skip w2 := by
  have ea' : s' a = .pointer (some ⟨bk, o + (i * ks.length + j), none⟩) := by rw [ea, ← Nat.add_assoc]
  simp [execOp, ho, evs, ea', g1]
 have hg' := hk.glob' h5.g
 obtain ⟨n1, hS2⟩ := hS'.leaf hp (by rw [rowmod hjl]; exact hj) hl hv g2
 refine R.skip hgd hd hex (R.nil ?_)
 exact hK s' w2 _ (S5.of hE h4 hn (g2.mod.glob (fun k e => by rw [e]; exact hgn) hg')) n1 hS2 hgn
theorem inc_ok {ops : Array Oper} {id : Nat} {K : List Code} {J : Exit → (Nat → Value) → World → Prop} (hA : Agree P c) (htx : TextOk P mt mtF) {len kk : Nat} (hkk : kk < 4611686018427387904) (h : isInc c mtF n len ops = true) (hi : i < m)
  (h5 : S5 n (.slice (some ⟨bk, o, none⟩) m cap) i kk s w) (hb : w.heap[bk]? = some (.cells cur ty (0, 0))) (hsz : o + m * len ≤ cur.size)
  (hK : ∀ s' w', S5 n (.slice (some ⟨bk, o, none⟩) m cap) i (kk + 1) s' w' → Kept w w' → WL P n K s' w' J) : WL P n (.region id ops false :: K) s w J := by
 unfold isInc at h
 obtain ⟨e, l, hko⟩ : ∃ e l, kops c mtF n len 0 9 ops.toList kinit = (e, l) := ⟨_, _, rfl⟩
 rw [hko] at h
 refine W.region (kops_ok (C := kcOf mt bk o m cap i len kk cur) (jc := 0) (kc := 9) hA htx hkk hi num9 ops.toList kinit s w h5.ke h5.un h5.g (kin_of hb hsz hi) _ (fun s' w' hE hn hk => ?_))
 rw [show kops c mtF n (kcOf mt bk o m cap i len kk cur).s 0 9 ops.toList kinit = (e, l) from hko] at hE ⊢
 have hE : KE _ e s' := hE
 split at h
 rotate_left
 ·cases h
 rename_i e' heq
 simp only [Prod.mk.injEq] at heq
 obtain ⟨rfl, rfl⟩ := heq
 simp only [Bool.and_eq_true, beq_iff_eq] at h
 obtain ⟨⟨h1, h2⟩, h3⟩ := h
 have e0 := hE 0
 have e1 := hE 1
 have e5 := hE 5
 rw [h1] at e0; rw [h2] at e1; rw [h3] at e5
 exact R.nil (hK s' w' ⟨e0, e1, e5, hn, hk.glob' h5.g⟩ hk)
theorem sub_ok {j f kk : Nat} {ops : Array Oper} {id : Nat} {K : List Code} {J : Exit → (Nat → Value) → World → Prop} (hA : Agree P c) (htx : TextOk P mt mtF) {len : Nat} (hkk : kk < 4611686018427387904) (h : subOf c mtF n len j ops = some f) (hi : i < m) (hkn : Known P f)
  (h5 : S5 n (.slice (some ⟨bk, o, none⟩) m cap) i kk s w) (hb : w.heap[bk]? = some (.cells cur ty (0, 0))) (hsz : o + m * len ≤ cur.size)
  {nn : Nat} {B : World → World → Prop} (hcall : ∀ w', Kept w w' → Calls P f #[cur.getD (o + i * len + j) undef, .int .i64 (kk : Int)] w' fun e w2 => e = .returned (.int .i64 ((kk + nn : Nat) : Int)) ∧ globOk w2 ∧ B w' w2)
  (hK : ∀ s' w' w2, Kept w w' → B w' w2 → S5 n (.slice (some ⟨bk, o, none⟩) m cap) i (kk + nn) s' w2 → WL P n K s' w2 J) : WL P n (.region id ops false :: K) s w J := by
 unfold subOf at h
 obtain ⟨e, l, hko⟩ : ∃ e l, kops c mtF n len j 9 ops.toList kinit = (e, l) := ⟨_, _, rfl⟩
 rw [hko] at h
 refine W.region (kops_ok (C := kcOf mt bk o m cap i len kk cur) (jc := j) (kc := 9) hA htx hkk hi num9 ops.toList kinit s w h5.ke h5.un h5.g (kin_of hb hsz hi) _ (fun s' w' hE hn hk => ?_))
 rw [show kops c mtF n (kcOf mt bk o m cap i len kk cur).s j 9 ops.toList kinit = (e, l) from hko] at hE ⊢
 have hE : KE _ e s' := hE
 split at h
 rotate_left
 ·cases h
 rename_i e' o1 o2 heq
 simp only [Prod.mk.injEq] at heq
 obtain ⟨rfl, rfl⟩ := heq
 split at h
 rotate_left
 ·cases h
 rename_i f' args ts d ho hd hgd
 split at h
 rotate_left
 ·cases h
 rename_i x k d' hargs ho2 hd2 hgd2
 split at h
 rotate_left
 ·cases h
 rename_i hc
 injection h with h
 subst h
 simp only [Bool.and_eq_true, beq_iff_eq, decide_eq_true_eq, bne_iff_ne, ne_eq] at hc
 obtain ⟨⟨⟨⟨⟨⟨⟨q1, q2⟩, q3⟩, q4⟩, q5⟩, q6⟩, q7⟩, q8⟩ := hc
 subst q3
 have ex : s' x = cur.getD (o + i * len + j) undef := by have := hE x; rw [q1] at this; exact this
 have ek : s' k = .int .i64 (kk : Int) := by have := hE k; rw [q2] at this; exact this
 obtain ⟨k0', k1', k5'⟩ := kEnd_inv q8
 have e0 := hE 0
 have e5 := hE 5
 rw [k0'] at e0; rw [k5'] at e5
 refine R.call hgd hd q4 ?_ ((hcall w' hk).mono (fun en w2 h => ?_)) (args := #[cur.getD (o + i * len + j) undef, .int .i64 (kk : Int)])
 ·rw [call_enter hkn ho, arr2 hargs]
  have ex' : s' x = cur.getD (o + i * len + j) undef := ex
  have ek' : s' k = .int .i64 (kk : Int) := ek
  simp only [evs, ex', ek', List.map_toArray, List.map_cons, List.map_nil]
 ·obtain ⟨rfl, hg2, hB2⟩ := h
  refine ⟨_, rfl, R.value hgd2 hd2 q5 (x := .int .i64 ((kk + nn : Nat) : Int)) (w' := w2) (by simp [execOp, ho2, evs, upd_same]) (R.nil ?_)⟩
  refine hK _ w' w2 hk hB2 ⟨?_, upd_same, ?_, undef_upd (undef_upd hn q4 _) q5 _, hg2⟩
  ·rw [upd_ne (by decide), upd_ne (fun e => q6 e.symm)]; exact e0
  ·rw [upd_ne (by decide), upd_ne (fun e => q7 e.symm)]; exact e5
theorem leafCh_ok {j t kk : Nat} {kd : Kd} {ops : Array Oper} {draw : Bool} {id : Nat} {X : Code} {K : List Code} {J : Exit → (Nat → Value) → World → Prop} (hm : P.follows .mixedOrders = true) (hA : Agree P c) (htx : TextOk P mt mtF) {len : Nat} (hkk : kk < 4611686018427387904) (h : isLeafCh c mtF n len j kd ops draw t = true) (hi : i < m)
  (hv : markIs mt kd kk (cur.getD (o + i * len + j) undef)) (h5 : S5 n (.slice (some ⟨bk, o, none⟩) m cap) i kk s w) (hb : w.heap[bk]? = some (.cells cur ty (0, 0))) (hsz : o + m * len ≤ cur.size)
  (hK : ∀ s' w', S5 n (.slice (some ⟨bk, o, none⟩) m cap) i kk s' w' → Kept w w' → WL P n K s' w' J) : WL P n (.region id ops draw :: .cond (.tmp t) X .skip :: K) s w J := by
 unfold isLeafCh at h
 obtain ⟨e, l, hko⟩ : ∃ e l, kops c mtF n len j kd.num ops.toList kinit = (e, l) := ⟨_, _, rfl⟩
 rw [hko] at h
 split at h
 rotate_left
 ·cases h
 rename_i e' heq
 simp only [Prod.mk.injEq] at heq
 obtain ⟨rfl, rfl⟩ := heq
 simp only [Bool.and_eq_true, beq_iff_eq, Bool.or_eq_true, Bool.not_eq_true'] at h
 obtain ⟨⟨h1, h2⟩, h3⟩ := h
 have hnum : markNum mt kd.num kk (cur.getD (o + i * len + j) undef) := by
  unfold markNum
  cases kd <;> simp only [Kd.num] <;> exact ⟨(fun e => by first | exact hv | cases e), (fun e => by first | exact hv | cases e), (fun e => by first | exact hv | cases e)⟩
 have fin : ∀ s' w', KE (kcOf mt bk o m cap i len kk cur) e s' → (∀ i, n ≤ i → s' i = undef) → Kept w w' → WL P n (.cond (.tmp t) X .skip :: K) s' w' J := fun s' w' hE hn hk => by
  have et : s' t = .bool false := by have := hE t; rw [h1] at this; exact this
  exact W.cond (b := false) et (W.skip (hK s' w' (S5.of hE h2 hn (hk.glob' h5.g)) hk))
 cases draw with
 | false =>
  refine W.region (kops_ok (C := kcOf mt bk o m cap i len kk cur) (jc := j) (kc := kd.num) hA htx hkk hi hnum ops.toList kinit s w h5.ke h5.un h5.g (kin_of hb hsz hi) _ (fun s' w' hE hn hk => ?_))
  rw [show kops c mtF n (kcOf mt bk o m cap i len kk cur).s j kd.num ops.toList kinit = (e, []) from hko] at hE ⊢
  exact R.nil (fin s' w' hE hn hk)
 | true => exact kdraw_ok (C := kcOf mt bk o m cap i len kk cur) (jc := j) (kc := kd.num) hm hA htx hkk hi hnum hko (h3.resolve_left (by simp)) h5.ke h5.un h5.g (kin_of hb hsz hi) fin
theorem neg_ok {t kk : Nat} {ops : Array Oper} {id : Nat} {X : Code} {K : List Code} {J : Exit → (Nat → Value) → World → Prop} (hA : Agree P c) (htx : TextOk P mt mtF) {len : Nat} (hkk : kk < 4611686018427387904) (h : isNeg c mtF n len ops t = true) (hi : i < m)
  (h5 : S5 n (.slice (some ⟨bk, o, none⟩) m cap) i kk s w) (hb : w.heap[bk]? = some (.cells cur ty (0, 0))) (hsz : o + m * len ≤ cur.size)
  (hK : ∀ s' w', S5 n (.slice (some ⟨bk, o, none⟩) m cap) i kk s' w' → Kept w w' → WL P n K s' w' J) : WL P n (.region id ops false :: .cond (.tmp t) X .skip :: K) s w J := by
 unfold isNeg at h
 obtain ⟨e, l, hko⟩ : ∃ e l, kops c mtF n len 0 9 ops.toList kinit = (e, l) := ⟨_, _, rfl⟩
 rw [hko] at h
 split at h
 rotate_left
 ·cases h
 rename_i e' heq
 simp only [Prod.mk.injEq] at heq
 obtain ⟨rfl, rfl⟩ := heq
 simp only [Bool.and_eq_true, beq_iff_eq] at h
 refine W.region (kops_ok (C := kcOf mt bk o m cap i len kk cur) (jc := 0) (kc := 9) hA htx hkk hi num9 ops.toList kinit s w h5.ke h5.un h5.g (kin_of hb hsz hi) _ (fun s' w' hE hn hk => ?_))
 rw [show kops c mtF n (kcOf mt bk o m cap i len kk cur).s 0 9 ops.toList kinit = (e, []) from hko] at hE ⊢
 have et : s' t = .bool false := by have := hE t; rw [h.1] at this; exact this
 exact R.nil (W.cond (b := false) et (W.skip (hK s' w' (S5.of hE h.2 hn (hk.glob' h5.g)) hk)))
theorem mFields_ok (hA : Agree P c) (htx : TextOk P mt mtF) (hsub : ∀ p ∈ subs, MarkOk P mt p.1 p.2) (hB : k0 + sumN N (m * ks.length) ≤ 1152921504606846976) (hgn : globN ≤ bk) (hgT : ∀ p b, Ts p b → globN ≤ b) (hi : i < m) {J : Exit → (Nat → Value) → World → Prop} :
  ∀ (k : List Kd) (j : Nat) (codes : List Code) (s : Nat → Value) (w : World) (cur : Array Value), ks.drop j = k → mFields c mtF n ks.length subs k j codes = true → S5 n (.slice (some ⟨bk, o, none⟩) m cap) i (k0 + sumN N (i * ks.length + j)) s w → SlInv mt w0 w ks bk o m cur ty N Ts k0 (i * ks.length + j) →
  (∀ s' w' cur', S5 n (.slice (some ⟨bk, o, none⟩) m cap) i (k0 + sumN N ((i + 1) * ks.length)) s' w' → SlInv mt w0 w' ks bk o m cur' ty N Ts k0 ((i + 1) * ks.length) → J .normal s' w') → j ≤ ks.length → WL P n codes s w J := by
 intro k
 induction k with
 | nil =>
  intro j codes s w cur hk hc h5 hS hJ hjl
  have : j = ks.length := by
   have := List.drop_eq_nil_iff.1 hk
   omega
  subst this
  obtain rfl : codes = [] := by simpa [mFields] using hc
  have e : i * ks.length + ks.length = (i + 1) * ks.length := by rw [Nat.add_mul, Nat.one_mul]
  rw [e] at h5 hS
  exact hJ s w cur h5 hS
 | cons kd k ih =>
  intro j codes s w cur hk hc h5 hS hJ hjl
  have hj : ks[j]? = some kd := by
   have := List.getElem?_drop (xs := ks) (i := j) (j := 0)
   rw [hk] at this
   simpa using this.symm
  have hjlt : j < ks.length := (List.getElem?_eq_some_iff.1 hj).1
  have hk' : ks.drop (j + 1) = k := by
   have := List.drop_drop (i := 1) (j := j) (l := ks)
   rw [hk] at this
   rw [← this]
   rfl
  have hp := rowlt hi hjlt
  have hkk : k0 + sumN N (i * ks.length + j) < 4611686018427387904 := by
   have := sumN_le (N := N) (Nat.le_of_lt hp); omega
  rw [mFields] at hc
  cases hf1 : mField1 c mtF n ks.length subs kd j codes with
  | none => rw [hf1] at hc; cases hc
  | some rest =>
  rw [hf1] at hc
  have h3 : mFields c mtF n ks.length subs k (j + 1) rest = true := hc
  clear hc
  unfold mField1 at hf1
  split at hf1
  ·rename_i hl
   split at hf1
   ·rename_i rest'
    split at hf1
    rotate_left
    ·cases hf1
    rename_i hcc
    injection hf1 with hf1
    subst hf1
    rw [Bool.and_eq_true] at hcc
    obtain ⟨h1, h2⟩ := hcc
    refine leafSt_ok hA htx hB h1 hi hj hl h5 hS (fun s1 w1 cur1 g5 n1 gS _ => ?_) hgn
    refine inc_ok hA htx hkk h2 hi g5 gS.hb gS.hsz (fun s2 w2 q5 qk => ?_)
    refine ih (j + 1) _ s2 w2 cur1 hk' h3 ?_ ?_ hJ hjlt
    ·have e : k0 + sumN N (i * ks.length + (j + 1)) = k0 + sumN N (i * ks.length + j) + 1 := by
      rw [← Nat.add_assoc (i * ks.length), sumN, n1, Nat.add_assoc]
     rw [e]
     exact q5
    ·rw [← Nat.add_assoc]
     exact gS.kept qk
   ·cases hf1
  ·rename_i hl
   split at hf1
   ·rename_i rest'
    split at hf1
    ·rename_i f hf
     split at hf1
     rotate_left
     ·cases hf1
     rename_i h1
     injection hf1 with hf1
     subst hf1
     obtain ⟨hkn, hmk⟩ := knows_ok (Q := MarkOk P mt) h1 hsub
     have hlt : o + i * ks.length + j < cur.size := by have := hS.hsz; omega
     have hv : cur[o + (i * ks.length + j)]? = some (cur.getD (o + i * ks.length + j) undef) := by
      rw [← Nat.add_assoc]
      simp [hlt]
     have htd := hS.todo (i * ks.length + j) kd _ (Nat.le_refl _) hp (by rw [rowmod hjlt]; exact hj) hv
     have hle : sumN N (i * ks.length + j) + N (i * ks.length + j) ≤ sumN N (m * ks.length) := sumN_le (N := N) (p := i * ks.length + j + 1) hp
     refine sub_ok (B := fun w w2 => Mod (Ts (i * ks.length + j)) w w2 ∧ MT mt true w2 kd (cur.getD (o + i * ks.length + j) undef) (k0 + sumN N (i * ks.length + j)) (N (i * ks.length + j)) (Ts (i * ks.length + j))) (nn := N (i * ks.length + j)) hA htx hkk hf hi hkn h5 hS.hb hS.hsz (fun w1 hk1 => ?_) (fun s1 w1 w2 hk1 hB2 g5 => ?_)
     ·have hS1 := hS.kept hk1
      refine (hmk (Ts (i * ks.length + j)) _ (N (i * ks.length + j)) _ w1 (hk1.glob' h5.g) (fun b hb => ⟨hgT _ b hb, hS1.lt _ b hb⟩) (hS1.todo _ kd _ (Nat.le_refl _) hp (by rw [rowmod hjlt]; exact hj) hv) (by omega)).mono (fun e w2 h => ?_)
      obtain ⟨g1, g2, g3⟩ := h
      exact ⟨g1, g2.glob (fun k hk => hgT _ k hk) (hk1.glob' h5.g), g2, g3⟩
     ·refine ih (j + 1) _ s1 w2 cur hk' h3 ?_ ?_ hJ hjlt
      ·have e : k0 + sumN N (i * ks.length + (j + 1)) = k0 + sumN N (i * ks.length + j) + N (i * ks.length + j) := by
        rw [← Nat.add_assoc (i * ks.length), sumN, Nat.add_assoc]
       rw [e]
       exact g5
      ·rw [← Nat.add_assoc]
       exact (hS.kept hk1).sub hp (by rw [rowmod hjlt]; exact hj) hv hB2.1 hB2.2
    ·cases hf1
   ·cases hf1
theorem hFields_ok (hm : P.follows .mixedOrders = true) (hA : Agree P c) (htx : TextOk P mt mtF) (hsub : ∀ p ∈ subs, HeldOk P mt p.1 p.2) (hB : k0 + sumN N (m * ks.length) ≤ 1152921504606846976) (hi : i < m) {J : Exit → (Nat → Value) → World → Prop}
  (hb0 : w0.heap[bk]? = some (.cells cur ty (0, 0))) (hsz : o + m * ks.length ≤ cur.size) (hlt : ∀ p b, Ts p b → b < w0.heap.size)
  (hmt : ∀ (q : Nat) (kd : Kd) (v : Value), q < m * ks.length → ks[q % ks.length]? = some kd → cur[o + q]? = some v → MT mt true w0 kd v (k0 + sumN N q) (N q) (Ts q)) :
  ∀ (k : List Kd) (j : Nat) (codes : List Code) (s : Nat → Value) (w : World), ks.drop j = k → hFields c mtF n ks.length subs k j codes = true → S5 n (.slice (some ⟨bk, o, none⟩) m cap) i (k0 + sumN N (i * ks.length + j)) s w → Kept w0 w →
  (∀ s' w', S5 n (.slice (some ⟨bk, o, none⟩) m cap) i (k0 + sumN N ((i + 1) * ks.length)) s' w' → Kept w0 w' → J .normal s' w') → j ≤ ks.length → WL P n codes s w J := by
 intro k
 induction k with
 | nil =>
  intro j codes s w hk hc h5 hS hJ hjl
  have : j = ks.length := by
   have := List.drop_eq_nil_iff.1 hk
   omega
  subst this
  obtain rfl : codes = [] := by simpa [hFields] using hc
  have e : i * ks.length + ks.length = (i + 1) * ks.length := by rw [Nat.add_mul, Nat.one_mul]
  rw [e] at h5
  exact hJ s w h5 hS
 | cons kd k ih =>
  intro j codes s w hk hc h5 hS hJ hjl
  have hj : ks[j]? = some kd := by
   have := List.getElem?_drop (xs := ks) (i := j) (j := 0)
   rw [hk] at this
   simpa using this.symm
  have hjlt : j < ks.length := (List.getElem?_eq_some_iff.1 hj).1
  have hk' : ks.drop (j + 1) = k := by
   have := List.drop_drop (i := 1) (j := j) (l := ks)
   rw [hk] at this
   rw [← this]
   rfl
  have hp := rowlt hi hjlt
  have hkk : k0 + sumN N (i * ks.length + j) < 4611686018427387904 := by
   have := sumN_le (N := N) (Nat.le_of_lt hp); omega
  have hlt2 : o + i * ks.length + j < cur.size := by omega
  have hv : cur[o + (i * ks.length + j)]? = some (cur.getD (o + i * ks.length + j) undef) := by
   rw [← Nat.add_assoc]
   simp [hlt2]
  have hcell := hmt (i * ks.length + j) kd _ hp (by rw [rowmod hjlt]; exact hj) hv
  have hbw : ∀ w', Kept w0 w' → w'.heap[bk]? = some (.cells cur ty (0, 0)) := fun w' hk => (hk.2.2.2.2 bk (blk_lt hb0)).trans hb0
  rw [hFields] at hc
  cases hf1 : hField1 c mtF n ks.length subs kd j codes with
  | none => rw [hf1] at hc; cases hc
  | some rest =>
  rw [hf1] at hc
  have h3 : hFields c mtF n ks.length subs k (j + 1) rest = true := hc
  clear hc
  unfold hField1 at hf1
  split at hf1
  ·rename_i hl
   split at hf1
   ·rename_i rest'
    split at hf1
    rotate_left
    ·cases hf1
    rename_i hcc
    injection hf1 with hf1
    subst hf1
    rw [Bool.and_eq_true] at hcc
    obtain ⟨h1, h2⟩ := hcc
    obtain ⟨n1, _, n3⟩ := hcell.one hl
    refine leafCh_ok hm hA htx hkk h1 hi (n3 rfl) h5 (hbw w hS) hsz (fun s1 w1 g5 gk => ?_)
    refine inc_ok hA htx hkk h2 hi g5 (hbw w1 (hS.tr gk)) hsz (fun s2 w2 q5 qk => ?_)
    refine ih (j + 1) _ s2 w2 hk' h3 ?_ ((hS.tr gk).tr qk) hJ hjlt
    have e : k0 + sumN N (i * ks.length + (j + 1)) = k0 + sumN N (i * ks.length + j) + 1 := by
     rw [← Nat.add_assoc (i * ks.length), sumN, n1, Nat.add_assoc]
    rw [e]
    exact q5
   ·cases hf1
  ·rename_i hl
   split at hf1
   ·rename_i rest'
    split at hf1
    ·rename_i f hf
     split at hf1
     rotate_left
     ·cases hf1
     rename_i hcc
     injection hf1 with hf1
     subst hf1
     rw [Bool.and_eq_true] at hcc
     obtain ⟨h1, h2⟩ := hcc
     obtain ⟨hkn, hmk⟩ := knows_ok (Q := HeldOk P mt) h1 hsub
     have hle : sumN N (i * ks.length + j) + N (i * ks.length + j) ≤ sumN N (m * ks.length) := sumN_le (N := N) (p := i * ks.length + j + 1) hp
     refine sub_ok (B := fun w w2 => Kept w w2) (nn := N (i * ks.length + j)) hA htx hkk hf hi hkn h5 (hbw w hS) hsz (fun w1 hk1 => ?_) (fun s1 w1 w2 hk1 hB2 g5 => ?_)
     ·have hS1 := hS.tr hk1
      refine (hmk (Ts (i * ks.length + j)) _ (N (i * ks.length + j)) _ w1 (hk1.glob' h5.g) (fun b hb => Nat.lt_of_lt_of_le (hlt _ b hb) hS1.2.2.2.1) (hcell.mono (fun b hb => hS1.2.2.2.2 b (hlt _ b hb))) (by omega)).mono (fun e w2 h => ?_)
      obtain ⟨g1, g2⟩ := h
      exact ⟨g1, g2.glob' (hk1.glob' h5.g), g2⟩
     ·have hS2 := (hS.tr hk1).tr hB2
      refine neg_ok hA htx (by omega) h2 hi g5 (hbw w2 hS2) hsz (fun s2 w3 q5 qk => ?_)
      refine ih (j + 1) _ s2 w3 hk' h3 ?_ (hS2.tr qk) hJ hjlt
      have e : k0 + sumN N (i * ks.length + (j + 1)) = k0 + sumN N (i * ks.length + j) + N (i * ks.length + j) := by
       rw [← Nat.add_assoc (i * ks.length), sumN, Nat.add_assoc]
      rw [e]
      exact q5
    ·cases hf1
   ·cases hf1
end
end Go.Am
end
