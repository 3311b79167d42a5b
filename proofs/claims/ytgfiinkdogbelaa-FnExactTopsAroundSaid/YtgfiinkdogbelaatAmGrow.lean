/-
  What a function hands over as new: trees in memory, no block of them twice; and the same as an argument of the next call.
-/
import Derived.Test.YtgfiinkdogbelaatAmMark2
section
set_option linter.unusedVariables false
set_option linter.unusedSimpArgs false
namespace Go.Am
open Go Go.RowKit
def mvOf (o : Oper) (x : Nat) : Option Nat :=
 match o.op, o.dst, o.guard with
 | .move (.tmp y), some d, none => if y = x then some d else none
 | _, _, _ => none
def asOf (o : Oper) (x d : Nat) : Bool :=
 match o.op, o.dst, o.guard with
 | .assign (.tmp y), some d', none => y == x && d' == d
 | _, _, _ => false
def as0Of (o : Oper) (d : Nat) : Bool :=
 match o.op, o.dst, o.guard with
 | .assign (.const (.int .i64 0)), some d', none => d' == d
 | _, _, _ => false
def lenOf (c : Cfg) (o : Oper) (x : Nat) : Option Nat :=
 match o.op, o.dst, o.guard with
 | .call ⟨.builtin .len, args, ts⟩, some d, none => match args.toList, ts.toList with
  | [.tmp y], [t] => match c.ty t with
   | some i => match i.d with
    | .slice _ => if y = x then some d else none
    | _ => none
   | none => none
  | _, _ => none
 | _, _, _ => none
def isI64 (c : Cfg) (t : Nat) : Bool :=
 match c.ty t with
 | some i => match i.d with
  | .int .i64 => true
  | _ => false
 | none => false
def lssOf (c : Cfg) (o : Oper) (x y t : Nat) : Bool :=
 match o.op, o.dst, o.guard with
 | .binOp .lss tt (.tmp x') (.tmp y') _, some d, none => x' == x && y' == y && d == t && isI64 c tt
 | _, _, _ => false
def add1Of (c : Cfg) (o : Oper) (x : Nat) : Option Nat :=
 match o.op, o.dst, o.guard with
 | .binOp .add tt (.tmp x') (.const (.int .i64 1)) _, some d, none => if x' = x ∧ isI64 c tt = true then some d else none
 | _, _, _ => none
def isHead (c : Cfg) (n : Nat) (r : Array Oper) (t : Nat) : Bool :=
 match r.toList with
 | [o0, o1, o2, o3] => match mvOf o0 5, mvOf o1 0 with
  | some d0, some d1 => match lenOf c o2 d1 with
   | some d2 => lssOf c o3 d0 d2 t && decide (6 ≤ d0 ∧ d0 < n ∧ 6 ≤ d1 ∧ d1 < n ∧ 6 ≤ d2 ∧ d2 < n ∧ 6 ≤ t ∧ t < n ∧ d0 ≠ d1 ∧ d0 ≠ d2 ∧ d1 ≠ d2)
   | none => false
  | _, _ => false
 | _ => false
def isNext (c : Cfg) (n : Nat) (r : Array Oper) : Bool :=
 match r.toList with
 | [o0, o1, o2] => match mvOf o0 5 with
  | some d0 => match add1Of c o1 d0 with
   | some d1 => asOf o2 d1 5 && decide (6 ≤ d0 ∧ d0 < n ∧ 6 ≤ d1 ∧ d1 < n ∧ 5 < n)
   | none => false
  | none => false
 | _ => false
def isOut (n : Nat) (r : Array Oper) : Bool :=
 match r.toList with
 | [o0, o1] => match mvOf o0 1 with
  | some d0 => asOf o1 d0 4 && decide (6 ≤ d0 ∧ d0 < n ∧ 4 < n)
  | none => false
 | _ => false
def isZero (n d : Nat) (r : Array Oper) : Bool :=
 match r.toList with
 | [o0] => as0Of o0 d && decide (d < n)
 | _ => false
def slLoop (c : Cfg) (n b0 : Nat) (fields : List Code → Bool) (L : Code) : Bool :=
 match flatC L with
 | [.region _ rc false, .cond (.tmp t) .skip (.exit b0'), .block b1 B, .region _ ri false] => b0' == b0 && isHead c n rc t && fields (flatC B) && isNext c n ri
 | _ => false
def slFn (c : Cfg) (n : Nat) (fields : List Code → Bool) (code : Code) : Bool :=
 match flatC code with
 | [.region _ r0 false, .region _ r1 false, .block b0 (.loop L), .region _ r3 false, .ret] => isZero n 4 r0 && isZero n 5 r1 && slLoop c n b0 fields L && isOut n r3
 | _ => false
section
variable {P : Program} {c : Cfg} {n d : Nat} {s : Nat → Value} {w w' : World} {o : Oper} {a : Option Addr} {m cap i kk : Nat}
theorem mv_ok {x : Nat} (h : mvOf o x = some d) : o.guard = none ∧ o.dst = some d ∧ (execOp (evs s) o).run P w = .ok (.value (s x)) w := by
 unfold mvOf at h
 split at h
 ·rename_i y d' ho hd hg
  split at h
  ·rename_i e
   injection h with h
   subst h; subst e
   exact ⟨hg, hd, by simp [execOp, ho, evs]⟩
  ·cases h
 ·cases h
theorem as_ok {x : Nat} (h : asOf o x d = true) : o.guard = none ∧ o.dst = some d ∧ (execOp (evs s) o).run P w = .ok (.value (s x)) w := by
 unfold asOf at h
 split at h
 ·rename_i y d' ho hd hg
  simp only [Bool.and_eq_true, beq_iff_eq] at h
  obtain ⟨rfl, rfl⟩ := h
  exact ⟨hg, hd, by simp [execOp, ho, evs]⟩
 ·cases h
theorem as0_ok (h : as0Of o d = true) : o.guard = none ∧ o.dst = some d ∧ (execOp (evs s) o).run P w = .ok (.value (.int .i64 0)) w := by
 unfold as0Of at h
 split at h
 ·rename_i d' ho hd hg
  simp only [beq_iff_eq] at h
  subst h
  exact ⟨hg, hd, by simp [execOp, ho, evs]⟩
 ·cases h
theorem len_ok {x : Nat} (hA : Agree P c) (h : lenOf c o x = some d) (hx : s x = .slice a m cap) : o.guard = none ∧ o.dst = some d ∧ (execOp (evs s) o).run P w = .ok (.value (.int .i64 (m : Int))) w := by
 unfold lenOf at h
 split at h
 ·rename_i args ts d' ho hd hg
  split at h
  ·rename_i y t hargs hts
   split at h
   ·rename_i ti hti
    split at h
    ·rename_i e he
     split at h
     ·rename_i e'
      injection h with h
      subst h; subst e'
      obtain ⟨tj, aj⟩ := hA _ _ hti
      obtain rfl := arr1 hargs
      obtain rfl := arr1 hts
      exact ⟨hg, hd, by simp [execOp, ho, evs, hx, resolve, invoke, builtin, Builtin.len_, run_underlying (aj.slice _ he), goInt]⟩
     ·cases h
    ·cases h
   ·cases h
  ·cases h
 ·cases h
theorem isI64_ok {t : Nat} (h : isI64 c t = true) : ∃ i, c.ty t = some i ∧ i.d = .int .i64 := by
 unfold isI64 at h
 split at h
 ·rename_i i hi
  split at h
  ·rename_i hd; exact ⟨i, hi, hd⟩
  ·cases h
 ·cases h
theorem lss_ok {x y t : Nat} (hA : Agree P c) (hg : globOk w) (hn : ∀ i, n ≤ i → s i = undef) (h : lssOf c o x y t = true) (hxy : y ≠ x) (hx : s x = .int .i64 (i : Int)) (hy : s y = .int .i64 (m : Int)) (hxn : x < n) (hyn : y < n) :
  o.guard = none ∧ o.dst = some t ∧ (execOp (evs s) o).run P w = .ok (.value (.bool (decide (i < m)))) w := by
 unfold lssOf at h
 split at h
 ·rename_i tt x' y' t' d' ho hd hgd
  simp only [Bool.and_eq_true, beq_iff_eq] at h
  obtain ⟨⟨⟨rfl, rfl⟩, rfl⟩, hi⟩ := h
  obtain ⟨ti, h1, h2⟩ := isI64_ok hi
  obtain ⟨z, g1, Γ, g2⟩ := scal_bin (v := .int .i64 (i : Int)) (u := .int .i64 (m : Int)) (r := .bool (decide ((i : Int) < (m : Int)))) hA hg hn ho h1 hxn (by rw [hx]; exact .int _ _) (.inl ⟨_, rfl, hyn, hxy, by rw [hy]; exact .int _ _⟩) (by simp [binV, intOp, cmpInt])
  rw [g2.bool_inv] at g1
  refine ⟨hgd, hd, ?_⟩
  rw [g1]
  congr 4
  simp
 ·cases h
theorem add1_ok {x : Nat} (hA : Agree P c) (hg : globOk w) (hn : ∀ i, n ≤ i → s i = undef) (h : add1Of c o x = some d) (hx : s x = .int .i64 (i : Int)) (hi : i < 4611686018427387904) (hxn : x < n) :
  o.guard = none ∧ o.dst = some d ∧ (execOp (evs s) o).run P w = .ok (.value (.int .i64 ((i + 1 : Nat) : Int))) w := by
 unfold add1Of at h
 split at h
 ·rename_i tt x' t' d' ho hd hgd
  split at h
  ·rename_i hc
   injection h with h
   subst h
   obtain ⟨rfl, hi64⟩ := hc
   obtain ⟨ti, h1, h2⟩ := isI64_ok hi64
   obtain ⟨z, g1, Γ, g2⟩ := scal_bin (v := .int .i64 (i : Int)) (u := .int .i64 1) (r := .int .i64 ((i + 1 : Nat) : Int)) hA hg hn ho h1 hxn (by rw [hx]; exact .int _ _) (.inr ⟨_, rfl, rfl⟩) (by simp [binV, intOp, cmpInt, arith]; exact wrap_small (n := i + 1) (by omega))
   rw [g2.int_inv] at g1
   exact ⟨hgd, hd, g1⟩
  ·cases h
 ·cases h
theorem S5.up {x : Value} (h : S5 n x i kk s w) {d : Nat} {v : Value} (hd : 6 ≤ d) (hn : d < n) : S5 n x i kk (upd s d v) w :=
 ⟨by rw [upd_ne (by omega)]; exact h.s0, by rw [upd_ne (by omega)]; exact h.s1, by rw [upd_ne (by omega)]; exact h.s5, undef_upd h.un hn v, h.g⟩
theorem head_ok {r : Array Oper} {t id : Nat} {K : List Code} {J : Exit → (Nat → Value) → World → Prop} (hA : Agree P c) (h : isHead c n r t = true) (h5 : S5 n (.slice a m cap) i kk s w)
  (hK : ∀ s', S5 n (.slice a m cap) i kk s' w → s' t = .bool (decide (i < m)) → WL P n K s' w J) : WL P n (.region id r false :: K) s w J := by
 unfold isHead at h
 split at h
 rotate_left
 ·cases h
 rename_i o0 o1 o2 o3 hr
 split at h
 rotate_left
 ·cases h
 rename_i d0 d1 hd0 hd1
 split at h
 rotate_left
 ·cases h
 rename_i d2 hd2
 rw [Bool.and_eq_true, decide_eq_true_eq] at h
 obtain ⟨h3, q0, q0', q1, q1', q2, q2', q3, q3', n1, n2, n3⟩ := h
 refine W.region ?_
 rw [hr]
 obtain ⟨a1, a2, a3⟩ := mv_ok (P := P) (s := s) (w := w) hd0
 refine R.value a1 a2 q0' a3 ?_
 obtain ⟨b1, b2, b3⟩ := mv_ok (P := P) (s := upd s d0 (s 5)) (w := w) hd1
 refine R.value b1 b2 q1' b3 ?_
 have hS1 := (h5.up (v := s 5) q0 q0').up (v := upd s d0 (s 5) 0) q1 q1'
 obtain ⟨c1, c2, c3⟩ := len_ok (P := P) (w := w) (s := upd (upd s d0 (s 5)) d1 (upd s d0 (s 5) 0)) (a := a) (m := m) (cap := cap) hA hd2 (by rw [upd_same, upd_ne (by omega)]; exact h5.s0)
 refine R.value c1 c2 q2' c3 ?_
 have hS2 := hS1.up (v := .int .i64 (m : Int)) q2 q2'
 obtain ⟨e1, e2, e3⟩ := lss_ok (P := P) (w := w) hA h5.g hS2.un h3 (fun e => n2 e.symm) (by rw [upd_ne n2, upd_ne n1, upd_same]; exact h5.s5) (by rw [upd_same]) q0' q2'
 exact R.value e1 e2 q3' e3 (R.nil (hK _ (hS2.up q3 q3') upd_same))
theorem next_ok {x : Value} {r : Array Oper} {id : Nat} {K : List Code} {J : Exit → (Nat → Value) → World → Prop} (hA : Agree P c) (h : isNext c n r = true) (hi : i < 4611686018427387904) (h5 : S5 n x i kk s w)
  (hK : ∀ s', S5 n x (i + 1) kk s' w → WL P n K s' w J) : WL P n (.region id r false :: K) s w J := by
 unfold isNext at h
 split at h
 rotate_left
 ·cases h
 rename_i o0 o1 o2 hr
 split at h
 rotate_left
 ·cases h
 rename_i d0 hd0
 split at h
 rotate_left
 ·cases h
 rename_i d1 hd1
 rw [Bool.and_eq_true, decide_eq_true_eq] at h
 obtain ⟨h3, q0, q0', q1, q1', q5⟩ := h
 refine W.region ?_
 rw [hr]
 obtain ⟨a1, a2, a3⟩ := mv_ok (P := P) (s := s) (w := w) hd0
 refine R.value a1 a2 q0' a3 ?_
 have hS0 := h5.up (v := s 5) q0 q0'
 obtain ⟨b1, b2, b3⟩ := add1_ok (P := P) (w := w) hA h5.g hS0.un hd1 (by rw [upd_same]; exact h5.s5) hi q0'
 refine R.value b1 b2 q1' b3 ?_
 have hS1 := hS0.up (v := .int .i64 ((i + 1 : Nat) : Int)) q1 q1'
 obtain ⟨c1, c2, c3⟩ := as_ok (P := P) (w := w) (s := upd (upd s d0 (s 5)) d1 (.int .i64 ((i + 1 : Nat) : Int))) h3
 rw [upd_same] at c3
 exact R.value c1 c2 q5 c3 (R.nil (hK _ ⟨by rw [upd_ne (by decide)]; exact hS1.s0, by rw [upd_ne (by decide)]; exact hS1.s1, upd_same, undef_upd hS1.un q5 _, h5.g⟩))
theorem out_ok {x : Value} {r : Array Oper} {id : Nat} {K : List Code} {J : Exit → (Nat → Value) → World → Prop} (h : isOut n r = true) (h5 : S5 n x i kk s w)
  (hK : ∀ s', s' 4 = .int .i64 (kk : Int) → WL P n K s' w J) : WL P n (.region id r false :: K) s w J := by
 unfold isOut at h
 split at h
 rotate_left
 ·cases h
 rename_i o0 o1 hr
 split at h
 rotate_left
 ·cases h
 rename_i d0 hd0
 rw [Bool.and_eq_true, decide_eq_true_eq] at h
 obtain ⟨h3, q0, q0', q4⟩ := h
 refine W.region ?_
 rw [hr]
 obtain ⟨a1, a2, a3⟩ := mv_ok (P := P) (s := s) (w := w) hd0
 refine R.value a1 a2 q0' a3 ?_
 obtain ⟨c1, c2, c3⟩ := as_ok (P := P) (w := w) (s := upd s d0 (s 1)) h3
 rw [upd_same] at c3
 exact R.value c1 c2 q4 c3 (R.nil (hK _ (upd_same.trans h5.s1)))
theorem zero_ok {r : Array Oper} {id : Nat} {K : List Code} {J : Exit → (Nat → Value) → World → Prop} (h : isZero n d r = true) (hK : d < n → WL P n K (upd s d (.int .i64 0)) w J) : WL P n (.region id r false :: K) s w J := by
 unfold isZero at h
 split at h
 rotate_left
 ·cases h
 rename_i o0 hr
 rw [Bool.and_eq_true, decide_eq_true_eq] at h
 obtain ⟨h1, h2⟩ := h
 refine W.region ?_
 rw [hr]
 obtain ⟨a1, a2, a3⟩ := as0_ok (P := P) (s := s) (w := w) h1
 exact R.value a1 a2 h2 a3 (R.nil (hK h2))
theorem loop_ok {b0 : Nat} {L : Code} {fields : List Code → Bool} {K : List Code} {J : Exit → (Nat → Value) → World → Prop} (hA : Agree P c) (h : slLoop c n b0 fields L = true) (hm : m ≤ 1152921504606846976) (I : Nat → Nat → World → Prop)
  (round : ∀ (i kk : Nat) (codes : List Code) (s : Nat → Value) (w : World) (J' : Exit → (Nat → Value) → World → Prop), i < m → fields codes = true → S5 n (.slice a m cap) i kk s w → I i kk w → (∀ s' w' kk', S5 n (.slice a m cap) i kk' s' w' → I (i + 1) kk' w' → J' .normal s' w') → WL P n codes s w J')
  (h5 : S5 n (.slice a m cap) 0 kk s w) (hI : I 0 kk w) (hK : ∀ s' w' kk', S5 n (.slice a m cap) m kk' s' w' → I m kk' w' → WL P n K s' w' J) : WL P n (.block b0 (.loop L) :: K) s w J := by
 unfold slLoop at h
 split at h
 rotate_left
 ·cases h
 rename_i ic rc t b0' b1 B ii ri hL
 simp only [Bool.and_eq_true, beq_iff_eq] at h
 obtain ⟨⟨⟨rfl, h1⟩, h2⟩, h3⟩ := h
 refine W.block (W.loop (fun mm s w => ∃ i kk, mm = m - i ∧ i ≤ m ∧ S5 n (.slice a m cap) i kk s w ∧ I i kk w) (m := m) ⟨0, kk, rfl, Nat.zero_le _, h5, hI⟩ (fun mm s w hh => ?_))
 obtain ⟨i, kk, rfl, him, g5, gI⟩ := hh
 refine WL.code ?_
 rw [hL]
 refine head_ok hA h1 g5 (fun s1 q5 qt => ?_)
 refine W.cond qt ?_
 by_cases hlt : i < m
 ·rw [decide_eq_true hlt]
  refine W.skip ?_
  show WL P n _ s1 w _
  refine W.block ?_
  refine WL.code ?_
  refine round i kk (flatC B) s1 w _ hlt h2 q5 gI (fun s2 w2 kk2 r5 rI => ?_)
  show WL P n _ s2 w2 _
  refine next_ok hA h3 (by omega) r5 (fun s3 t5 => ?_)
  exact ⟨m - (i + 1), by omega, i + 1, kk2, rfl, hlt, t5, rI⟩
 ·rw [decide_eq_false hlt]
  refine W.exit ?_
  obtain rfl : i = m := by omega
  show (if b0' = b0' then _ else _)
  rw [if_pos rfl]
  exact hK s1 w kk q5 gI
theorem slFn_ok {f : Nat} {fn : Func} {code : Code} {fields : List Code → Bool} {B : Ending → World → Prop} (hA : Agree P c) (hf : P.funcs[f]? = some fn) (hb : fn.body = some code) (hr : fn.results = #[.tmp 4]) (hn : fn.ntmps = n) (h : slFn c n fields code = true) (hm : m ≤ 1152921504606846976) (I : Nat → Nat → World → Prop) (hg : globOk w)
  (round : ∀ (i kk : Nat) (codes : List Code) (s : Nat → Value) (w : World) (J' : Exit → (Nat → Value) → World → Prop), i < m → fields codes = true → S5 n (.slice a m cap) i kk s w → I i kk w → (∀ s' w' kk', S5 n (.slice a m cap) i kk' s' w' → I (i + 1) kk' w' → J' .normal s' w') → WL P n codes s w J')
  (hI : I 0 kk w) (hK : ∀ kk' w', I m kk' w' → B (.returned (.int .i64 (kk' : Int))) w') : Calls P f #[.slice a m cap, .int .i64 (kk : Int)] w B := by
 unfold slFn at h
 split at h
 rotate_left
 ·cases h
 rename_i i0 r0 i1 r1 b0 L i3 r3 hcode
 simp only [Bool.and_eq_true] at h
 obtain ⟨⟨⟨h0, h1⟩, h2⟩, h3⟩ := h
 have hn4 : 5 < n := by
  unfold isZero at h1
  split at h1
  ·rw [Bool.and_eq_true, decide_eq_true_eq] at h1; exact h1.2
  ·cases h1
 refine calls_W hf hb hr (by rw [hn]; show 2 ≤ n; omega) ?_
 rw [hn]
 refine WL.code ?_
 rw [hcode]
 refine zero_ok h0 (fun q4 => ?_)
 refine zero_ok h1 (fun q5 => ?_)
 refine loop_ok hA h2 hm I round (kk := kk) ⟨?_, ?_, ?_, ?_, hg⟩ hI (fun s' w' kk' r5 rI => ?_)
 ·rw [upd_ne (by decide), upd_ne (by decide)]; rfl
 ·rw [upd_ne (by decide), upd_ne (by decide)]; rfl
 ·rw [upd_same]; rfl
 ·refine undef_upd (undef_upd (fun t ht => ?_) q4 _) q5 _
  show (#[_, _] : Array Value).getD t undef = undef
  rw [Array.getD_eq_getD_getElem?, Array.getElem?_eq_none (by show 2 ≤ t; omega)]
  rfl
 ·refine out_ok h3 r5 (fun s2 q => ?_)
  refine W.ret ?_
  show B (.returned (s2 4)) w'
  rw [q]
  exact hK kk' w' rI
end
section
variable {P : Program} {c : Cfg} {mt : Nat → List UInt8} {mtF : Nat} {subs : List (Nat × Kd)} {ks : List Kd}
theorem mark_sl {f : Nat} {fn : Func} {code : Code} (hA : Agree P c) (htx : TextOk P mt mtF) (hsub : ∀ p ∈ subs, MarkOk P mt p.1 p.2) (hf : P.funcs[f]? = some fn) (hb : fn.body = some code) (hr : fn.results = #[.tmp 4]) (hname : (fn.name == "runtime.NumGoroutine") = false)
  (h : slFn c fn.ntmps (mFields c mtF fn.ntmps ks.length subs ks 0) code = true) : MarkOk P mt f (.sl ks) := by
 refine ⟨⟨fn, hf, by rw [hb]; rfl, hname⟩, fun T x n k0 w hg hT hMT hB => ?_⟩
 cases hMT with
 | leaf _ _ _ _ h _ => exact h.elim
 | nil _ a cap _ _ =>
  refine slFn_ok hA hf hb hr rfl h (by omega) (fun i kk w' => i = 0 ∧ kk = k0 ∧ w' = w) hg (fun i kk codes s w J' hi => absurd hi (Nat.not_lt_zero _)) ⟨rfl, rfl, rfl⟩ (fun kk' w' hI => ?_)
  obtain ⟨_, rfl, rfl⟩ := hI
  exact ⟨rfl, Mod.refl _, .nil ks a cap _ T⟩
 | sl _ k o m cap _ cur ty N Ts _ h0 hm hbk hsz hc hd hk hTk hTs =>
  refine slFn_ok hA hf hb hr rfl h hm (fun i kk w' => kk = k0 + sumN N (i * ks.length) ∧ i ≤ m ∧ ∃ cur', SlInv mt w w' ks k o m cur' ty N Ts k0 (i * ks.length)) hg (fun i kk codes s w' J' hi hfl h5 hI hJ => ?_) ?_ (fun kk' w' hI => ?_)
  ·obtain ⟨rfl, hle, cur', hS⟩ := hI
   refine mFields_ok (w0 := w) (J := J') hA htx hsub hB (hT k hTk).1 (fun p b hb => (hT b (hTs p b hb)).1) hi ks 0 codes s w' cur' rfl hfl (by rw [Nat.add_zero]; exact h5) (by rw [Nat.add_zero]; exact hS) (fun s2 w2 cur2 q5 qS => hJ s2 w2 _ q5 ⟨rfl, hi, cur2, qS⟩) (Nat.zero_le _)
  ·refine ⟨by simp [sumN], Nat.zero_le _, cur, hbk, hsz, fun q kd v h1 => ?_, fun q kd v _ h1 h2 h3 => (hc q kd v h1 h2 h3).start 0, Mod.refl w, hd, hk, fun p x hx => (hT x (hTs p x hx)).2⟩
   rw [Nat.zero_mul] at h1
   exact absurd h1 (Nat.not_lt_zero _)
  ·obtain ⟨rfl, _, cur', hS⟩ := hI
   refine ⟨rfl, hS.mod.mono (fun b hb => ?_), ?_⟩
   ·rcases hb with rfl | ⟨q, hq⟩
    ·exact hTk
    ·exact hTs q b hq
   ·exact .sl ks k o m cap k0 cur' ty N Ts T h0 hm hS.hb hS.hsz (fun p kd v hp h1 h2 => hS.done p kd v hp hp h1 h2) hd hk hTk hTs
theorem held_sl {f : Nat} {fn : Func} {code : Code} (hmx : P.follows .mixedOrders = true) (hA : Agree P c) (htx : TextOk P mt mtF) (hsub : ∀ p ∈ subs, HeldOk P mt p.1 p.2) (hf : P.funcs[f]? = some fn) (hb : fn.body = some code) (hr : fn.results = #[.tmp 4]) (hname : (fn.name == "runtime.NumGoroutine") = false)
  (h : slFn c fn.ntmps (hFields c mtF fn.ntmps ks.length subs ks 0) code = true) : HeldOk P mt f (.sl ks) := by
 refine ⟨⟨fn, hf, by rw [hb]; rfl, hname⟩, fun T x n k0 w hg hT hMT hB => ?_⟩
 cases hMT with
 | leaf _ _ _ _ h _ => exact h.elim
 | nil _ a cap _ _ =>
  refine slFn_ok hA hf hb hr rfl h (by omega) (fun i kk w' => i = 0 ∧ kk = k0 ∧ w' = w) hg (fun i kk codes s w J' hi => absurd hi (Nat.not_lt_zero _)) ⟨rfl, rfl, rfl⟩ (fun kk' w' hI => ?_)
  obtain ⟨_, rfl, rfl⟩ := hI
  exact ⟨rfl, Kept.refl _⟩
 | sl _ k o m cap _ cur ty N Ts _ h0 hm hbk hsz hc hd hk hTk hTs =>
  refine slFn_ok hA hf hb hr rfl h hm (fun i kk w' => kk = k0 + sumN N (i * ks.length) ∧ i ≤ m ∧ Kept w w') hg (fun i kk codes s w' J' hi hfl h5 hI hJ => ?_) ?_ (fun kk' w' hI => ?_)
  ·obtain ⟨rfl, hle, hS⟩ := hI
   refine hFields_ok (w0 := w) (J := J') (Ts := Ts) (ty := ty) (cur := cur) hmx hA htx hsub hB hi hbk hsz (fun p b hb => hT b (hTs p b hb)) hc ks 0 codes s w' rfl hfl (by rw [Nat.add_zero]; exact h5) hS (fun s2 w2 q5 qS => hJ s2 w2 _ q5 ⟨rfl, hi, qS⟩) (Nat.zero_le _)
  ·exact ⟨by simp [sumN], Nat.zero_le _, Kept.refl w⟩
  ·obtain ⟨rfl, _, hS⟩ := hI
   exact ⟨rfl, hS⟩
end
end Go.Am
end
section
set_option linter.unusedVariables false
set_option linter.unusedSimpArgs false
namespace Go.Am
open Go Go.RowKit
def MA (mt : Nat → List UInt8) (mk : Bool) (w : World) : List (Nat × List Kd) → Array Value → Nat → Nat → (Nat → Prop) → Prop
 | [], _, _, n, _ => n = 0
 | (j, ks) :: fs, cs, k0, n, T => ∃ (v : Value) (n1 n2 : Nat) (T1 T2 : Nat → Prop), cs[j]? = some v ∧ MT mt mk w (.sl ks) v k0 n1 T1 ∧ MA mt mk w fs cs (k0 + n1) n2 T2 ∧ n = n1 + n2 ∧ (∀ b, T1 b → T b) ∧ (∀ b, T2 b → T b) ∧ ∀ b, T1 b → T2 b → False
section
variable {mt : Nat → List UInt8} {mk : Bool} {w w' : World}
theorem MA.mono : ∀ {fs : List (Nat × List Kd)} {cs : Array Value} {k0 n : Nat} {T : Nat → Prop}, MA mt mk w fs cs k0 n T → (∀ b, T b → w'.heap[b]? = w.heap[b]?) → MA mt mk w' fs cs k0 n T := by
 intro fs
 induction fs with
 | nil => intro cs k0 n T h _; exact h
 | cons p fs ih =>
  intro cs k0 n T h hw
  obtain ⟨v, n1, n2, T1, T2, h1, h2, h3, h4, h5, h6, h7⟩ := h
  exact ⟨v, n1, n2, T1, T2, h1, h2.mono (fun b hb => hw b (h5 b hb)), ih h3 (fun b hb => hw b (h6 b hb)), h4, h5, h6, h7⟩
theorem MA.weaken : ∀ {fs : List (Nat × List Kd)} {cs : Array Value} {k0 n : Nat} {T T' : Nat → Prop}, MA mt mk w fs cs k0 n T → (∀ b, T b → T' b) → MA mt mk w fs cs k0 n T' := by
 intro fs
 cases fs with
 | nil => intro cs k0 n T T' h _; exact h
 | cons p fs =>
  intro cs k0 n T T' h hw
  obtain ⟨v, n1, n2, T1, T2, h1, h2, h3, h4, h5, h6, h7⟩ := h
  exact ⟨v, n1, n2, T1, T2, h1, h2, h3, h4, fun b hb => hw b (h5 b hb), fun b hb => hw b (h6 b hb), h7⟩
theorem MA.start : ∀ {fs : List (Nat × List Kd)} {cs : Array Value} {k0 n : Nat} {T : Nat → Prop}, MA mt false w fs cs k0 n T → ∀ k1, MA mt false w fs cs k1 n T := by
 intro fs
 induction fs with
 | nil => intro cs k0 n T h _; exact h
 | cons p fs ih =>
  intro cs k0 n T h k1
  obtain ⟨v, n1, n2, T1, T2, h1, h2, h3, h4, h5, h6, h7⟩ := h
  exact ⟨v, n1, n2, T1, T2, h1, h2.start _, ih h3 _, h4, h5, h6, h7⟩
theorem MA.split : ∀ {f1 f2 : List (Nat × List Kd)} {cs : Array Value} {k0 n : Nat} {T : Nat → Prop}, MA mt mk w (f1 ++ f2) cs k0 n T → ∃ n1 n2 T1 T2, MA mt mk w f1 cs k0 n1 T1 ∧ MA mt mk w f2 cs (k0 + n1) n2 T2 ∧ n = n1 + n2 ∧ (∀ b, T1 b → T b) ∧ (∀ b, T2 b → T b) ∧ ∀ b, T1 b → T2 b → False := by
 intro f1
 induction f1 with
 | nil => intro f2 cs k0 n T h; exact ⟨0, n, fun _ => False, T, rfl, h, (Nat.zero_add n).symm, fun _ h => h.elim, fun _ h => h, fun _ h => h.elim⟩
 | cons p f1 ih =>
  intro f2 cs k0 n T h
  obtain ⟨v, n1, n2, T1, T2, h1, h2, h3, h4, h5, h6, h7⟩ := h
  obtain ⟨m1, m2, U1, U2, g1, g2, g3, g4, g5, g6⟩ := ih h3
  refine ⟨n1 + m1, m2, fun b => T1 b ∨ U1 b, U2, ⟨v, n1, m1, T1, U1, h1, h2, g1, rfl, fun b h => .inl h, fun b h => .inr h, fun b hb hb' => h7 b hb (g4 b hb')⟩, by rw [← Nat.add_assoc]; exact g2, by omega, fun b h => h.elim (h5 b) (fun h => h6 b (g4 b h)), fun b h => h6 b (g5 b h), fun b h h' => ?_⟩
  rcases h with h | h
  ·exact h7 b h (g5 b h')
  ·exact g6 b h h'
theorem MA.join : ∀ {f1 f2 : List (Nat × List Kd)} {cs : Array Value} {k0 n1 n2 : Nat} {T1 T2 T : Nat → Prop}, MA mt mk w f1 cs k0 n1 T1 → MA mt mk w f2 cs (k0 + n1) n2 T2 → (∀ b, T1 b → T b) → (∀ b, T2 b → T b) → (∀ b, T1 b → T2 b → False) → MA mt mk w (f1 ++ f2) cs k0 (n1 + n2) T := by
 intro f1
 induction f1 with
 | nil =>
  intro f2 cs k0 n1 n2 T1 T2 T h1 h2 h3 h4 h5
  have h1 : n1 = 0 := h1
  subst h1
  rw [Nat.zero_add]
  exact MA.weaken h2 h4
 | cons p f1 ih =>
  intro f2 cs k0 n1 n2 T1 T2 T h1 h2 h3 h4 h5
  obtain ⟨v, m1, m2, U1, U2, g1, g2, g3, g4, g5, g6, g7⟩ := h1
  subst g4
  refine ⟨v, m1, m2 + n2, U1, fun b => U2 b ∨ T2 b, g1, g2, ih g3 (by rw [Nat.add_assoc]; exact h2) (fun b h => .inl h) (fun b h => .inr h) (fun b h h' => h5 b (g6 b h) h'), by omega, fun b h => h3 b (g5 b h), fun b h => h.elim (fun h => h3 b (g6 b h)) (h4 b), fun b h h' => ?_⟩
  rcases h' with h' | h'
  ·exact g7 b h h'
  ·exact h5 b (g5 b h) h'
def shiftF (j : Nat) (fs : List (Nat × List Kd)) : List (Nat × List Kd) := fs.map fun p => (j + p.1, p.2)
theorem ext_get {cs : Array Value} {j sz i : Nat} (hi : i < sz) (hj : j + sz ≤ cs.size) : (cs.extract j (j + sz))[i]? = cs[j + i]? := by
 rw [Array.getElem?_extract, if_pos (by omega)]
theorem MA.into : ∀ {fs : List (Nat × List Kd)} {cs : Array Value} {j sz k0 n : Nat} {T : Nat → Prop}, MA mt mk w (shiftF j fs) cs k0 n T → (∀ p ∈ fs, p.1 < sz) → j + sz ≤ cs.size → MA mt mk w fs (cs.extract j (j + sz)) k0 n T := by
 intro fs
 induction fs with
 | nil => intro cs j sz k0 n T h _ _; exact h
 | cons p fs ih =>
  intro cs j sz k0 n T h hl hj
  obtain ⟨v, n1, n2, T1, T2, h1, h2, h3, h4, h5, h6, h7⟩ := h
  exact ⟨v, n1, n2, T1, T2, by rw [ext_get (hl p (by simp)) hj]; exact h1, h2, ih h3 (fun q hq => hl q (by simp [hq])) hj, h4, h5, h6, h7⟩
theorem MA.outof : ∀ {fs : List (Nat × List Kd)} {cs : Array Value} {j sz k0 n : Nat} {T : Nat → Prop}, MA mt mk w fs (cs.extract j (j + sz)) k0 n T → (∀ p ∈ fs, p.1 < sz) → j + sz ≤ cs.size → MA mt mk w (shiftF j fs) cs k0 n T := by
 intro fs
 induction fs with
 | nil => intro cs j sz k0 n T h _ _; exact h
 | cons p fs ih =>
  intro cs j sz k0 n T h hl hj
  obtain ⟨v, n1, n2, T1, T2, h1, h2, h3, h4, h5, h6, h7⟩ := h
  exact ⟨v, n1, n2, T1, T2, by rw [ext_get (hl p (by simp)) hj] at h1; exact h1, h2, ih h3 (fun q hq => hl q (by simp [hq])) hj, h4, h5, h6, h7⟩
end
def MarkAOk (P : Program) (mt : Nat → List UInt8) (f sz : Nat) (fs : List (Nat × List Kd)) : Prop := Known P f ∧ ∀ (T : Nat → Prop) (cs : Array Value) (n k0 : Nat) (w : World), globOk w → (∀ b, T b → globN ≤ b ∧ b < w.heap.size) → cs.size = sz → MA mt false w fs cs 0 n T → k0 + n ≤ 1152921504606846976 →
 Calls P f #[.agg cs, .int .i64 (k0 : Int)] w fun e w' => e = .returned (.int .i64 ((k0 + n : Nat) : Int)) ∧ Mod T w w' ∧ MA mt true w' fs cs k0 n T
def HeldAOk (P : Program) (mt : Nat → List UInt8) (f sz : Nat) (fs : List (Nat × List Kd)) : Prop := Known P f ∧ ∀ (T : Nat → Prop) (cs : Array Value) (n k0 : Nat) (w : World), globOk w → (∀ b, T b → b < w.heap.size) → cs.size = sz → MA mt true w fs cs k0 n T → k0 + n ≤ 1152921504606846976 →
 Calls P f #[.agg cs, .int .i64 (k0 : Int)] w fun e w' => e = .returned (.int .i64 ((k0 + n : Nat) : Int)) ∧ Kept w w'
inductive PV where
  | un
  | bp (j : Nat)
  | ct
  | ld (j sz : Nat) (agg : Bool)
  deriving DecidableEq
def pget : List (Nat × PV) → Nat → PV
 | [], _ => .un
 | (d, v) :: r, t => if d = t then v else pget r t
def pval (c : Cfg) (sz : Nat) (g : Nat → PV) (op : Op) : Option PV :=
 match op with
 | .move (.tmp x) => some (g x)
 | .fieldAddr t (.tmp x) f => match g x, c.ty t with
  | .bp j, some i => match i.d with
   | .struct fs => match fs[f]? with
    | some (off, ft) => match c.ty ft with
     | some i' => if i'.size = 0 then none else some (.bp (j + off))
     | none => none
    | none => none
   | _ => none
  | _, _ => none
 | .load t (.tmp x) => match g x, c.ty t with
  | .bp j, some i => if (i.d.isAgg = true ∨ i.size = 1) ∧ j + i.size ≤ sz then some (.ld j i.size i.d.isAgg) else none
  | _, _ => none
 | _ => none
def pops (c : Cfg) (sz n : Nat) : List Oper → List (Nat × PV) → List (Nat × PV) × List Oper
 | [], e => (e, [])
 | o :: os, e => match o.guard, o.dst with
  | none, some d => if d < 5 ∨ n ≤ d then (e, o :: os) else match pval c sz (pget e) o.op with
   | some v => pops c sz n os ((d, v) :: e)
   | none => (e, o :: os)
  | _, _ => (e, o :: os)
def pinit : List (Nat × PV) := [(1, .ct), (2, .bp 0)]
def partOf (c : Cfg) (n sz : Nat) (ops : Array Oper) : Option (Nat × Nat × Bool × Nat) :=
 match pops c sz n ops.toList pinit with
 | (e, [o1, o2]) => match o1.op, o1.dst, o1.guard with
  | .call ⟨.value (.func f), args, _⟩, some d, none => match args.toList with
   | [.tmp x, .tmp k] => match pget e x, pget e k with
    | .ld j m agg, .ct => if asOf o2 d 1 = true ∧ 5 ≤ d ∧ d < n ∧ 2 < n ∧ j + m ≤ sz then some (j, m, agg, f) else none
    | _, _ => none
   | _ => none
  | _, _, _ => none
 | _ => none
def PR (b kk : Nat) (cs : Array Value) : PV → Value → Prop
 | .un, _ => True
 | .bp j, x => x = .pointer (some ⟨b, j, none⟩)
 | .ct, x => x = .int .i64 (kk : Int)
 | .ld j m agg, x => x = if agg then .agg (cs.extract j (j + m)) else cs.getD j undef
def PE (b kk : Nat) (cs : Array Value) (e : List (Nat × PV)) (s : Nat → Value) : Prop := ∀ t, PR b kk cs (pget e t) (s t)
section
variable {P : Program} {c : Cfg} {n d b kk sz : Nat} {s : Nat → Value} {w w' : World} {o : Oper} {cs : Array Value} {e : List (Nat × PV)} {bt : TypeId} {ops : Array Oper}
theorem PE.put {v : PV} {x : Value} (h : PE b kk cs e s) (hx : PR b kk cs v x) : PE b kk cs ((d, v) :: e) (upd s d x) := by
 intro t
 rw [pget]
 split
 ·rename_i hd; subst hd; rw [upd_same]; exact hx
 ·rename_i hd; rw [upd_ne (fun e => hd e.symm)]; exact h t
theorem pval_ok {v : PV} (hA : Agree P c) (hb : w.heap[b]? = some (.cells cs bt (0, 0))) (hsz : cs.size = sz) (h : pval c sz (pget e) o.op = some v) (hE : PE b kk cs e s) : ∃ x, (execOp (evs s) o).run P w = .ok (.value x) w ∧ PR b kk cs v x := by
 unfold pval at h
 have nw : ∀ {x : Nat} {pv : PV}, pget e x = pv → PR b kk cs pv (s x) := fun h => h ▸ hE _
 split at h
 ·rename_i x ho
  injection h with h
  exact ⟨s x, by simp [execOp, ho, evs], nw h⟩
 ·rename_i t x f ho
  split at h
  ·rename_i j i hx ht
   split at h
   ·rename_i fs hd
    split at h
    ·rename_i off ft hf
     split at h
     ·rename_i i' hi'
      split at h
      ·cases h
      ·rename_i hz
       injection h with h
       obtain ⟨ti, ai⟩ := hA _ _ ht
       obtain ⟨tj, aj⟩ := hA _ _ hi'
       obtain ⟨fields, hfs, hmap, _⟩ := ai.struct fs hd
       have hfld : ∃ fl, fields[f]? = some fl ∧ fl.offset = off ∧ fl.type = ft := by
        rw [← hmap, List.getElem?_map, Array.getElem?_toList] at hf
        cases hq : fields[f]? with
        | none => rw [hq] at hf; cases hf
        | some fl => rw [hq] at hf; simp only [Option.map_some, Option.some.injEq, Prod.mk.injEq] at hf; exact ⟨fl, rfl, hf.1, hf.2⟩
       obtain ⟨fl, hfl, rfl, rfl⟩ := hfld
       have ex : s x = _ := nw hx
       refine ⟨.pointer (some ⟨b, j + fl.offset, none⟩), ?_, by rw [← h]; rfl⟩
       simp [execOp, ho, evs, ex, Instr.fieldAt, run_underlying hfs, hfl, Instr.sureAddr, fieldPlace, sizeOf, typeInfo, aj.info, aj.size, hz, add_none]
     ·cases h
    ·cases h
   ·cases h
  ·cases h
 ·rename_i t x ho
  split at h
  ·rename_i j i hx ht
   split at h
   ·rename_i hcc
    injection h with h
    obtain ⟨h1, h2⟩ := hcc
    obtain ⟨ti, ai⟩ := hA _ _ ht
    have ex : s x = _ := nw hx
    have hcell : ∀ k, k < i.size → w.cell? ⟨b, j + k, none⟩ = some (cs.getD (j + k) undef) := fun k hk => by
     rw [cell_of hb]
     have : j + k < cs.size := by omega
     simp [this]
    cases hag : i.d.isAgg with
    | true =>
     rw [hag] at h
     have hu : ∃ dd, P.underlying t = some dd ∧ ((∃ fs, dd = .struct fs) ∨ (∃ n e, dd = .array n e)) := by
      cases hd : i.d with
      | struct fs => obtain ⟨f, h1, _⟩ := ai.struct fs hd; exact ⟨_, h1, .inl ⟨_, rfl⟩⟩
      | array n e => exact ⟨_, ai.array n e hd, .inr ⟨_, _, rfl⟩⟩
      | _ => rw [hd] at hag; cases hag
     obtain ⟨dd, hdd, hk⟩ := hu
     have hl := run_loadCells (P := P) w ⟨b, j, none⟩ i.size (fun k => cs.getD (j + k) undef) (fun k hk => by rw [add_none]; exact hcell k hk)
     have hrun : (loadVar t ⟨b, j, none⟩).run P w = .ok (.agg ((List.range i.size).map fun k => cs.getD (j + k) undef).toArray) w := by
      rcases hk with ⟨fs, rfl⟩ | ⟨n, e, rfl⟩ <;> simp [loadVar, isAgg, run_underlying hdd, sizeOf, typeInfo, ai.info, ai.size, hl]
     refine ⟨_, by simp [execOp, ho, evs, ex, Instr.loadAt, Instr.sureAddr, hrun]; rfl, ?_⟩
     rw [← h]
     show Value.agg _ = Value.agg _
     congr 1
     apply Array.ext_getElem?
     intro q
     rw [Array.getElem?_extract]
     rcases Nat.lt_or_ge q i.size with hq | hq
     ·rw [if_pos (by omega)]
      have : j + q < cs.size := by omega
      simp [hq, this]
     ·rw [if_neg (by omega)]
      simp [hq]
    | false =>
     rw [hag] at h
     have h1 : i.size = 1 := h1.resolve_left (by rw [hag]; simp)
     obtain ⟨dd, hdd, n1, n2⟩ := ai.agg hag
     have hc0 := hcell 0 (by omega)
     rw [Nat.add_zero] at hc0
     have : (loadVar t ⟨b, j, none⟩).run P w = .ok (cs.getD j undef) w := by
      simp only [loadVar, isAgg, Sem.run_bind, run_underlying hdd, Result.andThen_ok]
      cases dd with
      | struct fs => exact absurd rfl (n1 fs)
      | array n e => exact absurd rfl (n2 n e)
      | _ => simp [hc0]
     exact ⟨cs.getD j undef, by simp [execOp, ho, evs, ex, Instr.loadAt, Instr.sureAddr, this], by rw [← h]; rfl⟩
   ·cases h
  ·cases h
 ·cases h
theorem pops_ok {K : (Nat → Value) → World → Prop} (hA : Agree P c) (hb : w.heap[b]? = some (.cells cs bt (0, 0))) (hsz : cs.size = sz) : ∀ (l : List Oper) (e : List (Nat × PV)) (s : Nat → Value), PE b kk cs e s → (∀ i, n ≤ i → s i = undef) →
  (∀ s', PE b kk cs (pops c sz n l e).1 s' → (∀ i, n ≤ i → s' i = undef) → (∀ t, t < 5 → s' t = s t) → R P n ops (pops c sz n l e).2 s' w K) → R P n ops l s w K := by
 intro l
 induction l with
 | nil => intro e s hE hn hK; exact hK s hE hn (fun _ _ => rfl)
 | cons o l ih =>
  intro e s hE hn hK
  simp only [pops] at hK
  split at hK
  ·rename_i d hgd hd
   split at hK
   ·exact hK s hE hn (fun _ _ => rfl)
   ·rename_i hdn
    split at hK
    ·rename_i v hv
     obtain ⟨x, h1, h2⟩ := pval_ok hA hb hsz hv hE
     refine R.value hgd hd (by omega) h1 (ih _ _ (hE.put h2) (undef_upd hn (by omega) x) (fun s' a1 a2 a3 => hK s' a1 a2 (fun t ht => (a3 t ht).trans (upd_ne (fun e => hdn (Or.inl (e ▸ ht)))))))
    ·exact hK s hE hn (fun _ _ => rfl)
  ·exact hK s hE hn (fun _ _ => rfl)
structure S2 (n b kk : Nat) (cs : Array Value) (bt : TypeId) (s : Nat → Value) (w : World) : Prop where
  s1 : s 1 = .int .i64 (kk : Int)
  s2 : s 2 = .pointer (some ⟨b, 0, none⟩)
  un : ∀ t, n ≤ t → s t = undef
  g : globOk w
  hb : w.heap[b]? = some (.cells cs bt (0, 0))
theorem S2.pe (h : S2 n b kk cs bt s w) : PE b kk cs pinit s := by
 intro t
 unfold pinit
 simp only [pget]
 split
 ·rename_i e; subst e; exact h.s1
 ·split
  ·rename_i e; subst e; exact h.s2
  ·exact trivial
theorem partP_ok {j m f : Nat} {agg : Bool} {id : Nat} {K : List Code} {J : Exit → (Nat → Value) → World → Prop} (hA : Agree P c) (h : partOf c n sz ops = some (j, m, agg, f)) (hkn : Known P f) (hsz : cs.size = sz) (h2 : S2 n b kk cs bt s w)
  {nn : Nat} {B : World → Prop} (hcall : Calls P f #[if agg then .agg (cs.extract j (j + m)) else cs.getD j undef, .int .i64 (kk : Int)] w fun e w2 => e = .returned (.int .i64 ((kk + nn : Nat) : Int)) ∧ globOk w2 ∧ w2.heap[b]? = w.heap[b]? ∧ B w2)
  (hK : j + m ≤ sz → ∀ s' w2, B w2 → S2 n b (kk + nn) cs bt s' w2 → WL P n K s' w2 J) : WL P n (.region id ops false :: K) s w J := by
 unfold partOf at h
 obtain ⟨e, l, hko⟩ : ∃ e l, pops c sz n ops.toList pinit = (e, l) := ⟨_, _, rfl⟩
 rw [hko] at h
 refine W.region (pops_ok (K := _) hA h2.hb hsz ops.toList pinit s h2.pe h2.un (fun s' hE hn hs5 => ?_))
 rw [hko] at hE ⊢
 have hE : PE b kk cs e s' := hE
 split at h
 rotate_left
 ·cases h
 rename_i e' o1 o2 heq
 simp only [Prod.mk.injEq] at heq
 obtain ⟨rfl, rfl⟩ := heq
 split at h
 rotate_left
 ·cases h
 rename_i f' args ts d ho hd hgd
 split at h
 rotate_left
 ·cases h
 rename_i x k hargs
 split at h
 rotate_left
 ·cases h
 rename_i j' m' agg' hx hk
 split at h
 rotate_left
 ·cases h
 rename_i hc
 injection h with h
 simp only [Prod.mk.injEq] at h
 obtain ⟨rfl, rfl, rfl, rfl⟩ := h
 obtain ⟨q1, q2, q3, q4, q5⟩ := hc
 have ex : s' x = if agg' then .agg (cs.extract j' (j' + m')) else cs.getD j' undef := by have := hE x; rw [hx] at this; exact this
 have ek : s' k = .int .i64 (kk : Int) := by have := hE k; rw [hk] at this; exact this
 refine R.call hgd hd q3 ?_ (hcall.mono (fun en w2 h => ?_)) (args := #[if agg' then .agg (cs.extract j' (j' + m')) else cs.getD j' undef, .int .i64 (kk : Int)])
 ·rw [call_enter hkn ho, arr2 hargs]
  simp only [evs, ex, ek, List.map_toArray, List.map_cons, List.map_nil]
 ·obtain ⟨rfl, hg2, hb2, hB2⟩ := h
  obtain ⟨a1, a2, a3⟩ := as_ok (P := P) (w := w2) (s := upd s' d (.int .i64 ((kk + nn : Nat) : Int))) q1
  rw [upd_same] at a3
  refine ⟨_, rfl, R.value a1 a2 (by omega) a3 (R.nil ?_)⟩
  refine hK q5 _ w2 hB2 ⟨upd_same, ?_, undef_upd (undef_upd hn q3 _) (by omega) _, hg2, hb2.trans h2.hb⟩
  have hd2 : ¬ 2 = d := fun e => absurd (show 5 ≤ 2 from e.symm ▸ q2) (by decide)
  rw [upd_ne (by decide), upd_ne hd2, hs5 2 (by decide)]
  exact h2.s2
end
def regOf : Code → Option (Nat × Array Oper)
 | .region i r false => some (i, r)
 | _ => none
theorem regOf_eq {k : Code} {i : Nat} {r : Array Oper} (h : regOf k = some (i, r)) : k = .region i r false := by
 unfold regOf at h
 split at h
 ·simp only [Option.some.injEq, Prod.mk.injEq] at h
  obtain ⟨rfl, rfl⟩ := h
  rfl
 ·cases h
def retOf : List Code → Bool
 | [.ret] => true
 | _ => false
theorem retOf_eq {l : List Code} (h : retOf l = true) : l = [.ret] := by
 unfold retOf at h
 split at h
 ·rfl
 ·cases h
def isOutA (n : Nat) (r : Array Oper) : Bool :=
 match r.toList with
 | [o0, o1] => match mvOf o0 1 with
  | some d0 => asOf o1 d0 4 && decide (d0 < n ∧ 4 < n)
  | none => false
 | _ => false
def isEntA (n : Nat) (r : Array Oper) : Bool :=
 match r.toList with
 | [o0, o1] => match o0.op, o0.dst, o0.guard with
  | .box _ (.tmp 0), some 2, none => as0Of o1 4 && decide (4 < n)
  | _, _, _ => false
 | _ => false
def preF : List (Nat × List Kd) → List (Nat × List Kd) → Option (List (Nat × List Kd))
 | [], fs => some fs
 | p :: ps, fs => match fs with
  | [] => none
  | q :: qs => if p.1 = q.1 ∧ Kd.sames p.2 q.2 = true then preF ps qs else none
theorem preF_eq : ∀ {ps fs rest : List (Nat × List Kd)}, preF ps fs = some rest → fs = ps ++ rest := by
 intro ps
 induction ps with
 | nil => intro fs rest h; exact Option.some.inj h
 | cons p ps ih =>
  intro fs rest h
  obtain ⟨p1, p2⟩ := p
  cases fs with
  | nil => cases h
  | cons q qs =>
   obtain ⟨q1, q2⟩ := q
   have hh : (if p1 = q1 ∧ Kd.sames p2 q2 = true then preF ps qs else none) = some rest := h
   split at hh
   ·rename_i hc
    obtain ⟨h1, h2⟩ := hc
    have h3 : Kd.same (.sl p2) (.sl q2) = true := h2
    have h3 := Kd.same_eq _ _ h3
    injection h3 with h3
    subst h1; subst h3
    rw [ih hh]
    rfl
   ·cases hh
structure FnA where
  f : Nat
  sz : Nat
  fs : List (Nat × List Kd)
def partA (c : Cfg) (n sz : Nat) (subs : List (Nat × List Kd)) (asubs : List FnA) (r : Array Oper) (fs : List (Nat × List Kd)) : Option (List (Nat × List Kd)) :=
 match partOf c n sz r with
 | some (j, m, true, f) => match asubs.find? (fun p => p.f == f) with
  | some q => if q.sz = m ∧ (q.fs.all fun p => decide (p.1 < m)) = true then preF (shiftF j q.fs) fs else none
  | none => none
 | some (j, m, false, f) => match subs.find? (fun p => p.1 == f) with
  | some q => if m = 1 then preF [(j, q.2)] fs else none
  | none => none
 | none => none
def markBody (c : Cfg) (n sz : Nat) (subs : List (Nat × List Kd)) (asubs : List FnA) : List Code → List (Nat × List Kd) → Bool
 | [], _ => false
 | k :: K, fs => match regOf k with
  | none => false
  | some (_, r) => match partA c n sz subs asubs r fs with
   | some fs' => markBody c n sz subs asubs K fs'
   | none => isOutA n r && fs.isEmpty && retOf K
def markFnA (c : Cfg) (n sz : Nat) (subs : List (Nat × List Kd)) (asubs : List FnA) (fs : List (Nat × List Kd)) (code : Code) : Bool :=
 match flatC code with
 | k :: K => match regOf k with
  | some (_, r) => isEntA n r && markBody c n sz subs asubs K fs
  | none => false
 | [] => false
section
variable {P : Program} {c : Cfg} {mt : Nat → List UInt8} {n d b kk sz : Nat} {s : Nat → Value} {w w' : World} {o : Oper} {cs : Array Value} {bt : TypeId} {subs : List (Nat × List Kd)} {asubs : List FnA}
theorem outA_ok {r : Array Oper} {id : Nat} {K : List Code} {J : Exit → (Nat → Value) → World → Prop} (h : isOutA n r = true) (h2 : S2 n b kk cs bt s w)
  (hK : ∀ s', s' 4 = .int .i64 (kk : Int) → WL P n K s' w J) : WL P n (.region id r false :: K) s w J := by
 unfold isOutA at h
 split at h
 rotate_left
 ·cases h
 rename_i o0 o1 hr
 split at h
 rotate_left
 ·cases h
 rename_i d0 hd0
 rw [Bool.and_eq_true, decide_eq_true_eq] at h
 obtain ⟨h3, q0, q4⟩ := h
 refine W.region ?_
 rw [hr]
 obtain ⟨a1, a2, a3⟩ := mv_ok (P := P) (s := s) (w := w) hd0
 refine R.value a1 a2 q0 a3 ?_
 obtain ⟨c1, c2, c3⟩ := as_ok (P := P) (w := w) (s := upd s d0 (s 1)) h3
 rw [upd_same] at c3
 exact R.value c1 c2 q4 c3 (R.nil (hK _ (upd_same.trans h2.s1)))
theorem entA_ok {r : Array Oper} {id : Nat} {K : List Code} {J : Exit → (Nat → Value) → World → Prop} (h : isEntA n r = true) (h0 : s 0 = .agg cs) (h1 : s 1 = .int .i64 (kk : Int)) (un : ∀ t, n ≤ t → s t = undef) (hg : globOk w)
  (hK : ∀ s' bt, S2 n w.heap.size kk cs bt s' (w.alloc (.cells cs bt)) → WL P n K s' (w.alloc (.cells cs bt)) J) : WL P n (.region id r false :: K) s w J := by
 unfold isEntA at h
 split at h
 rotate_left
 ·cases h
 rename_i o0 o1 hr
 split at h
 rotate_left
 ·cases h
 rename_i bt ho hd hgd
 rw [Bool.and_eq_true, decide_eq_true_eq] at h
 obtain ⟨h3, q4⟩ := h
 refine W.region ?_
 rw [hr]
 refine R.value (x := .pointer (some ⟨w.heap.size, 0, none⟩)) (w' := w.alloc (.cells cs bt)) hgd hd (by omega) (by simp [execOp, ho, evs, h0, Instr.box, newVar, newRow, Value.cells]) ?_
 obtain ⟨c1, c2, c3⟩ := as0_ok (P := P) (w := w.alloc (.cells cs bt)) (s := upd s 2 (.pointer (some ⟨w.heap.size, 0, none⟩))) h3
 refine R.value c1 c2 q4 c3 (R.nil (hK _ bt ⟨?_, ?_, undef_upd (undef_upd un (by omega) _) q4 _, (Kept.al w _).glob' hg, ?_⟩))
 ·rw [upd_ne (by decide), upd_ne (by decide)]; exact h1
 ·rw [upd_ne (by decide), upd_same]
 ·exact heap_alloc_eq w _
theorem MA.one {mk : Bool} {j : Nat} {ks : List Kd} {k0 nn : Nat} {T : Nat → Prop} (h : MA mt mk w [(j, ks)] cs k0 nn T) : ∃ v, cs[j]? = some v ∧ MT mt mk w (.sl ks) v k0 nn T := by
 obtain ⟨v, n1, n2, T1, T2, h1, h2, h3, h4, h5, h6, h7⟩ := h
 have h3 : n2 = 0 := h3
 subst h3; subst h4
 exact ⟨v, h1, h2.weaken h5⟩
theorem MA.ofOne {mk : Bool} {j : Nat} {ks : List Kd} {k0 nn : Nat} {T : Nat → Prop} {v : Value} (h1 : cs[j]? = some v) (h2 : MT mt mk w (.sl ks) v k0 nn T) : MA mt mk w [(j, ks)] cs k0 nn T :=
 ⟨v, nn, 0, T, fun _ => False, h1, h2, rfl, rfl, fun _ h => h, fun _ h => h.elim, fun _ _ h => h⟩
theorem find_in {α : Type} {l : List α} {p : α → Bool} {x : α} (h : l.find? p = some x) : x ∈ l ∧ p x = true := ⟨List.mem_of_find?_eq_some h, List.find?_some h⟩
theorem markPart {r : Array Oper} {fs fs' : List (Nat × List Kd)} {id nn : Nat} {T : Nat → Prop} {K : List Code} {J : Exit → (Nat → Value) → World → Prop} (hA : Agree P c) (hsub : ∀ p ∈ subs, MarkOk P mt p.1 (.sl p.2)) (hasub : ∀ p ∈ asubs, MarkAOk P mt p.f p.sz p.fs)
  (h : partA c n sz subs asubs r fs = some fs') (hsz : cs.size = sz) (h2 : S2 n b kk cs bt s w) (hT : ∀ b', T b' → globN ≤ b' ∧ b' < w.heap.size ∧ b' ≠ b) (hm : MA mt false w fs cs 0 nn T) (hB : kk + nn ≤ 1152921504606846976)
  (hK : ∀ s' w' n1 n2 T1 T2 f1, fs = f1 ++ fs' → S2 n b (kk + n1) cs bt s' w' → Mod T1 w w' → MA mt true w' f1 cs kk n1 T1 → MA mt false w' fs' cs 0 n2 T2 → nn = n1 + n2 → (∀ b, T1 b → T b) → (∀ b, T2 b → T b) → (∀ b, T1 b → T2 b → False) → WL P n K s' w' J) :
  WL P n (.region id r false :: K) s w J := by
 unfold partA at h
 split at h
 ·rename_i j m f hp
  split at h
  ·rename_i q hq
   split at h
   ·rename_i hc
    obtain ⟨hqs, hql⟩ := hc
    obtain ⟨hq1, hq2⟩ := find_in hq
    have hq2 : q.f = f := by simpa using hq2
    obtain ⟨hkn, hmk⟩ := hasub q hq1
    rw [hq2] at hkn hmk
    have hfs := preF_eq h
    subst hfs
    obtain ⟨n1, n2, T1, T2, g1, g2, g3, g4, g5, g6⟩ := hm.split
    have hjm : j + m ≤ sz := by
     have hp := hp
     unfold partOf at hp
     repeat' split at hp
     all_goals first | (cases hp; done) | skip
     rename_i hc
     simp only [Option.some.injEq, Prod.mk.injEq] at hp
     obtain ⟨rfl, rfl, _, _⟩ := hp
     exact hc.2.2.2.2
    have hql' : ∀ p ∈ q.fs, p.1 < m := fun p hp => by
     have := (List.all_eq_true.1 hql) p hp
     simpa using this
    have hin := g1.into hql' (by omega)
    refine partP_ok (nn := n1) (B := fun w2 => Mod T1 w w2 ∧ MA mt true w2 q.fs (cs.extract j (j + m)) kk n1 T1) hA hp hkn hsz h2 ?_ (fun _ s' w2 hB2 hS => ?_)
    ·refine (hmk T1 (cs.extract j (j + m)) n1 kk w h2.g (fun b' hb' => ⟨(hT b' (g4 b' hb')).1, (hT b' (g4 b' hb')).2.1⟩) (by rw [Array.size_extract, hqs]; omega) hin (by omega)).mono (fun e w2 hh => ?_)
     obtain ⟨he, hmod, hma⟩ := hh
     exact ⟨he, hmod.glob (fun k hk => (hT k (g4 k hk)).1) h2.g, hmod.old b (blk_lt h2.hb) (fun hb' => (hT b (g4 b hb')).2.2 rfl), hmod, hma⟩
    ·obtain ⟨hmod, hma⟩ := hB2
     refine hK s' w2 n1 n2 T1 T2 (shiftF j q.fs) rfl hS hmod (hma.outof hql' (by omega)) ((g2.mono (fun b' hb' => hmod.old b' (hT b' (g5 b' hb')).2.1 (fun h1 => g6 b' h1 hb'))).start 0) g3 g4 g5 g6
   ·cases h
  ·cases h
 ·rename_i j m f hp
  split at h
  ·rename_i q hq
   split at h
   ·rename_i hm1
    subst hm1
    obtain ⟨hq1, hq2⟩ := find_in hq
    have hq2 : q.1 = f := by simpa using hq2
    obtain ⟨hkn, hmk⟩ := hsub q hq1
    rw [hq2] at hkn hmk
    have hfs := preF_eq h
    subst hfs
    obtain ⟨n1, n2, T1, T2, g1, g2, g3, g4, g5, g6⟩ := hm.split
    obtain ⟨v, hv, hmt⟩ := g1.one
    have hgd : cs.getD j undef = v := by rw [Array.getD_eq_getD_getElem?, hv]; rfl
    refine partP_ok (nn := n1) (B := fun w2 => Mod T1 w w2 ∧ MT mt true w2 (.sl q.2) v kk n1 T1) hA hp hkn hsz h2 ?_ (fun _ s' w2 hB2 hS => ?_)
    ·rw [if_neg (by decide), hgd]
     refine (hmk T1 v n1 kk w h2.g (fun b' hb' => ⟨(hT b' (g4 b' hb')).1, (hT b' (g4 b' hb')).2.1⟩) hmt (by omega)).mono (fun e w2 hh => ?_)
     obtain ⟨he, hmod, hma⟩ := hh
     exact ⟨he, hmod.glob (fun k hk => (hT k (g4 k hk)).1) h2.g, hmod.old b (blk_lt h2.hb) (fun hb' => (hT b (g4 b hb')).2.2 rfl), hmod, hma⟩
    ·obtain ⟨hmod, hma⟩ := hB2
     refine hK s' w2 n1 n2 T1 T2 [(j, q.2)] rfl hS hmod (MA.ofOne hv hma) ((g2.mono (fun b' hb' => hmod.old b' (hT b' (g5 b' hb')).2.1 (fun h1 => g6 b' h1 hb'))).start 0) g3 g4 g5 g6
   ·cases h
  ·cases h
 ·cases h
theorem markBody_ok {T0 : Nat → Prop} {w0 : World} {kE : Nat} {fs0 : List (Nat × List Kd)} {k0 : Nat} {J : Exit → (Nat → Value) → World → Prop} (hA : Agree P c) (hsub : ∀ p ∈ subs, MarkOk P mt p.1 (.sl p.2)) (hasub : ∀ p ∈ asubs, MarkAOk P mt p.f p.sz p.fs) (hsz : cs.size = sz) (hT0 : ∀ b', T0 b' → globN ≤ b') (hE : kE ≤ 1152921504606846976)
  (hJ : ∀ s' w', s' 4 = .int .i64 (kE : Int) → Mod T0 w0 w' → MA mt true w' fs0 cs k0 (kE - k0) T0 → J .ret s' w') :
  ∀ (codes : List Code) (f1 fs : List (Nat × List Kd)) (kk nn : Nat) (T1 T2 : Nat → Prop) (s : Nat → Value) (w : World), markBody c n sz subs asubs codes fs = true → fs0 = f1 ++ fs → S2 n b kk cs bt s w → kk + nn = kE → k0 ≤ kk → Mod T0 w0 w → MA mt true w f1 cs k0 (kk - k0) T1 → MA mt false w fs cs 0 nn T2 →
   (∀ b', T1 b' → T0 b') → (∀ b', T2 b' → T0 b') → (∀ b', T1 b' → T2 b' → False) → (∀ b', T0 b' → b' < w.heap.size ∧ b' ≠ b) → WL P n codes s w J := by
 intro codes
 induction codes with
 | nil => intro f1 fs kk nn T1 T2 s w h; cases h
 | cons k K ih =>
  intro f1 fs kk nn T1 T2 s w h hfs h2 hkn hk0 hmod hm1 hm2 hT1 hT2 hd hT
  unfold markBody at h
  split at h
  ·cases h
  ·rename_i id r hreg
   obtain rfl := regOf_eq hreg
   split at h
   ·rename_i fs' hpa
    refine markPart hA hsub hasub hpa hsz h2 (fun b' hb' => ⟨hT0 b' (hT2 b' hb'), hT b' (hT2 b' hb')⟩) hm2 (by omega) (fun s' w' n1 n2 U1 U2 g1 e1 hS' hmod' hma hmb hnn i1 i2 i3 => ?_)
    subst e1
    have hmod2 : Mod T0 w0 w' := hmod.trans (hmod'.mono (fun k hk => hT2 k (i1 k hk)))
    have hm1' : MA mt true w' f1 cs k0 (kk - k0) T1 := hm1.mono (fun b' hb' => hmod'.old b' (hT b' (hT1 b' hb')).1 (fun hu => hd b' hb' (i1 b' hu)))
    refine ih (f1 ++ g1) fs' (kk + n1) n2 (fun b' => T1 b' ∨ U1 b') U2 s' w' h (by rw [hfs, List.append_assoc]) hS' (by omega) (by omega) hmod2 ?_ hmb (fun b' hb' => hb'.elim (hT1 b') (fun h => hT2 b' (i1 b' h))) (fun b' hb' => hT2 b' (i2 b' hb')) (fun b' hb' hb2 => ?_) (fun b' hb' => ⟨Nat.lt_of_lt_of_le (hT b' hb').1 hmod'.size, (hT b' hb').2⟩)
    ·rw [show kk + n1 - k0 = (kk - k0) + n1 by omega]
     exact MA.join hm1' (by rw [show k0 + (kk - k0) = kk by omega]; exact hma) (fun b' h => .inl h) (fun b' h => .inr h) (fun b' h1 h2 => hd b' h1 (i1 b' h2))
    ·rcases hb' with hb' | hb'
     ·exact hd b' hb' (i2 b' hb2)
     ·exact i3 b' hb' hb2
   ·rename_i hpa
    simp only [Bool.and_eq_true] at h
    obtain ⟨⟨h3, h4⟩, h5⟩ := h
    obtain rfl : fs = [] := by simpa using h4
    obtain rfl := retOf_eq h5
    have hn0 : nn = 0 := hm2
    subst hn0
    refine outA_ok h3 h2 (fun s' q => ?_)
    refine W.ret ?_
    show J .ret s' w
    rw [List.append_nil] at hfs
    subst hfs
    obtain rfl : kk = kE := by omega
    exact hJ s' w q hmod (hm1.weaken hT1)
theorem mark_ag {f : Nat} {fn : Func} {code : Code} {fs : List (Nat × List Kd)} (hA : Agree P c) (hsub : ∀ p ∈ subs, MarkOk P mt p.1 (.sl p.2)) (hasub : ∀ p ∈ asubs, MarkAOk P mt p.f p.sz p.fs) (hf : P.funcs[f]? = some fn) (hb : fn.body = some code) (hr : fn.results = #[.tmp 4]) (hname : (fn.name == "runtime.NumGoroutine") = false)
  (h : markFnA c fn.ntmps sz subs asubs fs code = true) : MarkAOk P mt f sz fs := by
 refine ⟨⟨fn, hf, by rw [hb]; rfl, hname⟩, fun T cs nn k0 w hg hT hsz hMA hB => ?_⟩
 unfold markFnA at h
 split at h
 rotate_left
 ·cases h
 rename_i k K hcode
 split at h
 rotate_left
 ·cases h
 rename_i id r hreg
 obtain rfl := regOf_eq hreg
 rw [Bool.and_eq_true] at h
 obtain ⟨h1, h2⟩ := h
 have hn4 : 4 < fn.ntmps := by
  unfold isEntA at h1
  split at h1
  ·split at h1
   ·rw [Bool.and_eq_true, decide_eq_true_eq] at h1; exact h1.2
   ·cases h1
  ·cases h1
 refine calls_W hf hb hr (by show 2 ≤ fn.ntmps; omega) ?_
 refine WL.code ?_
 rw [hcode]
 refine entA_ok (cs := cs) (kk := k0) h1 rfl rfl (fun t ht => ?_) hg (fun s' bt hS => ?_)
 ·show (#[_, _] : Array Value).getD t undef = undef
  rw [Array.getD_eq_getD_getElem?, Array.getElem?_eq_none (by show 2 ≤ t; omega)]
  rfl
 ·have hk := Kept.al w (.cells cs bt)
  refine markBody_ok (T0 := T) (w0 := w) (kE := k0 + nn) (fs0 := fs) (k0 := k0) hA hsub hasub hsz (fun b' hb' => (hT b' hb').1) hB (fun s2 w2 q hmod hma => ?_) K [] fs k0 nn (fun _ => False) T s' _ h2 rfl hS rfl (Nat.le_refl _) (Mod.of_kept hk) ?_ (hMA.mono (fun b' hb' => hk.2.2.2.2 b' (hT b' hb').2)) (fun _ h => h.elim) (fun _ h => h) (fun _ h => h.elim) (fun b' hb' => ?_)
  ·show Ending.returned (s2 4) = _ ∧ _
   rw [Nat.add_sub_cancel_left] at hma
   exact ⟨by rw [q], hmod, hma⟩
  ·show k0 - k0 = 0
   omega
  ·have := (hT b' hb').2
   exact ⟨Nat.lt_of_lt_of_le this hk.2.2.2.1, fun e => absurd this (by rw [e]; exact Nat.lt_irrefl _)⟩
end
end Go.Am
end
section
set_option linter.unusedVariables false
set_option linter.unusedSimpArgs false
namespace Go.Am
open Go Go.RowKit
section
variable {P : Program} {c : Cfg} {mt : Nat → List UInt8} {n d b kk sz : Nat} {s : Nat → Value} {w w' : World} {o : Oper} {cs : Array Value} {bt : TypeId} {subs : List (Nat × List Kd)} {asubs : List FnA}
end
end Go.Am
end
section
set_option linter.unusedVariables false
set_option linter.unusedSimpArgs false
namespace Go.Am
open Go Go.RowKit
inductive VK : V → Kd → Nat → Prop
  | str (s : List UInt8) : VK (.str s) .str 1
  | int (n : Int) : VK (.int .i64 n) .int 1
  | bool (b : Bool) : VK (.bool b) .bool 1
  | sl (s : Nat) (f : Bool) (xs : List V) (ks : List Kd) (N : Nat → Nat) (hs : s = ks.length) (hp : 0 < ks.length) (hm : xs.length ≤ 1152921504606846976)
      (h : ∀ (i : Nat) (x : V) (j : Nat) (c : V) (kd : Kd), xs[i]? = some x → x.cells[j]? = some c → ks[j]? = some kd → VK c kd (N (i * ks.length + j))) : VK (.sl s f xs) (.sl ks) (sumN N (xs.length * ks.length))
theorem cell_block {w : World} {k o : Nat} {v : Value} {cur : Array Value} {e : TypeId} (h : w.cell? ⟨k, o, none⟩ = some v) (hb : w.heap[k]? = some (.cells cur e (0, 0))) : cur[o]? = some v := by
 rw [World.cell?, hb] at h
 exact h
theorem divmod_lt {p m s : Nat} (h : p < m * s) : p / s < m ∧ p % s < s ∧ p / s * s + p % s = p := by
 have hs : 0 < s := by
  rcases Nat.eq_zero_or_pos s with e | e
  ·rw [e, Nat.mul_zero] at h; omega
  ·exact e
 exact ⟨Nat.div_lt_of_lt_mul (by rw [Nat.mul_comm]; exact h), Nat.mod_lt _ hs, Nat.div_add_mod' p s⟩
theorem mt_rows {mt : Nat → List UInt8} {w : World} {s : Nat} {xs : List V} {ks : List Kd} {N : Nat → Nat} {k o cap : Nat} {g : Nat → Nat → Value} {T : Nat → Nat → Nat → Prop} {T' : Nat → Prop} (hs : s = ks.length) (hp : 0 < ks.length) (hm : xs.length ≤ 1152921504606846976) (h0 : 0 < xs.length)
  (hsz : ∀ x ∈ xs, x.cells.length = s) (hg : ∀ i j : Nat, i < xs.length → j < s → w.cell? ⟨k, o + i * s + j, none⟩ = some (g i j)) (hb : ∃ cur e, w.heap[k]? = some (.cells cur e (0, 0)))
  (hr : ∀ (i : Nat) (x : V) (j : Nat) (c : V) (kd : Kd), xs[i]? = some x → x.cells[j]? = some c → ks[j]? = some kd → ∀ k0, MT mt false w kd (g i j) k0 (N (i * ks.length + j)) (T i j))
  (hd : ∀ i j i' j' m, T i j m → T i' j' m → i = i' ∧ j = j') (hk : ∀ i j, ¬ T i j k) (hTk : T' k) (hT : ∀ i j m, T i j m → T' m) (k0 : Nat) : MT mt false w (.sl ks) (.slice (some ⟨k, o, none⟩) xs.length cap) k0 (sumN N (xs.length * ks.length)) T' := by
 subst hs
 obtain ⟨cur, e, hb⟩ := hb
 have hfit : o + xs.length * ks.length ≤ cur.size := by
  have := cell_block (hg (xs.length - 1) (ks.length - 1) (by omega) (by omega)) hb
  have hlt := (Array.getElem?_eq_some_iff.1 this).1
  have e : (xs.length - 1) * ks.length + ks.length = xs.length * ks.length := by
   rw [← Nat.succ_mul]
   congr 1
   omega
  omega
 refine .sl ks k o xs.length cap k0 cur e N (fun p x => p < xs.length * ks.length ∧ T (p / ks.length) (p % ks.length) x) T' h0 hm hb hfit (fun p kd v hp' h1 h2 => ?_) (fun p p' x h1 h2 => ?_) (fun p h => hk _ _ h.2) hTk (fun p x h => hT _ _ x h.2)
 ·obtain ⟨d1, d2, d3⟩ := divmod_lt hp'
  have hx := List.getElem?_eq_getElem d1
  have hc := hsz _ (List.getElem_mem d1)
  have hcj : (xs[p / ks.length]).cells[p % ks.length]? = some _ := List.getElem?_eq_getElem (by rw [hc]; exact d2)
  have hv : g (p / ks.length) (p % ks.length) = v := by
   have := cell_block (hg _ _ d1 d2) hb
   rw [Nat.add_assoc, d3, h2] at this
   injection this with this
   exact this.symm
  have := hr _ _ _ _ kd hx hcj h1 (k0 + sumN N p)
  rw [d3, hv] at this
  exact this.weaken (fun b hb => ⟨hp', hb⟩)
 ·obtain ⟨e1, e2⟩ := hd _ _ _ _ x h1.2 h2.2
  rw [← (divmod_lt h1.1).2.2, ← (divmod_lt h2.1).2.2, e1, e2]
theorem mt_of {mt : Nat → List UInt8} {w : World} {v : V} {kd : Kd} {n : Nat} (hv : VK v kd n) : ∀ {S : Nat → Prop} {x : Value} {T : Nat → Prop}, Rd w S v x → Tr w v x T → (∀ b, T b → ∃ cur e, w.heap[b]? = some (.cells cur e (0, 0))) → ∀ k0, MT mt false w kd x k0 n T := by
 induction hv with
 | str s =>
  intro S x T hr ht hT k0
  cases hr with
  | str _ b _ => exact .leaf _ _ k0 T ⟨b, rfl⟩ (fun e => by cases e)
 | int n =>
  intro S x T hr ht hT k0
  cases hr with
  | int _ _ => exact .leaf _ _ k0 T ⟨n, rfl⟩ (fun e => by cases e)
 | bool b =>
  intro S x T hr ht hT k0
  cases hr with
  | bool _ => exact .leaf _ _ k0 T ⟨b, rfl⟩ (fun e => by cases e)
 | sl s f xs ks N hs hp hm h ih =>
  intro S x T hr ht hT k0
  cases hr with
  | empty _ _ a cap =>
   rw [show ([] : List V).length * ks.length = 0 from Nat.zero_mul _]
   exact .nil ks a cap k0 T
  | sl _ _ _ k o cap g hl hcap hS hsz hf hg hrr =>
   cases ht with
   | leaf _ _ _ h => exact h.elim
   | empty => exact absurd hl (Nat.lt_irrefl 0)
   | sl _ _ _ _ _ _ g' T1 _ hl' hg' hr' hd hk h0 hT' =>
    refine mt_rows (g := g') (T := T1) hs hp hm hl hsz hg' (hT k h0) (fun i x j c kd h1 h2 h3 => ?_) hd hk h0 hT' k0
    have hi : i < xs.length := (List.getElem?_eq_some_iff.1 h1).1
    have hj : j < s := by
     have := (List.getElem?_eq_some_iff.1 h2).1
     rwa [hsz x (List.mem_of_getElem? h1)] at this
    have e : g i j = g' i j := by
     have := (hg i j hi hj).1
     rw [hg' i j hi hj] at this
     injection this with this
     exact this.symm
    exact ih i x j c kd h1 h2 h3 (e ▸ hrr i x j c h1 h2) (hr' i x j c h1 h2) (fun b hb => hT b (hT' i j b hb))
theorem mt_own {mt : Nat → List UInt8} {Γ : Ctx} {w : World} {b s n : Nat} {q : Q} {f : Bool} {xs : List V} {ks : List Kd} {x : Value} (h : VR Γ w (.own b s q xs) x) (hq : q ≠ .any) (hk : VK (.sl s f xs) (.sl ks) n) (hU : Γ.U)
  (hb : ∀ b, Γ.has b → ¬ Γ.S (Γ.blk b) ∧ ∃ cur e, w.heap[Γ.blk b]? = some (.cells cur e (0, 0))) (hZ : ∀ k, Γ.Z k → ∃ cur e, w.heap[k]? = some (.cells cur e (0, 0))) (hN : ∀ b, Γ.has b → ∀ m, Γ.N b m → Γ.S m ∧ Γ.Z m) :
  ∀ k0, MT mt false w (.sl ks) x k0 n (fun m => Γ.has b ∧ (m = Γ.blk b ∨ Γ.N b m)) := by
 intro k0
 cases hk with
 | sl _ _ _ _ N hs hp hm hc =>
 cases h with
 | rd _ _ h => cases h
 | ownNil _ _ _ _ =>
  rw [show ([] : List V).length * ks.length = 0 from Nat.zero_mul _]
  exact .nil ks none 0 k0 _
 | own _ _ _ _ hb' hs' hl hr hfl hu =>
  by_cases h0 : xs.length = 0
  ·obtain rfl := List.length_eq_zero_iff.1 h0
   rw [show ([] : List V).length * ks.length = 0 from Nat.zero_mul _]
   exact .nil ks _ _ k0 _
  ·obtain ⟨r1, g, r2, r3⟩ := hr
   by_cases hqf : q = .flat
   ·refine mt_rows (g := g) (T := fun _ _ _ => False) hs hp hm (by omega) r1 (fun i j hi hj => (r2 i j hi hj).1) (hb b hb').2 (fun i x j c kd h1 h2 h3 k0 => ?_) (fun _ _ _ _ _ h => h.elim) (fun _ _ h => h) ⟨hb', .inl rfl⟩ (fun _ _ _ h => h.elim) k0
    have hn := hfl hqf x (List.mem_of_getElem? h1) c (List.mem_of_getElem? h2)
    exact mt_of (hc i x j c kd h1 h2 h3) (r3 i x j c h1 h2) (.leaf _ _ _ hn) (fun _ h => h.elim) k0
   ·have hqc : q = .clean := by
     cases q with
     | any => exact absurd rfl hq
     | flat => exact absurd rfl hqf
     | clean => rfl
    obtain ⟨g', T, u1, u2, u3, u4⟩ := hu hqc hU
    refine mt_rows (g := g') (T := T) hs hp hm (by omega) r1 u1 (hb b hb').2 (fun i x j c kd h1 h2 h3 k0 => ?_) u3 (fun i j h => (hb b hb').1 (u4 i j _ h).2) ⟨hb', .inl rfl⟩ (fun i j m h => ⟨hb', .inr (u4 i j m h).1⟩) k0
    have hi : i < xs.length := (List.getElem?_eq_some_iff.1 h1).1
    have hj : j < s := by
     have := (List.getElem?_eq_some_iff.1 h2).1
     rwa [r1 x (List.mem_of_getElem? h1)] at this
    have e : g i j = g' i j := by
     have := (r2 i j hi hj).1
     rw [u1 i j hi hj] at this
     injection this with this
     exact this.symm
    exact mt_of (hc i x j c kd h1 h2 h3) (e ▸ r3 i x j c h1 h2) (u2 i x j c h1 h2) (fun m hm => hZ m (hN b hb' m (u4 i j m hm).1).2) k0
inductive Hand (cl : Bool) : V → V → Prop
  | same (v : V) (h : noSl v) : Hand cl v v
  | own (b s : Nat) (q : Q) (f : Bool) (xs : List V) (hq : cl = true → q ≠ .any) (hf : f = true → ∀ x ∈ xs, ∀ c ∈ x.cells, noSl c) : Hand cl (.own b s q xs) (.sl s f xs)
  | nil (s : Nat) (f : Bool) : Hand cl .nil (.sl s f [])
  | sl (s : Nat) (f : Bool) (xs : List V) (hc : cl = false) : Hand cl (.sl s f xs) (.sl s f xs)
  | agg (cs cs' : List V) (hl : cs.length = cs'.length) (h : ∀ (i : Nat) (c c' : V), cs[i]? = some c → cs'[i]? = some c' → Hand cl c c') : Hand cl (.agg cs) (.agg cs')
theorem rd_hand {Γ : Ctx} {w : World} {cl : Bool} {r r' : V} {T : Nat → Prop} (hh : Hand cl r r') (hS : cl = false → ∀ k, Γ.S k → T k) (hZ : ∀ k, Γ.S k → Γ.Z k → T k) (hB : ∀ b, Γ.has b → T (Γ.blk b)) : ∀ {x : Value}, VR Γ w r x → Rd w T r' x := by
 have plain : ∀ {v : V} {x : Value}, noSl v → Rd w Γ.S v x → Rd w T v x := fun {v x} hn hr => by
  cases hr with
  | bool b => exact .bool b
  | int k n => exact .int k n
  | str s x h => exact .str s x h
  | nil => exact .nil
  | _ => exact hn.elim
 induction hh with
 | same v h =>
  intro x hv
  cases hv with
  | rd _ _ hr => exact plain h hr
  | _ => exact h.elim
 | own b s q f xs hq hf =>
  intro x hv
  cases hv with
  | rd _ _ hr => cases hr
  | ownNil => exact .empty s f none 0
  | own _ _ _ _ hb hs hl hr hfl hu =>
   by_cases h0 : xs.length = 0
   ·obtain rfl := List.length_eq_zero_iff.1 h0
    exact .empty s f _ _
   ·obtain ⟨r1, g, r2, r3⟩ := hr
    refine .sl s f xs _ _ _ g (by omega) hl.1 (hB b hb) r1 hf r2 (fun i x j c h1 h2 => (r3 i x j c h1 h2).mono (fun k hk => ?_) (fun _ _ _ => rfl))
    cases hc : cl with
    | false =>
     refine hS hc k ?_
     cases q with
     | any => exact hk
     | _ => exact hk.1
    | true =>
     have := hq hc
     cases q with
     | any => exact absurd rfl this
     | _ => exact hZ k hk.1 hk.2
 | nil s f =>
  intro x hv
  cases hv with
  | rd _ _ hr => cases hr; exact .empty s f none 0
 | sl s f xs hc =>
  intro x hv
  cases hv with
  | rd _ _ hr => exact hr.mono (hS hc) (fun _ _ _ => rfl)
 | agg cs cs' hl h ih =>
  intro x hv
  have go : ∀ vs : Array Value, cs.length = vs.size → (∀ (i : Nat) (c : V) (v : Value), cs[i]? = some c → vs[i]? = some v → VR Γ w c v) → Rd w T (.agg cs') (.agg vs) := fun vs hl' hr =>
   .agg cs' vs (hl.symm.trans hl') (fun i c v h1 h2 => by
    have hi : i < cs.length := by rw [hl]; exact (List.getElem?_eq_some_iff.1 h1).1
    exact ih i _ c (List.getElem?_eq_getElem hi) h1 (hr i _ v (List.getElem?_eq_getElem hi) h2))
  cases hv with
  | rd _ _ hr =>
   cases hr with
   | agg _ vs hl' hr => exact go vs hl' (fun i c v h1 h2 => .rd _ _ (hr i c v h1 h2))
  | agg _ vs hl' hr => exact go vs hl' hr
def OwnA (cs : List V) : List (Nat × List Kd) → List Nat → Nat → Prop
 | [], _, n => n = 0
 | (j, ks) :: fs, used, n => ∃ n1 n2, n = n1 + n2 ∧ ((∃ b s q f xs, cs[j]? = some (.own b s q xs) ∧ q ≠ .any ∧ b ∉ used ∧ VK (.sl s f xs) (.sl ks) n1 ∧ OwnA cs fs (b :: used) n2) ∨ (cs[j]? = some .nil ∧ n1 = 0 ∧ OwnA cs fs used n2))
theorem ma_own {mt : Nat → List UInt8} {Γ : Ctx} {w : World} {cs : List V} {vs : Array Value} (hl : cs.length = vs.size) (hv : ∀ (i : Nat) (c : V) (v : Value), cs[i]? = some c → vs[i]? = some v → VR Γ w c v) (hU : Γ.U)
  (hb : ∀ b, Γ.has b → ¬ Γ.S (Γ.blk b) ∧ ∃ cur e, w.heap[Γ.blk b]? = some (.cells cur e (0, 0))) (hZ : ∀ k, Γ.Z k → ∃ cur e, w.heap[k]? = some (.cells cur e (0, 0))) (hN : ∀ b, Γ.has b → ∀ m, Γ.N b m → Γ.S m ∧ Γ.Z m)
  (hinj : ∀ b b', Γ.has b → Γ.has b' → Γ.blk b = Γ.blk b' → b = b') (hdis : ∀ b b', Γ.has b → Γ.has b' → b ≠ b' → ∀ m, Γ.N b m → Γ.N b' m → False) :
  ∀ (fs : List (Nat × List Kd)) (used : List Nat) (n k0 : Nat), OwnA cs fs used n → MA mt false w fs vs k0 n (fun m => ∃ b, b ∉ used ∧ Γ.has b ∧ (m = Γ.blk b ∨ Γ.N b m))
 | [], used, n, k0, h => h
 | (j, ks) :: fs, used, n, k0, h => by
  obtain ⟨n1, n2, e, h⟩ := h
  have at_ : ∀ {c : V}, cs[j]? = some c → ∃ v, vs[j]? = some v := fun hc => by
   have := (List.getElem?_eq_some_iff.1 hc).1
   exact ⟨_, Array.getElem?_eq_getElem (by omega)⟩
  rcases h with ⟨b, s, q, f, xs, h1, h2, h3, h4, h5⟩ | ⟨h1, h2, h5⟩
  ·obtain ⟨v, hvj⟩ := at_ h1
   refine ⟨v, n1, n2, _, _, hvj, mt_own (hv j _ v h1 hvj) h2 h4 hU hb hZ hN k0, ma_own hl hv hU hb hZ hN hinj hdis fs (b :: used) n2 (k0 + n1) h5, e, ?_, ?_, ?_⟩
   ·exact fun m hm => ⟨b, h3, hm.1, hm.2⟩
   ·rintro m ⟨b', g1, g2, g3⟩
    exact ⟨b', fun e => g1 (List.mem_cons_of_mem _ e), g2, g3⟩
   ·rintro m ⟨g1, g2⟩ ⟨b', g3, g4, g5⟩
    have hne : b ≠ b' := fun e => g3 (e ▸ List.mem_cons_self)
    rcases g2 with rfl | g2
    ·rcases g5 with g5 | g5
     ·exact hne (hinj b b' g1 g4 g5)
     ·exact (hb b g1).1 (hN b' g4 _ g5).1
    ·rcases g5 with rfl | g5
     ·exact (hb b' g4).1 (hN b g1 _ g2).1
     ·exact hdis b b' g1 g4 hne m g2 g5
  ·obtain ⟨v, hvj⟩ := at_ h1
   have hnil : v = .slice none 0 0 := by
    cases hv j _ v h1 hvj with
    | rd _ _ hr => cases hr; rfl
   subst hnil
   subst h2
   refine ⟨_, 0, n2, fun _ => False, _, hvj, .nil ks none 0 k0 _, ma_own hl hv hU hb hZ hN hinj hdis fs used n2 (k0 + 0) h5, e, fun _ h => h.elim, fun _ h => h, fun _ h _ => h⟩
inductive Shp where
  | s (ks : List Kd)
  | a (sz : Nat) (fs : List (Nat × List Kd))
def Shp.tree (mt : Nat → List UInt8) (mk : Bool) (w : World) (x : Value) (k0 n : Nat) (T : Nat → Prop) : Shp → Prop
 | .s ks => MT mt mk w (.sl ks) x k0 n T
 | .a sz fs => ∃ cs : Array Value, x = .agg cs ∧ cs.size = sz ∧ MA mt mk w fs cs k0 n T
def Shp.own (r : V) (n : Nat) : Shp → Prop
 | .s ks => (∃ b s q f xs, r = .own b s q xs ∧ q ≠ .any ∧ VK (.sl s f xs) (.sl ks) n) ∨ (r = .nil ∧ n = 0)
 | .a sz fs => ∃ cs : List V, r = .agg cs ∧ cs.length = sz ∧ OwnA cs fs [] n
def Shp.MarkOk (P : Program) (mt : Nat → List UInt8) (f : Nat) : Shp → Prop
 | .s ks => Am.MarkOk P mt f (.sl ks)
 | .a sz fs => MarkAOk P mt f sz fs
def Shp.HeldOk (P : Program) (mt : Nat → List UInt8) (f : Nat) : Shp → Prop
 | .s ks => Am.HeldOk P mt f (.sl ks)
 | .a sz fs => HeldAOk P mt f sz fs
end Go.Am
end
