/-
  Laws that mark what they were given and what they were handed: their own code known by its form, call by call; what is so between the calls.
-/
import Derived.Test.YtoljfpgnhfkdcaavAmMark2
section
set_option linter.unusedVariables false
set_option linter.unusedSimpArgs false
namespace Go.Am
open Go Go.RowKit
def mvOf (o : Oper) (x : Nat) : Option Nat :=
 match o.op, o.dst, o.guard with
 | .move (.tmp y), some d, none => if y = x then some d else none
 | _, _, _ => none
def asOf (o : Oper) (x d : Nat) : Bool :=
 match o.op, o.dst, o.guard with
 | .assign (.tmp y), some d', none => y == x && d' == d
 | _, _, _ => false
def as0Of (o : Oper) (d : Nat) : Bool :=
 match o.op, o.dst, o.guard with
 | .assign (.const (.int .i64 0)), some d', none => d' == d
 | _, _, _ => false
def lenOf (c : Cfg) (o : Oper) (x : Nat) : Option Nat :=
 match o.op, o.dst, o.guard with
 | .call ⟨.builtin .len, args, ts⟩, some d, none => match args.toList, ts.toList with
  | [.tmp y], [t] => match c.ty t with
   | some i => match i.d with
    | .slice _ => if y = x then some d else none
    | _ => none
   | none => none
  | _, _ => none
 | _, _, _ => none
def isI64 (c : Cfg) (t : Nat) : Bool :=
 match c.ty t with
 | some i => match i.d with
  | .int .i64 => true
  | _ => false
 | none => false
def lssOf (c : Cfg) (o : Oper) (x y t : Nat) : Bool :=
 match o.op, o.dst, o.guard with
 | .binOp .lss tt (.tmp x') (.tmp y') _, some d, none => x' == x && y' == y && d == t && isI64 c tt
 | _, _, _ => false
def add1Of (c : Cfg) (o : Oper) (x : Nat) : Option Nat :=
 match o.op, o.dst, o.guard with
 | .binOp .add tt (.tmp x') (.const (.int .i64 1)) _, some d, none => if x' = x ∧ isI64 c tt = true then some d else none
 | _, _, _ => none
def isHead (c : Cfg) (n : Nat) (r : Array Oper) (t : Nat) : Bool :=
 match r.toList with
 | [o0, o1, o2, o3] => match mvOf o0 5, mvOf o1 0 with
  | some d0, some d1 => match lenOf c o2 d1 with
   | some d2 => lssOf c o3 d0 d2 t && decide (6 ≤ d0 ∧ d0 < n ∧ 6 ≤ d1 ∧ d1 < n ∧ 6 ≤ d2 ∧ d2 < n ∧ 6 ≤ t ∧ t < n ∧ d0 ≠ d1 ∧ d0 ≠ d2 ∧ d1 ≠ d2)
   | none => false
  | _, _ => false
 | _ => false
def isNext (c : Cfg) (n : Nat) (r : Array Oper) : Bool :=
 match r.toList with
 | [o0, o1, o2] => match mvOf o0 5 with
  | some d0 => match add1Of c o1 d0 with
   | some d1 => asOf o2 d1 5 && decide (6 ≤ d0 ∧ d0 < n ∧ 6 ≤ d1 ∧ d1 < n ∧ 5 < n)
   | none => false
  | none => false
 | _ => false
def isOut (n : Nat) (r : Array Oper) : Bool :=
 match r.toList with
 | [o0, o1] => match mvOf o0 1 with
  | some d0 => asOf o1 d0 4 && decide (6 ≤ d0 ∧ d0 < n ∧ 4 < n)
  | none => false
 | _ => false
def isZero (n d : Nat) (r : Array Oper) : Bool :=
 match r.toList with
 | [o0] => as0Of o0 d && decide (d < n)
 | _ => false
def slLoop (c : Cfg) (n b0 : Nat) (fields : List Code → Bool) (L : Code) : Bool :=
 match flatC L with
 | [.region _ rc false, .cond (.tmp t) .skip (.exit b0'), .block b1 B, .region _ ri false] => b0' == b0 && isHead c n rc t && fields (flatC B) && isNext c n ri
 | _ => false
def slFn (c : Cfg) (n : Nat) (fields : List Code → Bool) (code : Code) : Bool :=
 match flatC code with
 | [.region _ r0 false, .region _ r1 false, .block b0 (.loop L), .region _ r3 false, .ret] => isZero n 4 r0 && isZero n 5 r1 && slLoop c n b0 fields L && isOut n r3
 | _ => false
section
variable {P : Program} {c : Cfg} {n d : Nat} {s : Nat → Value} {w w' : World} {o : Oper} {a : Option Addr} {m cap i kk : Nat}
theorem mv_ok {x : Nat} (h : mvOf o x = some d) : o.guard = none ∧ o.dst = some d ∧ (execOp (evs s) o).run P w = .ok (.value (s x)) w := by
 unfold mvOf at h
 split at h
 ·rename_i y d' ho hd hg
  split at h
  ·rename_i e
   injection h with h
   subst h; subst e
   exact ⟨hg, hd, by simp [execOp, ho, evs]⟩
  ·cases h
 ·cases h
theorem as_ok {x : Nat} (h : asOf o x d = true) : o.guard = none ∧ o.dst = some d ∧ (execOp (evs s) o).run P w = .ok (.value (s x)) w := by
 unfold asOf at h
 split at h
 ·rename_i y d' ho hd hg
  simp only [Bool.and_eq_true, beq_iff_eq] at h
  obtain ⟨rfl, rfl⟩ := h
  exact ⟨hg, hd, by simp [execOp, ho, evs]⟩
 ·cases h
theorem as0_ok (h : as0Of o d = true) : o.guard = none ∧ o.dst = some d ∧ (execOp (evs s) o).run P w = .ok (.value (.int .i64 0)) w := by
 unfold as0Of at h
 split at h
 ·rename_i d' ho hd hg
  simp only [beq_iff_eq] at h
  subst h
  exact ⟨hg, hd, by simp [execOp, ho, evs]⟩
 ·cases h
theorem len_ok {x : Nat} (hA : Agree P c) (h : lenOf c o x = some d) (hx : s x = .slice a m cap) : o.guard = none ∧ o.dst = some d ∧ (execOp (evs s) o).run P w = .ok (.value (.int .i64 (m : Int))) w := by
 unfold lenOf at h
 split at h
 ·rename_i args ts d' ho hd hg
  split at h
  ·rename_i y t hargs hts
   split at h
   ·rename_i ti hti
    split at h
    ·rename_i e he
     split at h
     ·rename_i e'
      injection h with h
      subst h; subst e'
      obtain ⟨tj, aj⟩ := hA _ _ hti
      obtain rfl := arr1 hargs
      obtain rfl := arr1 hts
      exact ⟨hg, hd, by simp [execOp, ho, evs, hx, resolve, invoke, builtin, Builtin.len_, run_underlying (aj.slice _ he), goInt]⟩
     ·cases h
    ·cases h
   ·cases h
  ·cases h
 ·cases h
theorem isI64_ok {t : Nat} (h : isI64 c t = true) : ∃ i, c.ty t = some i ∧ i.d = .int .i64 := by
 unfold isI64 at h
 split at h
 ·rename_i i hi
  split at h
  ·rename_i hd; exact ⟨i, hi, hd⟩
  ·cases h
 ·cases h
theorem lss_ok {x y t : Nat} (hA : Agree P c) (hg : globOk w) (hn : ∀ i, n ≤ i → s i = undef) (h : lssOf c o x y t = true) (hxy : y ≠ x) (hx : s x = .int .i64 (i : Int)) (hy : s y = .int .i64 (m : Int)) (hxn : x < n) (hyn : y < n) :
  o.guard = none ∧ o.dst = some t ∧ (execOp (evs s) o).run P w = .ok (.value (.bool (decide (i < m)))) w := by
 unfold lssOf at h
 split at h
 ·rename_i tt x' y' t' d' ho hd hgd
  simp only [Bool.and_eq_true, beq_iff_eq] at h
  obtain ⟨⟨⟨rfl, rfl⟩, rfl⟩, hi⟩ := h
  obtain ⟨ti, h1, h2⟩ := isI64_ok hi
  obtain ⟨z, g1, Γ, g2⟩ := scal_bin (v := .int .i64 (i : Int)) (u := .int .i64 (m : Int)) (r := .bool (decide ((i : Int) < (m : Int)))) hA hg hn ho h1 hxn (by rw [hx]; exact .int _ _) (.inl ⟨_, rfl, hyn, hxy, by rw [hy]; exact .int _ _⟩) (by simp [binV, intOp, cmpInt])
  rw [g2.bool_inv] at g1
  refine ⟨hgd, hd, ?_⟩
  rw [g1]
  congr 4
  simp
 ·cases h
theorem add1_ok {x : Nat} (hA : Agree P c) (hg : globOk w) (hn : ∀ i, n ≤ i → s i = undef) (h : add1Of c o x = some d) (hx : s x = .int .i64 (i : Int)) (hi : i < 4611686018427387904) (hxn : x < n) :
  o.guard = none ∧ o.dst = some d ∧ (execOp (evs s) o).run P w = .ok (.value (.int .i64 ((i + 1 : Nat) : Int))) w := by
 unfold add1Of at h
 split at h
 ·rename_i tt x' t' d' ho hd hgd
  split at h
  ·rename_i hc
   injection h with h
   subst h
   obtain ⟨rfl, hi64⟩ := hc
   obtain ⟨ti, h1, h2⟩ := isI64_ok hi64
   obtain ⟨z, g1, Γ, g2⟩ := scal_bin (v := .int .i64 (i : Int)) (u := .int .i64 1) (r := .int .i64 ((i + 1 : Nat) : Int)) hA hg hn ho h1 hxn (by rw [hx]; exact .int _ _) (.inr ⟨_, rfl, rfl⟩) (by simp [binV, intOp, cmpInt, arith]; exact wrap_small (n := i + 1) (by omega))
   rw [g2.int_inv] at g1
   exact ⟨hgd, hd, g1⟩
  ·cases h
 ·cases h
theorem S5.up {x : Value} (h : S5 n x i kk s w) {d : Nat} {v : Value} (hd : 6 ≤ d) (hn : d < n) : S5 n x i kk (upd s d v) w :=
 ⟨by rw [upd_ne (by omega)]; exact h.s0, by rw [upd_ne (by omega)]; exact h.s1, by rw [upd_ne (by omega)]; exact h.s5, undef_upd h.un hn v, h.g⟩
theorem head_ok {r : Array Oper} {t id : Nat} {K : List Code} {J : Exit → (Nat → Value) → World → Prop} (hA : Agree P c) (h : isHead c n r t = true) (h5 : S5 n (.slice a m cap) i kk s w)
  (hK : ∀ s', S5 n (.slice a m cap) i kk s' w → s' t = .bool (decide (i < m)) → WL P n K s' w J) : WL P n (.region id r false :: K) s w J := by
 unfold isHead at h
 split at h
 rotate_left
 ·cases h
 rename_i o0 o1 o2 o3 hr
 split at h
 rotate_left
 ·cases h
 rename_i d0 d1 hd0 hd1
 split at h
 rotate_left
 ·cases h
 rename_i d2 hd2
 rw [Bool.and_eq_true, decide_eq_true_eq] at h
 obtain ⟨h3, q0, q0', q1, q1', q2, q2', q3, q3', n1, n2, n3⟩ := h
 refine W.region ?_
 rw [hr]
 obtain ⟨a1, a2, a3⟩ := mv_ok (P := P) (s := s) (w := w) hd0
 refine R.value a1 a2 q0' a3 ?_
 obtain ⟨b1, b2, b3⟩ := mv_ok (P := P) (s := upd s d0 (s 5)) (w := w) hd1
 refine R.value b1 b2 q1' b3 ?_
 have hS1 := (h5.up (v := s 5) q0 q0').up (v := upd s d0 (s 5) 0) q1 q1'
 obtain ⟨c1, c2, c3⟩ := len_ok (P := P) (w := w) (s := upd (upd s d0 (s 5)) d1 (upd s d0 (s 5) 0)) (a := a) (m := m) (cap := cap) hA hd2 (by rw [upd_same, upd_ne (by omega)]; exact h5.s0)
 refine R.value c1 c2 q2' c3 ?_
 have hS2 := hS1.up (v := .int .i64 (m : Int)) q2 q2'
 obtain ⟨e1, e2, e3⟩ := lss_ok (P := P) (w := w) hA h5.g hS2.un h3 (fun e => n2 e.symm) (by rw [upd_ne n2, upd_ne n1, upd_same]; exact h5.s5) (by rw [upd_same]) q0' q2'
 exact R.value e1 e2 q3' e3 (R.nil (hK _ (hS2.up q3 q3') upd_same))
theorem next_ok {x : Value} {r : Array Oper} {id : Nat} {K : List Code} {J : Exit → (Nat → Value) → World → Prop} (hA : Agree P c) (h : isNext c n r = true) (hi : i < 4611686018427387904) (h5 : S5 n x i kk s w)
  (hK : ∀ s', S5 n x (i + 1) kk s' w → WL P n K s' w J) : WL P n (.region id r false :: K) s w J := by
 unfold isNext at h
 split at h
 rotate_left
 ·cases h
 rename_i o0 o1 o2 hr
 split at h
 rotate_left
 ·cases h
 rename_i d0 hd0
 split at h
 rotate_left
 ·cases h
 rename_i d1 hd1
 rw [Bool.and_eq_true, decide_eq_true_eq] at h
 obtain ⟨h3, q0, q0', q1, q1', q5⟩ := h
 refine W.region ?_
 rw [hr]
 obtain ⟨a1, a2, a3⟩ := mv_ok (P := P) (s := s) (w := w) hd0
 refine R.value a1 a2 q0' a3 ?_
 have hS0 := h5.up (v := s 5) q0 q0'
 obtain ⟨b1, b2, b3⟩ := add1_ok (P := P) (w := w) hA h5.g hS0.un hd1 (by rw [upd_same]; exact h5.s5) hi q0'
 refine R.value b1 b2 q1' b3 ?_
 have hS1 := hS0.up (v := .int .i64 ((i + 1 : Nat) : Int)) q1 q1'
 obtain ⟨c1, c2, c3⟩ := as_ok (P := P) (w := w) (s := upd (upd s d0 (s 5)) d1 (.int .i64 ((i + 1 : Nat) : Int))) h3
 rw [upd_same] at c3
 exact R.value c1 c2 q5 c3 (R.nil (hK _ ⟨by rw [upd_ne (by decide)]; exact hS1.s0, by rw [upd_ne (by decide)]; exact hS1.s1, upd_same, undef_upd hS1.un q5 _, h5.g⟩))
theorem out_ok {x : Value} {r : Array Oper} {id : Nat} {K : List Code} {J : Exit → (Nat → Value) → World → Prop} (h : isOut n r = true) (h5 : S5 n x i kk s w)
  (hK : ∀ s', s' 4 = .int .i64 (kk : Int) → WL P n K s' w J) : WL P n (.region id r false :: K) s w J := by
 unfold isOut at h
 split at h
 rotate_left
 ·cases h
 rename_i o0 o1 hr
 split at h
 rotate_left
 ·cases h
 rename_i d0 hd0
 rw [Bool.and_eq_true, decide_eq_true_eq] at h
 obtain ⟨h3, q0, q0', q4⟩ := h
 refine W.region ?_
 rw [hr]
 obtain ⟨a1, a2, a3⟩ := mv_ok (P := P) (s := s) (w := w) hd0
 refine R.value a1 a2 q0' a3 ?_
 obtain ⟨c1, c2, c3⟩ := as_ok (P := P) (w := w) (s := upd s d0 (s 1)) h3
 rw [upd_same] at c3
 exact R.value c1 c2 q4 c3 (R.nil (hK _ (upd_same.trans h5.s1)))
theorem zero_ok {r : Array Oper} {id : Nat} {K : List Code} {J : Exit → (Nat → Value) → World → Prop} (h : isZero n d r = true) (hK : d < n → WL P n K (upd s d (.int .i64 0)) w J) : WL P n (.region id r false :: K) s w J := by
 unfold isZero at h
 split at h
 rotate_left
 ·cases h
 rename_i o0 hr
 rw [Bool.and_eq_true, decide_eq_true_eq] at h
 obtain ⟨h1, h2⟩ := h
 refine W.region ?_
 rw [hr]
 obtain ⟨a1, a2, a3⟩ := as0_ok (P := P) (s := s) (w := w) h1
 exact R.value a1 a2 h2 a3 (R.nil (hK h2))
theorem loop_ok {b0 : Nat} {L : Code} {fields : List Code → Bool} {K : List Code} {J : Exit → (Nat → Value) → World → Prop} (hA : Agree P c) (h : slLoop c n b0 fields L = true) (hm : m ≤ 1152921504606846976) (I : Nat → Nat → World → Prop)
  (round : ∀ (i kk : Nat) (codes : List Code) (s : Nat → Value) (w : World) (J' : Exit → (Nat → Value) → World → Prop), i < m → fields codes = true → S5 n (.slice a m cap) i kk s w → I i kk w → (∀ s' w' kk', S5 n (.slice a m cap) i kk' s' w' → I (i + 1) kk' w' → J' .normal s' w') → WL P n codes s w J')
  (h5 : S5 n (.slice a m cap) 0 kk s w) (hI : I 0 kk w) (hK : ∀ s' w' kk', S5 n (.slice a m cap) m kk' s' w' → I m kk' w' → WL P n K s' w' J) : WL P n (.block b0 (.loop L) :: K) s w J := by
 unfold slLoop at h
 split at h
 rotate_left
 ·cases h
 rename_i ic rc t b0' b1 B ii ri hL
 simp only [Bool.and_eq_true, beq_iff_eq] at h
 obtain ⟨⟨⟨rfl, h1⟩, h2⟩, h3⟩ := h
 refine W.block (W.loop (fun mm s w => ∃ i kk, mm = m - i ∧ i ≤ m ∧ S5 n (.slice a m cap) i kk s w ∧ I i kk w) (m := m) ⟨0, kk, rfl, Nat.zero_le _, h5, hI⟩ (fun mm s w hh => ?_))
 obtain ⟨i, kk, rfl, him, g5, gI⟩ := hh
 refine WL.code ?_
 rw [hL]
 refine head_ok hA h1 g5 (fun s1 q5 qt => ?_)
 refine W.cond qt ?_
 by_cases hlt : i < m
 ·rw [decide_eq_true hlt]
  refine W.skip ?_
  show WL P n _ s1 w _
  refine W.block ?_
  refine WL.code ?_
  refine round i kk (flatC B) s1 w _ hlt h2 q5 gI (fun s2 w2 kk2 r5 rI => ?_)
  show WL P n _ s2 w2 _
  refine next_ok hA h3 (by omega) r5 (fun s3 t5 => ?_)
  exact ⟨m - (i + 1), by omega, i + 1, kk2, rfl, hlt, t5, rI⟩
 ·rw [decide_eq_false hlt]
  refine W.exit ?_
  obtain rfl : i = m := by omega
  show (if b0' = b0' then _ else _)
  rw [if_pos rfl]
  exact hK s1 w kk q5 gI
theorem slFn_ok {f : Nat} {fn : Func} {code : Code} {fields : List Code → Bool} {B : Ending → World → Prop} (hA : Agree P c) (hf : P.funcs[f]? = some fn) (hb : fn.body = some code) (hr : fn.results = #[.tmp 4]) (hn : fn.ntmps = n) (h : slFn c n fields code = true) (hm : m ≤ 1152921504606846976) (I : Nat → Nat → World → Prop) (hg : globOk w)
  (round : ∀ (i kk : Nat) (codes : List Code) (s : Nat → Value) (w : World) (J' : Exit → (Nat → Value) → World → Prop), i < m → fields codes = true → S5 n (.slice a m cap) i kk s w → I i kk w → (∀ s' w' kk', S5 n (.slice a m cap) i kk' s' w' → I (i + 1) kk' w' → J' .normal s' w') → WL P n codes s w J')
  (hI : I 0 kk w) (hK : ∀ kk' w', I m kk' w' → B (.returned (.int .i64 (kk' : Int))) w') : Calls P f #[.slice a m cap, .int .i64 (kk : Int)] w B := by
 unfold slFn at h
 split at h
 rotate_left
 ·cases h
 rename_i i0 r0 i1 r1 b0 L i3 r3 hcode
 simp only [Bool.and_eq_true] at h
 obtain ⟨⟨⟨h0, h1⟩, h2⟩, h3⟩ := h
 have hn4 : 5 < n := by
  unfold isZero at h1
  split at h1
  ·rw [Bool.and_eq_true, decide_eq_true_eq] at h1; exact h1.2
  ·cases h1
 refine calls_W hf hb hr (by rw [hn]; show 2 ≤ n; omega) ?_
 rw [hn]
 refine WL.code ?_
 rw [hcode]
 refine zero_ok h0 (fun q4 => ?_)
 refine zero_ok h1 (fun q5 => ?_)
 refine loop_ok hA h2 hm I round (kk := kk) ⟨?_, ?_, ?_, ?_, hg⟩ hI (fun s' w' kk' r5 rI => ?_)
 ·rw [upd_ne (by decide), upd_ne (by decide)]; rfl
 ·rw [upd_ne (by decide), upd_ne (by decide)]; rfl
 ·rw [upd_same]; rfl
 ·refine undef_upd (undef_upd (fun t ht => ?_) q4 _) q5 _
  show (#[_, _] : Array Value).getD t undef = undef
  rw [Array.getD_eq_getD_getElem?, Array.getElem?_eq_none (by show 2 ≤ t; omega)]
  rfl
 ·refine out_ok h3 r5 (fun s2 q => ?_)
  refine W.ret ?_
  show B (.returned (s2 4)) w'
  rw [q]
  exact hK kk' w' rI
end
section
variable {P : Program} {c : Cfg} {mt : Nat → List UInt8} {mtF : Nat} {subs : List (Nat × Kd)} {ks : List Kd}
theorem mark_sl {f : Nat} {fn : Func} {code : Code} (hA : Agree P c) (htx : TextOk P mt mtF) (hsub : ∀ p ∈ subs, MarkOk P mt p.1 p.2) (hf : P.funcs[f]? = some fn) (hb : fn.body = some code) (hr : fn.results = #[.tmp 4]) (hname : (fn.name == "runtime.NumGoroutine") = false)
  (h : slFn c fn.ntmps (mFields c mtF fn.ntmps ks.length subs ks 0) code = true) : MarkOk P mt f (.sl ks) := by
 refine ⟨⟨fn, hf, by rw [hb]; rfl, hname⟩, fun T x n k0 w hg hT hMT hB => ?_⟩
 cases hMT with
 | leaf _ _ _ _ h _ => exact h.elim
 | nil _ a cap _ _ =>
  refine slFn_ok hA hf hb hr rfl h (by omega) (fun i kk w' => i = 0 ∧ kk = k0 ∧ w' = w) hg (fun i kk codes s w J' hi => absurd hi (Nat.not_lt_zero _)) ⟨rfl, rfl, rfl⟩ (fun kk' w' hI => ?_)
  obtain ⟨_, rfl, rfl⟩ := hI
  exact ⟨rfl, Mod.refl _, .nil ks a cap _ T⟩
 | sl _ k o m cap _ cur ty N Ts _ h0 hm hbk hsz hc hd hk hTk hTs =>
  refine slFn_ok hA hf hb hr rfl h hm (fun i kk w' => kk = k0 + sumN N (i * ks.length) ∧ i ≤ m ∧ ∃ cur', SlInv mt w w' ks k o m cur' ty N Ts k0 (i * ks.length)) hg (fun i kk codes s w' J' hi hfl h5 hI hJ => ?_) ?_ (fun kk' w' hI => ?_)
  ·obtain ⟨rfl, hle, cur', hS⟩ := hI
   refine mFields_ok (w0 := w) (J := J') hA htx hsub hB (hT k hTk).1 (fun p b hb => (hT b (hTs p b hb)).1) hi ks 0 codes s w' cur' rfl hfl (by rw [Nat.add_zero]; exact h5) (by rw [Nat.add_zero]; exact hS) (fun s2 w2 cur2 q5 qS => hJ s2 w2 _ q5 ⟨rfl, hi, cur2, qS⟩) (Nat.zero_le _)
  ·refine ⟨by simp [sumN], Nat.zero_le _, cur, hbk, hsz, fun q kd v h1 => ?_, fun q kd v _ h1 h2 h3 => (hc q kd v h1 h2 h3).start 0, Mod.refl w, hd, hk, fun p x hx => (hT x (hTs p x hx)).2⟩
   rw [Nat.zero_mul] at h1
   exact absurd h1 (Nat.not_lt_zero _)
  ·obtain ⟨rfl, _, cur', hS⟩ := hI
   refine ⟨rfl, hS.mod.mono (fun b hb => ?_), ?_⟩
   ·rcases hb with rfl | ⟨q, hq⟩
    ·exact hTk
    ·exact hTs q b hq
   ·exact .sl ks k o m cap k0 cur' ty N Ts T h0 hm hS.hb hS.hsz (fun p kd v hp h1 h2 => hS.done p kd v hp hp h1 h2) hd hk hTk hTs
theorem held_sl {f : Nat} {fn : Func} {code : Code} (hmx : P.follows .mixedOrders = true) (hA : Agree P c) (htx : TextOk P mt mtF) (hsub : ∀ p ∈ subs, HeldOk P mt p.1 p.2) (hf : P.funcs[f]? = some fn) (hb : fn.body = some code) (hr : fn.results = #[.tmp 4]) (hname : (fn.name == "runtime.NumGoroutine") = false)
  (h : slFn c fn.ntmps (hFields c mtF fn.ntmps ks.length subs ks 0) code = true) : HeldOk P mt f (.sl ks) := by
 refine ⟨⟨fn, hf, by rw [hb]; rfl, hname⟩, fun T x n k0 w hg hT hMT hB => ?_⟩
 cases hMT with
 | leaf _ _ _ _ h _ => exact h.elim
 | nil _ a cap _ _ =>
  refine slFn_ok hA hf hb hr rfl h (by omega) (fun i kk w' => i = 0 ∧ kk = k0 ∧ w' = w) hg (fun i kk codes s w J' hi => absurd hi (Nat.not_lt_zero _)) ⟨rfl, rfl, rfl⟩ (fun kk' w' hI => ?_)
  obtain ⟨_, rfl, rfl⟩ := hI
  exact ⟨rfl, Kept.refl _⟩
 | sl _ k o m cap _ cur ty N Ts _ h0 hm hbk hsz hc hd hk hTk hTs =>
  refine slFn_ok hA hf hb hr rfl h hm (fun i kk w' => kk = k0 + sumN N (i * ks.length) ∧ i ≤ m ∧ Kept w w') hg (fun i kk codes s w' J' hi hfl h5 hI hJ => ?_) ?_ (fun kk' w' hI => ?_)
  ·obtain ⟨rfl, hle, hS⟩ := hI
   refine hFields_ok (w0 := w) (J := J') (Ts := Ts) (ty := ty) (cur := cur) hmx hA htx hsub hB hi hbk hsz (fun p b hb => hT b (hTs p b hb)) hc ks 0 codes s w' rfl hfl (by rw [Nat.add_zero]; exact h5) hS (fun s2 w2 q5 qS => hJ s2 w2 _ q5 ⟨rfl, hi, qS⟩) (Nat.zero_le _)
  ·exact ⟨by simp [sumN], Nat.zero_le _, Kept.refl w⟩
  ·obtain ⟨rfl, _, hS⟩ := hI
   exact ⟨rfl, hS⟩
end
end Go.Am
end
section
set_option linter.unusedVariables false
set_option linter.unusedSimpArgs false
namespace Go.Am
open Go Go.RowKit
def MA (mt : Nat → List UInt8) (mk : Bool) (w : World) : List (Nat × List Kd) → Array Value → Nat → Nat → (Nat → Prop) → Prop
 | [], _, _, n, _ => n = 0
 | (j, ks) :: fs, cs, k0, n, T => ∃ (v : Value) (n1 n2 : Nat) (T1 T2 : Nat → Prop), cs[j]? = some v ∧ MT mt mk w (.sl ks) v k0 n1 T1 ∧ MA mt mk w fs cs (k0 + n1) n2 T2 ∧ n = n1 + n2 ∧ (∀ b, T1 b → T b) ∧ (∀ b, T2 b → T b) ∧ ∀ b, T1 b → T2 b → False
section
variable {mt : Nat → List UInt8} {mk : Bool} {w w' : World}
theorem MA.mono : ∀ {fs : List (Nat × List Kd)} {cs : Array Value} {k0 n : Nat} {T : Nat → Prop}, MA mt mk w fs cs k0 n T → (∀ b, T b → w'.heap[b]? = w.heap[b]?) → MA mt mk w' fs cs k0 n T := by
 intro fs
 induction fs with
 | nil => intro cs k0 n T h _; exact h
 | cons p fs ih =>
  intro cs k0 n T h hw
  obtain ⟨v, n1, n2, T1, T2, h1, h2, h3, h4, h5, h6, h7⟩ := h
  exact ⟨v, n1, n2, T1, T2, h1, h2.mono (fun b hb => hw b (h5 b hb)), ih h3 (fun b hb => hw b (h6 b hb)), h4, h5, h6, h7⟩
theorem MA.weaken : ∀ {fs : List (Nat × List Kd)} {cs : Array Value} {k0 n : Nat} {T T' : Nat → Prop}, MA mt mk w fs cs k0 n T → (∀ b, T b → T' b) → MA mt mk w fs cs k0 n T' := by
 intro fs
 cases fs with
 | nil => intro cs k0 n T T' h _; exact h
 | cons p fs =>
  intro cs k0 n T T' h hw
  obtain ⟨v, n1, n2, T1, T2, h1, h2, h3, h4, h5, h6, h7⟩ := h
  exact ⟨v, n1, n2, T1, T2, h1, h2, h3, h4, fun b hb => hw b (h5 b hb), fun b hb => hw b (h6 b hb), h7⟩
theorem MA.start : ∀ {fs : List (Nat × List Kd)} {cs : Array Value} {k0 n : Nat} {T : Nat → Prop}, MA mt false w fs cs k0 n T → ∀ k1, MA mt false w fs cs k1 n T := by
 intro fs
 induction fs with
 | nil => intro cs k0 n T h _; exact h
 | cons p fs ih =>
  intro cs k0 n T h k1
  obtain ⟨v, n1, n2, T1, T2, h1, h2, h3, h4, h5, h6, h7⟩ := h
  exact ⟨v, n1, n2, T1, T2, h1, h2.start _, ih h3 _, h4, h5, h6, h7⟩
theorem MA.split : ∀ {f1 f2 : List (Nat × List Kd)} {cs : Array Value} {k0 n : Nat} {T : Nat → Prop}, MA mt mk w (f1 ++ f2) cs k0 n T → ∃ n1 n2 T1 T2, MA mt mk w f1 cs k0 n1 T1 ∧ MA mt mk w f2 cs (k0 + n1) n2 T2 ∧ n = n1 + n2 ∧ (∀ b, T1 b → T b) ∧ (∀ b, T2 b → T b) ∧ ∀ b, T1 b → T2 b → False := by
 intro f1
 induction f1 with
 | nil => intro f2 cs k0 n T h; exact ⟨0, n, fun _ => False, T, rfl, h, (Nat.zero_add n).symm, fun _ h => h.elim, fun _ h => h, fun _ h => h.elim⟩
 | cons p f1 ih =>
  intro f2 cs k0 n T h
  obtain ⟨v, n1, n2, T1, T2, h1, h2, h3, h4, h5, h6, h7⟩ := h
  obtain ⟨m1, m2, U1, U2, g1, g2, g3, g4, g5, g6⟩ := ih h3
  refine ⟨n1 + m1, m2, fun b => T1 b ∨ U1 b, U2, ⟨v, n1, m1, T1, U1, h1, h2, g1, rfl, fun b h => .inl h, fun b h => .inr h, fun b hb hb' => h7 b hb (g4 b hb')⟩, by rw [← Nat.add_assoc]; exact g2, by omega, fun b h => h.elim (h5 b) (fun h => h6 b (g4 b h)), fun b h => h6 b (g5 b h), fun b h h' => ?_⟩
  rcases h with h | h
  ·exact h7 b h (g5 b h')
  ·exact g6 b h h'
theorem MA.join : ∀ {f1 f2 : List (Nat × List Kd)} {cs : Array Value} {k0 n1 n2 : Nat} {T1 T2 T : Nat → Prop}, MA mt mk w f1 cs k0 n1 T1 → MA mt mk w f2 cs (k0 + n1) n2 T2 → (∀ b, T1 b → T b) → (∀ b, T2 b → T b) → (∀ b, T1 b → T2 b → False) → MA mt mk w (f1 ++ f2) cs k0 (n1 + n2) T := by
 intro f1
 induction f1 with
 | nil =>
  intro f2 cs k0 n1 n2 T1 T2 T h1 h2 h3 h4 h5
  have h1 : n1 = 0 := h1
  subst h1
  rw [Nat.zero_add]
  exact MA.weaken h2 h4
 | cons p f1 ih =>
  intro f2 cs k0 n1 n2 T1 T2 T h1 h2 h3 h4 h5
  obtain ⟨v, m1, m2, U1, U2, g1, g2, g3, g4, g5, g6, g7⟩ := h1
  subst g4
  refine ⟨v, m1, m2 + n2, U1, fun b => U2 b ∨ T2 b, g1, g2, ih g3 (by rw [Nat.add_assoc]; exact h2) (fun b h => .inl h) (fun b h => .inr h) (fun b h h' => h5 b (g6 b h) h'), by omega, fun b h => h3 b (g5 b h), fun b h => h.elim (fun h => h3 b (g6 b h)) (h4 b), fun b h h' => ?_⟩
  rcases h' with h' | h'
  ·exact g7 b h h'
  ·exact h5 b (g5 b h) h'
def shiftF (j : Nat) (fs : List (Nat × List Kd)) : List (Nat × List Kd) := fs.map fun p => (j + p.1, p.2)
theorem ext_get {cs : Array Value} {j sz i : Nat} (hi : i < sz) (hj : j + sz ≤ cs.size) : (cs.extract j (j + sz))[i]? = cs[j + i]? := by
 rw [Array.getElem?_extract, if_pos (by omega)]
theorem MA.into : ∀ {fs : List (Nat × List Kd)} {cs : Array Value} {j sz k0 n : Nat} {T : Nat → Prop}, MA mt mk w (shiftF j fs) cs k0 n T → (∀ p ∈ fs, p.1 < sz) → j + sz ≤ cs.size → MA mt mk w fs (cs.extract j (j + sz)) k0 n T := by
 intro fs
 induction fs with
 | nil => intro cs j sz k0 n T h _ _; exact h
 | cons p fs ih =>
  intro cs j sz k0 n T h hl hj
  obtain ⟨v, n1, n2, T1, T2, h1, h2, h3, h4, h5, h6, h7⟩ := h
  exact ⟨v, n1, n2, T1, T2, by rw [ext_get (hl p (by simp)) hj]; exact h1, h2, ih h3 (fun q hq => hl q (by simp [hq])) hj, h4, h5, h6, h7⟩
end
def MarkAOk (P : Program) (mt : Nat → List UInt8) (f sz : Nat) (fs : List (Nat × List Kd)) : Prop := Known P f ∧ ∀ (T : Nat → Prop) (cs : Array Value) (n k0 : Nat) (w : World), globOk w → (∀ b, T b → globN ≤ b ∧ b < w.heap.size) → cs.size = sz → MA mt false w fs cs 0 n T → k0 + n ≤ 1152921504606846976 →
 Calls P f #[.agg cs, .int .i64 (k0 : Int)] w fun e w' => e = .returned (.int .i64 ((k0 + n : Nat) : Int)) ∧ Mod T w w' ∧ MA mt true w' fs cs k0 n T
def HeldAOk (P : Program) (mt : Nat → List UInt8) (f sz : Nat) (fs : List (Nat × List Kd)) : Prop := Known P f ∧ ∀ (T : Nat → Prop) (cs : Array Value) (n k0 : Nat) (w : World), globOk w → (∀ b, T b → b < w.heap.size) → cs.size = sz → MA mt true w fs cs k0 n T → k0 + n ≤ 1152921504606846976 →
 Calls P f #[.agg cs, .int .i64 (k0 : Int)] w fun e w' => e = .returned (.int .i64 ((k0 + n : Nat) : Int)) ∧ Kept w w'
inductive PV where
  | un
  | bp (j : Nat)
  | ct
  | ld (j sz : Nat) (agg : Bool)
  deriving DecidableEq
def pget : List (Nat × PV) → Nat → PV
 | [], _ => .un
 | (d, v) :: r, t => if d = t then v else pget r t
def PR (b kk : Nat) (cs : Array Value) : PV → Value → Prop
 | .un, _ => True
 | .bp j, x => x = .pointer (some ⟨b, j, none⟩)
 | .ct, x => x = .int .i64 (kk : Int)
 | .ld j m agg, x => x = if agg then .agg (cs.extract j (j + m)) else cs.getD j undef
def PE (b kk : Nat) (cs : Array Value) (e : List (Nat × PV)) (s : Nat → Value) : Prop := ∀ t, PR b kk cs (pget e t) (s t)
section
variable {P : Program} {c : Cfg} {n d b kk sz : Nat} {s : Nat → Value} {w w' : World} {o : Oper} {cs : Array Value} {e : List (Nat × PV)} {bt : TypeId} {ops : Array Oper}
theorem PE.put {v : PV} {x : Value} (h : PE b kk cs e s) (hx : PR b kk cs v x) : PE b kk cs ((d, v) :: e) (upd s d x) := by
 intro t
 rw [pget]
 split
 ·rename_i hd; subst hd; rw [upd_same]; exact hx
 ·rename_i hd; rw [upd_ne (fun e => hd e.symm)]; exact h t
structure S2 (n b kk : Nat) (cs : Array Value) (bt : TypeId) (s : Nat → Value) (w : World) : Prop where
  s1 : s 1 = .int .i64 (kk : Int)
  s2 : s 2 = .pointer (some ⟨b, 0, none⟩)
  un : ∀ t, n ≤ t → s t = undef
  g : globOk w
  hb : w.heap[b]? = some (.cells cs bt (0, 0))
end
structure FnA where
  f : Nat
  sz : Nat
  fs : List (Nat × List Kd)
section
variable {P : Program} {c : Cfg} {mt : Nat → List UInt8} {n d b kk sz : Nat} {s : Nat → Value} {w w' : World} {o : Oper} {cs : Array Value} {bt : TypeId} {subs : List (Nat × List Kd)} {asubs : List FnA}
theorem MA.one {mk : Bool} {j : Nat} {ks : List Kd} {k0 nn : Nat} {T : Nat → Prop} (h : MA mt mk w [(j, ks)] cs k0 nn T) : ∃ v, cs[j]? = some v ∧ MT mt mk w (.sl ks) v k0 nn T := by
 obtain ⟨v, n1, n2, T1, T2, h1, h2, h3, h4, h5, h6, h7⟩ := h
 have h3 : n2 = 0 := h3
 subst h3; subst h4
 exact ⟨v, h1, h2.weaken h5⟩
end
end Go.Am
end
section
set_option linter.unusedVariables false
set_option linter.unusedSimpArgs false
namespace Go.Am
open Go Go.RowKit
section
variable {P : Program} {c : Cfg} {mt : Nat → List UInt8} {n d b kk sz : Nat} {s : Nat → Value} {w w' : World} {o : Oper} {cs : Array Value} {bt : TypeId} {subs : List (Nat × List Kd)} {asubs : List FnA}
end
end Go.Am
end
section
set_option linter.unusedVariables false
set_option linter.unusedSimpArgs false
namespace Go.Am
open Go Go.RowKit
inductive VK : V → Kd → Nat → Prop
  | str (s : List UInt8) : VK (.str s) .str 1
  | int (n : Int) : VK (.int .i64 n) .int 1
  | bool (b : Bool) : VK (.bool b) .bool 1
  | sl (s : Nat) (f : Bool) (xs : List V) (ks : List Kd) (N : Nat → Nat) (hs : s = ks.length) (hp : 0 < ks.length) (hm : xs.length ≤ 1152921504606846976)
      (h : ∀ (i : Nat) (x : V) (j : Nat) (c : V) (kd : Kd), xs[i]? = some x → x.cells[j]? = some c → ks[j]? = some kd → VK c kd (N (i * ks.length + j))) : VK (.sl s f xs) (.sl ks) (sumN N (xs.length * ks.length))
theorem cell_block {w : World} {k o : Nat} {v : Value} {cur : Array Value} {e : TypeId} (h : w.cell? ⟨k, o, none⟩ = some v) (hb : w.heap[k]? = some (.cells cur e (0, 0))) : cur[o]? = some v := by
 rw [World.cell?, hb] at h
 exact h
theorem divmod_lt {p m s : Nat} (h : p < m * s) : p / s < m ∧ p % s < s ∧ p / s * s + p % s = p := by
 have hs : 0 < s := by
  rcases Nat.eq_zero_or_pos s with e | e
  ·rw [e, Nat.mul_zero] at h; omega
  ·exact e
 exact ⟨Nat.div_lt_of_lt_mul (by rw [Nat.mul_comm]; exact h), Nat.mod_lt _ hs, Nat.div_add_mod' p s⟩
theorem mt_rows {mt : Nat → List UInt8} {w : World} {s : Nat} {xs : List V} {ks : List Kd} {N : Nat → Nat} {k o cap : Nat} {g : Nat → Nat → Value} {T : Nat → Nat → Nat → Prop} {T' : Nat → Prop} (hs : s = ks.length) (hp : 0 < ks.length) (hm : xs.length ≤ 1152921504606846976) (h0 : 0 < xs.length)
  (hsz : ∀ x ∈ xs, x.cells.length = s) (hg : ∀ i j : Nat, i < xs.length → j < s → w.cell? ⟨k, o + i * s + j, none⟩ = some (g i j)) (hb : ∃ cur e, w.heap[k]? = some (.cells cur e (0, 0)))
  (hr : ∀ (i : Nat) (x : V) (j : Nat) (c : V) (kd : Kd), xs[i]? = some x → x.cells[j]? = some c → ks[j]? = some kd → ∀ k0, MT mt false w kd (g i j) k0 (N (i * ks.length + j)) (T i j))
  (hd : ∀ i j i' j' m, T i j m → T i' j' m → i = i' ∧ j = j') (hk : ∀ i j, ¬ T i j k) (hTk : T' k) (hT : ∀ i j m, T i j m → T' m) (k0 : Nat) : MT mt false w (.sl ks) (.slice (some ⟨k, o, none⟩) xs.length cap) k0 (sumN N (xs.length * ks.length)) T' := by
 subst hs
 obtain ⟨cur, e, hb⟩ := hb
 have hfit : o + xs.length * ks.length ≤ cur.size := by
  have := cell_block (hg (xs.length - 1) (ks.length - 1) (by omega) (by omega)) hb
  have hlt := (Array.getElem?_eq_some_iff.1 this).1
  have e : (xs.length - 1) * ks.length + ks.length = xs.length * ks.length := by
   rw [← Nat.succ_mul]
   congr 1
   omega
  omega
 refine .sl ks k o xs.length cap k0 cur e N (fun p x => p < xs.length * ks.length ∧ T (p / ks.length) (p % ks.length) x) T' h0 hm hb hfit (fun p kd v hp' h1 h2 => ?_) (fun p p' x h1 h2 => ?_) (fun p h => hk _ _ h.2) hTk (fun p x h => hT _ _ x h.2)
 ·obtain ⟨d1, d2, d3⟩ := divmod_lt hp'
  have hx := List.getElem?_eq_getElem d1
  have hc := hsz _ (List.getElem_mem d1)
  have hcj : (xs[p / ks.length]).cells[p % ks.length]? = some _ := List.getElem?_eq_getElem (by rw [hc]; exact d2)
  have hv : g (p / ks.length) (p % ks.length) = v := by
   have := cell_block (hg _ _ d1 d2) hb
   rw [Nat.add_assoc, d3, h2] at this
   injection this with this
   exact this.symm
  have := hr _ _ _ _ kd hx hcj h1 (k0 + sumN N p)
  rw [d3, hv] at this
  exact this.weaken (fun b hb => ⟨hp', hb⟩)
 ·obtain ⟨e1, e2⟩ := hd _ _ _ _ x h1.2 h2.2
  rw [← (divmod_lt h1.1).2.2, ← (divmod_lt h2.1).2.2, e1, e2]
theorem mt_of {mt : Nat → List UInt8} {w : World} {v : V} {kd : Kd} {n : Nat} (hv : VK v kd n) : ∀ {S : Nat → Prop} {x : Value} {T : Nat → Prop}, Rd w S v x → Tr w v x T → (∀ b, T b → ∃ cur e, w.heap[b]? = some (.cells cur e (0, 0))) → ∀ k0, MT mt false w kd x k0 n T := by
 induction hv with
 | str s =>
  intro S x T hr ht hT k0
  cases hr with
  | str _ b _ => exact .leaf _ _ k0 T ⟨b, rfl⟩ (fun e => by cases e)
 | int n =>
  intro S x T hr ht hT k0
  cases hr with
  | int _ _ => exact .leaf _ _ k0 T ⟨n, rfl⟩ (fun e => by cases e)
 | bool b =>
  intro S x T hr ht hT k0
  cases hr with
  | bool _ => exact .leaf _ _ k0 T ⟨b, rfl⟩ (fun e => by cases e)
 | sl s f xs ks N hs hp hm h ih =>
  intro S x T hr ht hT k0
  cases hr with
  | empty _ _ a cap =>
   rw [show ([] : List V).length * ks.length = 0 from Nat.zero_mul _]
   exact .nil ks a cap k0 T
  | sl _ _ _ k o cap g hl hcap hS hsz hf hg hrr =>
   cases ht with
   | leaf _ _ _ h => exact h.elim
   | empty => exact absurd hl (Nat.lt_irrefl 0)
   | sl _ _ _ _ _ _ g' T1 _ hl' hg' hr' hd hk h0 hT' =>
    refine mt_rows (g := g') (T := T1) hs hp hm hl hsz hg' (hT k h0) (fun i x j c kd h1 h2 h3 => ?_) hd hk h0 hT' k0
    have hi : i < xs.length := (List.getElem?_eq_some_iff.1 h1).1
    have hj : j < s := by
     have := (List.getElem?_eq_some_iff.1 h2).1
     rwa [hsz x (List.mem_of_getElem? h1)] at this
    have e : g i j = g' i j := by
     have := (hg i j hi hj).1
     rw [hg' i j hi hj] at this
     injection this with this
     exact this.symm
    exact ih i x j c kd h1 h2 h3 (e ▸ hrr i x j c h1 h2) (hr' i x j c h1 h2) (fun b hb => hT b (hT' i j b hb))
theorem mt_own {mt : Nat → List UInt8} {Γ : Ctx} {w : World} {b s n : Nat} {q : Q} {f : Bool} {xs : List V} {ks : List Kd} {x : Value} (h : VR Γ w (.own b s q xs) x) (hq : q ≠ .any) (hk : VK (.sl s f xs) (.sl ks) n) (hU : Γ.U)
  (hb : ∀ b, Γ.has b → ¬ Γ.S (Γ.blk b) ∧ ∃ cur e, w.heap[Γ.blk b]? = some (.cells cur e (0, 0))) (hZ : ∀ k, Γ.Z k → ∃ cur e, w.heap[k]? = some (.cells cur e (0, 0))) (hN : ∀ b, Γ.has b → ∀ m, Γ.N b m → Γ.S m ∧ Γ.Z m) :
  ∀ k0, MT mt false w (.sl ks) x k0 n (fun m => Γ.has b ∧ (m = Γ.blk b ∨ Γ.N b m)) := by
 intro k0
 cases hk with
 | sl _ _ _ _ N hs hp hm hc =>
 cases h with
 | rd _ _ h => cases h
 | ownNil _ _ _ _ =>
  rw [show ([] : List V).length * ks.length = 0 from Nat.zero_mul _]
  exact .nil ks none 0 k0 _
 | own _ _ _ _ hb' hs' hl hr hfl hu =>
  by_cases h0 : xs.length = 0
  ·obtain rfl := List.length_eq_zero_iff.1 h0
   rw [show ([] : List V).length * ks.length = 0 from Nat.zero_mul _]
   exact .nil ks _ _ k0 _
  ·obtain ⟨r1, g, r2, r3⟩ := hr
   by_cases hqf : q = .flat
   ·refine mt_rows (g := g) (T := fun _ _ _ => False) hs hp hm (by omega) r1 (fun i j hi hj => (r2 i j hi hj).1) (hb b hb').2 (fun i x j c kd h1 h2 h3 k0 => ?_) (fun _ _ _ _ _ h => h.elim) (fun _ _ h => h) ⟨hb', .inl rfl⟩ (fun _ _ _ h => h.elim) k0
    have hn := hfl hqf x (List.mem_of_getElem? h1) c (List.mem_of_getElem? h2)
    exact mt_of (hc i x j c kd h1 h2 h3) (r3 i x j c h1 h2) (.leaf _ _ _ hn) (fun _ h => h.elim) k0
   ·have hqc : q = .clean := by
     cases q with
     | any => exact absurd rfl hq
     | flat => exact absurd rfl hqf
     | clean => rfl
    obtain ⟨g', T, u1, u2, u3, u4⟩ := hu hqc hU
    refine mt_rows (g := g') (T := T) hs hp hm (by omega) r1 u1 (hb b hb').2 (fun i x j c kd h1 h2 h3 k0 => ?_) u3 (fun i j h => (hb b hb').1 (u4 i j _ h).2) ⟨hb', .inl rfl⟩ (fun i j m h => ⟨hb', .inr (u4 i j m h).1⟩) k0
    have hi : i < xs.length := (List.getElem?_eq_some_iff.1 h1).1
    have hj : j < s := by
     have := (List.getElem?_eq_some_iff.1 h2).1
     rwa [r1 x (List.mem_of_getElem? h1)] at this
    have e : g i j = g' i j := by
     have := (r2 i j hi hj).1
     rw [u1 i j hi hj] at this
     injection this with this
     exact this.symm
    exact mt_of (hc i x j c kd h1 h2 h3) (e ▸ r3 i x j c h1 h2) (u2 i x j c h1 h2) (fun m hm => hZ m (hN b hb' m (u4 i j m hm).1).2) k0
inductive Hand (cl : Bool) : V → V → Prop
  | same (v : V) (h : noSl v) : Hand cl v v
  | own (b s : Nat) (q : Q) (f : Bool) (xs : List V) (hq : cl = true → q ≠ .any) (hf : f = true → ∀ x ∈ xs, ∀ c ∈ x.cells, noSl c) : Hand cl (.own b s q xs) (.sl s f xs)
  | nil (s : Nat) (f : Bool) : Hand cl .nil (.sl s f [])
  | sl (s : Nat) (f : Bool) (xs : List V) (hc : cl = false) : Hand cl (.sl s f xs) (.sl s f xs)
  | agg (cs cs' : List V) (hl : cs.length = cs'.length) (h : ∀ (i : Nat) (c c' : V), cs[i]? = some c → cs'[i]? = some c' → Hand cl c c') : Hand cl (.agg cs) (.agg cs')
theorem rd_hand {Γ : Ctx} {w : World} {cl : Bool} {r r' : V} {T : Nat → Prop} (hh : Hand cl r r') (hS : cl = false → ∀ k, Γ.S k → T k) (hZ : ∀ k, Γ.S k → Γ.Z k → T k) (hB : ∀ b, Γ.has b → T (Γ.blk b)) : ∀ {x : Value}, VR Γ w r x → Rd w T r' x := by
 have plain : ∀ {v : V} {x : Value}, noSl v → Rd w Γ.S v x → Rd w T v x := fun {v x} hn hr => by
  cases hr with
  | bool b => exact .bool b
  | int k n => exact .int k n
  | str s x h => exact .str s x h
  | nil => exact .nil
  | _ => exact hn.elim
 induction hh with
 | same v h =>
  intro x hv
  cases hv with
  | rd _ _ hr => exact plain h hr
  | _ => exact h.elim
 | own b s q f xs hq hf =>
  intro x hv
  cases hv with
  | rd _ _ hr => cases hr
  | ownNil => exact .empty s f none 0
  | own _ _ _ _ hb hs hl hr hfl hu =>
   by_cases h0 : xs.length = 0
   ·obtain rfl := List.length_eq_zero_iff.1 h0
    exact .empty s f _ _
   ·obtain ⟨r1, g, r2, r3⟩ := hr
    refine .sl s f xs _ _ _ g (by omega) hl.1 (hB b hb) r1 hf r2 (fun i x j c h1 h2 => (r3 i x j c h1 h2).mono (fun k hk => ?_) (fun _ _ _ => rfl))
    cases hc : cl with
    | false =>
     refine hS hc k ?_
     cases q with
     | any => exact hk
     | _ => exact hk.1
    | true =>
     have := hq hc
     cases q with
     | any => exact absurd rfl this
     | _ => exact hZ k hk.1 hk.2
 | nil s f =>
  intro x hv
  cases hv with
  | rd _ _ hr => cases hr; exact .empty s f none 0
 | sl s f xs hc =>
  intro x hv
  cases hv with
  | rd _ _ hr => exact hr.mono (hS hc) (fun _ _ _ => rfl)
 | agg cs cs' hl h ih =>
  intro x hv
  have go : ∀ vs : Array Value, cs.length = vs.size → (∀ (i : Nat) (c : V) (v : Value), cs[i]? = some c → vs[i]? = some v → VR Γ w c v) → Rd w T (.agg cs') (.agg vs) := fun vs hl' hr =>
   .agg cs' vs (hl.symm.trans hl') (fun i c v h1 h2 => by
    have hi : i < cs.length := by rw [hl]; exact (List.getElem?_eq_some_iff.1 h1).1
    exact ih i _ c (List.getElem?_eq_getElem hi) h1 (hr i _ v (List.getElem?_eq_getElem hi) h2))
  cases hv with
  | rd _ _ hr =>
   cases hr with
   | agg _ vs hl' hr => exact go vs hl' (fun i c v h1 h2 => .rd _ _ (hr i c v h1 h2))
  | agg _ vs hl' hr => exact go vs hl' hr
def OwnA (cs : List V) : List (Nat × List Kd) → List Nat → Nat → Prop
 | [], _, n => n = 0
 | (j, ks) :: fs, used, n => ∃ n1 n2, n = n1 + n2 ∧ ((∃ b s q f xs, cs[j]? = some (.own b s q xs) ∧ q ≠ .any ∧ b ∉ used ∧ VK (.sl s f xs) (.sl ks) n1 ∧ OwnA cs fs (b :: used) n2) ∨ (cs[j]? = some .nil ∧ n1 = 0 ∧ OwnA cs fs used n2))
theorem ma_own {mt : Nat → List UInt8} {Γ : Ctx} {w : World} {cs : List V} {vs : Array Value} (hl : cs.length = vs.size) (hv : ∀ (i : Nat) (c : V) (v : Value), cs[i]? = some c → vs[i]? = some v → VR Γ w c v) (hU : Γ.U)
  (hb : ∀ b, Γ.has b → ¬ Γ.S (Γ.blk b) ∧ ∃ cur e, w.heap[Γ.blk b]? = some (.cells cur e (0, 0))) (hZ : ∀ k, Γ.Z k → ∃ cur e, w.heap[k]? = some (.cells cur e (0, 0))) (hN : ∀ b, Γ.has b → ∀ m, Γ.N b m → Γ.S m ∧ Γ.Z m)
  (hinj : ∀ b b', Γ.has b → Γ.has b' → Γ.blk b = Γ.blk b' → b = b') (hdis : ∀ b b', Γ.has b → Γ.has b' → b ≠ b' → ∀ m, Γ.N b m → Γ.N b' m → False) :
  ∀ (fs : List (Nat × List Kd)) (used : List Nat) (n k0 : Nat), OwnA cs fs used n → MA mt false w fs vs k0 n (fun m => ∃ b, b ∉ used ∧ Γ.has b ∧ (m = Γ.blk b ∨ Γ.N b m))
 | [], used, n, k0, h => h
 | (j, ks) :: fs, used, n, k0, h => by
  obtain ⟨n1, n2, e, h⟩ := h
  have at_ : ∀ {c : V}, cs[j]? = some c → ∃ v, vs[j]? = some v := fun hc => by
   have := (List.getElem?_eq_some_iff.1 hc).1
   exact ⟨_, Array.getElem?_eq_getElem (by omega)⟩
  rcases h with ⟨b, s, q, f, xs, h1, h2, h3, h4, h5⟩ | ⟨h1, h2, h5⟩
  ·obtain ⟨v, hvj⟩ := at_ h1
   refine ⟨v, n1, n2, _, _, hvj, mt_own (hv j _ v h1 hvj) h2 h4 hU hb hZ hN k0, ma_own hl hv hU hb hZ hN hinj hdis fs (b :: used) n2 (k0 + n1) h5, e, ?_, ?_, ?_⟩
   ·exact fun m hm => ⟨b, h3, hm.1, hm.2⟩
   ·rintro m ⟨b', g1, g2, g3⟩
    exact ⟨b', fun e => g1 (List.mem_cons_of_mem _ e), g2, g3⟩
   ·rintro m ⟨g1, g2⟩ ⟨b', g3, g4, g5⟩
    have hne : b ≠ b' := fun e => g3 (e ▸ List.mem_cons_self)
    rcases g2 with rfl | g2
    ·rcases g5 with g5 | g5
     ·exact hne (hinj b b' g1 g4 g5)
     ·exact (hb b g1).1 (hN b' g4 _ g5).1
    ·rcases g5 with rfl | g5
     ·exact (hb b' g4).1 (hN b g1 _ g2).1
     ·exact hdis b b' g1 g4 hne m g2 g5
  ·obtain ⟨v, hvj⟩ := at_ h1
   have hnil : v = .slice none 0 0 := by
    cases hv j _ v h1 hvj with
    | rd _ _ hr => cases hr; rfl
   subst hnil
   subst h2
   refine ⟨_, 0, n2, fun _ => False, _, hvj, .nil ks none 0 k0 _, ma_own hl hv hU hb hZ hN hinj hdis fs used n2 (k0 + 0) h5, e, fun _ h => h.elim, fun _ h => h, fun _ h _ => h⟩
inductive Shp where
  | s (ks : List Kd)
  | a (sz : Nat) (fs : List (Nat × List Kd))
def Shp.tree (mt : Nat → List UInt8) (mk : Bool) (w : World) (x : Value) (k0 n : Nat) (T : Nat → Prop) : Shp → Prop
 | .s ks => MT mt mk w (.sl ks) x k0 n T
 | .a sz fs => ∃ cs : Array Value, x = .agg cs ∧ cs.size = sz ∧ MA mt mk w fs cs k0 n T
def Shp.own (r : V) (n : Nat) : Shp → Prop
 | .s ks => (∃ b s q f xs, r = .own b s q xs ∧ q ≠ .any ∧ VK (.sl s f xs) (.sl ks) n) ∨ (r = .nil ∧ n = 0)
 | .a sz fs => ∃ cs : List V, r = .agg cs ∧ cs.length = sz ∧ OwnA cs fs [] n
def Shp.MarkOk (P : Program) (mt : Nat → List UInt8) (f : Nat) : Shp → Prop
 | .s ks => Am.MarkOk P mt f (.sl ks)
 | .a sz fs => MarkAOk P mt f sz fs
def Shp.HeldOk (P : Program) (mt : Nat → List UInt8) (f : Nat) : Shp → Prop
 | .s ks => Am.HeldOk P mt f (.sl ks)
 | .a sz fs => HeldAOk P mt f sz fs
end Go.Am
end
section
set_option linter.unusedVariables false
set_option linter.unusedSimpArgs false
namespace Go.Am
open Go Go.RowKit
inductive LV where
  | un
  | kb (b : Bool)
  | ki (n : Int)
  | zi (i : Nat)
  | lt0 (i : Nat)
  | gt (i : Nat) (m : Int)
  | ct (l : List Nat)
  | v (j : Nat)
  | bx (j : Nat)
  | fb (t : Nat)
  | tp (js : List Nat)
  deriving DecidableEq
def lget : List (Nat × LV) → Nat → LV
 | [], _ => .un
 | (d, v) :: r, t => if d = t then v else lget r t
inductive LC where
  | sz (f j : Nat) (a : LV) (i : Nat)
  | len (j i : Nat) (str : Bool)
  | low (i : Nat)
  | big (i : Nat) (m : Int)
  | mk (f : Nat) (js : List Nat) (sh : Bool) (i : Nat)
  | mks (f : Nat) (js : List Nat) (sh : Bool) (ts : List Bool) (i : Nat)
  | tt (f : Nat) (js : List Nat)
  | mark (f j : Nat) (l : List Nat)
  | held (f j : Nat) (l : List Nat)
  | same (i j k : Nat)
  deriving DecidableEq
inductive LT where
  | ar
  | sh
  | nw
  | tr
  | mk (l : List Nat)
  | dd
  deriving DecidableEq
structure LE where
  grp : Nat
  st : LT
def LT.reads : LT → Bool
 | .ar => true
 | .sh => true
 | .nw => true
 | _ => false
def LT.whole : LT → Bool
 | .nw => true
 | .tr => true
 | _ => false
structure LX where
  P : Program
  D : Nat → List V → Option V
  mt : Nat → List UInt8
  Vh : Nat → V
  Vo : Nat → V
  nn : Nat → Nat
  shp : Nat → Shp
  ag : List (Option Nat)
  Z : Nat → Int
  R : Nat → Prop
  w0 : World
def LX.ctv (X : LX) (l : List Nat) : Nat := 1 + (l.map X.nn).sum
structure LM where
  x : Value
  lo : Nat
  hi : Nat
  T : Nat → Prop
def nofr (fr : Option (Nat × Nat)) (k : Nat) : Prop := ∀ b ty, fr = some (b, ty) → k ≠ b
def LX.stIs (X : LX) (fr : Option (Nat × Nat)) (w : World) (j : Nat) (t : LM) : LT → Prop
 | .ar => Rd w X.R (X.Vh j) t.x
 | .sh => Rd w (fun k => k < t.hi ∧ nofr fr k) (X.Vh j) t.x
 | .nw => Rd w (fun k => t.lo ≤ k ∧ k < t.hi) (X.Vh j) t.x ∧ (X.shp j).tree X.mt false w t.x 0 (X.nn j) t.T
 | .tr => (X.shp j).tree X.mt false w t.x 0 (X.nn j) t.T
 | .mk l => (X.shp j).tree X.mt true w t.x (X.ctv l) (X.nn j) t.T
 | .dd => True
structure LX.Ent (X : LX) (fr : Option (Nat × Nat)) (w : World) (j : Nat) (e : LE) (t : LM) : Prop where
  agx : ∀ n, X.ag[j]? = some (some n) → ∃ vs : Array Value, t.x = .agg vs ∧ vs.size = n ∧ ∀ u ∈ vs.toList, u.oneCell' = true
  hi : t.hi ≤ w.heap.size
  low : ∀ b, t.T b → X.w0.heap.size ≤ t.lo ∧ t.lo ≤ b ∧ b < t.hi
  st : X.stIs fr w j t e.st
  sh : e.st ≠ .ar → X.w0.heap.size ≤ t.lo
structure LX.Inv (X : LX) (tb : List LE) (tv : List LM) (bl : List (Nat × Nat)) (fr : Option (Nat × Nat)) (w : World) : Prop where
  R : ∀ k, X.R k → k < X.w0.heap.size
  g0 : globOk X.w0
  base : Mod (fun k => X.w0.heap.size ≤ k) X.w0 w
  len : tv.length = tb.length
  ent : ∀ (j : Nat) (e : LE) (t : LM), tb[j]? = some e → tv[j]? = some t → X.Ent fr w j e t
  ord : ∀ (i j : Nat) (ei ej : LE) (ti tj : LM), tb[i]? = some ei → tb[j]? = some ej → tv[i]? = some ti → tv[j]? = some tj → ei.grp < ej.grp → ti.hi ≤ tj.lo
  dis : ∀ (i j : Nat) (ei ej : LE) (ti tj : LM), tb[i]? = some ei → tb[j]? = some ej → tv[i]? = some ti → tv[j]? = some tj → ei.grp = ej.grp → i ≠ j → ∀ b, ti.T b → tj.T b → False
  grp : ∀ e ∈ tb, e.grp ≤ tb.length
  boxes : ∀ p ∈ bl, ∃ (t : LM) (cs : Array Value) (bt : TypeId), tv[p.2]? = some t ∧ t.x = .agg cs ∧ w.heap[p.1]? = some (.cells cs bt (0, 0)) ∧ X.w0.heap.size ≤ p.1 ∧ ∀ t ∈ tv, p.1 < t.lo ∨ t.hi ≤ p.1
  fresh : ∀ b ty, fr = some (b, ty) → ∃ (cur : Array Value) (bt : TypeId) (ti : TypeInfo), w.heap[b]? = some (.cells cur bt (0, 0)) ∧ X.P.info? ty = some ti ∧ cur.size = ti.size ∧ X.w0.heap.size ≤ b ∧ (∀ t ∈ tv, b < t.lo ∨ t.hi ≤ b) ∧ ∀ p ∈ bl, p.1 ≠ b
section
variable {X : LX} {tb : List LE} {tv : List LM} {bl : List (Nat × Nat)} {fr : Option (Nat × Nat)} {w w' : World} {j : Nat} {e : LE} {t : LM}
theorem Shp.tree_mono {s : Shp} {mt : Nat → List UInt8} {mk : Bool} {x : Value} {k0 n : Nat} {T : Nat → Prop} (h : s.tree mt mk w x k0 n T) (hw : ∀ b, T b → w'.heap[b]? = w.heap[b]?) : s.tree mt mk w' x k0 n T := by
 cases s with
 | s ks => exact MT.mono h hw
 | a sz fs => obtain ⟨cs, h1, h2, h3⟩ := h; exact ⟨cs, h1, h2, h3.mono hw⟩
theorem LX.Inv.size (h : X.Inv tb tv bl fr w) : X.w0.heap.size ≤ w.heap.size := h.base.size
theorem LX.Inv.glob (h : X.Inv tb tv bl fr w) : globOk w := h.base.glob (fun k hk => Nat.le_trans h.g0.2 hk) h.g0
theorem cell_heap {w w' : World} {k o : Nat} (h : w'.heap[k]? = w.heap[k]?) : w'.cell? ⟨k, o, none⟩ = w.cell? ⟨k, o, none⟩ := by simp only [World.cell?, h]
theorem LX.Inv.grow (h : X.Inv tb tv bl fr w) (hk : Kept w w') : X.Inv tb tv bl fr w' := by
 have hold : ∀ b, b < w.heap.size → w'.heap[b]? = w.heap[b]? := hk.2.2.2.2
 have hs := h.size
 refine ⟨h.R, h.g0, h.base.trans (Mod.of_kept hk), h.len, fun j e t h1 h2 => ?_, h.ord, h.dis, h.grp, fun p hp => ?_, fun b ty hb => ?_⟩
 ·obtain ⟨a1, a2, a3, a4, a5⟩ := h.ent j e t h1 h2
  have hT : ∀ b, t.T b → w'.heap[b]? = w.heap[b]? := fun b hb => hold b (Nat.lt_of_lt_of_le (a3 b hb).2.2 a2)
  refine ⟨a1, Nat.le_trans a2 hk.2.2.2.1, a3, ?_, a5⟩
  cases hst : e.st with
  | ar => rw [hst] at a4; exact a4.mono (fun _ h => h) (fun k hk' _ => cell_heap (hold k (Nat.lt_of_lt_of_le (h.R k hk') hs)))
  | sh => rw [hst] at a4; exact a4.mono (fun _ h => h) (fun k hk' _ => cell_heap (hold k (Nat.lt_of_lt_of_le hk'.1 a2)))
  | nw => rw [hst] at a4; exact ⟨a4.1.mono (fun _ h => h) (fun k hk' _ => cell_heap (hold k (Nat.lt_of_lt_of_le hk'.2 a2))), Shp.tree_mono a4.2 hT⟩
  | tr => rw [hst] at a4; exact Shp.tree_mono a4 hT
  | mk l => rw [hst] at a4; exact Shp.tree_mono a4 hT
  | dd => exact trivial
 ·obtain ⟨t, cs, bt, b1, b2, b3, b4, b5⟩ := h.boxes p hp
  exact ⟨t, cs, bt, b1, b2, (hold _ (blk_lt b3)).trans b3, b4, b5⟩
 ·obtain ⟨cur, bt, ti, b1, b2, b3, b4, b5, b6⟩ := h.fresh b ty hb
  exact ⟨cur, bt, ti, (hold _ (blk_lt b1)).trans b1, b2, b3, b4, b5, b6⟩
theorem LX.Inv.tdis (h : X.Inv tb tv bl fr w) {i j : Nat} {ei ej : LE} {ti tj : LM} (h1 : tb[i]? = some ei) (h2 : tb[j]? = some ej) (h3 : tv[i]? = some ti) (h4 : tv[j]? = some tj) (hne : i ≠ j) {b : Nat} (hb : ti.T b) (hb' : tj.T b) : False := by
 have a := (h.ent i ei ti h1 h3).low b hb
 have a' := (h.ent j ej tj h2 h4).low b hb'
 rcases Nat.lt_trichotomy ei.grp ej.grp with hg | hg | hg
 ·have := h.ord i j ei ej ti tj h1 h2 h3 h4 hg; omega
 ·exact h.dis i j ei ej ti tj h1 h2 h3 h4 hg hne b hb hb'
 ·have := h.ord j i ej ei tj ti h2 h1 h4 h3 hg; omega
theorem LX.Inv.rd (h : X.Inv tb tv bl fr w) (h1 : tb[j]? = some e) (h2 : tv[j]? = some t) (hr : e.st.reads = true) : Rd w (fun k => k < w.heap.size ∧ nofr fr k) (X.Vh j) t.x := by
 obtain ⟨a1, a2, a3, a4, a5⟩ := h.ent j e t h1 h2
 have hs := h.size
 cases hst : e.st with
 | ar =>
  rw [hst] at a4
  refine Rd.mono (fun k hk => ⟨Nat.lt_of_lt_of_le (h.R k hk) hs, fun b ty hb => ?_⟩) (fun _ _ _ => rfl) a4
  obtain ⟨_, _, _, _, _, _, b4, _⟩ := h.fresh b ty hb
  have := h.R k hk
  omega
 | sh => rw [hst] at a4; exact Rd.mono (fun k hk => ⟨Nat.lt_of_lt_of_le hk.1 a2, hk.2⟩) (fun _ _ _ => rfl) a4
 | nw =>
  rw [hst] at a4
  refine Rd.mono (fun k hk => ⟨Nat.lt_of_lt_of_le hk.2 a2, fun b ty hb => ?_⟩) (fun _ _ _ => rfl) a4.1
  obtain ⟨_, _, _, _, _, _, _, b5, _⟩ := h.fresh b ty hb
  have := b5 t (List.mem_of_getElem? h2)
  have hk1 : t.lo ≤ k := hk.1
  have hk2 : k < t.hi := hk.2
  omega
 | _ => rw [hst] at hr; cases hr
theorem LX.Inv.more (h : X.Inv tb tv bl fr w) (hk : Kept w w') (es : List LE) (ts : List LM) (hl : ts.length = es.length) (hlo : ∀ t ∈ ts, t.lo = w.heap.size ∧ t.hi = w'.heap.size) (hg : ∀ e ∈ es, e.grp = tb.length + 1)
  (hent : ∀ (i : Nat) (e : LE) (t : LM), es[i]? = some e → ts[i]? = some t → X.Ent fr w' (tb.length + i) e t)
  (hdis : ∀ (i i' : Nat) (t t' : LM), ts[i]? = some t → ts[i']? = some t' → i ≠ i' → ∀ b, t.T b → t'.T b → False) : X.Inv (tb ++ es) (tv ++ ts) bl fr w' := by
 have h' := h.grow hk
 have sp : ∀ (i : Nat) (e : LE) (t : LM), (tb ++ es)[i]? = some e → (tv ++ ts)[i]? = some t → (tb[i]? = some e ∧ tv[i]? = some t) ∨ ∃ p, i = tb.length + p ∧ es[p]? = some e ∧ ts[p]? = some t := by
  intro i e t h1 h2
  rcases Nat.lt_or_ge i tb.length with hi | hi
  ·rw [List.getElem?_append_left hi] at h1
   rw [List.getElem?_append_left (by rw [h.len]; exact hi)] at h2
   exact .inl ⟨h1, h2⟩
  ·rw [List.getElem?_append_right hi] at h1
   rw [List.getElem?_append_right (by rw [h.len]; exact hi), h.len] at h2
   exact .inr ⟨i - tb.length, by omega, h1, h2⟩
 refine ⟨h.R, h.g0, h'.base, by rw [List.length_append, List.length_append, h.len, hl], fun i e t h1 h2 => ?_, fun i j ei ej ti tj h1 h2 h3 h4 hlt => ?_, fun i j ei ej ti tj h1 h2 h3 h4 heq hne b hb hb' => ?_, fun e he => ?_, fun p hp => ?_, fun b ty hb => ?_⟩
 ·rcases sp i e t h1 h2 with ⟨h1, h2⟩ | ⟨p, rfl, h1, h2⟩
  ·exact h'.ent i e t h1 h2
  ·exact hent p e t h1 h2
 ·rcases sp i ei ti h1 h3 with ⟨h1, h3⟩ | ⟨p, rfl, h1, h3⟩
  ·rcases sp j ej tj h2 h4 with ⟨h2, h4⟩ | ⟨q, rfl, h2, h4⟩
   ·exact h.ord i j ei ej ti tj h1 h2 h3 h4 hlt
   ·rw [(hlo tj (List.mem_of_getElem? h4)).1]
    exact (h.ent i ei ti h1 h3).hi
  ·rcases sp j ej tj h2 h4 with ⟨h2, h4⟩ | ⟨q, rfl, h2, h4⟩
   ·have a1 := h.grp ej (List.mem_of_getElem? h2)
    have a2 := hg ei (List.mem_of_getElem? h1)
    omega
   ·have a1 := hg ej (List.mem_of_getElem? h2)
    have a2 := hg ei (List.mem_of_getElem? h1)
    omega
 ·rcases sp i ei ti h1 h3 with ⟨h1, h3⟩ | ⟨p, rfl, h1, h3⟩
  ·rcases sp j ej tj h2 h4 with ⟨h2, h4⟩ | ⟨q, rfl, h2, h4⟩
   ·exact h.dis i j ei ej ti tj h1 h2 h3 h4 heq hne b hb hb'
   ·have a1 := h.grp ei (List.mem_of_getElem? h1)
    have a2 := hg ej (List.mem_of_getElem? h2)
    omega
  ·rcases sp j ej tj h2 h4 with ⟨h2, h4⟩ | ⟨q, rfl, h2, h4⟩
   ·have a1 := h.grp ej (List.mem_of_getElem? h2)
    have a2 := hg ei (List.mem_of_getElem? h1)
    omega
   ·exact hdis p q ti tj h3 h4 (by omega) b hb hb'
 ·rw [List.length_append]
  rcases List.mem_append.1 he with he | he
  ·have := h.grp e he; omega
  ·have := hg e he
   have : 0 < es.length := List.length_pos_of_mem he
   omega
 ·obtain ⟨t, cs, bt, b1, b2, b3, b4, b5⟩ := h'.boxes p hp
  refine ⟨t, cs, bt, by rw [List.getElem?_append_left (List.getElem?_eq_some_iff.1 b1).1]; exact b1, b2, b3, b4, fun t ht => ?_⟩
  rcases List.mem_append.1 ht with ht | ht
  ·exact b5 t ht
  ·obtain ⟨_, _, _, _, _, c3, _⟩ := h.boxes p hp
   rw [(hlo t ht).1]
   exact .inl (blk_lt c3)
 ·obtain ⟨cur, bt, ti, b1, b2, b3, b4, b5, b6⟩ := h'.fresh b ty hb
  refine ⟨cur, bt, ti, b1, b2, b3, b4, fun t ht => ?_, b6⟩
  rcases List.mem_append.1 ht with ht | ht
  ·exact b5 t ht
  ·obtain ⟨_, _, _, c1, _⟩ := h.fresh b ty hb
   rw [(hlo t ht).1]
   exact .inl (blk_lt c1)
def markTb (tb : List LE) (j g : Nat) (l : List Nat) : List LE := tb.mapIdx fun i e => if i = j then ⟨e.grp, .mk l⟩ else match e.st with
 | .sh => if e.grp < g then e else ⟨e.grp, .dd⟩
 | .nw => if e.grp = g then ⟨e.grp, .tr⟩ else e
 | _ => e
theorem markTb_get {g : Nat} {l : List Nat} {i : Nat} {e' : LE} (h : (markTb tb j g l)[i]? = some e') : ∃ e, tb[i]? = some e ∧ e'.grp = e.grp ∧ (i = j → e'.st = .mk l) ∧ (i ≠ j → e'.st = match e.st with
 | .sh => if e.grp < g then .sh else .dd
 | .nw => if e.grp = g then .tr else .nw
 | s => s) := by
 rw [markTb, List.getElem?_mapIdx] at h
 cases hi : tb[i]? with
 | none => rw [hi] at h; cases h
 | some e =>
  rw [hi] at h
  simp only [Option.map_some, Option.some.injEq] at h
  refine ⟨e, rfl, ?_⟩
  by_cases hij : i = j
  ·rw [if_pos hij] at h
   subst h
   exact ⟨rfl, fun _ => rfl, fun hn => absurd hij hn⟩
  ·rw [if_neg hij] at h
   cases hst : e.st with
   | sh =>
    rw [hst] at h
    by_cases hc : e.grp < g
    ·simp only [if_pos hc] at h ⊢
     subst h
     exact ⟨rfl, fun hn => absurd hn hij, fun _ => hst⟩
    ·simp only [if_neg hc] at h ⊢
     subst h
     exact ⟨rfl, fun hn => absurd hn hij, fun _ => rfl⟩
   | nw =>
    rw [hst] at h
    by_cases hc : e.grp = g
    ·simp only [if_pos hc] at h ⊢
     subst h
     exact ⟨rfl, fun hn => absurd hn hij, fun _ => rfl⟩
    ·simp only [if_neg hc] at h ⊢
     subst h
     exact ⟨rfl, fun hn => absurd hn hij, fun _ => hst⟩
   | _ =>
    rw [hst] at h
    simp only at h
    subst h
    exact ⟨rfl, fun hn => absurd hn hij, fun _ => hst⟩
theorem LX.Inv.marked (h : X.Inv tb tv bl fr w) {l : List Nat} (h1 : tb[j]? = some e) (h2 : tv[j]? = some t) (hm : Mod t.T w w') (ht : (X.shp j).tree X.mt true w' t.x (X.ctv l) (X.nn j) t.T) (hw : e.st.whole = true) : X.Inv (markTb tb j e.grp l) tv bl fr w' := by
 have hj := h.ent j e t h1 h2
 have hs := h.size
 have hlow : X.w0.heap.size ≤ t.lo := hj.sh (fun e => by rw [e] at hw; cases hw)
 refine ⟨h.R, h.g0, h.base.trans (hm.mono (fun b hb => Nat.le_trans hlow (hj.low b hb).2.1)), by rw [markTb, List.length_mapIdx]; exact h.len, fun i e' ti g1 g2 => ?_, fun i i' ei ei' ti ti' g1 g2 g3 g4 hlt => ?_, fun i i' ei ei' ti ti' g1 g2 g3 g4 heq hne b hb hb' => ?_, fun e' he' => ?_, fun p hp => ?_, fun b ty hb => ?_⟩
 ·obtain ⟨ei, q1, q2, q3, q4⟩ := markTb_get g1
  have hi := h.ent i ei ti q1 g2
  by_cases hij : i = j
  ·subst hij
   rw [h1] at q1; injection q1 with q1; subst q1
   rw [h2] at g2; injection g2 with g2; subst g2
   refine ⟨hi.agx, Nat.le_trans hi.hi hm.size, hi.low, ?_, fun _ => hlow⟩
   rw [q3 rfl]
   exact ht
  ·have q4 := q4 hij
   have hT : ∀ b, ti.T b → w'.heap[b]? = w.heap[b]? := fun b hb => hm.old b (Nat.lt_of_lt_of_le (hi.low b hb).2.2 hi.hi) (fun hb' => h.tdis q1 h1 g2 h2 hij hb hb')
   have a4 := hi.st
   refine ⟨hi.agx, Nat.le_trans hi.hi hm.size, hi.low, ?_, fun hne => hi.sh (fun he => hne (by rw [q4, he]))⟩
   cases hst : ei.st with
   | ar =>
    rw [hst] at a4 q4
    rw [q4]
    exact a4.mono (fun _ h => h) (fun k hk _ => cell_heap (hm.old k (Nat.lt_of_lt_of_le (h.R k hk) hs) (fun hb => by have := (hj.low k hb).2.1; have := h.R k hk; omega)))
   | sh =>
    rw [hst] at a4 q4
    simp only at q4
    by_cases hc : ei.grp < e.grp
    ·rw [if_pos hc] at q4
     rw [q4]
     have ho := h.ord i j ei e ti t q1 h1 g2 h2 hc
     exact Rd.mono (fun _ h => h) (fun k hk _ => cell_heap (hm.old k (Nat.lt_of_lt_of_le hk.1 hi.hi) (fun hb => by have := (hj.low k hb).2.1; have : k < ti.hi := hk.1; omega))) a4
    ·rw [if_neg hc] at q4
     rw [q4]
     exact trivial
   | nw =>
    rw [hst] at a4 q4
    simp only at q4
    by_cases hc : ei.grp = e.grp
    ·rw [if_pos hc] at q4
     rw [q4]
     exact Shp.tree_mono a4.2 hT
    ·rw [if_neg hc] at q4
     rw [q4]
     refine ⟨Rd.mono (fun _ h => h) (fun k hk _ => cell_heap (hm.old k (Nat.lt_of_lt_of_le hk.2 hi.hi) (fun hb => ?_))) a4.1, Shp.tree_mono a4.2 hT⟩
     have a := hj.low k hb
     have hk1 : ti.lo ≤ k := hk.1
     have hk2 : k < ti.hi := hk.2
     rcases Nat.lt_or_gt_of_ne hc with hc | hc
     ·have := h.ord i j ei e ti t q1 h1 g2 h2 hc; omega
     ·have := h.ord j i e ei t ti h1 q1 h2 g2 hc; omega
   | tr => rw [hst] at a4 q4; rw [q4]; exact Shp.tree_mono a4 hT
   | mk l => rw [hst] at a4 q4; rw [q4]; exact Shp.tree_mono a4 hT
   | dd => rw [hst] at q4; rw [q4]; exact trivial
 ·obtain ⟨e1, q1, q2, _⟩ := markTb_get g1
  obtain ⟨e2, r1, r2, _⟩ := markTb_get g2
  exact h.ord i i' e1 e2 ti ti' q1 r1 g3 g4 (by rw [← q2, ← r2]; exact hlt)
 ·obtain ⟨e1, q1, q2, _⟩ := markTb_get g1
  obtain ⟨e2, r1, r2, _⟩ := markTb_get g2
  exact h.dis i i' e1 e2 ti ti' q1 r1 g3 g4 (by rw [← q2, ← r2]; exact heq) hne b hb hb'
 ·obtain ⟨i, hi⟩ := List.getElem?_of_mem he'
  obtain ⟨e1, q1, q2, _⟩ := markTb_get hi
  rw [q2, markTb, List.length_mapIdx]
  exact h.grp e1 (List.mem_of_getElem? q1)
 ·obtain ⟨t', cs, bt, b1, b2, b3, b4, b5⟩ := h.boxes p hp
  refine ⟨t', cs, bt, b1, b2, (hm.old _ (blk_lt b3) (fun hb => ?_)).trans b3, b4, b5⟩
  have := b5 t (List.mem_of_getElem? h2)
  have := hj.low _ hb
  omega
 ·obtain ⟨cur, bt, ti, b1, b2, b3, b4, b5, b6⟩ := h.fresh b ty hb
  refine ⟨cur, bt, ti, (hm.old _ (blk_lt b1) (fun hb => ?_)).trans b1, b2, b3, b4, b5, b6⟩
  have := b5 t (List.mem_of_getElem? h2)
  have := hj.low _ hb
  omega
theorem LX.Inv.setb {b : Nat} (h : X.Inv tb tv bl fr w) (hm : Mod (fun k => k = b) w w') (h0 : X.w0.heap.size ≤ b) (hv : ∀ t ∈ tv, b < t.lo ∨ t.hi ≤ b) (hb : ∀ p ∈ bl, p.1 ≠ b) (hf : nofr fr b → ∀ t ∈ tv, t.hi ≤ b) (fr' : Option (Nat × Nat)) (hfr : ∀ k, nofr fr k → k < w.heap.size → k ≠ b → nofr fr' k)
  (hfresh : ∀ b ty, fr' = some (b, ty) → ∃ (cur : Array Value) (bt : TypeId) (ti : TypeInfo), w'.heap[b]? = some (.cells cur bt (0, 0)) ∧ X.P.info? ty = some ti ∧ cur.size = ti.size ∧ X.w0.heap.size ≤ b ∧ (∀ t ∈ tv, b < t.lo ∨ t.hi ≤ b) ∧ ∀ p ∈ bl, p.1 ≠ b) : X.Inv tb tv bl fr' w' := by
 have hs := h.size
 refine ⟨h.R, h.g0, h.base.trans (hm.mono (fun k hk => by rw [hk]; exact h0)), h.len, fun j e t h1 h2 => ?_, h.ord, h.dis, h.grp, fun p hp => ?_, hfresh⟩
 ·obtain ⟨a1, a2, a3, a4, a5⟩ := h.ent j e t h1 h2
  have hvt := hv t (List.mem_of_getElem? h2)
  have hT : ∀ k, t.T k → w'.heap[k]? = w.heap[k]? := fun k hk => hm.old k (Nat.lt_of_lt_of_le (a3 k hk).2.2 a2) (fun e => by have := a3 k hk; omega)
  refine ⟨a1, Nat.le_trans a2 hm.size, a3, ?_, a5⟩
  cases hst : e.st with
  | ar => rw [hst] at a4; exact a4.mono (fun _ h => h) (fun k hk' _ => cell_heap (hm.old k (Nat.lt_of_lt_of_le (h.R k hk') hs) (fun e => by have := h.R k hk'; omega)))
  | sh =>
   rw [hst] at a4
   have hne : ∀ k, k < t.hi ∧ nofr fr k → k ≠ b := fun k hk e => by
    subst e
    have := hf hk.2 t (List.mem_of_getElem? h2)
    omega
   exact Rd.mono (fun k hk => ⟨hk.1, hfr k hk.2 (Nat.lt_of_lt_of_le hk.1 a2) (hne k hk)⟩) (fun k hk' _ => cell_heap (hm.old k (Nat.lt_of_lt_of_le hk'.1 a2) (hne k hk'))) a4
  | nw => rw [hst] at a4; exact ⟨Rd.mono (fun _ h => h) (fun k hk' _ => cell_heap (hm.old k (Nat.lt_of_lt_of_le hk'.2 a2) (fun e => by have h1 : t.lo ≤ k := hk'.1; have h2 : k < t.hi := hk'.2; omega))) a4.1, Shp.tree_mono a4.2 hT⟩
  | tr => rw [hst] at a4; exact Shp.tree_mono a4 hT
  | mk l => rw [hst] at a4; exact Shp.tree_mono a4 hT
  | dd => exact trivial
 ·obtain ⟨t, cs, bt, b1, b2, b3, b4, b5⟩ := h.boxes p hp
  exact ⟨t, cs, bt, b1, b2, (hm.old _ (blk_lt b3) (hb p hp)).trans b3, b4, b5⟩
theorem LX.Inv.hiLe (h : X.Inv tb tv bl fr w) : ∀ t ∈ tv, t.hi ≤ w.heap.size := fun t ht => by
 obtain ⟨j, hj⟩ := List.getElem?_of_mem ht
 have : j < tb.length := by rw [← h.len]; exact (List.getElem?_eq_some_iff.1 hj).1
 exact (h.ent j _ t (List.getElem?_eq_getElem this) hj).hi
theorem LX.Inv.boxLt (h : X.Inv tb tv bl fr w) : ∀ p ∈ bl, p.1 < w.heap.size := fun p hp => by
 obtain ⟨_, _, _, _, _, b3, _⟩ := h.boxes p hp
 exact blk_lt b3
theorem LX.Inv.alloc (h : X.Inv tb tv bl none w) {cs : Array Value} {bt : TypeId} {ty : Nat} {ti : TypeInfo} (hi : X.P.info? ty = some ti) (hs : cs.size = ti.size) : X.Inv tb tv bl (some (w.heap.size, ty)) (w.alloc (.cells cs bt)) := by
 have hk := Kept.al w (.cells cs bt)
 refine LX.Inv.setb (b := w.heap.size) h ((Mod.of_kept hk).mono (fun _ h => h)) h.size (fun t ht => .inr (h.hiLe t ht)) (fun p hp => Nat.ne_of_lt (h.boxLt p hp)) (fun _ => h.hiLe) _ (fun k _ hk _ b ty e => ?_) (fun b ty' e => ?_)
 ·injection e with e; injection e with e1 e2; omega
 ·injection e with e; injection e with e1 e2
  subst e1; subst e2
  exact ⟨cs, bt, ti, heap_alloc_eq w _, hi, hs, h.size, fun t ht => .inr (h.hiLe t ht), fun p hp => Nat.ne_of_lt (h.boxLt p hp)⟩
theorem LX.Inv.box (h : X.Inv tb tv bl fr w) {cs : Array Value} {bt : TypeId} (h2 : tv[j]? = some t) (hx : t.x = .agg cs) : X.Inv tb tv ((w.heap.size, j) :: bl) fr (w.alloc (.cells cs bt)) := by
 have hk := Kept.al w (.cells cs bt)
 have h' := h.grow hk
 refine { h' with boxes := fun p hp => ?_, fresh := fun b ty hb => ?_ }
 ·rcases List.mem_cons.1 hp with rfl | hp
  ·exact ⟨t, cs, bt, h2, hx, heap_alloc_eq w _, h.size, fun t ht => .inr (h.hiLe t ht)⟩
  ·exact h'.boxes p hp
 ·obtain ⟨cur, bt', ti, b1, b2, b3, b4, b5, b6⟩ := h'.fresh b ty hb
  obtain ⟨_, _, _, c1, _⟩ := h.fresh b ty hb
  refine ⟨cur, bt', ti, b1, b2, b3, b4, b5, fun p hp => ?_⟩
  rcases List.mem_cons.1 hp with rfl | hp
  ·have := blk_lt c1
   show w.heap.size ≠ b
   omega
  ·exact b6 p hp
theorem LX.Inv.store {b ty : Nat} (h : X.Inv tb tv bl (some (b, ty)) w) {cs : Array Value} {bt : TypeId} (h2 : tv[j]? = some t) (hx : t.x = .agg cs) (hm : Mod (fun k => k = b) w w') (hb : w'.heap[b]? = some (.cells cs bt (0, 0))) : X.Inv tb tv ((b, j) :: bl) none w' := by
 obtain ⟨cur, bt', ti, b1, b2, b3, b4, b5, b6⟩ := h.fresh b ty rfl
 have h' : X.Inv tb tv bl none w' := LX.Inv.setb h hm b4 b5 b6 (fun hn => absurd rfl (hn b ty rfl)) none (fun _ _ _ _ _ _ e => by cases e) (fun _ _ e => by cases e)
 refine { h' with boxes := fun p hp => ?_, fresh := fun _ _ e => by cases e }
 rcases List.mem_cons.1 hp with rfl | hp
 ·exact ⟨t, cs, bt, h2, hx, hb, b4, b5⟩
 ·exact h'.boxes p hp
end
end Go.Am
end
