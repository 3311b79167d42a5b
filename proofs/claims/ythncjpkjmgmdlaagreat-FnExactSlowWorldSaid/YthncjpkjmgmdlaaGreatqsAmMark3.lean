/-
  Marks in slices of rows: the loop, the whole function.
-/
import Derived.Test.YthncjpkjmgmdlaaGreatqsAmMark
section
set_option linter.unusedVariables false
set_option linter.unusedSimpArgs false
namespace Go.Am
open Go Go.RowKit
mutual
def Kd.same : Kd → Kd → Bool
 | .str, .str => true
 | .int, .int => true
 | .bool, .bool => true
 | .sl a, .sl b => Kd.sames a b
 | _, _ => false
def Kd.sames : List Kd → List Kd → Bool
 | [], [] => true
 | a :: az, b :: bs => Kd.same a b && Kd.sames az bs
 | _, _ => false
end
theorem Kd.same_eq (a : Kd) : ∀ b, Kd.same a b = true → a = b :=
 Kd.rec (motive_1 := fun a => ∀ b, Kd.same a b = true → a = b) (motive_2 := fun az => ∀ bs, Kd.sames az bs = true → az = bs)
  (fun b h => by cases b <;> first | rfl | (simp [Kd.same] at h)) (fun b h => by cases b <;> first | rfl | (simp [Kd.same] at h)) (fun b h => by cases b <;> first | rfl | (simp [Kd.same] at h))
  (fun ks ih b h => by
   cases b with
   | sl ks' => rw [ih ks' (by simpa [Kd.same] using h)]
   | _ => simp [Kd.same] at h)
  (fun bs h => by cases bs with
   | nil => rfl
   | cons b bs => simp [Kd.sames] at h)
  (fun a az h1 h2 bs h => by
   cases bs with
   | nil => simp [Kd.sames] at h
   | cons b bs =>
    rw [Kd.sames, Bool.and_eq_true] at h
    rw [h1 b h.1, h2 bs h.2]) a
def kinit : List (Nat × KV) := [(0, .sl), (1, .ct), (5, .ix)]
def kEnd (e : List (Nat × KV)) : Bool := kget e 0 == .sl && kget e 1 == .ct && kget e 5 == .ix
def isLeafSt (c : Cfg) (mtF n s j : Nat) (kd : Kd) (ops : Array Oper) : Bool :=
 match kops c mtF n s j 9 ops.toList kinit with
 | (e, [o]) => match o.op, o.dst, o.guard with
  | .store t (.tmp a) (.tmp v), none, none => (kget e a == .ad j) && (match kd, kget e v with
   | .str, .tx => true
   | .int, .ct => true
   | .bool, .fl => true
   | _, _ => false) && (match c.ty t with
   | some i => i.size == 1
   | none => false) && kEnd e
  | _, _, _ => false
 | _ => false
def isInc (c : Cfg) (mtF n s : Nat) (ops : Array Oper) : Bool :=
 match kops c mtF n s 0 9 ops.toList kinit with
 | (e, []) => kget e 0 == .sl && kget e 1 == .c1 && kget e 5 == .ix
 | _ => false
def subOf (c : Cfg) (mtF n s j : Nat) (ops : Array Oper) : Option Nat :=
 match kops c mtF n s j 9 ops.toList kinit with
 | (e, [o1, o2]) => match o1.op, o1.dst, o1.guard with
  | .call ⟨.value (.func f), args, _⟩, some d, none => match args.toList, o2.op, o2.dst, o2.guard with
   | [.tmp x, .tmp k], .assign (.tmp d'), some 1, none => if (kget e x == .ce j && kget e k == .ct && d' == d && decide (d < n) && decide (1 < n) && d != 0 && d != 5 && kEnd e) = true then some f else none
   | _, _, _, _ => none
  | _, _, _ => none
 | _ => none
def knows (subs : List (Nat × Kd)) (f : Nat) (kd : Kd) : Bool := subs.any fun p => p.1 == f && p.2.same kd
def mField1 (c : Cfg) (mtF n s : Nat) (subs : List (Nat × Kd)) (kd : Kd) (j : Nat) (codes : List Code) : Option (List Code) :=
 if kd.leaf then (match codes with
  | .region _ r false :: .region _ r2 false :: rest => if isLeafSt c mtF n s j kd r && isInc c mtF n s r2 then some rest else none
  | _ => none)
 else (match codes with
  | .region _ r false :: rest => (match subOf c mtF n s j r with
   | some f => if knows subs f kd then some rest else none
   | none => none)
  | _ => none)
def mFields (c : Cfg) (mtF n s : Nat) (subs : List (Nat × Kd)) : List Kd → Nat → List Code → Bool
 | [], _, codes => codes.isEmpty
 | kd :: ks, j, codes => match mField1 c mtF n s subs kd j codes with
  | some rest => mFields c mtF n s subs ks (j + 1) rest
  | none => false
def isLeafCh (c : Cfg) (mtF n s j : Nat) (kd : Kd) (ops : Array Oper) (draw : Bool) (t : Nat) : Bool :=
 match kops c mtF n s j kd.num ops.toList kinit with
 | (e, []) => kget e t == .ne && kEnd e && (!draw || kdrawOk ops)
 | _ => false
def isNeg (c : Cfg) (mtF n s : Nat) (ops : Array Oper) (t : Nat) : Bool :=
 match kops c mtF n s 0 9 ops.toList kinit with
 | (e, []) => kget e t == .ng && kEnd e
 | _ => false
def hField1 (c : Cfg) (mtF n s : Nat) (subs : List (Nat × Kd)) (kd : Kd) (j : Nat) (codes : List Code) : Option (List Code) :=
 if kd.leaf then (match codes with
  | .region _ r draw :: .cond (.tmp t) _ .skip :: .region _ r2 false :: rest => if isLeafCh c mtF n s j kd r draw t && isInc c mtF n s r2 then some rest else none
  | _ => none)
 else (match codes with
  | .region _ r false :: .region _ r3 false :: .cond (.tmp t) _ .skip :: rest => (match subOf c mtF n s j r with
   | some f => if knows subs f kd && isNeg c mtF n s r3 t then some rest else none
   | none => none)
  | _ => none)
def hFields (c : Cfg) (mtF n s : Nat) (subs : List (Nat × Kd)) : List Kd → Nat → List Code → Bool
 | [], _, codes => codes.isEmpty
 | kd :: ks, j, codes => match hField1 c mtF n s subs kd j codes with
  | some rest => hFields c mtF n s subs ks (j + 1) rest
  | none => false
section
variable {P : Program} {c : Cfg} {n : Nat} {s : Nat → Value} {w w' w0 : World} {mt : Nat → List UInt8} {mtF : Nat} {subs : List (Nat × Kd)} {ks : List Kd} {bk o m cap k0 i : Nat} {cur : Array Value} {ty : TypeId} {N : Nat → Nat} {Ts : Nat → Nat → Prop}
theorem knows_ok {f : Nat} {kd : Kd} {Q : Nat → Kd → Prop} (h : knows subs f kd = true) (hs : ∀ p ∈ subs, Q p.1 p.2) : Q f kd := by
 unfold knows at h
 rw [List.any_eq_true] at h
 obtain ⟨p, hp, h⟩ := h
 rw [Bool.and_eq_true, beq_iff_eq] at h
 have := hs p hp
 rw [h.1, Kd.same_eq _ _ h.2] at this
 exact this
structure S5 (n : Nat) (x : Value) (i kk : Nat) (s : Nat → Value) (w : World) : Prop where
  s0 : s 0 = x
  s1 : s 1 = .int .i64 (kk : Int)
  s5 : s 5 = .int .i64 (i : Int)
  un : ∀ t, n ≤ t → s t = undef
  g : globOk w
def kcOf (mt : Nat → List UInt8) (bk o m cap i len kk : Nat) (cur : Array Value) : KC := ⟨mt, bk, o, m, cap, i, len, kk, fun j => cur.getD (o + i * len + j) undef⟩
theorem S5.ke {len kk : Nat} (h : S5 n (.slice (some ⟨bk, o, none⟩) m cap) i kk s w) : KE (kcOf mt bk o m cap i len kk cur) kinit s := by
 intro t
 unfold kinit
 simp only [kget]
 split
 ·rename_i e; subst e; exact h.s0
 ·split
  ·rename_i e; subst e; exact h.s1
  ·split
   ·rename_i e; subst e; exact h.s5
   ·exact trivial
theorem kEnd_inv {e : List (Nat × KV)} (h : kEnd e = true) : kget e 0 = .sl ∧ kget e 1 = .ct ∧ kget e 5 = .ix := by
 unfold kEnd at h
 simp only [Bool.and_eq_true, beq_iff_eq] at h
 exact ⟨h.1.1, h.1.2, h.2⟩
theorem S5.of {len kk : Nat} {e : List (Nat × KV)} (hE : KE (kcOf mt bk o m cap i len kk cur) e s) (h : kEnd e = true) (un : ∀ t, n ≤ t → s t = undef) (g : globOk w) : S5 n (.slice (some ⟨bk, o, none⟩) m cap) i kk s w := by
 obtain ⟨h1, h2, h3⟩ := kEnd_inv h
 have e0 := hE 0
 have e1 := hE 1
 have e5 := hE 5
 rw [h1] at e0; rw [h2] at e1; rw [h3] at e5
 exact ⟨e0, e1, e5, un, g⟩
theorem rowlt {len j : Nat} (hi : i < m) (hj : j < len) : i * len + j < m * len := rowPos hi hj
theorem rowmod {len j : Nat} (hj : j < len) : (i * len + j) % len = j := by rw [Nat.mul_add_mod_self_right, Nat.mod_eq_of_lt hj]
theorem kin_of {len kk : Nat} (hb : w.heap[bk]? = some (.cells cur ty (0, 0))) (hsz : o + m * len ≤ cur.size) (hi : i < m) : KIn (kcOf mt bk o m cap i len kk cur) w := by
 refine ⟨blk_lt hb, fun j hj => ?_⟩
 have hj : j < len := hj
 have := rowlt hi hj
 have hlt : o + i * len + j < cur.size := by omega
 show w.cell? ⟨bk, o + i * len + j, none⟩ = some (cur.getD (o + i * len + j) undef)
 rw [cell_of hb]
 simp [hlt]
theorem num9 {k : Nat} {x : Value} : markNum mt 9 k x := by
 unfold markNum
 exact ⟨(fun h => by cases h), (fun h => by cases h), (fun h => by cases h)⟩
theorem leafSt_ok {j : Nat} {kd : Kd} {ops : Array Oper} {id : Nat} {K : List Code} {J : Exit → (Nat → Value) → World → Prop} (hA : Agree P c) (htx : TextOk P mt mtF) (hB : k0 + sumN N (m * ks.length) ≤ 1152921504606846976) (h : isLeafSt c mtF n ks.length j kd ops = true) (hi : i < m) (hj : ks[j]? = some kd) (hl : kd.leaf = true)
  (h5 : S5 n (.slice (some ⟨bk, o, none⟩) m cap) i (k0 + sumN N (i * ks.length + j)) s w) (hS : SlInv mt w0 w ks bk o m cur ty N Ts k0 (i * ks.length + j))
  (hK : ∀ s' w' cur', S5 n (.slice (some ⟨bk, o, none⟩) m cap) i (k0 + sumN N (i * ks.length + j)) s' w' → N (i * ks.length + j) = 1 → SlInv mt w0 w' ks bk o m cur' ty N Ts k0 (i * ks.length + j + 1) → globN ≤ bk → WL P n K s' w' J) (hgn : globN ≤ bk) : WL P n (.region id ops false :: K) s w J := by
 have hjl : j < ks.length := (gs_ hj).1
 have hp := rowlt hi hjl
 have hkk : k0 + sumN N (i * ks.length + j) < 4611686018427387904 := by
  have := sumN_le (N := N) (Nat.le_of_lt hp); omega
 unfold isLeafSt at h
 obtain ⟨e, l, hko⟩ : ∃ e l, kops c mtF n ks.length j 9 ops.toList kinit = (e, l) := ⟨_, _, rfl⟩
 rw [hko] at h
 refine W.region (kops_ok (C := kcOf mt bk o m cap i ks.length (k0 + sumN N (i * ks.length + j)) cur) (jc := j) (kc := 9) hA htx hkk hi num9 ops.toList kinit s w h5.ke h5.un h5.g (kin_of hS.hb hS.hsz hi) _ (fun s' w' hE hn hk => ?_))
 rw [show kops c mtF n (kcOf mt bk o m cap i ks.length (k0 + sumN N (i * ks.length + j)) cur).s j 9 ops.toList kinit = (e, l) from hko] at hE ⊢
 have hE : KE _ e s' := hE
 split at h
 rotate_left
 ·cases h
 rename_i e' o1 heq
 simp only [Prod.mk.injEq] at heq
 obtain ⟨rfl, rfl⟩ := heq
 split at h
 rotate_left
 ·cases h
 rename_i t a v ho hd hgd
 simp only [Bool.and_eq_true, beq_iff_eq] at h
 obtain ⟨⟨⟨h1, h2⟩, h3⟩, h4⟩ := h
 have hS' := hS.kept hk
 have hlt : o + (i * ks.length + j) < cur.size := by have := hS.hsz; omega
 have ea : s' a = .pointer (some ⟨bk, o + i * ks.length + j, none⟩) := by have := hE a; rw [h1] at this; exact this
 obtain ⟨kv, hkv⟩ : ∃ kv, kget e v = kv := ⟨_, rfl⟩
 have hv : markIs mt kd (k0 + sumN N (i * ks.length + j)) (s' v) := by
  have hev := hE v
  rw [hkv] at h2 hev
  split at h2
  ·exact hev
  ·exact hev
  ·exact hev
  ·cases h2
 have hone : (s' v).cells = #[s' v] ∧ (s' v).oneCell' = true := by
  cases kd with
  | str => obtain ⟨b, hb, _⟩ := hv; rw [hb]; exact ⟨rfl, rfl⟩
  | int => rw [show s' v = _ from hv]; exact ⟨rfl, rfl⟩
  | bool => rw [show s' v = _ from hv]; exact ⟨rfl, rfl⟩
  | sl ks => cases hl
 split at h3
 rotate_left
 ·cases h3
 rename_i ity hty
 obtain ⟨ti, ai⟩ := hA _ _ hty
 obtain ⟨w2, g1, g2⟩ := run_storeOne P w' bk (o + (i * ks.length + j)) ty t ti cur (s' v) hS'.hb ai.info (by rw [ai.size]; simpa using h3) hone.1 hone.2 hlt
 have hex : (execOp (evs s') o1).run P w' = .ok .skip w2 := by
  have ea' : s' a = .pointer (some ⟨bk, o + (i * ks.length + j), none⟩) := by rw [ea, ← Nat.add_assoc]
  simp [execOp, ho, evs, ea', g1]
 have hg' := hk.glob' h5.g
 obtain ⟨n1, hS2⟩ := hS'.leaf hp (by rw [rowmod hjl]; exact hj) hl hv g2
 refine R.skip hgd hd hex (R.nil ?_)
 exact hK s' w2 _ (S5.of hE h4 hn (g2.mod.glob (fun k e => by rw [e]; exact hgn) hg')) n1 hS2 hgn
theorem inc_ok {ops : Array Oper} {id : Nat} {K : List Code} {J : Exit → (Nat → Value) → World → Prop} (hA : Agree P c) (htx : TextOk P mt mtF) {len kk : Nat} (hkk : kk < 4611686018427387904) (h : isInc c mtF n len ops = true) (hi : i < m)
  (h5 : S5 n (.slice (some ⟨bk, o, none⟩) m cap) i kk s w) (hb : w.heap[bk]? = some (.cells cur ty (0, 0))) (hsz : o + m * len ≤ cur.size)
  (hK : ∀ s' w', S5 n (.slice (some ⟨bk, o, none⟩) m cap) i (kk + 1) s' w' → Kept w w' → WL P n K s' w' J) : WL P n (.region id ops false :: K) s w J := by
 unfold isInc at h
 obtain ⟨e, l, hko⟩ : ∃ e l, kops c mtF n len 0 9 ops.toList kinit = (e, l) := ⟨_, _, rfl⟩
 rw [hko] at h
 refine W.region (kops_ok (C := kcOf mt bk o m cap i len kk cur) (jc := 0) (kc := 9) hA htx hkk hi num9 ops.toList kinit s w h5.ke h5.un h5.g (kin_of hb hsz hi) _ (fun s' w' hE hn hk => ?_))
 rw [show kops c mtF n (kcOf mt bk o m cap i len kk cur).s 0 9 ops.toList kinit = (e, l) from hko] at hE ⊢
 have hE : KE _ e s' := hE
 split at h
 rotate_left
 ·cases h
 rename_i e' heq
 simp only [Prod.mk.injEq] at heq
 obtain ⟨rfl, rfl⟩ := heq
 simp only [Bool.and_eq_true, beq_iff_eq] at h
 obtain ⟨⟨h1, h2⟩, h3⟩ := h
 have e0 := hE 0
 have e1 := hE 1
 have e5 := hE 5
 rw [h1] at e0; rw [h2] at e1; rw [h3] at e5
 exact R.nil (hK s' w' ⟨e0, e1, e5, hn, hk.glob' h5.g⟩ hk)
theorem sub_ok {j f kk : Nat} {ops : Array Oper} {id : Nat} {K : List Code} {J : Exit → (Nat → Value) → World → Prop} (hA : Agree P c) (htx : TextOk P mt mtF) {len : Nat} (hkk : kk < 4611686018427387904) (h : subOf c mtF n len j ops = some f) (hi : i < m) (hkn : Known P f)
  (h5 : S5 n (.slice (some ⟨bk, o, none⟩) m cap) i kk s w) (hb : w.heap[bk]? = some (.cells cur ty (0, 0))) (hsz : o + m * len ≤ cur.size)
  {nn : Nat} {B : World → World → Prop} (hcall : ∀ w', Kept w w' → Calls P f #[cur.getD (o + i * len + j) undef, .int .i64 (kk : Int)] w' fun e w2 => e = .returned (.int .i64 ((kk + nn : Nat) : Int)) ∧ globOk w2 ∧ B w' w2)
  (hK : ∀ s' w' w2, Kept w w' → B w' w2 → S5 n (.slice (some ⟨bk, o, none⟩) m cap) i (kk + nn) s' w2 → WL P n K s' w2 J) : WL P n (.region id ops false :: K) s w J := by
 unfold subOf at h
 obtain ⟨e, l, hko⟩ : ∃ e l, kops c mtF n len j 9 ops.toList kinit = (e, l) := ⟨_, _, rfl⟩
 rw [hko] at h
 refine W.region (kops_ok (C := kcOf mt bk o m cap i len kk cur) (jc := j) (kc := 9) hA htx hkk hi num9 ops.toList kinit s w h5.ke h5.un h5.g (kin_of hb hsz hi) _ (fun s' w' hE hn hk => ?_))
 rw [show kops c mtF n (kcOf mt bk o m cap i len kk cur).s j 9 ops.toList kinit = (e, l) from hko] at hE ⊢
 have hE : KE _ e s' := hE
 split at h
 rotate_left
 ·cases h
 rename_i e' o1 o2 heq
 simp only [Prod.mk.injEq] at heq
 obtain ⟨rfl, rfl⟩ := heq
 split at h
 rotate_left
 ·cases h
 rename_i f' args ts d ho hd hgd
 split at h
 rotate_left
 ·cases h
 rename_i x k d' hargs ho2 hd2 hgd2
 split at h
 rotate_left
 ·cases h
 rename_i hc
 injection h with h
 subst h
 simp only [Bool.and_eq_true, beq_iff_eq, decide_eq_true_eq, bne_iff_ne, ne_eq] at hc
 obtain ⟨⟨⟨⟨⟨⟨⟨q1, q2⟩, q3⟩, q4⟩, q5⟩, q6⟩, q7⟩, q8⟩ := hc
 subst q3
 have ex : s' x = cur.getD (o + i * len + j) undef := by have := hE x; rw [q1] at this; exact this
 have ek : s' k = .int .i64 (kk : Int) := by have := hE k; rw [q2] at this; exact this
 obtain ⟨k0', k1', k5'⟩ := kEnd_inv q8
 have e0 := hE 0
 have e5 := hE 5
 rw [k0'] at e0; rw [k5'] at e5
 refine R.call hgd hd q4 ?_ ((hcall w' hk).mono (fun en w2 h => ?_)) (args := #[cur.getD (o + i * len + j) undef, .int .i64 (kk : Int)])
 ·rw [call_enter hkn ho, arr2 hargs]
  have ex' : s' x = cur.getD (o + i * len + j) undef := ex
  have ek' : s' k = .int .i64 (kk : Int) := ek
  simp only [evs, ex', ek', List.map_toArray, List.map_cons, List.map_nil]
 ·obtain ⟨rfl, hg2, hB2⟩ := h
  refine ⟨_, rfl, R.value hgd2 hd2 q5 (x := .int .i64 ((kk + nn : Nat) : Int)) (w' := w2) (by simp [execOp, ho2, evs, upd_same]) (R.nil ?_)⟩
  refine hK _ w' w2 hk hB2 ⟨?_, upd_same, ?_, undef_upd (undef_upd hn q4 _) q5 _, hg2⟩
  ·rw [upd_ne (by decide), upd_ne (fun e => q6 e.symm)]; exact e0
  ·rw [upd_ne (by decide), upd_ne (fun e => q7 e.symm)]; exact e5
theorem leafCh_ok {j t kk : Nat} {kd : Kd} {ops : Array Oper} {draw : Bool} {id : Nat} {X : Code} {K : List Code} {J : Exit → (Nat → Value) → World → Prop} (hm : P.follows .mixedOrders = true) (hA : Agree P c) (htx : TextOk P mt mtF) {len : Nat} (hkk : kk < 4611686018427387904) (h : isLeafCh c mtF n len j kd ops draw t = true) (hi : i < m)
  (hv : markIs mt kd kk (cur.getD (o + i * len + j) undef)) (h5 : S5 n (.slice (some ⟨bk, o, none⟩) m cap) i kk s w) (hb : w.heap[bk]? = some (.cells cur ty (0, 0))) (hsz : o + m * len ≤ cur.size)
  (hK : ∀ s' w', S5 n (.slice (some ⟨bk, o, none⟩) m cap) i kk s' w' → Kept w w' → WL P n K s' w' J) : WL P n (.region id ops draw :: .cond (.tmp t) X .skip :: K) s w J := by
 unfold isLeafCh at h
 obtain ⟨e, l, hko⟩ : ∃ e l, kops c mtF n len j kd.num ops.toList kinit = (e, l) := ⟨_, _, rfl⟩
 rw [hko] at h
 split at h
 rotate_left
 ·cases h
 rename_i e' heq
 simp only [Prod.mk.injEq] at heq
 obtain ⟨rfl, rfl⟩ := heq
 simp only [Bool.and_eq_true, beq_iff_eq, Bool.or_eq_true, Bool.not_eq_true'] at h
 obtain ⟨⟨h1, h2⟩, h3⟩ := h
 have hnum : markNum mt kd.num kk (cur.getD (o + i * len + j) undef) := by
  unfold markNum
  cases kd <;> simp only [Kd.num] <;> exact ⟨(fun e => by first | exact hv | cases e), (fun e => by first | exact hv | cases e), (fun e => by first | exact hv | cases e)⟩
 have fin : ∀ s' w', KE (kcOf mt bk o m cap i len kk cur) e s' → (∀ i, n ≤ i → s' i = undef) → Kept w w' → WL P n (.cond (.tmp t) X .skip :: K) s' w' J := fun s' w' hE hn hk => by
  have et : s' t = .bool false := by have := hE t; rw [h1] at this; exact this
  exact W.cond (b := false) et (W.skip (hK s' w' (S5.of hE h2 hn (hk.glob' h5.g)) hk))
 cases draw with
 | false =>
  refine W.region (kops_ok (C := kcOf mt bk o m cap i len kk cur) (jc := j) (kc := kd.num) hA htx hkk hi hnum ops.toList kinit s w h5.ke h5.un h5.g (kin_of hb hsz hi) _ (fun s' w' hE hn hk => ?_))
  rw [show kops c mtF n (kcOf mt bk o m cap i len kk cur).s j kd.num ops.toList kinit = (e, []) from hko] at hE ⊢
  exact R.nil (fin s' w' hE hn hk)
 | true => exact kdraw_ok (C := kcOf mt bk o m cap i len kk cur) (jc := j) (kc := kd.num) hm hA htx hkk hi hnum hko (h3.resolve_left (by simp)) h5.ke h5.un h5.g (kin_of hb hsz hi) fin
theorem neg_ok {t kk : Nat} {ops : Array Oper} {id : Nat} {X : Code} {K : List Code} {J : Exit → (Nat → Value) → World → Prop} (hA : Agree P c) (htx : TextOk P mt mtF) {len : Nat} (hkk : kk < 4611686018427387904) (h : isNeg c mtF n len ops t = true) (hi : i < m)
  (h5 : S5 n (.slice (some ⟨bk, o, none⟩) m cap) i kk s w) (hb : w.heap[bk]? = some (.cells cur ty (0, 0))) (hsz : o + m * len ≤ cur.size)
  (hK : ∀ s' w', S5 n (.slice (some ⟨bk, o, none⟩) m cap) i kk s' w' → Kept w w' → WL P n K s' w' J) : WL P n (.region id ops false :: .cond (.tmp t) X .skip :: K) s w J := by
 unfold isNeg at h
 obtain ⟨e, l, hko⟩ : ∃ e l, kops c mtF n len 0 9 ops.toList kinit = (e, l) := ⟨_, _, rfl⟩
 rw [hko] at h
 split at h
 rotate_left
 ·cases h
 rename_i e' heq
 simp only [Prod.mk.injEq] at heq
 obtain ⟨rfl, rfl⟩ := heq
 simp only [Bool.and_eq_true, beq_iff_eq] at h
 refine W.region (kops_ok (C := kcOf mt bk o m cap i len kk cur) (jc := 0) (kc := 9) hA htx hkk hi num9 ops.toList kinit s w h5.ke h5.un h5.g (kin_of hb hsz hi) _ (fun s' w' hE hn hk => ?_))
 rw [show kops c mtF n (kcOf mt bk o m cap i len kk cur).s 0 9 ops.toList kinit = (e, []) from hko] at hE ⊢
 have et : s' t = .bool false := by have := hE t; rw [h.1] at this; exact this
 exact R.nil (W.cond (b := false) et (W.skip (hK s' w' (S5.of hE h.2 hn (hk.glob' h5.g)) hk)))
theorem mFields_ok (hA : Agree P c) (htx : TextOk P mt mtF) (hsub : ∀ p ∈ subs, MarkOk P mt p.1 p.2) (hB : k0 + sumN N (m * ks.length) ≤ 1152921504606846976) (hgn : globN ≤ bk) (hgT : ∀ p b, Ts p b → globN ≤ b) (hi : i < m) {J : Exit → (Nat → Value) → World → Prop} :
  ∀ (k : List Kd) (j : Nat) (codes : List Code) (s : Nat → Value) (w : World) (cur : Array Value), ks.drop j = k → mFields c mtF n ks.length subs k j codes = true → S5 n (.slice (some ⟨bk, o, none⟩) m cap) i (k0 + sumN N (i * ks.length + j)) s w → SlInv mt w0 w ks bk o m cur ty N Ts k0 (i * ks.length + j) →
  (∀ s' w' cur', S5 n (.slice (some ⟨bk, o, none⟩) m cap) i (k0 + sumN N ((i + 1) * ks.length)) s' w' → SlInv mt w0 w' ks bk o m cur' ty N Ts k0 ((i + 1) * ks.length) → J .normal s' w') → j ≤ ks.length → WL P n codes s w J := by
 intro k
 induction k with
 | nil =>
  intro j codes s w cur hk hc h5 hS hJ hjl
  have : j = ks.length := by
   have := List.drop_eq_nil_iff.1 hk
   omega
  subst this
  obtain rfl : codes = [] := by simpa [mFields] using hc
  have e : i * ks.length + ks.length = (i + 1) * ks.length := by rw [Nat.add_mul, Nat.one_mul]
  rw [e] at h5 hS
  exact hJ s w cur h5 hS
 | cons kd k ih =>
  intro j codes s w cur hk hc h5 hS hJ hjl
  have hj : ks[j]? = some kd := by
   have := List.getElem?_drop (xs := ks) (i := j) (j := 0)
   rw [hk] at this
   simpa using this.symm
  have hjlt : j < ks.length := (gs_ hj).1
  have hk' : ks.drop (j + 1) = k := by
   have := List.drop_drop (i := 1) (j := j) (l := ks)
   rw [hk] at this
   rw [← this]
   rfl
  have hp := rowlt hi hjlt
  have hkk : k0 + sumN N (i * ks.length + j) < 4611686018427387904 := by
   have := sumN_le (N := N) (Nat.le_of_lt hp); omega
  rw [mFields] at hc
  cases hf1 : mField1 c mtF n ks.length subs kd j codes with
  | none => rw [hf1] at hc; cases hc
  | some rest =>
  rw [hf1] at hc
  have h3 : mFields c mtF n ks.length subs k (j + 1) rest = true := hc
  clear hc
  unfold mField1 at hf1
  split at hf1
  ·rename_i hl
   split at hf1
   ·rename_i rest'
    split at hf1
    rotate_left
    ·cases hf1
    rename_i hcc
    injection hf1 with hf1
    subst hf1
    rw [Bool.and_eq_true] at hcc
    obtain ⟨h1, h2⟩ := hcc
    refine leafSt_ok hA htx hB h1 hi hj hl h5 hS (fun s1 w1 cur1 g5 n1 gS _ => ?_) hgn
    refine inc_ok hA htx hkk h2 hi g5 gS.hb gS.hsz (fun s2 w2 q5 qk => ?_)
    refine ih (j + 1) _ s2 w2 cur1 hk' h3 ?_ ?_ hJ hjlt
    ·have e : k0 + sumN N (i * ks.length + (j + 1)) = k0 + sumN N (i * ks.length + j) + 1 := by
      rw [← Nat.add_assoc (i * ks.length), sumN, n1, Nat.add_assoc]
     rw [e]
     exact q5
    ·rw [← Nat.add_assoc]
     exact gS.kept qk
   ·cases hf1
  ·rename_i hl
   split at hf1
   ·rename_i rest'
    split at hf1
    ·rename_i f hf
     split at hf1
     rotate_left
     ·cases hf1
     rename_i h1
     injection hf1 with hf1
     subst hf1
     obtain ⟨hkn, hmk⟩ := knows_ok (Q := MarkOk P mt) h1 hsub
     have hlt : o + i * ks.length + j < cur.size := by have := hS.hsz; omega
     have hv : cur[o + (i * ks.length + j)]? = some (cur.getD (o + i * ks.length + j) undef) := by
      rw [← Nat.add_assoc]
      simp [hlt]
     have htd := hS.todo (i * ks.length + j) kd _ (Nat.le_refl _) hp (by rw [rowmod hjlt]; exact hj) hv
     have hle : sumN N (i * ks.length + j) + N (i * ks.length + j) ≤ sumN N (m * ks.length) := sumN_le (N := N) (p := i * ks.length + j + 1) hp
     refine sub_ok (B := fun w w2 => Mod (Ts (i * ks.length + j)) w w2 ∧ MT mt true w2 kd (cur.getD (o + i * ks.length + j) undef) (k0 + sumN N (i * ks.length + j)) (N (i * ks.length + j)) (Ts (i * ks.length + j))) (nn := N (i * ks.length + j)) hA htx hkk hf hi hkn h5 hS.hb hS.hsz (fun w1 hk1 => ?_) (fun s1 w1 w2 hk1 hB2 g5 => ?_)
     ·have hS1 := hS.kept hk1
      refine (hmk (Ts (i * ks.length + j)) _ (N (i * ks.length + j)) _ w1 (hk1.glob' h5.g) (fun b hb => ⟨hgT _ b hb, hS1.lt _ b hb⟩) (hS1.todo _ kd _ (Nat.le_refl _) hp (by rw [rowmod hjlt]; exact hj) hv) (by omega)).mono (fun e w2 h => ?_)
      obtain ⟨g1, g2, g3⟩ := h
      exact ⟨g1, g2.glob (fun k hk => hgT _ k hk) (hk1.glob' h5.g), g2, g3⟩
     ·refine ih (j + 1) _ s1 w2 cur hk' h3 ?_ ?_ hJ hjlt
      ·have e : k0 + sumN N (i * ks.length + (j + 1)) = k0 + sumN N (i * ks.length + j) + N (i * ks.length + j) := by
        rw [← Nat.add_assoc (i * ks.length), sumN, Nat.add_assoc]
       rw [e]
       exact g5
      ·rw [← Nat.add_assoc]
       exact (hS.kept hk1).sub hp (by rw [rowmod hjlt]; exact hj) hv hB2.1 hB2.2
    ·cases hf1
   ·cases hf1
theorem hFields_ok (hm : P.follows .mixedOrders = true) (hA : Agree P c) (htx : TextOk P mt mtF) (hsub : ∀ p ∈ subs, HeldOk P mt p.1 p.2) (hB : k0 + sumN N (m * ks.length) ≤ 1152921504606846976) (hi : i < m) {J : Exit → (Nat → Value) → World → Prop}
  (hb0 : w0.heap[bk]? = some (.cells cur ty (0, 0))) (hsz : o + m * ks.length ≤ cur.size) (hlt : ∀ p b, Ts p b → b < w0.heap.size)
  (hmt : ∀ (q : Nat) (kd : Kd) (v : Value), q < m * ks.length → ks[q % ks.length]? = some kd → cur[o + q]? = some v → MT mt true w0 kd v (k0 + sumN N q) (N q) (Ts q)) :
  ∀ (k : List Kd) (j : Nat) (codes : List Code) (s : Nat → Value) (w : World), ks.drop j = k → hFields c mtF n ks.length subs k j codes = true → S5 n (.slice (some ⟨bk, o, none⟩) m cap) i (k0 + sumN N (i * ks.length + j)) s w → Kept w0 w →
  (∀ s' w', S5 n (.slice (some ⟨bk, o, none⟩) m cap) i (k0 + sumN N ((i + 1) * ks.length)) s' w' → Kept w0 w' → J .normal s' w') → j ≤ ks.length → WL P n codes s w J := by
 intro k
 induction k with
 | nil =>
  intro j codes s w hk hc h5 hS hJ hjl
  have : j = ks.length := by
   have := List.drop_eq_nil_iff.1 hk
   omega
  subst this
  obtain rfl : codes = [] := by simpa [hFields] using hc
  have e : i * ks.length + ks.length = (i + 1) * ks.length := by rw [Nat.add_mul, Nat.one_mul]
  rw [e] at h5
  exact hJ s w h5 hS
 | cons kd k ih =>
  intro j codes s w hk hc h5 hS hJ hjl
  have hj : ks[j]? = some kd := by
   have := List.getElem?_drop (xs := ks) (i := j) (j := 0)
   rw [hk] at this
   simpa using this.symm
  have hjlt : j < ks.length := (gs_ hj).1
  have hk' : ks.drop (j + 1) = k := by
   have := List.drop_drop (i := 1) (j := j) (l := ks)
   rw [hk] at this
   rw [← this]
   rfl
  have hp := rowlt hi hjlt
  have hkk : k0 + sumN N (i * ks.length + j) < 4611686018427387904 := by
   have := sumN_le (N := N) (Nat.le_of_lt hp); omega
  have hlt2 : o + i * ks.length + j < cur.size := by omega
  have hv : cur[o + (i * ks.length + j)]? = some (cur.getD (o + i * ks.length + j) undef) := by
   rw [← Nat.add_assoc]
   simp [hlt2]
  have hcell := hmt (i * ks.length + j) kd _ hp (by rw [rowmod hjlt]; exact hj) hv
  have hbw : ∀ w', Kept w0 w' → w'.heap[bk]? = some (.cells cur ty (0, 0)) := fun w' hk => (hk.2.2.2.2 bk (blk_lt hb0)).trans hb0
  rw [hFields] at hc
  cases hf1 : hField1 c mtF n ks.length subs kd j codes with
  | none => rw [hf1] at hc; cases hc
  | some rest =>
  rw [hf1] at hc
  have h3 : hFields c mtF n ks.length subs k (j + 1) rest = true := hc
  clear hc
  unfold hField1 at hf1
  split at hf1
  ·rename_i hl
   split at hf1
   ·rename_i rest'
    split at hf1
    rotate_left
    ·cases hf1
    rename_i hcc
    injection hf1 with hf1
    subst hf1
    rw [Bool.and_eq_true] at hcc
    obtain ⟨h1, h2⟩ := hcc
    obtain ⟨n1, _, n3⟩ := hcell.one hl
    refine leafCh_ok hm hA htx hkk h1 hi (n3 rfl) h5 (hbw w hS) hsz (fun s1 w1 g5 gk => ?_)
    refine inc_ok hA htx hkk h2 hi g5 (hbw w1 (hS.tr gk)) hsz (fun s2 w2 q5 qk => ?_)
    refine ih (j + 1) _ s2 w2 hk' h3 ?_ ((hS.tr gk).tr qk) hJ hjlt
    have e : k0 + sumN N (i * ks.length + (j + 1)) = k0 + sumN N (i * ks.length + j) + 1 := by
     rw [← Nat.add_assoc (i * ks.length), sumN, n1, Nat.add_assoc]
    rw [e]
    exact q5
   ·cases hf1
  ·rename_i hl
   split at hf1
   ·rename_i rest'
    split at hf1
    ·rename_i f hf
     split at hf1
     rotate_left
     ·cases hf1
     rename_i hcc
     injection hf1 with hf1
     subst hf1
     rw [Bool.and_eq_true] at hcc
     obtain ⟨h1, h2⟩ := hcc
     obtain ⟨hkn, hmk⟩ := knows_ok (Q := HeldOk P mt) h1 hsub
     have hle : sumN N (i * ks.length + j) + N (i * ks.length + j) ≤ sumN N (m * ks.length) := sumN_le (N := N) (p := i * ks.length + j + 1) hp
     refine sub_ok (B := fun w w2 => Kept w w2) (nn := N (i * ks.length + j)) hA htx hkk hf hi hkn h5 (hbw w hS) hsz (fun w1 hk1 => ?_) (fun s1 w1 w2 hk1 hB2 g5 => ?_)
     ·have hS1 := hS.tr hk1
      refine (hmk (Ts (i * ks.length + j)) _ (N (i * ks.length + j)) _ w1 (hk1.glob' h5.g) (fun b hb => Nat.lt_of_lt_of_le (hlt _ b hb) hS1.2.2.2.1) (hcell.mono (fun b hb => hS1.2.2.2.2 b (hlt _ b hb))) (by omega)).mono (fun e w2 h => ?_)
      obtain ⟨g1, g2⟩ := h
      exact ⟨g1, g2.glob' (hk1.glob' h5.g), g2⟩
     ·have hS2 := (hS.tr hk1).tr hB2
      refine neg_ok hA htx (by omega) h2 hi g5 (hbw w2 hS2) hsz (fun s2 w3 q5 qk => ?_)
      refine ih (j + 1) _ s2 w3 hk' h3 ?_ (hS2.tr qk) hJ hjlt
      have e : k0 + sumN N (i * ks.length + (j + 1)) = k0 + sumN N (i * ks.length + j) + N (i * ks.length + j) := by
       rw [← Nat.add_assoc (i * ks.length), sumN, Nat.add_assoc]
      rw [e]
      exact q5
    ·cases hf1
   ·cases hf1
end
end Go.Am
end
section
set_option linter.unusedVariables false
set_option linter.unusedSimpArgs false
namespace Go.Am
open Go Go.RowKit
def mvOf (o : Oper) (x : Nat) : Option Nat :=
 match o.op, o.dst, o.guard with
 | .move (.tmp y), some d, none => if y = x then some d else none
 | _, _, _ => none
def asOf (o : Oper) (x d : Nat) : Bool :=
 match o.op, o.dst, o.guard with
 | .assign (.tmp y), some d', none => y == x && d' == d
 | _, _, _ => false
def as0Of (o : Oper) (d : Nat) : Bool :=
 match o.op, o.dst, o.guard with
 | .assign (.const (.int .i64 0)), some d', none => d' == d
 | _, _, _ => false
def lenOf (c : Cfg) (o : Oper) (x : Nat) : Option Nat :=
 match o.op, o.dst, o.guard with
 | .call ⟨.builtin .len, args, ts⟩, some d, none => match args.toList, ts.toList with
  | [.tmp y], [t] => match c.ty t with
   | some i => match i.d with
    | .slice _ => if y = x then some d else none
    | _ => none
   | none => none
  | _, _ => none
 | _, _, _ => none
def isI64 (c : Cfg) (t : Nat) : Bool :=
 match c.ty t with
 | some i => match i.d with
  | .int .i64 => true
  | _ => false
 | none => false
def lssOf (c : Cfg) (o : Oper) (x y t : Nat) : Bool :=
 match o.op, o.dst, o.guard with
 | .binOp .lss tt (.tmp x') (.tmp y') _, some d, none => x' == x && y' == y && d == t && isI64 c tt
 | _, _, _ => false
def add1Of (c : Cfg) (o : Oper) (x : Nat) : Option Nat :=
 match o.op, o.dst, o.guard with
 | .binOp .add tt (.tmp x') (.const (.int .i64 1)) _, some d, none => if x' = x ∧ isI64 c tt = true then some d else none
 | _, _, _ => none
def isHead (c : Cfg) (n : Nat) (r : Array Oper) (t : Nat) : Bool :=
 match r.toList with
 | [o0, o1, o2, o3] => match mvOf o0 5, mvOf o1 0 with
  | some d0, some d1 => match lenOf c o2 d1 with
   | some d2 => lssOf c o3 d0 d2 t && decide (6 ≤ d0 ∧ d0 < n ∧ 6 ≤ d1 ∧ d1 < n ∧ 6 ≤ d2 ∧ d2 < n ∧ 6 ≤ t ∧ t < n ∧ d0 ≠ d1 ∧ d0 ≠ d2 ∧ d1 ≠ d2)
   | none => false
  | _, _ => false
 | _ => false
def isNext (c : Cfg) (n : Nat) (r : Array Oper) : Bool :=
 match r.toList with
 | [o0, o1, o2] => match mvOf o0 5 with
  | some d0 => match add1Of c o1 d0 with
   | some d1 => asOf o2 d1 5 && decide (6 ≤ d0 ∧ d0 < n ∧ 6 ≤ d1 ∧ d1 < n ∧ 5 < n)
   | none => false
  | none => false
 | _ => false
def isOut (n : Nat) (r : Array Oper) : Bool :=
 match r.toList with
 | [o0, o1] => match mvOf o0 1 with
  | some d0 => asOf o1 d0 4 && decide (6 ≤ d0 ∧ d0 < n ∧ 4 < n)
  | none => false
 | _ => false
def isZero (n d : Nat) (r : Array Oper) : Bool :=
 match r.toList with
 | [o0] => as0Of o0 d && decide (d < n)
 | _ => false
def slLoop (c : Cfg) (n b0 : Nat) (fields : List Code → Bool) (L : Code) : Bool :=
 match flatC L with
 | [.region _ rc false, .cond (.tmp t) .skip (.exit b0'), .block b1 B, .region _ ri false] => b0' == b0 && isHead c n rc t && fields (flatC B) && isNext c n ri
 | _ => false
def slFn (c : Cfg) (n : Nat) (fields : List Code → Bool) (code : Code) : Bool :=
 match flatC code with
 | [.region _ r0 false, .region _ r1 false, .block b0 (.loop L), .region _ r3 false, .ret] => isZero n 4 r0 && isZero n 5 r1 && slLoop c n b0 fields L && isOut n r3
 | _ => false
section
variable {P : Program} {c : Cfg} {n d : Nat} {s : Nat → Value} {w w' : World} {o : Oper} {a : Option Addr} {m cap i kk : Nat}
theorem mv_ok {x : Nat} (h : mvOf o x = some d) : o.guard = none ∧ o.dst = some d ∧ (execOp (evs s) o).run P w = .ok (.value (s x)) w := by
 unfold mvOf at h
 split at h
 ·rename_i y d' ho hd hg
  split at h
  ·rename_i e
   injection h with h
   subst h; subst e
   exact ⟨hg, hd, by simp [execOp, ho, evs]⟩
  ·cases h
 ·cases h
theorem as_ok {x : Nat} (h : asOf o x d = true) : o.guard = none ∧ o.dst = some d ∧ (execOp (evs s) o).run P w = .ok (.value (s x)) w := by
 unfold asOf at h
 split at h
 ·rename_i y d' ho hd hg
  simp only [Bool.and_eq_true, beq_iff_eq] at h
  obtain ⟨rfl, rfl⟩ := h
  exact ⟨hg, hd, by simp [execOp, ho, evs]⟩
 ·cases h
theorem as0_ok (h : as0Of o d = true) : o.guard = none ∧ o.dst = some d ∧ (execOp (evs s) o).run P w = .ok (.value (.int .i64 0)) w := by
 unfold as0Of at h
 split at h
 ·rename_i d' ho hd hg
  simp only [beq_iff_eq] at h
  subst h
  exact ⟨hg, hd, by simp [execOp, ho, evs]⟩
 ·cases h
theorem len_ok {x : Nat} (hA : Agree P c) (h : lenOf c o x = some d) (hx : s x = .slice a m cap) : o.guard = none ∧ o.dst = some d ∧ (execOp (evs s) o).run P w = .ok (.value (.int .i64 (m : Int))) w := by
 unfold lenOf at h
 split at h
 ·rename_i args ts d' ho hd hg
  split at h
  ·rename_i y t hargs hts
   split at h
   ·rename_i ti hti
    split at h
    ·rename_i e he
     split at h
     ·rename_i e'
      injection h with h
      subst h; subst e'
      obtain ⟨tj, aj⟩ := hA _ _ hti
      obtain rfl := arr1 hargs
      obtain rfl := arr1 hts
      exact ⟨hg, hd, by simp [execOp, ho, evs, hx, resolve, invoke, builtin, Builtin.len_, run_underlying (aj.slice _ he), goInt]⟩
     ·cases h
    ·cases h
   ·cases h
  ·cases h
 ·cases h
theorem isI64_ok {t : Nat} (h : isI64 c t = true) : ∃ i, c.ty t = some i ∧ i.d = .int .i64 := by
 unfold isI64 at h
 split at h
 ·rename_i i hi
  split at h
  ·rename_i hd; exact ⟨i, hi, hd⟩
  ·cases h
 ·cases h
theorem lss_ok {x y t : Nat} (hA : Agree P c) (hg : globOk w) (hn : ∀ i, n ≤ i → s i = undef) (h : lssOf c o x y t = true) (hxy : y ≠ x) (hx : s x = .int .i64 (i : Int)) (hy : s y = .int .i64 (m : Int)) (hxn : x < n) (hyn : y < n) :
  o.guard = none ∧ o.dst = some t ∧ (execOp (evs s) o).run P w = .ok (.value (.bool (decide (i < m)))) w := by
 unfold lssOf at h
 split at h
 ·rename_i tt x' y' t' d' ho hd hgd
  simp only [Bool.and_eq_true, beq_iff_eq] at h
  obtain ⟨⟨⟨rfl, rfl⟩, rfl⟩, hi⟩ := h
  obtain ⟨ti, h1, h2⟩ := isI64_ok hi
  obtain ⟨z, g1, Γ, g2⟩ := scal_bin (v := .int .i64 (i : Int)) (u := .int .i64 (m : Int)) (r := .bool (decide ((i : Int) < (m : Int)))) hA hg hn ho h1 hxn (by rw [hx]; exact .int _ _) (.inl ⟨_, rfl, hyn, hxy, by rw [hy]; exact .int _ _⟩) (by simp [binV, intOp, cmpInt])
  rw [g2.bool_inv] at g1
  refine ⟨hgd, hd, ?_⟩
  rw [g1]
  congr 4
  simp
 ·cases h
theorem add1_ok {x : Nat} (hA : Agree P c) (hg : globOk w) (hn : ∀ i, n ≤ i → s i = undef) (h : add1Of c o x = some d) (hx : s x = .int .i64 (i : Int)) (hi : i < 4611686018427387904) (hxn : x < n) :
  o.guard = none ∧ o.dst = some d ∧ (execOp (evs s) o).run P w = .ok (.value (.int .i64 ((i + 1 : Nat) : Int))) w := by
 unfold add1Of at h
 split at h
 ·rename_i tt x' t' d' ho hd hgd
  split at h
  ·rename_i hc
   injection h with h
   subst h
   obtain ⟨rfl, hi64⟩ := hc
   obtain ⟨ti, h1, h2⟩ := isI64_ok hi64
   obtain ⟨z, g1, Γ, g2⟩ := scal_bin (v := .int .i64 (i : Int)) (u := .int .i64 1) (r := .int .i64 ((i + 1 : Nat) : Int)) hA hg hn ho h1 hxn (by rw [hx]; exact .int _ _) (.inr ⟨_, rfl, rfl⟩) (by simp [binV, intOp, cmpInt, arith]; exact wrap_small (n := i + 1) (by omega))
   rw [g2.int_inv] at g1
   exact ⟨hgd, hd, g1⟩
  ·cases h
 ·cases h
theorem S5.up {x : Value} (h : S5 n x i kk s w) {d : Nat} {v : Value} (hd : 6 ≤ d) (hn : d < n) : S5 n x i kk (upd s d v) w :=
 ⟨by rw [upd_ne (by omega)]; exact h.s0, by rw [upd_ne (by omega)]; exact h.s1, by rw [upd_ne (by omega)]; exact h.s5, undef_upd h.un hn v, h.g⟩
theorem head_ok {r : Array Oper} {t id : Nat} {K : List Code} {J : Exit → (Nat → Value) → World → Prop} (hA : Agree P c) (h : isHead c n r t = true) (h5 : S5 n (.slice a m cap) i kk s w)
  (hK : ∀ s', S5 n (.slice a m cap) i kk s' w → s' t = .bool (decide (i < m)) → WL P n K s' w J) : WL P n (.region id r false :: K) s w J := by
 unfold isHead at h
 split at h
 rotate_left
 ·cases h
 rename_i o0 o1 o2 o3 hr
 split at h
 rotate_left
 ·cases h
 rename_i d0 d1 hd0 hd1
 split at h
 rotate_left
 ·cases h
 rename_i d2 hd2
 rw [Bool.and_eq_true, decide_eq_true_eq] at h
 obtain ⟨h3, q0, q0', q1, q1', q2, q2', q3, q3', n1, n2, n3⟩ := h
 refine W.region ?_
 rw [hr]
 obtain ⟨a1, a2, a3⟩ := mv_ok (P := P) (s := s) (w := w) hd0
 refine R.value a1 a2 q0' a3 ?_
 obtain ⟨b1, b2, b3⟩ := mv_ok (P := P) (s := upd s d0 (s 5)) (w := w) hd1
 refine R.value b1 b2 q1' b3 ?_
 have hS1 := (h5.up (v := s 5) q0 q0').up (v := upd s d0 (s 5) 0) q1 q1'
 obtain ⟨c1, c2, c3⟩ := len_ok (P := P) (w := w) (s := upd (upd s d0 (s 5)) d1 (upd s d0 (s 5) 0)) (a := a) (m := m) (cap := cap) hA hd2 (by rw [upd_same, upd_ne (by omega)]; exact h5.s0)
 refine R.value c1 c2 q2' c3 ?_
 have hS2 := hS1.up (v := .int .i64 (m : Int)) q2 q2'
 obtain ⟨e1, e2, e3⟩ := lss_ok (P := P) (w := w) hA h5.g hS2.un h3 (fun e => n2 e.symm) (by rw [upd_ne n2, upd_ne n1, upd_same]; exact h5.s5) (by rw [upd_same]) q0' q2'
 exact R.value e1 e2 q3' e3 (R.nil (hK _ (hS2.up q3 q3') upd_same))
theorem next_ok {x : Value} {r : Array Oper} {id : Nat} {K : List Code} {J : Exit → (Nat → Value) → World → Prop} (hA : Agree P c) (h : isNext c n r = true) (hi : i < 4611686018427387904) (h5 : S5 n x i kk s w)
  (hK : ∀ s', S5 n x (i + 1) kk s' w → WL P n K s' w J) : WL P n (.region id r false :: K) s w J := by
 unfold isNext at h
 split at h
 rotate_left
 ·cases h
 rename_i o0 o1 o2 hr
 split at h
 rotate_left
 ·cases h
 rename_i d0 hd0
 split at h
 rotate_left
 ·cases h
 rename_i d1 hd1
 rw [Bool.and_eq_true, decide_eq_true_eq] at h
 obtain ⟨h3, q0, q0', q1, q1', q5⟩ := h
 refine W.region ?_
 rw [hr]
 obtain ⟨a1, a2, a3⟩ := mv_ok (P := P) (s := s) (w := w) hd0
 refine R.value a1 a2 q0' a3 ?_
 have hS0 := h5.up (v := s 5) q0 q0'
 obtain ⟨b1, b2, b3⟩ := add1_ok (P := P) (w := w) hA h5.g hS0.un hd1 (by rw [upd_same]; exact h5.s5) hi q0'
 refine R.value b1 b2 q1' b3 ?_
 have hS1 := hS0.up (v := .int .i64 ((i + 1 : Nat) : Int)) q1 q1'
 obtain ⟨c1, c2, c3⟩ := as_ok (P := P) (w := w) (s := upd (upd s d0 (s 5)) d1 (.int .i64 ((i + 1 : Nat) : Int))) h3
 rw [upd_same] at c3
 exact R.value c1 c2 q5 c3 (R.nil (hK _ ⟨by rw [upd_ne (by decide)]; exact hS1.s0, by rw [upd_ne (by decide)]; exact hS1.s1, upd_same, undef_upd hS1.un q5 _, h5.g⟩))
theorem out_ok {x : Value} {r : Array Oper} {id : Nat} {K : List Code} {J : Exit → (Nat → Value) → World → Prop} (h : isOut n r = true) (h5 : S5 n x i kk s w)
  (hK : ∀ s', s' 4 = .int .i64 (kk : Int) → WL P n K s' w J) : WL P n (.region id r false :: K) s w J := by
 unfold isOut at h
 split at h
 rotate_left
 ·cases h
 rename_i o0 o1 hr
 split at h
 rotate_left
 ·cases h
 rename_i d0 hd0
 rw [Bool.and_eq_true, decide_eq_true_eq] at h
 obtain ⟨h3, q0, q0', q4⟩ := h
 refine W.region ?_
 rw [hr]
 obtain ⟨a1, a2, a3⟩ := mv_ok (P := P) (s := s) (w := w) hd0
 refine R.value a1 a2 q0' a3 ?_
 obtain ⟨c1, c2, c3⟩ := as_ok (P := P) (w := w) (s := upd s d0 (s 1)) h3
 rw [upd_same] at c3
 exact R.value c1 c2 q4 c3 (R.nil (hK _ (upd_same.trans h5.s1)))
theorem zero_ok {r : Array Oper} {id : Nat} {K : List Code} {J : Exit → (Nat → Value) → World → Prop} (h : isZero n d r = true) (hK : d < n → WL P n K (upd s d (.int .i64 0)) w J) : WL P n (.region id r false :: K) s w J := by
 unfold isZero at h
 split at h
 rotate_left
 ·cases h
 rename_i o0 hr
 rw [Bool.and_eq_true, decide_eq_true_eq] at h
 obtain ⟨h1, h2⟩ := h
 refine W.region ?_
 rw [hr]
 obtain ⟨a1, a2, a3⟩ := as0_ok (P := P) (s := s) (w := w) h1
 exact R.value a1 a2 h2 a3 (R.nil (hK h2))
theorem loop_ok {b0 : Nat} {L : Code} {fields : List Code → Bool} {K : List Code} {J : Exit → (Nat → Value) → World → Prop} (hA : Agree P c) (h : slLoop c n b0 fields L = true) (hm : m ≤ 1152921504606846976) (I : Nat → Nat → World → Prop)
  (round : ∀ (i kk : Nat) (codes : List Code) (s : Nat → Value) (w : World) (J' : Exit → (Nat → Value) → World → Prop), i < m → fields codes = true → S5 n (.slice a m cap) i kk s w → I i kk w → (∀ s' w' kk', S5 n (.slice a m cap) i kk' s' w' → I (i + 1) kk' w' → J' .normal s' w') → WL P n codes s w J')
  (h5 : S5 n (.slice a m cap) 0 kk s w) (hI : I 0 kk w) (hK : ∀ s' w' kk', S5 n (.slice a m cap) m kk' s' w' → I m kk' w' → WL P n K s' w' J) : WL P n (.block b0 (.loop L) :: K) s w J := by
 unfold slLoop at h
 split at h
 rotate_left
 ·cases h
 rename_i ic rc t b0' b1 B ii ri hL
 simp only [Bool.and_eq_true, beq_iff_eq] at h
 obtain ⟨⟨⟨rfl, h1⟩, h2⟩, h3⟩ := h
 refine W.block (W.loop (fun mm s w => ∃ i kk, mm = m - i ∧ i ≤ m ∧ S5 n (.slice a m cap) i kk s w ∧ I i kk w) (m := m) ⟨0, kk, rfl, Nat.zero_le _, h5, hI⟩ (fun mm s w hh => ?_))
 obtain ⟨i, kk, rfl, him, g5, gI⟩ := hh
 refine WL.code ?_
 rw [hL]
 refine head_ok hA h1 g5 (fun s1 q5 qt => ?_)
 refine W.cond qt ?_
 by_cases hlt : i < m
 ·rw [decide_eq_true hlt]
  refine W.skip ?_
  show WL P n _ s1 w _
  refine W.block ?_
  refine WL.code ?_
  refine round i kk (flatC B) s1 w _ hlt h2 q5 gI (fun s2 w2 kk2 r5 rI => ?_)
  show WL P n _ s2 w2 _
  refine next_ok hA h3 (by omega) r5 (fun s3 t5 => ?_)
  exact ⟨m - (i + 1), by omega, i + 1, kk2, rfl, hlt, t5, rI⟩
 ·rw [decide_eq_false hlt]
  refine W.exit ?_
  obtain rfl : i = m := by omega
  show (if b0' = b0' then _ else _)
  rw [if_pos rfl]
  exact hK s1 w kk q5 gI
theorem slFn_ok {f : Nat} {fn : Func} {code : Code} {fields : List Code → Bool} {B : Ending → World → Prop} (hA : Agree P c) (hf : P.funcs[f]? = some fn) (hb : fn.body = some code) (hr : fn.results = #[.tmp 4]) (hn : fn.ntmps = n) (h : slFn c n fields code = true) (hm : m ≤ 1152921504606846976) (I : Nat → Nat → World → Prop) (hg : globOk w)
  (round : ∀ (i kk : Nat) (codes : List Code) (s : Nat → Value) (w : World) (J' : Exit → (Nat → Value) → World → Prop), i < m → fields codes = true → S5 n (.slice a m cap) i kk s w → I i kk w → (∀ s' w' kk', S5 n (.slice a m cap) i kk' s' w' → I (i + 1) kk' w' → J' .normal s' w') → WL P n codes s w J')
  (hI : I 0 kk w) (hK : ∀ kk' w', I m kk' w' → B (.returned (.int .i64 (kk' : Int))) w') : Calls P f #[.slice a m cap, .int .i64 (kk : Int)] w B := by
 unfold slFn at h
 split at h
 rotate_left
 ·cases h
 rename_i i0 r0 i1 r1 b0 L i3 r3 hcode
 simp only [Bool.and_eq_true] at h
 obtain ⟨⟨⟨h0, h1⟩, h2⟩, h3⟩ := h
 have hn4 : 5 < n := by
  unfold isZero at h1
  split at h1
  ·rw [Bool.and_eq_true, decide_eq_true_eq] at h1; exact h1.2
  ·cases h1
 refine calls_W hf hb hr (by rw [hn]; show 2 ≤ n; omega) ?_
 rw [hn]
 refine WL.code ?_
 rw [hcode]
 refine zero_ok h0 (fun q4 => ?_)
 refine zero_ok h1 (fun q5 => ?_)
 refine loop_ok hA h2 hm I round (kk := kk) ⟨?_, ?_, ?_, ?_, hg⟩ hI (fun s' w' kk' r5 rI => ?_)
 ·rw [upd_ne (by decide), upd_ne (by decide)]; rfl
 ·rw [upd_ne (by decide), upd_ne (by decide)]; rfl
 ·rw [upd_same]; rfl
 ·refine undef_upd (undef_upd (fun t ht => ?_) q4 _) q5 _
  show (#[_, _] : Array Value).getD t undef = undef
  rw [Array.getD_eq_getD_getElem?, Array.getElem?_eq_none (by show 2 ≤ t; omega)]
  rfl
 ·refine out_ok h3 r5 (fun s2 q => ?_)
  refine W.ret ?_
  show B (.returned (s2 4)) w'
  rw [q]
  exact hK kk' w' rI
end
section
variable {P : Program} {c : Cfg} {mt : Nat → List UInt8} {mtF : Nat} {subs : List (Nat × Kd)} {ks : List Kd}
theorem mark_sl {f : Nat} {fn : Func} {code : Code} (hA : Agree P c) (htx : TextOk P mt mtF) (hsub : ∀ p ∈ subs, MarkOk P mt p.1 p.2) (hf : P.funcs[f]? = some fn) (hb : fn.body = some code) (hr : fn.results = #[.tmp 4]) (hname : (fn.name == "runtime.NumGoroutine") = false)
  (h : slFn c fn.ntmps (mFields c mtF fn.ntmps ks.length subs ks 0) code = true) : MarkOk P mt f (.sl ks) := by
 refine ⟨⟨fn, hf, by rw [hb]; rfl, hname⟩, fun T x n k0 w hg hT hMT hB => ?_⟩
 cases hMT with
 | leaf _ _ _ _ h _ => exact h.elim
 | nil _ a cap _ _ =>
  refine slFn_ok hA hf hb hr rfl h (by omega) (fun i kk w' => i = 0 ∧ kk = k0 ∧ w' = w) hg (fun i kk codes s w J' hi => absurd hi (Nat.not_lt_zero _)) ⟨rfl, rfl, rfl⟩ (fun kk' w' hI => ?_)
  obtain ⟨_, rfl, rfl⟩ := hI
  exact ⟨rfl, Mod.refl _, .nil ks a cap _ T⟩
 | sl _ k o m cap _ cur ty N Ts _ h0 hm hbk hsz hc hd hk hTk hTs =>
  refine slFn_ok hA hf hb hr rfl h hm (fun i kk w' => kk = k0 + sumN N (i * ks.length) ∧ i ≤ m ∧ ∃ cur', SlInv mt w w' ks k o m cur' ty N Ts k0 (i * ks.length)) hg (fun i kk codes s w' J' hi hfl h5 hI hJ => ?_) ?_ (fun kk' w' hI => ?_)
  ·obtain ⟨rfl, hle, cur', hS⟩ := hI
   refine mFields_ok (w0 := w) (J := J') hA htx hsub hB (hT k hTk).1 (fun p b hb => (hT b (hTs p b hb)).1) hi ks 0 codes s w' cur' rfl hfl (by rw [Nat.add_zero]; exact h5) (by rw [Nat.add_zero]; exact hS) (fun s2 w2 cur2 q5 qS => hJ s2 w2 _ q5 ⟨rfl, hi, cur2, qS⟩) (Nat.zero_le _)
  ·refine ⟨by simp [sumN], Nat.zero_le _, cur, hbk, hsz, fun q kd v h1 => ?_, fun q kd v _ h1 h2 h3 => (hc q kd v h1 h2 h3).start 0, Mod.refl w, hd, hk, fun p x hx => (hT x (hTs p x hx)).2⟩
   rw [Nat.zero_mul] at h1
   exact absurd h1 (Nat.not_lt_zero _)
  ·obtain ⟨rfl, _, cur', hS⟩ := hI
   refine ⟨rfl, hS.mod.mono (fun b hb => ?_), ?_⟩
   ·rcases hb with rfl | ⟨q, hq⟩
    ·exact hTk
    ·exact hTs q b hq
   ·exact .sl ks k o m cap k0 cur' ty N Ts T h0 hm hS.hb hS.hsz (fun p kd v hp h1 h2 => hS.done p kd v hp hp h1 h2) hd hk hTk hTs
theorem held_sl {f : Nat} {fn : Func} {code : Code} (hmx : P.follows .mixedOrders = true) (hA : Agree P c) (htx : TextOk P mt mtF) (hsub : ∀ p ∈ subs, HeldOk P mt p.1 p.2) (hf : P.funcs[f]? = some fn) (hb : fn.body = some code) (hr : fn.results = #[.tmp 4]) (hname : (fn.name == "runtime.NumGoroutine") = false)
  (h : slFn c fn.ntmps (hFields c mtF fn.ntmps ks.length subs ks 0) code = true) : HeldOk P mt f (.sl ks) := by
 refine ⟨⟨fn, hf, by rw [hb]; rfl, hname⟩, fun T x n k0 w hg hT hMT hB => ?_⟩
 cases hMT with
 | leaf _ _ _ _ h _ => exact h.elim
 | nil _ a cap _ _ =>
  refine slFn_ok hA hf hb hr rfl h (by omega) (fun i kk w' => i = 0 ∧ kk = k0 ∧ w' = w) hg (fun i kk codes s w J' hi => absurd hi (Nat.not_lt_zero _)) ⟨rfl, rfl, rfl⟩ (fun kk' w' hI => ?_)
  obtain ⟨_, rfl, rfl⟩ := hI
  exact ⟨rfl, Kept.refl _⟩
 | sl _ k o m cap _ cur ty N Ts _ h0 hm hbk hsz hc hd hk hTk hTs =>
  refine slFn_ok hA hf hb hr rfl h hm (fun i kk w' => kk = k0 + sumN N (i * ks.length) ∧ i ≤ m ∧ Kept w w') hg (fun i kk codes s w' J' hi hfl h5 hI hJ => ?_) ?_ (fun kk' w' hI => ?_)
  ·obtain ⟨rfl, hle, hS⟩ := hI
   refine hFields_ok (w0 := w) (J := J') (Ts := Ts) (ty := ty) (cur := cur) hmx hA htx hsub hB hi hbk hsz (fun p b hb => hT b (hTs p b hb)) hc ks 0 codes s w' rfl hfl (by rw [Nat.add_zero]; exact h5) hS (fun s2 w2 q5 qS => hJ s2 w2 _ q5 ⟨rfl, hi, qS⟩) (Nat.zero_le _)
  ·exact ⟨by simp [sumN], Nat.zero_le _, Kept.refl w⟩
  ·obtain ⟨rfl, _, hS⟩ := hI
   exact ⟨rfl, hS⟩
end
end Go.Am
end
