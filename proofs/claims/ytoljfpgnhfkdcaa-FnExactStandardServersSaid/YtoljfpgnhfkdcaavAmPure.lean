/-
  The operations that write nothing, one by one.
-/
import Derived.Test.YtoljfpgnhfkdcaavAmEvOk2
import Derived.Below
import Derived.Test.YtoljfpgnhfkdcaavAmDen
import Derived.Laws.Cells
import Derived.Laws.CopyRow
import Derived.Laws.Entries
import Derived.Laws.StructEq
section
set_option linter.unusedVariables false
set_option linter.unusedSimpArgs false
namespace Go.Am
open Go
section
variable {α : Type}
theorem ck_dec {k : CK} (e : k.T) : k.dec (k.enc e) = some e := by
 cases k with
 | bool => rfl
 | int k => simp [CK.dec, CK.enc]
 | str => rfl
 | sl s f => simp [CK.dec, CK.enc]
theorem cells_dec : ∀ {ks : List CK} (e : cellsT ks), cellsDec ks (cellsEnc ks e) = some e := by
 intro ks
 induction ks with
 | nil => intro e; rfl
 | cons k ks ih =>
  intro e
  show (match k.dec (k.enc e.1), cellsDec ks (cellsEnc ks e.2) with
   | some a, some b => some (a, b)
   | _, _ => none) = some e
  rw [ck_dec, ih]
  rfl
theorem cells_one {k : CK} (e : cellsT [k]) : ∃ v, cellsEnc [k] e = [v] ∧ v.cells = [v] ∧ ∀ cs, v ≠ .agg cs := by
 cases k <;> exact ⟨_, rfl, rfl, fun _ h => by cases h⟩
theorem row_dec_true {ks : List CK} (e : cellsT ks) : rowDec true ks (rowEnc true ks e) = some e := cells_dec e
theorem row_dec_one {k : CK} (e : cellsT [k]) : rowDec false [k] (rowEnc false [k] e) = some e := by
 have := cells_dec e
 obtain ⟨v, h1, _, h3⟩ := cells_one e
 have h4 : rowEnc false [k] e = v := by
  show (cellsEnc [k] e).headD .undef = v
  rw [h1]; rfl
 rw [h4, ← this, h1]
 cases v <;> first | rfl | exact absurd rfl (h3 _)
def rows {T : Type} (ks : List CK) (g : T → cellsT ks) (ys : List T) : List V := ys.map (fun y => rowEnc true ks (g y))
def rows1 {T : Type} (k : CK) (g : T → k.T) (ys : List T) : List V := ys.map (fun y => k.enc (g y))
section
variable {T : Type} {ks : List CK} {g : T → cellsT ks} {kd : CK} {g1 : T → kd.T}
@[simp] theorem rows_len (ys : List T) : (rows ks g ys).length = ys.length := List.length_map _
@[simp] theorem rows1_len (ys : List T) : (rows1 kd g1 ys).length = ys.length := List.length_map _
@[simp] theorem rows_nil : rows ks g [] = [] := rfl
@[simp] theorem rows1_nil : rows1 kd g1 [] = [] := rfl
theorem rows1_app (xs ys : List T) : rows1 kd g1 xs ++ rows1 kd g1 ys = rows1 kd g1 (xs ++ ys) := (List.map_append ..).symm
theorem rows1_take (ys : List T) (n : Nat) : (rows1 kd g1 ys).take n = rows1 kd g1 (ys.take n) := (List.map_take ..).symm
theorem rows1_drop (ys : List T) (n : Nat) : (rows1 kd g1 ys).drop n = rows1 kd g1 (ys.drop n) := (List.map_drop ..).symm
theorem idx_rows {ys : List T} {i : Nat} {y : T} {k : cellsT ks → Option α} (h : ys[i]? = some y) : idx true ks (rows ks g ys) i k = k (g y) := by
 unfold idx rows
 rw [List.getElem?_map, h]
 simp only [Option.map_some, Option.bind_some, row_dec_true]
theorem idx_rows1 {ys : List T} {i : Nat} {y : T} {k : cellsT [kd] → Option α} (h : ys[i]? = some y) : idx false [kd] (rows1 kd g1 ys) i k = k (g1 y, ()) := by
 unfold idx rows1
 rw [List.getElem?_map, h]
 have : rowDec false [kd] (kd.enc (g1 y)) = some (g1 y, ()) := row_dec_one (k := kd) (g1 y, ())
 simp only [Option.map_some, Option.bind_some, this]
 rfl
end
@[simp] theorem br_true (x y : Option α) : br true x y = x := rfl
@[simp] theorem br_false (x y : Option α) : br false x y = y := rfl
theorem wrap_of {n : Int} (h1 : -9223372036854775808 ≤ n) (h2 : n ≤ 9223372036854775807) : IntKind.wrap .i64 n = n := by
 unfold IntKind.wrap
 simp [IntKind.bits, IntKind.signed, IntKind.min, IntKind.max]
 omega
theorem br_eq_ (b : Bool) (x y : Option α) : br b x y = if b = true then x else y := by cases b <;> rfl
theorem chkE {p : Prop} {d : Decidable p} {x y : Option α} (h : p) (e : x = y) : @chk α p d x = y := (if_pos h).trans e
theorem chkN {i : Nat} {d : Decidable ((0 : Int) ≤ (i : Int))} {x y : Option α} (e : x = y) : @chk α ((0 : Int) ≤ (i : Int)) d x = y := (if_pos (Int.natCast_nonneg i)).trans e
theorem idxE {T : Type} {ks : List CK} {g : T → cellsT ks} {ys : List T} {i : Nat} {y : T} {k : cellsT ks → Option α} {z : Option α} (h : ys[i]? = some y) (e : k (g y) = z) : idx true ks (rows ks g ys) i k = z := (idx_rows h).trans e
theorem idxE1 {T : Type} {kd : CK} {g1 : T → kd.T} {ys : List T} {i : Nat} {y : T} {k : cellsT [kd] → Option α} {z : Option α} (h : ys[i]? = some y) (e : k (g1 y, ()) = z) : idx false [kd] (rows1 kd g1 ys) i k = z := (idx_rows1 h).trans e
theorem brE {p : Prop} {d : Decidable p} {x y z : Option α} (h : p) (e : x = z) : br (@decide p d) x y = z := by rw [decide_eq_true h]; exact e
theorem brN {p : Prop} {d : Decidable p} {x y z : Option α} (h : ¬ p) (e : y = z) : br (@decide p d) x y = z := by rw [decide_eq_false h]; exact e
theorem brB {b c : Bool} {x y x' y' : Option α} (h : b = c) (hx : x = x') (hy : y = y') : br b x y = if c = true then x' else y' := by subst h; subst hx; subst hy; exact br_eq_ b x y
theorem wrapS {i : Nat} (h : i < 9223372036854775807) : IntKind.wrap .i64 ((i : Int) + 1) = ((i + 1 : Nat) : Int) := by
 rw [wrap_of (by omega) (by omega)]; omega
section
variable {T A R σ β : Type}
def runL (body : Nat → T → A → A ⊕ R) : Nat → List T → A → A ⊕ R
 | _, [], a => .inl a
 | i, y :: ys, a => match body i y a with
  | .inl a' => runL body (i + 1) ys a'
  | .inr r => .inr r
def outL (fin : A → β) (out : R → β) : A ⊕ R → β
 | .inl a => fin a
 | .inr r => out r
theorem while_runL {step : σ → Option (σ ⊕ β)} (S : Nat → A → σ) (out : R → β) (fin : A → β) (ys : List T) (body : Nat → T → A → A ⊕ R) (Inv : Nat → A → Prop)
  (h1 : ∀ i y a, ys[i]? = some y → Inv i a → step (S i a) = (match body i y a with
   | .inl a' => some (.inl (S (i + 1) a'))
   | .inr r => some (.inr (out r))))
  (hI : ∀ i y a a', ys[i]? = some y → Inv i a → body i y a = .inl a' → Inv (i + 1) a')
  (h2 : ∀ a, Inv ys.length a → step (S ys.length a) = some (.inr (fin a))) (a0 : A) (h0 : Inv 0 a0) (s0 : σ) (hs : s0 = S 0 a0) :
  whileInf step s0 = some (outL fin out (runL body 0 ys a0)) := by
 have key : ∀ (zs : List T) (i : Nat) (a : A), ys.drop i = zs → i ≤ ys.length → Inv i a → whileInf step (S i a) = some (outL fin out (runL body i zs a)) := by
  intro zs
  induction zs with
  | nil =>
   intro i a hd hi ha
   have : i = ys.length := by
    have := List.drop_eq_nil_iff.1 hd
    omega
   subst this
   rw [whileInf_step, h2 a ha]
   rfl
  | cons y zs ih =>
   intro i a hd hi ha
   have hy : ys[i]? = some y := by
    have := congrArg (fun l => l[0]?) hd
    simpa using this
   have hlt := (List.getElem?_eq_some_iff.1 hy).1
   have hd' : ys.drop (i + 1) = zs := by
    rw [← List.tail_drop, hd]
    rfl
   rw [whileInf_step, h1 i y a hy ha, runL]
   cases hb : body i y a with
   | inl a' => exact ih (i + 1) a' hd' (by omega) (hI i y a a' hy ha hb)
   | inr r => rfl
 rw [hs]
 exact key ys 0 a0 rfl (Nat.zero_le _) h0
theorem while_find {step : σ → Option (σ ⊕ β)} (S : Nat → σ) (ys : List T) (p : T → Bool) (hit : Nat → T → β) (fin : β)
  (h1 : ∀ i y, ys[i]? = some y → step (S i) = if p y then some (.inr (hit i y)) else some (.inl (S (i + 1)))) (h2 : step (S ys.length) = some (.inr fin)) (s0 : σ) (hs : s0 = S 0) :
  whileInf step s0 = some (match ys.findIdx? p with
   | some i => (match ys[i]? with
    | some y => hit i y
    | none => fin)
   | none => fin) := by
 have h := while_runL (A := Unit) (R := Nat × T) (fun i _ => S i) (fun r => hit r.1 r.2) (fun _ => fin) ys (fun i y _ => if p y then .inr (i, y) else .inl ()) (fun _ _ => True)
  (fun i y a hy _ => by rw [h1 i y hy]; cases p y <;> rfl) (fun _ _ _ _ _ _ _ => trivial) (fun _ _ => h2) () trivial s0 hs
 rw [h]
 have key : ∀ (zs : List T) (i : Nat), ys.drop i = zs → outL (fun _ : Unit => fin) (fun r : Nat × T => hit r.1 r.2) (runL (fun i y (_ : Unit) => if p y then .inr (i, y) else .inl ()) i zs ()) = (match (zs.findIdx? p).map (· + i) with
   | some i => (match ys[i]? with
    | some y => hit i y
    | none => fin)
   | none => fin) := by
  intro zs
  induction zs with
  | nil => intro i _; rfl
  | cons y zs ih =>
   intro i hd
   have hy : ys[i]? = some y := by
    have := congrArg (fun l => l[0]?) hd
    simpa using this
   have hd' : ys.drop (i + 1) = zs := by rw [← List.tail_drop, hd]; rfl
   rw [runL, List.findIdx?_cons]
   cases hp : p y with
   | true => simp [hy, outL]
   | false =>
    simp only [Bool.false_eq_true, if_false]
    rw [ih (i + 1) hd']
    cases zs.findIdx? p with
    | none => rfl
    | some j => simp [Nat.add_assoc, Nat.add_comm 1 i]
 rw [key ys 0 rfl]
 cases ys.findIdx? p <;> rfl
theorem while_any {step : σ → Option (σ ⊕ β)} (S : Nat → σ) (ys : List T) (p : T → Bool) (hit fin : β)
  (h1 : ∀ i y, ys[i]? = some y → step (S i) = if p y then some (.inr hit) else some (.inl (S (i + 1)))) (h2 : step (S ys.length) = some (.inr fin)) (s0 : σ) (hs : s0 = S 0) :
  whileInf step s0 = some (if ys.any p then hit else fin) := by
 rw [while_find S ys p (fun _ _ => hit) fin h1 h2 s0 hs]
 congr 1
 cases hf : ys.findIdx? p with
 | none =>
  have := List.findIdx?_eq_none_iff.1 hf
  have ha : ys.any p = false := by
   rw [List.any_eq_false]
   intro x hx
   simp [this x hx]
  simp [ha]
 | some i =>
  obtain ⟨hi, hp, _⟩ := List.findIdx?_eq_some_iff_getElem.1 hf
  have ha : ys.any p = true := List.any_eq_true.2 ⟨ys[i], List.getElem_mem hi, hp⟩
  simp [ha, hi]
end
end
end Go.Am
end
section
namespace Go.Am
open Go
def globN : Nat := 0
def globAt (_ : World) : Prop := True
theorem globStable (w w' : World) (h : globAt w) (_ : ∀ k, k < globN → w'.heap[k]? = w.heap[k]?) : globAt w' := h
end Go.Am
end
section
set_option linter.unusedVariables false
set_option linter.unusedSimpArgs false
namespace Go.Am
open Go Go.RowKit
def noSl : V → Prop
 | .bool _ => True
 | .int _ _ => True
 | .str _ => True
 | .nil => True
 | _ => False
inductive Rd (w : World) (S : Nat → Prop) : V → Value → Prop
  | undef (x : Value) : Rd w S .undef x
  | bool (b : Bool) : Rd w S (.bool b) (.bool b)
  | int (k : IntKind) (n : Int) : Rd w S (.int k n) (.int k n)
  | str (s : List UInt8) (x : ByteArray) (h : x.data.toList = s) : Rd w S (.str s) (.string x)
  | nil : Rd w S .nil (.slice none 0 0)
  | empty (s : Nat) (f : Bool) (a : Option Addr) (cap : Nat) : Rd w S (.sl s f []) (.slice a 0 cap)
  | sl (s : Nat) (f : Bool) (xs : List V) (k o cap : Nat) (g : Nat → Nat → Value) (hl : 0 < xs.length) (hcap : xs.length ≤ cap) (hS : S k)
      (hsz : ∀ x ∈ xs, x.cells.length = s) (hf : f = true → ∀ x ∈ xs, ∀ c ∈ x.cells, noSl c)
      (hg : ∀ i j : Nat, i < xs.length → j < s → w.cell? ⟨k, o + i * s + j, none⟩ = some (g i j) ∧ (g i j).oneCell' = true)
      (hr : ∀ (i : Nat) (x : V) (j : Nat) (c : V), xs[i]? = some x → x.cells[j]? = some c → Rd w S c (g i j)) : Rd w S (.sl s f xs) (.slice (some ⟨k, o, none⟩) xs.length cap)
  | iptr (x : V) (k o n : Nat) (g : Nat → Value) (hS : S k) (hg : ∀ j : Nat, j < x.cells.length → w.cell? ⟨k, o + j, none⟩ = some (g j))
      (hr : ∀ (j : Nat) (c : V), x.cells[j]? = some c → Rd w S c (g j)) : Rd w S (.iptr x n) (.pointer (some ⟨k, o + n, none⟩))
  | agg (cs : List V) (vs : Array Value) (hl : cs.length = vs.size) (hr : ∀ (i : Nat) (c : V) (v : Value), cs[i]? = some c → vs[i]? = some v → Rd w S c v) : Rd w S (.agg cs) (.agg vs)
  | tup (cs : List V) (vs : Array Value) (hl : cs.length = vs.size) (hr : ∀ (i : Nat) (c : V) (v : Value), cs[i]? = some c → vs[i]? = some v → Rd w S c v) : Rd w S (.tup cs) (.tuple vs)
  | clo (f : Nat) (cs : List V) (vs : Array Value) (hl : cs.length = vs.size) (hr : ∀ (i : Nat) (c : V) (v : Value), cs[i]? = some c → vs[i]? = some v → Rd w S c v) : Rd w S (.clo f cs) (.func (.func f) #[] vs)
theorem Rd.mono {w w' : World} {S S' : Nat → Prop} (hS : ∀ k, S k → S' k) (hc : ∀ k, S k → ∀ o, w'.cell? ⟨k, o, none⟩ = w.cell? ⟨k, o, none⟩) {v : V} {x : Value} (h : Rd w S v x) : Rd w' S' v x := by
 induction h with
 | undef x => exact .undef x
 | bool b => exact .bool b
 | int k n => exact .int k n
 | str s x h => exact .str s x h
 | nil => exact .nil
 | empty s f a cap => exact .empty s f a cap
 | sl s f xs k o cap g hl hcap hk hsz hf hg hr ih => exact .sl s f xs k o cap g hl hcap (hS k hk) hsz hf (fun i j hi hj => ⟨(hc k hk _).trans (hg i j hi hj).1, (hg i j hi hj).2⟩) ih
 | iptr x k o n g hk hg hr ih => exact .iptr x k o n g (hS k hk) (fun j hj => (hc k hk _).trans (hg j hj)) ih
 | agg cs vs hl hr ih => exact .agg cs vs hl ih
 | tup cs vs hl hr ih => exact .tup cs vs hl ih
 | clo f cs vs hl hr ih => exact .clo f cs vs hl ih
def Rows (w : World) (S : Nat → Prop) (s : Nat) (xs : List V) (k o : Nat) : Prop :=
 (∀ x ∈ xs, x.cells.length = s) ∧ ∃ g : Nat → Nat → Value, (∀ i j : Nat, i < xs.length → j < s → w.cell? ⟨k, o + i * s + j, none⟩ = some (g i j) ∧ (g i j).oneCell' = true) ∧
 ∀ (i : Nat) (x : V) (j : Nat) (c : V), xs[i]? = some x → x.cells[j]? = some c → Rd w S c (g i j)
theorem Rows.mono {w w' : World} {S S' : Nat → Prop} (hS : ∀ k, S k → S' k) (hc : ∀ k, S k → ∀ o, w'.cell? ⟨k, o, none⟩ = w.cell? ⟨k, o, none⟩) {s : Nat} {xs : List V} {k o : Nat}
  (hk : ∀ j, o ≤ j → j < o + xs.length * s → w'.cell? ⟨k, j, none⟩ = w.cell? ⟨k, j, none⟩) (h : Rows w S s xs k o) : Rows w' S' s xs k o := by
 obtain ⟨h1, g, h2, h3⟩ := h
 refine ⟨h1, g, fun i j hi hj => ⟨?_, (h2 i j hi hj).2⟩, fun i x j c hx hcj => (h3 i x j c hx hcj).mono hS hc⟩
 rw [hk _ (by omega) ?_]
 ·exact (h2 i j hi hj).1
 ·have : i * s + s ≤ xs.length * s := by
   have := Nat.mul_le_mul_right s (show i + 1 ≤ xs.length from hi)
   rw [Nat.add_mul, Nat.one_mul] at this
   exact this
  omega
inductive Tr (w : World) : V → Value → (Nat → Prop) → Prop
  | leaf (v : V) (x : Value) (T : Nat → Prop) (h : noSl v) : Tr w v x T
  | empty (s : Nat) (f : Bool) (a : Option Addr) (cap : Nat) (T : Nat → Prop) : Tr w (.sl s f []) (.slice a 0 cap) T
  | sl (s : Nat) (f : Bool) (xs : List V) (k o cap : Nat) (g : Nat → Nat → Value) (T : Nat → Nat → Nat → Prop) (T' : Nat → Prop) (hl : 0 < xs.length)
      (hg : ∀ i j : Nat, i < xs.length → j < s → w.cell? ⟨k, o + i * s + j, none⟩ = some (g i j)) (hr : ∀ (i : Nat) (x : V) (j : Nat) (c : V), xs[i]? = some x → x.cells[j]? = some c → Tr w c (g i j) (T i j))
      (hd : ∀ i j i' j' m, T i j m → T i' j' m → i = i' ∧ j = j') (hk : ∀ i j, ¬ T i j k) (h0 : T' k) (hT : ∀ i j m, T i j m → T' m) : Tr w (.sl s f xs) (.slice (some ⟨k, o, none⟩) xs.length cap) T'
theorem Tr.mono {w w' : World} {v : V} {x : Value} {T : Nat → Prop} (h : Tr w v x T) (hc : ∀ k, T k → ∀ o, w'.cell? ⟨k, o, none⟩ = w.cell? ⟨k, o, none⟩) : Tr w' v x T := by
 induction h with
 | leaf v x T h => exact .leaf v x T h
 | empty s f a cap T => exact .empty s f a cap T
 | sl s f xs k o cap g T T' hl hg hr hd hk h0 hT ih => exact .sl s f xs k o cap g T T' hl (fun i j hi hj => (hc k h0 _).trans (hg i j hi hj)) (fun i x j c hx hcj => ih i x j c hx hcj (fun k hk => hc k (hT i j k hk))) hd hk h0 hT
theorem Tr.weaken {w : World} {v : V} {x : Value} {T T1 : Nat → Prop} (h : Tr w v x T) (hT : ∀ m, T m → T1 m) : Tr w v x T1 := by
 cases h with
 | leaf v x T h => exact .leaf v x T1 h
 | empty s f a cap T => exact .empty s f a cap T1
 | sl s f xs k o cap g T T' hl hg hr hd hk h0 hT' => exact .sl s f xs k o cap g T T1 hl hg hr hd hk (hT k h0) (fun i j m hm => hT m (hT' i j m hm))
def TrRows (w : World) (N : Nat → Prop) (s : Nat) (xs : List V) (k o : Nat) : Prop :=
 ∃ (g : Nat → Nat → Value) (T : Nat → Nat → Nat → Prop), (∀ i j : Nat, i < xs.length → j < s → w.cell? ⟨k, o + i * s + j, none⟩ = some (g i j)) ∧
 (∀ (i : Nat) (x : V) (j : Nat) (c : V), xs[i]? = some x → x.cells[j]? = some c → Tr w c (g i j) (T i j)) ∧ (∀ i j i' j' m, T i j m → T i' j' m → i = i' ∧ j = j') ∧ ∀ i j m, T i j m → N m
theorem TrRows.mono {w w' : World} {N N' : Nat → Prop} {s : Nat} {xs : List V} {k o : Nat} (hN : ∀ k, N k → N' k) (hc : ∀ k, N k → ∀ o, w'.cell? ⟨k, o, none⟩ = w.cell? ⟨k, o, none⟩)
  (hk : ∀ j, o ≤ j → j < o + xs.length * s → w'.cell? ⟨k, j, none⟩ = w.cell? ⟨k, j, none⟩) (h : TrRows w N s xs k o) : TrRows w' N' s xs k o := by
 obtain ⟨g, T, h1, h2, h3, h4⟩ := h
 refine ⟨g, T, fun i j hi hj => ?_, fun i x j c hx hcj => (h2 i x j c hx hcj).mono (fun k hk => hc k (h4 i j k hk)), h3, fun i j m hm => hN m (h4 i j m hm)⟩
 rw [hk _ (by omega) ?_]
 ·exact h1 i j hi hj
 ·have : i * s + s ≤ xs.length * s := by
   have := Nat.mul_le_mul_right s (show i + 1 ≤ xs.length from hi)
   rw [Nat.add_mul, Nat.one_mul] at this
   exact this
  omega
def flatOk (q : Q) (xs : List V) : Prop := q = .flat → ∀ x ∈ xs, ∀ c ∈ x.cells, noSl c
structure Ctx where
  w0 : World
  F : Nat → Prop
  S : Nat → Prop
  has : Nat → Prop
  blk : Nat → Nat
  off : Nat → Nat
  cap : Nat → Nat
  sz : Nat → Nat
  ln : Nat → Nat
  lb : Nat → Prop
  box : Nat → Nat
  R : Nat → Prop
  Z : Nat → Prop
  N : Nat → Nat → Prop
  U : Prop
def Ctx.Uq (Γ : Ctx) (w : World) (q : Q) (b s : Nat) (xs : List V) (k o : Nat) : Prop := q = .clean → Γ.U → TrRows w (fun m => Γ.N b m ∧ Γ.S m) s xs k o
theorem Ctx.Uq.mono {Γ Γ' : Ctx} {w w' : World} {q : Q} {b s : Nat} {xs : List V} {k o : Nat} (hU : Γ'.U → Γ.U) (hN : ∀ m, Γ.N b m → Γ'.N b m) (hS : ∀ m, Γ.S m → Γ'.S m) (hc : ∀ k, Γ.S k → ∀ o, w'.cell? ⟨k, o, none⟩ = w.cell? ⟨k, o, none⟩)
  (hk : ∀ j, o ≤ j → j < o + xs.length * s → w'.cell? ⟨k, j, none⟩ = w.cell? ⟨k, j, none⟩) (h : Γ.Uq w q b s xs k o) : Γ'.Uq w' q b s xs k o :=
 fun hq hU' => (h hq (hU hU')).mono (fun m hm => ⟨hN m hm.1, hS m hm.2⟩) (fun k hk => hc k hk.2) hk
def Ctx.Sq (Γ : Ctx) : Q → Nat → Prop
 | .any => Γ.S
 | _ => fun k => Γ.S k ∧ Γ.Z k
inductive VR (Γ : Ctx) (w : World) : V → Value → Prop
  | rd (v : V) (x : Value) (h : Rd w Γ.S v x) : VR Γ w v x
  | ownNil (b s : Nat) (q : Q) (hb : Γ.has b → False) : VR Γ w (.own b s q []) (.slice none 0 0)
  | own (b s : Nat) (q : Q) (xs : List V) (hb : Γ.has b) (hs : s = Γ.sz b) (hl : xs.length ≤ Γ.cap b ∧ xs.length = Γ.ln b) (hr : Rows w (Γ.Sq q) s xs (Γ.blk b) (Γ.off b)) (hq : flatOk q xs) (hu : Γ.Uq w q b s xs (Γ.blk b) (Γ.off b)) :
      VR Γ w (.own b s q xs) (.slice (some ⟨Γ.blk b, Γ.off b, none⟩) xs.length (Γ.cap b))
  | view0 (b s : Nat) (q : Q) (a : Option Addr) (cap : Nat) : VR Γ w (.view b s q []) (.slice a 0 cap)
  | view (b s : Nat) (q : Q) (xs : List V) (o cap : Nat) (hb : Γ.has b) (hx : 0 < xs.length) (hl : xs.length ≤ cap) (hfit : o + cap * s ≤ Γ.off b + Γ.cap b * Γ.sz b) (hr : Rows w (Γ.Sq q) s xs (Γ.blk b) o) (hq : flatOk q xs) (hu : Γ.Uq w q b s xs (Γ.blk b) o) :
      VR Γ w (.view b s q xs) (.slice (some ⟨Γ.blk b, o, none⟩) xs.length cap)
  | ptr (d n : Nat) (hd : Γ.lb d) : VR Γ w (.ptr d n) (.pointer (some ⟨Γ.box d, n, none⟩))
  | eptr (b s : Nat) (q : Q) (xs : List V) (i n : Nat) (hb : Γ.has b) (hs : s = Γ.sz b) (hl : xs.length ≤ Γ.cap b ∧ xs.length = Γ.ln b) (hi : i < xs.length) (hr : Rows w (Γ.Sq q) s xs (Γ.blk b) (Γ.off b)) (hq : flatOk q xs) (hu : Γ.Uq w q b s xs (Γ.blk b) (Γ.off b)) :
      VR Γ w (.eptr b s q xs i n) (.pointer (some ⟨Γ.blk b, Γ.off b + i * s + n, none⟩))
  | vptr (b : Nat) (x : V) (o n : Nat) (g : Nat → Value) (hb : Γ.has b) (hg : ∀ j : Nat, j < x.cells.length → w.cell? ⟨Γ.blk b, o + j, none⟩ = some (g j)) (hr : ∀ (j : Nat) (c : V), x.cells[j]? = some c → Rd w Γ.S c (g j)) :
      VR Γ w (.vptr b x n) (.pointer (some ⟨Γ.blk b, o + n, none⟩))
  | agg (cs : List V) (vs : Array Value) (hl : cs.length = vs.size) (hr : ∀ (i : Nat) (c : V) (v : Value), cs[i]? = some c → vs[i]? = some v → VR Γ w c v) : VR Γ w (.agg cs) (.agg vs)
  | tup (cs : List V) (vs : Array Value) (hl : cs.length = vs.size) (hr : ∀ (i : Nat) (c : V) (v : Value), cs[i]? = some c → vs[i]? = some v → VR Γ w c v) : VR Γ w (.tup cs) (.tuple vs)
  | clo (f : Nat) (cs : List V) (vs : Array Value) (hl : cs.length = vs.size) (hr : ∀ (i : Nat) (c : V) (v : Value), cs[i]? = some c → vs[i]? = some v → VR Γ w c v) : VR Γ w (.clo f cs) (.func (.func f) #[] vs)
theorem anyBs_mem {p : Nat → Bool} : ∀ {cs : List V}, V.anyBs p cs = false → ∀ c ∈ cs, c.anyB p = false := by
 intro cs
 induction cs with
 | nil => intro _ c hc; cases hc
 | cons v vs ih =>
  intro h c hc
  rw [V.anyBs, Bool.or_eq_false_iff] at h
  rcases List.mem_cons.1 hc with rfl | hc
  ·exact h.1
  ·exact ih h.2 c hc
theorem anyPs_mem {p : Nat → Bool} : ∀ {cs : List V}, V.anyPs p cs = false → ∀ c ∈ cs, c.anyP p = false := by
 intro cs
 induction cs with
 | nil => intro _ c hc; cases hc
 | cons v vs ih =>
  intro h c hc
  rw [V.anyPs, Bool.or_eq_false_iff] at h
  rcases List.mem_cons.1 hc with rfl | hc
  ·exact h.1
  ·exact ih h.2 c hc
theorem mem_of_get {α : Type} {l : List α} {i : Nat} {a : α} (h : l[i]? = some a) : a ∈ l := List.mem_of_getElem? h
theorem VR.mono {Γ Γ' : Ctx} {w w' : World} {p r : Nat → Bool} (hU : Γ'.U → Γ.U) (hS : ∀ k, Γ.S k → Γ'.S k) (hF : ∀ k, Γ.Z k → Γ'.Z k) (hc : ∀ k, Γ.S k → ∀ o, w'.cell? ⟨k, o, none⟩ = w.cell? ⟨k, o, none⟩)
  (hb : ∀ b, p b = false → (Γ'.has b ↔ Γ.has b) ∧ (Γ.has b → Γ'.blk b = Γ.blk b ∧ Γ'.off b = Γ.off b ∧ Γ'.cap b = Γ.cap b ∧ Γ'.sz b = Γ.sz b ∧ Γ'.ln b = Γ.ln b ∧ (∀ m, Γ.N b m → Γ'.N b m) ∧ ∀ o, w'.cell? ⟨Γ.blk b, o, none⟩ = w.cell? ⟨Γ.blk b, o, none⟩))
  (hd : ∀ d, r d = false → (Γ.lb d → Γ'.lb d) ∧ Γ'.box d = Γ.box d) {v : V} {x : Value} (h : VR Γ w v x) (hp : v.anyB p = false) (hr : v.anyP r = false) : VR Γ' w' v x := by
 have hSq : ∀ q k, Γ.Sq q k → Γ'.Sq q k := by
  intro q k hk
  cases q with
  | any => exact hS k hk
  | flat => exact ⟨hS k hk.1, hF k hk.2⟩
  | clean => exact ⟨hS k hk.1, hF k hk.2⟩
 have hSc : ∀ q k, Γ.Sq q k → ∀ o, w'.cell? ⟨k, o, none⟩ = w.cell? ⟨k, o, none⟩ := by
  intro q k hk
  cases q with
  | any => exact hc k hk
  | flat => exact hc k hk.1
  | clean => exact hc k hk.1
 induction h with
 | rd v x h => exact .rd _ _ (h.mono hS hc)
 | ownNil b s q h => exact .ownNil b s q (fun h' => h ((hb b hp).1.1 h'))
 | own b s q xs h hs hl hrow hq hu =>
  obtain ⟨e0, e⟩ := hb b hp
  obtain ⟨e1, e2, e3, e4, e6, e7, e5⟩ := e h
  have := VR.own (Γ := Γ') (w := w') b s q xs (e0.2 h) (by rw [e4]; exact hs) (by rw [e3, e6]; exact hl) (by rw [e1, e2]; exact hrow.mono (hSq q) (hSc q) (fun j _ _ => e5 j)) hq (by rw [e1, e2]; exact hu.mono hU e7 hS hc (fun j _ _ => e5 j))
  rwa [e1, e2, e3] at this
 | view0 b s q a cap => exact .view0 b s q a cap
 | view b s q xs o cap h hx hl hfit hrow hq hu =>
  obtain ⟨e0, e⟩ := hb b hp
  obtain ⟨e1, e2, e3, e4, e6, e7, e5⟩ := e h
  have := VR.view (Γ := Γ') (w := w') b s q xs o cap (e0.2 h) hx hl (by rw [e2, e3, e4]; exact hfit) (by rw [e1]; exact hrow.mono (hSq q) (hSc q) (fun j _ _ => e5 j)) hq (by rw [e1]; exact hu.mono hU e7 hS hc (fun j _ _ => e5 j))
  rwa [e1] at this
 | ptr d n h =>
  obtain ⟨e1, e2⟩ := hd d hr
  have := VR.ptr (Γ := Γ') (w := w') d n (e1 h)
  rwa [e2] at this
 | eptr b s q xs i n h hs hl hi hrow hq hu =>
  obtain ⟨e0, e⟩ := hb b hp
  obtain ⟨e1, e2, e3, e4, e6, e7, e5⟩ := e h
  have := VR.eptr (Γ := Γ') (w := w') b s q xs i n (e0.2 h) (by rw [e4]; exact hs) (by rw [e3, e6]; exact hl) hi (by rw [e1, e2]; exact hrow.mono (hSq q) (hSc q) (fun j _ _ => e5 j)) hq (by rw [e1, e2]; exact hu.mono hU e7 hS hc (fun j _ _ => e5 j))
  rwa [e1, e2] at this
 | vptr b x o n g h hg hrow =>
  obtain ⟨e0, e⟩ := hb b hp
  obtain ⟨e1, e2, e3, e4, e6, e7, e5⟩ := e h
  have := VR.vptr (Γ := Γ') (w := w') b x o n g (e0.2 h) (by rw [e1]; exact fun j hj => (e5 _).trans (hg j hj)) (fun j c hcj => (hrow j c hcj).mono hS hc)
  rwa [e1] at this
 | agg cs vs hl _ ih => exact .agg cs vs hl (fun i c v h1 h2 => ih i c v h1 h2 (anyBs_mem hp c (mem_of_get h1)) (anyPs_mem hr c (mem_of_get h1)))
 | tup cs vs hl _ ih => exact .tup cs vs hl (fun i c v h1 h2 => ih i c v h1 h2 (anyBs_mem hp c (mem_of_get h1)) (anyPs_mem hr c (mem_of_get h1)))
 | clo f cs vs hl _ ih => exact .clo f cs vs hl (fun i c v h1 h2 => ih i c v h1 h2 (anyBs_mem hp c (mem_of_get h1)) (anyPs_mem hr c (mem_of_get h1)))
def globOk (w : World) : Prop := globAt w ∧ globN ≤ w.heap.size
structure Good (Γ : Ctx) (w : World) : Prop where
  os : w.os = Γ.w0.os
  tape : w.tape = Γ.w0.tape
  output : w.output = Γ.w0.output
  size : Γ.w0.heap.size ≤ w.heap.size
  old : ∀ k, k < Γ.w0.heap.size → ¬ Γ.F k → w.heap[k]? = Γ.w0.heap[k]?
  new : ∀ k, Γ.w0.heap.size ≤ k → Γ.F k
  slt : ∀ k, Γ.S k → k < w.heap.size
  base : ∀ b, Γ.has b → Γ.F (Γ.blk b) ∧ Γ.blk b < w.heap.size ∧ Γ.cap b ≤ maxLen ∧ ∃ cur e, w.heap[Γ.blk b]? = some (.cells cur e (0, 0)) ∧ Γ.off b + Γ.cap b * Γ.sz b ≤ cur.size
  baseInj : ∀ b b', Γ.has b → Γ.has b' → Γ.blk b = Γ.blk b' → b = b'
  box : ∀ d, Γ.lb d → Γ.F (Γ.box d) ∧ ¬ Γ.S (Γ.box d) ∧ Γ.box d < w.heap.size
  boxInj : ∀ d d', Γ.lb d → Γ.lb d' → Γ.box d = Γ.box d' → d = d'
  baseBox : ∀ b d, Γ.has b → Γ.lb d → Γ.blk b ≠ Γ.box d
  sr : ∀ k, Γ.S k → Γ.R k ∨ Γ.F k
  gl : globOk Γ.w0 ∧ ∀ k, Γ.F k → globN ≤ k
  bz : ∀ b, Γ.has b → Γ.Z (Γ.blk b)
  zf : ∀ k, Γ.Z k → Γ.F k ∧ k < w.heap.size ∧ ∃ cur e, w.heap[k]? = some (.cells cur e (0, 0))
  ns : ∀ b, Γ.has b → ∀ m, Γ.N b m → Γ.S m ∧ Γ.Z m
  h9 : ¬ Γ.has 999
structure Sim (Γ : Ctx) (st : St) (a : Act) (w : World) : Prop where
  good : Good Γ w
  dz : a.defers = []
  len : a.tmps.size = st.t.length
  tm : ∀ (i : Nat) (v : V), st.t[i]? = some v → ∃ x, a.tmps[i]? = some x ∧ VR Γ w v x
  bx : ∀ (d : Nat) (v : V), st.h[d]? = some (some v) → Γ.lb d ∧ ∃ cur e, w.heap[Γ.box d]? = some (.cells cur e (0, 0)) ∧ v.cells.length = cur.size ∧ ∀ (j : Nat) (c : V), v.cells[j]? = some c → ∃ x, cur[j]? = some x ∧ VR Γ w c x
  nds : ∀ b, Γ.has b → st.dead b = false → ¬ Γ.S (Γ.blk b)
  du : st.dup = false → Γ.U
  nd : Γ.U → ∀ b b', Γ.has b → Γ.has b' → st.dead b = false → st.dead b' = false → b ≠ b' → ∀ m, Γ.N b m → Γ.N b' m → False
def Same (Γ Γ' : Ctx) : Prop := Γ'.w0 = Γ.w0 ∧ Γ'.F = Γ.F ∧ Γ'.R = Γ.R
def Sims (Γ : Ctx) (st : St) (a : Act) (w : World) : Prop := ∃ Γ', Same Γ Γ' ∧ Sim Γ' st a w
theorem Same.rfl' {Γ : Ctx} : Same Γ Γ := ⟨rfl, rfl, rfl⟩
theorem Same.trans {Γ Γ' Γ'' : Ctx} (h : Same Γ Γ') (h' : Same Γ' Γ'') : Same Γ Γ'' := ⟨h'.1.trans h.1, h'.2.1.trans h.2.1, h'.2.2.trans h.2.2⟩
theorem Sims.of {Γ Γ' : Ctx} {st : St} {a : Act} {w : World} (h : Same Γ Γ') (h' : Sims Γ' st a w) : Sims Γ st a w := (let ⟨Γ'', h1, h2⟩ := h'; ⟨Γ'', h.trans h1, h2⟩)
theorem Good.glob {Γ : Ctx} {w : World} (g : Good Γ w) : globOk w :=
 ⟨globStable _ _ g.gl.1.1 (fun k hk => g.old k (Nat.lt_of_lt_of_le hk g.gl.1.2) (fun h => absurd (g.gl.2 k h) (Nat.not_le.2 hk))), Nat.le_trans g.gl.1.2 g.size⟩
theorem cell?_of_heap {w w' : World} {k : Nat} (h : w'.heap[k]? = w.heap[k]?) (o : Nat) : w'.cell? ⟨k, o, none⟩ = w.cell? ⟨k, o, none⟩ := by simp [World.cell?, h]
end Go.Am
end
section
set_option linter.unusedVariables false
set_option linter.unusedSimpArgs false
namespace Go.Am
open Go Go.RowKit
def Always (v : V) (x : Value) : Prop := ∀ (w : World) (S : Nat → Prop), Rd w S v x
def Scal (c : V) (v : Value) : Prop :=
 match c with
 | .bool b => v = .bool b
 | .int k n => v = .int k n
 | .str s => ∃ y : ByteArray, v = .string y ∧ y.data.toList = s
 | _ => True
structure AgreeT (P : Program) (c : Cfg) (t : Nat) (i : TyInfo) (ti : TypeInfo) : Prop where
  info : P.info? t = some ti
  size : ti.size = i.size
  bytes : ti.bytes = i.bytes
  zero : ∃ z, ti.zero = some z ∧ Always i.zero z ∧ z.cells.toList.length = i.zero.cells.length ∧ (∀ u ∈ z.cells.toList, u.oneCell' = true) ∧ (∀ (j : Nat) (c : V), i.zero.cells[j]? = some c → ∃ u, z.cells[j]? = some u ∧ Always c u)
  zsz : i.zero.cells.length = i.size
  bool : i.d = .bool → P.underlying t = some .bool
  int : ∀ k, i.d = .int k → P.underlying t = some (.int k)
  str : i.d = .str → P.underlying t = some .string
  slice : ∀ e, i.d = .slice e → P.underlying t = some (.slice e)
  struct : ∀ fs, i.d = .struct fs → ∃ fields, P.underlying t = some (.struct fields) ∧ fields.toList.map (fun f => (f.offset, f.type)) = fs ∧ ∀ f ∈ fields.toList, ∃ tj, P.info? f.type = some tj
  array : ∀ n e, i.d = .array n e → P.underlying t = some (.array n e)
  cmp : i.cmp = true → P.eqGuardType P.depth t = false ∧ ∀ (w : World) (xs ys : Array Value) (cs ds : List V) (r : Bool), cs.length = xs.size → ds.length = ys.size → sameKinds i.zero.cells cs = true → sameKinds i.zero.cells ds = true →
    (∀ (j : Nat) (c : V) (v : Value), cs[j]? = some c → xs[j]? = some v → Scal c v) → (∀ (j : Nat) (c : V) (v : Value), ds[j]? = some c → ys[j]? = some v → Scal c v) →
    eqCells cs ds = some r → (Op.equalIn 10000 t (.agg xs) (.agg ys)).run P w = .ok r w
  agg : i.d.isAgg = false → ∃ d, P.underlying t = some d ∧ (∀ fs, d ≠ .struct fs) ∧ (∀ n e, d ≠ .array n e)
def Agree (P : Program) (c : Cfg) : Prop := ∀ t i, c.ty t = some i → ∃ ti, AgreeT P c t i ti
section
variable {P : Program} {c : Cfg} {Γ : Ctx} {st : St} {a : Act} {w : World}
theorem VR.bool_inv {b : Bool} {x : Value} (h : VR Γ w (.bool b) x) : x = .bool b := by
 cases h with
 | rd _ _ h => cases h; rfl
theorem VR.int_inv {k : IntKind} {n : Int} {x : Value} (h : VR Γ w (.int k n) x) : x = .int k n := by
 cases h with
 | rd _ _ h => cases h; rfl
theorem VR.str_inv {s : List UInt8} {x : Value} (h : VR Γ w (.str s) x) : ∃ y : ByteArray, x = .string y ∧ y.data.toList = s := by
 cases h with
 | rd _ _ h => cases h with
  | str _ y h => exact ⟨y, rfl, h⟩
theorem VR.nil_inv {x : Value} (h : VR Γ w .nil x) : x = .slice none 0 0 := by
 cases h with
 | rd _ _ h => cases h; rfl
theorem VR.agg_inv {cs : List V} {x : Value} (h : VR Γ w (.agg cs) x) : ∃ vs : Array Value, x = .agg vs ∧ cs.length = vs.size ∧ ∀ (i : Nat) (c : V) (v : Value), cs[i]? = some c → vs[i]? = some v → VR Γ w c v := by
 cases h with
 | rd _ _ h => cases h with
  | agg _ vs hl hr => exact ⟨vs, rfl, hl, fun i c v h1 h2 => .rd _ _ (hr i c v h1 h2)⟩
 | agg _ vs hl hr => exact ⟨vs, rfl, hl, hr⟩
theorem VR.tup_inv {cs : List V} {x : Value} (h : VR Γ w (.tup cs) x) : ∃ vs : Array Value, x = .tuple vs ∧ cs.length = vs.size ∧ ∀ (i : Nat) (c : V) (v : Value), cs[i]? = some c → vs[i]? = some v → VR Γ w c v := by
 cases h with
 | rd _ _ h => cases h with
  | tup _ vs hl hr => exact ⟨vs, rfl, hl, fun i c v h1 h2 => .rd _ _ (hr i c v h1 h2)⟩
 | tup _ vs hl hr => exact ⟨vs, rfl, hl, hr⟩
theorem VR.clo_inv {f : Nat} {cs : List V} {x : Value} (h : VR Γ w (.clo f cs) x) : ∃ vs : Array Value, x = .func (.func f) #[] vs ∧ cs.length = vs.size ∧ ∀ (i : Nat) (c : V) (v : Value), cs[i]? = some c → vs[i]? = some v → VR Γ w c v := by
 cases h with
 | rd _ _ h => cases h with
  | clo _ _ vs hl hr => exact ⟨vs, rfl, hl, fun i c v h1 h2 => .rd _ _ (hr i c v h1 h2)⟩
 | clo _ _ vs hl hr => exact ⟨vs, rfl, hl, hr⟩
theorem VR.undef_ (x : Value) : VR Γ w .undef x := .rd _ _ (.undef x)
theorem VR.sl_inv {s : Nat} {f : Bool} {xs : List V} {x : Value} (h : VR Γ w (.sl s f xs) x) : Rd w Γ.S (.sl s f xs) x := by
 cases h with
 | rd _ _ h => exact h
theorem VR.ptr_inv {d n : Nat} {x : Value} (h : VR Γ w (.ptr d n) x) : x = .pointer (some ⟨Γ.box d, n, none⟩) ∧ Γ.lb d := by
 cases h with
 | rd _ _ h => cases h
 | ptr _ _ h => exact ⟨rfl, h⟩
theorem VR.iptr_inv {v : V} {n : Nat} {x : Value} (h : VR Γ w (.iptr v n) x) : ∃ (k o : Nat) (g : Nat → Value), x = .pointer (some ⟨k, o + n, none⟩) ∧ Γ.S k ∧
  (∀ j : Nat, j < v.cells.length → w.cell? ⟨k, o + j, none⟩ = some (g j)) ∧ (∀ (j : Nat) (c : V), v.cells[j]? = some c → Rd w Γ.S c (g j)) := by
 cases h with
 | rd _ _ h => cases h with
  | iptr _ k o _ g hS hg hr => exact ⟨k, o, g, rfl, hS, hg, hr⟩
theorem VR.vptr_inv {b : Nat} {v : V} {n : Nat} {x : Value} (h : VR Γ w (.vptr b v n) x) : ∃ (o : Nat) (g : Nat → Value), x = .pointer (some ⟨Γ.blk b, o + n, none⟩) ∧ Γ.has b ∧
  (∀ j : Nat, j < v.cells.length → w.cell? ⟨Γ.blk b, o + j, none⟩ = some (g j)) ∧ (∀ (j : Nat) (c : V), v.cells[j]? = some c → Rd w Γ.S c (g j)) := by
 cases h with
 | rd _ _ h => cases h
 | vptr _ _ o _ g hb hg hr => exact ⟨o, g, rfl, hb, hg, hr⟩
theorem VR.eptr_inv {b s : Nat} {q : Q} {xs : List V} {i n : Nat} {x : Value} (h : VR Γ w (.eptr b s q xs i n) x) : x = .pointer (some ⟨Γ.blk b, Γ.off b + i * s + n, none⟩) ∧
  Γ.has b ∧ s = Γ.sz b ∧ (xs.length ≤ Γ.cap b ∧ xs.length = Γ.ln b) ∧ i < xs.length ∧ Rows w (Γ.Sq q) s xs (Γ.blk b) (Γ.off b) ∧ flatOk q xs := by
 cases h with
 | rd _ _ h => cases h
 | eptr _ _ _ _ _ _ hb hs hl hi hr hq _ => exact ⟨rfl, hb, hs, hl, hi, hr, hq⟩
theorem VR.own_inv {b s : Nat} {q : Q} {xs : List V} {x : Value} (h : VR Γ w (.own b s q xs) x) : (x = .slice none 0 0 ∧ xs = [] ∧ ¬ Γ.has b) ∨
  (x = .slice (some ⟨Γ.blk b, Γ.off b, none⟩) xs.length (Γ.cap b) ∧ Γ.has b ∧ s = Γ.sz b ∧ (xs.length ≤ Γ.cap b ∧ xs.length = Γ.ln b) ∧ Rows w (Γ.Sq q) s xs (Γ.blk b) (Γ.off b) ∧ flatOk q xs) := by
 cases h with
 | rd _ _ h => cases h
 | ownNil _ _ _ hb => exact .inl ⟨rfl, rfl, hb⟩
 | own _ _ _ _ hb hs hl hr hq _ => exact .inr ⟨rfl, hb, hs, hl, hr, hq⟩
theorem VR.view_inv {b s : Nat} {q : Q} {xs : List V} {x : Value} (h : VR Γ w (.view b s q xs) x) : (∃ a cap, x = .slice a 0 cap ∧ xs = []) ∨
  (∃ o cap, x = .slice (some ⟨Γ.blk b, o, none⟩) xs.length cap ∧ Γ.has b ∧ 0 < xs.length ∧ xs.length ≤ cap ∧ o + cap * s ≤ Γ.off b + Γ.cap b * Γ.sz b ∧ Rows w (Γ.Sq q) s xs (Γ.blk b) o ∧ flatOk q xs) := by
 cases h with
 | rd _ _ h => cases h
 | view0 _ _ _ a cap => exact .inl ⟨a, cap, rfl, rfl⟩
 | view _ _ _ _ o cap hb hx hl hfit hr hq _ => exact .inr ⟨o, cap, rfl, hb, hx, hl, hfit, hr, hq⟩
theorem Uq_nil {q : Q} {b s k o : Nat} : Γ.Uq w q b s [] k o := fun _ _ =>
 ⟨fun _ _ => undef, fun _ _ _ => False, fun i j hi => absurd hi (Nat.not_lt_zero _), fun i x j c hx => by simp at hx, fun _ _ _ _ _ h => h.elim, fun _ _ _ h => h.elim⟩
theorem VR.own_uq {b s : Nat} {q : Q} {xs : List V} {x : Value} (h : VR Γ w (.own b s q xs) x) : Γ.Uq w q b s xs (Γ.blk b) (Γ.off b) := by
 cases h with
 | rd _ _ h => cases h
 | ownNil _ _ _ hb => exact Uq_nil
 | own _ _ _ _ hb hs hl hr hq hu => exact hu
theorem VR.view_uq {b s : Nat} {q : Q} {xs : List V} {k o n cap : Nat} (h : VR Γ w (.view b s q xs) (.slice (some ⟨k, o, none⟩) n cap)) : Γ.Uq w q b s xs k o := by
 cases h with
 | rd _ _ h => cases h
 | view0 _ _ _ a cap => exact Uq_nil
 | view _ _ _ _ o cap hb hx hl hfit hr hq hu => exact hu
theorem VR.eptr_uq {b s : Nat} {q : Q} {xs : List V} {i n : Nat} {x : Value} (h : VR Γ w (.eptr b s q xs i n) x) : Γ.Uq w q b s xs (Γ.blk b) (Γ.off b) := by
 cases h with
 | rd _ _ h => cases h
 | eptr _ _ _ _ _ _ hb hs hl hi hr hq hu => exact hu
theorem ofVal_rd (v : Value) : VR Γ w (ofVal v) v := by
 cases v with
 | bool b => exact .rd _ _ (.bool b)
 | int k n => exact .rd _ _ (.int k n)
 | string s => exact .rd _ _ (.str _ s rfl)
 | slice o l cp =>
  cases o with
  | some o => exact .undef_ _
  | none =>
   cases l with
   | succ l => exact .undef_ _
   | zero =>
    cases cp with
    | succ cp => exact .undef_ _
    | zero => exact .rd _ _ .nil
 | _ => exact .undef_ _
theorem Sim.ev (hs : Sim Γ st a w) (x : Operand) : VR Γ w (ev st.t x) (a.eval x) := by
 cases x with
 | tmp i =>
  simp only [Am.ev, Act.eval]
  cases h : st.t[i]? with
  | none => simp only [List.getD, h]; exact .undef_ _
  | some v =>
   obtain ⟨y, hy, hv⟩ := hs.tm i v h
   simp only [List.getD, h, Array.getD_eq_getD_getElem?, hy]
   exact hv
 | const v => exact ofVal_rd v
 | global g => exact .undef_ _
 | func f => exact .clo f [] #[] rfl (by simp)
theorem Sim.put (hs : Sim Γ st a w) {d : Nat} {v : V} {x : Value} (hv : VR Γ w v x) : Sim Γ { st with t := st.t.set d v } (a.put (some d) x) w := by
 refine ⟨hs.good, hs.dz, by simp [Act.put, hs.len], fun i u hu => ?_, hs.bx, hs.nds, hs.du, hs.nd⟩
 simp only [Act.put] at hu ⊢
 rw [List.getElem?_set] at hu
 split at hu
 ·rename_i hid
  subst hid
  split at hu
  ·rename_i hlt
   injection hu with hu
   subst hu
   exact ⟨x, by rw [Array.getElem?_setIfInBounds]; simp [hs.len, hlt], hv⟩
  ·cases hu
 ·rename_i hid
  obtain ⟨y, hy, h⟩ := hs.tm i u hu
  exact ⟨y, by rw [Array.getElem?_setIfInBounds]; simp [hid, hy], h⟩
theorem VR.cellLen {v : V} {x : Value} (h : VR Γ w v x) (hd : v.isDef = true) : v.cells.length = x.cells.size := by
 cases h with
 | rd _ _ h => cases h with
  | undef => cases hd
  | agg _ _ hl => exact hl
  | _ => rfl
 | agg _ _ hl => exact hl
 | _ => rfl
theorem VR.cells {v : V} {x : Value} (h : VR Γ w v x) (hu : v.cells.length = x.cells.size) : ∀ (j : Nat) (c : V), v.cells[j]? = some c → ∃ y, x.cells[j]? = some y ∧ VR Γ w c y := by
 intro j c hc
 cases v with
 | agg cs =>
  obtain ⟨vs, rfl, hl, hr⟩ := h.agg_inv
  simp only [V.cells] at hc
  have hj : j < cs.length := (List.getElem?_eq_some_iff.1 hc).1
  refine ⟨vs[j]'(by omega), by simp [Value.cells, Array.getElem?_eq_getElem (show j < vs.size by omega)], hr j c _ hc (Array.getElem?_eq_getElem (by omega))⟩
 | undef =>
  obtain rfl : j = 0 := by
   cases j with
   | zero => rfl
   | succ j => simp [V.cells] at hc
  simp only [V.cells, List.getElem?_cons_zero, Option.some.injEq] at hc
  subst hc
  exact ⟨x.cells[0]'(by rw [← hu]; simp [V.cells]), Array.getElem?_eq_getElem _, .undef_ _⟩
 | _ =>
  obtain rfl : j = 0 := by
   cases j with
   | zero => rfl
   | succ j => simp [V.cells] at hc
  simp only [V.cells, List.getElem?_cons_zero, Option.some.injEq] at hc
  subst hc
  have hx : x.cells = #[x] := by
   cases h with
   | rd _ _ h => cases h <;> rfl
   | _ => rfl
  exact ⟨x, by rw [hx]; rfl, h⟩
end
end Go.Am
end
section
set_option linter.unusedVariables false
set_option linter.unusedSimpArgs false
namespace Go.Am
open Go Go.RowKit
section
variable {P : Program} {c : Cfg} {Γ : Ctx} {st : St} {a : Act} {w : World} {den : Nat → List V → Option V} {η : Nat → Option V} {d : Nat}
def PureOk (P : Program) (Γ : Ctx) (a : Act) (w : World) (o : Oper) (v : V) : Prop := ∃ x, (execOp a.eval o).run P w = .ok (.value x) w ∧ VR Γ w v x
theorem toList_str {y : ByteArray} {s : List UInt8} (h : y.data.toList = s) : y.toList = s := by rw [ByteArray.toList_eq]; exact h
theorem pure_move (hs : Sim Γ st a w) {o : Oper} {x : Operand} (ho : o.op = .move x ∨ o.op = .assign x) : PureOk P Γ a w o (ev st.t x) := by
 refine ⟨a.eval x, ?_, hs.ev x⟩
 rcases ho with ho | ho <;> simp [execOp, ho]
theorem pure_pick (hs : Sim Γ st a w) {o : Oper} {x y z : Operand} {v : V} (ho : o.op = .pick x y z) (h : valOp c den (ev st.t) η d o.op = some (.val v)) : PureOk P Γ a w o v := by
 rw [ho] at h
 simp only [valOp, plain] at h
 have hx := hs.ev x
 cases hv : ev st.t x with
 | bool b =>
  rw [hv] at h hx
  have e := hx.bool_inv
  cases b <;> simp only [Option.some.injEq, Out.val.injEq] at h <;> subst h
  ·exact ⟨a.eval z, by simp [execOp, ho, e, asBool], hs.ev z⟩
  ·exact ⟨a.eval y, by simp [execOp, ho, e, asBool], hs.ev y⟩
 | _ => rw [hv] at h; cases h
theorem pure_nilCheck (hs : Sim Γ st a w) {o : Oper} {x : Operand} {v : V} (ho : o.op = .nilCheck x) (h : valOp c den (ev st.t) η d o.op = some (.val v)) : PureOk P Γ a w o v := by
 rw [ho] at h
 simp only [valOp, plain] at h
 have hx := hs.ev x
 have key : (∃ p, a.eval x = .pointer (some p)) → (execOp a.eval o).run P w = .ok (.value (a.eval x)) w := by
  rintro ⟨p, hp⟩
  simp [execOp, ho, hp]
 cases hv : ev st.t x with
 | ptr d' n =>
  rw [hv] at h hx
  simp only [Option.some.injEq, Out.val.injEq] at h
  subst h
  exact ⟨a.eval x, key ⟨_, hx.ptr_inv.1⟩, hx⟩
 | iptr x' n =>
  rw [hv] at h hx
  simp only [Option.some.injEq, Out.val.injEq] at h
  subst h
  obtain ⟨_, _, _, e, _⟩ := hx.iptr_inv
  exact ⟨a.eval x, key ⟨_, e⟩, hx⟩
 | vptr b x' n =>
  rw [hv] at h hx
  simp only [Option.some.injEq, Out.val.injEq] at h
  subst h
  obtain ⟨_, _, e, _⟩ := hx.vptr_inv
  exact ⟨a.eval x, key ⟨_, e⟩, hx⟩
 | eptr b s q xs i n =>
  rw [hv] at h hx
  simp only [Option.some.injEq, Out.val.injEq] at h
  subst h
  exact ⟨a.eval x, key ⟨_, hx.eptr_inv.1⟩, hx⟩
 | _ => rw [hv] at h; cases h
theorem pure_unOp (hs : Sim Γ st a w) {o : Oper} {u : UnOp} {t : TypeId} {x : Operand} {v : V} (ho : o.op = .unOp u t x) (h : valOp c den (ev st.t) η d o.op = some (.val v)) : PureOk P Γ a w o v := by
 rw [ho] at h
 have hx := hs.ev x
 cases u with
 | not =>
  simp only [valOp, plain] at h
  cases hv : ev st.t x with
  | bool b =>
   rw [hv] at h hx
   simp only [Option.some.injEq, Out.val.injEq] at h
   subst h
   exact ⟨.bool !b, by simp [execOp, ho, hx.bool_inv, Op.unary], .rd _ _ (.bool _)⟩
  | _ => rw [hv] at h; cases h
 | neg =>
  simp only [valOp, plain] at h
  cases hv : ev st.t x with
  | int k n =>
   rw [hv] at h hx
   simp only [Option.some.injEq, Out.val.injEq] at h
   subst h
   exact ⟨.int k (k.wrap (0 - n)), by simp [execOp, ho, hx.int_inv, Op.unary, Op.intArith], .rd _ _ (.int _ _)⟩
  | _ => rw [hv] at h; cases h
 | _ => simp only [valOp] at h; cases h
theorem pure_extract (hs : Sim Γ st a w) {o : Oper} {x : Operand} {i : Nat} {v : V} (ho : o.op = .extract x i) (h : valOp c den (ev st.t) η d o.op = some (.val v)) : PureOk P Γ a w o v := by
 rw [ho] at h
 simp only [valOp, plain] at h
 have hx := hs.ev x
 cases hv : ev st.t x with
 | tup vs =>
  rw [hv] at h hx
  simp only at h
  cases hi : vs[i]? with
  | none => rw [hi] at h; cases h
  | some u =>
   rw [hi] at h
   simp only [Option.some.injEq, Out.val.injEq] at h
   subst h
   obtain ⟨ys, e, hl, hr⟩ := hx.tup_inv
   have hlt : i < vs.length := (List.getElem?_eq_some_iff.1 hi).1
   have hy : ys[i]? = some (ys[i]'(by omega)) := Array.getElem?_eq_getElem (by omega)
   exact ⟨ys[i]'(by omega), by simp [execOp, ho, e, Instr.extract, hy], hr i _ _ hi hy⟩
 | _ => rw [hv] at h; cases h
theorem pure_makeFunc (hs : Sim Γ st a w) {o : Oper} {fn : Fn} {first cap : Array Operand} {v : V} (ho : o.op = .makeFunc fn first cap) (h : valOp c den (ev st.t) η d o.op = some (.val v)) : PureOk P Γ a w o v := by
 rw [ho] at h
 cases fn with
 | func f =>
  simp only [valOp, plain] at h
  split at h
  ·rename_i h0
   simp only [Option.some.injEq, Out.val.injEq] at h
   subst h
   have hf : first.map a.eval = #[] := by
    have : first = #[] := Array.eq_empty_of_size_eq_zero h0
    rw [this]; simp
   refine ⟨.func (.func f) #[] (cap.map a.eval), by simp [execOp, ho, Instr.makeFunc, hf], .clo f _ _ (by simp) ?_⟩
   intro i u y h1 h2
   simp only [List.getElem?_map, Array.getElem?_toList, Array.getElem?_map, Option.map_eq_some_iff] at h1 h2
   obtain ⟨x1, e1, rfl⟩ := h1
   obtain ⟨x2, e2, rfl⟩ := h2
   rw [e1] at e2
   injection e2 with e2
   subst e2
   exact hs.ev x1
  ·cases h
 | _ => simp only [valOp] at h; cases h
theorem pure_convert (hA : Agree P c) (hs : Sim Γ st a w) {o : Oper} {s t : TypeId} {x : Operand} {v : V} (ho : o.op = .convert s t x) (hc : convV c s t (ev st.t x) = some v) : PureOk P Γ a w o v := by
  have hx := hs.ev x
  unfold convV at hc
  cases h1 : c.ty s with
  | none => rw [h1] at hc; cases hc
  | some i =>
   cases h2 : c.ty t with
   | none => rw [h1, h2] at hc; cases hc
   | some j =>
    rw [h1, h2] at hc
    simp only at hc
    obtain ⟨ti, ai⟩ := hA _ _ h1
    obtain ⟨tj, aj⟩ := hA _ _ h2
    split at hc
    ·rename_i k1 k2 k3 n e1 e2 e3
     injection hc with hc
     subst hc
     rw [e3] at hx
     exact ⟨.int k2 (k2.wrap n), by simp [execOp, ho, hx.int_inv, convert, run_underlying (ai.int _ e1), run_underlying (aj.int _ e2), Conv.intToInt], .rd _ _ (.int _ _)⟩
    ·rename_i s' e1 e2 e3
     injection hc with hc
     subst hc
     rw [e3] at hx
     obtain ⟨y, e, hy⟩ := hx.str_inv
     exact ⟨.string y, by simp [execOp, ho, e, convert, run_underlying (ai.str e1), run_underlying (aj.str e2)], .rd _ _ (.str _ _ hy)⟩
    ·cases hc
theorem size_str {y : ByteArray} {s : List UInt8} (h : y.data.toList = s) : y.size = s.length := by rw [← h, Array.length_toList]; rfl
theorem intOp_run {op : BinOp} {k : IntKind} {p q : Int} {v : V} (h : intOp op k p q = some v) (t : TypeId) (w : World) : ∃ x, (binOp op t (.int k p) (.int k q)).run P w = .ok x w ∧ VR Γ w v x := by
 cases op <;> simp only [intOp, cmpInt, arith, Option.map_some, Option.some.injEq] at h
 case quo =>
  split at h
  ·cases h
  ·rename_i h0
   simp only [Option.map_some, Option.some.injEq] at h
   subst h
   exact ⟨_, by simp [binOp, Op.intDiv, h0], .rd _ _ (.int _ _)⟩
 case rem =>
  split at h
  ·cases h
  ·rename_i h0
   simp only [Option.some.injEq] at h
   subst h
   exact ⟨_, by simp [binOp, Op.intDiv, h0], .rd _ _ (.int _ _)⟩
 all_goals first
  | (subst h; exact ⟨_, by simp [binOp, Op.intArith], .rd _ _ (.int _ _)⟩)
  | (subst h; exact ⟨_, by simp [binOp, Op.intCmp], .rd _ _ (.bool _)⟩)
  | (cases h)
theorem strOp_run {op : BinOp} {p q : List UInt8} {x y : ByteArray} {v : V} (h : strOp op p q = some v) (hx : x.data.toList = p) (hy : y.data.toList = q) (t : TypeId) (w : World) :
  ∃ z, (binOp op t (.string x) (.string y)).run P w = .ok z w ∧ VR Γ w v z := by
 have ex := toList_str hx
 have ey := toList_str hy
 cases op <;> simp only [strOp, Option.some.injEq] at h
 case add =>
  split at h
  ·rename_i hle
   simp only [Option.some.injEq] at h
   subst h
   have hs : (x.size : Int) + (y.size : Int) ≤ 9223372036854775807 := by
    rw [size_str hx, size_str hy]
    omega
   refine ⟨.string (x ++ y), by simp [binOp, Op.stringOp]; exact hs, .rd _ _ (.str _ _ ?_)⟩
   rw [ByteArray.data_append, Array.toList_append, hx, hy]
  ·cases h
 all_goals first
  | (subst h; exact ⟨_, by simp [binOp, Op.stringOp, ex, ey, less], .rd _ _ (.bool _)⟩)
  | (cases h)
theorem pure_binOp (hA : Agree P c) (hs : Sim Γ st a w) {o : Oper} {op : BinOp} {t t' : TypeId} {x y : Operand} {v : V} (ho : o.op = .binOp op t x y t') (h : valOp c den (ev st.t) η d o.op = some (.val v)) : PureOk P Γ a w o v := by
 rw [ho] at h
 simp only [valOp, plain] at h
 cases ht : c.ty t with
 | none => rw [ht] at h; cases h
 | some i =>
  rw [ht] at h
  simp only at h
  cases hb : binV i op (ev st.t x) (ev st.t y) with
  | none => rw [hb] at h; cases h
  | some u =>
   rw [hb] at h
   simp only [Option.some.injEq, Out.val.injEq] at h
   subst h
   obtain ⟨ti, ai⟩ := hA _ _ ht
   have hx := hs.ev x
   have hy := hs.ev y
   unfold binV at hb
   split at hb
   ·rename_i p q e1 e2
    rw [e1] at hx; rw [e2] at hy
    have f1 := hx.bool_inv
    have f2 := hy.bool_inv
    split at hb
    ·rename_i hi
     injection hb with hb
     subst hb
     exact ⟨.bool (p == q), by simp [execOp, ho, f1, f2, eqGuard, binOp, Op.equal, Op.maxDepth, run_equalIn_bool' (P := P) w 9999 t p q (ai.bool hi)], .rd _ _ (.bool _)⟩
    ·rename_i hi
     injection hb with hb
     subst hb
     exact ⟨.bool (!(p == q)), by simp [execOp, ho, f1, f2, eqGuard, binOp, Op.equal, Op.maxDepth, run_equalIn_bool' (P := P) w 9999 t p q (ai.bool hi)], .rd _ _ (.bool _)⟩
    ·cases hb
   ·rename_i k p k' q e1 e2
    split at hb
    ·rename_i hk
     subst hk
     rw [e1] at hx; rw [e2] at hy
     have f1 := hx.int_inv
     have f2 := hy.int_inv
     obtain ⟨z, hz, hv⟩ := intOp_run (P := P) (Γ := Γ) hb t w
     exact ⟨z, by simp [execOp, ho, f1, f2, eqGuard, hz], hv⟩
    ·cases hb
   ·rename_i p q e1 e2
    rw [e1] at hx; rw [e2] at hy
    obtain ⟨x1, f1, g1⟩ := hx.str_inv
    obtain ⟨y1, f2, g2⟩ := hy.str_inv
    obtain ⟨z, hz, hv⟩ := strOp_run (P := P) (Γ := Γ) hb g1 g2 t w
    exact ⟨z, by simp [execOp, ho, f1, f2, eqGuard, hz], hv⟩
   ·rename_i p q e1 e2
    rw [e1] at hx; rw [e2] at hy
    obtain ⟨xs, f1, hl1, hr1⟩ := hx.agg_inv
    obtain ⟨ys, f2, hl2, hr2⟩ := hy.agg_inv
    have scal : ∀ {v : V} {z : Value}, VR Γ w v z → Scal v z := by
     intro v z hv
     cases v <;> simp only [Scal]
     ·exact hv.bool_inv
     ·exact hv.int_inv
     ·exact hv.str_inv
    split at hb
    ·rename_i r hcmp hr
     injection hb with hb
     subst hb
     simp only [Bool.and_eq_true] at hcmp
     obtain ⟨g0, g1⟩ := ai.cmp hcmp.1.1
     have := g1 w xs ys p q r hl1 hl2 hcmp.1.2 hcmp.2 (fun j u z h1 h2 => scal (hr1 j u z h1 h2)) (fun j u z h1 h2 => scal (hr2 j u z h1 h2)) hr
     exact ⟨.bool r, by simp [execOp, ho, f1, f2, run_eqGuard_agg w _ t x y xs ys g0, run_eql_struct, this], .rd _ _ (.bool _)⟩
    ·rename_i r hcmp hr
     injection hb with hb
     subst hb
     simp only [Bool.and_eq_true] at hcmp
     obtain ⟨g0, g1⟩ := ai.cmp hcmp.1.1
     have := g1 w xs ys p q r hl1 hl2 hcmp.1.2 hcmp.2 (fun j u z h1 h2 => scal (hr1 j u z h1 h2)) (fun j u z h1 h2 => scal (hr2 j u z h1 h2)) hr
     exact ⟨.bool (!r), by simp [execOp, ho, f1, f2, run_eqGuard_agg w _ t x y xs ys g0, run_neq_struct, this], .rd _ _ (.bool _)⟩
    ·cases hb
   ·cases hb
theorem Rows.cell {S : Nat → Prop} {s : Nat} {xs : List V} {k o : Nat} (h : Rows w S s xs k o) {i : Nat} {x : V} (hx : xs[i]? = some x) : x.cells.length = s ∧ ∃ g : Nat → Value, (∀ j : Nat, j < x.cells.length → w.cell? ⟨k, o + i * s + j, none⟩ = some (g j) ∧ (g j).oneCell' = true) ∧
  ∀ (j : Nat) (u : V), x.cells[j]? = some u → Rd w S u (g j) := by
 obtain ⟨h1, g, h2, h3⟩ := h
 have hl := h1 x (mem_of_get hx)
 have hi : i < xs.length := (List.getElem?_eq_some_iff.1 hx).1
 exact ⟨hl, g i, fun j hj => h2 i j hi (by omega), fun j u hu => h3 i x j u hx hu⟩
theorem Sq_le {q : Q} {k : Nat} (h : Γ.Sq q k) : Γ.S k := by
 cases q with
 | any => exact h
 | flat => exact h.1
 | clean => exact h.1
theorem addOff_ok {v u : V} {x : Value} {n : Nat} (h : VR Γ w v x) (hu : addOff v n = some u) : ∃ (k o : Nat), x = .pointer (some ⟨k, o, none⟩) ∧ VR Γ w u (.pointer (some ⟨k, o + n, none⟩)) := by
 cases v with
 | ptr d' m =>
  simp only [addOff, Option.some.injEq] at hu
  subst hu
  obtain ⟨e, hd⟩ := h.ptr_inv
  exact ⟨_, _, e, .ptr d' (m + n) hd⟩
 | iptr y m =>
  simp only [addOff, Option.some.injEq] at hu
  subst hu
  obtain ⟨k, o, g, e, h1, h2, h3⟩ := h.iptr_inv
  have := Rd.iptr (w := w) (S := Γ.S) y k o (m + n) g h1 h2 h3
  rw [← Nat.add_assoc] at this
  exact ⟨k, o + m, e, .rd _ _ this⟩
 | vptr b y m =>
  simp only [addOff, Option.some.injEq] at hu
  subst hu
  obtain ⟨o, g, e, h1, h2, h3⟩ := h.vptr_inv
  have := VR.vptr (Γ := Γ) (w := w) b y o (m + n) g h1 h2 h3
  rw [← Nat.add_assoc] at this
  exact ⟨_, o + m, e, this⟩
 | eptr b s q xs i m =>
  simp only [addOff, Option.some.injEq] at hu
  subst hu
  obtain ⟨e, h1, h2, h3, h4, h5, h6⟩ := h.eptr_inv
  have := VR.eptr (Γ := Γ) (w := w) b s q xs i (m + n) h1 h2 h3 h4 h5 h6 h.eptr_uq
  rw [← Nat.add_assoc] at this
  exact ⟨_, _, e, this⟩
 | _ => cases hu
theorem addrOf_ok {v u : V} {x : Value} {s : Nat} {n : Int} (h : VR Γ w v x) (hu : addrOf s v n = some u) : 0 ≤ n ∧ ∃ (k o len cap : Nat), x = .slice (some ⟨k, o, none⟩) len cap ∧ n < len ∧ VR Γ w u (.pointer (some ⟨k, o + n.toNat * s, none⟩)) := by
 unfold addrOf at hu
 split at hu
 ·cases hu
 rename_i hn
 refine ⟨by omega, ?_⟩
 cases v with
 | sl s' f xs =>
  simp only at hu
  split at hu
  ·rename_i hs
   subst hs
   cases hx : xs[n.toNat]? with
   | none => rw [hx] at hu; cases hu
   | some y =>
    rw [hx] at hu
    simp only [Option.map_some, Option.some.injEq] at hu
    subst hu
    have hi : n.toNat < xs.length := (List.getElem?_eq_some_iff.1 hx).1
    have hr := h.sl_inv
    cases hr with
    | empty => simp at hi
    | sl _ _ _ k o cap g hl hcap hS hsz hf hg hr =>
     have hy := hsz y (mem_of_get hx)
     have := Rd.iptr (w := w) (S := Γ.S) y k (o + n.toNat * s') 0 (g n.toNat) hS (fun j hj => (hg n.toNat j hi (by omega)).1) (fun j u hu => hr n.toNat y j u hx hu)
     exact ⟨k, o, _, cap, rfl, by omega, .rd _ _ this⟩
  ·cases hu
 | view b s' q xs =>
  simp only at hu
  split at hu
  ·rename_i hs
   subst hs
   cases hx : xs[n.toNat]? with
   | none => rw [hx] at hu; cases hu
   | some y =>
    rw [hx] at hu
    simp only [Option.map_some, Option.some.injEq] at hu
    subst hu
    have hi : n.toNat < xs.length := (List.getElem?_eq_some_iff.1 hx).1
    rcases h.view_inv with ⟨_, _, _, e⟩ | ⟨o, cap, e, hb, _, hl, hfit, hr, hq⟩
    ·subst e; simp at hi
    ·obtain ⟨hsz, g, h2, h3⟩ := hr.cell hx
     have := VR.vptr (Γ := Γ) (w := w) b y (o + n.toNat * s') 0 g hb (fun j hj => (h2 j hj).1) (fun j u hu => (h3 j u hu).mono (fun k hk => Sq_le hk) (fun _ _ _ => rfl))
     exact ⟨_, o, _, cap, e, by omega, this⟩
  ·cases hu
 | own b s' q xs =>
  simp only at hu
  split at hu
  ·rename_i hs
   subst hs
   split at hu
   ·rename_i hi
    injection hu with hu
    subst hu
    rcases h.own_inv with ⟨_, e, _⟩ | ⟨e, hb, h1, h2, h3, h4⟩
    ·subst e; simp at hi
    ·exact ⟨_, _, _, _, e, by omega, VR.eptr (Γ := Γ) (w := w) b s' q xs n.toNat 0 hb h1 h2 hi h3 h4 h.own_uq⟩
   ·cases hu
  ·cases hu
 | _ => cases hu
theorem cellsAt_ok (hs : Sim Γ st a w) {v : V} {x : Value} {cs : List V} (h : VR Γ w v x) (hc : cellsAt (fun b => st.h.getD b none) v = some cs) :
  ∃ (k o : Nat) (g : Nat → Value), x = .pointer (some ⟨k, o, none⟩) ∧ (∀ j : Nat, j < cs.length → w.cell? ⟨k, o + j, none⟩ = some (g j)) ∧ ∀ (j : Nat) (u : V), cs[j]? = some u → VR Γ w u (g j) := by
 cases v with
 | ptr d' m =>
  simp only [cellsAt] at hc
  cases hb : st.h.getD d' none with
  | none => rw [hb] at hc; cases hc
  | some r =>
   rw [hb] at hc
   simp only [Option.map_some, Option.some.injEq] at hc
   subst hc
   have hb' : st.h[d']? = some (some r) := by
    simp only [List.getD] at hb
    cases h0 : st.h[d']? with
    | none => rw [h0] at hb; cases hb
    | some y => rw [h0] at hb; simp only [Option.getD_some] at hb; rw [hb]
   obtain ⟨_, cur, e, hcur, hsz, hv⟩ := hs.bx d' r hb'
   refine ⟨Γ.box d', m, fun j => cur.getD (m + j) undef, h.ptr_inv.1, fun j hj => ?_, fun j u hu => ?_⟩
   ·rw [List.length_drop] at hj
    have hlt : m + j < cur.size := by omega
    simp [World.cell?, hcur, hlt, Array.getD_eq_getD_getElem?, Array.getElem?_eq_getElem hlt]
   ·rw [List.getElem?_drop] at hu
    obtain ⟨y, hy, hvy⟩ := hv _ _ hu
    simp only [Array.getD_eq_getD_getElem?, hy]
    exact hvy
 | iptr y m =>
  simp only [cellsAt, Option.some.injEq] at hc
  subst hc
  obtain ⟨k, o, g, e, h1, h2, h3⟩ := h.iptr_inv
  refine ⟨k, o + m, fun j => g (m + j), e, fun j hj => ?_, fun j u hu => ?_⟩
  ·rw [List.length_drop] at hj
   have := h2 (m + j) (by omega)
   rwa [← Nat.add_assoc] at this
  ·rw [List.getElem?_drop] at hu
   exact .rd _ _ (h3 _ _ hu)
 | vptr b y m =>
  simp only [cellsAt, Option.some.injEq] at hc
  subst hc
  obtain ⟨o, g, e, h1, h2, h3⟩ := h.vptr_inv
  refine ⟨_, o + m, fun j => g (m + j), e, fun j hj => ?_, fun j u hu => ?_⟩
  ·rw [List.length_drop] at hj
   have := h2 (m + j) (by omega)
   rwa [← Nat.add_assoc] at this
  ·rw [List.getElem?_drop] at hu
   exact .rd _ _ (h3 _ _ hu)
 | eptr b s q xs i m =>
  simp only [cellsAt] at hc
  cases hx : xs[i]? with
  | none => rw [hx] at hc; cases hc
  | some y =>
   rw [hx] at hc
   simp only [Option.map_some, Option.some.injEq] at hc
   subst hc
   obtain ⟨e, h1, h2, h3, h4, h5, h6⟩ := h.eptr_inv
   obtain ⟨hsz, g, g2, g3⟩ := h5.cell hx
   refine ⟨_, Γ.off b + i * s + m, fun j => g (m + j), e, fun j hj => ?_, fun j u hu => ?_⟩
   ·rw [List.length_drop] at hj
    have := (g2 (m + j) (by omega)).1
    rwa [← Nat.add_assoc] at this
   ·rw [List.getElem?_drop] at hu
    exact .rd _ _ ((g3 _ _ hu).mono (fun k hk => Sq_le hk) (fun _ _ _ => rfl))
 | _ => cases hc
theorem packV_ok {i : TyInfo} {ti : TypeInfo} {t : Nat} (ai : AgreeT P c t i ti) {cs : List V} {v : V} {k o : Nat} {g : Nat → Value} (hp : packV i.d.isAgg i.size cs = some v)
  (hg : ∀ j : Nat, j < cs.length → w.cell? ⟨k, o + j, none⟩ = some (g j)) (hr : ∀ (j : Nat) (u : V), cs[j]? = some u → VR Γ w u (g j)) :
  ∃ x, (loadVar t ⟨k, o, none⟩).run P w = .ok x w ∧ VR Γ w v x := by
 unfold packV at hp
 split at hp
 ·cases hp
 rename_i hlen
 have hadd : ∀ j, (⟨k, o, none⟩ : Addr).add j = ⟨k, o + j, none⟩ := by intro j; unfold Addr.add; split <;> simp_all
 split at hp
 ·rename_i hagg
  injection hp with hp
  subst hp
  have hu : ∃ dd, P.underlying t = some dd ∧ ((∃ fs, dd = .struct fs) ∨ (∃ n e, dd = .array n e)) := by
   cases hd : i.d with
   | struct fs => obtain ⟨f, h1, _⟩ := ai.struct fs hd; exact ⟨_, h1, .inl ⟨_, rfl⟩⟩
   | array n e => exact ⟨_, ai.array n e hd, .inr ⟨_, _, rfl⟩⟩
   | _ => rw [hd] at hagg; cases hagg
  obtain ⟨dd, hdd, hk⟩ := hu
  have hl := run_loadCells (P := P) w ⟨k, o, none⟩ i.size g (fun j hj => by rw [hadd]; exact hg j (by omega))
  refine ⟨.agg ((List.range i.size).map g).toArray, ?_, .agg _ _ (by simp; omega) ?_⟩
  ·rcases hk with ⟨fs, rfl⟩ | ⟨n, e, rfl⟩ <;> simp [loadVar, isAgg, run_underlying hdd, sizeOf, typeInfo, ai.info, ai.size, hl]
  ·intro j u y h1 h2
   rw [List.getElem?_take] at h1
   split at h1
   ·rename_i hj
    have : y = g j := by
     simp only [List.getElem?_toArray, List.getElem?_map, List.getElem?_range hj, Option.map_some, Option.some.injEq] at h2
     exact h2.symm
    subst this
    exact hr j u h1
   ·cases h1
 ·rename_i hagg
  split at hp
  ·rename_i h1
   obtain ⟨dd, hdd, n1, n2⟩ := ai.agg (by simpa using hagg)
   cases cs with
   | nil => cases hp
   | cons u rest =>
    simp only [List.head?_cons, Option.some.injEq] at hp
    subst hp
    have h0 := hg 0 (by simp)
    simp only [Nat.add_zero] at h0
    refine ⟨g 0, ?_, hr 0 u rfl⟩
    simp only [loadVar, isAgg, Sem.run_bind, run_underlying hdd, Result.andThen_ok]
    cases dd with
    | struct fs => exact absurd rfl (n1 fs)
    | array n e => exact absurd rfl (n2 n e)
    | _ => simp [h0]
  ·cases hp
theorem pure_load (hA : Agree P c) (hs : Sim Γ st a w) {o : Oper} {t : TypeId} {x : Operand} {v : V} (ho : o.op = .load t x) (h : valOp c den (ev st.t) (fun b => st.h.getD b none) d o.op = some (.val v)) : PureOk P Γ a w o v := by
 rw [ho] at h
 simp only [valOp, plain, loadV] at h
 cases ht : c.ty t with
 | none => rw [ht] at h; cases h
 | some i =>
  rw [ht] at h
  simp only at h
  cases hc : cellsAt (fun b => st.h.getD b none) (ev st.t x) with
  | none => rw [hc] at h; cases h
  | some cs =>
   rw [hc] at h
   simp only at h
   cases hp : packV i.d.isAgg i.size cs with
   | none => rw [hp] at h; cases h
   | some u =>
    rw [hp] at h
    simp only [Option.some.injEq, Out.val.injEq] at h
    subst h
    obtain ⟨ti, ai⟩ := hA _ _ ht
    obtain ⟨k, o', g, e, h1, h2⟩ := cellsAt_ok hs (hs.ev x) hc
    obtain ⟨y, hy, hv⟩ := packV_ok ai hp h1 h2
    exact ⟨y, by simp [execOp, ho, e, Instr.loadAt, Instr.sureAddr, hy], hv⟩
theorem pure_fieldAddr (hA : Agree P c) (hs : Sim Γ st a w) {o : Oper} {t : TypeId} {x : Operand} {f : Nat} {v : V} (ho : o.op = .fieldAddr t x f) (h : valOp c den (ev st.t) η d o.op = some (.val v)) : PureOk P Γ a w o v := by
 rw [ho] at h
 simp only [valOp, plain] at h
 split at h
 ·rename_i fs sz by_ z cm nz_ qz_ ht
  split at h
  ·rename_i off ft hf
   split at h
   ·rename_i j hj
    split at h
    ·cases h
    ·rename_i hj0
     split at h
     ·rename_i u hu
      simp only [Option.some.injEq, Out.val.injEq] at h
      subst h
      obtain ⟨ti, ai⟩ := hA _ _ ht
      obtain ⟨tj, aj⟩ := hA _ _ hj
      obtain ⟨fields, hfs, hmap, _⟩ := ai.struct fs rfl
      obtain ⟨k, o', e, hv⟩ := addOff_ok (hs.ev x) hu
      have hfld : ∃ fl, fields[f]? = some fl ∧ fl.offset = off ∧ fl.type = ft := by
       rw [← hmap, List.getElem?_map, Array.getElem?_toList] at hf
       cases hq : fields[f]? with
       | none => rw [hq] at hf; cases hf
       | some fl => rw [hq] at hf; simp only [Option.map_some, Option.some.injEq, Prod.mk.injEq] at hf; exact ⟨fl, rfl, hf.1, hf.2⟩
      obtain ⟨fl, hfl, rfl, rfl⟩ := hfld
      have hadd : (⟨k, o', none⟩ : Addr).add fl.offset = ⟨k, o' + fl.offset, none⟩ := by unfold Addr.add; split <;> simp_all
      exact ⟨_, by simp [execOp, ho, e, Instr.fieldAt, run_underlying hfs, hfl, Instr.sureAddr, fieldPlace, sizeOf, typeInfo, aj.info, aj.size, hj0, hadd], hv⟩
     ·cases h
   ·cases h
  ·cases h
 ·cases h
end
end Go.Am
end
