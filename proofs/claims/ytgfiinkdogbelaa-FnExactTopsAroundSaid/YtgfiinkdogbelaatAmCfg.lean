/-
  What the machine is told of this seat's translation, by program (cfg.py). Not trusted: the types are checked against the program here by one reckoning.
-/
import Derived.Test.YtgfiinkdogbelaatAmSize
import Derived.Below
import Derived.Lib.Join
import Derived.Lib.ItoaNum
import Derived.Lib.Bytealg
import Derived.Lib.Strings
import Derived.Sort.Grow
import Derived.Deep.Draws
import Derived.Shelf.SlLaysE
import Derived.Shelf.SlicesE.Compact
import Derived.Shelf.SlicesQ.Load
import Derived.Shelf.GgSortFunc.RowK
import Derived.Sort.WalkB12
import Derived.Lib.SlicesMore
import Derived.Lib.SlicesCompact
import Derived.Shelf.GgSortFunc.InsertionK
import Derived.Test.YtgfiinkdogbelaatAmDraw
import Derived.Test.YtgfiinkdogbelaaProg
section
set_option linter.unusedVariables false
set_option linter.unusedSimpArgs false
namespace Go.Am
open Go
section
variable {α γ β : Type}
def Imp (x : Option α) (y : Option γ) (k : γ → Option α) : Prop := ∀ r, y = some r → x = k r
theorem c1 {A Z : Type _} (f : A → Z) {a a' : A} (h : a = a') : f a = f a' := h ▸ rfl
theorem c2 {A B Z : Type _} (f : A → B → Z) {a a' : A} {b b' : B} (h1 : a = a') (h2 : b = b') : f a b = f a' b' := by subst h1; subst h2; rfl
theorem c3 {A B C Z : Type _} (f : A → B → C → Z) {a a' : A} {b b' : B} {c c' : C} (h1 : a = a') (h2 : b = b') (h3 : c = c') : f a b c = f a' b' c' := by subst h1; subst h2; subst h3; rfl
theorem c4 {A B C D' Z : Type _} (f : A → B → C → D' → Z) {a a' : A} {b b' : B} {c c' : C} {d d' : D'} (h1 : a = a') (h2 : b = b') (h3 : c = c') (h4 : d = d') : f a b c d = f a' b' c' d' := by subst h1; subst h2; subst h3; subst h4; rfl
theorem c8 {A B C D' E F' G' H' Z : Type _} (f : A → B → C → D' → E → F' → G' → H' → Z) {a a' : A} {b b' : B} {c c' : C} {d d' : D'} {e e' : E} {g g' : F'} {i i' : G'} {j j' : H'} (h1 : a = a') (h2 : b = b') (h3 : c = c') (h4 : d = d') (h5 : e = e') (h6 : g = g') (h7 : i = i') (h8 : j = j') : f a b c d e g i j = f a' b' c' d' e' g' i' j' := by subst h1; subst h2; subst h3; subst h4; subst h5; subst h6; subst h7; subst h8; rfl
abbrev rU8 (l : List Int) : List V := rows1 (.int .u8) (fun e => e) l
section
variable {T : Type} {ks : List CK} {g : T → cellsT ks} {kd : CK} {g1 : T → kd.T}
theorem T_len (l : List T) : (rows ks g l).length = l.length := List.length_map _
theorem U_len (l : List T) : (rows1 kd g1 l).length = l.length := List.length_map _
theorem T_app (a b : List T) : rows ks g a ++ rows ks g b = rows ks g (a ++ b) := rows_app a b
theorem U_app (a b : List T) : rows1 kd g1 a ++ rows1 kd g1 b = rows1 kd g1 (a ++ b) := rows1_app a b
theorem U_cut (l : List T) (n m : Nat) : ((rows1 kd g1 l).take n).drop m = rows1 kd g1 ((l.take n).drop m) := by rw [rows1_take, rows1_drop]
theorem T_lt {l : List T} {i : Nat} (h : i < l.length) : (i : Int) < ((rows ks g l).length : Int) := by rw [T_len]; omega
theorem U_lt {l : List T} {i : Nat} (h : i < l.length) : (i : Int) < ((rows1 kd g1 l).length : Int) := by rw [U_len]; omega
theorem T_irr (l : List T) : ¬ (l.length : Int) < ((rows ks g l).length : Int) := by rw [T_len]; omega
theorem U_irr (l : List T) : ¬ (l.length : Int) < ((rows1 kd g1 l).length : Int) := by rw [U_len]; omega
end
def strI (l : List Int) : List UInt8 := l.map fun n => UInt8.ofNat n.toNat
theorem bytesOf_rU8 (l : List Int) : bytesOf (rU8 l) = some (strI l) := by
 induction l with
 | nil => rfl
 | cons n l ih =>
  show (bytesOf (rU8 l)).map (UInt8.ofNat n.toNat :: ·) = _
  rw [ih]
  rfl
def getI {T : Type} (l : List T) (n : Int) : Option T := if 0 ≤ n then l[n.toNat]? else none
def getS (s : List UInt8) (n : Int) : Option Int := if 0 ≤ n then (s[n.toNat]?).map (fun b => (b.toNat : Int)) else none
def modI {T : Type} (l : List T) (n : Int) (f : T → T) : Option (List T) := match l[n.toNat]? with
 | some x => some (l.set n.toNat (f x))
 | none => none
noncomputable def whileE {σ ρ : Type} (body : σ → Option (σ ⊕ ρ)) (s : σ) : Option ρ := whileInf body s
def forA {T σ ρ : Type} (body : Nat → T → σ → Option (σ ⊕ ρ)) (fin : σ → ρ) : Nat → List T → σ → Option ρ
 | _, [], s => some (fin s)
 | i, x :: xs, s => match body i x s with
  | some (.inl s') => forA body fin (i + 1) xs s'
  | some (.inr r) => some r
  | none => none
def forE {T σ ρ : Type} (l : List T) (body : Nat → T → σ → Option (σ ⊕ ρ)) (fin : σ → ρ) (s : σ) : Option ρ := if l.length ≤ maxLen then forA body fin 0 l s else none
variable {x y : Option α} {x' y' : Option γ} {k : γ → Option α}
theorem Imp.no : Imp x (none : Option γ) k := fun _ h => by cases h
theorem Imp.ret {r : γ} (h : x = k r) : Imp x (some r) k := fun _ e => by cases e; exact h
theorem Imp.br {b b' : Bool} (hb : b = b') (hx : Imp x x' k) (hy : Imp y y' k) : Imp (br b x y) (Go.Am.br b' x' y') k := by subst hb; cases b; exact hy; exact hx
theorem Imp.brT {p : Prop} {d : Decidable p} (h : p) (hx : Imp x x' k) : Imp (Go.Am.br (@decide p d) x y) x' k := fun r e => brE h (hx r e)
theorem Imp.chk {p p' : Prop} {d : Decidable p} {d' : Decidable p'} (hp : p = p') (hx : p' → Imp x x' k) : Imp (@Go.Am.chk α p d x) (@Go.Am.chk γ p' d' x') k := by
 subst hp
 intro r e
 unfold Go.Am.chk at e ⊢
 by_cases c : p
 ·rw [if_pos c] at e ⊢; exact hx c r e
 ·rw [if_neg c] at e; cases e
theorem Imp.chkE {p : Prop} {d : Decidable p} (hp : p) (hx : Imp x x' k) : Imp (@Go.Am.chk α p d x) x' k := fun r e => Go.Am.chkE hp (hx r e)
theorem Imp.ifT {p : Prop} {d : Decidable p} (h : p) (hx : Imp x x' k) : Imp (@ite _ p d x y) x' k := fun r e => (if_pos h).trans (hx r e)
theorem Imp.ifF {p : Prop} {d : Decidable p} (h : ¬ p) (hy : Imp y x' k) : Imp (@ite _ p d x y) x' k := fun r e => (if_neg h).trans (hy r e)
theorem bind_inv {A B : Type} {o : Option A} {f : A → Option B} {r : B} (h : o.bind f = some r) : ∃ a, o = some a ∧ f a = some r := by
 cases o with
 | none => cases h
 | some a => exact ⟨a, rfl, h⟩
theorem getI_inv {T : Type} {l : List T} {n : Int} {a : T} (h : getI l n = some a) : 0 ≤ n ∧ l[n.toNat]? = some a := by
 unfold getI at h
 by_cases c : 0 ≤ n
 ·rw [if_pos c] at h; exact ⟨c, h⟩
 ·rw [if_neg c] at h; cases h
section
variable {T : Type} {ks ks' : List CK} {g : T → cellsT ks} {kd : CK} {g1 : T → kd.T} {l : List T} {xs : List V} {n n' : Int} {i : Nat} {X' : T → Option γ}
theorem Imp.idx {d : Decidable (0 ≤ n)} {X : cellsT ks → Option α} (hl : xs = rows ks g l) (hn : n = n') (hx : ∀ e, getI l n' = some e → Imp (X (g e)) (X' e) k) : Imp (@Go.Am.chk α (0 ≤ n) d (Go.Am.idx true ks xs n.toNat X)) ((getI l n').bind X') k := by
 subst hl; subst hn
 intro r h
 obtain ⟨e, h1, h2⟩ := bind_inv h
 obtain ⟨h3, h4⟩ := getI_inv h1
 exact Go.Am.chkE h3 (idxE h4 (hx e h1 r h2))
theorem Imp.idxFor {X : cellsT ks → Option α} {e : T} {d : Decidable ((0 : Int) ≤ (i : Int))} (h : l[i]? = some e) (hx : Imp (X (g e)) x' k) : Imp (@Go.Am.chk α ((0 : Int) ≤ (i : Int)) d (Go.Am.idx true ks (rows ks g l) i X)) x' k :=
 fun r hr => chkN (idxE h (hx r hr))
theorem Imp.idxFor1 {X : cellsT [kd] → Option α} {e : T} {d : Decidable ((0 : Int) ≤ (i : Int))} (h : l[i]? = some e) (hx : Imp (X (g1 e, ())) x' k) : Imp (@Go.Am.chk α ((0 : Int) ≤ (i : Int)) d (Go.Am.idx false [kd] (rows1 kd g1 l) i X)) x' k :=
 fun r hr => chkN (idxE1 h (hx r hr))
theorem Imp.idxAt {o : Nat} {X : cellsT ks' → Option α} {pr : T → cellsT ks'} (hl : xs = rows ks g l) (hn : n.toNat = n'.toNat) (hd : ∀ e, cellsDec ks' (((cellsEnc ks (g e)).drop o).take ks'.length) = some (pr e)) (hx : ∀ e, getI l n' = some e → Imp (X (pr e)) (X' e) k) : Imp (Go.Am.idxAt ks' xs n.toNat o X) ((getI l n').bind X') k := by
 subst hl
 intro r h
 obtain ⟨e, h1, h2⟩ := bind_inv h
 refine Eq.trans ?_ (hx e h1 r h2)
 unfold Go.Am.idxAt rows
 rw [hn, List.getElem?_map, (getI_inv h1).2]
 show (match cellsDec ks' (((cellsEnc ks (g e)).drop o).take ks'.length) with
  | some e => X e
  | none => none) = _
 rw [hd]
theorem Imp.idxAt1 {o : Nat} {X : cellsT [kd] → Option α} {pr : T → cellsT [kd]} (hl : xs = rows1 kd g1 l) (hn : n.toNat = n'.toNat) (hd : ∀ e, cellsDec [kd] (((kd.enc (g1 e)).cells.drop o).take [kd].length) = some (pr e)) (hx : ∀ e, getI l n' = some e → Imp (X (pr e)) (X' e) k) : Imp (Go.Am.idxAt [kd] xs n.toNat o X) ((getI l n').bind X') k := by
 subst hl
 intro r h
 obtain ⟨e, h1, h2⟩ := bind_inv h
 refine Eq.trans ?_ (hx e h1 r h2)
 unfold Go.Am.idxAt rows1
 rw [hn, List.getElem?_map, (getI_inv h1).2]
 rw [show (Option.map (fun y => kd.enc (g1 y)) (some e)).bind (fun r => cellsDec [kd] ((r.cells.drop o).take [kd].length)) = some (pr e) from hd e]
theorem Imp.idxAtFor {o : Nat} {e : T} {X : cellsT ks' → Option α} {c : cellsT ks'} (h : l[i]? = some e) (hd : cellsDec ks' (((cellsEnc ks (g e)).drop o).take ks'.length) = some c) (hx : Imp (X c) x' k) : Imp (Go.Am.idxAt ks' (rows ks g l) i o X) x' k := by
 intro r hr
 refine Eq.trans ?_ (hx r hr)
 unfold Go.Am.idxAt rows
 rw [List.getElem?_map, h]
 show (match cellsDec ks' (((cellsEnc ks (g e)).drop o).take ks'.length) with
  | some e => X e
  | none => none) = _
 rw [hd]
theorem Imp.idxAtFor1 {o : Nat} {e : T} {X : cellsT [kd] → Option α} {c : cellsT [kd]} (h : l[i]? = some e) (hd : cellsDec [kd] (((kd.enc (g1 e)).cells.drop o).take [kd].length) = some c) (hx : Imp (X c) x' k) : Imp (Go.Am.idxAt [kd] (rows1 kd g1 l) i o X) x' k := by
 intro r hr
 refine Eq.trans ?_ (hx r hr)
 unfold Go.Am.idxAt rows1
 rw [List.getElem?_map, h]
 rw [show (Option.map (fun y => kd.enc (g1 y)) (some e)).bind (fun r => cellsDec [kd] ((r.cells.drop o).take [kd].length)) = some c from hd]
theorem Imp.strO {xs : List V} {l : List Int} {X : List UInt8 → Option α} (hl : xs = rU8 l) (hx : Imp (X (strI l)) x' k) : Imp (Go.Am.strO xs X) x' k := by
 subst hl
 intro r hr
 unfold Go.Am.strO
 rw [bytesOf_rU8]
 exact hx r hr
theorem Imp.idxS {s : List UInt8} {X : Int → Option α} {X' : Int → Option γ} (hn : n = n') (hx : ∀ b, getS s n' = some b → Imp (X b) (X' b) k) : Imp (Go.Am.idxS s n X) ((getS s n').bind X') k := by
 subst hn
 intro r h
 obtain ⟨b, h1, h2⟩ := bind_inv h
 have h3 := hx b h1 r h2
 unfold getS at h1
 by_cases c : 0 ≤ n
 ·rw [if_pos c] at h1
  cases hs : s[n.toNat]? with
  | none => rw [hs] at h1; cases h1
  | some v =>
   rw [hs] at h1
   cases h1
   exact Go.Am.chkE c (by rw [hs]; exact h3)
 ·rw [if_neg c] at h1; cases h1
theorem Imp.store {o : Nat} {new : List V} {f : T → T} {X : List V → Option α} {X' : List T → Option γ} (hl : xs = rows ks g l) (hn : n.toNat = n'.toNat) (hf : ∀ e, over (cellsEnc ks (g e)) o new = some (cellsEnc ks (g (f e)))) (hx : ∀ e, modI l n' f = some e → Imp (X (rows ks g e)) (X' e) k) :
  Imp (storeO xs n.toNat o new X) ((modI l n' f).bind X') k := by
 subst hl
 intro r h
 obtain ⟨e, h1, h2⟩ := bind_inv h
 refine Eq.trans ?_ (hx e h1 r h2)
 unfold modI at h1
 unfold storeO storeRow rows
 rw [hn, List.getElem?_map]
 cases hi : l[n'.toNat]? with
 | none => rw [hi] at h1; cases h1
 | some a =>
  rw [hi] at h1
  cases h1
  show (match (match over (cellsEnc ks (g a)) o new with
   | some cs => some ((List.map (fun y => rowEnc true ks (g y)) l).set n'.toNat (reshape (rowEnc true ks (g a)) cs))
   | none => none) with
   | some ys => X ys
   | none => none) = _
  rw [hf]
  show X _ = X _
  rw [List.map_set]
  try rfl
end
theorem Imp.call {A R : Type} {f1 f2 : A → Option α} {K : A} {e : Option R} {K2 : R → Option α} {X' : R → Option γ} (he : f1 = f2) (h : Imp (f2 K) e K2) (hx : ∀ r, e = some r → Imp (K2 r) (X' r) k) : Imp (f1 K) (e.bind X') k := by
 subst he
 intro r hr
 obtain ⟨a, h1, h2⟩ := bind_inv hr
 exact (h a h1).trans (hx a h1 r h2)
section
variable {σ ρ T : Type}
theorem whileInf_imp {step : List Leaf → Option (List Leaf ⊕ (Nat × List Leaf))} {body : σ → Option (σ ⊕ ρ)} {enc : σ → List Leaf} {encR : ρ → Nat × List Leaf}
  (hb : ∀ s, Imp (step (enc s)) (body s) (fun z => some (match z with
   | .inl s' => .inl (enc s')
   | .inr r => .inr (encR r)))) {s : σ} {r : ρ} (h : whileInf body s = some r) : whileInf step (enc s) = some (encR r) := by
 obtain ⟨n, hn⟩ := whileInf_some h
 clear h
 induction n generalizing s with
 | zero => cases hn
 | succ n ih =>
  rw [whileN] at hn
  rw [whileInf_step]
  cases hs : body s with
  | none => rw [hs] at hn; cases hn
  | some z =>
   rw [hs] at hn
   rw [hb s z hs]
   cases z with
   | inl s' => exact ih hn
   | inr r' => cases hn; rfl
theorem Imp.while {step : List Leaf → Option (List Leaf ⊕ (Nat × List Leaf))} {body : σ → Option (σ ⊕ ρ)} {enc : σ → List Leaf} {encR : ρ → Nat × List Leaf} {init : List Leaf} {s0 : σ} {K : Nat × List Leaf → Option α} {K' : ρ → Option γ}
  (hi : init = enc s0) (hb : ∀ s, Imp (step (enc s)) (body s) (fun z => some (match z with
   | .inl s' => .inl (enc s')
   | .inr r => .inr (encR r)))) (hK : ∀ r, Imp (K (encR r)) (K' r) k) : Imp (whileK step init K) ((whileE body s0).bind K') k := by
 intro r h
 obtain ⟨a, h1, h2⟩ := bind_inv h
 unfold whileK
 rw [hi, whileInf_imp hb h1]
 exact hK a r h2
theorem wrapJ {i n : Nat} (h : i < n) (hn : n ≤ maxLen := by assumption) : IntKind.wrap .i64 ((i : Int) + 1) = ((i + 1 : Nat) : Int) := wrapS (by unfold maxLen at hn; omega)
theorem for_imp {step : List Leaf → Option (List Leaf ⊕ (Nat × List Leaf))} {l : List T} {body : Nat → T → σ → Option (σ ⊕ ρ)} {fin : σ → ρ} {enc : Nat → σ → List Leaf} {encR : ρ → Nat × List Leaf}
  (hb : ∀ i x s, l[i]? = some x → i < l.length → Imp (step (enc i s)) (body i x s) (fun z => some (match z with
   | .inl s' => .inl (enc (i + 1) s')
   | .inr r => .inr (encR r)))) (hf : ∀ s, step (enc l.length s) = some (.inr (encR (fin s)))) : ∀ (zs : List T) (i : Nat) (s : σ) (r : ρ), l.drop i = zs → i ≤ l.length → forA body fin i zs s = some r → whileInf step (enc i s) = some (encR r) := by
 intro zs
 induction zs with
 | nil =>
  intro i s r hd hi h
  have : i = l.length := by
   have := List.drop_eq_nil_iff.1 hd
   omega
  subst this
  rw [forA] at h
  cases h
  rw [whileInf_step, hf]
 | cons x zs ih =>
  intro i s r hd hi h
  have hx : l[i]? = some x := by
   have := congrArg (fun l => l[0]?) hd
   simpa using this
  have hlt := (List.getElem?_eq_some_iff.1 hx).1
  have hd' : l.drop (i + 1) = zs := by rw [← List.tail_drop, hd]; rfl
  rw [forA] at h
  rw [whileInf_step]
  cases hs : body i x s with
  | none => rw [hs] at h; cases h
  | some z =>
   rw [hs] at h
   rw [hb i x s hx hlt z hs]
   cases z with
   | inl s' => exact ih (i + 1) s' r hd' (by omega) h
   | inr r' => cases h; rfl
theorem Imp.for {step : List Leaf → Option (List Leaf ⊕ (Nat × List Leaf))} {l : List T} {body : Nat → T → σ → Option (σ ⊕ ρ)} {fin : σ → ρ} {enc : Nat → σ → List Leaf} {encR : ρ → Nat × List Leaf} {init : List Leaf} {s0 : σ} {K : Nat × List Leaf → Option α} {K' : ρ → Option γ}
  (hi : init = enc 0 s0) (hb : ∀ i x s, l[i]? = some x → i < l.length → l.length ≤ maxLen → Imp (step (enc i s)) (body i x s) (fun z => some (match z with
   | .inl s' => .inl (enc (i + 1) s')
   | .inr r => .inr (encR r)))) (hf : ∀ s, step (enc l.length s) = some (.inr (encR (fin s)))) (hK : ∀ r, Imp (K (encR r)) (K' r) k) : Imp (whileK step init K) ((forE l body fin s0).bind K') k := by
 intro r h
 obtain ⟨a, h1, h2⟩ := bind_inv h
 unfold forE at h1
 by_cases c : l.length ≤ maxLen
 ·rw [if_pos c] at h1
  unfold whileK
  rw [hi, for_imp (fun i x s e1 e2 => hb i x s e1 e2 c) hf l 0 s0 a rfl (Nat.zero_le _) h1]
  exact hK a r h2
 ·rw [if_neg c] at h1; cases h1
end
end
end Go.Am
end
section
set_option linter.unusedSimpArgs false
namespace Go.Am
open Go
structure TAddr where
  xHost : List UInt8
  xPath : List UInt8
  deriving DecidableEq
abbrev kAddr : List CK := [.str, .str]
def TAddr.row (a : TAddr) : cellsT kAddr := (a.xHost, a.xPath, ())
theorem TAddr.cmp (x y : TAddr) : ((x.xHost == y.xHost) && ((x.xPath == y.xPath) && true)) = decide (x = y) := by
 obtain ⟨p1, p2⟩ := x
 obtain ⟨q1, q2⟩ := y
 rw [Bool.eq_iff_iff]
 simp only [TAddr.mk.injEq, Bool.and_true, Bool.and_eq_true, beq_iff_eq, decide_eq_true_eq, and_assoc]
structure TResponse where
  xStatus : Int
  xKind : Int
  xBody : List UInt8
  xAge : Int
  xShares : Bool
  xPolicy : List UInt8
  deriving DecidableEq
abbrev kResponse : List CK := [.int .i64, .int .i64, .str, .int .i64, .bool, .str]
def TResponse.row (a : TResponse) : cellsT kResponse := (a.xStatus, a.xKind, a.xBody, a.xAge, a.xShares, a.xPolicy, ())
theorem TResponse.cmp (x y : TResponse) : ((x.xStatus == y.xStatus) && ((x.xKind == y.xKind) && ((x.xBody == y.xBody) && ((x.xAge == y.xAge) && ((x.xShares == y.xShares) && ((x.xPolicy == y.xPolicy) && true)))))) = decide (x = y) := by
 obtain ⟨p1, p2, p3, p4, p5, p6⟩ := x
 obtain ⟨q1, q2, q3, q4, q5, q6⟩ := y
 rw [Bool.eq_iff_iff]
 simp only [TResponse.mk.injEq, Bool.and_true, Bool.and_eq_true, beq_iff_eq, decide_eq_true_eq, and_assoc]
structure TEntry where
  xTop : List UInt8
  xTo : TAddr
  xResponse : TResponse
  xUntil : Int
  deriving DecidableEq
abbrev kEntry : List CK := [.str, .str, .str, .int .i64, .int .i64, .str, .int .i64, .bool, .str, .int .i64]
def TEntry.row (a : TEntry) : cellsT kEntry := (a.xTop, a.xTo.xHost, a.xTo.xPath, a.xResponse.xStatus, a.xResponse.xKind, a.xResponse.xBody, a.xResponse.xAge, a.xResponse.xShares, a.xResponse.xPolicy, a.xUntil, ())
theorem TEntry.cmp (x y : TEntry) : ((x.xTop == y.xTop) && ((x.xTo.xHost == y.xTo.xHost) && ((x.xTo.xPath == y.xTo.xPath) && ((x.xResponse.xStatus == y.xResponse.xStatus) && ((x.xResponse.xKind == y.xResponse.xKind) && ((x.xResponse.xBody == y.xResponse.xBody) && ((x.xResponse.xAge == y.xResponse.xAge) && ((x.xResponse.xShares == y.xResponse.xShares) && ((x.xResponse.xPolicy == y.xResponse.xPolicy) && ((x.xUntil == y.xUntil) && true)))))))))) = decide (x = y) := by
 obtain ⟨p1, ⟨p2, p3⟩, ⟨p4, p5, p6, p7, p8, p9⟩, p10⟩ := x
 obtain ⟨q1, ⟨q2, q3⟩, ⟨q4, q5, q6, q7, q8, q9⟩, q10⟩ := y
 rw [Bool.eq_iff_iff]
 simp only [TAddr.mk.injEq, TEntry.mk.injEq, TResponse.mk.injEq, Bool.and_true, Bool.and_eq_true, beq_iff_eq, decide_eq_true_eq, and_assoc]
structure TCache where
  xEntries : List TEntry
  deriving DecidableEq
abbrev kCache : List CK := [.sl 10 true]
def TCache.row (a : TCache) : cellsT kCache := ((rows kEntry TEntry.row a.xEntries), ())
structure TFile where
  xPath : List UInt8
  xResponse : TResponse
  deriving DecidableEq
abbrev kFile : List CK := [.str, .int .i64, .int .i64, .str, .int .i64, .bool, .str]
def TFile.row (a : TFile) : cellsT kFile := (a.xPath, a.xResponse.xStatus, a.xResponse.xKind, a.xResponse.xBody, a.xResponse.xAge, a.xResponse.xShares, a.xResponse.xPolicy, ())
theorem TFile.cmp (x y : TFile) : ((x.xPath == y.xPath) && ((x.xResponse.xStatus == y.xResponse.xStatus) && ((x.xResponse.xKind == y.xResponse.xKind) && ((x.xResponse.xBody == y.xResponse.xBody) && ((x.xResponse.xAge == y.xResponse.xAge) && ((x.xResponse.xShares == y.xResponse.xShares) && ((x.xResponse.xPolicy == y.xResponse.xPolicy) && true))))))) = decide (x = y) := by
 obtain ⟨p1, ⟨p2, p3, p4, p5, p6, p7⟩⟩ := x
 obtain ⟨q1, ⟨q2, q3, q4, q5, q6, q7⟩⟩ := y
 rw [Bool.eq_iff_iff]
 simp only [TFile.mk.injEq, TResponse.mk.injEq, Bool.and_true, Bool.and_eq_true, beq_iff_eq, decide_eq_true_eq, and_assoc]
structure TServer where
  xHost : List UInt8
  xFiles : List TFile
  deriving DecidableEq
abbrev kServer : List CK := [.str, .sl 7 true]
def TServer.row (a : TServer) : cellsT kServer := (a.xHost, (rows kFile TFile.row a.xFiles), ())
structure TSent where
  xTop : List UInt8
  xTo : TAddr
  xGuess : Bool
  deriving DecidableEq
abbrev kSent : List CK := [.str, .str, .str, .bool]
def TSent.row (a : TSent) : cellsT kSent := (a.xTop, a.xTo.xHost, a.xTo.xPath, a.xGuess, ())
theorem TSent.cmp (x y : TSent) : ((x.xTop == y.xTop) && ((x.xTo.xHost == y.xTo.xHost) && ((x.xTo.xPath == y.xTo.xPath) && ((x.xGuess == y.xGuess) && true)))) = decide (x = y) := by
 obtain ⟨p1, ⟨p2, p3⟩, p4⟩ := x
 obtain ⟨q1, ⟨q2, q3⟩, q4⟩ := y
 rw [Bool.eq_iff_iff]
 simp only [TAddr.mk.injEq, TSent.mk.injEq, Bool.and_true, Bool.and_eq_true, beq_iff_eq, decide_eq_true_eq, and_assoc]
structure TNet where
  xServers : List TServer
  xCache : TCache
  xLog : List TSent
  xNow : Int
  deriving DecidableEq
abbrev kNet : List CK := [.sl 2 false, .sl 10 true, .sl 4 true, .int .i64]
def TNet.row (a : TNet) : cellsT kNet := ((rows kServer TServer.row a.xServers), (rows kEntry TEntry.row a.xCache.xEntries), (rows kSent TSent.row a.xLog), a.xNow, ())
end Go.Am
end
section
set_option linter.unusedVariables false
set_option linter.unusedSimpArgs false
namespace Go.Am
open Go Go.RowKit
section
variable {P : Program} {c : Cfg}
def Kept (w w' : World) : Prop := w'.os = w.os ∧ w'.tape = w.tape ∧ w'.output = w.output ∧ w.heap.size ≤ w'.heap.size ∧ ∀ k, k < w.heap.size → w'.heap[k]? = w.heap[k]?
theorem Kept.refl (w : World) : Kept w w := ⟨rfl, rfl, rfl, Nat.le_refl _, fun _ _ => rfl⟩
theorem answer_plain {R : Nat → Prop} {w w' : World} {r : V} {x : Value} (hk : Kept w w') (hr : Rd w' (fun _ => False) r x) : Answer R w r x w' :=
 ⟨hk.1, hk.2.1, hk.2.2.1, hk.2.2.2.1, hk.2.2.2.2, { w0 := w', F := fun k => w.heap.size ≤ k, S := fun _ => False, has := fun _ => False, blk := fun _ => 0, off := fun _ => 0, cap := fun _ => 0, sz := fun _ => 0, ln := fun _ => 0, lb := fun _ => False, box := fun _ => 0, R := fun _ => False, Z := fun _ => False, N := fun _ _ => False, U := True },
  .rd _ _ hr, fun _ h => h, fun _ h => h.elim, fun _ h => h.elim, fun _ _ h => h.elim, fun _ h => h.elim, fun _ h => h.elim, trivial, fun _ h => h.elim, fun _ _ h => h.elim⟩
def ExtOk (P : Program) (f : Nat) (e : List V → Option V) : Prop := ∀ args r, e args = some r →
 (∃ fn, P.funcs[f]? = some fn ∧ fn.body.isNone = false ∧ (fn.name == "runtime.NumGoroutine") = false) ∧
 ∀ (R : Nat → Prop) (w : World) (vals : Array Value), globOk w → (∀ k, R k → k < w.heap.size) → args.length = vals.size → (∀ (i : Nat) (c : V) (v : Value), args[i]? = some c → vals[i]? = some v → Rd w R c v) →
  Calls P f vals w fun
   | .returned x, w' => Answer R w r x w'
   | _, _ => False
def extL : List (Nat × (List V → Option V)) → Nat → List V → Option V
 | [], _, _ => none
 | (g, e) :: r, f, args => if f = g then e args else extL r f args
theorem ext_nil : Answers P (extL []) := fun f args r h => by cases h
theorem ext_cons {g : Nat} {e : List V → Option V} {l : List (Nat × (List V → Option V))} (he : ExtOk P g e) (hl : Answers P (extL l)) : Answers P (extL ((g, e) :: l)) := by
 intro f args r h
 rw [extL] at h
 split at h
 ·rename_i hfg; subst hfg; exact he args r h
 ·exact hl f args r h
theorem ext_okW {ext : Nat → List V → Option V} {f : Nat} {e : List V → Option V} {sh : List (Bool × List CK)} {G : (β : Type) → argsT sh → (V → Option β) → Option β} (hE : ∀ args, ext f args = e args)
  (h : ∀ β (x : argsT sh) (k : V → Option β) r, G β x k = some r → ∃ v, e (argsEnc sh x) = some v ∧ k v = some r) : FnOk (den P c ext) f (wrap sh G) := by
 intro β args k r hr
 unfold wrap at hr
 split at hr
 ·rename_i x hx
  obtain ⟨v, h1, h2⟩ := h β x k r hr
  exact ⟨v, den_ext (by rw [hE, ← args_enc hx]; exact h1), h2⟩
 ·cases hr
theorem vals2 {vals : Array Value} {a b : V} (h : [a, b].length = vals.size) : ∃ x y, vals = #[x, y] ∧ vals[0]? = some x ∧ vals[1]? = some y := by
 obtain ⟨l⟩ := vals
 cases l with
 | nil => simp at h
 | cons x l => cases l with
  | nil => simp at h
  | cons y l => cases l with
   | nil => exact ⟨x, y, rfl, rfl, rfl⟩
   | cons z l => simp at h
theorem rd_str {w : World} {S : Nat → Prop} {s : List UInt8} {x : Value} (h : Rd w S (.str s) x) : ∃ y : ByteArray, x = .string y ∧ y.data.toList = s := by
 cases h with
 | str _ y hy => exact ⟨y, rfl, hy⟩
theorem rd_int {w : World} {S : Nat → Prop} {k : IntKind} {n : Int} {x : Value} (h : Rd w S (.int k n) x) : x = .int k n := by
 cases h; rfl
def strsOf : List V → Option (List (List UInt8))
 | [] => some []
 | .str s :: vs => (strsOf vs).map (s :: ·)
 | _ :: _ => none
theorem strsOf_inv : ∀ {xs : List V} {l : List (List UInt8)}, strsOf xs = some l → xs = l.map V.str := by
 intro xs
 induction xs with
 | nil => intro l h; simp only [strsOf, Option.some.injEq] at h; subst h; rfl
 | cons x xs ih =>
  intro l h
  cases x with
  | str s =>
   simp only [strsOf] at h
   cases hb : strsOf xs with
   | none => rw [hb] at h; cases h
   | some m =>
    rw [hb] at h
    simp only [Option.map_some, Option.some.injEq] at h
    rw [← h, List.map_cons, ← ih hb]
  | _ => simp only [strsOf] at h; cases h
theorem strsOf_rStr (l : List (List UInt8)) : strsOf (rStr l) = some l := by
 induction l with
 | nil => rfl
 | cons s l ih =>
  show (strsOf (rStr l)).map (s :: ·) = _
  rw [ih]
  rfl
end
end Go.Am
end
section
set_option linter.unusedVariables false
set_option linter.unusedSimpArgs false
namespace Go.Am
open Go Go.RowKit Go.Sort
section
variable {P : Program} {c : Cfg}
theorem Kept.grow (w : World) (k : Nat) (os : Array Obj) : Kept w (grow (w.drewN k) os) := by
 refine ⟨rfl, rfl, rfl, ?_, fun g h => ?_⟩
 ·simp [Go.Sort.grow, World.drewN]
 ·simp [Go.Sort.grow, World.drewN, Array.getElem?_append, h]
end
end Go.Am
end
section
set_option linter.unusedVariables false
set_option linter.unusedSimpArgs false
namespace Go.Am
open Go Go.Proofs Go.Shelf Go.RowKit Go.Lib Go.Sort
section
variable {P : Program} {ρ : Ren} {α : Type} [Inhabited α] [DecidableEq α]
omit [DecidableEq α] in
omit [DecidableEq α] in
omit [DecidableEq α] in
structure CompLays (P : Program) (ρ : Ren) : Prop where
  mixed : P.follows .mixedOrders = true
  f43 : Bears P (ρ.f 43) (SlBodyN.n43 ρ)
  t0 : P.underlying (ρ.t 0) = some (TypeDesc.tuple #[])
  a0 : ∀ w, (isAgg (ρ.t 0)).run P w = .ok false w
  z0 : ∀ w, (Go.sizeOf (ρ.t 0)).run P w = .ok 1 w
  v0 : ∀ w, (zeroValue (ρ.t 0)).run P w = .ok (Value.tuple #[]) w
  t3 : P.underlying (ρ.t 3) = some (TypeDesc.int IntKind.i64)
  a3 : ∀ w, (isAgg (ρ.t 3)).run P w = .ok false w
  z3 : ∀ w, (Go.sizeOf (ρ.t 3)).run P w = .ok 1 w
  v3 : ∀ w, (zeroValue (ρ.t 3)).run P w = .ok (Value.int IntKind.i64 0) w
  t4 : P.underlying (ρ.t 4) = some (TypeDesc.bool)
  a4 : ∀ w, (isAgg (ρ.t 4)).run P w = .ok false w
  z4 : ∀ w, (Go.sizeOf (ρ.t 4)).run P w = .ok 1 w
  v4 : ∀ w, (zeroValue (ρ.t 4)).run P w = .ok (Value.bool false) w
  t22 : P.underlying (ρ.t 22) = some (TypeDesc.slice (ρ.t 23))
  a22 : ∀ w, (isAgg (ρ.t 22)).run P w = .ok false w
  z22 : ∀ w, (Go.sizeOf (ρ.t 22)).run P w = .ok 1 w
  v22 : ∀ w, (zeroValue (ρ.t 22)).run P w = .ok (Value.slice none 0 0) w
end
end Go.Am
end
section
set_option linter.unusedVariables false
set_option linter.unusedSimpArgs false
namespace Go.Am
open Go Go.RowKit
section
variable {P : Program} {c : Cfg}
theorem answer_own {R : Nat → Prop} {w w' : World} {s : Nat} {q : Q} {ys : List V} {g o cap : Nat} {cur : Array Value} {ty : TypeId} (hk : Kept w w') (hq : flatOk q ys) (hn : w.heap.size ≤ g) (hg : w'.heap[g]? = some (.cells cur ty (0, 0))) (hl : ys.length ≤ cap) (hm : cap ≤ maxLen) (hc : o + cap * s ≤ cur.size)
  (hr : Rows w' (fun _ => False) s ys g o) (hqc : q ≠ .clean := by decide) : Answer R w (.own 0 s q ys) (.slice (some ⟨g, o, none⟩) ys.length cap) w' := by
 have hlt : g < w'.heap.size := by
  rcases Nat.lt_or_ge g w'.heap.size with h | h
  ·exact h
  ·rw [Array.getElem?_eq_none h] at hg; cases hg
 let Γ : Ctx := { w0 := w', F := fun k => w.heap.size ≤ k, S := fun _ => False, has := fun b => b = 0, blk := fun _ => g, off := fun _ => o, cap := fun _ => cap, sz := fun _ => s, ln := fun _ => ys.length, lb := fun _ => False, box := fun _ => 0, R := fun _ => False, Z := fun k => k = g, N := fun _ _ => False, U := True }
 refine ⟨hk.1, hk.2.1, hk.2.2.1, hk.2.2.2.1, hk.2.2.2.2, Γ, ?_, fun _ h => h, fun _ h => h.elim, ?_, fun b b' h h' _ => h.trans h'.symm, fun _ _ => rfl, fun k hk => by rw [show k = g from hk]; exact ⟨hn, hlt, cur, ty, hg⟩, trivial, fun _ _ _ h => h.elim, fun _ _ _ _ _ _ h => h.elim⟩
 ·exact VR.own (Γ := Γ) 0 s q ys rfl rfl ⟨hl, rfl⟩ (hr.mono (fun _ h => h.elim) (fun _ h => h.elim) (fun _ _ _ => rfl)) hq (fun e => absurd e hqc)
 ·intro b hb
  exact ⟨hn, hlt, fun h => h, hm, cur, ty, hg, hc⟩
theorem answer_ownNil {R : Nat → Prop} {w w' : World} {s : Nat} {q : Q} (hk : Kept w w') : Answer R w (.own 0 s q []) (.slice none 0 0) w' := by
 let Γ : Ctx := { w0 := w', F := fun k => w.heap.size ≤ k, S := fun _ => False, has := fun _ => False, blk := fun _ => 0, off := fun _ => 0, cap := fun _ => 0, sz := fun _ => 0, ln := fun _ => 0, lb := fun _ => False, box := fun _ => 0, R := fun _ => False, Z := fun _ => False, N := fun _ _ => False, U := True }
 exact ⟨hk.1, hk.2.1, hk.2.2.1, hk.2.2.2.1, hk.2.2.2.2, Γ, VR.ownNil (Γ := Γ) 0 s q (fun h => h), fun _ h => h, fun _ h => h.elim, fun _ h => h.elim, fun _ _ h => h.elim, fun _ h => h.elim, fun _ h => h.elim, trivial, fun _ h => h.elim, fun _ _ h => h.elim⟩
theorem Kept.trans {w w1 w2 : World} (h : Kept w w1) (h' : Kept w1 w2) : Kept w w2 :=
 ⟨h'.1.trans h.1, h'.2.1.trans h.2.1, h'.2.2.1.trans h.2.2.1, Nat.le_trans h.2.2.2.1 h'.2.2.2.1, fun k hk => (h'.2.2.2.2 k (Nat.lt_of_lt_of_le hk h.2.2.2.1)).trans (h.2.2.2.2 k hk)⟩
theorem Kept.alloc (w : World) (o : Obj) : Kept w (w.alloc o) := ⟨rfl, rfl, rfl, by show w.heap.size ≤ (w.heap.push o).size; simp, fun k hk => by show (w.heap.push o)[k]? = _; rw [Array.getElem?_push, if_neg (by omega)]⟩
theorem Kept.of_answer {R : Nat → Prop} {w w' : World} {r : V} {x : Value} (h : Answer R w r x w') : Kept w w' := ⟨h.os, h.tape, h.output, h.size, h.old⟩
theorem Kept.glob {w w' : World} (h : Kept w w') (hg : globOk w) : globOk w' :=
 ⟨globStable _ _ hg.1 (fun k hk => h.2.2.2.2 k (Nat.lt_of_lt_of_le hk hg.2)), Nat.le_trans hg.2 h.2.2.2.1⟩
theorem Kept.rd {w w' : World} {R : Nat → Prop} (h : Kept w w') (hR : ∀ k, R k → k < w.heap.size) {v : V} {x : Value} (hr : Rd w R v x) : Rd w' R v x :=
 hr.mono (fun _ h => h) (fun k hk o => by simp only [World.cell?, h.2.2.2.2 k (hR k hk)])
theorem Kept.lt {w w' : World} (h : Kept w w') {R : Nat → Prop} (hR : ∀ k, R k → k < w.heap.size) : ∀ k, R k → k < w'.heap.size := fun k hk => Nat.lt_of_lt_of_le (hR k hk) h.2.2.2.1
theorem rd_sl {w : World} {S : Nat → Prop} {s : Nat} {f : Bool} {xs : List V} {v : Value} (h : Rd w S (.sl s f xs) v) : ∃ a n c, v = .slice a n c := by
 cases h with
 | empty => exact ⟨_, _, _, rfl⟩
 | sl => exact ⟨_, _, _, rfl⟩
theorem Answer.own1 {R : Nat → Prop} {w w' : World} {j : Nat} {xs : List V} {x : Value} (h : Answer R w (.own j 1 .flat xs) x w') : (xs = [] ∧ x = .slice none 0 0) ∨
  ∃ (g o cap : Nat) (cur : Array Value) (ty : TypeId), x = .slice (some ⟨g, o, none⟩) xs.length cap ∧ w.heap.size ≤ g ∧ w'.heap[g]? = some (.cells cur ty (0, 0)) ∧ xs.length ≤ cap ∧ cap ≤ maxLen ∧ o + cap ≤ cur.size ∧ ∀ (i : Nat) v, xs[i]? = some v → ∃ c, v.cells = [c] ∧ ∃ y, w'.cell? ⟨g, o + i, none⟩ = some y ∧ ∃ S, Rd w' S c y := by
 obtain ⟨Γ, hv, hF, hS, hb, _⟩ := h.val
 cases hv with
 | rd _ _ h => cases h
 | ownNil _ _ _ h => exact .inl ⟨rfl, rfl⟩
 | own _ _ _ _ hj hs hl hr hq _ =>
  obtain ⟨b1, b2, _, b4, cur, ty, b5, b6⟩ := hb j hj
  obtain ⟨r1, gf, r2, r3⟩ := hr
  refine .inr ⟨_, _, _, cur, ty, rfl, b1, b5, hl.1, b4, by rw [← hs, Nat.mul_one] at b6; exact b6, fun i v hi => ?_⟩
  have hil := (List.getElem?_eq_some_iff.1 hi).1
  have hc := r1 v (List.mem_of_getElem? hi)
  obtain ⟨c, hc2⟩ : ∃ c, v.cells = [c] := by
   match hh : v.cells, hc with
   | [c], _ => exact ⟨c, rfl⟩
  have h2 := (r2 i 0 hil (by omega)).1
  rw [Nat.mul_one, Nat.add_zero] at h2
  exact ⟨c, hc2, _, h2, _, r3 i v 0 c hi (by rw [hc2]; rfl)⟩
abbrev Pr := List UInt8 × List UInt8
def cmpPr (x y : Pr) : Int := if Lib.compareBytes x.1 y.1 ≠ 0 then Lib.compareBytes x.1 y.1 else Lib.compareBytes x.2 y.2
def ltPr (x y : Pr) : Bool := decide (cmpPr x y < 0)
theorem cb_self : ∀ a : List UInt8, Lib.compareBytes a a = 0 := by
 intro a
 induction a with
 | nil => rfl
 | cons x a ih => simp [Lib.compareBytes, ih]
theorem cmp_self (x : Pr) : cmpPr x x = 0 := by simp [cmpPr, cb_self]
theorem lt_irrefl (x : Pr) : ltPr x x = false := by simp [ltPr, cmp_self]
theorem rd_pr_str {w : World} {S : Nat → Prop} {s : List UInt8} {x : Value} (h : Rd w S (.str s) x) : x = .string ⟨s.toArray⟩ := by
 cases h with
 | str _ y hy =>
  congr 1
  apply ByteArray.ext
  apply Array.ext'
  rw [hy]
def sortS (l : List (List UInt8)) : List (List UInt8) := l.mergeSort fun x y => decide (x ≤ y)
def sortStrV (v : V) : Option V :=
 match v with
 | .own _ 1 .flat xs => match strsOf xs with
  | some l => if l.length ≤ 1099511627776 then some (.own 0 1 .flat (rStr (sortS l))) else none
  | none => none
 | _ => none
def topsV (d : List V → Option V) : List V → Option V
 | [.agg [.sl a1 b1 c1, .sl a2 b2 c2, .sl a3 b3 c3, .int k n], .str h] => (d [.agg [.sl a1 b1 c1, .sl a2 b2 c2, .sl a3 b3 c3, .int k n], .str h]).bind sortStrV
 | _ => none
def sortStrK : (β : Type) → List V → (List V → Option β) → Option β := fun β xs k =>
 match strsOf xs with
 | some l => chk (l.length ≤ 1099511627776) (k (rStr (sortS l)))
 | none => none
theorem ok_tops {ext d1 : Nat → List V → Option V} {f g : Nat} {sh : List (Bool × List CK)} {Fg : (β : Type) → argsT sh → (List V → Option β) → Option β} (hE : ∀ args, ext f args = topsV (d1 g) args) (hd : FnOk d1 g (wrap sh (fun β e k => Fg β e (fun y => k (.own 0 1 .flat y)))))
  (hs : ∀ x : argsT sh, ∃ a1 b1 c1 a2 b2 c2 a3 b3 c3 k n h, argsEnc sh x = [.agg [.sl a1 b1 c1, .sl a2 b2 c2, .sl a3 b3 c3, .int k n], .str h]) (hw : ∀ (β : Type) (x : argsT sh) (G : (β : Type) → argsT sh → (V → Option β) → Option β) (k : V → Option β), wrap sh G β (argsEnc sh x) k = G β x k) :
  FnOk (den P c ext) f (wrap sh (fun β e k => Fg β e (fun y => sortStrK β y (fun z => k (.own 0 1 .flat z))))) := by
 refine ext_okW hE (fun β x k r hr => ?_)
 obtain ⟨a1, b1, c1, a2, b2, c2, a3, b3, c3, k0, n0, h0, he⟩ := hs x
 obtain ⟨v, hv, hk⟩ := hd β (argsEnc sh x) (fun v => match v with
  | .own _ 1 .flat y => sortStrK β y (fun z => k (.own 0 1 .flat z))
  | _ => none) r (by rw [hw]; exact hr)
 split at hk
 ·rename_i j y
  unfold sortStrK at hk
  split at hk
  ·rename_i l hl
   obtain ⟨h1, h2⟩ := chk_some hk
   refine ⟨_, ?_, h2⟩
   rw [he] at hv ⊢
   simp only [topsV]
   rw [hv]
   simp only [Option.bind_some, sortStrV, hl]
   rw [if_pos h1]
  ·cases hk
 ·cases hk
def sortStrE (l : List (List UInt8)) : Option (List (List UInt8)) := chk (l.length ≤ 1099511627776) (some (sortS l))
theorem ei_sortStrE {β : Type} (l : List (List UInt8)) (k : List V → Option β) : Imp (sortStrK β (rStr l) k) (sortStrE l) (fun r => k (rStr r)) := by
 unfold sortStrK sortStrE
 rw [strsOf_rStr]
 exact Imp.chk rfl (fun _ => Imp.ret rfl)
end
end Go.Am
end
section
set_option linter.unusedVariables false
namespace Go.Am
open Go
def lookN {α : Type} (k : Nat) (d : α) : List (Nat × α) → α
 | [] => d
 | (i, a) :: r => if i = k then a else lookN k d r
def tys : List (Option TyInfo) := [
 none,
 none,
 some ⟨.int .i64, 1, 8, .int .i64 0, false, [], .flat⟩,
 some ⟨.int .i64, 1, 8, .int .i64 0, false, [], .flat⟩,
 some ⟨.bool, 1, 1, .bool false, false, [], .flat⟩,
 some ⟨.int .u8, 1, 1, .int .u8 0, false, [], .flat⟩,
 some ⟨.int .u8, 1, 1, .int .u8 0, false, [], .flat⟩,
 some ⟨.struct [(0, 2), (1, 3), (2, 4), (3, 6)], 4, 24, .agg [.int .i64 0, .int .i64 0, .bool false, .int .u8 0], false, [], .flat⟩,
 some ⟨.struct [(0, 2), (1, 3), (2, 4), (3, 6)], 4, 24, .agg [.int .i64 0, .int .i64 0, .bool false, .int .u8 0], false, [], .flat⟩,
 some ⟨.str, 1, 16, .str [], false, [], .flat⟩,
 some ⟨.str, 1, 16, .str [], false, [], .flat⟩,
 some ⟨.str, 1, 16, .str [], false, [], .flat⟩,
 some ⟨.int .u64, 1, 8, .int .u64 0, false, [], .flat⟩,
 some ⟨.struct [(0, 9), (1, 12)], 2, 24, .agg [.str [], .int .u64 0], false, [], .flat⟩,
 some ⟨.struct [(0, 9), (1, 12)], 2, 24, .agg [.str [], .int .u64 0], false, [], .flat⟩,
 some ⟨.ptr 143, 1, 8, .undef, false, [], .flat⟩,
 some ⟨.ptr 146, 1, 8, .undef, false, [], .flat⟩,
 some ⟨.ptr 155, 1, 8, .undef, false, [], .flat⟩,
 some ⟨.struct [(0, 17)], 1, 8, .agg [.undef], false, [], .flat⟩,
 some ⟨.struct [(0, 17)], 1, 8, .agg [.undef], false, [], .flat⟩,
 none,
 some ⟨.int .i32, 1, 4, .int .i32 0, false, [], .flat⟩,
 some ⟨.slice 63, 1, 24, .nil, false, [.view 999 2 .clean []], .clean⟩,
 some ⟨.slice 94, 1, 24, .nil, false, [.view 999 10 .flat []], .clean⟩,
 some ⟨.struct [(0, 23)], 1, 24, .agg [.nil], false, [.view 999 10 .flat []], .clean⟩,
 some ⟨.struct [(0, 23)], 1, 24, .agg [.nil], false, [.view 999 10 .flat []], .clean⟩,
 some ⟨.slice 69, 1, 24, .nil, false, [.view 999 4 .flat []], .clean⟩,
 some ⟨.struct [(0, 22), (1, 25), (2, 26), (3, 3)], 4, 80, .agg [.nil, .nil, .nil, .int .i64 0], false, [.view 999 2 .clean [], .view 999 10 .flat [], .view 999 4 .flat []], .clean⟩,
 some ⟨.struct [(0, 22), (1, 25), (2, 26), (3, 3)], 4, 80, .agg [.nil, .nil, .nil, .int .i64 0], false, [.view 999 2 .clean [], .view 999 10 .flat [], .view 999 4 .flat []], .clean⟩,
 none,
 some ⟨.slice 9, 1, 24, .nil, false, [.view 999 1 .flat []], .clean⟩,
 none,
 some ⟨.slice 77, 1, 24, .nil, false, [.view 999 2 .clean []], .clean⟩,
 some ⟨.slice 99, 1, 24, .nil, false, [.view 999 10 .flat []], .clean⟩,
 some ⟨.struct [(0, 33)], 1, 24, .agg [.nil], false, [.view 999 10 .flat []], .clean⟩,
 some ⟨.struct [(0, 33)], 1, 24, .agg [.nil], false, [.view 999 10 .flat []], .clean⟩,
 some ⟨.slice 74, 1, 24, .nil, false, [.view 999 4 .flat []], .clean⟩,
 some ⟨.struct [(0, 32), (1, 35), (2, 36), (3, 3)], 4, 80, .agg [.nil, .nil, .nil, .int .i64 0], false, [.view 999 2 .clean [], .view 999 10 .flat [], .view 999 4 .flat []], .clean⟩,
 some ⟨.struct [(0, 32), (1, 35), (2, 36), (3, 3)], 4, 80, .agg [.nil, .nil, .nil, .int .i64 0], false, [.view 999 2 .clean [], .view 999 10 .flat [], .view 999 4 .flat []], .clean⟩,
 none,
 none,
 none,
 none,
 none,
 none,
 none,
 none,
 none,
 none,
 none,
 none,
 none,
 none,
 none,
 none,
 none,
 none,
 none,
 none,
 none,
 none,
 some ⟨.slice 112, 1, 24, .nil, false, [.view 999 7 .flat []], .clean⟩,
 some ⟨.struct [(0, 9), (1, 61)], 2, 40, .agg [.str [], .nil], false, [.undef, .view 999 7 .flat []], .clean⟩,
 some ⟨.struct [(0, 9), (1, 61)], 2, 40, .agg [.str [], .nil], false, [.undef, .view 999 7 .flat []], .clean⟩,
 none,
 none,
 none,
 some ⟨.struct [(0, 9), (1, 9)], 2, 32, .agg [.str [], .str []], true, [], .flat⟩,
 none,
 some ⟨.struct [(0, 9), (1, 67), (3, 4)], 4, 56, .agg [.str [], .str [], .str [], .bool false], true, [], .flat⟩,
 none,
 none,
 some ⟨.struct [(0, 9), (1, 9)], 2, 32, .agg [.str [], .str []], true, [], .flat⟩,
 none,
 some ⟨.struct [(0, 9), (1, 72), (3, 4)], 4, 56, .agg [.str [], .str [], .str [], .bool false], true, [], .flat⟩,
 some ⟨.slice 109, 1, 24, .nil, false, [.view 999 7 .flat []], .clean⟩,
 some ⟨.struct [(0, 9), (1, 75)], 2, 40, .agg [.str [], .nil], false, [.undef, .view 999 7 .flat []], .clean⟩,
 some ⟨.struct [(0, 9), (1, 75)], 2, 40, .agg [.str [], .nil], false, [.undef, .view 999 7 .flat []], .clean⟩,
 none,
 none,
 none,
 none,
 none,
 none,
 none,
 none,
 none,
 none,
 some ⟨.slice 5, 1, 24, .nil, false, [.view 999 1 .flat []], .clean⟩,
 none,
 none,
 none,
 some ⟨.struct [(0, 3), (1, 3), (2, 9), (3, 3), (4, 4), (5, 9)], 6, 64, .agg [.int .i64 0, .int .i64 0, .str [], .int .i64 0, .bool false, .str []], true, [], .flat⟩,
 none,
 some ⟨.struct [(0, 9), (1, 67), (3, 92), (9, 3)], 10, 120, .agg [.str [], .str [], .str [], .int .i64 0, .int .i64 0, .str [], .int .i64 0, .bool false, .str [], .int .i64 0], true, [], .flat⟩,
 none,
 none,
 some ⟨.struct [(0, 3), (1, 3), (2, 9), (3, 3), (4, 4), (5, 9)], 6, 64, .agg [.int .i64 0, .int .i64 0, .str [], .int .i64 0, .bool false, .str []], true, [], .flat⟩,
 none,
 some ⟨.struct [(0, 9), (1, 72), (3, 97), (9, 3)], 10, 120, .agg [.str [], .str [], .str [], .int .i64 0, .int .i64 0, .str [], .int .i64 0, .bool false, .str [], .int .i64 0], true, [], .flat⟩,
 none,
 none,
 none,
 none,
 none,
 none,
 none,
 none,
 none,
 some ⟨.struct [(0, 9), (1, 97)], 7, 80, .agg [.str [], .int .i64 0, .int .i64 0, .str [], .int .i64 0, .bool false, .str []], true, [], .flat⟩,
 none,
 none,
 some ⟨.struct [(0, 9), (1, 92)], 7, 80, .agg [.str [], .int .i64 0, .int .i64 0, .str [], .int .i64 0, .bool false, .str []], true, [], .flat⟩,
 none,
 none,
 none,
 none,
 none,
 none,
 none,
 none,
 none,
 none,
 none,
 none,
 none,
 none,
 some ⟨.int .u32, 1, 4, .int .u32 0, false, [], .flat⟩,
 none,
 none,
 none,
 none,
 none,
 none,
 none,
 none,
 none,
 none,
 none,
 none,
 none,
 none,
 none,
 some ⟨.struct [(0, 17), (1, 17), (2, 17), (3, 9)], 4, 40, .agg [.undef, .undef, .undef, .str []], false, [], .flat⟩,
 some ⟨.array 0 16, 0, 0, .agg [], false, [], .flat⟩,
 none,
 some ⟨.struct [(0, 144)], 0, 0, .agg [], false, [], .flat⟩,
 none,
 some ⟨.int .u8, 1, 1, .int .u8 0, false, [], .flat⟩,
 some ⟨.int .u8, 1, 1, .int .u8 0, false, [], .flat⟩,
 none,
 some ⟨.ptr 5, 1, 8, .undef, false, [], .flat⟩,
 some ⟨.int .i32, 1, 4, .int .i32 0, false, [], .flat⟩,
 some ⟨.int .i32, 1, 4, .int .i32 0, false, [], .flat⟩]
def pzL : List (Nat × List (List V)) := [(4, [[.view 999 2 .clean [], .view 999 10 .flat [], .view 999 4 .flat []], []]),
 (5, [[.view 999 2 .clean [], .view 999 10 .flat [], .view 999 4 .flat []], []]),
 (6, [[.view 999 2 .clean [], .view 999 10 .flat [], .view 999 4 .flat []]]),
 (8, [[.view 999 1 .flat []], [.view 999 1 .flat []]]),
 (9, [[.view 999 2 .clean [], .view 999 10 .flat [], .view 999 4 .flat []], [.view 999 2 .clean [], .view 999 10 .flat [], .view 999 4 .flat []]]),
 (13, [[.view 999 2 .clean []], []]),
 (14, [[.view 999 10 .flat []], []]),
 (15, [[.view 999 4 .flat []], []]),
 (16, [[.view 999 2 .clean [], .view 999 10 .flat [], .view 999 4 .flat []], []]),
 (17, [[.view 999 2 .clean []]]),
 (18, [[.view 999 10 .flat []]]),
 (19, [[.view 999 4 .flat []]]),
 (21, [[.view 999 2 .clean [], .view 999 10 .flat [], .view 999 4 .flat []], []]),
 (23, [[.view 999 2 .clean []], [.view 999 2 .clean []]]),
 (24, [[.view 999 10 .flat []], [.view 999 10 .flat []]]),
 (25, [[.view 999 4 .flat []], [.view 999 4 .flat []]]),
 (30, [[.undef, .view 999 7 .flat []], []]),
 (31, [[.view 999 10 .flat []], []]),
 (33, [[.view 999 2 .clean [], .view 999 10 .flat [], .view 999 4 .flat []], []]),
 (34, [[.view 999 1 .flat []], []]),
 (35, [[.undef, .view 999 7 .flat []]]),
 (36, [[.view 999 10 .flat []]]),
 (39, [[.view 999 2 .clean [], .view 999 10 .flat [], .view 999 4 .flat []], []]),
 (41, [[.undef, .view 999 7 .flat []], [.undef, .view 999 7 .flat []]]),
 (42, [[.view 999 10 .flat []], [.view 999 10 .flat []]]),
 (46, [[.view 999 7 .flat []], []]),
 (49, [[.view 999 7 .flat []]]),
 (52, [[.view 999 2 .clean [], .view 999 10 .flat [], .view 999 4 .flat []], []]),
 (53, [[.view 999 1 .flat []], []]),
 (56, [[.view 999 7 .flat []], [.view 999 7 .flat []]]),
 (63, [[.view 999 1 .flat []], []])]
def rzL : List (Nat × List V) := [(5, [.own 0 1 .flat []]),
 (6, [.own 0 2 .clean [], .own 0 10 .flat [], .own 0 4 .flat []]),
 (16, [.own 0 1 .flat []]),
 (17, [.own 0 2 .clean []]),
 (18, [.own 0 10 .flat []]),
 (19, [.own 0 4 .flat []]),
 (21, [.own 0 1 .flat []]),
 (33, [.own 0 4 .flat []]),
 (35, [.undef, .own 0 7 .flat []]),
 (36, [.own 0 10 .flat []]),
 (39, [.own 0 1 .flat []]),
 (49, [.own 0 7 .flat []]),
 (52, [.own 0 4 .flat []])]
def fgL : List (Nat × List (Nat × List Nat × List Nat × List Nat)) := [(5, [(4, [0, 2, 3, 4, 8, 9, 10, 11, 12, 13, 14, 15, 16, 17, 18, 19, 20, 21, 22, 23, 24, 25, 26, 27, 28, 29, 30, 31, 32, 33, 34, 35, 36, 37, 38, 39, 40, 41, 42, 43, 44, 45, 46, 47, 48, 49, 50, 51, 52, 53, 54, 55, 56, 57, 58], [2], []), (8, [0, 2, 3, 4, 9, 10, 11, 12, 13, 14, 15, 16, 17, 18, 19, 20, 21, 22, 23, 24, 25, 26, 27, 28, 29, 30, 31, 32, 33, 34, 35, 36, 37, 38, 39, 40, 41, 42, 43, 44, 45, 46, 47, 48, 49, 50, 51, 52, 53, 54, 55, 56, 57, 58], [2], []), (1004, [0, 1, 2, 3, 4, 6, 7, 8, 9, 10, 11, 12, 13, 14, 15, 16, 17, 18, 19, 20, 21, 22, 23, 24, 25, 26, 27, 28, 29, 30, 31, 32, 33, 34, 35, 36, 37, 38, 39, 40, 41, 42, 43, 44, 45, 46, 47, 48, 49, 50, 51, 52, 53, 54, 55, 56, 57, 58], [2], []), (1008, [0, 2, 3, 4, 9, 10, 11, 12, 13, 14, 15, 16, 17, 18, 19, 20, 21, 22, 23, 24, 25, 26, 27, 28, 29, 30, 31, 32, 33, 34, 35, 36, 37, 38, 39, 40, 41, 42, 43, 44, 45, 46, 47, 48, 49, 50, 51, 52, 53, 54, 55, 56, 57, 58], [2], [])]),
 (8, [(4, [2, 3, 4, 6, 7, 8, 9, 10, 11, 12, 13, 14, 15, 16, 17, 18, 19, 20, 21, 22, 23, 24, 25], [], []), (1004, [0, 1, 2, 3, 5, 6, 7, 8, 9, 10, 11, 12, 13, 14, 15, 16, 17, 18, 19, 20, 21, 22, 23, 24, 25], [], [])]),
 (13, [(5, [2, 3, 4, 6, 7, 8, 9, 10, 11, 12, 13, 14, 15, 16, 17, 18, 19, 20, 21, 22, 23, 24, 25, 26], [], []), (1005, [0, 2, 3, 5, 6, 7, 8, 9, 10, 11, 12, 13, 14, 15, 16, 17, 18, 19, 20, 21, 22, 23, 24, 25, 26], [], [])]),
 (15, [(5, [2, 3, 4, 6, 7, 8, 9, 10, 11, 12, 13, 14, 15, 16, 17, 18, 19, 20, 21, 22, 23, 24, 25, 26], [], []), (1005, [0, 2, 3, 5, 6, 7, 8, 9, 10, 11, 12, 13, 14, 15, 16, 17, 18, 19, 20, 21, 22, 23, 24, 25, 26], [], [])]),
 (16, [(4, [0, 1, 2, 3, 4, 8, 9, 10, 11, 12, 13, 14, 15, 16, 17, 18, 19, 20, 21, 22, 23, 24, 25, 26, 27, 28, 29, 30, 31, 32, 33, 34], [2], []), (1004, [0, 1, 2, 3, 4, 6, 7, 8, 9, 10, 11, 12, 13, 14, 15, 16, 17, 18, 19, 20, 21, 22, 23, 24, 25, 26, 27, 28, 29, 30, 31, 32, 33, 34], [2], [])]),
 (17, [(3, [1, 2, 5, 6, 7, 8, 9, 10, 11, 12, 13, 14, 15, 16, 17, 18, 19, 20, 21, 22], [], []), (1003, [0, 1, 2, 4, 5, 6, 7, 8, 9, 10, 11, 12, 13, 14, 15, 16, 17, 18, 19, 20, 21, 22], [], [])]),
 (19, [(3, [1, 2, 5, 6, 7, 8, 9, 10, 11, 12, 13, 14, 15, 16, 17, 18, 19, 20, 21, 22], [], []), (1003, [0, 1, 2, 4, 5, 6, 7, 8, 9, 10, 11, 12, 13, 14, 15, 16, 17, 18, 19, 20, 21, 22], [], [])]),
 (23, [(4, [2, 3, 4, 6, 7, 8, 9, 10, 11, 12, 13, 14, 15, 16, 17, 18, 19, 20, 21, 22, 23, 24, 25, 26], [], []), (1004, [0, 1, 2, 3, 5, 6, 7, 8, 9, 10, 11, 12, 13, 14, 15, 16, 17, 18, 19, 20, 21, 22, 23, 24, 25, 26], [], [])]),
 (25, [(4, [2, 3, 4, 6, 7, 8, 9, 10, 11, 12, 13, 14, 15, 16, 17, 18, 19, 20, 21, 22, 23, 24, 25, 26], [], []), (1004, [0, 1, 2, 3, 5, 6, 7, 8, 9, 10, 11, 12, 13, 14, 15, 16, 17, 18, 19, 20, 21, 22, 23, 24, 25, 26], [], [])]),
 (29, [(4, [1, 2, 4, 5, 6, 7, 8, 9, 10, 11, 12, 13, 14, 15, 16, 17, 18, 19], [], []), (1004, [0, 1, 2, 4, 5, 6, 7, 8, 9, 10, 11, 12, 13, 14, 15, 16, 17, 18, 19], [], [])]),
 (31, [(5, [2, 3, 4, 6, 7, 8, 9, 10, 11, 12, 13, 14, 15, 16, 17, 18, 19, 20, 21, 22, 23, 24, 25, 26], [], []), (1005, [0, 2, 3, 5, 6, 7, 8, 9, 10, 11, 12, 13, 14, 15, 16, 17, 18, 19, 20, 21, 22, 23, 24, 25, 26], [], [])]),
 (33, [(3, [0, 3, 4, 7, 8, 9, 10, 11, 12, 13, 14, 15, 16, 17, 18, 19, 20, 21, 22, 23, 24, 25, 26, 27, 28, 29, 30, 31, 32], [], []), (1003, [0, 1, 2, 3, 4, 6, 7, 8, 9, 10, 11, 12, 13, 14, 15, 16, 17, 18, 19, 20, 21, 22, 23, 24, 25, 26, 27, 28, 29, 30, 31, 32], [2], [])]),
 (34, [(2, [2, 3, 4, 6, 7, 8, 9, 10, 11, 12, 13, 14, 15, 16, 17], [], []), (1002, [0, 1, 2, 3, 5, 6, 7, 8, 9, 10, 11, 12, 13, 14, 15, 16, 17], [], [])]),
 (36, [(3, [1, 2, 5, 6, 7, 8, 9, 10, 11, 12, 13, 14, 15, 16, 17, 18, 19, 20, 21, 22], [], []), (1003, [0, 1, 2, 4, 5, 6, 7, 8, 9, 10, 11, 12, 13, 14, 15, 16, 17, 18, 19, 20, 21, 22], [], [])]),
 (39, [(3, [0, 1, 2, 3, 4, 6, 7, 8, 9, 10, 14, 15, 16, 17, 18, 19, 20, 21, 22, 23, 24, 25, 26, 27, 28], [2, 7], []), (1003, [0, 1, 2, 3, 4, 6, 7, 8, 9, 10, 11, 12, 13, 14, 15, 16, 17, 18, 19, 20, 21, 22, 23, 24, 25, 26, 27, 28], [2, 7], [])]),
 (42, [(4, [2, 3, 4, 6, 7, 8, 9, 10, 11, 12, 13, 14, 15, 16, 17, 18, 19, 20, 21, 22, 23, 24, 25, 26], [], []), (1004, [0, 1, 2, 3, 5, 6, 7, 8, 9, 10, 11, 12, 13, 14, 15, 16, 17, 18, 19, 20, 21, 22, 23, 24, 25, 26], [], [])]),
 (46, [(5, [2, 3, 4, 6, 7, 8, 9, 10, 11, 12, 13, 14, 15, 16, 17, 18, 19, 20, 21, 22, 23, 24, 25, 26], [], []), (1005, [0, 2, 3, 5, 6, 7, 8, 9, 10, 11, 12, 13, 14, 15, 16, 17, 18, 19, 20, 21, 22, 23, 24, 25, 26], [], [])]),
 (49, [(3, [1, 2, 5, 6, 7, 8, 9, 10, 11, 12, 13, 14, 15, 16, 17, 18, 19, 20, 21, 22], [], []), (1003, [0, 1, 2, 4, 5, 6, 7, 8, 9, 10, 11, 12, 13, 14, 15, 16, 17, 18, 19, 20, 21, 22], [], [])]),
 (52, [(3, [0, 2, 3, 4, 6, 7, 8, 9, 13, 14, 15, 16, 17, 18, 19, 20, 21, 22, 23, 24, 25, 26], [2, 7], []), (1003, [0, 1, 2, 3, 4, 6, 7, 8, 9, 10, 11, 12, 13, 14, 15, 16, 17, 18, 19, 20, 21, 22, 23, 24, 25, 26], [2, 7], [])]),
 (56, [(4, [2, 3, 4, 6, 7, 8, 9, 10, 11, 12, 13, 14, 15, 16, 17, 18, 19, 20, 21, 22, 23, 24, 25, 26], [], []), (1004, [0, 1, 2, 3, 5, 6, 7, 8, 9, 10, 11, 12, 13, 14, 15, 16, 17, 18, 19, 20, 21, 22, 23, 24, 25, 26], [], [])]),
 (63, [(2, [2, 3, 4, 5, 6, 9, 10, 11, 12, 13, 14, 15, 16, 17, 18], [], []), (1002, [0, 1, 2, 3, 5, 6, 7, 8, 9, 10, 11, 12, 13, 14, 15, 16, 17, 18], [], [])])]
def cfg : Cfg := ⟨fun t => tys.getD t none, fun f i => lookN i ([], [], []) (lookN f [] fgL), fun f => lookN f [] pzL, fun f => lookN f [] rzL⟩
theorem agree : Agree Go.Proofs.Try.prog cfg := agree_of tys (fun _ => rfl) (by kernel_rfl)
def ext1 : Nat → List V → Option V := extL []
noncomputable def D1 : Nat → List V → Option V := den Go.Proofs.Try.prog cfg ext1
noncomputable def ext0 : Nat → List V → Option V := extL [(21, topsV (D1 39))]
noncomputable abbrev D : Nat → List V → Option V := den Go.Proofs.Try.prog cfg ext0
end Go.Am
end
