/-
  The machine in a form that is reckoned by looking: it goes on where a value is not known, by branching, and hands each result on. No theorem about a Go program stands here.
-/
import Derived.Test.YtcajalfelmgeiaaAmDen
set_option linter.unusedVariables false
set_option linter.unusedSimpArgs false
namespace Go.Am
open Go

/-! ### rows, read as data -/
inductive CK where
  | bool
  | int (k : IntKind)
  | str
  | sl (s : Nat) (fl : Bool)
def CK.T : CK → Type
  | .bool => Bool
  | .int _ => Int
  | .str => List UInt8
  | .sl _ _ => List V
def CK.dec : (k : CK) → V → Option k.T
  | .bool, .bool b => some b
  | .int k, .int k' n => if k' = k then some n else none
  | .str, .str s => some s
  | .sl s f, .sl s' f' xs => if s' = s ∧ f' = f then some xs else none
  | _, _ => none
def CK.enc : (k : CK) → k.T → V
  | .bool, b => .bool b
  | .int k, n => .int k n
  | .str, s => .str s
  | .sl s f, xs => .sl s f xs
def cellsT : List CK → Type
  | [] => Unit
  | k :: ks => k.T × cellsT ks
def cellsDec : (ks : List CK) → List V → Option (cellsT ks)
  | [], [] => some ()
  | k :: ks, v :: vs => match k.dec v, cellsDec ks vs with
    | some a, some b => some (a, b)
    | _, _ => none
  | _, _ => none
def cellsEnc : (ks : List CK) → cellsT ks → List V
  | [], _ => []
  | k :: ks, e => k.enc e.1 :: cellsEnc ks e.2
def rowDec (ag : Bool) (ks : List CK) (v : V) : Option (cellsT ks) :=
  match ag, v with
  | true, .agg cs => cellsDec ks cs
  | true, _ => none
  | false, .agg _ => none
  | false, v => cellsDec ks [v]
def rowEnc (ag : Bool) (ks : List CK) (e : cellsT ks) : V :=
  match ag with
  | true => .agg (cellsEnc ks e)
  | false => (cellsEnc ks e).headD .undef
def kindOf (z n : V) : Option CK :=
  match z, n with
  | .bool _, _ => some .bool
  | .int k _, _ => some (.int k)
  | .str _, _ => some .str
  | .nil, .view _ s q _ => some (.sl s q.isFlat)
  | _, _ => none
def kindsOf : List V → List V → Option (List CK)
  | [], _ => some []
  | z :: zs, ns => match kindOf z (ns.headD .undef), kindsOf zs ns.tail with
    | some k, some ks => some (k :: ks)
    | _, _ => none
def TyInfo.kinds (i : TyInfo) : Option (List CK) := kindsOf i.zero.cells i.nz

section
variable {α : Type}
def br (b : Bool) (x y : Option α) : Option α :=
  match b with
  | true => x
  | false => y
def chk (p : Prop) [Decidable p] (x : Option α) : Option α := if p then x else none
/-- Row i. -/
def idx (ag : Bool) (ks : List CK) (xs : List V) (i : Nat) (k : cellsT ks → Option α) : Option α :=
  match (xs[i]?).bind (rowDec ag ks) with
  | some e => k e
  | none => none
/-- Cells of row i, from cell o on. -/
def idxAt (ks : List CK) (xs : List V) (i o : Nat) (k : cellsT ks → Option α) : Option α :=
  match (xs[i]?).bind (fun r => cellsDec ks ((r.cells.drop o).take ks.length)) with
  | some e => k e
  | none => none
/-- A string's byte. -/
def idxS (s : List UInt8) (n : Int) (k : Int → Option α) : Option α :=
  chk (0 ≤ n) (match s[n.toNat]? with
    | some b => k b.toNat
    | none => none)
/-- Rows of bytes as a string. -/
def strO (xs : List V) (k : List UInt8 → Option α) : Option α :=
  match bytesOf xs with
  | some s => k s
  | none => none
def storeO (xs : List V) (i o : Nat) (new : List V) (k : List V → Option α) : Option α :=
  match storeRow xs i o new with
  | some ys => k ys
  | none => none
def boundI (n : Int) : Option V → Option Int
  | none => some n
  | some (.int _ i) => some i
  | _ => none
def cutK (n : Nat) (lo hi : Option V) (k : Nat → Nat → Option α) : Option α :=
  match boundI 0 lo, boundI n hi with
  | some l, some h => chk (0 ≤ l ∧ l ≤ h ∧ h ≤ n) (k l.toNat h.toNat)
  | _, _ => none
def binK (i : TyInfo) (op : BinOp) (x y : V) (k : V → Option α) : Option α :=
  match op, x, y with
  | .add, .str a, .str b => chk (a.length + b.length ≤ 9223372036854775807) (k (.str (a ++ b)))
  | .quo, .int kd a, .int kd' b => if kd = kd' then chk (b ≠ 0) (k (.int kd (kd.wrap (a.tdiv b)))) else none
  | .rem, .int kd a, .int kd' b => if kd = kd' then chk (b ≠ 0) (k (.int kd (a.tmod b))) else none
  | op, x, y => match binV i op x y with
    | some v => k v
    | none => none

def valK (c : Cfg) (tab : Nat → List V → (V → Option α) → Option α) (ρ : Operand → V) (η : Nat → Option V) (d : Nat) (op : Op) (k : Out → Option α) : Option α :=
  match op with
  | .pick x a b => match ρ x with
    | .bool t => br t (k (.val (ρ a))) (k (.val (ρ b)))
    | _ => none
  | .binOp op t x y _ => match c.ty t with
    | some i => binK i op (ρ x) (ρ y) (fun v => k (.val v))
    | none => none
  | .load t a => match c.ty t, ρ a with
    | some i, .eptr _ _ _ xs j o => match i.kinds with
      | some ks => if ks.length = i.size ∧ (i.d.isAgg = true ∨ i.size = 1) then idxAt ks xs j o (fun e => k (.val (rowEnc i.d.isAgg ks e))) else none
      | none => none
    | some i, v => match loadV η i v with
      | some v => k (.val v)
      | none => none
    | none, _ => none
  | .slice t x lo hi none => match c.ty t with
    | some i => match i.d with
      | .str => match ρ x with
        | .str s => cutK s.length (lo.map ρ) (hi.map ρ) (fun l h => k (.val (.str ((s.take h).drop l))))
        | _ => none
      | .slice e => match c.ty e with
        | some j => match ρ x with
          | .nil => cutK 0 (lo.map ρ) (hi.map ρ) (fun _ _ => k (.val .nil))
          | .sl s f xs => if s = j.size then cutK xs.length (lo.map ρ) (hi.map ρ) (fun l h => k (.val (.sl s f ((xs.take h).drop l)))) else none
          | .own b s q xs => if s = j.size then cutK xs.length (lo.map ρ) (hi.map ρ) (fun l h => k (.val (.view b s q ((xs.take h).drop l)))) else none
          | .view b s q xs => if s = j.size then cutK xs.length (lo.map ρ) (hi.map ρ) (fun l h => k (.val (.view b s q ((xs.take h).drop l)))) else none
          | _ => none
        | none => none
      | _ => none
    | none => none
  | .indexAddr t x y => match c.ty t, ρ y with
    | some i, .int _ n => match i.d with
      | .slice e => match c.ty e with
        | some j => match ρ x with
          | .sl s _ xs => match j.kinds with
            | some ks => if s = j.size then chk (0 ≤ n) (idx j.d.isAgg ks xs n.toNat (fun e => k (.val (.iptr (rowEnc j.d.isAgg ks e) 0)))) else none
            | none => none
          | .view b s _ xs => match j.kinds with
            | some ks => if s = j.size then chk (0 ≤ n) (idx j.d.isAgg ks xs n.toNat (fun e => k (.val (.vptr b (rowEnc j.d.isAgg ks e) 0)))) else none
            | none => none
          | .own b s q xs => if s = j.size then chk (0 ≤ n ∧ n.toNat < xs.length) (k (.val (.eptr b j.size q xs n.toNat 0))) else none
          | _ => none
        | none => none
      | .array m e => match c.ty e with
        | some j => match addOff (ρ x) (n.toNat * j.size) with
          | some v => chk (0 ≤ n ∧ n < m) (k (.val v))
          | none => none
        | none => none
      | _ => none
    | _, _ => none
  | .index t x y => match c.ty t, ρ y with
    | some i, .int _ n => match i.d, ρ x with
      | .str, .str s => idxS s n (fun b => k (.val (.int .u8 b)))
      | .array m e, .agg cs => match c.ty e with
        | some j => match packV j.d.isAgg j.size (cs.drop (n.toNat * j.size)) with
          | some v => chk (0 ≤ n ∧ n < m) (k (.val v))
          | none => none
        | none => none
      | _, _ => none
    | _, _ => none
  | .convert s t x => match convV c s t (ρ x) with
    | some v => k (.val v)
    | none => match convRows c s t (ρ x) with
      | some xs => strO xs (fun s => k (.val (.str s)))
      | none => match bytesFor c s t (ρ x) with
        | some v => k (.fresh v [] 0)
        | none => none
  | .makeSlice t l kk => match c.ty t with
    | some ⟨.slice e, _, _, _, _, _, _⟩ => match c.ty e, ρ l, ρ kk with
      | some i, .int _ n, .int _ m => if i.size ≠ 0 ∧ sized i.size [i.zero] = true ∧ rowQ i.zero = .flat then
          (match flatRow (nilRow i.nz i.zero) with
          | some z => chk (0 ≤ n ∧ n ≤ m ∧ m * i.bytes ≤ 140737488355328 ∧ m ≤ 140737488355328) (k (.fresh (.own (base d 0) i.size ((rowQ (nilRow i.nz i.zero)).join i.qz) (List.replicate n.toNat z)) [] 1))
          | none => none) else none
      | _, _, _ => none
    | _ => none
  | .call ⟨.builtin .append, args, ts⟩ => match args.toList, ts.toList with
    | [x, y], [t, t'] => match c.ty t with
      | some ⟨.slice e, _, _, _, _, _, _⟩ => match c.ty e, ρ x with
        | some i, .nil => match srcOf i.size (ρ y) with
          | some (q, ys) => if t' = t ∧ i.size ≠ 0 then chk (ys.length * i.bytes ≤ 140737488355328 ∧ ys.length ≤ 140737488355328) (k (.fresh (.own (base d 0) i.size (q.join i.qz) ys) [] 1)) else none
          | none => none
        | _, _ => none
      | _ => none
    | _, _ => none
  | .call ⟨.value f, args, _⟩ => match ρ f with
    | .clo g cap => match strips η (args.toList.map ρ ++ cap) with
      | some vs => tab g (nilArgs (c.pz g) vs) (fun r => match takeR d (args.toList.map ρ ++ cap) r with
        | some o => k o
        | none => none)
      | none => none
    | _ => none
  | op => match valOp c (fun _ _ => none) ρ η d op with
    | some o => k o
    | none => none

def effK (c : Cfg) (st : St) (d : Option Nat) (op : Op) (k : St → Option α) : Option α :=
  match op with
  | .store t a x => match c.ty t with
    | some i => if (ev st.t x).cells.length = i.size ∧ allCell (ev st.t x).cells = true ∧ d = none then (match ev st.t a with
        | .ptr b o => (match st.h.getD b none with
          | some r => (match over r.cells o (ev st.t x).cells with
            | some cs => k { st with h := st.h.set b (some (reshape r cs)) }
            | none => none)
          | none => none)
        | .eptr b _ q xs j o => if st.dead b = false ∧ (cellsB (nilRow i.nz (ev st.t x)).cells).contains b = false then
            (match flats (nilRow i.nz (ev st.t x)).cells with
            | some new => storeO xs j o new (fun ys => k ((st.sweep (renew b (q.join (cellsQ (nilRow i.nz (ev st.t x)).cells)) ys)).kill (cellsB (nilRow i.nz (ev st.t x)).cells)))
            | none => none) else none
        | _ => none) else none
    | none => none
  | .call ⟨.builtin .append, args, ts⟩ => match args.toList, ts.toList, d with
    | [x, y], [t, t'], some d => match c.ty t with
      | some ⟨.slice e, _, _, _, _, _, _⟩ => match c.ty e, ev st.t x with
        | some i, .own b s q xs => match srcOf s (ev st.t y) with
          | some (q', ys) =>
            if t' = t ∧ s = i.size ∧ i.size ≠ 0 ∧ st.dead b = false then
              chk ((xs.length + ys.length) * i.bytes ≤ 140737488355328 ∧ xs.length + ys.length ≤ 140737488355328) (k { st.sweep (poison b) with t := (st.sweep (poison b)).t.set d (.own b s (q.join q') (xs ++ ys)) })
            else none
          | none => none
        | _, _ => none
      | _ => none
    | _, _, _ => none
  | _ => none

def outK (st : St) (d : Nat) (k : St → Option α) : Out → Option α
  | .val v => k { st with t := st.t.set d v }
  | .box r => if d < st.h.length ∧ (st.h.getD d none).isNone = true ∧ st.freeP d = true ∧ r.anyP (fun b => b == d) = false then
      k { st with t := st.t.set d (.ptr d 0), h := st.h.set d (some r) } else none
  | .fresh v esc n => if d < 1000 ∧ n ≤ 1000 ∧ (n = 0 ∨ st.freeD d = true) then k (({ st with t := st.t.set d v } : St).kill esc) else none
def stepK (c : Cfg) (tab : Nat → List V → (V → Option α) → Option α) (st : St) (o : Oper) (k : St → Option α) : Option α :=
  if isEff st o.op then effK c st o.dst o.op k else
  match o.dst with
  | none => none
  | some d => valK c tab (ev st.t) (fun b => st.h.getD b none) d o.op (outK st d k)
/-- An operation that is passed by. -/
def St.skip (st : St) (o : Oper) : St :=
  match o.dst with
  | some d => { st with t := st.t.set d skipped }
  | none => st
def St.know (st : St) (d : Nat) (b : Bool) : St := { st with t := st.t.set d (.bool b) }
def runK (c : Cfg) (tab : Nat → List V → (V → Option α) → Option α) (ops : Array Oper) : List Oper → St → (St → Option α) → Option α
  | [], st, k => k st
  | o :: os, st, k => match o.guard with
    | none => stepK c tab st o (fun s => runK c tab ops os s k)
    | some (j, want) => match (ops[j]?).bind (·.dst) with
      | none => runK c tab ops os (st.skip o) k
      | some dd => match st.t.getD dd .undef with
        | .bool b => br b
            (match want with
              | true => stepK c tab (st.know dd true) o (fun s => runK c tab ops os s k)
              | false => runK c tab ops os ((st.know dd true).skip o) k)
            (match want with
              | true => runK c tab ops os ((st.know dd false).skip o) k
              | false => stepK c tab (st.know dd false) o (fun s => runK c tab ops os s k))
        | .tup [] => runK c tab ops os (st.skip o) k
        | _ => none
end

/-! ### a state's form and its leaves -/
inductive Leaf where
  | b (x : Bool)
  | i (n : Int)
  | s (x : List UInt8)
  | l (xs : List V)
def lB (σ : List Leaf) (n : Nat) : Bool :=
  match σ[n]? with
  | some (.b x) => x
  | _ => false
def lI (σ : List Leaf) (n : Nat) : Int :=
  match σ[n]? with
  | some (.i x) => x
  | _ => 0
def lS (σ : List Leaf) (n : Nat) : List UInt8 :=
  match σ[n]? with
  | some (.s x) => x
  | _ => []
def lL (σ : List Leaf) (n : Nat) : List V :=
  match σ[n]? with
  | some (.l x) => x
  | _ => []

mutual
def V.lv : V → List Leaf
  | .undef => []
  | .bool b => [.b b]
  | .int _ n => [.i n]
  | .str s => [.s s]
  | .nil => []
  | .sl _ _ xs => [.l xs]
  | .own _ _ _ xs => [.l xs]
  | .view _ _ _ xs => [.l xs]
  | .ptr _ _ => []
  | .eptr _ _ _ xs i _ => [.l xs, .i i]
  | .vptr _ x _ => V.lv x
  | .iptr x _ => V.lv x
  | .agg cs => V.lvs cs
  | .tup cs => V.lvs cs
  | .clo _ cs => V.lvs cs
def V.lvs : List V → List Leaf
  | [] => []
  | v :: vs => V.lv v ++ V.lvs vs
end
mutual
def V.sk : V → V
  | .undef => .undef
  | .bool _ => .bool false
  | .int k _ => .int k 0
  | .str _ => .str []
  | .nil => .nil
  | .sl s f _ => .sl s f []
  | .own b s q _ => .own b s q []
  | .view b s q _ => .view b s q []
  | .ptr d o => .ptr d o
  | .eptr b s q _ _ o => .eptr b s q [] 0 o
  | .vptr b x o => .vptr b (V.sk x) o
  | .iptr x o => .iptr (V.sk x) o
  | .agg cs => .agg (V.sks cs)
  | .tup cs => .tup (V.sks cs)
  | .clo f cs => .clo f (V.sks cs)
def V.sks : List V → List V
  | [] => []
  | v :: vs => V.sk v :: V.sks vs
end
mutual
/-- A value of a form, with leaves from place n on. -/
def V.bd (σ : List Leaf) : V → Nat → V × Nat
  | .undef, n => (.undef, n)
  | .bool _, n => (.bool (lB σ n), n + 1)
  | .int k _, n => (.int k (lI σ n), n + 1)
  | .str _, n => (.str (lS σ n), n + 1)
  | .nil, n => (.nil, n)
  | .sl s f _, n => (.sl s f (lL σ n), n + 1)
  | .own b s q _, n => (.own b s q (lL σ n), n + 1)
  | .view b s q _, n => (.view b s q (lL σ n), n + 1)
  | .ptr d o, n => (.ptr d o, n)
  | .eptr b s q _ _ o, n => (.eptr b s q (lL σ n) (lI σ (n + 1)).toNat o, n + 2)
  | .vptr b x o, n => (.vptr b (V.bd σ x n).1 o, (V.bd σ x n).2)
  | .iptr x o, n => (.iptr (V.bd σ x n).1 o, (V.bd σ x n).2)
  | .agg cs, n => (.agg (V.bds σ cs n).1, (V.bds σ cs n).2)
  | .tup cs, n => (.tup (V.bds σ cs n).1, (V.bds σ cs n).2)
  | .clo f cs, n => (.clo f (V.bds σ cs n).1, (V.bds σ cs n).2)
def V.bds (σ : List Leaf) : List V → Nat → List V × Nat
  | [], n => ([], n)
  | v :: vs, n => ((V.bd σ v n).1 :: (V.bds σ vs (V.bd σ v n).2).1, (V.bds σ vs (V.bd σ v n).2).2)
end
mutual
def V.same : V → V → Bool
  | .undef, .undef => true
  | .bool a, .bool b => a == b
  | .int k n, .int k' n' => decide (k = k') && n == n'
  | .str [], .str [] => true
  | .nil, .nil => true
  | .sl s f [], .sl s' f' [] => s == s' && f == f'
  | .own b s q [], .own b' s' q' [] => b == b' && s == s' && decide (q = q')
  | .view b s q [], .view b' s' q' [] => b == b' && s == s' && decide (q = q')
  | .ptr d o, .ptr d' o' => d == d' && o == o'
  | .eptr b s q [] i o, .eptr b' s' q' [] i' o' => b == b' && s == s' && decide (q = q') && i == i' && o == o'
  | .vptr b x o, .vptr b' x' o' => b == b' && V.same x x' && o == o'
  | .iptr x o, .iptr x' o' => V.same x x' && o == o'
  | .agg cs, .agg ds => V.sames cs ds
  | .tup cs, .tup ds => V.sames cs ds
  | .clo f cs, .clo f' ds => f == f' && V.sames cs ds
  | _, _ => false
def V.sames : List V → List V → Bool
  | [], [] => true
  | v :: vs, w :: ws => V.same v w && V.sames vs ws
  | _, _ => false
end
def lvo : List (Option V) → List Leaf
  | [] => []
  | some v :: r => v.lv ++ lvo r
  | none :: r => lvo r
def sko : List (Option V) → List (Option V)
  | [] => []
  | some v :: r => some v.sk :: sko r
  | none :: r => none :: sko r
def bdo (σ : List Leaf) : List (Option V) → Nat → List (Option V)
  | [], _ => []
  | some v :: r, n => some (v.bd σ n).1 :: bdo σ r (v.bd σ n).2
  | none :: r, n => none :: bdo σ r n
def sameo : List (Option V) → List (Option V) → Bool
  | [], [] => true
  | some v :: r, some w :: r' => v.same w && sameo r r'
  | none :: r, none :: r' => sameo r r'
  | _, _ => false
def St.lv (st : St) : List Leaf := V.lvs st.t ++ lvo st.h
def St.sk (st : St) : List V × List (Option V) := (V.sks st.t, sko st.h)
def bdSt (σ : List Leaf) (k : List V × List (Option V)) : St := ⟨(V.bds σ k.1 0).1, bdo σ k.2 (V.bds σ k.1 0).2, fun _ => false⟩
def sameSk (k k' : List V × List (Option V)) : Bool := V.sames k.1 k'.1 && sameo k.2 k'.2

/-! ### loops -/
section
variable {σ β : Type}
def whileN (step : σ → Option (σ ⊕ β)) : Nat → σ → Option β
  | 0, _ => none
  | n + 1, s => match step s with
    | some (.inl s') => whileN step n s'
    | some (.inr r) => some r
    | none => none
theorem whileN_le {step : σ → Option (σ ⊕ β)} : ∀ {n m : Nat} {s : σ} {r : β}, n ≤ m → whileN step n s = some r → whileN step m s = some r := by
  intro n
  induction n with
  | zero => intro m s r _ h; cases h
  | succ n ih =>
    intro m s r hm h
    cases m with
    | zero => omega
    | succ m =>
      rw [whileN] at h ⊢
      cases hs : step s with
      | none => rw [hs] at h; cases h
      | some x =>
        rw [hs] at h
        cases x with
        | inl s' => exact ih (by omega) h
        | inr r' => exact h
open Classical in
noncomputable def whileInf (step : σ → Option (σ ⊕ β)) (s : σ) : Option β := if h : ∃ (r : β) (k : Nat), whileN step k s = some r then some h.choose else none
theorem whileInf_of {step : σ → Option (σ ⊕ β)} {s : σ} {r : β} {k : Nat} (h : whileN step k s = some r) : whileInf step s = some r := by
  have hex : ∃ (r : β) (k : Nat), whileN step k s = some r := ⟨r, k, h⟩
  unfold whileInf
  rw [dif_pos hex]
  obtain ⟨m, hm⟩ := hex.choose_spec
  have h1 := whileN_le (Nat.le_max_left k m) h
  have h2 := whileN_le (Nat.le_max_right k m) hm
  rw [h1] at h2
  injection h2 with h2
  rw [← h2]
theorem whileInf_some {step : σ → Option (σ ⊕ β)} {s : σ} {r : β} (h : whileInf step s = some r) : ∃ k, whileN step k s = some r := by
  unfold whileInf at h
  by_cases hex : ∃ (r : β) (k : Nat), whileN step k s = some r
  · rw [dif_pos hex] at h
    obtain ⟨m, hm⟩ := hex.choose_spec
    injection h with h
    rw [h] at hm
    exact ⟨m, hm⟩
  · rw [dif_neg hex] at h; cases h
/-- One round. -/
theorem whileInf_step (step : σ → Option (σ ⊕ β)) (s : σ) : whileInf step s = match step s with
    | some (.inl s') => whileInf step s'
    | some (.inr r) => some r
    | none => none := by
  cases hs : step s with
  | none =>
    cases hw : whileInf step s with
    | none => rfl
    | some r =>
      obtain ⟨k, hk⟩ := whileInf_some hw
      cases k with
      | zero => cases hk
      | succ k => rw [whileN, hs] at hk; cases hk
  | some x =>
    cases x with
    | inr r => exact whileInf_of (k := 1) (by rw [whileN, hs])
    | inl s' =>
      simp only
      cases hw : whileInf step s' with
      | some r =>
        obtain ⟨k, hk⟩ := whileInf_some hw
        exact whileInf_of (k := k + 1) (by rw [whileN, hs]; exact hk)
      | none =>
        cases hw' : whileInf step s with
        | none => rfl
        | some r =>
          obtain ⟨k, hk⟩ := whileInf_some hw'
          cases k with
          | zero => cases hk
          | succ k =>
            rw [whileN, hs] at hk
            rw [whileInf_of hk] at hw
            cases hw
/-- A loop, and what comes behind it. -/
noncomputable def whileK {α : Type} (step : σ → Option (σ ⊕ β)) (s : σ) (k : β → Option α) : Option α :=
  match whileInf step s with
  | some r => k r
  | none => none
end

/-! ### a state, looked at whole -/
mutual
def forceV {γ : Type} : V → (V → γ) → γ
  | .undef, k => k .undef
  | .bool b, k => k (.bool b)
  | .int i n, k => k (.int i n)
  | .str s, k => k (.str s)
  | .nil, k => k .nil
  | .sl s f xs, k => k (.sl s f xs)
  | .own b s q xs, k => k (.own b s q xs)
  | .view b s q xs, k => k (.view b s q xs)
  | .ptr d o, k => k (.ptr d o)
  | .eptr b s q xs i o, k => k (.eptr b s q xs i o)
  | .vptr b x o, k => k (.vptr b x o)
  | .iptr x o, k => k (.iptr x o)
  | .agg cs, k => forceL cs fun cs => k (.agg cs)
  | .tup cs, k => forceL cs fun cs => k (.tup cs)
  | .clo f cs, k => forceL cs fun cs => k (.clo f cs)
def forceL {γ : Type} : List V → (List V → γ) → γ
  | [], k => k []
  | v :: vs, k => forceV v fun v => forceL vs fun vs => k (v :: vs)
end
def forceO {γ : Type} : List (Option V) → (List (Option V) → γ) → γ
  | [], k => k []
  | none :: vs, k => forceO vs fun vs => k (none :: vs)
  | some v :: vs, k => forceV v fun v => forceO vs fun vs => k (some v :: vs)
def force {γ : Type} (st : St) (k : St → γ) : γ := forceL st.t fun t => forceO st.h fun h => k ⟨t, h, st.dead⟩
theorem forceV_eq {γ : Type} (v : V) : ∀ k : V → γ, forceV v k = k v :=
  V.rec (motive_1 := fun v => ∀ k : V → γ, forceV v k = k v) (motive_2 := fun vs => ∀ k : List V → γ, forceL vs k = k vs)
    (fun _ => rfl) (fun _ _ => rfl) (fun _ _ _ => rfl) (fun _ _ => rfl) (fun _ => rfl) (fun _ _ _ _ _ => rfl) (fun _ _ _ _ _ _ => rfl) (fun _ _ _ _ _ _ => rfl) (fun _ _ _ => rfl) (fun _ _ _ _ _ _ _ _ => rfl) (fun _ _ _ _ _ => rfl) (fun _ _ _ _ => rfl)
    (fun _ ih _ => by rw [forceV, ih]) (fun _ ih _ => by rw [forceV, ih]) (fun _ _ ih _ => by rw [forceV, ih]) (fun _ => rfl) (fun _ _ h1 h2 _ => by rw [forceL, h1, h2]) v
theorem forceL_eq {γ : Type} : ∀ (vs : List V) (k : List V → γ), forceL vs k = k vs := by
  intro vs
  induction vs with
  | nil => intro k; rfl
  | cons v vs ih => intro k; rw [forceL, forceV_eq, ih]
theorem forceO_eq {γ : Type} : ∀ (vs : List (Option V)) (k : List (Option V) → γ), forceO vs k = k vs := by
  intro vs
  induction vs with
  | nil => intro k; rfl
  | cons v vs ih => intro k; cases v with
    | none => rw [forceO, ih]
    | some v => rw [forceO, forceV_eq, ih]
theorem force_eq {γ : Type} (st : St) (k : St → γ) : force st k = k st := by
  unfold force; rw [forceL_eq, forceO_eq]

/-! ### code -/
def Ex.same : Ex → Ex → Bool
  | .normal, .normal => true
  | .exit i, .exit j => i == j
  | .ret, .ret => true
  | _, _ => false
/-- How a loop may be left: how, and the state's form then. -/
abbrev Exits := Nat → List (Ex × List V × List (Option V))
def findEx (e : Ex) (k : List V × List (Option V)) : Nat → List (Ex × List V × List (Option V)) → Option Nat
  | _, [] => none
  | n, (e', k') :: r => if e.same e' && sameSk k k' then some n else findEx e k (n + 1) r
/-- What comes behind a loop, by the way it was left. -/
def outEx {α : Type} (lv : List Leaf) (j : Nat) (k : Ex → St → Option α) : Nat → List (Ex × List V × List (Option V)) → Option α
  | _, [] => none
  | _, [(e, s)] => k e (bdSt lv s)
  | n, (e, s) :: r => if j = n then k e (bdSt lv s) else outEx lv j k (n + 1) r

abbrev Tab := (β : Type) → Nat → List V → (V → Option β) → Option β
noncomputable def codeK (c : Cfg) (tab : Tab) (g : Told) (X : Exits) : Code → (α : Type) → St → (Ex → St → Option α) → Option α
  | .skip, _, st, k => k .normal st
  | .region i ops draw, α, st, k =>
    match draw with
    | true => force (st.head ([], [])) fun st => if entryOk ops (g i).2.2 st then runK c (tab α) ops ops.toList st (k .normal) else none
    | false => force st fun st => runK c (tab α) ops ops.toList st (k .normal)
  | .seq a b, α, st, k => codeK c tab g X a α st (fun e s => match e with
    | .normal => codeK c tab g X b α s k
    | e => k e s)
  | .cond x a b, α, st, k => match x, ev st.t x with
    | .tmp d, .bool t => br t (codeK c tab g X a α (st.know d true) k) (codeK c tab g X b α (st.know d false) k)
    | _, .bool t => br t (codeK c tab g X a α st k) (codeK c tab g X b α st k)
    | _, _ => none
  | .block i b, α, st, k => codeK c tab g X b α st (fun e s => match e with
    | .exit j => if j = i then k .normal s else k (.exit j) s
    | e => k e s)
  | .loop b, _, st, k =>
    whileK (fun σ => codeK c tab g X b (List Leaf ⊕ (Nat × List Leaf)) (bdSt σ (st.head ((g (firstId b)).1, (g (firstId b)).2.1)).sk) (fun e s => match e with
        | .normal => if sameSk (s.head ((g (firstId b)).1, (g (firstId b)).2.1)).sk (st.head ((g (firstId b)).1, (g (firstId b)).2.1)).sk then some (.inl (s.head ((g (firstId b)).1, (g (firstId b)).2.1)).lv) else none
        | e => match findEx e (s.head ((g (1000 + firstId b)).1, (g (1000 + firstId b)).2.1)).sk 0 (X (firstId b)) with
          | some j => some (.inr (j, (s.head ((g (1000 + firstId b)).1, (g (1000 + firstId b)).2.1)).lv))
          | none => none))
      (st.head ((g (firstId b)).1, (g (firstId b)).2.1)).lv
      (fun r => outEx r.2 r.1 k 0 (X (firstId b)))
  | .exit i, _, st, k => k (.exit i) st
  | .ret, _, st, k => k .ret st
  | _, _, _, _ => none

noncomputable def fnK (c : Cfg) (tab : Tab) (X : Exits) (f : Nat) (fn : Func) (α : Type) (args : List V) (k : V → Option α) : Option α :=
  match fn.body with
  | none => none
  | some code => if drawsOk (c.fg f) code = false then none else codeK c tab (c.fg f) X code α ⟨args ++ List.replicate (fn.ntmps - args.length) .undef, List.replicate fn.ntmps none, fun _ => false⟩ (fun e s => match e with
    | .exit _ => none
    | _ => match finish c (c.rz f) s fn.results.toList with
      | some r => k r
      | none => none)
end Go.Am
