/-
  What the looking form gives is what the machine gives: regions, code, functions.
-/
import Derived.Test.YtoljfpgnhfkdcaavAmDen
section
set_option linter.unusedVariables false
set_option linter.unusedSimpArgs false
namespace Go.Am
open Go
inductive CK where
  | bool
  | int (k : IntKind)
  | str
  | sl (s : Nat) (fl : Bool)
def CK.T : CK → Type
 | .bool => Bool
 | .int _ => Int
 | .str => List UInt8
 | .sl _ _ => List V
def CK.dec : (k : CK) → V → Option k.T
 | .bool, .bool b => some b
 | .int k, .int k' n => if k' = k then some n else none
 | .str, .str s => some s
 | .sl s f, .sl s' f' xs => if s' = s ∧ f' = f then some xs else none
 | _, _ => none
def CK.enc : (k : CK) → k.T → V
 | .bool, b => .bool b
 | .int k, n => .int k n
 | .str, s => .str s
 | .sl s f, xs => .sl s f xs
def cellsT : List CK → Type
 | [] => Unit
 | k :: ks => k.T × cellsT ks
def cellsDec : (ks : List CK) → List V → Option (cellsT ks)
 | [], [] => some ()
 | k :: ks, v :: vs => match k.dec v, cellsDec ks vs with
  | some a, some b => some (a, b)
  | _, _ => none
 | _, _ => none
def cellsEnc : (ks : List CK) → cellsT ks → List V
 | [], _ => []
 | k :: ks, e => k.enc e.1 :: cellsEnc ks e.2
def rowDec (ag : Bool) (ks : List CK) (v : V) : Option (cellsT ks) :=
 match ag, v with
 | true, .agg cs => cellsDec ks cs
 | true, _ => none
 | false, .agg _ => none
 | false, v => cellsDec ks [v]
def rowEnc (ag : Bool) (ks : List CK) (e : cellsT ks) : V :=
 match ag with
 | true => .agg (cellsEnc ks e)
 | false => (cellsEnc ks e).headD .undef
def kindOf (z n : V) : Option CK :=
 match z, n with
 | .bool _, _ => some .bool
 | .int k _, _ => some (.int k)
 | .str _, _ => some .str
 | .nil, .view _ s q _ => some (.sl s q.isFlat)
 | _, _ => none
def kindsOf : List V → List V → Option (List CK)
 | [], _ => some []
 | z :: zs, ns => match kindOf z (ns.headD .undef), kindsOf zs ns.tail with
  | some k, some ks => some (k :: ks)
  | _, _ => none
def TyInfo.kinds (i : TyInfo) : Option (List CK) := kindsOf i.zero.cells i.nz
section
variable {α : Type}
def br (b : Bool) (x y : Option α) : Option α :=
 match b with
 | true => x
 | false => y
def chk (p : Prop) [Decidable p] (x : Option α) : Option α := if p then x else none
def idx (ag : Bool) (ks : List CK) (xs : List V) (i : Nat) (k : cellsT ks → Option α) : Option α :=
 match (xs[i]?).bind (rowDec ag ks) with
 | some e => k e
 | none => none
def idxAt (ks : List CK) (xs : List V) (i o : Nat) (k : cellsT ks → Option α) : Option α :=
 match (xs[i]?).bind (fun r => cellsDec ks ((r.cells.drop o).take ks.length)) with
 | some e => k e
 | none => none
def idxS (s : List UInt8) (n : Int) (k : Int → Option α) : Option α :=
 chk (0 ≤ n) (match s[n.toNat]? with
  | some b => k b.toNat
  | none => none)
def strO (xs : List V) (k : List UInt8 → Option α) : Option α :=
 match bytesOf xs with
 | some s => k s
 | none => none
def storeO (xs : List V) (i o : Nat) (new : List V) (k : List V → Option α) : Option α :=
 match storeRow xs i o new with
 | some ys => k ys
 | none => none
def boundI (n : Int) : Option V → Option Int
 | none => some n
 | some (.int _ i) => some i
 | _ => none
def cutK (n : Nat) (lo hi : Option V) (k : Nat → Nat → Option α) : Option α :=
 match boundI 0 lo, boundI n hi with
 | some l, some h => chk (0 ≤ l ∧ l ≤ h ∧ h ≤ n) (k l.toNat h.toNat)
 | _, _ => none
def binK (i : TyInfo) (op : BinOp) (x y : V) (k : V → Option α) : Option α :=
 match op, x, y with
 | .add, .str a, .str b => chk (a.length + b.length ≤ 9223372036854775807) (k (.str (a ++ b)))
 | .quo, .int kd a, .int kd' b => if kd = kd' then chk (b ≠ 0) (k (.int kd (kd.wrap (a.tdiv b)))) else none
 | .rem, .int kd a, .int kd' b => if kd = kd' then chk (b ≠ 0) (k (.int kd (a.tmod b))) else none
 | op, x, y => match binV i op x y with
  | some v => k v
  | none => none
def valK (c : Cfg) (tab : Nat → List V → (V → Option α) → Option α) (ρ : Operand → V) (η : Nat → Option V) (d : Nat) (op : Op) (k : Out → Option α) : Option α :=
 match op with
 | .pick x a b => match ρ x with
  | .bool t => br t (k (.val (ρ a))) (k (.val (ρ b)))
  | _ => none
 | .binOp op t x y _ => match c.ty t with
  | some i => binK i op (ρ x) (ρ y) (fun v => k (.val v))
  | none => none
 | .load t a => match c.ty t, ρ a with
  | some i, .eptr _ _ _ xs j o => match i.kinds with
   | some ks => if ks.length = i.size ∧ (i.d.isAgg = true ∨ i.size = 1) then idxAt ks xs j o (fun e => k (.val (rowEnc i.d.isAgg ks e))) else none
   | none => none
  | some i, v => match loadV η i v with
   | some v => k (.val v)
   | none => none
  | none, _ => none
 | .slice t x lo hi none => match c.ty t with
  | some i => match i.d with
   | .str => match ρ x with
    | .str s => cutK s.length (lo.map ρ) (hi.map ρ) (fun l h => k (.val (.str ((s.take h).drop l))))
    | _ => none
   | .slice e => match c.ty e with
    | some j => match ρ x with
     | .nil => cutK 0 (lo.map ρ) (hi.map ρ) (fun _ _ => k (.val .nil))
     | .sl s f xs => if s = j.size then cutK xs.length (lo.map ρ) (hi.map ρ) (fun l h => k (.val (.sl s f ((xs.take h).drop l)))) else none
     | .own b s q xs => if s = j.size then cutK xs.length (lo.map ρ) (hi.map ρ) (fun l h => k (.val (.view b s q ((xs.take h).drop l)))) else none
     | .view b s q xs => if s = j.size then cutK xs.length (lo.map ρ) (hi.map ρ) (fun l h => k (.val (.view b s q ((xs.take h).drop l)))) else none
     | _ => none
    | none => none
   | _ => none
  | none => none
 | .indexAddr t x y => match c.ty t, ρ y with
  | some i, .int _ n => match i.d with
   | .slice e => match c.ty e with
    | some j => match ρ x with
     | .sl s _ xs => match j.kinds with
      | some ks => if s = j.size then chk (0 ≤ n) (idx j.d.isAgg ks xs n.toNat (fun e => k (.val (.iptr (rowEnc j.d.isAgg ks e) 0)))) else none
      | none => none
     | .view b s _ xs => match j.kinds with
      | some ks => if s = j.size then chk (0 ≤ n) (idx j.d.isAgg ks xs n.toNat (fun e => k (.val (.vptr b (rowEnc j.d.isAgg ks e) 0)))) else none
      | none => none
     | .own b s q xs => if s = j.size then chk (0 ≤ n ∧ n.toNat < xs.length) (k (.val (.eptr b j.size q xs n.toNat 0))) else none
     | _ => none
    | none => none
   | .array m e => match c.ty e with
    | some j => match addOff (ρ x) (n.toNat * j.size) with
     | some v => chk (0 ≤ n ∧ n < m) (k (.val v))
     | none => none
    | none => none
   | _ => none
  | _, _ => none
 | .index t x y => match c.ty t, ρ y with
  | some i, .int _ n => match i.d, ρ x with
   | .str, .str s => idxS s n (fun b => k (.val (.int .u8 b)))
   | .array m e, .agg cs => match c.ty e with
    | some j => match packV j.d.isAgg j.size (cs.drop (n.toNat * j.size)) with
     | some v => chk (0 ≤ n ∧ n < m) (k (.val v))
     | none => none
    | none => none
   | _, _ => none
  | _, _ => none
 | .convert s t x => match convV c s t (ρ x) with
  | some v => k (.val v)
  | none => match convRows c s t (ρ x) with
   | some xs => strO xs (fun s => k (.val (.str s)))
   | none => match bytesFor c s t (ρ x) with
    | some v => k (.fresh v [] 0)
    | none => none
 | .makeSlice t l kk => match c.ty t with
  | some ⟨.slice e, _, _, _, _, _, _⟩ => match c.ty e, ρ l, ρ kk with
   | some i, .int _ n, .int _ m => if i.size ≠ 0 ∧ sized i.size [i.zero] = true ∧ rowQ i.zero = .flat then
     (match flatRow (nilRow i.nz i.zero) with
     | some z => chk (0 ≤ n ∧ n ≤ m ∧ m * i.bytes ≤ 140737488355328 ∧ m ≤ 140737488355328) (k (.fresh (.own (base d 0) i.size ((rowQ (nilRow i.nz i.zero)).join i.qz) (List.replicate n.toNat z)) [] 1))
     | none => none) else none
   | _, _, _ => none
  | _ => none
 | .call ⟨.builtin .append, args, ts⟩ => match args.toList, ts.toList with
  | [x, y], [t, t'] => match c.ty t with
   | some ⟨.slice e, _, _, _, _, _, _⟩ => match c.ty e, ρ x with
    | some i, .nil => match srcOf i.size (ρ y) with
     | some (q, ys) => if t' = t ∧ i.size ≠ 0 then chk (ys.length * i.bytes ≤ 140737488355328 ∧ ys.length ≤ 140737488355328) (k (.fresh (.own (base d 0) i.size (q.join i.qz) ys) (srcB q (ρ y)) 1)) else none
     | none => none
    | _, _ => none
   | _ => none
  | _, _ => none
 | .call ⟨.value f, args, _⟩ => match ρ f with
  | .clo g cap => match strips η (args.toList.map ρ ++ cap) with
   | some vs => tab g (nilArgs (c.pz g) vs) (fun r => match takeR d (args.toList.map ρ ++ cap) r with
    | some o => k o
    | none => none)
   | none => none
  | _ => none
 | op => match valOp c (fun _ _ => none) ρ η d op with
  | some o => k o
  | none => none
def effK (c : Cfg) (st : St) (d : Option Nat) (op : Op) (k : St → Option α) : Option α :=
 match op with
 | .store t a x => match c.ty t with
  | some i => if (ev st.t x).cells.length = i.size ∧ allCell (ev st.t x).cells = true ∧ d = none then (match ev st.t a with
    | .ptr b o => (match st.h.getD b none with
     | some r => (match over r.cells o (ev st.t x).cells with
      | some cs => k { st with h := st.h.set b (some (reshape r cs)) }
      | none => none)
     | none => none)
    | .eptr b _ q xs j o => if st.dead b = false ∧ (cellsB (nilRow i.nz (ev st.t x)).cells).contains b = false then
      (match flats (nilRow i.nz (ev st.t x)).cells with
      | some new => storeO xs j o new (fun ys => k (((st.sweep (renew b (q.join (cellsQ (nilRow i.nz (ev st.t x)).cells)) ys)).kill (cellsB (nilRow i.nz (ev st.t x)).cells)).mark (!moveOk st.dead (cellsB (nilRow i.nz (ev st.t x)).cells))))
      | none => none) else none
    | _ => none) else none
  | none => none
 | .call ⟨.builtin .append, args, ts⟩ => match args.toList, ts.toList, d with
  | [x, y], [t, t'], some d => match c.ty t with
   | some ⟨.slice e, _, _, _, _, _, _⟩ => match c.ty e, ev st.t x with
    | some i, .own b s q xs => match srcOf s (ev st.t y) with
     | some (q', ys) =>
      if t' = t ∧ s = i.size ∧ i.size ≠ 0 ∧ st.dead b = false ∧ b ≠ 999 then
       chk ((xs.length + ys.length) * i.bytes ≤ 140737488355328 ∧ xs.length + ys.length ≤ 140737488355328) (k ((({ st.sweep (poison b) with t := (st.sweep (poison b)).t.set d (.own b s (q.join q') (xs ++ ys)) } : St).kill (srcB q' (ev st.t y))).mark (!moveOk st.dead (srcB q' (ev st.t y)) || (srcB q' (ev st.t y)).contains b)))
      else none
     | none => none
    | _, _ => none
   | _ => none
  | _, _, _ => none
 | _ => none
def outK (st : St) (d : Nat) (k : St → Option α) : Out → Option α
 | .val v => k { st with t := st.t.set d v }
 | .box r => if d < st.h.length ∧ (st.h.getD d none).isNone = true ∧ st.freeP d = true ∧ r.anyP (fun b => b == d) = false then
   k { st with t := st.t.set d (.ptr d 0), h := st.h.set d (some r) } else none
 | .fresh v esc n => if d < 1000 ∧ n ≤ 1000 ∧ (n = 0 ∨ st.freeD d = true) then k ((({ st with t := st.t.set d v } : St).kill esc).mark (!moveOk st.dead esc)) else none
def stepK (c : Cfg) (tab : Nat → List V → (V → Option α) → Option α) (st : St) (o : Oper) (k : St → Option α) : Option α :=
 if isEff st o.op then effK c st o.dst o.op k else
 match o.dst with
 | none => none
 | some d => valK c tab (ev st.t) (fun b => st.h.getD b none) d o.op (outK st d k)
def St.skip (st : St) (o : Oper) : St :=
 match o.dst with
 | some d => { st with t := st.t.set d skipped }
 | none => st
def St.know (st : St) (d : Nat) (b : Bool) : St := { st with t := st.t.set d (.bool b) }
def runK (c : Cfg) (tab : Nat → List V → (V → Option α) → Option α) (ops : Array Oper) : List Oper → St → (St → Option α) → Option α
 | [], st, k => k st
 | o :: os, st, k => match o.guard with
  | none => stepK c tab st o (fun s => runK c tab ops os s k)
  | some (j, want) => match (ops[j]?).bind (·.dst) with
   | none => runK c tab ops os (st.skip o) k
   | some dd => match st.t.getD dd .undef with
    | .bool b => br b
      (match want with
       | true => stepK c tab (st.know dd true) o (fun s => runK c tab ops os s k)
       | false => runK c tab ops os ((st.know dd true).skip o) k)
      (match want with
       | true => runK c tab ops os ((st.know dd false).skip o) k
       | false => stepK c tab (st.know dd false) o (fun s => runK c tab ops os s k))
    | .tup [] => runK c tab ops os (st.skip o) k
    | _ => none
def wrO (g : Wr) (xs : List V) (k : List V → Nat → Option α) : Option α :=
 match g.g xs with
 | some (ys, n) => k ys n
 | none => none
def wrK (st : St) (d : Option Nat) (g : Wr) (x : Operand) (k : St → Option α) : Option α :=
  match ev st.t x, d with
  | .own b s q xs, some d => if st.dead b = false ∧ b ≠ 999 ∧ q = .flat ∧ s = g.s then
      wrO g xs (fun ys n => k { st.sweep (renew b .flat ys) with t := (st.sweep (renew b .flat ys)).t.set d (match g.v with
        | true => .view b s .flat (ys.take n)
        | false => .tup []) }) else none
  | _, _ => none
def stepWK (c : Cfg) (tab : Nat → List V → (V → Option α) → Option α) (st : St) (o : Oper) (k : St → Option α) : Option α :=
 match wrOf c o.op with
 | some (g, x) => wrK st o.dst g x k
 | none => stepK c tab st o k
def runWK (c : Cfg) (tab : Nat → List V → (V → Option α) → Option α) (ops : Array Oper) : List Oper → St → (St → Option α) → Option α
 | [], st, k => k st
 | o :: os, st, k => match o.guard with
  | none => stepWK c tab st o (fun s => runWK c tab ops os s k)
  | some (j, want) => match (ops[j]?).bind (·.dst) with
   | none => runWK c tab ops os (st.skip o) k
   | some dd => match st.t.getD dd .undef with
    | .bool b => br b
      (match want with
       | true => stepWK c tab (st.know dd true) o (fun s => runWK c tab ops os s k)
       | false => runWK c tab ops os ((st.know dd true).skip o) k)
      (match want with
       | true => runWK c tab ops os ((st.know dd false).skip o) k
       | false => stepWK c tab (st.know dd false) o (fun s => runWK c tab ops os s k))
    | .tup [] => runWK c tab ops os (st.skip o) k
    | _ => none
end
inductive Leaf where
  | b (x : Bool)
  | i (n : Int)
  | s (x : List UInt8)
  | l (xs : List V)
def lB (σ : List Leaf) (n : Nat) : Bool :=
 match σ[n]? with
 | some (.b x) => x
 | _ => false
def lI (σ : List Leaf) (n : Nat) : Int :=
 match σ[n]? with
 | some (.i x) => x
 | _ => 0
def lS (σ : List Leaf) (n : Nat) : List UInt8 :=
 match σ[n]? with
 | some (.s x) => x
 | _ => []
def lL (σ : List Leaf) (n : Nat) : List V :=
 match σ[n]? with
 | some (.l x) => x
 | _ => []
mutual
def V.lv : V → List Leaf
 | .undef => []
 | .bool b => [.b b]
 | .int _ n => [.i n]
 | .str s => [.s s]
 | .nil => []
 | .sl _ _ xs => [.l xs]
 | .own _ _ _ xs => [.l xs]
 | .view _ _ _ xs => [.l xs]
 | .ptr _ _ => []
 | .eptr _ _ _ xs i _ => [.l xs, .i i]
 | .vptr _ x _ => V.lv x
 | .iptr x _ => V.lv x
 | .agg cs => V.lvs cs
 | .tup cs => V.lvs cs
 | .clo _ cs => V.lvs cs
def V.lvs : List V → List Leaf
 | [] => []
 | v :: vs => V.lv v ++ V.lvs vs
end
mutual
def V.sk : V → V
 | .undef => .undef
 | .bool _ => .bool false
 | .int k _ => .int k 0
 | .str _ => .str []
 | .nil => .nil
 | .sl s f _ => .sl s f []
 | .own b s q _ => .own b s q []
 | .view b s q _ => .view b s q []
 | .ptr d o => .ptr d o
 | .eptr b s q _ _ o => .eptr b s q [] 0 o
 | .vptr b x o => .vptr b (V.sk x) o
 | .iptr x o => .iptr (V.sk x) o
 | .agg cs => .agg (V.sks cs)
 | .tup cs => .tup (V.sks cs)
 | .clo f cs => .clo f (V.sks cs)
def V.sks : List V → List V
 | [] => []
 | v :: vs => V.sk v :: V.sks vs
end
mutual
def V.bd (σ : List Leaf) : V → Nat → V × Nat
 | .undef, n => (.undef, n)
 | .bool _, n => (.bool (lB σ n), n + 1)
 | .int k _, n => (.int k (lI σ n), n + 1)
 | .str _, n => (.str (lS σ n), n + 1)
 | .nil, n => (.nil, n)
 | .sl s f _, n => (.sl s f (lL σ n), n + 1)
 | .own b s q _, n => (.own b s q (lL σ n), n + 1)
 | .view b s q _, n => (.view b s q (lL σ n), n + 1)
 | .ptr d o, n => (.ptr d o, n)
 | .eptr b s q _ _ o, n => (.eptr b s q (lL σ n) (lI σ (n + 1)).toNat o, n + 2)
 | .vptr b x o, n => (.vptr b (V.bd σ x n).1 o, (V.bd σ x n).2)
 | .iptr x o, n => (.iptr (V.bd σ x n).1 o, (V.bd σ x n).2)
 | .agg cs, n => (.agg (V.bds σ cs n).1, (V.bds σ cs n).2)
 | .tup cs, n => (.tup (V.bds σ cs n).1, (V.bds σ cs n).2)
 | .clo f cs, n => (.clo f (V.bds σ cs n).1, (V.bds σ cs n).2)
def V.bds (σ : List Leaf) : List V → Nat → List V × Nat
 | [], n => ([], n)
 | v :: vs, n => ((V.bd σ v n).1 :: (V.bds σ vs (V.bd σ v n).2).1, (V.bds σ vs (V.bd σ v n).2).2)
end
mutual
def V.same : V → V → Bool
 | .undef, .undef => true
 | .bool a, .bool b => a == b
 | .int k n, .int k' n' => decide (k = k') && n == n'
 | .str [], .str [] => true
 | .nil, .nil => true
 | .sl s f [], .sl s' f' [] => s == s' && f == f'
 | .own b s q [], .own b' s' q' [] => b == b' && s == s' && decide (q = q')
 | .view b s q [], .view b' s' q' [] => b == b' && s == s' && decide (q = q')
 | .ptr d o, .ptr d' o' => d == d' && o == o'
 | .eptr b s q [] i o, .eptr b' s' q' [] i' o' => b == b' && s == s' && decide (q = q') && i == i' && o == o'
 | .vptr b x o, .vptr b' x' o' => b == b' && V.same x x' && o == o'
 | .iptr x o, .iptr x' o' => V.same x x' && o == o'
 | .agg cs, .agg ds => V.sames cs ds
 | .tup cs, .tup ds => V.sames cs ds
 | .clo f cs, .clo f' ds => f == f' && V.sames cs ds
 | _, _ => false
def V.sames : List V → List V → Bool
 | [], [] => true
 | v :: vs, w :: ws => V.same v w && V.sames vs ws
 | _, _ => false
end
def lvo : List (Option V) → List Leaf
 | [] => []
 | some v :: r => v.lv ++ lvo r
 | none :: r => lvo r
def sko : List (Option V) → List (Option V)
 | [] => []
 | some v :: r => some v.sk :: sko r
 | none :: r => none :: sko r
def bdo (σ : List Leaf) : List (Option V) → Nat → List (Option V)
 | [], _ => []
 | some v :: r, n => some (v.bd σ n).1 :: bdo σ r (v.bd σ n).2
 | none :: r, n => none :: bdo σ r n
def sameo : List (Option V) → List (Option V) → Bool
 | [], [] => true
 | some v :: r, some w :: r' => v.same w && sameo r r'
 | none :: r, none :: r' => sameo r r'
 | _, _ => false
def St.lv (st : St) : List Leaf := V.lvs st.t ++ lvo st.h
def St.sk (st : St) : List V × List (Option V) := (V.sks st.t, sko st.h)
def bdSt (σ : List Leaf) (k : List V × List (Option V)) : St := ⟨(V.bds σ k.1 0).1, bdo σ k.2 (V.bds σ k.1 0).2, fun _ => false, false⟩
def sameSk (k k' : List V × List (Option V)) : Bool := V.sames k.1 k'.1 && sameo k.2 k'.2
section
variable {σ β : Type}
def whileN (step : σ → Option (σ ⊕ β)) : Nat → σ → Option β
 | 0, _ => none
 | n + 1, s => match step s with
  | some (.inl s') => whileN step n s'
  | some (.inr r) => some r
  | none => none
theorem whileN_le {step : σ → Option (σ ⊕ β)} : ∀ {n m : Nat} {s : σ} {r : β}, n ≤ m → whileN step n s = some r → whileN step m s = some r := by
 intro n
 induction n with
 | zero => intro m s r _ h; cases h
 | succ n ih =>
  intro m s r hm h
  cases m with
  | zero => omega
  | succ m =>
   rw [whileN] at h ⊢
   cases hs : step s with
   | none => rw [hs] at h; cases h
   | some x =>
    rw [hs] at h
    cases x with
    | inl s' => exact ih (by omega) h
    | inr r' => exact h
open Classical in
noncomputable def whileInf (step : σ → Option (σ ⊕ β)) (s : σ) : Option β := if h : ∃ (r : β) (k : Nat), whileN step k s = some r then some h.choose else none
theorem whileInf_of {step : σ → Option (σ ⊕ β)} {s : σ} {r : β} {k : Nat} (h : whileN step k s = some r) : whileInf step s = some r := by
 have hex : ∃ (r : β) (k : Nat), whileN step k s = some r := ⟨r, k, h⟩
 unfold whileInf
 rw [dif_pos hex]
 obtain ⟨m, hm⟩ := hex.choose_spec
 have h1 := whileN_le (Nat.le_max_left k m) h
 have h2 := whileN_le (Nat.le_max_right k m) hm
 rw [h1] at h2
 injection h2 with h2
 rw [← h2]
theorem whileInf_some {step : σ → Option (σ ⊕ β)} {s : σ} {r : β} (h : whileInf step s = some r) : ∃ k, whileN step k s = some r := by
 unfold whileInf at h
 by_cases hex : ∃ (r : β) (k : Nat), whileN step k s = some r
 ·rw [dif_pos hex] at h
  obtain ⟨m, hm⟩ := hex.choose_spec
  injection h with h
  rw [h] at hm
  exact ⟨m, hm⟩
 ·rw [dif_neg hex] at h; cases h
theorem whileInf_step (step : σ → Option (σ ⊕ β)) (s : σ) : whileInf step s = match step s with
  | some (.inl s') => whileInf step s'
  | some (.inr r) => some r
  | none => none := by
 cases hs : step s with
 | none =>
  cases hw : whileInf step s with
  | none => rfl
  | some r =>
   obtain ⟨k, hk⟩ := whileInf_some hw
   cases k with
   | zero => cases hk
   | succ k => rw [whileN, hs] at hk; cases hk
 | some x =>
  cases x with
  | inr r => exact whileInf_of (k := 1) (by rw [whileN, hs])
  | inl s' =>
   simp only
   cases hw : whileInf step s' with
   | some r =>
    obtain ⟨k, hk⟩ := whileInf_some hw
    exact whileInf_of (k := k + 1) (by rw [whileN, hs]; exact hk)
   | none =>
    cases hw' : whileInf step s with
    | none => rfl
    | some r =>
     obtain ⟨k, hk⟩ := whileInf_some hw'
     cases k with
     | zero => cases hk
     | succ k =>
      rw [whileN, hs] at hk
      rw [whileInf_of hk] at hw
      cases hw
noncomputable def whileK {α : Type} (step : σ → Option (σ ⊕ β)) (s : σ) (k : β → Option α) : Option α :=
 match whileInf step s with
 | some r => k r
 | none => none
end
mutual
def forceV {γ : Type} : V → (V → γ) → γ
 | .undef, k => k .undef
 | .bool b, k => k (.bool b)
 | .int i n, k => k (.int i n)
 | .str s, k => k (.str s)
 | .nil, k => k .nil
 | .sl s f xs, k => k (.sl s f xs)
 | .own b s q xs, k => k (.own b s q xs)
 | .view b s q xs, k => k (.view b s q xs)
 | .ptr d o, k => k (.ptr d o)
 | .eptr b s q xs i o, k => k (.eptr b s q xs i o)
 | .vptr b x o, k => k (.vptr b x o)
 | .iptr x o, k => k (.iptr x o)
 | .agg cs, k => forceL cs fun cs => k (.agg cs)
 | .tup cs, k => forceL cs fun cs => k (.tup cs)
 | .clo f cs, k => forceL cs fun cs => k (.clo f cs)
def forceL {γ : Type} : List V → (List V → γ) → γ
 | [], k => k []
 | v :: vs, k => forceV v fun v => forceL vs fun vs => k (v :: vs)
end
def forceO {γ : Type} : List (Option V) → (List (Option V) → γ) → γ
 | [], k => k []
 | none :: vs, k => forceO vs fun vs => k (none :: vs)
 | some v :: vs, k => forceV v fun v => forceO vs fun vs => k (some v :: vs)
def force {γ : Type} (st : St) (k : St → γ) : γ := forceL st.t fun t => forceO st.h fun h => match st.dup with
 | true => k ⟨t, h, st.dead, true⟩
 | false => k ⟨t, h, st.dead, false⟩
theorem forceV_eq {γ : Type} (v : V) : ∀ k : V → γ, forceV v k = k v :=
 V.rec (motive_1 := fun v => ∀ k : V → γ, forceV v k = k v) (motive_2 := fun vs => ∀ k : List V → γ, forceL vs k = k vs)
  (fun _ => rfl) (fun _ _ => rfl) (fun _ _ _ => rfl) (fun _ _ => rfl) (fun _ => rfl) (fun _ _ _ _ _ => rfl) (fun _ _ _ _ _ _ => rfl) (fun _ _ _ _ _ _ => rfl) (fun _ _ _ => rfl) (fun _ _ _ _ _ _ _ _ => rfl) (fun _ _ _ _ _ => rfl) (fun _ _ _ _ => rfl)
  (fun _ ih _ => by rw [forceV, ih]) (fun _ ih _ => by rw [forceV, ih]) (fun _ _ ih _ => by rw [forceV, ih]) (fun _ => rfl) (fun _ _ h1 h2 _ => by rw [forceL, h1, h2]) v
theorem forceL_eq {γ : Type} : ∀ (vs : List V) (k : List V → γ), forceL vs k = k vs := by
 intro vs
 induction vs with
 | nil => intro k; rfl
 | cons v vs ih => intro k; rw [forceL, forceV_eq, ih]
theorem forceO_eq {γ : Type} : ∀ (vs : List (Option V)) (k : List (Option V) → γ), forceO vs k = k vs := by
 intro vs
 induction vs with
 | nil => intro k; rfl
 | cons v vs ih => intro k; cases v with
  | none => rw [forceO, ih]
  | some v => rw [forceO, forceV_eq, ih]
theorem force_eq {γ : Type} (st : St) (k : St → γ) : force st k = k st := by
 unfold force
 rw [forceL_eq, forceO_eq]
 obtain ⟨t, h, d, u⟩ := st
 cases u <;> rfl
def Ex.same : Ex → Ex → Bool
 | .normal, .normal => true
 | .exit i, .exit j => i == j
 | .ret, .ret => true
 | _, _ => false
abbrev Exits := Nat → List (Ex × List V × List (Option V))
def findEx (e : Ex) (k : List V × List (Option V)) : Nat → List (Ex × List V × List (Option V)) → Option Nat
 | _, [] => none
 | n, (e', k') :: r => if e.same e' && sameSk k k' then some n else findEx e k (n + 1) r
def outEx {α : Type} (lv : List Leaf) (j : Nat) (k : Ex → St → Option α) : Nat → List (Ex × List V × List (Option V)) → Option α
 | _, [] => none
 | _, [(e, s)] => k e (bdSt lv s)
 | n, (e, s) :: r => if j = n then k e (bdSt lv s) else outEx lv j k (n + 1) r
abbrev Tab := (β : Type) → Nat → List V → (V → Option β) → Option β
noncomputable def codeK (c : Cfg) (tab : Tab) (g : Told) (X : Exits) : Code → (α : Type) → St → (Ex → St → Option α) → Option α
 | .skip, _, st, k => k .normal st
 | .region i ops draw, α, st, k =>
  match draw with
  | true => force (st.head ([], [])) fun st => if entryOk ops (g i).2.2 st then runK c (tab α) ops ops.toList st (k .normal) else none
  | false => force st fun st => runWK c (tab α) ops ops.toList st (k .normal)
 | .seq a b, α, st, k => codeK c tab g X a α st (fun e s => match e with
  | .normal => codeK c tab g X b α s k
  | e => k e s)
 | .cond x a b, α, st, k => match x, ev st.t x with
  | .tmp d, .bool t => br t (codeK c tab g X a α (st.know d true) k) (codeK c tab g X b α (st.know d false) k)
  | _, .bool t => br t (codeK c tab g X a α st k) (codeK c tab g X b α st k)
  | _, _ => none
 | .block i b, α, st, k => codeK c tab g X b α st (fun e s => match e with
  | .exit j => if j = i then k .normal s else k (.exit j) s
  | e => k e s)
 | .loop b, _, st, k =>
  whileK (fun σ => codeK c tab g X b (List Leaf ⊕ (Nat × List Leaf)) (bdSt σ (st.head ((g (firstId b)).1, (g (firstId b)).2.1)).sk) (fun e s => match e with
    | .normal => if sameSk (s.head ((g (firstId b)).1, (g (firstId b)).2.1)).sk (st.head ((g (firstId b)).1, (g (firstId b)).2.1)).sk then some (.inl (s.head ((g (firstId b)).1, (g (firstId b)).2.1)).lv) else none
    | e => match findEx e (s.head ((g (1000 + firstId b)).1, (g (1000 + firstId b)).2.1)).sk 0 (X (firstId b)) with
     | some j => some (.inr (j, (s.head ((g (1000 + firstId b)).1, (g (1000 + firstId b)).2.1)).lv))
     | none => none))
   (st.head ((g (firstId b)).1, (g (firstId b)).2.1)).lv
   (fun r => outEx r.2 r.1 k 0 (X (firstId b)))
 | .exit i, _, st, k => k (.exit i) st
 | .ret, _, st, k => k .ret st
 | _, _, _, _ => none
noncomputable def fnK (c : Cfg) (tab : Tab) (X : Exits) (f : Nat) (fn : Func) (α : Type) (args : List V) (k : V → Option α) : Option α :=
 match fn.body with
 | none => none
 | some code => if drawsOk (c.fg f) code = false then none else codeK c tab (c.fg f) X code α ⟨args ++ List.replicate (fn.ntmps - args.length) .undef, List.replicate fn.ntmps none, fun _ => false, false⟩ (fun e s => match e with
  | .exit _ => none
  | _ => match finish c (c.rz f) s fn.results.toList with
   | some r => k r
   | none => none)
end Go.Am
end
section
set_option linter.unusedVariables false
set_option linter.unusedSimpArgs false
namespace Go.Am
open Go
section
variable {c : Cfg} {den : Nat → List V → Option V} {α : Type}
theorem ck_enc {k : CK} {v : V} {e : k.T} (h : k.dec v = some e) : k.enc e = v := by
 cases k <;> cases v <;> simp only [CK.dec] at h <;> first | (cases h; done) | skip
 ·injection h with h; subst h; rfl
 ·split at h
  ·rename_i hk
   subst hk
   injection h with h; subst h; rfl
  ·cases h
 ·injection h with h; subst h; rfl
 ·split at h
  ·rename_i hk
   obtain ⟨rfl, rfl⟩ := hk
   injection h with h; subst h; rfl
  ·cases h
theorem cells_enc : ∀ {ks : List CK} {vs : List V} {e : cellsT ks}, cellsDec ks vs = some e → cellsEnc ks e = vs ∧ vs.length = ks.length := by
 intro ks
 induction ks with
 | nil =>
  intro vs e h
  cases vs with
  | nil => exact ⟨rfl, rfl⟩
  | cons v vs => simp [cellsDec] at h
 | cons k ks ih =>
  intro vs e h
  cases vs with
  | nil => simp [cellsDec] at h
  | cons v vs =>
   simp only [cellsDec] at h
   split at h
   ·rename_i a b ha hb
    injection h with h
    subst h
    obtain ⟨h1, h2⟩ := ih hb
    exact ⟨by show k.enc a :: cellsEnc ks b = _; rw [ck_enc ha, h1], by simp [h2]⟩
   ·cases h
theorem row_enc {ag : Bool} {ks : List CK} {v : V} {e : cellsT ks} (h : rowDec ag ks v = some e) : rowEnc ag ks e = v := by
 cases ag with
 | true =>
  cases v <;> simp only [rowDec] at h <;> first | (cases h; done) | skip
  simp only [rowEnc, (cells_enc h).1]
 | false =>
  cases v <;> simp only [rowDec] at h <;> first | (cases h; done) | (simp only [rowEnc, (cells_enc h).1]; rfl)
theorem chk_some {p : Prop} [Decidable p] {x : Option α} {r : α} (h : chk p x = some r) : p ∧ x = some r := by
 unfold chk at h
 split at h
 ·exact ⟨‹_›, h⟩
 ·cases h
theorem idx_some {ag : Bool} {ks : List CK} {xs : List V} {i : Nat} {k : cellsT ks → Option α} {r : α} (h : idx ag ks xs i k = some r) : ∃ e, xs[i]? = some (rowEnc ag ks e) ∧ k e = some r := by
 unfold idx at h
 split at h
 ·rename_i e he
  cases hx : xs[i]? with
  | none => rw [hx] at he; cases he
  | some v =>
   rw [hx] at he
   exact ⟨e, by rw [row_enc he], h⟩
 ·cases h
theorem idxAt_some {ks : List CK} {xs : List V} {i o : Nat} {k : cellsT ks → Option α} {r : α} (h : idxAt ks xs i o k = some r) : ∃ e v, xs[i]? = some v ∧ (v.cells.drop o).take ks.length = cellsEnc ks e ∧ ks.length ≤ (v.cells.drop o).length ∧ k e = some r := by
 unfold idxAt at h
 split at h
 ·rename_i e he
  cases hx : xs[i]? with
  | none => rw [hx] at he; cases he
  | some v =>
   rw [hx] at he
   obtain ⟨h1, h2⟩ := cells_enc he
   refine ⟨e, v, rfl, h1.symm, ?_, h⟩
   rw [List.length_take] at h2
   omega
 ·cases h
theorem cutK_some {n : Nat} {lo hi : Option V} {k : Nat → Nat → Option α} {r : α} (h : cutK n lo hi k = some r) : ∃ l u, cutB n lo hi = some (l, u) ∧ k l u = some r := by
 have hB : cutB n lo hi = match boundI 0 lo, boundI n hi with
   | some l, some h => if 0 ≤ l ∧ l ≤ h ∧ h ≤ n then some (l.toNat, h.toNat) else none
   | _, _ => none := by
  unfold cutB
  cases lo with
  | none => cases hi with
   | none => rfl
   | some w => cases w <;> rfl
  | some v => cases v <;> (cases hi with
   | none => rfl
   | some w => cases w <;> rfl)
 unfold cutK at h
 split at h
 ·rename_i l u hl hu
  obtain ⟨h1, h2⟩ := chk_some h
  refine ⟨l.toNat, u.toNat, ?_, h2⟩
  rw [hB, hl, hu]
  simp only
  rw [if_pos h1]
 ·cases h
theorem binK_some {i : TyInfo} {op : BinOp} {x y : V} {k : V → Option α} {r : α} (h : binK i op x y k = some r) : ∃ v, binV i op x y = some v ∧ k v = some r := by
 unfold binK at h
 split at h
 ·rename_i a b
  obtain ⟨h1, h2⟩ := chk_some h
  refine ⟨_, ?_, h2⟩
  simp only [binV, strOp]
  rw [if_pos h1]
 ·rename_i kd a kd' b
  split at h
  ·rename_i hk
   obtain ⟨h1, h2⟩ := chk_some h
   refine ⟨_, ?_, h2⟩
   simp only [binV, if_pos hk, intOp, cmpInt, arith]
   rw [if_neg h1]
   rfl
  ·cases h
 ·rename_i kd a kd' b
  split at h
  ·rename_i hk
   obtain ⟨h1, h2⟩ := chk_some h
   refine ⟨_, ?_, h2⟩
   simp only [binV, if_pos hk, intOp]
   rw [if_neg h1]
  ·cases h
 ·split at h
  ·rename_i v hv; exact ⟨v, hv, h⟩
  ·cases h
def TabOk (den : Nat → List V → Option V) (tab : Nat → List V → (V → Option α) → Option α) : Prop := ∀ g args k r, tab g args k = some r → ∃ v, den g args = some v ∧ k v = some r
theorem le_none : Le (fun _ _ => none) den := fun _ _ _ h => by cases h
theorem valK_ok {tab : Nat → List V → (V → Option α) → Option α} (ht : TabOk den tab) {ρ : Operand → V} {η : Nat → Option V} {d : Nat} {op : Op} {k : Out → Option α} {r : α} (h : valK c tab ρ η d op k = some r) : ∃ o, valOp c den ρ η d op = some o ∧ k o = some r := by
 have dflt : (match valOp c (fun _ _ => none) ρ η d op with
  | some o => k o
  | none => none) = some r → ∃ o, valOp c den ρ η d op = some o ∧ k o = some r := by
  intro h
  cases hv : valOp c (fun _ _ => none) ρ η d op with
  | none => rw [hv] at h; cases h
  | some o => rw [hv] at h; exact ⟨o, valOp_le le_none hv, h⟩
 cases op with
 | pick x a b =>
  simp only [valK] at h
  split at h
  ·rename_i t hx
   cases t with
   | true => exact ⟨_, by simp only [valOp, hx, plain], h⟩
   | false => exact ⟨_, by simp only [valOp, hx, plain], h⟩
  ·cases h
 | binOp op t x y z =>
  simp only [valK] at h
  split at h
  ·rename_i i hi
   obtain ⟨v, h1, h2⟩ := binK_some h
   exact ⟨_, by simp only [valOp, hi, h1, plain], h2⟩
  ·cases h
 | load t a =>
  simp only [valK] at h
  split at h
  ·rename_i i b s q xs j o hi ha
   split at h
   ·rename_i ks hks
    split at h
    ·rename_i hl
     obtain ⟨e, v, h1, h2, h3, h4⟩ := idxAt_some h
     refine ⟨_, ?_, h4⟩
     obtain ⟨hl, hor⟩ := hl
     simp only [valOp, hi, ha, loadV, cellsAt, h1, Option.map_some, packV]
     rw [if_neg (by omega)]
     cases hag : i.d.isAgg with
     | true => simp only [if_true, ← hl, plain, h2]; rfl
     | false =>
      have hz : i.size = 1 := hor.resolve_left (by rw [hag]; simp)
      simp only [Bool.false_eq_true, if_false, hz, if_true]
      rw [hl, hz] at h2 h3
      cases hcs : v.cells.drop o with
      | nil => rw [hcs] at h3; simp at h3
      | cons u us =>
       rw [hcs] at h2
       simp only [List.head?_cons, plain, rowEnc]
       rw [← h2]
       rfl
    ·cases h
   ·cases h
  ·rename_i i v hi hne
   split at h
   ·rename_i v' hv; exact ⟨_, by simp only [valOp, hi, hv, plain], h⟩
   ·cases h
  ·cases h
 | slice t x lo hi mx =>
  cases mx with
  | some m => exact dflt h
  | none =>
   simp only [valK] at h
   split at h
   ·rename_i i hti
    split at h
    ·rename_i hd
     split at h
     ·rename_i s hx
      obtain ⟨l, u, h1, h2⟩ := cutK_some h
      exact ⟨_, by simp only [valOp, hti, hd, hx, h1, plain], h2⟩
     ·cases h
    ·rename_i e hd
     split at h
     ·rename_i j hj
      split at h
      ·rename_i hx
       obtain ⟨l, u, h1, h2⟩ := cutK_some h
       exact ⟨_, by simp only [valOp, hti, hd, hj, hx, cut, h1, plain], h2⟩
      ·rename_i s f xs hx
       split at h
       ·rename_i hs
        obtain ⟨l, u, h1, h2⟩ := cutK_some h
        exact ⟨_, by simp only [valOp, hti, hd, hj, hx, cut, if_pos hs, h1, plain], h2⟩
       ·cases h
      ·rename_i b s q xs hx
       split at h
       ·rename_i hs
        obtain ⟨l, u, h1, h2⟩ := cutK_some h
        exact ⟨_, by simp only [valOp, hti, hd, hj, hx, cut, if_pos hs, h1, plain], h2⟩
       ·cases h
      ·rename_i b s q xs hx
       split at h
       ·rename_i hs
        obtain ⟨l, u, h1, h2⟩ := cutK_some h
        exact ⟨_, by simp only [valOp, hti, hd, hj, hx, cut, if_pos hs, h1, plain], h2⟩
       ·cases h
      ·cases h
     ·cases h
    ·cases h
   ·cases h
 | indexAddr t x y =>
  simp only [valK] at h
  split at h
  ·rename_i i kk n hti hy
   split at h
   ·rename_i e hd
    split at h
    ·rename_i j hj
     split at h
     ·rename_i s f xs hx
      split at h
      ·rename_i ks hks
       split at h
       ·rename_i hs
        obtain ⟨h1, h2⟩ := chk_some h
        obtain ⟨e', h3, h4⟩ := idx_some h2
        refine ⟨_, ?_, h4⟩
        simp only [valOp, hti, hy, hd, hj, hx, addrOf]
        rw [if_neg (by omega), if_pos hs, h3]
        rfl
       ·cases h
      ·cases h
     ·rename_i b s q xs hx
      split at h
      ·rename_i ks hks
       split at h
       ·rename_i hs
        obtain ⟨h1, h2⟩ := chk_some h
        obtain ⟨e', h3, h4⟩ := idx_some h2
        refine ⟨_, ?_, h4⟩
        simp only [valOp, hti, hy, hd, hj, hx, addrOf]
        rw [if_neg (by omega), if_pos hs, h3]
        rfl
       ·cases h
      ·cases h
     ·rename_i b s q xs hx
      split at h
      ·rename_i hs
       obtain ⟨h1, h2⟩ := chk_some h
       refine ⟨_, ?_, h2⟩
       simp only [valOp, hti, hy, hd, hj, hx, addrOf]
       rw [if_neg (by omega), if_pos hs, if_pos h1.2]
       rfl
      ·cases h
     ·cases h
    ·cases h
   ·rename_i m e hd
    split at h
    ·rename_i j hj
     split at h
     ·rename_i v hv
      obtain ⟨h1, h2⟩ := chk_some h
      refine ⟨_, ?_, h2⟩
      simp only [valOp, hti, hy, hd, hj, if_pos h1, hv, plain]
     ·cases h
    ·cases h
   ·cases h
  ·cases h
 | index t x y =>
  simp only [valK] at h
  split at h
  ·rename_i i kk n hti hy
   split at h
   ·rename_i s hd hx
    unfold idxS at h
    obtain ⟨h1, h2⟩ := chk_some h
    split at h2
    ·rename_i b hb
     refine ⟨_, ?_, h2⟩
     simp only [valOp, hti, hy, hd, hx]
     rw [if_neg (by omega), hb]
     rfl
    ·cases h2
   ·rename_i m e cs hd hx
    split at h
    ·rename_i j hj
     split at h
     ·rename_i v hv
      obtain ⟨h1, h2⟩ := chk_some h
      refine ⟨_, ?_, h2⟩
      simp only [valOp, hti, hy, hd, hx, hj, if_pos h1, hv, plain]
     ·cases h
    ·cases h
   ·cases h
  ·cases h
 | convert s t x =>
  simp only [valK] at h
  cases hc : convV c s t (ρ x) with
  | some v =>
   rw [hc] at h
   exact ⟨_, by simp only [valOp, hc, plain], h⟩
  | none =>
   rw [hc] at h
   simp only at h
   cases hr : convRows c s t (ρ x) with
   | some xs =>
    rw [hr] at h
    simp only [strO] at h
    cases hb : bytesOf xs with
    | none => rw [hb] at h; cases h
    | some l =>
     rw [hb] at h
     exact ⟨_, by simp only [valOp, hc, convB, hr, hb, plain, Option.map_some], h⟩
   | none =>
    rw [hr] at h
    simp only at h
    cases hf : bytesFor c s t (ρ x) with
    | none => rw [hf] at h; cases h
    | some v =>
     rw [hf] at h
     exact ⟨_, by simp only [valOp, hc, convB, hr, hf, Option.map_some], h⟩
 | makeSlice t l kk =>
  simp only [valK] at h
  split at h
  ·rename_i e sz by_ z0 cm nz_ qz_ hti
   split at h
   ·rename_i i k1 n k2 m hi hl hk
    split at h
    ·rename_i hc
     split at h
     ·rename_i z hz
      obtain ⟨⟨h1, h2, h3, h4⟩, h5⟩ := chk_some h
      refine ⟨_, ?_, h5⟩
      simp only [valOp, hti, hi, hl, hk]
      rw [if_pos ⟨h1, h2, h3, h4, hc.1, hc.2.1, hc.2.2⟩, hz]
     ·cases h
    ·cases h
   ·cases h
  ·cases h
 | call cl =>
  obtain ⟨callee, args, ts⟩ := cl
  cases callee with
  | invoke f m => exact dflt h
  | value f =>
   simp only [valK] at h
   split at h
   ·rename_i g cap hf
    split at h
    ·rename_i vs hvs
     obtain ⟨v, h1, h2⟩ := ht _ _ _ _ h
     split at h2
     ·rename_i o ho
      exact ⟨o, by simp only [valOp, hf, hvs, h1, ho], h2⟩
     ·cases h2
    ·cases h
   ·cases h
  | builtin bi =>
   cases bi with
   | append =>
    simp only [valK] at h
    split at h
    ·rename_i x y t t' hx ht'
     split at h
     ·rename_i e sz by_ z0 cm nz_ qz_ hti
      split at h
      ·rename_i i hi hxv
       split at h
       ·rename_i q ys hsrc
        split at h
        ·rename_i hc
         obtain ⟨h1, h2⟩ := chk_some h
         refine ⟨_, ?_, h2⟩
         simp only [valOp, hx, ht', hti, hi, hxv, hsrc]
         rw [if_pos ⟨hc.1, hc.2, h1.1, h1.2⟩]
        ·cases h
       ·cases h
      ·cases h
     ·cases h
    ·cases h
   | _ => exact dflt h
 | _ => exact dflt h
end
end Go.Am
end
section
set_option linter.unusedVariables false
set_option linter.unusedSimpArgs false
namespace Go.Am
open Go
section
variable {c : Cfg} {den : Nat → List V → Option V} {α : Type}
theorem effK_ok {st : St} {d : Option Nat} {op : Op} {k : St → Option α} {r : α} (h : effK c st d op k = some r) : ∃ s, effOp c st d op = some s ∧ k s = some r := by
 cases op with
 | store t a x =>
  simp only [effK] at h
  split at h
  ·rename_i i hi
   split at h
   ·rename_i hc
    split at h
    ·rename_i b o ha
     split at h
     ·rename_i rr hr
      split at h
      ·rename_i cs hcs
       refine ⟨_, ?_, h⟩
       simp only [effOp, hi]
       rw [if_pos hc]
       simp only [ha, hr, hcs]
      ·cases h
     ·cases h
    ·rename_i b s q xs j o ha
     split at h
     ·rename_i hcc
      split at h
      ·rename_i new hn
       unfold storeO at h
       split at h
       ·rename_i ys hys
        refine ⟨_, ?_, h⟩
        simp only [effOp, hi]
        rw [if_pos hc]
        simp only [ha]
        rw [if_pos hcc]
        simp only [hn, hys]
       ·cases h
      ·cases h
     ·cases h
    ·cases h
   ·cases h
  ·cases h
 | call cl =>
  obtain ⟨callee, args, ts⟩ := cl
  cases callee with
  | builtin bi =>
   cases bi with
   | append =>
    simp only [effK] at h
    split at h
    ·rename_i x y t t' d' hx ht'
     split at h
     ·rename_i e sz by_ z0 cm nz_ qz_ hti
      split at h
      ·rename_i i b s q xs hi hxv
       split at h
       ·rename_i q' ys hsrc
        split at h
        ·rename_i hc
         obtain ⟨h1, h2⟩ := chk_some h
         refine ⟨_, ?_, h2⟩
         simp only [effOp, hx, ht', hti, hi, hxv, hsrc]
         rw [if_pos ⟨hc.1, hc.2.1, hc.2.2.1, hc.2.2.2.1, h1.1, h1.2, hc.2.2.2.2⟩]
        ·cases h
       ·cases h
      ·cases h
     ·cases h
    ·cases h
   | _ => simp only [effK] at h; cases h
  | _ => simp only [effK] at h; cases h
 | _ => simp only [effK] at h; cases h
theorem stepK_ok {tab : Nat → List V → (V → Option α) → Option α} (ht : TabOk den tab) {st : St} {o : Oper} {k : St → Option α} {r : α} (h : stepK c tab st o k = some r) : ∃ s, step c den st o = some s ∧ k s = some r := by
 unfold stepK at h
 unfold step
 split at h
 ·rename_i he
  rw [if_pos he]
  exact effK_ok h
 ·rename_i he
  rw [if_neg he]
  split at h
  ·cases h
  ·rename_i d hd
   obtain ⟨out, h1, h2⟩ := valK_ok ht h
   simp only [hd, h1]
   cases out with
   | val v => exact ⟨_, rfl, h2⟩
   | box rr =>
    simp only [outK] at h2
    split at h2
    ·rename_i hc; exact ⟨_, by simp only []; rw [if_pos hc], h2⟩
    ·cases h2
   | fresh v esc n =>
    simp only [outK] at h2
    split at h2
    ·rename_i hc; exact ⟨_, by simp only []; rw [if_pos hc], h2⟩
    ·cases h2
theorem know_eq {st : St} {d : Nat} {b : Bool} (h : st.t.getD d .undef = .bool b) : st.know d b = st := by
 unfold St.know
 rw [List.getD_eq_getElem?_getD] at h
 cases hd : st.t[d]? with
 | none => rw [hd] at h; cases h
 | some v =>
  rw [hd] at h
  simp only [Option.getD_some] at h
  subst h
  have hlt := (List.getElem?_eq_some_iff.1 hd).1
  have : st.t.set d (.bool b) = st.t := by
   apply List.ext_getElem?
   intro i
   rw [List.getElem?_set]
   split
   ·rename_i e
    subst e
    simp [hd]
   ·rfl
  rw [this]
theorem br_some {b : Bool} {x y : Option α} {r : α} (h : br b x y = some r) : (b = true ∧ x = some r) ∨ (b = false ∧ y = some r) := by
 cases b with
 | true => exact .inl ⟨rfl, h⟩
 | false => exact .inr ⟨rfl, h⟩
theorem runOps_skip {ops : Array Oper} {o : Oper} {os : List Oper} {st : St} (hw : wanted ops st.t o = some false) : runOps c den ops (o :: os) st = runOps c den ops os (st.skip o) := by
 simp only [runOps, hw, St.skip]
 cases o.dst <;> rfl
theorem runOps_do {ops : Array Oper} {o : Oper} {os : List Oper} {st s : St} (hw : wanted ops st.t o = some true) (hs : step c den st o = some s) : runOps c den ops (o :: os) st = runOps c den ops os s := by
 simp only [runOps, hw, hs]
theorem runK_ok {tab : Nat → List V → (V → Option α) → Option α} (ht : TabOk den tab) {ops : Array Oper} : ∀ (l : List Oper) (st : St) (k : St → Option α) (r : α), runK c tab ops l st k = some r → ∃ s, runOps c den ops l st = some s ∧ k s = some r := by
 intro l
 induction l with
 | nil => intro st k r h; exact ⟨st, rfl, h⟩
 | cons o l ih =>
  intro st k r h
  have doit : ∀ st', wanted ops st'.t o = some true → stepK c tab st' o (fun s => runK c tab ops l s k) = some r → ∃ s, runOps c den ops (o :: l) st' = some s ∧ k s = some r := by
   intro st' hw h
   obtain ⟨s, h1, h2⟩ := stepK_ok ht h
   obtain ⟨s', h3, h4⟩ := ih s k r h2
   exact ⟨s', by rw [runOps_do hw h1]; exact h3, h4⟩
  have pass : ∀ st', wanted ops st'.t o = some false → runK c tab ops l (st'.skip o) k = some r → ∃ s, runOps c den ops (o :: l) st' = some s ∧ k s = some r := by
   intro st' hw h
   obtain ⟨s', h3, h4⟩ := ih _ k r h
   exact ⟨s', by rw [runOps_skip hw]; exact h3, h4⟩
  rw [runK] at h
  split at h
  ·rename_i hg
   exact doit st (by unfold wanted; rw [hg]) h
  ·rename_i j want hg
   split at h
   ·rename_i hd
    exact pass st (by unfold wanted; rw [hg]; simp only [hd]) h
   ·rename_i dd hd
    split at h
    ·rename_i b hb
     have hk := know_eq hb
     have hw : wanted ops st.t o = some (b == want) := by unfold wanted; rw [hg]; simp only [hd, hb]
     rcases br_some h with ⟨rfl, h⟩ | ⟨rfl, h⟩
     ·cases want with
      | true => simp only at h; rw [hk] at h; exact doit st hw h
      | false => simp only at h; rw [hk] at h; exact pass st hw h
     ·cases want with
      | true => simp only at h; rw [hk] at h; exact pass st hw h
      | false => simp only at h; rw [hk] at h; exact doit st hw h
    ·rename_i hb
     exact pass st (by unfold wanted; rw [hg]; simp only [hd, hb]) h
    ·cases h
theorem wrK_ok {st : St} {d : Option Nat} {g : Wr} {x : Operand} {k : St → Option α} {r : α} (h : wrK st d g x k = some r) : ∃ s, wrStep st d g x = some s ∧ k s = some r := by
 unfold wrK at h
 unfold wrStep
 split at h
 ·rename_i b s q xs d hx
  split at h
  ·rename_i hc
   unfold wrO at h
   split at h
   ·rename_i ys n hg
    refine ⟨_, ?_, h⟩
    simp only [hx]
    rw [if_pos hc, hg]
    rfl
   ·cases h
  ·cases h
 ·cases h
theorem stepWK_ok {tab : Nat → List V → (V → Option α) → Option α} (ht : TabOk den tab) {st : St} {o : Oper} {k : St → Option α} {r : α} (h : stepWK c tab st o k = some r) : ∃ s, stepW c den st o = some s ∧ k s = some r := by
 unfold stepWK at h
 unfold stepW
 cases hw : wrOf c o.op with
 | none => rw [hw] at h; exact stepK_ok ht h
 | some z => rw [hw] at h; exact wrK_ok h
theorem runOpsW_skip {ops : Array Oper} {o : Oper} {os : List Oper} {st : St} (hw : wanted ops st.t o = some false) : runOpsW c den ops (o :: os) st = runOpsW c den ops os (st.skip o) := by
 simp only [runOpsW, hw, St.skip]
 cases o.dst <;> rfl
theorem runOpsW_do {ops : Array Oper} {o : Oper} {os : List Oper} {st s : St} (hw : wanted ops st.t o = some true) (hs : stepW c den st o = some s) : runOpsW c den ops (o :: os) st = runOpsW c den ops os s := by
 simp only [runOpsW, hw, hs]
theorem runWK_ok {tab : Nat → List V → (V → Option α) → Option α} (ht : TabOk den tab) {ops : Array Oper} : ∀ (l : List Oper) (st : St) (k : St → Option α) (r : α), runWK c tab ops l st k = some r → ∃ s, runOpsW c den ops l st = some s ∧ k s = some r := by
 intro l
 induction l with
 | nil => intro st k r h; exact ⟨st, rfl, h⟩
 | cons o l ih =>
  intro st k r h
  have doit : ∀ st', wanted ops st'.t o = some true → stepWK c tab st' o (fun s => runWK c tab ops l s k) = some r → ∃ s, runOpsW c den ops (o :: l) st' = some s ∧ k s = some r := by
   intro st' hw h
   obtain ⟨s, h1, h2⟩ := stepWK_ok ht h
   obtain ⟨s', h3, h4⟩ := ih s k r h2
   exact ⟨s', by rw [runOpsW_do hw h1]; exact h3, h4⟩
  have pass : ∀ st', wanted ops st'.t o = some false → runWK c tab ops l (st'.skip o) k = some r → ∃ s, runOpsW c den ops (o :: l) st' = some s ∧ k s = some r := by
   intro st' hw h
   obtain ⟨s', h3, h4⟩ := ih _ k r h
   exact ⟨s', by rw [runOpsW_skip hw]; exact h3, h4⟩
  rw [runWK] at h
  split at h
  ·rename_i hg
   exact doit st (by unfold wanted; rw [hg]) h
  ·rename_i j want hg
   split at h
   ·rename_i hd
    exact pass st (by unfold wanted; rw [hg]; simp only [hd]) h
   ·rename_i dd hd
    split at h
    ·rename_i b hb
     have hk := know_eq hb
     have hw : wanted ops st.t o = some (b == want) := by unfold wanted; rw [hg]; simp only [hd, hb]
     rcases br_some h with ⟨rfl, h⟩ | ⟨rfl, h⟩
     ·cases want with
      | true => simp only at h; rw [hk] at h; exact doit st hw h
      | false => simp only at h; rw [hk] at h; exact pass st hw h
     ·cases want with
      | true => simp only at h; rw [hk] at h; exact pass st hw h
      | false => simp only at h; rw [hk] at h; exact doit st hw h
    ·rename_i hb
     exact pass st (by unfold wanted; rw [hg]; simp only [hd, hb]) h
    ·cases h
theorem bd_lv (v : V) : ∀ (pre post : List Leaf), V.bd (pre ++ v.lv ++ post) v.sk pre.length = (v, pre.length + v.lv.length) := by
 have g1 : ∀ {pre post : List Leaf} {a : Leaf}, (pre ++ [a] ++ post)[pre.length]? = some a := fun {pre post a} => by simp
 refine V.rec (motive_1 := fun v => ∀ (pre post : List Leaf), V.bd (pre ++ v.lv ++ post) v.sk pre.length = (v, pre.length + v.lv.length))
  (motive_2 := fun vs => ∀ (pre post : List Leaf), V.bds (pre ++ V.lvs vs ++ post) (V.sks vs) pre.length = (vs, pre.length + (V.lvs vs).length))
  ?_ ?_ ?_ ?_ ?_ ?_ ?_ ?_ ?_ ?_ ?_ ?_ ?_ ?_ ?_ ?_ ?_ v
 ·intro pre post; rfl
 ·intro b pre post; simp only [V.lv, V.sk, V.bd, lB, g1]; rfl
 ·intro k n pre post; simp only [V.lv, V.sk, V.bd, lI, g1]; rfl
 ·intro s pre post; simp only [V.lv, V.sk, V.bd, lS, g1]; rfl
 ·intro pre post; rfl
 ·intro s f xs _ pre post; simp only [V.lv, V.sk, V.bd, lL, g1]; rfl
 ·intro b s q xs _ pre post; simp only [V.lv, V.sk, V.bd, lL, g1]; rfl
 ·intro b s q xs _ pre post; simp only [V.lv, V.sk, V.bd, lL, g1]; rfl
 ·intro d o pre post; rfl
 ·intro b s q xs i o _ pre post
  have e1 : (pre ++ [Leaf.l xs, Leaf.i i] ++ post)[pre.length]? = some (.l xs) := by simp
  have e2 : (pre ++ [Leaf.l xs, Leaf.i i] ++ post)[pre.length + 1]? = some (.i i) := by simp
  simp only [V.lv, V.sk, V.bd, lL, lI, e1, e2]
  rfl
 ·intro b x o ih pre post; simp only [V.lv, V.sk, V.bd, ih]
 ·intro x o ih pre post; simp only [V.lv, V.sk, V.bd, ih]
 ·intro cs ih pre post; simp only [V.lv, V.sk, V.bd, ih]
 ·intro cs ih pre post; simp only [V.lv, V.sk, V.bd, ih]
 ·intro f cs ih pre post; simp only [V.lv, V.sk, V.bd, ih]
 ·intro pre post; rfl
 ·intro u us hu hus pre post
  have h1 := hu pre (V.lvs us ++ post)
  have h2 := hus (pre ++ u.lv) post
  rw [← List.append_assoc] at h1
  rw [List.length_append] at h2
  simp only [V.lvs, V.sks, V.bds, ← List.append_assoc, h1, h2, List.length_append, Nat.add_assoc]
theorem bds_lv (vs : List V) (pre post : List Leaf) : V.bds (pre ++ V.lvs vs ++ post) (V.sks vs) pre.length = (vs, pre.length + (V.lvs vs).length) := by
 have := bd_lv (.agg vs) pre post
 simp only [V.lv, V.sk, V.bd, Prod.mk.injEq, V.agg.injEq] at this
 exact Prod.ext this.1 this.2
theorem bdo_lv : ∀ (hs : List (Option V)) (pre post : List Leaf), bdo (pre ++ lvo hs ++ post) (sko hs) pre.length = hs := by
 intro hs
 induction hs with
 | nil => intro pre post; rfl
 | cons x hs ih =>
  intro pre post
  cases x with
  | none => simp only [lvo, sko, bdo, ih]
  | some v =>
   have h1 := bd_lv v pre (lvo hs ++ post)
   have h2 := ih (pre ++ v.lv) post
   rw [← List.append_assoc] at h1
   rw [List.length_append] at h2
   simp only [lvo, sko, bdo, ← List.append_assoc, h1, h2]
theorem bdSt_lv {st : St} (hd : st.dead = fun _ => false) (hp : st.dup = false) : bdSt st.lv st.sk = st := by
 obtain ⟨t, h, dead, dup⟩ := st
 simp only at hd hp
 subst hd
 subst hp
 have h1 := bds_lv t [] (lvo h)
 have h2 := bdo_lv h (V.lvs t) []
 simp only [List.nil_append, List.length_nil, Nat.zero_add, List.append_nil] at h1 h2
 simp only [bdSt, St.lv, St.sk, h1, h2]
theorem same_eq (v : V) : ∀ w, V.same v w = true → v = w := by
 refine V.rec (motive_1 := fun v => ∀ w, V.same v w = true → v = w) (motive_2 := fun vs => ∀ ws, V.sames vs ws = true → vs = ws)
  ?_ ?_ ?_ ?_ ?_ ?_ ?_ ?_ ?_ ?_ ?_ ?_ ?_ ?_ ?_ ?_ ?_ v
 ·intro w h; cases w <;> first | rfl | simp [V.same] at h
 ·intro b w h; cases w <;> simp [V.same] at h ⊢; exact h
 ·intro k n w h; cases w <;> simp [V.same] at h ⊢; exact h
 ·intro s w h
  cases s with
  | nil => cases w with
   | str s => cases s with
    | nil => rfl
    | cons _ _ => simp [V.same] at h
   | _ => simp [V.same] at h
  | cons _ _ => cases w <;> simp [V.same] at h
 ·intro w h; cases w <;> first | rfl | simp [V.same] at h
 ·intro s f xs _ w h
  cases xs with
  | nil => cases w with
   | sl s' f' ys => cases ys with
    | nil => simp [V.same] at h; rw [h.1, h.2]
    | cons _ _ => simp [V.same] at h
   | _ => simp [V.same] at h
  | cons _ _ => cases w <;> simp [V.same] at h
 ·intro b s q xs _ w h
  cases xs with
  | nil => cases w with
   | own b' s' q' ys => cases ys with
    | nil => simp [V.same] at h; rw [h.1.1, h.1.2, h.2]
    | cons _ _ => simp [V.same] at h
   | _ => simp [V.same] at h
  | cons _ _ => cases w <;> simp [V.same] at h
 ·intro b s q xs _ w h
  cases xs with
  | nil => cases w with
   | view b' s' q' ys => cases ys with
    | nil => simp [V.same] at h; rw [h.1.1, h.1.2, h.2]
    | cons _ _ => simp [V.same] at h
   | _ => simp [V.same] at h
  | cons _ _ => cases w <;> simp [V.same] at h
 ·intro d o w h; cases w <;> simp [V.same] at h ⊢; exact h
 ·intro b s q xs i o _ w h
  cases xs with
  | nil => cases w with
   | eptr b' s' q' ys i' o' => cases ys with
    | nil => simp [V.same] at h; rw [h.1.1.1.1, h.1.1.1.2, h.1.1.2, h.1.2, h.2]
    | cons _ _ => simp [V.same] at h
   | _ => simp [V.same] at h
  | cons _ _ => cases w <;> simp [V.same] at h
 ·intro b x o ih w h; cases w <;> simp [V.same] at h ⊢; exact ⟨h.1.1, ih _ h.1.2, h.2⟩
 ·intro x o ih w h; cases w <;> simp [V.same] at h ⊢; exact ⟨ih _ h.1, h.2⟩
 ·intro cs ih w h; cases w <;> simp [V.same] at h ⊢; exact ih _ h
 ·intro cs ih w h; cases w <;> simp [V.same] at h ⊢; exact ih _ h
 ·intro f cs ih w h; cases w <;> simp [V.same] at h ⊢; exact ⟨h.1, ih _ h.2⟩
 ·intro ws h; cases ws <;> first | rfl | simp [V.sames] at h
 ·intro u us hu hus ws h
  cases ws with
  | nil => simp [V.sames] at h
  | cons w ws => simp [V.sames] at h; rw [hu _ h.1, hus _ h.2]
theorem sames_eq {vs ws : List V} (h : V.sames vs ws = true) : vs = ws := by
 have := same_eq (.agg vs) (.agg ws) (by simpa [V.same] using h)
 injection this
theorem sameo_eq : ∀ {a b : List (Option V)}, sameo a b = true → a = b := by
 intro a
 induction a with
 | nil => intro b h; cases b with
  | nil => rfl
  | cons _ _ => simp [sameo] at h
 | cons x a ih =>
  intro b h
  cases b with
  | nil => cases x <;> simp [sameo] at h
  | cons y b =>
   cases x <;> cases y <;> simp [sameo] at h
   ·rw [ih h]
   ·rw [same_eq _ _ h.1, ih h.2]
theorem sameSk_eq {k k' : List V × List (Option V)} (h : sameSk k k' = true) : k = k' := by
 unfold sameSk at h
 rw [Bool.and_eq_true] at h
 exact Prod.ext (sames_eq h.1) (sameo_eq h.2)
theorem exsame_eq {e e' : Ex} (h : e.same e' = true) : e = e' := by
 cases e <;> cases e' <;> simp [Ex.same] at h ⊢; exact h
theorem findEx_some {e : Ex} {k : List V × List (Option V)} : ∀ {l : List (Ex × List V × List (Option V))} {n j : Nat}, findEx e k n l = some j → n ≤ j ∧ l[j - n]? = some (e, k) := by
 intro l
 induction l with
 | nil => intro n j h; cases h
 | cons x l ih =>
  intro n j h
  obtain ⟨e', k'⟩ := x
  rw [findEx] at h
  split at h
  ·rename_i hc
   rw [Bool.and_eq_true] at hc
   injection h with h
   subst h
   rw [exsame_eq hc.1, sameSk_eq hc.2]
   exact ⟨Nat.le_refl _, by simp⟩
  ·obtain ⟨h1, h2⟩ := ih h
   refine ⟨by omega, ?_⟩
   rw [show j - n = (j - (n + 1)) + 1 by omega, List.getElem?_cons_succ]
   exact h2
theorem outEx_some {lv : List Leaf} {e : Ex} {k : List V × List (Option V)} {K : Ex → St → Option α} {r : α} : ∀ {l : List (Ex × List V × List (Option V))} {n j : Nat}, n ≤ j → l[j - n]? = some (e, k) → outEx lv j K n l = some r → K e (bdSt lv k) = some r := by
 intro l
 induction l with
 | nil => intro n j _ h; simp at h
 | cons x l ih =>
  intro n j hn hj h
  obtain ⟨e', k'⟩ := x
  cases l with
  | nil =>
   have : j - n = 0 := by
    have := (List.getElem?_eq_some_iff.1 hj).1
    simp at this
    omega
   rw [this] at hj
   simp only [List.getElem?_cons_zero, Option.some.injEq, Prod.mk.injEq] at hj
   obtain ⟨rfl, rfl⟩ := hj
   exact h
  | cons y l =>
   simp only [outEx] at h
   split at h
   ·rename_i e1
    subst e1
    simp only [Nat.sub_self, List.getElem?_cons_zero, Option.some.injEq, Prod.mk.injEq] at hj
    obtain ⟨rfl, rfl⟩ := hj
    exact h
   ·rename_i e1
    refine ih (n := n + 1) (by omega) ?_ h
    rw [show j - n = (j - (n + 1)) + 1 by omega, List.getElem?_cons_succ] at hj
    exact hj
theorem calm_dup (st : St) : st.calm.dup = false := by
 unfold St.calm
 split
 ·rfl
 ·assumption
theorem head_dup (st : St) (fs : List Nat × List Nat) : (st.head fs).dup = false := by
 have ho : ∀ (ns : List Nat) (i : Nat) (s : St), (St.owns ns i s).dup = s.dup := by
  intro ns
  induction ns with
  | nil => intro i s; rfl
  | cons n ns ih =>
   intro i s
   rw [St.owns, ih]
   split
   ·unfold St.own1
    split
    ·rfl
    ·split <;> rfl
   ·rfl
 unfold St.head St.head0
 simp only
 split
 ·exact calm_dup st
 ·exact (ho _ _ _).trans (calm_dup st)
theorem head_dead (st : St) (fs : List Nat × List Nat) : (st.head fs).dead = fun _ => false := by
 unfold St.head St.head0
 simp only
 split <;> rfl
theorem codeK_ok {tab : Tab} (ht : ∀ β, TabOk den (tab β)) {g : Told} {X : Exits} : ∀ (code : Code) (α : Type) (st : St) (k : Ex → St → Option α) (r : α), codeK c tab g X code α st k = some r → ∃ e s, exec c den loopInf g code st = some (e, s) ∧ k e s = some r := by
 intro code
 induction code with
 | skip => intro α st k r h; exact ⟨_, _, rfl, h⟩
 | region i ops draw =>
  intro α st k r h
  cases draw with
  | true =>
   simp only [codeK, force_eq] at h
   split at h
   ·rename_i hc
    obtain ⟨s, h1, h2⟩ := runK_ok (ht α) _ _ _ _ h
    exact ⟨.normal, s, by simp only [exec, if_true, hc, h1, Option.map_some], h2⟩
   ·cases h
  | false =>
   simp only [codeK, force_eq] at h
   obtain ⟨s, h1, h2⟩ := runWK_ok (ht α) _ _ _ _ h
   exact ⟨.normal, s, by simp only [exec, Bool.false_eq_true, if_false, h1, Option.map_some], h2⟩
 | seq a b iha ihb =>
  intro α st k r h
  simp only [codeK] at h
  obtain ⟨e, s, h1, h2⟩ := iha α _ _ _ h
  cases e with
  | normal =>
   obtain ⟨e', s', h3, h4⟩ := ihb α _ _ _ h2
   exact ⟨e', s', by simp only [exec, h1, h3], h4⟩
  | exit i => exact ⟨_, s, by simp only [exec, h1], h2⟩
  | ret => exact ⟨_, s, by simp only [exec, h1], h2⟩
 | cond x a b iha ihb =>
  intro α st k r h
  simp only [codeK] at h
  split at h
  ·rename_i d t hx
   have hk : st.know d t = st := know_eq hx
   rcases br_some h with ⟨rfl, h⟩ | ⟨rfl, h⟩
   ·rw [hk] at h
    obtain ⟨e, s, h1, h2⟩ := iha α _ _ _ h
    exact ⟨e, s, by simp only [exec, hx, h1], h2⟩
   ·rw [hk] at h
    obtain ⟨e, s, h1, h2⟩ := ihb α _ _ _ h
    exact ⟨e, s, by simp only [exec, hx, h1], h2⟩
  ·rename_i t hne hx
   rcases br_some h with ⟨rfl, h⟩ | ⟨rfl, h⟩
   ·obtain ⟨e, s, h1, h2⟩ := iha α _ _ _ h
    exact ⟨e, s, by simp only [exec, hx, h1], h2⟩
   ·obtain ⟨e, s, h1, h2⟩ := ihb α _ _ _ h
    exact ⟨e, s, by simp only [exec, hx, h1], h2⟩
  ·cases h
 | block i b ih =>
  intro α st k r h
  simp only [codeK] at h
  obtain ⟨e, s, h1, h2⟩ := ih α _ _ _ h
  cases e with
  | normal => exact ⟨_, s, by simp only [exec, h1], h2⟩
  | ret => exact ⟨_, s, by simp only [exec, h1], h2⟩
  | exit j =>
   simp only at h2
   split at h2
   ·rename_i hj; exact ⟨.normal, s, by simp only [exec, h1, if_pos hj], h2⟩
   ·rename_i hj; exact ⟨.exit j, s, by simp only [exec, h1, if_neg hj], h2⟩
 | loop b ih =>
  intro α st k r h
  simp only [codeK] at h
  unfold whileK at h
  split at h
  ·rename_i z hw
   obtain ⟨n, hn⟩ := whileInf_some hw
   clear hw
   have key : ∀ (n : Nat) (s1 : St) (z : Nat × List Leaf), (s1.head ((g (firstId b)).1, (g (firstId b)).2.1)).sk = (st.head ((g (firstId b)).1, (g (firstId b)).2.1)).sk →
     whileN (fun σ => codeK c tab g X b (List Leaf ⊕ (Nat × List Leaf)) (bdSt σ (st.head ((g (firstId b)).1, (g (firstId b)).2.1)).sk) (fun e s => match e with
      | .normal => if sameSk (s.head ((g (firstId b)).1, (g (firstId b)).2.1)).sk (st.head ((g (firstId b)).1, (g (firstId b)).2.1)).sk then some (.inl (s.head ((g (firstId b)).1, (g (firstId b)).2.1)).lv) else none
      | e => match findEx e (s.head ((g (1000 + firstId b)).1, (g (1000 + firstId b)).2.1)).sk 0 (X (firstId b)) with
       | some j => some (.inr (j, (s.head ((g (1000 + firstId b)).1, (g (1000 + firstId b)).2.1)).lv))
       | none => none)) n (s1.head ((g (firstId b)).1, (g (firstId b)).2.1)).lv = some z →
     ∃ e s2, loopInf (exec c den loopInf g b) (fun s => s.head ((g (firstId b)).1, (g (firstId b)).2.1)) s1 = some (e, s2) ∧
      findEx e (s2.head ((g (1000 + firstId b)).1, (g (1000 + firstId b)).2.1)).sk 0 (X (firstId b)) = some z.1 ∧ z.2 = (s2.head ((g (1000 + firstId b)).1, (g (1000 + firstId b)).2.1)).lv := by
    intro n
    induction n with
    | zero => intro s1 z _ h; cases h
    | succ n ihn =>
     intro s1 z hsk h
     rw [whileN] at h
     rw [loopInf_step]
     split at h
     ·rename_i σ' hb
      rw [← hsk, bdSt_lv (head_dead _ _) (head_dup _ _)] at hb
      obtain ⟨e, s, h1, h2⟩ := ih _ _ _ _ hb
      cases e with
      | normal =>
       simp only at h2
       split at h2
       ·rename_i hs
        simp only [Option.some.injEq, Sum.inl.injEq] at h2
        subst h2
        have hsk' := (sameSk_eq hs).trans hsk
        obtain ⟨e2, s2, g1, g2, g3⟩ := ihn s z hsk' h
        exact ⟨e2, s2, by rw [h1]; exact g1, g2, g3⟩
       ·cases h2
      | exit i => simp only at h2; split at h2 <;> cases h2
      | ret => simp only at h2; split at h2 <;> cases h2
     ·rename_i rr hb
      injection h with h
      subst h
      rw [← hsk, bdSt_lv (head_dead _ _) (head_dup _ _)] at hb
      obtain ⟨e, s, h1, h2⟩ := ih _ _ _ _ hb
      cases e with
      | normal => simp only at h2; split at h2 <;> cases h2
      | exit i =>
       simp only at h2
       split at h2
       ·rename_i j hj
        simp only [Option.some.injEq, Sum.inr.injEq] at h2
        subst h2
        exact ⟨.exit i, s, by rw [h1], hj, rfl⟩
       ·cases h2
      | ret =>
       simp only at h2
       split at h2
       ·rename_i j hj
        simp only [Option.some.injEq, Sum.inr.injEq] at h2
        subst h2
        exact ⟨.ret, s, by rw [h1], hj, rfl⟩
       ·cases h2
     ·cases h
   obtain ⟨e, s2, g1, g2, g3⟩ := key n st z rfl hn
   obtain ⟨_, hj⟩ := findEx_some g2
   have hout := outEx_some (Nat.zero_le _) hj h
   rw [g3, bdSt_lv (head_dead _ _) (head_dup _ _)] at hout
   exact ⟨e, _, by simp only [exec, g1, Option.map_some], hout⟩
  ·cases h
 | exit i => intro α st k r h; exact ⟨_, _, rfl, h⟩
 | ret => intro α st k r h; exact ⟨_, _, rfl, h⟩
 | _ => intro α st k r h; cases h
theorem fnK_ok {tab : Tab} (ht : ∀ β, TabOk den (tab β)) {X : Exits} {f : Nat} {fn : Func} {args : List V} {k : V → Option α} {r : α} (h : fnK c tab X f fn α args k = some r) : ∃ v, fnRun c den loopInf f fn args = some v ∧ k v = some r := by
 unfold fnK at h
 split at h
 ·cases h
 ·rename_i code hcode
  split at h
  ·cases h
  ·rename_i hdr
   obtain ⟨e, s, h1, h2⟩ := codeK_ok ht _ _ _ _ _ h
   unfold fnRun
   rw [hcode]
   simp only
   rw [if_neg hdr, h1]
   cases e with
   | exit i => cases h2
   | normal =>
    simp only at h2 ⊢
    split at h2
    ·rename_i v hv; exact ⟨v, hv, h2⟩
    ·cases h2
   | ret =>
    simp only at h2 ⊢
    split at h2
    ·rename_i v hv; exact ⟨v, hv, h2⟩
    ·cases h2
end
def assoc (k : Nat) : List (Nat × V) → Option V
 | [] => none
 | (i, a) :: r => if i = k then some a else assoc k r
def xkT (l : List (Nat × V)) : Nat → Nat → List V
 | _, 0 => []
 | i, n + 1 => (assoc i l).getD .undef :: xkT l (i + 1) n
def xkH (l : List (Nat × V)) : Nat → Nat → List (Option V)
 | _, 0 => []
 | i, n + 1 => assoc i l :: xkH l (i + 1) n
def xk (n : Nat) (ts hs : List (Nat × V)) : List V × List (Option V) := (xkT ts 0 n, xkH hs 0 n)
def noX : Exits := fun _ => []
def tabL : List (Nat × ((β : Type) → List V → (V → Option β) → Option β)) → Tab
 | [], _, _, _, _ => none
 | (f, w) :: r, β, g, args, k => if g = f then w β args k else tabL r β g args k
def FnOk (den : Nat → List V → Option V) (f : Nat) (w : (β : Type) → List V → (V → Option β) → Option β) : Prop := ∀ β args k r, w β args k = some r → ∃ v, den f args = some v ∧ k v = some r
theorem tabL_nil {den : Nat → List V → Option V} : ∀ β, TabOk den (tabL [] β) := fun β g args k r h => by cases h
theorem tabL_cons {den : Nat → List V → Option V} {f : Nat} {w : (β : Type) → List V → (V → Option β) → Option β} {l : List (Nat × ((β : Type) → List V → (V → Option β) → Option β))} (hf : FnOk den f w) (hl : ∀ β, TabOk den (tabL l β)) : ∀ β, TabOk den (tabL ((f, w) :: l) β) := by
 intro β g args k r h
 simp only [tabL] at h
 split at h
 ·rename_i e
  subst e
  exact hf β args k r h
 ·exact hl β g args k r h
def argsT : List (Bool × List CK) → Type
 | [] => Unit
 | s :: r => cellsT s.2 × argsT r
def argsEnc : (sh : List (Bool × List CK)) → argsT sh → List V
 | [], _ => []
 | s :: r, e => rowEnc s.1 s.2 e.1 :: argsEnc r e.2
def argsDec : (sh : List (Bool × List CK)) → List V → Option (argsT sh)
 | [], [] => some ()
 | s :: r, v :: vs => match rowDec s.1 s.2 v, argsDec r vs with
  | some a, some b => some (a, b)
  | _, _ => none
 | _, _ => none
theorem args_enc : ∀ {sh : List (Bool × List CK)} {vs : List V} {e : argsT sh}, argsDec sh vs = some e → argsEnc sh e = vs := by
 intro sh
 induction sh with
 | nil =>
  intro vs e h
  cases vs with
  | nil => rfl
  | cons v vs => simp [argsDec] at h
 | cons s sh ih =>
  intro vs e h
  cases vs with
  | nil => simp [argsDec] at h
  | cons v vs =>
   simp only [argsDec] at h
   split at h
   ·rename_i a b ha hb
    injection h with h
    subst h
    show rowEnc s.1 s.2 a :: argsEnc sh b = _
    rw [row_enc ha, ih hb]
   ·cases h
def wrap (sh : List (Bool × List CK)) (G : (β : Type) → argsT sh → (V → Option β) → Option β) : (β : Type) → List V → (V → Option β) → Option β := fun β args k =>
 match argsDec sh args with
 | some e => G β e k
 | none => none
theorem fn_ok {P : Program} {c : Cfg} {ext : Nat → List V → Option V} {f : Nat} {fn : Func} {l : List (Nat × ((β : Type) → List V → (V → Option β) → Option β))} {X : Exits} {w : (β : Type) → List V → (V → Option β) → Option β} (he : ∀ args, ext f args = none) (hf : P.funcs[f]? = some fn) (hnm : (fn.name == "runtime.NumGoroutine") = false)
  (hl : ∀ β, TabOk (den P c ext) (tabL l β)) (hw : ∀ β args k r, w β args k = some r → fnK c (tabL l) X f fn β args k = some r) : FnOk (den P c ext) f w := by
 intro β args k r h
 obtain ⟨v, h1, h2⟩ := fnK_ok hl (hw β args k r h)
 exact ⟨v, den_run (he args) hf hnm h1, h2⟩
theorem fn_okW {P : Program} {c : Cfg} {ext : Nat → List V → Option V} {f : Nat} {fn : Func} (l : List (Nat × ((β : Type) → List V → (V → Option β) → Option β))) (X : Exits) {sh : List (Bool × List CK)} {G : (β : Type) → argsT sh → (V → Option β) → Option β} (he : ∀ args, ext f args = none) (hf : P.funcs[f]? = some fn) (hnm : (fn.name == "runtime.NumGoroutine") = false)
  (hl : ∀ β, TabOk (den P c ext) (tabL l β)) (hk : ∀ β (e : argsT sh) (k : V → Option β), fnK c (tabL l) X f fn β (argsEnc sh e) k = G β e k) : FnOk (den P c ext) f (wrap sh G) :=
 fn_ok (l := l) (X := X) he hf hnm hl (fun β args k r h => by
  unfold wrap at h
  split at h
  ·rename_i e he
   rw [← h, ← args_enc he]
   exact hk β e k
  ·cases h)
end Go.Am
end
