/-
  The machine's answers without a bound on depth: what a function answers, and that a run with these answers gives such an answer.
-/
import Derived.Below
import Derived.Calls
import Derived.Orders
import Derived.KernelRfl
section
set_option linter.unusedVariables false
set_option linter.unusedSimpArgs false
namespace Go.Am
open Go
inductive Q where
  | flat
  | clean
  | any
  deriving DecidableEq, Inhabited
def Q.join : Q → Q → Q
 | .flat, q => q
 | .clean, .flat => .clean
 | .clean, q => q
 | .any, _ => .any
def Q.isFlat : Q → Bool
 | .flat => true
 | _ => false
def Q.good : Q → Bool
 | .any => false
 | _ => true
inductive V where
  | undef
  | bool (b : Bool)
  | int (k : IntKind) (n : Int)
  | str (s : List UInt8)
  | nil
  | sl (s : Nat) (fl : Bool) (xs : List V)
  | own (b s : Nat) (q : Q) (xs : List V)
  | view (b s : Nat) (q : Q) (xs : List V)
  | ptr (d off : Nat)
  | eptr (b s : Nat) (q : Q) (xs : List V) (i off : Nat)
  | vptr (b : Nat) (x : V) (off : Nat)
  | iptr (x : V) (off : Nat)
  | agg (cs : List V)
  | tup (vs : List V)
  | clo (f : Nat) (cap : List V)
  deriving Inhabited
def V.cells : V → List V
 | .agg cs => cs
 | v => [v]
def V.isDef : V → Bool
 | .undef => false
 | _ => true
def V.isCell : V → Bool
 | .undef => false
 | .agg _ => false
 | .tup _ => false
 | _ => true
def allCell : List V → Bool
 | [] => true
 | v :: vs => v.isCell && allCell vs
inductive Ty where
  | bool
  | int (k : IntKind)
  | str
  | slice (e : Nat)
  | struct (fs : List (Nat × Nat))
  | array (n e : Nat)
  | ptr (e : Nat)
  | other
structure TyInfo where
  d : Ty
  size : Nat
  bytes : Nat
  zero : V
  cmp : Bool
  nz : List V
  qz : Q
def moveOk (dead : Nat → Bool) : List Nat → Bool
 | [] => true
 | b :: l => (b == 999 || (!dead b && !l.contains b)) && moveOk dead l
structure St where
  t : List V
  h : List (Option V)
  dead : Nat → Bool
  dup : Bool
def St.kill (st : St) (l : List Nat) : St := { st with dead := fun b => l.contains b || st.dead b }
def St.mark (st : St) (x : Bool) : St := { st with dup := x || st.dup }
structure Wr where
  s : Nat
  g : List V → Option (List V × Nat)
  v : Bool
structure Cfg where
  ty : Nat → Option TyInfo
  fg : Nat → Nat → List Nat × List Nat × List Nat
  pz : Nat → List (List V)
  rz : Nat → List V
  wr : Nat → Option Wr := fun _ => none
def Ty.isAgg : Ty → Bool
 | .struct _ => true
 | .array _ _ => true
 | _ => false
def base (d j : Nat) : Nat := d * 1000 + j
def canonBase (k : Nat) : Nat := 1000000 + k
def ofVal : Value → V
 | .bool b => .bool b
 | .int k n => .int k n
 | .string s => .str s.data.toList
 | .slice none 0 0 => .nil
 | _ => .undef
def ev (t : List V) : Operand → V
 | .tmp i => t.getD i .undef
 | .const v => ofVal v
 | .func f => .clo f []
 | .global _ => .undef
mutual
def V.mapB (f : V → Option V) : V → V
 | .agg cs => .agg (V.mapBs f cs)
 | .tup vs => .tup (V.mapBs f vs)
 | .clo g cs => .clo g (V.mapBs f cs)
 | v => (f v).getD v
def V.mapBs (f : V → Option V) : List V → List V
 | [] => []
 | v :: vs => V.mapB f v :: V.mapBs f vs
end
def poison (b : Nat) : V → Option V
 | .own b' _ _ _ => if b' = b then some .undef else none
 | .view b' _ _ _ => if b' = b then some .undef else none
 | .eptr b' _ _ _ _ _ => if b' = b then some .undef else none
 | .vptr b' _ _ => if b' = b then some .undef else none
 | _ => none
def renew (b : Nat) (q : Q) (ys : List V) : V → Option V
 | .own b' s _ _ => if b' = b then some (.own b s q ys) else none
 | .view b' _ _ _ => if b' = b then some .undef else none
 | .eptr b' _ _ _ _ _ => if b' = b then some .undef else none
 | .vptr b' _ _ => if b' = b then some .undef else none
 | _ => none
mutual
def V.anyB (p : Nat → Bool) : V → Bool
 | .own b _ _ _ => p b
 | .view b _ _ _ => p b
 | .eptr b _ _ _ _ _ => p b
 | .vptr b _ _ => p b
 | .agg cs => V.anyBs p cs
 | .tup cs => V.anyBs p cs
 | .clo _ cs => V.anyBs p cs
 | _ => false
def V.anyBs (p : Nat → Bool) : List V → Bool
 | [] => false
 | v :: vs => V.anyB p v || V.anyBs p vs
end
mutual
def V.anyP (p : Nat → Bool) : V → Bool
 | .ptr d _ => p d
 | .agg cs => V.anyPs p cs
 | .tup cs => V.anyPs p cs
 | .clo _ cs => V.anyPs p cs
 | _ => false
def V.anyPs (p : Nat → Bool) : List V → Bool
 | [] => false
 | v :: vs => V.anyP p v || V.anyPs p vs
end
def anyBo (p : Nat → Bool) : List (Option V) → Bool
 | [] => false
 | some v :: r => v.anyB p || anyBo p r
 | none :: r => anyBo p r
def anyPo (p : Nat → Bool) : List (Option V) → Bool
 | [] => false
 | some v :: r => v.anyP p || anyPo p r
 | none :: r => anyPo p r
def St.freeD (st : St) (d : Nat) : Bool := !V.anyBs (fun b => b / 1000 == d) (st.t.set d .undef) && !anyBo (fun b => b / 1000 == d) st.h
def St.freeP (st : St) (d : Nat) : Bool := !V.anyPs (fun d' => d' == d) (st.t.set d .undef) && !anyPo (fun d' => d' == d) st.h
def mapBo (f : V → Option V) : List (Option V) → List (Option V)
 | [] => []
 | some v :: r => some (v.mapB f) :: mapBo f r
 | none :: r => none :: mapBo f r
def St.sweep (st : St) (f : V → Option V) : St := ⟨V.mapBs f st.t, mapBo f st.h, st.dead, st.dup⟩
def flat : V → Option V
 | .bool b => some (.bool b)
 | .int k n => some (.int k n)
 | .str s => some (.str s)
 | .nil => some .nil
 | .sl s f xs => some (.sl s f xs)
 | .own _ s q xs => some (.sl s q.isFlat xs)
 | .view _ s q xs => some (.sl s q.isFlat xs)
 | _ => none
def flats : List V → Option (List V)
 | [] => some []
 | v :: vs => match flat v, flats vs with
  | some x, some xs => some (x :: xs)
  | _, _ => none
def flatRow : V → Option V
 | .agg cs => (flats cs).map .agg
 | v => flat v
def flatRows : List V → Option (List V)
 | [] => some []
 | v :: vs => match flatRow v, flatRows vs with
  | some x, some xs => some (x :: xs)
  | _, _ => none
def cellQ : V → Q
 | .bool _ => .flat
 | .int _ _ => .flat
 | .str _ => .flat
 | .nil => .flat
 | .own _ _ q _ => if q.good then .clean else .any
 | .view _ _ q _ => if q.good then .clean else .any
 | _ => .any
def cellsQ : List V → Q
 | [] => .flat
 | v :: vs => (cellQ v).join (cellsQ vs)
def rowQ (v : V) : Q := cellsQ v.cells
def rowsQ : List V → Q
 | [] => .flat
 | v :: vs => (rowQ v).join (rowsQ vs)
def cellB : V → List Nat
 | .own b _ _ _ => [b]
 | .view b _ _ _ => [b]
 | _ => []
def cellsB : List V → List Nat
 | [] => []
 | v :: vs => cellB v ++ cellsB vs
def rowsB : List V → List Nat
 | [] => []
 | v :: vs => cellsB v.cells ++ rowsB vs
def srcB (q : Q) (v : V) : List Nat :=
 match q with
 | .clean => cellB v
 | _ => []
def nilCell (z v : V) : V :=
 match v, z with
 | .nil, .view _ s q _ => .view 999 s q []
 | v, _ => v
def nilCells : List V → List V → List V
 | z :: zs, v :: vs => nilCell z v :: nilCells zs vs
 | _, vs => vs
def nilRow (zs : List V) (v : V) : V :=
 match v with
 | .agg cs => .agg (nilCells zs cs)
 | v => match zs with
  | z :: _ => nilCell z v
  | [] => v
def nilRows (zs : List V) : List V → List V
 | [] => []
 | v :: vs => nilRow zs v :: nilRows zs vs
def nilArgCell (z v : V) : V :=
 match v, z with
 | .nil, .view _ s q _ => .sl s q.isFlat []
 | v, _ => v
def nilArgCells : List V → List V → List V
 | z :: zs, v :: vs => nilArgCell z v :: nilArgCells zs vs
 | _, vs => vs
def nilArg (zs : List V) (v : V) : V :=
 match v with
 | .agg cs => .agg (nilArgCells zs cs)
 | v => match zs with
  | z :: _ => nilArgCell z v
  | [] => v
def nilArgs : List (List V) → List V → List V
 | zs :: zss, v :: vs => nilArg zs v :: nilArgs zss vs
 | _, vs => vs
def resCell (j : Nat) (z v : V) : V :=
 match z, v with
 | .own _ s q _, .nil => .own j s q []
 | .view _ s q _, .nil => .view j s q []
 | .view _ _ _ _, .own b s q xs => .view b s q xs
 | .sl s f _, .nil => .sl s f []
 | _, v => v
def resCells : Nat → List V → List V → List V
 | j, z :: zs, v :: vs => resCell j z v :: resCells (j + 1) zs vs
 | _, _, vs => vs
def resRow (j : Nat) (zs : List V) (v : V) : V :=
 match v with
 | .agg cs => .agg (resCells j zs cs)
 | v => match zs with
  | z :: _ => resCell j z v
  | [] => v
def resRows : Nat → List V → List V → List V
 | _, _, [] => []
 | j, zs, v :: vs => resRow j zs v :: resRows (j + v.cells.length) (zs.drop v.cells.length) vs
mutual
def strip (η : Nat → Option V) : V → Option V
 | .bool b => some (.bool b)
 | .int k n => some (.int k n)
 | .str s => some (.str s)
 | .nil => some .nil
 | .sl s f xs => some (.sl s f xs)
 | .own _ s q xs => some (.sl s q.isFlat xs)
 | .view _ s q xs => some (.sl s q.isFlat xs)
 | .iptr x o => some (.iptr x o)
 | .vptr _ x o => some (.iptr x o)
 | .eptr _ _ _ xs i o => match xs[i]? with
  | some x => some (.iptr x o)
  | none => none
 | .ptr d o => match η d with
  | some r => (flats r.cells).map fun cs => .iptr (.agg cs) o
  | none => none
 | .agg cs => (strips η cs).map .agg
 | .tup cs => (strips η cs).map .tup
 | .clo f cs => (strips η cs).map (.clo f)
 | .undef => none
def strips (η : Nat → Option V) : List V → Option (List V)
 | [] => some []
 | v :: vs => match strip η v, strips η vs with
  | some x, some xs => some (x :: xs)
  | _, _ => none
end
def thawB (d : Nat) : V → Option V
 | .own b s q xs => some (.own (base d b) s q xs)
 | .view b s q xs => some (.view (base d b) s q xs)
 | .eptr _ _ _ _ _ _ => some .undef
 | .vptr _ _ _ => some .undef
 | .ptr _ _ => some .undef
 | _ => none
mutual
def V.old : V → Bool
 | .sl _ _ _ => true
 | .iptr _ _ => true
 | .own _ _ q _ => !q.good
 | .view _ _ q _ => !q.good
 | .eptr _ _ _ _ _ _ => true
 | .vptr _ _ _ => true
 | .ptr _ _ => true
 | .agg cs => V.olds cs
 | .tup cs => V.olds cs
 | .clo _ cs => V.olds cs
 | _ => false
def V.olds : List V → Bool
 | [] => false
 | v :: vs => V.old v || V.olds vs
end
def okCell : V → Bool
 | .bool _ => true
 | .int _ _ => true
 | .str _ => true
 | .nil => true
 | .sl _ _ _ => true
 | .own _ _ _ _ => true
 | .view _ _ _ _ => true
 | .iptr _ _ => true
 | _ => false
def okRes : List V → Bool
 | [] => true
 | v :: vs => okCell v && okRes vs
def cellsOf : List V → List V
 | [] => []
 | v :: vs => v.cells ++ cellsOf vs
def numB (l : List (List Nat)) : V → Option V
 | .own b s q xs => some (.own (l.idxOf [b]) s q xs)
 | .view b s q xs => some (.view (l.idxOf [b]) s q xs)
 | _ => none
def less : List UInt8 → List UInt8 → Bool := Op.bytesLess
def cmpInt (op : BinOp) (a b : Int) : Option Bool :=
 match op with
 | .eql => some (a == b)
 | .neq => some (a != b)
 | .lss => some (decide (a < b))
 | .leq => some (decide (a ≤ b))
 | .gtr => some (decide (a > b))
 | .geq => some (decide (a ≥ b))
 | _ => none
def arith (op : BinOp) (a b : Int) : Option Int :=
 match op with
 | .add => some (a + b)
 | .sub => some (a - b)
 | .mul => some (a * b)
 | .quo => if b = 0 then none else some (a.tdiv b)
 | _ => none
def intOp (op : BinOp) (k : IntKind) (a b : Int) : Option V :=
 match op with
 | .rem => if b = 0 then none else some (.int k (a.tmod b))
 | _ => match cmpInt op a b with
  | some r => some (.bool r)
  | none => (arith op a b).map fun n => .int k (k.wrap n)
def strOp (op : BinOp) (a b : List UInt8) : Option V :=
 match op with
 | .add => if a.length + b.length ≤ 9223372036854775807 then some (.str (a ++ b)) else none
 | .eql => some (.bool (a == b))
 | .neq => some (.bool !(a == b))
 | .lss => some (.bool (less a b))
 | .leq => some (.bool (less a b || a == b))
 | .gtr => some (.bool !(less a b || a == b))
 | .geq => some (.bool !(less a b))
 | _ => none
def eqCell : V → V → Option Bool
 | .bool a, .bool b => some (a == b)
 | .int k a, .int k' b => if k = k' then some (a == b) else none
 | .str a, .str b => some (a == b)
 | _, _ => none
def eqCells : List V → List V → Option Bool
 | [], [] => some true
 | a :: az, b :: bs => match eqCell a b, eqCells az bs with
  | some x, some y => some (x && y)
  | _, _ => none
 | _, _ => none
def sameKind : V → V → Bool
 | .bool _, .bool _ => true
 | .int k _, .int k' _ => decide (k = k')
 | .str _, .str _ => true
 | _, _ => false
def sameKinds : List V → List V → Bool
 | [], [] => true
 | a :: az, b :: bs => sameKind a b && sameKinds az bs
 | _, _ => false
def binV (i : TyInfo) (op : BinOp) : V → V → Option V
 | .bool a, .bool b => match i.d, op with
  | .bool, .eql => some (.bool (a == b))
  | .bool, .neq => some (.bool !(a == b))
  | _, _ => none
 | .int k a, .int k' b => if k = k' then intOp op k a b else none
 | .str a, .str b => strOp op a b
 | .agg a, .agg b => match i.cmp && sameKinds i.zero.cells a && sameKinds i.zero.cells b, op, eqCells a b with
  | true, .eql, some r => some (.bool r)
  | true, .neq, some r => some (.bool !r)
  | _, _, _ => none
 | _, _ => none
def lenV : V → Option Nat
 | .nil => some 0
 | .sl _ _ xs => some xs.length
 | .own _ _ _ xs => some xs.length
 | .view _ _ _ xs => some xs.length
 | _ => none
def cutB (n : Nat) (lo hi : Option V) : Option (Nat × Nat) :=
 let h := match hi with
  | none => some (n : Int)
  | some (.int _ i) => some i
  | _ => none
 let l := match lo with
  | none => some (0 : Int)
  | some (.int _ i) => some i
  | _ => none
 match l, h with
 | some l, some h => if 0 ≤ l ∧ l ≤ h ∧ h ≤ n then some (l.toNat, h.toNat) else none
 | _, _ => none
def cut (n : Nat) (v : V) (lo hi : Option V) : Option V :=
 match v with
 | .nil => match cutB 0 lo hi with
  | some _ => some .nil
  | none => none
 | .sl s f xs => if s = n then (match cutB xs.length lo hi with
  | some (l, h) => some (.sl s f ((xs.take h).drop l))
  | none => none) else none
 | .own b s q xs => if s = n then (match cutB xs.length lo hi with
  | some (l, h) => some (.view b s q ((xs.take h).drop l))
  | none => none) else none
 | .view b s q xs => if s = n then (match cutB xs.length lo hi with
  | some (l, h) => some (.view b s q ((xs.take h).drop l))
  | none => none) else none
 | _ => none
def addrOf (s : Nat) (v : V) (i : Int) : Option V :=
 if i < 0 then none else
 match v with
 | .sl s' _ xs => if s' = s then (xs[i.toNat]?).map fun x => .iptr x 0 else none
 | .view b s' _ xs => if s' = s then (xs[i.toNat]?).map fun x => .vptr b x 0 else none
 | .own b s' q xs => if s' = s then (if i.toNat < xs.length then some (.eptr b s q xs i.toNat 0) else none) else none
 | _ => none
def addOff (v : V) (n : Nat) : Option V :=
 match v with
 | .ptr d o => some (.ptr d (o + n))
 | .iptr x o => some (.iptr x (o + n))
 | .vptr b x o => some (.vptr b x (o + n))
 | .eptr b s q xs i o => some (.eptr b s q xs i (o + n))
 | _ => none
def addB (l : List Nat) (b : Nat) : List Nat := if l.contains b then l else l ++ [b]
mutual
def V.bases (l : List Nat) : V → List Nat
 | .own b _ _ _ => addB l b
 | .view b _ _ _ => addB l b
 | .eptr b _ _ _ _ _ => addB l b
 | .vptr b _ _ => addB l b
 | .agg cs => V.basess l cs
 | .tup cs => V.basess l cs
 | .clo _ cs => V.basess l cs
 | _ => l
def V.basess (l : List Nat) : List V → List Nat
 | [] => l
 | v :: vs => V.basess (V.bases l v) vs
end
inductive Out where
  | val (v : V)
  | box (r : V)
  | fresh (v : V) (esc : List Nat) (n : Nat)
def takeR (d : Nat) (az : List V) (r : V) : Option Out :=
 if r.anyB (fun b => decide (999 ≤ b)) then none else
 if r.old then (if V.anyPs (fun _ => true) az then none else some (.fresh (r.mapB (thawB d)) (V.basess [] az) (if r.anyB (fun _ => true) then 1 else 0)))
 else some (.fresh (r.mapB (thawB d)) [] (if r.anyB (fun _ => true) then 1 else 0))
def cellsAt (η : Nat → Option V) : V → Option (List V)
 | .ptr d o => (η d).map fun r => r.cells.drop o
 | .iptr x o => some (x.cells.drop o)
 | .vptr _ x o => some (x.cells.drop o)
 | .eptr _ _ _ xs i o => (xs[i]?).map fun x => x.cells.drop o
 | _ => none
def packV (agg : Bool) (n : Nat) (cs : List V) : Option V :=
 if cs.length < n then none else
 if agg then some (.agg (cs.take n)) else if n = 1 then cs.head? else none
def loadV (η : Nat → Option V) (i : TyInfo) (a : V) : Option V :=
 match cellsAt η a with
 | some cs => packV i.d.isAgg i.size cs
 | none => none
def over (cs : List V) (off : Nat) (new : List V) : Option (List V) :=
 if off + new.length ≤ cs.length then some (cs.take off ++ new ++ cs.drop (off + new.length)) else none
def fillV (place : Nat → Option (Nat × Nat)) : List V → List (Nat × V) → Option (List V)
 | cs, [] => some cs
 | cs, (i, v) :: r => match place i with
  | some (off, size) => if v.cells.length = size ∧ v.isDef = true then (match over cs off v.cells with
    | some cs' => fillV place cs' r
    | none => none) else none
  | none => none
def Cfg.place (c : Cfg) : Ty → Nat → Option (Nat × Nat)
 | .struct fs, i => match fs[i]? with
  | some (o, t) => (c.ty t).map fun j => (o, j.size)
  | none => none
 | .array _ e, i => (c.ty e).map fun j => (i * j.size, j.size)
 | _, _ => none
def Cfg.lays (c : Cfg) : Ty → Bool
 | .struct _ => true
 | .array _ e => (c.ty e).isSome
 | _ => false
def rowsOf : List V → List (Nat × V) → Option (List V)
 | acc, [] => some acc
 | acc, (i, v) :: r => if i < acc.length then rowsOf (acc.set i v) r else none
def sized (s : Nat) : List V → Bool
 | [] => true
 | v :: vs => v.cells.length == s && v.isDef && sized s vs
def srcOf (s : Nat) : V → Option (Q × List V)
 | .nil => some (.flat, [])
 | .sl s' f ys => if s' = s then some (if f then .flat else .any, ys) else none
 | .own _ s' q ys => if s' = s then some (q, ys) else none
 | .view _ s' q ys => if s' = s then some (q, ys) else none
 | _ => none
def plain (v : V) : Option Out := some (.val v)
def convV (c : Cfg) (src dst : Nat) (x : V) : Option V :=
 match c.ty src, c.ty dst with
 | some i, some j => match i.d, j.d, x with
  | .int _, .int k, .int _ n => some (.int k (k.wrap n))
  | .str, .str, .str s => some (.str s)
  | _, _, _ => none
 | _, _ => none
def bytesOf : List V → Option (List UInt8)
 | [] => some []
 | .int .u8 n :: vs => (bytesOf vs).map (UInt8.ofNat n.toNat :: ·)
 | _ :: _ => none
def bytesV (s : List UInt8) : List V := s.map fun b => .int .u8 b.toNat
def isU8 (c : Cfg) (e : Nat) : Bool :=
 match c.ty e with
 | some j => match j.d with
  | .int .u8 => true
  | _ => false
 | none => false
def convRows (c : Cfg) (src dst : Nat) (x : V) : Option (List V) :=
 match c.ty src, c.ty dst with
 | some i, some j => match i.d, j.d with
  | .slice e, .str => if isU8 c e then (match srcOf 1 x with
   | some (_, xs) => some xs
   | none => none) else none
  | _, _ => none
 | _, _ => none
def convB (c : Cfg) (src dst : Nat) (x : V) : Option V :=
 match convRows c src dst x with
 | some xs => (bytesOf xs).map .str
 | none => none
def bytesFor (c : Cfg) (src dst : Nat) (x : V) : Option V :=
 match c.ty src, c.ty dst with
 | some i, some j => match i.d, j.d, x with
  | .str, .slice e, .str b => if isU8 c e then some (.sl 1 true (bytesV b)) else none
  | _, _, _ => none
 | _, _ => none
def valOp (c : Cfg) (den : Nat → List V → Option V) (ρ : Operand → V) (η : Nat → Option V) (d : Nat) (op : Op) : Option Out :=
 match op with
 | .move x => plain (ρ x)
 | .assign x => plain (ρ x)
 | .pick x a b => match ρ x with
  | .bool true => plain (ρ a)
  | .bool false => plain (ρ b)
  | _ => none
 | .alloc e => match c.ty e with
  | some i => some (.box i.zero)
  | none => none
 | .box e x => match c.ty e with
  | some i => if (ρ x).cells.length = i.size ∧ (ρ x).isDef = true then some (.box (ρ x)) else none
  | none => none
 | .build t ps => match c.ty t with
  | some i => if c.lays i.d = true then (match fillV (c.place i.d) i.zero.cells (ps.toList.map fun p => (p.1, ρ p.2)) with
   | some cs => plain (.agg cs)
   | none => none) else none
  | none => none
 | .buildSlice t n ps => match c.ty t with
  | some ⟨.slice e, _, _, _, _, _, _⟩ => match c.ty e with
   | some i =>
    let vs := ps.toList.map fun p => (p.1, ρ p.2)
    let rs := vs.map (·.2)
    if n ≤ 1000 && n * i.size ≤ 16777216 && i.size ≠ 0 && sized i.size rs && sized i.size [i.zero] then
     match rowsOf (List.replicate n i.zero) vs with
     | some xs => match flatRows (nilRows i.nz xs) with
      | some ys => some (.fresh (.own (base d 0) i.size ((rowsQ (nilRows i.nz xs)).join i.qz) ys) (rowsB (nilRows i.nz xs)) 1)
      | none => none
     | none => none
    else none
   | none => none
  | _ => none
 | .load t a => match c.ty t with
  | some i => match loadV η i (ρ a) with
   | some v => plain v
   | none => none
  | none => none
 | .nilCheck x => match ρ x with
  | .ptr d' o => plain (.ptr d' o)
  | .iptr x o => plain (.iptr x o)
  | .vptr b x o => plain (.vptr b x o)
  | .eptr b s q xs i o => plain (.eptr b s q xs i o)
  | _ => none
 | .binOp op t x y _ => match c.ty t with
  | some i => match binV i op (ρ x) (ρ y) with
   | some v => plain v
   | none => none
  | none => none
 | .unOp .not _ x => match ρ x with
  | .bool b => plain (.bool !b)
  | _ => none
 | .unOp .neg _ x => match ρ x with
  | .int k n => plain (.int k (k.wrap (0 - n)))
  | _ => none
 | .convert s t x => match convV c s t (ρ x) with
  | some v => plain v
  | none => match convB c s t (ρ x) with
   | some v => plain v
   | none => (bytesFor c s t (ρ x)).map fun v => .fresh v [] 0
 | .makeFunc (.func f) first cap => if first.size = 0 then plain (.clo f (cap.toList.map ρ)) else none
 | .makeSlice t l k => match c.ty t with
  | some ⟨.slice e, _, _, _, _, _, _⟩ => match c.ty e, ρ l, ρ k with
   | some i, .int _ n, .int _ m =>
    if 0 ≤ n ∧ n ≤ m ∧ m * i.bytes ≤ 140737488355328 ∧ m ≤ 140737488355328 ∧ i.size ≠ 0 ∧ sized i.size [i.zero] = true ∧ rowQ i.zero = .flat then
     match flatRow (nilRow i.nz i.zero) with
     | some z => some (.fresh (.own (base d 0) i.size ((rowQ (nilRow i.nz i.zero)).join i.qz) (List.replicate n.toNat z)) [] 1)
     | none => none
    else none
   | _, _, _ => none
  | _ => none
 | .slice t x lo hi none => match c.ty t with
  | some i => match i.d with
   | .str => match ρ x with
    | .str s => match cutB s.length (lo.map ρ) (hi.map ρ) with
     | some (l, h) => plain (.str ((s.take h).drop l))
     | none => none
    | _ => none
   | .slice e => match c.ty e with
    | some j => match cut j.size (ρ x) (lo.map ρ) (hi.map ρ) with
     | some v => plain v
     | none => none
    | none => none
   | _ => none
  | none => none
 | .fieldAddr t x f => match c.ty t with
  | some ⟨.struct fs, _, _, _, _, _, _⟩ => match fs[f]? with
   | some (o, ft) => match c.ty ft with
    | some j => if j.size = 0 then none else match addOff (ρ x) o with
     | some v => plain v
     | none => none
    | none => none
   | none => none
  | _ => none
 | .field t x f => match c.ty t with
  | some ⟨.struct fs, _, _, _, _, _, _⟩ => match fs[f]?, ρ x with
   | some (o, ft), .agg cs => match c.ty ft with
    | some j => match packV j.d.isAgg j.size (cs.drop o) with
     | some v => plain v
     | none => none
    | none => none
   | _, _ => none
  | _ => none
 | .indexAddr t x y => match c.ty t, ρ y with
  | some i, .int _ n => match i.d with
   | .slice e => match c.ty e with
    | some j => match addrOf j.size (ρ x) n with
     | some v => plain v
     | none => none
    | none => none
   | .array m e => match c.ty e with
    | some j => if 0 ≤ n ∧ n < m then (match addOff (ρ x) (n.toNat * j.size) with
      | some v => plain v
      | none => none) else none
    | none => none
   | _ => none
  | _, _ => none
 | .index t x y => match c.ty t, ρ y with
  | some i, .int _ n => match i.d, ρ x with
   | .str, .str s => if n < 0 then none else match s[n.toNat]? with
    | some b => plain (.int .u8 b.toNat)
    | none => none
   | .array m e, .agg cs => match c.ty e with
    | some j => if 0 ≤ n ∧ n < m then (match packV j.d.isAgg j.size (cs.drop (n.toNat * j.size)) with
      | some v => plain v
      | none => none) else none
    | none => none
   | _, _ => none
  | _, _ => none
 | .extract x i => match ρ x with
  | .tup vs => match vs[i]? with
   | some v => plain v
   | none => none
  | _ => none
 | .call ⟨.builtin .len, args, ts⟩ => match args.toList, ts.toList with
  | [x], [t] => match c.ty t with
   | some i => match i.d with
    | .str => match ρ x with
     | .str s => plain (.int .i64 s.length)
     | _ => none
    | .slice _ => match lenV (ρ x) with
     | some n => plain (.int .i64 n)
     | none => none
    | _ => none
   | none => none
  | _, _ => none
 | .call ⟨.builtin .min, args, _⟩ => match args.toList with
  | [x, y] => match ρ x, ρ y with
   | .int k a, .int k' b => if k = k' then plain (.int k (if b < a then b else a)) else none
   | _, _ => none
  | _ => none
 | .call ⟨.builtin .max, args, _⟩ => match args.toList with
  | [x, y] => match ρ x, ρ y with
   | .int k a, .int k' b => if k = k' then plain (.int k (if a < b then b else a)) else none
   | _, _ => none
  | _ => none
 | .call ⟨.builtin .append, args, ts⟩ => match args.toList, ts.toList with
  | [x, y], [t, t'] => match c.ty t with
   | some ⟨.slice e, _, _, _, _, _, _⟩ => match c.ty e, ρ x with
    | some i, .nil => match srcOf i.size (ρ y) with
     | some (q, ys) => if t' = t ∧ i.size ≠ 0 ∧ ys.length * i.bytes ≤ 140737488355328 ∧ ys.length ≤ 140737488355328 then some (.fresh (.own (base d 0) i.size (q.join i.qz) ys) (srcB q (ρ y)) 1) else none
     | none => none
    | _, _ => none
   | _ => none
  | _, _ => none
 | .call ⟨.value f, args, _⟩ => match ρ f with
  | .clo g cap => match strips η (args.toList.map ρ ++ cap) with
   | some vs => match den g (nilArgs (c.pz g) vs) with
    | some r => takeR d (args.toList.map ρ ++ cap) r
    | none => none
   | none => none
  | _ => none
 | _ => none
def reshape (r : V) (cs : List V) : V :=
 match r with
 | .agg _ => .agg cs
 | _ => cs.headD .undef
def storeRow (xs : List V) (i o : Nat) (new : List V) : Option (List V) :=
 match xs[i]? with
 | some x => match over x.cells o new with
  | some cs => some (xs.set i (reshape x cs))
  | none => none
 | none => none
def effOp (c : Cfg) (st : St) (d : Option Nat) (op : Op) : Option St :=
 match op with
 | .store t a x => match c.ty t with
  | some i => match ev st.t x with
   | v => if v.cells.length = i.size ∧ allCell v.cells = true ∧ d = none then (match ev st.t a with
    | .ptr b o => (match st.h.getD b none with
     | some r => (match over r.cells o v.cells with
      | some cs => some { st with h := st.h.set b (some (reshape r cs)) }
      | none => none)
     | none => none)
    | .eptr b _ q xs k o => if st.dead b = false ∧ (cellsB (nilRow i.nz v).cells).contains b = false then
      (match flats (nilRow i.nz v).cells with
      | some new => (match storeRow xs k o new with
       | some ys => some (((st.sweep (renew b (q.join (cellsQ (nilRow i.nz v).cells)) ys)).kill (cellsB (nilRow i.nz v).cells)).mark (!moveOk st.dead (cellsB (nilRow i.nz v).cells)))
       | none => none)
      | none => none) else none
    | _ => none) else none
  | none => none
 | .call ⟨.builtin .append, args, ts⟩ => match args.toList, ts.toList, d with
  | [x, y], [t, t'], some d => match c.ty t with
   | some ⟨.slice e, _, _, _, _, _, _⟩ => match c.ty e, ev st.t x with
    | some i, .own b s q xs => match srcOf s (ev st.t y) with
     | some (q', ys) =>
      if t' = t ∧ s = i.size ∧ i.size ≠ 0 ∧ st.dead b = false ∧ (xs.length + ys.length) * i.bytes ≤ 140737488355328 ∧ xs.length + ys.length ≤ 140737488355328 ∧ b ≠ 999 then
       some ((({ st.sweep (poison b) with t := (st.sweep (poison b)).t.set d (.own b s (q.join q') (xs ++ ys)) } : St).kill (srcB q' (ev st.t y))).mark (!moveOk st.dead (srcB q' (ev st.t y)) || (srcB q' (ev st.t y)).contains b))
      else none
     | none => none
    | _, _ => none
   | _ => none
  | _, _, _ => none
 | _ => none
def isEff (st : St) : Op → Bool
 | .store _ _ _ => true
 | .call ⟨.builtin .append, args, _⟩ => match args.toList with
  | x :: _ => match ev st.t x with
   | .nil => false
   | _ => true
  | _ => true
 | _ => false
def step (c : Cfg) (den : Nat → List V → Option V) (st : St) (o : Oper) : Option St :=
 if isEff st o.op then effOp c st o.dst o.op else
 match o.dst with
 | none => none
 | some d => match valOp c den (ev st.t) (fun b => st.h.getD b none) d o.op with
  | none => none
  | some (.val v) => some { st with t := st.t.set d v }
  | some (.box r) => if d < st.h.length ∧ (st.h.getD d none).isNone = true ∧ st.freeP d = true ∧ r.anyP (fun b => b == d) = false then
    some { st with t := st.t.set d (.ptr d 0), h := st.h.set d (some r) } else none
  | some (.fresh v esc n) => if d < 1000 ∧ n ≤ 1000 ∧ (n = 0 ∨ st.freeD d = true) then
    some ((({ st with t := st.t.set d v } : St).kill esc).mark (!moveOk st.dead esc)) else none
def wanted (ops : Array Oper) (t : List V) (o : Oper) : Option Bool :=
 match o.guard with
 | none => some true
 | some (j, want) => match (ops[j]?).bind (·.dst) with
  | some d => match t.getD d .undef with
   | .bool b => some (b == want)
   | .tup [] => some false
   | _ => none
  | none => some false
def skipped : V := .tup []
def runOps (c : Cfg) (den : Nat → List V → Option V) (ops : Array Oper) : List Oper → St → Option St
 | [], st => some st
 | o :: os, st => match wanted ops st.t o with
  | none => none
  | some true => (match step c den st o with
   | some st' => runOps c den ops os st'
   | none => none)
  | some false => match o.dst with
   | some d => runOps c den ops os { st with t := st.t.set d skipped }
   | none => runOps c den ops os st
def wrOf (c : Cfg) (op : Op) : Option (Wr × Operand) :=
 match op with
 | .call ⟨.value (.func f), args, _⟩ => match c.wr f, args.toList with
  | some g, [x] => some (g, x)
  | _, _ => none
 | _ => none
def wrStep (st : St) (d : Option Nat) (g : Wr) (x : Operand) : Option St :=
  match ev st.t x, d with
  | .own b s q xs, some d => if st.dead b = false ∧ b ≠ 999 ∧ q = .flat ∧ s = g.s then
      (match g.g xs with
      | some (ys, n) => some { st.sweep (renew b .flat ys) with t := (st.sweep (renew b .flat ys)).t.set d (match g.v with
        | true => .view b s .flat (ys.take n)
        | false => .tup []) }
      | none => none) else none
  | _, _ => none
def stepW (c : Cfg) (den : Nat → List V → Option V) (st : St) (o : Oper) : Option St :=
 match wrOf c o.op with
 | some (g, x) => wrStep st o.dst g x
 | none => step c den st o
def runOpsW (c : Cfg) (den : Nat → List V → Option V) (ops : Array Oper) : List Oper → St → Option St
 | [], st => some st
 | o :: os, st => match wanted ops st.t o with
  | none => none
  | some true => (match stepW c den st o with
   | some st' => runOpsW c den ops os st'
   | none => none)
  | some false => match o.dst with
   | some d => runOpsW c den ops os { st with t := st.t.set d skipped }
   | none => runOpsW c den ops os st
def reads (ops : Array Oper) (o : Oper) : List Nat :=
 (o.op.operands.toList.filterMap fun | .tmp t => some t | _ => none) ++
 (match o.guard with
  | some (j, _) => ((ops[j]?).bind (·.dst)).toList
  | none => [])
def mayEff : Op → Bool
 | .store _ _ _ => true
 | .call ⟨.builtin .append, _, _⟩ => true
 | _ => false
def mkBox : Op → Bool
 | .alloc _ => true
 | .box _ _ => true
 | _ => false
def clash (ops : Array Oper) (free : Bool) (a b : Oper) : Bool :=
 (match a.dst with
  | some d => (reads ops b).contains d || b.dst == some d
  | none => false) ||
 (match b.dst with
  | some d => (reads ops a).contains d
  | none => false) ||
 ((mayEff a.op || mayEff b.op) && !free)
def prec (ops : Array Oper) : Nat → Nat → Nat → Bool
 | 0, _, _ => false
 | k + 1, j, i => match ops[j]? with
  | some o => o.after.toList.any fun e => Region.binds .any e && (e.on == i || prec ops k e.on i)
  | none => false
def addrSlot (o : Oper) : Option Nat :=
 match o.op, o.dst with
 | .fieldAddr _ (.tmp x) _, some _ => some x
 | _, _ => none
def appSrc (o : Oper) : Option Nat :=
 match o.op with
 | .call ⟨.builtin .append, args, _⟩ => match args.toList with
  | .tmp x :: _ => some x
  | _ => none
 | _ => none
def quiet : Op → Bool
 | .move _ => true
 | .load _ _ => true
 | .binOp _ _ _ _ _ => true
 | .indexAddr _ _ _ => true
 | .slice _ _ _ _ none => true
 | .buildSlice _ _ _ => true
 | .fieldAddr _ _ _ => true
 | _ => false
def isStore : Op → Bool
 | .store _ _ _ => true
 | _ => false
def writer (ops : Array Oper) (x : Nat) : Option Nat := (List.range ops.size).find? fun i => match ops[i]? with
 | some o => o.dst == some x
 | none => false
def origin (ops : Array Oper) : Nat → Nat → Option Nat
 | 0, _ => none
 | k + 1, j => match ops[j]? with
  | some o => match o.op with
   | .buildSlice _ _ _ => o.dst
   | _ => match appSrc o with
    | some x => match writer ops x with
     | some i => if o.after.toList.any (fun e => Region.binds .any e && e.on == i) then origin ops k i else none
     | none => none
    | none => none
  | none => none
def lastly (ops : Array Oper) : Bool := match ops[ops.size - 1]? with
 | some o => (List.range (ops.size - 1)).all fun i => o.after.toList.any fun e => Region.binds .any e && e.on == i
 | none => false
def coreL (ops : Array Oper) : List Oper := if lastly ops then ops.toList.dropLast else ops.toList
def taint (ops : Array Oper) (e : Nat) : List Nat :=
 (coreL ops).foldl (fun T o => if (reads ops o).any T.contains then (match o.dst with
  | some d => d :: T
  | none => T) else T) [e]
def closedT (ops : Array Oper) (e : Nat) (T : List Nat) : Bool :=
 T.contains e && e != 0 && (coreL ops).all fun o => !isStore o.op && (match o.dst with
  | some d => if T.contains d then !mkBox o.op else !(reads ops o).any T.contains
  | none => !(reads ops o).any T.contains)
def aside (ops : Array Oper) (i : Nat) (a b : Oper) : Bool :=
 quiet b.op && (appSrc a).isSome && match origin ops ops.size i with
 | some e => closedT ops e (taint ops e) && !(reads ops b).any (taint ops e).contains && (match b.dst with
  | some d => !(taint ops e).contains d
  | none => true)
 | none => false
def regionOk (ops : Array Oper) (B : List Nat) : Bool :=
 let l := ops.toList
 let ds := l.filterMap (·.dst)
 ds.all (fun d => decide (d < 1000)) && (decide ds.Nodup) &&
 B.all (fun i => match (ops[i]?).bind addrSlot with
  | some x => !ds.contains x
  | none => false) &&
 (List.range l.length).all fun j => match ops[j]? with
  | some b => b.after.toList.all (fun e => decide (e.on < j) || !Region.binds .any e) && (List.range j).all fun i => match ops[i]? with
   | some a => !clash ops ((B.contains i || B.contains j) || (aside ops i a b || aside ops j b a)) a b || prec ops l.length j i
   | none => true
  | none => true
def entryOk (ops : Array Oper) (B : List Nat) (st : St) : Bool :=
 B.all (fun i => match (ops[i]?).bind addrSlot with
  | some x => (match st.t.getD x .undef with
   | .ptr _ _ => true
   | _ => false)
  | none => false) &&
 ops.toList.all fun o => match o.dst with
  | some d => !mkBox o.op || (!V.anyPs (fun d' => d' == d) st.t && !anyPo (fun d' => d' == d) st.h)
  | none => true
inductive Ex where
  | normal
  | exit (id : Nat)
  | ret
def baseso (l : List Nat) : List (Option V) → List Nat
 | [] => l
 | some v :: r => baseso (v.bases l) r
 | none :: r => baseso l r
def rename (l : List Nat) : V → Option V
 | .own b s q xs => some (.own (canonBase (l.idxOf b)) s q xs)
 | .view b s q xs => some (.view (canonBase (l.idxOf b)) s q xs)
 | .eptr b s q xs i o => some (.eptr (canonBase (l.idxOf b)) s q xs i o)
 | .vptr b x o => some (.vptr (canonBase (l.idxOf b)) x o)
 | _ => none
def settle (dead : Nat → Bool) : V → Option V
 | .own b s q xs => if dead b then some (.sl s q.isFlat xs) else none
 | .view b s q xs => if dead b then some (.sl s q.isFlat xs) else none
 | .eptr b _ _ xs i o => if dead b then some (match xs[i]? with
  | some x => .iptr x o
  | none => .undef) else none
 | .vptr b x o => if dead b then some (.iptr x o) else none
 | _ => none
def forget (ds : List Nat) (k : Nat) : List V → List V
 | [] => []
 | v :: vs => (if ds.contains k then .undef else v) :: forget ds (k + 1) vs
def dropBox (ds : List Nat) : V → Option V
 | .ptr d _ => if ds.contains d then some .undef else none
 | _ => none
def dropH (ds : List Nat) (k : Nat) : List (Option V) → List (Option V)
 | [] => []
 | x :: r => (if ds.contains k then none else x) :: dropH ds (k + 1) r
def firstId : Code → Nat
 | .region i _ _ => i
 | .seq a _ => firstId a
 | .cond _ a _ => firstId a
 | .block _ b => firstId b
 | .loop b => firstId b
 | _ => 0
def St.canon (st : St) : St :=
 let l := baseso (V.basess [] st.t) st.h
 { st.sweep (rename l) with dead := fun _ => false }
def ownIn (i s : Nat) (q : Q) (j : Nat) : V → V
 | .agg cs => match cs[j]? with
  | some .nil => .agg (cs.set j (.own i s q []))
  | _ => .agg cs
 | .nil => .own i s q []
 | v => v
def St.own1 (st : St) (i n : Nat) : St :=
 match n / 2000000000 % 1000 with
 | 0 => { st with t := st.t.set (n / 2000000 % 1000) (ownIn i (n / 2 % 1000) (if n % 2 = 1 then .clean else .flat) (n / 2000 % 1000) (st.t.getD (n / 2000000 % 1000) .undef)) }
 | _ => match st.h.getD (n / 2000000 % 1000) none with
  | some r => { st with h := st.h.set (n / 2000000 % 1000) (some (ownIn i (n / 2 % 1000) (if n % 2 = 1 then .clean else .flat) (n / 2000 % 1000) r)) }
  | none => st
def St.owns : List Nat → Nat → St → St
 | [], _, st => st
 | n :: ns, i, st => St.owns ns (i + 1) (if i < 999 then st.own1 i n else st)
def nilCodes (l : List Nat) : List Nat := l.filterMap fun x => if x < 1000000000000 then none else some (x - 1000000000000)
def coarse (dup : Bool) : V → Option V
 | .own b s .clean xs => if dup then some (.own b s .any xs) else none
 | .view b s .clean xs => if dup then some (.view b s .any xs) else none
 | .eptr _ _ _ _ _ _ => if dup then some .undef else none
 | _ => none
def St.calm (st : St) : St :=
 match st.dup with
 | true => { st.sweep (coarse true) with dup := false }
 | false => st
def St.head0 (st : St) (fs : List Nat × List Nat) : St :=
 let s1 : St := { st with t := forget fs.1 0 st.t }
 let s2 := (s1.sweep (dropBox fs.2))
 let s3 : St := { s2 with h := dropH fs.2 0 s2.h }
 let s4 := (s3.sweep (settle s3.dead)).canon
 match nilCodes fs.2 with
 | [] => s4
 | ns => (St.owns ns 0 s4).canon
def St.head (st : St) (fs : List Nat × List Nat) : St := st.calm.head0 fs
def iter (body : St → Option (Ex × St)) (hd : St → St) : Nat → St → Option (Ex × St)
 | 0, _ => none
 | k + 1, st => match body (hd st) with
  | some (.normal, s) => iter body hd k s
  | r => r
abbrev Told := Nat → List Nat × List Nat × List Nat
abbrev Loops := (St → Option (Ex × St)) → (St → St) → St → Option (Ex × St)
def exec (c : Cfg) (den : Nat → List V → Option V) (L : Loops) (g : Told) : Code → St → Option (Ex × St)
 | .skip, st => some (.normal, st)
 | .region i ops draw, st =>
  if draw then
   if entryOk ops (g i).2.2 (st.head ([], [])) then (runOps c den ops ops.toList (st.head ([], []))).map fun s => (.normal, s) else none
  else (runOpsW c den ops ops.toList st).map fun s => (.normal, s)
 | .seq a b, st => match exec c den L g a st with
  | some (.normal, s) => exec c den L g b s
  | r => r
 | .cond x a b, st => match ev st.t x with
  | .bool true => exec c den L g a st
  | .bool false => exec c den L g b st
  | _ => none
 | .block i b, st => match exec c den L g b st with
  | some (.exit j, s) => if j = i then some (.normal, s) else some (.exit j, s)
  | r => r
 | .loop b, st => (L (exec c den L g b) (fun s => s.head ((g (firstId b)).1, (g (firstId b)).2.1)) st).map fun r => (r.1, r.2.head ((g (1000 + firstId b)).1, (g (1000 + firstId b)).2.1))
 | .exit i, st => some (.exit i, st)
 | .ret, st => some (.ret, st)
 | _, _ => none
def resOf (c : Cfg) (st : St) : ResultVar → Option V
 | .tmp t => some (st.t.getD t .undef)
 | .cell a t => match c.ty t with
  | some i => loadV (fun b => st.h.getD b none) i (st.t.getD a .undef)
  | none => none
def ressOf (c : Cfg) (st : St) : List ResultVar → Option (List V)
 | [] => some []
 | r :: rs => match resOf c st r, ressOf c st rs with
  | some v, some vs => some (v :: vs)
  | _, _ => none
def finish (c : Cfg) (zs : List V) (st : St) (rs : List ResultVar) : Option V :=
 match ressOf c st rs with
 | some vs =>
  let v1 := V.mapBs (settle st.dead) (V.mapBs (coarse st.dup) vs)
  let cs := cellsOf v1
  if okRes cs then (match resRows 0 zs (V.mapBs (numB (cs.map cellB)) v1) with
   | [w] => some w
   | ws => some (.tup ws)) else none
 | none => none
def drawsOk (g : Told) : Code → Bool
 | .region i ops draw => !draw || regionOk ops (g i).2.2
 | .seq a b => drawsOk g a && drawsOk g b
 | .cond _ a b => drawsOk g a && drawsOk g b
 | .block _ b => drawsOk g b
 | .loop b => drawsOk g b
 | _ => true
def fnRun (c : Cfg) (den : Nat → List V → Option V) (L : Loops) (f : Nat) (fn : Func) (args : List V) : Option V :=
 match fn.body with
 | none => none
 | some code => if drawsOk (c.fg f) code = false then none else match exec c den L (c.fg f) code ⟨args ++ List.replicate (fn.ntmps - args.length) .undef, List.replicate fn.ntmps none, fun _ => false, false⟩ with
  | some (.ret, s) => finish c (c.rz f) s fn.results.toList
  | some (.normal, s) => finish c (c.rz f) s fn.results.toList
  | _ => none
def denN (P : Program) (c : Cfg) (ext : Nat → List V → Option V) : Nat → Nat → List V → Option V
 | 0, _, _ => none
 | k + 1, f, args => match ext f args with
  | some r => some r
  | none => match P.funcs[f]? with
   | some fn => if fn.name == "runtime.NumGoroutine" then none else fnRun c (denN P c ext k) (fun b hd st => iter b hd k st) f fn args
   | none => none
end Go.Am
end
section
set_option linter.unusedVariables false
set_option linter.unusedSimpArgs false
namespace Go.Am
open Go
variable {P : Program} {c : Cfg} {ext : Nat → List V → Option V}
theorem iter_mono (body : St → Option (Ex × St)) (hd : St → St) : ∀ (k : Nat) (st : St) (r : Ex × St), iter body hd k st = some r → iter body hd (k + 1) st = some r := by
 intro k
 induction k with
 | zero => intro st r h; simp [iter] at h
 | succ k ih =>
  intro st r h
  rw [iter] at h ⊢
  cases hb : body (hd st) with
  | none => rw [hb] at h; simp at h
  | some x =>
   obtain ⟨e, s⟩ := x
   rw [hb] at h
   cases e with
   | normal => exact ih _ _ h
   | exit i => exact h
   | ret => exact h
theorem iter_le {body : St → Option (Ex × St)} {hd : St → St} {k m : Nat} {st : St} {r : Ex × St} (hkm : k ≤ m) (h : iter body hd k st = some r) : iter body hd m st = some r := by
  induction m with
  | zero => obtain rfl : k = 0 := by omega
            exact h
  | succ m ih =>
    by_cases e : k = m + 1
    · subst e; exact h
    · exact iter_mono _ _ _ _ _ (ih (by omega))
open Classical in
noncomputable def loopInf : Loops := fun body hd st => if h : ∃ (r : Ex × St) (k : Nat), iter body hd k st = some r then some h.choose else none
theorem loopInf_of {body : St → Option (Ex × St)} {hd : St → St} {st : St} {r : Ex × St} {k : Nat} (h : iter body hd k st = some r) : loopInf body hd st = some r := by
 have hex : ∃ (r : Ex × St) (k : Nat), iter body hd k st = some r := ⟨r, k, h⟩
 unfold loopInf
 rw [dif_pos hex]
 obtain ⟨m, hm⟩ := hex.choose_spec
 have h1 := iter_le (Nat.le_max_left k m) h
 have h2 := iter_le (Nat.le_max_right k m) hm
 rw [h1] at h2
 injection h2 with h2
 rw [← h2]
theorem loopInf_some {body : St → Option (Ex × St)} {hd : St → St} {st : St} {r : Ex × St} (h : loopInf body hd st = some r) : ∃ k, iter body hd k st = some r := by
 unfold loopInf at h
 by_cases hex : ∃ (r : Ex × St) (k : Nat), iter body hd k st = some r
 ·rw [dif_pos hex] at h
  obtain ⟨m, hm⟩ := hex.choose_spec
  injection h with h
  rw [h] at hm
  exact ⟨m, hm⟩
 ·rw [dif_neg hex] at h; cases h
theorem loopInf_step (body : St → Option (Ex × St)) (hd : St → St) (st : St) : loopInf body hd st = match body (hd st) with
  | some (.normal, s) => loopInf body hd s
  | r => r := by
 cases hb : body (hd st) with
 | none =>
  simp only
  cases hl : loopInf body hd st with
  | none => rfl
  | some r =>
   obtain ⟨k, hk⟩ := loopInf_some hl
   cases k with
   | zero => simp [iter] at hk
   | succ k => rw [iter, hb] at hk; cases hk
 | some x =>
  obtain ⟨e, s⟩ := x
  cases e with
  | normal =>
   simp only
   cases hl : loopInf body hd s with
   | some r =>
    obtain ⟨k, hk⟩ := loopInf_some hl
    exact loopInf_of (k := k + 1) (by rw [iter, hb]; exact hk)
   | none =>
    cases hl' : loopInf body hd st with
    | none => rfl
    | some r =>
     obtain ⟨k, hk⟩ := loopInf_some hl'
     cases k with
     | zero => simp [iter] at hk
     | succ k =>
      rw [iter, hb] at hk
      rw [loopInf_of hk] at hl
      cases hl
  | exit i => exact loopInf_of (k := 1) (by rw [iter, hb])
  | ret => exact loopInf_of (k := 1) (by rw [iter, hb])
def Le (a b : Nat → List V → Option V) : Prop := ∀ f args r, a f args = some r → b f args = some r
def LeL (A B : Loops) : Prop := ∀ (f g : St → Option (Ex × St)) (hd : St → St) (st : St) (r : Ex × St), (∀ s r, f s = some r → g s = some r) → A f hd st = some r → B g hd st = some r
theorem valOp_le {a b : Nat → List V → Option V} (h : Le a b) {ρ : Operand → V} {η : Nat → Option V} {d : Nat} {op : Op} {r : Out} (hr : valOp c a ρ η d op = some r) : valOp c b ρ η d op = some r := by
 cases op with
 | call cl =>
  obtain ⟨callee, args, ts⟩ := cl
  cases callee with
  | value f =>
   simp only [valOp] at hr ⊢
   cases hf : ρ f with
   | clo g cap =>
    rw [hf] at hr
    simp only at hr ⊢
    cases hs : strips η (args.toList.map ρ ++ cap) with
    | none => rw [hs] at hr; cases hr
    | some vs =>
     rw [hs] at hr
     simp only at hr ⊢
     cases hd : a g (nilArgs (c.pz g) vs) with
     | none => rw [hd] at hr; cases hr
     | some x => rw [hd] at hr; rw [h _ _ _ hd]; exact hr
   | _ => rw [hf] at hr; cases hr
  | invoke f m => exact hr
  | builtin bi => cases bi <;> exact hr
 | unOp u _ _ => cases u <;> exact hr
 | makeFunc fn _ _ => cases fn <;> exact hr
 | slice _ _ _ _ mx => cases mx <;> exact hr
 | _ => exact hr
theorem step_le {a b : Nat → List V → Option V} (h : Le a b) {st : St} {o : Oper} {r : St} (hr : step c a st o = some r) : step c b st o = some r := by
 unfold step at hr ⊢
 split
 ·rename_i he; rw [if_pos he] at hr; exact hr
 ·rename_i he
  rw [if_neg he] at hr
  cases hd : o.dst with
  | none => rw [hd] at hr; cases hr
  | some d =>
   rw [hd] at hr
   simp only at hr ⊢
   cases hv : valOp c a (ev st.t) (fun b => st.h.getD b none) d o.op with
   | none => rw [hv] at hr; cases hr
   | some x => rw [valOp_le h hv]; rw [hv] at hr; exact hr
theorem runOps_le {a b : Nat → List V → Option V} (h : Le a b) {ops : Array Oper} : ∀ (l : List Oper) (st r : St), runOps c a ops l st = some r → runOps c b ops l st = some r := by
 intro l
 induction l with
 | nil => intro st r hr; exact hr
 | cons o l ih =>
  intro st r hr
  rw [runOps] at hr ⊢
  cases hw : wanted ops st.t o with
  | none => rw [hw] at hr; cases hr
  | some t =>
   rw [hw] at hr
   cases t with
   | true =>
    simp only at hr ⊢
    cases hs : step c a st o with
    | none => rw [hs] at hr; cases hr
    | some s => rw [hs] at hr; rw [step_le h hs]; exact ih _ _ hr
   | false =>
    simp only at hr ⊢
    cases hd : o.dst with
    | none => rw [hd] at hr; exact ih _ _ hr
    | some d => rw [hd] at hr; exact ih _ _ hr
theorem stepW_le {a b : Nat → List V → Option V} (h : Le a b) {st : St} {o : Oper} {r : St} (hr : stepW c a st o = some r) : stepW c b st o = some r := by
 unfold stepW at hr ⊢
 cases hw : wrOf c o.op with
 | none => rw [hw] at hr; exact step_le h hr
 | some z => rw [hw] at hr; exact hr
theorem runOpsW_le {a b : Nat → List V → Option V} (h : Le a b) {ops : Array Oper} : ∀ (l : List Oper) (st r : St), runOpsW c a ops l st = some r → runOpsW c b ops l st = some r := by
 intro l
 induction l with
 | nil => intro st r hr; exact hr
 | cons o l ih =>
  intro st r hr
  rw [runOpsW] at hr ⊢
  cases hw : wanted ops st.t o with
  | none => rw [hw] at hr; cases hr
  | some t =>
   rw [hw] at hr
   cases t with
   | true =>
    simp only at hr ⊢
    cases hs : stepW c a st o with
    | none => rw [hs] at hr; cases hr
    | some s => rw [hs] at hr; rw [stepW_le h hs]; exact ih _ _ hr
   | false =>
    simp only at hr ⊢
    cases hd : o.dst with
    | none => rw [hd] at hr; exact ih _ _ hr
    | some d => rw [hd] at hr; exact ih _ _ hr
theorem exec_le {a b : Nat → List V → Option V} (h : Le a b) {A B : Loops} (hL : LeL A B) {n : Told} : ∀ (code : Code) (st : St) (r : Ex × St), exec c a A n code st = some r → exec c b B n code st = some r := by
 intro code
 induction code with
 | skip => intro st r hr; exact hr
 | region id ops draw =>
  intro st r hr
  rw [exec] at hr ⊢
  have key : ∀ st r, (runOps c a ops ops.toList st).map (fun s => (Ex.normal, s)) = some r → (runOps c b ops ops.toList st).map (fun s => (Ex.normal, s)) = some r := by
   intro st r hr
   cases hq : runOps c a ops ops.toList st with
   | none => rw [hq] at hr; cases hr
   | some s => rw [runOps_le h _ _ _ hq]; rw [hq] at hr; exact hr
  have keyW : ∀ st r, (runOpsW c a ops ops.toList st).map (fun s => (Ex.normal, s)) = some r → (runOpsW c b ops ops.toList st).map (fun s => (Ex.normal, s)) = some r := by
   intro st r hr
   cases hq : runOpsW c a ops ops.toList st with
   | none => rw [hq] at hr; cases hr
   | some s => rw [runOpsW_le h _ _ _ hq]; rw [hq] at hr; exact hr
  split
  ·rename_i hd
   rw [if_pos hd] at hr
   split
   ·rename_i hc; rw [if_pos hc] at hr; exact key _ _ hr
   ·rename_i hc; rw [if_neg hc] at hr; cases hr
  ·rename_i hd; rw [if_neg hd] at hr; exact keyW _ _ hr
 | seq x y ihx ihy =>
  intro st r hr
  rw [exec] at hr ⊢
  cases hx : exec c a A n x st with
  | none => rw [hx] at hr; cases hr
  | some z =>
   rw [hx] at hr
   rw [ihx _ _ hx]
   obtain ⟨e, s⟩ := z
   cases e with
   | normal => exact ihy _ _ hr
   | exit i => exact hr
   | ret => exact hr
 | cond x a' b' iha ihb =>
  intro st r hr
  rw [exec] at hr ⊢
  cases hx : ev st.t x with
  | bool t => rw [hx] at hr; cases t <;> simp only at hr ⊢ <;> first | exact iha _ _ hr | exact ihb _ _ hr
  | _ => rw [hx] at hr; cases hr
 | block id b' ih =>
  intro st r hr
  rw [exec] at hr ⊢
  cases hx : exec c a A n b' st with
  | none => rw [hx] at hr; cases hr
  | some z => rw [hx] at hr; rw [ih _ _ hx]; exact hr
 | loop b' ih =>
  intro st r hr
  rw [exec] at hr ⊢
  cases hx : A (exec c a A n b') (fun s => s.head ((n (firstId b')).1, (n (firstId b')).2.1)) st with
  | none => rw [hx] at hr; cases hr
  | some z =>
   rw [hL _ _ _ _ _ (fun s r hs => ih s r hs) hx]
   rw [hx] at hr
   exact hr
 | exit id => intro st r hr; exact hr
 | ret => intro st r hr; exact hr
 | _ => intro st r hr; cases hr
theorem leL_iter {k m : Nat} (h : k ≤ m) : LeL (fun b hd st => iter b hd k st) (fun b hd st => iter b hd m st) := by
 intro f g hd st r hfg hr
 refine iter_le h ?_
 clear h
 induction k generalizing st with
 | zero => simp [iter] at hr
 | succ k ih =>
  simp only [iter] at hr ⊢
  cases hb : f (hd st) with
  | none => rw [hb] at hr; cases hr
  | some x =>
   rw [hfg _ _ hb]
   rw [hb] at hr
   obtain ⟨e, s⟩ := x
   cases e with
   | normal => exact ih s hr
   | exit i => exact hr
   | ret => exact hr
theorem fnRun_le {a b : Nat → List V → Option V} (h : Le a b) {A B : Loops} (hL : LeL A B) {f : Nat} {fn : Func} {args : List V} {r : V} (hr : fnRun c a A f fn args = some r) : fnRun c b B f fn args = some r := by
 unfold fnRun at hr ⊢
 cases hb : fn.body with
 | none => rw [hb] at hr; cases hr
 | some code =>
  rw [hb] at hr
  simp only at hr ⊢
  split at hr
  ·cases hr
  rename_i hdr
  rw [if_neg hdr]
  cases hx : exec c a A (c.fg f) code ⟨args ++ List.replicate (fn.ntmps - args.length) .undef, List.replicate fn.ntmps none, fun _ => false, false⟩ with
  | none => rw [hx] at hr; cases hr
  | some z => rw [exec_le h hL _ _ _ hx]; rw [hx] at hr; exact hr
theorem denN_succ : ∀ k, Le (denN P c ext k) (denN P c ext (k + 1)) := by
 intro k
 induction k with
 | zero => intro f args r h; cases h
 | succ k ih =>
  intro f args r h
  rw [denN] at h ⊢
  cases he : ext f args with
  | some x => rw [he] at h; exact h
  | none =>
   rw [he] at h
   simp only at h ⊢
   cases hf : P.funcs[f]? with
   | none => rw [hf] at h; cases h
   | some fn =>
    rw [hf] at h
    simp only at h ⊢
    split at h
    ·cases h
    ·rename_i hn
     rw [if_neg hn]
     exact fnRun_le ih (leL_iter (by omega)) h
theorem denN_le {k m : Nat} (h : k ≤ m) : Le (denN P c ext k) (denN P c ext m) := by
  induction m with
  | zero => obtain rfl : k = 0 := by omega
            intro f args r h; exact h
  | succ m ih =>
    by_cases e : k = m + 1
    · subst e; intro f args r h; exact h
    · intro f args r hr; exact denN_succ m f args r (ih (by omega) f args r hr)
open Classical in
noncomputable def den (P : Program) (c : Cfg) (ext : Nat → List V → Option V) (f : Nat) (args : List V) : Option V :=
 if h : ∃ (r : V) (k : Nat), denN P c ext k f args = some r then some h.choose else none
theorem den_of {f : Nat} {args : List V} {r : V} {k : Nat} (h : denN P c ext k f args = some r) : den P c ext f args = some r := by
 have hex : ∃ (r : V) (k : Nat), denN P c ext k f args = some r := ⟨r, k, h⟩
 unfold den
 rw [dif_pos hex]
 obtain ⟨m, hm⟩ := hex.choose_spec
 have h1 := denN_le (Nat.le_max_left k m) _ _ _ h
 have h2 := denN_le (Nat.le_max_right k m) _ _ _ hm
 rw [h1] at h2
 injection h2 with h2
 rw [← h2]
theorem den_some {f : Nat} {args : List V} {r : V} (h : den P c ext f args = some r) : ∃ k, denN P c ext k f args = some r := by
 unfold den at h
 by_cases hex : ∃ (r : V) (k : Nat), denN P c ext k f args = some r
 ·rw [dif_pos hex] at h
  obtain ⟨m, hm⟩ := hex.choose_spec
  injection h with h
  rw [h] at hm
  exact ⟨m, hm⟩
 ·rw [dif_neg hex] at h; cases h
theorem valOp_lim {ρ : Operand → V} {η : Nat → Option V} {d : Nat} {op : Op} {r : Out} (hr : valOp c (den P c ext) ρ η d op = some r) : ∃ k, valOp c (denN P c ext k) ρ η d op = some r := by
 cases op with
 | call cl =>
  obtain ⟨callee, args, ts⟩ := cl
  cases callee with
  | value f =>
   simp only [valOp] at hr ⊢
   cases hf : ρ f with
   | clo g cap =>
    rw [hf] at hr
    simp only at hr ⊢
    cases hs : strips η (args.toList.map ρ ++ cap) with
    | none => rw [hs] at hr; cases hr
    | some vs =>
     rw [hs] at hr
     simp only at hr ⊢
     cases hd : den P c ext g (nilArgs (c.pz g) vs) with
     | none => rw [hd] at hr; cases hr
     | some x =>
      rw [hd] at hr
      obtain ⟨k, hk⟩ := den_some hd
      exact ⟨k, by rw [hk]; exact hr⟩
   | _ => rw [hf] at hr; cases hr
  | invoke f m => exact ⟨0, hr⟩
  | builtin bi => cases bi <;> exact ⟨0, hr⟩
 | unOp u _ _ => cases u <;> exact ⟨0, hr⟩
 | makeFunc fn _ _ => cases fn <;> exact ⟨0, hr⟩
 | slice _ _ _ _ mx => cases mx <;> exact ⟨0, hr⟩
 | _ => exact ⟨0, hr⟩
theorem step_lim {st : St} {o : Oper} {r : St} (hr : step c (den P c ext) st o = some r) : ∃ k, step c (denN P c ext k) st o = some r := by
 unfold step at hr ⊢
 split
 ·rename_i he; rw [if_pos he] at hr; exact ⟨0, hr⟩
 ·rename_i he
  rw [if_neg he] at hr
  cases hd : o.dst with
  | none => rw [hd] at hr; cases hr
  | some d =>
   rw [hd] at hr
   simp only at hr ⊢
   cases hv : valOp c (den P c ext) (ev st.t) (fun b => st.h.getD b none) d o.op with
   | none => rw [hv] at hr; cases hr
   | some x =>
    obtain ⟨k, hk⟩ := valOp_lim hv
    exact ⟨k, by rw [hk]; rw [hv] at hr; exact hr⟩
theorem runOps_lim {ops : Array Oper} : ∀ (l : List Oper) (st r : St), runOps c (den P c ext) ops l st = some r → ∃ k, runOps c (denN P c ext k) ops l st = some r := by
 intro l
 induction l with
 | nil => intro st r hr; exact ⟨0, hr⟩
 | cons o l ih =>
  intro st r hr
  simp only [runOps] at hr ⊢
  cases hw : wanted ops st.t o with
  | none => rw [hw] at hr; cases hr
  | some t =>
   rw [hw] at hr
   cases t with
   | true =>
    simp only at hr ⊢
    cases hs : step c (den P c ext) st o with
    | none => rw [hs] at hr; cases hr
    | some s =>
     rw [hs] at hr
     obtain ⟨k, hk⟩ := step_lim hs
     obtain ⟨m, hm⟩ := ih _ _ hr
     refine ⟨max k m, ?_⟩
     rw [step_le (denN_le (Nat.le_max_left k m)) hk]
     exact runOps_le (denN_le (Nat.le_max_right k m)) _ _ _ hm
   | false =>
    simp only at hr ⊢
    cases hd : o.dst with
    | none => rw [hd] at hr; exact ih _ _ hr
    | some d => rw [hd] at hr; exact ih _ _ hr
theorem stepW_lim {st : St} {o : Oper} {r : St} (hr : stepW c (den P c ext) st o = some r) : ∃ k, stepW c (denN P c ext k) st o = some r := by
 unfold stepW at hr ⊢
 cases hw : wrOf c o.op with
 | none => rw [hw] at hr; exact step_lim hr
 | some z => rw [hw] at hr; exact ⟨0, hr⟩
theorem runOpsW_lim {ops : Array Oper} : ∀ (l : List Oper) (st r : St), runOpsW c (den P c ext) ops l st = some r → ∃ k, runOpsW c (denN P c ext k) ops l st = some r := by
 intro l
 induction l with
 | nil => intro st r hr; exact ⟨0, hr⟩
 | cons o l ih =>
  intro st r hr
  simp only [runOpsW] at hr ⊢
  cases hw : wanted ops st.t o with
  | none => rw [hw] at hr; cases hr
  | some t =>
   rw [hw] at hr
   cases t with
   | true =>
    simp only at hr ⊢
    cases hs : stepW c (den P c ext) st o with
    | none => rw [hs] at hr; cases hr
    | some s =>
     rw [hs] at hr
     obtain ⟨k, hk⟩ := stepW_lim hs
     obtain ⟨m, hm⟩ := ih _ _ hr
     refine ⟨max k m, ?_⟩
     rw [stepW_le (denN_le (Nat.le_max_left k m)) hk]
     exact runOpsW_le (denN_le (Nat.le_max_right k m)) _ _ _ hm
   | false =>
    simp only at hr ⊢
    cases hd : o.dst with
    | none => rw [hd] at hr; exact ih _ _ hr
    | some d => rw [hd] at hr; exact ih _ _ hr
theorem exec_lim {n : Told} : ∀ (code : Code) (st : St) (r : Ex × St), exec c (den P c ext) loopInf n code st = some r → ∃ k, exec c (denN P c ext k) (fun b hd st => iter b hd k st) n code st = some r := by
 intro code
 induction code with
 | skip => intro st r hr; exact ⟨0, hr⟩
 | region id ops draw =>
  intro st r hr
  simp only [exec] at hr ⊢
  have key : ∀ st r, (runOps c (den P c ext) ops ops.toList st).map (fun s => (Ex.normal, s)) = some r → ∃ k, (runOps c (denN P c ext k) ops ops.toList st).map (fun s => (Ex.normal, s)) = some r := by
   intro st r hr
   cases hq : runOps c (den P c ext) ops ops.toList st with
   | none => rw [hq] at hr; cases hr
   | some s =>
    obtain ⟨k, hk⟩ := runOps_lim _ _ _ hq
    exact ⟨k, by rw [hk]; rw [hq] at hr; exact hr⟩
  have keyW : ∀ st r, (runOpsW c (den P c ext) ops ops.toList st).map (fun s => (Ex.normal, s)) = some r → ∃ k, (runOpsW c (denN P c ext k) ops ops.toList st).map (fun s => (Ex.normal, s)) = some r := by
   intro st r hr
   cases hq : runOpsW c (den P c ext) ops ops.toList st with
   | none => rw [hq] at hr; cases hr
   | some s =>
    obtain ⟨k, hk⟩ := runOpsW_lim _ _ _ hq
    exact ⟨k, by rw [hk]; rw [hq] at hr; exact hr⟩
  split
  ·rename_i hd
   rw [if_pos hd] at hr
   split
   ·rename_i hc; rw [if_pos hc] at hr; exact key _ _ hr
   ·rename_i hc; rw [if_neg hc] at hr; cases hr
  ·rename_i hd; rw [if_neg hd] at hr; exact keyW _ _ hr
 | seq x y ihx ihy =>
  intro st r hr
  simp only [exec] at hr ⊢
  cases hx : exec c (den P c ext) loopInf n x st with
  | none => rw [hx] at hr; cases hr
  | some z =>
   rw [hx] at hr
   obtain ⟨k, hk⟩ := ihx _ _ hx
   obtain ⟨e, s⟩ := z
   cases e with
   | normal =>
    obtain ⟨m, hm⟩ := ihy _ _ hr
    refine ⟨max k m, ?_⟩
    rw [exec_le (denN_le (Nat.le_max_left k m)) (leL_iter (Nat.le_max_left k m)) _ _ _ hk]
    exact exec_le (denN_le (Nat.le_max_right k m)) (leL_iter (Nat.le_max_right k m)) _ _ _ hm
   | exit i => exact ⟨k, by rw [hk]; exact hr⟩
   | ret => exact ⟨k, by rw [hk]; exact hr⟩
 | cond x a' b' iha ihb =>
  intro st r hr
  simp only [exec] at hr ⊢
  cases hx : ev st.t x with
  | bool t => rw [hx] at hr; cases t <;> simp only at hr ⊢ <;> first | exact iha _ _ hr | exact ihb _ _ hr
  | _ => rw [hx] at hr; cases hr
 | block id b' ih =>
  intro st r hr
  simp only [exec] at hr ⊢
  cases hx : exec c (den P c ext) loopInf n b' st with
  | none => rw [hx] at hr; cases hr
  | some z =>
   rw [hx] at hr
   obtain ⟨k, hk⟩ := ih _ _ hx
   exact ⟨k, by rw [hk]; exact hr⟩
 | loop b' ih =>
  intro st r hr
  simp only [exec] at hr ⊢
  cases hx : loopInf (exec c (den P c ext) loopInf n b') (fun s => s.head ((n (firstId b')).1, (n (firstId b')).2.1)) st with
  | none => rw [hx] at hr; cases hr
  | some zz =>
  rw [hx] at hr
  obtain ⟨j, hj⟩ := loopInf_some hx
  clear hx
  suffices hsuf : ∃ k, iter (exec c (denN P c ext k) (fun b hd st => iter b hd k st) n b') (fun s => s.head ((n (firstId b')).1, (n (firstId b')).2.1)) k st = some zz by
   obtain ⟨k, hk⟩ := hsuf
   exact ⟨k, by rw [hk]; exact hr⟩
  clear hr
  induction j generalizing st with
  | zero => simp [iter] at hj
  | succ j ihj =>
   rw [iter] at hj
   cases hb : exec c (den P c ext) loopInf n b' (st.head ((n (firstId b')).1, (n (firstId b')).2.1)) with
   | none => rw [hb] at hj; cases hj
   | some z =>
    rw [hb] at hj
    obtain ⟨k, hk⟩ := ih _ _ hb
    obtain ⟨e, s⟩ := z
    cases e with
    | normal =>
     obtain ⟨m, hm⟩ := ihj s hj
     refine ⟨max k m + 1, ?_⟩
     rw [iter, exec_le (denN_le (by omega)) (leL_iter (by omega)) _ _ _ hk]
     exact leL_iter (Nat.le_max_right k m) _ _ _ _ _ (fun s r hs => exec_le (denN_le (by omega)) (leL_iter (by omega)) _ _ _ hs) hm
    | exit i => exact ⟨k + 1, by rw [iter, exec_le (denN_le (by omega)) (leL_iter (by omega)) _ _ _ hk]; exact hj⟩
    | ret => exact ⟨k + 1, by rw [iter, exec_le (denN_le (by omega)) (leL_iter (by omega)) _ _ _ hk]; exact hj⟩
 | exit id => intro st r hr; exact ⟨0, hr⟩
 | ret => intro st r hr; exact ⟨0, hr⟩
 | _ => intro st r hr; cases hr
theorem den_run {f : Nat} {fn : Func} {args : List V} {r : V} (he : ext f args = none) (hf : P.funcs[f]? = some fn) (hnm : (fn.name == "runtime.NumGoroutine") = false) (h : fnRun c (den P c ext) loopInf f fn args = some r) : den P c ext f args = some r := by
 unfold fnRun at h
 cases hb : fn.body with
 | none => rw [hb] at h; cases h
 | some code =>
  rw [hb] at h
  simp only at h
  split at h
  ·cases h
  rename_i hdr
  cases hx : exec c (den P c ext) loopInf (c.fg f) code ⟨args ++ List.replicate (fn.ntmps - args.length) .undef, List.replicate fn.ntmps none, fun _ => false, false⟩ with
  | none => rw [hx] at h; cases h
  | some z =>
   obtain ⟨k, hk⟩ := exec_lim _ _ _ hx
   refine den_of (k := k + 1) ?_
   rw [denN, he]
   simp only [hf, hnm]
   rw [if_neg (by simp)]
   unfold fnRun
   rw [hb]
   simp only
   rw [if_neg hdr]
   rw [hk]
   rw [hx] at h
   exact h
theorem den_ext {f : Nat} {args : List V} {r : V} (he : ext f args = some r) : den P c ext f args = some r := den_of (k := 1) (by rw [denN, he])
end Go.Am
end
