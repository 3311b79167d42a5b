/-
  An abstract machine over plain data, for functions whose slices are either read or built by the call itself: its values, its states, the step of one operation, the run of a region and of code.
-/
import Derived.Below
import Derived.Calls
import Derived.Orders
import Derived.KernelRfl
set_option linter.unusedVariables false
set_option linter.unusedSimpArgs false
namespace Go.Am
open Go
theorem sj_ {α:Type _}{a b:α}:(some a=some b)=(a=b):=Option.some.injEq a b
theorem gs_ {α:Type _}{l:List α}{i:Nat}{a:α}(h:l[i]? = some a):∃ h:i < l.length,l[i]=a:=List.getElem?_eq_some_iff.1 h
inductive Q where
  | flat
  | clean
  | any
  deriving DecidableEq,Inhabited
def Q.join:Q→Q→Q
 | .flat,q=>q
 | .clean,.flat=>.clean
 | .clean,q=>q
 | .any,_=>.any
def Q.isFlat:Q→Bool
 | .flat=>true
 | _=>false
def Q.good:Q→Bool
 | .any=>false
 | _=>true
inductive V where
  | undef
  | bool (b:Bool)
  | int (k:IntKind) (n:Int)
  | str (s:List UInt8)
  | nil
  | sl (s:Nat) (fl:Bool) (xs:List V)
  | own (b s:Nat) (q:Q) (xs:List V)
  | view (b s:Nat) (q:Q) (xs:List V)
  | ptr (d off:Nat)
  | eptr (b s:Nat) (q:Q) (xs:List V) (i off:Nat)
  | vptr (b:Nat) (x:V) (off:Nat)
  | iptr (x:V) (off:Nat)
  | agg (cs:List V)
  | tup (vs:List V)
  | clo (f:Nat) (cap:List V)
  deriving Inhabited
def V.cells:V→List V
 | .agg cs=>cs
 | v=>[v]
def V.isDef:V→Bool
 | .undef=>false
 | _=>true
def V.isCell:V→Bool
 | .undef=>false
 | .agg _=>false
 | .tup _=>false
 | _=>true
def d0m:List V→Bool
 | []=>true
 | v :: vs=>v.isCell && d0m vs
inductive Ty where
  | bool
  | int (k:IntKind)
  | str
  | slice (e:Nat)
  | struct (fs:List (Nat × Nat))
  | array (n e:Nat)
  | ptr (e:Nat)
  | other
structure TyInfo where
  d:Ty
  size:Nat
  bytes:Nat
  zero:V
  cmp:Bool
  nz:List V
  qz:Q
def a0i (dead:Nat→Bool):List Nat→Bool
 | []=>true
 | b :: l=>(b == 999 || (!dead b && !l.contains b)) && a0i dead l
structure St where
  t:List V
  h:List (Option V)
  dead:Nat→Bool
  dup:Bool
def St.kill (st:St)(l:List Nat):St:={ st with dead:=λ b=>l.contains b || st.dead b }
def St.mark (st:St)(x:Bool):St:={ st with dup:=x || st.dup }
structure Wr where
  s:Nat
  g:List V→Option (List V × Nat)
  v:Bool
inductive Mode where
  | data
  | mv
  | pt
def Mode.isMv:Mode→Bool
 | .mv=>true
 | _=>false
def Mode.isData:Mode→Bool
 | .data=>true
 | _=>false
def Mode.isPt:Mode→Bool
 | .pt=>true
 | _=>false
structure Io where
  md:List Mode
  nt:Nat
  nb:Nat
  rb:Bool
structure Cfg where
  ty:Nat→Option TyInfo
  fg:Nat→Nat→List Nat × List Nat × List Nat
  pz:Nat→List (List V)
  rz:Nat→List V
  wr:Nat→Option Wr:=λ _=>none
  io:Nat→Option Io:=λ _=>none
def Ty.isAgg:Ty→Bool
 | .struct _=>true
 | .array _ _=>true
 | _=>false
def base (d j:Nat):Nat:=d * 1000+j
def a0v (k:Nat):Nat:=1000000+k
def v0a:Value→V
 | .bool b=>.bool b
 | .int k n=>.int k n
 | .string s=>.str s.data.toList
 | .slice none 0 0=>.nil
 | _=>.undef
def ev (t:List V):Operand→V
 | .tmp i=>t.getD i .undef
 | .const v=>v0a v
 | .func f=>.clo f []
 | .global _=>.undef
mutual
def V.mapB (f:V→Option V):V→V
 | .agg cs=>.agg (V.mapBs f cs)
 | .tup vs=>.tup (V.mapBs f vs)
 | .clo g cs=>.clo g (V.mapBs f cs)
 | v=>(f v).getD v
def V.mapBs (f:V→Option V):List V→List V
 | []=>[]
 | v :: vs=>V.mapB f v :: V.mapBs f vs
end
def a0h (b:Nat):V→Option V
 | .own b' _ _ _=>if b' = b then some .undef else none
 | .view b' _ _ _=>if b' = b then some .undef else none
 | .eptr b' _ _ _ _ _=>if b' = b then some .undef else none
 | .vptr b' _ _=>if b' = b then some .undef else none
 | _=>none
def c0v (b:Nat)(q:Q)(ys:List V):V→Option V
 | .own b' s _ _=>if b' = b then some (.own b s q ys) else none
 | .view b' _ _ _=>if b' = b then some .undef else none
 | .eptr b' _ _ _ _ _=>if b' = b then some .undef else none
 | .vptr b' _ _=>if b' = b then some .undef else none
 | _=>none
mutual
def V.anyB (p:Nat→Bool):V→Bool
 | .own b _ _ _=>p b
 | .view b _ _ _=>p b
 | .eptr b _ _ _ _ _=>p b
 | .vptr b _ _=>p b
 | .agg cs=>V.anyBs p cs
 | .tup cs=>V.anyBs p cs
 | .clo _ cs=>V.anyBs p cs
 | _=>false
def V.anyBs (p:Nat→Bool):List V→Bool
 | []=>false
 | v :: vs=>V.anyB p v || V.anyBs p vs
end
mutual
def V.anyP (p:Nat→Bool):V→Bool
 | .ptr d _=>p d
 | .agg cs=>V.anyPs p cs
 | .tup cs=>V.anyPs p cs
 | .clo _ cs=>V.anyPs p cs
 | _=>false
def V.anyPs (p:Nat→Bool):List V→Bool
 | []=>false
 | v :: vs=>V.anyP p v || V.anyPs p vs
end
def k0r (p:Nat→Bool):List (Option V)→Bool
 | []=>false
 | some v :: r=>v.anyB p || k0r p r
 | none :: r=>k0r p r
def l0j (p:Nat→Bool):List (Option V)→Bool
 | []=>false
 | some v :: r=>v.anyP p || l0j p r
 | none :: r=>l0j p r
def St.freeD (st:St)(d:Nat):Bool:=!V.anyBs (λ b=>b / 1000 == d) (st.t.set d .undef) && !k0r (λ b=>b / 1000 == d) st.h
def St.freeP (st:St)(d:Nat):Bool:=!V.anyPs (λ d'=>d' == d) (st.t.set d .undef) && !l0j (λ d'=>d' == d) st.h
def d0c (f:V→Option V):List (Option V)→List (Option V)
 | []=>[]
 | some v :: r=>some (v.mapB f) :: d0c f r
 | none :: r=>none :: d0c f r
def St.sweep (st:St)(f:V→Option V):St:=⟨V.mapBs f st.t,d0c f st.h,st.dead,st.dup⟩
def flat:V→Option V
 | .bool b=>some (.bool b)
 | .int k n=>some (.int k n)
 | .str s=>some (.str s)
 | .nil=>some .nil
 | .sl s f xs=>some (.sl s f xs)
 | .own _ s q xs=>some (.sl s q.isFlat xs)
 | .view _ s q xs=>some (.sl s q.isFlat xs)
 | _=>none
def l0s:List V→Option (List V)
 | []=>some []
 | v :: vs=>match flat v,l0s vs with
  | some x,some xs=>some (x :: xs)
  | _,_=>none
def i0u:V→Option V
 | .agg cs=>(l0s cs).map .agg
 | v=>flat v
def g0q:List V→Option (List V)
 | []=>some []
 | v :: vs=>match i0u v,g0q vs with
  | some x,some xs=>some (x :: xs)
  | _,_=>none
def k0s:V→Q
 | .bool _=>.flat
 | .int _ _=>.flat
 | .str _=>.flat
 | .nil=>.flat
 | .own _ _ q _=>if q.good then .clean else .any
 | .view _ _ q _=>if q.good then .clean else .any
 | _=>.any
def f0g:List V→Q
 | []=>.flat
 | v :: vs=>(k0s v).join (f0g vs)
def u1x (v:V):Q:=f0g v.cells
def a1k:List V→Q
 | []=>.flat
 | v :: vs=>(u1x v).join (a1k vs)
def c0f:V→List Nat
 | .own b _ _ _=>[b]
 | .view b _ _ _=>[b]
 | _=>[]
def b0k:List V→List Nat
 | []=>[]
 | v :: vs=>c0f v++b0k vs
def n0d:List V→List Nat
 | []=>[]
 | v :: vs=>b0k v.cells++n0d vs
def m0m (q:Q)(v:V):List Nat:=
 match q with
 | .clean=>c0f v
 | _=>[]
def e0u (z v:V):V:=
 match v,z with
 | .nil,.view _ s q _=>.view 999 s q []
 | v,_=>v
def d0e:List V→List V→List V
 | z :: zs,v :: vs=>e0u z v :: d0e zs vs
 | _,vs=>vs
def c0e (zs:List V)(v:V):V:=
 match v with
 | .agg cs=>.agg (d0e zs cs)
 | v=>match zs with
  | z :: _=>e0u z v
  | []=>v
def e0j (zs:List V):List V→List V
 | []=>[]
 | v :: vs=>c0e zs v :: e0j zs vs
def h0g (z v:V):V:=
 match v,z with
 | .nil,.view _ s q _=>.sl s q.isFlat []
 | v,_=>v
def d0z:List V→List V→List V
 | z :: zs,v :: vs=>h0g z v :: d0z zs vs
 | _,vs=>vs
def c1i (zs:List V)(v:V):V:=
 match v with
 | .agg cs=>.agg (d0z zs cs)
 | v=>match zs with
  | z :: _=>h0g z v
  | []=>v
def e0t:List (List V)→List V→List V
 | zs :: zss,v :: vs=>c1i zs v :: e0t zss vs
 | _,vs=>vs
def n0c (j:Nat)(z v:V):V:=
 match z,v with
 | .own _ s q _,.nil=>.own j s q []
 | .view _ s q _,.nil=>.view j s q []
 | .view _ _ _ _,.own b s q xs=>.view b s q xs
 | .sl s f _,.nil=>.sl s f []
 | _,v=>v
def h0t:Nat→List V→List V→List V
 | j,z :: zs,v :: vs=>n0c j z v :: h0t (j+1) zs vs
 | _,_,vs=>vs
def t0k (j:Nat)(zs:List V)(v:V):V:=
 match v with
 | .agg cs=>.agg (h0t j zs cs)
 | v=>match zs with
  | z :: _=>n0c j z v
  | []=>v
def f0l:Nat→List V→List V→List V
 | _,_,[]=>[]
 | j,zs,v :: vs=>t0k j zs v :: f0l (j+v.cells.length) (zs.drop v.cells.length) vs
mutual
def f0a (η:Nat→Option V):V→Option V
 | .bool b=>some (.bool b)
 | .int k n=>some (.int k n)
 | .str s=>some (.str s)
 | .nil=>some .nil
 | .sl s f xs=>some (.sl s f xs)
 | .own _ s q xs=>some (.sl s q.isFlat xs)
 | .view _ s q xs=>some (.sl s q.isFlat xs)
 | .iptr x o=>some (.iptr x o)
 | .vptr _ x o=>some (.iptr x o)
 | .eptr _ _ _ xs i o=>match xs[i]? with
  | some x=>some (.iptr x o)
  | none=>none
 | .ptr d o=>match η d with
  | some r=>(l0s r.cells).map λ cs=>.iptr (.agg cs) o
  | none=>none
 | .agg cs=>(c0t η cs).map .agg
 | .tup cs=>(c0t η cs).map .tup
 | .clo f cs=>(c0t η cs).map (.clo f)
 | .undef=>none
def c0t (η:Nat→Option V):List V→Option (List V)
 | []=>some []
 | v :: vs=>match f0a η v,c0t η vs with
  | some x,some xs=>some (x :: xs)
  | _,_=>none
end
def d0t (d:Nat):V→Option V
 | .own b s q xs=>some (.own (base d b) s q xs)
 | .view b s q xs=>some (.view (base d b) s q xs)
 | .eptr _ _ _ _ _ _=>some .undef
 | .vptr _ _ _=>some .undef
 | .ptr _ _=>some .undef
 | _=>none
mutual
def V.old:V→Bool
 | .sl _ _ _=>true
 | .iptr _ _=>true
 | .own _ _ q _=>!q.good
 | .view _ _ q _=>!q.good
 | .eptr _ _ _ _ _ _=>true
 | .vptr _ _ _=>true
 | .ptr _ _=>true
 | .agg cs=>V.olds cs
 | .tup cs=>V.olds cs
 | .clo _ cs=>V.olds cs
 | _=>false
def V.olds:List V→Bool
 | []=>false
 | v :: vs=>V.old v || V.olds vs
end
def f0j:V→Bool
 | .bool _=>true
 | .int _ _=>true
 | .str _=>true
 | .nil=>true
 | .sl _ _ _=>true
 | .own _ _ _ _=>true
 | .view _ _ _ _=>true
 | .iptr _ _=>true
 | _=>false
def v0c:List V→Bool
 | []=>true
 | v :: vs=>f0j v && v0c vs
def cellsOf:List V→List V
 | []=>[]
 | v :: vs=>v.cells++cellsOf vs
def r0p (l:List (List Nat)):V→Option V
 | .own b s q xs=>some (.own (l.idxOf [b]) s q xs)
 | .view b s q xs=>some (.view (l.idxOf [b]) s q xs)
 | _=>none
def t1u:List UInt8→List UInt8→Bool:=Op.bytesLess
def h1o (op:BinOp)(a b:Int):Option Bool:=
 match op with
 | .eql=>some (a == b)
 | .neq=>some (a != b)
 | .lss=>some (decide (a < b))
 | .leq=>some (decide (a≤b))
 | .gtr=>some (decide (a > b))
 | .geq=>some (decide (a ≥ b))
 | _=>none
def s1q (op:BinOp)(a b:Int):Option Int:=
 match op with
 | .add=>some (a+b)
 | .sub=>some (a - b)
 | .mul=>some (a * b)
 | .quo=>if b=0 then none else some (a.tdiv b)
 | _=>none
def b1r (op:BinOp)(k:IntKind)(a b:Int):Int:=
 match op with
 | .and=>k.wrap (BitVec.ofInt k.bits a &&& BitVec.ofInt k.bits b).toNat
 | .or=>k.wrap (BitVec.ofInt k.bits a ||| BitVec.ofInt k.bits b).toNat
 | _=>k.wrap (BitVec.ofInt k.bits a ^^^ BitVec.ofInt k.bits b).toNat
def v1d (k:IntKind)(a b:Int):Int:=a.fdiv (2 ^ min b.toNat k.bits)
def z0n (op:BinOp)(k:IntKind)(a b:Int):Option V:=
 match op with
 | .and=>some (.int k (b1r .and k a b))
 | .or=>some (.int k (b1r .or k a b))
 | .xor=>some (.int k (b1r .xor k a b))
 | .shl=>none
 | .shr=>none
 | .rem=>if b=0 then none else some (.int k (a.tmod b))
 | _=>match h1o op a b with
  | some r=>some (.bool r)
  | none=>(s1q op a b).map λ n=>.int k (k.wrap n)
def f1j (op:BinOp)(a b:List UInt8):Option V:=
 match op with
 | .add=>if a.length+b.length≤9223372036854775807 then some (.str (a++b)) else none
 | .eql=>some (.bool (a == b))
 | .neq=>some (.bool !(a == b))
 | .lss=>some (.bool (t1u a b))
 | .leq=>some (.bool (t1u a b || a == b))
 | .gtr=>some (.bool !(t1u a b || a == b))
 | .geq=>some (.bool !(t1u a b))
 | _=>none
def b1x:V→V→Option Bool
 | .bool a,.bool b=>some (a == b)
 | .int k a,.int k' b=>if k=k' then some (a == b) else none
 | .str a,.str b=>some (a == b)
 | _,_=>none
def c0r:List V→List V→Option Bool
 | [],[]=>some true
 | a :: az,b :: bs=>match b1x a b,c0r az bs with
  | some x,some y=>some (x && y)
  | _,_=>none
 | _,_=>none
def d0w:V→V→Bool
 | .bool _,.bool _=>true
 | .int k _,.int k' _=>decide (k=k')
 | .str _,.str _=>true
 | _,_=>false
def a0j:List V→List V→Bool
 | [],[]=>true
 | a :: az,b :: bs=>d0w a b && a0j az bs
 | _,_=>false
def w0u (i:TyInfo)(op:BinOp):V→V→Option V
 | .bool a,.bool b=>match i.d,op with
  | .bool,.eql=>some (.bool (a == b))
  | .bool,.neq=>some (.bool !(a == b))
  | _,_=>none
 | .int k a,.int k' b=>match op with
  | .shr=>if b < 0 then none else some (.int k (v1d k a b))
  | _=>if k=k' then z0n op k a b else none
 | .str a,.str b=>f1j op a b
 | .agg a,.agg b=>match i.cmp && a0j i.zero.cells a && a0j i.zero.cells b,op,c0r a b with
  | true,.eql,some r=>some (.bool r)
  | true,.neq,some r=>some (.bool !r)
  | _,_,_=>none
 | _,_=>none
def w1t:V→Option Nat
 | .nil=>some 0
 | .sl _ _ xs=>some xs.length
 | .own _ _ _ xs=>some xs.length
 | .view _ _ _ xs=>some xs.length
 | _=>none
def n1a (n:Nat)(lo hi:Option V):Option (Nat × Nat):=
 let h:=match hi with
  | none=>some (n:Int)
  | some (.int _ i)=>some i
  | _=>none
 let l:=match lo with
  | none=>some (0:Int)
  | some (.int _ i)=>some i
  | _=>none
 match l,h with
 | some l,some h=>if 0≤l∧l≤h∧h≤n then some (l.toNat,h.toNat) else none
 | _,_=>none
def cut (n:Nat)(v:V)(lo hi:Option V):Option V:=
 match v with
 | .nil=>match n1a 0 lo hi with
  | some _=>some .nil
  | none=>none
 | .sl s f xs=>if s=n then (match n1a xs.length lo hi with
  | some (l,h)=>some (.sl s f ((xs.take h).drop l))
  | none=>none) else none
 | .own b s q xs=>if s=n then (match n1a xs.length lo hi with
  | some (l,h)=>some (.view b s q ((xs.take h).drop l))
  | none=>none) else none
 | .view b s q xs=>if s=n then (match n1a xs.length lo hi with
  | some (l,h)=>some (.view b s q ((xs.take h).drop l))
  | none=>none) else none
 | _=>none
def n0k (s:Nat)(v:V)(i:Int):Option V:=
 if i < 0 then none else
 match v with
 | .sl s' _ xs=>if s' = s then (xs[i.toNat]?).map λ x=>.iptr x 0 else none
 | .view b s' _ xs=>if s' = s then (xs[i.toNat]?).map λ x=>.vptr b x 0 else none
 | .own b s' q xs=>if s' = s then (if i.toNat < xs.length then some (.eptr b s q xs i.toNat 0) else none) else none
 | _=>none
def f0f (v:V)(n:Nat):Option V:=
 match v with
 | .ptr d o=>some (.ptr d (o+n))
 | .iptr x o=>some (.iptr x (o+n))
 | .vptr b x o=>some (.vptr b x (o+n))
 | .eptr b s q xs i o=>some (.eptr b s q xs i (o+n))
 | _=>none
def n1i (l:List Nat)(b:Nat):List Nat:=if l.contains b then l else l++[b]
mutual
def V.bases (l:List Nat):V→List Nat
 | .own b _ _ _=>n1i l b
 | .view b _ _ _=>n1i l b
 | .eptr b _ _ _ _ _=>n1i l b
 | .vptr b _ _=>n1i l b
 | .agg cs=>V.basess l cs
 | .tup cs=>V.basess l cs
 | .clo _ cs=>V.basess l cs
 | _=>l
def V.basess (l:List Nat):List V→List Nat
 | []=>l
 | v :: vs=>V.basess (V.bases l v) vs
end
inductive Out where
  | val (v:V)
  | box (r:V)
  | fresh (v:V) (esc:List Nat) (n:Nat)
def y0l (d:Nat)(az:List V)(r:V):Option Out:=
 if r.anyB (λ b=>decide (999≤b)) then none else
 if r.old then (if V.anyPs (λ _=>true) az then none else some (.fresh (r.mapB (d0t d)) (V.basess [] az) (if r.anyB (λ _=>true) then 1 else 0)))
 else some (.fresh (r.mapB (d0t d)) [] (if r.anyB (λ _=>true) then 1 else 0))
def c0i (η:Nat→Option V):V→Option (List V)
 | .ptr d o=>(η d).map λ r=>r.cells.drop o
 | .iptr x o=>some (x.cells.drop o)
 | .vptr _ x o=>some (x.cells.drop o)
 | .eptr _ _ _ xs i o=>(xs[i]?).map λ x=>x.cells.drop o
 | _=>none
def f0s (agg:Bool)(n:Nat)(cs:List V):Option V:=
 if cs.length < n then none else
 if agg then some (.agg (cs.take n)) else if n=1 then cs.head? else none
def i0f (η:Nat→Option V)(i:TyInfo)(a:V):Option V:=
 match c0i η a with
 | some cs=>f0s i.d.isAgg i.size cs
 | none=>none
def o0v (cs:List V)(off:Nat)(new:List V):Option (List V):=
 if off+new.length≤cs.length then some (cs.take off++new++cs.drop (off+new.length)) else none
def w0v (place:Nat→Option (Nat × Nat)):List V→List (Nat × V)→Option (List V)
 | cs,[]=>some cs
 | cs,(i,v) :: r=>match place i with
  | some (off,size)=>if v.cells.length=size∧v.isDef=true then (match o0v cs off v.cells with
    | some cs'=>w0v place cs' r
    | none=>none) else none
  | none=>none
def Cfg.place (c:Cfg):Ty→Nat→Option (Nat × Nat)
 | .struct fs,i=>match fs[i]? with
  | some (o,t)=>(c.ty t).map λ j=>(o,j.size)
  | none=>none
 | .array _ e,i=>(c.ty e).map λ j=>(i * j.size,j.size)
 | _,_=>none
def Cfg.lays (c:Cfg):Ty→Bool
 | .struct _=>true
 | .array _ e=>(c.ty e).isSome
 | _=>false
def q0s:List V→List (Nat × V)→Option (List V)
 | acc,[]=>some acc
 | acc,(i,v) :: r=>if i < acc.length then q0s (acc.set i v) r else none
def v0i (s:Nat):List V→Bool
 | []=>true
 | v :: vs=>v.cells.length == s && v.isDef && v0i s vs
def i0g (s:Nat):V→Option (Q × List V)
 | .nil=>some (.flat,[])
 | .sl s' f ys=>if s' = s then some (if f then .flat else .any,ys) else none
 | .own _ s' q ys=>if s' = s then some (q,ys) else none
 | .view _ s' q ys=>if s' = s then some (q,ys) else none
 | _=>none
def plain (v:V):Option Out:=some (.val v)
def p0q (c:Cfg)(src dst:Nat)(x:V):Option V:=
 match c.ty src,c.ty dst with
 | some i,some j=>match i.d,j.d,x with
  | .int _,.int k,.int _ n=>some (.int k (k.wrap n))
  | .str,.str,.str s=>some (.str s)
  | _,_,_=>none
 | _,_=>none
def e0f:List V→Option (List UInt8)
 | []=>some []
 | .int .u8 n :: vs=>(e0f vs).map (UInt8.ofNat n.toNat :: ·)
 | _ :: _=>none
def l0o (s:List UInt8):List V:=s.map λ b=>.int .u8 b.toNat
def d2o (c:Cfg)(e:Nat):Bool:=
 match c.ty e with
 | some j=>match j.d with
  | .int .u8=>true
  | _=>false
 | none=>false
def l0q (c:Cfg)(src dst:Nat)(x:V):Option (List V):=
 match c.ty src,c.ty dst with
 | some i,some j=>match i.d,j.d with
  | .slice e,.str=>if d2o c e then (match i0g 1 x with
   | some (_,xs)=>some xs
   | none=>none) else none
  | _,_=>none
 | _,_=>none
def p0p (c:Cfg)(src dst:Nat)(x:V):Option V:=
 match l0q c src dst x with
 | some xs=>(e0f xs).map .str
 | none=>none
def e0e (c:Cfg)(src dst:Nat)(x:V):Option V:=
 match c.ty src,c.ty dst with
 | some i,some j=>match i.d,j.d,x with
  | .str,.slice e,.str b=>if d2o c e then some (.sl 1 true (l0o b)) else none
  | _,_,_=>none
 | _,_=>none
def a0d (c:Cfg)(den:Nat→List V→Option V)(ρ:Operand→V)(η:Nat→Option V)(d:Nat)(op:Op):Option Out:=
 match op with
 | .move x=>plain (ρ x)
 | .assign x=>plain (ρ x)
 | .pick x a b=>match ρ x with
  | .bool true=>plain (ρ a)
  | .bool false=>plain (ρ b)
  | _=>none
 | .alloc e=>match c.ty e with
  | some i=>some (.box i.zero)
  | none=>none
 | .box e x=>match c.ty e with
  | some i=>if (ρ x).cells.length=i.size∧(ρ x).isDef=true then some (.box (ρ x)) else none
  | none=>none
 | .build t ps=>match c.ty t with
  | some i=>if c.lays i.d=true then (match w0v (c.place i.d) i.zero.cells (ps.toList.map λ p=>(p.1,ρ p.2)) with
   | some cs=>plain (.agg cs)
   | none=>none) else none
  | none=>none
 | .buildSlice t n ps=>match c.ty t with
  | some ⟨.slice e,_,_,_,_,_,_⟩=>match c.ty e with
   | some i=>
    let vs:=ps.toList.map λ p=>(p.1,ρ p.2)
    let rs:=vs.map (·.2)
    if n≤1000 && n * i.size≤16777216 && i.size ≠ 0 && v0i i.size rs && v0i i.size [i.zero] then
     match q0s (List.replicate n i.zero) vs with
     | some xs=>match g0q (e0j i.nz xs) with
      | some ys=>some (.fresh (.own (base d 0) i.size ((a1k (e0j i.nz xs)).join i.qz) ys) (n0d (e0j i.nz xs)) 1)
      | none=>none
     | none=>none
    else none
   | none=>none
  | _=>none
 | .load t a=>match c.ty t with
  | some i=>match i0f η i (ρ a) with
   | some v=>plain v
   | none=>none
  | none=>none
 | .nilCheck x=>match ρ x with
  | .ptr d' o=>plain (.ptr d' o)
  | .iptr x o=>plain (.iptr x o)
  | .vptr b x o=>plain (.vptr b x o)
  | .eptr b s q xs i o=>plain (.eptr b s q xs i o)
  | _=>none
 | .binOp op t x y _=>match c.ty t with
  | some i=>match w0u i op (ρ x) (ρ y) with
   | some v=>plain v
   | none=>none
  | none=>none
 | .unOp .not _ x=>match ρ x with
  | .bool b=>plain (.bool !b)
  | _=>none
 | .unOp .neg _ x=>match ρ x with
  | .int k n=>plain (.int k (k.wrap (0 - n)))
  | _=>none
 | .convert s t x=>match p0q c s t (ρ x) with
  | some v=>plain v
  | none=>match p0p c s t (ρ x) with
   | some v=>plain v
   | none=>(e0e c s t (ρ x)).map λ v=>.fresh v [] 0
 | .makeFunc (.func f) first cap=>if first.size=0 then plain (.clo f (cap.toList.map ρ)) else none
 | .makeSlice t l k=>match c.ty t with
  | some ⟨.slice e,_,_,_,_,_,_⟩=>match c.ty e,ρ l,ρ k with
   | some i,.int _ n,.int _ m=>
    if 0≤n∧n≤m∧m * i.bytes≤140737488355328∧m≤140737488355328∧i.size ≠ 0∧v0i i.size [i.zero]=true∧u1x i.zero = .flat then
     match i0u (c0e i.nz i.zero) with
     | some z=>some (.fresh (.own (base d 0) i.size ((u1x (c0e i.nz i.zero)).join i.qz) (List.replicate n.toNat z)) [] 1)
     | none=>none
    else none
   | _,_,_=>none
  | _=>none
 | .slice t x lo hi none=>match c.ty t with
  | some i=>match i.d with
   | .str=>match ρ x with
    | .str s=>match n1a s.length (lo.map ρ) (hi.map ρ) with
     | some (l,h)=>plain (.str ((s.take h).drop l))
     | none=>none
    | _=>none
   | .slice e=>match c.ty e with
    | some j=>match cut j.size (ρ x) (lo.map ρ) (hi.map ρ) with
     | some v=>plain v
     | none=>none
    | none=>none
   | _=>none
  | none=>none
 | .fieldAddr t x f=>match c.ty t with
  | some ⟨.struct fs,_,_,_,_,_,_⟩=>match fs[f]? with
   | some (o,ft)=>match c.ty ft with
    | some j=>if j.size=0 then none else match f0f (ρ x) o with
     | some v=>plain v
     | none=>none
    | none=>none
   | none=>none
  | _=>none
 | .field t x f=>match c.ty t with
  | some ⟨.struct fs,_,_,_,_,_,_⟩=>match fs[f]?,ρ x with
   | some (o,ft),.agg cs=>match c.ty ft with
    | some j=>match f0s j.d.isAgg j.size (cs.drop o) with
     | some v=>plain v
     | none=>none
    | none=>none
   | _,_=>none
  | _=>none
 | .indexAddr t x y=>match c.ty t,ρ y with
  | some i,.int _ n=>match i.d with
   | .slice e=>match c.ty e with
    | some j=>match n0k j.size (ρ x) n with
     | some v=>plain v
     | none=>none
    | none=>none
   | .array m e=>match c.ty e with
    | some j=>if 0≤n∧n < m then (match f0f (ρ x) (n.toNat * j.size) with
      | some v=>plain v
      | none=>none) else none
    | none=>none
   | _=>none
  | _,_=>none
 | .index t x y=>match c.ty t,ρ y with
  | some i,.int _ n=>match i.d,ρ x with
   | .str,.str s=>if n < 0 then none else match s[n.toNat]? with
    | some b=>plain (.int .u8 b.toNat)
    | none=>none
   | .array m e,.agg cs=>match c.ty e with
    | some j=>if 0≤n∧n < m then (match f0s j.d.isAgg j.size (cs.drop (n.toNat * j.size)) with
      | some v=>plain v
      | none=>none) else none
    | none=>none
   | _,_=>none
  | _,_=>none
 | .extract x i=>match ρ x with
  | .tup vs=>match vs[i]? with
   | some v=>plain v
   | none=>none
  | _=>none
 | .call ⟨.builtin .len,args,ts⟩=>match args.toList,ts.toList with
  | [x],[t]=>match c.ty t with
   | some i=>match i.d with
    | .str=>match ρ x with
     | .str s=>plain (.int .i64 s.length)
     | _=>none
    | .slice _=>match w1t (ρ x) with
     | some n=>plain (.int .i64 n)
     | none=>none
    | _=>none
   | none=>none
  | _,_=>none
 | .call ⟨.builtin .min,args,_⟩=>match args.toList with
  | [x,y]=>match ρ x,ρ y with
   | .int k a,.int k' b=>if k=k' then plain (.int k (if b < a then b else a)) else none
   | _,_=>none
  | _=>none
 | .call ⟨.builtin .max,args,_⟩=>match args.toList with
  | [x,y]=>match ρ x,ρ y with
   | .int k a,.int k' b=>if k=k' then plain (.int k (if a < b then b else a)) else none
   | _,_=>none
  | _=>none
 | .call ⟨.builtin .append,args,ts⟩=>match args.toList,ts.toList with
  | [x,y],[t,t']=>match c.ty t with
   | some ⟨.slice e,_,_,_,_,_,_⟩=>match c.ty e,ρ x with
    | some i,.nil=>match i0g i.size (ρ y) with
     | some (q,ys)=>if t' = t∧i.size ≠ 0∧ys.length * i.bytes≤140737488355328∧ys.length≤140737488355328 then some (.fresh (.own (base d 0) i.size (q.join i.qz) ys) (m0m q (ρ y)) 1) else none
     | none=>none
    | _,_=>none
   | _=>none
  | _,_=>none
 | .call ⟨.value f,args,_⟩=>match ρ f with
  | .clo g cap=>match c0t η (args.toList.map ρ++cap) with
   | some vs=>match den g (e0t (c.pz g) vs) with
    | some r=>y0l d (args.toList.map ρ++cap) r
    | none=>none
   | none=>none
  | _=>none
 | _=>none
def h0u (r:V)(cs:List V):V:=
 match r with
 | .agg _=>.agg cs
 | _=>cs.headD .undef
def g0v (xs:List V)(i o:Nat)(new:List V):Option (List V):=
 match xs[i]? with
 | some x=>match o0v x.cells o new with
  | some cs=>some (xs.set i (h0u x cs))
  | none=>none
 | none=>none
def b0b (c:Cfg)(st:St)(d:Option Nat)(op:Op):Option St:=
 match op with
 | .store t a x=>match c.ty t with
  | some i=>match ev st.t x with
   | v=>if v.cells.length=i.size∧d0m v.cells=true∧d=none then (match ev st.t a with
    | .ptr b o=>(match st.h.getD b none with
     | some r=>(match o0v r.cells o v.cells with
      | some cs=>some { st with h:=st.h.set b (some (h0u r cs)) }
      | none=>none)
     | none=>none)
    | .eptr b _ q xs k o=>if st.dead b=false∧(b0k (c0e i.nz v).cells).contains b=false then
      (match l0s (c0e i.nz v).cells with
      | some new=>(match g0v xs k o new with
       | some ys=>some (((st.sweep (c0v b (q.join (f0g (c0e i.nz v).cells)) ys)).kill (b0k (c0e i.nz v).cells)).mark (!a0i st.dead (b0k (c0e i.nz v).cells)))
       | none=>none)
      | none=>none) else none
    | _=>none) else none
  | none=>none
 | .call ⟨.builtin .append,args,ts⟩=>match args.toList,ts.toList,d with
  | [x,y],[t,t'],some d=>match c.ty t with
   | some ⟨.slice e,_,_,_,_,_,_⟩=>match c.ty e,ev st.t x with
    | some i,.own b s q xs=>match i0g s (ev st.t y) with
     | some (q',ys)=>
      if t' = t∧s=i.size∧i.size ≠ 0∧st.dead b=false∧(xs.length+ys.length) * i.bytes≤140737488355328∧xs.length+ys.length≤140737488355328∧b ≠ 999 then
       some ((({ st.sweep (a0h b) with t:=(st.sweep (a0h b)).t.set d (.own b s (q.join q') (xs++ys)) }:St).kill (m0m q' (ev st.t y))).mark (!a0i st.dead (m0m q' (ev st.t y)) || (m0m q' (ev st.t y)).contains b))
      else none
     | none=>none
    | _,_=>none
   | _=>none
  | _,_,_=>none
 | _=>none
def c0g (st:St):Op→Bool
 | .store _ _ _=>true
 | .call ⟨.builtin .append,args,_⟩=>match args.toList with
  | x :: _=>match ev st.t x with
   | .nil=>false
   | _=>true
  | _=>true
 | _=>false
def step (c:Cfg)(den:Nat→List V→Option V)(st:St)(o:Oper):Option St:=
 if c0g st o.op then b0b c st o.dst o.op else
 match o.dst with
 | none=>none
 | some d=>match a0d c den (ev st.t) (λ b=>st.h.getD b none) d o.op with
  | none=>none
  | some (.val v)=>some { st with t:=st.t.set d v }
  | some (.box r)=>if d < st.t.length∧d < st.h.length∧(st.h.getD d none).isNone=true∧st.freeP d=true∧r.anyP (λ b=>b == d)=false then
    some { st with t:=st.t.set d (.ptr d 0),h:=st.h.set d (some r) } else none
  | some (.fresh v esc n)=>if d < 1000∧n≤1000∧(n=0∨st.freeD d=true) then
    some ((({ st with t:=st.t.set d v }:St).kill esc).mark (!a0i st.dead esc)) else none
def wanted (ops:Array Oper)(t:List V)(o:Oper):Option Bool:=
 match o.guard with
 | none=>some true
 | some (j,want)=>match (ops[j]?).bind (·.dst) with
  | some d=>match t.getD d .undef with
   | .bool b=>some (b == want)
   | .tup []=>some false
   | _=>none
  | none=>some false
def d0g:V:=.tup []
def b0x (c:Cfg)(den:Nat→List V→Option V)(ops:Array Oper):List Oper→St→Option St
 | [],st=>some st
 | o :: os,st=>match wanted ops st.t o with
  | none=>none
  | some true=>(match step c den st o with
   | some st'=>b0x c den ops os st'
   | none=>none)
  | some false=>match o.dst with
   | some d=>b0x c den ops os { st with t:=st.t.set d d0g }
   | none=>b0x c den ops os st
def g0p (l:List Nat):List (Option V)→List Nat
 | []=>l
 | some v :: r=>g0p (v.bases l) r
 | none :: r=>g0p l r
def e0d (l:List Nat):V→Option V
 | .own b s q xs=>some (.own (a0v (l.idxOf b)) s q xs)
 | .view b s q xs=>some (.view (a0v (l.idxOf b)) s q xs)
 | .eptr b s q xs i o=>some (.eptr (a0v (l.idxOf b)) s q xs i o)
 | .vptr b x o=>some (.vptr (a0v (l.idxOf b)) x o)
 | _=>none
def b0s (dead:Nat→Bool):V→Option V
 | .own b s q xs=>if dead b then some (.sl s q.isFlat xs) else none
 | .view b s q xs=>if dead b then some (.sl s q.isFlat xs) else none
 | .eptr b _ _ xs i o=>if dead b then some (match xs[i]? with
  | some x=>.iptr x o
  | none=>.undef) else none
 | .vptr b x o=>if dead b then some (.iptr x o) else none
 | _=>none
def g0b (ds:List Nat)(k:Nat):List V→List V
 | []=>[]
 | v :: vs=>(if ds.contains k then .undef else v) :: g0b ds (k+1) vs
def f0z (ds:List Nat):V→Option V
 | .ptr d _=>if ds.contains d then some .undef else none
 | _=>none
def u0j (ds:List Nat)(k:Nat):List (Option V)→List (Option V)
 | []=>[]
 | x :: r=>(if ds.contains k then none else x) :: u0j ds (k+1) r
def a0g:Code→Nat
 | .region i _ _=>i
 | .seq a _=>a0g a
 | .cond _ a _=>a0g a
 | .block _ b=>a0g b
 | .loop b=>a0g b
 | _=>0
def St.canon (st:St):St:=
 let l:=V.basess (g0p [] st.h) st.t
 { st.sweep (e0d l) with dead:=λ _=>false }
def n1c (vw:Bool)(i s:Nat)(q:Q):V→V
 | .nil=>if vw then .view i s q [] else .own i s q []
 | .own b s' q' xs=>if vw then .view b s' q' xs else .own b s' q' xs
 | v=>v
def x0j (vw:Bool)(i s:Nat)(q:Q)(j:Nat):V→V
 | .agg cs=>.agg (cs.modify j (n1c vw i s q))
 | v=>n1c vw i s q v
def l0p (j:Nat):V→V
 | .agg cs=>cs.getD j .undef
 | v=>v
def f0k (j:Nat)(u:V):V→V
 | .agg cs=>.agg (cs.set j u)
 | _=>u
def St.take1 (st:St)(n:Nat):St:=
 match n / 2000000000 % 2 with
 | 0=>match l0p (n / 2000 % 1000) (st.t.getD (n / 2000000 % 1000) .undef) with
  | .view b s q xs=>{ st.sweep (a0h b) with t:=(st.sweep (a0h b)).t.set (n / 2000000 % 1000) (f0k (n / 2000 % 1000) (.own b s q xs) ((st.t.getD (n / 2000000 % 1000) .undef).mapB (a0h b))) }
  | _=>st
 | _=>match st.h.getD (n / 2000000 % 1000) none with
  | some r=>match l0p (n / 2000 % 1000) r with
   | .view b s q xs=>{ st.sweep (a0h b) with h:=(st.sweep (a0h b)).h.set (n / 2000000 % 1000) (some (f0k (n / 2000 % 1000) (.own b s q xs) (r.mapB (a0h b)))) }
   | _=>st
  | none=>st
def St.own1 (st:St)(i n:Nat):St:=
 if 8000000000≤n then st.take1 n else
 match n / 2000000000 % 2 with
 | 0=>{ st with t:=st.t.set (n / 2000000 % 1000) (x0j (decide (2≤n / 2000000000)) i (n / 2 % 1000) (if n % 2=1 then .clean else .flat) (n / 2000 % 1000) (st.t.getD (n / 2000000 % 1000) .undef)) }
 | _=>match st.h.getD (n / 2000000 % 1000) none with
  | some r=>{ st with h:=st.h.set (n / 2000000 % 1000) (some (x0j (decide (2≤n / 2000000000)) i (n / 2 % 1000) (if n % 2=1 then .clean else .flat) (n / 2000 % 1000) r)) }
  | none=>st
def St.owns:List Nat→Nat→St→St
 | [],_,st=>st
 | n :: ns,i,st=>St.owns ns (i+1) (if i < 999 then st.own1 i n else st)
def o0u (l:List Nat):List Nat:=l.filterMap λ x=>if x < 1000000000000 then none else some (x - 1000000000000)
def coarse (dup:Bool):V→Option V
 | .own b s .clean xs=>if dup then some (.own b s .any xs) else none
 | .view b s .clean xs=>if dup then some (.view b s .any xs) else none
 | .eptr _ _ _ _ _ _=>if dup then some .undef else none
 | _=>none
def St.calm (st:St):St:=
 match st.dup with
 | true=>{ st.sweep (coarse true) with dup:=false }
 | false=>st
def St.head0 (st:St)(fs:List Nat × List Nat):St:=
 let s1:St:={ st with t:=g0b fs.1 0 st.t }
 let s2:=(s1.sweep (f0z fs.2))
 let s3:St:={ s2 with h:=u0j fs.2 0 s2.h }
 let s4:=(s3.sweep (b0s s3.dead)).canon
 match o0u fs.2 with
 | []=>s4
 | ns=>(St.owns ns 0 s4).canon
def St.head (st:St)(fs:List Nat × List Nat):St:=st.calm.head0 fs
def v1j (c:Cfg)(op:Op):Option (Wr × Operand):=
 match op with
 | .call ⟨.value (.func f),args,_⟩=>match c.wr f,args.toList with
  | some g,[x]=>some (g,x)
  | _,_=>none
 | _=>none
def y0p (st:St)(d:Option Nat)(g:Wr)(x:Operand):Option St:=
  match ev st.t x,d with
  | .own b s q xs,some d=>if st.dead b=false∧b ≠ 999∧q = .flat∧s=g.s then
      (match g.g xs with
      | some (ys,n)=>some { st.sweep (c0v b .flat ys) with t:=(st.sweep (c0v b .flat ys)).t.set d (match g.v with
        | true=>.view b s .flat (ys.take n)
        | false=>.tup []) }
      | none=>none) else none
  | _,_=>none
def i0h (c:Cfg)(op:Op):Option (Nat × Io × List Operand):=
 match op with
 | .call ⟨.value (.func f),args,_⟩=>match c.io f with
  | some s=>some (f,s,args.toList)
  | none=>none
 | _=>none
def a0p (l:List Nat):V→Option V
 | .own b _ _ _=>if l.contains b then some .undef else none
 | .view b _ _ _=>if l.contains b then some .undef else none
 | .eptr b _ _ _ _ _=>if l.contains b then some .undef else none
 | .vptr b _ _=>if l.contains b then some .undef else none
 | _=>none
def c0b {α:Type}(p:Mode→Bool):List Mode→List α→List α
 | m :: ms,v :: vs=>match p m with
  | true=>v :: c0b p ms vs
  | false=>c0b p ms vs
 | _,_=>[]
def g1a:List V→Option (List Nat)
 | []=>some []
 | .ptr j 0 :: vs=>(g1a vs).map (j :: ·)
 | _ :: _=>none
def u0s:Nat→List Mode→List V→List V→List V
 | n,.mv :: ms,m :: vs,ds=>m :: u0s n ms vs ds
 | n,.data :: ms,vs,d :: ds=>d :: u0s n ms vs ds
 | n,.pt :: ms,vs,ds=>.ptr n 0 :: u0s (n+1) ms vs ds
 | _,_,_,_=>[]
def d1y (h:List (Option V)):List Nat→Option (List V)
 | []=>some []
 | j :: js=>match h.getD j none,d1y h js with
  | some r,some rs=>some (r :: rs)
  | _,_=>none
def q0k (vs:List V):List (List Nat):=(cellsOf vs).map c0f
def e0m (vs:List V):List Nat:=(q0k vs).flatten
structure IoPre where
  args:List V
  L:List Nat
  E:List Nat
  js:List Nat
def e0n (zs:List V)(vs:List V):List V:=f0l 0 zs (V.mapBs (r0p (q0k vs)) vs)
def m0w (c:Cfg)(st:St)(f:Nat)(s:Io)(az:List V):Option IoPre:=
 match g1a (c0b Mode.isPt s.md az) with
 | some js=>match d1y st.h js,c0t (λ b=>st.h.getD b none) (c0b Mode.isData s.md az) with
  | some bs,some ds=>
   if az.length=s.md.length∧s.md.length≤s.nt∧js.length=s.nb∧js.Nodup∧(q0k (c0b Mode.isMv s.md az++bs)).length < 999∧v0c (cellsOf (c0b Mode.isMv s.md az++bs))=true ∧
    V.anyBs (e0m (c0b Mode.isMv s.md az++bs)).contains (c0b Mode.isData s.md az)=false∧V.anyPs (λ _=>true) (c0b Mode.isData s.md az)=false then
    some ⟨u0s s.nt s.md ((e0n ((c.pz (1000000+f)).headD []) (c0b Mode.isMv s.md az++bs)).take (c0b Mode.isMv s.md az).length) (e0t (c.pz (1000000+f)).tail ds) ++
     (e0n ((c.pz (1000000+f)).headD []) (c0b Mode.isMv s.md az++bs)).drop (c0b Mode.isMv s.md az).length,
     e0m (c0b Mode.isMv s.md az++bs),V.basess [] (c0b Mode.isData s.md az),js⟩
   else none
  | _,_=>none
 | none=>none
def d0x (h:List (Option V)):List Nat→List V→List (Option V)
 | j :: js,b :: bs=>d0x (h.set j (some b)) js bs
 | _,_=>h
def k0h (st:St)(d:Nat)(s:Io)(p:IoPre)(r:V):Option St:=
 match r with
 | .tup outs=>
  let st1:=st.sweep (a0p p.L)
  let rs:=V.mapBs (d0t d) (outs.take (outs.length - p.js.length))
  let bs:=V.mapBs (d0t d) (outs.drop (outs.length - p.js.length))
  let esc:=if V.olds outs then p.E else []
  if d < 1000∧p.js.length≤outs.length∧V.anyBs (λ b=>decide (999≤b)) outs=false∧v0c (cellsOf outs)=true∧(V.anyBs (λ _=>true) outs=false∨st1.freeD d=true) then
   match s.rb,rs with
   | true,[x]=>if d < st.t.length∧d < st.h.length∧(st.h.getD d none).isNone=true∧st1.freeP d=true∧x.anyP (λ b=>b == d)=false then
     some ((({ st1 with t:=st1.t.set d (.ptr d 0),h:=(d0x st1.h p.js bs).set d (some x) }:St).kill esc).mark (!a0i st.dead esc)) else none
   | true,_=>none
   | false,[x]=>some ((({ st1 with t:=st1.t.set d x,h:=d0x st1.h p.js bs }:St).kill esc).mark (!a0i st.dead esc))
   | false,xs=>some ((({ st1 with t:=st1.t.set d (.tup xs),h:=d0x st1.h p.js bs }:St).kill esc).mark (!a0i st.dead esc))
  else none
 | _=>none
def h0e:V:=.ptr 0 0
def c0c (c:Cfg)(den:Nat→List V→Option V)(st:St)(d:Option Nat)(f:Nat)(s:Io)(az:List Operand):Option St:=
 match d with
 | some d=>match m0w c st f s (az.map (ev st.t)) with
  | some p=>match den f (h0e :: p.args) with
   | some r=>k0h st d s p r
   | none=>none
  | none=>none
 | none=>none
def m0o (c:Cfg)(den:Nat→List V→Option V)(st:St)(o:Oper):Option St:=
 match v1j c o.op with
 | some (g,x)=>y0p st o.dst g x
 | none=>match i0h c o.op with
  | some (f,s,az)=>c0c c den (st.head ([],[])) o.dst f s az
  | none=>step c den st o
def b0n (c:Cfg)(den:Nat→List V→Option V)(ops:Array Oper):List Oper→St→Option St
 | [],st=>some st
 | o :: os,st=>match wanted ops st.t o with
  | none=>none
  | some true=>(match m0o c den st o with
   | some st'=>b0n c den ops os st'
   | none=>none)
  | some false=>match o.dst with
   | some d=>b0n c den ops os { st with t:=st.t.set d d0g }
   | none=>b0n c den ops os st
def b0h (ops:Array Oper)(o:Oper):List Nat:=
 (o.op.operands.toList.filterMap λ | .tmp t=>some t | _=>none) ++
 (match o.guard with
  | some (j,_)=>((ops[j]?).bind (·.dst)).toList
  | none=>[])
def n0u:Op→Bool
 | .store _ _ _=>true
 | .call ⟨.builtin .append,_,_⟩=>true
 | _=>false
def l0z:Op→Bool
 | .alloc _=>true
 | .box _ _=>true
 | _=>false
def g0m (ops:Array Oper)(free:Bool)(a b:Oper):Bool:=
 (match a.dst with
  | some d=>(b0h ops b).contains d || b.dst == some d
  | none=>false) ||
 (match b.dst with
  | some d=>(b0h ops a).contains d
  | none=>false) ||
 ((n0u a.op || n0u b.op) && !free)
def r0q (ops:Array Oper):Nat→Nat→Nat→Bool
 | 0,_,_=>false
 | k+1,j,i=>match ops[j]? with
  | some o=>o.after.toList.any λ e=>Region.binds .any e && (e.on == i || r0q ops k e.on i)
  | none=>false
def d0v (o:Oper):Option Nat:=
 match o.op,o.dst with
 | .fieldAddr _ (.tmp x) _,some _=>some x
 | _,_=>none
def f0m (o:Oper):Option Nat:=
 match o.op with
 | .call ⟨.builtin .append,args,_⟩=>match args.toList with
  | .tmp x :: _=>some x
  | _=>none
 | _=>none
def a1f:Op→Bool
 | .move _=>true
 | .load _ _=>true
 | .binOp _ _ _ _ _=>true
 | .indexAddr _ _ _=>true
 | .slice _ _ _ _ none=>true
 | .buildSlice _ _ _=>true
 | .fieldAddr _ _ _=>true
 | _=>false
def t1p:Op→Bool
 | .store _ _ _=>true
 | _=>false
def d1b (ops:Array Oper)(x:Nat):Option Nat:=(List.range ops.size).find? λ i=>match ops[i]? with
 | some o=>o.dst == some x
 | none=>false
def g0i (ops:Array Oper):Nat→Nat→Option Nat
 | 0,_=>none
 | k+1,j=>match ops[j]? with
  | some o=>match o.op with
   | .buildSlice _ _ _=>o.dst
   | _=>match f0m o with
    | some x=>match d1b ops x with
     | some i=>if o.after.toList.any (λ e=>Region.binds .any e && e.on == i) then g0i ops k i else none
     | none=>none
    | none=>none
  | none=>none
def j1d (ops:Array Oper):Bool:=match ops[ops.size - 1]? with
 | some o=>(List.range (ops.size - 1)).all λ i=>o.after.toList.any λ e=>Region.binds .any e && e.on == i
 | none=>false
def h1q (ops:Array Oper):List Oper:=if j1d ops then ops.toList.dropLast else ops.toList
def f1m (ops:Array Oper)(e:Nat):List Nat:=
 (h1q ops).foldl (λ T o=>if (b0h ops o).any T.contains then (match o.dst with
  | some d=>d :: T
  | none=>T) else T) [e]
def k0u (ops:Array Oper)(e:Nat)(T:List Nat):Bool:=
 T.contains e && e != 0 && (h1q ops).all λ o=>!t1p o.op && (match o.dst with
  | some d=>if T.contains d then !l0z o.op else !(b0h ops o).any T.contains
  | none=>!(b0h ops o).any T.contains)
def l0m (ops:Array Oper)(i:Nat)(a b:Oper):Bool:=
 a1f b.op && (f0m a).isSome && match g0i ops ops.size i with
 | some e=>k0u ops e (f1m ops e) && !(b0h ops b).any (f1m ops e).contains && (match b.dst with
  | some d=>!(f1m ops e).contains d
  | none=>true)
 | none=>false
def u0u:Op→Bool
 | .extract _ _=>true
 | .move _=>true
 | .assign _=>true
 | .pick _ _ _=>true
 | .binOp _ _ _ _ _=>true
 | _=>false
def d0q (o:Oper):Bool:=u0u o.op && o.dst.isSome
def m0d (ops:Array Oper)(B:List Nat):Bool:=
 let l:=ops.toList
 let ds:=l.filterMap (·.dst)
 ds.all (λ d=>decide (d < 1000)) && (decide ds.Nodup) &&
 B.all (λ i=>match (ops[i]?).bind d0v with
  | some x=>!ds.contains x
  | none=>false) &&
 (List.range l.length).all λ j=>match ops[j]? with
  | some b=>b.after.toList.all (λ e=>decide (e.on < j) || !Region.binds .any e) && (List.range j).all λ i=>match ops[i]? with
   | some a=>!g0m ops (((B.contains i || B.contains j) || (d0q a || d0q b)) || (l0m ops i a b || l0m ops j b a)) a b || r0q ops l.length j i
   | none=>true
  | none=>true
def b0t (ops:Array Oper)(B:List Nat)(st:St):Bool:=
 B.all (λ i=>match (ops[i]?).bind d0v with
  | some x=>(match st.t.getD x .undef with
   | .ptr _ _=>true
   | _=>false)
  | none=>false) &&
 ops.toList.all λ o=>match o.dst with
  | some d=>!l0z o.op || (!V.anyPs (λ d'=>d' == d) st.t && !l0j (λ d'=>d' == d) st.h)
  | none=>true
def c0d (io:Nat→Option Io)(op:Op):Bool:=
 match op with
 | .call ⟨.value (.func f),_,_⟩=>(io f).isSome
 | _=>false
def j2g (io:Nat→Option Io)(ops:Array Oper):Bool:=ops.toList.any λ o=>c0d io o.op
def unw (ops:Array Oper)(x:Nat):Bool:=ops.toList.all λ o=>o.dst != some x
def m0f (ops:Array Oper)(x:Nat):Option Nat:=
 if unw ops x then some x else match ops.toList.find? λ o=>o.dst == some x with
 | some o=>match o.guard,o.op with
  | none,.move (.tmp r)=>if unw ops r then some r else none
  | none,.fieldAddr _ (.tmp r) _=>if unw ops r then some r else none
  | _,_=>none
 | none=>none
def d0d (ops:Array Oper)(o:Oper):Bool:=
 match o.guard,o.op,o.dst with
 | none,.move (.tmp x),some _=>unw ops x
 | none,.fieldAddr _ (.tmp x) _,some _=>unw ops x
 | none,.load _ (.tmp x),some _=>(m0f ops x).isSome
 | _,_,_=>false
def j1i (io:Nat→Option Io)(ops:Array Oper)(a b:Oper):Bool:=
 (d0d ops a && c0d io b.op && b.guard.isNone) || (d0d ops b && c0d io a.op && a.guard.isNone)
def r0e (o:Oper):Option Nat:=
 match o.guard,o.op with
 | none,.store _ (.tmp y) _=>some y
 | _,_=>none
def i0e (ops:Array Oper)(a b:Oper):Bool:=(d0d ops a && (r0e b).isSome) || (d0d ops b && (r0e a).isSome)
def r1e:Op→Bool
 | .load _ _=>true
 | _=>false
def k2e (ops:Array Oper):Bool:=(List.range ops.size).any λ q=>match ops[q]? with
 | some b=>(List.range q).any λ p=>match ops[p]? with
  | some a=>((r1e a.op && (r0e b).isSome) || (r1e b.op && (r0e a).isSome)) && i0e ops a b && !r0q ops ops.size q p
  | none=>false
 | none=>false
def z0t (io:Nat→Option Io)(ops:Array Oper):Bool:=j2g io ops || k2e ops
def g0d:V→Bool
 | .bool _=>true
 | .int _ _=>true
 | .str _=>true
 | .ptr _ _=>true
 | _=>false
def y0m:List Operand→Option (List Nat)
 | []=>some []
 | .tmp x :: r=>(y0m r).map (x :: ·)
 | _ :: _=>none
def o1b (io:Nat→Option Io)(op:Op):Option (List Nat):=
 match op with
 | .call ⟨.value (.func f),args,_⟩=>match io f with
  | some s=>y0m (c0b Mode.isPt s.md args.toList)
  | none=>none
 | _=>none
def h0s (st:St)(x:Nat):Option Nat:=
 match st.t.getD x .undef with
 | .ptr X _=>some X
 | _=>none
def k0w (io:Nat→Option Io)(ops:Array Oper)(st:St)(a b:Oper):Bool:=
 match a.op with
 | .move (.tmp x)=>g0d (st.t.getD x .undef)
 | .fieldAddr _ (.tmp x) _=>(h0s st x).isSome
 | .load _ (.tmp x)=>match (m0f ops x).bind (h0s st),o1b io b.op with
  | some X,some ys=>b.dst != some X && ys.all λ y=>match (m0f ops y).bind (h0s st) with
   | some J=>J != X
   | none=>false
  | _,_=>false
 | _=>false
def j0q (ops:Array Oper)(st:St)(a b:Oper):Bool:=
 match a.op with
 | .move (.tmp x)=>g0d (st.t.getD x .undef)
 | .fieldAddr _ (.tmp x) _=>(h0s st x).isSome
 | .load _ (.tmp x)=>match (m0f ops x).bind (h0s st),(r0e b).bind λ y=>(m0f ops y).bind (h0s st) with
  | some X,some Y=>X != Y
  | _,_=>false
 | _=>false
def h0q (io:Nat→Option Io)(ops:Array Oper)(st:St):Bool:=
 (List.range ops.size).all λ q=>match ops[q]? with
  | some b=>(List.range q).all λ p=>match ops[p]? with
   | some a=>(!(c0d io a.op || c0d io b.op) || r0q ops ops.size q p || (if c0d io b.op then k0w io ops st a b else k0w io ops st b a)) &&
    (!(i0e ops a b && !d0q a && !d0q b) || r0q ops ops.size q p || (if (r0e b).isSome then j0q ops st a b else j0q ops st b a))
   | none=>true
  | none=>true
def n0o (ops:Array Oper):List Nat:=ops.toList.filterMap λ o=>if d0d ops o then o.dst else none
def p0d (ops:Array Oper):Bool:=(List.range ops.size).any λ i=>match ops[i]? with
 | some o=>(f0m o).isSome && (g0i ops ops.size i).isSome
 | none=>false
def m0e (io:Nat→Option Io)(ops:Array Oper):Bool:=
 let l:=ops.toList
 let ds:=l.filterMap (·.dst)
 ds.all (λ d=>decide (d < 1000)) && (decide ds.Nodup) && (!p0d ops && l.all (λ o=>match o.dst with
  | some d=>!((d0d ops o || c0d io o.op || (r0e o).isSome) && (b0h ops o).contains d)
  | none=>true)) &&
 (List.range l.length).all λ j=>match ops[j]? with
  | some b=>b.after.toList.all (λ e=>decide (e.on < j) || !Region.binds .any e) && (List.range j).all λ i=>match ops[i]? with
   | some a=>(!(g0m ops (d0q a || d0q b || i0e ops a b) a b || ((c0d io a.op || c0d io b.op) && !(j1i io ops a b && !g0m ops false a b))) || r0q ops l.length j i) && !((d0d ops a || c0d io a.op || (r0e a).isSome) && (match b.dst with
    | some d=>(b0h ops a).contains d
    | none=>false))
   | none=>true
  | none=>true
def stepB (c:Cfg)(den:Nat→List V→Option V)(ops:Array Oper)(st:St)(o:Oper):Option St:=
 match i0h c o.op with
 | some (f,s,az)=>match c0c c den (st.head ([],[])) o.dst f s az with
  | some s'=>match b0t ops [] (s'.head ([],[])) with
   | true=>some (s'.head ([],[]))
   | false=>none
  | none=>none
 | none=>step c den st o
def b0g (c:Cfg)(den:Nat→List V→Option V)(ops:Array Oper):List Oper→St→Option St
 | [],st=>some st
 | o :: os,st=>match wanted ops st.t o with
  | none=>none
  | some true=>(match stepB c den ops st o with
   | some st'=>b0g c den ops os st'
   | none=>none)
  | some false=>match o.dst with
   | some d=>b0g c den ops os { st with t:=st.t.set d d0g }
   | none=>b0g c den ops os st
def St.headW (st:St)(l:List Nat):St:=
 match l with
 | []=>st
 | l=>st.head ([],l)
inductive Ex where
  | normal
  | exit (id:Nat)
  | ret
def g0n (body:St→Option (Ex × St))(hd:St→St):Nat→St→Option (Ex × St)
 | 0,_=>none
 | k+1,st=>match body (hd st) with
  | some (.normal,s)=>g0n body hd k s
  | r=>r
abbrev s1l:=Nat→List Nat × List Nat × List Nat
abbrev w0j:=(St→Option (Ex × St))→(St→St)→St→Option (Ex × St)
def d0p (c:Cfg)(den:Nat→List V→Option V)(L:w0j)(g:s1l):Code→St→Option (Ex × St)
 | .skip,st=>some (.normal,st)
 | .region i ops draw,st=>
  if draw then
   match z0t c.io ops with
   | true=>if b0t ops [] (st.head (n0o ops,(g (2000+i)).2.1)) && h0q c.io ops (st.head (n0o ops,(g (2000+i)).2.1)) then (b0g c den ops ops.toList (st.head (n0o ops,(g (2000+i)).2.1))).map λ s=>(.normal,s) else none
   | false=>if b0t ops (g i).2.2 (st.head ([],(g (2000+i)).2.1)) then (b0x c den ops ops.toList (st.head ([],(g (2000+i)).2.1))).map λ s=>(.normal,s) else none
  else (b0n c den ops ops.toList (st.headW (g (2000+i)).2.1)).map λ s=>(.normal,s)
 | .seq a b,st=>match d0p c den L g a st with
  | some (.normal,s)=>d0p c den L g b s
  | r=>r
 | .cond x a b,st=>match ev st.t x with
  | .bool true=>d0p c den L g a st
  | .bool false=>d0p c den L g b st
  | _=>none
 | .block i b,st=>match d0p c den L g b st with
  | some (.exit j,s)=>if j=i then some (.normal,s) else some (.exit j,s)
  | r=>r
 | .loop b,st=>(L (d0p c den L g b) (λ s=>s.head ((g (a0g b)).1,(g (a0g b)).2.1)) st).map λ r=>(r.1,r.2.head ((g (1000+a0g b)).1,(g (1000+a0g b)).2.1))
 | .exit i,st=>some (.exit i,st)
 | .ret,st=>some (.ret,st)
 | _,_=>none
def k1g (c:Cfg)(st:St):ResultVar→Option V
 | .tmp t=>some (st.t.getD t .undef)
 | .cell a t=>match c.ty t with
  | some i=>i0f (λ b=>st.h.getD b none) i (st.t.getD a .undef)
  | none=>none
def q0r (c:Cfg)(st:St):List ResultVar→Option (List V)
 | []=>some []
 | r :: rs=>match k1g c st r,q0r c st rs with
  | some v,some vs=>some (v :: vs)
  | _,_=>none
def w0w (c:Cfg)(zs:List V)(st:St)(rs:List ResultVar):Option V:=
 match q0r c st rs with
 | some vs=>
  let v1:=V.mapBs (b0s st.dead) (V.mapBs (coarse st.dup) vs)
  let cs:=cellsOf v1
  if v0c cs then (match f0l 0 zs (V.mapBs (r0p (cs.map c0f)) v1) with
   | [w]=>some w
   | ws=>some (.tup ws)) else none
 | none=>none
def d0f (io:Nat→Option Io)(g:s1l):Code→Bool
 | .region i ops draw=>!draw || (match z0t io ops with
  | true=>m0e io ops
  | false=>m0d ops (g i).2.2)
 | .seq a b=>d0f io g a && d0f io g b
 | .cond _ a b=>d0f io g a && d0f io g b
 | .block _ b=>d0f io g b
 | .loop b=>d0f io g b
 | _=>true
def o0j (c:Cfg)(den:Nat→List V→Option V)(L:w0j)(f:Nat)(fn:Func)(args:List V):Option V:=
 match fn.body with
 | none=>none
 | some code=>if d0f c.io (c.fg f) code=false then none else match d0p c den L (c.fg f) code ⟨args++List.replicate (fn.ntmps - args.length) .undef,List.replicate fn.ntmps none,λ _=>false,false⟩ with
  | some (.ret,s)=>w0w c (c.rz f) s fn.results.toList
  | some (.normal,s)=>w0w c (c.rz f) s fn.results.toList
  | _=>none
def n1b (s:Io)(args:List V):St:=⟨args.take s.md.length++List.replicate (s.nt - s.md.length) .undef,List.replicate s.nt none++(args.drop s.md.length).map some,λ _=>false,false⟩
def d1z:List (Option V)→Option (List V)
 | []=>some []
 | some v :: r=>(d1z r).map (v :: ·)
 | none :: _=>none
def z1g (st:St)(s:Io)(vs:List V):Option (List V):=
 match s.rb,vs with
 | false,vs=>some vs
 | true,[.ptr e 0]=>if e < s.nt then (st.h.getD e none).map λ r=>[r] else none
 | true,_=>none
def h0m (c:Cfg)(zs:List V)(st:St)(s:Io)(rs:List ResultVar):Option V:=
 match q0r c st rs with
 | some vs=>match z1g st s vs,d1z (st.h.drop s.nt) with
  | some vs,some bs=>
   if bs.length=s.nb∧v0c (cellsOf (V.mapBs (b0s st.dead) (V.mapBs (coarse st.dup) (vs++bs))))=true then some (.tup (e0n zs (V.mapBs (b0s st.dead) (V.mapBs (coarse st.dup) (vs++bs))))) else none
  | _,_=>none
 | none=>none
def g0a (c:Cfg)(den:Nat→List V→Option V)(L:w0j)(f:Nat)(s:Io)(fn:Func)(args:List V):Option V:=
 match fn.body with
 | none=>none
 | some code=>if d0f c.io (c.fg (1000000+f)) code=false then none else if fn.ntmps=s.nt then (match d0p c den L (c.fg (1000000+f)) code (n1b s args) with
  | some (.ret,st)=>h0m c (c.rz (1000000+f)) st s fn.results.toList
  | some (.normal,st)=>h0m c (c.rz (1000000+f)) st s fn.results.toList
  | _=>none) else none
def g0r:List V→Option (List V)
 | .ptr 0 0 :: r=>some r
 | _=>none
def j0y (P:Program)(c:Cfg)(ext:Nat→List V→Option V):Nat→Nat→List V→Option V
 | 0,_,_=>none
 | k+1,f,args=>match g0r args with
  | some as=>match c.io f,P.funcs[f]? with
   | some s,some fn=>if fn.name == "runtime.NumGoroutine" then none else g0a c (j0y P c ext k) (λ b hd st=>g0n b hd k st) f s fn as
   | _,_=>none
  | none=>match ext f args with
  | some r=>some r
  | none=>match P.funcs[f]? with
   | some fn=>if fn.name == "runtime.NumGoroutine" then none else o0j c (j0y P c ext k) (λ b hd st=>g0n b hd k st) f fn args
   | none=>none
end Go.Am
