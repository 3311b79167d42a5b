/-
  Proved: lemmas for Rows.FnFormatsCardSaid.
-/
import Derived.Below
import Derived.Calls
import Derived.Orders
import Derived.KernelRfl
set_option linter.all false
namespace Go.Am
open Go
theorem aK {α:Type _}{a b:α}:(some a=some b)=(a=b):=Option.some.injEq a b
theorem bW {α:Type _}{l:List α}{i:Nat}{a:α}(h:l[i]?=some a):∃h:i<l.length,l[i]=a:=List.getElem?_eq_some_iff.1 h
inductive Q where
  |flat
  |clean
  |any
  deriving DecidableEq,Inhabited
def Q.join:Q->Q->Q
 |.flat,q=>q
 |.clean,.flat=>.clean
 |.clean,q=>q
 |.any,_=>.any
def Q.isFlat:Q->Bool
 |.flat=>true
 |_=>false
def Q.good:Q->Bool
 |.any=>false
 |_=>true
inductive V where
  |undef
  |bool (b:Bool)
  |int (k:IntKind) (n:Int)
  |str (s:List UInt8)
  |nil
  |sl (s:Nat) (fl:Bool) (xs:List V)
  |own (b s:Nat) (q:Q) (xs:List V)
  |view (b s:Nat) (q:Q) (xs:List V)
  |ptr (d off:Nat)
  |eptr (b s:Nat) (q:Q) (xs:List V) (i off:Nat)
  |vptr (b:Nat) (x:V) (off:Nat)
  |iptr (x:V) (off:Nat)
  |agg (cs:List V)
  |tup (vs:List V)
  |clo (f:Nat) (cap:List V)
  deriving Inhabited
def V.cells:V->List V
 |.agg cs=>cs
 |v=>[v]
def V.isDef:V->Bool
 |.undef=>false
 |_=>true
def V.isCell:V->Bool
 |.undef=>false
 |.agg _=>false
 |.tup _=>false
 |_=>true
def cI:List V->Bool
 | []=>true
 |v :: vs=>v.isCell&&cI vs
inductive Ty where
  |bool
  |int (k:IntKind)
  |str
  |slice (e:Nat)
  |struct (fs:List (Nat×Nat))
  |array (n e:Nat)
  |ptr (e:Nat)
  |other
structure TyInfo where
  d:Ty
  size:Nat
  bytes:Nat
  zero:V
  cmp:Bool
  nz:List V
  qz:Q
def aR (dead:Nat->Bool):List Nat->Bool
 | []=>true
 |b :: l=>(b==999||(!dead b && !l.contains b))&&aR dead l
structure St where
  t:List V
  h:List (Option V)
  dead:Nat->Bool
  dup:Bool
def St.kill (a:St)(l:List Nat):St:={ a with dead:=λb=>l.contains b||a.dead b }
def St.mark (a:St)(x:Bool):St:={ a with dup:=x||a.dup }
structure Wr where
  s:Nat
  g:List V->Option (List V×Nat)
  v:Bool
inductive Mode where
  |data
  |mv
  |pt
def Mode.isMv:Mode->Bool
 |.mv=>true
 |_=>false
def Mode.isData:Mode->Bool
 |.data=>true
 |_=>false
def Mode.isPt:Mode->Bool
 |.pt=>true
 |_=>false
structure Io where
  md:List Mode
  nt:Nat
  nb:Nat
  rb:Bool
structure Cfg where
  ty:Nat->Option TyInfo
  fg:Nat->Nat->List Nat×List Nat
  pz:Nat->List (List V)
  rz:Nat->List V
  wr:Nat->Option Wr:=λ_=>none
  io:Nat->Option Io:=λ_=>none
def Ty.isAgg:Ty->Bool
 |.struct _=>true
 |.array _ _=>true
 |_=>false
def base (d j:Nat):Nat:=d*1000+j
def am (k:Nat):Nat:=1000000+k
def Ez:Value->V
 |.bool b=>.bool b
 |.int k n=>.int k n
 |.string s=>.str s.data.toList
 |.slice none 0 0=>.nil
 |_=>.undef
def ev (t:List V):Operand->V
 |.tmp i=>t.getD i .undef
 |.const v=>Ez v
 |.func f=>.clo f []
 |.global _=>.undef
mutual
def V.mapB (f:V->Option V):V->V
 |.agg cs=>.agg (V.mapBs f cs)
 |.tup vs=>.tup (V.mapBs f vs)
 |.clo g cs=>.clo g (V.mapBs f cs)
 |v=>(f v).getD v
def V.mapBs (f:V->Option V):List V->List V
 | []=>[]
 |v :: vs=>V.mapB f v :: V.mapBs f vs
end
def aq (b:Nat):V->Option V
 |.own b' _ _ _=>if b'=b then some .undef else none
 |.view b' _ _ _=>if b'=b then some .undef else none
 |.eptr b' _ _ _ _ _=>if b'=b then some .undef else none
 |.vptr b' _ _=>if b'=b then some .undef else none
 |_=>none
def cR (b:Nat)(q:Q)(ys:List V):V->Option V
 |.own b' s _ _=>if b'=b then some (.own b s q ys)else none
 |.view b' _ _ _=>if b'=b then some .undef else none
 |.eptr b' _ _ _ _ _=>if b'=b then some .undef else none
 |.vptr b' _ _=>if b'=b then some .undef else none
 |_=>none
mutual
def V.anyB (p:Nat->Bool):V->Bool
 |.own b _ _ _=>p b
 |.view b _ _ _=>p b
 |.eptr b _ _ _ _ _=>p b
 |.vptr b _ _=>p b
 |.agg cs=>V.anyBs p cs
 |.tup cs=>V.anyBs p cs
 |.clo _ cs=>V.anyBs p cs
 |_=>false
def V.anyBs (p:Nat->Bool):List V->Bool
 | []=>false
 |v :: vs=>V.anyB p v||V.anyBs p vs
end
mutual
def V.anyP (p:Nat->Bool):V->Bool
 |.ptr d _=>p d
 |.agg cs=>V.anyPs p cs
 |.tup cs=>V.anyPs p cs
 |.clo _ cs=>V.anyPs p cs
 |_=>false
def V.anyPs (p:Nat->Bool):List V->Bool
 | []=>false
 |v :: vs=>V.anyP p v||V.anyPs p vs
end
def vX (p:Nat->Bool):List (Option V)->Bool
 | []=>false
 |some v :: r=>v.anyB p||vX p r
 |none :: r=>vX p r
def vY (p:Nat->Bool):List (Option V)->Bool
 | []=>false
 |some v :: r=>v.anyP p||vY p r
 |none :: r=>vY p r
def St.freeD (a:St)(d:Nat):Bool:=!V.anyBs (λb=>b/1000==d) (a.t.set d .undef) && !vX (λb=>b/1000==d) a.h
def St.freeP (b:St)(d:Nat):Bool:=!V.anyPs (λa=>a==d) (b.t.set d .undef) && !vY (λa=>a==d) b.h
def jz (f:V->Option V):List (Option V)->List (Option V)
 | []=>[]
 |some v :: r=>some (v.mapB f) :: jz f r
 |none :: r=>none :: jz f r
def St.sweep (a:St)(f:V->Option V):St:=⟨V.mapBs f a.t,jz f a.h,a.dead,a.dup⟩
def flat:V->Option V
 |.bool b=>some (.bool b)
 |.int k n=>some (.int k n)
 |.str s=>some (.str s)
 |.nil=>some .nil
 |.sl s f xs=>some (.sl s f xs)
 |.own _ s q xs=>some (.sl s q.isFlat xs)
 |.view _ s q xs=>some (.sl s q.isFlat xs)
 |_=>none
def iu:List V->Option (List V)
 | []=>some []
 |v :: vs=>match flat v,iu vs with
  |some x,some xs=>some (x :: xs)
  |_,_=>none
def gD:V->Option V
 |.agg cs=>(iu cs).map .agg
 |v=>flat v
def ek:List V->Option (List V)
 | []=>some []
 |v :: vs=>match gD v,ek vs with
  |some x,some xs=>some (x :: xs)
  |_,_=>none
def fa:V->Q
 |.bool _=>.flat
 |.int _ _=>.flat
 |.str _=>.flat
 |.nil=>.flat
 |.own _ _ q _=>if q.good then .clean else .any
 |.view _ _ q _=>if q.good then .clean else .any
 |_=>.any
def c_:List V->Q
 | []=>.flat
 |v :: vs=>(fa v).join (c_ vs)
def ym (v:V):Q:=c_ v.cells
def pj:List V->Q
 | []=>.flat
 |v :: vs=>(ym v).join (pj vs)
def bF:V->List Nat
 |.own b _ _ _=>[b]
 |.view b _ _ _=>[b]
 |_=>[]
def bB:List V->List Nat
 | []=>[]
 |v :: vs=>bF v++bB vs
def kG:List V->List Nat
 | []=>[]
 |v :: vs=>bB v.cells++kG vs
def eJ (q:Q)(v:V):List Nat:=
 match q with
 |.clean=>bF v
 |_=>[]
def d_ (z v:V):V:=
 match v,z with
 |.nil,.view _ s q _=>.view 999 s q []
 |v,_=>v
def dO:List V->List V->List V
 |z :: zs,v :: vs=>d_ z v :: dO zs vs
 |_,vs=>vs
def bZ (zs:List V)(v:V):V:=
 match v with
 |.agg cs=>.agg (dO zs cs)
 |v=>match zs with
  |z :: _=>d_ z v
  | []=>v
def dT (zs:List V):List V->List V
 | []=>[]
 |v :: vs=>bZ zs v :: dT zs vs
def fe (z v:V):V:=
 match v,z with
 |.nil,.view _ s q _=>.sl s q.isFlat []
 |v,_=>v
def dB:List V->List V->List V
 |z :: zs,v :: vs=>fe z v :: dB zs vs
 |_,vs=>vs
def uN (zs:List V)(v:V):V:=
 match v with
 |.agg cs=>.agg (dB zs cs)
 |v=>match zs with
  |z :: _=>fe z v
  | []=>v
def cx:List (List V)->List V->List V
 |zs :: a,v :: vs=>uN zs v :: cx a vs
 |_,vs=>vs
def kT (j:Nat)(z v:V):V:=
 match z,v with
 |.own _ s q _,.nil=>.own j s q []
 |.view _ s q _,.nil=>.view j s q []
 |.view _ _ _ _,.own b s q xs=>.view b s q xs
 |.sl s f _,.nil=>.sl s f []
 |.tup _,.agg cs=>.agg cs
 |.tup _,_=>.undef
 |_,v=>v
def fj:Nat->List V->List V->List V
 |j,z :: zs,v :: vs=>kT j z v :: fj (j+1) zs vs
 |_,_,vs=>vs
def nP (j:Nat)(zs:List V)(v:V):V:=
 match v with
 |.agg cs=>.agg (fj j zs cs)
 |v=>match zs with
  |z :: _=>kT j z v
  | []=>v
def dU:Nat->List V->List V->List V
 |_,_,[]=>[]
 |j,zs,v :: vs=>nP j zs v :: dU (j+v.cells.length) (zs.drop v.cells.length) vs
mutual
def eE (η:Nat->Option V):V->Option V
 |.bool b=>some (.bool b)
 |.int k n=>some (.int k n)
 |.str s=>some (.str s)
 |.nil=>some .nil
 |.sl s f xs=>some (.sl s f xs)
 |.own _ s q xs=>some (.sl s q.isFlat xs)
 |.view _ s q xs=>some (.sl s q.isFlat xs)
 |.iptr x o=>some (.iptr x o)
 |.vptr _ x o=>some (.iptr x o)
 |.eptr _ _ _ xs i o=>match xs[i]? with
  |some x=>some (.iptr x o)
  |none=>none
 |.ptr d o=>match η d with
  |some r=>(iu r.cells).map λcs=>.iptr (.agg cs) o
  |none=>none
 |.agg cs=>(cE η cs).map .agg
 |.tup cs=>(cE η cs).map .tup
 |.clo f cs=>(cE η cs).map (.clo f)
 |.undef=>none
def cE (η:Nat->Option V):List V->Option (List V)
 | []=>some []
 |v :: vs=>match eE η v,cE η vs with
  |some x,some xs=>some (x :: xs)
  |_,_=>none
end
def cM (d:Nat):V->Option V
 |.own b s q xs=>some (.own (base d b) s q xs)
 |.view b s q xs=>some (.view (base d b) s q xs)
 |.eptr _ _ _ _ _ _=>some .undef
 |.vptr _ _ _=>some .undef
 |.ptr _ _=>some .undef
 |_=>none
mutual
def V.old:V->Bool
 |.sl _ _ _=>true
 |.iptr _ _=>true
 |.own _ _ q _=>!q.good
 |.view _ _ q _=>!q.good
 |.eptr _ _ _ _ _ _=>true
 |.vptr _ _ _=>true
 |.ptr _ _=>true
 |.agg cs=>V.olds cs
 |.tup cs=>V.olds cs
 |.clo _ cs=>V.olds cs
 |_=>false
def V.olds:List V->Bool
 | []=>false
 |v :: vs=>V.old v||V.olds vs
end
def dC:V->Bool
 |.undef=>true
 |.bool _=>true
 |.int _ _=>true
 |.str _=>true
 |.nil=>true
 |.sl _ _ _=>true
 |.own _ _ _ _=>true
 |.view _ _ _ _=>true
 |.iptr _ _=>true
 |_=>false
def me:List V->Bool
 | []=>true
 |v :: vs=>dC v&&me vs
def cellsOf:List V->List V
 | []=>[]
 |v :: vs=>v.cells++cellsOf vs
def gh (l:List (List Nat)):V->Option V
 |.own b s q xs=>some (.own (l.idxOf [b]) s q xs)
 |.view b s q xs=>some (.view (l.idxOf [b]) s q xs)
 |_=>none
def yT:List UInt8->List UInt8->Bool:=Op.bytesLess
def xz (c:BinOp)(a b:Int):Option Bool:=
 match c with
 |.eql=>some (a==b)
 |.neq=>some (a != b)
 |.lss=>some (decide (a<b))
 |.leq=>some (decide (a<=b))
 |.gtr=>some (decide (a>b))
 |.geq=>some (decide (a >= b))
 |_=>none
def Dy (c:BinOp)(a b:Int):Option Int:=
 match c with
 |.add=>some (a+b)
 |.sub=>some (a-b)
 |.mul=>some (a*b)
 |.quo=>if b=0 then none else some (a.tdiv b)
 |_=>none
def mM (c:BinOp)(k:IntKind)(a b:Int):Int:=
 match c with
 |.and=>k.wrap (BitVec.ofInt k.bits a &&& BitVec.ofInt k.bits b).toNat
 |.or=>k.wrap (BitVec.ofInt k.bits a ||| BitVec.ofInt k.bits b).toNat
 |_=>k.wrap (BitVec.ofInt k.bits a ^^^ BitVec.ofInt k.bits b).toNat
def yq (k:IntKind)(a b:Int):Int:=a.fdiv (2 ^ min b.toNat k.bits)
def wI (c:BinOp)(k:IntKind)(a b:Int):Option V:=
 match c with
 |.and=>some (.int k (mM .and k a b))
 |.or=>some (.int k (mM .or k a b))
 |.xor=>some (.int k (mM .xor k a b))
 |.shl=>none
 |.shr=>none
 |.rem=>if b=0 then none else some (.int k (a.tmod b))
 |_=>match xz c a b with
  |some r=>some (.bool r)
  |none=>(Dy c a b).map λn=>.int k (k.wrap n)
def AL (c:BinOp)(a b:List UInt8):Option V:=
 match c with
 |.add=>if a.length+b.length<=9223372036854775807 then some (.str (a++b))else none
 |.eql=>some (.bool (a==b))
 |.neq=>some (.bool !(a==b))
 |.lss=>some (.bool (yT a b))
 |.leq=>some (.bool (yT a b||a==b))
 |.gtr=>some (.bool !(yT a b||a==b))
 |.geq=>some (.bool !(yT a b))
 |_=>none
def uF:V->V->Option Bool
 |.bool a,.bool b=>some (a==b)
 |.int k a,.int c b=>if k=c then some (a==b)else none
 |.str a,.str b=>some (a==b)
 |_,_=>none
def bS:List V->List V->Option Bool
 | [],[]=>some true
 |a :: az,b :: c=>match uF a b,bS az c with
  |some x,some y=>some (x&&y)
  |_,_=>none
 |_,_=>none
def dE:V->V->Bool
 |.bool _,.bool _=>true
 |.int k _,.int a _=>decide (k=a)
 |.str _,.str _=>true
 |_,_=>false
def aX:List V->List V->Bool
 | [],[]=>true
 |a :: az,b :: c=>dE a b&&aX az c
 |_,_=>false
def vb (i:TyInfo)(c:BinOp):V->V->Option V
 |.bool a,.bool b=>match i.d,c with
  |.bool,.eql=>some (.bool (a==b))
  |.bool,.neq=>some (.bool !(a==b))
  |_,_=>none
 |.int k a,.int e b=>match c with
  |.shr=>if b<0 then none else some (.int k (yq k a b))
  |_=>if k=e then wI c k a b else none
 |.str a,.str b=>AL c a b
 |.agg a,.agg b=>match i.cmp&&aX i.zero.cells a&&aX i.zero.cells b,c,bS a b with
  |true,.eql,some r=>some (.bool r)
  |true,.neq,some r=>some (.bool !r)
  |_,_,_=>none
 |_,_=>none
def B6:V->Option Nat
 |.nil=>some 0
 |.sl _ _ xs=>some xs.length
 |.own _ _ _ xs=>some xs.length
 |.view _ _ _ xs=>some xs.length
 |_=>none
def rq (n:Nat)(a b:Option V):Option (Nat×Nat):=
 let h:=match b with
  |none=>some (n:Int)
  |some (.int _ i)=>some i
  |_=>none
 let l:=match a with
  |none=>some (0:Int)
  |some (.int _ i)=>some i
  |_=>none
 match l,h with
 |some l,some h=>if 0<=l/\l<=h/\h<=n then some (l.toNat,h.toNat)else none
 |_,_=>none
def cut (n:Nat)(v:V)(a c:Option V):Option V:=
 match v with
 |.nil=>match rq 0 a c with
  |some _=>some .nil
  |none=>none
 |.sl s f xs=>if s=n then(match rq xs.length a c with
  |some (l,h)=>some (.sl s f ((xs.take h).drop l))
  |none=>none)else none
 |.own b s q xs=>if s=n then(match rq xs.length a c with
  |some (l,h)=>some (.view b s q ((xs.take h).drop l))
  |none=>none)else none
 |.view b s q xs=>if s=n then(match rq xs.length a c with
  |some (l,h)=>some (.view b s q ((xs.take h).drop l))
  |none=>none)else none
 |_=>none
def m_ (s:Nat)(v:V)(i:Int):Option V:=
 if i<0 then none else
 match v with
 |.sl s' _ xs=>if s'=s then(xs[i.toNat]?).map λx=>.iptr x 0 else none
 |.view b s' _ xs=>if s'=s then(xs[i.toNat]?).map λx=>.vptr b x 0 else none
 |.own b s' q xs=>if s'=s then(if i.toNat<xs.length then some (.eptr b s q xs i.toNat 0)else none)else none
 |_=>none
def jk (v:V)(n:Nat):Option V:=
 match v with
 |.ptr d o=>some (.ptr d (o+n))
 |.iptr x o=>some (.iptr x (o+n))
 |.vptr b x o=>some (.vptr b x (o+n))
 |.eptr b s q xs i o=>some (.eptr b s q xs i (o+n))
 |_=>none
def xv (l:List Nat)(b:Nat):List Nat:=if l.contains b then l else l++[b]
mutual
def V.bases (l:List Nat):V->List Nat
 |.own b _ _ _=>xv l b
 |.view b _ _ _=>xv l b
 |.eptr b _ _ _ _ _=>xv l b
 |.vptr b _ _=>xv l b
 |.agg cs=>V.basess l cs
 |.tup cs=>V.basess l cs
 |.clo _ cs=>V.basess l cs
 |_=>l
def V.basess (l:List Nat):List V->List Nat
 | []=>l
 |v :: vs=>V.basess (V.bases l v) vs
end
inductive Out where
  |val (v:V)
  |box (r:V)
  |fresh (v:V) (esc:List Nat) (n:Nat)
def ny (d:Nat)(az:List V)(r:V):Option Out:=
 if r.anyB (λb=>decide (999<=b))then none else
 if r.old then(if V.anyPs (λ_=>true) az then none else some (.fresh (r.mapB (cM d)) (V.basess [] az) (if r.anyB (λ_=>true)then 1 else 0)))
 else some (.fresh (r.mapB (cM d)) [] (if r.anyB (λ_=>true)then 1 else 0))
def dR (η:Nat->Option V):V->Option (List V)
 |.ptr d o=>(η d).map λr=>r.cells.drop o
 |.iptr x o=>some (x.cells.drop o)
 |.vptr _ x o=>some (x.cells.drop o)
 |.eptr _ _ _ xs i o=>(xs[i]?).map λx=>x.cells.drop o
 |_=>none
def lP (a:Bool)(n:Nat)(cs:List V):Option V:=
 if cs.length<n then none else
 if a then some (.agg (cs.take n))else if n=1 then cs.head? else none
def pS (η:Nat->Option V)(i:TyInfo)(a:V):Option V:=
 match dR η a with
 |some cs=>lP i.d.isAgg i.size cs
 |none=>none
def over (cs:List V)(off:Nat)(a:List V):Option (List V):=
 if off+a.length<=cs.length then some (cs.take off++a++cs.drop (off+a.length))else none
def v6 (a:Nat->Option (Nat×Nat)):List V->List (Nat×V)->Option (List V)
 |cs,[]=>some cs
 |cs,(i,v) :: r=>match a i with
  |some (off,size)=>if v.cells.length=size/\v.isDef=true then(match over cs off v.cells with
   |some b=>v6 a b r
   |none=>none)else none
  |none=>none
def Cfg.place (c:Cfg):Ty->Nat->Option (Nat×Nat)
 |.struct fs,i=>match fs[i]? with
  |some (o,t)=>(c.ty t).map λj=>(o,j.size)
  |none=>none
 |.array _ e,i=>(c.ty e).map λj=>(i*j.size,j.size)
 |_,_=>none
def Cfg.lays (c:Cfg):Ty->Bool
 |.struct _=>true
 |.array _ e=>(c.ty e).isSome
 |_=>false
def pi:List V->List (Nat×V)->Option (List V)
 |acc,[]=>some acc
 |acc,(i,v) :: r=>if i<acc.length then pi (acc.set i v) r else none
def mi (s:Nat):List V->Bool
 | []=>true
 |v :: vs=>v.cells.length==s&&v.isDef&&mi s vs
def fE (s:Nat):V->Option (Q×List V)
 |.nil=>some (.flat,[])
 |.sl s' f ys=>if s'=s then some (if f then .flat else .any,ys)else none
 |.own _ s' q ys=>if s'=s then some (q,ys)else none
 |.view _ s' q ys=>if s'=s then some (q,ys)else none
 |_=>none
def plain (v:V):Option Out:=some (.val v)
def nj (c:Cfg)(a b:Nat)(x:V):Option V:=
 match c.ty a,c.ty b with
 |some i,some j=>match i.d,j.d,x with
  |.int _,.int k,.int _ n=>some (.int k (k.wrap n))
  |.str,.str,.str s=>some (.str s)
  |_,_,_=>none
 |_,_=>none
def dJ:List V->Option (List UInt8)
 | []=>some []
 |.int .u8 n :: vs=>(dJ vs).map (UInt8.ofNat n.toNat :: ·)
 |_ :: _=>none
def iU (s:List UInt8):List V:=s.map λb=>.int .u8 b.toNat
def Iv (c:Cfg)(e:Nat):Bool:=
 match c.ty e with
 |some j=>match j.d with
  |.int .u8=>true
  |_=>false
 |none=>false
def jr (c:Cfg)(a b:Nat)(x:V):Option (List V):=
 match c.ty a,c.ty b with
 |some i,some j=>match i.d,j.d with
  |.slice e,.str=>if Iv c e then(match fE 1 x with
   |some (_,xs)=>some xs
   |none=>none)else none
  |_,_=>none
 |_,_=>none
def ni (c:Cfg)(b a:Nat)(x:V):Option V:=
 match jr c b a x with
 |some xs=>(dJ xs).map .str
 |none=>none
def ei (c:Cfg)(a f:Nat)(x:V):Option V:=
 match c.ty a,c.ty f with
 |some i,some j=>match i.d,j.d,x with
  |.str,.slice e,.str b=>if Iv c e then some (.sl 1 true (iU b))else none
  |_,_,_=>none
 |_,_=>none
def aF (c:Cfg)(den:Nat->List V->Option V)(ρ:Operand->V)(η:Nat->Option V)(d:Nat)(B:Op):Option Out:=
 match B with
 |.move x=>plain (ρ x)
 |.assign x=>plain (ρ x)
 |.pick x a b=>match ρ x with
  |.bool true=>plain (ρ a)
  |.bool false=>plain (ρ b)
  |_=>none
 |.alloc e=>match c.ty e with
  |some i=>some (.box i.zero)
  |none=>none
 |.box e x=>match c.ty e with
  |some i=>if(ρ x).cells.length=i.size/\(ρ x).isDef=true then some (.box (ρ x))else none
  |none=>none
 |.build t C=>match c.ty t with
  |some i=>if c.lays i.d=true then(match v6 (c.place i.d) i.zero.cells (C.toList.map λp=>(p.1,ρ p.2))with
   |some cs=>plain (.agg cs)
   |none=>none)else none
  |none=>none
 |.buildSlice t n C=>match c.ty t with
  |some ⟨.slice e,_,_,_,_,_,_⟩=>match c.ty e with
   |some i=>
    let vs:=C.toList.map λp=>(p.1,ρ p.2)
    let G:=vs.map (·.2)
    if n<=1000&&n*i.size<=16777216&&i.size≠0&&mi i.size G&&mi i.size [i.zero]then
     match pi (List.replicate n i.zero) vs with
     |some xs=>match ek (dT i.nz xs)with
      |some ys=>some (.fresh (.own (base d 0) i.size ((pj (dT i.nz xs)).join i.qz) ys) (kG (dT i.nz xs)) 1)
      |none=>none
     |none=>none
    else none
   |none=>none
  |_=>none
 |.load t a=>match c.ty t with
  |some i=>match pS η i (ρ a)with
   |some v=>plain v
   |none=>none
  |none=>none
 |.nilCheck x=>match ρ x with
  |.ptr d' o=>plain (.ptr d' o)
  |.iptr x o=>plain (.iptr x o)
  |.vptr b x o=>plain (.vptr b x o)
  |.eptr b s q xs i o=>plain (.eptr b s q xs i o)
  |_=>none
 |.binOp B t x y _=>match c.ty t with
  |some i=>match vb i B (ρ x) (ρ y)with
   |some v=>plain v
   |none=>none
  |none=>none
 |.unOp .not _ x=>match ρ x with
  |.bool b=>plain (.bool !b)
  |_=>none
 |.unOp .neg _ x=>match ρ x with
  |.int k n=>plain (.int k (k.wrap (0-n)))
  |_=>none
 |.convert s t x=>match nj c s t (ρ x)with
  |some v=>plain v
  |none=>match ni c s t (ρ x)with
   |some v=>plain v
   |none=>(ei c s t (ρ x)).map λv=>.fresh v [] 0
 |.makeFunc (.func f) first u=>if first.size=0 then plain (.clo f (u.toList.map ρ))else none
 |.makeSlice t l k=>match c.ty t with
  |some ⟨.slice e,_,_,_,_,_,_⟩=>match c.ty e,ρ l,ρ k with
   |some i,.int _ n,.int _ m=>
    if 0<=n/\n<=m/\m*i.bytes<=140737488355328/\m<=140737488355328/\i.size≠0/\mi i.size [i.zero]=true/\ym i.zero = .flat then
     match gD (bZ i.nz i.zero)with
     |some z=>some (.fresh (.own (base d 0) i.size ((ym (bZ i.nz i.zero)).join i.qz) (List.replicate n.toNat z)) [] 1)
     |none=>none
    else none
   |_,_,_=>none
  |_=>none
 |.slice t x F E none=>match c.ty t with
  |some i=>match i.d with
   |.str=>match ρ x with
    |.str s=>match rq s.length (F.map ρ) (E.map ρ)with
     |some (l,h)=>plain (.str ((s.take h).drop l))
     |none=>none
    |_=>none
   |.slice e=>match c.ty e with
    |some j=>match cut j.size (ρ x) (F.map ρ) (E.map ρ)with
     |some v=>plain v
     |none=>none
    |none=>none
   |_=>none
  |none=>none
 |.fieldAddr t x f=>match c.ty t with
  |some ⟨.struct fs,_,_,_,_,_,_⟩=>match fs[f]? with
   |some (o,A)=>match c.ty A with
    |some j=>if j.size=0 then none else match jk (ρ x) o with
     |some v=>plain v
     |none=>none
    |none=>none
   |none=>none
  |_=>none
 |.field t x f=>match c.ty t with
  |some ⟨.struct fs,_,_,_,_,_,_⟩=>match fs[f]?,ρ x with
   |some (o,A),.agg cs=>match c.ty A with
    |some j=>match lP j.d.isAgg j.size (cs.drop o)with
     |some v=>plain v
     |none=>none
    |none=>none
   |_,_=>none
  |_=>none
 |.indexAddr t x y=>match c.ty t,ρ y with
  |some i,.int _ n=>match i.d with
   |.slice e=>match c.ty e with
    |some j=>match m_ j.size (ρ x) n with
     |some v=>plain v
     |none=>none
    |none=>none
   |.array m e=>match c.ty e with
    |some j=>if 0<=n/\n<m then(match jk (ρ x) (n.toNat*j.size)with
     |some v=>plain v
     |none=>none)else none
    |none=>none
   |_=>none
  |_,_=>none
 |.index t x y=>match c.ty t,ρ y with
  |some i,.int _ n=>match i.d,ρ x with
   |.str,.str s=>if n<0 then none else match s[n.toNat]? with
    |some b=>plain (.int .u8 b.toNat)
    |none=>none
   |.array m e,.agg cs=>match c.ty e with
    |some j=>if 0<=n/\n<m then(match lP j.d.isAgg j.size (cs.drop (n.toNat*j.size))with
     |some v=>plain v
     |none=>none)else none
    |none=>none
   |_,_=>none
  |_,_=>none
 |.extract x i=>match ρ x with
  |.tup vs=>match vs[i]? with
   |some v=>plain v
   |none=>none
  |_=>none
 |.call ⟨.builtin .len,args,D⟩=>match args.toList,D.toList with
  | [x],[t]=>match c.ty t with
   |some i=>match i.d with
    |.str=>match ρ x with
     |.str s=>plain (.int .i64 s.length)
     |_=>none
    |.slice _=>match B6 (ρ x)with
     |some n=>plain (.int .i64 n)
     |none=>none
    |_=>none
   |none=>none
  |_,_=>none
 |.call ⟨.builtin .min,args,_⟩=>match args.toList with
  | [x,y]=>match ρ x,ρ y with
   |.int k a,.int w b=>if k=w then plain (.int k (if b<a then b else a))else none
   |_,_=>none
  |_=>none
 |.call ⟨.builtin .max,args,_⟩=>match args.toList with
  | [x,y]=>match ρ x,ρ y with
   |.int k a,.int w b=>if k=w then plain (.int k (if a<b then b else a))else none
   |_,_=>none
  |_=>none
 |.call ⟨.builtin .append,args,D⟩=>match args.toList,D.toList with
  | [x,y],[t,H]=>match c.ty t with
   |some ⟨.slice e,_,_,_,_,_,_⟩=>match c.ty e,ρ x with
    |some i,.nil=>match fE i.size (ρ y)with
     |some (q,ys)=>if H=t/\i.size≠0/\ys.length*i.bytes<=140737488355328/\ys.length<=140737488355328 then some (.fresh (.own (base d 0) i.size (q.join i.qz) ys) (eJ q (ρ y)) 1)else none
     |none=>none
    |_,_=>none
   |_=>none
  |_,_=>none
 |.call ⟨.value f,args,_⟩=>match ρ f with
  |.clo g u=>match cE η (args.toList.map ρ++u)with
   |some vs=>match den g (cx (c.pz g) vs)with
    |some r=>ny d (args.toList.map ρ++u) r
    |none=>none
   |none=>none
  |_=>none
 |_=>none
def gM (r:V)(cs:List V):V:=
 match r with
 |.agg _=>.agg cs
 |_=>cs.headD .undef
def iL (xs:List V)(i o:Nat)(a:List V):Option (List V):=
 match xs[i]? with
 |some x=>match over x.cells o a with
  |some cs=>some (xs.set i (gM x cs))
  |none=>none
 |none=>none
def mR (c:Cfg)(f:St)(d:Option Nat)(m:Op):Option St:=
 match m with
 |.store t a x=>match c.ty t with
  |some i=>match ev f.t x with
   |v=>if v.cells.length=i.size/\cI v.cells=true/\d=none then(match ev f.t a with
    |.ptr b o=>(match f.h.getD b none with
     |some r=>(match over r.cells o v.cells with
      |some cs=>some { f with h:=f.h.set b (some (gM r cs)) }
      |none=>none)
     |none=>none)
    |.eptr b _ q xs k o=>if f.dead b=false/\(bB (bZ i.nz v).cells).contains b=false then
     (match iu (bZ i.nz v).cells with
     |some g=>(match iL xs k o g with
      |some ys=>some (((f.sweep (cR b (q.join (c_ (bZ i.nz v).cells)) ys)).kill (bB (bZ i.nz v).cells)).mark (!aR f.dead (bB (bZ i.nz v).cells)))
      |none=>none)
     |none=>none)else none
    |_=>none)else none
  |none=>none
 |.call ⟨.builtin .append,args,j⟩=>match args.toList,j.toList,d with
  | [x,y],[t,l],some d=>match c.ty t with
   |some ⟨.slice e,_,_,_,_,_,_⟩=>match c.ty e,ev f.t x with
    |some i,.own b s q xs=>match fE s (ev f.t y)with
     |some (q',ys)=>
      if l=t/\s=i.size/\i.size≠0/\f.dead b=false/\(xs.length+ys.length)*i.bytes<=140737488355328/\xs.length+ys.length<=140737488355328/\b≠999 then
       some ((({ f.sweep (aq b)with t:=(f.sweep (aq b)).t.set d (.own b s (q.join q') (xs++ys)) }:St).kill (eJ q' (ev f.t y))).mark (!aR f.dead (eJ q' (ev f.t y))||(eJ q' (ev f.t y)).contains b))
      else none
     |none=>none
    |_,_=>none
   |_=>none
  |_,_,_=>none
 |_=>none
def ss (a:St):Op->Bool
 |.store _ _ _=>true
 |.call ⟨.builtin .append,args,_⟩=>match args.toList with
  |x :: _=>match ev a.t x with
   |.nil=>false
   |_=>true
  |_=>true
 |_=>false
def step (c:Cfg)(den:Nat->List V->Option V)(a:St)(o:Oper):Option St:=
 if ss a o.op then mR c a o.dst o.op else
 match o.dst with
 |none=>none
 |some d=>match aF c den (ev a.t) (λb=>a.h.getD b none) d o.op with
  |none=>none
  |some (.val v)=>some { a with t:=a.t.set d v }
  |some (.box r)=>if d<a.t.length/\d<a.h.length/\(a.h.getD d none).isNone=true/\a.freeP d=true/\r.anyP (λb=>b==d)=false then
   some { a with t:=a.t.set d (.ptr d 0),h:=a.h.set d (some r) } else none
  |some (.fresh v esc n)=>if d<1000/\n<=1000/\(n=0\/a.freeD d=true)then
   some ((({ a with t:=a.t.set d v }:St).kill esc).mark (!aR a.dead esc))else none
def wanted (ops:Array Oper)(t:List V)(o:Oper):Option Bool:=
 match o.guard with
 |none=>some true
 |some (j,a)=>match(ops[j]?).bind (·.dst)with
  |some d=>match t.getD d .undef with
   |.bool b=>some (b==a)
   |.tup []=>some false
   |_=>none
  |none=>some false
def oj:V:=.tup []
def gZ (l:List Nat):List (Option V)->List Nat
 | []=>l
 |some v :: r=>gZ (v.bases l) r
 |none :: r=>gZ l r
def kD (l:List Nat):V->Option V
 |.own b s q xs=>some (.own (am (l.idxOf b)) s q xs)
 |.view b s q xs=>some (.view (am (l.idxOf b)) s q xs)
 |.eptr b s q xs i o=>some (.eptr (am (l.idxOf b)) s q xs i o)
 |.vptr b x o=>some (.vptr (am (l.idxOf b)) x o)
 |_=>none
def bp (dead:Nat->Bool):V->Option V
 |.own b s q xs=>if dead b then some (.sl s q.isFlat xs)else none
 |.view b s q xs=>if dead b then some (.sl s q.isFlat xs)else none
 |.eptr b _ _ xs i o=>if dead b then some (match xs[i]? with
  |some x=>.iptr x o
  |none=>.undef)else none
 |.vptr b x o=>if dead b then some (.iptr x o)else none
 |_=>none
def gb (a:List Nat)(k:Nat):List V->List V
 | []=>[]
 |v :: vs=>(if a.contains k then .undef else v) :: gb a (k+1) vs
def gB (a:List Nat):V->Option V
 |.ptr d _=>if a.contains d then some .undef else none
 |_=>none
def sY (a:List Nat)(k:Nat):List (Option V)->List (Option V)
 | []=>[]
 |x :: r=>(if a.contains k then none else x) :: sY a (k+1) r
def aM:Code->Nat
 |.region i _ _=>i
 |.seq a _=>aM a
 |.cond _ a _=>aM a
 |.block _ b=>aM b
 |.loop b=>aM b
 |_=>0
def St.canon (a:St):St:=
 let l:=V.basess (gZ [] a.h) a.t
 { a.sweep (kD l)with dead:=λ_=>false }
def sB (a:Bool)(i s:Nat)(q:Q):V->V
 |.nil=>if a then .view i s q []else .own i s q []
 |.own b s' q' xs=>if a then .view b s' q' xs else .own b s' q' xs
 |v=>v
def nr (a:Bool)(i s:Nat)(q:Q)(j:Nat):V->V
 |.agg cs=>.agg (cs.modify j (sB a i s q))
 |v=>sB a i s q v
def iV (j:Nat):V->V
 |.agg cs=>cs.getD j .undef
 |v=>v
def dQ (j:Nat)(u:V):V->V
 |.agg cs=>.agg (cs.set j u)
 |_=>u
def St.take1 (a:St)(n:Nat):St:=
 match n/2000000000%2 with
 |0=>match iV (n/2000%1000) (a.t.getD (n/2000000%1000) .undef)with
  |.view b s q xs=>{ a.sweep (aq b)with t:=(a.sweep (aq b)).t.set (n/2000000%1000) (dQ (n/2000%1000) (.own b s q xs) ((a.t.getD (n/2000000%1000) .undef).mapB (aq b))) }
  |_=>a
 |_=>match a.h.getD (n/2000000%1000) none with
  |some r=>match iV (n/2000%1000) r with
   |.view b s q xs=>{ a.sweep (aq b)with h:=(a.sweep (aq b)).h.set (n/2000000%1000) (some (dQ (n/2000%1000) (.own b s q xs) (r.mapB (aq b)))) }
   |_=>a
  |none=>a
def St.own1 (a:St)(i n:Nat):St:=
 if 8000000000<=n then a.take1 n else
 match n/2000000000%2 with
 |0=>{ a with t:=a.t.set (n/2000000%1000) (nr (decide (2<=n/2000000000)) i (n/2%1000) (if n%2=1 then .clean else .flat) (n/2000%1000) (a.t.getD (n/2000000%1000) .undef)) }
 |_=>match a.h.getD (n/2000000%1000) none with
  |some r=>{ a with h:=a.h.set (n/2000000%1000) (some (nr (decide (2<=n/2000000000)) i (n/2%1000) (if n%2=1 then .clean else .flat) (n/2000%1000) r)) }
  |none=>a
def St.owns:List Nat->Nat->St->St
 | [],_,a=>a
 |n :: b,i,a=>St.owns b (i+1) (if i<999 then a.own1 i n else a)
def pV (l:List Nat):List Nat:=l.filterMap λx=>if x<1000000000000 then none else some (x-1000000000000)
def coarse (dup:Bool):V->Option V
 |.own b s .clean xs=>if dup then some (.own b s .any xs)else none
 |.view b s .clean xs=>if dup then some (.view b s .any xs)else none
 |.eptr _ _ _ _ _ _=>if dup then some .undef else none
 |_=>none
def St.calm (a:St):St:=
 match a.dup with
 |true=>{ a.sweep (coarse true)with dup:=false }
 |false=>a
def St.head0 (b:St)(fs:List Nat×List Nat):St:=
 let e:St:={ b with t:=gb fs.1 0 b.t }
 let d:=(e.sweep (gB fs.2))
 let c:St:={ d with h:=sY fs.2 0 d.h }
 let a:=(c.sweep (bp c.dead)).canon
 match pV fs.2 with
 | []=>a
 |ns=>(St.owns ns 0 a).canon
def St.head (a:St)(fs:List Nat×List Nat):St:=a.calm.head0 fs
def mn (c:Cfg)(a:Op):Option (Wr×Operand):=
 match a with
 |.call ⟨.value (.func f),args,_⟩=>match c.wr f,args.toList with
  |some g,[x]=>some (g,x)
  |_,_=>none
 |_=>none
def qB (a:St)(d:Option Nat)(g:Wr)(x:Operand):Option St:=
  match ev a.t x,d with
  |.own b s q xs,some d=>if a.dead b=false/\b≠999/\q = .flat/\s=g.s then
     (match g.g xs with
     |some (ys,n)=>some { a.sweep (cR b .flat ys)with t:=(a.sweep (cR b .flat ys)).t.set d (match g.v with
      |true=>.view b s .flat (ys.take n)
      |false=>.tup []) }
     |none=>none)else none
  |_,_=>none
def ll (c:Cfg)(a:Op):Option (Nat×Io×List Operand):=
 match a with
 |.call ⟨.value (.func f),args,_⟩=>match c.io f with
  |some s=>some (f,s,args.toList)
  |none=>none
 |_=>none
def bH (l:List Nat):V->Option V
 |.own b _ _ _=>if l.contains b then some .undef else none
 |.view b _ _ _=>if l.contains b then some .undef else none
 |.eptr b _ _ _ _ _=>if l.contains b then some .undef else none
 |.vptr b _ _=>if l.contains b then some .undef else none
 |_=>none
def bI {α:Type}(p:Mode->Bool):List Mode->List α->List α
 |m :: a,v :: vs=>match p m with
  |true=>v :: bI p a vs
  |false=>bI p a vs
 |_,_=>[]
def CD:List V->Option (List Nat)
 | []=>some []
 |.ptr j 0 :: vs=>(CD vs).map (j :: ·)
 |_ :: _=>none
def iB:Nat->List Mode->List V->List V->List V
 |n,.mv :: b,m :: vs,a=>m :: iB n b vs a
 |n,.data :: b,vs,d :: a=>d :: iB n b vs a
 |n,.pt :: b,vs,a=>.ptr n 0 :: iB (n+1) b vs a
 |_,_,_,_=>[]
def sj (h:List (Option V)):List Nat->Option (List V)
 | []=>some []
 |j :: b=>match h.getD j none,sj h b with
  |some r,some a=>some (r :: a)
  |_,_=>none
def ff (vs:List V):List (List Nat):=(cellsOf vs).map bF
def cT (vs:List V):List Nat:=(ff vs).flatten
structure IoPre where
  args:List V
  L:List Nat
  E:List Nat
  js:List Nat
def cL (zs:List V)(vs:List V):List V:=dU 0 zs (V.mapBs (gh (ff vs)) vs)
def lJ (c:Cfg)(e:St)(f:Nat)(s:Io)(az:List V):Option IoPre:=
 match CD (bI Mode.isPt s.md az)with
 |some d=>match sj e.h d,cE (λb=>e.h.getD b none) (bI Mode.isData s.md az)with
  |some a,some g=>
   if az.length=s.md.length/\s.md.length<=s.nt/\d.length=s.nb/\d.Nodup/\(ff (bI Mode.isMv s.md az++a)).length<999/\me (cellsOf (bI Mode.isMv s.md az++a))=true /\
    V.anyBs (cT (bI Mode.isMv s.md az++a)).contains (bI Mode.isData s.md az)=false/\V.anyPs (λ_=>true) (bI Mode.isData s.md az)=false /\
    ((cT (bI Mode.isMv s.md az++a)).isEmpty||V.anyBs (λ_=>true) (iB s.nt s.md ((cL ((c.pz (1000000+f)).headD []) (bI Mode.isMv s.md az++a)).take (bI Mode.isMv s.md az).length) (cx (c.pz (1000000+f)).tail g) ++
     (cL ((c.pz (1000000+f)).headD []) (bI Mode.isMv s.md az++a)).drop (bI Mode.isMv s.md az).length))=true then
    some ⟨iB s.nt s.md ((cL ((c.pz (1000000+f)).headD []) (bI Mode.isMv s.md az++a)).take (bI Mode.isMv s.md az).length) (cx (c.pz (1000000+f)).tail g) ++
     (cL ((c.pz (1000000+f)).headD []) (bI Mode.isMv s.md az++a)).drop (bI Mode.isMv s.md az).length,
     cT (bI Mode.isMv s.md az++a),V.basess [] (bI Mode.isData s.md az),d⟩
   else none
  |_,_=>none
 |none=>none
def dP (h:List (Option V)):List Nat->List V->List (Option V)
 |j :: c,b :: a=>dP (h.set j (some b)) c a
 |_,_=>h
def yM (c:St)(d:Nat)(s:Io)(p:IoPre)(r:V):Option St:=
 match r with
 |.tup outs=>
  let a:=c.sweep (bH p.L)
  let f:=V.mapBs (cM d) (outs.take (outs.length-p.js.length))
  let e:=V.mapBs (cM d) (outs.drop (outs.length-p.js.length))
  let esc:=if V.olds outs then p.E else[]
  if d<1000/\p.js.length<=outs.length/\V.anyBs (λb=>decide (999<=b)) outs=false/\me (cellsOf outs)=true/\(V.anyBs (λ_=>true) outs=false\/a.freeD d=true)then
   match s.rb,f with
   |true,[x]=>if d<c.t.length/\d<c.h.length/\(c.h.getD d none).isNone=true/\a.freeP d=true/\x.anyP (λb=>b==d)=false then
    some ((({ a with t:=a.t.set d (.ptr d 0),h:=(dP a.h p.js e).set d (some x) }:St).kill esc).mark (!aR c.dead esc))else none
   |true,_=>none
   |false,[x]=>some ((({ a with t:=a.t.set d x,h:=dP a.h p.js e }:St).kill esc).mark (!aR c.dead esc))
   |false,xs=>some ((({ a with t:=a.t.set d (.tup xs),h:=dP a.h p.js e }:St).kill esc).mark (!aR c.dead esc))
  else none
 |_=>none
def gc:V:=.ptr 0 0
def fc (c:Cfg)(den:Nat->List V->Option V)(a:St)(d:Option Nat)(f:Nat)(s:Io)(az:List Operand):Option St:=
 match d with
 |some d=>match lJ c a f s (az.map (ev a.t))with
  |some p=>match den f (gc :: p.args)with
   |some r=>yM a d s p r
   |none=>none
  |none=>none
 |none=>none
def dj (c:Cfg)(den:Nat->List V->Option V)(a:St)(o:Oper):Option St:=
 match mn c o.op with
 |some (g,x)=>qB a o.dst g x
 |none=>match ll c o.op with
  |some (f,s,az)=>fc c den (a.head ([],[])) o.dst f s az
  |none=>step c den a o
def mV (n:Nat):V->V
 |.agg cs=>.agg (cs.set n .undef)
 |_=>.undef
def jC (i n:Nat)(xs:List V):List V:=xs.modify i (mV n)
def I_ (s i n:Nat)(xs:List V):Option (List V):=match(xs[i]?).bind λr=>r.cells[n]? with
 |some (.sl s' true (y :: ys))=>if s'=s then some (y :: ys)else none
 |_=>none
def K0 (dead:Nat->Bool)(b:Nat)(ys:List V):V->Option V
 |.sl _ _ _=>some .undef
 |.iptr _ _=>some .undef
 |.vptr _ _ _=>some .undef
 |.own b' s q _=>if b'=b then some (.own b' s .clean ys)else if dead b' || !q.good then some .undef else none
 |.view b' _ q _=>if b'=b then some .undef else if dead b' || !q.good then some .undef else none
 |.eptr b' s q _ j o=>if b'=b then some (.eptr b' s .clean ys j o)else if dead b' || !q.good then some .undef else none
 |_=>none
def St.taken (a:St)(X b s i n:Nat)(rows ys:List V):St:=
 { a.sweep (K0 a.dead b (jC i n rows))with t:=(a.sweep (K0 a.dead b (jC i n rows))).t.set X (.own (base X 0) s .flat ys) }
def dG (c:Cfg)(a:St):Option (Nat×Nat×Operand)->Option St
 |none=>some a
 |some (X,t,y)=>match c.ty t,ev a.t (.tmp X),ev a.t y with
  |some e,.sl s true _,.eptr b f .clean rows i n=>
   if e.d.isAgg=false/\e.size=1/\s≠0/\a.dup=false/\a.dead b=false/\X<1000/\a.freeD X=true/\a.dead (base X 0)=false then
    (match I_ s i n rows with
    |some ys=>some (a.taken X b s i n rows ys)
    |none=>none)else none
  |_,_,_=>none
abbrev rf:=List (Oper×(St->Bool)×Option (Nat×Nat×Operand))
def aV (c:Cfg)(den:Nat->List V->Option V)(ops:Array Oper):rf->St->Option St
 | [],a=>some a
 |(o,f,z) :: os,a=>match f a with
  |false=>none
  |true=>match dG c a z with
   |none=>none
   |some a=>match wanted ops a.t o with
    |none=>none
    |some true=>(match dj c den a o with
     |some st'=>aV c den ops os st'
     |none=>none)
    |some false=>match o.dst with
     |some d=>aV c den ops os { a with t:=a.t.set d oj }
     |none=>aV c den ops os a
def wj (ops:Array Oper):rf:=ops.toList.map λo=>(o,λ_=>true,none)
def vn (o:Oper):List Nat:=(o.after.toList.filter λe=>Region.binds .any e).map (·.on)
def tp (ops:Array Oper):List Nat:=ops.toList.foldl (λT o=>T++[(vn o).foldl (λq e=>q ||| T.getD e 0 ||| 2 ^ e) 0]) []
def iE (ops:Array Oper)(j i:Nat):Bool:=((tp ops).getD j 0).testBit i
def Iu:Op->Bool
 |.move _|.assign _|.pick _ _ _|.nilCheck _|.unOp _ _ _|.extract _ _|.makeFunc _ _ _|.binOp _ _ _ _ _|.load _ _|.fieldAddr _ _ _|.field _ _ _|.indexAddr _ _ _|.index _ _ _|.slice _ _ _ _ _|.build _ _=>true
 |.call ⟨.builtin .len,_,_⟩|.call ⟨.builtin .min,_,_⟩|.call ⟨.builtin .max,_,_⟩=>true
 |_=>false
def It:Op->Bool
 |.alloc _|.buildSlice _ _ _=>true
 |_=>false
def flo (ops:Array Oper)(i:Nat)(o:Oper):Bool:=match o.dst with
 |some d=>(List.range ops.size).all λj=>match ops[j]? with
  |some p=>!(p.looksAt ops).contains d||iE ops j i
  |none=>true
 |none=>false
def Eu (ops:Array Oper)(o:Oper):Bool:=It o.op&&o.guard.isNone&&ops.toList.all λp=>match o.dst with
 |some d=>!((p.looksAt ops).contains d&&It p.op)
 |none=>true
def kd (ops:Array Oper)(i:Nat):Nat:=match ops[i]? with
 |some o=>if flo ops i o then(if Iu o.op then 0 else if Eu ops o then 1 else 2)else 2
 |none=>2
def c0r (ops:Array Oper)(A:Nat):Nat->List Nat->Nat->List Nat
 |0,_,_=>[]
 |k+1,l,m=>
  let T:=λi=>(tp ops).getD i 0 &&& m
  let a:=λi=>i :: c0r ops A k (l.erase i) (m ^^^ 2 ^ i)
  match l.find? λi=>kd ops i==0&&T i==0 with
  |some i=>a i
  |none=>match l.find? λi=>kd ops i==2&&T i &&& A==0 with
   |some i=>(match l.find? λe=>(T i).testBit e&&T e==0 with
    |some e=>a e
    |none=>a i)
   |none=>match l.find? λi=>T i==0 with
    |some i=>a i
    |none=>[]
def bits (l:List Nat):Nat:=l.foldl (λq e=>q ||| 2 ^ e) 0
def gL (ops:Array Oper):List Nat:=c0r ops (bits ((List.range ops.size).filter λi=>kd ops i==2)) ops.size (List.range ops.size) (bits (List.range ops.size))
def JV (ops:Array Oper)(h j:Nat):Bool:=!iE ops h j&&(kd ops h==0||kd ops j==1||iE ops j h)
def IA (R:Nat->Nat->Bool):List Nat->Bool
 | []=>true
 |x :: l=>l.all (R x)&&IA R l
def i0b (ops:Array Oper):Bool:=
 let n:=ops.size
 (List.range n).all (gL ops).contains&&decide (gL ops).Nodup&&(gL ops).all (· < n)&&IA (JV ops) (gL ops)&&Region.noSelect ops &&
 (List.range n).all λj=>match ops[j]? with
  |some p=>(tp ops).getD j 0==(vn p).foldl (λq e=>q ||| (tp ops).getD e 0 ||| 2 ^ e) 0&&(vn p).all (· < j)&&(List.range n).all λi=>i==j||(match ops[i]? with
   |some o=>(match o.dst with
    |some d=>p.dst != some d&&(!(p.looksAt ops).contains d||iE ops j i||(kd ops j != 1&&iE ops i j))
    |none=>true)
   |none=>true)
  |none=>true
def V.isUndef:V->Bool
 |.undef=>true
 |_=>false
def V.isNil:V->Bool
 |.nil=>true
 |_=>false
def apart (dead:Nat->Bool)(u v:V):Bool:=match u,v with
 |.ptr x _,.ptr y _=>x != y
 |.ptr _ _,.own _ _ _ _|.ptr _ _,.eptr _ _ _ _ _ _|.ptr _ _,.iptr _ _=>true
 |.iptr _ _,.own b _ _ _|.iptr _ _,.eptr b _ _ _ _ _=>!dead b
 |_,_=>false
def In (c:Cfg)(a:St)(o:Oper)(y:Operand):Bool:=
 match mn c o.op with
 |some _=>false
 |none=>match ll c o.op with
  |some (f,s,az)=>(match y with
   |.tmp x=>(match(a.head ([],[])).t.getD x .undef,lJ c (a.head ([],[])) f s (az.map (ev (a.head ([],[])).t))with
    |.ptr X _,some p=>!p.js.contains X
    |.eptr b _ _ _ _ _,some p=>!p.L.contains b
    |_,_=>false)
   |_=>false)
  |none=>match o.op with
   |.store _ d _=>apart a.dead (ev a.t d) (ev a.t y)||apart a.dead (ev a.t y) (ev a.t d)
   |.call ⟨.builtin .append,args,_⟩=>(match args[0]? with
    |some x=>apart a.dead (ev a.t y) (ev a.t x)||(ev a.t x).isNil
    |none=>true)
   |_=>true
def kept (ops:Array Oper)(ks:List Nat)(l:List Nat)(j:Nat):Bool:=kd ops j==0&&ks.any λk=>k/1000==j&&l.contains (k%1000)
def vj (c:Cfg)(ops:Array Oper)(ks:List Nat)(i:Nat)(l:List Nat)(o:Oper)(a:St):Bool:=
 kd ops i==0||((i :: l).all λj=>kd ops j != 1||(match ops[j]? with
  |some p=>(vn p).any (λe=>(i :: l).contains e&&kd ops e != 1)||((match p.dst with
   |some d=>(a.t.getD d .undef).isUndef
   |none=>false)&&(step c (λ_ _=>none) a p).isSome)
  |none=>true)) &&
 (kd ops i==1||(List.range ops.size).all λj=>(i :: l).contains j||(match ops[j]? with
  |some p=>kd ops j != 0||(iE ops i j && !kept ops ks l j)||(match p.op with
   |.load _ y=>In c a o y
   |_=>true) && !(match o.dst with
   |some d=>kept ops ks l j&&(p.looksAt ops).contains d
   |none=>false)
  |none=>true))
def ud (ops:Array Oper)(ks:List Nat)(i:Nat)(l:List Nat)(o:Oper):Option (Nat×Nat×Operand):=
 match o.op with
 |.call ⟨.builtin .append,args,_⟩=>match(args[0]?:Option Operand)with
  |some (.tmp X)=>(ks.findSome? λk=>match(ops[k/1000]?:Option Oper)with
   |some ⟨d,.load t y,_,_,_,_⟩=>if d=some X/\kd ops (k/1000)=0/\k%1000=i/\(i :: l).contains (k/1000)=false then some (X,t,y)else none
   |_=>none)
  |_=>none
 |_=>none
def iD (c:Cfg)(ops:Array Oper)(ks:List Nat):List Nat->rf
 | []=>[]
 |i :: l=>match ops[i]? with
  |some o=>(o,vj c ops ks i l o,if kd ops i=2 then ud ops ks i l o else none) :: iD c ops ks l
  |none=>[]
def zk (ops:Array Oper):List Nat:=(List.range ops.size).filterMap λi=>if kd ops i==1 then(ops[i]?).bind (·.dst)else none
def St.headW (a:St)(l:List Nat):St:=
 match l with
 | []=>a
 |l=>a.head ([],l)
inductive Ex where
  |normal
  |exit (id:Nat)
  |ret
def bw (a:St->Option (Ex×St))(b:St->St):Nat->St->Option (Ex×St)
 |0,_=>none
 |k+1,c=>match a (b c)with
  |some (.normal,s)=>bw a b k s
  |r=>r
abbrev xn:=Nat->List Nat×List Nat
abbrev nX:=(St->Option (Ex×St))->(St->St)->St->Option (Ex×St)
def bG (c:Cfg)(den:Nat->List V->Option V)(L:nX)(g:xn):Code->St->Option (Ex×St)
 |.skip,d=>some (.normal,d)
 |.region i ops e,d=>
  if e then(aV c den ops (iD c ops (g (3000+i)).1 (gL ops)) (d.head (zk ops,(g (2000+i)).2))).map λs=>(.normal,s)
  else(aV c den ops (wj ops) (d.headW (g (2000+i)).2)).map λs=>(.normal,s)
 |.seq a b,d=>match bG c den L g a d with
  |some (.normal,s)=>bG c den L g b s
  |r=>r
 |.cond x a b,d=>match ev d.t x with
  |.bool true=>bG c den L g a d
  |.bool false=>bG c den L g b d
  |_=>none
 |.block i b,d=>match bG c den L g b d with
  |some (.exit j,s)=>if j=i then some (.normal,s)else some (.exit j,s)
  |r=>r
 |.loop b,d=>(L (bG c den L g b) (λs=>s.head ((g (aM b)).1,(g (aM b)).2)) d).map λr=>(r.1,r.2.head ((g (1000+aM b)).1,(g (1000+aM b)).2))
 |.exit i,d=>some (.exit i,d)
 |.ret,d=>some (.ret,d)
 |_,_=>none
def wt (c:Cfg)(d:St):ResultVar->Option V
 |.tmp t=>some (d.t.getD t .undef)
 |.cell a t=>match c.ty t with
  |some i=>pS (λb=>d.h.getD b none) i (d.t.getD a .undef)
  |none=>none
def lx (c:Cfg)(a:St):List ResultVar->Option (List V)
 | []=>some []
 |r :: b=>match wt c a r,lx c a b with
  |some v,some vs=>some (v :: vs)
  |_,_=>none
def pE (c:Cfg)(zs:List V)(a:St)(d:List ResultVar):Option V:=
 match lx c a d with
 |some vs=>
  let b:=V.mapBs (bp a.dead) (V.mapBs (coarse a.dup) vs)
  let cs:=cellsOf b
  if me cs then(match dU 0 zs (V.mapBs (gh (cs.map bF)) b)with
   | [w]=>some w
   |ws=>some (.tup ws))else none
 |none=>none
def cJ:Code->Bool
 |.region _ ops c=>!c||i0b ops
 |.seq a b=>cJ a&&cJ b
 |.cond _ a b=>cJ a&&cJ b
 |.block _ b=>cJ b
 |.loop b=>cJ b
 |_=>true
def fm (g:xn):Code->Bool
 |.region i _ _=>!(g (3000+i)).1.isEmpty
 |.seq a b=>fm g a||fm g b
 |.cond _ a b=>fm g a||fm g b
 |.block _ b=>fm g b
 |.loop b=>fm g b
 |_=>false
def iv (c:Cfg)(den:Nat->List V->Option V)(L:nX)(f:Nat)(b:Func)(args:List V):Option V:=
 match b.body with
 |none=>none
 |some a=>if cJ a=false then none else match bG c den L (c.fg f) a ⟨args++List.replicate (b.ntmps-args.length) .undef,List.replicate b.ntmps none,λ_=>false,false⟩with
  |some (.ret,s)=>pE c (c.rz f) s b.results.toList
  |some (.normal,s)=>pE c (c.rz f) s b.results.toList
  |_=>none
def ry (s:Io)(args:List V):St:=⟨args.take s.md.length++List.replicate (s.nt-s.md.length) .undef,List.replicate s.nt none++(args.drop s.md.length).map some,λ_=>false,false⟩
def so:List (Option V)->Option (List V)
 | []=>some []
 |some v :: r=>(so r).map (v :: ·)
 |none :: _=>none
def LE (a:St)(s:Io)(vs:List V):Option (List V):=
 match s.rb,vs with
 |false,vs=>some vs
 |true,[.ptr e 0]=>if e<s.nt then(a.h.getD e none).map λr=>[r]else none
 |true,_=>none
def fb (c:Cfg)(zs:List V)(a:St)(s:Io)(d:List ResultVar):Option V:=
 match lx c a d with
 |some vs=>match LE a s vs,so (a.h.drop s.nt)with
  |some vs,some b=>
   if b.length=s.nb/\me (cellsOf (V.mapBs (bp a.dead) (V.mapBs (coarse a.dup) (vs++b))))=true then some (.tup (cL zs (V.mapBs (bp a.dead) (V.mapBs (coarse a.dup) (vs++b)))))else none
  |_,_=>none
 |none=>none
def d6 (c:Cfg)(den:Nat->List V->Option V)(L:nX)(f:Nat)(s:Io)(b:Func)(args:List V):Option V:=
 match b.body with
 |none=>none
 |some a=>if cJ a=false\/(fm (c.fg (1000000+f)) a&&V.anyBs (λ_=>true) args)=true then none else if b.ntmps=s.nt then(match bG c den L (c.fg (1000000+f)) a (ry s args)with
  |some (.ret,d)=>fb c (c.rz (1000000+f)) d s b.results.toList
  |some (.normal,d)=>fb c (c.rz (1000000+f)) d s b.results.toList
  |_=>none)else none
def d7:List V->Option (List V)
 |.ptr 0 0 :: r=>some r
 |_=>none
def eH (P:Program)(c:Cfg)(ext:Nat->List V->Option V):Nat->Nat->List V->Option V
 |0,_,_=>none
 |k+1,f,args=>match d7 args with
  |some d=>match c.io f,P.funcs[f]? with
   |some s,some a=>if a.name == "runtime.NumGoroutine" then none else d6 c (eH P c ext k) (λb g e=>bw b g k e) f s a d
   |_,_=>none
  |none=>match ext f args with
  |some r=>some r
  |none=>match P.funcs[f]? with
   |some a=>if a.name == "runtime.NumGoroutine" then none else iv c (eH P c ext k) (λb g e=>bw b g k e) f a args
   |none=>none
end Go.Am
