/-
  Proved: lemmas for Rows.FnFormatsCardSaid.
-/
import Derived.Test.YtmkhgngckgcpeaaGreatDooruAmOps
set_option linter.all false
section
namespace Go.Am
open Go
inductive CK where
  |bool
  |int (k:IntKind)
  |str
  |sl (s:Nat) (fl:Bool)
def CK.T:CK->Type
 |.bool=>Bool
 |.int _=>Int
 |.str=>List UInt8
 |.sl _ _=>List V
def CK.dec:(k:CK)->V->Option k.T
 |.bool,.bool b=>some b
 |.int k,.int a n=>if a=k then some n else none
 |.str,.str s=>some s
 |.sl s f,.sl s' d xs=>if s'=s/\d=f then some xs else none
 |_,_=>none
def CK.enc:(k:CK)->k.T->V
 |.bool,b=>.bool b
 |.int k,n=>.int k n
 |.str,s=>.str s
 |.sl s f,xs=>.sl s f xs
def bP:List CK->Type
 | []=>Unit
 |k :: ks=>k.T×bP ks
def bo:(ks:List CK)->List V->Option (bP ks)
 | [],[]=>some ()
 |k :: ks,v :: vs=>match k.dec v,bo ks vs with
  |some a,some b=>some (a,b)
  |_,_=>none
 |_,_=>none
def cK:(ks:List CK)->bP ks->List V
 | [],_=>[]
 |k :: ks,e=>k.enc e.1 :: cK ks e.2
def im (a:Bool)(ks:List CK)(v:V):Option (bP ks):=
 match a,v with
 |true,.agg cs=>bo ks cs
 |true,_=>none
 |false,.agg _=>none
 |false,v=>bo ks [v]
def eC (a:Bool)(ks:List CK)(e:bP ks):V:=
 match a with
 |true=>.agg (cK ks e)
 |false=>(cK ks e).headD .undef
def Qy (z n:V):Option CK:=
 match z,n with
 |.bool _,_=>some .bool
 |.int k _,_=>some (.int k)
 |.str _,_=>some .str
 |.nil,.view _ s q _=>some (.sl s q.isFlat)
 |_,_=>none
def zi:List V->List V->Option (List CK)
 | [],_=>some []
 |z :: zs,a=>match Qy z (a.headD .undef),zi zs a.tail with
  |some k,some ks=>some (k :: ks)
  |_,_=>none
def TyInfo.kinds (i:TyInfo):Option (List CK):=zi i.zero.cells i.nz
section
variable {α:Type}
def br (b:Bool)(x y:Option α):Option α:=
 match b with
 |true=>x
 |false=>y
def chk (p:Prop)[Decidable p](x:Option α):Option α:=if p then x else none
def idx (a:Bool)(ks:List CK)(xs:List V)(i:Nat)(k:bP ks->Option α):Option α:=
 match(xs[i]?).bind (im a ks)with
 |some e=>k e
 |none=>none
def idxAt (ks:List CK)(xs:List V)(i o:Nat)(k:bP ks->Option α):Option α:=
 match(xs[i]?).bind (λr=>bo ks ((r.cells.drop o).take ks.length))with
 |some e=>k e
 |none=>none
def idxS (s:List UInt8)(n:Int)(k:Int->Option α):Option α:=
 chk (0<=n) (match s[n.toNat]? with
  |some b=>k b.toNat
  |none=>none)
def strO (xs:List V)(k:List UInt8->Option α):Option α:=
 match dJ xs with
 |some s=>k s
 |none=>none
def bU (xs:List V)(i o:Nat)(a:List V)(k:List V->Option α):Option α:=
 match iL xs i o a with
 |some ys=>k ys
 |none=>none
def tq (n:Int):Option V->Option Int
 |none=>some n
 |some (.int _ i)=>some i
 |_=>none
def x_ (n:Nat)(a b:Option V)(k:Nat->Nat->Option α):Option α:=
 match tq 0 a,tq n b with
 |some l,some h=>chk (0<=l/\l<=h/\h<=n) (k l.toNat h.toNat)
 |_,_=>none
def Pe (i:TyInfo)(e:BinOp)(x y:V)(k:V->Option α):Option α:=
 match e,x,y with
 |.add,.str a,.str b=>chk (a.length+b.length<=9223372036854775807) (k (.str (a++b)))
 |.quo,.int kd a,.int d b=>if kd=d then chk (b≠0) (k (.int kd (kd.wrap (a.tdiv b))))else none
 |.rem,.int kd a,.int d b=>if kd=d then chk (b≠0) (k (.int kd (a.tmod b)))else none
 |e,x,y=>match vb i e x y with
  |some v=>k v
  |none=>none
def oV (c:Cfg)(B:Nat->List V->(V->Option α)->Option α)(ρ:Operand->V)(η:Nat->Option V)(d:Nat)(A:Op)(k:Out->Option α):Option α:=
 match A with
 |.pick x a b=>match ρ x with
  |.bool t=>br t (k (.val (ρ a))) (k (.val (ρ b)))
  |_=>none
 |.binOp A t x y _=>match c.ty t with
  |some i=>Pe i A (ρ x) (ρ y) (λv=>k (.val v))
  |none=>none
 |.load t a=>match c.ty t,ρ a with
  |some i,.eptr _ _ _ xs j o=>match i.kinds with
   |some ks=>if ks.length=i.size/\(i.d.isAgg=true\/i.size=1)then idxAt ks xs j o (λe=>k (.val (eC i.d.isAgg ks e)))else none
   |none=>none
  |some i,v=>match pS η i v with
   |some v=>k (.val v)
   |none=>none
  |none,_=>none
 |.slice t x w u none=>match c.ty t with
  |some i=>match i.d with
   |.str=>match ρ x with
    |.str s=>x_ s.length (w.map ρ) (u.map ρ) (λl h=>k (.val (.str ((s.take h).drop l))))
    |_=>none
   |.slice e=>match c.ty e with
    |some j=>match ρ x with
     |.nil=>x_ 0 (w.map ρ) (u.map ρ) (λ_ _=>k (.val .nil))
     |.sl s f xs=>if s=j.size then x_ xs.length (w.map ρ) (u.map ρ) (λl h=>k (.val (.sl s f ((xs.take h).drop l))))else none
     |.own b s q xs=>if s=j.size then x_ xs.length (w.map ρ) (u.map ρ) (λl h=>k (.val (.view b s q ((xs.take h).drop l))))else none
     |.view b s q xs=>if s=j.size then x_ xs.length (w.map ρ) (u.map ρ) (λl h=>k (.val (.view b s q ((xs.take h).drop l))))else none
     |_=>none
    |none=>none
   |_=>none
  |none=>none
 |.indexAddr t x y=>match c.ty t,ρ y with
  |some i,.int _ n=>match i.d with
   |.slice e=>match c.ty e with
    |some j=>match ρ x with
     |.sl s _ xs=>match j.kinds with
      |some ks=>if s=j.size then chk (0<=n) (idx j.d.isAgg ks xs n.toNat (λe=>k (.val (.iptr (eC j.d.isAgg ks e) 0))))else none
      |none=>none
     |.view b s _ xs=>match j.kinds with
      |some ks=>if s=j.size then chk (0<=n) (idx j.d.isAgg ks xs n.toNat (λe=>k (.val (.vptr b (eC j.d.isAgg ks e) 0))))else none
      |none=>none
     |.own b s q xs=>if s=j.size then chk (0<=n/\n.toNat<xs.length) (k (.val (.eptr b j.size q xs n.toNat 0)))else none
     |_=>none
    |none=>none
   |.array m e=>match c.ty e with
    |some j=>match jk (ρ x) (n.toNat*j.size)with
     |some v=>chk (0<=n/\n<m) (k (.val v))
     |none=>none
    |none=>none
   |_=>none
  |_,_=>none
 |.index t x y=>match c.ty t,ρ y with
  |some i,.int _ n=>match i.d,ρ x with
   |.str,.str s=>idxS s n (λb=>k (.val (.int .u8 b)))
   |.array m e,.agg cs=>match c.ty e with
    |some j=>match lP j.d.isAgg j.size (cs.drop (n.toNat*j.size))with
     |some v=>chk (0<=n/\n<m) (k (.val v))
     |none=>none
    |none=>none
   |_,_=>none
  |_,_=>none
 |.convert s t x=>match nj c s t (ρ x)with
  |some v=>k (.val v)
  |none=>match jr c s t (ρ x)with
   |some xs=>strO xs (λs=>k (.val (.str s)))
   |none=>match ei c s t (ρ x)with
    |some v=>k (.fresh v [] 0)
    |none=>none
 |.makeSlice t l C=>match c.ty t with
  |some ⟨.slice e,_,_,_,_,_,_⟩=>match c.ty e,ρ l,ρ C with
   |some i,.int _ n,.int _ m=>if i.size≠0/\mi i.size [i.zero]=true/\ym i.zero = .flat then
    (match gD (bZ i.nz i.zero)with
    |some z=>chk (0<=n/\n<=m/\m*i.bytes<=140737488355328/\m<=140737488355328) (k (.fresh (.own (base d 0) i.size ((ym (bZ i.nz i.zero)).join i.qz) (List.replicate n.toNat z)) [] 1))
    |none=>none)else none
   |_,_,_=>none
  |_=>none
 |.call ⟨.builtin .append,args,E⟩=>match args.toList,E.toList with
  | [x,y],[t,D]=>match c.ty t with
   |some ⟨.slice e,_,_,_,_,_,_⟩=>match c.ty e,ρ x with
    |some i,.nil=>match fE i.size (ρ y)with
     |some (q,ys)=>if D=t/\i.size≠0 then chk (ys.length*i.bytes<=140737488355328/\ys.length<=140737488355328) (k (.fresh (.own (base d 0) i.size (q.join i.qz) ys) (eJ q (ρ y)) 1))else none
     |none=>none
    |_,_=>none
   |_=>none
  |_,_=>none
 |.call ⟨.value f,args,_⟩=>match ρ f with
  |.clo g p=>match cE η (args.toList.map ρ++p)with
   |some vs=>B g (cx (c.pz g) vs) (λr=>match ny d (args.toList.map ρ++p) r with
    |some o=>k o
    |none=>none)
   |none=>none
  |_=>none
 |A=>match aF c (λ_ _=>none) ρ η d A with
  |some o=>k o
  |none=>none
def yE (c:Cfg)(f:St)(d:Option Nat)(l:Op)(k:St->Option α):Option α:=
 match l with
 |.store t a x=>match c.ty t with
  |some i=>if(ev f.t x).cells.length=i.size/\cI (ev f.t x).cells=true/\d=none then(match ev f.t a with
   |.ptr b o=>(match f.h.getD b none with
    |some r=>(match over r.cells o (ev f.t x).cells with
     |some cs=>k { f with h:=f.h.set b (some (gM r cs)) }
     |none=>none)
    |none=>none)
   |.eptr b _ q xs j o=>if f.dead b=false/\(bB (bZ i.nz (ev f.t x)).cells).contains b=false then
    (match iu (bZ i.nz (ev f.t x)).cells with
    |some g=>bU xs j o g (λys=>k (((f.sweep (cR b (q.join (c_ (bZ i.nz (ev f.t x)).cells)) ys)).kill (bB (bZ i.nz (ev f.t x)).cells)).mark (!aR f.dead (bB (bZ i.nz (ev f.t x)).cells))))
    |none=>none)else none
   |_=>none)else none
  |none=>none
 |.call ⟨.builtin .append,args,n⟩=>match args.toList,n.toList,d with
  | [x,y],[t,m],some d=>match c.ty t with
   |some ⟨.slice e,_,_,_,_,_,_⟩=>match c.ty e,ev f.t x with
    |some i,.own b s q xs=>match fE s (ev f.t y)with
     |some (q',ys)=>
      if m=t/\s=i.size/\i.size≠0/\f.dead b=false/\b≠999 then
       chk ((xs.length+ys.length)*i.bytes<=140737488355328/\xs.length+ys.length<=140737488355328) (k ((({ f.sweep (aq b)with t:=(f.sweep (aq b)).t.set d (.own b s (q.join q') (xs++ys)) }:St).kill (eJ q' (ev f.t y))).mark (!aR f.dead (eJ q' (ev f.t y))||(eJ q' (ev f.t y)).contains b)))
      else none
     |none=>none
    |_,_=>none
   |_=>none
  |_,_,_=>none
 |_=>none
def RS (a:St)(d:Nat)(k:St->Option α):Out->Option α
 |.val v=>k { a with t:=a.t.set d v }
 |.box r=>if d<a.t.length/\d<a.h.length/\(a.h.getD d none).isNone=true/\a.freeP d=true/\r.anyP (λb=>b==d)=false then
  k { a with t:=a.t.set d (.ptr d 0),h:=a.h.set d (some r) } else none
 |.fresh v esc n=>if d<1000/\n<=1000/\(n=0\/a.freeD d=true)then k ((({ a with t:=a.t.set d v }:St).kill esc).mark (!aR a.dead esc))else none
def Fd (c:Cfg)(e:Nat->List V->(V->Option α)->Option α)(a:St)(o:Oper)(k:St->Option α):Option α:=
 if ss a o.op then yE c a o.dst o.op k else
 match o.dst with
 |none=>none
 |some d=>oV c e (ev a.t) (λb=>a.h.getD b none) d o.op (RS a d k)
def St.skip (a:St)(o:Oper):St:=
 match o.dst with
 |some d=>{ a with t:=a.t.set d oj }
 |none=>a
def St.know (a:St)(d:Nat)(b:Bool):St:={ a with t:=a.t.set d (.bool b) }
def e1h (g:Wr)(xs:List V)(k:List V->Nat->Option α):Option α:=
 match g.g xs with
 |some (ys,n)=>k ys n
 |none=>none
def b1i (a:St)(d:Option Nat)(g:Wr)(x:Operand)(k:St->Option α):Option α:=
  match ev a.t x,d with
  |.own b s q xs,some d=>if a.dead b=false/\b≠999/\q = .flat/\s=g.s then
     e1h g xs (λys n=>k { a.sweep (cR b .flat ys)with t:=(a.sweep (cR b .flat ys)).t.set d (match g.v with
       |true=>.view b s .flat (ys.take n)
       |false=>.tup []) })else none
  |_,_=>none
def q0t (c:Cfg)(b:Nat->List V->(V->Option α)->Option α)(a:St)(d:Option Nat)(f:Nat)(s:Io)(az:List Operand)(k:St->Option α):Option α:=
 match d with
 |some d=>match lJ c a f s (az.map (ev a.t))with
  |some p=>b f (gc :: p.args) (λr=>match yM a d s p r with
   |some s=>k s
   |none=>none)
  |none=>none
 |none=>none
def nR (c:Cfg)(a:Nat->List V->(V->Option α)->Option α)(b:St)(o:Oper)(k:St->Option α):Option α:=
 match mn c o.op with
 |some (g,x)=>b1i b o.dst g x k
 |none=>match ll c o.op with
  |some (f,s,az)=>q0t c a (b.head ([],[])) o.dst f s az k
  |none=>Fd c a b o k
def sx (s i n:Nat)(xs:List V)(k:List V->Option α):Option α:=
 match I_ s i n xs with
 |some ys=>k ys
 |none=>none
def GN (c:Cfg)(a:St)(z:Option (Nat×Nat×Operand))(k:St->Option α):Option α:=
 match z with
 |none=>k a
 |some (X,t,y)=>match c.ty t,ev a.t (.tmp X),ev a.t y with
  |some e,.sl s true _,.eptr b f .clean rows i n=>
   if e.d.isAgg=false/\e.size=1/\s≠0/\a.dup=false/\a.dead b=false/\X<1000/\a.freeD X=true/\a.dead (base X 0)=false then
    sx s i n rows (λys=>k (a.taken X b s i n rows ys))else none
  |_,_,_=>none
def iI (c:Cfg)(a:Nat->List V->(V->Option α)->Option α)(ops:Array Oper):rf->St->(St->Option α)->Option α
 | [],d,k=>k d
 |(o,f,z) :: os,d,k=>match f d with
  |false=>none
  |true=>GN c d z λd=>match o.guard with
   |none=>nR c a d o (λs=>iI c a ops os s k)
   |some (j,e)=>match(ops[j]?).bind (·.dst)with
    |none=>iI c a ops os (d.skip o) k
    |some g=>match d.t.getD g .undef with
     |.bool b=>br b
      (match e with
       |true=>nR c a (d.know g true) o (λs=>iI c a ops os s k)
       |false=>iI c a ops os ((d.know g true).skip o) k)
      (match e with
       |true=>iI c a ops os ((d.know g false).skip o) k
       |false=>nR c a (d.know g false) o (λs=>iI c a ops os s k))
     |.tup []=>iI c a ops os (d.skip o) k
     |_=>none
end
inductive Leaf where
  |b (x:Bool)
  |i (n:Int)
  |s (x:List UInt8)
  |l (xs:List V)
def lB (σ:List Leaf)(n:Nat):Bool:=
 match σ[n]? with
 |some (.b x)=>x
 |_=>false
def lI (σ:List Leaf)(n:Nat):Int:=
 match σ[n]? with
 |some (.i x)=>x
 |_=>0
def lS (σ:List Leaf)(n:Nat):List UInt8:=
 match σ[n]? with
 |some (.s x)=>x
 |_=>[]
def lL (σ:List Leaf)(n:Nat):List V:=
 match σ[n]? with
 |some (.l x)=>x
 |_=>[]
mutual
def V.lv:V->List Leaf
 |.undef=>[]
 |.bool b=>[.b b]
 |.int _ n=>[.i n]
 |.str s=>[.s s]
 |.nil=>[]
 |.sl _ _ xs=>[.l xs]
 |.own _ _ _ xs=>[.l xs]
 |.view _ _ _ xs=>[.l xs]
 |.ptr _ _=>[]
 |.eptr _ _ _ xs i _=>[.l xs,.i i]
 |.vptr _ x _=>V.lv x
 |.iptr x _=>V.lv x
 |.agg cs=>V.lvs cs
 |.tup cs=>V.lvs cs
 |.clo _ cs=>V.lvs cs
def V.lvs:List V->List Leaf
 | []=>[]
 |v :: vs=>V.lv v++V.lvs vs
end
mutual
def V.sk:V->V
 |.undef=>.undef
 |.bool _=>.bool false
 |.int k _=>.int k 0
 |.str _=>.str []
 |.nil=>.nil
 |.sl s f _=>.sl s f []
 |.own b s q _=>.own b s q []
 |.view b s q _=>.view b s q []
 |.ptr d o=>.ptr d o
 |.eptr b s q _ _ o=>.eptr b s q [] 0 o
 |.vptr b x o=>.vptr b (V.sk x) o
 |.iptr x o=>.iptr (V.sk x) o
 |.agg cs=>.agg (V.sks cs)
 |.tup cs=>.tup (V.sks cs)
 |.clo f cs=>.clo f (V.sks cs)
def V.sks:List V->List V
 | []=>[]
 |v :: vs=>V.sk v :: V.sks vs
end
mutual
def V.bd (σ:List Leaf):V->Nat->V×Nat
 |.undef,n=>(.undef,n)
 |.bool _,n=>(.bool (lB σ n),n+1)
 |.int k _,n=>(.int k (lI σ n),n+1)
 |.str _,n=>(.str (lS σ n),n+1)
 |.nil,n=>(.nil,n)
 |.sl s f _,n=>(.sl s f (lL σ n),n+1)
 |.own b s q _,n=>(.own b s q (lL σ n),n+1)
 |.view b s q _,n=>(.view b s q (lL σ n),n+1)
 |.ptr d o,n=>(.ptr d o,n)
 |.eptr b s q _ _ o,n=>(.eptr b s q (lL σ n) (lI σ (n+1)).toNat o,n+2)
 |.vptr b x o,n=>(.vptr b (V.bd σ x n).1 o,(V.bd σ x n).2)
 |.iptr x o,n=>(.iptr (V.bd σ x n).1 o,(V.bd σ x n).2)
 |.agg cs,n=>(.agg (V.bds σ cs n).1,(V.bds σ cs n).2)
 |.tup cs,n=>(.tup (V.bds σ cs n).1,(V.bds σ cs n).2)
 |.clo f cs,n=>(.clo f (V.bds σ cs n).1,(V.bds σ cs n).2)
def V.bds (σ:List Leaf):List V->Nat->List V×Nat
 | [],n=>([],n)
 |v :: vs,n=>((V.bd σ v n).1 :: (V.bds σ vs (V.bd σ v n).2).1,(V.bds σ vs (V.bd σ v n).2).2)
end
mutual
def V.same:V->V->Bool
 |.undef,.undef=>true
 |.bool a,.bool b=>a==b
 |.int k n,.int m t=>decide (k=m)&&n==t
 |.str [],.str []=>true
 |.nil,.nil=>true
 |.sl s f [],.sl s' l []=>s==s'&&f==l
 |.own b s q [],.own g s' q' []=>b==g&&s==s'&&decide (q=q')
 |.view b s q [],.view g s' q' []=>b==g&&s==s'&&decide (q=q')
 |.ptr d o,.ptr p e=>d==p&&o==e
 |.eptr b s q [] i o,.eptr g s' q' [] r e=>b==g&&s==s'&&decide (q=q')&&i==r&&o==e
 |.vptr b x o,.vptr g j e=>b==g&&V.same x j&&o==e
 |.iptr x o,.iptr j e=>V.same x j&&o==e
 |.agg cs,.agg h=>V.sames cs h
 |.tup cs,.tup h=>V.sames cs h
 |.clo f cs,.clo l h=>f==l&&V.sames cs h
 |_,_=>false
def V.sames:List V->List V->Bool
 | [],[]=>true
 |v :: vs,w :: a=>V.same v w&&V.sames vs a
 |_,_=>false
end
def LJ:List (Option V)->List Leaf
 | []=>[]
 |some v :: r=>v.lv++LJ r
 |none :: r=>LJ r
def TH:List (Option V)->List (Option V)
 | []=>[]
 |some v :: r=>some v.sk :: TH r
 |none :: r=>none :: TH r
def S4 (σ:List Leaf):List (Option V)->Nat->List (Option V)
 | [],_=>[]
 |some v :: r,n=>some (v.bd σ n).1 :: S4 σ r (v.bd σ n).2
 |none :: r,n=>none :: S4 σ r n
def pp:List (Option V)->List (Option V)->Bool
 | [],[]=>true
 |some v :: r,some w :: a=>v.same w&&pp r a
 |none :: r,none :: a=>pp r a
 |_,_=>false
def St.lv (a:St):List Leaf:=V.lvs a.t++LJ a.h
def St.sk (a:St):List V×List (Option V):=(V.sks a.t,TH a.h)
def xx (σ:List Leaf)(k:List V×List (Option V)):St:=⟨(V.bds σ k.1 0).1,S4 σ k.2 (V.bds σ k.1 0).2,λ_=>false,false⟩
def pn (k a:List V×List (Option V)):Bool:=V.sames k.1 a.1&&pp k.2 a.2
section
variable {σ O:Type}
def db (step:σ->Option (σ ⊕ O)):Nat->σ->Option O
 |0,_=>none
 |n+1,s=>match step s with
  |some (.inl s')=>db step n s'
  |some (.inr r)=>some r
  |none=>none
theorem tK {step:σ->Option (σ ⊕ O)}:∀{n m:Nat} {s:σ} {r:O},n<=m->db step n s=some r->db step m s=some r:=by
 intro n;induction n with
 |zero=>intro m s r _ h;cases h
 |succ n a=>
  intro m s r b h;cases m with
  |zero=>omega
  |succ m=>
   rw[db]at h ⊢;cases hs:step s with
   |none=>rw[hs]at h;cases h
   |some x=>
    rw[hs]at h;cases x with
    |inl s'=>exact a (by omega) h
    |inr d=>exact h
open Classical in
noncomputable def cN (step:σ->Option (σ ⊕ O))(s:σ):Option O:=if h:∃(r:O) (k:Nat),db step k s=some r then some h.choose else none
theorem kJ {step:σ->Option (σ ⊕ O)}{s:σ}{r:O}{k:Nat}(h:db step k s=some r):cN step s=some r:=by have a:∃(r:O) (k:Nat),db step k s=some r:=⟨r,k,h⟩;unfold cN;rw[dif_pos a];obtain⟨m,d⟩:=a.choose_spec;have e:=tK (Nat.le_max_left k m) h;have b:=tK (Nat.le_max_right k m) d;rw[e]at b;injection b with b;rw[<-b]
theorem eV {step:σ->Option (σ ⊕ O)}{s:σ}{r:O}(h:cN step s=some r):∃k,db step k s=some r:=by
 unfold cN at h;by_cases a:∃(r:O) (k:Nat),db step k s=some r;·rw[dif_pos a]at h;obtain⟨m,b⟩:=a.choose_spec;injection h with h;rw[h]at b;exact⟨m,b⟩
 ·rw[dif_neg a]at h;cases h
theorem eW (step:σ->Option (σ ⊕ O))(s:σ):cN step s=match step s with
  |some (.inl s')=>cN step s'
  |some (.inr r)=>some r
  |none=>none:=by
 cases hs:step s with
 |none=>
  cases b:cN step s with
  |none=>rfl
  |some r=>
   obtain⟨k,a⟩:=eV b;cases k with
   |zero=>cases a
   |succ k=>rw[db,hs]at a;cases a
 |some x=>
  cases x with
  |inr r=>exact kJ (k:=1) (by rw[db,hs])
  |inl s'=>
   simp only;cases b:cN step s' with
   |some r =>obtain⟨k,a⟩:=eV b;exact kJ (k:=k+1) (by rw[db,hs];exact a)
   |none=>
    cases d:cN step s with
    |none=>rfl
    |some r=>
     obtain⟨k,a⟩:=eV d;cases k with
     |zero=>cases a
     |succ k =>rw[db,hs]at a;rw[kJ a]at b;cases b
noncomputable def l_ {α:Type}(step:σ->Option (σ ⊕ O))(s:σ)(k:O->Option α):Option α:=
 match cN step s with
 |some r=>k r
 |none=>none
end
mutual
def lg {γ:Type}:V->(V->γ)->γ
 |.undef,k=>k .undef
 |.bool b,k=>k (.bool b)
 |.int i n,k=>k (.int i n)
 |.str s,k=>k (.str s)
 |.nil,k=>k .nil
 |.sl s f xs,k=>k (.sl s f xs)
 |.own b s q xs,k=>k (.own b s q xs)
 |.view b s q xs,k=>k (.view b s q xs)
 |.ptr d o,k=>k (.ptr d o)
 |.eptr b s q xs i o,k=>k (.eptr b s q xs i o)
 |.vptr b x o,k=>k (.vptr b x o)
 |.iptr x o,k=>k (.iptr x o)
 |.agg cs,k=>ia cs λcs=>k (.agg cs)
 |.tup cs,k=>ia cs λcs=>k (.tup cs)
 |.clo f cs,k=>ia cs λcs=>k (.clo f cs)
def ia {γ:Type}:List V->(List V->γ)->γ
 | [],k=>k []
 |v :: vs,k=>lg v λv=>ia vs λvs=>k (v :: vs)
end
def nG {γ:Type}:List (Option V)->(List (Option V)->γ)->γ
 | [],k=>k []
 |none :: vs,k=>nG vs λvs=>k (none :: vs)
 |some v :: vs,k=>lg v λv=>nG vs λvs=>k (some v :: vs)
def zZ {γ:Type}(a:St)(k:St->γ):γ:=ia a.t λt=>nG a.h λh=>match a.dup with
 |true=>k ⟨t,h,a.dead,true⟩
 |false=>k ⟨t,h,a.dead,false⟩
theorem se {γ:Type}(v:V):∀k:V->γ,lg v k=k v:=
 V.rec (motive_1:=λv=>∀k:V->γ,lg v k=k v) (motive_2:=λvs=>∀k:List V->γ,ia vs k=k vs)
  (λ_=>rfl) (λ_ _=>rfl) (λ_ _ _=>rfl) (λ_ _=>rfl) (λ_=>rfl) (λ_ _ _ _ _=>rfl) (λ_ _ _ _ _ _=>rfl) (λ_ _ _ _ _ _=>rfl) (λ_ _ _=>rfl) (λ_ _ _ _ _ _ _ _=>rfl) (λ_ _ _ _ _=>rfl) (λ_ _ _ _=>rfl)
  (λ_ a _=>by rw[lg,a]) (λ_ a _=>by rw[lg,a]) (λ_ _ a _=>by rw[lg,a]) (λ_=>rfl) (λ_ _ b d _=>by rw[ia,b,d]) v
theorem Bq {γ:Type}:∀(vs:List V) (k:List V->γ),ia vs k=k vs:=by
 intro vs;induction vs with
 |nil=>intro k;rfl
 |cons v vs a=>intro k;rw[ia,se,a]
theorem Br {γ:Type}:∀(vs:List (Option V)) (k:List (Option V)->γ),nG vs k=k vs:=by
 intro vs;induction vs with
 |nil=>intro k;rfl
 |cons v vs a=>intro k;cases v with
  |none=>rw[nG,a]
  |some v=>rw[nG,se,a]
theorem wF {γ:Type}(a:St)(k:St->γ):zZ a k=k a:=by unfold zZ;rw[Bq,Br];obtain⟨t,h,d,u⟩:=a;cases u<;>rfl
def Ex.same:Ex->Ex->Bool
 |.normal,.normal=>true
 |.exit i,.exit j=>i==j
 |.ret,.ret=>true
 |_,_=>false
abbrev aH:=Nat->List (Ex×List V×List (Option V))
def nD (e:Ex)(k:List V×List (Option V)):Nat->List (Ex×List V×List (Option V))->Option Nat
 |_,[]=>none
 |n,(a,b) :: r=>if e.same a&&pn k b then some n else nD e k (n+1) r
def AF {α:Type}(a:List Leaf)(j:Nat)(k:Ex->St->Option α):Nat->List (Ex×List V×List (Option V))->Option α
 |_,[]=>none
 |_,[(e,s)]=>k e (xx a s)
 |n,(e,s) :: r=>if j=n then k e (xx a s)else AF a j k (n+1) r
abbrev Oi:=(O:Type)->Nat->List V->(V->Option O)->Option O
noncomputable def eN (c:Cfg)(h:Oi)(g:xn)(X:aH):Code->(α:Type)->St->(Ex->St->Option α)->Option α
 |.skip,_,f,k=>k .normal f
 |.region i ops l,α,f,k=>
  match l with
  |true=>zZ (f.head (zk ops,(g (2000+i)).2)) λf=>iI c (h α) ops (iD c ops (g (3000+i)).1 (gL ops)) f (k .normal)
  |false=>zZ (f.headW (g (2000+i)).2) λf=>iI c (h α) ops (wj ops) f (k .normal)
 |.seq a b,α,f,k=>eN c h g X a α f (λe s=>match e with
  |.normal=>eN c h g X b α s k
  |e=>k e s)
 |.cond x a b,α,f,k=>match x,ev f.t x with
  |.tmp d,.bool t=>br t (eN c h g X a α (f.know d true) k) (eN c h g X b α (f.know d false) k)
  |_,.bool t=>br t (eN c h g X a α f k) (eN c h g X b α f k)
  |_,_=>none
 |.block i b,α,f,k=>eN c h g X b α f (λe s=>match e with
  |.exit j=>if j=i then k .normal s else k (.exit j) s
  |e=>k e s)
 |.loop b,_,f,k=>
  l_ (λσ=>eN c h g X b (List Leaf ⊕ (Nat×List Leaf)) (xx σ (f.head ((g (aM b)).1,(g (aM b)).2)).sk) (λe s=>match e with
    |.normal=>if pn (s.head ((g (aM b)).1,(g (aM b)).2)).sk (f.head ((g (aM b)).1,(g (aM b)).2)).sk then some (.inl (s.head ((g (aM b)).1,(g (aM b)).2)).lv)else none
    |e=>match nD e (s.head ((g (1000+aM b)).1,(g (1000+aM b)).2)).sk 0 (X (aM b))with
     |some j=>some (.inr (j,(s.head ((g (1000+aM b)).1,(g (1000+aM b)).2)).lv))
     |none=>none))
   (f.head ((g (aM b)).1,(g (aM b)).2)).lv
   (λr=>AF r.2 r.1 k 0 (X (aM b)))
 |.exit i,_,f,k=>k (.exit i) f
 |.ret,_,f,k=>k .ret f
 |_,_,_,_=>none
noncomputable def Yt (c:Cfg)(d:Oi)(X:aH)(f:Nat)(b:Func)(α:Type)(args:List V)(k:V->Option α):Option α:=
 match b.body with
 |none=>none
 |some a=>if cJ a=false then none else eN c d (c.fg f) X a α ⟨args++List.replicate (b.ntmps-args.length) .undef,List.replicate b.ntmps none,λ_=>false,false⟩ (λe s=>match e with
  |.exit _=>none
  |_=>match pE c (c.rz f) s b.results.toList with
   |some r=>k r
   |none=>none)
noncomputable def wE (c:Cfg)(d:Oi)(X:aH)(f:Nat)(s:Io)(b:Func)(α:Type)(args:List V)(k:V->Option α):Option α:=
 match b.body with
 |none=>none
 |some a=>if cJ a=false\/(fm (c.fg (1000000+f)) a&&V.anyBs (λ_=>true) args)=true then none else if b.ntmps=s.nt then eN c d (c.fg (1000000+f)) X a α (ry s args) (λe g=>match e with
  |.exit _=>none
  |_=>match fb c (c.rz (1000000+f)) g s b.results.toList with
   |some r=>k r
   |none=>none)else none
end Go.Am
end
section
namespace Go.Am
open Go
section
variable {c:Cfg}{den:Nat->List V->Option V}{α:Type}
theorem Ph {k:CK}{v:V}{e:k.T}(h:k.dec v=some e):k.enc e=v:=by
 cases k<;>cases v<;>simp only[CK.dec]at h<;>first|(cases h;done)|skip
 ·injection h with h;subst h;rfl
 ·split at h;·rename_i a;subst a;injection h with h;subst h;rfl
  ·cases h
 ·injection h with h;subst h;rfl
 ·split at h;·rename_i a;obtain⟨rfl,rfl⟩:=a;injection h with h;subst h;rfl
  ·cases h
theorem nA:∀{ks:List CK} {vs:List V} {e:bP ks},bo ks vs=some e->cK ks e=vs/\vs.length=ks.length:=by
 intro ks;induction ks with
 |nil=>
  intro vs e h;cases vs with
  |nil=>exact⟨rfl,rfl⟩
  |cons v vs=>simp[bo]at h
 |cons k ks i=>
  intro vs e h;cases vs with
  |nil=>simp[bo]at h
  |cons v vs=>
   simp only[bo]at h;split at h;·rename_i a b g d;injection h with h;subst h;obtain⟨j,f⟩:=i d;exact⟨by show k.enc a :: cK ks b=_;rw[Ph g,j],by simp[f]⟩
   ·cases h
theorem AH {a:Bool}{ks:List CK}{v:V}{e:bP ks}(h:im a ks v=some e):eC a ks e=v:=by
 cases a with
 |true=>
  cases v<;>simp only[im]at h<;>first|(cases h;done)|skip
  simp only[eC,(nA h).1]
 |false =>cases v<;>simp only[im]at h<;>first|(cases h;done)|(simp only[eC,(nA h).1];rfl)
theorem bQ {p:Prop}[Decidable p]{x:Option α}{r:α}(h:chk p x=some r):p/\x=some r:=by
 unfold chk at h;split at h;·exact⟨‹_›,h⟩
 ·cases h
theorem wH {b:Bool}{ks:List CK}{xs:List V}{i:Nat}{k:bP ks->Option α}{r:α}(h:idx b ks xs i k=some r):∃e,xs[i]?=some (eC b ks e)/\k e=some r:=by
 unfold idx at h;split at h
 ·rename_i e a;cases d:xs[i]? with
  |none=>rw[d]at a;cases a
  |some v =>rw[d]at a;exact⟨e,by rw[AH a],h⟩
 ·cases h
theorem yK {ks:List CK}{xs:List V}{i o:Nat}{k:bP ks->Option α}{r:α}(h:idxAt ks xs i o k=some r):∃e v,xs[i]?=some v/\(v.cells.drop o).take ks.length=cK ks e/\ks.length<=(v.cells.drop o).length/\k e=some r:=by
 unfold idxAt at h;split at h
 ·rename_i e a;cases b:xs[i]? with
  |none=>rw[b]at a;cases a
  |some v =>rw[b]at a;obtain⟨f,d⟩:=nA a;refine⟨e,v,rfl,f.symm,?_,h⟩;rw[List.length_take]at d;omega
 ·cases h
theorem h_ {n:Nat}{b a:Option V}{k:Nat->Nat->Option α}{r:α}(h:x_ n b a k=some r):∃l u,rq n b a=some (l,u)/\k l u=some r:=by
 have d:rq n b a=match tq 0 b,tq n a with
   |some l,some h=>if 0<=l/\l<=h/\h<=n then some (l.toNat,h.toNat)else none
   |_,_=>none:=by
  unfold rq
  cases b with
  |none=>cases a with
   |none=>rfl
   |some w=>cases w<;>rfl
  |some v=>cases v<;>(cases a with
   |none=>rfl
   |some w=>cases w<;>rfl)
 unfold x_ at h;split at h;·rename_i l u e g;obtain⟨f,i⟩:=bQ h;refine⟨l.toNat,u.toNat,?_,i⟩;rw[d,e,g];simp only;rw[if_pos f]
 ·cases h
theorem BY {i:TyInfo}{j:BinOp}{x y:V}{k:V->Option α}{r:α}(h:Pe i j x y k=some r):∃v,vb i j x y=some v/\k v=some r:=by
 unfold Pe at h;split at h;·rename_i a b;obtain⟨e,d⟩:=bQ h;refine⟨_,?_,d⟩;simp only[vb,AL];rw[if_pos e]
 ·rename_i kd a g b;split at h;·rename_i f;obtain⟨e,d⟩:=bQ h;refine⟨_,?_,d⟩;simp only[vb,if_pos f,wI,xz,Dy];rw[if_neg e];rfl
  ·cases h
 ·rename_i kd a g b;split at h;·rename_i f;obtain⟨e,d⟩:=bQ h;refine⟨_,?_,d⟩;simp only[vb,if_pos f,wI];rw[if_neg e]
  ·cases h
 ·split at h;·rename_i v l;exact⟨v,l,h⟩
  ·cases h
def eM (den:Nat->List V->Option V)(a:Nat->List V->(V->Option α)->Option α):Prop:=∀g args k r,a g args k=some r -> ∃v,den g args=some v/\k v=some r
theorem I5:Le (λ_ _=>none) den:=λ_ _ _ h=>by cases h
theorem Ju {R:Nat->List V->(V->Option α)->Option α}(ht:eM den R){ρ:Operand->V}{η:Nat->Option V}{d:Nat}{L:Op}{k:Out->Option α}{r:α}(h:oV c R ρ η d L k=some r):∃o,aF c den ρ η d L=some o/\k o=some r:=by
 have D:(match aF c (λ_ _=>none) ρ η d L with
  |some o=>k o
  |none=>none)=some r -> ∃o,aF c den ρ η d L=some o/\k o=some r:=by
  intro h
  cases H:aF c (λ_ _=>none) ρ η d L with
  |none=>rw[H]at h;cases h
  |some o=>rw[H]at h;exact⟨o,xK I5 H,h⟩
 cases L with
 |pick x a b=>
  simp only[oV]at h;split at h
  ·rename_i t B;cases t with
   |true=>exact⟨_,by simp only[aF,B,plain],h⟩
   |false=>exact⟨_,by simp only[aF,B,plain],h⟩
  ·cases h
 |binOp L t x y z=>
  simp only[oV]at h;split at h;·rename_i i G;obtain⟨v,A,p⟩:=BY h;exact⟨_,by simp only[aF,G,A,plain],p⟩
  ·cases h
 |load t a=>
  simp only[oV]at h;split at h
  ·rename_i i b s q xs j o G ha;split at h
   ·rename_i ks U;split at h
    ·rename_i N;obtain⟨e,v,A,p,J,K⟩:=yK h;refine⟨_,?_,K⟩;obtain⟨N,ac⟩:=N;simp only[aF,G,ha,pS,dR,A,Option.map_some,lP];rw[if_neg (by omega)];cases ae:i.d.isAgg with
     |true=>simp only[if_true,<-N,plain,p];rfl
     |false=>
      have X:i.size=1:=ac.resolve_left (by rw[ae];simp);simp only[Bool.false_eq_true,if_false,X,if_true];rw[N,X]at p J;cases S:v.cells.drop o with
      |nil=>rw[S]at J;simp at J
      |cons u us =>rw[S]at p;simp only[List.head?_cons,plain,eC];rw[<-p];rfl
    ·cases h
   ·cases h
  ·rename_i i v G ai;split at h;·rename_i v' H;exact⟨_,by simp only[aF,G,H,plain],h⟩
   ·cases h
  ·cases h
 |slice t x lo G mx=>
  cases mx with
  |some m=>exact D h
  |none=>
   simp only[oV]at h;split at h
   ·rename_i i w;split at h
    ·rename_i C;split at h;·rename_i s B;obtain⟨l,u,A,p⟩:=h_ h;exact⟨_,by simp only[aF,w,C,B,A,plain],p⟩
     ·cases h
    ·rename_i e C;split at h
     ·rename_i j F;split at h;·rename_i B;obtain⟨l,u,A,p⟩:=h_ h;exact⟨_,by simp only[aF,w,C,F,B,cut,A,plain],p⟩
      ·rename_i s f xs B;split at h;·rename_i hs;obtain⟨l,u,A,p⟩:=h_ h;exact⟨_,by simp only[aF,w,C,F,B,cut,if_pos hs,A,plain],p⟩
       ·cases h
      ·rename_i b s q xs B;split at h;·rename_i hs;obtain⟨l,u,A,p⟩:=h_ h;exact⟨_,by simp only[aF,w,C,F,B,cut,if_pos hs,A,plain],p⟩
       ·cases h
      ·rename_i b s q xs B;split at h;·rename_i hs;obtain⟨l,u,A,p⟩:=h_ h;exact⟨_,by simp only[aF,w,C,F,B,cut,if_pos hs,A,plain],p⟩
       ·cases h
      ·cases h
     ·cases h
    ·cases h
   ·cases h
 |indexAddr t x y=>
  simp only[oV]at h;split at h
  ·rename_i i kk n w M;split at h
   ·rename_i e C;split at h
    ·rename_i j F;split at h
     ·rename_i s f xs B;split at h
      ·rename_i ks U;split at h;·rename_i hs;obtain⟨A,p⟩:=bQ h;obtain⟨e',J,K⟩:=wH p;refine⟨_,?_,K⟩;simp only[aF,w,M,C,F,B,m_];rw[if_neg (by omega),if_pos hs,J];rfl
       ·cases h
      ·cases h
     ·rename_i b s q xs B;split at h
      ·rename_i ks U;split at h;·rename_i hs;obtain⟨A,p⟩:=bQ h;obtain⟨e',J,K⟩:=wH p;refine⟨_,?_,K⟩;simp only[aF,w,M,C,F,B,m_];rw[if_neg (by omega),if_pos hs,J];rfl
       ·cases h
      ·cases h
     ·rename_i b s q xs B;split at h;·rename_i hs;obtain⟨A,p⟩:=bQ h;refine⟨_,?_,p⟩;simp only[aF,w,M,C,F,B,m_];rw[if_neg (by omega),if_pos hs,if_pos A.2];rfl
      ·cases h
     ·cases h
    ·cases h
   ·rename_i m e C;split at h
    ·rename_i j F;split at h;·rename_i v H;obtain⟨A,p⟩:=bQ h;refine⟨_,?_,p⟩;simp only[aF,w,M,C,F,if_pos A,H,plain]
     ·cases h
    ·cases h
   ·cases h
  ·cases h
 |index t x y=>
  simp only[oV]at h;split at h
  ·rename_i i kk n w M;split at h
   ·rename_i s C B;unfold idxS at h;obtain⟨A,p⟩:=bQ h;split at p;·rename_i b T;refine⟨_,?_,p⟩;simp only[aF,w,M,C,B];rw[if_neg (by omega),T];rfl
    ·cases p
   ·rename_i m e cs C B;split at h
    ·rename_i j F;split at h;·rename_i v H;obtain⟨A,p⟩:=bQ h;refine⟨_,?_,p⟩;simp only[aF,w,M,C,B,F,if_pos A,H,plain]
     ·cases h
    ·cases h
   ·cases h
  ·cases h
 |convert s t x=>
  simp only[oV]at h;cases E:nj c s t (ρ x)with
  |some v =>rw[E]at h;exact⟨_,by simp only[aF,E,plain],h⟩
  |none=>
   rw[E]at h;simp only at h;cases W:jr c s t (ρ x)with
   |some xs=>
    rw[W]at h;simp only[strO]at h;cases T:dJ xs with
    |none=>rw[T]at h;cases h
    |some l =>rw[T]at h;exact⟨_,by simp only[aF,E,ni,W,T,plain,Option.map_some],h⟩
   |none=>
    rw[W]at h;simp only at h;cases Q:ei c s t (ρ x)with
    |none=>rw[Q]at h;cases h
    |some v =>rw[Q]at h;exact⟨_,by simp only[aF,E,ni,W,Q,Option.map_some],h⟩
 |makeSlice t l kk=>
  simp only[oV]at h;split at h
  ·rename_i e sz Z z0 cm ab Y w;split at h
   ·rename_i i k1 n k2 m G N hk;split at h
    ·rename_i E;split at h;·rename_i z X;obtain⟨⟨A,p,J,K⟩,h5⟩:=bQ h;refine⟨_,?_,h5⟩;simp only[aF,w,G,N,hk];rw[if_pos ⟨A,p,J,K,E.1,E.2.1,E.2.2⟩,X]
     ·cases h
    ·cases h
   ·cases h
  ·cases h
 |call cl=>
  obtain⟨I,args,ts⟩:=cl;cases I with
  |invoke f m=>exact D h
  |value f=>
   simp only[oV]at h;split at h
   ·rename_i g ag Q;split at h
    ·rename_i vs af;obtain⟨v,A,p⟩:=ht _ _ _ _ h;split at p;·rename_i o ho;exact⟨o,by simp only[aF,Q,af,A,ho],p⟩
     ·cases p
    ·cases h
   ·cases h
  |builtin bi=>
   cases bi with
   |append=>
    simp only[oV]at h;split at h
    ·rename_i x y t t' B ad;split at h
     ·rename_i e sz Z z0 cm ab Y w;split at h
      ·rename_i i G aa;split at h
       ·rename_i q ys P;split at h;·rename_i E;obtain⟨A,p⟩:=bQ h;refine⟨_,?_,p⟩;simp only[aF,B,ad,w,G,aa,P];rw[if_pos ⟨E.1,E.2,A.1,A.2⟩]
        ·cases h
       ·cases h
      ·cases h
     ·cases h
    ·cases h
   |_=>exact D h
 |_=>exact D h
end
end Go.Am
end
section
namespace Go.Am
open Go
section
variable {c:Cfg}{den:Nat->List V->Option V}{α:Type}
theorem Ij {D:St}{d:Option Nat}{v:Op}{k:St->Option α}{r:α}(h:yE c D d v k=some r):∃s,mR c D d v=some s/\k s=some r:=by
 cases v with
 |store t a x=>
  simp only[yE]at h;split at h
  ·rename_i i m;split at h
   ·rename_i g;split at h
    ·rename_i b o w;split at h
     ·rename_i R K;split at h;·rename_i cs p;refine⟨_,?_,h⟩;simp only[mR,m];rw[if_pos g];simp only[w,K,p]
      ·cases h
     ·cases h
    ·rename_i b s q xs j o w;split at h
     ·rename_i B;split at h
      ·rename_i M F;unfold bU at h;split at h;·rename_i ys n;refine⟨_,?_,h⟩;simp only[mR,m];rw[if_pos g];simp only[w];rw[if_pos B];simp only[F,n]
       ·cases h
      ·cases h
     ·cases h
    ·cases h
   ·cases h
  ·cases h
 |call H=>
  obtain⟨f,args,U⟩:=H;cases f with
  |builtin L=>
   cases L with
   |append=>
    simp only[yE]at h;split at h
    ·rename_i x y t T S E u;split at h
     ·rename_i e Q I z0 P N G z;split at h
      ·rename_i i b s q xs m A;split at h
       ·rename_i q' ys l;split at h;·rename_i g;obtain⟨C,J⟩:=bQ h;refine⟨_,?_,J⟩;simp only[mR,E,u,z,m,A,l];rw[if_pos ⟨g.1,g.2.1,g.2.2.1,g.2.2.2.1,C.1,C.2,g.2.2.2.2⟩]
        ·cases h
       ·cases h
      ·cases h
     ·cases h
    ·cases h
   |_=>simp only[yE]at h;cases h
  |_=>simp only[yE]at h;cases h
 |_=>simp only[yE]at h;cases h
theorem Fe {b:Nat->List V->(V->Option α)->Option α}(l:eM den b){i:St}{o:Oper}{k:St->Option α}{r:α}(h:Fd c b i o k=some r):∃s,step c den i o=some s/\k s=some r:=by
 unfold Fd at h;unfold step;split at h;·rename_i e;rw[if_pos e];exact Ij h
 ·rename_i e;rw[if_neg e];split at h;·cases h
  ·rename_i d j;obtain⟨g,m,a⟩:=Ju l h;simp only[j,m];cases g with
   |val v=>exact⟨_,rfl,a⟩
   |box p=>
    simp only[RS]at a;split at a;·rename_i f;exact⟨_,by simp only[];rw[if_pos f],a⟩
    ·cases a
   |fresh v esc n=>
    simp only[RS]at a;split at a;·rename_i f;exact⟨_,by simp only[];rw[if_pos f],a⟩
    ·cases a
theorem zj {a:St}{d:Nat}{b:Bool}(h:a.t.getD d .undef = .bool b):a.know d b=a:=by
 unfold St.know;rw[List.getD_eq_getElem?_getD]at h;cases f:a.t[d]? with
 |none=>rw[f]at h;cases h
 |some v=>
  rw[f]at h;simp only[Option.getD_some]at h;subst h;have g:=(bW f).1;have:a.t.set d (.bool b)=a.t:=by
   apply List.ext_getElem?;intro i;rw[List.getElem?_set];split;·rename_i e;subst e;simp[f]
   ·rfl
  rw[this]
theorem tv {b:Bool}{x y:Option α}{r:α}(h:br b x y=some r):(b=true/\x=some r)\/(b=false/\y=some r):=by
 cases b with
 |true=>exact .inl ⟨rfl,h⟩
 |false=>exact .inr ⟨rfl,h⟩
theorem Sn {a:St}{d:Option Nat}{g:Wr}{x:Operand}{k:St->Option α}{r:α}(h:b1i a d g x k=some r):∃s,qB a d g x=some s/\k s=some r:=by
 unfold b1i at h;unfold qB;split at h
 ·rename_i b s q xs d e;split at h
  ·rename_i f;unfold e1h at h;split at h;·rename_i ys n i;refine⟨_,?_,h⟩;simp only[e];rw[if_pos f,i];rfl
   ·cases h
  ·cases h
 ·cases h
theorem Qc {a:Nat->List V->(V->Option α)->Option α}(i:eM den a){g:St}{d:Option Nat}{f:Nat}{s:Io}{az:List Operand}{k:St->Option α}{r:α}(h:q0t c a g d f s az k=some r):∃s',fc c den g d f s az=some s'/\k s'=some r:=by
 unfold q0t at h;unfold fc;split at h
 ·rename_i d;split at h
  ·rename_i p l;obtain⟨v,j,e⟩:=i _ _ _ _ h;split at e;·rename_i s' b;exact⟨s',by simp only[l,j,b],e⟩
   ·cases e
  ·cases h
 ·cases h
theorem CJ {a:Nat->List V->(V->Option α)->Option α}(e:eM den a){d:St}{o:Oper}{k:St->Option α}{r:α}(h:nR c a d o k=some r):∃s,dj c den d o=some s/\k s=some r:=by
 unfold nR at h;unfold dj;cases b:mn c o.op with
 |none=>
  rw[b]at h;simp only at h ⊢;cases f:ll c o.op with
  |none=>rw[f]at h;exact Fe e h
  |some z=>rw[f]at h;exact Qc e h
 |some z=>rw[b]at h;exact Sn h
theorem uX {ops:Array Oper}{o:Oper}{f:St->Bool}{z:Option (Nat×Nat×Operand)}{os:rf}{a b:St}(g:f a=true)(e:dG c a z=some b)(d:wanted ops b.t o=some false):aV c den ops ((o,f,z) :: os) a=aV c den ops os (b.skip o):=by simp only[aV,g,e,d,St.skip];cases o.dst<;>rfl
theorem yo {ops:Array Oper}{o:Oper}{f:St->Bool}{z:Option (Nat×Nat×Operand)}{os:rf}{a b s:St}(g:f a=true)(e:dG c a z=some b)(d:wanted ops b.t o=some true)(hs:dj c den b o=some s):aV c den ops ((o,f,z) :: os) a=aV c den ops os s:=by simp only[aV,g,e,d,hs]
theorem GO {a:St}{z:Option (Nat×Nat×Operand)}{k:St->Option α}{r:α}(h:GN c a z k=some r):∃s,dG c a z=some s/\k s=some r:=by
 unfold GN at h;split at h;·exact⟨a,rfl,h⟩
 ·simp only[dG];split at h
  ·rename_i d g e;split at h
   ·rename_i b;unfold sx at h;split at h;·rename_i ys f;exact⟨_,by simp only[d,g,e];rw[if_pos b,f],h⟩
    ·cases h
   ·cases h
  ·cases h
theorem wy {i:Nat->List V->(V->Option α)->Option α}(D:eM den i){ops:Array Oper}:∀(l:rf) (d:St) (k:St->Option α) (r:α),iI c i ops l d k=some r -> ∃s,aV c den ops l d=some s/\k s=some r:=by
 intro l;induction l with
 |nil=>intro d k r h;exact⟨d,rfl,h⟩
 |cons z l B=>
  obtain⟨o,f,z⟩:=z;intro n k r h;rw[iI]at h;cases w:f n with
  |false=>rw[w]at h;cases h
  |true=>
  rw[w]at h;simp only at h;obtain⟨d,g,h⟩:=GO h;have m:∀st',dG c n z=some st'->wanted ops st'.t o=some true->nR c i st' o (λs=>iI c i ops l s k)=some r -> ∃s,aV c den ops ((o,f,z) :: l) n=some s/\k s=some r:=by intro st' g p h;obtain⟨s,E,C⟩:=CJ D h;obtain⟨s',y,A⟩:=B s k r C;exact⟨s',by rw[yo w g p E];exact y,A⟩
  have a:∀st',dG c n z=some st'->wanted ops st'.t o=some false->iI c i ops l (st'.skip o) k=some r -> ∃s,aV c den ops ((o,f,z) :: l) n=some s/\k s=some r:=by intro st' g p h;obtain⟨s',y,A⟩:=B _ k r h;exact⟨s',by rw[uX w g p];exact y,A⟩
  split at h;·rename_i q;exact m d g (by unfold wanted;rw[q]) h
  ·rename_i j e q;split at h;·rename_i v;exact a d g (by unfold wanted;rw[q];simp only[v]) h
   ·rename_i F v;split at h
    ·rename_i b x;have u:=zj x;have p:wanted ops d.t o=some (b==e):=by unfold wanted;rw[q];simp only[v,x]
     rcases tv h with⟨rfl,h⟩|⟨rfl,h⟩
     ·cases e with
      |true=>simp only at h;rw[u]at h;exact m d g p h
      |false=>simp only at h;rw[u]at h;exact a d g p h
     ·cases e with
      |true=>simp only at h;rw[u]at h;exact a d g p h
      |false=>simp only at h;rw[u]at h;exact m d g p h
    ·rename_i x;exact a d g (by unfold wanted;rw[q];simp only[v,x]) h
    ·cases h
theorem D0 (v:V):∀(g e:List Leaf),V.bd (g++v.lv++e) v.sk g.length=(v,g.length+v.lv.length):=by
 have j:∀{g e:List Leaf} {a:Leaf},(g++[a]++e)[g.length]?=some a:=λ{g e a}=>by simp
 refine V.rec (motive_1:=λv=>∀(g e:List Leaf),V.bd (g++v.lv++e) v.sk g.length=(v,g.length+v.lv.length))
  (motive_2:=λvs=>∀(g e:List Leaf),V.bds (g++V.lvs vs++e) (V.sks vs) g.length=(vs,g.length+(V.lvs vs).length))
  ?_ ?_ ?_ ?_ ?_ ?_ ?_ ?_ ?_ ?_ ?_ ?_ ?_ ?_ ?_ ?_ ?_ v
 ·intro g e;rfl
 ·intro b g e;simp only[V.lv,V.sk,V.bd,lB,j];rfl
 ·intro k n g e;simp only[V.lv,V.sk,V.bd,lI,j];rfl
 ·intro s g e;simp only[V.lv,V.sk,V.bd,lS,j];rfl
 ·intro g e;rfl
 ·intro s f xs _ g e;simp only[V.lv,V.sk,V.bd,lL,j];rfl
 ·intro b s q xs _ g e;simp only[V.lv,V.sk,V.bd,lL,j];rfl
 ·intro b s q xs _ g e;simp only[V.lv,V.sk,V.bd,lL,j];rfl
 ·intro d o g e;rfl
 ·intro b s q xs i o _ g e;have z:(g++[Leaf.l xs,Leaf.i i]++e)[g.length]?=some (.l xs):=by simp
  have t:(g++[Leaf.l xs,Leaf.i i]++e)[g.length+1]?=some (.i i):=by simp
  simp only[V.lv,V.sk,V.bd,lL,lI,z,t];rfl
 ·intro b x o h g e;simp only[V.lv,V.sk,V.bd,h]
 ·intro x o h g e;simp only[V.lv,V.sk,V.bd,h]
 ·intro cs h g e;simp only[V.lv,V.sk,V.bd,h]
 ·intro cs h g e;simp only[V.lv,V.sk,V.bd,h]
 ·intro f cs h g e;simp only[V.lv,V.sk,V.bd,h]
 ·intro g e;rfl
 ·intro u y w m g e;have r:=w g (V.lvs y++e);have p:=m (g++u.lv) e;rw[<-List.append_assoc]at r;rw[List.length_append]at p;simp only[V.lvs,V.sks,V.bds,<-List.append_assoc,r,p,List.length_append,Nat.add_assoc]
theorem Pd (vs:List V)(a b:List Leaf):V.bds (a++V.lvs vs++b) (V.sks vs) a.length=(vs,a.length+(V.lvs vs).length):=by have:=D0 (.agg vs) a b;simp only[V.lv,V.sk,V.bd,Prod.mk.injEq,V.agg.injEq]at this;exact Prod.ext this.1 this.2
theorem Pc:∀(hs:List (Option V)) (b a:List Leaf),S4 (b++LJ hs++a) (TH hs) b.length=hs:=by
 intro hs;induction hs with
 |nil=>intro b a;rfl
 |cons x hs d=>
  intro b a;cases x with
  |none=>simp only[LJ,TH,S4,d]
  |some v =>have e:=D0 v b (LJ hs++a);have f:=d (b++v.lv) a;rw[<-List.append_assoc]at e;rw[List.length_append]at f;simp only[LJ,TH,S4,<-List.append_assoc,e,f]
theorem th {a:St}(b:a.dead=λ_=>false)(e:a.dup=false):xx a.lv a.sk=a:=by obtain⟨t,h,dead,dup⟩:=a;simp only at b e;subst b;subst e;have d:=Pd t [] (LJ h);have f:=Pc h (V.lvs t) [];simp only[List.nil_append,List.length_nil,Nat.zero_add,List.append_nil]at d f;simp only[xx,St.lv,St.sk,d,f]
theorem AI (v:V):∀w,V.same v w=true->v=w:=by
 refine V.rec (motive_1:=λv=>∀w,V.same v w=true->v=w) (motive_2:=λvs=>∀e,V.sames vs e=true->vs=e)
  ?_ ?_ ?_ ?_ ?_ ?_ ?_ ?_ ?_ ?_ ?_ ?_ ?_ ?_ ?_ ?_ ?_ v
 ·intro w h;cases w<;>first|rfl|simp[V.same]at h
 ·intro b w h;cases w<;>simp[V.same]at h ⊢;exact h
 ·intro k n w h;cases w<;>simp[V.same]at h ⊢;exact h
 ·intro s w h;cases s with
  |nil=>cases w with
   |str s=>cases s with
    |nil=>rfl
    |cons _ _=>simp[V.same]at h
   |_=>simp[V.same]at h
  |cons _ _=>cases w<;>simp[V.same]at h
 ·intro w h;cases w<;>first|rfl|simp[V.same]at h
 ·intro s f xs _ w h;cases xs with
  |nil=>cases w with
   |sl s' t ys=>cases ys with
    |nil=>simp[V.same]at h;rw[h.1,h.2]
    |cons _ _=>simp[V.same]at h
   |_=>simp[V.same]at h
  |cons _ _=>cases w<;>simp[V.same]at h
 ·intro b s q xs _ w h;cases xs with
  |nil=>cases w with
   |own j s' q' ys=>cases ys with
    |nil=>simp[V.same]at h;rw[h.1.1,h.1.2,h.2]
    |cons _ _=>simp[V.same]at h
   |_=>simp[V.same]at h
  |cons _ _=>cases w<;>simp[V.same]at h
 ·intro b s q xs _ w h;cases xs with
  |nil=>cases w with
   |view j s' q' ys=>cases ys with
    |nil=>simp[V.same]at h;rw[h.1.1,h.1.2,h.2]
    |cons _ _=>simp[V.same]at h
   |_=>simp[V.same]at h
  |cons _ _=>cases w<;>simp[V.same]at h
 ·intro d o w h;cases w<;>simp[V.same]at h ⊢;exact h
 ·intro b s q xs i o _ w h;cases xs with
  |nil=>cases w with
   |eptr j s' q' ys r p=>cases ys with
    |nil=>simp[V.same]at h;rw[h.1.1.1.1,h.1.1.1.2,h.1.1.2,h.1.2,h.2]
    |cons _ _=>simp[V.same]at h
   |_=>simp[V.same]at h
  |cons _ _=>cases w<;>simp[V.same]at h
 ·intro b x o a w h;cases w<;>simp[V.same]at h ⊢;exact⟨h.1.1,a _ h.1.2,h.2⟩
 ·intro x o a w h;cases w<;>simp[V.same]at h ⊢;exact⟨a _ h.1,h.2⟩
 ·intro cs a w h;cases w<;>simp[V.same]at h ⊢;exact a _ h
 ·intro cs a w h;cases w<;>simp[V.same]at h ⊢;exact a _ h
 ·intro f cs a w h;cases w<;>simp[V.same]at h ⊢;exact⟨h.1,a _ h.2⟩
 ·intro e h;cases e<;>first|rfl|simp[V.sames]at h
 ·intro u m l g e h;cases e with
  |nil=>simp[V.sames]at h
  |cons w e=>simp[V.sames]at h;rw[l _ h.1,g _ h.2]
theorem wz {vs a:List V}(h:V.sames vs a=true):vs=a:=by have:=AI (.agg vs) (.agg a) (by simpa[V.same]using h);injection this
theorem FW:∀{a b:List (Option V)},pp a b=true->a=b:=by
 intro a;induction a with
 |nil=>intro b h;cases b with
  |nil=>rfl
  |cons _ _=>simp[pp]at h
 |cons x a d=>
  intro b h;cases b with
  |nil=>cases x<;>simp[pp]at h
  |cons y b=>
   cases x<;>cases y<;>simp[pp]at h;·rw[d h]
   ·rw[AI _ _ h.1,d h.2]
theorem tE {k a:List V×List (Option V)}(h:pn k a=true):k=a:=by unfold pn at h;rw[Bool.and_eq_true]at h;exact Prod.ext (wz h.1) (FW h.2)
theorem Bo {e a:Ex}(h:e.same a=true):e=a:=by cases e<;>cases a<;>simp[Ex.same]at h ⊢;exact h
theorem wA {e:Ex}{k:List V×List (Option V)}:∀{l:List (Ex×List V×List (Option V))} {n j:Nat},nD e k n l=some j->n<=j/\l[j-n]?=some (e,k):=by
 intro l;induction l with
 |nil=>intro n j h;cases h
 |cons x l b=>
  intro n j h;obtain⟨f,i⟩:=x;rw[nD]at h;split at h;·rename_i a;rw[Bool.and_eq_true]at a;injection h with h;subst h;rw[Bo a.1,tE a.2];exact⟨Nat.le_refl _,by simp⟩
  ·obtain⟨g,d⟩:=b h;refine⟨by omega,?_⟩;rw[show j-n=(j-(n+1))+1 by omega,List.getElem?_cons_succ];exact d
theorem yc {d:List Leaf}{e:Ex}{k:List V×List (Option V)}{K:Ex->St->Option α}{r:α}:∀{l:List (Ex×List V×List (Option V))} {n j:Nat},n<=j->l[j-n]?=some (e,k)->AF d j K n l=some r->K e (xx d k)=some r:=by
 intro l;induction l with
 |nil=>intro n j _ h;simp at h
 |cons x l f=>
  intro n j i a h;obtain⟨m,g⟩:=x;cases l with
  |nil=>
   have:j-n=0:=by have:=(bW a).1;simp at this;omega
   rw[this]at a;simp only[List.getElem?_cons_zero,aK,Prod.mk.injEq]at a;obtain⟨rfl,rfl⟩:=a;exact h
  |cons y l=>
   simp only[AF]at h;split at h;·rename_i b;subst b;simp only[Nat.sub_self,List.getElem?_cons_zero,aK,Prod.mk.injEq]at a;obtain⟨rfl,rfl⟩:=a;exact h
   ·rename_i b;refine f (n:=n+1) (by omega) ?_ h;rw[show j-n=(j-(n+1))+1 by omega,List.getElem?_cons_succ]at a;exact a
theorem vk {y:Oi}(P:∀O,eM den (y O)){g:xn}{X:aH}:∀(o:Code) (α:Type) (m:St) (k:Ex->St->Option α) (r:α),eN c y g X o α m k=some r -> ∃e s,bG c den bK g o m=some (e,s)/\k e s=some r:=by
 intro o;induction o with
 |skip=>intro α m k r h;exact⟨_,_,rfl,h⟩
 |region i ops C=>
  intro α m k r h;cases C with
  |true =>simp only[eN,wF]at h;obtain⟨s,l,f⟩:=wy (P α) _ _ _ _ h;exact⟨.normal,s,by simp only[bG,if_true,l,Option.map_some],f⟩
  |false =>simp only[eN,wF]at h;obtain⟨s,l,f⟩:=wy (P α) _ _ _ _ h;exact⟨.normal,s,by simp only[bG,Bool.false_eq_true,if_false,l,Option.map_some],f⟩
 |seq a b u p=>
  intro α m k r h;simp only[eN]at h;obtain⟨e,s,l,f⟩:=u α _ _ _ h;cases e with
  |normal =>obtain⟨T,s',U,S⟩:=p α _ _ _ f;exact⟨T,s',by simp only[bG,l,U],S⟩
  |exit i=>exact⟨_,s,by simp only[bG,l],f⟩
  |ret=>exact⟨_,s,by simp only[bG,l],f⟩
 |cond x a b u p=>
  intro α m k r h;simp only[eN]at h;split at h
  ·rename_i d t A;have M:m.know d t=m:=zj A;rcases tv h with⟨rfl,h⟩|⟨rfl,h⟩;·rw[M]at h;obtain⟨e,s,l,f⟩:=u α _ _ _ h;exact⟨e,s,by simp only[bG,A,l],f⟩
   ·rw[M]at h;obtain⟨e,s,l,f⟩:=p α _ _ _ h;exact⟨e,s,by simp only[bG,A,l],f⟩
  ·rename_i t V A;rcases tv h with⟨rfl,h⟩|⟨rfl,h⟩;·obtain⟨e,s,l,f⟩:=u α _ _ _ h;exact⟨e,s,by simp only[bG,A,l],f⟩
   ·obtain⟨e,s,l,f⟩:=p α _ _ _ h;exact⟨e,s,by simp only[bG,A,l],f⟩
  ·cases h
 |block i b G=>
  intro α m k r h;simp only[eN]at h;obtain⟨e,s,l,f⟩:=G α _ _ _ h;cases e with
  |normal=>exact⟨_,s,by simp only[bG,l],f⟩
  |ret=>exact⟨_,s,by simp only[bG,l],f⟩
  |exit j=>
   simp only at f;split at f;·rename_i q;exact⟨.normal,s,by simp only[bG,l,if_pos q],f⟩
   ·rename_i q;exact⟨.exit j,s,by simp only[bG,l,if_neg q],f⟩
 |loop b G=>
  intro α m k r h;simp only[eN]at h;unfold l_ at h;split at h
  ·rename_i z N;obtain⟨n,R⟩:=eV N;clear N
   have I:∀(n:Nat) (E:St) (z:Nat×List Leaf),(E.head ((g (aM b)).1,(g (aM b)).2)).sk=(m.head ((g (aM b)).1,(g (aM b)).2)).sk ->
     db (λσ=>eN c y g X b (List Leaf ⊕ (Nat×List Leaf)) (xx σ (m.head ((g (aM b)).1,(g (aM b)).2)).sk) (λe s=>match e with
      |.normal=>if pn (s.head ((g (aM b)).1,(g (aM b)).2)).sk (m.head ((g (aM b)).1,(g (aM b)).2)).sk then some (.inl (s.head ((g (aM b)).1,(g (aM b)).2)).lv)else none
      |e=>match nD e (s.head ((g (1000+aM b)).1,(g (1000+aM b)).2)).sk 0 (X (aM b))with
       |some j=>some (.inr (j,(s.head ((g (1000+aM b)).1,(g (1000+aM b)).2)).lv))
       |none=>none)) n (E.head ((g (aM b)).1,(g (aM b)).2)).lv=some z ->
     ∃e B,bK (bG c den bK g b) (λs=>s.head ((g (aM b)).1,(g (aM b)).2)) E=some (e,B) /\
      nD e (B.head ((g (1000+aM b)).1,(g (1000+aM b)).2)).sk 0 (X (aM b))=some z.1/\z.2=(B.head ((g (1000+aM b)).1,(g (1000+aM b)).2)).lv:=by
    intro n
    induction n with
    |zero=>intro E z _ h;cases h
    |succ n H=>
     intro E z w h
     rw[db]at h
     rw[uK]
     split at h
     ·rename_i W D
      rw[<-w,th (kO _ _) (mU _ _)]at D
      obtain⟨e,s,l,f⟩:=G _ _ _ _ D
      cases e with
      |normal=>
       simp only at f
       split at f
       ·rename_i hs
        simp only[aK,Sum.inl.injEq]at f
        subst f
        have F:=(tE hs).trans w
        obtain⟨Q,B,L,J,K⟩:=H s z F h
        exact⟨Q,B,by rw[l];exact L,J,K⟩
       ·cases f
      |exit i=>simp only at f;split at f<;>cases f
      |ret=>simp only at f;split at f<;>cases f
     ·rename_i Y D
      injection h with h
      subst h
      rw[<-w,th (kO _ _) (mU _ _)]at D
      obtain⟨e,s,l,f⟩:=G _ _ _ _ D
      cases e with
      |normal=>simp only at f;split at f<;>cases f
      |exit i=>
       simp only at f
       split at f
       ·rename_i j q
        simp only[aK,Sum.inr.injEq]at f
        subst f
        exact⟨.exit i,s,by rw[l],q,rfl⟩
       ·cases f
      |ret=>
       simp only at f
       split at f
       ·rename_i j q
        simp only[aK,Sum.inr.injEq]at f
        subst f
        exact⟨.ret,s,by rw[l],q,rfl⟩
       ·cases f
     ·cases h
   obtain⟨e,B,L,J,K⟩:=I n m z rfl R;obtain⟨_,q⟩:=wA J;have v:=yc (Nat.zero_le _) q h;rw[K,th (kO _ _) (mU _ _)]at v;exact⟨e,_,by simp only[bG,L,Option.map_some],v⟩
  ·cases h
 |exit i=>intro α m k r h;exact⟨_,_,rfl,h⟩
 |ret=>intro α m k r h;exact⟨_,_,rfl,h⟩
 |_=>intro α m k r h;cases h
theorem QZ {d:Oi}(n:∀O,eM den (d O)){X:aH}{f:Nat}{m:Func}{args:List V}{k:V->Option α}{r:α}(h:Yt c d X f m α args k=some r):∃v,iv c den bK f m args=some v/\k v=some r:=by
 unfold Yt at h;split at h;·cases h
 ·rename_i l b;split at h;·cases h
  ·rename_i j;obtain⟨e,s,o,a⟩:=vk n _ _ _ _ _ h;unfold iv;rw[b];simp only;rw[if_neg j,o];cases e with
   |exit i=>cases a
   |normal=>
    simp only at a ⊢;split at a;·rename_i v g;exact⟨v,g,a⟩
    ·cases a
   |ret=>
    simp only at a ⊢;split at a;·rename_i v g;exact⟨v,g,a⟩
    ·cases a
theorem Ed {d:Oi}(o:∀O,eM den (d O)){X:aH}{f:Nat}{s:Io}{n:Func}{args:List V}{k:V->Option α}{r:α}(h:wE c d X f s n α args k=some r):∃v,d6 c den bK f s n args=some v/\k v=some r:=by
 unfold wE at h;split at h;·cases h
 ·rename_i m b;split at h;·cases h
  ·rename_i l;split at h
   ·rename_i g;obtain⟨e,q,p,a⟩:=vk o _ _ _ _ _ h;unfold d6;rw[b];simp only;rw[if_neg l,if_pos g,p];cases e with
    |exit i=>cases a
    |normal=>
     simp only at a ⊢;split at a;·rename_i v j;exact⟨v,j,a⟩
     ·cases a
    |ret=>
     simp only at a ⊢;split at a;·rename_i v j;exact⟨v,j,a⟩
     ·cases a
   ·cases h
end
def Dz (k:Nat):List (Nat×V)->Option V
 | []=>none
 |(i,a) :: r=>if i=k then some a else Dz k r
def b1k (l:List (Nat×V)):Nat->Nat->List V
 |_,0=>[]
 |i,n+1=>(Dz i l).getD .undef :: b1k l (i+1) n
def b1j (l:List (Nat×V)):Nat->Nat->List (Option V)
 |_,0=>[]
 |i,n+1=>Dz i l :: b1j l (i+1) n
def xk (n:Nat)(a hs:List (Nat×V)):List V×List (Option V):=(b1k a 0 n,b1j hs 0 n)
def ug (n m:Nat)(a hs:List (Nat×V)):List V×List (Option V):=(b1k a 0 n,b1j hs 0 m)
def a_:aH:=λ_=>[]
def jD:List (Nat×((O:Type)->List V->(V->Option O)->Option O))->Oi
 | [],_,_,_,_=>none
 |(f,w) :: r,O,g,args,k=>if g=f then w O args k else jD r O g args k
def aC (den:Nat->List V->Option V)(f:Nat)(w:(O:Type)->List V->(V->Option O)->Option O):Prop:=∀O args k r,w O args k=some r -> ∃v,den f args=some v/\k v=some r
theorem GM {den:Nat->List V->Option V}:∀O,eM den (jD [] O):=λO g args k r h=>by cases h
theorem CR {den:Nat->List V->Option V}{f:Nat}{w:(O:Type)->List V->(V->Option O)->Option O}{l:List (Nat×((O:Type)->List V->(V->Option O)->Option O))}(a:aC den f w)(b:∀O,eM den (jD l O)):∀O,eM den (jD ((f,w) :: l) O):=by
 intro O g args k r h;simp only[jD]at h;split at h;·rename_i e;subst e;exact a O args k r h
 ·exact b O g args k r h
def mL:List (Bool×List CK)->Type
 | []=>Unit
 |s :: r=>bP s.2×mL r
def mK:(a:List (Bool×List CK))->mL a->List V
 | [],_=>[]
 |s :: r,e=>eC s.1 s.2 e.1 :: mK r e.2
def fM:(d:List (Bool×List CK))->List V->Option (mL d)
 | [],[]=>some ()
 |s :: r,v :: vs=>match im s.1 s.2 v,fM r vs with
  |some a,some b=>some (a,b)
  |_,_=>none
 |_,_=>none
theorem vZ:∀{d:List (Bool×List CK)} {vs:List V} {e:mL d},fM d vs=some e->mK d e=vs:=by
 intro d;induction d with
 |nil=>
  intro vs e h;cases vs with
  |nil=>rfl
  |cons v vs=>simp[fM]at h
 |cons s d i=>
  intro vs e h;cases vs with
  |nil=>simp[fM]at h
  |cons v vs=>
   simp only[fM]at h;split at h;·rename_i a b g f;injection h with h;subst h;show eC s.1 s.2 a :: mK d b=_;rw[AH g,i f]
   ·cases h
def wrap (a:List (Bool×List CK))(G:(O:Type)->mL a->(V->Option O)->Option O):(O:Type)->List V->(V->Option O)->Option O:=λO args k=>
 match fM a args with
 |some e=>G O e k
 |none=>none
theorem yL {g:List (Bool×List CK)}{args:List V}{e:mL g}(h:fM g args=some e):d7 args=none:=by
 cases args with
 |nil=>rfl
 |cons v vs=>
  cases v with
  |ptr d o=>
   exfalso;cases g with
   |nil=>simp[fM]at h
   |cons s g=>
    obtain⟨j,ks⟩:=s;simp only[fM]at h;split at h
    ·rename_i a b f _;cases j with
     |true=>simp[im]at f
     |false=>
      simp only[im]at f;cases ks with
      |nil=>simp[bo]at f
      |cons k ks=>
       simp only[bo]at f;split at f;·rename_i x y i _;cases k<;>simp[CK.dec]at i
       ·cases f
    ·cases h
  |_=>rfl
theorem Yu {P:Program}{c:Cfg}{ext:Nat->List V->Option V}{f:Nat}{fn:Func}{l:List (Nat×((O:Type)->List V->(V->Option O)->Option O))}{X:aH}{w:(O:Type)->List V->(V->Option O)->Option O}(he:∀args,ext f args=none)(hf:P.funcs[f]?=some fn)(hnm:(fn.name == "runtime.NumGoroutine")=false)
  (hl:∀O,eM (den P c ext) (jD l O)) (hw:∀O args k r,w O args k=some r->Yt c (jD l) X f fn O args k=some r/\d7 args=none):aC (den P c ext) f w:=by intro O args k r h;obtain⟨v,h1,h2⟩:=QZ hl (hw O args k r h).1;exact⟨v,IS (hw O args k r h).2 (he args) hf hnm h1,h2⟩
def ah (w:(O:Type)->List V->(V->Option O)->Option O):(O:Type)->List V->(V->Option O)->Option O:=λO args k=>
 match args with
 |.ptr 0 0 :: r=>w O r k
 |_=>none
theorem Iq {P:Program}{c:Cfg}{ext:Nat->List V->Option V}{f:Nat}{s:Io}{b:Func}(l:List (Nat×((O:Type)->List V->(V->Option O)->Option O)))(X:aH){w:(O:Type)->List V->(V->Option O)->Option O}(hs:c.io f=some s)(e:P.funcs[f]?=some b)(a:(b.name == "runtime.NumGoroutine")=false)
  (g:∀O,eM (den P c ext) (jD l O)) (i:∀O args k r,w O args k=some r->wE c (jD l) X f s b O args k=some r):aC (den P c ext) f (ah w):=by
 intro O args k r h;unfold ah at h;split at h;·rename_i d;obtain⟨v,j,m⟩:=Ed g (i O _ k r h);exact⟨v,Bf hs e a j,m⟩
 ·cases h
theorem Ef {D:Nat->List V->Option V}{f:Nat}{w:(O:Type)->List V->(V->Option O)->Option O}(a:∀O args k,w O args k=none):aC D f (ah w):=by
 intro O args k r h;unfold ah at h;split at h;·rw[a]at h;cases h
 ·cases h
end Go.Am
end
