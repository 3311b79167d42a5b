/-
  Proved: lemmas for Rows.FnFormatsCardSaid.
-/
import Derived.Test.YtmkhgngckgcpeaaGreatDooruV19
set_option linter.all false
section
set_option maxRecDepth 10000
namespace Go.Am
open Go
theorem Ld.pG {l:U23}(h:Ld 1100 0 l):PG (d1g l):=(let⟨n,k,h1,h2⟩:=h.pg;have b:=h2.le (by omega);(Pg.up (by omega) (by omega) h1).ut (by omega))
theorem TD:PG ⟨[],[],false,[],[],[],[],[],[],false,[],[],[],[],[],0,0,0,0,[],[],false⟩:=x0m _ _
theorem a1d {n:U19}{a:U5}{c:LV}{m:Nat}(h:Nt n)(g:Ad a)(hc:Ls m wn tt c)(hm:m<=1099511627776):cO (λO=>rA O n a c) λl b=>Nt (d1e l)/\(b=true->Ld 0 0 l):=by refine l1s ?_;unfold rA OC;exact l1h (sH h (Nat.le_trans g.1 (by omega)) (Pr.up (by omega) g)) λo x ⟨f,i⟩=>l1h (Jh (T:=0) g (i.up (by omega))) λp b ⟨k,j⟩=>m1a (λ_=>l1j ⟨f,λq=>by cases q⟩) λe=>l1l (a1f (j (by simpa using e)).2 hc hm) λl hl=>l1j ⟨f,λ_=>⟨f,⟨0,1000000,Pg.up (by omega) (by omega) k,Nat.le_refl _,by simp,by simp⟩,hl,Ls.nil,by simp,Rw.nil⟩⟩
theorem z0z {n:U19}{a:U5}{c d:LV}{m:Nat}(h:Nt n)(g:Ad a)(hc:Ls m wn tt c)(hd:Ls m wn tt d)(hm:m<=1099511627776):AS (λO=>qr O n a c d) λn p _=>Nt n/\PG p:=by refine l1w ?_;unfold qr Nw;exact l1h (a1d h g hc hm) λl b ⟨hl,f⟩=>m1a (λ_=>l1k ⟨hl,TD⟩) λe=>l1l (a1e (f (by simpa using e)) hd hm) λl hl=>l1k ⟨hl.nt,hl.pG⟩
theorem LN {l:LV}(e:((nL l)==0)=false):0<l.length:=by
 rcases Nat.eq_zero_or_pos l.length with q|q;·rw[aJ,q]at e;cases e
 ·exact q
theorem p1 {p:U8}{s:LU}{X:U8 -> ∀c:(Σ O:Type,U8->Option O),Option c.1}(h:Pg 0 0 10000 p)(hs:Sl 400 s):An (λO k=>kv O p s λq=>kx O q λr=>fX O r k) (Pg 400 4002 820000):=by refine m1c ?_;exact l1l (d0n h hs (by omega)) λp b=>l1l (d0o b (by omega) (by omega)) λp b=>l1l (L8 b (by omega) (by omega)) λp b=>l1q (Pg.up (by omega) (by omega) (b.ut (by omega)))
theorem a1a {n:U19}{a:U5}(h:Nt n)(k:Ad a):AS (λO=>qs O n a) λn p _=>Nt n/\PG p:=by
 refine l1w ?_;unfold qs Nx;refine l1h (sH h (Nat.le_trans k.1 (by omega)) (Pr.up (by omega) k)) λI x ⟨j,q⟩=>l1h (Jh (T:=0) k (q.up (by omega))) λp b ⟨f,g⟩=>m1a (λ_=>l1k ⟨j,TD⟩) λe=>l1l (d0n f (g (by simpa using e)).2 (by omega)) λp f=>l1l (d0o f (by omega) (by omega)) λp f=>l1l (L8 f (by omega) (by omega)) λp f=>?_;refine l1l (wh YB (λx=>(0<=x.1/\x.1<=200)/\x.2.1=a/\Nt x.2.2.2.2.2.2.2.2.2.2.2.2.2.2.1/\Pg 400 (4002+20000*x.1.toNat) (820000+810400*x.1.toNat) x.2.2.2.2.2.2.2.2.2.2.2.2.2.2.2) (λx=>(200-x.1).toNat) (Ex:=λr=>∃z:AM,r=(0,sZ z)/\Nt z.2.2.2.2.2.2.2.2.2.2.2.2.1/\PG z.2.2.2.2.2.2.2.2.2.2.2.2.2) ⟨by simp,rfl,j,Pg.up (by simp) (by simp) (f.ut (by omega))⟩ λx ⟨H,G,u,v⟩=>?_) λr ⟨z,y,F⟩=>?_;·have o:PG x.2.2.2.2.2.2.2.2.2.2.2.2.2.2.2:=(Pg.up (by omega) (by omega) v).ut (by omega);rw[G];refine l1n (λe=>l1l (TI v (by omega)) λl hl=>m1a (λ_=>l1m ⟨_,rfl,u,o⟩) λi=>l1z ⟨by omega,LN i⟩ (l1l (H5 hl.2 (LN i)) λb g=>l1h (sH u (Nat.le_trans k.1 (by omega)) (Pr.up (by omega) g)) λn x ⟨j,q⟩=>l1z ⟨by omega,LN i⟩ (l1l (H5 hl.2 (LN i)) λb g=>l1l (L9 v g (q.up (by omega)) (by omega) (by omega)) λp f=>l1y ⟨?_,rfl,j,Pg.up ?_ ?_ f⟩ ?_))) λ_=>l1m ⟨_,rfl,u,o⟩<;>simp only<;>rw[bC (by omega)]<;>omega
 ·subst y;exact l1x (x:=z) rfl (l1k F)
theorem r15 {P:U22->Prop}{l:LV}(h:Rw Jv P l){i:Nat}(j:i<l.length):An (λ_=>Em l i) λy=>P y/\l[i]?=some (Jv y):=h.ix (f:=Em) (λ_ l i y k h=>by unfold Em;exact dA (ks:=[.str,.str,.int .i64,.int .i64,.str,.int .i64,.bool,.str]) (e:=(y.a,y.b,y.c,y.d,y.e,y.f,y.g,y.h,())) h rfl) j
abbrev j1t (h:U21):U8:=⟨h.b,h.c,h.d,h.e,h.f,h.g,h.h,h.i,h.j,h.k,h.l,h.m,h.n,h.o,h.p,h.q,h.r,h.s,h.t,h.u,h.v,h.w⟩
abbrev Kp (y:U22):Prop:=Pr 300000 ⟨y.a,y.b⟩/\Rx ⟨y.c,y.d,y.e,y.f,y.g,y.h⟩
abbrev Hd (h:U21):Prop:=Pg 1000 5000000 200000000 (j1t h)/\Ls 201 Jv Kp h.x/\Svs 22 300000 h.y
theorem S7:Hd ⟨false,[],[],false,[],[],[],[],[],[],false,[],[],[],[],[],0,0,0,0,[],[],false,[],[],0⟩:=⟨x0m _ _,Ls.nil,by simp,Rw.nil⟩
theorem z0w {h:U21}(hh:Hd h):An (λO=>qo O h) λr=>r=h:=by refine m1c ?_;unfold qo Nr;have hl:=hh.2.1.1;refine l1l (sF hh.1 (by omega)) λp b=>m1f (IG (by omega)) (l1l (Jt hh.2.2 (by omega)) λl hl=>l1q ?_);rw[b,hl];simp only[List.nil_append]
theorem a1c {a b:LV}{m n:Nat}(i:Svs m n a)(o:Svs m n b)(hm:m<=1099511627776):An (λO=>q_ O a b) tt:=by
 refine m1c ?_;unfold q_ OB;have la:=i.1;refine m1a (λ_=>l1q trivial) λF=>?_;have F:a.length=b.length:=by rw[aJ,aJ]at F;simp at F;omega
 refine l1l (wh Bd (λx=>x.1=a/\x.2.1=b/\0<=x.2.2/\x.2.2<=a.length) (λx=>(a.length-x.2.2).toNat) (Ex:=λr=>r=(0,[]) \/ ∃b,r=(1,lf b)) ⟨rfl,rfl,by simp,by simp⟩ λx ⟨N,P,f,h4⟩=>?_) λr v=>?_
 ·rw[N,P];refine l1v (λe=>?_) λe=>l1m (.inl rfl);have g:∀{l:LV} {y z:U3},l[x.2.2.toNat]?=some (qC y)->l[x.2.2.toNat]?=some (qC z)->y.b=z.b:=λp q=>by rw[p]at q;injection q with q;simp only[qC,V.agg.injEq,List.cons.injEq,V.sl.injEq]at q;exact q.2.1.2.2
  refine m1e (m1b f (l1l (r3 i.2 (by omega)) λ_ _=>m1b f (l1l (r3 o.2 (by omega)) λ_ _=>m1a (λ_=>l1m (.inr ⟨_,rfl⟩)) λ_=>m1b f (l1l (r3 i.2 (by omega)) λy ⟨G,H⟩=>m1b f (l1l (r3 o.2 (by omega)) λz ⟨J,Q⟩=>m1a (λ_=>l1m (.inr ⟨_,rfl⟩)) λk=>?_)))));have k:y.b.length=z.b.length:=by rw[aJ,aJ]at k;simp at k;omega
  have ly:=G.2.1;refine l1l (wh q0j (λu=>u.1=a/\u.2.1=b/\u.2.2.1=x.2.2/\0<=u.2.2.2/\u.2.2.2<=y.b.length) (λu=>(y.b.length-u.2.2.2).toNat) (Ex:=λr=>r=(0,ld (a,b,x.2.2)) \/ ∃z:SZ,r=(1,Yn z)) ⟨rfl,rfl,rfl,by simp,by simp⟩ λu ⟨K,L,k3,k4,k5⟩=>?_) λr v=>?_;·rw[K,L,k3];refine m1b f (l1l (r3 i.2 (by omega)) λy8 ⟨_,S⟩=>?_);rw[g S H];refine l1v (λe=>m1b f (l1l (r3 i.2 (by omega)) λU ⟨_,I⟩=>?_)) λ_=>l1m (.inl rfl);rw[g I H];refine m1b k4 (l1l (r4 G.2.2 (by omega)) λ_ _=>m1b f (l1l (r3 o.2 (by omega)) λM ⟨_,j⟩=>?_));rw[g j Q];refine m1b k4 (l1l (r4 J.2.2 (by omega)) λ_ _=>m1a (λ_=>l1m (.inr ⟨_,rfl⟩)) λ_=>l1y ⟨rfl,rfl,rfl,?_,?_⟩ ?_)<;>simp only<;>rw[bC (by omega)]<;>omega
  ·rcases v with rfl|⟨z,rfl⟩;·refine l1r (l1x (x:=(a,b,x.2.2)) rfl (l1y ⟨rfl,rfl,?_,?_⟩ ?_))<;>simp only<;>rw[bC (by omega)]<;>omega
   ·exact l1p (l1x (x:=z) rfl (l1m (.inr ⟨_,rfl⟩)))
 ·rcases v with rfl|⟨b,rfl⟩;·exact l1r (l1q trivial)
  ·exact l1p (l1x (x:=b) rfl (l1q trivial))
theorem f0g {n:U19}{h:U21}(b:Nt n)(hh:Hd h):An (λO=>jc O n h) tt:=by refine m1c ?_;unfold jc Nu;exact m1a (λ_=>l1q trivial) λ_=>m1a (λ_=>l1q trivial) λ_=>l1l (a1c hh.2.2 b.1 (by omega)) λ_ _=>l1q trivial
theorem z0y {n:U19}{h:U21}(f:Nt n)(hh:Hd h):AS (λO=>qq O n h) λn p _=>Nt n/\PG p:=by
 refine l1w ?_;unfold qq Nv;have hl:=hh.2.1.1;have I:Sl 300000 h.b:=Nat.le_trans hh.1.ad.1 (by omega);refine l1l (zB f) λy F=>?_;subst F;refine l1l (f0g f hh) λ_ _=>m1a (λ_=>l1k ⟨f,TD⟩) λ_=>l1l (wh q0k (λx=>x.1=h.b/\(0<=x.2.1/\x.2.1<=h.x.length)/\x.2.2.1=h/\Nt x.2.2.2.2.2.2.2.2.2.2.2.2.2.2.2) (λx=>(h.x.length-x.2.1).toNat) (Ex:=λr=>∃z:Sb,r=(0,Yo z)/\z.1=h.b/\z.2.1=h/\Nt z.2.2.2.2.2.2.2.2.2.2.2.2.2.2) ⟨rfl,by simp,rfl,f⟩ λx ⟨u,G,i,g⟩=>?_) λr ⟨z,k,z1,z2,z3⟩=>?_;·rw[u,i];refine l1v (λe=>m1b G.1 (l1l (r15 hh.2.1.2 (by omega)) λy ⟨F,_⟩=>m1b G.1 (l1l (r15 hh.2.1.2 (by omega)) λz ⟨q,_⟩=>l1l (GS g I F.1 q.2) λn f=>l1y ⟨rfl,?_,rfl,f⟩ ?_))) λe=>l1m ⟨_,rfl,rfl,rfl,g⟩<;>simp only<;>rw[bC (by omega)]<;>omega
 ·subst k;refine l1x (x:=z) rfl ?_;rw[z1,z2];refine l1l (L8 hh.1 (by omega) (by omega)) λp H=>l1l (wh Xw (λx=>x.1=h.b/\(0<=x.2.1/\x.2.1<=200)/\Nt x.2.2.2.2.2.2.2.2.2.2.2.2.2.2.1/\Pg 1000 (5004002+20000*x.2.1.toNat) (200800400+810400*x.2.1.toNat) x.2.2.2.2.2.2.2.2.2.2.2.2.2.2.2) (λx=>(200-x.2.1).toNat) (Ex:=λr=>∃z:AM,r=(0,sZ z)/\Nt z.2.2.2.2.2.2.2.2.2.2.2.2.1/\PG z.2.2.2.2.2.2.2.2.2.2.2.2.2) ⟨rfl,by simp,z3,Pg.up (by simp) (by simp) H⟩ λx ⟨u,G,i,g⟩=>?_) λr ⟨z,k,q⟩=>?_;·have o:PG x.2.2.2.2.2.2.2.2.2.2.2.2.2.2.2:=(Pg.up (by omega) (by omega) g).ut (by omega);rw[u];refine l1n (λe=>l1l (TI g (by omega)) λl hl=>m1a (λ_=>l1m ⟨_,rfl,i,o⟩) λj=>l1z ⟨by omega,LN j⟩ (l1l (H5 hl.2 (LN j)) λb v=>l1h (sH i I (Pr.up (by omega) v)) λn x ⟨f,J⟩=>l1z ⟨by omega,LN j⟩ (l1l (H5 hl.2 (LN j)) λb v=>l1l (L9 g v (J.up (by omega)) (by omega) (by omega)) λp H=>l1y ⟨rfl,?_,f,Pg.up ?_ ?_ H⟩ ?_))) λ_=>l1m ⟨_,rfl,i,o⟩<;>simp only<;>rw[bC (by omega)]<;>omega
  ·subst k;exact l1x (x:=z) rfl (l1k q)
theorem f0c {t:LU}{a:U5}(b:Pr 1000 a):An (λO=>jX O t a) tt:=by refine m1c ?_;unfold jX NU;exact l1l (xH ⟨by have:=b.1;omega,by have:=b.2;omega⟩) λ_ _=>m1a (λ_=>l1q trivial) λ_=>l1q trivial
theorem g1q {n:Nat}{l:LV}(h:Rw w7 (Rq n) l){i:Nat}(f:i<l.length):An (λ_=>fO l i 1) tt:=by obtain⟨y,j,g⟩:=h.get f;exact⟨y.b,trivial,λO k=>by show fO l i 1 k=_;unfold fO;exact d8 (ks:=[.str]) (e:=(y.b,())) g rfl⟩
theorem z0t {p:U8}{l:LV}{n m:Nat}(hl:Ls n w7 (Rq m) l)(e:∀(O:Type) k,eT O p k=k l)(v:n<=1099511627776):An (λO=>qe O p) (Pl l):=by
 refine m1c ?_;unfold qe NW;have f:=hl.1;refine l1l (An.eq e) λb i=>?_;subst i;refine l1l (wh yA (λx=>x.1=b/\0<=x.2.1/\x.2.1<=b.length) (λx=>(b.length-x.2.1).toNat) (Ex:=λr=>r=(0,[]) \/ ∃q,r=(1,cY q)/\Pl b q) ⟨rfl,by simp,by simp⟩ λx ⟨f,o,u⟩=>?_) λr g=>?_;·rw[f];refine l1v (λe=>l1z (by omega) (l1l (g1q hl.2 (by omega)) λ_ _=>m1a (λ_=>l1m (.inr ⟨_,rfl,.inr ⟨o,e⟩⟩)) λ_=>l1y ⟨rfl,?_,?_⟩ ?_)) λe=>l1m (.inl rfl)<;>simp only<;>rw[bC (by omega)]<;>omega
 ·rcases g with rfl|⟨q,rfl,j⟩;·exact l1r (l1q (.inl rfl))
  ·exact l1p (l1x (x:=q) rfl (l1q j))
theorem e0x {n:U19}{t:LU}{a:U5}(h:Nt n)(g:Ad a):AS (λO=>jO O n t a) λn h _=>Nt n/\Hd h:=by
 refine l1w ?_;unfold jO Mw;refine l1l (f0c g) λ_ _=>m1a (λ_=>l1l (zB h) λy N=>l1k ⟨N▸h,S7⟩) λ_=>l1h (sH h (Nat.le_trans g.1 (by omega)) (Pr.up (by omega) g)) λn' x ⟨u,i⟩=>l1h (Jh (T:=0) g (i.up (by omega))) λp b ⟨f,j⟩=>m1a (λ_=>l1k ⟨u,S7⟩) λe=>l1l (Jt h.1 (by omega)) λV P=>l1l (d0n f (j (by simpa using e)).2 (by omega)) λp f=>l1l (d0o f (by omega) (by omega)) λp f=>l1l (L8 f (by omega) (by omega)) λp f=>?_;refine l1l (wh YC (λx=>(0<=x.1/\x.1<=200)/\x.2.1=a/\Nt x.2.2.2.2.2.2.2.2.2.2.2.2.2.2.2.2.1/\Pg 400 (4002+20000*x.1.toNat) (820000+810400*x.1.toNat) x.2.2.2.2.2.2.2.2.2.2.2.2.2.2.2.2.2.1/\(x.2.2.2.2.2.2.2.2.2.2.2.2.2.2.2.2.2.2.2.2.2.2.2.2.2.2.2.2.2.2.1.length<=1+x.1/\Rw Jv Kp x.2.2.2.2.2.2.2.2.2.2.2.2.2.2.2.2.2.2.2.2.2.2.2.2.2.2.2.2.2.2.1)/\Svs 22 300000 x.2.2.2.2.2.2.2.2.2.2.2.2.2.2.2.2.2.2.2.2.2.2.2.2.2.2.2.2.2.2.2.1) (λx=>(200-x.1).toNat) (Ex:=λr=>∃z:GC,r=(0,EN z)/\Nt z.2.2.2.2.2.2.2.2.2.2.2.2.2.2.1/\Pg 1000 5000000 200000000 z.2.2.2.2.2.2.2.2.2.2.2.2.2.2.2.1/\Ls 201 Jv Kp z.2.2.2.2.2.2.2.2.2.2.2.2.2.2.2.2.2.2.2.2.2.2.2.2.2.2.2.2.1/\Svs 22 300000 z.2.2.2.2.2.2.2.2.2.2.2.2.2.2.2.2.2.2.2.2.2.2.2.2.2.2.2.2.2.1) ⟨by simp,rfl,u,Pg.up (by simp) (by simp) (f.ut (by omega)),⟨by simp,Rw.one ⟨Pr.up (by omega) g,i⟩⟩,P▸h.1⟩ λx ⟨g1,Q,G,F,J,H⟩=>?_) λr ⟨z,S,k⟩=>?_
 ·have o:Pg 1000 5000000 200000000 x.2.2.2.2.2.2.2.2.2.2.2.2.2.2.2.2.2.1:=(Pg.up (by omega) (by omega) F).ut (by omega);have L:Ls 201 Jv Kp x.2.2.2.2.2.2.2.2.2.2.2.2.2.2.2.2.2.2.2.2.2.2.2.2.2.2.2.2.2.2.1:=⟨by omega,J.2⟩;rw[Q];obtain⟨l,hl,I⟩:=TI F (by omega);refine l1n (λe=>l1l (z0t hl I (by omega)) λq K=>l1n (λ_=>l1m ⟨_,rfl,G,o,L,H⟩) λM=>?_) λ_=>l1m ⟨_,rfl,G,o,L,H⟩;rcases K with rfl|K;·exact absurd (by decide) M
  refine l1l (An.eq I) λU v=>?_;subst v;refine l1z (by omega) (l1l (H5 hl.2 (by omega)) λb j=>l1h (sH G (Nat.le_trans g.1 (by omega)) (Pr.up (by omega) j)) λn x ⟨u,i⟩=>m1f (ui (by omega)) (l1l (L9 F j (i.up (by omega)) (by omega) (by omega)) λp f=>l1y ⟨?_,rfl,u,Pg.up ?_ ?_ f,⟨?_,J.2.app (Rw.one ⟨Pr.up (by omega) j,i⟩)⟩,H⟩ ?_))<;>simp only<;>rw[bC (by omega)]<;>(try simp only[List.length_append,List.length_cons,List.length_nil])<;>omega
 ·subst S;exact l1x (x:=z) rfl (l1k ⟨k.1,k.2.1,k.2.2.1,k.2.2.2⟩)
end Go.Am
end
section
set_option maxRecDepth 10000
namespace Go.Am
open Go
theorem r14 {P:U18->Prop}{l:LV}(h:Rw w9 P l){i:Nat}(g:i<l.length):An (λ_=>jw l i) λy=>P y/\l[i]?=some (w9 y):=by obtain⟨y,f,b⟩:=h.get g;obtain⟨z,rfl,e⟩:=JZ b;exact⟨z,⟨f,b⟩,e⟩
theorem a5 {P:U18->Prop}{l:LV}(h:Rw w9 P l){i:Nat}(b:i<l.length):An (λ_=>Yz l i 24) tt:=by obtain⟨y,g,f⟩:=h.get b;exact⟨y.y,trivial,λO k=>by show Yz l i 24 k=_;unfold Yz;exact d8 (ks:=[.bool]) (e:=(y.y,())) f rfl⟩
theorem f0f {t:U17}{i:Int}(h:Tb t):An (λO=>n_ O t i) λr=>Tb r/\r.a.length=t.a.length:=by refine m1c ?_;unfold n_ No;have hl:=h.1;refine l1l (L6 h) λy j=>?_;subst j;refine l1l (iM _ _ _) λb g=>m1a (λ_=>l1q ⟨h,rfl⟩) λe=>?_;have f:=lH g (by simpa using e) (by omega);exact l1z f (l1l (fF (λz=>{z with y:=false}) h.2 f.2 (λ_ q=>q) λz=>⟨_,rfl,rfl⟩) λp ⟨u,k3,_⟩=>l1z (by omega) (l1l (fF (λz=>⟨z.a,z.b,[],[],false,[],[],[],[],[],[],false,[],[],[],[],[],0,0,0,0,[],[],false,z.y⟩) k3 (by omega) (λz q=>⟨TD,q.2⟩) λz=>⟨_,rfl,rfl⟩) λo ⟨k,k4,_⟩=>l1q ⟨⟨by simp only;omega,k4⟩,by simp only;omega⟩))
theorem z0u {t:U17}(h:Tb t):An (λO=>om O t) tt:=by
 refine m1c ?_;unfold om Np;have hl:=h.1;refine l1l (wh q0i (λx=>x.2.2=t/\0<=x.2.1/\x.2.1<=t.a.length) (λx=>(t.a.length-x.2.1).toNat) (Ex:=λr=>∃q,r=(0,cY q)) ⟨rfl,by simp,by simp⟩ λx ⟨f,g,i⟩=>?_) λr ⟨q,b⟩=>?_;·rw[f];refine l1v (λe=>m1b g (l1l (r14 h.2 (by omega)) λ_ _=>m1a (λ_=>l1y ⟨rfl,?_,?_⟩ ?_) λ_=>l1y ⟨rfl,?_,?_⟩ ?_)) λe=>l1m ⟨_,rfl⟩<;>simp only<;>rw[bC (n:=x.2.1) (by omega)]<;>omega
 ·subst b;exact l1x (x:=q) rfl (l1q trivial)
theorem e0z {t:U17}(h:Tb t):An (λO=>jU O t) Tb:=by
 refine m1c ?_;unfold jU NM jb Hk nW VQ;have hl:=h.1;refine l1l (L6 h) λy v=>?_;subst v;refine m1j Tb (λu o=>?_) λj F=>m1k ?_ λj2 i=>l1l (iM _ _ _) λb q=>m1a (λe=>?_) λ_=>i
 rotate_right
 ·have k:=lH q e (by omega);exact m1b k.1 (l1l (r14 h.2 k.2) λ_ _=>m1a (λ_=>l1l (f0f h) λr g=>F _ g.1) λ_=>i)
 rotate_left;have o:=h
 all_goals (refine l1l (wh YS (λx=>Tb x.2.2.2/\0<=x.1/\x.1<=x.2.2.2.a.length) (λx=>(7-x.1).toNat) (Ex:=λr=>∃z:Jr,r=(0,uD z)/\Tb z.2) ⟨o,by simp,by simp⟩ λx ⟨f,J,H⟩=>?_) λr ⟨z,g,p⟩=>?_)
 any_goals (subst g;exact l1x (x:=z) rfl (l1q p))
 all_goals (have G:=f.1;refine l1v (λe=>l1l (z0u f) λ_ _=>m1a (λ_=>l1z (by omega) (l1l (a5 f.2 (by omega)) λ_ _=>m1a (λ_=>m1a (λ_=>l1l (f0f f) λr ⟨g,I⟩=>l1y ⟨g,?_,?_⟩ ?_) λ_=>l1y ⟨f,?_,?_⟩ ?_) λ_=>l1y ⟨f,?_,?_⟩ ?_)) λ_=>l1y ⟨f,?_,?_⟩ ?_) λe=>l1m ⟨_,rfl,f⟩)
 all_goals (simp only;rw[bC (by omega)];omega)
theorem z0v {t:U17}(h:Tb t):An (λO=>qn O t) tt:=by
 refine m1c ?_;unfold qn Nq;have hl:=h.1;refine l1l (wh q0d (λx=>x.2=t/\0<=x.1/\x.1<=t.a.length) (λx=>(t.a.length-x.1).toNat) (Ex:=λr=>(∃q,r=(0,Yl q)) \/ ∃q,r=(1,Ym q)) ⟨rfl,by simp,by simp⟩ λx ⟨g,b,i⟩=>?_) λr f=>?_;·rw[g];refine l1v (λe=>m1b b (l1l (r14 h.2 (by omega)) λ_ _=>m1a (λ_=>m1b b (l1l (r14 h.2 (by omega)) λ_ _=>m1b b (l1l (r14 h.2 (by omega)) λ_ _=>m1a (λ_=>l1m (.inr ⟨_,rfl⟩)) λ_=>l1y ⟨rfl,?_,?_⟩ ?_))) λ_=>l1y ⟨rfl,?_,?_⟩ ?_)) λe=>l1m (.inl ⟨_,rfl⟩)<;>simp only<;>rw[bC (by omega)]<;>omega
 ·rcases f with⟨q,rfl⟩|⟨q,rfl⟩;·exact l1r (l1x (x:=q) rfl (m1a (λ_=>m1a (λ_=>m1a (λ_=>l1q trivial) λ_=>l1l (iM _ _ _) λ_ _=>l1q trivial) λ_=>l1l (iM _ _ _) λ_ _=>l1q trivial) λ_=>l1q trivial))
  ·exact l1p (l1x (x:=q) rfl (l1q trivial))
theorem z0x {t:U17}(h:Tb t):cO (λO=>qp O t) λp _=>PG p:=by refine l1s ?_;unfold qp Ns;have hl:=h.1;refine m1e (l1l (iM _ _ _) λb i=>m1a (λ_=>l1j TD) λe=>?_);have f:=lH i (by simpa using e) (by omega);exact m1b f.1 (l1l (r14 h.2 f.2) λ_ _=>m1a (λ_=>l1j TD) λ_=>m1b f.1 (l1l (r14 h.2 f.2) λy ⟨g,_⟩=>l1l (sF g.1 (by omega)) λp j=>l1j (j▸g.1)))
theorem z0r {t:U17}(h:Tb t):cO (λO=>qc O t) λ_ _=>True:=by refine l1s ?_;unfold qc NP jb Hk nW VQ;exact l1h (z0x h) λ_ _ _=>m1a (λ_=>l1j trivial) λ_=>m1a (λ_=>l1j trivial) λ_=>l1j trivial
theorem f0a {t:U17}(h:Tb t):cO (λO=>jV O t) λa _=>Ad a:=by refine l1s ?_;unfold jV NQ;have hl:=h.1;refine l1l (iM _ _ _) λb g=>m1a (λ_=>l1j ⟨Nat.zero_le _,Nat.zero_le _⟩) λe=>?_;have f:=lH g (by simpa using e) (by omega);exact m1b f.1 (l1l (r14 h.2 f.2) λy ⟨i,_⟩=>l1j i.2)
theorem z0s {t:U17}{p:U8}(h:Tb t)(x:PG p):An (λO=>qd O t p) Tb:=by refine m1c ?_;unfold qd NT;have hl:=h.1;refine l1l (L6 h) λy I=>?_;subst I;refine l1l (iM _ _ _) λb G=>m1a (λ_=>l1q h) λe=>?_;have F:=lH G (by simpa using e) (by omega);refine l1l (sF x (by omega)) λq H=>?_;subst H;exact l1z F (l1l (fF (λ_=>⟨q.a,q.b,q.a,q.b,q.c,q.d,q.e,q.f,q.g,q.h,q.i,q.j,q.k,q.l,q.m,q.n,q.o,q.p,q.q,q.r,q.s,q.t,q.u,q.v,true⟩) h.2 F.2 (λ_ _=>⟨x,x.ad⟩) λz=>⟨_,rfl,rfl⟩) λK ⟨J,k4,_⟩=>l1q ⟨by simp only;omega,k4⟩)
abbrev d1f (w:U20):U19:=⟨w.a,w.b,w.c,w.d⟩
abbrev h1a (w:U20):U21:=⟨w.g,w.h,w.i,w.j,w.k,w.l,w.m,w.n,w.o,w.p,w.q,w.r,w.s,w.t,w.u,w.v,w.w,w.x,w.y,w.z,w.aa,w.ab,w.ac,w.ad,w.ae,w.af⟩
abbrev Wd (w:U20):Prop:=Nt (d1f w)/\Tb ⟨w.e,w.f⟩/\Hd (h1a w)
theorem Pg.ad' {T n m:Nat}{p:U8}(h:Pg T n m p){a:U5}(e:Ad a):Pg T n m {p with a:=a.a,b:=a.b}:=⟨e,h.po,h.tok,h.qu,h.bu,h.sl,h.mo,h.en,h.ra,h.lo⟩
theorem z0k {l:LV}{f:Bool}(h:Svs 22 300000 l):An (λO=>qO O l f) Wd:=by refine m1c ?_;unfold qO Ms;exact l1l (Jt h (by omega)) λr b=>l1l d1m λt e=>l1q ⟨⟨b▸h,⟨by simp,Rw.nil⟩,Ls.nil,by show iP 0;decide⟩,e,S7⟩
theorem Sk {w:U20}(h:Wd w):An (λO=>fJ O w) tt:=by refine m1c ?_;unfold fJ NN;exact l1l (f0d h.1) λ_ _=>m1a (λ_=>l1l (z0v h.2.1) λ_ _=>l1q trivial) λ_=>l1q trivial
theorem GR {w:U20}(h:Wd w):An (λO=>dm O w) λr=>r=w:=by refine m1c ?_;unfold dm NO;refine l1l (zB h.1) λa f=>l1l (L6 h.2.1) λb e=>l1l (z0w h.2.2) λc hc=>l1q ?_;rw[f,e,hc]
section
variable {w:U20}{a:U5}{c d:LV}{m:Nat}(h:Wd w)(hc:Ls m wn tt c)(hd:Ls m wn tt d)(hm:m<=1099511627776)
include h hc hd hm
theorem f0b (f:Ad a):AS (λO=>jW O w a c d) λn p _=>Nt n/\PG p:=by refine l1w ?_;unfold jW NR;exact m1j tt (λ_ _=>m1a (λ_=>l1i (z0y h.1 h.2.2) λ_ _ _ b=>l1k b) λ_=>m1a (λ_=>l1i (z0z h.1 f hc hd hm) λ_ _ _ b=>l1k b) λ_=>l1i (a1a h.1 f) λ_ _ _ b=>l1k b) λj e=>m1a (λ_=>m1a (λ_=>l1l (f0g h.1 h.2.2) λ_ _=>e _ trivial) λ_=>e _ trivial) λ_=>e _ trivial
theorem z0l {k:Int}:cO (λO=>qP O w k c d) λr _=>Wd r:=by
 refine l1s ?_;unfold qP Mt;have i:∀{b:Bool} ,Tg (C:=Σ O:Type,U20->Bool->Option O) (T:=λc=>c.1) (λc=>dm c.1 w λy=>c.2 y b) (λc (r:U20×Bool)=>c.2 r.1 r.2) (λr=>Wd r.1):=l1l (GR h) λy f=>l1j (f▸h)
 exact l1l (e0z h.2.1) λt g=>l1h (d1o g) λu _ e=>m1e (l1l (Sk h) λ_ _=>m1a (λ_=>i) λ_=>m1a (λ_=>i) λ_=>l1l (GR h) λy f=>by
  subst f
  exact l1h (z0r e) λ_ _ _=>m1a (λ_=>l1j ⟨h.1,e,S7⟩) λ_=>l1h (f0a e) λa _ j=>l1i (f0b h hc hd hm j) λn p _ ⟨o,q⟩=>l1l (z0s e (Pg.ad' q j)) λt g=>l1j ⟨o,g,S7⟩)
theorem z0n (e:Ad a):cO (λO=>qR O w a c d) λr _=>Wd r:=by refine l1s ?_;unfold qR Mv;have g:∀{b:Bool} ,Tg (C:=Σ O:Type,U20->Bool->Option O) (T:=λc=>c.1) (λc=>dm c.1 w λy=>c.2 y b) (λc (r:U20×Bool)=>c.2 r.1 r.2) (λr=>Wd r.1):=l1l (GR h) λy i=>l1j (i▸h);exact m1e (l1l (Sk h) λ_ _=>m1a (λ_=>g) λ_=>l1l (xH ⟨by have:=e.1;omega,by have:=e.2;omega⟩) λ_ _=>m1a (λ_=>g) λ_=>l1l (GR h) λy i=>l1i (f0b h hc hd hm e) λn p _ ⟨k,j⟩=>l1l (e0z h.2.1) λt f=>l1l (d1n f (Pg.ad' j e)) λt f=>l1j ⟨k,f,S7⟩)
end
theorem z0m {w:U20}{a:U5}(h:Wd w)(e:Ad a):cO (λO=>qQ O w a) λr _=>Wd r:=by refine l1s ?_;unfold qQ Mu;refine l1l (GR h) λy g=>?_;subst g;exact l1h (f0a h.2.1) λb _ _=>m1e (l1l (Sk h) λ_ _=>m1a (λ_=>l1j h) λ_=>m1a (λ_=>l1j h) λ_=>m1a (λ_=>l1l (f0c e) λ_ _=>l1j h) λ_=>l1i (e0x h.1 e) λn x _ ⟨i,f⟩=>l1j ⟨i,h.2.1,f⟩)
theorem k1u {c:U0}(h:Cu c):cO (λO=>lA O c) λw y=>Wd w/\Cu y:=by
 refine l1s ?_;unfold lA DN;refine l1h (e0u h) λn y ⟨q,h⟩=>l1h (xI 3 h) λ_ y h=>l1l (z0k q.1) λw b=>l1h (kW 4 h) λm y ⟨hm,h⟩=>l1l (wh YD (λx=>(0<=x.1/\x.1<=4)/\Wd x.2.2.2.2.2.2.2.2.2.2.2.2.2.2.2.2.2.1/\Cu x.2.2.2.2.2.2.2.2.2.2.2.2.2.2.2.2.2.2) (λx=>x.1.toNat) (Ex:=λr=>∃z:SW,r=(0,Yk z)/\Wd z.2.2.2.2.2.2.2.2.2.2.2.2.2.2.2.2.1/\Cu z.2.2.2.2.2.2.2.2.2.2.2.2.2.2.2.2.2) ⟨by simp only;omega,b,h⟩ λx ⟨u,f,j⟩=>?_) λr ⟨z,o,p⟩=>?_;·refine l1n (λe=>l1h (kW 4 j) λ_ y ⟨_,h⟩=>m1a (λ_=>l1h (Fm (P:=tt) h (rN rfl) (by simp)) λ_ y ⟨_,h⟩=>l1h (e0v h) λl y ⟨hl,h⟩=>l1h (e0w (by omega) h) λk y ⟨g,h⟩=>l1h (z0l f (m:=1000) ⟨Nat.le_trans hl.1 (by omega),hl.2⟩ g (by omega)) λw _ b=>l1y ⟨?_,b,h⟩ ?_) λ_=>m1a (λ_=>l1h (Sh h) λa y ⟨i,h⟩=>l1h (z0m f (Pr.up (by omega) i)) λw _ b=>l1y ⟨?_,b,h⟩ ?_) λ_=>l1h (Sh h) λa y ⟨i,h⟩=>l1h (e0v h) λl y ⟨hl,h⟩=>l1h (e0w (by omega) h) λk y ⟨g,h⟩=>l1h (z0n f (m:=1000) ⟨Nat.le_trans hl.1 (by omega),hl.2⟩ g (by omega) (Pr.up (by omega) i)) λw _ b=>l1y ⟨?_,b,h⟩ ?_) λ_=>l1m ⟨_,rfl,f,j⟩<;>simp only<;>rw[lU (by omega)]<;>omega
 ·subst o;exact l1x (x:=z) rfl (l1j p)
theorem k1w {c:U0}(h:Cu c):AS (λO=>lD O c) λ_ x y=>Hd x/\Cu y:=by refine l1w ?_;unfold lD DP;exact l1h (e0u h) λn y ⟨e,h⟩=>l1h (Sh h) λa y ⟨j,h⟩=>l1i (e0x e (Pr.up (by omega) j)) λn x _ ⟨e,f⟩=>l1h (kW 8 h) λ_ y ⟨_,h⟩=>m1a (λ_=>l1l (z0q e) λ_ _=>l1k ⟨f,h⟩) λ_=>m1a (λ_=>l1h (L7 h) λb y ⟨g,h⟩=>l1h (i0j h) λr y ⟨⟨i,_⟩,h⟩=>l1h (d0m e.1 ⟨Sl.up (by omega) g.1,Sl.up (by omega) g.2⟩ (i.up (by omega)) (by omega) (by omega)) λ_ _ _=>l1k ⟨f,h⟩) λ_=>l1k ⟨f,h⟩
theorem k1r {c:U0}(h:Cu c):An (λO=>kt O c) Wd:=by refine m1c ?_;unfold kt DD;exact l1h (k1u h) λw y ⟨b,h⟩=>l1h (kW 20 h) λ_ y ⟨_,h⟩=>m1a (λ_=>l1l (k1v h) λn g=>l1q ⟨g,b.2⟩) λ_=>m1a (λ_=>l1h (d1j h) λt _ ⟨f,_⟩=>l1q ⟨b.1,f,b.2.2⟩) λ_=>m1a (λ_=>l1i (k1w h) λ_ x _ ⟨e,_⟩=>l1q ⟨b.1,b.2.1,e⟩) λ_=>l1q b
end Go.Am
end
section
namespace Go.Am
open Go
universe u
abbrev Pn {A:Type}(G H:∀O:Type,(A->Option O)->Option O)(Q:A->Prop):Prop:=∃a,Q a/\(∀O k,G O k=k a) /\ ∀O k,H O k=k a
abbrev Pn2 {A B:Type}(G H:∀O:Type,(A->B->Option O)->Option O)(Q:A->B->Prop):Prop:=∃a b,Q a b/\(∀O k,G O k=k a b) /\ ∀O k,H O k=k a b
abbrev c1j {A B D:Type}(G H:∀O:Type,(A->B->D->Option O)->Option O)(Q:A->B->D->Prop):Prop:=∃a b d,Q a b d/\(∀O k,G O k=k a b d) /\ ∀O k,H O k=k a b d
section
variable {C:Type u}{T:C->Type}{R A B D E A' B' D':Type}{Y Z:∀c,R->Option (T c)}{Q:R->Prop}{X W:∀c,Option (T c)}
def Tp (X W:∀c,Option (T c))(Y Z:∀c,R->Option (T c))(Q:R->Prop):Prop:=∃r,Q r/\(∀c,X c=Y c r) /\ ∀c,W c=Z c r
theorem Tp.ret {r:R}(h:Q r):Tp (λc=>Y c r) (λc=>Z c r) Y Z Q:=⟨r,h,λ_=>rfl,λ_=>rfl⟩
theorem Tp.mono {Q1:R->Prop}(h:Tp X W Y Z Q1)(f:∀r,Q1 r->Q r):Tp X W Y Z Q:=by obtain⟨r,b,e⟩:=h;exact⟨r,f r b,e⟩
theorem Tp.of {r:R}(b:∀c,X c=Y c r)(e:∀c,W c=Z c r)(h:Q r):Tp X W Y Z Q:=⟨r,h,b,e⟩
theorem Tp.call {G H:∀O:Type,(A->Option O)->Option O}{X W:A -> ∀c,Option (T c)}{Q1:A->Prop}(h:Pn G H Q1)(b:∀a,Q1 a->Tp (X a) (W a) Y Z Q):Tp (λc=>G (T c) (λa=>X a c)) (λc=>H (T c) (λa=>W a c)) Y Z Q:=by obtain⟨a,e,f,g⟩:=h;simp only[f,g];exact b a e
theorem Tp.call2 {G H:∀O:Type,(A->B->Option O)->Option O}{X W:A->B -> ∀c,Option (T c)}{Q1:A->B->Prop}(h:Pn2 G H Q1)(e:∀a b,Q1 a b->Tp (X a b) (W a b) Y Z Q):Tp (λc=>G (T c) (λa b=>X a b c)) (λc=>H (T c) (λa b=>W a b c)) Y Z Q:=by obtain⟨a,b,f,g,i⟩:=h;simp only[g,i];exact e a b f
theorem Tp.call3 {G H:∀O:Type,(A->B->D->Option O)->Option O}{X W:A->B->D -> ∀c,Option (T c)}{Q1:A->B->D->Prop}(h:c1j G H Q1)(e:∀a b d,Q1 a b d->Tp (X a b d) (W a b d) Y Z Q):Tp (λc=>G (T c) (λa b d=>X a b d c)) (λc=>H (T c) (λa b d=>W a b d c)) Y Z Q:=by obtain⟨a,b,d,f,g,i⟩:=h;simp only[g,i];exact e a b d f
theorem Tp.br {b i:Bool}{k f j g:∀c,Option (T c)}(e:b=i)(p:b=true->Tp k j Y Z Q)(o:b=false->Tp f g Y Z Q):Tp (λc=>br b (k c) (f c)) (λc=>br i (j c) (g c)) Y Z Q:=by
 subst e;cases b;·exact o rfl
 ·exact p rfl
theorem Tp.brL {b:Bool}{f e:∀c,Option (T c)}(i:b=true->Tp f W Y Z Q)(g:b=false->Tp e W Y Z Q):Tp (λc=>Go.Am.br b (f c) (e c)) W Y Z Q:=by
 cases b;·exact g rfl
 ·exact i rfl
end
section
variable {A B D:Type}
theorem Tp.fn {G H:∀O:Type,(A->Option O)->Option O}{Q:A->Prop}(h:Tp (C:=Σ O:Type,A->Option O) (T:=λc=>c.1) (λc=>G c.1 c.2) (λc=>H c.1 c.2) (λc r=>c.2 r) (λc r=>c.2 r) Q):Pn G H Q:=by obtain⟨r,b,f,e⟩:=h;exact⟨r,b,λO k=>f ⟨O,k⟩,λO k=>e ⟨O,k⟩⟩
theorem Tp.fn2 {G H:∀O:Type,(A->B->Option O)->Option O}{Q:A->B->Prop}(h:Tp (C:=Σ O:Type,A->B->Option O) (T:=λc=>c.1) (λc=>G c.1 c.2) (λc=>H c.1 c.2) (λc (r:A×B)=>c.2 r.1 r.2) (λc (r:A×B)=>c.2 r.1 r.2) (λr=>Q r.1 r.2)):Pn2 G H Q:=by obtain⟨r,b,f,e⟩:=h;exact⟨r.1,r.2,b,λO k=>f ⟨O,k⟩,λO k=>e ⟨O,k⟩⟩
theorem Tp.fn3 {G H:∀O:Type,(A->B->D->Option O)->Option O}{Q:A->B->D->Prop}(h:Tp (C:=Σ O:Type,A->B->D->Option O) (T:=λc=>c.1) (λc=>G c.1 c.2) (λc=>H c.1 c.2) (λc (r:A×B×D)=>c.2 r.1 r.2.1 r.2.2) (λc (r:A×B×D)=>c.2 r.1 r.2.1 r.2.2) (λr=>Q r.1 r.2.1 r.2.2)):c1j G H Q:=by obtain⟨r,b,f,e⟩:=h;exact⟨r.1,r.2.1,r.2.2,b,λO k=>f ⟨O,k⟩,λO k=>e ⟨O,k⟩⟩
theorem Pn.l {G H:∀O:Type,(A->Option O)->Option O}{Q:A->Prop}(h:Pn G H Q):An G Q:=(let⟨a,h1,h2,_⟩:=h;⟨a,h1,h2⟩)
theorem Pn2.l {G H:∀O:Type,(A->B->Option O)->Option O}{Q:A->B->Prop}(h:Pn2 G H Q):cO G Q:=(let⟨a,b,h1,h2,_⟩:=h;⟨a,b,h1,h2⟩)
theorem Pn.of {G H:∀O:Type,(A->Option O)->Option O}{Q:A->Prop}{a:A}(g:An G λr=>r=a)(e:An H λr=>r=a)(h:Q a):Pn G H Q:=by obtain⟨_,rfl,b⟩:=g;obtain⟨_,rfl,f⟩:=e;exact⟨_,h,b,f⟩
end
end Go.Am
end
section
set_option maxRecDepth 10000
namespace Go.Am
open Go
theorem dg {d:Nat}(h:d<10):UInt8.ofNat (IntKind.wrap .u8 (wi (48+(d:Int)))).toNat=UInt8.ofNat (48+d):=by
 have:d=0\/d=1\/d=2\/d=3\/d=4\/d=5\/d=6\/d=7\/d=8\/d=9:=by omega
 rcases this with rfl|rfl|rfl|rfl|rfl|rfl|rfl|rfl|rfl|rfl<;>rfl
theorem IQ (u:Nat):Lib.decDigits u=if u<10 then[UInt8.ofNat (48+u)]else Lib.decDigits (u/10)++[UInt8.ofNat (48+u%10)]:=by rw[Lib.decDigits];split<;>rfl
theorem uA (u:Nat):∀k,u<10 ^ (k+1)->(Lib.decDigits u).length<=k+1:=by
 intro k;induction k generalizing u with
 |zero =>intro h;rw[IQ,if_pos (by simpa using h)];simp
 |succ k b=>
  intro h;rw[IQ];split;·simp
  ·have:=b (u/10) (by rw[Nat.pow_succ]at h;omega);simp only[List.length_append,List.length_singleton];omega
theorem dN {n:Int}(h:iP n):(Lib.itoa n).length<=21:=by
 unfold Lib.itoa;split;·have:=uA n.natAbs 19 (by omega);simp only[List.length_cons];omega
 ·have:=uA n.toNat 19 (by omega);omega
def sg (b:Bool)(u:Nat):Int:=if b then -(u:Int)else u
theorem d1i (x:Int):An (λ_=>strO [.int .u8 (IntKind.wrap .u8 x)]) λt=>t=[UInt8.ofNat (IntKind.wrap .u8 x).toNat]:=⟨_,rfl,λO k=>rfl⟩
theorem G_ {n:Int}(h:iP n):∀(O:Type) k,dp O n k=k (Lib.itoa n):=by
 refine An.is (m1c ?_);unfold dp g0w;refine m1a (λe=>l1q ?_) λe=>?_
 ·have:n=0:=by simpa using e
  subst this;unfold Lib.itoa;rw[if_neg (by decide),IQ,if_pos (by decide)];rfl
 have I:n≠0:=by simpa using e
 have hl:=uA n.natAbs 19 (by omega);refine l1l (wh YO (λx=>x.1=n /\ ∃u:Nat,x.2.2=sg (decide (n<0)) u/\u<=9223372036854775808/\(if u=0 then x.2.1 else Lib.decDigits u++x.2.1)=Lib.decDigits n.natAbs) (λx=>x.2.2.natAbs) (Ex:=λr=>r=(0,EU (n,Lib.decDigits n.natAbs))) ⟨rfl,n.natAbs,?_,by omega,?_⟩ λx ⟨y,u,F,H,g⟩=>?_) λr q=>?_;·unfold sg;simp only[decide_eq_true_eq];split<;>omega
 ·rw[if_neg (by omega)];simp
 ·rw[y,F];generalize decide (n<0)=b at *;refine m1a (λe=>?_) λe=>l1m ?_
  ·have p:u≠0:=by rintro rfl;cases b<;>simp[sg]at e
   rw[if_neg p]at g;have G:x.2.1.length<=20:=by have:=congrArg List.length g;simp only[List.length_append]at this;omega
   have hm:u%10<10:=Nat.mod_lt _ (by decide);have tm:Int.tmod (sg b u) 10=sg b (u%10):=by cases b<;>simp[sg,Int.neg_tmod]<;>rfl
   have v:IntKind.wrap .i64 (Int.tdiv (sg b u) 10)=sg b (u/10):=by
    have:Int.tdiv (sg b u) 10=sg b (u/10):=by cases b<;>simp[sg,Int.neg_tdiv]<;>rfl
    rw[this];refine lT (n:=sg b (u/10)) ?_;unfold sg;split<;>omega
   have j:∀{t:LU},t=[UInt8.ofNat (48+u%10)]->Tg (C:=Unit) (T:=λ_=>LL ⊕ (Nat×LL)) (λ_=>cs t x.2.1 (some (Sum.inl (uB (n,t++x.2.1,IntKind.wrap .i64 (Int.tdiv (sg b u) 10)))))) (λ_ z=>some z) (λz=>match z with
     |.inl s=>∃f,s=uB f/\(f.1=n /\ ∃u:Nat,f.2.2=sg b u/\u<=9223372036854775808/\(if u=0 then f.2.1 else Lib.decDigits u++f.2.1)=Lib.decDigits n.natAbs)/\f.2.2.natAbs<(sg b u).natAbs
     |.inr r=>r=(0,EU (n,Lib.decDigits n.natAbs))):=λ{t} o=>by
    subst o
    rw[v]
    refine m1i (by simp;omega) (l1y (e:=uB) (m:=λx=>x.2.2.natAbs) (Inv:=λf=>f.1=n /\ ∃u:Nat,f.2.2=sg b u/\u<=9223372036854775808/\(if u=0 then f.2.1 else Lib.decDigits u++f.2.1)=Lib.decDigits n.natAbs) ⟨rfl,u/10,rfl,by omega,?_⟩ ?_)
    ·rw[IQ]at g
     split at g
     ·rw[if_pos (by omega),<-g,Nat.mod_eq_of_lt (by assumption)]
     ·rw[if_neg (by omega),<-g]
      simp
    ·show(sg b (u/10)).natAbs<(sg b u).natAbs
     unfold sg;split<;>omega
   refine l1n (λi=>l1l (d1i _) λt o=>j (o.trans ?_)) λi=>l1l (d1i _) λt o=>j (o.trans ?_)
   ·rw[tm]at i ⊢;cases b with
    |false=>simp only[sg]at i;exact absurd i (by simp;omega)
    |true=>
     have:IntKind.wrap .i64 (0-sg true (u%10))=((u%10:Nat):Int):=by
      have:(0-sg true (u%10))=((u%10:Nat):Int):=by simp[sg]
      rw[this];exact lT (n:=((u%10:Nat):Int)) (by omega)
     rw[this,dg hm]
   ·rw[tm]at i ⊢;have:sg b (u%10)=((u%10:Nat):Int):=by
     cases b with
     |false=>rfl
     |true=>simp only[sg]at i ⊢;simp at i ⊢;omega
    rw[this,dg hm]
  ·have p:u=0:=by cases b<;>simp[sg]at e<;>omega
   rw[if_pos p]at g;rw[g]
 ·subst q;refine l1x (x:=(n,Lib.decDigits n.natAbs)) rfl (l1n (λe=>m1i (by simp;omega) (l1q ?_)) λe=>l1q ?_);·unfold Lib.itoa;rw[if_pos e];rfl
  ·unfold Lib.itoa;rw[if_neg e,show n.natAbs=n.toNat by omega]
theorem vp {n:Int}(h:iP n):∀(O:Type) k,jE O n k=k (Lib.itoa n):=λO k=>by show wK O n k=_;unfold wK chk;rw[if_pos h]
theorem h1b {s:LU}(h:s.length<=1099511627776):iP (nS s):=by rw[aW];exact⟨by omega,by omega⟩
theorem Yx {l:LV}(h:l.length<=1099511627776):iP (nL l):=by rw[aJ];exact⟨by omega,by omega⟩
theorem q0q (n:Int):∀(O:Type) k,Gj O n k=AT O n k:=λO k=>by
 by_cases h:1<=n/\n<=5
 ·have:n=1\/n=2\/n=3\/n=4\/n=5:=by omega
  rcases this with rfl|rfl|rfl|rfl|rfl<;>rfl
 ·unfold Gj k0n AT g0v aU g0y ul g0x;by_cases b:1<=n;·rw[show decide (n >= 1)=true from decide_eq_true b,show decide (n<=5)=false from decide_eq_false (by omega)];rfl
  ·rw[show decide (n >= 1)=false from decide_eq_false (by omega)];rfl
theorem k1q (n:Int):An (λO=>AT O n) (Sl 10):=by
 by_cases h:1<=n/\n<=5
 ·have:n=1\/n=2\/n=3\/n=4\/n=5:=by omega
  rcases this with rfl|rfl|rfl|rfl|rfl<;>exact⟨_,by decide,λO k=>rfl⟩
 ·refine⟨[],by simp,λO k=>?_⟩;show AT O n k=k [];unfold AT g0v ul g0x;by_cases b:1<=n;·rw[decide_eq_true b,decide_eq_false (by omega)];rfl
  ·rw[decide_eq_false b];rfl
theorem k1i {x:U2}(h:iP x.a)(hc:Sl 300000 x.c):An (λO=>CZ O x) tt /\ ∀(O:Type) k,Ga O x k=CZ O x k:=by
 have hs:=h1b (s:=x.c) (by omega);have l1:=dN h;have l2:=dN hs;refine⟨m1c ?_,λO k=>?_⟩;·unfold CZ g0q;simp only[vp h,vp hs];exact l1l (k1q _) λt e=>m1j (Sl 10) (λu f=>m1i (by simp;omega) (m1i (by simp;omega) (m1i (by simp;omega) (m1i (by simp;omega) (m1a (λ_=>m1i (by simp;omega) (l1q trivial)) λ_=>l1q trivial))))) λj b=>m1a (λ_=>b _ (by decide)) λ_=>b _ e
 ·unfold Ga j0y CZ g0q;simp only[vp h,vp hs,G_ h,G_ hs,q0q]
theorem YV:jg=ov:=by kernel_rfl
theorem k1j {p:U8}{T n m:Nat}(h:Pg T n m p)(j:n<=100000000/\m<=2000000000):An (λO=>Ca O p) tt /\ ∀(O:Type) k,Gb O p k=Ca O p k:=by
 have f:=Yx (l:=p.k) (by have:=h.bu.1.1;simp only at this;omega);have b:=Yx (l:=p.m) (by have:=h.sl.1;omega);have e:=Yx (l:=p.n) (by have:=h.mo.1;omega);have l1:=dN f;have l2:=dN b;have g:=dN e;refine⟨m1c ?_,λO k=>?_⟩;·unfold Ca g0r;simp only[vp f,vp b,vp e];rw[<-YV];exact l1l (Jk (n:=1000) h.ad (by omega)) λt i=>m1i (by simp;omega) (m1i (by simp;omega) (m1i (by simp;omega) (m1i (by simp;omega) (m1i (by simp;omega) (m1i (by simp;omega) (m1a (λ_=>m1i (by simp;omega) (l1q trivial)) λ_=>l1q trivial))))))
 ·unfold Gb j0z Ca g0r;simp only[vp f,vp b,vp e,G_ f,G_ b,G_ e,YV,show nW=HQ from rfl]
theorem wO (sep:LU)(l:List LU)(M:Nat)(h:∀x∈l,x.length<=M):(Lib.join l sep).length<=l.length*(M+sep.length):=by
 cases l with
 |nil=>rw[Lib.join_nil];simp
 |cons x r=>
  rw[Lib.join_cons];have i:=h x (by simp);have:∀r:List LU,(∀y∈r,y.length<=M)->(Lib.joinTail sep r).length<=r.length*(M+sep.length):=by
   intro r;induction r with
   |nil=>intro _;simp[Lib.joinTail]
   |cons y r g=>
    intro h;have j:=g (λz b=>h z (by simp[b]));have o:=h y (by simp);have e:Lib.joinTail sep (y :: r)=(sep++y)++Lib.joinTail sep r:=by simp[Lib.joinTail]
    rw[e,List.length_append,List.length_append,List.length_cons,Nat.add_mul];omega
  have k:=this r (λy f=>h y (by simp[f]));rw[List.length_append,List.length_cons,Nat.add_mul];omega
theorem MD {n m:Nat}{l:LV}(h:Tx n m l):∃s:List LU,l=s.map V.str/\s.length<=n /\ ∀t∈s,t.length<=m:=by
 obtain⟨j,k⟩:=h;have:∀l:LV,Rw V.str (Sl m) l -> ∃s:List LU,l=s.map V.str /\ ∀t∈s,t.length<=m:=by
  intro l;induction l with
  |nil=>intro _;exact⟨[],rfl,by simp⟩
  |cons r l g =>intro h;obtain⟨y,f,rfl⟩:=h _ (List.mem_cons_self ..);obtain⟨s,rfl,hs⟩:=g λr b=>h r (List.mem_cons_of_mem _ b);exact⟨y :: s,rfl,λt i=>(List.mem_cons.1 i).elim (λe=>e▸f) (hs t)⟩
 obtain⟨s,rfl,hs⟩:=this l k;exact⟨s,rfl,by simpa using j,hs⟩
theorem j1w (s:List LU):fk (s.map V.str)=some s:=by
 induction s with
 |nil=>rfl
 |cons x s b =>show(fk (s.map V.str)).map (x :: ·)=_;rw[b];rfl
section
variable {s:List LU}{sep:LU}(hs:s.length<=1099511627776)(hl:(Lib.join s sep).length<=140737488355328)
include hs hl
theorem c1w:∀(O:Type) k,xL O (s.map V.str) sep k=k (Lib.join s sep):=λO k=>by show wN O _ _ k=_;unfold wN chk;rw[j1w];simp only;rw[if_pos ⟨by omega,hl⟩]
theorem c1x (g:s≠[]):∀(O:Type) k,uk O (s.map V.str) sep k=k (Lib.join s sep):=by
 refine An.is (m1c ?_);unfold uk k0p;obtain⟨b,r,rfl⟩:=List.exists_cons_of_ne_nil g;have p:∀{i:Nat} (h:i<(b :: r).length) (a:LU),a++Lib.joinTail sep ((b :: r).drop i)=((a++sep)++(b :: r)[i])++Lib.joinTail sep ((b :: r).drop (i+1)):=λh a=>by rw[List.drop_eq_getElem_cons h];simp[Lib.joinTail]
 refine m1a (λe=>by rw[aJ]at e;simp at e;omega) λ_=>l1l (rI (s:=b :: r) (i:=0) rfl) λt y=>l1l (wh YE (λx=>x.1=(b :: r).map V.str/\x.2.1=sep/\(1<=x.2.2.2/\x.2.2.2<=(b :: r).length)/\x.2.2.1++Lib.joinTail sep ((b :: r).drop x.2.2.2.toNat)=Lib.join (b :: r) sep) (λx=>((b :: r).length-x.2.2.2).toNat) (Ex:=λq=>q=(0,uC (Lib.join (b :: r) sep))) ⟨rfl,rfl,by simp;omega,by rw[y,Lib.join_cons];rfl⟩ λx ⟨z,F,G,f⟩=>?_) λq j=>?_
 ·rw[z,F];refine l1n (λe=>?_) λe=>l1m ?_
  ·rw[aJ,List.length_map]at e;have o:x.2.2.2.toNat<(b :: r).length:=by omega
   rw[p o]at f;have j:=congrArg List.length f;simp only[List.length_append]at j;refine m1i (by omega) (m1b (by omega) (l1l (rI (List.getElem?_eq_getElem o)) λu v=>?_));subst v;refine m1i (by simp only[List.length_append];omega) (l1y ⟨rfl,rfl,?_,?_⟩ ?_)<;>simp only<;>rw[bC (by omega)];·omega
   ·rw[show(x.2.2.2+1).toNat=x.2.2.2.toNat+1 by omega];exact f
   ·omega
  ·rw[aJ,List.length_map]at e;rw[List.drop_of_length_le (by omega)]at f;simp only[Lib.joinTail,List.map_nil,List.flatten_nil,List.append_nil]at f;rw[f]
 ·subst j;exact l1x (x:=Lib.join (b :: r) sep) rfl (l1q rfl)
end
theorem k1k {l:LV}{n m:Nat}(h:Tx n m l)(b:n<=10000000/\m<=10000000):An (λO=>xQ O l) tt /\ ∀(O:Type) k,Gc O l k=xQ O l k:=by
 obtain⟨s,rfl,g,j⟩:=MD h;have f:=wO [59,32] s m j;have hl:(Lib.join s [59,32]).length<=140737488355328:=Nat.le_trans f (Nat.le_trans (Nat.mul_le_mul (Nat.le_trans g b.1) (Nat.add_le_add_right b.2 _)) (by decide));have q:=c1w (sep:=[59,32]) (by omega) hl;cases s with
 |nil=>exact⟨⟨_,trivial,λO k=>rfl⟩,λO k=>rfl⟩
 |cons x r=>
  have i:=c1x (sep:=[59,32]) (by omega) hl (List.cons_ne_nil x r);have e:((nL ((x :: r).map V.str))==0)=false:=by rw[aJ];simp;omega
  refine⟨⟨Lib.join (x :: r) [59,32],trivial,λO k=>?_⟩,λO k=>?_⟩;·show xQ O _ k=_;unfold xQ g0s;rw[e,jq,q]
  ·unfold Gc k0a xQ g0s;rw[e,jq,q,i]
theorem k1l {y:U15}(h:Sl 1000 y.a/\Sl 1000 y.b/\Sl 1000 y.c):An (λO=>Cb O y) tt /\ ∀(O:Type) k,Gd O y k=Cb O y k:=by
 refine⟨m1c ?_,λO k=>?_⟩;·unfold Cb g0t;rw[<-YV];have:=h.1;exact m1i (by simp;omega) (l1l (Jk (n:=1000) h.2 (by omega)) λt e=>m1i (by simp;omega) (m1a (λ_=>m1i (by simp;omega) (l1q trivial)) λ_=>l1q trivial))
 ·unfold Gd k0b Cb g0t;rw[YV]
def fq (now:Int):V->Bool
 |.agg [_,_,_,_,_,_,_,_,_,.int _ j]=>decide (j >= now)
 |_=>false
def gq:V->Bool
 |.agg [_,_,_,.bool b]=>b
 |_=>false
theorem d1h {P:U15->Prop}{l:LV}(h:Rw AQ P l){i:Nat}(g:i<l.length):An (λ_=>Eo l i) λy=>P y/\l[i]?=some (AQ y):=h.ix (f:=Eo) (λ_ l i y k h=>by unfold Eo;exact dA (ks:=[.str,.str,.str,.bool]) (e:=(y.a,y.b,y.c,y.d,())) h rfl) g
theorem h0w {q:V->Bool}{l:LV}{i:Int}{v:V}(b:0<=i)(h:l[i.toNat]?=some v):((l.take (i+1).toNat).filter q).length=((l.take i.toNat).filter q).length+if q v=true then 1 else 0:=by rw[take1 b h,List.filter_append,List.length_append,List.filter_cons,List.filter_nil];split<;>rfl
theorem Ip {q:V->Bool}{l:LV}{i:Nat}:((l.take i).filter q).length<=l.length:=Nat.le_trans (List.length_filter_le _ _) (by rw[List.length_take];omega)
section
variable {l:LV}{now:Int}{m n:Nat}
theorem c1y (h:Ch m n l)(hm:m<=1099511627776):∀(O:Type) k,Gk O l now k=k ((l.filter (fq now)).length:Int):=by
 have hl:=h.1;refine An.is (m1c ?_);unfold Gk k0q;refine l1l (wh YF (λx=>x.1=now/\x.2.2.1=l/\x.2.2.2.1=nL l/\(0<=x.2.2.2.2/\x.2.2.2.2<=l.length)/\x.2.1=((l.take x.2.2.2.2.toNat).filter (fq now)).length) (λx=>(l.length-x.2.2.2.2).toNat) (Ex:=λr=>r=(0,cY ((l.filter (fq now)).length:Int))) ⟨rfl,rfl,rfl,by simp,by simp⟩ λx ⟨u,v,F,f,o⟩=>?_) λr z=>?_
 ·rw[u,v,F,o];have q:=Ip (q:=fq now) (l:=l) (i:=x.2.2.2.2.toNat);refine l1v (λe=>m1b f.1 (l1l (r13 h.2 (by omega)) λy ⟨_,p⟩=>?_)) λe=>l1m (by rw[List.take_of_length_le (by omega)]);have g:=h0w (q:=fq now) f.1 p;refine l1n (λb=>l1y ⟨rfl,rfl,rfl,?_,?_⟩ ?_) λb=>l1y ⟨rfl,rfl,rfl,?_,?_⟩ ?_<;>simp only<;>rw[bC (n:=x.2.2.2.2) (by omega)]
  any_goals omega
  ·rw[g,bC (by omega),if_pos (show fq now (w8 y)=true from decide_eq_true b)];simp
  ·rw[g,if_neg (by show ¬decide (y.j >= now)=true;simpa using b)];simp
 ·subst z;exact l1x rfl (l1q rfl)
theorem g1w (h:Ch m n l)(hm:m<=1099511627776):∀(O:Type) k,Gl O l now k=k ((l.filter (fq now)).length:Int):=by
 have hl:=h.1;refine An.is (m1c ?_);unfold Gl k0r;refine l1l (wh YG (λx=>x.1=now/\x.2.2.2=l/\(0<=x.2.2.1/\x.2.2.1<=l.length)/\x.2.1=((l.take x.2.2.1.toNat).filter (fq now)).length) (λx=>(l.length-x.2.2.1).toNat) (Ex:=λr=>r=(0,cY ((l.filter (fq now)).length:Int))) ⟨rfl,rfl,by simp,by simp⟩ λx ⟨u,v,f,z⟩=>?_) λr o=>?_
 ·rw[u,v,z];have q:=Ip (q:=fq now) (l:=l) (i:=x.2.2.1.toNat);refine l1v (λe=>m1b f.1 (l1l (r13 h.2 (by omega)) λy ⟨_,p⟩=>?_)) λe=>l1m (by rw[List.take_of_length_le (by omega)]);have g:=h0w (q:=fq now) f.1 p;refine l1n (λb=>l1y ⟨rfl,rfl,?_,?_⟩ ?_) λb=>l1y ⟨rfl,rfl,?_,?_⟩ ?_<;>simp only<;>rw[bC (n:=x.2.2.1) (by omega)]
  any_goals omega
  ·rw[g,bC (by omega),if_pos (show fq now (w8 y)=true from decide_eq_true b)];simp
  ·rw[g,if_neg (by show ¬decide (y.j >= now)=true;simpa using b)];simp
 ·subst o;exact l1x rfl (l1q rfl)
theorem i0i (h:Ch m n l)(hm:m<=1000000000):An (λO=>sJ O l now) (Sl 43) /\ ∀(O:Type) k,tM O l now k=sJ O l now k:=by
 have hl:=h.1;have q:=List.length_filter_le (fq now) l;have e:iP ((l.filter (fq now)).length:Int):=⟨by omega,by omega⟩;have b:=Yx (l:=l) (by omega);have l1:=dN e;have l2:=dN b;refine⟨m1c ?_,λO k=>?_⟩;·unfold sJ g0u;simp only[c1y h (by omega),vp e,vp b];exact m1i (by simp;omega) (m1i (by simp;omega) (l1q (by simp;omega)))
 ·unfold tM k0c sJ g0u;simp only[c1y h (by omega),g1w h (by omega),vp e,vp b,G_ e,G_ b]
end
theorem g1x {y:U19}{n:Nat}(h:Ls n AQ tt y.c)(z:n<=1099511627776):∀(O:Type) k,Cj O y k=k ((y.c.filter gq).length:Int):=by
 have hl:=h.1;refine An.is (m1c ?_);unfold Cj k0s HR k0z;refine l1l (wh YJ (λx=>x.2.1=y.c/\x.2.2.1=nL y.c/\(0<=x.2.2.2/\x.2.2.2<=y.c.length)/\x.1=((y.c.take x.2.2.2.toNat).filter gq).length) (λx=>(y.c.length-x.2.2.2).toNat) (Ex:=λr=>r=(0,cY ((y.c.filter gq).length:Int))) ⟨rfl,rfl,by simp,by simp⟩ λx ⟨p,v,f,j⟩=>?_) λr u=>?_
 ·rw[p,v,j];have q:=Ip (q:=gq) (l:=y.c) (i:=x.2.2.2.toNat);refine l1v (λe=>m1b f.1 (l1l (d1h h.2 (by omega)) λy ⟨_,o⟩=>?_)) λe=>l1m (by rw[List.take_of_length_le (by omega)]);have g:=h0w (q:=gq) f.1 o;refine m1a (λb=>l1y ⟨rfl,rfl,?_,?_⟩ ?_) λb=>l1y ⟨rfl,rfl,?_,?_⟩ ?_<;>simp only<;>rw[bC (n:=x.2.2.2) (by omega)]
  any_goals omega
  ·rw[g,bC (by omega),if_pos (show gq (AQ y)=true from b)];simp
  ·rw[g,if_neg (by show ¬y.d=true;simpa using b)];simp
 ·subst u;exact l1x rfl (l1q rfl)
theorem g1y {y:U19}{n:Nat}(h:Ls n AQ tt y.c)(v:n<=1099511627776):∀(O:Type) k,Ck O y k=k ((y.c.filter gq).length:Int):=by
 have hl:=h.1;refine An.is (m1c ?_);unfold Ck k0t;refine l1l (wh YK (λx=>x.2.2=y/\(0<=x.2.1/\x.2.1<=y.c.length)/\x.1=((y.c.take x.2.1.toNat).filter gq).length) (λx=>(y.c.length-x.2.1).toNat) (Ex:=λr=>r=(0,cY ((y.c.filter gq).length:Int))) ⟨rfl,by simp,by simp⟩ λx ⟨p,f,u⟩=>?_) λr j=>?_
 ·rw[p,u];have q:=Ip (q:=gq) (l:=y.c) (i:=x.2.1.toNat);refine l1v (λe=>m1b f.1 (l1l (d1h h.2 (by omega)) λy ⟨_,o⟩=>?_)) λe=>l1m (by rw[List.take_of_length_le (by omega)]);have g:=h0w (q:=gq) f.1 o;refine m1a (λb=>l1y ⟨rfl,?_,?_⟩ ?_) λb=>l1y ⟨rfl,?_,?_⟩ ?_<;>simp only<;>rw[bC (n:=x.2.1) (by omega)]
  any_goals omega
  ·rw[g,bC (by omega),if_pos (show gq (AQ y)=true from b)];simp
  ·rw[g,if_neg (by show ¬y.d=true;simpa using b)];simp
 ·subst j;exact l1x rfl (l1q rfl)
open Classical in
noncomputable def H6 (a:U5):LU:=if h:An (λO=>jg O a) (Sl 17)then Classical.choose h else[]
theorem c1q {a:U5}(h:Ad a):An (λO=>jg O a) λs=>s=H6 a/\Sl 17 s:=by
 have q:An (λO=>jg O a) (Sl 17):=Jk (n:=1000) h (by omega);have e:H6 a=Classical.choose q:=by unfold H6;rw[dif_pos q]
 have:=Classical.choose_spec q;exact⟨_,⟨e.symm,this.1⟩,this.2⟩
noncomputable def vS (t:U17)(j:Nat)(y:U18):LU:=(if(j:Int)==t.b then[42]++H6 ⟨y.a,y.b⟩else H6 ⟨y.a,y.b⟩)++if y.y then[43]else[]
def Ot (t:U17)(i:Nat)(o:LV):Prop:=(o.length=i/\Rw V.str (Sl 20) o) /\ ∀(j:Nat) (y:U18),t.a[j]?=some (w9 y)->j<i->o[j]?=some (.str (vS t j y))
theorem Ot.push {t:U17}{i:Nat}{o:LV}{y:U18}{u:LU}(h:Ot t i o)(g:t.a[i]?=some (w9 y))(f:u=vS t i y)(hl:u.length<=20):Ot t (i+1) (o++[.str u]):=by
 obtain⟨⟨k,p⟩,e⟩:=h;refine⟨⟨by simp;omega,p.app (Rw.one (w:=V.str) hl)⟩,λj z b q=>?_⟩;by_cases c:j<i;·rw[List.getElem?_append_left (by omega)];exact e j z b c
 ·obtain rfl:j=i:=by omega
  rw[List.getElem?_append_right (by omega),k,Nat.sub_self];rw[g]at b;injection b with b;simp only[w9,V.agg.injEq,List.cons.injEq,V.str.injEq,V.bool.injEq]at b;rw[f];simp only[vS,b];rfl
theorem Ot.eq {t:U17}{o e:LV}(g:Tb t)(h:Ot t t.a.length o)(b:Ot t t.a.length e):o=e:=by
 refine List.ext_getElem? λj=>?_;by_cases c:j<t.a.length;·obtain⟨y,_,f⟩:=g.2.get c;rw[h.2 j y f c,b.2 j y f c]
 ·rw[List.getElem?_eq_none (by have:=h.1.1;omega),List.getElem?_eq_none (by have:=b.1.1;omega)]
abbrev Os (t:U17)(r:LU):Prop:=t.a=[]/\r=[45]\/t.a≠[] /\ ∃s:List LU,Ot t t.a.length (s.map V.str)/\r=Lib.join s [32]
theorem Os.eq {t:U17}{r f:LU}(i:Tb t)(h:Os t r)(g:Os t f):r=f:=by
 rcases h with⟨a,rfl⟩|⟨a,s,j,rfl⟩<;>rcases g with⟨b,rfl⟩|⟨b,s',k,rfl⟩;·rfl
 ·exact absurd a b
 ·exact absurd b a
 ·have:=j.eq i k;rw[List.map_inj_right (λ_ _ e=>by injection e)]at this;rw[this]
section
variable {t:U17}(h:Tb t)
include h
theorem jn {o:LV}(b:Ot t t.a.length o):∃s:List LU,o=s.map V.str/\s.length=t.a.length/\(Lib.join s [32]).length<=1000:=by have hl:=h.1;obtain⟨s,rfl,f,e⟩:=MD (n:=7) (m:=20) ⟨by have:=b.1.1;omega,b.1.2⟩;have:=wO [32] s 20 e;refine⟨s,rfl,by have:=b.1.1;simpa using this,Nat.le_trans this (Nat.le_trans (Nat.mul_le_mul_right _ f) (by decide))⟩
theorem k1m:An (λO=>Ge O t) (Os t):=by
 refine m1c ?_;unfold Ge k0d;rw[<-YV];have hl:=h.1;refine m1a (λe=>l1q (.inl ⟨by rw[aJ]at e;simp at e;exact e,rfl⟩)) λe=>l1l (wh YH (λx=>x.2.1=t.a/\x.2.2.1=nL t.a/\x.2.2.2.2=t/\(0<=x.2.2.2.1/\x.2.2.2.1<=t.a.length)/\Ot t x.2.2.2.1.toNat x.1) (λx=>(t.a.length-x.2.2.2.1).toNat) (Ex:=λr=>∃o,r=(0,fo o)/\Ot t t.a.length o) ⟨rfl,rfl,rfl,by simp,⟨rfl,Rw.nil⟩,λj y _ q=>by simp at q⟩ λx ⟨I,J,G,k,g⟩=>?_) λr ⟨o,i,z⟩=>?_
 ·rw[I,J,G];refine l1v (λe=>m1b k.1 (l1l (r14 h.2 (by omega)) λy ⟨H,v⟩=>l1l (c1q H.2) λs ⟨hs,K⟩=>m1j (λu=>u=(if((x.2.2.2.1.toNat:Nat):Int)==t.b then[42]++H6 ⟨y.a,y.b⟩else H6 ⟨y.a,y.b⟩)/\Sl 18 u) (λu ⟨p,L⟩=>m1a (λf=>m1i (by simp;omega) (m1f (kp (by have:=g.1.1;omega) (by omega)) (l1y ⟨rfl,rfl,rfl,?_,?_⟩ ?_))) λf=>m1f (kp (by have:=g.1.1;omega) (by omega)) (l1y ⟨rfl,rfl,rfl,?_,?_⟩ ?_)) λj F=>m1a (λf=>m1i (by simp;omega) (F _ ⟨by rw[Int.toNat_of_nonneg k.1,if_pos f,hs],by simp;omega⟩)) λf=>F _ ⟨by rw[Int.toNat_of_nonneg k.1,if_neg (by simpa using f),hs],by simp;omega⟩)) λe=>l1m ⟨_,rfl,by rwa[show x.2.2.2.1.toNat=t.a.length by omega]at g⟩
  all_goals simp only
  all_goals rw[bC (by omega)]
  any_goals omega
  ·rw[show(x.2.2.2.1+1).toNat=x.2.2.2.1.toNat+1 by omega];refine g.push v ?_ (by simp;omega);unfold vS;rw[p,f,if_pos rfl]
  ·rw[show(x.2.2.2.1+1).toNat=x.2.2.2.1.toNat+1 by omega];refine g.push v ?_ (by omega);unfold vS;rw[p,f];simp
 ·subst i;obtain⟨s,rfl,hs,M⟩:=jn h z;exact l1x (x:=s.map V.str) rfl (l1l (An.eq (c1w (by omega) (by omega))) λr i=>l1q (.inr ⟨λq=>by rw[q]at e;exact absurd e (by decide),s,z,i⟩))
theorem k1n:An (λO=>Gf O t) (Os t):=by
 refine m1c ?_;unfold Gf k0e;have hl:=h.1;refine l1l (wh YI (λx=>x.2.2=t/\(0<=x.2.1/\x.2.1<=t.a.length)/\Ot t x.2.1.toNat x.1) (λx=>(t.a.length-x.2.1).toNat) (Ex:=λr=>∃o,r=(0,fo o)/\Ot t t.a.length o) ⟨rfl,by simp,⟨rfl,Rw.nil⟩,λj y _ q=>by simp at q⟩ λx ⟨I,p,g⟩=>?_) λr ⟨o,i,G⟩=>?_
 ·rw[I];refine l1v (λe=>m1b p.1 (l1l (r14 h.2 (by omega)) λy ⟨J,v⟩=>l1l (c1q J.2) λs ⟨hs,M⟩=>m1j (λu=>u=(if((x.2.1.toNat:Nat):Int)==t.b then[42]++H6 ⟨y.a,y.b⟩else H6 ⟨y.a,y.b⟩)/\Sl 18 u) (λu ⟨z,K⟩=>m1b p.1 (l1l (JZ v) λN F=>m1a (λf=>m1i (by simp;omega) (m1f (kp (by have:=g.1.1;omega) (by omega)) (l1y ⟨rfl,?_,?_⟩ ?_))) λf=>m1f (kp (by have:=g.1.1;omega) (by omega)) (l1y ⟨rfl,?_,?_⟩ ?_))) λj H=>m1a (λf=>m1i (by simp;omega) (H _ ⟨by rw[Int.toNat_of_nonneg p.1,if_pos f,hs],by simp;omega⟩)) λf=>H _ ⟨by rw[Int.toNat_of_nonneg p.1,if_neg (by simpa using f),hs],by simp;omega⟩)) λe=>l1m ⟨_,rfl,by rwa[show x.2.1.toNat=t.a.length by omega]at g⟩
  all_goals simp only
  all_goals rw[bC (by omega)]
  any_goals omega
  ·rw[show(x.2.1+1).toNat=x.2.1.toNat+1 by omega];refine g.push v ?_ (by simp;omega);unfold vS;rw[F]at f;rw[z,f,if_pos rfl]
  ·rw[show(x.2.1+1).toNat=x.2.1.toNat+1 by omega];refine g.push v ?_ (by omega);unfold vS;rw[F]at f;rw[z,f];simp
 ·subst i;obtain⟨s,rfl,hs,L⟩:=jn h G;refine l1x (x:=s.map V.str) rfl ?_;cases s with
  |nil=>exact l1l (An.eq (a:=[45]) λO k=>rfl) λr i=>l1q (.inl ⟨List.length_eq_zero_iff.1 (by simpa using hs.symm),rfl⟩)
  |cons x s=>exact l1l (An.eq (c1x (by omega) (by omega) (List.cons_ne_nil x s))) λr i=>l1q (.inr ⟨λq=>(by rw[q]at hs;cases hs),x :: s,G,i⟩)
end
noncomputable def wS (n:Int)(c:LU)(m g:Int):LU:=((((((Lib.itoa n++[32])++c)++[32])++Lib.itoa m)++[32])++Lib.itoa g)++[32]
noncomputable def wT (w:U20)(c:LU):LU:=(wS w.d c (nL w.c) ((w.c.filter gq).length:Int)++if w.ag then[102,97,115,116]else[115,108,111,119])++if w.g then[32,114,101,97,100,121]else[]
theorem k1o {w:U20}(h:Wd w):∃c,(∀(O:Type) k,Gg O w k=k (wT w c)) /\ ∀(O:Type) k,Gh O w k=k (wT w c):=by
 obtain⟨⟨c,hc,F⟩,v⟩:=i0i (now:=w.d) h.1.2.1 (by omega);have hl:=h.1.2.2.1.1;simp only[d1f]at hl;have q:=List.length_filter_le gq w.c;have r:iP w.d:=h.1.2.2.2;have o:=Yx (l:=w.c) (by omega);have x:iP ((w.c.filter gq).length:Int):=⟨by omega,by omega⟩;have l1:=dN r;have l2:=dN o;have M:=dN x;have i:∀(O:Type) k,sJ O w.b w.d k=k c:=F;have f:∀(O:Type) k,tM O w.b w.d k=k c:=λO k=>(v O k).trans (F O k);have H:∀(O:Type) k,Cj O ⟨w.a,w.b,w.c,w.d⟩ k=k ((w.c.filter gq).length:Int):=g1x (y:=⟨w.a,w.b,w.c,w.d⟩) h.1.2.2.1 (by omega);have L:∀(O:Type) k,Ck O ⟨w.a,w.b,w.c,w.d⟩ k=k ((w.c.filter gq).length:Int):=g1y (y:=⟨w.a,w.b,w.c,w.d⟩) h.1.2.2.1 (by omega);refine⟨c,An.is (m1c ?_),An.is (m1c ?_)⟩
 ·unfold Gg k0f;simp only[vp r,vp o,vp x,i,H];refine m1j (λu=>u=(if w.ag then[102,97,115,116]else[115,108,111,119])) (λu p=>?_) λj G=>m1a (λe=>G _ (by rw[if_pos e])) λe=>G _ (by rw[if_neg (by simpa using e)]);have N:u.length=4:=by rw[p];split<;>rfl
  refine m1i (by simp;omega) (m1i (by simp;omega) (m1i (by simp;omega) (m1i (by simp;omega) (m1i (by simp;omega) (m1i (by simp;omega) (m1i (by simp;omega) (m1i (by simp;omega) (m1a (λe=>m1i (by simp;omega) (l1q ?_)) λe=>l1q ?_))))))));·unfold wT wS;rw[p,e];rfl
  ·unfold wT wS;rw[p,e];simp
 ·unfold Gh k0g;simp only[G_ r,G_ o,G_ x,f,L];have cut:∀A:LU,A.length<=1000->(0:Int)<=wi (nS (A++[32,115,108,111,119])-4)/\wi (nS (A++[32,115,108,111,119])-4)<=nS (A++[32,115,108,111,119])/\((A++[32,115,108,111,119]).take (wi (nS (A++[32,115,108,111,119])-4)).toNat).drop 0=A++[32]:=λA z=>by
   have e:nS (A++[32,115,108,111,119])=A.length+5:=by rw[aW];simp
   rw[e,lT (by omega),show((A.length:Int)+5-4).toNat=A.length+1 by omega,List.drop_zero,List.take_append];refine⟨by omega,by omega,?_⟩;rw[List.take_of_length_le (by omega),show A.length+1-A.length=1 by omega];rfl
  refine m1i (by simp;omega) (m1i (by simp;omega) (m1i (by simp;omega) (m1i (by simp;omega) (m1i (by simp;omega) (m1i (by simp;omega) (m1i (by simp;omega) ?_))))));have z:((((((Lib.itoa w.d++[32])++c)++[32])++Lib.itoa (nL w.c))++[32])++Lib.itoa ((w.c.filter gq).length:Int)).length<=1000:=by simp;omega
  have J:wS w.d c (nL w.c) ((w.c.filter gq).length:Int)=((((((Lib.itoa w.d++[32])++c)++[32])++Lib.itoa (nL w.c))++[32])++Lib.itoa ((w.c.filter gq).length:Int))++[32]:=rfl;unfold wT;rw[J];generalize ((((((Lib.itoa w.d++[32])++c)++[32])++Lib.itoa (nL w.c))++[32])++Lib.itoa ((w.c.filter gq).length:Int))=A at *;obtain⟨I,K,k3⟩:=cut A z;rw[k3];refine m1a (λe=>m1g ⟨by omega,I,K⟩ (m1i (by simp;omega) (m1a (λg=>m1i (by simp;omega) (l1q ?_)) λg=>l1q ?_))) λe=>m1a (λg=>m1i (by simp;omega) (l1q ?_)) λg=>l1q ?_
  all_goals (rw[e,g];simp)
section
variable {code:LV}(h:Rw wb tt code)(hl:code.length<=1048576)
include h hl
theorem k1p:An (λO=>Gi O code) (Pg 200100 200000 5100000):=by refine m1c ?_;unfold Gi k0i;exact l1l (Rj h hl) λc hc=>l1i (z0a hc) λp _ _ b=>l1q b.1
theorem v5:An (λO=>F5 O code) λx=>Sl 300000 x.c/\iP x.a:=by refine m1c ?_;unfold F5 P5 HH k0h;exact l1l (Rj h hl) λc hc=>l1h (i0j hc) λx _ ⟨⟨b,e⟩,_⟩=>l1q ⟨Nat.le_trans b.1 (by omega),e⟩
theorem v7:An (λO=>F7 O code) (Tx 5100000 5100000):=by refine m1c ?_;unfold F7 P7;exact l1l (Rj h hl) λc hc=>l1i (z0a hc) λp _ _ b=>l1q b.1.lo
theorem v8:An (λO=>F8 O code) λy=>Sl 1000 y.a/\Sl 1000 y.b/\Sl 1000 y.c:=by refine m1c ?_;unfold F8 P8 HJ k0j;exact l1l (Rj h hl) λc hc=>l1h (b1c hc) λs y ⟨hs,h⟩=>l1h (L7 h) λa y ⟨e,h⟩=>l1h (xI 2 h) λb y h=>l1q ⟨Sl.up (by omega) hs,Sl.up (by omega) e.1,Sl.up (by omega) e.2⟩
theorem v9:cO (λO=>F9 O code) λl _=>Ch 300 300000 l:=by refine l1s ?_;unfold F9 P9 HL k0k;exact l1l (Rj h hl) λc hc=>l1h (e1b hc) λl y ⟨hl,h⟩=>l1h (kW 60 h) λn y _=>l1j hl
theorem CS:An (λO=>GY O code) Tb:=by refine m1c ?_;unfold GY j0w HM k0l;exact l1l (Rj h hl) λc hc=>l1h (d1j hc) λt y ⟨b,_⟩=>l1q b
theorem k1h:An (λO=>GZ O code) Wd:=by refine m1c ?_;unfold GZ j0x HP k0m;exact l1l (Rj h hl) λc hc=>l1l (k1r hc) λw b=>l1q b
end
theorem An.same {A:Type}{G H:∀O:Type,(A->Option O)->Option O}(h:An G tt)(e:∀(O:Type) k,H O k=G O k):∃a,(∀(O:Type) k,G O k=k a) /\ ∀(O:Type) k,H O k=k a:=(let⟨a,_,h2⟩:=h;⟨a,h2,λO k=>(e O k).trans (h2 O k)⟩)
theorem t3 {code:LV}(h:Rw wb tt code):An (λO=>F3 O code) λb=>b=true:=by
 refine m1c ?_;unfold F3 P3 F4 P4;refine l1n (λ_=>l1q rfl) λe=>?_;have hl:code.length<=1048576:=by rw[aJ]at e;omega
 refine l1l (v5 h hl) λy2 r=>l1l (Q1:=Pg 200100 200000 5100000) (k1p h hl) λy3 Q=>l1l (v7 h hl) λl4 I=>l1l (v8 h hl) λy5 H=>l1h (v9 h hl) λK q x=>l1l (CS h hl) λy8 f=>l1l (k1h h hl) λy9 M=>?_;have v:=k1i r.2 r.1;have p:=k1j Q (by omega);have u:=k1k I (by omega);have o:=k1l H;have i:=i0i (now:=q) x (by omega);obtain⟨a1,p1,q1⟩:=An.same v.1 v.2;obtain⟨a2,V,q2⟩:=An.same p.1 p.2;obtain⟨a3,S,U⟩:=An.same u.1 u.2;obtain⟨a4,L,y⟩:=An.same o.1 o.2;obtain⟨⟨a5,_,j⟩,i⟩:=i;have G:∀(O:Type) k,tM O K q k=k a5:=λO k=>(i O k).trans (j O k);obtain⟨a6,J,z⟩:=k1m f;obtain⟨a7,N,q6⟩:=k1n f;obtain rfl:=J.eq f N;obtain⟨c,F,P⟩:=k1o M;have g:∀(O:Type) k,xQ O [] k=k [45]:=λO k=>rfl;simp only[p1,q1,V,q2,S,U,L,y,j,G,z,q6,F,P,g,BEq.rfl,tw];exact l1q rfl
end Go.Am
end
