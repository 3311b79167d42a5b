/-
  Proved: lemmas for Rows.FnFormatsCardSaid.
-/
import Derived.Test.YtmkhgngckgcpeaaGreatDooruV15
set_option linter.all false
section
namespace Go.Am
open Go
theorem i0j {c:U0}(h:Cu c):cO (λO=>bj O c) λx y=>(Re 30000 x/\iP x.a)/\Cu y:=by
 refine l1s ?_;unfold bj C4;refine l1h (kW 5 h) λG F ⟨_,B⟩=>l1h (L_ B) λt C ⟨⟨q,v,_⟩,A⟩=>l1h (kW 12 A) λD E ⟨_,g⟩=>?_;have b:Re 30000 t/\iP t.a:=⟨⟨Sl.up (by omega) q.1,Sl.up (by omega) q.2⟩,by rw[v];decide⟩;refine m1a (λ_=>l1h (Fm (P:=iP) g (by repeat first|exact Rw.nil|refine Rw.cons (w:=wn) (by decide) ?_) (by simp)) λp o ⟨z,f⟩=>l1j ⟨⟨b.1,z⟩,f⟩) λ_=>?_;refine m1a (λ_=>l1h (Fm (P:=tt) g (rN rfl) (by simp)) λp o ⟨_,f⟩=>l1j ⟨b,f⟩) λ_=>?_;refine m1a (λ_=>l1h (Fm (P:=tt) g (rN rfl) (by simp)) λp o ⟨_,f⟩=>l1j ⟨b,f⟩) λ_=>?_;refine m1a (λ_=>l1h (i0g (P:=Sl 100) g (rS rfl) (by simp)) λs o ⟨hs,f⟩=>l1j ⟨⟨⟨b.1.1,Sl.up (by omega) hs⟩,b.2⟩,f⟩) λ_=>?_;refine m1a (λ_=>?_) λ_=>l1j ⟨b,g⟩;refine l1l (wh p0d (λx=>(Re 30000 x.2.1/\iP x.2.1.a)/\Cu x.2.2) (λx=>400-x.2.1.c.length) (Ex:=λr=>∃x,r=(0,EJ x)/\(Re 30000 x.2.1/\iP x.2.1.a)/\Cu x.2.2) ⟨b,g⟩ λx ⟨j,m⟩=>?_) λr ⟨x,u,j,m⟩=>?_
 ·refine l1n (λe=>m1i ?_ (l1y ⟨⟨⟨?_,j.1.2⟩,j.2⟩,m⟩ ?_)) λe=>l1m ⟨_,rfl,j,m⟩
  all_goals rw[aW]at e
  all_goals simp only[List.length_append,List.length_cons,List.length_nil,Sl]
  all_goals omega
 ·subst u;exact l1x (x:=x) rfl (l1j ⟨j,m⟩)
theorem r13 {P:U16->Prop}{l:LV}(h:Rw w8 P l){i:Nat}(m:i<l.length):An (λ_=>oO l i) λy=>P y/\l[i]?=some (w8 y):=h.ix (f:=oO) (λ_ l i y k h=>by unfold oO;exact dA (ks:=[.str,.str,.str,.int .i64,.int .i64,.str,.int .i64,.bool,.str,.int .i64]) (e:=(y.a,y.b,y.c,y.d,y.e,y.f,y.g,y.h,y.i,y.j,())) h rfl) m
abbrev En (n:Nat)(y:U16):Prop:=Sl n y.a/\Sl n y.b/\Sl n y.c/\Sl n y.f/\Sl n y.i
abbrev Ch (m n:Nat)(l:LV):Prop:=l.length<=m/\Rw w8 (En n) l
theorem Si {l:LV}(h:l.length<=1099511627776):An (λO=>i7 O l) λr=>r=l:=by refine m1c ?_;unfold i7 NE;exact m1f (by simp;omega) (l1q (by simp))
theorem e0y {l:LV}{t:LU}{a:U5}{m n:Nat}(h:Ch m n l)(D:m<=1099511627776):An (λO=>jT O l t a) (At w8 (λy=>y.a=t/\(⟨y.b,y.c⟩:U5)=a) l):=by
 refine m1c ?_;unfold jT NG;have B:=h.1;refine l1l (wh q0b (λx=>x.2.2.1=l/\x.1=t/\x.2.2.2=a/\0<=x.2.1/\x.2.1<=l.length) (λx=>(l.length-x.2.1).toNat) (Ex:=λr=>r=(0,[]) \/ ∃(i:Nat) (y:U16),r=(1,cY (i:Int))/\l[i]?=some (w8 y)/\y.a=t/\(⟨y.b,y.c⟩:U5)=a) ⟨rfl,rfl,rfl,by simp,by simp⟩ λx ⟨z,A,w,j,C⟩=>?_) λr u=>?_
 ·rw[z,A,w];refine l1v (λe=>m1b j (l1l (r13 h.2 (by omega)) λy ⟨s,o⟩=>m1a (λp=>m1b j (l1l (r13 h.2 (by omega)) λq ⟨v,f⟩=>m1a (λg=>l1m (.inr ⟨x.2.1.toNat,q,by rw[Int.toNat_of_nonneg j],f,?_,?_⟩)) λ_=>l1y ⟨rfl,rfl,rfl,?_,?_⟩ ?_)) λp=>l1y ⟨rfl,rfl,rfl,?_,?_⟩ ?_)) λe=>l1m (.inl rfl)
  ·rw[o]at f;have:y.a=q.a:=by injection f with f;simp only[w8,V.agg.injEq,List.cons.injEq,V.str.injEq]at f;exact f.1
   rw[<-this];simpa using p
  ·simp only[q0,Bool.and_true,Bool.and_eq_true,beq_iff_eq]at g;cases a;simp only at g;rw[g.1,g.2]
  all_goals simp only
  all_goals rw[bC (by omega)]
  all_goals omega
 ·rcases u with rfl|⟨i,y,rfl,o,s⟩;·exact l1r (l1q (.inl rfl))
  ·exact l1p (l1x (x:=(i:Int)) rfl (l1q (.inr ⟨i,y,rfl,o,s⟩)))
theorem Sj {l:LV}{m n:Nat}(h:Ch m n l)(s:m<=1099511627776)(B:n<=549755813888):An (λO=>i_ O l) λb=>b=true->l.length<=100:=by
 refine m1c ?_;unfold i_ NF;have A:=h.1;refine l1l (wh q0c (λx=>x.2=l/\0<=x.1/\x.1<=l.length) (λx=>(l.length-x.1).toNat) (Ex:=λr=>r=(0,fo l)\/r=(1,Bm (false,l))) ⟨rfl,by simp,by simp⟩ λx ⟨u,w,z⟩=>?_) λr j=>?_;·rw[u];refine l1v (λe=>m1b w (l1l (r13 h.2 (by omega)) λy ⟨⟨p,t,q,o,v⟩,C⟩=>l1l (mj (Sl.up (by omega) p)) λb _=>m1a (λ_=>l1m (.inr rfl)) λ_=>l1l (xH (a:=⟨y.b,y.c⟩) ⟨Sl.up (by omega) t,Sl.up (by omega) q⟩) λb _=>m1a (λ_=>l1m (.inr rfl)) λ_=>l1l (CP (x:=⟨y.d,y.e,y.f,y.g,y.h,y.i⟩) ⟨Sl.up (by omega) o,Sl.up (by omega) v⟩) λb _=>m1a (λ_=>l1m (.inr rfl)) λ_=>m1a (λ_=>l1m (.inr rfl)) λ_=>l1l (e0y h s) λk _=>m1a (λ_=>l1m (.inr rfl)) λ_=>l1y ⟨rfl,?_,?_⟩ ?_)) λe=>l1m (.inl rfl)<;>simp only<;>rw[bC (by omega)]<;>omega
 ·rcases j with rfl|rfl;·exact l1r (l1x (x:=l) rfl (l1q λe=>by rw[aJ]at e;have:=of_decide_eq_true e;omega))
  ·exact l1p (l1x (x:=(false,l)) rfl (l1q λe=>by cases e))
theorem Jt {l:LV}{m n:Nat}(h:Svs m n l)(w:m<=1000):An (λO=>dV O l) λr=>r=l:=by
 refine m1c ?_;unfold dV MQ;have u:=h.1;refine l1l (wh Bd (λx=>x.1=l/\x.2.1=l.take x.2.2.toNat/\0<=x.2.2/\x.2.2<=l.length) (λx=>(l.length-x.2.2).toNat) (Ex:=λr=>r=(0,fo l)) ⟨rfl,by simp,by simp,by simp⟩ λx ⟨s,t,f,v⟩=>?_) λr o=>?_
 ·rw[s,t];refine l1v (λe=>m1b f (l1l (r3 h.2 (by omega)) λy ⟨z,j⟩=>m1b f (l1l (r3 h.2 (by omega)) λq ⟨g,a⟩=>m1f (BZ (n:=0) (by have:=g.2.1;omega) (by omega)) (m1f (kp (by rw[List.length_take];omega) (by omega)) (l1y ⟨rfl,?_,?_,?_⟩ ?_))))) λe=>l1m (by rw[List.take_of_length_le (by omega)])
  ·have p:oW {y with b:=([]:LV)++q.b} = oW y:=by rw[j]at a;injection a with a;simp only[qC,V.agg.injEq,List.cons.injEq,V.sl.injEq]at a;simp only[oW,List.nil_append,a.2.1.2.2]
   simp only;rw[i0n f (by omega),take1 f j,p];rfl
  all_goals simp only
  all_goals rw[bC (by omega)]
  all_goals omega
 ·subst o;exact l1x (x:=l) rfl (l1q rfl)
theorem f0e {l:LV}{t:LU}{a:U5}{now:Int}{m n:Nat}(h:Ch m n l)(u:m<=1099511627776):cO (λO=>ja O l t a now) λx _=>Re n x:=by
 refine l1s ?_;unfold ja Nm kK Sy;have s:=h.1;refine l1l (wh q0g (λx=>x.2.2.2.1=l/\0<=x.2.2.1/\x.2.2.1<=l.length) (λx=>(l.length-x.2.2.1).toNat) (Ex:=λr=>(∃y,r=(0,Yi y)) \/ ∃y,r=(1,Yj (true,y))/\Re n y) ⟨rfl,by simp,by simp⟩ λx ⟨p,f,q⟩=>?_) λr o=>?_;·rw[p];refine l1v (λe=>m1k (l1y ⟨rfl,?_,?_⟩ ?_) λj g=>m1b f (l1l (r13 h.2 (by omega)) λ_ _=>m1a (λ_=>m1b f (l1l (r13 h.2 (by omega)) λ_ _=>m1a (λ_=>m1b f (l1l (r13 h.2 (by omega)) λ_ _=>m1a (λ_=>m1b f (l1l (r13 h.2 (by omega)) λy ⟨b,_⟩=>l1m (.inr ⟨_,rfl,b.2.2.2.1,b.2.2.2.2⟩))) λ_=>g)) λ_=>g)) λ_=>g)) λe=>l1m (.inl ⟨_,rfl⟩)<;>simp only<;>rw[bC (by omega)]<;>omega
 ·rcases o with⟨y,rfl⟩|⟨y,rfl,b⟩;·exact l1r (l1x (x:=y) rfl (l1j ⟨Nat.zero_le _,Nat.zero_le _⟩))
  ·exact l1p (l1x (x:=(true,y)) rfl (l1j b))
theorem IG {l:LV}{k:Nat}(h:l.length<=100000000000)(a:k<=200:=by decide):(([]:LV).length+l.length)*k<=140737488355328/\([]:LV).length+l.length<=140737488355328:=by have:=Nat.mul_le_mul h a;simp only[List.length_nil,Nat.zero_add];omega
theorem ui {a:LV}{v:V}{k:Nat}(h:a.length<=100000000000)(b:k<=200:=by decide):(a.length+[v].length)*k<=140737488355328/\a.length+[v].length<=140737488355328:=by have:=Nat.mul_le_mul (show a.length+1<=100000000001 by omega) b;simp only[List.length_cons,List.length_nil,Nat.zero_add];omega
theorem e0t {l:LV}{t:LU}{a:U5}{x:U2}{now:Int}{m n:Nat}(h:Ch m n l)(A:Sl n t)(u:Pr n a)(o:Re n x)(E:100<=m/\m<=1000000)(p:n<=549755813888):An (λO=>jK O l t a x now) (Ch m n):=by
 refine m1c ?_;unfold jK Mo;have F:=h.1;refine l1l (Si (by omega)) λl2 B=>?_;subst B;have s:En n ⟨t,a.a,a.b,x.a,x.b,x.c,x.d,x.e,x.f,wi (now+x.d)⟩:=⟨A,u.1,u.2,o.1,o.2⟩;have z:=Si (l:=l2) (by omega);refine m1k (m1j (Ch (m+1) n) (λH q=>l1l (Sj q (by omega) p) λb C=>m1a (λ_=>l1l z λr w=>l1q (w▸h)) λe=>l1q ⟨Nat.le_trans (C (by simpa using e)) E.1,q.2⟩) λj g=>l1l (e0y h (by omega)) λk v=>l1n (λe=>?_) λ_=>m1f (ui (by omega)) (g _ ⟨by simp;omega,h.2.app (Rw.one s)⟩)) λj g=>m1a (λ_=>l1q h) λ_=>l1l (iM _ _ _) λ_ _=>m1a (λ_=>l1q h) λ_=>l1l (CP ⟨by have:=o.1;omega,by have:=o.2;omega⟩) λ_ _=>m1a (λ_=>l1q h) λ_=>l1l (Sj h (by omega) p) λ_ _=>m1a (λ_=>l1q h) λ_=>g;rcases v with rfl|⟨i,y,rfl,D,_⟩;·exact absurd e (by decide)
 have J:=(bW D).1;exact l1z (by omega) (l1l (fF (λ_=>⟨t,a.a,a.b,x.a,x.b,x.c,x.d,x.e,x.f,wi (now+x.d)⟩) h.2 (by omega) (λ_ _=>s) λy=>⟨_,rfl,rfl⟩) λG ⟨I,k8,_⟩=>g _ ⟨by omega,k8⟩)
abbrev Nt (y:U19):Prop:=Svs 22 300000 y.a/\Ch 300 300000 y.b/\Ls 400 AQ tt y.c/\iP y.d
abbrev Rx (x:U2):Prop:=Re 300000 x
theorem zB {y:U19}(h:Nt y):An (λO=>bR O y) λr=>r=y:=by refine m1c ?_;unfold bR NV;have g:=h.2.1.1;have j:=h.2.2.1.1;refine l1l (Jt h.1 (by omega)) λa f=>l1l (Si (by omega)) λb e=>m1f (IG (by omega)) (l1q ?_);rw[f,e];rfl
theorem GS {y:U19}{t:LU}{a:U5}{x:U2}(h:Nt y)(j:Sl 300000 t)(f:Pr 300000 a)(b:Rx x):An (λO=>dM O y t a x) Nt:=by refine m1c ?_;unfold dM Nn;refine l1l (zB h) λz e=>?_;subst e;exact l1h (f0e h.2.1 (by omega)) λ_ _ _=>m1a (λ_=>l1l (CP ⟨by have:=b.1;omega,by have:=b.2;omega⟩) λ_ _=>m1a (λ_=>m1a (λ_=>l1l (e0t h.2.1 j f b (by omega) (by omega)) λl g=>l1q ⟨h.1,g,h.2.2⟩) λ_=>l1q h) λ_=>l1q h) λ_=>l1q h
theorem sH {y:U19}{t:LU}{a:U5}{g:Bool}(h:Nt y)(p:Sl 300000 t)(j:Pr 300000 a):cO (λO=>bL O y t a g) λz x=>Nt z/\Rx x:=by refine l1s ?_;unfold bL NK kK Sy;refine l1l (zB h) λz q=>?_;subst q;have r:=h.2.2.1.1;refine l1l (xH ⟨by have:=j.1;omega,by have:=j.2;omega⟩) λ_ _=>m1a (λ_=>l1j ⟨h,Nat.zero_le _,Nat.zero_le _⟩) λ_=>l1h (f0e h.2.1 (by omega)) λx _ f=>m1a (λ_=>l1j ⟨h,f⟩) λ_=>l1l (z0b h.1 (by omega)) λx f=>l1n (λe=>m1f (ui (by omega)) ?_) λ_=>m1a (λ_=>l1l (GS h p j f) λu m=>l1j ⟨m,f⟩) λ_=>l1j ⟨h,f⟩;rw[aJ]at e;have o:Nt {z with c:=z.c++[AQ ⟨t,a.a,a.b,g⟩]}:=⟨h.1,h.2.1,⟨by simp;omega,h.2.2.1.2.app (Rw.one trivial)⟩,h.2.2.2⟩;exact m1a (λ_=>l1l (GS o p j f) λu m=>l1j ⟨m,f⟩) λ_=>l1j ⟨o,f⟩
theorem a1b {l:LV}{m n:Nat}(h:Svs m n l)(b:m<=1099511627776)(f:n<=549755813888):An (λO=>qt O l) tt:=by
 refine m1c ?_;unfold qt Ny;have p:=h.1;refine l1l (wh h0t (λx=>x.1=l/\0<=x.2/\x.2<=l.length) (λx=>(l.length-x.2).toNat) (Ex:=λr=>r=(0,fo l)\/r=(1,D_ (l,false))) ⟨rfl,by simp,by simp⟩ λx ⟨j,a,q⟩=>?_) λr o=>?_;·rw[j];refine l1v (λe=>m1b a (l1l (r3 h.2 (by omega)) λy ⟨g,_⟩=>l1l (d1v g b f) λ_ _=>m1a (λ_=>l1m (.inr rfl)) λ_=>m1b a (l1l (r3 h.2 (by omega)) λy _=>l1l (z0e h b) λ_ _=>m1a (λ_=>l1m (.inr rfl)) λ_=>l1y ⟨rfl,?_,?_⟩ ?_))) λe=>l1m (.inl rfl)<;>simp only<;>rw[bC (by omega)]<;>omega
 ·rcases o with rfl|rfl;·exact l1r (l1x (x:=l) rfl (l1q trivial))
  ·exact l1p (l1x (x:=(l,false)) rfl (l1q trivial))
theorem f0d {y:U19}(h:Nt y):An (λO=>jY O y) tt:=by refine m1c ?_;unfold jY NX;exact l1l (a1b h.1 (by omega) (by omega)) λ_ _=>m1a (λ_=>l1l (Sj h.2.1 (by omega) (by omega)) λ_ _=>m1a (λ_=>m1a (λ_=>l1l (iM _ _ _) λ_ _=>l1q trivial) λ_=>l1q trivial) λ_=>l1q trivial) λ_=>l1q trivial
theorem z0q {y:U19}{n:Int}(h:Nt y):An (λO=>qS O y n) Nt:=by refine m1c ?_;unfold qS Mx;refine l1l (zB h) λz a=>?_;subst a;exact l1l (iM _ _ _) λ_ _=>m1a (λ_=>l1q h) λ_=>l1l (f0d h) λ_ _=>m1a (λ_=>l1q h) λ_=>l1l (iM _ _ _) λ_ _=>m1a (λ_=>l1q h) λ_=>l1q ⟨h.1,h.2.1,h.2.2.1,GW _⟩
end Go.Am
end
section
set_option maxRecDepth 10000
namespace Go.Am
open Go
theorem Re.up {n m:Nat}(h:n<=m){x:U2}(a:Re n x):Re m x:=⟨Sl.up h a.1,Sl.up h a.2⟩
theorem k1t {c:U0}(h:Cu c):cO (λO=>kz O c) λa y=>Pr 10 a/\Cu y:=by refine l1s ?_;unfold kz DL;exact l1h (L7 h) λa y ⟨b,h⟩=>l1h (kW 12 h) λn y ⟨_,h⟩=>m1a (λ_=>l1h (oM 10 h rfl (by simp)) λt y ⟨e,h⟩=>l1j ⟨⟨e,b.2⟩,h⟩) λ_=>m1a (λ_=>l1h (oM 10 h rfl (by simp)) λt y ⟨e,h⟩=>l1j ⟨⟨b.1,e⟩,h⟩) λ_=>l1j ⟨b,h⟩
theorem k1s {c:U0}(h:Cu c):cO (λO=>ky O c) λl y=>Ch 100 300000 l/\Cu y:=by
 refine l1s ?_;unfold ky DK;refine l1h (kW 6 h) λn y ⟨s,h⟩=>l1l (wh YR (λx=>(0<=x.1/\x.1<=6)/\Ch 100 300000 x.2.1/\Cu x.2.2) (λx=>x.1.toNat) (Ex:=λr=>∃l c,r=(0,Cd (l,c))/\Ch 100 300000 l/\Cu c) ⟨by simp only;omega,⟨by simp,Rw.nil⟩,h⟩ λx ⟨u,j,g⟩=>?_) λr ⟨l,c,b,f,o⟩=>?_;·refine l1n (λe=>l1h (b1c g) λt y ⟨q,h⟩=>l1h (L7 h) λa y ⟨p,h⟩=>l1h (kW 5 h) λn y ⟨_,h⟩=>l1h (L_ h) λr y ⟨⟨b,_⟩,h⟩=>l1h (kW 9 h) λm y ⟨_,h⟩=>l1l (e0t j (Sl.up (by omega) q) (Pr.up (by omega) p) (b.up (by omega)) (by omega) (by omega)) λl f=>l1y ⟨?_,f,h⟩ ?_) λ_=>l1m ⟨_,_,rfl,j,g⟩<;>simp only<;>rw[lU (by omega)]<;>omega
 ·subst b;exact l1x (x:=(l,c)) rfl (l1j ⟨f,o⟩)
theorem c0w (n m:Int):An (λ_=>strO [.int .u8 (IntKind.wrap .u8 n),.int .u8 (IntKind.wrap .u8 m)]) (Sl 2):=⟨[UInt8.ofNat (IntKind.wrap .u8 n).toNat,UInt8.ofNat (IntKind.wrap .u8 m).toNat],by simp,λO k=>rfl⟩
theorem e1b {c:U0}(h:Cu c):cO (λO=>eY O c) λl y=>Ch 300 300000 l/\Cu y:=by
 refine l1s ?_;unfold eY DB;refine l1h (k1s h) λl y ⟨b,h⟩=>l1h (kW 12 h) λn y ⟨_,h⟩=>m1a (λ_=>l1h (oM 10 h rfl (by simp)) λt y ⟨f,h⟩=>l1h (k1t h) λa y ⟨o,h⟩=>l1h (i0j h) λx y ⟨⟨j,_⟩,h⟩=>m1f (ui (by have:=b.1;omega)) (l1j ⟨⟨by have:=b.1;simp;omega,b.2.app (Rw.one ⟨Sl.up (by omega) f,Sl.up (by omega) o.1,Sl.up (by omega) o.2,Sl.up (by omega) j.1,Sl.up (by omega) j.2⟩)⟩,h⟩)) λ_=>m1a (λ_=>?_) λ_=>l1j ⟨⟨Nat.le_trans b.1 (by omega),b.2⟩,h⟩;refine l1l (wh YR (λx=>(0<=x.1/\x.1<=101)/\(x.2.1.length<=100+x.1/\Rw w8 (En 300000) x.2.1)/\Cu x.2.2) (λx=>(101-x.1).toNat) (Ex:=λr=>∃l c,r=(0,Cd (l,c))/\Ch 300 300000 l/\Cu c) ⟨by simp,⟨by have:=b.1;simp only;omega,b.2⟩,h⟩ λx ⟨s,g,m⟩=>?_) λr ⟨l,c,p,b,q⟩=>?_;·refine l1n (λe=>l1l (c0w _ _) λt f=>m1f (ui (by have:=g.1;omega)) (l1y ⟨?_,⟨?_,g.2.app (Rw.one ⟨by simp,by simp,Sl.up (by omega) f,Nat.zero_le _,Nat.zero_le _⟩)⟩,m⟩ ?_)) λ_=>l1m ⟨_,_,rfl,⟨by omega,g.2⟩,m⟩<;>simp only<;>rw[bC (by omega)]<;>(try simp only[List.length_append,List.length_cons,List.length_nil])<;>omega
 ·subst p;exact l1x (x:=(l,c)) rfl (l1j ⟨b,q⟩)
theorem z0p {c:U0}(h:Cu c):An (λO=>gQ O c) (Svs 21 300000):=by
 refine m1c ?_;unfold gQ xb;refine l1h (i0f h) λl y ⟨⟨p,v,F⟩,h⟩=>l1h (kW 12 h) λn y ⟨_,h⟩=>?_;have J:=p.1;have m:Svs 21 300000 l:=p.up (by omega) (by omega);refine m1a (λ_=>l1h (oM 10 h rfl (by simp)) λt y ⟨s,_⟩=>m1f (ui (by omega)) (l1q ⟨by simp;omega,m.2.app (Rw.one (w:=qC) ⟨Sl.up (by omega) s,Nat.zero_le _,Rw.nil⟩)⟩)) λ_=>m1a (λ_=>?_) λ_=>l1q m;cases l with
 |nil=>exact absurd rfl v
 |cons r l=>
  obtain⟨B,j,rfl⟩:=p.2 r (List.mem_cons_self ..);obtain⟨g,u,A⟩:=F _ (List.mem_cons_self ..);obtain rfl:g=B:=by obtain⟨a,b⟩:=B;obtain⟨L,K⟩:=g;simp only[qC,V.agg.injEq,List.cons.injEq,V.str.injEq,V.sl.injEq]at A;simp only[A.1,A.2.1.2.2]
  obtain⟨z,zs,G⟩:=List.exists_cons_of_ne_nil u;have H:An (λ_=>c1z (qC g :: l) 0 1) tt:=⟨g.b,trivial,λO k=>rfl⟩
  have D:An (λ_=>sx 7 0 1 (qC g :: l)) λq=>q=g.b:=⟨g.b,rfl,λO k=>by
   show sx 7 0 1 (qC g :: l) k=_
   unfold sx I_ qC
   rw[G]
   rfl⟩
  refine l1z (by simp) (l1l H λ_ _=>l1h (oM 10 h rfl (by simp)) λt y ⟨s,h⟩=>l1h (i0j h) λx y ⟨⟨C,_⟩,h⟩=>l1l D λq o=>m1f (ui (by have:=j.2.1;rw[o];omega)) (l1z (by simp[jC]) ?_));subst o;have I:An (λ_=>bU (jC 0 1 (qC g :: l)) 0 1 [.sl 7 true (g.b++[i0k ⟨t,x.a,x.b,x.c,x.d,x.e,x.f⟩])]) λq=>q=qC ⟨g.a,g.b++[i0k ⟨t,x.a,x.b,x.c,x.d,x.e,x.f⟩]⟩ :: l:=⟨_,rfl,λO k=>rfl⟩;refine l1l I λq o=>l1q ?_;subst o;exact⟨m.1,Rw.cons ⟨Sl.up (by omega) j.1,by have:=j.2.1;simp;omega,Rw.app (j.2.2.mono λf w=>⟨Sl.up (by omega) w.1,Sl.up (by omega) w.2.1,Sl.up (by omega) w.2.2⟩) (Rw.one (w:=wf) ⟨Sl.up (by omega) s,Sl.up (by omega) C.1,Sl.up (by omega) C.2⟩)⟩ λr E=>m.2 r (List.mem_cons_of_mem _ E)⟩
theorem e0v {c:U0}(h:Cu c):cO (λO=>fT O c) λl y=>Ls 5 wn tt l/\Cu y:=by
 refine l1s ?_;unfold fT xX;refine l1h (kW 5 h) λn y ⟨m,h⟩=>l1l (wh YU (λx=>(0<=x.2.1/\x.2.1<=5)/\(x.1.length+x.2.1<=5/\Rw wn tt x.1)/\Cu x.2.2) (λx=>x.2.1.toNat) (Ex:=λr=>∃l c,r=(0,Cd (l,c))/\Ls 5 wn tt l/\Cu c) ⟨by simp only;omega,⟨by simp;omega,Rw.nil⟩,h⟩ λx ⟨o,a,b⟩=>?_) λr ⟨l,c,f,j,g⟩=>?_;·refine l1n (λe=>l1h (kW 120 b) λn y ⟨_,h⟩=>m1f (ui (by have:=a.1;omega)) (l1y ⟨?_,⟨?_,a.2.app (Rw.one (w:=wn) trivial)⟩,h⟩ ?_)) λ_=>l1m ⟨_,_,rfl,⟨by omega,a.2⟩,b⟩<;>simp only<;>rw[lU (n:=x.2.1) (by omega)]<;>(try simp only[List.length_append,List.length_cons,List.length_nil])<;>omega
 ·subst f;exact l1x (x:=(l,c)) rfl (l1j ⟨j,g⟩)
theorem e0w {c:U0}{m:Int}(p:m<=1000)(h:Cu c):cO (λO=>fU O m c) λl y=>Ls 1000 wn tt l/\Cu y:=by
 refine l1s ?_;unfold fU xY;refine l1h (kW m h) λn y ⟨o,h⟩=>l1l (wh YU (λx=>(0<=x.2.1/\x.2.1<=1000)/\(x.1.length+x.2.1<=1000/\Rw wn tt x.1)/\Cu x.2.2) (λx=>x.2.1.toNat) (Ex:=λr=>∃l c,r=(0,Cd (l,c))/\Ls 1000 wn tt l/\Cu c) ⟨by simp only;omega,⟨by simp;omega,Rw.nil⟩,h⟩ λx ⟨q,a,b⟩=>?_) λr ⟨l,c,f,j,g⟩=>?_;·refine l1n (λe=>l1h (kW 7 b) λn y ⟨_,h⟩=>m1f (ui (by have:=a.1;omega)) (l1y ⟨?_,⟨?_,a.2.app (Rw.one (w:=wn) trivial)⟩,h⟩ ?_)) λ_=>l1m ⟨_,_,rfl,⟨by omega,a.2⟩,b⟩<;>simp only<;>rw[lU (n:=x.2.1) (by omega)]<;>(try simp only[List.length_append,List.length_cons,List.length_nil])<;>omega
 ·subst f;exact l1x (x:=(l,c)) rfl (l1j ⟨j,g⟩)
theorem Sh {c:U0}(h:Cu c):cO (λO=>cg O c) λa y=>Pr 10 a/\Cu y:=by refine l1s ?_;unfold cg xZ;exact l1h (oM 10 h rfl (by simp)) λt y ⟨b,h⟩=>l1j ⟨⟨by simp,b⟩,h⟩
theorem e0u {c:U0}(h:Cu c):cO (λO=>cz O c) λn y=>Nt n/\Cu y:=by
 refine l1s ?_;unfold cz xW;refine l1h (i0f h) λl y ⟨⟨q,_⟩,h⟩=>l1h (kW 20 h) λn y ⟨b,h⟩=>l1l (wh q0f (λx=>(x.1.length=2/\Rw V.str (Sl 10) x.1)/\x.2.1=2/\(0<=x.2.2.1/\x.2.2.1<=2)/\Svs (20+x.2.2.1.toNat) 300000 x.2.2.2.2.1/\iP x.2.2.2.2.2.1/\Cu x.2.2.2.2.2.2) (λx=>(2-x.2.2.1).toNat) (Ex:=λr=>∃z l n c,r=(0,Yh (z,l,n,c))/\Svs 22 300000 l/\iP n/\Cu c) ⟨⟨rfl,rS rfl⟩,rfl,by simp,q.up (by simp) (by omega),by simp only[iP];omega,h⟩ λx ⟨v,j,A,D,C,B⟩=>?_) λr ⟨z,l,n,c,w,q,b,o⟩=>?_;·refine l1n (λe=>l1z (by omega) (l1l (a0 v.2 (by omega)) λt ⟨H,_⟩=>l1h (d1q B) λs y ⟨hs,h⟩=>l1h (RW h) λp y ⟨I,h⟩=>l1l (Jg (I.po.mono (by omega) (by omega))) λf G=>l1h (Fm (P:=tt) h (rN rfl) (by simp)) λg y ⟨_,h⟩=>l1h (d0m (n:=300000) (x:=⟨200,1,s,g,false,f⟩) D ⟨by simp,Nat.le_trans H (by omega)⟩ ⟨Nat.le_trans hs (by omega),Nat.le_trans G.1 (by omega)⟩ (by omega) (by omega)) λJ _ u=>l1y ⟨v,j,?_,u.1.up ?_ (by omega),C,h⟩ ?_)) λ_=>l1m ⟨_,_,_,_,rfl,D.up (by omega) (by omega),C,B⟩<;>simp only<;>rw[bC (by omega)]<;>omega
 ·subst w;refine l1x (x:=(z,l,n,c)) rfl (l1h (kW 3 o) λm y ⟨K,h⟩=>l1l (wh YT (λx=>(0<=x.1/\x.1<=3)/\Nt x.2.2.1/\Cu x.2.2.2) (λx=>x.1.toNat) (Ex:=λr=>∃z n c,r=(0,uE (z,n,c))/\Nt n/\Cu c) ⟨by simp only;omega,⟨q,⟨by simp,Rw.nil⟩,Ls.nil,b⟩,h⟩ λx ⟨v,j,A⟩=>?_) λr ⟨z,n,c,w,b,o⟩=>?_);·refine l1n (λe=>l1h (L7 A) λa y ⟨F,h⟩=>l1h (sH j (by decide) (Pr.up (by omega) F)) λz x ⟨E,_⟩=>l1y ⟨?_,E,h⟩ ?_) λ_=>l1m ⟨_,_,_,rfl,j,A⟩<;>simp only<;>rw[lU (by omega)]<;>omega
  ·subst w;exact l1x (x:=(z,n,c)) rfl (l1j ⟨b,o⟩)
theorem z0o {c:U0}(h:Cu c):cO (λO=>gP O c) λn y=>Nt n/\Cu y:=by
 refine l1s ?_;unfold gP xa;refine l1h (i0f h) λl y ⟨⟨s,_⟩,h⟩=>l1h (kW 20 h) λn y ⟨g,h⟩=>l1h (kW 4 h) λm y ⟨w,h⟩=>l1l (wh YT (λx=>(0<=x.1/\x.1<=4)/\Nt x.2.2.1/\Cu x.2.2.2) (λx=>x.1.toNat) (Ex:=λr=>∃z n c,r=(0,uE (z,n,c))/\Nt n/\Cu c) ⟨by simp only;omega,⟨s.up (by omega) (by omega),⟨by simp,Rw.nil⟩,Ls.nil,by simp only[iP];omega⟩,h⟩ λx ⟨A,j,f⟩=>?_) λr ⟨z,n,c,o,g,q⟩=>?_;·refine l1n (λe=>l1h (oM 10 f rfl (by simp)) λt y ⟨v,h⟩=>l1h (L7 h) λa y ⟨u,h⟩=>l1h (xI 3 h) λb y h=>l1h (sH j (Sl.up (by omega) v) (Pr.up (by omega) u)) λz x ⟨p,_⟩=>l1y ⟨?_,p,h⟩ ?_) λ_=>l1m ⟨_,_,_,rfl,j,f⟩<;>simp only<;>rw[lU (by omega)]<;>omega
 ·subst o;exact l1x (x:=(z,n,c)) rfl (l1j ⟨g,q⟩)
theorem k1v {c:U0}(h:Cu c):An (λO=>lC O c) Nt:=by
 refine m1c ?_;unfold lC DO;refine l1h (z0o h) λn y ⟨b,h⟩=>l1h (kW 14 h) λm y ⟨q,h⟩=>m1a (λ_=>l1l (z0p h) λl g=>l1q ⟨g.up (by omega) (by omega),b.2⟩) λ_=>m1a (λ_=>l1h (e1b h) λl y ⟨g,_⟩=>l1q ⟨b.1,g,b.2.2⟩) λ_=>m1a (λ_=>l1h (Fm (P:=iP) h (by repeat first|exact Rw.nil|refine Rw.cons (w:=wn) (by decide) ?_) (by simp)) λk y ⟨o,_⟩=>l1q ⟨b.1,b.2.1,b.2.2.1,o⟩) λ_=>m1a (λ_=>?_) λ_=>l1q b;refine l1l (wh q0h (λx=>Nt x.2.1/\Cu x.2.2) (λx=>400-x.2.1.c.length) (Ex:=λr=>∃z n c,r=(0,uE (z,n,c))/\Nt n) ⟨b,h⟩ λx ⟨f,p⟩=>?_) λr ⟨z,n,c,j,b⟩=>?_;·refine l1n (λe=>?_) λ_=>l1m ⟨_,_,_,rfl,f⟩;rw[aJ]at e;refine l1h (L7 p) λa y ⟨s,h⟩=>m1f (ui (by omega)) (l1y ⟨⟨f.1,f.2.1,⟨?_,f.2.2.1.2.app (Rw.one trivial)⟩,f.2.2.2⟩,h⟩ ?_)<;>simp only[List.length_append,List.length_cons,List.length_nil]<;>omega
 ·subst j;exact l1x (x:=(z,n,c)) rfl (l1q b)
end Go.Am
end
section
set_option maxRecDepth 10000
namespace Go.Am
open Go
variable {T:Nat}
theorem r16 {P:U24->Prop}{l:LV}(h:Rw tJ P l){i:Nat}(m:i<l.length):An (λ_=>wL l i) λy=>P y/\l[i]?=some (tJ y):=h.ix (f:=wL) (λ_ l i y k h=>by unfold wL;exact dA (ks:=[.str,.str,.int .i64,.bool,.int .i64,.int .i64,.str,.int .i64,.bool,.str]) (e:=(y.a,y.b,y.c,y.d,y.e,y.f,y.g,y.h,y.i,y.j,())) h rfl) m
theorem a7 {P:U24->Prop}{l:LV}(h:Rw tJ P l){i:Nat}(m:i<l.length):An (λ_=>Y0 l i 0) λy=>P y/\l[i]?=some (tJ y):=h.ix (f:=λl i=>Y0 l i 0) (λ_ l i y k h=>by show Y0 l i 0 k=_;unfold Y0;exact d8 (ks:=[.str,.str,.int .i64,.bool,.int .i64,.int .i64,.str,.int .i64,.bool,.str]) (e:=(y.a,y.b,y.c,y.d,y.e,y.f,y.g,y.h,y.i,y.j,())) h rfl) m
theorem r17 {P:U13->Prop}{l:LV}(h:Rw w7 P l){i:Nat}(g:i<l.length):An (λ_=>yO l i) λy=>P y/\l[i]?=some (w7 y):=h.ix (f:=yO) (λ_ l i y k h=>by unfold yO;exact dA (ks:=[.int .i64,.str,.str,.str,.str]) (e:=(y.a,y.b,y.c,y.d,y.e,())) h rfl) g
theorem a6 {P:U13->Prop}{l:LV}(h:Rw w7 P l){i:Nat}(g:i<l.length):An (λ_=>S8 l i 0) λy=>P y/\l[i]?=some (w7 y):=h.ix (f:=λl i=>S8 l i 0) (λ_ l i y k h=>by show S8 l i 0 k=_;unfold S8;exact d8 (ks:=[.int .i64,.str,.str,.str,.str]) (e:=(y.a,y.b,y.c,y.d,y.e,())) h rfl) g
theorem r18 {P:U25->Prop}{l:LV}(h:Rw AR P l){i:Nat}(j:i<l.length):An (λ_=>B3 l i) λy=>P y/\l[i]?=some (AR y):=h.ix (f:=B3) (λ_ l i y k h=>by unfold B3;exact dA (ks:=[.str,.str,.int .i64,.int .i64,.str,.int .i64,.bool,.str,.bool]) (e:=(y.a,y.b,y.c,y.d,y.e,y.f,y.g,y.h,y.i,())) h rfl) j
abbrev Cx (y:U24):Prop:=Ad ⟨y.a,y.b⟩/\Rx ⟨y.e,y.f,y.g,y.h,y.i,y.j⟩
abbrev Gs (y:U25):Prop:=Rx ⟨y.c,y.d,y.e,y.f,y.g,y.h⟩
abbrev Pl (l:LV)(k:Int):Prop:=k = -1\/0<=k/\k<l.length
theorem a1m {l:LV}(h:Ls 3 tJ Cx l):An (λO=>rM O l) (Ls 3 w2 tt):=by
 refine m1c ?_;unfold rM OP;have p:=h.1;refine l1l (wh Bd (λx=>x.1=l/\(0<=x.2.2/\x.2.2<=l.length)/\x.2.1.length<=x.2.2/\Rw w2 tt x.2.1) (λx=>(l.length-x.2.2).toNat) (Ex:=λr=>∃m,r=(0,fo m)/\Ls 3 w2 tt m) ⟨rfl,by simp,by simp,Rw.nil⟩ λx ⟨g,j,o,a⟩=>?_) λr ⟨m,b,f⟩=>?_;·rw[g];refine l1v (λe=>m1b j.1 (l1l (r16 h.2 (by omega)) λy _=>m1f (ui (by omega)) (l1y ⟨rfl,?_,?_,a.app (Rw.one trivial)⟩ ?_))) λe=>l1m ⟨_,rfl,by omega,a⟩<;>simp only<;>rw[bC (by omega)]<;>(try simp only[List.length_append,List.length_cons,List.length_nil])<;>omega
 ·subst b;exact l1x (x:=m) rfl (l1q f)
theorem a1l {l d:LV}{n m:Nat}(h:Ls n w7 (Rq m) l)(g:Ls 3 w2 tt d)(v:n<=100000000000):An (λO=>rL O l d) (Ls n w7 (Rq m)):=by
 refine m1c ?_;unfold rL OO;have t:=h.1;refine l1l (wh Xz (λx=>x.1=l/\x.2.1=d/\(0<=x.2.2.2/\x.2.2.2<=l.length)/\x.2.2.1.length<=x.2.2.2/\Rw w7 (Rq m) x.2.2.1) (λx=>(l.length-x.2.2.2).toNat) (Ex:=λr=>∃q,r=(0,fo q)/\Ls n w7 (Rq m) q) ⟨rfl,rfl,by simp,by simp,Rw.nil⟩ λx ⟨p,s,b,u,a⟩=>?_) λr ⟨q,f,j⟩=>?_;·rw[p,s];refine l1v (λe=>m1b b.1 (l1l (r17 h.2 (by omega)) λy _=>l1l (Jl g (by omega)) λ_ _=>m1a (λ_=>m1b b.1 (l1l (r17 h.2 (by omega)) λy ⟨o,_⟩=>m1f (ui (by omega)) (l1y ⟨rfl,rfl,?_,?_,a.app (Rw.one o)⟩ ?_))) λ_=>l1y ⟨rfl,rfl,?_,?_,a⟩ ?_)) λe=>l1m ⟨_,rfl,by omega,a⟩<;>simp only<;>rw[bC (by omega)]<;>(try simp only[List.length_append,List.length_cons,List.length_nil])<;>omega
 ·subst f;exact l1x (x:=q) rfl (l1q j)
theorem b1a {p:U8}{n:Nat}(h:Ls n w5 (Sr n) p.m)(j:n<=1099511627776):cO (λO=>rc O p) λ_ _=>True:=by refine l1s ?_;unfold rc Og;have g:=h.1;refine l1l (iM _ _ _) λb a=>m1a (λ_=>l1j trivial) λe=>?_;rw[a,aJ]at e;simp at e;have f:wi (p.p-1)=p.p-1:=lU (by omega);exact m1b (by omega) (l1l (r8 h.2 (by omega)) λ_ _=>l1j trivial)
theorem f0m {p:U8}{r:U13}{n:Nat}(h:Ls n w5 (Sr n) p.m)(b:n<=1099511627776):An (λO=>ou O p r) tt:=by refine m1c ?_;unfold ou Oa;exact m1k (m1a (λ_=>l1q trivial) λ_=>m1a (λ_=>l1q trivial) λ_=>m1a (λ_=>l1q trivial) λ_=>m1a (λ_=>l1q trivial) λ_=>l1q trivial) λj a=>l1h (b1a h b) λ_ _ _=>m1a (λ_=>m1a (λ_=>l1q trivial) λ_=>a) λ_=>a
theorem a1n {p:U8}{l:LV}{n m k:Nat}(h:Ls n w5 (Sr n) p.m)(a:Ls k w7 (Rq m) l)(b:n<=1099511627776)(v:k<=1099511627776):An (λO=>rO O p l) (Pl l):=by
 refine m1c ?_;unfold rO OQ;have g:=a.1;refine l1l (wh X0 (λx=>x.1=l/\x.2.2.2=p/\(0<=x.2.2.1/\x.2.2.1<=l.length)/\(-1<=x.2.1/\x.2.1<x.2.2.1\/x.2.1 = -1)) (λx=>(l.length-x.2.2.1).toNat) (Ex:=λr=>∃q,r=(0,cY q)/\Pl l q) ⟨rfl,rfl,by simp,by simp⟩ λx ⟨s,t,j,w⟩=>?_) λr ⟨q,f,o⟩=>?_
 ·rw[s,t];refine l1v (λe=>l1n (λ_=>l1y ⟨rfl,rfl,?_,?_⟩ ?_) λu=>m1b j.1 (l1l (r17 a.2 (by omega)) λ_ _=>m1b (by omega) (l1l (r17 a.2 (by omega)) λ_ _=>l1l (f0m h b) λ_ _=>l1l (f0m h b) λ_ _=>m1a (λ_=>l1y ⟨rfl,rfl,?_,?_⟩ ?_) λ_=>l1y ⟨rfl,rfl,?_,?_⟩ ?_))) λe=>l1m ⟨_,rfl,?_⟩
  all_goals (try simp only)
  all_goals (try rw[bC (by omega)])
  all_goals ((try unfold Pl);omega)
 ·subst f;exact l1x (x:=q) rfl (l1q o)
theorem Sm {l:LV}{a:U5}{n:Nat}(h:Ls n AR Gs l)(p:n<=1099511627776):An (λO=>fK O l a) (Pl l):=by
 refine m1c ?_;unfold fK OW;have o:=h.1;refine l1l (wh P0 (λx=>x.1=l/\0<=x.2.1/\x.2.1<=l.length) (λx=>(l.length-x.2.1).toNat) (Ex:=λr=>r=(0,[]) \/ ∃q,r=(1,cY q)/\Pl l q) ⟨rfl,by simp,by simp⟩ λx ⟨j,b,m⟩=>?_) λr f=>?_;·rw[j];refine l1v (λe=>m1b b (l1l (r18 h.2 (by omega)) λ_ _=>m1a (λ_=>l1m (.inr ⟨_,rfl,.inr ⟨b,e⟩⟩)) λ_=>l1y ⟨rfl,?_,?_⟩ ?_)) λe=>l1m (.inl rfl)<;>simp only<;>rw[bC (by omega)]<;>omega
 ·rcases f with rfl|⟨q,rfl,g⟩;·exact l1r (l1q (.inl rfl))
  ·exact l1p (l1x (x:=q) rfl (l1q g))
theorem f0l {l:LV}{a:U5}(h:Ls 3 tJ Cx l):An (λO=>jf O l a) (Pl l):=by
 refine m1c ?_;unfold jf OX;have o:=h.1;refine l1l (wh P0 (λx=>x.1=l/\0<=x.2.1/\x.2.1<=l.length) (λx=>(l.length-x.2.1).toNat) (Ex:=λr=>r=(0,[]) \/ ∃q,r=(1,cY q)/\Pl l q) ⟨rfl,by simp,by simp⟩ λx ⟨j,b,m⟩=>?_) λr f=>?_;·rw[j];refine l1v (λe=>m1b b (l1l (r16 h.2 (by omega)) λ_ _=>m1a (λ_=>l1m (.inr ⟨_,rfl,.inr ⟨b,e⟩⟩)) λ_=>l1y ⟨rfl,?_,?_⟩ ?_)) λe=>l1m (.inl rfl)<;>simp only<;>rw[bC (by omega)]<;>omega
 ·rcases f with rfl|⟨q,rfl,g⟩;·exact l1r (l1q (.inl rfl))
  ·exact l1p (l1x (x:=q) rfl (l1q g))
theorem a1o {l:LV}{a:U5}{n:Nat}(h:Ls n AR Gs l)(p:n<=100000000000):AS (λO=>rP O l a) λf x _=>(f.length=l.length/\Rw AR Gs f)/\Rx x:=by
 refine l1w ?_;unfold rP OR kK Sy;have o:=h.1;rw[List.nil_append];refine m1f (IG (by omega)) (l1l (Sm h (by omega)) λk b=>l1n (λ_=>l1k ⟨⟨rfl,h.2⟩,Nat.zero_le _,Nat.zero_le _⟩) λe=>?_);rcases b with rfl|b;·exact absurd (by decide) e
 exact l1z (by omega) (l1l (fF (λz=>{z with i:=true}) h.2 (by omega) (λ_ q=>q) λz=>⟨_,rfl,rfl⟩) λf ⟨j,m,_⟩=>m1b b.1 (l1l (r18 h.2 (by omega)) λy ⟨g,_⟩=>l1k ⟨⟨j,m⟩,g⟩))
theorem f0k {l:LV}{n:Nat}(h:Ls n AR Gs l)(m:n<=1099511627776):An (λO=>je O l) tt:=by
 refine m1c ?_;unfold je OT;have j:=h.1;refine l1l (wh h0u (λx=>x.1=l/\0<=x.2.2/\x.2.2<=l.length) (λx=>(l.length-x.2.2).toNat) (Ex:=λr=>∃q,r=(0,cY q)) ⟨rfl,by simp,by simp⟩ λx ⟨b,f,g⟩=>?_) λr ⟨q,a⟩=>?_;·rw[b];refine l1v (λe=>m1b f (l1l (r18 h.2 (by omega)) λ_ _=>m1a (λ_=>l1y ⟨rfl,?_,?_⟩ ?_) λ_=>l1y ⟨rfl,?_,?_⟩ ?_)) λe=>l1m ⟨_,rfl⟩<;>simp only<;>rw[bC (n:=x.2.2) (by omega)]<;>omega
 ·subst a;exact l1x (x:=q) rfl (l1q trivial)
theorem a1p {l:LV}(h:Ls 3 tJ Cx l):An (λO=>rQ O l) tt:=by
 refine m1c ?_;unfold rQ OU;have j:=h.1;refine l1l (wh h0u (λx=>x.1=l/\0<=x.2.2/\x.2.2<=l.length) (λx=>(l.length-x.2.2).toNat) (Ex:=λr=>∃q,r=(0,cY q)) ⟨rfl,by simp,by simp⟩ λx ⟨b,f,g⟩=>?_) λr ⟨q,a⟩=>?_;·rw[b];refine l1v (λe=>m1b f (l1l (r16 h.2 (by omega)) λ_ _=>m1a (λ_=>l1y ⟨rfl,?_,?_⟩ ?_) λ_=>l1y ⟨rfl,?_,?_⟩ ?_)) λe=>l1m ⟨_,rfl⟩<;>simp only<;>rw[bC (n:=x.2.2) (by omega)]<;>omega
 ·subst a;exact l1x (x:=q) rfl (l1q trivial)
theorem f0j {l:LV}{a:U5}{x:U2}{g:Bool}(h:Ls 3 tJ Cx l)(m:Ad a)(j:Rx x):cO (λO=>jd O l a x g) λf _=>f.length<=l.length+1/\Ls 3 tJ Cx f:=by refine l1s ?_;unfold jd OS tO Ob;have o:=h.1;rw[List.nil_append];have b:l.length<=l.length+1/\Ls 3 tJ Cx l:=⟨by omega,h⟩;refine m1f (IG (by omega)) (m1e (l1n (λ_=>l1j b) λe=>l1l (f0l h) λ_ _=>m1a (λ_=>l1j b) λ_=>m1f (ui (by omega)) (l1j ⟨by simp,?_,h.2.app (Rw.one ⟨m,j⟩)⟩)));rw[aJ]at e;simp;omega
theorem a1z {l:LV}{a:U5}{x:U2}{n:Nat}(h:Ls n AR Gs l)(f:Rx x)(j:n<=100000000000):cO (λO=>rZ O l a x) λe _=>e.length<=l.length+1/\Rw AR Gs e:=by refine l1s ?_;unfold rZ Of;have g:=h.1;rw[List.nil_append];have b:l.length<=l.length+1/\Rw AR Gs l:=⟨by omega,h.2⟩;exact m1f (IG (by omega)) (m1e (l1l (Sm h (by omega)) λ_ _=>m1a (λ_=>l1j b) λ_=>l1l (f0k h (by omega)) λ_ _=>m1a (λ_=>l1j b) λ_=>m1f (ui (by omega)) (l1j ⟨by simp,h.2.app (Rw.one (w:=AR) (y:=⟨_,_,_,_,_,_,_,_,_⟩) f)⟩)))
theorem b1b {t:U9}{b:LU}{m:Nat}(h:Tk m t)(o:Sl 1000 b)(q:1000<=m/\m<=1099511627776):cO (λO=>re O t b) λr _=>Rq m r:=by refine l1s ?_;unfold re Oh;have z:Rq m ⟨0,[],[],[],[]⟩:=⟨by simp,by simp,by simp,by simp⟩;have p:∀s,cO (λO=>cH O t.c s) λt _=>Sl m t:=λs=>Jn h.2.1 (by omega);exact m1h (λ_ y=>y.d=b/\y.e=[]) (λs y ⟨w,x⟩=>l1h (p _) λu _ B=>l1h (Fl B (Sl.up q.1 o) q.2) λa _ f=>m1a (λ_=>l1j z) λ_=>m1a (λ_=>l1h (p _) λv _ A=>l1j ⟨Sl.up (by omega) f.1,Sl.up (by omega) f.2,by simp only[w];exact o,A⟩) λ_=>l1j ⟨Sl.up (by omega) f.1,Sl.up (by omega) f.2,by simp only[w];exact o,by simp[x]⟩) λj g=>m1a (λ_=>l1j z) λ_=>m1a (λ_=>l1h (p _) λ_ _ _=>m1a (λ_=>g _ _ ⟨rfl,rfl⟩) λ_=>g _ _ ⟨rfl,rfl⟩) λ_=>m1a (λ_=>g _ _ ⟨rfl,rfl⟩) λ_=>m1a (λ_=>g _ _ ⟨rfl,rfl⟩) λ_=>l1j z
theorem a1v {l:LV}{b:LU}{n m:Nat}(h:Ls n w1 (Tk m) l)(j:Sl 1000 b)(z:n<=100000000000)(p:1000<=m/\m<=1099511627776):An (λO=>rW O l b) (Ls n w7 (Rq m)):=by
 refine m1c ?_;unfold rW Oc;have v:=h.1;refine l1l (wh X3 (λx=>x.1=l/\x.2.1=b/\(0<=x.2.2.2/\x.2.2.2<=l.length)/\x.2.2.1.length<=x.2.2.2/\Rw w7 (Rq m) x.2.2.1) (λx=>(l.length-x.2.2.2).toNat) (Ex:=λr=>∃q,r=(0,fo q)/\Ls n w7 (Rq m) q) ⟨rfl,rfl,by simp,by simp,Rw.nil⟩ λx ⟨t,u,g,w,f⟩=>?_) λr ⟨q,a,o⟩=>?_;·rw[t,u];refine l1v (λe=>m1b g.1 (l1l (r5 h.2 (by omega)) λy ⟨s,_⟩=>l1h (b1b s j p) λr _ a=>m1a (λ_=>m1f (ui (by omega)) (l1y ⟨rfl,rfl,?_,?_,f.app (Rw.one a)⟩ ?_)) λ_=>l1y ⟨rfl,rfl,?_,?_,f⟩ ?_)) λe=>l1m ⟨_,rfl,by omega,f⟩<;>simp only<;>rw[bC (by omega)]<;>(try simp only[List.length_append,List.length_cons,List.length_nil])<;>omega
 ·subst a;exact l1x (x:=q) rfl (l1q o)
theorem a1w {r:U13}{n:Nat}(h:Rq n r)(a:n<=1099511627776):An (λO=>rX O r) tt:=by refine m1c ?_;unfold rX Od;exact l1l (d0j h a) λ_ _=>m1a (λ_=>m1a (λ_=>l1q trivial) λ_=>l1q trivial) λ_=>l1q trivial
theorem a1x {p:U8}{a:U5}{n m:Nat}(h:Pg T n m p)(q:n<=100000000000/\m<=100000000000):An (λO=>rY O p a) tt:=by
 refine m1c ?_;unfold rY Oe;have j:=h.sl.1;refine l1l (wh YP (λx=>x.2.1=p/\0<=x.1/\x.1<=p.m.length) (λx=>(p.m.length-x.1).toNat) (Ex:=λr=>(∃a,r=(0,K9 (p,a))) \/ ∃z,r=(1,K_ z)) ⟨rfl,by simp,by simp⟩ λx ⟨f,g,o⟩=>?_) λr b=>?_;·rw[f];refine l1v (λe=>m1b g (l1l (r8 h.sl.2 (by omega)) λ_ _=>m1a (λ_=>l1m (.inr ⟨_,rfl⟩)) λ_=>l1y ⟨rfl,?_,?_⟩ ?_)) λe=>l1m (.inl ⟨_,rfl⟩)<;>simp only<;>rw[bC (by omega)]<;>omega
 ·rcases b with⟨a,rfl⟩|⟨z,rfl⟩;·exact l1r (l1x (x:=(p,a)) rfl (l1l (Fj h.mo (by omega)) λ_ _=>l1q trivial))
  ·exact l1p (l1x (x:=z) rfl (l1q trivial))
theorem a1q {p:U8}{n m:Nat}(h:Pg T n m p)(t:1000<=m)(s:n<=100000000000/\m<=100000000000):An (λO=>rR O p) (Ls m w2 Ad):=by
 refine m1c ?_;unfold rR OV;refine l1l (a1v h.qu h.ad.1 (by omega) ⟨t,by omega⟩) λl g=>?_;have j:=g.1;refine l1l (wh P1 (λx=>x.2.1=l/\(0<=x.2.2.1/\x.2.2.1<=l.length)/\x.2.2.2=p/\x.1.length<=x.2.2.1/\Rw w2 Ad x.1) (λx=>(l.length-x.2.2.1).toNat) (Ex:=λr=>∃q,r=(0,fo q)/\Ls m w2 Ad q) ⟨rfl,by simp,rfl,by simp,Rw.nil⟩ λx ⟨w,z,o,y,b⟩=>?_) λr ⟨q,f,v⟩=>?_;·rw[w,o];refine l1v (λe=>l1z (by omega) (l1l (H5 g.2 (by omega)) λa u=>l1z (by omega) (l1l (a6 g.2 (by omega)) λr ⟨f,_⟩=>l1l (a1w f (by omega)) λ_ _=>m1a (λ_=>l1z (by omega) (l1l (a6 g.2 (by omega)) λr ⟨f,_⟩=>l1l (Jm h.po f (by omega) (by omega)) λ_ _=>m1a (λ_=>l1l (a1x h s) λ_ _=>m1a (λ_=>l1l (Jl (n:=m) (P:=Ad) ⟨by omega,b⟩ (by omega)) λ_ _=>m1a (λ_=>m1f (ui (by omega)) (l1y ⟨rfl,?_,rfl,?_,b.app (Rw.one u)⟩ ?_)) λ_=>l1y ⟨rfl,?_,rfl,?_,b⟩ ?_) λ_=>l1y ⟨rfl,?_,rfl,?_,b⟩ ?_) λ_=>l1y ⟨rfl,?_,rfl,?_,b⟩ ?_)) λ_=>l1y ⟨rfl,?_,rfl,?_,b⟩ ?_))) λe=>l1m ⟨_,rfl,by omega,b⟩<;>simp only<;>rw[bC (by omega)]<;>(try simp only[List.length_append,List.length_cons,List.length_nil])<;>omega
 ·subst f;exact l1x (x:=q) rfl (l1q v)
theorem a1r {l:LV}{n:Int}(h:Ls 3 tJ Cx l):An (λO=>rT O l n) λa=>a.length=l.length/\Ls 3 tJ Cx a:=by
 refine m1c ?_;unfold rT OY;have s:=h.1;rw[List.nil_append];refine m1f (IG (by omega)) (l1l (wh X6 (λx=>x.1=l/\(0<=x.2.2.2/\x.2.2.2<=l.length)/\x.2.2.1.length=l.length/\Rw tJ Cx x.2.2.1) (λx=>(l.length-x.2.2.2).toNat) (Ex:=λr=>∃q,r=(0,fo q)/\q.length=l.length/\Rw tJ Cx q) ⟨rfl,by simp,rfl,h.2⟩ λx ⟨m,p,f,b⟩=>?_) λr ⟨q,j,g⟩=>?_);·rw[m];refine m1e (l1v (λe=>l1l (iM _ _ _) λ_ _=>m1a (λ_=>m1b p.1 (l1l (r16 h.2 (by omega)) λ_ _=>l1l (z0c _ _) λk _=>l1z (by omega) (l1l (fF (λz=>{z with c:=k}) b (by omega) (λ_ q=>q) λz=>⟨_,rfl,rfl⟩) λa ⟨t,o,_⟩=>l1y ⟨rfl,?_,?_,o⟩ ?_))) λ_=>l1m ⟨_,rfl,f,b⟩) λ_=>l1m ⟨_,rfl,f,b⟩)<;>simp only<;>(try rw[bC (by omega)])<;>omega
 ·subst j;exact l1x (x:=q) rfl (l1q ⟨g.1,by omega,g.2⟩)
theorem a1s {l:LV}(h:Ls 3 tJ Cx l):An (λO=>rV O l) (Pl l):=by
 refine m1c ?_;unfold rV OZ;have m:=h.1;refine l1l (wh h0t (λx=>x.1=l/\0<=x.2/\x.2<=l.length) (λx=>(l.length-x.2).toNat) (Ex:=λr=>r=(0,[]) \/ ∃q,r=(1,cY q)/\Pl l q) ⟨rfl,by simp,by simp⟩ λx ⟨g,a,j⟩=>?_) λr b=>?_;·rw[g];refine l1v (λe=>m1b a (l1l (r16 h.2 (by omega)) λ_ _=>m1a (λ_=>l1m (.inr ⟨_,rfl,.inr ⟨a,e⟩⟩)) λ_=>l1y ⟨rfl,?_,?_⟩ ?_)) λe=>l1m (.inl rfl)<;>simp only<;>rw[bC (by omega)]<;>omega
 ·rcases b with rfl|⟨q,rfl,f⟩;·exact l1r (l1q (.inl rfl))
  ·exact l1p (l1x (x:=q) rfl (l1q f))
theorem a1y {l:LV}{i:Int}(h:Ls 3 tJ Cx l)(f:0<=i/\i<l.length):An (λO=>tP O l i) λa=>a.length+1=l.length/\Ls 3 tJ Cx a:=by
 have g:=h.1;refine⟨o_ l i,?_,λO k=>?_⟩;·unfold o_;rw[if_pos f];have e:(l.eraseIdx i.toNat).length=l.length-1:=List.length_eraseIdx_of_lt (by omega);exact⟨by omega,by omega,λr b=>h.2 r (List.mem_of_mem_eraseIdx b)⟩
 ·show chk _ _=_;unfold chk;rw[if_pos (by omega)]
end Go.Am
end
section
set_option maxRecDepth 10000
namespace Go.Am
open Go
abbrev d1e (l:U23):U19:=⟨l.a,l.b,l.c,l.d⟩
abbrev d1g (l:U23):U8:=⟨l.e,l.f,l.g,l.h,l.i,l.j,l.k,l.l,l.m,l.n,l.o,l.p,l.q,l.r,l.s,l.t,l.u,l.v,l.w,l.x,l.y,l.z⟩
def Bn (i c n k:Nat):Prop:=1000000<=k/\n+20000*c<=20000*i/\k+810400*c<=1000000+1300000*i
section
variable {i c n k:Nat}
theorem Bn.le (h:Bn i c n k)(a:i<=1200):n<=24000000/\k<=2000000000/\10000<=k:=by obtain⟨b,f,e⟩:=h;exact⟨Nat.le_trans (Nat.le_add_right _ _) (Nat.le_trans f (Nat.mul_le_mul_left 20000 a)),Nat.le_trans (Nat.le_add_right _ _) (Nat.le_trans e (Nat.le_trans (Nat.add_le_add_left (Nat.mul_le_mul_left _ a) _) (by decide))),Nat.le_trans (by decide) b⟩
theorem Bn.up (h:Bn i c n k):Bn (i+1) (c+1) n k:=by
 obtain⟨a,b,e⟩:=h;refine⟨a,?_,?_⟩<;>clear a;·clear e;omega
 ·clear b;omega
theorem Bn.mono {a:Nat}(h:Bn i c n k)(b:a<=c):Bn i a n k:=⟨h.1,Nat.le_trans (Nat.add_le_add_left (Nat.mul_le_mul_left _ b) _) h.2.1,Nat.le_trans (Nat.add_le_add_left (Nat.mul_le_mul_left _ b) _) h.2.2⟩
theorem Bn.take (h:Bn i (c+1) n k):Bn i c (n+20000) (k+810400):=by
 obtain⟨a,b,e⟩:=h;refine⟨Nat.le_trans a (Nat.le_add_right _ _),?_,?_⟩<;>clear a;·clear e;omega
 ·clear b;omega
theorem Bn.part {g e:Nat}(h:Bn i c n k)(j:g<=n+4002)(f:k<=e)(m:e<=k+1300000):Bn (i+1) c g e:=by
 obtain⟨a,b,d⟩:=h;refine⟨Nat.le_trans a f,?_,?_⟩<;>clear a f;·clear d m;omega
 ·clear b j;omega
end
structure Ld (i d:Nat) (l:U23):Prop where
  nt:Nt (d1e l)
  pg:∃n k,Pg (400*i) n k (d1g l)/\Bn i (l.ab.length+d) n k
  pa:Ls 401 V.str (Sl 400) l.aa
  co:Ls 3 tJ Cx l.ab
  gu:l.ac.length+l.ab.length+d<=i/\Rw AR Gs l.ac
section
variable {i d:Nat}{l:U23}
theorem Ld.up (h:Ld i d l):Ld (i+1) (d+1) l:=⟨h.nt,(let⟨n,k,h1,h2⟩:=h.pg;⟨n,k,h1.ut (by omega),h2.up⟩),h.pa,h.co,by have:=h.gu.1;omega,h.gu.2⟩
theorem Ld.dn (h:Ld i (d+1) l):Ld i d l:=⟨h.nt,(let⟨n,k,h1,h2⟩:=h.pg;⟨n,k,h1,h2.mono (by omega)⟩),h.pa,h.co,by have:=h.gu.1;omega,h.gu.2⟩
theorem Ld.ad (h:Ld i d l):Sl 300000 l.e:=(let⟨_,_,h1,_⟩:=h.pg;Nat.le_trans h1.ad.1 (by omega))
theorem Ld.lac (h:Ld i d l)(a:i<=1200):Ls 1200 AR Gs l.ac:=⟨by have:=h.gu.1;omega,h.gu.2⟩
end
variable {i d:Nat}{l:U23}
theorem CT (h:Ld i d l)(j:i<=1200):An (λO=>bt O l) λr=>r=l:=by refine m1c ?_;unfold bt OG;obtain⟨n,k,m,g⟩:=h.pg;have e:=g.le j;have q:=h.pa.1;have p:=h.co.1;have o:=h.gu.1;refine l1l (zB h.nt) λa f=>l1l (sF m (by omega)) λb e=>m1f (IG (by omega)) (m1f (IG (by omega)) (m1f (IG (by omega)) (l1q ?_)));rw[f,e];simp only[List.nil_append]
theorem a1i (h:Ld i 0 l)(m:i<=1150):cO (λO=>rH O l) λr _=>Ld (i+1) 0 r:=by
 refine l1s ?_;unfold rH OK;refine l1l (CT h (by omega)) λy g=>?_;subst g;obtain⟨n,k,a,b⟩:=h.pg;have o:=b.le (by omega);have u:=h.pa.1;refine m1a (λ_=>l1j h.up.dn) λe=>?_;have j:0<y.aa.length:=by
  rcases Nat.eq_zero_or_pos y.aa.length with q|q;·rw[aJ,q]at e;cases e
  ·exact q
 have t:=h.gu.1;have f:Ls 401 V.str (Sl 400) ((y.aa.take (nL y.aa).toNat).drop 1):=⟨by simp;omega,(h.pa.2.take _).drop _⟩;refine l1l (r2 h.pa.2 j) λs ⟨hs,_⟩=>l1l (d0n a hs (by omega)) λp a=>m1g (by rw[aJ];omega) (m1a (λ_=>l1l (d0o a (by omega) (by omega)) λp a=>l1l (L8 a (by omega) (by omega)) λp a=>l1j ⟨h.nt,⟨_,_,a.ut (by omega),b.part (by omega) (by omega) (by omega)⟩,f,h.co,?_,h.gu.2⟩) λ_=>l1l (L8 a (by omega) (by omega)) λp a=>l1j ⟨h.nt,⟨_,_,a.ut (by omega),b.part (by omega) (by omega) (by omega)⟩,f,h.co,?_,h.gu.2⟩)
 all_goals (try simp only);omega
theorem a1j (h:Ld i 0 l)(G:i<=1150):cO (λO=>rJ O l) λr _=>Ld (i+1) 0 r:=by
 refine l1s ?_;unfold rJ OL;refine l1l (CT h (by omega)) λy z=>?_;subst z;have j:=h.up;obtain⟨n,k,o,u⟩:=j.pg;have H:=u.le (by omega);refine l1l (TI o (by omega)) λl2 p=>l1l (a1m h.co) λD t=>l1l (a1l p t (by omega)) λJ f=>l1l (a1n o.sl f (by omega) (by omega)) λq v=>l1n (λ_=>l1j j.dn) λe=>?_;rcases v with rfl|v;·exact absurd (by decide) e
 have K:=j.gu.1;refine l1z (by omega) (l1l (H5 f.2 (by omega)) λa m=>l1i (a1o (h.lac (by omega)) (by omega)) λI x _ ⟨w,g⟩=>m1a (λ_=>l1l (GS h.nt h.ad (Pr.up (by omega) m) g) λB b=>l1l (L9 o m (g.up (by omega)) (by omega) (by omega)) λC s=>l1j ⟨b,⟨_,_,s,u.take⟩,h.pa,h.co,?_,w.2⟩) λ_=>l1n (λ_=>l1j j.dn) λ_=>l1h (sH h.nt h.ad (Pr.up (by omega) m)) λB x ⟨b,g⟩=>l1h (f0j h.co m g) λE _ ⟨F,A⟩=>l1j ⟨b,⟨n,k,o,u.mono ?_⟩,h.pa,A,?_,h.gu.2⟩)
 all_goals (try simp only);omega
theorem a1k (h:Ld i 0 l)(G:i<=1150):cO (λO=>rK O l) λr _=>Ld (i+1) 0 r:=by
 refine l1s ?_;unfold rK OM;refine l1l (CT h (by omega)) λy D=>?_;subst D;have b:=h.up;obtain⟨n,k,s,q⟩:=b.pg;have I:=q.le (by omega);have J:=b.gu.1;refine m1e (l1n (λ_=>l1j b.dn) λ_=>l1l (f0k (h.lac (by omega)) (by omega)) λ_ _=>l1l (a1p h.co) λ_ _=>m1a (λ_=>l1j b.dn) λ_=>l1l (a1q s (by omega) (by omega)) λm o=>?_);have C:=o.1;refine l1l (wh X5 (λx=>x.1=m/\(0<=x.2.1/\x.2.1<=m.length)/\x.2.2.1=y/\x.2.2.2.2.2.2.2.2.2.2.2.2.2.2.2=y) (λx=>(m.length-x.2.1).toNat) (Ex:=λr=>(∃z:tH,r=(0,ju z)/\z.2.2.2.2.2.2.2.2.2.2.2.2=y) \/ ∃z:AN,r=(1,zP z)/\Ld (i+1) 0 z.2.1) ⟨rfl,by simp,rfl,rfl⟩ λx ⟨w,K,E,A⟩=>?_) λr u=>?_;·rw[w,E,A];refine l1v (λe=>m1k (l1y ⟨rfl,?_,rfl,rfl⟩ ?_) λj t=>l1z (by omega) (l1l (a4 o.2 (by omega)) λa ⟨p,_⟩=>m1e (l1l (Sm (h.lac (by omega)) (by omega)) λ_ _=>m1a (λ_=>t) λ_=>l1l (f0l h.co) λ_ _=>m1a (λ_=>t) λ_=>l1h (sH h.nt h.ad (Pr.up (by omega) p)) λL x ⟨g,v⟩=>l1h (f0j h.co p v) λF _ ⟨H,B⟩=>l1m (.inr ⟨_,rfl,g,⟨n,k,s,q.mono ?_⟩,h.pa,B,?_,h.gu.2⟩)))) λe=>l1m (.inl ⟨_,rfl,rfl⟩)<;>(try simp only)<;>(try rw[bC (by omega)])<;>omega
 ·rcases u with⟨z,rfl,f⟩|⟨z,rfl,f⟩;·exact l1r (l1x (x:=z) rfl (l1j (by simp only[f];exact b.dn)))
  ·exact l1p (l1x (x:=z) rfl (l1j f))
theorem a1u {q:Int}(h:Ld i 0 l)(t:i<=1200)(G:0<=q/\q<l.ab.length):An (λO=>eR O l q) (Ld i 0):=by
 refine m1c ?_;unfold eR tU;obtain⟨n,k,m,f⟩:=h.pg;have w:=f.le t;have Q:=h.gu.1;refine l1z (by omega) (l1l (a7 h.co.2 (by omega)) λy ⟨j,_⟩=>l1l (a1y h.co G) λl2 ⟨E,c2⟩=>l1l (TI m (by omega)) λp o=>?_);have A:p.length<=3000000000:=Nat.le_trans o.1 (by omega);have b:Ld i 1 {l with ab:=l2}:=⟨h.nt,⟨n,k,m,f.mono (by(try simp only);omega)⟩,h.pa,c2,by(try simp only);omega,h.gu.2⟩;have B:=b.lac t;generalize M:({l with ab:=l2}:U23)=L at b B;clear M m f w;obtain⟨n,k,m,f⟩:=b.pg;have w:=f.le t;have K:=b.gu.1;refine l1l (wh X7 (λx=>x.1=p/\(0<=x.2.1/\x.2.1<=p.length)/\x.2.2.1=L/\x.2.2.2.2.2.2.2.2.2.2.2.2.2.2.2=y) (λx=>(p.length-x.2.1).toNat) (Ex:=λr=>(∃z:Fx,r=(0,LA z)/\z.1=L/\z.2.2.2.2.2.2.2.2.2.2.2.2.2=y) \/ ∃z:Fy,r=(1,EF z)/\Ld i 0 z.2.1) ⟨rfl,by simp,rfl,rfl⟩ λx ⟨J,R,H,D⟩=>?_) λr I=>?_;·rw[J,H,D];refine l1v (λe=>l1z (by omega) (l1l (H5 o.2 (by omega)) λa _=>m1a (λ_=>m1a (λ_=>l1l (GS b.nt b.ad (Pr.up (by omega) j.1) j.2) λS v=>l1l (L9 m j.1 (j.2.up (by omega)) (by omega) (by omega)) λC g=>l1m (.inr ⟨_,rfl,v,⟨_,_,g,f.take⟩,b.pa,b.co,?_,b.gu.2⟩)) λ_=>l1l (L9 m j.1 (j.2.up (by omega)) (by omega) (by omega)) λC g=>l1m (.inr ⟨_,rfl,b.nt,⟨_,_,g,f.take⟩,b.pa,b.co,?_,b.gu.2⟩)) λ_=>l1y ⟨rfl,?_,rfl,rfl⟩ ?_)) λe=>l1m (.inl ⟨_,rfl,rfl,rfl⟩)<;>(try simp only)<;>(try rw[bC (by omega)])<;>omega
 ·rcases I with⟨z,rfl,s,u⟩|⟨z,rfl,s⟩;·refine l1r (l1x (x:=z) rfl ?_);rw[s,u];exact m1a (λ_=>l1h (a1z B j.2 (by omega)) λN _ ⟨P,F⟩=>l1q ⟨b.nt,⟨n,k,m,f.mono (by(try simp only);omega)⟩,b.pa,b.co,by(try simp only);omega,F⟩) λ_=>l1q b.dn
  ·exact l1p (l1x (x:=z) rfl (l1q s))
theorem f0i {b:Int}(h:Ld i 0 l)(C:i<=1150):cO (λO=>oq O l b) λr _=>Ld (i+1) 0 r:=by
 refine l1s ?_;unfold oq ON;refine l1l (CT h (by omega)) λy t=>?_;subst t;have a:=h.up.dn;have B:=h.co.1;refine m1e (m1a (λ_=>l1j a) λ_=>l1l (iM _ _ _) λ_ _=>m1a (λ_=>l1j a) λ_=>l1l (a1r h.co) λs ⟨E,p⟩=>?_);have w:Ld (i+1) 0 {y with ab:=s}:=⟨a.nt,(let⟨n,k,A,u⟩:=a.pg;⟨n,k,A,u.mono (by(try simp only);omega)⟩),a.pa,p,by have:=a.gu.1;simp only;omega,a.gu.2⟩;refine l1l (wh X8 (λx=>x.2.1=y/\(0<=x.1/\x.1<=y.ab.length)/\Ld (i+1) 0 x.2.2.2.2.2.2.2.2.2.2.2.2.2.2) (λx=>(y.ab.length-x.1).toNat) (Ex:=λr=>∃z:tH,r=(0,ju z)/\Ld (i+1) 0 z.2.2.2.2.2.2.2.2.2.2.2.2) ⟨rfl,by simp,w⟩ λx ⟨v,D,f⟩=>?_) λr ⟨z,j,m⟩=>?_
 ·rw[v];refine l1v (λe=>l1l (a1s f.co) λq g=>l1n (λ_=>l1m ⟨_,rfl,f⟩) λo=>?_) λe=>l1m ⟨_,rfl,f⟩;rcases g with rfl|g;·exact absurd (by decide) o
  refine l1l (a1u f (by omega) g) λr j=>l1y ⟨rfl,?_,j⟩ ?_<;>simp only<;>rw[bC (by omega)]<;>omega
 ·subst j;exact l1x (x:=z) rfl (l1j m)
theorem a1h {n:Int}(h:Ld i 0 l)(a:i<=1150):cO (λO=>rG O l n) λr _=>Ld (i+1) 0 r:=by refine l1s ?_;unfold rG OJ;exact m1a (λ_=>l1h (a1i h a) λ_ _ h=>l1j h) λ_=>m1a (λ_=>l1h (a1j h a) λ_ _ h=>l1j h) λ_=>m1a (λ_=>l1h (a1k h a) λ_ _ h=>l1j h) λ_=>m1a (λ_=>l1h (f0i h a) λ_ _ h=>l1j h) λ_=>l1h (f0i h a) λ_ _ h=>l1j h
theorem f0h {n:Int}(h:Ld i 0 l)(j:i<=1150):cO (λO=>oo O l n) λr _=>Ld (i+1) 0 r:=by
 refine l1s ?_;unfold oo OH;refine l1l (z0c _ _) λm _=>l1l (wh X9 (λx=>(0<=x.2.1/\x.2.1<=5)/\x.2.2.1=l) (λx=>(5-x.2.1).toNat) (Ex:=λr=>(∃z:Fr,r=(0,K7 z)/\z.1=l) \/ ∃z:AN,r=(1,zP z)/\Ld (i+1) 0 z.2.2) ⟨by simp,rfl⟩ λx ⟨o,g⟩=>?_) λr a=>?_;·rw[g];refine l1n (λe=>l1h (a1h h j) λr _ a=>m1a (λ_=>l1m (.inr ⟨_,rfl,a⟩)) λ_=>l1y ⟨?_,rfl⟩ ?_) λe=>l1m (.inl ⟨_,rfl,rfl⟩)<;>simp only<;>rw[bC (by omega)]<;>omega
 ·rcases a with⟨z,rfl,b⟩|⟨z,rfl,b⟩;·refine l1r (l1x (x:=z) rfl ?_);rw[b];exact l1l (CT h (by omega)) λy f=>l1j (f▸h.up.dn)
  ·exact l1p (l1x (x:=z) rfl (l1j b))
theorem a1g (l:U23):An (λO=>rE O l) tt:=by refine m1c ?_;unfold rE OI nW VQ;exact m1a (λ_=>l1q trivial) λ_=>l1q trivial
theorem a1e {c:LV}{n:Nat}(h:Ld 0 0 l)(g:Ls n wn tt c)(A:n<=1099511627776):An (λO=>rB O l c) (Ld 1100 0):=by
 refine m1c ?_;unfold rB OD;have w:=g.1;have p:∀{m:U23} (k j:Nat),Ld k 0 m->k<=j->Ld j 0 m:=λk j h t=>by
  induction t with
  |refl=>exact h
  |step _ v=>exact v.up.dn
 refine l1l (CT h (by omega)) λy u=>?_;subst u;refine l1l (wh X_ (λx=>x.1=c/\(0<=x.2.1/\x.2.1<=c.length/\x.2.1<=100)/\Ld x.2.1.toNat 0 x.2.2.2.2.2.2.2.2.2.2.2.2.2.2) (λx=>(c.length-x.2.1).toNat) (Ex:=λr=>∃z:tH,r=(0,ju z)/\Ld 100 0 z.2.2.2.2.2.2.2.2.2.2.2.2) ⟨rfl,by simp,by exact h⟩ λx ⟨q,f,s⟩=>?_) λr ⟨z,a,b⟩=>?_
 ·rw[q];have o:=p _ 100 s (by omega);refine m1e (l1v (λe=>l1n (λ_=>m1b f.1 (l1l (r1 g.2 (by omega)) λ_ _=>l1h (f0h s (by omega)) λr _ a=>l1y ⟨rfl,?_,?_⟩ ?_)) λ_=>l1m ⟨_,rfl,o⟩) λe=>l1m ⟨_,rfl,o⟩)<;>simp only<;>rw[bC (by omega)];·omega
  ·rw[show(x.2.1+1).toNat=x.2.1.toNat+1 by omega];exact a
  ·omega
 ·subst a;refine l1x (x:=z) rfl (l1l (wh YA (λx=>(0<=x.1/\x.1<=1000)/\Ld (100+x.1.toNat) 0 x.2.2.2.2.2.2.2.2.2.2.2.2.2) (λx=>(1000-x.1).toNat) (Ex:=λr=>(∃z:tH,r=(0,ju z)/\Ld 1100 0 z.2.2.2.2.2.2.2.2.2.2.2.2) \/ ∃z:F_,r=(1,LB z)/\Ld 1100 0 z.1) ⟨by simp,by exact b⟩ λx ⟨q,f⟩=>?_) λr a=>?_)
  ·have o:=p _ 1100 f (by omega);refine m1e (l1n (λ_=>l1l (a1g _) λ_ _=>m1a (λ_=>l1h (f0h f (by omega)) λr _ a=>m1a (λ_=>l1m (.inr ⟨_,rfl,o⟩)) λ_=>l1y ⟨?_,?_⟩ ?_) λ_=>l1m (.inl ⟨_,rfl,o⟩)) λ_=>l1m (.inl ⟨_,rfl,o⟩))<;>simp only<;>rw[bC (by omega)];·omega
   ·rw[show 100+(x.1+1).toNat=100+x.1.toNat+1 by omega];exact a
   ·omega
  ·rcases a with⟨z,rfl,b⟩|⟨z,rfl,b⟩;·exact l1r (l1x (x:=z) rfl (l1q b))
   ·exact l1p (l1x (x:=z) rfl (l1q b))
theorem a1f {s:LU}{c:LV}{n:Nat}(hs:Sl 400 s)(h:Ls n wn tt c)(M:n<=1099511627776):An (λO=>rD O s c) (Ls 401 V.str (Sl 400)):=by
 refine m1c ?_;unfold rD OF;have K:=h.1;refine l1l (i0h _ _) λm ⟨_,H,_⟩=>l1l (wh Xy (λx=>x.1=s/\x.2.1=c/\x.2.2.2.2.1=m/\(0<=x.2.2.2.1/\x.2.2.2.1<=s.length)/\(1<=x.2.2.2.2.2/\x.2.2.2.2.2<=401/\x.2.2.2.1<=x.2.2.2.2.2)/\x.2.2.1.length+1<=x.2.2.2.2.2/\Rw V.str (Sl 400) x.2.2.1) (λx=>(401-x.2.2.2.2.2).toNat) (Ex:=λr=>∃q k,r=(0,EC (s,q,k))/\(0<=k/\k<=s.length)/\q.length<=400/\Rw V.str (Sl 400) q) ⟨rfl,rfl,rfl,by simp,by simp,by simp,Rw.nil⟩ λx ⟨y,B,E,o,L,I,a⟩=>?_) λr ⟨q,k,f,J,N,g⟩=>?_
 ·rw[y,B,E];refine l1t (λe=>l1l (wh Xx (λz=>z.1=s/\z.2.1=c/\z.2.2.1=x.2.2.1/\z.2.2.2.1=x.2.2.2.1/\z.2.2.2.2.1=m/\z.2.2.2.2.2.1=x.2.2.2.2.2/\0<=z.2.2.2.2.2.2.2/\(z.2.2.2.2.2.2.2<=m\/z.2.2.2.2.2.2.2=0)) (λz=>(m-z.2.2.2.2.2.2.2).toNat) (Ex:=λr=>∃b,r=(0,K1 (s,c,x.2.2.1,x.2.2.2.1,m,x.2.2.2.2.2,b))) ⟨rfl,rfl,rfl,rfl,rfl,rfl,by simp,.inr rfl⟩ λz ⟨F,A,C,u,v,D,G,P⟩=>?_) λr ⟨b,f⟩=>?_) λe=>l1m ⟨_,_,rfl,o,by omega,a⟩;·rw[F,A,C,u,v,D];rw[aJ]at H;refine l1n (λt=>m1j tt (λb _=>l1y ⟨rfl,rfl,rfl,rfl,rfl,rfl,?_,?_⟩ ?_) λj p=>m1a (λ_=>p _ trivial) λ_=>m1b G (l1l (r1 h.2 (by omega)) λ_ _=>p _ trivial)) λt=>l1m ⟨_,rfl⟩<;>simp only<;>rw[bC (by omega)]<;>omega
  ·subst f;refine l1x (x:=(s,c,x.2.2.1,x.2.2.2.1,m,x.2.2.2.2.2,b)) rfl (m1a (λ_=>m1g (by rw[aW];simp only;omega) (m1f (ui (by simp only;omega)) (l1y ⟨rfl,rfl,rfl,?_,?_,?_,a.app (Rw.one (w:=V.str) ?_)⟩ ?_))) λ_=>l1y ⟨rfl,rfl,rfl,o,?_,?_,a⟩ ?_)<;>simp only<;>(try rw[bC (by omega)])<;>(try simp only[List.length_append,List.length_cons,List.length_nil,Sl,List.length_drop,List.length_take])<;>omega
 ·subst f;refine l1x (x:=(s,q,k)) rfl (m1g (by rw[aW];simp only;omega) (m1f (ui (by simp only;omega)) (l1q ⟨by simp;omega,g.app (Rw.one (w:=V.str) ?_)⟩)));simp only[Sl,List.length_drop,List.length_take];omega
end Go.Am
end
