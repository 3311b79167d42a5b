/-
  Proved: lemmas for Rows.FnFormatsCardSaid.
-/
import Derived.Test.YtmkhgngckgcpeaaGreatDooruV9
set_option linter.all false
section
set_option maxRecDepth 10000
namespace Go.Am
open Go
variable {T:Nat}
theorem h0p {a b:LV}{k:Nat}(h:a.length+b.length<=1099511627776)(c:k<=100):(a.length+b.length)*k<=140737488355328/\a.length+b.length<=140737488355328:=by have:=Nat.mul_le_mul h c;omega
theorem d0c {p:U8}{a:U5}{n k:Nat}(h:Pg T n k p)(i:Ad a)(G:n<=100000000000/\k<=100000000000):An (λO=>jJ O p a) (Pg T (n+1) k):=by
 refine m1c ?_;unfold jJ Mm;have F:=h.mo.1;refine l1l (sF h (by omega)) λy C=>?_;subst C;refine l1l (wh p0u (λx=>(0<=x.1/\x.1<=y.n.length)/\x.2.1=y/\x.2.2.1=a/\x.2.2.2.2.2.2.2.2.2.2.2.2.2.2=y) (λx=>(y.n.length-x.1).toNat) (Ex:=λr=>∃z:Jp,r=(0,Bl z)/\(0<=z.1/\z.1<=y.n.length)/\z.2.1=y/\z.2.2.1=a/\z.2.2.2.2.2.2.2.2.2.2.2.2.2.2=y) ⟨by simp,rfl,rfl,rfl⟩ λx ⟨o,v,u,l⟩=>?_) λr ⟨z,s,o,v,u,l⟩=>?_;·rw[v,u];refine m1e (l1v (λe=>m1b o.1 (l1l (r12 h.mo.2 (by omega)) λH _=>l1l (y0j _ _) λ_ _=>m1a (λ_=>l1y ⟨?_,rfl,rfl,l⟩ ?_) λ_=>l1m ⟨_,rfl,o,rfl,rfl,l⟩)) λ_=>l1m ⟨_,rfl,o,rfl,rfl,l⟩)<;>simp only<;>rw[bC (by omega)]<;>omega
 ·subst s;refine l1x (x:=z) rfl ?_;rw[v,u,l];refine m1k (m1j Md (λm B=>m1g (by rw[aJ];omega) (m1f (h0p ?_ (by omega)) (m1f (h0p ?_ (by omega)) (m1g (by rw[aJ];omega) (m1f (h0p ?_ (by omega)) (l1q (h.mo' (by omega) ⟨?_,?_⟩ ?_))))))) λj q=>l1l (Jm (n:=k) (m:=k) (k:=1000) (p:=⟨y.c,y.d,y.e,y.f,y.g⟩) (r:=⟨5,a.a,a.b,y.a,[]⟩) h.po ⟨i.1,i.2,h.ad.1,Nat.zero_le _⟩ (by omega) (by omega)) λ_ _=>m1a (λ_=>q _ ⟨i.1,i.2,Nat.zero_le _⟩) λ_=>q _ ⟨i.1,i.2,Nat.zero_le _⟩) λj q=>l1v (λe=>m1b o.1 (l1l (r12 h.mo.2 (by omega)) λE _=>m1a (λ_=>l1q (Pg.up (by omega) (by omega) h)) λ_=>q)) λ_=>q;·simp<;>omega
  ·simp<;>omega
  ·simp[aJ]<;>omega
  ·simp[aJ]<;>omega
  ·have s:=h.mo.2;exact((Rw.nil.app ((s.take _).drop _)).app (Rw.one B)).app ((s.take _).drop _)
  ·have I:=h.ra.1;have D:=I9 (w6 m) y.t;have A:y.n.take (nL y.n).toNat=y.n:=List.take_of_length_le (by simp[aJ]);have w:=zn (y.n.take z.1.toNat) (y.n.drop z.1.toNat) y.t;rw[List.take_append_drop]at w;simp only[zn,List.nil_append,List.drop_zero,A];omega
theorem y0r {p:U8}{s:LU}{n m:Nat}(h:Pg T n m p)(hs:Sl m s)(f:n<=10000000000/\m<=10000000000):An (λO=>qk O p s) (Pg T (n+2) m):=by refine m1c ?_;unfold qk Nh;refine l1h (Fl (n:=m+1000) (Sl.up (by omega) hs) (Sl.up (by omega) h.ad.1) (by omega)) λa _ c=>m1k (l1l (d0c h ⟨Sl.up (by omega) c.1,Sl.up (by omega) c.2⟩ (by omega)) λq b=>m1f (kp (by have:=b.en.1;omega) (by omega)) (l1q (b.en' (by omega) ⟨?_,b.en.2.app (Rw.one ⟨Sl.up (by omega) c.1,Sl.up (by omega) c.2⟩)⟩))) λj e=>m1a (λ_=>l1l (sF h (by omega)) λy d=>l1q (by subst d;exact Pg.up (by omega) (by omega) h)) λ_=>l1n (λ_=>l1l (sF h (by omega)) λy d=>l1q (by subst d;exact Pg.up (by omega) (by omega) h)) λ_=>e;have:=b.en.1;simp only[List.length_append,List.length_cons,List.length_nil];omega
theorem d0h {p:U8}{k:Int}{n m:Nat}(h:Pg T m n p)(g:0<=k/\k.toNat<p.k.length)(i:n<=10000000000/\m<=10000000000):An (λO=>fW O p k) (Pg T (m+2) (n+2)):=by refine m1c ?_;unfold fW xg;refine l1z g (l1l (g1v h.bu.1.2 g.2) λl ⟨y,j,_,e⟩=>?_);subst e;have b:∀s,cO (λO=>cH O y.d s) λt _=>Sl n t:=λs=>Jn j.2.2 (by omega);refine l1h (b _) λx _ c=>l1h (b _) λu _ r=>l1h (b _) λw _ f=>l1h (b _) λv _ o=>m1a (λ_=>l1l (y0q _ _) λ_ _=>m1a (λ_=>l1q (Pg.up (by omega) (by omega) (h.nu _ _ _ _ _))) λ_=>l1q (Pg.up (by omega) (by omega) h)) λ_=>m1a (λ_=>l1h (Fk h c f (by omega)) λq _ a=>l1q (Pg.up (by omega) (by omega) a.1)) λ_=>m1a (λ_=>l1l (y0r h c ⟨i.2,i.1⟩) λq a=>l1q (Pg.up (by omega) (by omega) a)) λ_=>l1h (Fk h c f (by omega)) λq _ a=>l1q (Pg.up (by omega) (by omega) (a.1.nu _ _ _ _ _))
theorem g1u {P:U9->Prop}{l:LV}(h:Rw w1 P l){i:Nat}(g:i<l.length):An (λ_=>Yy l i 0) (λy=>P y/\l[i]?=some (w1 y)):=h.ix (f:=λl i=>Yy l i 0) (λ_ l i y k h=>by show Yy l i 0 k=_;unfold Yy;exact d8 (ks:=[.int .i64,.str,.sl 2 true,.str]) (e:=(y.a,y.b,y.c,y.d,())) h rfl) g
theorem x0s {p:U8}{n j:Nat}(h:Pg T j n p)(N:1000<=n)(R:n<=8000000000/\j<=1000000000):cO (λO=>qI O p) λq _=>Pg T (j+2) (n+5) q:=by
 refine l1s ?_;unfold qI Mb;refine l1l (sF h (by omega)) λy L=>?_;subst L;have e:=Pg.up (m:=j+2) (m':=n+5) (by omega) (by omega) h;have H:y.k.length<=40:=h.bu.1.1;have P:y.l.length<=n:=h.bu.2.1;by_cases J:y.i.length=0;·exact m1e (m1a (λ_=>l1j e) λq=>by rw[aJ,J]at q;simp at q)
 refine m1k (l1z (by omega) (l1l (g1u h.qu.2 (by omega)) λt ⟨G,_⟩=>m1g (by rw[aJ];omega) (m1j tt (λA _=>l1h (y0e (b:=⟨y.k,y.l⟩) h.bu G N (by omega)) λb k ⟨I,Q,w⟩=>?_) λF o=>l1n (λE=>m1b (by rw[aJ]at E ⊢;rw[lU (by omega)];omega) (l1l (r1 h.bu.2.2 (by rw[aJ]at E;show(wi (nL y.l-1)).toNat<y.l.length;rw[aJ,lU (by omega)];omega)) λ_ _=>o _ trivial)) λ_=>o _ trivial))) λF o=>m1a (λ_=>l1j e) λ_=>m1a (λ_=>l1j e) λ_=>m1a (λ_=>l1j e) λ_=>o;have d:Pg T j (n+1) {y with i:=(y.i.take ((nL y.i).toNat)).drop 1,k:=b.a,l:=b.b}:=by have q:=Pg.up (m:=j) (m':=n+1) (by omega) (by omega) h;exact⟨q.ad,q.po,q.tok,⟨by simp[aJ];have:=q.qu.1;omega,(q.qu.2.take _).drop _⟩,I,q.sl,q.mo,q.en,q.ra,q.lo⟩
 refine m1j (λu=>Pg T j (n+3) u/\y.k.length<=u.k.length) (λu ⟨x,s⟩=>?_) λF o=>m1k (m1k (l1j (Pg.up (by omega) (by omega) d)) λM f=>m1a (λ_=>m1a (λ_=>l1l (iM _ _ _) λD g=>m1a (λc=>?_) λ_=>f) λ_=>f) λ_=>f) λK r=>m1a (λ_=>l1n (λ_=>l1l (y0f d (Tk.up (by omega) G) (by omega)) λu ⟨x,s⟩=>o _ ⟨x,by rw[s];exact w⟩) λ_=>r) λ_=>r
 ·have z:=Pg.up (m:=j+2) (m':=n+5) (by omega) (by omega) x;refine m1a (λ_=>m1a (λ_=>l1l (iM _ _ _) λD g=>m1a (λc=>?_) λ_=>l1j z) λ_=>l1j z) λ_=>l1j z;have q:0<=A/\A.toNat<y.k.length:=by rw[g,aJ,lU (by omega)]at c;simp at c;omega
  exact m1b q.1 (l1l (r6 h.bu.1.2 q.2) λC _=>m1a (λ_=>l1l (d0h x ⟨q.1,by omega⟩ (by omega)) λv B=>l1j (Pg.up (by omega) (by omega) B)) λ_=>l1j z)
 ·have q:0<=A/\A.toNat<y.k.length:=by rw[g,aJ,lU (by omega)]at c;simp at c;omega
  exact m1b q.1 (l1l (r6 h.bu.1.2 q.2) λC _=>m1a (λ_=>l1l (d0h d ⟨q.1,Nat.lt_of_lt_of_le q.2 w⟩ (by omega)) λv B=>l1j (Pg.up (by omega) (by omega) B)) λ_=>f)
theorem k1b {p:U8}{n j:Nat}(h:Pg T j n p)(f:1000<=n)(s:n<=8000000000/\j<=1000000000):cO (λO=>Gm O p) λq _=>Pg T (j+2) (n+400) q:=by refine l1s ?_;unfold Gm l0d;have e:=Pg.up (m:=j+2) (m':=n+400) (by omega) (by omega) h;have D:p.m.length<=n:=h.sl.1;have c:An (λO=>a8 O p) λr=>r=p:=sF h (by omega);refine m1a (λ_=>l1l (Ji h.sl (by omega)) λ_ _=>m1a (λ_=>l1l c λy a=>l1j (by rw[a];exact e)) λ_=>l1l (x0r (b:=⟨p.k,p.l⟩) _ h.bu.1 (by omega)) λt E=>l1l (RX h (by omega) f (by omega)) λy a=>l1j ((Pg.up (by omega) (by omega) a).nu _ _ _ _ _)) λ_=>m1a (λ_=>l1l (iM _ _ _) λC o=>m1a (λ_=>l1l c λy a=>l1j (by rw[a];exact e.nu _ _ _ _ _)) λu=>?_) λ_=>l1h (x0s h f s) λq b v=>l1j (Pg.up (by omega) (by omega) v);have:=lH o (by simpa using u) (by omega);exact m1k (l1l c λy a=>m1b this.1 (l1l (r8 h.sl.2 this.2) λw _=>m1a (λ_=>m1b this.1 (l1l (r8 h.sl.2 this.2) λi ⟨d,_⟩=>l1l (RX h (Sl.up (by omega) d.2.2.2) f (by omega)) λz g=>l1j ((Pg.up (by omega) (by omega) g).nu _ _ _ _ _))) λ_=>l1j (by rw[a];exact e.nu _ _ _ _ _))) λA x=>m1b this.1 (l1l (r8 h.sl.2 this.2) λB _=>m1a (λ_=>l1l c λy a=>l1j (by rw[a];exact e)) λ_=>l1l (Ji h.sl (by omega)) λ_ _=>m1a (λ_=>l1l c λy a=>l1j (by rw[a];exact e)) λ_=>x)
end Go.Am
end
section
set_option maxRecDepth 10000
namespace Go.Am
open Go
theorem x0t (p:U8):An (λO=>qJ O p) tt:=by refine m1c ?_;unfold qJ Mc;exact m1a (λ_=>m1a (λ_=>m1a (λ_=>l1q trivial) λ_=>l1q trivial) λ_=>l1q trivial) λ_=>l1q trivial
abbrev Ix (m:Nat)(k:Int):Prop:=0<=k/\k<m
theorem x0u {p:U8}{n:Nat}(h:Ls n w5 (Sr n) p.m)(j:n<=1099511627776):An (λO=>qK O p) (Ls n wn (Ix p.m.length)):=by
 refine m1c ?_;unfold qK Me;have i:=h.1;refine l1l (wh yA (λx=>x.2.2=p/\(0<=x.2.1/\x.2.1<=p.m.length)/\x.1.length<=x.2.1/\Rw wn (Ix p.m.length) x.1) (λx=>(p.m.length-x.2.1).toNat) (Ex:=λr=>∃m,r=(0,fo m)/\Ls n wn (Ix p.m.length) m) ⟨rfl,by simp,by simp,Rw.nil⟩ λx ⟨f,b,g,a⟩=>?_) λr ⟨m,c,d⟩=>?_
 ·rw[f];refine l1v (λe=>m1b b.1 (l1l (r8 h.2 (by omega)) λy _=>m1a (λ_=>m1f (kp (by omega) (by omega)) (l1y ⟨rfl,?_,?_,a.app (Rw.one (w:=wn) (y:=x.2.1) ⟨b.1,e⟩)⟩ ?_)) λ_=>l1y ⟨rfl,?_,?_,a⟩ ?_)) λe=>l1m ⟨_,rfl,by omega,a⟩
  all_goals (simp only;rw[bC (by omega)])
  all_goals (try simp only[List.length_append,List.length_cons,List.length_nil])
  all_goals omega
 ·subst c;exact l1x (x:=m) rfl (l1q d)
theorem d1r {p:U8}{n:Nat}(h:Ls n w5 (Sr n) p.m)(j:n<=1099511627776):An (λO=>um O p) (Ls n wn tt):=by
 refine m1c ?_;unfold um l0f;have i:=h.1;refine l1l (wh yA (λx=>x.2.2=p/\(0<=x.2.1/\x.2.1<=p.m.length)/\x.1.length<=x.2.1/\Rw wn tt x.1) (λx=>(p.m.length-x.2.1).toNat) (Ex:=λr=>∃m,r=(0,fo m)/\Ls n wn tt m) ⟨rfl,by simp,by simp,Rw.nil⟩ λx ⟨d,f,g,a⟩=>?_) λr ⟨m,b,c⟩=>?_
 ·rw[d];refine l1v (λe=>m1b f.1 (l1l (r8 h.2 (by omega)) λy _=>m1a (λ_=>m1f (kp (by omega) (by omega)) (l1y ⟨rfl,?_,?_,a.app (Rw.one (w:=wn) (y:=x.2.1) trivial)⟩ ?_)) λ_=>l1y ⟨rfl,?_,?_,a⟩ ?_)) λe=>l1m ⟨_,rfl,by omega,a⟩
  all_goals (simp only;rw[bC (by omega)])
  all_goals (try simp only[List.length_append,List.length_cons,List.length_nil])
  all_goals omega
 ·subst b;exact l1x (x:=m) rfl (l1q c)
theorem d1s {p:U8}{n:Nat}(h:Ls n w6 Md p.n)(j:n<=1099511627776):An (λO=>ur O p) (Ls n wn tt):=by
 refine m1c ?_;unfold ur l0h;have i:=h.1;refine l1l (wh yA (λx=>x.2.2=p/\(0<=x.2.1/\x.2.1<=p.n.length)/\x.1.length<=x.2.1/\Rw wn tt x.1) (λx=>(p.n.length-x.2.1).toNat) (Ex:=λr=>∃m,r=(0,fo m)/\Ls n wn tt m) ⟨rfl,by simp,by simp,Rw.nil⟩ λx ⟨d,f,g,a⟩=>?_) λr ⟨m,b,c⟩=>?_
 ·rw[d];refine l1v (λe=>m1b f.1 (l1l (r12 h.2 (by omega)) λy _=>m1a (λ_=>m1f (kp (by omega) (by omega)) (l1y ⟨rfl,?_,?_,a.app (Rw.one (w:=wn) (y:=x.2.1) trivial)⟩ ?_)) λ_=>l1y ⟨rfl,?_,?_,a⟩ ?_)) λe=>l1m ⟨_,rfl,by omega,a⟩
  all_goals (simp only;rw[bC (by omega)])
  all_goals (try simp only[List.length_append,List.length_cons,List.length_nil])
  all_goals omega
 ·subst b;exact l1x (x:=m) rfl (l1q c)
theorem q0_eq {y z:U5}:q0 y z=true↔y=z:=by obtain⟨a,b⟩:=y;obtain⟨c,d⟩:=z;unfold q0;simp
theorem zC {y z:U5}(h:w2 y=w2 z):y=z:=by obtain⟨a,b⟩:=y;obtain⟨c,d⟩:=z;simpa[w2]using h
theorem Jl {l:LV}{a:U5}{n:Nat}{P:U5->Prop}(h:Ls n w2 P l)(o:n<=1099511627776):An (λO=>dL O l a) λb=>b=true↔w2 a∈l:=by
 refine m1c ?_;unfold dL M9;have m:=h.1;refine l1l (wh P0 (λx=>x.1=l/\x.2.2=a/\(0<=x.2.1/\x.2.1<=l.length)/\w2 a∉l.take x.2.1.toNat) (λx=>(l.length-x.2.1).toNat) (Ex:=λr=>r=(0,[])/\w2 a∉l\/r=(1,lf true)/\w2 a∈l) ⟨rfl,rfl,by simp,by simp⟩ λx ⟨j,k,f,g⟩=>?_) λr c=>?_
 ·rw[j,k];refine l1v (λe=>m1b f.1 (l1l (r7 h.2 (by omega)) λy ⟨_,i⟩=>m1a (λd=>l1m (.inr ⟨rfl,?_⟩)) λd=>l1y ⟨rfl,rfl,?_,?_⟩ ?_)) λe=>l1m (.inl ⟨rfl,by rwa[List.take_of_length_le (by omega)]at g⟩);·rw[<-q0_eq.1 d];exact List.mem_of_getElem? i
  ·simp only;rw[bC (by omega)];omega
  ·simp only;rw[i0n f.1 (by omega),take1 f.1 i,List.mem_append];rintro(q|q);·exact g q
   ·rw[List.mem_singleton]at q;rw[<-zC q,q0_eq.2 rfl]at d;cases d
  ·simp only;rw[bC (by omega)];omega
 ·rcases c with⟨rfl,c⟩|⟨rfl,c⟩;·exact l1r (l1q (by simp[c]))
  ·exact l1p (l1x (x:=true) rfl (l1q (by simp[c])))
abbrev uw (p:U8)(a:U5):Prop:=∃m:U14,w6 m∈p.n/\(⟨m.a,m.b⟩:U5)=a
theorem Fj {p:U8}{a:U5}{n:Nat}(h:Ls n w6 Md p.n)(z:n<=1099511627776):An (λO=>cV O p a) λk=>At w6 (λm=>(⟨m.a,m.b⟩:U5)=a/\Md m) p.n k/\(uw p a->k ≠ -1):=by
 refine m1c ?_;unfold cV Mi;have w:=h.1;refine l1l (wh YP (λx=>x.2.1=p/\x.2.2=a/\(0<=x.1/\x.1<=p.n.length) /\ ∀i:Nat,(i:Int)<x.1 -> ∀m,p.n[i]?=some (w6 m)->(⟨m.a,m.b⟩:U5)≠a) (λx=>(p.n.length-x.1).toNat) (Ex:=λr=>r=(0,[]) /\ ¬uw p a \/ ∃(i:Nat) (y:U14),r=(1,cY (i:Int))/\p.n[i]?=some (w6 y)/\(⟨y.a,y.b⟩:U5)=a/\Md y) ⟨rfl,rfl,by simp,λi h=>by simp at h;omega⟩ λx ⟨u,v,s,t⟩=>?_) λr l=>?_
 ·rw[u,v];refine l1v (λe=>m1b s.1 (l1l (r12 h.2 (by omega)) λy ⟨o,j⟩=>m1a (λg=>l1m (.inr ⟨x.1.toNat,y,by rw[Int.toNat_of_nonneg s.1],j,q0_eq.1 g,o⟩)) λg=>l1y ⟨rfl,rfl,?_,λi f m d=>?_⟩ ?_)) λe=>l1m (.inl ⟨rfl,?_⟩);·simp only;rw[bC (by omega)];omega
  ·simp only at f;rw[bC (by omega)]at f;by_cases c:(i:Int)=x.1
   ·have:i=x.1.toNat:=by omega
    rw[this,j]at d;simp only[aK,w6,V.agg.injEq,List.cons.injEq,V.str.injEq]at d;rw[<-d.1,<-d.2.1];intro q;rw[q0_eq.2 q]at g;cases g
   ·exact t i (by omega) m d
  ·simp only;rw[bC (by omega)];omega
  ·rintro⟨m,d,q⟩;obtain⟨i,f⟩:=List.getElem?_of_mem d;have:=(bW f).1;exact t i (by omega) m f q
 ·rcases l with⟨rfl,l⟩|⟨i,y,rfl,j,o⟩;·exact l1r (l1q ⟨.inl rfl,λq=>absurd q l⟩)
  ·exact l1p (l1x (x:=(i:Int)) rfl (l1q ⟨.inr ⟨i,y,rfl,j,o⟩,λ_=>by omega⟩))
theorem i0h (a b:Int):An (λO=>e_ O a b) λr=>(r=a\/r=b)/\r<=a/\r<=b:=by refine m1c ?_;unfold e_ NJ;exact l1n (λe=>l1q ⟨.inr rfl,by omega,by omega⟩) λe=>l1q ⟨.inl rfl,by omega,by omega⟩
theorem d0i {s b:LU}{m n:Nat}(hs:Sl m s)(B:Sl n b)(z:n+m<=1099511627776):AS (λO=>jS O s b) λl q _=>Ls m w2 Ad l/\Ls 6 w3 Ln q:=by
 refine l1w ?_;unfold jS M_;refine l1l (wh p0v (λx=>x.1=b/\x.2.1.length+x.2.2.length<=m/\Rw w2 Ad x.2.1) (λx=>x.2.2.length) (Ex:=λr=>(∃l t,r=(0,vt (l,t))/\Ls m w2 Ad l/\Sl m t) \/ ∃u v,r=(1,Yd ([],[],false,u,v))) ⟨rfl,by simpa using hs,Rw.nil⟩ λx ⟨D,I,p⟩=>?_) λr E=>?_
 ·rw[D];have a:∃l t,(((0:Nat),vt (x.2.1,x.2.2)):Nat×LL)=(0,vt (l,t))/\Ls m w2 Ad l/\Sl m t:=⟨_,_,rfl,⟨by omega,p⟩,by omega⟩;refine m1e (l1n (λe=>m1g (by omega) (m1a (λd=>?_) λ_=>l1m (.inl a))) λ_=>l1m (.inl a));rw[aW]at e;have d:x.2.2.take 7=[105,109,112,111,114,116,32]:=by simpa using d
  refine l1l (Rc 59 (by omega)) λk ⟨G,j⟩=>?_;have k7:7<=k:=by
   by_cases c:k<7
   ·obtain⟨u,A,h⟩:=j (by omega);have:u∈x.2.2.take 7:=by apply List.mem_of_getElem? (i:=k.toNat);rw[List.getElem?_take,if_pos (by omega)];exact A
    rw[d]at this;have q:∀v∈([105,109,112,111,114,116,32]:List UInt8),(59:Int)≠(v.toNat:Int):=by decide
    exact absurd h (q u this)
   ·omega
  refine m1g (by rw[aW];omega) (l1h (Fl (n:=n+m) (by simp;omega) (Sl.up (by omega) B) z) λy _ o=>m1a (λ_=>l1m (.inr ⟨_,_,rfl⟩)) λ_=>m1f (kp (by omega) (by omega)) (l1l (i0h _ _) λH ⟨F,f,g⟩=>?_));rw[aW,bC (by omega)]at F;rw[aW]at f;rw[bC (by omega)]at g;refine m1g (by rw[aW];omega) (l1y ⟨rfl,?_,p.app (Rw.one ⟨Sl.up (by omega) o.1,Sl.up (by omega) o.2⟩)⟩ ?_);·simp[aW];omega
  ·simp[aW];omega
 ·rcases E with⟨l,t,rfl,w,J⟩|⟨u,v,rfl⟩;·exact l1r (l1x (x:=(l,t)) rfl (l1h (d0e (by show t.length<=_;omega)) λq _ C=>m1a (λ_=>l1k ⟨Ls.nil,Ls.nil⟩) λ_=>l1k ⟨w,C⟩))
  ·exact l1p (l1x (x:=([],[],false,u,v)) rfl (l1k ⟨Ls.nil,Ls.nil⟩))
theorem Ra {p:U8}{a:U5}{n:Nat}(h:Ls n w6 Md p.n)(t:Ad a)(s:n<=1099511627776):cO (λO=>eu O p a) λl b=>Ls 10000 w2 Ad l/\(l≠[]\/b=true->uw p a):=by
 refine l1s ?_;unfold eu Ml;refine l1l (Fj h s) λk ⟨j,_⟩=>m1e (l1n (λ_=>l1j ⟨Ls.nil,by simp⟩) λe=>?_);rcases j with rfl|⟨i,m,rfl,f,u,g⟩;·exact absurd (by decide) e
 have w:=(bW f).1;have r:An (λ_=>ie p.n (i:Int).toNat) λy=>Md y:=⟨_,g,λO k=>by rw[Int.toNat_natCast];show ie p.n i k=k m;unfold ie;exact dA (ks:=[.str,.str,.bool,.int .i64,.str]) (e:=(m.a,m.b,m.c,m.d,m.e,())) f rfl⟩;exact m1b (by omega) (l1l r λy _=>m1a (λ_=>l1j ⟨Ls.nil,by simp⟩) λ_=>m1b (by omega) (l1l r λy _=>m1a (λ_=>l1j ⟨Ls.nil,by simp⟩) λ_=>m1b (by omega) (l1l r λy v=>l1i (d0i (n:=1000) (m:=10000) v.2.2 t.1 (by omega)) λl q b o=>l1j ⟨o.1,λ_=>⟨m,List.mem_of_getElem? f,u⟩⟩)))
noncomputable abbrev mu (p:U8)(a:LV):Nat:=oP p.n a
theorem LK {p:U8}{s s':LV}(h:∀r∈s,r∈s'):mu p s'<=mu p s:=Ew h
theorem LM {p:U8}{s s':LV}{a:U5}(h:∀r∈s,r∈s')(n:uw p a)(f:w2 a∉s)(i:w2 a∈s'):mu p s'+1<=mu p s:=by
 obtain⟨m,d,rfl⟩:=n;have g:∀l:LV,w6 m∈l->oP l s'+1<=oP l s:=by
  intro l;induction l with
  |nil=>intro q;cases q
  |cons x l k=>
   intro d;have j:=Ew (l:=l) h;unfold oP at k j ⊢;simp only[List.filter_cons];rcases List.mem_cons.1 d with rfl|d
   ·rw[if_pos (l0 ⟨m,rfl,f⟩),if_neg];·simp;exact j
    ·rw[qA];·simp
     ·rintro⟨m',e,q⟩;have:(⟨m'.a,m'.b⟩:U5)=⟨m.a,m.b⟩:=by simp only[w6,V.agg.injEq,List.cons.injEq,V.str.injEq]at e;rw[e.1,e.2.1]
      rw[this]at q;exact q i
   ·have:=k d;by_cases c:Hm s' x
    ·have c2:Hm s x:=by obtain⟨m,f,i⟩:=c;exact⟨m,f,λq=>i (h _ q)⟩
     rw[if_pos (l0 c),if_pos (l0 c2)];simp;omega
    ·rw[if_neg (by rw[qA c];simp)];split;·simp;omega
     ·exact this
 exact g _ d
theorem a4 {P:U5->Prop}{l:LV}(h:Rw w2 P l){i:Nat}(c:i<l.length):An (λ_=>oN l i 0) (λy=>P y/\l[i]?=some (w2 y)):=h.ix (f:=λl i=>oN l i 0) (λ_ l i y k h=>by show oN l i 0 k=_;unfold oN;exact d8 (ks:=[.str,.str]) (e:=(y.a,y.b,())) h rfl) c
theorem y0s {p:U8}{n:Nat}(h:Ls n w6 Md p.n)(Y:n<=100000000):∀(k:Nat) (a:U5) (c d:LV),Ad a->Rw w2 Ad c->Rw w2 Ad d->mu p c<k->c.length+mu p c*10001+1<=1099511627776->d.length+mu p c*10001+1<=1099511627776 ->
  cO (λO=>lW k O p a c d) λs o=>Rw w2 Ad s/\Rw w2 Ad o/\(∀r∈c,r∈s)/\s.length+mu p s*10001<=c.length+mu p c*10001+1/\o.length+c.length=d.length+s.length:=by
 intro k;induction k with
 |zero=>intro a c d _ _ _ H;omega
 |succ k V=>
  intro a c d w hs E H R N;refine l1s ?_;rw[show lW (k+1)=tT dL eu (lW k)from rfl];unfold tT;refine l1l (Jl (n:=1099511627776) (P:=Ad) ⟨by omega,hs⟩ (by omega)) λb J=>m1a (λe=>l1j ⟨hs,E,λ_ q=>q,by simp only;omega,by simp only<;>omega⟩) λe=>?_;have G:w2 a∉c:=λq=>by rw[J.2 q]at e;cases e
  have m:Rw w2 Ad (([]:LV)++c++[w2 a]):=(Rw.nil.app hs).app (Rw.one w);have g:∀r∈c,r∈(([]:LV)++c++[w2 a]):=λr f=>List.mem_append_left _ (List.mem_append_right _ f);have A:w2 a∈(([]:LV)++c++[w2 a]):=List.mem_append_right _ (List.mem_singleton.2 rfl);have hm:=LK (p:=p) g;refine m1f (BZ (n:=0) (by omega) (by omega)) (m1f (kp (by simp;omega) (by omega)) (l1h (Ra h w (by omega)) λl Z ⟨B,u⟩=>?_));have I:=B.1
  -- what the rounds have left
  have i:l≠[]->mu p (([]:LV)++c++[w2 a])+1<=mu p c:=λq=>LM g (u (.inl q)) G A;refine l1l (wh p0w (λx=>x.2.2.1=l/\x.2.2.2.2.1=p/\x.2.2.2.2.2=a/\(0<=x.2.2.2.1/\x.2.2.2.1<=l.length)/\Rw w2 Ad x.1/\Rw w2 Ad x.2.1/\(∀r∈(([]:LV)++c++[w2 a]),r∈x.1)/\x.1.length+mu p x.1*10001<=(c.length+1)+mu p (([]:LV)++c++[w2 a])*10001+x.2.2.2.1.toNat/\x.2.1.length+(c.length+1)=d.length+x.1.length) (λx=>(l.length-x.2.2.2.1).toNat) (Ex:=λr=>∃s o,r=(0,Ye (s,o,a))/\Rw w2 Ad s/\Rw w2 Ad o/\(∀r∈(([]:LV)++c++[w2 a]),r∈s)/\s.length+mu p s*10001<=(c.length+1)+mu p (([]:LV)++c++[w2 a])*10001+l.length/\o.length+(c.length+1)=d.length+s.length) ⟨rfl,rfl,rfl,by simp,m,E,λ_ q=>q,by simp,by simp<;>omega⟩ λx ⟨S,M,Q,X,C,D,z,g8,F⟩=>?_) λr ⟨s,o,f,t,v,k3,k4,k5⟩=>?_
  ·rw[S,M,Q];refine l1v (λe=>?_) λe=>l1m ⟨_,_,rfl,C,D,z,by omega,F⟩;have U:l≠[]:=by intro q;rw[q]at e;simp at e;omega
   have W:=i U;have L:=LK (p:=p) z;refine l1z (by omega) (l1l (a4 B.2 (by omega)) λy ⟨K,_⟩=>l1h (V y x.1 x.2.1 K C D (by omega) (by omega) (by omega)) λs o ⟨t,v,k3,k4,k5⟩=>l1y ⟨rfl,rfl,rfl,?_,t,v,λr f=>k3 r (z r f),?_,?_⟩ ?_)
   all_goals (simp only)
   ·rw[bC (by omega)];omega
   ·rw[bC (by omega)];omega
   ·omega
   ·rw[bC (by omega)];omega
  ·subst f;have j:s.length+mu p s*10001<=c.length+mu p c*10001+1:=by
    by_cases q:l=[];·rw[q]at k4;simp only[List.length_nil]at k4;omega
    ·have:=i q;omega
   refine l1x (x:=(s,o,a)) rfl (m1f (BZ (n:=0) (by simp only;omega) (by omega)) (m1f (kp (by simp only[List.nil_append];omega) (by omega)) (l1j ⟨t,(Rw.nil.app v).app (Rw.one w),λr f=>k3 r (g r f),j,?_⟩)));simp;omega
theorem Rf {p:U8}{a:U5}{n:Nat}(h:Ls n w6 Md p.n)(c:Ad a)(e:n<=100000000):An (λO=>eX O p a) λl=>Rw w2 Ad l/\l.length<=1099511627776:=by refine m1c ?_;unfold eX M7 dv;have d:mu p []<=n:=Nat.le_trans (List.length_filter_le _ _) h.1;refine l1h (y0s h e 1099511627776 a [] [] c Rw.nil Rw.nil (by omega) (by simp;omega) (by simp;omega)) λs o ⟨_,b,_,g,f⟩=>l1q ⟨b,?_⟩;simp at g f;omega
end Go.Am
end
section
set_option maxRecDepth 10000
namespace Go.Am
open Go
variable {T:Nat}
theorem x0o {p:U8}{n:Nat}{i:Nat}{m:U14}(f:p.n[i]?=some (w6 m)):An (λ_=>ie p.n (i:Int).toNat) λy=>y=m:=⟨_,rfl,λO k=>by rw[Int.toNat_natCast];show ie p.n i k=k m;unfold ie;exact dA (ks:=[.str,.str,.bool,.int .i64,.str]) (e:=(m.a,m.b,m.c,m.d,m.e,())) f rfl⟩
theorem x0v {p:U8}{a:U5}{n:Nat}(h:Ls n w6 Md p.n)(o:Ad a)(j:n<=100000000):An (λO=>qL O p a) tt:=by
 refine m1c ?_;unfold qL Mf;refine l1l (Rf h o j) λl ⟨g,f⟩=>l1l (wh yA (λx=>x.1=l/\x.2.2=p/\0<=x.2.1/\x.2.1<=l.length) (λx=>(l.length-x.2.1).toNat) (Ex:=λr=>r=(0,[])\/r=(1,lf false)) ⟨rfl,rfl,by simp,by simp⟩ λx ⟨s,t,u,v⟩=>?_) λr b=>?_
 ·rw[s,t];refine l1v (λe=>l1z (by omega) (l1l (a4 g (by omega)) λy _=>l1l (Fj h (by omega)) λk ⟨d,_⟩=>l1n (λ_=>l1m (.inr rfl)) λc=>?_)) λe=>l1m (.inl rfl);rcases d with rfl|⟨i,m,rfl,q,_⟩;·exact absurd (by decide) c
  refine m1b (by omega) (l1l (x0o (n:=0) q) λy _=>m1a (λ_=>l1m (.inr rfl)) λ_=>l1y ⟨rfl,rfl,?_,?_⟩ ?_)<;>simp only<;>rw[bC (by omega)]<;>omega
 ·rcases b with rfl|rfl;·exact l1r (l1q trivial)
  ·exact l1p (l1x (x:=false) rfl (l1q trivial))
theorem y0g {p:U8}{a:U5}{n:Nat}(h:Ls n w6 Md p.n)(C:Ad a)(w:n<=100000000):An (λO=>qX O p a) λb=>b=false -> ∀l,(∀O k,eX O p a k=k l) -> ∀y,w2 y∈l->uw p y:=by
 refine m1c ?_;unfold qX M8;obtain⟨l,⟨v,u⟩,e⟩:=Rf h C w;have F:∀d,(∀O k,eX O p a k=k d)->d=l:=λd H=>by have:=(H LV some).symm.trans (e LV some);injection this
 refine l1l (Q1:=λd=>d=l) ⟨l,rfl,e⟩ λd A=>?_;subst A;refine l1l (wh yA (λx=>x.1=d/\x.2.2=p/\(0<=x.2.1/\x.2.1<=d.length) /\ ∀i:Nat,(i:Int)<x.2.1 -> ∀y,d[i]?=some (w2 y)->uw p y) (λx=>(d.length-x.2.1).toNat) (Ex:=λr=>r=(0,[])/\(∀y,w2 y∈d->uw p y)\/r=(1,lf true)) ⟨rfl,rfl,by simp,λi h=>by simp at h;omega⟩ λx ⟨E,G,K,t⟩=>?_) λr s=>?_
 ·rw[E,G];refine l1v (λe=>l1z (by omega) (l1l (a4 v (by omega)) λy ⟨q,D⟩=>l1h (Ra h q (by omega)) λJ I ⟨_,j⟩=>m1a (λ_=>l1m (.inr rfl)) λB=>l1y ⟨rfl,rfl,?_,λi g z f=>?_⟩ ?_)) λe=>l1m (.inl ⟨rfl,λy q=>?_⟩);·simp only;rw[bC (by omega)];omega
  ·simp only at g;rw[bC (by omega)]at g;by_cases c:(i:Int)=x.2.1
   ·have:i=x.2.1.toNat:=by omega
    rw[this,D]at f;injection f with f;rw[<-zC f];exact j (.inr (by simpa using B))
   ·exact t i (by omega) z f
  ·simp only;rw[bC (by omega)];omega
  ·obtain⟨i,g⟩:=List.getElem?_of_mem q;have:=(bW g).1;exact t i (by omega) y g
 ·rcases s with⟨rfl,s⟩|rfl;·exact l1r (l1q λ_ o m=>by rw[F o m];exact s)
  ·exact l1p (l1x (x:=true) rfl (l1q (by simp)))
theorem Jk {a:U5}{n:Nat}(h:Pr n a)(f:n<=1099511627776):An (λO=>jg O a) (Sl 17):=by refine m1c ?_;unfold jg k0o;have i:=h.1;have j:=h.2;refine l1l (xH ⟨by omega,by omega⟩) λ_ c=>m1a (λ_=>l1q (by simp)) λe=>?_;have b:=c (by simpa using e);have g:=b.1;have d:=b.2;exact m1i (by simp<;>omega) (m1i (by simp<;>omega) (l1q (by simp<;>omega)))
theorem RY {p:U8}{s:LU}{n m k:Nat}(h:Pg T k n p)(hs:Sl m s)(b:1000<=n)(a:n<=m)(d:n<=100000000000):An (λO=>cd O p s) λq=>Pg T k m q/\q.n=p.n/\q.t=p.t:=by refine m1c ?_;unfold cd xU;have c:=h.lo.1;refine l1n (λe=>m1f (kp (by omega) (by omega)) (l1q ⟨h.lo' a ⟨?_,(h.lo.2.mono λ_ q=>Nat.le_trans q a).app (Rw.one (w:=V.str) hs)⟩,rfl,rfl⟩)) λ_=>l1q ⟨Pg.up (Nat.le_refl _) a h,rfl,rfl⟩;rw[aJ]at e;simp only[List.length_append,List.length_cons,List.length_nil];omega
theorem g1r {P:U14->Prop}{l:LV}{i:Nat}{m:U14}(a:l[i]?=some (w6 m)):An (λ_=>fO l (i:Int).toNat 4) λs=>s=m.e:=⟨_,rfl,λO k=>by rw[Int.toNat_natCast];show fO l i 4 k=_;unfold fO;exact d8 (ks:=[.str]) (e:=(m.e,())) a rfl⟩
theorem g1t {P:U5->Prop}{l:LV}(h:Rw w2 P l){i:Nat}(c:i<l.length):An (λ_=>fO l i 0) (λs=>∃y,P y/\s=y.a):=by obtain⟨y,b,d⟩:=h.get c;exact⟨y.a,⟨y,b,rfl⟩,λO k=>by show fO l i 0 k=_;unfold fO;exact d8 (ks:=[.str]) (e:=(y.a,())) d rfl⟩
theorem x0w {p:U8}{a:U5}{n k:Nat}(h:Pg T n k p)(ha:Ad a)(h0:10000<=k)(hn:n<=100000000/\k<=8000000000):An (λO=>qM O p a) (Pg T n k):=by
 refine m1c ?_;unfold qM Mg;refine l1l (sF h (by omega)) λy hy=>?_;subst hy;refine l1l (y0g h.mo ha hn.1) λb hb=>m1a (λ_=>l1l (Jk ha (by omega)) λs hs=>m1i (by simp<;>omega) (l1l (RY h (m:=k) (by simp<;>omega) (by omega) (by omega) (by omega)) λq hq=>l1q hq.1)) λe=>?_;obtain⟨l,⟨hl,hl1⟩,el⟩:=Rf h.mo ha hn.1;have hhas:=hb e l el;refine l1l (Q1:=λl'=>l'=l) ⟨l,rfl,el⟩ λl' e'=>?_;subst e';refine l1l (wh YQ (λx=>x.1=l'/\(0<=x.2.1/\x.2.1<=l'.length)/\Pg T n k x.2.2.2.2.2.2.2.2.2.2.2.2.2/\x.2.2.2.2.2.2.2.2.2.2.2.2.2.n=y.n) (λx=>(l'.length-x.2.1).toNat) (Ex:=λr=>∃z:CQ,r=(0,vu z)/\Pg T n k z.2.2.2.2.2.2.2.2.2.2.2) ⟨rfl,by simp,h,rfl⟩ λx ⟨h1,h2,h3,h4⟩=>?_) λr ⟨z,hr,hz⟩=>?_
 ·rw[h1];refine l1v (λe=>l1z (by omega) (l1l (a4 hl (by omega)) λy7 ⟨hy7,g7⟩=>l1l (Jl (n:=n) (P:=Ad) ⟨by have:=h3.ra.1;omega,h3.ra.2⟩ (by omega)) λb8 hb8=>m1a (λ_=>l1y ⟨rfl,?_,h3,h4⟩ ?_) λe8=>?_)) λe=>l1m ⟨_,rfl,h3⟩;·simp only;rw[bC (by omega)];omega
  ·simp only;rw[bC (by omega)];omega
  -- one more module is run
  have nin:w2 y7∉x.2.2.2.2.2.2.2.2.2.2.2.2.2.t:=λq=>by rw[hb8.2 q]at e8;cases e8
  have hm7:=hhas y7 (List.mem_of_getElem? g7);have hm7':uw x.2.2.2.2.2.2.2.2.2.2.2.2.2 y7:=by obtain⟨m,q1,q2⟩:=hm7;exact⟨m,by rw[h4];exact q1,q2⟩
  have hlt:=LM (p:=x.2.2.2.2.2.2.2.2.2.2.2.2.2) (s:=x.2.2.2.2.2.2.2.2.2.2.2.2.2.t) (s':=x.2.2.2.2.2.2.2.2.2.2.2.2.2.t++[w2 y7]) (λr hr=>List.mem_append_left _ hr) hm7' nin (List.mem_append_right _ (List.mem_singleton.2 rfl));have hra:=h3.ra.1;generalize hQ:x.2.2.2.2.2.2.2.2.2.2.2.2.2=Q at *;change oP Q.n (Q.t++[w2 y7])+1<=oP Q.n Q.t at hlt;have hq:Pg T n k {Q with t:=Q.t++[w2 y7]}:=h3.ra' (Nat.le_refl _) ⟨by simp only[List.length_append,List.length_cons,List.length_nil];omega,h3.ra.2.app (Rw.one hy7)⟩;have same:∀{y9:U5},l'[x.2.1.toNat]?=some (w2 y9)->y9=y7:=λg=>by rw[g7]at g;injection g with g;exact(zC g).symm
  refine l1z (by omega) (l1l (a4 hl (by omega)) λy9 ⟨_,g9⟩=>?_);rw[same g9];refine m1f (kp (by omega) (by omega)) (l1z (by omega) (l1l (a4 hl (by omega)) λy10 ⟨_,g10⟩=>?_));rw[same g10];refine l1z (by omega) (l1l (g1t hl (by omega)) λt13 ⟨y13,hy13,e13⟩=>?_);refine l1l (Fj (p:={Q with t:=Q.t++[w2 y7]}) hq.mo (by omega)) λkk ⟨hk,hk2⟩=>?_;obtain⟨i,m,rfl,hg,hm,hm2⟩:∃(i:Nat) (m:U14),kk=(i:Int)/\Q.n[i]?=some (w6 m)/\(⟨m.a,m.b⟩:U5)=y7/\Md m:=by
   rcases hk with rfl|hk;·exact absurd rfl (hk2 hm7')
   ·exact hk
  have hi:=(bW hg).1;refine l1z (by simpa using hi) (l1l (g1r (P:=tt) hg) λt12 e12=>l1i (d0i (m:=10000) (n:=1000) (by rw[e12];exact hm2.2.2) (by rw[e13];exact hy13.1) (by omega)) λl14 l15 b16 ⟨_,h15⟩=>l1l (d0g (p:={Q with t:=Q.t++[w2 y7]}) hq.sl (by omega)) λl17 h17=>l1i (d0f (b:=⟨Q.k,Q.l⟩) hq.bu h17 h15 (by omega) (by omega) (by omega)) λb18 t19 l20 ⟨h18,_,h20⟩=>?_);have h20':=h20.1;refine l1l (wh p0x (λz=>z.1=l'/\z.2.1=x.2.1/\z.2.2.1=l20/\(0<=z.2.2.2.1/\z.2.2.2.1<=l20.length)/\Pg T n k z.2.2.2.2.2.2.2.2.2.2.2.2.2.2.2/\z.2.2.2.2.2.2.2.2.2.2.2.2.2.2.2.n=y.n) (λz=>(l20.length-z.2.2.2.1).toNat) (Ex:=λr=>∃z:Jq,r=(0,vx z)/\z.1=l'/\z.2.1=x.2.1/\Pg T n k z.2.2.2.2.2.2.2.2.2.2.2.2.2/\z.2.2.2.2.2.2.2.2.2.2.2.2.2.n=y.n) ⟨rfl,rfl,rfl,by simp,hq.bu' h18,h4⟩ λz ⟨k1,k2,k3,k4,k5,k6⟩=>?_) λr ⟨z,hr,k1,k2,k3,k4⟩=>?_;·rw[k1,k2,k3];refine l1v (λe=>l1z (by omega) (l1l (a0 h20.2 (by omega)) λt22 ⟨h22,_⟩=>l1l (RY k5 (m:=k) (Nat.le_trans h22 (by omega)) (by omega) (Nat.le_refl _) (by omega)) λq ⟨q1,q2,_⟩=>l1y ⟨rfl,rfl,rfl,?_,q1,q2.trans k6⟩ ?_)) λe=>l1m ⟨_,rfl,rfl,rfl,k5,k6⟩<;>simp only<;>rw[bC (by omega)]<;>omega
  ·subst hr;refine l1x (x:=z) rfl ?_;rw[k1,k2];refine l1y ⟨rfl,?_,k3,k4⟩ ?_<;>simp only<;>rw[bC (by omega)]<;>omega
 ·subst hr;exact l1x (x:=z) rfl (l1q hz)
theorem k1c {p:U8}{n m:Nat}(h:Pg T n m p)(D:10000<=m)(v:n<=100000000/\m<=8000000000):cO (λO=>Gn O p) λq _=>Pg T n (m+400) q:=by
 refine l1s ?_;unfold Gn l0e;refine l1l (sF h (by omega)) λy F=>?_;subst F;have e:=Pg.up (m:=n) (m':=m+400) (by omega) (by omega) h;have B:∀{b:LV},Ls m wn (Ix y.m.length) b->y.r<b.length->0<=y.r->Tg (C:=Σ O:Type,U8->Bool->Option O) (T:=λc=>c.1) (λc=>ci y.r b (Is b y.r.toNat 0 λa=>fB (c0 a (pM y.m a.toNat λu=>br (u.g==1) (c0 a (pM y.m a.toNat λi=>iN _ y i.h false λo=>c.2 {o with r:=wi (y.r+1)} true)) (c.2 {y with r:=wi (y.r+1)} true))) λyP=>c0 a (pM y.m a.toNat λw=>br (!w.f) (c.2 y false) (gj _ y λx=>br (!x) (c.2 y false) yP)))) (λc (r:U8×Bool)=>c.2 r.1 r.2) (λr=>Pg T n (m+400) r.1):=λ{b} z H G=>by refine l1z (by omega) (l1l (a2 z.2 (by omega)) λa ⟨l,_⟩=>m1k (m1b l.1 (l1l (r8 h.sl.2 (by omega)) λu _=>m1a (λ_=>m1b l.1 (l1l (r8 h.sl.2 (by omega)) λi ⟨t,_⟩=>l1l (RX h (Sl.up (by omega) t.2.2.2) (by omega) (by omega)) λq k=>l1j (k.nu _ _ _ _ _))) λ_=>l1j (e.nu _ _ _ _ _))) λj s=>m1b l.1 (l1l (r8 h.sl.2 (by omega)) λw _=>m1a (λ_=>l1j e) λ_=>l1l (Ji h.sl (by omega)) λ_ _=>m1a (λ_=>l1j e) λ_=>s))
 refine m1e (l1l (x0t y) λ_ _=>m1a (λ_=>l1j e) λ_=>m1a (λ_=>l1j e) λ_=>l1n (λ_=>l1j e) λc1=>l1n (λ_=>l1j e) λc2=>l1l (x0u h.sl (by omega)) λb A=>l1v (λc3=>B A c3 (by omega)) λ_=>l1v (λc3=>m1b (by omega) (l1l (r7 h.en.2 (by omega)) λE ⟨d,_⟩=>l1l (x0v h.mo d v.1) λ_ _=>m1a (λ_=>l1j e) λ_=>l1l (Ji h.sl (by omega)) λ_ _=>m1a (λ_=>l1j e) λ_=>l1l (x0w h d D v) λq k=>l1j (Pg.up (by omega) (by omega) (k.nu _ _ _ _ _)))) λ_=>m1k (l1l (RY h (m:=m) (by simp<;>omega) (by omega) (Nat.le_refl _) (by omega)) λq k=>l1j (Pg.up (by omega) (by omega) (k.1.nu _ _ _ _ _))) λj s=>l1l (d1r h.sl (by omega)) λ_ _=>l1n (λ_=>l1j e) λ_=>l1l (d1s h.mo (by omega)) λ_ _=>l1n (λ_=>l1j e) λ_=>s)
theorem L8 {p:U8}{n m:Nat}(h:Pg T n m p)(o:10000<=m)(l:n<=90000000/\m<=7000000000):An (λO=>fX O p) (Pg T (n+4002) (m+800400)):=by
 refine m1c ?_;unfold fX k0u;refine l1l (sF h (by omega)) λy k=>?_;subst k;refine l1l (wh p0y (λx=>(0<=x.1/\x.1<=2000)/\Pg T (n+2*x.1.toNat) (m+400*x.1.toNat) x.2.2.2.2.2.2.2.2.2.2.2.2) (λx=>(2000-x.1).toNat) (Ex:=λr=>(∃z:CQ,r=(0,vu z)/\Pg T (n+4002) (m+800400) z.2.2.2.2.2.2.2.2.2.2.2) \/ ∃u v,r=(1,QP (u,v))/\Pg T (n+4002) (m+800400) u) ⟨by simp,?_⟩ λx ⟨t,d⟩=>?_) λr f=>?_;·exact Pg.up (by simp) (by simp) h
 ·have a:=Pg.up (m:=n+4002) (m':=m+800400) (by omega) (by omega) d;refine l1n (λe=>l1h (k1b d (by omega) (by omega)) λq b j=>m1a (λ_=>l1h (k1c d (by omega) (by omega)) λw s c=>m1a (λ_=>l1m (.inr ⟨_,_,rfl,a⟩)) λ_=>l1y ⟨?_,?_⟩ ?_) λ_=>m1a (λ_=>l1m (.inr ⟨_,_,rfl,a⟩)) λ_=>l1y ⟨?_,?_⟩ ?_) λ_=>l1m (.inl ⟨_,rfl,a⟩);·simp only;rw[bC (by omega)];omega
  ·refine Pg.up ?_ ?_ c<;>simp only<;>rw[bC (by omega)]<;>omega
  ·simp only;rw[bC (by omega)];omega
  ·simp only;rw[bC (by omega)];omega
  ·refine Pg.up ?_ ?_ j<;>simp only<;>rw[bC (by omega)]<;>omega
  ·simp only;rw[bC (by omega)];omega
 ·rcases f with⟨z,rfl,g⟩|⟨u,v,rfl,i⟩;·exact l1r (l1x (x:=z) rfl (l1q g))
  ·exact l1p (l1x (x:=(u,v)) rfl (l1q i))
end Go.Am
end
section
set_option maxRecDepth 10000
namespace Go.Am
open Go
variable {T:Nat}
theorem d1t {p:U8}{k:Int}{n:Nat}(h:Ls n w6 Md p.n)(f:Sl 1000 p.a)(i:n<=1099511627776):An (λO=>uv O p k) (Rq 0):=by refine m1c ?_;unfold uv l0i;have g:=h.1;refine l1l (iM _ _ _) λb d=>m1a (λ_=>l1q ⟨by simp,by simp,by simp,by simp⟩) λe=>?_;have:=lH d (by simpa using e) (by omega);exact m1b this.1 (l1l (r12 h.2 this.2) λy ⟨c,_⟩=>l1q ⟨c.1,c.2.1,f,by simp⟩)
theorem TI {p:U8}{n m:Nat}(h:Pg T n m p)(u:n<=100000000000/\m<=100000000000):An (λO=>eT O p) (Ls (n+m) w7 (Rq m)):=by
 refine m1c ?_;unfold eT k0v;refine l1l (d1r h.sl (by omega)) λl1 b=>l1l (wh P1 (λx=>x.2.1=l1/\(0<=x.2.2.1/\x.2.2.1<=l1.length)/\x.2.2.2=p/\x.1.length<=x.2.2.1/\Rw w7 (Rq m) x.1) (λx=>(l1.length-x.2.2.1).toNat) (Ex:=λr=>∃l,r=(0,Yf (l,p))/\Ls m w7 (Rq m) l) ⟨rfl,by simp,rfl,by simp,Rw.nil⟩ λx ⟨q,t,i,s,c⟩=>?_) λr ⟨l,g,f⟩=>?_
 ·rw[q,i];have j:=b.1;refine l1v (λe=>l1z (by omega) (l1l (a2 b.2 (by omega)) λk _=>l1l (z0d h.sl h.ad.1 (by omega)) λy a=>m1f (kp (by omega) (by omega)) (l1y ⟨rfl,?_,rfl,?_,c.app (Rw.one a)⟩ ?_))) λe=>l1m ⟨_,rfl,by omega,c⟩
  all_goals (simp only;rw[bC (by omega)])
  all_goals (try simp only[List.length_append,List.length_cons,List.length_nil])
  all_goals omega
 ·subst g;refine l1x (x:=(l,p)) rfl (l1l (d1s h.mo (by omega)) λo d=>l1l (wh P1 (λx=>x.2.1=o/\(0<=x.2.2.1/\x.2.2.1<=o.length)/\x.2.2.2=p/\x.1.length<=m+x.2.2.1/\Rw w7 (Rq m) x.1) (λx=>(o.length-x.2.2.1).toNat) (Ex:=λr=>∃l,r=(0,fo l)/\Ls (n+m) w7 (Rq m) l) ⟨rfl,by simp,rfl,?_,f.2⟩ λx ⟨q,t,i,s,c⟩=>?_) λr ⟨l,g,f⟩=>?_);·have:=f.1;simp;omega
  ·rw[q,i];have j:=d.1;refine l1v (λe=>l1z (by omega) (l1l (a2 d.2 (by omega)) λk _=>l1l (d1t h.mo h.ad.1 (by omega)) λy a=>m1f (kp (by omega) (by omega)) (l1y ⟨rfl,?_,rfl,?_,c.app (Rw.one ⟨a.1,a.2.1,a.2.2.1,Sl.up (by omega) a.2.2.2⟩)⟩ ?_))) λe=>l1m ⟨_,rfl,by omega,c⟩
   all_goals (simp only;rw[bC (by omega)])
   all_goals (try simp only[List.length_append,List.length_cons,List.length_nil])
   all_goals omega
  ·subst g;exact l1x (x:=l) rfl (l1q f)
theorem z0b {l:LV}{a:U5}{m n:Nat}(h:Svs m n l)(F:m<=1099511627776):An (λO=>uh O l a) (Re n):=by
 refine m1c ?_;unfold uh k0x kK Sy;have o:Re n ⟨404,1,[],0,false,[]⟩:=⟨by simp,by simp⟩;refine l1l (z0e h (by omega)) λk u=>l1n (λ_=>l1q o) λe=>?_;rcases u with rfl|⟨i,y,rfl,w,_⟩;·exact absurd (by decide) e
 have q:=(bW w).1;refine m1b (by omega) (l1l (r3 h.2 (by simpa using q)) λr ⟨p,A⟩=>l1l (d1u p (by omega)) λk4 f=>l1n (λ_=>l1q o) λv=>m1b (by omega) (l1l (r3 h.2 (by simpa using q)) λs ⟨C,b⟩=>?_));have q0q:s=r:=by rw[A]at b;simp only[aK,qC,V.agg.injEq,List.cons.injEq,V.str.injEq,V.sl.injEq]at b;obtain⟨c,d⟩:=r;obtain⟨D,E⟩:=s;simp at b;simp[b]
 rw[q0q];rcases f with rfl|⟨j,z,rfl,t,_⟩;·exact absurd (by decide) v
 have x:=(bW t).1;exact m1b (by omega) (l1l (r4 p.2.2 (by simpa using x)) λB ⟨g,_⟩=>l1q ⟨g.2.1,g.2.2⟩)
theorem y0h (x:U2)(k:Int):An (λO=>qY O x k) tt:=by refine m1c ?_;unfold qY NB;exact m1a (λ_=>l1q trivial) λ_=>m1a (λ_=>l1q trivial) λ_=>l1q trivial
theorem y0y {l:LV}{n:Nat}(h:Ls n wb tt l)(k:n<=1099511627000):An (λO=>q9 O l) (Ls (n+1) wn tt):=by
 refine m1c ?_;unfold q9 OA;have j:=h.1;refine l1l (wh Bd (λx=>x.1=l/\(0<=x.2.2/\x.2.2<=l.length)/\x.2.1.length<=x.2.2+1/\Rw wn tt x.2.1) (λx=>(l.length-x.2.2).toNat) (Ex:=λr=>∃m,r=(0,fo m)/\Ls (n+1) wn tt m) ⟨rfl,by simp,by simp,Rw.one (w:=wn) trivial⟩ λx ⟨g,c,i,a⟩=>?_) λr ⟨m,d,f⟩=>?_
 ·rw[g];refine l1v (λe=>m1b c.1 (l1l (r0 h.2 (by omega)) λb _=>m1f (kp (by omega) (by omega)) (l1y ⟨rfl,?_,?_,a.app (Rw.one (w:=wn) trivial)⟩ ?_))) λe=>l1m ⟨_,rfl,by omega,a⟩
  all_goals (simp only;rw[bC (by omega)])
  all_goals (try simp only[List.length_append,List.length_cons,List.length_nil])
  all_goals omega
 ·subst d;exact l1x (x:=m) rfl (l1q f)
theorem y0z (n m:Int):An (λO=>rC O n m) tt:=by
 refine m1c ?_;unfold rC OE;refine l1l (iM _ _ _) λb a=>m1a (λ_=>l1q trivial) λe=>?_;have:m≠0:=by rw[a]at e;simp at e;omega
 exact l1u this (l1u this (l1q trivial))
theorem k1g (a:Int):iP (Int.tmod a 2147483647):=by
 have b:(Int.tmod a 2147483647).natAbs=a.natAbs%2147483647:=by rw[Int.natAbs_tmod];rfl
 have c:=Nat.mod_lt a.natAbs (show 2147483647>0 by omega);exact⟨by omega,by omega⟩
theorem y0x {l:LV}{n:Nat}(h:Ls n wn tt l)(j:n<=1099511627776):An (λO=>q8 O l) iP:=by
 refine m1c ?_;unfold q8 N_;have i:=h.1;refine l1l (wh h0u (λx=>x.1=l/\(0<=x.2.2/\x.2.2<=l.length)/\iP x.2.1) (λx=>(l.length-x.2.2).toNat) (Ex:=λr=>∃m,r=(0,cY m)/\iP m) ⟨rfl,by simp,⟨by simp,by simp⟩⟩ λx ⟨f,a,g⟩=>?_) λr ⟨m,c,d⟩=>?_
 ·rw[f];refine l1v (λe=>m1b a.1 (l1l (r1 h.2 (by omega)) λb _=>l1l (y0z _ _) λ_ _=>l1y ⟨rfl,?_,k1g _⟩ ?_)) λe=>l1m ⟨_,rfl,g⟩
  all_goals (simp only;rw[bC (n:=x.2.2) (by omega)];omega)
 ·subst c;exact l1x (x:=m) rfl (l1q d)
theorem y0u {s:LU}(h:Sl 549755813888 s):An (λO=>qm O s) iP:=by
 refine m1c ?_;unfold qm Nl
 have c:Ls 549755813888 wb tt (iU s):=⟨by simp[iU];omega,λr d=>by
  obtain⟨b,_,rfl⟩:=List.mem_map.1 d
  exact⟨_,trivial,rfl⟩⟩
 refine l1l (y0y c (by omega)) λl a=>m1f (h0p ?_ (by omega)) (l1l (y0x (n:=1099511627776) ⟨?_,(Rw.one (w:=wn) trivial).app a.2⟩ (by omega)) λk e=>l1q e);·have:=a.1;simp;omega
 ·have:=a.1;simp;omega
theorem y0i {s v:LU}(h:Sl 549755813888 s):An (λO=>qZ O s v) tt:=by refine m1c ?_;unfold qZ NC;exact m1a (λ_=>l1q trivial) λ_=>l1l (y0u h) λn a=>l1l (Jo a) λ_ _=>l1q trivial
theorem RZ {p:U1}{r:U13}{x:U2}{n m:Nat}(h:Po n n p)(f:Rq m r)(d:Re 549755813888 x)(i:n<=1099511627776)(g:m<=1099511627776):An (λO=>fG O p r x) λv=>v=1->Re 10000 x:=by refine m1c ?_;unfold fG Mj;refine l1l (Jm h f i g) λ_ _=>m1a (λ_=>l1q (by simp)) λ_=>m1j (λb=>b=false->Re 10000 x) (λb c=>m1a (λ_=>l1q (by simp)) λe=>l1l (y0h _ _) λ_ _=>m1a (λ_=>l1q (by simp)) λ_=>m1j tt (λ_ _=>m1a (λ_=>l1q (by simp)) λ_=>l1l (y0i d.1) λ_ _=>m1a (λ_=>l1q (by simp)) λ_=>l1q λ_=>c e) λj a=>m1a (λ_=>m1a (λ_=>m1a (λ_=>a _ trivial) λ_=>a _ trivial) λ_=>a _ trivial) λ_=>a _ trivial) λj a=>l1l (CP d) λb c=>m1a (λ_=>a _ (by simp)) λe=>a _ λ_=>(c (by simpa using e)).1
theorem d0b {p:U1}{r:U13}{x:U2}{n m:Nat}(f:Po n n p)(a:Rq m r)(b:Re 549755813888 x)(g:n<=1099511627776)(c:m<=1099511627776):cO (λO=>jI O p r x) λt _=>Sl 10000 t:=by refine l1s ?_;unfold jI Mk;exact l1l (RZ f a b g c) λv d=>m1a (λ_=>l1j (by simp)) λe=>l1j (d (by simpa using e)).1
theorem x0x {p:U8}{k:Int}{x:U2}{n m:Nat}(h:Pg T m n p)(d:Re 549755813888 x)(u:10000<=n)(B:n<=100000000000/\m<=100000000000):An (λO=>qN O p k x) (Pg T m n):=by
 refine m1c ?_;unfold qN Mn;refine l1l (sF h (by omega)) λy w=>?_;subst w;have A:=h.sl.1;by_cases c:0<=k/\k<y.m.length;·refine m1k (l1l (z0d h.sl h.ad.1 (by omega)) λr a=>l1z (by omega) (l1l (fF (λy=>{y with f:=true}) h.sl.2 (by omega) (λ_ q=>q) λy=>⟨_,rfl,rfl⟩) λC ⟨E,k6,_⟩=>l1l (RZ h.po a d (by omega) (by omega)) λz _=>l1z (by omega) (l1l (fF (λy=>{y with g:=z}) k6 (by omega) (λ_ q=>q) λy=>⟨_,rfl,rfl⟩) λD ⟨F,k8,_⟩=>l1h (d0b h.po a d (by omega) (by omega)) λt _ l=>l1z (by omega) (l1l (fF (λy=>{y with h:=t}) k8 (by omega) (λy q=>⟨q.1,q.2.1,q.2.2.1,Nat.le_trans l u⟩) λy=>⟨_,rfl,rfl⟩) λs ⟨i,Y7,_⟩=>l1q (h.sl' (Nat.le_refl _) ⟨by omega,Y7⟩))))) λj o=>l1l (iM _ _ _) λ_ _=>m1a (λ_=>l1q h) λ_=>m1b c.1 (l1l (r8 h.sl.2 (by omega)) λG _=>m1a (λ_=>l1q h) λ_=>o)
 ·refine m1e (l1l (iM _ _ _) λb v=>m1a (λ_=>l1q h) λe=>?_);have:=lH v (by simpa using e) (by omega);omega
theorem k1e {p:U8}{a:U5}{x:U2}{n m:Nat}(h:Pg T m n p)(i:Re 549755813888 x)(o:10000<=n)(k:n<=100000000000/\m<=100000000000):An (λO=>Gt O p a x) (Pg T m n):=by
 refine m1c ?_;unfold Gt l0k;refine l1l (sF h (by omega)) λy s=>?_;subst s;have v:=h.sl.1;refine l1l (wh p0z (λz=>(0<=z.1/\z.1<=y.m.length)/\z.2.1=y/\z.2.2.1=a/\z.2.2.2.1=x/\Pg T m n z.2.2.2.2.2.2.2.2.2.2.2.2.2.2.2) (λz=>(y.m.length-z.1).toNat) (Ex:=λr=>∃z:CQ,r=(0,vu z)/\Pg T m n z.2.2.2.2.2.2.2.2.2.2.2) ⟨by simp,rfl,rfl,rfl,h⟩ λz ⟨d,l,k3,k4,k5⟩=>?_) λr ⟨z,f,g⟩=>?_;·rw[l,k3,k4];refine l1v (λe=>m1j (Pg T m n) (λq c=>l1y ⟨?_,rfl,rfl,rfl,c⟩ ?_) λj t=>m1k (l1y ⟨?_,rfl,rfl,rfl,k5⟩ ?_) λj2 b=>m1b d.1 (l1l (r8 h.sl.2 (by omega)) λw _=>m1a (λ_=>m1b d.1 (l1l (r8 h.sl.2 (by omega)) λu _=>m1a (λ_=>l1l (x0x k5 i o k) λq c=>t _ c) λ_=>b)) λ_=>b)) λ_=>l1m ⟨_,rfl,k5⟩<;>simp only<;>rw[bC (by omega)]<;>omega
 ·subst f;exact l1x (x:=z) rfl (l1q g)
end Go.Am
end
section
set_option maxRecDepth 10000
namespace Go.Am
open Go
variable {T:Nat}
theorem uns_w6 {s:LV}{m:U14}:Hm s (w6 m)↔w2 ⟨m.a,m.b⟩∉s:=by refine⟨λ⟨m',e,q⟩=>?_,λq=>⟨m,rfl,q⟩⟩;simp only[w6,V.agg.injEq,List.cons.injEq,V.str.injEq]at e;rw[e.1,e.2.1];exact q
theorem Se {s:LV}{m m':U14}(e:m'.a=m.a)(d:m'.b=m.b):zA s (w6 m')=zA s (w6 m):=by
 by_cases c:Hm s (w6 m);·rw[l0 c,l0 (uns_w6.2 (by rw[e,d];exact uns_w6.1 c))]
 ·rw[qA c,qA λq=>c (uns_w6.2 (by rw[<-e,<-d];exact uns_w6.1 q))]
theorem uM {s:LV}{m m':U14}(d:m'.a=m.a)(c:m'.b=m.b):∀{l:LV} {i:Nat},l[i]?=some (w6 m)->oP (l.set i (w6 m')) s=oP l s:=by
 intro l;unfold oP;induction l with
 |nil=>intro i h;simp
 |cons x l e=>
  intro i h;cases i with
  |zero =>simp only[List.getElem?_cons_zero,aK]at h;subst h;simp only[List.set_cons_zero,List.filter_cons,Se d c];split<;>rfl
  |succ i=>
   simp only[List.getElem?_cons_succ]at h;have:=e h;simp only[List.set_cons_succ,List.filter_cons];split;·simp[this]
   ·exact this
theorem k1d {p:U8}{a:U5}{x:U2}{n f:Nat}(h:Pg T n f p)(X:Ad a)(H:Re 549755813888 x)(h0:10000<=f)(hn:n<=90000000/\f<=100000000000):An (λO=>Gq O p a x) (Pg T (n+10000) f):=by
 refine m1c ?_;unfold Gq l0j;refine l1l (sF h (by omega)) λy Y=>?_;subst Y;have hl:=h.mo.1;have e:=Pg.up (m:=n+10000) (m':=f) (by omega) (by omega) h;refine l1l (Fj h.mo (by omega)) λk ⟨L,_⟩=>?_;rcases L with rfl|⟨i,m,rfl,Z,hm,Q⟩;·exact m1e (l1n (λ_=>l1q e) λq=>absurd (by decide) q)
 have I:=(bW Z).1;refine m1k (l1l (d1t h.mo h.ad.1 (by omega)) λr u=>l1z (by omega) (l1l (fF (λy=>{y with c:=true}) h.mo.2 (by simpa using I) (λ_ q=>q) λy=>⟨_,rfl,rfl⟩) λl6 ⟨h6,k6,D,g6,s6⟩=>l1l (RZ h.po u H (by omega) (by omega)) λJ _=>l1z (by omega) (l1l (fF (λy=>{y with d:=J}) k6 (by simp<;>omega) (λ_ q=>q) λy=>⟨_,rfl,rfl⟩) λl8 ⟨h8,k8,C,S,M⟩=>l1h (d0b h.po u H (by omega) (by omega)) λF _ N=>l1z (by omega) (l1l (fF (λy=>{y with e:=F}) k8 (by simp<;>omega) (λy q=>⟨q.1,q.2.1,N⟩) λy=>⟨_,rfl,rfl⟩) λo ⟨K,Y7,g,v,w⟩=>?_)))) λj R=>l1n (λ_=>l1q e) λ_=>m1b (by omega) (l1l (r12 h.mo.2 (by simpa using I)) λy3 _=>m1a (λ_=>l1q e) λ_=>R);have A:∀s,oP o s=oP y.n s:=λs=>by rw[w];refine Eq.trans (uM (m:=g) (m':={g with e:=F}) rfl rfl v) ?_;rw[M];refine Eq.trans (uM (m:=C) (m':={C with d:=J}) rfl rfl S) ?_;rw[s6];exact uM (m:=D) (m':={D with c:=true}) rfl rfl g6
 have G:Pg T n f {y with n:=o}:=h.mo' (Nat.le_refl _) ⟨by omega,Y7⟩ (by rw[A];exact h.ra.1);refine l1h (Ra G.mo X (by omega)) λl b ⟨t,_⟩=>l1l (wh YQ (λx=>x.1=l/\(0<=x.2.1/\x.2.1<=l.length)/\Pg T (n+x.2.1.toNat) f x.2.2.2.2.2.2.2.2.2.2.2.2.2) (λx=>(l.length-x.2.1).toNat) (Ex:=λr=>∃z:CQ,r=(0,vu z)/\Pg T (n+10000) f z.2.2.2.2.2.2.2.2.2.2.2) ⟨rfl,by simp,by simpa using G⟩ λx ⟨P,h2,E⟩=>?_) λr ⟨z,u,V⟩=>?_;·rw[P];have U:=t.1;refine l1v (λe=>l1z (by omega) (l1l (a4 t.2 (by omega)) λaa ⟨B,_⟩=>l1l (d0c E B (by omega)) λq W=>l1y ⟨rfl,?_,Pg.up ?_ (Nat.le_refl _) W⟩ ?_)) λ_=>l1m ⟨_,rfl,Pg.up (by omega) (Nat.le_refl _) E⟩<;>simp only<;>rw[bC (by omega)]<;>omega
 ·subst u;exact l1x (x:=z) rfl (l1q V)
theorem L9 {p:U8}{a:U5}{x:U2}{n m:Nat}(h:Pg T n m p)(e:Ad a)(c:Re 549755813888 x)(d:10000<=m)(f:n<=80000000/\m<=6000000000):An (λO=>fY O p a x) (Pg T (n+20000) (m+810400)):=by refine m1c ?_;unfold fY k0w;exact l1l (k1e h c d (by omega)) λq b=>l1l (k1d b e c d (by omega)) λq b=>l1l (L8 b (by omega) (by omega)) λq b=>l1q (Pg.up (by omega) (by omega) b)
theorem H5 {n:Nat}{l:LV}(h:Rw w7 (Rq n) l){i:Nat}(d:i<l.length):An (λ_=>oN l i 1) Ad:=by obtain⟨y,a,f⟩:=h.get d;exact⟨⟨y.b,y.c⟩,⟨a.1,a.2.1⟩,λO k=>by show oN l i 1 k=_;unfold oN;exact d8 (ks:=[.str,.str]) (e:=(y.b,y.c,())) f rfl⟩
theorem z0a {c:U0}(h:Cu c):AS (λO=>cn O c) λp _ y=>Pg 200100 200000 5100000 p/\Cu y:=by
 refine l1w ?_;unfold cn C3;refine l1h (i0f h) λs y ⟨hs,h⟩=>l1h (d1p h) λq y ⟨d,h⟩=>l1h (xI 2 h) λb y h=>m1a (λ_=>l1l (L8 d (by omega) (by omega)) λq i=>?_) λ_=>?_;rotate_left;have i:=Pg.up (m:=4002) (m':=1030400) (by omega) (by omega) d
 all_goals (refine l1h (kW 6 h) λE D ⟨v,h⟩=>l1l (wh q0a (λx=>x.1=s/\(0<=x.2.1/\x.2.1<=5)/\Pg 200100 (4002+20000*(5-x.2.1.toNat)) (1030400+810400*(5-x.2.1.toNat)) x.2.2.2.2.2.2.2.2.2.2.2.2.2.1/\Cu x.2.2.2.2.2.2.2.2.2.2.2.2.2.2) (λx=>x.2.1.toNat) (Ex:=λr=>∃z:SI,r=(0,QQ z)/\Pg 200100 200000 5100000 z.2.2.2.2.2.2.2.2.2.2.2.2.1/\Cu z.2.2.2.2.2.2.2.2.2.2.2.2.2) ⟨rfl,by simp only;omega,Pg.up (by omega) (by omega) i,h⟩ λx ⟨C,F,g,j⟩=>?_) λr ⟨z,n,f,o⟩=>?_)
 any_goals (subst n;refine l1x (x:=z) rfl (l1h (kW 24 o) λ_ y ⟨_,h⟩=>m1a (λ_=>l1h (Fm (P:=tt) h (Rw.cons (w:=wn) trivial (Rw.cons (w:=wn) trivial (Rw.one (w:=wn) trivial))) (by simp)) λ_ _ h=>l1k ⟨f.nu _ _ _ _ _,h.2⟩) λ_=>m1a (λ_=>l1h (Fm (P:=tt) h (Rw.cons (w:=wn) trivial (Rw.cons (w:=wn) trivial (Rw.one (w:=wn) trivial))) (by simp)) λ_ _ h=>l1k ⟨f.nu _ _ _ _ _,h.2⟩) λ_=>m1a (λ_=>l1k ⟨f.nu _ _ _ _ _,h⟩) λ_=>l1k ⟨f,h⟩))
 all_goals (rw[C];refine l1n (λe=>l1l (TI g (by omega)) λl u=>l1n (λt=>l1h (kW _ j) λm y ⟨B,h⟩=>?_) λ_=>l1y ⟨rfl,?_,Pg.up ?_ ?_ g,j⟩ ?_) λ_=>l1m ⟨_,rfl,Pg.up (by omega) (by omega) g,j⟩)
 any_goals (simp only;rw[lU (by omega)];omega)
 all_goals (rw[aJ]at B t;refine l1z (by omega) (l1l (H5 u.2 (by omega)) λa A=>l1l (z0b hs.1 (by omega)) λx k=>l1l (L9 g A ⟨Nat.le_trans k.1 (by omega),Nat.le_trans k.2 (by omega)⟩ (by omega) (by omega)) λq i=>l1y ⟨rfl,?_,Pg.up ?_ ?_ i,h⟩ ?_)<;>simp only<;>rw[lU (by omega)]<;>omega)
end Go.Am
end
section
set_option maxRecDepth 10000
namespace Go.Am
open Go
abbrev x0n (y:U18):U8:=⟨y.c,y.d,y.e,y.f,y.g,y.h,y.i,y.j,y.k,y.l,y.m,y.n,y.o,y.p,y.q,y.r,y.s,y.t,y.u,y.v,y.w,y.x⟩
abbrev PG (p:U8):Prop:=Pg 500000 30000000 2000000000 p
abbrev Vi (y:U18):Prop:=PG (x0n y)/\Ad ⟨y.a,y.b⟩
abbrev Tb (t:U17):Prop:=t.a.length<=7/\Rw w9 Vi t.a
theorem JZ {l:LV}{i:Nat}{y:U18}(A:l[i]?=some (w9 y)):An (λ_=>jw l i) λz=>z=y:=⟨_,rfl,λO k=>by show jw l i k=k y;unfold jw;exact dA (ks:=[.str,.str,.str,.str,.bool,.sl 1 true,.sl 1 true,.sl 1 true,.str,.str,.sl 4 false,.bool,.sl 4 false,.sl 1 true,.sl 8 true,.sl 5 true,.sl 2 true,.int .i64,.int .i64,.int .i64,.int .i64,.sl 2 true,.sl 1 true,.bool,.bool]) (e:=(y.a,y.b,y.c,y.d,y.e,y.f,y.g,y.h,y.i,y.j,y.k,y.l,y.m,y.n,y.o,y.p,y.q,y.r,y.s,y.t,y.u,y.v,y.w,y.x,y.y,())) A rfl⟩
theorem d1l {c:U0}(h:Cu c):cO (λO=>eh O c) λt y=>Sl 10 t/\Cu y:=by refine l1s ?_;unfold eh DJ;exact l1h (i0g (P:=Sl 10) h (by repeat first|exact Rw.nil|refine Rw.cons (by decide) ?_) (by simp)) λt y a=>l1j a
theorem d1k {c:U0}(h:Cu c):cO (λO=>gO O c) λp y=>PG p/\Cu y:=by refine l1s ?_;unfold gO xV;exact l1i (z0a h) λp _ y ⟨b,h⟩=>have a:=(Pg.up (m:=30000000) (m':=2000000000) (by omega) (by omega) b).ut (T':=500000) (by omega);l1h (d1l h) λt y ⟨d,h⟩=>l1j ⟨⟨⟨a.ad.1,Sl.up (by omega) d⟩,a.po,a.tok,a.qu,a.bu,a.sl,a.mo,a.en,a.ra,a.lo⟩,h⟩
theorem L6 {t:U17}(h:Tb t):An (λO=>bq O t) λr=>r=t:=by
 refine m1c ?_;unfold bq NH;have o:=h.1;refine l1l (wh YS (λx=>x.2.1=t/\(0<=x.1/\x.1<=t.a.length)/\x.2.2.2=⟨t.a.take x.1.toNat,t.b⟩) (λx=>(t.a.length-x.1).toNat) (Ex:=λr=>∃n,r=(0,uD (n,t))) ⟨rfl,by simp,rfl⟩ λx ⟨m,f,j⟩=>?_) λr ⟨n,g⟩=>?_
 ·rw[m,j];refine l1v (λe=>?_) λe=>l1m ⟨_,by rw[List.take_of_length_le (by omega)]⟩;obtain⟨y,l,d⟩:=h.2.get (show x.1.toNat<t.a.length by omega);refine m1b f.1 (l1l (JZ d) λz i=>m1b f.1 (l1l (JZ d) λz1 c=>?_));subst i;subst c;refine l1l (sF l.1 (by omega)) λq k=>?_;subst k;refine m1f (by simp;omega) (l1y ⟨rfl,?_,?_⟩ ?_);·simp only;rw[bC (by omega)];omega
  ·simp only;rw[bC (by omega),take1 f.1 d]
  ·simp only;rw[bC (by omega)];omega
 ·subst g;exact l1x (x:=(n,t)) rfl (l1q rfl)
theorem z0c (a b:Int):An (λO=>fI O a b) λr=>(r=a\/r=b)/\a<=r/\b<=r:=by refine m1c ?_;unfold fI NI;exact l1n (λe=>l1q ⟨.inr rfl,by omega,by omega⟩) λe=>l1q ⟨.inl rfl,by omega,by omega⟩
theorem d1n {t:U17}{p:U8}(h:Tb t)(w:PG p):An (λO=>jM O t p) Tb:=by
 refine m1c ?_;unfold jM Mq;have D:=h.1;refine l1l (L6 h) λy z=>?_;subst z;refine l1l (i0h _ _) λC ⟨_,_,H⟩=>l1l (i0h _ _) λG ⟨_,B,_⟩=>l1l (z0c _ _) λA ⟨F,E,_⟩=>?_;rw[aJ]at B;refine m1g (by rw[aJ];omega) (l1l (sF w (by omega)) λq x=>?_);subst x;have k:Rw w9 Vi (((y.a.take A.toNat).drop 0)++[w9 ⟨q.a,q.b,q.a,q.b,q.c,q.d,q.e,q.f,q.g,q.h,q.i,q.j,q.k,q.l,q.m,q.n,q.o,q.p,q.q,q.r,q.s,q.t,q.u,q.v,true⟩]):=((h.2.take _).drop _).app (Rw.one ⟨w,w.ad⟩);refine m1f (by simp;omega) (l1n (λe=>m1g ?_ (l1q ⟨?_,(k.take _).drop _⟩)) λe=>l1q ⟨?_,k⟩);·rw[aJ]at e ⊢;omega
 ·simp[aJ];omega
 ·rw[aJ]at e;simp at e ⊢;omega
theorem d1o {t:U17}{k:Int}(h:Tb t):cO (λO=>jN O t k) λr _=>Tb r:=by refine l1s ?_;unfold jN Mr;refine l1l (L6 h) λy a=>?_;subst a;exact m1a (λ_=>m1a (λ_=>l1j h) λ_=>l1l (iM _ _ _) λ_ _=>m1a (λ_=>l1j h) λ_=>l1l (iM _ _ _) λ_ _=>m1a (λ_=>l1j h) λ_=>l1j h) λ_=>l1l (iM _ _ _) λ_ _=>m1a (λ_=>l1j h) λ_=>l1l (iM _ _ _) λ_ _=>m1a (λ_=>l1j h) λ_=>l1j h
theorem d1m:An (λO=>jL O) Tb:=by refine m1c ?_;unfold jL Mp;exact l1q ⟨by simp,Rw.nil⟩
theorem j1x {c:U0}(h:Cu c):cO (λO=>k_ O c) λt y=>Tb t/\Cu y:=by
 refine l1s ?_;unfold k_ DM;refine l1l d1m λy m=>l1h (Fm (P:=λn=>0<=n/\n<=7) h (by repeat first|exact Rw.nil|refine Rw.cons (w:=wn) (by omega) ?_) (by simp)) λn c ⟨k,h⟩=>l1l (wh q0e (λx=>(0<=x.1/\x.1<=7)/\Tb x.2.2.1/\Cu x.2.2.2) (λx=>x.1.toNat) (Ex:=λr=>∃z:SP,r=(0,Yg z)/\Tb z.2.1/\Cu z.2.2) ⟨k,m,h⟩ λx ⟨o,g,d⟩=>?_) λr ⟨z,i,j⟩=>?_;·refine l1n (λe=>l1h (d1k d) λp c ⟨l,h⟩=>l1l (d1n g l) λt f=>l1h (xI 4 h) λb c h=>m1a (λ_=>l1h (d1o f) λq _ a=>l1y ⟨?_,a,h⟩ ?_) λ_=>l1y ⟨?_,f,h⟩ ?_) λ_=>l1m ⟨_,rfl,g,d⟩<;>(try simp only)<;>rw[lU (by omega)]<;>omega
 ·subst i;exact l1x (x:=z) rfl (l1j j)
theorem b1c {c:U0}(h:Cu c):cO (λO=>cw O c) λs y=>Sl 10 s/\Cu y:=by refine l1s ?_;unfold cw C_;exact l1h (oM 10 h rfl (by simp)) λt y a=>l1j a
theorem L7 {c:U0}(h:Cu c):cO (λO=>ak O c) λa y=>Pr 10 a/\Cu y:=by refine l1s ?_;unfold ak DA;exact l1h (b1c h) λs y ⟨hs,h⟩=>l1h (d1l h) λt y ⟨b,h⟩=>l1j ⟨⟨hs,b⟩,h⟩
theorem d1j {c:U0}(h:Cu c):cO (λO=>eZ O c) λt y=>Tb t/\Cu y:=by
 refine l1s ?_;unfold eZ DC;refine l1h (j1x h) λt y ⟨d,h⟩=>l1h (kW _ h) λn y ⟨_,h⟩=>m1a (λ_=>l1h (Fm (P:=tt) h (by repeat first|exact Rw.nil|refine Rw.cons (w:=wn) trivial ?_) (by simp)) λ_ y ⟨_,h⟩=>l1j ⟨d,h⟩) λ_=>m1a (λ_=>l1n (λe=>l1h (L7 h) λa y ⟨g,h⟩=>l1z ?_ (l1l (fF (λz=>{z with a:=a.a,b:=a.b}) d.2 ?_ (λ_ q=>⟨q.1,Pr.up (by omega) g⟩) λz=>⟨_,rfl,rfl⟩) λl ⟨f,k6,_⟩=>l1j ⟨⟨?_,k6⟩,h⟩)) λ_=>l1j ⟨d,h⟩) λ_=>m1a (λ_=>l1n (λe=>l1z ?_ (l1l (fF (λz=>{z with y:=false}) d.2 ?_ (λ_ q=>q) λz=>⟨_,rfl,rfl⟩) λl ⟨f,k6,_⟩=>l1j ⟨⟨?_,k6⟩,h⟩)) λ_=>l1j ⟨d,h⟩) λ_=>l1j ⟨d,h⟩
 all_goals (have:=d.1;rw[aJ]at e;(try simp only);omega)
theorem Rj {a:LV}(h:Rw wb tt a)(d:a.length<=1048576):An (λO=>au O a) Cu:=by
 refine m1c ?_;unfold au C2;refine l1l (wh h0u (λx=>x.1=a/\(0<=x.2.2/\x.2.2<=a.length)) (λx=>(a.length-x.2.2).toNat) (Ex:=λr=>∃n,r=(0,HC (a,n))) ⟨rfl,by simp⟩ λx ⟨c,f⟩=>?_) λr ⟨n,b⟩=>?_;·rw[c];refine m1e (l1v (λe=>m1a (λ_=>m1b f.1 (l1l (r0 h (by omega)) λn _=>l1y ⟨rfl,?_⟩ ?_)) λ_=>l1m ⟨_,rfl⟩) λ_=>l1m ⟨_,rfl⟩)<;>simp only<;>rw[bC (n:=x.2.2) (by omega)]<;>omega
 ·subst b;exact l1x (x:=(a,n)) rfl (l1q ⟨h,by simp,by simp,d⟩)
end Go.Am
end
