/-
  Proved: lemmas for Rows.FnFormatsCardSaid.
-/
import Derived.Test.YtmkhgngckgcpeaaGreatDooruV4
set_option linter.all false
section
namespace Go.Am
open Go
variable {T:Nat}
theorem r5 {P:U9->Prop}{l:LV}(h:Rw w1 P l){i:Nat}(g:i<l.length):An (λ_=>S_ l i) (λy=>P y/\l[i]?=some (w1 y)):=h.ix (f:=S_) (λ_ l i y k h=>by unfold S_;exact dA (ks:=[.int .i64,.str,.sl 2 true,.str]) (e:=(y.a,y.b,y.c,y.d,())) h rfl) g
theorem r6 {P:U6->Prop}{l:LV}(h:Rw w0 P l){i:Nat}(g:i<l.length):An (λ_=>Ep l i) (λy=>P y/\l[i]?=some (w0 y)):=h.ix (f:=Ep) (λ_ l i y k h=>by unfold Ep;exact dA (ks:=[.str,.str,.int .i64,.sl 2 true]) (e:=(y.a,y.b,y.c,y.d,())) h rfl) g
theorem r7 {P:U5->Prop}{l:LV}(h:Rw w2 P l){i:Nat}(c:i<l.length):An (λ_=>Qd l i) (λy=>P y/\l[i]?=some (w2 y)):=h.ix (f:=Qd) (λ_ l i y k h=>by unfold Qd;exact dA (ks:=[.str,.str]) (e:=(y.a,y.b,())) h rfl) c
theorem r8 {P:U10->Prop}{l:LV}(h:Rw w5 P l){i:Nat}(j:i<l.length):An (λ_=>pM l i) (λy=>P y/\l[i]?=some (w5 y)):=h.ix (f:=pM) (λ_ l i y k h=>by unfold pM;exact dA (ks:=[.int .i64,.str,.str,.str,.int .i64,.bool,.int .i64,.str]) (e:=(y.a,y.b,y.c,y.d,y.e,y.f,y.g,y.h,())) h rfl) j
theorem r12 {P:U14->Prop}{l:LV}(h:Rw w6 P l){i:Nat}(g:i<l.length):An (λ_=>ie l i) (λy=>P y/\l[i]?=some (w6 y)):=h.ix (f:=ie) (λ_ l i y k h=>by unfold ie;exact dA (ks:=[.str,.str,.bool,.int .i64,.str]) (e:=(y.a,y.b,y.c,y.d,y.e,())) h rfl) g
abbrev Ls {U:Type}(n:Nat)(w:U->V)(P:U->Prop)(l:LV):Prop:=l.length<=n/\Rw w P l
abbrev Pr (n:Nat)(y:U5):Prop:=Sl n y.a/\Sl n y.b
abbrev Tk (n:Nat)(y:U9):Prop:=Sl n y.b/\Ls n w2 (Pr n) y.c/\Sl n y.d
abbrev Nd (n:Nat)(y:U6):Prop:=Sl n y.a/\Sl n y.b/\Ls n w2 (Pr n) y.d
abbrev Ad (y:U5):Prop:=Pr 1000 y
abbrev Sr (n:Nat)(y:U10):Prop:=Sl 1000 y.b/\Sl 1000 y.c/\Sl n y.d/\Sl n y.h
abbrev Md (y:U14):Prop:=Sl 1000 y.a/\Sl 1000 y.b/\Sl 10000 y.e
abbrev Bi (n:Nat)(b:U7):Prop:=Ls 40 w0 (Nd n) b.a/\Ls n wn tt b.b
def Hm (c:LV)(r:V):Prop:=∃m:U14,r=w6 m/\w2 ⟨m.a,m.b⟩∉c
open Classical in
noncomputable def zA (a:LV)(r:V):Bool:=decide (Hm a r)
theorem l0 {s:LV}{r:V}(h:Hm s r):zA s r=true:=by unfold zA;simp only[decide_eq_true_eq];exact h
theorem qA {s:LV}{r:V}(h:¬Hm s r):zA s r=false:=by unfold zA;simp only[decide_eq_false_iff_not];exact h
noncomputable def oP (l a:LV):Nat:=(l.filter (zA a)).length
theorem Ew {l s s':LV}(h:∀r∈s,r∈s'):oP l s'<=oP l s:=by
 unfold oP;induction l with
 |nil=>simp
 |cons x l a=>
  simp only[List.filter_cons];by_cases c:Hm s' x
  ·have c2:Hm s x:=by obtain⟨m,b,d⟩:=c;exact⟨m,b,λq=>d (h _ q)⟩
   rw[if_pos (l0 c),if_pos (l0 c2)];simp;exact a
  ·rw[if_neg (by rw[qA c];simp)];split;·simp;omega
   ·exact a
theorem zn (a b s:LV):oP (a++b) s=oP a s+oP b s:=by unfold oP;rw[List.filter_append,List.length_append]
theorem I9 (x:V)(s:LV):oP [x] s<=1:=by unfold oP;simp only[List.filter_cons,List.filter_nil];split<;>simp
structure Pg (T n m:Nat) (p:U8):Prop where
  ad:Ad ⟨p.a,p.b⟩
  po:Po m m ⟨p.c,p.d,p.e,p.f,p.g⟩
  tok:Sl T p.h
  qu:Ls m w1 (Tk m) p.i
  bu:Bi m ⟨p.k,p.l⟩
  sl:Ls m w5 (Sr m) p.m
  mo:Ls n w6 Md p.n
  en:Ls n w2 Ad p.o
  ra:p.t.length+oP p.n p.t<=n/\Rw w2 Ad p.t
  lo:Tx m m p.u
section
variable {n m:Nat}(h:n<=m)
include h
theorem Ls.up {U:Type}{w:U->V}{P b:U->Prop}{l:LV}(a:Ls n w P l)(c:∀y,P y->b y):Ls m w b l:=⟨Nat.le_trans a.1 h,a.2.mono c⟩
theorem Sl.up {s:LU}(hs:Sl n s):Sl m s:=Nat.le_trans hs h
theorem Pr.up {y:U5}(a:Pr n y):Pr m y:=⟨Sl.up h a.1,Sl.up h a.2⟩
theorem Tk.up {y:U9}(a:Tk n y):Tk m y:=⟨Sl.up h a.1,Ls.up h a.2.1 λ_=>Pr.up h,Sl.up h a.2.2⟩
theorem Nd.up {y:U6}(a:Nd n y):Nd m y:=⟨Sl.up h a.1,Sl.up h a.2.1,Ls.up h a.2.2 λ_=>Pr.up h⟩
theorem Sr.up {y:U10}(a:Sr n y):Sr m y:=⟨a.1,a.2.1,Sl.up h a.2.2.1,Sl.up h a.2.2.2⟩
theorem Bi.up {y:U7}(a:Bi n y):Bi m y:=⟨⟨a.1.1,a.1.2.mono λ_=>Nd.up h⟩,Ls.up h a.2 λ_ q=>q⟩
theorem Pg.up {c m':Nat}(b:c<=m'){p:U8}(a:Pg T n c p):Pg T m m' p:=⟨a.ad,a.po.mono b b,a.tok,Ls.up b a.qu λ_=>Tk.up b,Bi.up b a.bu,Ls.up b a.sl λ_=>Sr.up b,Ls.up h a.mo λ_ q=>q,Ls.up h a.en λ_ q=>q,⟨Nat.le_trans a.ra.1 h,a.ra.2⟩,a.lo.mono b b⟩
end
theorem Pg.ut {T T' n m:Nat}(h:T<=T'){p:U8}(a:Pg T n m p):Pg T' n m p:=⟨a.ad,a.po,Sl.up h a.tok,a.qu,a.bu,a.sl,a.mo,a.en,a.ra,a.lo⟩
theorem Ls.nil {U:Type}{n:Nat}{w:U->V}{P:U->Prop}:Ls n w P []:=⟨Nat.zero_le _,Rw.nil⟩
theorem BZ {l:LV}{n k:Nat}(h:l.length<=1099511627776)(a:k<=100):(([]:LV).length+l.length)*k<=140737488355328/\([]:LV).length+l.length<=140737488355328:=by have:=Nat.mul_le_mul h a;simp only[List.length_nil,Nat.zero_add];omega
theorem j1y {p:U1}{n:Nat}(h:Po n n p)(a:n<=1099511627776):An (λO=>qF O p) λr=>r=p:=by refine m1c ?_;unfold qF MV;exact m1f (BZ (n:=0) (by have:=h.1.1;omega) (by omega)) (m1f (BZ (n:=0) (by have:=h.2.1.1;omega) (by omega)) (m1f (BZ (n:=0) (by have:=h.2.2.1.1;omega) (by omega)) (l1q (by simp))))
theorem i0e {l:LV}(h:l.length<=1099511627776):An (λO=>fH O l) λr=>r=l:=by refine m1c ?_;unfold fH M1;exact m1f (BZ (n:=0) h (by omega)) (l1q (by simp))
theorem take1 {l:LV}{i:Int}{v:V}(a:0<=i)(h:l[i.toNat]?=some v):l.take (i+1).toNat=l.take i.toNat++[v]:=by rw[show(i+1).toNat=i.toNat+1 by omega,List.take_add_one,h];rfl
theorem kp {a:LV}{v:V}{k:Nat}(h:a.length<=1099511627776)(b:k<=100):(a.length+[v].length)*k<=140737488355328/\a.length+[v].length<=140737488355328:=by have:=Nat.mul_le_mul (show a.length+1<=1099511627777 by omega) b;simp only[List.length_cons,List.length_nil,Nat.zero_add];omega
theorem i0n {n:Int}(h:0<=n)(a:n<=1099511627776):(wi (n+1)).toNat=(n+1).toNat:=by rw[bC (by omega)]
theorem j1z {l:LV}{n:Nat}(h:Ls n w1 (Tk n) l)(k:n<=1099511627776):An (λO=>qG O l) λr=>r=l:=by
 refine m1c ?_;unfold qG MW;have t:=h.1;refine l1l (wh Bd (λx=>x.1=l/\x.2.1=l.take x.2.2.toNat/\0<=x.2.2/\x.2.2<=l.length) (λx=>(l.length-x.2.2).toNat) (Ex:=λr=>r=(0,fo l)) ⟨rfl,by simp,by simp,by simp⟩ λx ⟨p,q,d,u⟩=>?_) λr i=>?_
 ·rw[p,q];refine l1v (λe=>m1b d (l1l (r5 h.2 (by omega)) λy ⟨v,g⟩=>m1b d (l1l (r5 h.2 (by omega)) λs ⟨f,b⟩=>l1l (i0e (Nat.le_trans f.2.1.1 k)) λa o=>m1f (kp (by rw[List.length_take];omega) (by omega)) (l1y ⟨rfl,?_,?_,?_⟩ ?_)))) λe=>l1m (by rw[List.take_of_length_le (by omega)])
  ·have j:w1 {y with c:=a} = w1 y:=by rw[g]at b;injection b with b;simp only[w1,V.agg.injEq,List.cons.injEq,V.sl.injEq]at b;subst o;simp only[w1,b.2.2.1.2.2]
   simp only;rw[i0n d (by omega),take1 d g,j]
  ·simp only;rw[bC (by omega)];omega
  ·simp only;rw[bC (by omega)];omega
  ·simp only;rw[bC (by omega)];omega
 ·subst i;exact l1x (x:=l) rfl (l1q rfl)
theorem i0d {b:U7}{n:Nat}(h:Bi n b)(l:n<=1099511627776):An (λO=>dX O b) λr=>r=b:=by
 refine m1c ?_;unfold dX MX;have t:=h.1.1;refine m1f (BZ (n:=0) (by have:=h.2.1;omega) (by omega)) (l1l (wh p0h (λx=>x.2.1=b/\x.2.2=⟨b.a.take x.1.toNat,b.b⟩/\0<=x.1/\x.1<=b.a.length) (λx=>(b.a.length-x.1).toNat) (Ex:=λr=>r=(0,IX b)) ⟨rfl,by simp,by simp,by simp⟩ λx ⟨p,q,f,u⟩=>?_) λr j=>?_)
 ·rw[p,q];refine l1v (λe=>m1b f (l1l (r6 h.1.2 (by omega)) λy ⟨v,i⟩=>m1b f (l1l (r6 h.1.2 (by omega)) λs ⟨g,c⟩=>l1l (i0e (Nat.le_trans g.2.2.1 l)) λa o=>m1f (kp (by rw[List.length_take];omega) (by omega)) (l1y ⟨rfl,?_,?_,?_⟩ ?_)))) λe=>l1m (by rw[List.take_of_length_le (by omega)])
  ·have k:w0 {y with d:=a} = w0 y:=by rw[i]at c;injection c with c;simp only[w0,V.agg.injEq,List.cons.injEq,V.sl.injEq]at c;subst o;simp only[w0,c.2.2.2.1.2.2]
   simp only;rw[i0n f (by omega),take1 f i,k]
  ·simp only;rw[bC (by omega)];omega
  ·simp only;rw[bC (by omega)];omega
  ·simp only;rw[bC (by omega)];omega
 ·subst j;exact l1x (x:=b) rfl (l1q rfl)
theorem sF {p:U8}{n m:Nat}(h:Pg T n m p)(c:n<=1099511627776/\m<=1099511627776):An (λO=>a8 O p) λr=>r=p:=by refine m1c ?_;unfold a8 l0c;have g:=h.sl.1;have f:=h.mo.1;have i:=h.en.1;have j:=h.ra.1;have k:=h.lo.1;refine l1l (j1y h.po c.2) λa e=>l1l (j1z h.qu c.2) λq d=>l1l (i0d h.bu c.2) λb c=>m1f (BZ (n:=0) (by omega) (by omega)) (m1f (BZ (n:=0) (by omega) (by omega)) (m1f (BZ (n:=0) (by omega) (by omega)) (m1f (BZ (n:=0) (by omega) (by omega)) (m1f (BZ (n:=0) (by omega) (by omega)) (l1q ?_)))));rw[e,d,c];simp
end Go.Am
end
section
set_option maxRecDepth 10000
namespace Go.Am
open Go
variable {T:Nat}
theorem y0c:An (λO=>qU O) λb=>Bi 10 b:=by refine m1c ?_;unfold qU M0;exact l1q ⟨⟨by simp,Rw.one ⟨by simp,by simp,Ls.nil⟩⟩,⟨by simp,Rw.one (w:=wn) (y:=0) trivial⟩⟩
theorem x0m (n m:Nat):Pg T n m ⟨[],[],false,[],[],[],[],[],[],false,[],[],[],[],[],0,0,0,0,[],[],false⟩:=
 ⟨⟨Nat.zero_le _,Nat.zero_le _⟩,⟨Tx.nil,Tx.nil,Tx.nil,Nat.zero_le _⟩,Nat.zero_le _,Ls.nil,⟨Ls.nil,Ls.nil⟩,Ls.nil,Ls.nil,Ls.nil,⟨by simp[oP],Rw.nil⟩,Tx.nil⟩
theorem Jh {a:U5}{x:U2}(f:Ad a)(d:Re 549755813888 x):cO (λO=>dW O a x) λp b=>Pg T 0 10000 p/\(b=true->Re 10000 x/\Sl 400 x.c):=by refine l1s ?_;unfold dW MS;have e:=x0m (T:=T) 0 10000;exact l1h (d0d (by have:=d.2;omega)) λq b i=>m1e (l1l (xH ⟨by have:=f.1;omega,by have:=f.2;omega⟩) λ_ _=>m1a (λ_=>l1j ⟨e,by simp⟩) λ_=>l1l (CP ⟨by have:=d.1;omega,by have:=d.2;omega⟩) λl k=>m1a (λ_=>l1j ⟨e,by simp⟩) λg=>m1a (λ_=>l1j ⟨e,by simp⟩) λ_=>m1a (λ_=>l1j ⟨e,by simp⟩) λ_=>m1a (λ_=>l1j ⟨e,by simp⟩) λ_=>l1l y0c λu j=>l1j ⟨⟨f,i.1.mono (by omega) (by omega),Nat.zero_le _,Ls.nil,Bi.up (by omega) j,Ls.nil,Ls.nil,Ls.nil,⟨by simp[oP],Rw.nil⟩,Tx.nil⟩,λ_=>k (by simpa using g)⟩)
theorem k1a {c:U0}(h:Cu c):cO (λO=>kw O c) λp y=>Pg T 0 10000 p/\Cu y:=by refine l1s ?_;unfold kw DG;exact l1h (RW h) λp y ⟨d,b⟩=>l1l (Jg (d.po.mono (by omega) (by omega))) λs hs=>l1h (Jh ⟨by decide,by decide⟩ ⟨by simp,by have:=hs.1;show s.length<=_;omega⟩) λq _ a=>l1j ⟨a.1,b⟩
theorem d1q {c:U0}(h:Cu c):cO (λO=>ed O c) λs y=>Sl 200100 s/\Cu y:=by
 refine l1s ?_;unfold ed DH;refine l1h (oM 40 h rfl (by simp)) λt y ⟨o,h⟩=>l1h (kW _ h) λm y ⟨l,h⟩=>l1l (wh h0v (λx=>(0<=x.2.1/\x.2.1<=6)/\x.1.length+30000*x.2.1<=200000/\Cu x.2.2) (λx=>x.2.1.toNat) (Ex:=λr=>∃s c,r=(0,LC (s,c))/\Sl 200000 s/\Cu c) ⟨by simp<;>omega,by simp<;>omega,h⟩ λx ⟨j,i,a⟩=>?_) λr ⟨s,c,d,hs,f⟩=>?_
 ·refine l1n (λe=>l1h (c0y (by omega) a) λu y ⟨k,b⟩=>m1i (by simp<;>omega) (m1i (by simp<;>omega) (l1h (i0g (P:=Sl 22000) b ?_ (List.cons_ne_nil _ _)) λv y ⟨g,b⟩=>m1i (by omega) (l1y ⟨?_,?_,b⟩ ?_)))) λe=>l1m ⟨_,_,rfl,by omega,a⟩
  ·repeat' first|exact Rw.nil|refine Rw.cons ?_ ?_
   all_goals (first|(simp;done)|(simp;omega))
  all_goals (simp only;rw[lU (by omega)];try simp only[List.length_append])
  all_goals omega
 ·subst d;exact l1x (x:=(s,c)) rfl (l1h (oM 12 f rfl (by simp)) λv y ⟨g,b⟩=>m1i (by simp<;>omega) (l1j ⟨by simp<;>omega,b⟩))
theorem Rc {s:LU}(z:Int)(hs:Sl 1099511627776 s):An (λO=>i6 O s z) λk=>(0<=k/\k<=s.length)/\(k<s.length -> ∃u:UInt8,s[k.toNat]?=some u/\z=u.toNat):=by
 refine m1c ?_;unfold i6 My;refine l1l (wh YN (λx=>x.1=s/\x.2.1=z/\0<=x.2.2/\x.2.2<=s.length) (λx=>(s.length-x.2.2).toNat) (Ex:=λr=>r=(0,uC s) \/ ∃k:Int,r=(1,qD (s,k))/\(0<=k/\k<=s.length) /\ ∃u:UInt8,s[k.toNat]?=some u/\z=u.toNat) ⟨rfl,rfl,by simp,by simp⟩ λx ⟨j,l,c,i⟩=>?_) λr d=>?_;·rw[j,l];refine l1t (λe=>l1l (zh c (by omega)) λb ⟨u,a,o⟩=>m1a (λf=>l1m (.inr ⟨_,rfl,⟨c,i⟩,u,a,by simp at f;omega⟩)) λ_=>l1y ⟨rfl,rfl,?_,?_⟩ ?_) λe=>l1m (.inl rfl)<;>simp only<;>rw[bC (by omega)]<;>omega
 ·rcases d with rfl|⟨k,rfl,g,a⟩;·exact l1r (l1x (x:=s) rfl (l1q ⟨by rw[aW];omega,λh=>by rw[aW]at h;omega⟩))
  ·exact l1p (l1x (x:=(s,k)) rfl (l1q ⟨g,λ_=>a⟩))
theorem Jn {l:LV}{s:LU}{n m:Nat}(h:Ls n w2 (Pr m) l)(j:n<=1099511627776):cO (λO=>cH O l s) λt _=>Sl m t:=by
 refine l1s ?_;unfold cH NY;have i:=h.1;refine l1l (wh IP (λx=>x.1=l/\x.2.1=s/\0<=x.2.2/\x.2.2<=l.length) (λx=>(l.length-x.2.2).toNat) (Ex:=λr=>r=(0,[]) \/ ∃t,r=(1,vy (t,true))/\Sl m t) ⟨rfl,rfl,by simp,by simp⟩ λx ⟨d,g,a,k⟩=>?_) λr b=>?_;·rw[d,g];refine l1v (λe=>m1b a (l1l (r7 h.2 (by omega)) λy _=>m1a (λ_=>m1b a (l1l (r7 h.2 (by omega)) λy c=>l1m (.inr ⟨_,rfl,c.1.2⟩))) λ_=>l1y ⟨rfl,rfl,?_,?_⟩ ?_)) λe=>l1m (.inl rfl)<;>simp only<;>rw[bC (by omega)]<;>omega
 ·rcases b with rfl|⟨t,rfl,f⟩;·exact l1r (l1j (Nat.zero_le _))
  ·exact l1p (l1x (x:=(t,true)) rfl (l1j f))
theorem y0b {s:LU}(hs:Sl 1099511627776 s):cO (λO=>qT O s) λy b=>b=true->Tk 60 y:=by
 refine l1s ?_;unfold qT Mz;refine l1n (λ_=>l1j (by simp)) λe=>?_;rw[aW]at e;have g:Sl 60 ((s.take (nS s).toNat).drop 1):=by simp;omega
 refine m1j (λb=>b=true->1<=s.length) (λb z=>m1a (λi=>?_) λi=>?_) λj F=>l1n (λi=>l1l (ig (by omega) (by rw[aW]at i;simp;omega)) λb _=>F _ λ_=>by rw[aW]at i;omega) λ_=>F _ (by simp);·have:=z i;exact m1g (by rw[aW];omega) (l1l (mj (Sl.up (by omega) g)) λb z=>m1a (λ_=>l1j (by simp)) λe3=>m1g (by rw[aW];omega) (l1j λ_=>⟨g,Ls.nil,Nat.zero_le _⟩))
 ·refine l1l (uc _ hs) λl ⟨w,P⟩=>l1z (by omega) (l1l (a0 w.2 (by omega)) λt ⟨ht,_⟩=>l1l (wh p0i (λx=>x.1=l/\(1<=x.2.1/\x.2.1<=l.length)/\x.2.2.2.2.2.b=t/\x.2.2.2.2.2.d=[]/\x.2.2.2.2.2.c.length+1<=x.2.1/\Rw w2 (Pr 60) x.2.2.2.2.2.c) (λx=>(l.length-x.2.1).toNat) (Ex:=λr=>(∃a b,r=(1,ER (false,a,b))) \/ ∃a b c u,r=(0,YY (a,b,c,u))/\u.b=t/\u.d=[]/\u.c.length<=60/\Rw w2 (Pr 60) u.c) ⟨rfl,by simp;omega,rfl,rfl,by simp,Rw.nil⟩ λx ⟨o,G,p,k,h5,v⟩=>?_) λr Y=>?_)
  ·rw[o];have U:=w.1;refine l1v (λe=>l1z (by omega) (l1l (a0 w.2 (by omega)) λt8 ⟨W,_⟩=>l1l (uc _ (by omega)) λL ⟨f,_⟩=>m1e (m1a (λ_=>l1m (.inl ⟨_,_,rfl⟩)) λB=>?_))) λe=>l1m (.inr ⟨_,_,_,_,rfl,p,k,by omega,v⟩);have B:L.length=2:=by rw[aJ]at B;simp at B;omega
   refine l1z (by omega) (l1l (a0 f.2 (by omega)) λS ⟨D,M⟩=>l1l (mj (by omega)) λR K=>m1a (λ_=>l1m (.inl ⟨_,_,rfl⟩)) λad=>l1z (by omega) (l1l (a0 f.2 (by omega)) λaa ⟨J,N⟩=>l1l (Rh (by omega)) λac E=>m1a (λ_=>l1m (.inl ⟨_,_,rfl⟩)) λZ=>l1z (by omega) (l1l (a0 f.2 (by omega)) λQ ⟨C,_⟩=>l1h (Jn (n:=1099511627776) ⟨by omega,v⟩ (by omega)) λ_ ab _=>m1a (λ_=>l1m (.inl ⟨_,_,rfl⟩)) λ_=>l1z (by omega) (l1l (a0 f.2 (by omega)) λA ⟨H,X⟩=>l1z (by omega) (l1l (a0 f.2 (by omega)) λq ⟨I,V⟩=>m1f (kp (by omega) (by omega)) (l1y ⟨rfl,?_,p,k,?_,v.app (Rw.one ⟨?_,?_⟩)⟩ ?_))))));·simp only;rw[bC (by omega)];omega
   ·simp only;rw[bC (by omega)];simp;omega
   ·show A.length<=60;omega
   ·show q.length<=60;omega
   ·simp only;rw[bC (by omega)];omega
  ·rcases Y with⟨a,b,rfl⟩|⟨a,b,c,u,rfl,o,G,p,k⟩;·exact l1p (l1x (x:=(false,a,b)) rfl (l1j (by simp)))
   ·refine l1r (l1x (x:=(a,b,c,u)) rfl (l1l (mj (by rw[o];omega)) λb z=>m1a (λ_=>l1j (by simp)) λ_=>l1n (λ_=>l1j (by simp)) λ_=>l1j λ_=>⟨?_,⟨p,k⟩,?_⟩));·show u.b.length<=60;rw[o];omega
    ·show u.d.length<=60;rw[G];simp
theorem c0x {a s:LU}{N:Nat}(H:a.length+s.length<=N)(J:N<=549755813888):cO (λO=>jF O a s) λl t=>Ls N w1 (Tk (N+60)) l/\Sl N t:=by
 refine l1s ?_;unfold jF MR;refine m1i (by omega) (l1l (wh p0j (λx=>x.1.length+x.2.1.length<=N/\Rw w1 (Tk (N+60)) x.1) (λx=>x.2.1.length) (Ex:=λr=>∃l t,r=(0,vt (l,t))/\Ls N w1 (Tk (N+60)) l/\Sl N t) ⟨by simp;omega,Rw.nil⟩ λx ⟨G,f⟩=>?_) λr ⟨l,t,A,z,B⟩=>?_)
 ·have d:Ls N w1 (Tk (N+60)) x.1/\Sl N x.2.1:=⟨⟨by omega,f⟩,by omega⟩;refine l1l (Rc 60 (by omega)) λk ⟨F,g⟩=>m1k (l1l (Rc 62 (by omega)) λe ⟨I,i⟩=>m1e (m1a (λ_=>l1m ⟨_,_,rfl,d⟩) λc1=>m1a (λ_=>l1m ⟨_,_,rfl,d⟩) λc2=>?_)) λj w=>l1n (λc1=>l1t (λc2=>?_) λ_=>w) λ_=>w
  ·have c1:k=0:=by simpa using c1
   have c2:e≠x.2.1.length:=by rw[aW]at c2;simpa using c2
   have c3:1<=e:=by
    by_cases q:e=0;·obtain⟨u,p,o⟩:=g (by omega);obtain⟨v,c,C⟩:=i (by omega);rw[c1]at p;rw[q]at c;rw[p]at c;injection c with c;rw[c]at o;omega
    ·omega
   refine m1g (by rw[aW];omega) (l1h (y0b (by simp;omega)) λy b D=>m1a (λE=>m1f (kp (by omega) (by omega)) (m1g ?_ (l1y ⟨?_,f.app (Rw.one (Tk.up (by omega) (D E)))⟩ ?_))) λ_=>m1g ?_ (l1y ⟨?_,f⟩ ?_))<;>rw[bC (by omega)]<;>(try rw[aW])<;>(try simp only[List.length_drop,List.length_take,List.length_append,List.length_cons,List.length_nil,Int.toNat_natCast])<;>omega
  ·refine m1g (by rw[aW];omega) (m1f (kp (by omega) (by omega)) (m1g (by rw[aW];omega) (l1y ⟨?_,f.app (Rw.one ⟨Nat.zero_le _,Ls.nil,?_⟩)⟩ ?_)));·simp only[aW,List.length_drop,List.length_take,List.length_append,List.length_cons,List.length_nil,Int.toNat_natCast];omega
   ·show((x.2.1.take k.toNat).drop 0).length<=N+60;simp;omega
   ·simp only[aW,List.length_drop,List.length_take,Int.toNat_natCast];omega
 ·subst A;exact l1x (x:=(l,t)) rfl (l1j ⟨z,B⟩)
theorem c0z {s:LU}{n:Nat}(h:Sl n s):An (λO=>jG O s) (Ls 1 w1 (Tk n)):=by
 refine m1c ?_;unfold jG MU;refine m1a (λ_=>l1q Ls.nil) λe=>?_;have e:s≠[]:=by simpa using e
 have:=List.length_pos_iff.2 e;exact l1l (ig (by omega) (by simpa using this)) λ_ _=>m1a (λ_=>l1q Ls.nil) λ_=>l1q ⟨by simp,Rw.one ⟨Nat.zero_le _,Ls.nil,h⟩⟩
theorem y0d {s:LU}{N:Nat}(h:Sl N s)(e:N<=549755813888):An (λO=>qV O s) (Ls (N+1) w1 (Tk (N+60))):=by
 refine m1c ?_;unfold qV M5;refine l1h (c0x (N:=N) (by simpa using h) e) λl t ⟨b,c⟩=>l1l (c0z (Sl.up (m:=N+60) (by omega) c)) λl2 a=>m1f ?_ (l1q ⟨?_,b.2.app a.2⟩);·have d:=b.1;have f:=a.1;omega
 ·have d:=b.1;have f:=a.1;simp only[List.length_append];omega
theorem Pg.qu' {T' n m k:Nat}{p:U8}{q:LV}{t:LU}{j:Bool}(h:Pg T n k p)(a:k<=m)(b:Ls m w1 (Tk m) q)(c:Sl T' t):Pg T' n m {p with h:=t,i:=q,j:=j}:=
 have h:=Pg.up (Nat.le_refl n) a h
 ⟨h.ad,h.po,c,b,h.bu,h.sl,h.mo,h.en,h.ra,h.lo⟩
theorem d0n {p:U8}{s:LU}{n m k:Nat}(h:Pg T k n p)(hs:Sl m s)(d:n<=10000000000/\m<=10000000000/\k<=10000000000/\T<=10000000000):An (λO=>kv O p s) (Pg (T+m) k (n+T+m+60)):=by
 refine m1c ?_;unfold kv l0a;refine l1l (sF h (by omega)) λy b=>?_;subst b;have e:=h.tok;refine m1a (λ_=>l1q (Pg.up (by omega) (by omega) (h.ut (by omega)))) λ_=>l1h (c0x (N:=T+m) (by omega) (by omega)) λl t ⟨a,c⟩=>m1f ?_ (l1q (h.qu' (by omega) ⟨?_,Rw.app (h.qu.2.mono λ_=>Tk.up (by omega)) (a.2.mono λ_=>Tk.up (by omega))⟩ (Sl.up (by omega) c)));·have:=h.qu.1;have:=a.1;omega
 ·have:=h.qu.1;have:=a.1;simp only[List.length_append];omega
theorem d0o {p:U8}{n k:Nat}(h:Pg T k n p)(c:T<=n)(d:n<=100000000000/\k<=100000000000):An (λO=>kx O p) (Pg T k (n+1)):=by
 refine m1c ?_;unfold kx l0b;refine l1l (sF h (by omega)) λy b=>?_;subst b;refine m1a (λ_=>l1q (Pg.up (by omega) (by omega) h)) λ_=>l1l (c0z h.tok) λl a=>m1f ?_ (l1q (h.qu' (by omega) ⟨?_,Rw.app (h.qu.2.mono λ_=>Tk.up (by omega)) (a.2.mono λ_=>Tk.up (by omega))⟩ (Nat.zero_le _)));·have:=h.qu.1;have:=a.1;omega
 ·have:=h.qu.1;have:=a.1;simp only[List.length_append];omega
theorem d1p {c:U0}(h:Cu c):cO (λO=>kr O c) λp y=>Pg 200100 0 230000 p/\Cu y:=by refine l1s ?_;unfold kr C6;exact l1h (k1a h) λp y ⟨d,h⟩=>l1h (d1q h) λs y ⟨hs,h⟩=>l1l (d0n (T:=0) d hs (by omega)) λq a=>l1h (xI 3 h) λb y h=>m1a (λ_=>l1l (d0o a (by omega) (by omega)) λq a=>l1j ⟨Pg.up (by omega) (by omega) (a.ut (by omega)),h⟩) λ_=>l1j ⟨Pg.up (by omega) (by omega) (a.ut (by omega)),h⟩
end Go.Am
end
section
set_option maxRecDepth 10000
namespace Go.Am
open Go
theorem r9 {P:LV->Prop}{l:LV}(h:Rw (λs=>.agg [.sl 2 true s]) P l){i:Nat}(a:i<l.length):An (λ_=>TA l i) (λy=>P y/\l[i]?=some (.agg [.sl 2 true y])):=h.ix (f:=TA) (λ_ l i y k h=>by unfold TA;exact dA (ks:=[.sl 2 true]) (e:=(y,())) h rfl) a
theorem r10 {P:U12->Prop}{l:LV}(h:Rw w4 P l){i:Nat}(c:i<l.length):An (λ_=>El l i) (λy=>P y/\l[i]?=some (w4 y)):=h.ix (f:=El) (λ_ l i y k h=>by unfold El;exact dA (ks:=[.str,.int .i64]) (e:=(y.a,y.b,())) h rfl) c
theorem r11 {P:U11->Prop}{l:LV}(h:Rw w3 P l){i:Nat}(c:i<l.length):An (λ_=>Iw l i) (λy=>P y/\l[i]?=some (w3 y)):=h.ix (f:=Iw) (λ_ l i y k h=>by unfold Iw;exact dA (ks:=[.int .i64,.str]) (e:=(y.a,y.b,())) h rfl) c
theorem Ji {p:U8}{n:Nat}(h:Ls n w5 (Sr n) p.m)(f:n<=1099511627776):An (λO=>gj O p) tt:=by
 refine m1c ?_;unfold gj MY;have d:=h.1;refine l1l (wh p0k (λx=>x.2=p/\0<=x.1/\x.1<=p.m.length) (λx=>(p.m.length-x.1).toNat) (Ex:=λr=>r=(0,[])\/r=(1,lf false)) ⟨rfl,by simp,by simp⟩ λx ⟨c,a,g⟩=>?_) λr b=>?_;·rw[c];refine l1v (λe=>m1b a (l1l (r8 h.2 (by omega)) λy _=>m1a (λ_=>m1b a (l1l (r8 h.2 (by omega)) λy _=>m1a (λ_=>l1m (.inr rfl)) λ_=>l1y ⟨rfl,?_,?_⟩ ?_)) λ_=>l1y ⟨rfl,?_,?_⟩ ?_)) λe=>l1m (.inl rfl)<;>simp only<;>rw[bC (by omega)]<;>omega
 ·rcases b with rfl|rfl;·exact l1r (l1q trivial)
  ·exact l1p (l1x (x:=false) rfl (l1q trivial))
theorem x0r {b:U7}{n:Nat}(z:Int)(h:Ls 40 w0 (Nd n) b.a)(o:n<=1099511627776):An (λO=>qH O b z) (Sl (40*n)):=by
 refine m1c ?_;unfold qH Ma;have l:=h.1;refine l1l (wh p0l (λx=>x.1=z/\x.2.2.2=b/\(0<=x.2.2.1/\x.2.2.1<=b.a.length)/\x.2.1.length<=x.2.2.1.toNat*n) (λx=>(b.a.length-x.2.2.1).toNat) (Ex:=λr=>∃s,r=(0,uC s)/\Sl (40*n) s) ⟨rfl,rfl,by simp,by simp⟩ λx ⟨i,j,c,p⟩=>?_) λr ⟨s,f,hs⟩=>?_
 ·rw[i,j];have k:x.2.2.1.toNat*n<=40*n:=Nat.mul_le_mul_right _ (by omega);have g:(x.2.2.1+1).toNat*n=x.2.2.1.toNat*n+n:=by rw[show(x.2.2.1+1).toNat=x.2.2.1.toNat+1 by omega,Nat.add_mul,Nat.one_mul]
  refine l1v (λe=>m1b c.1 (l1l (r6 h.2 (by omega)) λy _=>m1a (λ_=>m1b c.1 (l1l (r6 h.2 (by omega)) λy _=>m1a (λ_=>m1b c.1 (l1l (r6 h.2 (by omega)) λy ⟨d,_⟩=>m1i (by have:=d.2.1;omega) (l1y ⟨rfl,rfl,?_,?_⟩ ?_))) λ_=>l1y ⟨rfl,rfl,?_,?_⟩ ?_)) λ_=>l1y ⟨rfl,rfl,?_,?_⟩ ?_)) λe=>l1m ⟨_,rfl,by omega⟩
  all_goals (simp only;rw[bC (by omega)])
  all_goals (try rw[g])
  all_goals (try simp only[List.length_append])
  all_goals (try (have:=d.2.1))
  all_goals omega
 ·subst f;exact l1x (x:=s) rfl (l1q hs)
theorem y0l {s:LU}(hs:Sl 1099511627776 s):cO (λO=>qf O s) λy b=>b=true->Sl 60 y.b:=by
 refine l1s ?_;unfold qf NZ tN Nz;refine l1l (wh p0m (λx=>x.1=s/\x.2.1=[.str [],.str [119,114,105,116,101,32],.str [97,100,100,32],.str [99,111,117,110,116,32],.str [108,111,111,107,32],.str [115,97,121,32]]/\0<=x.2.2.1/\x.2.2.1<=6) (λx=>(6-x.2.2.1).toNat) (Ex:=λr=>(∃u,r=(0,YZ u)) \/ ∃b y,r=(1,Bj (b,y))/\(b=true->Sl 60 y.b)) ⟨rfl,rfl,by simp,by simp⟩ λx ⟨o,f,v,z⟩=>?_) λr i=>?_
 ·have w:x.2.1.length=6:=by rw[f];rfl
  rw[o];refine l1v (λe=>l1z (by omega) (l1l (a0 (P:=Sl 6) (by rw[f];exact rS rfl) (by omega)) λt _=>?_)) λe=>l1m (.inl ⟨_,rfl⟩);refine m1j (λb=>b=true->t.length<=s.length) (λb l=>m1a (λc=>m1g ?_ (m1j tt (λp _=>m1a (λ_=>l1n (λg=>l1m (.inr ⟨_,_,rfl,λ_=>by rw[aW]at g;exact Int.ofNat_le.1 g⟩)) λ_=>m1a (λ_=>l1l (mj (by simp;omega)) λk d=>l1m (.inr ⟨_,_,rfl,λq=>Sl.up (by omega) (d q)⟩)) λ_=>l1m (.inr ⟨_,_,rfl,by simp⟩)) λ_=>m1a (λ_=>l1l (mj (by simp;omega)) λk d=>l1m (.inr ⟨_,_,rfl,λq=>Sl.up (by omega) (d q)⟩)) λ_=>l1m (.inr ⟨_,_,rfl,by simp⟩)) λj a=>m1a (λ_=>a _ trivial) λ_=>a _ trivial)) λ_=>l1y ⟨rfl,f,?_,?_⟩ ?_) λj a=>l1n (λc=>m1g ?_ (a _ λ_=>by rw[aW,aW]at c;omega)) λ_=>a _ (by simp);·have:=l c;rw[aW,aW];omega
  ·simp only;rw[bC (by omega)];omega
  ·simp only;rw[bC (by omega)];omega
  ·simp only;rw[bC (by omega)];omega
  ·rw[aW,aW]at c ⊢;omega
 ·rcases i with⟨u,rfl⟩|⟨b,y,rfl,h⟩;·exact l1r (l1x (x:=u) rfl (l1j (by simp)))
  ·exact l1p (l1x (x:=(b,y)) rfl (l1j h))
abbrev Ln (y:U11):Prop:=Sl 60 y.b
theorem d0e {s:LU}(hs:Sl 1099511627776 s):cO (λO=>jP O s) λl b=>Ls 6 w3 Ln l:=by
 refine l1s ?_;unfold jP M2;refine m1a (λ_=>l1j Ls.nil) λ_=>l1l (uc _ hs) λl ⟨a,g⟩=>l1l (wh Bd (λx=>x.2.1=l/\(0<=x.2.2/\x.2.2<=l.length)/\(x.2.2=0\/l.length<=6)/\x.1.length<=x.2.2/\Rw w3 Ln x.1) (λx=>(l.length-x.2.2).toNat) (Ex:=λr=>(∃m,r=(0,fo m)/\Ls 6 w3 Ln m) \/ ∃u,r=(1,QH ([],false,u))) ⟨rfl,by simp,.inl rfl,by simp,Rw.nil⟩ λx ⟨p,z,q,v,c⟩=>?_) λr d=>?_
 ·rw[p];have i:=a.1;refine l1v (λe=>l1z (by omega) (l1l (a0 a.2 (by omega)) λt ⟨w,_⟩=>l1h (y0l (by omega)) λy b o=>m1a (λ_=>l1m (.inr ⟨_,rfl⟩)) λf=>l1n (λ_=>l1m (.inr ⟨_,rfl⟩)) λj=>m1f (kp (by omega) (by omega)) (l1y ⟨rfl,?_,?_,?_,c.app (Rw.one (o (by simpa using f)))⟩ ?_))) λe=>l1m (.inl ⟨_,rfl,by omega,c⟩)
  all_goals (simp only;rw[aJ]at j;try rw[bC (by omega)])
  ·omega
  ·omega
  ·simp;omega
  ·omega
 ·rcases d with⟨m,rfl,k⟩|⟨u,rfl⟩;·exact l1r (l1x (x:=m) rfl (l1j k))
  ·exact l1p (l1x (x:=([],false,u)) rfl (l1j Ls.nil))
theorem L5 (n:Int):An (λ_=>strO [.int .u8 (IntKind.wrap .u8 n)]) (Sl 1):=⟨[UInt8.ofNat (IntKind.wrap .u8 n).toNat],by simp,λO k=>rfl⟩
abbrev iP (n:Int):Prop:=-9223372036854775808<=n/\n<=9223372036854775807
theorem Jo {n:Int}(h:iP n):An (λO=>dp O n) (Sl 25):=by
 refine m1c ?_;unfold dp g0w;refine m1a (λ_=>l1q (by simp)) λ_=>l1l (wh YO (λx=>x.2.1.length<=19/\x.2.2.natAbs<10 ^ (19-x.2.1.length)/\iP x.2.2) (λx=>x.2.2.natAbs) (Ex:=λr=>∃a s,r=(0,EU (a,s))/\Sl 20 s) ⟨by simp,by simp;omega,h⟩ λx ⟨v,d,u⟩=>?_) λr ⟨a,s,l,hs⟩=>?_
 ·have i:∀{t:LU},Sl 1 t->x.2.2≠0->Tg (C:=Unit) (T:=λ_=>LL ⊕ (Nat×LL)) (λ_=>cs t x.2.1 (some (Sum.inl (uB (x.1,t++x.2.1,IntKind.wrap .i64 (Int.tdiv x.2.2 10)))))) (λ_ z=>some z) (λz=>match z with
   |.inl s=>∃b,s=uB b/\(b.2.1.length<=19/\b.2.2.natAbs<10 ^ (19-b.2.1.length)/\iP b.2.2)/\b.2.2.natAbs<x.2.2.natAbs
   |.inr r=>∃a s,r=(0,EU (a,s))/\Sl 20 s):=λ{t} f o=>by
   have k:(Int.tdiv x.2.2 10).natAbs=x.2.2.natAbs/10:=by rw[Int.natAbs_tdiv];rfl
   have g:IntKind.wrap .i64 (Int.tdiv x.2.2 10)=Int.tdiv x.2.2 10:=lT (by omega)
   have q:x.2.1.length<=18:=by
    by_cases c:x.2.1.length=19
    ·rw[c]at d;simp at d;exact absurd d o
    ·omega
   have p:10 ^ (19-x.2.1.length)=10*10 ^ (18-x.2.1.length):=by rw[show 19-x.2.1.length=(18-x.2.1.length)+1 by omega,Nat.pow_succ,Nat.mul_comm]
   have j:10 ^ (18-x.2.1.length)<=10 ^ (19-(t++x.2.1).length):=Nat.pow_le_pow_right (by omega) (by simp;omega)
   rw[p]at d
   generalize 10 ^ (18-x.2.1.length)=P at d j
   refine m1i (by omega) (l1y ⟨by simp;omega,?_,?_⟩ ?_)
   ·show(IntKind.wrap .i64 (Int.tdiv x.2.2 10)).natAbs<_
    rw[g,k]
    exact Nat.lt_of_lt_of_le (by omega) j
   ·show iP (IntKind.wrap .i64 (Int.tdiv x.2.2 10))
    rw[g];omega
   ·show(IntKind.wrap .i64 (Int.tdiv x.2.2 10)).natAbs<_
    rw[g,k];omega
  refine m1a (λe=>?_) λe=>l1m ⟨_,_,rfl,by omega⟩;have e:x.2.2≠0:=by simpa using e
  exact m1a (λ_=>l1l (L5 _) λt f=>i f e) λ_=>l1l (L5 _) λt f=>i f e
 ·subst l;exact l1x (x:=(a,s)) rfl (l1n (λ_=>m1i (by simp<;>omega) (l1q (by simp<;>omega))) λ_=>l1q (by simp<;>omega))
theorem d0l {s:LU}:cO (λO=>qy O s) λn b=>True:=by
 refine l1s ?_;unfold qy N7;refine l1l (iM _ _ _) λj a=>m1a (λ_=>l1j trivial) λc=>?_;have c:s.length<=13:=by rw[a,aW]at c;simp at c;omega
 refine l1l (wh YN (λx=>x.1=s/\(0<=x.2.2/\x.2.2<=s.length)/\iP x.2.1) (λx=>(s.length-x.2.2).toNat) (Ex:=λr=>(∃v,r=(0,qD (s,v))/\iP v) \/ ∃u,r=(1,Ya u)) ⟨rfl,by simp,⟨by simp,by simp⟩⟩ λx ⟨a,d,i⟩=>?_) λr f=>?_
 ·rw[a];refine l1t (λe=>l1l (ig d.1 (by omega)) λb _=>l1l (iM _ _ _) λ_ _=>m1a (λ_=>l1m (.inr ⟨_,rfl⟩)) λ_=>l1l (ig d.1 (by omega)) λb _=>l1y ⟨rfl,?_,?_⟩ ?_) λe=>l1m (.inl ⟨_,rfl,i⟩);·simp only;rw[bC (by omega)];omega
  ·exact GW _
  ·simp only;rw[bC (by omega)];omega
 ·rcases f with⟨v,rfl,g⟩|⟨u,rfl⟩;·exact l1r (l1x (x:=(s,v)) rfl (l1n (λ_=>l1j trivial) λ_=>l1l (Jo g) λ_ _=>m1a (λ_=>l1j trivial) λ_=>l1j trivial))
  ·exact l1p (l1x (x:=u) rfl (l1j trivial))
abbrev Co (y:U12):Prop:=1<=y.b/\y.b<=999
theorem y0n {s:LU}(hs:Sl 1099511627776 s):An (λO=>qh O s) (Ls 8 w4 Co):=by
 refine m1c ?_;unfold qh Nb;refine l1l (uc _ hs) λl ⟨g,p⟩=>l1l (wh p0n (λx=>x.1=l/\(0<=x.2.1/\x.2.1<=l.length)/\Ls 8 w4 Co x.2.2) (λx=>(l.length-x.2.1).toNat) (Ex:=λr=>∃m,r=(0,fo m)/\Ls 8 w4 Co m) ⟨rfl,by simp,Ls.nil⟩ λx ⟨C,H,c⟩=>?_) λr ⟨m,k,A⟩=>?_
 ·rw[C];have y:=g.1;refine m1e (l1v (λe=>l1n (λz=>l1z (by omega) (l1l (a0 g.2 (by omega)) λt ⟨F,_⟩=>l1l (uc _ (by omega)) λw ⟨a,_⟩=>m1e (m1a (λ_=>l1y ⟨rfl,?_,c⟩ ?_) λd=>?_))) λ_=>l1m ⟨_,rfl,c⟩) λ_=>l1m ⟨_,rfl,c⟩);·simp only;rw[bC (by omega)];omega
  ·simp only;rw[bC (by omega)];omega
  have d:w.length=2:=by rw[aJ]at d;simp at d;omega
  rw[aJ]at z;refine l1z (by omega) (l1l (a0 a.2 (by omega)) λG ⟨D,_⟩=>l1l (mj (by omega)) λ_ _=>m1a (λ_=>l1y ⟨rfl,?_,c⟩ ?_) λ_=>l1z (by omega) (l1l (a0 a.2 (by omega)) λE _=>l1h d0l λn b _=>m1j (λb=>b=true->1<=n/\n<=999) (λb u=>m1a (λo=>l1z (by omega) (l1l (a0 a.2 (by omega)) λB _=>m1f (kp (by omega) (by omega)) (l1y ⟨rfl,?_,?_,c.2.app (Rw.one (u o))⟩ ?_))) λ_=>l1y ⟨rfl,?_,c⟩ ?_) λj i=>m1a (λ_=>l1l (iM _ _ _) λv f=>i _ λq=>by rw[f]at q;simpa using q) λ_=>i _ (by simp)))
  all_goals (simp only;try rw[bC (by omega)])
  all_goals (try simp only[List.length_append,List.length_cons,List.length_nil])
  all_goals omega
 ·subst k;exact l1x (x:=m) rfl (l1q A)
abbrev VS (n:Nat)(l:LV):Prop:=Ls n (λs=>.agg [.sl 2 true s]) (Ls 8 w4 Co) l
theorem d0g {p:U8}{n:Nat}(h:Ls n w5 (Sr n) p.m)(d:n<=1099511627776):An (λO=>jR O p) (VS n):=by
 refine m1c ?_;unfold jR M4;have b:=h.1;refine l1l (wh yA (λx=>x.2.2=p/\(0<=x.2.1/\x.2.1<=p.m.length)/\x.1.length<=x.2.1/\Rw (λs=>.agg [.sl 2 true s]) (Ls 8 w4 Co) x.1) (λx=>(p.m.length-x.2.1).toNat) (Ex:=λr=>∃m,r=(0,fo m)/\VS n m) ⟨rfl,by simp,by simp,Rw.nil⟩ λx ⟨i,j,k,a⟩=>?_) λr ⟨m,c,f⟩=>?_
 ·rw[i];refine l1v (λe=>m1b j.1 (l1l (r8 h.2 (by omega)) λy ⟨g,_⟩=>m1a (λ_=>m1a (λ_=>m1a (λ_=>l1l (y0n (Sl.up d g.2.2.2)) λl b=>m1f (kp (by omega) (by omega)) (l1y ⟨rfl,?_,?_,a.app (Rw.one (w:=λs=>.agg [.sl 2 true s]) b)⟩ ?_)) λ_=>l1y ⟨rfl,?_,?_,a⟩ ?_) λ_=>l1y ⟨rfl,?_,?_,a⟩ ?_) λ_=>l1y ⟨rfl,?_,?_,a⟩ ?_)) λe=>l1m ⟨_,rfl,by omega,a⟩
  all_goals (simp only;rw[bC (by omega)])
  all_goals (try simp only[List.length_append,List.length_cons,List.length_nil])
  all_goals omega
 ·subst c;exact l1x (x:=m) rfl (l1q f)
end Go.Am
end
section
set_option maxRecDepth 10000
namespace Go.Am
open Go
variable {T:Nat}
theorem d0k {b:U7}{n:Nat}{s:LU}(h:Ls 40 w0 (Nd n) b.a):An (λO=>qw O b s) iP:=by
 refine m1c ?_;unfold qw N1;have j:=h.1;refine l1l (wh p0o (λx=>x.2.2.2=b/\(0<=x.2.2.1/\x.2.2.1<=b.a.length)/\iP x.2.1) (λx=>(b.a.length-x.2.2.1).toNat) (Ex:=λr=>∃k,r=(0,cY k)/\iP k) ⟨rfl,by simp,⟨by simp,by simp⟩⟩ λx ⟨i,g,c⟩=>?_) λr ⟨k,d,f⟩=>?_;·rw[i];refine l1v (λe=>m1b g.1 (l1l (r6 h.2 (by omega)) λy _=>m1a (λ_=>l1y ⟨rfl,?_,GW _⟩ ?_) λ_=>l1y ⟨rfl,?_,c⟩ ?_)) λe=>l1m ⟨_,rfl,c⟩<;>simp only<;>rw[bC (n:=x.2.2.1) (by omega)]<;>omega
 ·subst d;exact l1x (x:=k) rfl (l1q f)
theorem y0w {l:LV}{n:Nat}{s:LU}(h:VS n l)(B:n<=1099511627776):An (λO=>qx O l s) iP:=by
 refine m1c ?_;unfold qx N2;have A:=h.1;refine l1l (wh IP (λx=>x.1=l/\x.2.1=s /\ -1<=x.2.2/\x.2.2<l.length) (λx=>(x.2.2+1).toNat) (Ex:=λr=>r=(0,[]) \/ ∃k,r=(1,cY k)/\iP k) ⟨rfl,rfl,?_,?_⟩ λx ⟨q,u,F,C⟩=>?_) λr f=>?_;·simp only;rw[aJ,lU (by omega)];omega
 ·simp only;rw[aJ,lU (by omega)];omega
 ·rw[q,u];refine l1n (λe=>m1b (by omega) (l1l (r9 h.2 (by omega)) λl2 ⟨a,t⟩=>l1l (wh p0p (λz=>z.1=l/\z.2.1=s/\z.2.2.1=x.2.2 /\ -1<=z.2.2.2/\z.2.2.2<l2.length) (λz=>(z.2.2.2+1).toNat) (Ex:=λr=>r=(0,pC (l,s,x.2.2)) \/ ∃k m,r=(1,EV (l,s,k,m))/\iP k) ⟨rfl,rfl,rfl,?_,?_⟩ λz ⟨o,p,k3,k4,k5⟩=>?_) λr f=>?_)) λ_=>l1m (.inl rfl);·simp only;have:=a.1;rw[aJ,lU (by omega)];omega
  ·simp only;have:=a.1;rw[aJ,lU (by omega)];omega
  ·rw[o,p,k3];have b:∀{d:LV},l[x.2.2.toNat]?=some (.agg [.sl 2 true d])->d=l2:=λg=>by rw[t]at g;simp only[aK,V.agg.injEq,List.cons.injEq,V.sl.injEq]at g;exact g.1.2.2.symm
   have v:=a.1;refine l1n (λw=>m1b (by omega) (l1l (r9 h.2 (by omega)) λd ⟨_,i⟩=>m1b (by omega) (l1l (r10 (P:=Co) (by rw[b i];exact a.2) (by rw[b i];omega)) λy _=>m1a (λ_=>m1b (by omega) (l1l (r9 h.2 (by omega)) λD ⟨_,j⟩=>m1b (by omega) (l1l (r10 (P:=Co) (by rw[b j];exact a.2) (by rw[b j];omega)) λy ⟨E,_⟩=>l1m (.inr ⟨_,_,rfl,by omega⟩)))) λ_=>l1y ⟨rfl,rfl,rfl,?_,?_⟩ ?_))) λ_=>l1m (.inl rfl)<;>simp only<;>rw[lU (by omega)]<;>omega
  ·rcases f with rfl|⟨k,m,rfl,c⟩;·refine l1r (l1x (x:=(l,s,x.2.2)) rfl (l1y ⟨rfl,rfl,?_,?_⟩ ?_))<;>simp only<;>rw[lU (by omega)]<;>omega
   ·exact l1p (l1x (x:=(l,s,k,m)) rfl (l1m (.inr ⟨_,rfl,c⟩)))
 ·rcases f with rfl|⟨k,rfl,c⟩;·exact l1r (l1q ⟨by omega,by omega⟩)
  ·exact l1p (l1x (x:=k) rfl (l1q c))
theorem y0v {s:LU}{n:Nat}(h:Sl n s)(a:n<=4000000000):An (λO=>qv O s) (Sl n):=by refine m1c ?_;unfold qv I7;exact l1u (by omega) (l1q (by simpa using h))
theorem y0m {b:U7}{l:LV}{x:U11}{n m:Nat}(c:Bi n b)(u:VS m l)(g:Sl 60 x.b)(F:1000<=n)(v:n<=1099511627776)(A:m<=1099511627776):AS (λO=>qg O b l x) λz w s=>Bi n z/\Sl 60 w/\Sl 200 s:=by
 refine l1w ?_;unfold qg Na;refine l1l (i0d c v) λy B=>?_;subst B;have e:Bi n y/\Sl 60 []/\Sl 200 []:=⟨c,by simp,by simp⟩;refine m1a (λ_=>l1l (y0v g (by omega)) λt f=>l1k ⟨c,f,by simp⟩) λ_=>m1a (λ_=>m1j (λb=>b=true->y.a.length<=39) (λC o=>m1a (λp=>m1f (kp (by have:=o p;omega) (by omega)) (l1k ⟨⟨⟨?_,c.1.2.app (Rw.one ⟨?_,by simp,Ls.nil⟩)⟩,c.2⟩,by simp,by simp⟩)) λ_=>l1k e) λj q=>l1l (iM _ _ _) λE r=>m1a (λi=>l1l (mj (Sl.up (by omega) g)) λD _=>q _ λ_=>by rw[r,aJ]at i;simp at i;omega) λ_=>q _ (by simp)) λ_=>m1a (λ_=>?_) λ_=>m1a (λ_=>?_) λ_=>m1a (λ_=>m1i (by simp<;>omega) (l1k ⟨c,by simp,by simp<;>omega⟩)) λ_=>l1k e;·have:=o p;simp only[List.length_append,List.length_cons,List.length_nil];omega
 ·show x.b.length<=n;omega
 ·exact m1i (by simp<;>omega) (m1i (by simp<;>omega) (l1l (d0k c.1) λk d=>l1l (Jo d) λt f=>m1i (by simp<;>omega) (l1k ⟨c,by simp,by simp<;>omega⟩)))
 ·exact m1i (by simp<;>omega) (m1i (by simp<;>omega) (l1l (y0w u A) λk d=>l1l (Jo d) λt f=>m1i (by simp<;>omega) (l1k ⟨c,by simp,by simp<;>omega⟩)))
theorem d0f {b:U7}{l q:LV}{n m:Nat}(j:Bi n b)(v:VS m l)(o:Ls 6 w3 Ln q)(p:1000<=n)(k:n<=1099511627776)(A:m<=1099511627776):AS (λO=>jQ O b l q) λc w s=>Bi n c/\Sl 360 w/\Tx 6 200 s:=by
 refine l1w ?_;unfold jQ M3;have z:=o.1;refine l1l (i0d j k) λy f=>l1l (wh p0q (λx=>x.1=l/\x.2.1=q/\(0<=x.2.2.2.2.1/\x.2.2.2.2.1<=q.length)/\x.2.2.1.length<=60*x.2.2.2.2.1/\x.2.2.2.1.length<=x.2.2.2.2.1/\Rw V.str (Sl 200) x.2.2.2.1/\Bi n x.2.2.2.2.2) (λx=>(q.length-x.2.2.2.2.1).toNat) (Ex:=λr=>∃w s b,r=(0,Yb (w,s,b))/\Bi n b/\Sl 360 w/\Tx 6 200 s) ⟨rfl,rfl,by simp,by simp,by simp,Rw.nil,by subst f;exact j⟩ λx ⟨p,B,u,D,C,d,g⟩=>?_) λr ⟨w,s,c,t,a,i,hs⟩=>?_
 ·rw[p,B];refine l1v (λe=>m1b u.1 (l1l (r11 o.2 (by omega)) λy ⟨f,_⟩=>l1i (y0m g v f (by omega) k A) λc w s ⟨a,i,hs⟩=>m1i (by omega) (m1a (λ_=>m1f (kp (by omega) (by omega)) (l1y ⟨rfl,rfl,?_,?_,?_,d.app (Rw.one hs),a⟩ ?_)) λ_=>l1y ⟨rfl,rfl,?_,?_,?_,d,a⟩ ?_))) λe=>l1m ⟨_,_,_,rfl,g,by omega,by omega,d⟩
  all_goals (simp only;rw[bC (by omega)])
  all_goals (try simp only[List.length_append,List.length_cons,List.length_nil])
  all_goals omega
 ·subst t;exact l1x (x:=(w,s,c)) rfl (l1k ⟨a,i,hs⟩)
theorem Pg.lo' {n m k:Nat}{p:U8}{u:LV}(h:Pg T k n p)(a:n<=m)(b:Tx m m u):Pg T k m {p with u:=u}:=
 have h:=Pg.up (Nat.le_refl k) a h
 ⟨h.ad,h.po,h.tok,h.qu,h.bu,h.sl,h.mo,h.en,h.ra,b⟩
theorem Pg.bu' {n k:Nat}{p:U8}{b:U7}(h:Pg T k n p)(c:Bi n b):Pg T k n {p with k:=b.a,l:=b.b}:=⟨h.ad,h.po,h.tok,h.qu,c,h.sl,h.mo,h.en,h.ra,h.lo⟩
theorem RX {p:U8}{s:LU}{w:Bool}{n k:Nat}(h:Pg T k n p)(hs:Sl 1099511627776 s)(F:1000<=n)(J:n<=10000000000/\k<=10000000000):An (λO=>iN O p s w) (Pg T k (n+400)):=by
 refine m1c ?_;unfold iN MZ;refine l1l (sF h (by omega)) λy b=>?_;subst b;have d:=h.lo;have C:=d.1;refine l1h (d0e hs) λl2 K g=>m1a (λ_=>l1n (λ_=>m1f (kp (by omega) (by omega)) (l1q (h.lo' (by omega) ⟨?_,(d.2.mono λy b=>Nat.le_trans b (by omega)).app (Rw.one (w:=V.str) (by simp<;>omega))⟩))) λ_=>l1q (Pg.up (by omega) (by omega) h)) λ_=>?_;·simp only[List.length_append,List.length_cons,List.length_nil];omega
 refine l1l (d0g h.sl (by omega)) λM o=>l1i (d0f h.bu o g F (by omega) (by omega)) λI v j ⟨i,q,c⟩=>?_;have u:=c.1;refine l1l (wh p0r (λx=>x.1=w/\x.2.1=v/\x.2.2.1=j/\(0<=x.2.2.2.1/\x.2.2.2.1<=j.length)/\Pg T k (n+x.2.2.2.1.toNat) x.2.2.2.2.2.2.2.2.2.2.2.2.2.2.2) (λx=>(j.length-x.2.2.2.1).toNat) (Ex:=λr=>∃z:R9,r=(0,QI z)/\z.2.1=v/\Pg T k (n+6) z.2.2.2.2.2.2.2.2.2.2.2.2.2) ⟨rfl,rfl,rfl,by simp,?_⟩ λx ⟨D,E,k3,k4,k5⟩=>?_) λr ⟨z,G,B,a⟩=>?_;·exact Pg.up (by omega) (by simp) (h.bu' i)
 ·rw[D,E,k3];have A:=k5.lo;have H:=A.1;refine m1e (l1v (λe=>l1n (λ_=>l1z (by omega) (l1l (a0 c.2 (by omega)) λt ⟨L,_⟩=>m1f (kp (by omega) (by omega)) (l1y ⟨rfl,rfl,rfl,?_,?_⟩ ?_))) λ_=>l1m ⟨_,rfl,rfl,Pg.up (by omega) (by omega) k5⟩) λ_=>l1m ⟨_,rfl,rfl,Pg.up (by omega) (by omega) k5⟩);·simp only;rw[bC (by omega)];omega
  ·simp only;rw[bC (by omega)];refine k5.lo' (by omega) ⟨?_,(A.2.mono λy b=>Nat.le_trans b (by omega)).app (Rw.one (w:=V.str) (by show t.length<=_;omega))⟩;simp only[List.length_append,List.length_cons,List.length_nil];omega
  ·simp only;rw[bC (by omega)];omega
 ·subst G;refine l1x (x:=z) rfl (m1a (λ_=>?_) λ_=>l1q (Pg.up (by omega) (by omega) a));rw[B];refine l1l (y0d q (by omega)) λl f=>m1f ?_ (l1q (a.qu' (by omega) ⟨?_,(f.2.mono λ_=>Tk.up (by omega)).app (a.qu.2.mono λ_=>Tk.up (by omega))⟩ a.tok));·have:=a.qu.1;have:=f.1;omega
  ·have:=a.qu.1;have:=f.1;simp only[List.length_append];omega
end Go.Am
end
section
set_option maxRecDepth 10000
namespace Go.Am
open Go
variable {T:Nat}
theorem fF {U:Type}{w:U->V}{P:U->Prop}{l:LV}{i o:Nat}{a:List V}(f:U->U)(h:Rw w P l)(g:i<l.length)(e:∀y,P y->P (f y))(p:∀y,∃cs,over (w y).cells o a=some cs/\gM (w y) cs=w (f y)):An (λ_=>bU l i o a) λc=>c.length=l.length/\Rw w P c /\ ∃y,l[i]?=some (w y)/\c=l.set i (w (f y)):=by
 obtain⟨y,q,d⟩:=h.get g;obtain⟨cs,s,j⟩:=p y;refine⟨l.set i (w (f y)),⟨by simp,λr b=>?_,y,d,rfl⟩,λO k=>?_⟩
 ·rcases List.mem_or_eq_of_mem_set b with b|rfl;·exact h r b
  ·exact⟨_,e y q,rfl⟩
 ·show bU l i o a k=_;unfold bU iL;simp only[d,s,j]
theorem a2 {P:Int->Prop}{l:LV}(h:Rw wn P l){i:Nat}(a:i<l.length):An (λ_=>Is l i 0) (λy=>P y/\l[i]?=some (wn y)):=h.ix (f:=λl i=>Is l i 0) (λ_ l i y k h=>by show Is l i 0 k=_;unfold Is;exact d8 (ks:=[.int .i64]) (e:=(y,())) h rfl) a
theorem g1s {P:U6->Prop}{l:LV}(h:Rw w0 P l){i:Nat}(d:i<l.length):An (λ_=>fO l i 0) (λs=>∃y,P y/\l[i]?=some (w0 y)/\s=y.a):=by obtain⟨y,c,b⟩:=h.get d;exact⟨y.a,⟨y,c,b,rfl⟩,λO k=>by show fO l i 0 k=_;unfold fO;exact d8 (ks:=[.str]) (e:=(y.a,())) b rfl⟩
theorem g1v {P:U6->Prop}{l:LV}(h:Rw w0 P l){i:Nat}(c:i<l.length):An (λ_=>h0x l i 3) (λs=>∃y,P y/\l[i]?=some (w0 y)/\s=y.d):=by obtain⟨y,b,a⟩:=h.get c;exact⟨y.d,⟨y,b,a,rfl⟩,λO k=>by show h0x l i 3 k=_;unfold h0x;exact d8 (ks:=[.sl 2 true]) (e:=(y.d,())) a rfl⟩
theorem lH {k:Int}{l:LV}{b:Bool}(h:b=decide (0<=k/\k<=wi (nL l-1)))(a:b=true)(c:l.length<=1099511627776):0<=k/\k.toNat<l.length:=by rw[h,aJ,lU (by omega)]at a;simp at a;omega
theorem y0o {b:U7}{s:LU}{n:Nat}(h:Bi n b)(j:n<=1099511627776):An (λO=>gX O b s) λu=>Bi n u/\u.a=b.a:=by
 refine m1c ?_;unfold gX xi;have o:=h.1.1;have p:=h.2.1;refine l1l (wh p0s (λx=>x.2.2=b /\ -1<=x.2.1/\x.2.1<b.b.length) (λx=>(x.2.1+1).toNat) (Ex:=λr=>r=(0,IX b) \/ ∃u,r=(1,Yc u)/\Bi n u.2/\u.2.a=b.a) ⟨rfl,?_,?_⟩ λx ⟨g,k,k3⟩=>?_) λr c=>?_;·simp only;rw[aJ,lU (by omega)];omega
 ·simp only;rw[aJ,lU (by omega)];omega
 ·rw[g];refine l1n (λe=>l1z (by omega) (l1l (a2 h.2.2 (by omega)) λm _=>l1l (iM _ _ _) λl f=>m1a (λd=>?_) λ_=>l1y ⟨rfl,?_,?_⟩ ?_)) λ_=>l1m (.inl rfl)
  ·have:=lH f d (by omega);refine l1z this (l1l (g1s h.1.2 this.2) λt _=>m1a (λ_=>m1g (by rw[aJ];omega) (l1m (.inr ⟨_,rfl,⟨h.1,⟨?_,(h.2.2.take _).drop _⟩⟩,rfl⟩))) λ_=>l1y ⟨rfl,?_,?_⟩ ?_);·simp<;>omega
   all_goals (simp only;rw[lU (by omega)];omega)
  all_goals (simp only;rw[lU (by omega)];omega)
 ·rcases c with rfl|⟨u,rfl,i⟩;·exact l1r (l1x (x:=b) rfl (l1q ⟨h,rfl⟩))
  ·exact l1p (l1x (x:=u) rfl (l1q i))
theorem y0p (s:LU):An (λO=>qi O s) tt:=by refine m1c ?_;unfold qi Nc;exact m1a (λ_=>l1q trivial) λ_=>l1q trivial
theorem y0e {b:U7}{t:U9}{n:Nat}(h:Bi n b)(s:Tk n t)(H:1000<=n)(F:n<=20000000000):cO (λO=>qW O b t) λv k=>Bi (n+1) v/\(-1<=k/\k<v.a.length)/\b.a.length<=v.a.length:=by
 refine l1s ?_;unfold qW M6;have E:=h.1.1;have D:=h.2.1;refine l1l (i0d h (by omega)) λy l=>?_;subst l;have e:Bi (n+1) y/\(-1<=(-1:Int)/\(-1:Int)<y.a.length)/\y.a.length<=y.a.length:=⟨Bi.up (by omega) h,by omega,by omega⟩;refine m1a (λ_=>l1l (y0o h (by omega)) λu x=>l1j ⟨Bi.up (by omega) x.1,by simp<;>omega,by rw[x.2];omega⟩) λ_=>m1j tt (λA _=>?_) λj f=>m1a (λ_=>l1l (y0p _) λ_ _=>f _ trivial) λ_=>f _ trivial;by_cases c1:(y.a.length:Int) >= 40;·exact m1e (l1n (λ_=>l1j e) λq=>absurd c1 q)
 by_cases c2:y.b.length=0;·exact m1e (l1n (λ_=>l1j e) λq=>m1a (λ_=>l1j e) λq=>by rw[aJ,c2]at q;simp at q)
 have d:∀{i:U6},Nd n i->Ls 40 w0 (Nd (n+1)) (y.a++[w0 i]):=λl=>⟨by simp;omega,(h.1.2.mono λ_=>Nd.up (by omega)).app (Rw.one (Nd.up (by omega) l))⟩;have g:∀z:Int,Ls (n+1) wn tt (y.b++[.int .i64 z]):=λz=>⟨by simp;omega,h.2.2.app (Rw.one (w:=wn) (y:=z) trivial)⟩;have p:Ls (n+1) wn tt y.b:=Ls.up (by omega) h.2 λ_ q=>q;have o:∀{i:U6},Nd n i->Tg (C:=Σ O:Type,U7->Int->Option O) (T:=λc=>c.1) (λc=>br A (ca y.b ([.int .i64 (nL y.a)]:LV) 8 (c.2 ⟨y.a++([w0 i]:LV),y.b++([.int .i64 (nL y.a)]:LV)⟩ (nL y.a))) (c.2 {y with a:=y.a++([w0 i]:LV)} (nL y.a))) (λc (r:U7×Int)=>c.2 r.1 r.2) (λr=>Bi (n+1) r.1/\(-1<=r.2/\r.2<r.1.a.length)/\y.a.length<=r.1.a.length):=λl=>m1a (λ_=>m1f (kp (by omega) (by omega)) (l1j ⟨⟨d l,g _⟩,by simp[aJ]<;>omega,by simp<;>omega⟩)) λ_=>l1j ⟨⟨d l,p⟩,by simp[aJ]<;>omega,by simp<;>omega⟩;refine m1k (m1b ?_ (l1l (r1 h.2.2 ?_) λm _=>m1k (m1f (kp (by omega) (by omega)) (o ⟨by simp,s.2.2,Ls.nil⟩)) λj f=>m1a (λ_=>l1l (i0e (by have:=s.2.1.1;omega)) λG B=>m1f (kp (by omega) (by omega)) (o ⟨s.1,by simp,by rw[B];exact s.2.1⟩)) λ_=>m1a (λ_=>m1a (λ_=>f) λ_=>l1j e) λ_=>l1j e)) λj f=>l1n (λ_=>l1j e) λ_=>m1a (λ_=>l1j e) λ_=>m1a (λ_=>l1n (λ_=>l1j e) λ_=>f) λ_=>f;·rw[aJ,lU (by omega)];omega
 ·rw[aJ,lU (by omega)];omega
theorem d0a (m:Int):An (λO=>jH O m) tt:=by refine m1c ?_;unfold jH Mh;exact m1a (λ_=>l1q trivial) λ_=>m1a (λ_=>l1q trivial) λ_=>m1a (λ_=>l1q trivial) λ_=>m1a (λ_=>l1q trivial) λ_=>l1q trivial
theorem Fl {s b:LU}{n:Nat}(hs:Sl n s)(j:Sl n b)(k:n<=1099511627776):cO (λO=>dZ O s b) λy _=>Pr 8 y:=by
 refine l1s ?_;unfold dZ Ni;refine l1l (wh p0t (λx=>x.1=s/\(0<=x.2.1/\x.2.1<=s.length)/\Pr n x.2.2.2) (λx=>(s.length-x.2.1).toNat) (Ex:=λr=>∃u,r=(0,QK u)/\Pr n u.2) ⟨rfl,by simp,j,hs⟩ λx ⟨d,f,a⟩=>?_) λr ⟨u,g,c⟩=>?_
 ·rw[d];refine l1t (λe=>l1l (ig f.1 (by omega)) λb _=>m1a (λ_=>m1g (by rw[aW];omega) (m1g (by rw[aW,bC (by omega)];omega) (l1m ⟨_,rfl,?_,?_⟩))) λ_=>l1y ⟨rfl,?_,a⟩ ?_) λ_=>l1m ⟨_,rfl,a⟩;·simp<;>omega
  ·simp<;>omega
  ·simp only;rw[bC (by omega)];omega
  ·simp only;rw[bC (by omega)];omega
 ·subst g;have d:=c.1;have f:=c.2;exact l1x (x:=u) rfl (l1l (xH ⟨by omega,by omega⟩) λ_ i=>m1a (λ_=>l1j ⟨by simp,by simp⟩) λe=>l1j (i (by simpa using e)))
abbrev Rq (n:Nat)(r:U13):Prop:=Sl 1000 r.b/\Sl 1000 r.c/\Sl 1000 r.d/\Sl n r.e
theorem z0d {p:U8}{k:Int}{n m:Nat}(h:Ls m w5 (Sr n) p.m)(f:Sl 1000 p.a)(g:m<=1099511627776):An (λO=>oX O p k) (Rq n):=by refine m1c ?_;unfold oX l0g;have i:=h.1;refine l1l (iM _ _ _) λb d=>m1a (λ_=>l1q ⟨by simp,by simp,by simp,by simp⟩) λe=>?_;have:=lH d (by simpa using e) (by omega);exact m1b this.1 (l1l (r8 h.2 this.2) λy ⟨c,_⟩=>l1l (d0a _) λ_ _=>l1q ⟨c.1,c.2.1,f,c.2.2.1⟩)
theorem d0j {r:U13}{n:Nat}(h:Rq n r)(d:n<=1099511627776):An (λO=>jZ O r) tt:=by refine m1c ?_;unfold jZ Nj;obtain⟨a,e,b,c⟩:=h;exact l1l (iM _ _ _) λ_ _=>m1a (λ_=>l1l (xH ⟨Sl.up (by omega) a,Sl.up (by omega) e⟩) λ_ _=>m1a (λ_=>l1l (mj (Sl.up (by omega) b)) λ_ _=>m1a (λ_=>m1a (λ_=>l1q trivial) λ_=>l1l (Rh (Sl.up d c)) λ_ _=>l1q trivial) λ_=>l1q trivial) λ_=>l1q trivial) λ_=>l1q trivial
theorem Ri {l:LV}{s:LU}{n m:Nat}(h:Tx n m l)(g:n<=1099511627776):An (λO=>oA O l s) tt:=by
 refine m1c ?_;unfold oA N9;have f:=h.1;refine l1l (wh IP (λx=>x.1=l/\x.2.1=s/\0<=x.2.2/\x.2.2<=l.length) (λx=>(l.length-x.2.2).toNat) (Ex:=λr=>r=(0,[])\/r=(1,lf true)) ⟨rfl,rfl,by simp,by simp⟩ λx ⟨a,b,d,i⟩=>?_) λr c=>?_;·rw[a,b];refine l1v (λe=>m1b d (l1l (r2 h.2 (by omega)) λy _=>m1a (λ_=>l1m (.inr rfl)) λ_=>l1y ⟨rfl,rfl,?_,?_⟩ ?_)) λe=>l1m (.inl rfl)<;>simp only<;>rw[bC (by omega)]<;>omega
 ·rcases c with rfl|rfl;·exact l1r (l1q trivial)
  ·exact l1p (l1x (x:=true) rfl (l1q trivial))
theorem y0t {p:U1}{k:Int}{s:LU}{n m:Nat}(h:Po n m p)(a:n<=1099511627776):An (λO=>ql O p k s) tt:=by refine m1c ?_;unfold ql Nk;exact m1a (λ_=>l1q trivial) λ_=>m1j tt (λ_ _=>m1a (λ_=>l1l (Ri h.1 a) λ_ _=>l1q trivial) λ_=>m1a (λ_=>l1l (Ri h.2.1 a) λ_ _=>l1q trivial) λ_=>m1a (λ_=>l1l (Ri h.2.2.1 a) λ_ _=>l1q trivial) λ_=>l1q trivial) λj b=>m1a (λ_=>b _ trivial) λ_=>b _ trivial
theorem Jm {p:U1}{r:U13}{n m k:Nat}(h:Po n m p)(a:Rq k r)(c:n<=1099511627776)(b:k<=1099511627776):An (λO=>dY O p r) tt:=by refine m1c ?_;unfold dY NA;exact l1l (d0j a b) λ_ _=>m1a (λ_=>l1q trivial) λ_=>m1a (λ_=>l1l (y0t h c) λ_ _=>m1a (λ_=>l1q trivial) λ_=>l1q trivial) λ_=>l1q trivial
theorem Pg.sl' {n m k:Nat}{p:U8}{l:LV}(h:Pg T k n p)(a:n<=m)(b:Ls m w5 (Sr m) l):Pg T k m {p with m:=l}:=
 have h:=Pg.up (Nat.le_refl k) a h
 ⟨h.ad,h.po,h.tok,h.qu,h.bu,b,h.mo,h.en,h.ra,h.lo⟩
theorem Pg.mo' {n m k:Nat}{p:U8}{l:LV}(h:Pg T n k p)(b:n<=m)(c:Ls m w6 Md l)(a:p.t.length+oP l p.t<=m):Pg T m k {p with n:=l}:=
 have h:=Pg.up b (Nat.le_refl k) h
 ⟨h.ad,h.po,h.tok,h.qu,h.bu,h.sl,c,h.en,⟨a,h.ra.2⟩,h.lo⟩
theorem Pg.en' {n m k:Nat}{p:U8}{l:LV}(h:Pg T n k p)(a:n<=m)(b:Ls m w2 Ad l):Pg T m k {p with o:=l}:=
 have h:=Pg.up a (Nat.le_refl k) h
 ⟨h.ad,h.po,h.tok,h.qu,h.bu,h.sl,h.mo,b,h.ra,h.lo⟩
theorem Pg.ra' {n m k:Nat}{p:U8}{l:LV}(h:Pg T n k p)(a:n<=m)(b:l.length+oP p.n l<=m/\Rw w2 Ad l):Pg T m k {p with t:=l}:=
 have h:=Pg.up a (Nat.le_refl k) h
 ⟨h.ad,h.po,h.tok,h.qu,h.bu,h.sl,h.mo,h.en,b,h.lo⟩
theorem Pg.nu {n k:Nat}{p:U8}(h:Pg T n k p)(a b c d:Int)(e:Bool):Pg T n k {p with p:=a,q:=b,r:=c,s:=d,v:=e}:=⟨h.ad,h.po,h.tok,h.qu,h.bu,h.sl,h.mo,h.en,h.ra,h.lo⟩
theorem Fk {p:U8}{l i:Int}{s d:LU}{n k:Nat}(h:Pg T k n p)(hs:Sl n s)(A:Sl n d)(D:n<=100000000000/\k<=100000000000):cO (λO=>gk O p l s d i) λq _=>Pg T k (n+1) q/\q.k=p.k:=by
 refine l1s ?_;unfold gk Nf;have C:=h.sl.1;refine l1l (sF h (by omega)) λy x=>?_;subst x;have e:Pg T k (n+1) y/\y.k=y.k:=⟨Pg.up (by omega) (by omega) h,rfl⟩;refine m1k (l1h (Fl (n:=n+1000) (Sl.up (by omega) hs) (Sl.up (by omega) h.ad.1) (by omega)) λa B v=>m1f (kp (by omega) (by omega)) ?_) λj o=>l1n (λ_=>l1j e) λ_=>l1l (d0a _) λ_ _=>m1a (λ_=>l1j e) λ_=>o;have c:Ls (n+1) w5 (Sr (n+1)) (y.m++[w5 ⟨l,a.a,a.b,d,i,false,0,[]⟩]):=⟨by simp;omega,(h.sl.2.mono λ_=>Sr.up (by omega)).app (Rw.one ⟨Sl.up (by omega) v.1,Sl.up (by omega) v.2,Sl.up (by omega) A,by simp⟩)⟩;refine m1j tt (λE _=>m1a (λ_=>l1z ?_ (l1l (fF (λy=>{y with f:=true}) c.2 ?_ (λ_ q=>q) λy=>⟨_,rfl,rfl⟩) λF ⟨t,k9,_⟩=>l1z ?_ (l1l (fF (λy=>{y with g:=2}) k9 ?_ (λ_ q=>q) λy=>⟨_,rfl,rfl⟩) λz ⟨u,q0w,_⟩=>l1j ⟨h.sl' (by omega) ⟨?_,q0w⟩,rfl⟩))) λ_=>l1j ⟨h.sl' (by omega) c,rfl⟩) λj o=>m1a (λ_=>o _ trivial) λ_=>l1l (z0d (p:={y with m:=y.m++[w5 ⟨l,a.a,a.b,d,i,false,0,[]⟩]}) (n:=n+1) (m:=n+1) c h.ad.1 (by omega)) λr w=>l1l (Jm h.po w (by omega) (by omega)) λ_ _=>o _ trivial;·rw[aJ];simp
 ·rw[aJ];simp
 ·rw[aJ,t];simp
 ·rw[aJ,t];simp
 ·rw[u,t];exact c.1
theorem y0f {p:U8}{t:U9}{k:Int}{n j:Nat}(h:Pg T j n p)(u:Tk n t)(z:n<=10000000000/\j<=10000000000):An (λO=>gV O p t k) λq=>Pg T j (n+2) q/\q.k=p.k:=by refine m1c ?_;unfold gV xf;have f:∀s,cO (λO=>cH O t.c s) λt _=>Sl n t:=λs=>Jn u.2.1 (by omega);have a:∀{q:U8},Pg T j (n+1) q/\q.k=p.k->Pg T j (n+2) q/\q.k=p.k:=λh=>⟨Pg.up (by omega) (by omega) h.1,h.2⟩;have e:Pg T j (n+2) p/\p.k=p.k:=⟨Pg.up (by omega) (by omega) h,rfl⟩;refine l1h (f _) λA _ i=>m1j (λy=>Pg T j (n+1) y/\y.k=p.k) (λy g=>l1h (f _) λv _ l=>m1a (λ_=>m1a (λ_=>l1h (Fk g.1 (Sl.up (by omega) l) (Sl.up (by omega) i) (by omega)) λq _ b=>l1q ⟨b.1,b.2.trans g.2⟩) λ_=>l1q (a g)) λ_=>l1q (a g)) λx w=>m1k (l1h (f _) λv _ l=>m1a (λ_=>m1a (λ_=>l1h (Fk h l i (by omega)) λq _ b=>l1q (a b)) λ_=>l1q e) λ_=>l1q e) λr d=>l1h (f _) λt3 _ o=>m1a (λ_=>m1a (λ_=>l1h (Fk h o i (by omega)) λq _ b=>w _ b) λ_=>d) λ_=>d
theorem y0q (p:U1)(s:LU):An (λO=>qj O p s) tt:=by refine m1c ?_;unfold qj Ng;exact m1a (λ_=>l1q trivial) λ_=>m1a (λ_=>l1q trivial) λ_=>l1q trivial
theorem y0j (a b:U5):An (λO=>qa O a b) tt:=by refine m1c ?_;unfold qa ND;exact m1a (λ_=>l1q trivial) λ_=>m1a (λ_=>l1q trivial) λ_=>m1a (λ_=>m1a (λ_=>l1q trivial) λ_=>l1q trivial) λ_=>l1q trivial
end Go.Am
end
