/-
  Proved: lemmas for Rows.FnFormatsCardSaid.
-/
import Derived.Test.YtmkhgngckgcpeaaGreatDooruV1
set_option linter.all false
section
namespace Go.Am
open Go
abbrev Sl (n:Nat)(s:LU):Prop:=s.length<=n
def IC (n:Nat):LV->Bool
 | []=>true
 |.str s :: l=>decide (s.length<=n)&&IC n l
 |_=>false
theorem rS {n:Nat}:∀{l:LV},IC n l=true->Rw V.str (Sl n) l
 | [],_=>Rw.nil
 |v :: l,h=>by cases v<;>simp only[IC,Bool.and_eq_true,decide_eq_true_eq,Bool.false_eq_true]at h;exact Rw.cons h.1 (rS h.2)
def H_:LV->Bool
 | []=>true
 |.int .i64 _ :: l=>H_ l
 |_=>false
theorem rN:∀{l:LV},H_ l=true->Rw wn tt l
 | [],_=>Rw.nil
 |v :: l,h=>by
  cases v with
  |int k n=>cases k<;>first|(exact Rw.cons trivial (rN h))|(simp[H_]at h)
  |_=>simp[H_]at h
theorem oM {c:U0}(n:Nat){l:LV}(h:Cu c)(b:IC n l=true)(a:l≠[]):cO (λO=>aG O l c) λs y=>Sl n s/\Cu y:=i0g h (rS b) a
theorem y0k {c:U0}(h:Cu c):cO (λO=>gW O c) λs y=>Sl 34 s/\Cu y:=by
 refine l1s ?_;unfold gW xh;refine l1h (kW 8 h) λn y ⟨_,h⟩=>m1a (λ_=>?_) λ_=>m1a (λ_=>?_) λ_=>m1a (λ_=>?_) λ_=>m1a (λ_=>?_) λ_=>m1a (λ_=>?_) λ_=>m1a (λ_=>?_) λ_=>?_;·exact l1h (oM 8 h rfl (by simp)) λs y ⟨hs,a⟩=>m1i (by simp;omega) (l1j ⟨by simp;omega,a⟩)
 ·exact l1h (oM 8 h rfl (by simp)) λs y ⟨hs,a⟩=>m1i (by simp;omega) (l1j ⟨by simp;omega,a⟩)
 ·exact l1h (oM 8 h rfl (by simp)) λs y ⟨hs,a⟩=>m1i (by simp;omega) (m1i (by simp;omega) (l1h (oM 8 a rfl (by simp)) λe f ⟨d,b⟩=>m1i (by simp;omega) (l1j ⟨by simp;omega,b⟩)))
 ·exact l1h (oM 8 h rfl (by simp)) λs y ⟨hs,a⟩=>m1i (by simp;omega) (l1j ⟨by simp;omega,a⟩)
 ·exact l1h (oM 9 h rfl (by simp)) λs y ⟨hs,a⟩=>m1i (by simp;omega) (l1j ⟨by simp;omega,a⟩)
 ·exact l1h (oM 25 h rfl (by simp)) λs y ⟨hs,a⟩=>l1j ⟨by simp at hs ⊢;omega,a⟩
 ·exact l1h (oM 25 h rfl (by simp)) λs y ⟨hs,a⟩=>l1j ⟨by simp at hs ⊢;omega,a⟩
abbrev Id (N:Nat)(x:LU×Int×U0):Prop:=(0<=x.2.1/\x.2.1<=N)/\x.1.length+200*x.2.1<=200*N/\Cu x.2.2
theorem x0z {c:U0}{n:Int}(o:0<=n/\n<=100)(h:Cu c):cO (λO=>gU O n c) λs y=>(s.length:Int)<=40*n+10/\Cu y:=by
 refine l1s ?_;unfold gU xd;refine l1h (kW _ h) λm y ⟨f,h⟩=>l1l (wh h0v (λx=>(0<=x.2.1/\x.2.1<=n)/\x.1.length+40*x.2.1<=40*n/\Cu x.2.2) (λx=>x.2.1.toNat) (Ex:=λr=>∃s c,r=(0,LC (s,c))/\(s.length:Int)<=40*n/\Cu c) ⟨?_,?_,h⟩ λx ⟨l,k,d⟩=>?_) λr ⟨s,c,i,hs,j⟩=>?_;·rw[bC (by omega)]at f;simp<;>omega
 ·rw[bC (by omega)]at f;simp;omega
 ·refine m1a (λe=>?_) λe=>l1m ⟨_,_,rfl,by simp at e;omega,d⟩;simp at e;refine l1h (xI 3 d) λb y a=>m1a (λ_=>?_) λ_=>?_;·refine l1h (oM 8 a rfl (by simp)) λt y ⟨g,a⟩=>m1i (by omega) (l1y ⟨?_,?_,a⟩ ?_)<;>(try rw[lU (by omega)])<;>(try simp only[List.length_append])<;>omega
  ·refine m1i (by simp;omega) (l1h (y0k a) λt y ⟨g,a⟩=>m1i (by simp;omega) (m1i (by simp;omega) (l1y ⟨?_,?_,a⟩ ?_)))<;>(try rw[lU (by omega)])<;>(try simp only[List.length_append,List.length_cons,List.length_nil])<;>omega
 ·subst i;refine l1x (x:=(s,c)) rfl (l1h (xI 6 j) λb y a=>m1a (λ_=>?_) λ_=>l1j ⟨by simp<;>omega,a⟩);exact l1h (oM 8 a rfl (by simp)) λt y ⟨g,a⟩=>m1i (by simp<;>omega) (l1j ⟨by simp<;>omega,a⟩)
theorem c0y {c:U0}{n:Int}(p:0<=n/\n<=100)(h:Cu c):cO (λO=>cy O n c) λs y=>Sl 21000 s/\Cu y:=by
 refine l1s ?_;unfold cy xT;refine l1h (kW _ h) λm y ⟨u,h⟩=>?_;have l:0<=m/\m<=100:=by omega
 rw[Int.add_comm,bC (by omega)];refine l1l (wh h0v (Id 101) (λx=>x.2.1.toNat) (Ex:=λr=>∃s c,r=(0,LC (s,c))/\Sl 20200 s/\Cu c) ⟨⟨by simp<;>omega,by simp<;>omega⟩,by simp<;>omega,h⟩ λx ⟨k,i,a⟩=>?_) λr ⟨s,c,d,hs,g⟩=>?_;·refine m1a (λe=>?_) λe=>l1m ⟨_,_,rfl,by simp at e;omega,a⟩;simp at e;refine m1j (Sl (x.1.length+1)) (λt v=>l1h (oM 40 a rfl (by simp)) λq y ⟨f,o⟩=>m1i (by omega) (l1y ⟨?_,?_,o⟩ ?_)) λj b=>m1a (λ_=>m1i (by simp<;>omega) (b _ (by simp))) λ_=>b _ (by simp)<;>(try rw[lU (by omega)])<;>(try simp only[List.length_append])<;>omega
 ·subst d;exact l1x (x:=(s,c)) rfl (l1j ⟨by simp<;>omega,g⟩)
theorem x0y {c:U0}(h:Cu c):cO (λO=>gR O c) λs y=>Sl 21000 s/\Cu y:=by
 refine l1s ?_;unfold gR xc;refine l1h (kW _ h) λm y ⟨n,h⟩=>l1l (wh h0v (Id 101) (λx=>x.2.1.toNat) (Ex:=λr=>∃s c,r=(0,LC (s,c))/\Sl 20200 s/\Cu c) ⟨⟨by simp<;>omega,by simp<;>omega⟩,by simp<;>omega,h⟩ λx ⟨j,i,a⟩=>?_) λr ⟨s,c,d,hs,g⟩=>?_;·refine m1a (λe=>?_) λe=>l1m ⟨_,_,rfl,by simp at e;omega,a⟩;simp at e;refine l1h (oM 8 a rfl (by simp)) λt y ⟨p,k⟩=>m1i (by omega) (m1i (by simp<;>omega) (l1h (oM 8 k rfl (by simp)) λl o ⟨f,b⟩=>m1i (by simp<;>omega) (m1i (by simp<;>omega) (l1y ⟨?_,?_,b⟩ ?_))))<;>(try rw[lU (by omega)])<;>(try simp only[List.length_append,List.length_cons,List.length_nil])<;>omega
 ·subst d;exact l1x (x:=(s,c)) rfl (l1j ⟨by simp<;>omega,g⟩)
theorem k1f {c:U0}{n:Int}(h:Cu c):cO (λO=>gN O n c) λs y=>(Sl 21000 s/\(n=1->Sl 400 s))/\Cu y:=by refine l1s ?_;unfold gN xR;refine m1a (λe=>l1h (c0y (by omega) h) λ_ _ h=>l1j ⟨⟨h.1,λq=>by rw[q]at e;cases e⟩,h.2⟩) λ_=>m1a (λe=>l1h (x0y h) λ_ _ h=>l1j ⟨⟨h.1,λq=>by rw[q]at e;cases e⟩,h.2⟩) λ_=>m1a (λ_=>?_) λ_=>m1a (λ_=>l1j ⟨⟨by simp,λ_=>by simp⟩,h⟩) λ_=>l1h (x0z (by omega) h) λt _ ⟨i,h⟩=>l1j ⟨⟨by show t.length<=_;omega,λ_=>by show t.length<=_;omega⟩,h⟩;exact l1h (oM 30 h rfl (by simp)) λs y ⟨hs,d⟩=>l1h (oM 30 d rfl (by simp)) λf g ⟨b,a⟩=>m1i (by omega) (l1j ⟨⟨by simp<;>omega,λ_=>by simp<;>omega⟩,a⟩)
abbrev Tx (n m:Nat)(l:LV):Prop:=l.length<=n/\Rw V.str (Sl m) l
theorem Tx.nil {n m:Nat}:Tx n m []:=⟨Nat.zero_le _,Rw.nil⟩
theorem a0 {P:LU->Prop}{l:LV}(h:Rw V.str P l){i:Nat}(a:i<l.length):An (λ_=>fO l i 0) (λy=>P y/\l[i]?=some (.str y)):=h.ix (f:=λl i=>fO l i 0) (λ_ l i y k h=>by show fO l i 0 k=_;unfold fO;exact d8 (ks:=[.str]) (e:=(y,())) h rfl) a
def hs3:List LU:=[[104,111,109,101],[99,100,110],[101,118,105,108]]
abbrev Hs (s:List LU):Prop:=s.length<=3 /\ ∀t∈s,t∈hs3
theorem q0r:Rw V.str (· ∈ hs3) (hs3.map V.str):=λr a=>by obtain⟨y,b,rfl⟩:=List.mem_map.1 a;exact⟨y,b,rfl⟩
theorem Rb {c:U0}(h:Cu c):cO (λO=>ew O c) λl y=>(∃s,Hs s/\l=s.map V.str)/\Cu y:=by
 refine l1s ?_;unfold ew xe;refine l1l (wh c1u (λx=>x.2.1=hs3.map V.str/\x.2.2.1=3/\(0<=x.2.2.2.1/\x.2.2.2.1<=3)/\(∃s:List LU,x.1=s.map V.str/\s.length<=x.2.2.2.1 /\ ∀t∈s,t∈hs3)/\Cu x.2.2.2.2) (λx=>(3-x.2.2.2.1).toNat) (Ex:=λr=>∃l c,r=(0,Cd (l,c))/\(∃s,Hs s/\l=s.map V.str)/\Cu c) ⟨rfl,rfl,by simp,⟨[],rfl,by simp,by simp⟩,h⟩ λx ⟨d,j,v,⟨s,a,z,f⟩,g⟩=>?_) λr ⟨l,c,k,hs,m⟩=>?_
 ·refine m1a (λe=>?_) λe=>l1m ⟨_,_,rfl,⟨s,⟨by omega,f⟩,a⟩,g⟩;simp at e;have w:x.2.1.length=3:=by rw[d];rfl
  have p:x.1.length<=3:=by rw[a];simp;omega
  refine l1z (by omega) (l1l (a0 (P:=(· ∈ hs3)) (by rw[d];exact q0r) (by omega)) λt ⟨o,_⟩=>l1h (xI 2 g) λb y i=>m1a (λ_=>m1f (by simp<;>omega) (l1y ⟨d,j,?_,⟨s++[t],by rw[a];simp,?_,λu n=>(List.mem_append.1 n).elim (f u) λq=>by rw[List.mem_singleton.1 q];exact o⟩,i⟩ ?_)) λ_=>l1y ⟨d,j,?_,⟨s,a,?_,f⟩,i⟩ ?_)<;>(try simp only)<;>(try rw[bC (by omega)])<;>(try simp only[List.length_append,List.length_cons,List.length_nil])<;>omega
 ·subst k;exact l1x (x:=(l,c)) rfl (l1j ⟨hs,m⟩)
theorem Hs.tx {s:List LU}(h:Hs s):Tx 3 4 (s.map V.str):=⟨by simp;exact h.1,λr a=>by
 obtain⟨y,b,rfl⟩:=List.mem_map.1 a
 have:=h.2 y b
 refine⟨y,?_,rfl⟩
 simp only[hs3,List.mem_cons,List.not_mem_nil,or_false]at this
 rcases this with rfl|rfl|rfl<;>decide⟩
abbrev Po (n m:Nat)(p:U1):Prop:=Tx n m p.b/\Tx n m p.c/\Tx n m p.d/\Sl m p.e
abbrev Gp (p:U1):Prop:=p=⟨false,[],[],[],[]⟩ \/ ∃a b c e,p=⟨true,a.map V.str,b.map V.str,c.map V.str,e⟩/\Hs a/\Hs b/\Hs c/\(e=[]\/e=[110,55])
theorem Gp.po {p:U1}(h:Gp p):Po 3 4 p:=by
 rcases h with rfl|⟨a,b,c,e,rfl,i,d,g,f⟩;·exact⟨Tx.nil,Tx.nil,Tx.nil,by simp⟩
 ·exact⟨i.tx,d.tx,g.tx,by rcases f with rfl|rfl<;>simp⟩
theorem RW {c:U0}(h:Cu c):cO (λO=>bX O c) λs y=>Gp s/\Cu y:=by refine l1s ?_;unfold bX xS;refine l1h (xI 2 h) λb y h=>m1a (λ_=>l1j ⟨.inl rfl,h⟩) λ_=>l1h (Rb h) λl1 y ⟨⟨a,e,j⟩,h⟩=>l1h (Rb h) λl2 y ⟨⟨b,f,i⟩,h⟩=>l1h (Rb h) λk y ⟨⟨c,d,g⟩,h⟩=>l1h (xI 2 h) λ_ y h=>m1a (λ_=>l1j ⟨.inr ⟨a,b,c,_,?_,e,f,d,.inr rfl⟩,h⟩) λ_=>l1j ⟨.inr ⟨a,b,c,_,?_,e,f,d,.inl rfl⟩,h⟩<;>rw[j,i,g]
theorem An.ex {A:Type}{G:∀O:Type,(A->Option O)->Option O}{Q:A->Prop}(h:An G Q):An G λa=>Q a /\ ∀O k,G O k=k a:=(let⟨a,h1,h2⟩:=h;⟨a,⟨h1,h2⟩,h2⟩)
theorem iM (x a b:Int):An (λO=>aU O x a b) λr=>r=decide (a<=x/\x<=b):=by refine m1c ?_;unfold aU g0y;refine m1a (λe=>l1q ?_) λe=>l1q ?_<;>rw[Bool.eq_iff_iff]<;>simp at e ⊢<;>omega
end Go.Am
end
section
namespace Go.Am
open Go
theorem mj {s:LU}(hs:Sl 1099511627776 s):An (λO=>aw O s) λb=>b=true->s.length<=8:=by
 refine m1c ?_;unfold aw Hc;refine l1l (wh c1v (λx=>x.1=s/\0<=x.2/\x.2<=s.length) (λx=>(s.length-x.2).toNat) (Ex:=λr=>r=(0,uC s)\/r=(1,vy (s,false))) ⟨rfl,by simp,by simp⟩ λx ⟨f,a,g⟩=>?_) λr d=>?_;·rw[f];refine l1t (λe=>?_) λe=>l1m (.inl rfl);refine l1l (ig a (by omega)) λb _=>m1a (λ_=>l1m (.inr rfl)) λ_=>l1l (ig a (by omega)) λb _=>m1a (λ_=>l1m (.inr rfl)) λ_=>l1y ⟨rfl,?_,?_⟩ ?_<;>simp only<;>rw[bC (by omega)]<;>omega
 ·rcases d with rfl|rfl;·exact l1r (l1x (x:=s) rfl (l1l (iM _ _ _) λb c=>l1q (by rw[c,aW];simp<;>omega)))
  ·exact l1p (l1x (x:=(s,false)) rfl (l1q (by simp)))
theorem Rg {l:LV}{n:Nat}(a:Tx 1099511627776 n l)(k:n<=1099511627776):An (λO=>ke O l) λb=>b=true->Tx 4 8 l:=by
 refine m1c ?_;unfold ke Hh;refine l1l (wh h0t (λx=>x.1=l/\(0<=x.2/\x.2<=l.length) /\ ∀i:Nat,(i:Int)<x.2 -> ∀s,l[i]?=some (.str s)->s.length<=8) (λx=>(l.length-x.2).toNat) (Ex:=λr=>r=(1,D_ (l,false))\/r=(0,fo l) /\ ∀s,.str s∈l->s.length<=8) ⟨rfl,by simp,λi h=>by simp at h;omega⟩ λx ⟨q,t,j⟩=>?_) λr f=>?_
 ·rw[q];refine l1v (λe=>?_) λe=>l1m (.inr ⟨rfl,λs hs=>?_⟩)
  ·refine m1b t.1 (l1l (r2 a.2 (by omega)) λy ⟨p,o⟩=>?_);refine l1l (mj (Nat.le_trans p k)) λb m=>m1a (λ_=>l1m (.inl rfl)) λg=>l1y ⟨rfl,?_,λi d s hs=>?_⟩ ?_;·simp only;rw[bC (by have:=a.1;omega)];omega
   ·simp only at d;rw[bC (by have:=a.1;omega)]at d;by_cases c:(i:Int)=x.2
    ·have:i=x.2.toNat:=by omega
     rw[this,o]at hs;simp at hs g;rw[<-hs];exact m g
    ·exact j i (by omega) s hs
   ·simp only;rw[bC (by have:=a.1;omega)];omega
  ·obtain⟨i,d⟩:=List.getElem?_of_mem hs;have:=(bW d).1;exact j i (by omega) s d
 ·rcases f with rfl|⟨rfl,f⟩;·exact l1p (l1x (x:=(l,false)) rfl (l1q (by simp)))
  ·refine l1r (l1x (x:=l) rfl (l1q λe=>⟨by have e:=of_decide_eq_true e;rw[aJ]at e;omega,λr h=>?_⟩));obtain⟨y,_,rfl⟩:=a.2 r h;exact⟨y,f y h,rfl⟩
theorem Rh {s:LU}(hs:Sl 1099511627776 s):An (λO=>eG O s) λb=>b=true->s.length<=20:=by
 refine m1c ?_;unfold eG Hi;refine l1l (wh c1v (λx=>x.1=s/\0<=x.2/\x.2<=s.length) (λx=>(s.length-x.2).toNat) (Ex:=λr=>r=(0,uC s)\/r=(1,vy (s,false))) ⟨rfl,by simp,by simp⟩ λx ⟨f,h,j⟩=>?_) λr i=>?_
 ·rw[f];refine l1t (λe=>?_) λe=>l1m (.inl rfl);have q:∀(P:Int->Prop),An (λ_=>idxS s x.2) λb=>0<=b/\b<256:=λ_=>ig h (by omega)
  have o:∀{m:Nat},Tg (C:=Unit) (T:=λ_=>LL ⊕ (Nat×LL)) (λ_=>some (Sum.inr (1,vy (s,false)))) (λ_ z=>some z) (λz=>match z with
   |.inl t=>∃c,t=qD c/\(c.1=s/\0<=c.2/\c.2<=s.length)/\(s.length-c.2).toNat<m
   |.inr r=>r=(0,uC s)\/r=(1,vy (s,false))):=l1m (.inr rfl)
  have g:Tg (C:=Unit) (T:=λ_=>LL ⊕ (Nat×LL)) (λ_=>some (Sum.inl (qD (s,wi (x.2+1))))) (λ_ z=>some z) (λz=>match z with
   |.inl t=>∃c,t=qD c/\(c.1=s/\0<=c.2/\c.2<=s.length)/\(s.length-c.2).toNat<(s.length-x.2).toNat
   |.inr r=>r=(0,uC s)\/r=(1,vy (s,false))):=by
   refine l1y ⟨rfl,?_,?_⟩ ?_<;>simp only<;>rw[bC (by omega)]<;>omega
  have a:∀b:Int,Tg (C:=Unit) (T:=λ_=>LL ⊕ (Nat×LL)) (λ_=>br (b != 47) (some (Sum.inr (1,vy (s,false)))) (some (Sum.inl (qD (s,wi (x.2+1)))))) (λ_ z=>some z) (λz=>match z with
   |.inl t=>∃c,t=qD c/\(c.1=s/\0<=c.2/\c.2<=s.length)/\(s.length-c.2).toNat<(s.length-x.2).toNat
   |.inr r=>r=(0,uC s)\/r=(1,vy (s,false))):=λb=>m1a (λ_=>o) λ_=>g
  exact l1l (q tt) λ_ _=>m1a (λ_=>l1l (q tt) λ_ _=>m1a (λ_=>l1l (q tt) λb _=>a b) λ_=>l1l (q tt) λ_ _=>m1a (λ_=>l1l (q tt) λb _=>a b) λ_=>g) λ_=>l1l (q tt) λ_ _=>m1a (λ_=>l1l (q tt) λ_ _=>m1a (λ_=>l1l (q tt) λb _=>a b) λ_=>l1l (q tt) λ_ _=>m1a (λ_=>l1l (q tt) λb _=>a b) λ_=>g) λ_=>g
 ·rcases i with rfl|rfl;·exact l1r (l1x (x:=s) rfl (l1l (iM _ _ _) λb d=>l1q (by rw[d,aW];simp<;>omega)))
  ·exact l1p (l1x (x:=(s,false)) rfl (l1q (by simp)))
theorem y0a {p:U1}(h:Po 1099511627776 1099511627776 p):An (λO=>kZ O p) λb=>b=true->p.a=true->Po 4 20 p:=by
 refine m1c ?_;unfold kZ C0;obtain⟨s,t,m,n⟩:=h;have c:∀{l:LV},Tx 4 8 l->Tx 4 20 l:=λh=>⟨h.1,h.2.mono λy (v:y.length<=8)=>by show y.length<=20;omega⟩;refine m1a (λe=>?_) λe=>?_
 ·have e:¬p.a=true:=by simpa using e
  exact m1a (λ_=>m1a (λ_=>m1a (λ_=>l1q λ_ q=>absurd q e) λ_=>l1q λ_ q=>absurd q e) λ_=>l1q λ_ q=>absurd q e) λ_=>l1q λ_ q=>absurd q e
 ·have r:p.e=[]->Sl 20 p.e:=λh=>by rw[h];simp
  exact l1l (Rg s (by omega)) λu q1=>m1a (λj=>l1l (Rg t (by omega)) λw k=>m1a (λf=>l1l (Rg m (by omega)) λx i=>m1a (λd=>m1a (λg=>l1q λ_ _=>⟨c (q1 j),c (k f),c (i d),r (by simpa using g)⟩) λg=>l1l (Rh n) λb o=>l1q λe _=>⟨c (q1 j),c (k f),c (i d),o e⟩) λ_=>l1q (by simp)) λ_=>l1q (by simp)) λ_=>l1q (by simp)
theorem Jj {w:LU}{l:LV}{n m:Nat}(g:Sl n w)(a:Tx n m l)(p:n<=1000000)(q:m<=1099511627776):An (λO=>kc O w l) λs=>s.length<=n+n*(m+1):=by
 refine m1c ?_;unfold kc Hf;refine l1l (wh X4 (λx=>x.2.1=l/\(0<=x.2.2/\x.2.2<=l.length)/\x.1.length<=n+x.2.2.toNat*(m+1)) (λx=>(l.length-x.2.2).toNat) (Ex:=λr=>∃s,r=(0,uC s)/\s.length<=n+n*(m+1)) ⟨rfl,by simp,by simpa using g⟩ λx ⟨i,j,f⟩=>?_) λr ⟨s,b,hs⟩=>?_
 ·rw[i];have h:∀k:Nat,k<=n->k*(m+1)<=1000000*(1099511627776+1):=λk c=>Nat.mul_le_mul (by omega) (by omega);have d:=a.1;refine l1v (λe=>?_) λe=>l1m ⟨_,rfl,Nat.le_trans f (Nat.add_le_add_left (Nat.mul_le_mul_right _ (by omega)) _)⟩;have c:=h x.2.2.toNat (by omega);have o:(x.2.2+1).toNat*(m+1)=x.2.2.toNat*(m+1)+(m+1):=by rw[show(x.2.2+1).toNat=x.2.2.toNat+1 by omega,Nat.add_mul,Nat.one_mul]
  refine m1i (by simp;omega) (m1b j.1 (l1l (r2 a.2 (by omega)) λt ⟨(u:t.length<=m),_⟩=>m1i (by simp;omega) (l1y ⟨rfl,?_,?_⟩ ?_)))<;>simp only<;>rw[bC (by omega)];·omega
  ·simp;omega
  ·omega
 ·subst b;exact l1x (x:=s) rfl (l1q hs)
theorem Po.mono {a b n m:Nat}{p:U1}(h:Po a b p)(e:a<=n)(c:b<=m):Po n m p:=
 have f:∀{l:LV},Tx a b l->Tx n m l:=λh=>⟨Nat.le_trans h.1 e,h.2.mono λy d=>Nat.le_trans d c⟩
 ⟨f h.1,f h.2.1,f h.2.2.1,Nat.le_trans h.2.2.2 c⟩
theorem Jg {p:U1}(h:Po 1099511627776 1099511627776 p):An (λO=>cG O p) λs=>Sl 10000 s/\(s≠[]->Po 4 20 p):=by refine m1c ?_;unfold cG Cz;refine m1e (l1l (y0a h) λb e=>m1a (λ_=>l1q ⟨by simp,by simp⟩) λi=>m1a (λ_=>l1q ⟨by simp,by simp⟩) λg=>?_);have c:=e (by simpa using i) (by simpa using g);obtain⟨q1,j,f,k⟩:=c.mono (n:=20) (m:=20) (by omega) (by omega);refine l1l (Jj (by simp) q1 (by omega) (by omega)) λa l=>m1i (by simp<;>omega) (l1l (Jj (by simp) j (by omega) (by omega)) λb e=>m1i (by simp<;>omega) (m1i (by simp<;>omega) (l1l (Jj (by simp) f (by omega) (by omega)) λd o=>m1i (by simp<;>omega) (m1a (λ_=>m1i (by simp<;>omega) (m1i (by simp<;>omega) (l1q ⟨by simp<;>omega,λ_=>c⟩))) λ_=>l1q ⟨by simp<;>omega,λ_=>c⟩))))
abbrev Re (n:Nat)(x:U2):Prop:=Sl n x.c/\Sl n x.f
abbrev Gr (n:Int)(x:U2):Prop:=x.a=200/\x.b=n/\(0<=x.d/\x.d<=50)/\(n=1->Sl 400 x.c /\ ∃p,Gp p /\ ∀(O:Type) k,cG O p k=k x.f)
theorem L_ {c:U0}{n:Int}(h:Cu c):cO (λO=>cA O n c) λx y=>(Re 21000 x/\Gr n x)/\Cu y:=by refine l1s ?_;unfold cA DE;refine l1h (k1f h) λt y ⟨⟨f,a⟩,h⟩=>l1h (Fm (P:=λm=>0<=m/\m<=50) h (by repeat first|exact Rw.nil|refine Rw.cons (w:=wn) (by omega) ?_) (by simp)) λi y ⟨d,h⟩=>l1h (xI 2 h) λb y h=>m1a (λ_=>l1h (RW h) λp y ⟨g,h⟩=>l1l (Jg (g.po.mono (by omega) (by omega))).ex λs ⟨hs,e⟩=>l1j ⟨⟨⟨f,by have:=hs.1;show s.length<=_;omega⟩,rfl,rfl,d,λq=>⟨a q,p,g,e⟩⟩,h⟩) λe=>l1j ⟨⟨⟨f,by simp⟩,rfl,rfl,d,λq=>by rw[q]at e;cases e⟩,h⟩
def wf (y:U4):V:=.agg [.str y.a,.int .i64 y.b,.int .i64 y.c,.str y.d,.int .i64 y.e,.bool y.f,.str y.g]
def qC (y:U3):V:=.agg [.str y.a,.sl 7 true y.b]
theorem r4 {P:U4->Prop}{l:LV}(h:Rw wf P l){i:Nat}(j:i<l.length):An (λ_=>Ce l i) λy=>P y/\l[i]?=some (wf y):=h.ix (f:=Ce) (λ_ l i y k h=>by unfold Ce;exact dA (ks:=[.str,.int .i64,.int .i64,.str,.int .i64,.bool,.str]) (e:=(y.a,y.b,y.c,y.d,y.e,y.f,y.g,())) h rfl) j
theorem r3 {P:U3->Prop}{l:LV}(h:Rw qC P l){i:Nat}(c:i<l.length):An (λ_=>wM l i) λy=>P y/\l[i]?=some (qC y):=h.ix (f:=wM) (λ_ l i y k h=>by unfold wM;exact dA (ks:=[.str,.sl 7 true]) (e:=(y.a,y.b,())) h rfl) c
abbrev Fi (n:Nat)(y:U4):Prop:=Sl n y.a/\Sl n y.d/\Sl n y.g
abbrev Srv (m n:Nat)(y:U3):Prop:=Sl n y.a/\y.b.length<=m/\Rw wf (Fi n) y.b
abbrev Svs (m n:Nat)(l:LV):Prop:=l.length<=m/\Rw qC (Srv m n) l
abbrev At {U:Type}(w:U->V)(P:U->Prop)(l:LV)(k:Int):Prop:=k = -1 \/ ∃(i:Nat) (y:U),k=i/\l[i]?=some (w y)/\P y
theorem z0e {l:LV}{s:LU}{m n:Nat}(h:Svs m n l)(q:m<=1099511627776):An (λO=>sK O l s) (At qC (λy=>y.a=s) l):=by
 refine m1c ?_;unfold sK l0l;have o:=h.1;refine l1l (wh IP (λx=>x.1=l/\x.2.1=s/\0<=x.2.2/\x.2.2<=l.length) (λx=>(l.length-x.2.2).toNat) (Ex:=λr=>r=(0,[]) \/ ∃(i:Nat) (y:U3),r=(1,cY (i:Int))/\l[i]?=some (qC y)/\y.a=s) ⟨rfl,rfl,by simp,by simp⟩ λx ⟨j,k,d,p⟩=>?_) λr g=>?_;·rw[j,k];refine l1v (λe=>m1b d (l1l (r3 h.2 (by omega)) λy ⟨f,b⟩=>m1a (λc=>l1m (.inr ⟨x.2.2.toNat,y,by rw[Int.toNat_of_nonneg d],b,by simpa using c⟩)) λc=>l1y ⟨rfl,rfl,?_,?_⟩ ?_)) λe=>l1m (.inl rfl)<;>simp only<;>rw[bC (by omega)]<;>omega
 ·rcases g with rfl|⟨i,y,rfl,b,f⟩;·exact l1r (l1q (.inl rfl))
  ·exact l1p (l1x (x:=(i:Int)) rfl (l1q (.inr ⟨i,y,rfl,b,f⟩)))
theorem d1u {v:U3}{s:LU}{m n:Nat}(h:Srv m n v)(q:m<=1099511627776):An (λO=>AU O v s) (At wf (λy=>y.a=s) v.b):=by
 refine m1c ?_;unfold AU l0m;have o:=h.2.1;refine l1l (wh p0e (λx=>x.1=s/\x.2.2=v/\0<=x.2.1/\x.2.1<=v.b.length) (λx=>(v.b.length-x.2.1).toNat) (Ex:=λr=>r=(0,[]) \/ ∃(i:Nat) (y:U4),r=(1,cY (i:Int))/\v.b[i]?=some (wf y)/\y.a=s) ⟨rfl,rfl,by simp,by simp⟩ λx ⟨k,l,f,p⟩=>?_) λr j=>?_;·rw[k,l];refine l1v (λe=>m1b f (l1l (r4 h.2.2 (by omega)) λy ⟨g,c⟩=>m1a (λd=>l1m (.inr ⟨x.2.1.toNat,y,by rw[Int.toNat_of_nonneg f],c,by simpa using d⟩)) λd=>l1y ⟨rfl,rfl,?_,?_⟩ ?_)) λe=>l1m (.inl rfl)<;>simp only<;>rw[bC (by omega)]<;>omega
 ·rcases j with rfl|⟨i,y,rfl,c,g⟩;·exact l1r (l1q (.inl rfl))
  ·exact l1p (l1x (x:=(i:Int)) rfl (l1q (.inr ⟨i,y,rfl,c,g⟩)))
theorem uc {s:LU}(z:Int)(hs:Sl 1099511627776 s):An (λO=>cP O s z) λl=>Tx (s.length+1) s.length l/\1<=l.length:=by
 refine m1c ?_;unfold cP Hj;refine l1l (wh YL (λx=>x.1=s/\x.2.1=z/\Rw V.str (Sl s.length) x.2.2.1/\x.2.2.1.length<=x.2.2.2.2/\(0<=x.2.2.2.1/\x.2.2.2.1<=x.2.2.2.2/\x.2.2.2.2<=s.length+1)/\(x.2.2.2.2=s.length+1->1<=x.2.2.1.length)) (λx=>(s.length+1-x.2.2.2.2).toNat) (Ex:=λr=>∃l,r=(0,fo l)/\Tx (s.length+1) s.length l/\1<=l.length) ⟨rfl,rfl,Rw.nil,by simp,by simp<;>omega,λh=>by simp at h;omega⟩ λx ⟨o,p,c,t,f,k⟩=>?_) λr ⟨l,i,m⟩=>?_
 ·rw[o,p];refine l1n (λe=>?_) λe=>l1m ⟨_,rfl,⟨by omega,c⟩,k (by rw[aW]at e;omega)⟩;rw[aW]at e;refine m1j (λb=>x.2.2.2.2=s.length->b=true) (λb n=>m1a (λ_=>m1g ⟨f.1,f.2.1,e⟩ (m1f (by simp<;>omega) (l1y ⟨rfl,rfl,c.app (Rw.one (by simp<;>omega)),?_,?_,?_⟩ ?_))) λd=>l1y ⟨rfl,rfl,c,?_,?_,?_⟩ ?_) λj g=>m1a (λ_=>g _ λ_=>rfl) λa=>l1l (ig (by omega) ?_) λb _=>g _ λq=>?_
  all_goals (try simp only)
  all_goals (try rw[bC (by omega)])
  all_goals (try simp only[List.length_append,List.length_cons,List.length_nil])
  ·omega
  ·omega
  ·omega
  ·omega
  ·omega
  ·omega
  ·intro q;rw[n (by omega)]at d;cases d
  ·omega
  ·rw[aW]at a;simp at a;omega
  ·rw[aW]at a;simp at a;omega
 ·subst i;exact l1x (x:=l) rfl (l1q m)
theorem Tx.cut {n m:Nat}{l:LV}(h:Tx n m l)(a b:Nat):Tx n m ((l.take a).drop b):=⟨by have:=h.1;simp;omega,(h.2.take a).drop b⟩
theorem Tx.mono {a b n m:Nat}{l:LV}(h:Tx a b l)(e:a<=n)(c:b<=m):Tx n m l:=⟨Nat.le_trans h.1 e,h.2.mono λy d=>Nat.le_trans d c⟩
theorem d0d {s:LU}(hs:Sl 549755813888 s):cO (λO=>fV O s) λp b=>Po 4 20 p/\(b=true->Sl 10000 s):=by
 refine l1s ?_;unfold fV C1;have v:Po 4 20 ⟨false,[],[],[],[]⟩:=⟨Tx.nil,Tx.nil,Tx.nil,by simp⟩;have L:s=[]->Sl 10000 s:=λh=>by rw[h];simp
 refine m1a (λe=>l1j ⟨v,λ_=>L (by simpa using e)⟩) λe=>?_;have e:s≠[]:=by simpa using e
 refine l1l (uc _ (by omega)) λl ⟨g,B⟩=>l1n (λ_=>l1j ⟨v,by simp⟩) λK=>?_;rw[aJ]at K;have f:∀{q:U1} {b:U1->LU -> ∀c:(Σ O:Type,U1->Bool->Option O),Option c.1},Po 1099511627776 1099511627776 q->Tg (C:=Σ O:Type,U1->Bool->Option O) (T:=λc=>c.1) (λc=>cG c.1 q λt=>br (!(t==s)) (c.2 ⟨false,[],[],[],[]⟩ false) (c.2 q true)) (λc (r:U1×Bool)=>c.2 r.1 r.2) (λr=>Po 4 20 r.1/\(r.2=true->Sl 10000 s)):=λ{q} _ H=>l1l (Jg H) λt ⟨y,i⟩=>m1a (λ_=>l1j ⟨v,by simp⟩) λu=>by
  have u:t=s:=by simpa using u
  subst u;exact l1j ⟨i e,λ_=>y⟩
 have d:∀{t:LU} {w:LV},Sl s.length t->Tx (t.length+1) t.length w -> ∀a b,Tx 1099511627776 1099511627776 ((w.take a).drop b):=λy h a b=>(h.cut a b).mono (by omega) (by omega);refine l1z (by omega) (l1l (a0 g.2 (by omega)) λQ ⟨m,_⟩=>l1z (by omega) (l1l (a0 g.2 (by omega)) λR ⟨n,_⟩=>l1z (by omega) (l1l (a0 g.2 (by omega)) λt3 ⟨o,_⟩=>l1l (uc _ (by omega)) λl1 ⟨j,A⟩=>m1g (by rw[aJ];omega) (l1l (uc _ (by omega)) λl2 ⟨k,z⟩=>m1g (by rw[aJ];omega) (l1l (uc _ (by omega)) λP ⟨k3,I⟩=>m1g (by rw[aJ];omega) (l1n (λF=>?_) λ_=>?_))))))
 ·rw[aJ]at F;refine l1z (by omega) (l1l (a0 g.2 (by omega)) λD ⟨N,x⟩=>l1n (λE=>l1z (by omega) (l1l (a0 g.2 (by omega)) λJ ⟨M,G⟩=>m1g ?_ ?_)) λ_=>?_)
  ·have:J=D:=by rw[G]at x;simpa using x
   rw[aW]at E ⊢;rw[this];omega
  ·exact f (b:=λ_ _ _=>none) ⟨d m j _ _,d n k _ _,d o k3 _ _,by simp;omega⟩
  ·exact f (b:=λ_ _ _=>none) ⟨d m j _ _,d n k _ _,d o k3 _ _,by simp⟩
 ·exact f (b:=λ_ _ _=>none) ⟨d m j _ _,d n k _ _,d o k3 _ _,by simp⟩
theorem CP {x:U2}(h:Re 549755813888 x):An (λO=>bY O x) λb=>b=true->Re 10000 x/\Sl 400 x.c:=by refine m1c ?_;unfold bY Hg;exact l1h (d0d h.2) λp b ⟨_,a⟩=>l1l (iM _ _ _) λ_ _=>m1a (λ_=>l1l (iM _ _ _) λ_ _=>m1a (λ_=>l1n (λe=>l1l (iM _ _ _) λ_ _=>m1a (λ_=>l1q λq=>⟨⟨by rw[aW]at e;omega,a q⟩,by rw[aW]at e;show x.c.length<=400;omega⟩) λ_=>l1q (by simp)) λ_=>l1q (by simp)) λ_=>l1q (by simp)) λ_=>l1q (by simp)
theorem d1v {v:U3}{m n:Nat}(h:Srv m n v)(B:m<=1099511627776)(g:n<=549755813888):An (λO=>kY O v) tt:=by
 refine m1c ?_;unfold kY He;have w:=h.2.1;refine l1l (wh YM (λx=>x.2=v/\0<=x.1/\x.1<=v.b.length) (λx=>(v.b.length-x.1).toNat) (Ex:=λr=>r=(0,QC v) \/ ∃b,r=(1,IV (b,v))) ⟨rfl,by simp,by simp⟩ λx ⟨k,f,u⟩=>?_) λr d=>?_
 ·rw[k];refine l1v (λe=>m1k (l1l (wh p0f (λz=>z.1=x.1/\z.2.2=v/\0<=z.2.1/\z.2.1<=x.1) (λz=>(x.1-z.2.1).toNat) (Ex:=λr=>r=(0,Bh (x.1,v))\/r=(1,YX (false,x.1,v))) ⟨rfl,rfl,by simp,by simp;omega⟩ λz ⟨i,l,p,A⟩=>?_) λr d=>?_) λj o=>m1b f (l1l (r4 h.2.2 (by omega)) λy ⟨c,_⟩=>l1l (mj (s:=y.a) (by have:=c.1;omega)) λ_ _=>m1a (λ_=>l1m (.inr ⟨_,rfl⟩)) λ_=>m1b f (l1l (r4 h.2.2 (by omega)) λy ⟨c,_⟩=>l1l (CP ⟨Nat.le_trans c.2.1 g,Nat.le_trans c.2.2 g⟩) λ_ _=>m1a (λ_=>l1m (.inr ⟨_,rfl⟩)) λ_=>o))) λe=>l1m (.inl rfl);·rw[i,l];refine l1n (λq=>m1b p (l1l (r4 h.2.2 (by omega)) λy ⟨c,_⟩=>m1b f (l1l (r4 h.2.2 (by omega)) λt _=>m1a (λ_=>l1m (.inr rfl)) λ_=>l1y ⟨rfl,rfl,?_,?_⟩ ?_))) λ_=>l1m (.inl rfl)<;>simp only<;>rw[bC (by omega)]<;>omega
  ·rcases d with rfl|rfl;·refine l1r (l1x (x:=(x.1,v)) rfl (l1y ⟨rfl,?_,?_⟩ ?_))<;>simp only<;>rw[bC (by omega)]<;>omega
   ·exact l1p (l1x (x:=(false,x.1,v)) rfl (l1m (.inr ⟨_,rfl⟩)))
 ·rcases d with rfl|⟨b,rfl⟩;·exact l1r (l1x (x:=v) rfl (l1l (mj (s:=v.a) (by have:=h.1;omega)) λ_ _=>m1a (λ_=>l1q trivial) λ_=>l1q trivial))
  ·exact l1p (l1x (x:=(b,v)) rfl (l1q trivial))
end Go.Am
end
section
namespace Go.Am
open Go
def Y1 (f:LL->LR):Nat->LL->Option (Nat×LL)
 |0,_=>none
 |n+1,s=>match f s with
  |some (.inl s')=>Y1 f n s'
  |some (.inr r)=>some r
  |none=>none
theorem uI {α σ:Type}{D:LL->σ}{step:σ->LR}{r:Nat×LL}{k:Nat×LL->Option α}:∀(n:Nat) {s:LL},Y1 (λs=>step (D s)) n s=some r->bM D step s k=k r:=by
 have a:∀(n:Nat) (s:LL),Y1 (λs=>step (D s)) n s=some r->cN (λs=>step (D s)) s=some r:=by
  intro n;induction n with
  |zero=>intro s h;cases h
  |succ n b=>
   intro s h;rw[eW];unfold Y1 at h;cases e:step (D s)with
   |none=>simp only[e]at h;cases h
   |some z=>cases z with
    |inl z=>simp only[e]at h ⊢;exact b z h
    |inr z=>simp only[e]at h ⊢;exact h
 intro n s h;unfold bM l_;rw[a n s h]
theorem h1d {σ:Type}{D:LL->σ}{step:σ->LR}{r:Nat×LL}(n:Nat){s:LL}(h:Y1 (λs=>step (D s)) n s=some r):An (λ_=>bM D step s) λq=>q=r:=⟨r,rfl,λ_ k=>uI n h⟩
theorem n0x {a:LV}{v:V}{k:Nat}(h:a.length<=1099511627777)(b:k<=100:=by decide):(a.length+[v].length)*k<=140737488355328/\a.length+[v].length<=140737488355328:=by have:=Nat.mul_le_mul (show a.length+1<=1099511627778 by omega) b;simp only[List.length_cons,List.length_nil,Nat.zero_add];omega
theorem zh {s:LU}{n:Int}(c:0<=n)(a:n.toNat<s.length):An (λ_=>idxS s n) λb=>∃u:UInt8,s[n.toNat]?=some u/\b=u.toNat:=by refine⟨(s[n.toNat].toNat:Int),⟨_,List.getElem?_eq_getElem a,rfl⟩,λO k=>?_⟩;show idxS s n k=_;unfold idxS chk;rw[if_pos c,List.getElem?_eq_getElem a]
theorem P2 {s:LU}(h:s=[105,110,100,101,120]\/s∈hs3):∀(O:Type) k,aw O s k=k true:=by intro O k;simp only[hs3,List.mem_cons,List.not_mem_nil,or_false]at h;unfold aw Hc;rcases h with rfl|rfl|rfl|rfl<;>exact(uI (r:=(0,uC _)) 9 rfl).trans rfl
theorem q0p:∀(O:Type) k,eG O [110,55] k=k true:=by intro O k;unfold eG Hi;exact(uI (r:=(0,uC [110,55])) 9 rfl).trans rfl
theorem An.is {A:Type}{G:∀O:Type,(A->Option O)->Option O}{a:A}(h:An G λr=>r=a):∀(O:Type) k,G O k=k a:=(let⟨_,h1,h2⟩:=h;h1▸h2)
theorem An.eq {A:Type}{G:∀O:Type,(A->Option O)->Option O}{a:A}(h:∀(O:Type) k,G O k=k a):An G λr=>r=a:=⟨a,rfl,h⟩
theorem rI {s:List LU}{i:Nat}{y:LU}(h:s[i]?=some y):An (λ_=>B1 (s.map V.str) i) λt=>t=y:=⟨y,rfl,λO k=>by show B1 (s.map V.str) i k=k y;unfold B1;exact dA (ks:=[.str]) (e:=(y,())) (by rw[List.getElem?_map,h];rfl) rfl⟩
theorem aI {s:List LU}{i:Nat}{y:LU}(h:s[i]?=some y):An (λ_=>fO (s.map V.str) i 0) λt=>t=y:=⟨y,rfl,λO k=>by show fO (s.map V.str) i 0 k=k y;unfold fO;exact d8 (ks:=[.str]) (e:=(y,())) (v:=.str y) (by rw[List.getElem?_map,h];rfl) rfl⟩
theorem Hs.at {s:List LU}(h:Hs s){i:Nat}(a:i<s.length):∃y,(y∈hs3/\y.length<=4)/\s[i]?=some y/\s.drop i=y :: s.drop (i+1):=by have b:=h.2 _ (List.getElem_mem a);refine⟨s[i],⟨b,?_⟩,List.getElem?_eq_getElem a,List.drop_eq_getElem_cons a⟩;simp only[hs3,List.mem_cons,List.not_mem_nil,or_false]at b;rcases b with e|e|e<;>rw[e]<;>decide
theorem QA {s:List LU}(h:Hs s):∀(O:Type) k,ke O (s.map V.str) k=k true:=by
 have m:=h.1;refine An.is (m1c ?_);unfold ke Hh;refine l1l (wh h0t (λx=>x.1=s.map V.str/\0<=x.2/\x.2<=s.length) (λx=>(s.length-x.2).toNat) (Ex:=λr=>r=(0,fo (s.map V.str))) ⟨rfl,by simp,by simp⟩ λx ⟨i,j,l⟩=>?_) λr a=>?_;·rw[i];refine l1n (λe=>?_) λ_=>l1m rfl;rw[aJ,List.length_map]at e;obtain⟨y,⟨f,_⟩,d,_⟩:=h.at (show x.2.toNat<s.length by omega);refine m1b j (l1l (rI d) λt g=>?_);subst g;refine l1l (An.eq (P2 (.inr f))) λb c=>?_;subst c;refine m1a (λe=>by cases e) λ_=>l1y ⟨rfl,?_,?_⟩ ?_<;>simp only<;>rw[bC (by omega)]<;>omega
 ·subst a;exact l1r (l1x (x:=s.map V.str) rfl (l1q (by rw[aJ,List.length_map];simp;omega)))
def wd (w:LU):List LU->LU
 | []=>w
 |x :: l=>wd ((w++[32])++x) l
theorem P_ {w:LU}{s:List LU}(h:Hs s)(m:w.length<=10):∀(O:Type) k,kc O w (s.map V.str) k=k (wd w s):=by
 have j:=h.1;refine An.is (m1c ?_);unfold kc Hf;refine l1l (wh X4 (λx=>x.2.1=s.map V.str/\(0<=x.2.2/\x.2.2<=s.length)/\wd x.1 (s.drop x.2.2.toNat)=wd w s/\x.1.length<=10+10*x.2.2) (λx=>(s.length-x.2.2).toNat) (Ex:=λr=>r=(0,uC (wd w s))) ⟨rfl,by simp,by simp,by simp;omega⟩ λx ⟨g,i,a,l⟩=>?_) λr b=>?_
 ·rw[g];refine l1n (λe=>?_) λe=>l1m ?_
  ·rw[aJ,List.length_map]at e;obtain⟨y,⟨_,n⟩,d,c⟩:=h.at (show x.2.2.toNat<s.length by omega);refine m1i (by simp;omega) (m1b i.1 (l1l (rI d) λt f=>?_));subst f;refine m1i (by simp;omega) (l1y ⟨rfl,?_,?_,?_⟩ ?_)<;>simp only<;>rw[bC (by omega)];·omega
   ·rw[<-a,c,show(x.2.2+1).toNat=x.2.2.toNat+1 by omega];rfl
   ·simp;omega
   ·omega
  ·rw[aJ,List.length_map]at e;rw[<-a,List.drop_of_length_le (by omega)];rfl
 ·subst b;exact l1x (x:=wd w s) rfl (l1q rfl)
def kH (z:UInt8):LU->List LU
 | []=>[[]]
 |c :: s=>if c=z then[] :: kH z s else match kH z s with
  | []=>[[c]]
  |h :: t=>(c :: h) :: t
def Bt (p:LU):List LU->List LU
 | []=>[p]
 |h :: t=>(p++h) :: t
theorem kI (z:UInt8)(s:LU):kH z s≠[]:=by
 cases s with
 |nil=>simp[kH]
 |cons c s=>
  unfold kH;split;·simp
  ·split<;>simp
theorem ib {l:List LU}(h:l≠[]):Bt [] l=l:=by
 cases l with
 |nil=>exact absurd rfl h
 |cons a l=>rfl
theorem AK {z c:UInt8}{s:LU}(h:c≠z)(p:LU):Bt p (kH z (c :: s))=Bt (p++[c]) (kH z s):=by
 conv=>lhs;unfold kH
 rw[if_neg h];cases e:kH z s with
 |nil=>exact absurd e (kI z s)
 |cons a l=>simp[Bt]
theorem Fa {z:UInt8}:∀{x:LU},z∉x -> ∀p,Bt p (kH z x)=[p++x]:=by
 intro x;induction x with
 |nil=>intro _ p;rfl
 |cons c x a =>intro h p;rw[AK (λe=>h (by rw[e];exact List.mem_cons_self ..)),a (λe=>h (List.mem_cons_of_mem _ e))];simp
theorem Jd {z:UInt8}(y:LU):∀(x p:LU),Bt p (kH z ((x++[z])++y))=Bt p (kH z x)++kH z y:=by
 intro x;induction x with
 |nil=>intro p;simp[kH,Bt]
 |cons c x a=>
  intro p;by_cases h:c=z;·subst h;have:=a [];rw[ib (kI _ _),ib (kI _ _)]at this;simp[kH,Bt,<-this]
  ·rw[List.cons_append,List.cons_append,AK h,AK h,a]
theorem kV {z:UInt8}(x y:LU):kH z ((x++[z])++y)=kH z x++kH z y:=by have:=Jd (z:=z) y x [];rwa[ib (kI _ _),ib (kI _ _)]at this
theorem eD {z:UInt8}{x:LU}(h:z∉x):kH z x=[x]:=by have:=Fa h [];rwa[ib (kI _ _)]at this
theorem IT {s:LU}{z:Int}(b:UInt8)(w:z=b.toNat)(hs:s.length<=1099511627776):∀(O:Type) k,cP O s z k=k ((kH b s).map V.str):=by
 refine An.is (m1c ?_);unfold cP Hj;refine l1l (wh YL (λx=>x.1=s/\x.2.1=z/\(0<=x.2.2.2.1/\x.2.2.2.1<=x.2.2.2.2/\x.2.2.2.2<=s.length+1/\x.2.2.1.length<=x.2.2.2.2)/\(x.2.2.2.2<=s.length/\x.2.2.1++(Bt ((s.take x.2.2.2.2.toNat).drop x.2.2.2.1.toNat) (kH b (s.drop x.2.2.2.2.toNat))).map V.str=(kH b s).map V.str\/x.2.2.2.2=s.length+1/\x.2.2.1=(kH b s).map V.str)) (λx=>(s.length+1-x.2.2.2.2).toNat) (Ex:=λr=>r=(0,fo ((kH b s).map V.str))) ⟨rfl,rfl,by simp;omega,.inl ⟨by simp,by simp[ib (kI b s)]⟩⟩ λx ⟨y,A,p,a⟩=>?_) λr v=>?_
 ·rw[y,A];refine l1n (λe=>?_) λe=>l1m ?_
  ·rw[aW]at e;have a:x.2.2.1++(Bt ((s.take x.2.2.2.2.toNat).drop x.2.2.2.1.toNat) (kH b (s.drop x.2.2.2.2.toNat))).map V.str=(kH b s).map V.str:=by
    rcases a with h|h;·exact h.2
    ·omega
   have o:∀u,s[x.2.2.2.2.toNat]?=some u->s.drop x.2.2.2.2.toNat=u :: s.drop (x.2.2.2.2.toNat+1):=λu d=>by obtain⟨q,rfl⟩:=bW d;exact List.drop_eq_getElem_cons q
   refine m1j (λc=>x.2.2.2.2=s.length/\c=true\/x.2.2.2.2<s.length /\ ∃u,s[x.2.2.2.2.toNat]?=some u/\(c=true↔u=b)) (λc f=>m1a (λl=>m1g ⟨p.1,p.2.1,e⟩ (m1f (n0x (by omega)) (l1y ⟨rfl,rfl,?_,?_⟩ ?_))) λl=>l1y ⟨rfl,rfl,?_,?_⟩ ?_) λj t=>m1a (λi=>t _ (.inl ⟨by rw[aW]at i;simpa using i,rfl⟩)) λi=>?_;·simp only;rw[bC (by omega)];simp;omega
   ·simp only;rw[bC (by omega),show(x.2.2.2.2+1).toNat=x.2.2.2.2.toNat+1 by omega];rcases f with⟨f,_⟩|⟨f,u,d,g⟩;·refine .inr ⟨by omega,?_⟩;have z0:s.drop x.2.2.2.2.toNat=[]:=List.drop_of_length_le (by omega);rw[z0]at a;rw[<-a];simp[kH,Bt]
    ·refine .inl ⟨by omega,?_⟩;rw[o u d,g.1 l]at a;have z0:(s.take (x.2.2.2.2.toNat+1)).drop (x.2.2.2.2.toNat+1)=[]:=List.drop_of_length_le (by simp;omega);rw[<-a,z0,ib (kI _ _)];simp[kH,Bt]
   ·simp only;rw[bC (by omega)];omega
   ·simp only;rw[bC (by omega)];omega
   ·simp only;rw[bC (by omega),show(x.2.2.2.2+1).toNat=x.2.2.2.2.toNat+1 by omega];rcases f with⟨_,f⟩|⟨f,u,d,g⟩;·rw[f]at l;cases l
    ·refine .inl ⟨by omega,?_⟩;have n:u≠b:=λq=>by rw[g.2 q]at l;cases l
     rw[o u d,AK n]at a;rw[<-a,List.take_add_one,d,List.drop_append_of_le_length (by simp;omega)];rfl
   ·simp only;rw[bC (by omega)];omega
   ·have i:x.2.2.2.2≠s.length:=by rw[aW]at i;simpa using i
    refine l1l (zh (by omega) (by omega)) λc ⟨u,d,m⟩=>t _ (.inr ⟨by omega,u,d,?_⟩);rw[m,w];simp only[beq_iff_eq];exact⟨λq=>UInt8.toNat_inj.1 (by omega),λq=>by rw[q]⟩
  ·rw[aW]at e;rcases a with h|h;·omega
   ·rw[h.2]
 ·subst v;exact l1x (x:=(kH b s).map V.str) rfl (l1q rfl)
theorem yx {s:List LU}:∀{w:LU},(∀t∈s,(32:UInt8)∉t)->kH 32 (wd w s)=kH 32 w++s:=by
 induction s with
 |nil=>intro w _;simp[wd]
 |cons x s a =>intro w h;rw[wd,a (λt b=>h t (List.mem_cons_of_mem _ b)),kV,eD (h x (List.mem_cons_self ..))];simp
theorem GV {s:List LU}:∀{w:LU},(59:UInt8)∉w->(∀t∈s,(59:UInt8)∉t)->(59:UInt8)∉wd w s:=by
 induction s with
 |nil=>intro w h _;exact h
 |cons x s b=>
  intro w h a;refine b (λq=>?_) λt c=>a t (List.mem_cons_of_mem _ c);rcases List.mem_append.1 q with q|q
  ·rcases List.mem_append.1 q with q|q;·exact h q
   ·simp at q
  ·exact a x (List.mem_cons_self ..) q
theorem Hs.no {s:List LU}(h:Hs s):∀t∈s,(32:UInt8)∉t/\(59:UInt8)∉t:=λt a=>by have:=h.2 t a;simp only[hs3,List.mem_cons,List.not_mem_nil,or_false]at this;rcases this with rfl|rfl|rfl<;>decide
theorem nV {s:List LU}:∀{w:LU},Hs s->(wd w s).length<=w.length+5*s.length:=by
 induction s with
 |nil=>intro w _;simp[wd]
 |cons x s b =>intro w h;have d:=b (w:=(w++[32])++x) ⟨by have:=h.1;simp at this;omega,λt c=>h.2 t (List.mem_cons_of_mem _ c)⟩;obtain⟨y,⟨_,e⟩,a,_⟩:=h.at (i:=0) (by simp);simp only[List.getElem?_cons_zero,aK]at a;subst a;rw[wd];simp at d ⊢;omega
def fp (a b c:List LU)(e:LU):LU:=if e=[]then(((wd [115,99,114,105,112,116] a++[59])++wd [115,116,121,108,101] b)++[59])++wd [105,109,103] c else((((((wd [115,99,114,105,112,116] a++[59])++wd [115,116,121,108,101] b)++[59])++wd [105,109,103] c)++[59,110,111,110,99,101,32]))++e
theorem q0l {a b c:List LU}{e:LU}(l:Hs a)(j:Hs b)(i:Hs c)(m:e=[]\/e=[110,55]):∀(O:Type) k,cG O ⟨true,a.map V.str,b.map V.str,c.map V.str,e⟩ k=k (fp a b c e):=by
 have h:∀(O:Type) k,kZ O ⟨true,a.map V.str,b.map V.str,c.map V.str,e⟩ k=k true:=λO k=>by
  unfold kZ C0;simp only[Bool.not_true,jq,QA l,QA j,QA i,tw];rcases m with rfl|rfl;·rfl
  ·rw[show((([110,55]:LU)==[])=false)from rfl,jq,q0p]
 have o:=nV (w:=[115,99,114,105,112,116]) l;have t:=nV (w:=[115,116,121,108,101]) j;have r:=nV (w:=[105,109,103]) i;have p:=l.1;have u:=j.1;have n:=i.1;simp only[List.length_cons,List.length_nil]at o t r;refine An.is (m1c ?_);unfold cG Cz;refine m1e (l1l (An.eq h) λq s=>?_);subst s;refine m1a (λq=>by cases q) λ_=>m1a (λq=>by cases q) λ_=>l1l (An.eq (P_ l (by decide))) λx d=>m1i (by rw[d];simp;omega) (l1l (An.eq (P_ j (by decide))) λy f=>m1i (by rw[d,f];simp;omega) (m1i (by rw[d,f];simp;omega) (l1l (An.eq (P_ i (by decide))) λz g=>m1i (by rw[d,f,g];simp;omega) (m1a (λq=>m1i (by rw[d,f,g];simp;omega) (m1i ?_ (l1q ?_))) λq=>l1q ?_))));·rw[d,f,g];rcases m with rfl|rfl<;>simp<;>omega
 ·unfold fp;rw[if_neg (by simpa using q),d,f,g]
 ·unfold fp;rw[if_pos (by simpa using q),d,f,g]
theorem q0o {p:U1}{s:LU}(hp:Gp p)(h:∀(O:Type) k,cG O p k=k s):∃q,∀(O:Type) k,fV O s k=k q true:=by
 rcases hp with rfl|⟨a,b,c,e,rfl,v,o,j,B⟩
 ·have:s=[]:=by
   have g:=h LU some;unfold cG Cz at g;have H:∀k:Bool->Option LU,kZ LU ⟨false,[],[],[],[]⟩ k=k true:=λk=>by unfold kZ C0;rfl
   simp only[fB,H,Bool.not_true,jq,Bool.not_false,tw]at g;injection g with g;exact g.symm
  subst this;exact⟨_,λO k=>by unfold fV C1;rfl⟩
 have f:=q0l v o j B;have hs:fp a b c e=s:=by have:=(f LU some).symm.trans (h LU some);injection this
 subst hs;have P:(59:UInt8)∉wd [115,99,114,105,112,116] a:=GV (by decide) λt d=>(v.no t d).2;have J:(59:UInt8)∉wd [115,116,121,108,101] b:=GV (by decide) λt d=>(o.no t d).2;have S:(59:UInt8)∉wd [105,109,103] c:=GV (by decide) λt d=>(j.no t d).2;have la:=nV (w:=[115,99,114,105,112,116]) v;have lb:=nV (w:=[115,116,121,108,101]) o;have lc:=nV (w:=[105,109,103]) j;have ab:=v.1;have Y:=o.1;have aa:=j.1;simp only[List.length_cons,List.length_nil]at la lb lc;have Q:kH 32 (wd [115,99,114,105,112,116] a)=[115,99,114,105,112,116] :: a:=by rw[yx λt d=>(v.no t d).1,eD (by decide)];rfl
 have W:kH 32 (wd [115,116,121,108,101] b)=[115,116,121,108,101] :: b:=by rw[yx λt d=>(o.no t d).1,eD (by decide)];rfl
 have m:kH 32 (wd [105,109,103] c)=[105,109,103] :: c:=by rw[yx λt d=>(j.no t d).1,eD (by decide)];rfl
 have I:fp a b c e≠[]:=by unfold fp;split<;>simp
 have hl:(fp a b c e).length<=1000:=by unfold fp;rcases B with rfl|rfl<;>simp<;>omega
 have Z:kH 59 (fp a b c e)=[wd [115,99,114,105,112,116] a,wd [115,116,121,108,101] b,wd [105,109,103] c]++if e=[]then[]else[[110,111,110,99,101,32]++e]:=by
  unfold fp;rcases B with rfl|rfl;·rw[if_pos rfl,if_pos rfl,kV,kV,eD P,eD J,eD S];rfl
  ·rw[if_neg (by decide),if_neg (by decide),show((((((wd [115,99,114,105,112,116] a++[59])++wd [115,116,121,108,101] b)++[59])++wd [105,109,103] c)++[59,110,111,110,99,101,32]))++[110,55]=((((((wd [115,99,114,105,112,116] a++[59])++wd [115,116,121,108,101] b)++[59])++wd [105,109,103] c)++[59]))++[110,111,110,99,101,32,110,55] by simp,kV,kV,kV,eD P,eD J,eD S,eD (by decide)];rfl
 have cut:∀(w:LU) (x:List LU),((((w :: x).map V.str).take ((nL ((w :: x).map V.str)).toNat)).drop 1)=x.map V.str:=λw x=>by rw[aJ,Int.toNat_natCast,List.take_length];rfl
 refine(λ⟨q,b,g,H⟩=>⟨q,λO k=>(H O k).trans (by rw[show b=true from g])⟩:cO (λO=>fV O (fp a b c e)) (λ_ b=>b=true)->_) (l1s ?_);unfold fV C1;refine m1a (λq=>absurd (by simpa using q) I) λ_=>l1l (An.eq (IT (z:=59) 59 rfl (by omega))) λl A=>?_;rw[Z]at A;subst A;have D:∀{n:Nat} {y:LU},([wd [115,99,114,105,112,116] a,wd [115,116,121,108,101] b,wd [105,109,103] c]++if e=[]then[]else[[110,111,110,99,101,32]++e])[n]?=some y->n<(([wd [115,99,114,105,112,116] a,wd [115,116,121,108,101] b,wd [105,109,103] c]++if e=[]then[]else[[110,111,110,99,101,32]++e]).map V.str).length:=λh=>by rw[List.length_map];exact(bW h).1
 have L:([wd [115,99,114,105,112,116] a,wd [115,116,121,108,101] b,wd [105,109,103] c]++if e=[]then[]else[[110,111,110,99,101,32]++e])[0]?=some (wd [115,99,114,105,112,116] a):=rfl;have U:([wd [115,99,114,105,112,116] a,wd [115,116,121,108,101] b,wd [105,109,103] c]++if e=[]then[]else[[110,111,110,99,101,32]++e])[1]?=some (wd [115,116,121,108,101] b):=rfl;have G:([wd [115,99,114,105,112,116] a,wd [115,116,121,108,101] b,wd [105,109,103] c]++if e=[]then[]else[[110,111,110,99,101,32]++e])[2]?=some (wd [105,109,103] c):=rfl;have i:∀{u:LU} {K:U1->Bool -> ∀c:(Σ O:Type,U1->Bool->Option O),Option c.1},u=e->Tg (C:=Σ O:Type,U1->Bool->Option O) (T:=λc=>c.1) (λk=>cG k.1 ⟨true,a.map V.str,b.map V.str,c.map V.str,u⟩ λt=>br (!(t==fp a b c e)) (k.2 ⟨false,[],[],[],[]⟩ false) (k.2 ⟨true,a.map V.str,b.map V.str,c.map V.str,u⟩ true)) (λc (r:U1×Bool)=>c.2 r.1 r.2) (λr=>r.2=true):=λ{u K} q=>by subst q;refine l1l (An.eq f) λt d=>?_;subst d;exact m1a (λq=>by simp at q) λ_=>l1j rfl
 refine l1n (λq=>by rw[aJ]at q;have:=D G;omega) λ_=>l1z ⟨by omega,D L⟩ (l1l (aI L) λt d=>l1z ⟨by omega,D U⟩ (l1l (aI U) λt2 F=>l1z ⟨by omega,D G⟩ (l1l (aI G) λt3 E=>?_)));rw[d,F,E];refine l1l (An.eq (IT (z:=32) 32 rfl (by omega))) λl1 M=>m1g (by rw[M,Q,aJ];simp;omega) (l1l (An.eq (IT (z:=32) 32 rfl (by omega))) λl2 N=>m1g (by rw[N,W,aJ];simp;omega) (l1l (An.eq (IT (z:=32) 32 rfl (by omega))) λl3 k3=>m1g (by rw[k3,m,aJ];simp;omega) ?_));rw[M,N,k3,Q,W,m,cut,cut,cut];rcases B with rfl|rfl;·exact l1n (λq=>by rw[aJ]at q;simp at q) λ_=>i (K:=λ_ _ c=>none) rfl
 ·refine l1n (λ_=>l1z ⟨by omega,by simp⟩ (l1l (aI (y:=[110,111,110,99,101,32,110,55]) rfl) λt8 X=>l1n (λ_=>l1z ⟨by omega,by simp⟩ (l1l (aI (y:=[110,111,110,99,101,32,110,55]) rfl) λt9 R=>m1g (by rw[R];decide) (i (K:=λ_ _ c=>none) (by rw[R];rfl)))) λq=>absurd (by rw[X];decide) q)) λq=>absurd (by rw[aJ];simp) q
theorem q0n {x:U2}(h:Gr 1 x):∀(O:Type) k,bY O x k=k true:=by
 obtain⟨n,r,t,g⟩:=h;obtain⟨i,p,o,a⟩:=g rfl;obtain⟨q,m⟩:=q0o o a;refine An.is (m1c ?_);unfold bY Hg;refine l1h ⟨q,true,rfl,m⟩ λ_ b (j:b=true)=>l1l (iM _ _ _) λv d=>m1a (λ_=>l1l (iM _ _ _) λu f=>m1a (λ_=>l1n (λ_=>l1l (iM _ _ _) λs l=>m1a (λ_=>l1q j) λe=>?_) λe=>?_) λe=>?_) λe=>?_;·rw[l,decide_eq_true (by omega)]at e;cases e
 ·exact absurd (by rw[aW];show(x.c.length:Int)<=400;have:x.c.length<=400:=i;omega) e
 ·rw[f,r,decide_eq_true (by omega)]at e;cases e
 ·rw[d,n,decide_eq_true (by omega)]at e;cases e
theorem q0m {x:U2}(h:Gr 1 x):∀(O:Type) k,kY O ⟨[104,111,109,101],[wf ⟨[105,110,100,101,120],x.a,x.b,x.c,x.d,x.e,x.f⟩]⟩ k=k true:=by
 have o:An (λ_=>Ce [wf ⟨[105,110,100,101,120],x.a,x.b,x.c,x.d,x.e,x.f⟩] 0) λy=>y=⟨[105,110,100,101,120],x.a,x.b,x.c,x.d,x.e,x.f⟩:=⟨_,rfl,λO k=>rfl⟩;refine An.is (m1c ?_);unfold kY He;generalize n:(⟨[104,111,109,101],[wf ⟨[105,110,100,101,120],x.a,x.b,x.c,x.d,x.e,x.f⟩]⟩:U3)=v;refine l1l (wh YM (λz=>z.2=v/\(z.1=0\/z.1=1)) (λz=>(1-z.1).toNat) (Ex:=λr=>r=(0,QC v)) ⟨rfl,.inl rfl⟩ λz ⟨s,i⟩=>?_) λr l=>?_
 ·rw[s,<-n];rcases i with i|i<;>rw[i]
  ·refine l1n (λ_=>m1k (l1l (h1d (r:=(0,Bh (0,_))) 2 rfl) λr l=>?_) λj p=>m1b (by omega) (l1l o λy m=>?_)) λq=>(q (by show(0:Int)<((1:Nat):Int);decide)).elim;·subst l;exact l1r (l1x rfl (l1y ⟨rfl,.inr rfl⟩ (by show(1-wi (0+1)).toNat<1;decide)))
   ·subst m;refine l1l (An.eq (P2 (.inl rfl))) λb g=>?_;subst g;refine m1a (λq=>by cases q) λ_=>m1b (by omega) (l1l o λy m=>?_);subst m;refine l1l (An.eq (q0n (x:=⟨x.a,x.b,x.c,x.d,x.e,x.f⟩) h)) λb g=>?_;subst g;exact m1a (λq=>by cases q) λ_=>p
  ·exact l1n (λq=>absurd (show(1:Int)<((1:Nat):Int)from q) (by decide)) λ_=>l1m rfl
 ·subst l;subst n;refine l1r (l1x rfl (l1l (An.eq (P2 (.inr (by show([104,111,109,101]:LU)∈hs3;decide)))) λb g=>?_));subst g;exact m1a (λ_=>l1q (by show decide (((1:Nat):Int)<=10)=true;rfl)) λq=>by cases q
end Go.Am
end
section
namespace Go.Am
open Go
theorem Fh {P:U3->Prop}:∀{l:LV},Rw qC P l -> ∃ys:List (LU×LV),nx l=some ys/\l=ys.map (fu 7) /\ ∀y∈ys,P ⟨y.1,y.2⟩
 | [],_=>⟨[],rfl,rfl,λy h=>by cases h⟩
 |v :: l,h=>by
  obtain⟨y,e,rfl⟩:=h v (List.mem_cons_self ..);obtain⟨ys,g,i,f⟩:=Fh (l:=l) (λr d=>h r (List.mem_cons_of_mem _ d));refine⟨(y.a,y.b) :: ys,by show(nx l).map _=_;rw[g];rfl,by rw[List.map_cons,<-i];rfl,λz c=>?_⟩;rcases List.mem_cons.1 c with rfl|c;·exact e
  ·exact f z c
theorem uO {P:U3->Prop}{ys:List (LU×LV)}(h:∀y∈ys,P ⟨y.1,y.2⟩):Rw qC P (ys.map (fu 7)):=λr a=>by obtain⟨y,b,rfl⟩:=List.mem_map.1 a;exact⟨⟨y.1,y.2⟩,h y b,rfl⟩
theorem Svs.up {m m' n c:Nat}{l:LV}(h:Svs m n l)(b:m<=m')(a:n<=c):Svs m' c l:=⟨Nat.le_trans h.1 b,h.2.mono λy q=>⟨Nat.le_trans q.1 a,Nat.le_trans q.2.1 b,q.2.2.mono λf w=>⟨Nat.le_trans w.1 a,Nat.le_trans w.2.1 a,Nat.le_trans w.2.2 a⟩⟩⟩
theorem Srv.up {m n:Nat}{y:U3}(q:Srv m n y):Srv (m+1) n y:=⟨q.1,Nat.le_succ_of_le q.2.1,q.2.2⟩
abbrev Hl (l:LV):Prop:=Rw qC (λy=>y.b≠[]) l
theorem d0m {l:LV}{a:U5}{x:U2}{m n:Nat}(h:Svs m n l)(F:Sl n a.a/\Sl n a.b)(D:Re n x)(hm:m<=1000)(hn:n<=1000000):cO (λO=>mB O l a x) λG b=>Svs (m+1) n G/\(l≠[]\/(∀(O:Type) k,kY O ⟨a.a,[wf ⟨a.b,x.a,x.b,x.c,x.d,x.e,x.f⟩]⟩ k=k true)->G≠[])/\(Hl l->Hl G):=by
 obtain⟨ys,Y,E,B⟩:=Fh h.2;have Z:ys.length<=m:=by have:=h.1;rw[E]at this;simpa using this
 have R:xG ys=true:=by unfold xG;rw[Bool.and_eq_true,List.all_eq_true];refine⟨by simp;omega,λy g=>?_⟩;have:=(B y g).2.1;simp at this ⊢;omega
 refine l1s ?_;unfold mB FR;simp only[Y];refine l1u R (l1l (z0e h (by omega)) λU Q=>?_)
 -- the server it goes into
 obtain⟨s,hs,o,N,hs3,A⟩:∃s,nK ys U a.a=some s/\Srv m n ⟨s.2.2.1,s.2.2.2⟩/\s.2.2.1=a.a/\((∀y∈s.1,Srv m n ⟨y.1,y.2⟩)/\s.1.length<=m+1)/\(ys.length<=s.1.length/\(ys=[]->s.1.length=1/\s.2.2.2=[]) /\ ∀w,∀y∈s.1.set s.2.1 w,y∈ys\/y=w):=by
  rcases Q with rfl|⟨i,y,rfl,p,g⟩
  ·refine⟨(ys++[(a.a,[])],ys.length,a.a,[]),rfl,⟨F.1,Nat.zero_le _,Rw.nil⟩,rfl,⟨λy g=>?_,by simp;omega⟩,by simp,λq=>by rw[q];exact⟨rfl,rfl⟩,λw y g=>by simpa using g⟩;rcases List.mem_append.1 g with g|g;·exact B y g
   ·rw[List.mem_singleton.1 g];exact⟨F.1,Nat.zero_le _,Rw.nil⟩
  ·rw[E,List.getElem?_map]at p;obtain⟨z,u,C⟩:=Option.map_eq_some_iff.1 p;simp only[fu,qC,V.agg.injEq,List.cons.injEq,V.str.injEq]at C;refine⟨(ys,i,z),?_,B z (List.mem_of_getElem? u),by rw[C.1];exact g,⟨B,by show ys.length<=_;omega⟩,Nat.le_refl _,λq=>by rw[q]at u;simp at u,λw y g=>List.mem_or_eq_of_mem_set g⟩;unfold nK;rw[if_neg (by omega),Int.toNat_natCast,u];rfl
 simp only[hs];refine l1l (d1u (v:=⟨s.2.2.1,s.2.2.2⟩) o (by omega)) λi W=>?_;obtain⟨fs,K,t,M,H⟩:∃fs,mf s.2.2.2 i (.agg [.str a.b,.int .i64 x.a,.int .i64 x.b,.str x.c,.int .i64 x.d,.bool x.e,.str x.f])=some fs/\Srv (m+1) n ⟨s.2.2.1,fs⟩/\(s.2.2.2=[]->fs=[wf ⟨a.b,x.a,x.b,x.c,x.d,x.e,x.f⟩])/\fs≠[]:=by
  rcases W with rfl|⟨j,f,rfl,p,T⟩;·refine⟨_,if_pos (by decide),⟨o.1,by have:=o.2.1;simp at this ⊢;omega,Rw.app o.2.2 (Rw.one (w:=wf) (y:=⟨a.b,x.a,x.b,x.c,x.d,x.e,x.f⟩) ⟨F.2,D.1,D.2⟩)⟩,λq=>by rw[q];rfl,by simp⟩
  ·obtain⟨f',P,e⟩:=o.2.2 _ (List.mem_of_getElem? p);simp only[wf,V.agg.injEq,List.cons.injEq,V.str.injEq]at e;refine⟨s.2.2.2.set j (wf ⟨f.a,x.a,x.b,x.c,x.d,x.e,x.f⟩),?_,⟨o.1,by have:=o.2.1;simp at this ⊢;omega,λr I=>?_⟩,λq=>by simp only[q]at p;simp at p,λq=>by have:=congrArg List.length q;simp at this;rw[this]at p;simp at p⟩;·unfold mf;rw[if_neg (by omega),Int.toNat_natCast,p];rfl
   ·rcases List.mem_or_eq_of_mem_set I with I|rfl;·exact o.2.2 r I
    ·exact⟨⟨f.a,x.a,x.b,x.c,x.d,x.e,x.f⟩,⟨by rw[T];exact F.2,D.1,D.2⟩,rfl⟩
 simp only[K];refine l1l (d1v t (by omega) (by omega)).ex λb ⟨_,X⟩=>l1j ⟨?_,λq=>?_,λq=>?_⟩
 ·unfold b_;split
  ·refine⟨by simp;omega,uO λy g=>?_⟩;rcases List.mem_or_eq_of_mem_set g with g|rfl;·exact(hs3.1 y g).up
   ·exact t
  ·exact⟨by simp;omega,uO λy g=>(B y g).up⟩
 ·by_cases g:ys=[]
  ·rcases q with q|q;·exact absurd (by rw[E,g];rfl) q
   obtain⟨k1,S⟩:=A.2.1 g;have L:b=true:=by have:=(X Bool some).symm;rw[M S,N,q]at this;injection this
   unfold b_;rw[if_pos ⟨by omega,L⟩];intro J;have:=congrArg List.length J;simp only[List.length_map,List.length_set,List.length_nil]at this;omega
  ·have:=List.length_pos_iff.2 g;unfold b_;intro J;have:=congrArg List.length J;split at this<;>simp only[List.length_map,List.length_set,List.length_nil]at this<;>omega
 ·have q':∀y∈ys,y.2≠[]:=λy g=>by obtain⟨z,u,e⟩:=q (fu 7 y) (by rw[E];exact List.mem_map_of_mem g);simp only[fu,qC,V.agg.injEq,List.cons.injEq,V.sl.injEq]at e;rw[e.2.1.2.2];exact u
  unfold b_;split
  ·exact uO λy g=>by
    rcases A.2.2 _ y g with g|rfl;·exact q' y g
    ·exact H
  ·exact uO q'
theorem i0f {c:U0}(h:Cu c):cO (λO=>bm O c) λl y=>(Svs 20 21000 l/\l≠[]/\Hl l)/\Cu y:=by
 refine l1s ?_;unfold bm C5;refine l1l (wh c1u (λx=>x.2.1=hs3.map V.str/\x.2.2.1=3/\(0<=x.2.2.2.1/\x.2.2.2.1<=3)/\(Svs (5*x.2.2.2.1.toNat) 21000 x.1/\Hl x.1)/\Cu x.2.2.2.2) (λx=>(3-x.2.2.2.1).toNat) (Ex:=λr=>∃l c,r=(0,Cd (l,c))/\(Svs 15 21000 l/\Hl l)/\Cu c) ⟨rfl,rfl,by simp,⟨⟨by simp,Rw.nil⟩,Rw.nil⟩,h⟩ λx ⟨w,W,Y,G,Q⟩=>?_) λr ⟨l,c,M,v,A⟩=>?_
 ·refine l1n (λe=>?_) λe=>l1m ⟨_,_,rfl,⟨G.1.up (by omega) (by omega),G.2⟩,Q⟩;have g:x.2.1.length=3:=by rw[w];rfl
  refine l1z (by omega) (l1l (a0 (P:=Sl 10) (by rw[w];exact rS rfl) (by omega)) λi ⟨hh,_⟩=>?_);generalize hI:5*x.2.2.2.1.toNat=I at *;have o:∀{s:LU} {m:Nat} {l:LV} {u:U2} {n:Int},Svs m 21000 l/\Hl l->Re 21000 u/\Gr n u->Sl 10 s->m<=1000->cO (λO=>mB O l ⟨i,s⟩ u) λB b=>Svs (m+1) 21000 B/\Hl B:=λa b c d=>(let⟨B,b,p,q⟩:=d0m (a:=⟨i,_⟩) a.1 ⟨Nat.le_trans hh (by omega),Nat.le_trans c (by omega)⟩ b.1 d (by omega);⟨B,b,⟨p.1,p.2.2 a.2⟩,q⟩);refine l1l (wh p0g (λz=>z.2.1=i/\z.2.2.1=x.2.1/\z.2.2.2.1=3/\z.2.2.2.2.1=x.2.2.2.1/\(z.2.2.2.2.2.1.length=3/\Rw V.str (Sl 10) z.2.2.2.2.2.1)/\z.2.2.2.2.2.2.1=3/\(0<=z.2.2.2.2.2.2.2.1/\z.2.2.2.2.2.2.2.1<=3)/\(Svs (I+z.2.2.2.2.2.2.2.1.toNat) 21000 z.1/\Hl z.1)/\Cu z.2.2.2.2.2.2.2.2) (λz=>(3-z.2.2.2.2.2.2.2.1).toNat) (Ex:=λr=>∃l c,r=(0,YW (l,i,x.2.1,3,x.2.2.2.1,c))/\(Svs (I+3) 21000 l/\Hl l)/\Cu c) ⟨rfl,rfl,W,rfl,⟨rfl,rS rfl⟩,rfl,by simp,G,Q⟩ λz ⟨T,J,L,F,H,R,Z,D,E⟩=>?_) λr ⟨l,c,M,v,A⟩=>?_
  ·refine l1n (λe=>?_) λe=>l1m ⟨_,_,by rw[T,J,L,F],⟨D.1.up (by omega) (by omega),D.2⟩,E⟩;refine l1z (by omega) (l1l (a0 H.2 (by omega)) λs ⟨p1,_⟩=>?_);rw[T];refine m1h (λ_ c=>Cu c) (λU c A=>l1h (xI 6 A) λb y f=>m1a (λ_=>l1h (L_ f) λu y ⟨t,f⟩=>l1h (o D t p1 (by omega)) λB b C=>l1y ⟨rfl,J,L,F,H,R,?_,⟨C.1.up ?_ (by omega),C.2⟩,f⟩ ?_) λ_=>l1y ⟨rfl,J,L,F,H,R,?_,⟨D.1.up ?_ (by omega),D.2⟩,f⟩ ?_) λj K=>m1a (λ_=>l1h (xI 2 E) λb y f=>m1a (λ_=>K _ _ f) λ_=>K _ _ f) λ_=>K _ _ E
   all_goals (simp only;rw[bC (by omega)];omega)
  ·subst M;refine l1x (x:=(l,i,x.2.1,3,x.2.2.2.1,c)) rfl (l1h (xI 4 A) λb y f=>m1a (λ_=>l1h (L_ f) λu y ⟨t,f⟩=>l1h (o v t (by decide) (by omega)) λl2 b k=>l1h (xI 4 f) λb y f=>m1a (λ_=>l1h (L_ f) λu y ⟨t,f⟩=>l1h (o k t (by decide) (by omega)) λS b g=>l1y ⟨w,rfl,?_,⟨g.1.up ?_ (by omega),g.2⟩,f⟩ ?_) λ_=>l1y ⟨w,rfl,?_,⟨k.1.up ?_ (by omega),k.2⟩,f⟩ ?_) λ_=>l1h (xI 4 f) λb y f=>m1a (λ_=>l1h (L_ f) λu y ⟨t,f⟩=>l1h (o v t (by decide) (by omega)) λS b g=>l1y ⟨w,rfl,?_,⟨g.1.up ?_ (by omega),g.2⟩,f⟩ ?_) λ_=>l1y ⟨w,rfl,?_,⟨v.1.up ?_ (by omega),v.2⟩,f⟩ ?_)<;>simp only<;>rw[bC (by omega)]<;>omega
 ·subst M;exact l1x (x:=(l,c)) rfl (l1h (L_ A) λu y ⟨t,f⟩=>l1h (d0m (a:=⟨[104,111,109,101],[105,110,100,101,120]⟩) v.1 (by decide) t.1 (by omega) (by omega)) λl2 b k=>l1h (L_ f) λX y ⟨N,f⟩=>l1h (d0m (a:=⟨[104,111,109,101],[110,101,120,116]⟩) k.1 (by decide) N.1 (by omega) (by omega)) λS b g=>l1j ⟨⟨g.1.up (by omega) (by omega),g.2.1 (.inl (k.2.1 (.inr (q0m t.2)))),g.2.2 (k.2.2 v.2)⟩,f⟩)
theorem xH {a:U5}(h:Sl 1099511627776 a.a/\Sl 1099511627776 a.b):An (λO=>dw O a) λb=>b=true->Sl 8 a.a/\Sl 8 a.b:=by refine m1c ?_;unfold dw k0y;exact l1l (mj h.1) λ_ d=>m1a (λe=>l1l (mj h.2) λ_ f=>l1q λc=>⟨d e,f c⟩) λ_=>l1q (by simp)
end Go.Am
end
