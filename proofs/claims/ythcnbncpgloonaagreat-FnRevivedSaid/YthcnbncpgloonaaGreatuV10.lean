/-
  The parser's steps.
-/
import Derived.Test.YthcnbncpgloonaaGreatuV5
section
set_option linter.unusedVariables false
set_option maxRecDepth 10000
namespace Go.Am
open Go
theorem e3f:An (λ β=>l1s β) λ b=>Bi 10 b:=by
 refine g3e ?_
 unfold l1s f2l
 exact f3v ⟨⟨by simp,Rw.one ⟨by simp,by simp,Ls.nil⟩⟩,⟨by simp,Rw.one (w:=wn) (y:=0) trivial⟩⟩
theorem pg0 (n:Nat):Pg n ⟨[],[],false,[],[],[],[],[],[],false,[],[],[],[],[],0,0,0,0,[],[],false⟩:=
 ⟨⟨Nat.zero_le _,Nat.zero_le _⟩,⟨Tx.nil,Tx.nil,Tx.nil,Nat.zero_le _⟩,Nat.zero_le _,Ls.nil,⟨Ls.nil,Ls.nil⟩,Ls.nil,Ls.nil,Ls.nil,⟨by simp [muL],Rw.nil⟩,Tx.nil⟩
theorem d3t {a:U6}{x:U3}(ha:Pr 1000 a)(hx:Re 100000 x):An2 (λ β=>l1j β a x) λ p _=>Pg 1000 p:=by
 refine f3n ?_
 unfold l1j e2m
 have e:=pg0 1000
 refine f3i (v2b (by have:=hx.2; omega)) λ q b hq=>g3c (f3l e3f λ u hu=>f3j ⟨ha,hq.1.mono (by omega) (by omega),Nat.zero_le _,Ls.nil,Bi.up (by omega) hu,Ls.nil,Ls.nil,Ls.nil,⟨by simp [muL],Rw.nil⟩,Tx.nil⟩) λ j hj=>f3l (e2b ⟨by have:=ha.1; omega,by have:=ha.2; omega⟩) λ _ _=>g3f (λ _=>f3j e) λ _=>f3l (m2j ⟨by have:=hx.1; omega,by have:=hx.2; omega⟩) λ _ _=>g3f (λ _=>f3j e) λ _=>g3f (λ _=>f3j e) λ _=>g3f (λ _=>f3j e) λ _=>g3f (λ _=>f3j e) λ _=>hj
theorem t83 {c:U0}(h:Cu c):An2 (λ β=>r0k β c) λ p y=>Pg 1000 p∧Cu y:=by
 refine f3n ?_
 unfold r0k s1h
 exact f3i (u2u h) λ p y ⟨hp,hy⟩=>f3l (m2e (hp.mono (by omega) (by omega))) λ s hs=>f3i (d3t ⟨by decide,by decide⟩ ⟨by simp,by have:=hs.1; show s.length≤_; omega⟩) λ q _ hq=>f3j ⟨hq,hy⟩
theorem t84 {c:U0}(h:Cu c):An2 (λ β=>r0l β c) λ s y=>Sl 200100 s∧Cu y:=by
 refine f3n ?_
 unfold r0l s1i
 refine f3i (d77 40 h rfl (by simp)) λ t y ⟨ht,h⟩=>f3i (t43 _ h) λ m y ⟨hm,h⟩=>f3l (wh de6 (λ x=>(0≤x.2.1∧x.2.1≤6)∧x.1.length+30000 * x.2.1≤200000∧Cu x.2.2) (λ x=>x.2.1.toNat) (Ex:=λ r=>∃ s c,r=(0,eS5 (s,c))∧Sl 200000 s∧Cu c) ⟨by simp <;> omega,by simp <;> omega,h⟩ λ x ⟨hx1,hx2,hx3⟩=>?_) λ r ⟨s,c,hr,hs,hc⟩=>?_
 ·refine f3t (λ e=>f3i (u2w (by omega) hx3) λ u y ⟨hu,hy⟩=>g3d (by simp <;> omega) (g3d (by simp <;> omega) (f3i (t77 (P:=Sl 22000) hy ?_ (List.cons_ne_nil _ _)) λ v y ⟨hv,hy⟩=>g3d (by omega) (g3a ⟨?_,?_,hy⟩ ?_)))) λ e=>f3p ⟨_,_,rfl,by omega,hx3⟩
  ·repeat' first | exact Rw.nil | refine Rw.cons ?_ ?_
   all_goals (first | (simp; done) | (simp; omega))
  all_goals (simp only; rw [wim (by omega)]; try simp only [List.length_append])
  all_goals omega
 ·subst hr
  exact g3g (x:=(s,c)) rfl (f3i (d77 12 hc rfl (by simp)) λ v y ⟨hv,hy⟩=>g3d (by simp <;> omega) (f3j ⟨by simp <;> omega,hy⟩))
theorem t1q {s:LU}{n:Int}(h0:0≤n)(h1:n.toNat < s.length):An (λ _=>idxS s n) λ b=>∃ u:UInt8,s[n.toNat]? = some u∧b=u.toNat:=by
 refine ⟨(s[n.toNat].toNat:Int),⟨_,List.getElem?_eq_getElem h1,rfl⟩,λ β k=>?_⟩
 show idxS s n k=_
 unfold idxS chk
 rw [if_pos h0,List.getElem?_eq_getElem h1]
theorem m2m {s:LU}(z:Int)(hs:Sl 1099511627776 s):An (λ β=>v0s β s z) λ k=>(0≤k∧k≤s.length)∧(k < s.length → ∃ u:UInt8,s[k.toNat]? = some u∧z=u.toNat):=by
 refine g3e ?_
 unfold v0s f2h
 refine f3l (wh t2e (λ x=>x.1=s∧x.2.1=z∧0≤x.2.2∧x.2.2≤s.length) (λ x=>(s.length - x.2.2).toNat) (Ex:=λ r=>r=(0,eS9 s) ∨ ∃ k:Int,r=(1,s0k (s,k))∧(0≤k∧k≤s.length) ∧ ∃ u:UInt8,s[k.toNat]? = some u∧z=u.toNat) ⟨rfl,rfl,by simp,by simp⟩ λ x ⟨h1,h2,h3,h4⟩=>?_) λ r hr=>?_
 ·rw [h1,h2]
  refine f3r (λ e=>f3l (t1q h3 (by omega)) λ b ⟨u,hu,hb⟩=>g3f (λ e2=>f3p (.inr ⟨_,rfl,⟨h3,h4⟩,u,hu,by simp at e2; omega⟩)) λ _=>g3a ⟨rfl,rfl,?_,?_⟩ ?_) λ e=>f3p (.inl rfl) <;> simp only <;> rw [wi1 (by omega)] <;> omega
 ·rcases hr with rfl | ⟨k,rfl,hk,hu⟩
  ·exact f3o (g3g (x:=s) rfl (f3v ⟨by rw [b0m]; omega,λ h=>by rw [b0m] at h; omega⟩))
  ·exact f3m (g3g (x:=(s,k)) rfl (f3v ⟨hk,λ _=>hu⟩))
theorem m2r {l:LV}{s:LU}{n m:Nat}(h:Ls n w2 (Pr m) l)(hn:n≤1099511627776):An2 (λ β=>k0d β l s) λ t _=>Sl m t:=by
 refine f3n ?_
 unfold k0d g2d
 have hl:=h.1
 refine f3l (wh d2a (λ x=>x.1=l∧x.2.1=s∧0≤x.2.2∧x.2.2≤l.length) (λ x=>(l.length - x.2.2).toNat) (Ex:=λ r=>r=(0,[]) ∨ ∃ t,r=(1,z0h (t,true))∧Sl m t) ⟨rfl,rfl,by simp,by simp⟩ λ x ⟨h1,h2,h3,h4⟩=>?_) λ r hr=>?_
 ·rw [h1,h2]
  refine f3u (λ e=>g3b h3 (f3l (r7 h.2 (by omega)) λ y _=>g3f (λ _=>g3b h3 (f3l (r7 h.2 (by omega)) λ y hy=>f3p (.inr ⟨_,rfl,hy.1.2⟩))) λ _=>g3a ⟨rfl,rfl,?_,?_⟩ ?_)) λ e=>f3p (.inl rfl) <;> simp only <;> rw [wi1 (by omega)] <;> omega
 ·rcases hr with rfl | ⟨t,rfl,ht⟩
  ·exact f3o (f3j (Nat.zero_le _))
  ·exact f3m (g3g (x:=(t,true)) rfl (f3j ht))
theorem e3e {s:LU}(hs:Sl 1099511627776 s):An2 (λ β=>l1r β s) λ y b=>b=true→Tk 60 y:=by
 refine f3n ?_
 unfold l1r f2i
 refine f3t (λ _=>f3j (by simp)) λ e=>?_
 rw [b0m] at e
 have hcut:Sl 60 ((s.take (nS s).toNat).drop 1):=by simp; omega
 refine f3y (λ b=>b=true→1≤s.length) (λ b hb=>g3f (λ e2=>?_) λ e2=>?_) λ j hj=>f3t (λ e2=>f3l (l0w (by omega) (by rw [b0m] at e2; simp; omega)) λ b _=>hj _ λ _=>by rw [b0m] at e2; omega) λ _=>hj _ (by simp)
 ·have:=hb e2
  exact g3k (by rw [b0m]; omega) (f3l (f1l (Sl.up (by omega) hcut)) λ b hb=>g3f (λ _=>f3j (by simp)) λ e3=>g3k (by rw [b0m]; omega) (f3j λ _=>⟨hcut,Ls.nil,Nat.zero_le _⟩))
 ·refine f3l (p1h _ hs) λ l ⟨hl,hl1⟩=>f3x (by omega) (f3l (a0 hl.2 (by omega)) λ t ⟨ht,_⟩=>f3l (wh y2m (λ x=>x.1=l∧(1≤x.2.1∧x.2.1≤l.length)∧x.2.2.2.2.2.b=t∧x.2.2.2.2.2.d=[]∧x.2.2.2.2.2.c.length+1≤x.2.1∧Rw w2 (Pr 60) x.2.2.2.2.2.c) (λ x=>(l.length - x.2.1).toNat) (Ex:=λ r=>(∃ a b,r=(1,y1t (false,a,b))) ∨ ∃ a b c u,r=(0,t2m (a,b,c,u))∧u.b=t∧u.d=[]∧u.c.length≤60∧Rw w2 (Pr 60) u.c) ⟨rfl,by simp; omega,rfl,rfl,by simp,Rw.nil⟩ λ x ⟨h1,h2,h3,h4,h5,h6⟩=>?_) λ r hr=>?_)
  ·rw [h1]
   have hl2:=hl.1
   refine f3u (λ e=>f3x (by omega) (f3l (a0 hl.2 (by omega)) λ t8 ⟨ht8,_⟩=>f3l (p1h _ (by omega)) λ l9 ⟨hl9,_⟩=>g3h (g3f (λ _=>f3p (.inl ⟨_,_,rfl⟩)) λ e9=>?_))) λ e=>f3p (.inr ⟨_,_,_,_,rfl,h3,h4,by omega,h6⟩)
   have e9:l9.length=2:=by rw [a0t] at e9; simp at e9; omega
   refine f3x (by omega) (f3l (a0 hl9.2 (by omega)) λ t10 ⟨ht10,g10⟩=>f3l (f1l (by omega)) λ b11 hb11=>g3f (λ _=>f3p (.inl ⟨_,_,rfl⟩)) λ e11=>f3x (by omega) (f3l (a0 hl9.2 (by omega)) λ t12 ⟨ht12,g12⟩=>f3l (m2q (by omega)) λ b13 hb13=>g3f (λ _=>f3p (.inl ⟨_,_,rfl⟩)) λ e13=>f3x (by omega) (f3l (a0 hl9.2 (by omega)) λ t15 ⟨ht15,_⟩=>f3i (m2r (n:=1099511627776) ⟨by omega,h6⟩ (by omega)) λ _ b17 _=>g3f (λ _=>f3p (.inl ⟨_,_,rfl⟩)) λ _=>f3x (by omega) (f3l (a0 hl9.2 (by omega)) λ t18 ⟨ht18,g18⟩=>f3x (by omega) (f3l (a0 hl9.2 (by omega)) λ t19 ⟨ht19,g19⟩=>g3j (ca1 (by omega) (by omega)) (g3a ⟨rfl,?_,h3,h4,?_,h6.app (Rw.one ⟨?_,?_⟩)⟩ ?_))))))
   ·simp only; rw [wi1 (by omega)]; omega
   ·simp only; rw [wi1 (by omega)]; simp; omega
   ·show t18.length≤60; omega
   ·show t19.length≤60; omega
   ·simp only; rw [wi1 (by omega)]; omega
  ·rcases hr with ⟨a,b,rfl⟩ | ⟨a,b,c,u,rfl,h1,h2,h3,h4⟩
   ·exact f3m (g3g (x:=(false,a,b)) rfl (f3j (by simp)))
   ·refine f3o (g3g (x:=(a,b,c,u)) rfl (f3l (f1l (by rw [h1]; omega)) λ b hb=>g3f (λ _=>f3j (by simp)) λ _=>f3t (λ _=>f3j (by simp)) λ _=>f3j λ _=>⟨?_,⟨h3,h4⟩,?_⟩))
    ·show u.b.length≤60; rw [h1]; omega
    ·show u.d.length≤60; rw [h2]; simp
theorem u2v {a s:LU}{N:Nat}(hN:a.length+s.length≤N)(hb:N≤549755813888):An2 (λ β=>v0x β a s) λ l t=>Ls N w1 (Tk (N+60)) l∧Sl N t:=by
 refine f3n ?_
 unfold v0x e2l
 refine g3d (by omega) (f3l (wh y2n (λ x=>x.1.length+x.2.1.length≤N∧Rw w1 (Tk (N+60)) x.1) (λ x=>x.2.1.length) (Ex:=λ r=>∃ l t,r=(0,q1y (l,t))∧Ls N w1 (Tk (N+60)) l∧Sl N t) ⟨by simp; omega,Rw.nil⟩ λ x ⟨h1,h2⟩=>?_) λ r ⟨l,t,hr,hl,ht⟩=>?_)
 ·have fin:Ls N w1 (Tk (N+60)) x.1∧Sl N x.2.1:=⟨⟨by omega,h2⟩,by omega⟩
  refine f3l (m2m 60 (by omega)) λ k ⟨hk,hk2⟩=>g3c (f3l (m2m 62 (by omega)) λ e ⟨he,he2⟩=>g3h (g3f (λ _=>f3p ⟨_,_,rfl,fin⟩) λ c1=>g3f (λ _=>f3p ⟨_,_,rfl,fin⟩) λ c2=>?_)) λ j hj=>f3t (λ c1=>f3r (λ c2=>?_) λ _=>hj) λ _=>hj
  ·have c1:k=0:=by simpa using c1
   have c2:e ≠ x.2.1.length:=by rw [b0m] at c2; simpa using c2
   have c3:1≤e:=by
    by_cases q:e=0
    ·obtain ⟨u,hu,hu2⟩:=hk2 (by omega)
     obtain ⟨v,hv,hv2⟩:=he2 (by omega)
     rw [c1] at hu
     rw [q] at hv
     rw [hu] at hv
     injection hv with hv
     rw [hv] at hu2
     omega
    ·omega
   refine g3k (by rw [b0m]; omega) (f3i (e3e (by simp; omega)) λ y b hy=>g3f (λ eb=>g3j (ca1 (by omega) (by omega)) (g3k ?_ (g3a ⟨?_,h2.app (Rw.one (Tk.up (by omega) (hy eb)))⟩ ?_))) λ _=>g3k ?_ (g3a ⟨?_,h2⟩ ?_)) <;> rw [wi1 (by omega)] <;> (try rw [b0m]) <;> (try simp only [List.length_drop,List.length_take,List.length_append,List.length_cons,List.length_nil,Int.toNat_natCast]) <;> omega
  ·refine g3k (by rw [b0m]; omega) (g3j (ca1 (by omega) (by omega)) (g3k (by rw [b0m]; omega) (g3a ⟨?_,h2.app (Rw.one ⟨Nat.zero_le _,Ls.nil,?_⟩)⟩ ?_)))
   ·simp only [b0m,List.length_drop,List.length_take,List.length_append,List.length_cons,List.length_nil,Int.toNat_natCast]; omega
   ·show ((x.2.1.take k.toNat).drop 0).length≤N+60
    simp; omega
   ·simp only [b0m,List.length_drop,List.length_take,Int.toNat_natCast]; omega
 ·subst hr
  exact g3g (x:=(l,t)) rfl (f3j ⟨hl,ht⟩)
theorem u2x {s:LU}{n:Nat}(h:Sl n s):An (λ β=>v0y β s) (Ls 1 w1 (Tk n)):=by
 refine g3e ?_
 unfold v0y e2n
 refine g3f (λ _=>f3v Ls.nil) λ e=>?_
 have e:s ≠ []:=by simpa using e
 have:=List.length_pos_iff.2 e
 exact f3l (l0w (by omega) (by simpa using this)) λ _ _=>g3f (λ _=>f3v Ls.nil) λ _=>f3v ⟨by simp,Rw.one ⟨Nat.zero_le _,Ls.nil,h⟩⟩
theorem e3g {s:LU}{N:Nat}(h:Sl N s)(hN:N≤549755813888):An (λ β=>l1t β s) (Ls (N+1) w1 (Tk (N+60))):=by
 refine g3e ?_
 unfold l1t f2p
 refine f3i (u2v (N:=N) (by simpa using h) hN) λ l t ⟨hl,ht⟩=>f3l (u2x (Sl.up (m:=N+60) (by omega) ht)) λ l2 hl2=>g3j ?_ (f3v ⟨?_,hl.2.app hl2.2⟩)
 ·have h1:=hl.1
  have h2:=hl2.1
  omega
 ·have h1:=hl.1
  have h2:=hl2.1
  simp only [List.length_append]
  omega
theorem Pg.qu' {n m:Nat}{p:U9}{q:LV}{t:LU}{j:Bool}(h:Pg n p)(hm:n≤m)(hq:Ls m w1 (Tk m) q)(ht:Sl m t):Pg m {p with h:=t,i:=q,j:=j}:=
 have h:=Pg.up hm h
 ⟨h.ad,h.po,ht,hq,h.bu,h.sl,h.mo,h.en,h.ra,h.lo⟩
theorem t82 {p:U9}{s:LU}{n m:Nat}(h:Pg n p)(hs:Sl m s)(hn:n≤1000000000)(hm:m≤1000000000):An (λ β=>F82 β p s) (Pg (2 * n+m+60)):=by
 refine g3e ?_
 unfold F82 P82
 refine f3l (t45 h (by omega)) λ y hy=>?_
 subst hy
 have h1:=h.tok
 refine g3f (λ _=>f3v (Pg.up (by omega) h)) λ _=>f3i (u2v (N:=n+m) (by omega) (by omega)) λ l t ⟨hl,ht⟩=>g3j ?_ (f3v (h.qu' (by omega) ⟨?_,Rw.app (h.qu.2.mono λ _=>Tk.up (by omega)) (hl.2.mono λ _=>Tk.up (by omega))⟩ (Sl.up (by omega) ht)))
 ·have:=h.qu.1
  have:=hl.1
  omega
 ·have:=h.qu.1
  have:=hl.1
  simp only [List.length_append]; omega
theorem t85 {p:U9}{n:Nat}(h:Pg n p)(hn:n≤1000000000):An (λ β=>F85 β p) (Pg (n+1)):=by
 refine g3e ?_
 unfold F85 P85
 refine f3l (t45 h (by omega)) λ y hy=>?_
 subst hy
 refine g3f (λ _=>f3v (Pg.up (by omega) h)) λ _=>f3l (u2x h.tok) λ l hl=>g3j ?_ (f3v (h.qu' (by omega) ⟨?_,Rw.app (h.qu.2.mono λ _=>Tk.up (by omega)) (hl.2.mono λ _=>Tk.up (by omega))⟩ (Nat.zero_le _)))
 ·have:=h.qu.1
  have:=hl.1
  omega
 ·have:=h.qu.1
  have:=hl.1
  simp only [List.length_append]; omega
theorem t72 {c:U0}(h:Cu c):An2 (λ β=>r0j β c) λ p y=>Pg 210000 p∧Cu y:=by
 refine f3n ?_
 unfold r0j s1e
 exact f3i (t83 h) λ p y ⟨hp,h⟩=>f3i (t84 h) λ s y ⟨hs,h⟩=>f3l (t82 hp hs (by omega) (by omega)) λ q hq=>f3i (t67 3 h) λ b y h=>g3f (λ _=>f3l (t85 hq (by omega)) λ q hq=>f3j ⟨Pg.up (by omega) hq,h⟩) λ _=>f3j ⟨Pg.up (by omega) hq,h⟩
end Go.Am
end
section
set_option linter.unusedVariables false
set_option maxRecDepth 10000
namespace Go.Am
open Go
theorem r9 {P:LV→Prop}{l:LV}(h:Rw (λ s=>.agg [.sl 2 true s]) P l){i:Nat}(hi:i < l.length):An (λ _=>ix9 l i) (λ y=>P y∧l[i]? = some (.agg [.sl 2 true y])):=h.ix (f:=ix9) (λ _ l i y k h=>by unfold ix9; exact g0e (ks:=[.sl 2 true]) (e:=(y,())) h rfl) hi
theorem r10 {P:U13→Prop}{l:LV}(h:Rw w4 P l){i:Nat}(hi:i < l.length):An (λ _=>z1h l i) (λ y=>P y∧l[i]? = some (w4 y)):=h.ix (f:=z1h) (λ _ l i y k h=>by unfold z1h; exact g0e (ks:=[.str,.int .i64]) (e:=(y.a,y.b,())) h rfl) hi
theorem r11 {P:U12→Prop}{l:LV}(h:Rw w3 P l){i:Nat}(hi:i < l.length):An (λ _=>d2p l i) (λ y=>P y∧l[i]? = some (w3 y)):=h.ix (f:=d2p) (λ _ l i y k h=>by unfold d2p; exact g0e (ks:=[.int .i64,.str]) (e:=(y.a,y.b,())) h rfl) hi
theorem d2z {p:U9}{n:Nat}(h:Ls n w5 (Sr n) p.m)(hn:n≤1099511627776):An (λ β=>r0x β p) tt:=by
 refine g3e ?_
 unfold r0x e2o
 have hl:=h.1
 refine f3l (wh y2o (λ x=>x.2=p∧0≤x.1∧x.1≤p.m.length) (λ x=>(p.m.length - x.1).toNat) (Ex:=λ r=>r=(0,[])∨r=(1,s0l false)) ⟨rfl,by simp,by simp⟩ λ x ⟨h1,h3,h4⟩=>?_) λ r hr=>?_
 ·rw [h1]
  refine f3u (λ e=>g3b h3 (f3l (r8 h.2 (by omega)) λ y _=>g3f (λ _=>g3b h3 (f3l (r8 h.2 (by omega)) λ y _=>g3f (λ _=>f3p (.inr rfl)) λ _=>g3a ⟨rfl,?_,?_⟩ ?_)) λ _=>g3a ⟨rfl,?_,?_⟩ ?_)) λ e=>f3p (.inl rfl) <;> simp only <;> rw [wi1 (by omega)] <;> omega
 ·rcases hr with rfl | rfl
  ·exact f3o (f3v trivial)
  ·exact f3m (g3g (x:=false) rfl (f3v trivial))
theorem d3u {b:U8}{n:Nat}(z:Int)(h:Ls 40 w0 (Nd n) b.a)(hn:n≤1099511627776):An (λ β=>l1k β b z) (Sl (40 * n)):=by
 refine g3e ?_
 unfold l1k e2q
 have hl:=h.1
 refine f3l (wh y2p (λ x=>x.1=z∧x.2.2.2=b∧(0≤x.2.2.1∧x.2.2.1≤b.a.length)∧x.2.1.length≤x.2.2.1.toNat * n) (λ x=>(b.a.length - x.2.2.1).toNat) (Ex:=λ r=>∃ s,r=(0,eS9 s)∧Sl (40 * n) s) ⟨rfl,rfl,by simp,by simp⟩ λ x ⟨h1,h2,h3,h4⟩=>?_) λ r ⟨s,hr,hs⟩=>?_
 ·rw [h1,h2]
  have hk:x.2.2.1.toNat * n≤40 * n:=Nat.mul_le_mul_right _ (by omega)
  have he:(x.2.2.1+1).toNat * n=x.2.2.1.toNat * n+n:=by rw [show (x.2.2.1+1).toNat=x.2.2.1.toNat+1 by omega,Nat.add_mul,Nat.one_mul]
  refine f3u (λ e=>g3b h3.1 (f3l (r6 h.2 (by omega)) λ y _=>g3f (λ _=>g3b h3.1 (f3l (r6 h.2 (by omega)) λ y _=>g3f (λ _=>g3b h3.1 (f3l (r6 h.2 (by omega)) λ y ⟨hy,_⟩=>g3d (by have:=hy.2.1; omega) (g3a ⟨rfl,rfl,?_,?_⟩ ?_))) λ _=>g3a ⟨rfl,rfl,?_,?_⟩ ?_)) λ _=>g3a ⟨rfl,rfl,?_,?_⟩ ?_)) λ e=>f3p ⟨_,rfl,by omega⟩
  all_goals (simp only; rw [wi1 (by omega)])
  all_goals (try rw [he])
  all_goals (try simp only [List.length_append])
  all_goals (try (have:=hy.2.1))
  all_goals omega
 ·subst hr
  exact g3g (x:=s) rfl (f3v hs)
theorem e3p {s:LU}(hs:Sl 1099511627776 s):An2 (λ β=>m1a β s) λ y b=>b=true→Sl 60 y.b:=by
 refine f3n ?_
 unfold m1a g2e n1d g2q
 refine f3l (wh y2q (λ x=>x.1=s∧x.2.1=[.str [],.str [119,114,105,116,101,32],.str [97,100,100,32],.str [99,111,117,110,116,32],.str [108,111,111,107,32],.str [115,97,121,32]]∧0≤x.2.2.1∧x.2.2.1≤6) (λ x=>(6 - x.2.2.1).toNat) (Ex:=λ r=>(∃ u,r=(0,t2n u)) ∨ ∃ b y,r=(1,w1n (b,y))∧(b=true→Sl 60 y.b)) ⟨rfl,rfl,by simp,by simp⟩ λ x ⟨h1,h2,h3,h4⟩=>?_) λ r hr=>?_
 ·have hl:x.2.1.length=6:=by rw [h2]; rfl
  rw [h1]
  refine f3u (λ e=>f3x (by omega) (f3l (a0 (P:=Sl 6) (by rw [h2]; exact rS rfl) (by omega)) λ t _=>?_)) λ e=>f3p (.inl ⟨_,rfl⟩)
  refine f3y (λ b=>b=true→t.length≤s.length) (λ b hb=>g3f (λ e2=>g3k ?_ (f3y tt (λ b5 _=>g3f (λ _=>f3t (λ e3=>f3p (.inr ⟨_,_,rfl,λ _=>by rw [b0m] at e3; exact Int.ofNat_le.1 e3⟩)) λ _=>g3f (λ _=>f3l (f1l (by simp; omega)) λ b6 h6=>f3p (.inr ⟨_,_,rfl,λ q=>Sl.up (by omega) (h6 q)⟩)) λ _=>f3p (.inr ⟨_,_,rfl,by simp⟩)) λ _=>g3f (λ _=>f3l (f1l (by simp; omega)) λ b6 h6=>f3p (.inr ⟨_,_,rfl,λ q=>Sl.up (by omega) (h6 q)⟩)) λ _=>f3p (.inr ⟨_,_,rfl,by simp⟩)) λ j hj=>g3f (λ _=>hj _ trivial) λ _=>hj _ trivial)) λ _=>g3a ⟨rfl,h2,?_,?_⟩ ?_) λ j hj=>f3t (λ e2=>g3k ?_ (hj _ λ _=>by rw [b0m,b0m] at e2; omega)) λ _=>hj _ (by simp)
  ·have:=hb e2
   rw [b0m,b0m]; omega
  ·simp only; rw [wi1 (by omega)]; omega
  ·simp only; rw [wi1 (by omega)]; omega
  ·simp only; rw [wi1 (by omega)]; omega
  ·rw [b0m,b0m] at e2 ⊢; omega
 ·rcases hr with ⟨u,rfl⟩ | ⟨b,y,rfl,h⟩
  ·exact f3o (g3g (x:=u) rfl (f3j (by simp)))
  ·exact f3m (g3g (x:=(b,y)) rfl (f3j h))
abbrev Ln (y:U12):Prop:=Sl 60 y.b
theorem v2c {s:LU}(hs:Sl 1099511627776 s):An2 (λ β=>w0c β s) λ l b=>Ls 6 w3 Ln l:=by
 refine f3n ?_
 unfold w0c f2m
 refine g3f (λ _=>f3j Ls.nil) λ _=>f3l (p1h _ hs) λ l ⟨hl,hl1⟩=>f3l (wh i2f (λ x=>x.2.1=l∧(0≤x.2.2∧x.2.2≤l.length)∧(x.2.2=0∨l.length≤6)∧x.1.length≤x.2.2∧Rw w3 Ln x.1) (λ x=>(l.length - x.2.2).toNat) (Ex:=λ r=>(∃ m,r=(0,eS8 m)∧Ls 6 w3 Ln m) ∨ ∃ u,r=(1,i2n ([],false,u))) ⟨rfl,by simp,.inl rfl,by simp,Rw.nil⟩ λ x ⟨h1,h2,h3,h4,h5⟩=>?_) λ r hr=>?_
 ·rw [h1]
  have hl2:=hl.1
  refine f3u (λ e=>f3x (by omega) (f3l (a0 hl.2 (by omega)) λ t ⟨ht,_⟩=>f3i (e3p (by omega)) λ y b hy=>g3f (λ _=>f3p (.inr ⟨_,rfl⟩)) λ eb=>f3t (λ _=>f3p (.inr ⟨_,rfl⟩)) λ e6=>g3j (ca1 (by omega) (by omega)) (g3a ⟨rfl,?_,?_,?_,h5.app (Rw.one (hy (by simpa using eb)))⟩ ?_))) λ e=>f3p (.inl ⟨_,rfl,by omega,h5⟩)
  all_goals (simp only; rw [a0t] at e6; try rw [wi1 (by omega)])
  ·omega
  ·omega
  ·simp; omega
  ·omega
 ·rcases hr with ⟨m,rfl,hm⟩ | ⟨u,rfl⟩
  ·exact f3o (g3g (x:=m) rfl (f3j hm))
  ·exact f3m (g3g (x:=([],false,u)) rfl (f3j Ls.nil))
theorem b2u (n:Int):An (λ _=>strO [.int .u8 (IntKind.wrap .u8 n)]) (Sl 1):=⟨[UInt8.ofNat (IntKind.wrap .u8 n).toNat],by simp,λ β k=>rfl⟩
abbrev I64 (n:Int):Prop:=-9223372036854775808≤n∧n≤9223372036854775807
theorem e2c {n:Int}(h:I64 n):An (λ β=>o0g β n) (Sl 25):=by
 refine g3e ?_
 unfold o0g g2o
 refine g3f (λ _=>f3v (by simp)) λ _=>f3l (wh y2r (λ x=>x.2.1.length≤19∧x.2.2.natAbs < 10 ^ (19 - x.2.1.length)∧I64 x.2.2) (λ x=>x.2.2.natAbs) (Ex:=λ r=>∃ a s,r=(0,i2o (a,s))∧Sl 20 s) ⟨by simp,by simp; omega,h⟩ λ x ⟨h1,h2,h3⟩=>?_) λ r ⟨a,s,hr,hs⟩=>?_
 ·have st:∀ {t:LU},Sl 1 t→x.2.2 ≠ 0→Tg (C:=Unit) (T:=λ _=>LL ⊕ (Nat × LL)) (λ _=>cs t x.2.1 (some (Sum.inl (w1o (x.1,t++x.2.1,IntKind.wrap .i64 (Int.tdiv x.2.2 10)))))) (λ _ z=>some z) (λ z=>match z with
   | .inl s=>∃ x',s=w1o x' ∧ (x'.2.1.length≤19∧x'.2.2.natAbs < 10 ^ (19 - x'.2.1.length)∧I64 x'.2.2)∧x'.2.2.natAbs < x.2.2.natAbs
   | .inr r=>∃ a s,r=(0,i2o (a,s))∧Sl 20 s):=λ {t} ht hx=>by
   have e1:(Int.tdiv x.2.2 10).natAbs=x.2.2.natAbs / 10:=by rw [Int.natAbs_tdiv]; rfl
   have e2:IntKind.wrap .i64 (Int.tdiv x.2.2 10)=Int.tdiv x.2.2 10:=b1i (by omega)
   have hl:x.2.1.length≤18:=by
    by_cases c:x.2.1.length=19
    ·rw [c] at h2; simp at h2; exact absurd h2 hx
    ·omega
   have hp:10 ^ (19 - x.2.1.length)=10 * 10 ^ (18 - x.2.1.length):=by rw [show 19 - x.2.1.length=(18 - x.2.1.length)+1 by omega,Nat.pow_succ,Nat.mul_comm]
   have hq:10 ^ (18 - x.2.1.length)≤10 ^ (19 - (t++x.2.1).length):=Nat.pow_le_pow_right (by omega) (by simp; omega)
   rw [hp] at h2
   generalize 10 ^ (18 - x.2.1.length)=P at h2 hq
   refine g3d (by omega) (g3a ⟨by simp; omega,?_,?_⟩ ?_)
   ·show (IntKind.wrap .i64 (Int.tdiv x.2.2 10)).natAbs < _
    rw [e2,e1]
    exact Nat.lt_of_lt_of_le (by omega) hq
   ·show I64 (IntKind.wrap .i64 (Int.tdiv x.2.2 10))
    rw [e2]; omega
   ·show (IntKind.wrap .i64 (Int.tdiv x.2.2 10)).natAbs < _
    rw [e2,e1]; omega
  refine g3f (λ e=>?_) λ e=>f3p ⟨_,_,rfl,by omega⟩
  have e:x.2.2 ≠ 0:=by simpa using e
  exact g3f (λ _=>f3l (b2u _) λ t ht=>st ht e) λ _=>f3l (b2u _) λ t ht=>st ht e
 ·subst hr
  exact g3g (x:=(a,s)) rfl (f3t (λ _=>g3d (by simp <;> omega) (f3v (by simp <;> omega))) λ _=>f3v (by simp <;> omega))
theorem f3d {s:LU}:An2 (λ β=>m1m β s) λ n b=>True:=by
 refine f3n ?_
 unfold m1m g2t
 refine f3l (t25 _ _ _) λ b1 h1=>g3f (λ _=>f3j trivial) λ e1=>?_
 have e1:s.length≤13:=by rw [h1,b0m] at e1; simp at e1; omega
 refine f3l (wh t2e (λ x=>x.1=s∧(0≤x.2.2∧x.2.2≤s.length)∧I64 x.2.1) (λ x=>(s.length - x.2.2).toNat) (Ex:=λ r=>(∃ v,r=(0,s0k (s,v))∧I64 v) ∨ ∃ u,r=(1,t2o u)) ⟨rfl,by simp,⟨by simp,by simp⟩⟩ λ x ⟨h1,h2,h3⟩=>?_) λ r hr=>?_
 ·rw [h1]
  refine f3r (λ e=>f3l (l0w h2.1 (by omega)) λ b _=>f3l (t25 _ _ _) λ _ _=>g3f (λ _=>f3p (.inr ⟨_,rfl⟩)) λ _=>f3l (l0w h2.1 (by omega)) λ b _=>g3a ⟨rfl,?_,?_⟩ ?_) λ e=>f3p (.inl ⟨_,rfl,h3⟩)
  ·simp only; rw [wi1 (by omega)]; omega
  ·exact c2c _
  ·simp only; rw [wi1 (by omega)]; omega
 ·rcases hr with ⟨v,rfl,hv⟩ | ⟨u,rfl⟩
  ·exact f3o (g3g (x:=(s,v)) rfl (f3t (λ _=>f3j trivial) λ _=>f3l (e2c hv) λ _ _=>g3f (λ _=>f3j trivial) λ _=>f3j trivial))
  ·exact f3m (g3g (x:=u) rfl (f3j trivial))
abbrev Co (y:U13):Prop:=1≤y.b∧y.b≤999
theorem e3r {s:LU}(hs:Sl 1099511627776 s):An (λ β=>m1c β s) (Ls 8 w4 Co):=by
 refine g3e ?_
 unfold m1c g2g
 refine f3l (p1h _ hs) λ l ⟨hl,hl1⟩=>f3l (wh y2s (λ x=>x.1=l∧(0≤x.2.1∧x.2.1≤l.length)∧Ls 8 w4 Co x.2.2) (λ x=>(l.length - x.2.1).toNat) (Ex:=λ r=>∃ m,r=(0,eS8 m)∧Ls 8 w4 Co m) ⟨rfl,by simp,Ls.nil⟩ λ x ⟨h1,h2,h3⟩=>?_) λ r ⟨m,hr,hm⟩=>?_
 ·rw [h1]
  have hl2:=hl.1
  refine g3h (f3u (λ e=>f3t (λ e8=>f3x (by omega) (f3l (a0 hl.2 (by omega)) λ t ⟨ht,_⟩=>f3l (p1h _ (by omega)) λ l5 ⟨hl5,_⟩=>g3h (g3f (λ _=>g3a ⟨rfl,?_,h3⟩ ?_) λ e5=>?_))) λ _=>f3p ⟨_,rfl,h3⟩) λ _=>f3p ⟨_,rfl,h3⟩)
  ·simp only; rw [wi1 (by omega)]; omega
  ·simp only; rw [wi1 (by omega)]; omega
  have e5:l5.length=2:=by rw [a0t] at e5; simp at e5; omega
  rw [a0t] at e8
  refine f3x (by omega) (f3l (a0 hl5.2 (by omega)) λ t6 ⟨h6,_⟩=>f3l (f1l (by omega)) λ _ _=>g3f (λ _=>g3a ⟨rfl,?_,h3⟩ ?_) λ _=>f3x (by omega) (f3l (a0 hl5.2 (by omega)) λ t9 _=>f3i f3d λ n b _=>f3y (λ b=>b=true→1≤n∧n≤999) (λ b hb=>g3f (λ eb=>f3x (by omega) (f3l (a0 hl5.2 (by omega)) λ t14 _=>g3j (ca1 (by omega) (by omega)) (g3a ⟨rfl,?_,?_,h3.2.app (Rw.one (hb eb))⟩ ?_))) λ _=>g3a ⟨rfl,?_,h3⟩ ?_) λ j hj=>g3f (λ _=>f3l (t25 _ _ _) λ b12 h12=>hj _ λ q=>by rw [h12] at q; simpa using q) λ _=>hj _ (by simp)))
  all_goals (simp only; try rw [wi1 (by omega)])
  all_goals (try simp only [List.length_append,List.length_cons,List.length_nil])
  all_goals omega
 ·subst hr
  exact g3g (x:=m) rfl (f3v hm)
abbrev Shs (n:Nat)(l:LV):Prop:=Ls n (λ s=>.agg [.sl 2 true s]) (Ls 8 w4 Co) l
theorem v2e {p:U9}{n:Nat}(h:Ls n w5 (Sr n) p.m)(hn:n≤1099511627776):An (λ β=>w0e β p) (Shs n):=by
 refine g3e ?_
 unfold w0e f2o
 have hl:=h.1
 refine f3l (wh w1l (λ x=>x.2.2=p∧(0≤x.2.1∧x.2.1≤p.m.length)∧x.1.length≤x.2.1∧Rw (λ s=>.agg [.sl 2 true s]) (Ls 8 w4 Co) x.1) (λ x=>(p.m.length - x.2.1).toNat) (Ex:=λ r=>∃ m,r=(0,eS8 m)∧Shs n m) ⟨rfl,by simp,by simp,Rw.nil⟩ λ x ⟨h1,h2,h3,h4⟩=>?_) λ r ⟨m,hr,hm⟩=>?_
 ·rw [h1]
  refine f3u (λ e=>g3b h2.1 (f3l (r8 h.2 (by omega)) λ y ⟨hy,_⟩=>g3f (λ _=>g3f (λ _=>g3f (λ _=>f3l (e3r (Sl.up hn hy.2.2.2)) λ l hl=>g3j (ca1 (by omega) (by omega)) (g3a ⟨rfl,?_,?_,h4.app (Rw.one (w:=λ s=>.agg [.sl 2 true s]) hl)⟩ ?_)) λ _=>g3a ⟨rfl,?_,?_,h4⟩ ?_) λ _=>g3a ⟨rfl,?_,?_,h4⟩ ?_) λ _=>g3a ⟨rfl,?_,?_,h4⟩ ?_)) λ e=>f3p ⟨_,rfl,by omega,h4⟩
  all_goals (simp only; rw [wi1 (by omega)])
  all_goals (try simp only [List.length_append,List.length_cons,List.length_nil])
  all_goals omega
 ·subst hr
  exact g3g (x:=m) rfl (f3v hm)
end Go.Am
end
section
set_option linter.unusedVariables false
set_option maxRecDepth 10000
namespace Go.Am
open Go
theorem f3b {b:U8}{n:Nat}{s:LU}(h:Ls 40 w0 (Nd n) b.a):An (λ β=>m1k β b s) I64:=by
 refine g3e ?_
 unfold m1k g2r
 have hl:=h.1
 refine f3l (wh y2t (λ x=>x.2.2.2=b∧(0≤x.2.2.1∧x.2.2.1≤b.a.length)∧I64 x.2.1) (λ x=>(b.a.length - x.2.2.1).toNat) (Ex:=λ r=>∃ k,r=(0,y0s k)∧I64 k) ⟨rfl,by simp,⟨by simp,by simp⟩⟩ λ x ⟨h2,h3,h4⟩=>?_) λ r ⟨k,hr,hk⟩=>?_
 ·rw [h2]
  refine f3u (λ e=>g3b h3.1 (f3l (r6 h.2 (by omega)) λ y _=>g3f (λ _=>g3a ⟨rfl,?_,c2c _⟩ ?_) λ _=>g3a ⟨rfl,?_,h4⟩ ?_)) λ e=>f3p ⟨_,rfl,h4⟩ <;> simp only <;> rw [wi1 (n:=x.2.2.1) (by omega)] <;> omega
 ·subst hr
  exact g3g (x:=k) rfl (f3v hk)
theorem f3c {l:LV}{n:Nat}{s:LU}(h:Shs n l)(hn:n≤1099511627776):An (λ β=>m1l β l s) I64:=by
 refine g3e ?_
 unfold m1l g2s
 have hl:=h.1
 refine f3l (wh d2a (λ x=>x.1=l∧x.2.1=s ∧ -1≤x.2.2∧x.2.2 < l.length) (λ x=>(x.2.2+1).toNat) (Ex:=λ r=>r=(0,[]) ∨ ∃ k,r=(1,y0s k)∧I64 k) ⟨rfl,rfl,?_,?_⟩ λ x ⟨h1,h2,h3,h4⟩=>?_) λ r hr=>?_
 ·simp only; rw [a0t,wim (by omega)]; omega
 ·simp only; rw [a0t,wim (by omega)]; omega
 ·rw [h1,h2]
  refine f3t (λ e=>g3b (by omega) (f3l (r9 h.2 (by omega)) λ l2 ⟨hl2,g2⟩=>f3l (wh y2u (λ z=>z.1=l∧z.2.1=s∧z.2.2.1=x.2.2 ∧ -1≤z.2.2.2∧z.2.2.2 < l2.length) (λ z=>(z.2.2.2+1).toNat) (Ex:=λ r=>r=(0,h1x (l,s,x.2.2)) ∨ ∃ k m,r=(1,y1w (l,s,k,m))∧I64 k) ⟨rfl,rfl,rfl,?_,?_⟩ λ z ⟨k1,k2,k3,k4,k5⟩=>?_) λ r hr=>?_)) λ _=>f3p (.inl rfl)
  ·simp only; have:=hl2.1; rw [a0t,wim (by omega)]; omega
  ·simp only; have:=hl2.1; rw [a0t,wim (by omega)]; omega
  ·rw [k1,k2,k3]
   have sm:∀ {l4:LV},l[x.2.2.toNat]? = some (.agg [.sl 2 true l4])→l4=l2:=λ g=>by
    rw [g2] at g
    simp only [sj_,V.agg.injEq,List.cons.injEq,V.sl.injEq] at g
    exact g.1.2.2.symm
   have hl3:=hl2.1
   refine f3t (λ e2=>g3b (by omega) (f3l (r9 h.2 (by omega)) λ l4 ⟨_,g4⟩=>g3b (by omega) (f3l (r10 (P:=Co) (by rw [sm g4]; exact hl2.2) (by rw [sm g4]; omega)) λ y _=>g3f (λ _=>g3b (by omega) (f3l (r9 h.2 (by omega)) λ l6 ⟨_,g6⟩=>g3b (by omega) (f3l (r10 (P:=Co) (by rw [sm g6]; exact hl2.2) (by rw [sm g6]; omega)) λ y ⟨hy,_⟩=>f3p (.inr ⟨_,_,rfl,by omega⟩)))) λ _=>g3a ⟨rfl,rfl,rfl,?_,?_⟩ ?_))) λ _=>f3p (.inl rfl) <;> simp only <;> rw [wim (by omega)] <;> omega
  ·rcases hr with rfl | ⟨k,m,rfl,hk⟩
   ·refine f3o (g3g (x:=(l,s,x.2.2)) rfl (g3a ⟨rfl,rfl,?_,?_⟩ ?_)) <;> simp only <;> rw [wim (by omega)] <;> omega
   ·exact f3m (g3g (x:=(l,s,k,m)) rfl (f3p (.inr ⟨_,rfl,hk⟩)))
 ·rcases hr with rfl | ⟨k,rfl,hk⟩
  ·exact f3o (f3v ⟨by omega,by omega⟩)
  ·exact f3m (g3g (x:=k) rfl (f3v hk))
theorem f3a {s:LU}{n:Nat}(h:Sl n s)(hn:n≤4000000000):An (λ β=>m1j β s) (Sl n):=by
 refine g3e ?_
 unfold m1j d2q
 exact f3s (by omega) (f3v (by simpa using h))
theorem e3q {b:U8}{l:LV}{x:U12}{n m:Nat}(hb:Bi n b)(hl:Shs m l)(hx:Sl 60 x.b)(h1:1000≤n)(hn:n≤1099511627776)(hm:m≤1099511627776):An3 (λ β=>m1b β b l x) λ b' w s=>Bi n b' ∧ Sl 60 w∧Sl 200 s:=by
 refine f3q ?_
 unfold m1b g2f
 refine f3l (t61 hb hn) λ y hy=>?_
 subst hy
 have e:Bi n y∧Sl 60 []∧Sl 200 []:=⟨hb,by simp,by simp⟩
 refine g3f (λ _=>f3l (f3a hx (by omega)) λ t ht=>f3k ⟨hb,ht,by simp⟩) λ _=>g3f (λ _=>f3y (λ b=>b=true→y.a.length≤39) (λ b5 h5=>g3f (λ e5=>g3j (ca1 (by have:=h5 e5; omega) (by omega)) (f3k ⟨⟨⟨?_,hb.1.2.app (Rw.one ⟨?_,by simp,Ls.nil⟩)⟩,hb.2⟩,by simp,by simp⟩)) λ _=>f3k e) λ j hj=>f3l (t25 _ _ _) λ b3 h3=>g3f (λ e3=>f3l (f1l (Sl.up (by omega) hx)) λ b4 _=>hj _ λ _=>by rw [h3,a0t] at e3; simp at e3; omega) λ _=>hj _ (by simp)) λ _=>g3f (λ _=>?_) λ _=>g3f (λ _=>?_) λ _=>g3f (λ _=>g3d (by simp <;> omega) (f3k ⟨hb,by simp,by simp <;> omega⟩)) λ _=>f3k e
 ·have:=h5 e5
  simp only [List.length_append,List.length_cons,List.length_nil]; omega
 ·show x.b.length≤n; omega
 ·exact g3d (by simp <;> omega) (g3d (by simp <;> omega) (f3l (f3b hb.1) λ k hk=>f3l (e2c hk) λ t ht=>g3d (by simp <;> omega) (f3k ⟨hb,by simp,by simp <;> omega⟩)))
 ·exact g3d (by simp <;> omega) (g3d (by simp <;> omega) (f3l (f3c hl hm) λ k hk=>f3l (e2c hk) λ t ht=>g3d (by simp <;> omega) (f3k ⟨hb,by simp,by simp <;> omega⟩)))
theorem v2d {b:U8}{l q:LV}{n m:Nat}(hb:Bi n b)(hl:Shs m l)(hq:Ls 6 w3 Ln q)(h1:1000≤n)(hn:n≤1099511627776)(hm:m≤1099511627776):An3 (λ β=>w0d β b l q) λ b' w s=>Bi n b' ∧ Sl 360 w∧Tx 6 200 s:=by
 refine f3q ?_
 unfold w0d f2n
 have hq1:=hq.1
 refine f3l (t61 hb hn) λ y hy=>f3l (wh y2v (λ x=>x.1=l∧x.2.1=q∧(0≤x.2.2.2.2.1∧x.2.2.2.2.1≤q.length)∧x.2.2.1.length≤60 * x.2.2.2.2.1∧x.2.2.2.1.length≤x.2.2.2.2.1∧Rw V.str (Sl 200) x.2.2.2.1∧Bi n x.2.2.2.2.2) (λ x=>(q.length - x.2.2.2.2.1).toNat) (Ex:=λ r=>∃ w s b,r=(0,t2p (w,s,b))∧Bi n b∧Sl 360 w∧Tx 6 200 s) ⟨rfl,rfl,by simp,by simp,by simp,Rw.nil,by subst hy; exact hb⟩ λ x ⟨h1,h2,h3,h4,h5,h6,h7⟩=>?_) λ r ⟨w,s,b',hr,hb',hw,hs⟩=>?_
 ·rw [h1,h2]
  refine f3u (λ e=>g3b h3.1 (f3l (r11 hq.2 (by omega)) λ y ⟨hy,_⟩=>f3h (e3q h7 hl hy (by omega) hn hm) λ b' w s ⟨hb',hw,hs⟩=>g3d (by omega) (g3f (λ _=>g3j (ca1 (by omega) (by omega)) (g3a ⟨rfl,rfl,?_,?_,?_,h6.app (Rw.one hs),hb'⟩ ?_)) λ _=>g3a ⟨rfl,rfl,?_,?_,?_,h6,hb'⟩ ?_))) λ e=>f3p ⟨_,_,_,rfl,h7,by omega,by omega,h6⟩
  all_goals (simp only; rw [wi1 (by omega)])
  all_goals (try simp only [List.length_append,List.length_cons,List.length_nil])
  all_goals omega
 ·subst hr
  exact g3g (x:=(w,s,b')) rfl (f3k ⟨hb',hw,hs⟩)
theorem Pg.lo' {n m:Nat}{p:U9}{u:LV}(h:Pg n p)(hm:n≤m)(hu:Tx m m u):Pg m {p with u:=u}:=
 have h:=Pg.up hm h
 ⟨h.ad,h.po,h.tok,h.qu,h.bu,h.sl,h.mo,h.en,h.ra,hu⟩
theorem Pg.bu' {n:Nat}{p:U9}{b:U8}(h:Pg n p)(hb:Bi n b):Pg n {p with k:=b.a,l:=b.b}:=⟨h.ad,h.po,h.tok,h.qu,hb,h.sl,h.mo,h.en,h.ra,h.lo⟩
theorem m2f {p:U9}{s:LU}{w:Bool}{n:Nat}(h:Pg n p)(hs:Sl 1099511627776 s)(h1:1000≤n)(hn:n≤1000000000):An (λ β=>t0x β p s w) (Pg (n+400)):=by
 refine g3e ?_
 unfold t0x e2p
 refine f3l (t45 h (by omega)) λ y hy=>?_
 subst hy
 have hlo:=h.lo
 have hl1:=hlo.1
 refine f3i (v2c hs) λ l2 b3 hl2=>g3f (λ _=>f3t (λ _=>g3j (ca1 (by omega) (by omega)) (f3v (h.lo' (by omega) ⟨?_,(hlo.2.mono λ y hy=>Nat.le_trans hy (by omega)).app (Rw.one (w:=V.str) (by simp <;> omega))⟩))) λ _=>f3v (Pg.up (by omega) h)) λ _=>?_
 ·simp only [List.length_append,List.length_cons,List.length_nil]; omega
 refine f3l (v2e h.sl (by omega)) λ l5 hl5=>f3h (v2d h.bu hl5 hl2 h1 (by omega) (by omega)) λ b6 t7 l8 ⟨hb6,ht7,hl8⟩=>?_
 have hl8':=hl8.1
 refine f3l (wh y2w (λ x=>x.1=w∧x.2.1=t7∧x.2.2.1=l8∧(0≤x.2.2.2.1∧x.2.2.2.1≤l8.length)∧Pg (n+x.2.2.2.1.toNat) x.2.2.2.2.2.2.2.2.2.2.2.2.2.2.2) (λ x=>(l8.length - x.2.2.2.1).toNat) (Ex:=λ r=>∃ z:n2q,r=(0,i2p z)∧z.2.1=t7∧Pg (n+6) z.2.2.2.2.2.2.2.2.2.2.2.2.2) ⟨rfl,rfl,rfl,by simp,?_⟩ λ x ⟨k1,k2,k3,k4,k5⟩=>?_) λ r ⟨z,hr,hz,hz2⟩=>?_
 ·exact Pg.up (by simp) (h.bu' hb6)
 ·rw [k1,k2,k3]
  have ku:=k5.lo
  have ku1:=ku.1
  refine g3h (f3u (λ e=>f3t (λ _=>f3x (by omega) (f3l (a0 hl8.2 (by omega)) λ t ⟨ht,_⟩=>g3j (ca1 (by omega) (by omega)) (g3a ⟨rfl,rfl,rfl,?_,?_⟩ ?_))) λ _=>f3p ⟨_,rfl,rfl,Pg.up (by omega) k5⟩) λ _=>f3p ⟨_,rfl,rfl,Pg.up (by omega) k5⟩)
  ·simp only; rw [wi1 (by omega)]; omega
  ·simp only; rw [wi1 (by omega)]
   refine k5.lo' (by omega) ⟨?_,(ku.2.mono λ y hy=>Nat.le_trans hy (by omega)).app (Rw.one (w:=V.str) (by show t.length≤_; omega))⟩
   simp only [List.length_append,List.length_cons,List.length_nil]; omega
  ·simp only; rw [wi1 (by omega)]; omega
 ·subst hr
  refine g3g (x:=z) rfl (g3f (λ _=>?_) λ _=>f3v (Pg.up (by omega) hz2))
  rw [hz]
  refine f3l (e3g ht7 (by omega)) λ l hl=>g3j ?_ (f3v (hz2.qu' (by omega) ⟨?_,(hl.2.mono λ _=>Tk.up (by omega)).app (hz2.qu.2.mono λ _=>Tk.up (by omega))⟩ (Sl.up (by omega) hz2.tok)))
  ·have:=hz2.qu.1
   have:=hl.1
   omega
  ·have:=hz2.qu.1
   have:=hl.1
   simp only [List.length_append]; omega
end Go.Am
end
section
set_option linter.unusedVariables false
set_option maxRecDepth 10000
namespace Go.Am
open Go
theorem m0n {U:Type}{w:U→V}{P:U→Prop}{l:LV}{i o:Nat}{new:List V}(f:U→U)(h:Rw w P l)(hi:i < l.length)(hf:∀ y,P y→P (f y))(hw:∀ y,∃ cs,o0v (w y).cells o new=some cs∧h0u (w y) cs=w (f y)):An (λ _=>c0z l i o new) λ l'=>l'.length=l.length∧Rw w P l' ∧ ∃ y,l[i]? = some (w y)∧l' = l.set i (w (f y)):=by
 obtain ⟨y,hy,hg⟩:=h.get hi
 obtain ⟨cs,h1,h2⟩:=hw y
 refine ⟨l.set i (w (f y)),⟨by simp,λ r hr=>?_,y,hg,rfl⟩,λ β k=>?_⟩
 ·rcases List.mem_or_eq_of_mem_set hr with hr | rfl
  ·exact h r hr
  ·exact ⟨_,hf y hy,rfl⟩
 ·show c0z l i o new k=_
  unfold c0z g0v
  simp only [hg,h1,h2]
theorem a2 {P:Int→Prop}{l:LV}(h:Rw wn P l){i:Nat}(hi:i < l.length):An (λ _=>ia2 l i 0) (λ y=>P y∧l[i]? = some (wn y)):=h.ix (f:=λ l i=>ia2 l i 0) (λ _ l i y k h=>by show ia2 l i 0 k=_; unfold ia2; exact i0z (ks:=[.int .i64]) (e:=(y,())) h rfl) hi
theorem a0n {P:U7→Prop}{l:LV}(h:Rw w0 P l){i:Nat}(hi:i < l.length):An (λ _=>ia0 l i 0) (λ s=>∃ y,P y∧l[i]? = some (w0 y)∧s=y.a):=by
 obtain ⟨y,h1,h2⟩:=h.get hi
 exact ⟨y.a,⟨y,h1,h2,rfl⟩,λ β k=>by show ia0 l i 0 k=_; unfold ia0; exact i0z (ks:=[.str]) (e:=(y.a,())) h2 rfl⟩
theorem a3n {P:U7→Prop}{l:LV}(h:Rw w0 P l){i:Nat}(hi:i < l.length):An (λ _=>ia3 l i 3) (λ s=>∃ y,P y∧l[i]? = some (w0 y)∧s=y.d):=by
 obtain ⟨y,h1,h2⟩:=h.get hi
 exact ⟨y.d,⟨y,h1,h2,rfl⟩,λ β k=>by show ia3 l i 3 k=_; unfold ia3; exact i0z (ks:=[.sl 2 true]) (e:=(y.d,())) h2 rfl⟩
theorem i1r {k:Int}{l:LV}{b:Bool}(h:b=decide (0≤k∧k≤wi (nL l - 1)))(hb:b=true)(hl:l.length≤1099511627776):0≤k∧k.toNat < l.length:=by
 rw [h,a0t,wim (by omega)] at hb
 simp at hb
 omega
theorem e3s {b:U8}{s:LU}{n:Nat}(h:Bi n b)(hn:n≤1099511627776):An (λ β=>k0e β b s) λ u=>Bi n u∧u.a=b.a:=by
 refine g3e ?_
 unfold k0e g1o
 have h1:=h.1.1
 have h2:=h.2.1
 refine f3l (wh y2x (λ x=>x.2.2=b ∧ -1≤x.2.1∧x.2.1 < b.b.length) (λ x=>(x.2.1+1).toNat) (Ex:=λ r=>r=(0,w1m b) ∨ ∃ u,r=(1,t2q u)∧Bi n u.2∧u.2.a=b.a) ⟨rfl,?_,?_⟩ λ x ⟨k1,k2,k3⟩=>?_) λ r hr=>?_
 ·simp only; rw [a0t,wim (by omega)]; omega
 ·simp only; rw [a0t,wim (by omega)]; omega
 ·rw [k1]
  refine f3t (λ e=>f3x (by omega) (f3l (a2 h.2.2 (by omega)) λ m _=>f3l (t25 _ _ _) λ b3 h3=>g3f (λ e3=>?_) λ _=>g3a ⟨rfl,?_,?_⟩ ?_)) λ _=>f3p (.inl rfl)
  ·have:=i1r h3 e3 (by omega)
   refine f3x this (f3l (a0n h.1.2 this.2) λ t _=>g3f (λ _=>g3k (by rw [a0t]; omega) (f3p (.inr ⟨_,rfl,⟨h.1,⟨?_,(h.2.2.take _).drop _⟩⟩,rfl⟩))) λ _=>g3a ⟨rfl,?_,?_⟩ ?_)
   ·simp <;> omega
   all_goals (simp only; rw [wim (by omega)]; omega)
  all_goals (simp only; rw [wim (by omega)]; omega)
 ·rcases hr with rfl | ⟨u,rfl,hu⟩
  ·exact f3o (g3g (x:=b) rfl (f3v ⟨h,rfl⟩))
  ·exact f3m (g3g (x:=u) rfl (f3v hu))
theorem e3t (s:LU):An (λ β=>m1d β s) tt:=by
 refine g3e ?_
 unfold m1d g2h
 exact g3f (λ _=>f3v trivial) λ _=>f3v trivial
theorem e3h {b:U8}{t:U10}{n:Nat}(h:Bi n b)(ht:Tk n t)(h1:1000≤n)(hn:n≤1000000000):An2 (λ β=>l1u β b t) λ b' k=>Bi (n+1) b' ∧ (-1≤k∧k < b'.a.length)∧b.a.length≤b'.a.length:=by
 refine f3n ?_
 unfold l1u f2q
 have hb1:=h.1.1
 have hb2:=h.2.1
 refine f3l (t61 h (by omega)) λ y hy=>?_
 subst hy
 have e:Bi (n+1) y∧(-1≤(-1:Int)∧(-1:Int) < y.a.length)∧y.a.length≤y.a.length:=⟨Bi.up (by omega) h,by omega,by omega⟩
 refine g3f (λ _=>f3l (e3s h (by omega)) λ u hu=>f3j ⟨Bi.up (by omega) hu.1,by simp <;> omega,by rw [hu.2]; omega⟩) λ _=>f3y tt (λ b4 _=>?_) λ j hj=>g3f (λ _=>f3l (e3t _) λ _ _=>hj _ trivial) λ _=>hj _ trivial
 by_cases c1:(y.a.length:Int) ≥ 40
 ·exact g3h (f3t (λ _=>f3j e) λ q=>absurd c1 q)
 by_cases c2:y.b.length=0
 ·exact g3h (f3t (λ _=>f3j e) λ q=>g3f (λ _=>f3j e) λ q=>by rw [a0t,c2] at q; simp at q)
 have hnode:∀ {y1:U7},Nd n y1→Ls 40 w0 (Nd (n+1)) (y.a++[w0 y1]):=λ hy=>⟨by simp; omega,(h.1.2.mono λ _=>Nd.up (by omega)).app (Rw.one (Nd.up (by omega) hy))⟩
 have hopen:∀ z:Int,Ls (n+1) wn tt (y.b++[.int .i64 z]):=λ z=>⟨by simp; omega,h.2.2.app (Rw.one (w:=wn) (y:=z) trivial)⟩
 have hold:Ls (n+1) wn tt y.b:=Ls.up (by omega) h.2 λ _ q=>q
 have fin:∀ {y1:U7},Nd n y1→Tg (C:=Σ β:Type,U8→Int→Option β) (T:=λ c=>c.1) (λ c=>br b4 (ca y.b ([.int .i64 (nL y.a)]:LV) 8 (c.2 ⟨y.a++([w0 y1]:LV),y.b++([.int .i64 (nL y.a)]:LV)⟩ (nL y.a))) (c.2 {y with a:=y.a++([w0 y1]:LV)} (nL y.a))) (λ c (r:U8 × Int)=>c.2 r.1 r.2) (λ r=>Bi (n+1) r.1∧(-1≤r.2∧r.2 < r.1.a.length)∧y.a.length≤r.1.a.length):=λ hy=>g3f (λ _=>g3j (ca1 (by omega) (by omega)) (f3j ⟨⟨hnode hy,hopen _⟩,by simp [a0t] <;> omega,by simp <;> omega⟩)) λ _=>f3j ⟨⟨hnode hy,hold⟩,by simp [a0t] <;> omega,by simp <;> omega⟩
 refine g3c (g3b ?_ (f3l (r1 h.2.2 ?_) λ m _=>g3c (g3j (ca1 (by omega) (by omega)) (fin ⟨by simp,ht.2.2,Ls.nil⟩)) λ j hj=>g3f (λ _=>f3l (t70 (by have:=ht.2.1.1; omega)) λ l7 e7=>g3j (ca1 (by omega) (by omega)) (fin ⟨ht.1,by simp,by rw [e7]; exact ht.2.1⟩)) λ _=>g3f (λ _=>g3f (λ _=>hj) λ _=>f3j e) λ _=>f3j e)) λ j hj=>f3t (λ _=>f3j e) λ _=>g3f (λ _=>f3j e) λ _=>g3f (λ _=>f3t (λ _=>f3j e) λ _=>hj) λ _=>hj
 ·rw [a0t,wim (by omega)]; omega
 ·rw [a0t,wim (by omega)]; omega
theorem u2y (m:Int):An (λ β=>v0z β m) tt:=by
 refine g3e ?_
 unfold v0z e2w
 exact g3f (λ _=>f3v trivial) λ _=>g3f (λ _=>f3v trivial) λ _=>g3f (λ _=>f3v trivial) λ _=>g3f (λ _=>f3v trivial) λ _=>f3v trivial
theorem m2s {s b:LU}{n:Nat}(hs:Sl n s)(hb:Sl n b)(hn:n≤1099511627776):An2 (λ β=>o0q β s b) λ y _=>Pr n y:=by
 refine f3n ?_
 unfold o0q g2l
 refine f3l (wh y2y (λ x=>x.1=s∧(0≤x.2.1∧x.2.1≤s.length)∧Pr n x.2.2.2) (λ x=>(s.length - x.2.1).toNat) (Ex:=λ r=>∃ u,r=(0,i2r u)∧Pr n u.2) ⟨rfl,by simp,hb,hs⟩ λ x ⟨h1,h2,h3⟩=>?_) λ r ⟨u,hr,hu⟩=>?_
 ·rw [h1]
  refine f3r (λ e=>f3l (l0w h2.1 (by omega)) λ b _=>g3f (λ _=>g3k (by rw [b0m]; omega) (g3k (by rw [b0m,wi1 (by omega)]; omega) (f3p ⟨_,rfl,?_,?_⟩))) λ _=>g3a ⟨rfl,?_,h3⟩ ?_) λ _=>f3p ⟨_,rfl,h3⟩
  ·simp <;> omega
  ·simp <;> omega
  ·simp only; rw [wi1 (by omega)]; omega
  ·simp only; rw [wi1 (by omega)]; omega
 ·subst hr
  have h1:=hu.1
  have h2:=hu.2
  exact g3g (x:=u) rfl (f3l (e2b ⟨by omega,by omega⟩) λ _ _=>g3f (λ _=>f3j ⟨by simp,by simp⟩) λ _=>f3j hu)
abbrev Rq (n:Nat)(r:U14):Prop:=Sl n r.b∧Sl n r.c∧Sl n r.d∧Sl n r.e
theorem t89 {p:U9}{k:Int}{n m:Nat}(h:Ls m w5 (Sr n) p.m)(ha:Sl n p.a)(hm:m≤1099511627776):An (λ β=>F89 β p k) (Rq n):=by
 refine g3e ?_
 unfold F89 P89
 have hl:=h.1
 refine f3l (t25 _ _ _) λ b hb=>g3f (λ _=>f3v ⟨by simp,by simp,by simp,by simp⟩) λ e=>?_
 have:=i1r hb (by simpa using e) (by omega)
 exact g3b this.1 (f3l (r8 h.2 this.2) λ y ⟨hy,_⟩=>f3l (u2y _) λ _ _=>f3v ⟨hy.1,hy.2.1,ha,hy.2.2.1⟩)
theorem e3x {r:U14}{n:Nat}(h:Rq n r)(hn:n≤1099511627776):An (λ β=>m1g β r) tt:=by
 refine g3e ?_
 unfold m1g g2m
 obtain ⟨h1,h2,h3,h4⟩:=h
 exact f3l (t25 _ _ _) λ _ _=>g3f (λ _=>f3l (e2b ⟨Sl.up hn h1,Sl.up hn h2⟩) λ _ _=>g3f (λ _=>f3l (f1l (Sl.up hn h3)) λ _ _=>g3f (λ _=>g3f (λ _=>f3v trivial) λ _=>f3l (m2q (Sl.up hn h4)) λ _ _=>f3v trivial) λ _=>f3v trivial) λ _=>f3v trivial) λ _=>f3v trivial
theorem m2t {l:LV}{s:LU}{n m:Nat}(h:Tx n m l)(hn:n≤1099511627776):An (λ β=>f1s β l s) tt:=by
 refine g3e ?_
 unfold f1s g2u
 have hl:=h.1
 refine f3l (wh d2a (λ x=>x.1=l∧x.2.1=s∧0≤x.2.2∧x.2.2≤l.length) (λ x=>(l.length - x.2.2).toNat) (Ex:=λ r=>r=(0,[])∨r=(1,s0l true)) ⟨rfl,rfl,by simp,by simp⟩ λ x ⟨h1,h2,h3,h4⟩=>?_) λ r hr=>?_
 ·rw [h1,h2]
  refine f3u (λ e=>g3b h3 (f3l (r2 h.2 (by omega)) λ y _=>g3f (λ _=>f3p (.inr rfl)) λ _=>g3a ⟨rfl,rfl,?_,?_⟩ ?_)) λ e=>f3p (.inl rfl) <;> simp only <;> rw [wi1 (by omega)] <;> omega
 ·rcases hr with rfl | rfl
  ·exact f3o (f3v trivial)
  ·exact f3m (g3g (x:=true) rfl (f3v trivial))
theorem e3y {p:U2}{k:Int}{s:LU}{n m:Nat}(h:Po n m p)(hn:n≤1099511627776):An (λ β=>m1h β p k s) tt:=by
 refine g3e ?_
 unfold m1h g2n
 exact g3f (λ _=>f3v trivial) λ _=>f3y tt (λ _ _=>g3f (λ _=>f3l (m2t h.1 hn) λ _ _=>f3v trivial) λ _=>g3f (λ _=>f3l (m2t h.2.1 hn) λ _ _=>f3v trivial) λ _=>g3f (λ _=>f3l (m2t h.2.2.1 hn) λ _ _=>f3v trivial) λ _=>f3v trivial) λ j hj=>g3f (λ _=>hj _ trivial) λ _=>hj _ trivial
theorem m2o {p:U2}{r:U14}{n m k:Nat}(h:Po n m p)(hr:Rq k r)(hn:n≤1099511627776)(hk:k≤1099511627776):An (λ β=>o0p β p r) tt:=by
 refine g3e ?_
 unfold o0p f2w
 exact f3l (e3x hr hk) λ _ _=>g3f (λ _=>f3v trivial) λ _=>g3f (λ _=>f3l (e3y h hn) λ _ _=>g3f (λ _=>f3v trivial) λ _=>f3v trivial) λ _=>f3v trivial
theorem Pg.sl' {n m:Nat}{p:U9}{l:LV}(h:Pg n p)(hm:n≤m)(hl:Ls m w5 (Sr m) l):Pg m {p with m:=l}:=
 have h:=Pg.up hm h
 ⟨h.ad,h.po,h.tok,h.qu,h.bu,hl,h.mo,h.en,h.ra,h.lo⟩
theorem Pg.mo' {n m:Nat}{p:U9}{l:LV}(h:Pg n p)(hm:n≤m)(hl:Ls m w6 (Md m) l)(hr:p.t.length+muL l p.t≤m):Pg m {p with n:=l}:=
 have h:=Pg.up hm h
 ⟨h.ad,h.po,h.tok,h.qu,h.bu,h.sl,hl,h.en,⟨hr,h.ra.2⟩,h.lo⟩
theorem Pg.en' {n m:Nat}{p:U9}{l:LV}(h:Pg n p)(hm:n≤m)(hl:Ls m w2 (Pr m) l):Pg m {p with o:=l}:=
 have h:=Pg.up hm h
 ⟨h.ad,h.po,h.tok,h.qu,h.bu,h.sl,h.mo,hl,h.ra,h.lo⟩
theorem Pg.ra' {n m:Nat}{p:U9}{l:LV}(h:Pg n p)(hm:n≤m)(hl:l.length+muL p.n l≤m∧Rw w2 (Pr m) l):Pg m {p with t:=l}:=
 have h:=Pg.up hm h
 ⟨h.ad,h.po,h.tok,h.qu,h.bu,h.sl,h.mo,h.en,hl,h.lo⟩
theorem Pg.nu {n:Nat}{p:U9}(h:Pg n p)(a b c d:Int)(e:Bool):Pg n {p with p:=a,q:=b,r:=c,s:=d,v:=e}:=⟨h.ad,h.po,h.tok,h.qu,h.bu,h.sl,h.mo,h.en,h.ra,h.lo⟩
theorem b2v {p:U9}{mode node:Int}{s d:LU}{n:Nat}(h:Pg n p)(hs:Sl n s)(hd:Sl n d)(hn:n≤1000000000):An2 (λ β=>r0y β p mode s d node) λ q _=>Pg (n+1) q∧q.k=p.k:=by
 refine f3n ?_
 unfold r0y g2i
 have hl:=h.sl.1
 refine f3l (t45 h (by omega)) λ y hy=>?_
 subst hy
 have e:Pg (n+1) y∧y.k=y.k:=⟨Pg.up (by omega) h,rfl⟩
 refine g3c (f3i (m2s hs h.ad.1 (by omega)) λ a b5 ha=>g3j (ca1 (by omega) (by omega)) ?_) λ j hj=>f3t (λ _=>f3j e) λ _=>f3l (u2y _) λ _ _=>g3f (λ _=>f3j e) λ _=>hj
 have hnew:Ls (n+1) w5 (Sr (n+1)) (y.m++[w5 ⟨mode,a.a,a.b,d,node,false,0,[]⟩]):=⟨by simp; omega,(h.sl.2.mono λ _=>Sr.up (by omega)).app (Rw.one ⟨Sl.up (by omega) ha.1,Sl.up (by omega) ha.2,Sl.up (by omega) hd,by simp⟩)⟩
 refine f3y tt (λ b8 _=>g3f (λ _=>f3x ?_ (f3l (m0n (λ y=>{y with f:=true}) hnew.2 ?_ (λ _ q=>q) λ y=>⟨_,rfl,rfl⟩) λ l9 ⟨h9,k9,_⟩=>f3x ?_ (f3l (m0n (λ y=>{y with g:=2}) k9 ?_ (λ _ q=>q) λ y=>⟨_,rfl,rfl⟩) λ l10 ⟨h10,k10,_⟩=>f3j ⟨h.sl' (by omega) ⟨?_,k10⟩,rfl⟩))) λ _=>f3j ⟨h.sl' (by omega) hnew,rfl⟩) λ j hj=>g3f (λ _=>hj _ trivial) λ _=>f3l (t89 (p:={y with m:=y.m++[w5 ⟨mode,a.a,a.b,d,node,false,0,[]⟩]}) (n:=n+1) (m:=n+1) hnew (Sl.up (by omega) h.ad.1) (by omega)) λ r hr=>f3l (m2o h.po hr (by omega) (by omega)) λ _ _=>hj _ trivial
 ·rw [a0t]; simp
 ·rw [a0t]; simp
 ·rw [a0t,h9]; simp
 ·rw [a0t,h9]; simp
 ·rw [h10,h9]; exact hnew.1
theorem e3i {p:U9}{t:U10}{k:Int}{n:Nat}(h:Pg n p)(ht:Tk n t)(hn:n≤100000000):An (λ β=>k0b β p t k) λ q=>Pg (n+2) q∧q.k=p.k:=by
 refine g3e ?_
 unfold k0b g1l
 have ha:∀ s,An2 (λ β=>k0d β t.c s) λ t _=>Sl n t:=λ s=>m2r ht.2.1 (by omega)
 have fin:∀ {q:U9},Pg (n+1) q∧q.k=p.k→Pg (n+2) q∧q.k=p.k:=λ h=>⟨Pg.up (by omega) h.1,h.2⟩
 have e:Pg (n+2) p∧p.k=p.k:=⟨Pg.up (by omega) h,rfl⟩
 refine f3i (ha _) λ t1 _ h1=>f3y (λ y=>Pg (n+1) y∧y.k=p.k) (λ y hy=>f3i (ha _) λ t2 _ h2=>g3f (λ _=>g3f (λ _=>f3i (b2v hy.1 (Sl.up (by omega) h2) (Sl.up (by omega) h1) (by omega)) λ q _ hq=>f3v ⟨hq.1,hq.2.trans hy.2⟩) λ _=>f3v (fin hy)) λ _=>f3v (fin hy)) λ j hj=>g3c (f3i (ha _) λ t2 _ h2=>g3f (λ _=>g3f (λ _=>f3i (b2v h h2 h1 (by omega)) λ q _ hq=>f3v (fin hq)) λ _=>f3v e) λ _=>f3v e) λ j2 hj2=>f3i (ha _) λ t3 _ h3=>g3f (λ _=>g3f (λ _=>f3i (b2v h h3 h1 (by omega)) λ q _ hq=>hj _ hq) λ _=>hj2) λ _=>hj2
theorem e3u (p:U2)(s:LU):An (λ β=>m1e β p s) tt:=by
 refine g3e ?_
 unfold m1e g2j
 exact g3f (λ _=>f3v trivial) λ _=>g3f (λ _=>f3v trivial) λ _=>f3v trivial
theorem e3n (a b:U6):An (λ β=>l1z β a b) tt:=by
 refine g3e ?_
 unfold l1z f2z
 exact g3f (λ _=>f3v trivial) λ _=>g3f (λ _=>f3v trivial) λ _=>g3f (λ _=>g3f (λ _=>f3v trivial) λ _=>f3v trivial) λ _=>f3v trivial
end Go.Am
end
section
set_option linter.unusedVariables false
set_option maxRecDepth 10000
namespace Go.Am
open Go
theorem caL {a b:LV}{k:Nat}(h:a.length+b.length≤1099511627776)(hk:k≤100):(a.length+b.length) * k≤140737488355328∧a.length+b.length≤140737488355328:=by
 have:=Nat.mul_le_mul h hk
 omega
theorem v2a {p:U9}{a:U6}{n:Nat}(h:Pg n p)(ha:Pr n a)(hn:n≤1000000000):An (λ β=>w0b β p a) (Pg (n+1)):=by
 refine g3e ?_
 unfold w0b f2b
 have hl:=h.mo.1
 refine f3l (t45 h (by omega)) λ y hy=>?_
 subst hy
 refine f3l (wh y2z (λ x=>(0≤x.1∧x.1≤y.n.length)∧x.2.1=y∧x.2.2.1=a∧x.2.2.2.2.2.2.2.2.2.2.2.2.2.2=y) (λ x=>(y.n.length - x.1).toNat) (Ex:=λ r=>∃ z:e2d,r=(0,w1q z)∧(0≤z.1∧z.1≤y.n.length)∧z.2.1=y∧z.2.2.1=a∧z.2.2.2.2.2.2.2.2.2.2.2.2.2.2=y) ⟨by simp,rfl,rfl,rfl⟩ λ x ⟨h1,h2,h3,h4⟩=>?_) λ r ⟨z,hr,h1,h2,h3,h4⟩=>?_
 ·rw [h2,h3]
  refine g3h (f3u (λ e=>g3b h1.1 (f3l (r12 h.mo.2 (by omega)) λ y3 _=>f3l (e3n _ _) λ _ _=>g3f (λ _=>g3a ⟨?_,rfl,rfl,h4⟩ ?_) λ _=>f3p ⟨_,rfl,h1,rfl,rfl,h4⟩)) λ _=>f3p ⟨_,rfl,h1,rfl,rfl,h4⟩) <;> simp only <;> rw [wi1 (by omega)] <;> omega
 ·subst hr
  refine g3g (x:=z) rfl ?_
  rw [h2,h3,h4]
  refine g3c (f3y (Md n) (λ m hm=>g3k (by rw [a0t]; omega) (g3j (caL ?_ (by omega)) (g3j (caL ?_ (by omega)) (g3k (by rw [a0t]; omega) (g3j (caL ?_ (by omega)) (f3v (h.mo' (by omega) ⟨?_,?_⟩ ?_))))))) λ j hj=>f3l (m2o (n:=n) (m:=n) (k:=n) (p:=⟨y.c,y.d,y.e,y.f,y.g⟩) (r:=⟨5,a.a,a.b,y.a,[]⟩) h.po ⟨ha.1,ha.2,h.ad.1,Nat.zero_le _⟩ (by omega) (by omega)) λ _ _=>g3f (λ _=>hj _ ⟨ha.1,ha.2,Nat.zero_le _⟩) λ _=>hj _ ⟨ha.1,ha.2,Nat.zero_le _⟩) λ j hj=>f3u (λ e=>g3b h1.1 (f3l (r12 h.mo.2 (by omega)) λ y9 _=>g3f (λ _=>f3v (Pg.up (by omega) h)) λ _=>hj)) λ _=>hj
  ·simp <;> omega
  ·simp <;> omega
  ·simp [a0t] <;> omega
  ·simp [a0t] <;> omega
  ·have hr:=h.mo.2.mono (P':=Md (n+1)) λ _=>Md.up (by omega)
   exact ((Rw.nil.app ((hr.take _).drop _)).app (Rw.one (Md.up (by omega) hm))).app ((hr.take _).drop _)
  ·have h5:=h.ra.1
   have h6:=t1z (w6 m) y.t
   have h7:y.n.take (nL y.n).toNat=y.n:=List.take_of_length_le (by simp [a0t])
   have h8:=j1m (y.n.take z.1.toNat) (y.n.drop z.1.toNat) y.t
   rw [List.take_append_drop] at h8
   simp only [j1m,List.nil_append,List.drop_zero,h7]
   omega
theorem e3v {p:U9}{s:LU}{n:Nat}(h:Pg n p)(hs:Sl n s)(hn:n≤100000000):An (λ β=>m1f β p s) (Pg (n+2)):=by
 refine g3e ?_
 unfold m1f g2k
 have c:∀ {C:Type 1} {T:C→Type} {Y:∀ c,U9→Option (T c)} {X:U9 → ∀ c,Option (T c)},Tg (X p) Y (Pg (n+2))→Tg (λ c=>F45 (T c) p (λ y=>X y c)) Y (Pg (n+2)):=λ hx=>f3l (t45 h (by omega)) λ y hy=>by subst hy; exact hx
 refine f3i (m2s hs h.ad.1 (by omega)) λ a _ ha=>g3c (f3l (v2a h ha (by omega)) λ q hq=>g3j (ca1 (by have:=hq.en.1; omega) (by omega)) (f3v (hq.en' (by omega) ⟨?_,(hq.en.2.mono λ _=>Pr.up (by omega)).app (Rw.one (Pr.up (by omega) ha))⟩))) λ j hj=>g3f (λ _=>f3l (t45 h (by omega)) λ y hy=>f3v (by subst hy; exact Pg.up (by omega) h)) λ _=>f3t (λ _=>f3l (t45 h (by omega)) λ y hy=>f3v (by subst hy; exact Pg.up (by omega) h)) λ _=>hj
 have:=hq.en.1
 simp only [List.length_append,List.length_cons,List.length_nil]; omega
theorem v2f {p:U9}{k:Int}{n:Nat}(h:Pg n p)(hk:0≤k∧k.toNat < p.k.length)(hn:n≤100000000):An (λ β=>i0i β p k) (Pg (n+2)):=by
 refine g3e ?_
 unfold i0i g1m
 refine f3x hk (f3l (a3n h.bu.1.2 hk.2) λ l ⟨y,hy,_,e⟩=>?_)
 subst e
 have ha:∀ s,An2 (λ β=>k0d β y.d s) λ t _=>Sl n t:=λ s=>m2r hy.2.2 (by omega)
 refine f3i (ha _) λ t2 _ h2=>f3i (ha _) λ t4 _ h4=>f3i (ha _) λ t6 _ h6=>f3i (ha _) λ t8 _ h8=>g3f (λ _=>f3l (e3u _ _) λ _ _=>g3f (λ _=>f3v (Pg.up (by omega) (h.nu _ _ _ _ _))) λ _=>f3v (Pg.up (by omega) h)) λ _=>g3f (λ _=>f3i (b2v h h2 h6 (by omega)) λ q _ hq=>f3v (Pg.up (by omega) hq.1)) λ _=>g3f (λ _=>f3l (e3v h h2 hn) λ q hq=>f3v hq) λ _=>f3i (b2v h h2 h6 (by omega)) λ q _ hq=>f3v (Pg.up (by omega) (hq.1.nu _ _ _ _ _))
theorem a1t {P:U10→Prop}{l:LV}(h:Rw w1 P l){i:Nat}(hi:i < l.length):An (λ _=>ia1 l i 0) (λ y=>P y∧l[i]? = some (w1 y)):=h.ix (f:=λ l i=>ia1 l i 0) (λ _ l i y k h=>by show ia1 l i 0 k=_; unfold ia1; exact i0z (ks:=[.int .i64,.str,.sl 2 true,.str]) (e:=(y.a,y.b,y.c,y.d,())) h rfl) hi
theorem d3v {p:U9}{n:Nat}(h:Pg n p)(h0:1000≤n)(hn:n≤10000000):An2 (λ β=>l1l β p) λ q _=>Pg (n+5) q:=by
 refine f3n ?_
 unfold l1l e2r
 refine f3l (t45 h (by omega)) λ y hy=>?_
 subst hy
 have e:=Pg.up (m:=n+5) (by omega) h
 have hk1:y.k.length≤40:=h.bu.1.1
 have ho1:y.l.length≤n:=h.bu.2.1
 by_cases cq:y.i.length=0
 ·exact g3h (g3f (λ _=>f3j e) λ q=>by rw [a0t,cq] at q; simp at q)
 refine g3c (f3x (by omega) (f3l (a1t h.qu.2 (by omega)) λ t ⟨ht,_⟩=>g3k (by rw [a0t]; omega) (f3y tt (λ n5 _=>f3i (e3h (b:=⟨y.k,y.l⟩) h.bu ht h0 (by omega)) λ b k ⟨hb,hk,hk2⟩=>?_) λ j hj=>f3t (λ e2=>g3b (by rw [a0t] at e2 ⊢; rw [wim (by omega)]; omega) (f3l (r1 h.bu.2.2 (by rw [a0t] at e2; show (wi (nL y.l - 1)).toNat < y.l.length; rw [a0t,wim (by omega)]; omega)) λ _ _=>hj _ trivial)) λ _=>hj _ trivial))) λ j hj=>g3f (λ _=>f3j e) λ _=>g3f (λ _=>f3j e) λ _=>g3f (λ _=>f3j e) λ _=>hj
 have hnew:Pg (n+1) {y with i:=(y.i.take ((nL y.i).toNat)).drop 1,k:=b.a,l:=b.b}:=by
  have q:=Pg.up (m:=n+1) (by omega) h
  exact ⟨q.ad,q.po,q.tok,⟨by simp [a0t]; have:=q.qu.1; omega,(q.qu.2.take _).drop _⟩,hb,q.sl,q.mo,q.en,q.ra,q.lo⟩
 refine f3y (λ u=>Pg (n+3) u∧y.k.length≤u.k.length) (λ u ⟨hu,hu2⟩=>?_) λ j hj=>g3c (g3c (f3j (Pg.up (by omega) hnew)) λ j2 hj2=>g3f (λ _=>g3f (λ _=>f3l (t25 _ _ _) λ b12 h12=>g3f (λ e12=>?_) λ _=>hj2) λ _=>hj2) λ _=>hj2) λ j3 hj3=>g3f (λ _=>f3t (λ _=>f3l (e3i hnew (Tk.up (by omega) ht) (by omega)) λ u ⟨hu,hu2⟩=>hj _ ⟨hu,by rw [hu2]; exact hk2⟩) λ _=>hj3) λ _=>hj3
 ·have e':=Pg.up (m:=n+5) (by omega) hu
  refine g3f (λ _=>g3f (λ _=>f3l (t25 _ _ _) λ b12 h12=>g3f (λ e12=>?_) λ _=>f3j e') λ _=>f3j e') λ _=>f3j e'
  have q:0≤n5∧n5.toNat < y.k.length:=by
   rw [h12,a0t,wim (by omega)] at e12; simp at e12; omega
  exact g3b q.1 (f3l (r6 h.bu.1.2 q.2) λ y13 _=>g3f (λ _=>f3l (v2f hu ⟨q.1,by omega⟩ (by omega)) λ v hv=>f3j hv) λ _=>f3j e')
 ·have q:0≤n5∧n5.toNat < y.k.length:=by
   rw [h12,a0t,wim (by omega)] at e12; simp at e12; omega
  exact g3b q.1 (f3l (r6 h.bu.1.2 q.2) λ y13 _=>g3f (λ _=>f3l (v2f hnew ⟨q.1,Nat.lt_of_lt_of_le q.2 hk2⟩ (by omega)) λ v hv=>f3j (Pg.up (by omega) hv)) λ _=>hj2)
theorem t86 {p:U9}{n:Nat}(h:Pg n p)(h0:1000≤n)(hn:n≤10000000):An2 (λ β=>F86 β p) λ q _=>Pg (n+400) q:=by
 refine f3n ?_
 unfold F86 P86
 have e:=Pg.up (m:=n+400) (by omega) h
 have hm:p.m.length≤n:=h.sl.1
 have cp:An (λ β=>F45 β p) λ r=>r=p:=t45 h (by omega)
 refine g3f (λ _=>f3l (d2z h.sl (by omega)) λ _ _=>g3f (λ _=>f3l cp λ y hy=>f3j (by rw [hy]; exact e)) λ _=>f3l (d3u (b:=⟨p.k,p.l⟩) _ h.bu.1 (by omega)) λ t ht=>f3l (m2f h (by omega) h0 (by omega)) λ y hy=>f3j (hy.nu _ _ _ _ _)) λ _=>g3f (λ _=>f3l (t25 _ _ _) λ b5 h5=>g3f (λ _=>f3l cp λ y hy=>f3j (by rw [hy]; exact e.nu _ _ _ _ _)) λ e5=>?_) λ _=>f3i (d3v h h0 hn) λ q b hq=>f3j (Pg.up (by omega) hq)
 have:=i1r h5 (by simpa using e5) (by omega)
 exact g3c (f3l cp λ y hy=>g3b this.1 (f3l (r8 h.sl.2 this.2) λ y14 _=>g3f (λ _=>g3b this.1 (f3l (r8 h.sl.2 this.2) λ y15 ⟨h15,_⟩=>f3l (m2f h (Sl.up (by omega) h15.2.2.2) h0 (by omega)) λ z hz=>f3j (hz.nu _ _ _ _ _))) λ _=>f3j (by rw [hy]; exact e.nu _ _ _ _ _))) λ j hj=>g3b this.1 (f3l (r8 h.sl.2 this.2) λ y7 _=>g3f (λ _=>f3l cp λ y hy=>f3j (by rw [hy]; exact e)) λ _=>f3l (d2z h.sl (by omega)) λ _ _=>g3f (λ _=>f3l cp λ y hy=>f3j (by rw [hy]; exact e)) λ _=>hj)
end Go.Am
end
