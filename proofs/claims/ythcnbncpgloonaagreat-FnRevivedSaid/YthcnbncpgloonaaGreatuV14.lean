/-
  Modules filled, answers taken; a page that is drawn.
-/
import Derived.Test.YthcnbncpgloonaaGreatuV10
import Derived.Test.YthcnbncpgloonaaGreatuUp3
section
set_option linter.unusedVariables false
set_option maxRecDepth 10000
namespace Go.Am
open Go
theorem d3w (p:U9):An (λ β=>l1m β p) tt:=by
 refine g3e ?_
 unfold l1m e2s
 exact g3f (λ _=>g3f (λ _=>g3f (λ _=>f3v trivial) λ _=>f3v trivial) λ _=>f3v trivial) λ _=>f3v trivial
abbrev Ix (m:Nat)(k:Int):Prop:=0≤k∧k < m
theorem d3x {p:U9}{n:Nat}(h:Ls n w5 (Sr n) p.m)(hn:n≤1099511627776):An (λ β=>l1n β p) (Ls n wn (Ix p.m.length)):=by
 refine g3e ?_
 unfold l1n e2t
 have hl:=h.1
 refine f3l (wh w1l (λ x=>x.2.2=p∧(0≤x.2.1∧x.2.1≤p.m.length)∧x.1.length≤x.2.1∧Rw wn (Ix p.m.length) x.1) (λ x=>(p.m.length - x.2.1).toNat) (Ex:=λ r=>∃ m,r=(0,eS8 m)∧Ls n wn (Ix p.m.length) m) ⟨rfl,by simp,by simp,Rw.nil⟩ λ x ⟨h1,h2,h3,h4⟩=>?_) λ r ⟨m,hr,hm⟩=>?_
 ·rw [h1]
  refine f3u (λ e=>g3b h2.1 (f3l (r8 h.2 (by omega)) λ y _=>g3f (λ _=>g3j (ca1 (by omega) (by omega)) (g3a ⟨rfl,?_,?_,h4.app (Rw.one (w:=wn) (y:=x.2.1) ⟨h2.1,e⟩)⟩ ?_)) λ _=>g3a ⟨rfl,?_,?_,h4⟩ ?_)) λ e=>f3p ⟨_,rfl,by omega,h4⟩
  all_goals (simp only; rw [wi1 (by omega)])
  all_goals (try simp only [List.length_append,List.length_cons,List.length_nil])
  all_goals omega
 ·subst hr
  exact g3g (x:=m) rfl (f3v hm)
theorem t88 {p:U9}{n:Nat}(h:Ls n w5 (Sr n) p.m)(hn:n≤1099511627776):An (λ β=>F88 β p) (Ls n wn tt):=by
 refine g3e ?_
 unfold F88 P88
 have hl:=h.1
 refine f3l (wh w1l (λ x=>x.2.2=p∧(0≤x.2.1∧x.2.1≤p.m.length)∧x.1.length≤x.2.1∧Rw wn tt x.1) (λ x=>(p.m.length - x.2.1).toNat) (Ex:=λ r=>∃ m,r=(0,eS8 m)∧Ls n wn tt m) ⟨rfl,by simp,by simp,Rw.nil⟩ λ x ⟨h1,h2,h3,h4⟩=>?_) λ r ⟨m,hr,hm⟩=>?_
 ·rw [h1]
  refine f3u (λ e=>g3b h2.1 (f3l (r8 h.2 (by omega)) λ y _=>g3f (λ _=>g3j (ca1 (by omega) (by omega)) (g3a ⟨rfl,?_,?_,h4.app (Rw.one (w:=wn) (y:=x.2.1) trivial)⟩ ?_)) λ _=>g3a ⟨rfl,?_,?_,h4⟩ ?_)) λ e=>f3p ⟨_,rfl,by omega,h4⟩
  all_goals (simp only; rw [wi1 (by omega)])
  all_goals (try simp only [List.length_append,List.length_cons,List.length_nil])
  all_goals omega
 ·subst hr
  exact g3g (x:=m) rfl (f3v hm)
theorem t90 {p:U9}{n:Nat}(h:Ls n w6 (Md n) p.n)(hn:n≤1099511627776):An (λ β=>F90 β p) (Ls n wn tt):=by
 refine g3e ?_
 unfold F90 P90
 have hl:=h.1
 refine f3l (wh w1l (λ x=>x.2.2=p∧(0≤x.2.1∧x.2.1≤p.n.length)∧x.1.length≤x.2.1∧Rw wn tt x.1) (λ x=>(p.n.length - x.2.1).toNat) (Ex:=λ r=>∃ m,r=(0,eS8 m)∧Ls n wn tt m) ⟨rfl,by simp,by simp,Rw.nil⟩ λ x ⟨h1,h2,h3,h4⟩=>?_) λ r ⟨m,hr,hm⟩=>?_
 ·rw [h1]
  refine f3u (λ e=>g3b h2.1 (f3l (r12 h.2 (by omega)) λ y _=>g3f (λ _=>g3j (ca1 (by omega) (by omega)) (g3a ⟨rfl,?_,?_,h4.app (Rw.one (w:=wn) (y:=x.2.1) trivial)⟩ ?_)) λ _=>g3a ⟨rfl,?_,?_,h4⟩ ?_)) λ e=>f3p ⟨_,rfl,by omega,h4⟩
  all_goals (simp only; rw [wi1 (by omega)])
  all_goals (try simp only [List.length_append,List.length_cons,List.length_nil])
  all_goals omega
 ·subst hr
  exact g3g (x:=m) rfl (f3v hm)
theorem q0_eq {y z:U6}:q0 y z=true↔y=z:=by
 obtain ⟨a,b⟩:=y
 obtain ⟨c,d⟩:=z
 unfold q0
 simp
theorem l1g {y z:U6}(h:w2 y=w2 z):y=z:=by
 obtain ⟨a,b⟩:=y
 obtain ⟨c,d⟩:=z
 simpa [w2] using h
theorem v2g {l:LV}{a:U6}{n:Nat}{P:U6→Prop}(h:Ls n w2 P l)(hn:n≤1099511627776):An (λ β=>v0t β l a) λ b=>b=true↔w2 a∈l:=by
 refine g3e ?_
 unfold v0t f2u
 have hl:=h.1
 refine f3l (wh z2a (λ x=>x.1=l∧x.2.2=a∧(0≤x.2.1∧x.2.1≤l.length)∧w2 a ∉ l.take x.2.1.toNat) (λ x=>(l.length - x.2.1).toNat) (Ex:=λ r=>r=(0,[])∧w2 a ∉ l∨r=(1,s0l true)∧w2 a∈l) ⟨rfl,rfl,by simp,by simp⟩ λ x ⟨h1,h2,h3,h4⟩=>?_) λ r hr=>?_
 ·rw [h1,h2]
  refine f3u (λ e=>g3b h3.1 (f3l (r7 h.2 (by omega)) λ y ⟨_,hg⟩=>g3f (λ e2=>f3p (.inr ⟨rfl,?_⟩)) λ e2=>g3a ⟨rfl,rfl,?_,?_⟩ ?_)) λ e=>f3p (.inl ⟨rfl,by rwa [List.take_of_length_le (by omega)] at h4⟩)
  ·rw [← q0_eq.1 e2]; exact List.mem_of_getElem? hg
  ·simp only; rw [wi1 (by omega)]; omega
  ·simp only
   rw [wit h3.1 (by omega),take1 h3.1 hg,List.mem_append]
   rintro (q | q)
   ·exact h4 q
   ·rw [List.mem_singleton] at q
    rw [← l1g q,q0_eq.2 rfl] at e2
    cases e2
  ·simp only; rw [wi1 (by omega)]; omega
 ·rcases hr with ⟨rfl,hr⟩ | ⟨rfl,hr⟩
  ·exact f3o (f3v (by simp [hr]))
  ·exact f3m (g3g (x:=true) rfl (f3v (by simp [hr])))
abbrev p1w (p:U9)(a:U6):Prop:=∃ m:U15,w6 m∈p.n∧(⟨m.a,m.b⟩:U6)=a
theorem e2a {p:U9}{a:U6}{n:Nat}(h:Ls n w6 (Md n) p.n)(hn:n≤1099511627776):An (λ β=>k0l β p a) λ k=>At w6 (λ m=>(⟨m.a,m.b⟩:U6)=a∧Md n m) p.n k∧(p1w p a→k ≠ -1):=by
 refine g3e ?_
 unfold k0l e2x
 have hl:=h.1
 refine f3l (wh z2b (λ x=>x.2.1=p∧x.2.2=a∧(0≤x.1∧x.1≤p.n.length) ∧ ∀ i:Nat,(i:Int) < x.1 → ∀ m,p.n[i]? = some (w6 m)→(⟨m.a,m.b⟩:U6) ≠ a) (λ x=>(p.n.length - x.1).toNat) (Ex:=λ r=>r=(0,[]) ∧ ¬ p1w p a ∨ ∃ (i:Nat) (y:U15),r=(1,y0s (i:Int))∧p.n[i]? = some (w6 y)∧(⟨y.a,y.b⟩:U6)=a∧Md n y) ⟨rfl,rfl,by simp,λ i h=>by simp at h; omega⟩ λ x ⟨h1,h2,h3,h4⟩=>?_) λ r hr=>?_
 ·rw [h1,h2]
  refine f3u (λ e=>g3b h3.1 (f3l (r12 h.2 (by omega)) λ y ⟨hy,hg⟩=>g3f (λ e2=>f3p (.inr ⟨x.1.toNat,y,by rw [Int.toNat_of_nonneg h3.1],hg,q0_eq.1 e2,hy⟩)) λ e2=>g3a ⟨rfl,rfl,?_,λ i hi m hm=>?_⟩ ?_)) λ e=>f3p (.inl ⟨rfl,?_⟩)
  ·simp only; rw [wi1 (by omega)]; omega
  ·simp only at hi
   rw [wi1 (by omega)] at hi
   by_cases c:(i:Int)=x.1
   ·have:i=x.1.toNat:=by omega
    rw [this,hg] at hm
    simp only [sj_,w6,V.agg.injEq,List.cons.injEq,V.str.injEq] at hm
    rw [← hm.1,← hm.2.1]
    intro q
    rw [q0_eq.2 q] at e2
    cases e2
   ·exact h4 i (by omega) m hm
  ·simp only; rw [wi1 (by omega)]; omega
  ·rintro ⟨m,hm,q⟩
   obtain ⟨i,hi⟩:=List.getElem?_of_mem hm
   have:=(gs_ hi).1
   exact h4 i (by omega) m hi q
 ·rcases hr with ⟨rfl,hr⟩ | ⟨i,y,rfl,hg,hy⟩
  ·exact f3o (f3v ⟨.inl rfl,λ q=>absurd q hr⟩)
  ·exact f3m (g3g (x:=(i:Int)) rfl (f3v ⟨.inr ⟨i,y,rfl,hg,hy⟩,λ _=>by omega⟩))
theorem t79 (a b:Int):An (λ β=>F79 β a b) λ r=>(r=a∨r=b)∧r≤a∧r≤b:=by
 refine g3e ?_
 unfold F79 P79
 exact f3t (λ e=>f3v ⟨.inr rfl,by omega,by omega⟩) λ e=>f3v ⟨.inl rfl,by omega,by omega⟩
theorem v2h {s b:LU}{m n:Nat}(hs:Sl m s)(hb:Sl n b)(hm:m≤n)(hn:n≤1099511627776):An3 (λ β=>w0f β s b) λ l q _=>Ls m w2 (Pr n) l∧Ls 6 w3 Ln q:=by
 refine f3q ?_
 unfold w0f f2v
 refine f3l (wh z2c (λ x=>x.1=b∧x.2.1.length+x.2.2.length≤m∧Rw w2 (Pr n) x.2.1) (λ x=>x.2.2.length) (Ex:=λ r=>(∃ l t,r=(0,q1y (l,t))∧Ls m w2 (Pr n) l∧Sl m t) ∨ ∃ u v,r=(1,t2r ([],[],false,u,v))) ⟨rfl,by simpa using hs,Rw.nil⟩ λ x ⟨h1,h2,h3⟩=>?_) λ r hr=>?_
 ·rw [h1]
  have fin:∃ l t,(((0:Nat),q1y (x.2.1,x.2.2)):Nat × LL)=(0,q1y (l,t))∧Ls m w2 (Pr n) l∧Sl m t:=⟨_,_,rfl,⟨by omega,h3⟩,by omega⟩
  refine g3h (f3t (λ e=>g3k (by omega) (g3f (λ e2=>?_) λ _=>f3p (.inl fin))) λ _=>f3p (.inl fin))
  rw [b0m] at e
  have e2:x.2.2.take 7=[105,109,112,111,114,116,32]:=by simpa using e2
  refine f3l (m2m 59 (by omega)) λ k ⟨hk,hk2⟩=>?_
  have k7:7≤k:=by
   by_cases c:k < 7
   ·obtain ⟨u,hu,hu2⟩:=hk2 (by omega)
    have:u∈x.2.2.take 7:=by
     apply List.mem_of_getElem? (i:=k.toNat)
     rw [List.getElem?_take,if_pos (by omega)]
     exact hu
    rw [e2] at this
    have q:∀ v∈([105,109,112,111,114,116,32]:List UInt8),(59:Int) ≠ (v.toNat:Int):=by decide
    exact absurd hu2 (q u this)
   ·omega
  refine g3k (by rw [b0m]; omega) (f3i (m2s (n:=n) (by simp; omega) hb hn) λ y _ hy=>g3f (λ _=>f3p (.inr ⟨_,_,rfl⟩)) λ _=>g3j (ca1 (by omega) (by omega)) (f3l (t79 _ _) λ mm ⟨hm,hm1,hm2⟩=>?_))
  rw [b0m,wi1 (by omega)] at hm
  rw [b0m] at hm1
  rw [wi1 (by omega)] at hm2
  refine g3k (by rw [b0m]; omega) (g3a ⟨rfl,?_,h3.app (Rw.one hy)⟩ ?_)
  ·simp [b0m]; omega
  ·simp [b0m]; omega
 ·rcases hr with ⟨l,t,rfl,hl,ht⟩ | ⟨u,v,rfl⟩
  ·exact f3o (g3g (x:=(l,t)) rfl (f3i (v2c (by show t.length≤_; omega)) λ q _ hq=>g3f (λ _=>f3k ⟨Ls.nil,Ls.nil⟩) λ _=>f3k ⟨hl,hq⟩))
  ·exact f3m (g3g (x:=([],[],false,u,v)) rfl (f3k ⟨Ls.nil,Ls.nil⟩))
theorem m2i {p:U9}{a:U6}{n:Nat}(h:Ls n w6 (Md n) p.n)(ha:Pr n a)(h0:10000≤n)(hn:n≤1099511627776):An2 (λ β=>o0e β p a) λ l b=>Ls 10000 w2 (Pr n) l∧(l ≠ []∨b=true→p1w p a):=by
 refine f3n ?_
 unfold o0e f2a
 refine f3l (e2a h hn) λ k ⟨hk,_⟩=>g3h (f3t (λ _=>f3j ⟨Ls.nil,by simp⟩) λ e=>?_)
 rcases hk with rfl | ⟨i,m,rfl,hg,hm,hm2⟩
 ·exact absurd (by decide) e
 have hi:=(gs_ hg).1
 have r:An (λ _=>q0a p.n (i:Int).toNat) λ y=>Md n y:=⟨_,hm2,λ β k=>by rw [Int.toNat_natCast]; show q0a p.n i k=k m; unfold q0a; exact g0e (ks:=[.str,.str,.bool,.int .i64,.str]) (e:=(m.a,m.b,m.c,m.d,m.e,())) hg rfl⟩
 exact g3b (by omega) (f3l r λ y _=>g3f (λ _=>f3j ⟨Ls.nil,by simp⟩) λ _=>g3b (by omega) (f3l r λ y _=>g3f (λ _=>f3j ⟨Ls.nil,by simp⟩) λ _=>g3b (by omega) (f3l r λ y hy=>f3h (v2h hy.2.2 ha.1 h0 hn) λ l q b hl=>f3j ⟨hl.1,λ _=>⟨m,List.mem_of_getElem? hg,hm⟩⟩)))
noncomputable abbrev mu (p:U9)(seen:LV):Nat:=muL p.n seen
theorem a2b {p:U9}{s s':LV}(h:∀ r∈s,r∈s'):mu p s' ≤ mu p s:=r1g h
theorem a2c {p:U9}{s s':LV}{a:U6}(h:∀ r∈s,r∈s')(ha:p1w p a)(h1:w2 a ∉ s)(h2:w2 a∈s'):mu p s' + 1≤mu p s:=by
 obtain ⟨m,hm,rfl⟩:=ha
 have key:∀ l:LV,w6 m∈l→muL l s' + 1≤muL l s:=by
  intro l
  induction l with
  | nil=>intro q; cases q
  | cons x l ih=>
   intro hm
   have ge:=r1g (l:=l) h
   unfold muL at ih ge ⊢
   simp only [List.filter_cons]
   rcases List.mem_cons.1 hm with rfl | hm
   ·rw [if_pos (r0c ⟨m,rfl,h1⟩),if_neg]
    ·simp; exact ge
    ·rw [y0n]
     ·simp
     ·rintro ⟨m',e,q⟩
      have:(⟨m'.a,m'.b⟩:U6)=⟨m.a,m.b⟩:=by
       simp only [w6,V.agg.injEq,List.cons.injEq,V.str.injEq] at e
       rw [e.1,e.2.1]
      rw [this] at q
      exact q h2
   ·have:=ih hm
    by_cases c:Uns s' x
    ·have c2:Uns s x:=by
      obtain ⟨m,h1,h2⟩:=c
      exact ⟨m,h1,λ q=>h2 (h _ q)⟩
     rw [if_pos (r0c c),if_pos (r0c c2)]
     simp; omega
    ·rw [if_neg (by rw [y0n c]; simp)]
     split
     ·simp; omega
     ·exact this
 exact key _ hm
theorem a4 {P:U6→Prop}{l:LV}(h:Rw w2 P l){i:Nat}(hi:i < l.length):An (λ _=>ia4 l i 0) (λ y=>P y∧l[i]? = some (w2 y)):=h.ix (f:=λ l i=>ia4 l i 0) (λ _ l i y k h=>by show ia4 l i 0 k=_; unfold ia4; exact i0z (ks:=[.str,.str]) (e:=(y.a,y.b,())) h rfl) hi
theorem e3w {p:U9}{n:Nat}(h:Ls n w6 (Md n) p.n)(h0:10000≤n)(hn:n≤10000000):∀ (k:Nat) (a:U6) (seen order:LV),Pr n a→Rw w2 (Pr n) seen→Rw w2 (Pr n) order→mu p seen < k→seen.length+mu p seen * 10001+1≤1099511627776→order.length+mu p seen * 10001+1≤1099511627776 →
  An2 (λ β=>p0a k β p a seen order) λ s o=>Rw w2 (Pr n) s∧Rw w2 (Pr n) o∧(∀ r∈seen,r∈s)∧s.length+mu p s * 10001≤seen.length+mu p seen * 10001+1∧o.length+seen.length=order.length+s.length:=by
 intro k
 induction k with
 | zero=>intro a seen order _ _ _ hk; omega
 | succ k ih=>
  intro a seen order ha hs ho hk hb1 hb2
  refine f3n ?_
  rw [show p0a (k+1)=b1m v0t o0e (p0a k) from rfl]
  unfold b1m
  refine f3l (v2g (n:=1099511627776) (P:=Pr n) ⟨by omega,hs⟩ (by omega)) λ b hb=>g3f (λ e=>f3j ⟨hs,ho,λ _ q=>q,by simp only; omega,by simp only <;> omega⟩) λ e=>?_
  have ea:w2 a ∉ seen:=λ q=>by rw [hb.2 q] at e; cases e
  have hs':Rw w2 (Pr n) (([]:LV)++seen++[w2 a]):=(Rw.nil.app hs).app (Rw.one ha)
  have sub:∀ r∈seen,r∈(([]:LV)++seen++[w2 a]):=λ r hr=>List.mem_append_left _ (List.mem_append_right _ hr)
  have hin:w2 a∈(([]:LV)++seen++[w2 a]):=List.mem_append_right _ (List.mem_singleton.2 rfl)
  have hm:=a2b (p:=p) sub
  refine g3j (cab (n:=0) (by omega) (by omega)) (g3j (ca1 (by simp; omega) (by omega)) (f3i (m2i h ha h0 (by omega)) λ l b3 ⟨hl,hl2⟩=>?_))
  have hl1:=hl.1
  -- what the rounds have left
  have hm2:l ≠ []→mu p (([]:LV)++seen++[w2 a])+1≤mu p seen:=λ q=>a2c sub (hl2 (.inl q)) ea hin
  refine f3l (wh z2d (λ x=>x.2.2.1=l∧x.2.2.2.2.1=p∧x.2.2.2.2.2=a∧(0≤x.2.2.2.1∧x.2.2.2.1≤l.length)∧Rw w2 (Pr n) x.1∧Rw w2 (Pr n) x.2.1∧(∀ r∈(([]:LV)++seen++[w2 a]),r∈x.1)∧x.1.length+mu p x.1 * 10001≤(seen.length+1)+mu p (([]:LV)++seen++[w2 a]) * 10001+x.2.2.2.1.toNat∧x.2.1.length+(seen.length+1)=order.length+x.1.length) (λ x=>(l.length - x.2.2.2.1).toNat) (Ex:=λ r=>∃ s o,r=(0,t2s (s,o,a))∧Rw w2 (Pr n) s∧Rw w2 (Pr n) o∧(∀ r∈(([]:LV)++seen++[w2 a]),r∈s)∧s.length+mu p s * 10001≤(seen.length+1)+mu p (([]:LV)++seen++[w2 a]) * 10001+l.length∧o.length+(seen.length+1)=order.length+s.length) ⟨rfl,rfl,rfl,by simp,hs',ho,λ _ q=>q,by simp,by simp <;> omega⟩ λ x ⟨g1,g2,g3,g4,g5,g6,g7,g8,g9⟩=>?_) λ r ⟨s,o,hr,k1,k2,k3,k4,k5⟩=>?_
  ·rw [g1,g2,g3]
   refine f3u (λ e=>?_) λ e=>f3p ⟨_,_,rfl,g5,g6,g7,by omega,g9⟩
   have ne:l ≠ []:=by intro q; rw [q] at e; simp at e; omega
   have hm3:=hm2 ne
   have hm4:=a2b (p:=p) g7
   refine f3x (by omega) (f3l (a4 hl.2 (by omega)) λ y ⟨hy,_⟩=>f3i (ih y x.1 x.2.1 hy g5 g6 (by omega) (by omega) (by omega)) λ s o ⟨k1,k2,k3,k4,k5⟩=>g3a ⟨rfl,rfl,rfl,?_,k1,k2,λ r hr=>k3 r (g7 r hr),?_,?_⟩ ?_)
   all_goals (simp only)
   ·rw [wi1 (by omega)]; omega
   ·rw [wi1 (by omega)]; omega
   ·omega
   ·rw [wi1 (by omega)]; omega
  ·subst hr
   have hfin:s.length+mu p s * 10001≤seen.length+mu p seen * 10001+1:=by
    by_cases q:l=[]
    ·rw [q] at k4; simp only [List.length_nil] at k4; omega
    ·have:=hm2 q; omega
   refine g3g (x:=(s,o,a)) rfl (g3j (cab (n:=0) (by simp only; omega) (by omega)) (g3j (ca1 (by simp only [List.nil_append]; omega) (by omega)) (f3j ⟨k1,(Rw.nil.app k2).app (Rw.one ha),λ r hr=>k3 r (sub r hr),hfin,?_⟩)))
   simp; omega
theorem m2n {p:U9}{a:U6}{n:Nat}(h:Ls n w6 (Md n) p.n)(ha:Pr n a)(h0:10000≤n)(hn:n≤10000000):An (λ β=>n0h β p a) λ l=>Rw w2 (Pr n) l∧l.length≤1099511627776:=by
 refine g3e ?_
 unfold n0h f2r g0o
 have hmu:mu p []≤n:=Nat.le_trans (List.length_filter_le _ _) h.1
 refine f3i (e3w h h0 hn 1099511627776 a [] [] ha Rw.nil Rw.nil (by omega) (by simp; omega) (by simp; omega)) λ s o ⟨_,h2,_,h4,h5⟩=>f3v ⟨h2,?_⟩
 simp at h4 h5
 omega
end Go.Am
end
section
set_option linter.unusedVariables false
set_option maxRecDepth 10000
namespace Go.Am
open Go
theorem d3r {p:U9}{n:Nat}{i:Nat}{m:U15}(hg:p.n[i]? = some (w6 m)):An (λ _=>q0a p.n (i:Int).toNat) λ y=>y=m:=⟨_,rfl,λ β k=>by rw [Int.toNat_natCast]; show q0a p.n i k=k m; unfold q0a; exact g0e (ks:=[.str,.str,.bool,.int .i64,.str]) (e:=(m.a,m.b,m.c,m.d,m.e,())) hg rfl⟩
theorem d3y {p:U9}{a:U6}{n:Nat}(h:Ls n w6 (Md n) p.n)(ha:Pr n a)(h0:10000≤n)(hn:n≤10000000):An (λ β=>l1o β p a) tt:=by
 refine g3e ?_
 unfold l1o e2u
 refine f3l (m2n h ha h0 hn) λ l ⟨hl,hl1⟩=>f3l (wh w1l (λ x=>x.1=l∧x.2.2=p∧0≤x.2.1∧x.2.1≤l.length) (λ x=>(l.length - x.2.1).toNat) (Ex:=λ r=>r=(0,[])∨r=(1,s0l false)) ⟨rfl,rfl,by simp,by simp⟩ λ x ⟨h1,h2,h3,h4⟩=>?_) λ r hr=>?_
 ·rw [h1,h2]
  refine f3u (λ e=>f3x (by omega) (f3l (a4 hl (by omega)) λ y _=>f3l (e2a h (by omega)) λ k ⟨hk,_⟩=>f3t (λ _=>f3p (.inr rfl)) λ e2=>?_)) λ e=>f3p (.inl rfl)
  rcases hk with rfl | ⟨i,m,rfl,hg,_⟩
  ·exact absurd (by decide) e2
  refine g3b (by omega) (f3l (d3r (n:=0) hg) λ y _=>g3f (λ _=>f3p (.inr rfl)) λ _=>g3a ⟨rfl,rfl,?_,?_⟩ ?_) <;> simp only <;> rw [wi1 (by omega)] <;> omega
 ·rcases hr with rfl | rfl
  ·exact f3o (f3v trivial)
  ·exact f3m (g3g (x:=false) rfl (f3v trivial))
theorem e3j {p:U9}{a:U6}{n:Nat}(h:Ls n w6 (Md n) p.n)(ha:Pr n a)(h0:10000≤n)(hn:n≤10000000):An (λ β=>l1v β p a) λ b=>b=false → ∀ l,(∀ β k,n0h β p a k=k l) → ∀ y,w2 y∈l→p1w p y:=by
 refine g3e ?_
 unfold l1v f2s
 obtain ⟨l,⟨hl,hl1⟩,e⟩:=m2n h ha h0 hn
 have un:∀ l',(∀ β k,n0h β p a k=k l')→l' = l:=λ l' h'=>by
  have:=(h' LV some).symm.trans (e LV some)
  injection this
 refine f3l (Q1:=λ l'=>l' = l) ⟨l,rfl,e⟩ λ l' e'=>?_
 subst e'
 refine f3l (wh w1l (λ x=>x.1=l' ∧ x.2.2=p∧(0≤x.2.1∧x.2.1≤l'.length) ∧ ∀ i:Nat,(i:Int) < x.2.1 → ∀ y,l'[i]? = some (w2 y)→p1w p y) (λ x=>(l'.length - x.2.1).toNat) (Ex:=λ r=>r=(0,[])∧(∀ y,w2 y∈l' → p1w p y)∨r=(1,s0l true)) ⟨rfl,rfl,by simp,λ i h=>by simp at h; omega⟩ λ x ⟨h1,h2,h3,h4⟩=>?_) λ r hr=>?_
 ·rw [h1,h2]
  refine f3u (λ e=>f3x (by omega) (f3l (a4 hl (by omega)) λ y ⟨hy,hg⟩=>f3i (m2i h hy h0 (by omega)) λ l4 b5 ⟨_,hb5⟩=>g3f (λ _=>f3p (.inr rfl)) λ e5=>g3a ⟨rfl,rfl,?_,λ i hi z hz=>?_⟩ ?_)) λ e=>f3p (.inl ⟨rfl,λ y hy=>?_⟩)
  ·simp only; rw [wi1 (by omega)]; omega
  ·simp only at hi
   rw [wi1 (by omega)] at hi
   by_cases c:(i:Int)=x.2.1
   ·have:i=x.2.1.toNat:=by omega
    rw [this,hg] at hz
    injection hz with hz
    rw [← l1g hz]
    exact hb5 (.inr (by simpa using e5))
   ·exact h4 i (by omega) z hz
  ·simp only; rw [wi1 (by omega)]; omega
  ·obtain ⟨i,hi⟩:=List.getElem?_of_mem hy
   have:=(gs_ hi).1
   exact h4 i (by omega) y hi
 ·rcases hr with ⟨rfl,hr⟩ | rfl
  ·exact f3o (f3v λ _ l'' h''=>by rw [un l'' h'']; exact hr)
  ·exact f3m (g3g (x:=true) rfl (f3v (by simp)))
theorem e3k {a:U6}{n:Nat}(h:Pr n a)(hn:n≤1099511627776):An (λ β=>l1w β a) (Sl 17):=by
 refine g3e ?_
 unfold l1w f2t
 have h1:=h.1
 have h2:=h.2
 refine f3l (e2b ⟨by omega,by omega⟩) λ _ h3=>g3f (λ _=>f3v (by simp)) λ e=>?_
 have h4:=h3 (by simpa using e)
 have h5:=h4.1
 have h6:=h4.2
 exact g3d (by simp <;> omega) (g3d (by simp <;> omega) (f3v (by simp <;> omega)))
theorem m2g {p:U9}{s:LU}{n m:Nat}(h:Pg n p)(hs:Sl m s)(h0:1000≤n)(hm:n≤m)(hn:n≤1000000000):An (λ β=>e0k β p s) λ q=>Pg m q∧q.n=p.n∧q.t=p.t:=by
 refine g3e ?_
 unfold e0k g1h
 have hu:=h.lo.1
 refine f3t (λ e=>g3j (ca1 (by omega) (by omega)) (f3v ⟨h.lo' hm ⟨?_,(h.lo.2.mono λ _ q=>Nat.le_trans q hm).app (Rw.one (w:=V.str) hs)⟩,rfl,rfl⟩)) λ _=>f3v ⟨Pg.up hm h,rfl,rfl⟩
 rw [a0t] at e
 simp only [List.length_append,List.length_cons,List.length_nil]; omega
theorem a04 {P:U15→Prop}{l:LV}{i:Nat}{m:U15}(hg:l[i]? = some (w6 m)):An (λ _=>ia0 l (i:Int).toNat 4) λ s=>s=m.e:=⟨_,rfl,λ β k=>by rw [Int.toNat_natCast]; show ia0 l i 4 k=_; unfold ia0; exact i0z (ks:=[.str]) (e:=(m.e,())) hg rfl⟩
theorem a0w {P:U6→Prop}{l:LV}(h:Rw w2 P l){i:Nat}(hi:i < l.length):An (λ _=>ia0 l i 0) (λ s=>∃ y,P y∧s=y.a):=by
 obtain ⟨y,h1,h2⟩:=h.get hi
 exact ⟨y.a,⟨y,h1,rfl⟩,λ β k=>by show ia0 l i 0 k=_; unfold ia0; exact i0z (ks:=[.str]) (e:=(y.a,())) h2 rfl⟩
theorem d3z {p:U9}{a:U6}{n:Nat}(h:Pg n p)(ha:Pr n a)(h0:10000≤n)(hn:n≤10000000):An (λ β=>l1p β p a) (Pg n):=by
 refine g3e ?_
 unfold l1p e2v
 refine f3l (t45 h (by omega)) λ y hy=>?_
 subst hy
 refine f3l (e3j h.mo ha h0 hn) λ b hb=>g3f (λ _=>f3l (e3k ha (by omega)) λ s hs=>g3d (by simp <;> omega) (f3l (m2g h (m:=n) (by simp <;> omega) (by omega) (by omega) (by omega)) λ q hq=>f3v hq.1)) λ e=>?_
 obtain ⟨l,⟨hl,hl1⟩,el⟩:=m2n h.mo ha h0 hn
 have hhas:=hb e l el
 refine f3l (Q1:=λ l'=>l' = l) ⟨l,rfl,el⟩ λ l' e'=>?_
 subst e'
 refine f3l (wh t2f (λ x=>x.1=l' ∧ (0≤x.2.1∧x.2.1≤l'.length)∧Pg n x.2.2.2.2.2.2.2.2.2.2.2.2.2∧x.2.2.2.2.2.2.2.2.2.2.2.2.2.n=y.n) (λ x=>(l'.length - x.2.1).toNat) (Ex:=λ r=>∃ z:w1v,r=(0,q1z z)∧Pg n z.2.2.2.2.2.2.2.2.2.2.2) ⟨rfl,by simp,h,rfl⟩ λ x ⟨h1,h2,h3,h4⟩=>?_) λ r ⟨z,hr,hz⟩=>?_
 ·rw [h1]
  refine f3u (λ e=>f3x (by omega) (f3l (a4 hl (by omega)) λ y7 ⟨hy7,g7⟩=>f3l (v2g (n:=n) (P:=Pr n) ⟨by have:=h3.ra.1; omega,h3.ra.2⟩ (by omega)) λ b8 hb8=>g3f (λ _=>g3a ⟨rfl,?_,h3,h4⟩ ?_) λ e8=>?_)) λ e=>f3p ⟨_,rfl,h3⟩
  ·simp only; rw [wi1 (by omega)]; omega
  ·simp only; rw [wi1 (by omega)]; omega
  -- one more module is run
  have nin:w2 y7 ∉ x.2.2.2.2.2.2.2.2.2.2.2.2.2.t:=λ q=>by rw [hb8.2 q] at e8; cases e8
  have hm7:=hhas y7 (List.mem_of_getElem? g7)
  have hm7':p1w x.2.2.2.2.2.2.2.2.2.2.2.2.2 y7:=by
   obtain ⟨m,q1,q2⟩:=hm7
   exact ⟨m,by rw [h4]; exact q1,q2⟩
  have hlt:=a2c (p:=x.2.2.2.2.2.2.2.2.2.2.2.2.2) (s:=x.2.2.2.2.2.2.2.2.2.2.2.2.2.t) (s':=x.2.2.2.2.2.2.2.2.2.2.2.2.2.t++[w2 y7]) (λ r hr=>List.mem_append_left _ hr) hm7' nin (List.mem_append_right _ (List.mem_singleton.2 rfl))
  have hra:=h3.ra.1
  generalize hQ:x.2.2.2.2.2.2.2.2.2.2.2.2.2=Q at *
  change muL Q.n (Q.t++[w2 y7])+1≤muL Q.n Q.t at hlt
  have hq:Pg n {Q with t:=Q.t++[w2 y7]}:=h3.ra' (Nat.le_refl _) ⟨by simp only [List.length_append,List.length_cons,List.length_nil]; omega,h3.ra.2.app (Rw.one hy7)⟩
  have same:∀ {y9:U6},l'[x.2.1.toNat]? = some (w2 y9)→y9=y7:=λ g=>by rw [g7] at g; injection g with g; exact (l1g g).symm
  refine f3x (by omega) (f3l (a4 hl (by omega)) λ y9 ⟨_,g9⟩=>?_)
  rw [same g9]
  refine g3j (ca1 (by omega) (by omega)) (f3x (by omega) (f3l (a4 hl (by omega)) λ y10 ⟨_,g10⟩=>?_))
  rw [same g10]
  refine f3l (e2a (p:={Q with t:=Q.t++[w2 y7]}) hq.mo (by omega)) λ k ⟨hk,hk2⟩=>?_
  obtain ⟨i,m,rfl,hg,hm,hm2⟩:∃ (i:Nat) (m:U15),k=(i:Int)∧Q.n[i]? = some (w6 m)∧(⟨m.a,m.b⟩:U6)=y7∧Md n m:=by
   rcases hk with rfl | hk
   ·exact absurd rfl (hk2 hm7')
   ·exact hk
  have hi:=(gs_ hg).1
  refine f3x (by simpa using hi) (f3l (a04 (P:=tt) hg) λ t12 e12=>f3x (by omega) (f3l (a0w hl (by omega)) λ t13 ⟨y13,hy13,e13⟩=>f3h (v2h (m:=10000) (n:=n) (by rw [e12]; exact hm2.2.2) (by rw [e13]; exact hy13.1) h0 (by omega)) λ l14 l15 b16 ⟨_,h15⟩=>f3l (v2e (p:={Q with t:=Q.t++[w2 y7]}) hq.sl (by omega)) λ l17 h17=>f3h (v2d (b:=⟨Q.k,Q.l⟩) hq.bu h17 h15 (by omega) (by omega) (by omega)) λ b18 t19 l20 ⟨h18,_,h20⟩=>?_))
  have h20':=h20.1
  refine f3l (wh z2e (λ z=>z.1=l' ∧ z.2.1=x.2.1∧z.2.2.1=l20∧(0≤z.2.2.2.1∧z.2.2.2.1≤l20.length)∧Pg n z.2.2.2.2.2.2.2.2.2.2.2.2.2.2.2∧z.2.2.2.2.2.2.2.2.2.2.2.2.2.2.2.n=y.n) (λ z=>(l20.length - z.2.2.2.1).toNat) (Ex:=λ r=>∃ z:e2e,r=(0,r1a z)∧z.1=l' ∧ z.2.1=x.2.1∧Pg n z.2.2.2.2.2.2.2.2.2.2.2.2.2∧z.2.2.2.2.2.2.2.2.2.2.2.2.2.n=y.n) ⟨rfl,rfl,rfl,by simp,hq.bu' h18,h4⟩ λ z ⟨k1,k2,k3,k4,k5,k6⟩=>?_) λ r ⟨z,hr,k1,k2,k3,k4⟩=>?_
  ·rw [k1,k2,k3]
   refine f3u (λ e=>f3x (by omega) (f3l (a0 h20.2 (by omega)) λ t22 ⟨h22,_⟩=>f3l (m2g k5 (m:=n) (Nat.le_trans h22 (by omega)) (by omega) (Nat.le_refl _) (by omega)) λ q ⟨q1,q2,_⟩=>g3a ⟨rfl,rfl,rfl,?_,q1,q2.trans k6⟩ ?_)) λ e=>f3p ⟨_,rfl,rfl,rfl,k5,k6⟩ <;> simp only <;> rw [wi1 (by omega)] <;> omega
  ·subst hr
   refine g3g (x:=z) rfl ?_
   rw [k1,k2]
   refine g3a ⟨rfl,?_,k3,k4⟩ ?_ <;> simp only <;> rw [wi1 (by omega)] <;> omega
 ·subst hr
  exact g3g (x:=z) rfl (f3v hz)
theorem t87 {p:U9}{n:Nat}(h:Pg n p)(h0:10000≤n)(hn:n≤10000000):An2 (λ β=>F87 β p) λ q _=>Pg (n+400) q:=by
 refine f3n ?_
 unfold F87 P87
 refine f3l (t45 h (by omega)) λ y hy=>?_
 subst hy
 have e:=Pg.up (m:=n+400) (by omega) h
 have go:∀ {l4:LV},Ls n wn (Ix y.m.length) l4→y.r < l4.length→0≤y.r→Tg (C:=Σ β:Type,U9→Bool→Option β) (T:=λ c=>c.1) (λ c=>ci y.r l4 (ia2 l4 y.r.toNat 0 λ n5=>jt0 (c0 n5 (ix8 y.m n5.toNat λ y9=>br (y9.g == 1) (c0 n5 (ix8 y.m n5.toNat λ y10=>t0x _ y y10.h false λ y11=>c.2 {y11 with r:=wi (y.r+1)} true)) (c.2 {y with r:=wi (y.r+1)} true))) λ j12=>c0 n5 (ix8 y.m n5.toNat λ y6=>br (!y6.f) (c.2 y false) (r0x _ y λ b7=>br (!b7) (c.2 y false) j12)))) (λ c (r:U9 × Bool)=>c.2 r.1 r.2) (λ r=>Pg (n+400) r.1):=λ {l4} hl e1 e2=>by
  refine f3x (by omega) (f3l (a2 hl.2 (by omega)) λ n5 ⟨h5,_⟩=>g3c (g3b h5.1 (f3l (r8 h.sl.2 (by omega)) λ y9 _=>g3f (λ _=>g3b h5.1 (f3l (r8 h.sl.2 (by omega)) λ y10 ⟨h10,_⟩=>f3l (m2f h (Sl.up (by omega) h10.2.2.2) (by omega) (by omega)) λ q hq=>f3j (hq.nu _ _ _ _ _))) λ _=>f3j (e.nu _ _ _ _ _))) λ j hj=>g3b h5.1 (f3l (r8 h.sl.2 (by omega)) λ y6 _=>g3f (λ _=>f3j e) λ _=>f3l (d2z h.sl (by omega)) λ _ _=>g3f (λ _=>f3j e) λ _=>hj))
 refine g3h (f3l (d3w y) λ _ _=>g3f (λ _=>f3j e) λ _=>g3f (λ _=>f3j e) λ _=>f3t (λ _=>f3j e) λ c1=>f3t (λ _=>f3j e) λ c2=>f3l (d3x h.sl (by omega)) λ l4 h4=>f3u (λ c3=>go h4 c3 (by omega)) λ _=>f3u (λ c3=>g3b (by omega) (f3l (r7 h.en.2 (by omega)) λ y13 ⟨h13,_⟩=>f3l (d3y h.mo h13 h0 hn) λ _ _=>g3f (λ _=>f3j e) λ _=>f3l (d2z h.sl (by omega)) λ _ _=>g3f (λ _=>f3j e) λ _=>f3l (d3z h h13 h0 hn) λ q hq=>f3j (Pg.up (by omega) (hq.nu _ _ _ _ _)))) λ _=>g3c (f3l (m2g h (m:=n) (by simp <;> omega) (by omega) (Nat.le_refl _) (by omega)) λ q hq=>f3j (Pg.up (by omega) (hq.1.nu _ _ _ _ _))) λ j hj=>f3l (t88 h.sl (by omega)) λ _ _=>f3t (λ _=>f3j e) λ _=>f3l (t90 h.mo (by omega)) λ _ _=>f3t (λ _=>f3j e) λ _=>hj)
theorem t73 {p:U9}{n:Nat}(h:Pg n p)(h0:10000≤n)(hn:n≤8000000):An (λ β=>F73 β p) (Pg (n+800400)):=by
 refine g3e ?_
 unfold F73 P73
 refine f3l (t45 h (by omega)) λ y hy=>?_
 subst hy
 refine f3l (wh z2f (λ x=>(0≤x.1∧x.1≤2000)∧Pg (n+400 * x.1.toNat) x.2.2.2.2.2.2.2.2.2.2.2.2) (λ x=>(2000 - x.1).toNat) (Ex:=λ r=>(∃ z:w1v,r=(0,q1z z)∧Pg (n+800400) z.2.2.2.2.2.2.2.2.2.2.2) ∨ ∃ u v,r=(1,i2y (u,v))∧Pg (n+800400) u) ⟨by simp,?_⟩ λ x ⟨h1,h2⟩=>?_) λ r hr=>?_
 ·exact Pg.up (by simp) h
 ·have fin:=Pg.up (m:=n+800400) (by omega) h2
  refine f3t (λ e=>f3i (t86 h2 (by omega) (by omega)) λ q b hq=>g3f (λ _=>f3i (t87 h2 (by omega) (by omega)) λ q2 b2 hq2=>g3f (λ _=>f3p (.inr ⟨_,_,rfl,fin⟩)) λ _=>g3a ⟨?_,?_⟩ ?_) λ _=>g3f (λ _=>f3p (.inr ⟨_,_,rfl,fin⟩)) λ _=>g3a ⟨?_,?_⟩ ?_) λ _=>f3p (.inl ⟨_,rfl,fin⟩)
  ·simp only; rw [wi1 (by omega)]; omega
  ·refine Pg.up ?_ hq2; simp only; rw [wi1 (by omega)]; omega
  ·simp only; rw [wi1 (by omega)]; omega
  ·simp only; rw [wi1 (by omega)]; omega
  ·refine Pg.up ?_ hq; simp only; rw [wi1 (by omega)]; omega
  ·simp only; rw [wi1 (by omega)]; omega
 ·rcases hr with ⟨z,rfl,hz⟩ | ⟨u,v,rfl,hu⟩
  ·exact f3o (g3g (x:=z) rfl (f3v hz))
  ·exact f3m (g3g (x:=(u,v)) rfl (f3v hu))
end Go.Am
end
section
set_option linter.unusedVariables false
set_option maxRecDepth 10000
namespace Go.Am
open Go
theorem t91 {p:U9}{k:Int}{n:Nat}(h:Ls n w6 (Md n) p.n)(ha:Sl n p.a)(hn:n≤1099511627776):An (λ β=>F91 β p k) (Rq n):=by
 refine g3e ?_
 unfold F91 P91
 have hl:=h.1
 refine f3l (t25 _ _ _) λ b hb=>g3f (λ _=>f3v ⟨by simp,by simp,by simp,by simp⟩) λ e=>?_
 have:=i1r hb (by simpa using e) (by omega)
 exact g3b this.1 (f3l (r12 h.2 this.2) λ y ⟨hy,_⟩=>f3v ⟨hy.1,hy.2.1,ha,by simp⟩)
theorem t74 {p:U9}{n:Nat}(h:Pg n p)(hn:n≤1000000000):An (λ β=>F74 β p) (Ls (2 * n) w7 (Rq n)):=by
 refine g3e ?_
 unfold F74 P74
 refine f3l (t88 h.sl (by omega)) λ l1 hl1=>f3l (wh t2g (λ x=>x.2.1=l1∧(0≤x.2.2.1∧x.2.2.1≤l1.length)∧x.2.2.2=p∧x.1.length≤x.2.2.1∧Rw w7 (Rq n) x.1) (λ x=>(l1.length - x.2.2.1).toNat) (Ex:=λ r=>∃ l,r=(0,t2t (l,p))∧Ls n w7 (Rq n) l) ⟨rfl,by simp,rfl,by simp,Rw.nil⟩ λ x ⟨h1,h2,h3,h4,h5⟩=>?_) λ r ⟨l,hr,hl⟩=>?_
 ·rw [h1,h3]
  have hl2:=hl1.1
  refine f3u (λ e=>f3x (by omega) (f3l (a2 hl1.2 (by omega)) λ k _=>f3l (t89 h.sl h.ad.1 (by omega)) λ y hy=>g3j (ca1 (by omega) (by omega)) (g3a ⟨rfl,?_,rfl,?_,h5.app (Rw.one hy)⟩ ?_))) λ e=>f3p ⟨_,rfl,by omega,h5⟩
  all_goals (simp only; rw [wi1 (by omega)])
  all_goals (try simp only [List.length_append,List.length_cons,List.length_nil])
  all_goals omega
 ·subst hr
  refine g3g (x:=(l,p)) rfl (f3l (t90 h.mo (by omega)) λ l7 hl7=>f3l (wh t2g (λ x=>x.2.1=l7∧(0≤x.2.2.1∧x.2.2.1≤l7.length)∧x.2.2.2=p∧x.1.length≤n+x.2.2.1∧Rw w7 (Rq n) x.1) (λ x=>(l7.length - x.2.2.1).toNat) (Ex:=λ r=>∃ l,r=(0,eS8 l)∧Ls (2 * n) w7 (Rq n) l) ⟨rfl,by simp,rfl,?_,hl.2⟩ λ x ⟨h1,h2,h3,h4,h5⟩=>?_) λ r ⟨l,hr,hl⟩=>?_)
  ·have:=hl.1; simp; omega
  ·rw [h1,h3]
   have hl2:=hl7.1
   refine f3u (λ e=>f3x (by omega) (f3l (a2 hl7.2 (by omega)) λ k _=>f3l (t91 h.mo h.ad.1 (by omega)) λ y hy=>g3j (ca1 (by omega) (by omega)) (g3a ⟨rfl,?_,rfl,?_,h5.app (Rw.one hy)⟩ ?_))) λ e=>f3p ⟨_,rfl,by omega,h5⟩
   all_goals (simp only; rw [wi1 (by omega)])
   all_goals (try simp only [List.length_append,List.length_cons,List.length_nil])
   all_goals omega
  ·subst hr
   exact g3g (x:=l) rfl (f3v hl)
theorem t76 {l:LV}{a:U6}(h:Svs (λ _ _=>True) 20 21000 l):An (λ β=>F76 β l a) (Re 21000):=by
 refine g3e ?_
 unfold F76 P76 F95 P95
 have nf:Re 21000 ⟨404,1,[],0,false,[]⟩:=⟨by simp,by simp⟩
 refine f3l (t94 h (by omega)) λ k hk=>f3t (λ _=>f3v nf) λ e=>?_
 rcases hk with rfl | ⟨i,y,rfl,hg,_⟩
 ·exact absurd (by decide) e
 have hi:=(gs_ hg).1
 refine g3b (by omega) (f3l (r3 h.2 (by simpa using hi)) λ y3 ⟨h3,g3⟩=>f3l (t96 h3 (by omega)) λ k4 hk4=>f3t (λ _=>f3v nf) λ e4=>g3b (by omega) (f3l (r3 h.2 (by simpa using hi)) λ y6 ⟨h6,g6⟩=>?_))
 have e36:y6=y3:=by
  rw [g3] at g6
  simp only [sj_,wsv,V.agg.injEq,List.cons.injEq,V.str.injEq,V.sl.injEq] at g6
  obtain ⟨c,d⟩:=y3
  obtain ⟨c',d'⟩:=y6
  simp at g6
  simp [g6]
 rw [e36]
 rcases hk4 with rfl | ⟨j,z,rfl,hz,_⟩
 ·exact absurd (by decide) e4
 have hj:=(gs_ hz).1
 exact g3b (by omega) (f3l (r4 h3.2.2 (by simpa using hj)) λ y7 ⟨h7,_⟩=>f3v ⟨h7.1.2.1,h7.1.2.2⟩)
theorem e3l (x:U3)(k:Int):An (λ β=>l1x β x k) tt:=by
 refine g3e ?_
 unfold l1x f2x
 exact g3f (λ _=>f3v trivial) λ _=>g3f (λ _=>f3v trivial) λ _=>f3v trivial
theorem f3f {l:LV}{n:Nat}(h:Ls n wb tt l)(hn:n≤1099511627000):An (λ β=>m1o β l) (Ls (n+1) wn tt):=by
 refine g3e ?_
 unfold m1o g2w
 have hl:=h.1
 refine f3l (wh i2f (λ x=>x.1=l∧(0≤x.2.2∧x.2.2≤l.length)∧x.2.1.length≤x.2.2+1∧Rw wn tt x.2.1) (λ x=>(l.length - x.2.2).toNat) (Ex:=λ r=>∃ m,r=(0,eS8 m)∧Ls (n+1) wn tt m) ⟨rfl,by simp,by simp,Rw.one (w:=wn) trivial⟩ λ x ⟨h1,h2,h3,h4⟩=>?_) λ r ⟨m,hr,hm⟩=>?_
 ·rw [h1]
  refine f3u (λ e=>g3b h2.1 (f3l (r0 h.2 (by omega)) λ b _=>g3j (ca1 (by omega) (by omega)) (g3a ⟨rfl,?_,?_,h4.app (Rw.one (w:=wn) trivial)⟩ ?_))) λ e=>f3p ⟨_,rfl,by omega,h4⟩
  all_goals (simp only; rw [wi1 (by omega)])
  all_goals (try simp only [List.length_append,List.length_cons,List.length_nil])
  all_goals omega
 ·subst hr
  exact g3g (x:=m) rfl (f3v hm)
theorem f3g (n m:Int):An (λ β=>m1p β n m) tt:=by
 refine g3e ?_
 unfold m1p g2x
 refine f3l (t25 _ _ _) λ b hb=>g3f (λ _=>f3v trivial) λ e=>?_
 have:m ≠ 0:=by rw [hb] at e; simp at e; omega
 exact f3s this (f3s this (f3v trivial))
theorem tmI (a:Int):I64 (Int.tmod a 2147483647):=by
 have h1:(Int.tmod a 2147483647).natAbs=a.natAbs % 2147483647:=by rw [Int.natAbs_tmod]; rfl
 have h2:=Nat.mod_lt a.natAbs (show 2147483647 > 0 by omega)
 exact ⟨by omega,by omega⟩
theorem f3e {l:LV}{n:Nat}(h:Ls n wn tt l)(hn:n≤1099511627776):An (λ β=>m1n β l) I64:=by
 refine g3e ?_
 unfold m1n g2v
 have hl:=h.1
 refine f3l (wh de1 (λ x=>x.1=l∧(0≤x.2.2∧x.2.2≤l.length)∧I64 x.2.1) (λ x=>(l.length - x.2.2).toNat) (Ex:=λ r=>∃ m,r=(0,y0s m)∧I64 m) ⟨rfl,by simp,⟨by simp,by simp⟩⟩ λ x ⟨h1,h2,h3⟩=>?_) λ r ⟨m,hr,hm⟩=>?_
 ·rw [h1]
  refine f3u (λ e=>g3b h2.1 (f3l (r1 h.2 (by omega)) λ b _=>f3l (f3g _ _) λ _ _=>g3a ⟨rfl,?_,tmI _⟩ ?_)) λ e=>f3p ⟨_,rfl,h3⟩
  all_goals (simp only; rw [wi1 (n:=x.2.2) (by omega)]; omega)
 ·subst hr
  exact g3g (x:=m) rfl (f3v hm)
theorem e3z {s:LU}(h:Sl 549755813888 s):An (λ β=>m1i β s) I64:=by
 refine g3e ?_
 unfold m1i g2p
 have hb:Ls 549755813888 wb tt (l0o s):=⟨by simp [l0o]; omega,λ r hr=>by
  obtain ⟨b,_,rfl⟩:=List.mem_map.1 hr
  exact ⟨_,trivial,rfl⟩⟩
 refine f3l (f3f hb (by omega)) λ l hl=>g3j (caL ?_ (by omega)) (f3l (f3e (n:=1099511627776) ⟨?_,(Rw.one (w:=wn) trivial).app hl.2⟩ (by omega)) λ k hk=>f3v hk)
 ·have:=hl.1; simp; omega
 ·have:=hl.1; simp; omega
theorem e3m {s v:LU}(h:Sl 549755813888 s):An (λ β=>l1y β s v) tt:=by
 refine g3e ?_
 unfold l1y f2y
 exact g3f (λ _=>f3v trivial) λ _=>f3l (e3z h) λ n hn=>f3l (e2c hn) λ _ _=>f3v trivial
theorem m2h {p:U2}{r:U14}{x:U3}{n m:Nat}(hp:Po n n p)(hr:Rq m r)(hx:Re 549755813888 x)(hn:n≤1099511627776)(hm:m≤1099511627776):An (λ β=>o0o β p r x) λ v=>v=1→Re 10000 x:=by
 refine g3e ?_
 unfold o0o e2y
 refine f3l (m2o hp hr hn hm) λ _ _=>g3f (λ _=>f3v (by simp)) λ _=>f3y (λ b=>b=false→Re 10000 x) (λ b hb=>g3f (λ _=>f3v (by simp)) λ e=>f3l (e3l _ _) λ _ _=>g3f (λ _=>f3v (by simp)) λ _=>f3y tt (λ _ _=>g3f (λ _=>f3v (by simp)) λ _=>f3l (e3m hx.1) λ _ _=>g3f (λ _=>f3v (by simp)) λ _=>f3v λ _=>hb e) λ j hj=>g3f (λ _=>g3f (λ _=>g3f (λ _=>hj _ trivial) λ _=>hj _ trivial) λ _=>hj _ trivial) λ _=>hj _ trivial) λ j hj=>f3l (m2j hx) λ b hb=>g3f (λ _=>hj _ (by simp)) λ e=>hj _ λ _=>hb (by simpa using e)
theorem u2z {p:U2}{r:U14}{x:U3}{n m:Nat}(hp:Po n n p)(hr:Rq m r)(hx:Re 549755813888 x)(hn:n≤1099511627776)(hm:m≤1099511627776):An2 (λ β=>w0a β p r x) λ t _=>Sl 10000 t:=by
 refine f3n ?_
 unfold w0a e2z
 exact f3l (m2h hp hr hx hn hm) λ v hv=>g3f (λ _=>f3j (by simp)) λ e=>f3j (hv (by simpa using e)).1
theorem e3a {p:U9}{k:Int}{x:U3}{n:Nat}(h:Pg n p)(hx:Re 549755813888 x)(h0:10000≤n)(hn:n≤1000000000):An (λ β=>l1q β p k x) (Pg n):=by
 refine g3e ?_
 unfold l1q f2c
 refine f3l (t45 h (by omega)) λ y hy=>?_
 subst hy
 have hl:=h.sl.1
 by_cases c:0≤k∧k < y.m.length
 ·refine g3c (f3l (t89 h.sl h.ad.1 (by omega)) λ r hr=>f3x (by omega) (f3l (m0n (λ y=>{y with f:=true}) h.sl.2 (by omega) (λ _ q=>q) λ y=>⟨_,rfl,rfl⟩) λ l6 ⟨h6,k6,_⟩=>f3l (m2h h.po hr hx (by omega) (by omega)) λ n7 _=>f3x (by omega) (f3l (m0n (λ y=>{y with g:=n7}) k6 (by omega) (λ _ q=>q) λ y=>⟨_,rfl,rfl⟩) λ l8 ⟨h8,k8,_⟩=>f3i (u2z h.po hr hx (by omega) (by omega)) λ t9 _ h9=>f3x (by omega) (f3l (m0n (λ y=>{y with h:=t9}) k8 (by omega) (λ y q=>⟨q.1,q.2.1,q.2.2.1,Nat.le_trans h9 h0⟩) λ y=>⟨_,rfl,rfl⟩) λ l11 ⟨h11,k11,_⟩=>f3v (h.sl' (Nat.le_refl _) ⟨by omega,k11⟩))))) λ j hj=>f3l (t25 _ _ _) λ _ _=>g3f (λ _=>f3v h) λ _=>g3b c.1 (f3l (r8 h.sl.2 (by omega)) λ y3 _=>g3f (λ _=>f3v h) λ _=>hj)
 ·refine g3h (f3l (t25 _ _ _) λ b hb=>g3f (λ _=>f3v h) λ e=>?_)
  have:=i1r hb (by simpa using e) (by omega)
  omega
theorem t93 {p:U9}{a:U6}{x:U3}{n:Nat}(h:Pg n p)(hx:Re 549755813888 x)(h0:10000≤n)(hn:n≤1000000000):An (λ β=>F93 β p a x) (Pg n):=by
 refine g3e ?_
 unfold F93 P93
 refine f3l (t45 h (by omega)) λ y hy=>?_
 subst hy
 have hl:=h.sl.1
 refine f3l (wh z2g (λ z=>(0≤z.1∧z.1≤y.m.length)∧z.2.1=y∧z.2.2.1=a∧z.2.2.2.1=x∧Pg n z.2.2.2.2.2.2.2.2.2.2.2.2.2.2.2) (λ z=>(y.m.length - z.1).toNat) (Ex:=λ r=>∃ z:w1v,r=(0,q1z z)∧Pg n z.2.2.2.2.2.2.2.2.2.2.2) ⟨by simp,rfl,rfl,rfl,h⟩ λ z ⟨k1,k2,k3,k4,k5⟩=>?_) λ r ⟨z,hr,hz⟩=>?_
 ·rw [k2,k3,k4]
  refine f3u (λ e=>f3y (Pg n) (λ q hq=>g3a ⟨?_,rfl,rfl,rfl,hq⟩ ?_) λ j hj=>g3c (g3a ⟨?_,rfl,rfl,rfl,k5⟩ ?_) λ j2 hj2=>g3b k1.1 (f3l (r8 h.sl.2 (by omega)) λ y3 _=>g3f (λ _=>g3b k1.1 (f3l (r8 h.sl.2 (by omega)) λ y4 _=>g3f (λ _=>f3l (e3a k5 hx h0 hn) λ q hq=>hj _ hq) λ _=>hj2)) λ _=>hj2)) λ _=>f3p ⟨_,rfl,k5⟩ <;> simp only <;> rw [wi1 (by omega)] <;> omega
 ·subst hr
  exact g3g (x:=z) rfl (f3v hz)
end Go.Am
end
section
set_option linter.unusedVariables false
set_option maxRecDepth 10000
namespace Go.Am
open Go
theorem uns_w6 {s:LV}{m:U15}:Uns s (w6 m)↔w2 ⟨m.a,m.b⟩ ∉ s:=by
 refine ⟨λ ⟨m',e,q⟩=>?_,λ q=>⟨m,rfl,q⟩⟩
 simp only [w6,V.agg.injEq,List.cons.injEq,V.str.injEq] at e
 rw [e.1,e.2.1]
 exact q
theorem c2a {s:LV}{m m':U15}(ea:m'.a=m.a)(eb:m'.b=m.b):v1f s (w6 m')=v1f s (w6 m):=by
 by_cases c:Uns s (w6 m)
 ·rw [r0c c,r0c (uns_w6.2 (by rw [ea,eb]; exact uns_w6.1 c))]
 ·rw [y0n c,y0n λ q=>c (uns_w6.2 (by rw [← ea,← eb]; exact uns_w6.1 q))]
theorem z0v {s:LV}{m m':U15}(ea:m'.a=m.a)(eb:m'.b=m.b):∀ {l:LV} {i:Nat},l[i]? = some (w6 m)→muL (l.set i (w6 m')) s=muL l s:=by
 intro l
 unfold muL
 induction l with
 | nil=>intro i h; simp
 | cons x l ih=>
  intro i h
  cases i with
  | zero=>
   simp only [List.getElem?_cons_zero,sj_] at h
   subst h
   simp only [List.set_cons_zero,List.filter_cons,c2a ea eb]
   split <;> rfl
  | succ i=>
   simp only [List.getElem?_cons_succ] at h
   have:=ih h
   simp only [List.set_cons_succ,List.filter_cons]
   split
   ·simp [this]
   ·exact this
theorem t92 {p:U9}{a:U6}{x:U3}{n:Nat}(h:Pg n p)(ha:Pr n a)(hx:Re 549755813888 x)(h0:10000≤n)(hn:n≤8000000):An (λ β=>F92 β p a x) (Pg (n+10000)):=by
 refine g3e ?_
 unfold F92 P92
 refine f3l (t45 h (by omega)) λ y hy=>?_
 subst hy
 have hl:=h.mo.1
 have e:=Pg.up (m:=n+10000) (by omega) h
 refine f3l (e2a h.mo (by omega)) λ k ⟨hk,_⟩=>?_
 rcases hk with rfl | ⟨i,m,rfl,hg,hm,hm2⟩
 ·exact g3h (f3t (λ _=>f3v e) λ q=>absurd (by decide) q)
 have hi:=(gs_ hg).1
 refine g3c (f3l (t91 h.mo h.ad.1 (by omega)) λ r hr=>f3x (by omega) (f3l (m0n (λ y=>{y with c:=true}) h.mo.2 (by simpa using hi) (λ _ q=>q) λ y=>⟨_,rfl,rfl⟩) λ l6 ⟨h6,k6,m6,g6,s6⟩=>f3l (m2h h.po hr hx (by omega) (by omega)) λ n7 _=>f3x (by omega) (f3l (m0n (λ y=>{y with d:=n7}) k6 (by simp <;> omega) (λ _ q=>q) λ y=>⟨_,rfl,rfl⟩) λ l8 ⟨h8,k8,m8,g8,s8⟩=>f3i (u2z h.po hr hx (by omega) (by omega)) λ t9 _ h9=>f3x (by omega) (f3l (m0n (λ y=>{y with e:=t9}) k8 (by simp <;> omega) (λ y q=>⟨q.1,q.2.1,h9⟩) λ y=>⟨_,rfl,rfl⟩) λ l11 ⟨h11,k11,m11,g11,s11⟩=>?_)))) λ j hj=>f3t (λ _=>f3v e) λ _=>g3b (by omega) (f3l (r12 h.mo.2 (by simpa using hi)) λ y3 _=>g3f (λ _=>f3v e) λ _=>hj)
 have hmu:∀ s,muL l11 s=muL y.n s:=λ s=>by
  rw [s11]
  refine Eq.trans (z0v (m:=m11) (m':={m11 with e:=t9}) rfl rfl g11) ?_
  rw [s8]
  refine Eq.trans (z0v (m:=m8) (m':={m8 with d:=n7}) rfl rfl g8) ?_
  rw [s6]
  exact z0v (m:=m6) (m':={m6 with c:=true}) rfl rfl g6
 have hp:Pg n {y with n:=l11}:=h.mo' (Nat.le_refl _) ⟨by omega,k11⟩ (by rw [hmu]; exact h.ra.1)
 refine f3i (m2i hp.mo ha h0 (by omega)) λ l b ⟨hl2,_⟩=>f3l (wh t2f (λ x=>x.1=l∧(0≤x.2.1∧x.2.1≤l.length)∧Pg (n+x.2.1.toNat) x.2.2.2.2.2.2.2.2.2.2.2.2.2) (λ x=>(l.length - x.2.1).toNat) (Ex:=λ r=>∃ z:w1v,r=(0,q1z z)∧Pg (n+10000) z.2.2.2.2.2.2.2.2.2.2.2) ⟨rfl,by simp,by simpa using hp⟩ λ x ⟨h1,h2,h3⟩=>?_) λ r ⟨z,hr,hz⟩=>?_
 ·rw [h1]
  have hl3:=hl2.1
  refine f3u (λ e=>f3x (by omega) (f3l (a4 hl2.2 (by omega)) λ y15 ⟨h15,_⟩=>f3l (v2a h3 ⟨Sl.up (by omega) h15.1,Sl.up (by omega) h15.2⟩ (by omega)) λ q hq=>g3a ⟨rfl,?_,Pg.up ?_ hq⟩ ?_)) λ _=>f3p ⟨_,rfl,Pg.up (by omega) h3⟩ <;> simp only <;> rw [wi1 (by omega)] <;> omega
 ·subst hr
  exact g3g (x:=z) rfl (f3v hz)
theorem t75 {p:U9}{a:U6}{x:U3}{n:Nat}(h:Pg n p)(ha:Pr n a)(hx:Re 549755813888 x)(h0:10000≤n)(hn:n≤7990000):An (λ β=>F75 β p a x) (Pg (n+810400)):=by
 refine g3e ?_
 unfold F75 P75
 exact f3l (t93 h hx h0 (by omega)) λ q hq=>f3l (t92 hq ha hx h0 (by omega)) λ q hq=>f3l (t73 hq (by omega) (by omega)) λ q hq=>f3v (Pg.up (by omega) hq)
theorem a41 {n:Nat}{l:LV}(h:Rw w7 (Rq n) l){i:Nat}(hi:i < l.length):An (λ _=>ia4 l i 1) (Pr n):=by
 obtain ⟨y,h1,h2⟩:=h.get hi
 exact ⟨⟨y.b,y.c⟩,⟨h1.1,h1.2.1⟩,λ β k=>by show ia4 l i 1 k=_; unfold ia4; exact i0z (ks:=[.str,.str]) (e:=(y.b,y.c,())) h2 rfl⟩
theorem t62 {c:U0}(h:Cu c):An3 (λ β=>r0h β c) λ p _ y=>Pg 5062400 p∧Cu y:=by
 refine f3q ?_
 unfold r0h r1z
 refine f3i (t71 h) λ s y ⟨hs,h⟩=>f3i (t72 h) λ q y ⟨hq0,h⟩=>f3i (t67 2 h) λ b y h=>g3f (λ _=>f3l (t73 hq0 (by omega) (by omega)) λ q hq=>?_) λ _=>?_
 rotate_left
 have hq:=Pg.up (m:=1010400) (by omega) hq0
 all_goals (refine f3i (t43 6 h) λ n8 y9 ⟨hn8,h⟩=>f3l (wh z2h (λ x=>x.1=s∧(0≤x.2.1∧x.2.1≤5)∧Pg (1010400+810400 * (5 - x.2.1.toNat)) x.2.2.2.2.2.2.2.2.2.2.2.2.2.1∧Cu x.2.2.2.2.2.2.2.2.2.2.2.2.2.2) (λ x=>x.2.1.toNat) (Ex:=λ r=>∃ z:o2a,r=(0,i2z z)∧Pg 5062400 z.2.2.2.2.2.2.2.2.2.2.2.2.1∧Cu z.2.2.2.2.2.2.2.2.2.2.2.2.2) ⟨rfl,by simp only; omega,Pg.up (by omega) hq,h⟩ λ x ⟨h1,h2,h3,h4⟩=>?_) λ r ⟨z,hr,hz,hc⟩=>?_)
 any_goals (subst hr; refine g3g (x:=z) rfl (f3i (t43 24 hc) λ _ y ⟨_,h⟩=>g3f (λ _=>f3i (t56 (P:=tt) h (Rw.cons (w:=wn) trivial (Rw.cons (w:=wn) trivial (Rw.one (w:=wn) trivial))) (by simp)) λ _ _ h=>f3k ⟨hz.nu _ _ _ _ _,h.2⟩) λ _=>g3f (λ _=>f3i (t56 (P:=tt) h (Rw.cons (w:=wn) trivial (Rw.cons (w:=wn) trivial (Rw.one (w:=wn) trivial))) (by simp)) λ _ _ h=>f3k ⟨hz.nu _ _ _ _ _,h.2⟩) λ _=>g3f (λ _=>f3k ⟨hz.nu _ _ _ _ _,h⟩) λ _=>f3k ⟨hz,h⟩))
 all_goals (rw [h1]; refine f3t (λ e=>f3l (t74 h3 (by omega)) λ l hl=>f3t (λ e2=>f3i (t43 _ h4) λ m y ⟨hm,h⟩=>?_) λ _=>g3a ⟨rfl,?_,Pg.up ?_ h3,h4⟩ ?_) λ _=>f3p ⟨_,rfl,Pg.up (by omega) h3,h4⟩)
 any_goals (simp only; rw [wim (by omega)]; omega)
 all_goals (rw [a0t] at hm e2; refine f3x (by omega) (f3l (a41 hl.2 (by omega)) λ a ha=>f3l (t76 hs) λ x hx=>f3l (t75 h3 ha ⟨Nat.le_trans hx.1 (by omega),Nat.le_trans hx.2 (by omega)⟩ (by omega) (by omega)) λ q hq=>g3a ⟨rfl,?_,Pg.up ?_ hq,h⟩ ?_) <;> simp only <;> rw [wim (by omega)] <;> omega)
end Go.Am
end
