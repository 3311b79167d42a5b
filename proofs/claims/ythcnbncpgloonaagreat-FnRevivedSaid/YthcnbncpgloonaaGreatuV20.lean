/-
  The law of revived pages.
-/
import Derived.Test.YthcnbncpgloonaaGreatuV19
section
set_option linter.unusedVariables false
set_option maxRecDepth 10000
namespace Go.Am
open Go
abbrev pr8 (p:U9):U16:=⟨p.a,p.b,p.a,p.b,p.c,p.d,p.e,p.f,p.g,p.h,p.i,p.j,p.k,p.l,p.m,p.n,p.o,p.p,p.q,p.r,p.s,p.t,p.u,p.v,true⟩
def sp (t:U1)(p:U9):U1:=if 0≤t.b∧t.b < t.a.length then {t with a:=t.a.set t.b.toNat (w8 (pr8 p))} else t
theorem m2d {t:U1}{p:U9}(h:Tb t)(hp:Pg 5062400 p):Tb (sp t p):=by
 unfold sp
 split
 ·refine ⟨by simpa using h.1,λ r hr=>?_⟩
  rcases List.mem_or_eq_of_mem_set hr with hr | rfl
  ·exact h.2 r hr
  ·exact ⟨_,hp,rfl⟩
 ·exact h
theorem t12 {t:U1}{p:U9}(h:Tb t)(hp:Pg 5062400 p):An (λ β=>F12 β t p) λ r=>r=sp t p:=by
 refine g3e ?_
 unfold F12 P12
 refine f3l (t20 h) λ y hy=>?_
 subst hy
 refine f3l (t21 y) λ b hb=>?_
 rw [hb]
 refine f3t (λ e=>f3l (t38 hp (by omega)) λ q hq=>?_) λ e=>f3v (if_neg e).symm
 subst hq
 exact f3x (by omega) (f3l (m0n (P:=Vi) (λ _=>pr8 q) h.2 (by omega) (λ _ _=>hp) λ y=>⟨_,rfl,rfl⟩) λ l ⟨h6,k6,m,g,s⟩=>f3v (by unfold sp; rw [if_pos e,s]))
theorem t18 {t:U1}{p:U9}(h:Tb t)(hp:Pg 5062400 p):An (λ β=>F18 β t p) λ r=>r=sp t p:=by
 refine g3e ?_
 unfold F18 P18
 refine f3l (t24 h) λ y hy=>?_
 subst hy
 refine f3l (t25 _ _ _) λ b hb=>?_
 rw [inL h hb]
 refine g3f (λ e=>f3v (if_neg (by simp at e; omega)).symm) λ e=>f3l (t45 hp (by omega)) λ q hq=>?_
 have e:0≤y.b∧y.b < y.a.length:=by simp at e; omega
 subst hq
 exact f3x (by omega) (f3l (m0n (P:=Vi) (λ _=>pr8 q) h.2 (by omega) (λ _ _=>hp) λ y=>⟨_,rfl,rfl⟩) λ l ⟨h6,k6,m,g,s⟩=>f3v (by unfold sp; rw [if_pos e,s]))
theorem e25 {t:U1}(h:Tb t)(β:Type)(k:Bool→Option β):F25 β t.b 0 (wi (nL t.a - 1)) k=k (decide (0≤t.b∧t.b < t.a.length)):=by rw [(t25 _ _ _).v,inL h rfl]
theorem t39 {t:U1}(h:Tb t):∃ p b,Pg 5062400 p∧(∀ (β:Type) (k:U9→Bool→Option β),F39 β t k=k p b)∧(∀ (β:Type) (k:U9→Bool→Option β),F40 β t k=k p b):=by
 unfold F39 P39 F40 P40 jt0
 by_cases c:0≤t.b∧t.b < t.a.length
 ·obtain ⟨y,hy,hg⟩:=h.2.get (show t.b.toNat < t.a.length by omega)
  simp only [(t21 t).v,e25 h,decide_eq_true c,Bool.not_true,brf,c0p c.1,i13 hg,(t38 hy (by omega)).v,(t45 hy (by omega)).v]
  cases y.y
  ·exact ⟨pz,false,pg0 _,λ _ _=>rfl,λ _ _=>rfl⟩
  ·exact ⟨m2b y,true,hy,λ _ _=>rfl,λ _ _=>rfl⟩
 ·simp only [(t21 t).v,e25 h,decide_eq_false c,Bool.not_false,brt]
  exact ⟨pz,false,pg0 _,λ _ _=>rfl,λ _ _=>rfl⟩
theorem t13 {t:U1}(h:Tb t):∃ p b,Pg 5062400 p∧(b=true→p.v=true)∧(∀ (β:Type) (k:U9→Bool→Option β),F13 β t k=k p b)∧(∀ (β:Type) (k:U9→Bool→Option β),F14 β t k=k p b):=by
 obtain ⟨p,b,hp,e1,e2⟩:=t39 h
 unfold F13 P13 F14 P14
 simp only [e1,e2,(t17 p).v,(t26 p).v]
 cases b
 ·exact ⟨pz,false,pg0 _,by simp,λ _ _=>rfl,λ _ _=>rfl⟩
 ·simp only [Bool.not_true,brf]
  cases hv:p.v
  ·exact ⟨pz,false,pg0 _,by simp,λ _ _=>rfl,λ _ _=>rfl⟩
  ·exact ⟨p,true,hp,λ _=>hv,λ _ _=>rfl,λ _ _=>rfl⟩
theorem t4 (code:LV):An (λ β=>F4 β code) λ r=>r=decide (nL code > 1048576):=⟨_,rfl,λ _ _=>rfl⟩
theorem t3 {code:LV}(h:Rw wb tt code):An (λ β=>F3 β code) λ r=>r=true:=by
 refine g3e ?_
 unfold F3 P3
 refine f3l (t4 code) λ b hb=>?_
 rw [hb]
 refine f3t (λ _=>f3v rfl) λ hl=>?_
 have hl:code.length≤1048576:=by rw [a0t] at hl; omega
 refine f3l (t5 h hl) λ y2 h2=>f3l (t6 h2) λ y3 h3=>?_
 subst h3
 have K:=r1f h2
 refine g3c ?_ λ j hj=>f3l (t8 h2) λ y4 h4=>?_
 rotate_left
 ·rw [h4]
  refine f3l (t7 K.tb) λ b hb=>?_
  rw [hb]
  refine g3f (λ e=>by simp at e) λ _=>f3l (t9 K.tb) λ n6 h6=>f3t (λ e=>?_) λ _=>f3l (t9 K.tb) λ n10 h10=>f3l (t9 h2) λ n11 h11=>f3t (λ e=>?_) λ _=>hj
  ·have:=t1w h2
   omega
  ·have:=K.ke
   omega
 ·have kl:=K.len
  refine f3l (wh z2m (λ x=>x.1=code∧x.2.2.1=y2∧x.2.2.2=lvt y2∧(0≤x.2.1∧x.2.1≤y2.a.length)) (λ x=>(y2.a.length - x.2.1).toNat) (Ex:=λ r=>r=(0,eS8 code)) ⟨rfl,rfl,rfl,by simp⟩ λ x ⟨h1,g2,h3,h4⟩=>?_) λ r hr=>?_
  ·rw [h1,g2,h3]
   have h6:=h2.1
   refine f3u (λ e=>f3x (by omega) ?_) λ e=>f3p rfl
   obtain ⟨v,hv,hg⟩:=K.tb.2.get (show x.2.1.toNat < (lvt y2).a.length by omega)
   simp only [a5 hg]
   refine g3f (λ e2=>f3x (by omega) ?_) λ _=>g3a ⟨rfl,rfl,rfl,?_⟩ ?_
   any_goals (simp only; rw [wi1 (by omega)]; omega)
   have e3:=K.sm x.2.1.toNat (by rw [p0f hg]; exact e2)
   obtain ⟨v2,hv2,hg2⟩:=h2.2.get (show x.2.1.toNat < y2.a.length by omega)
   rw [p0f hg,p0f hg2] at e3
   rw [← e3] at hg2
   simp only [a6 hg,i13 hg2]
   refine g3b h4.1 (f3l (t10 hv (by omega)) λ b hb=>?_)
   rw [hb]
   refine g3f (λ e=>by simp at e) λ _=>g3a ⟨rfl,rfl,rfl,?_⟩ ?_ <;> simp only <;> rw [wi1 (by omega)] <;> omega
  ·subst hr
   refine f3o (g3g (x:=code) rfl (f3i (t11 h hl) λ y22 y23 ⟨h22,h23⟩=>f3l (t12 h22 h23) λ y24 h24=>?_))
   subst h24
   have h24:=m2d h22 h23
   obtain ⟨p,b,hp,hb,e1,e2⟩:=t13 h24
   refine f3i (Q1:=λ q c=>q=p∧c=b) ⟨p,b,⟨rfl,rfl⟩,e1⟩ λ p1 b1 ⟨q1,q2⟩=>f3i (Q1:=λ q c=>q=p∧c=b) ⟨p,b,⟨rfl,rfl⟩,e2⟩ λ p2 b2 ⟨q3,q4⟩=>f3i (t15 h hl) λ y29 n30 h29=>f3l (t16 h29) λ y31 h31=>?_
   rw [q1,q2,q3,q4,beq_self_eq_true]
   have fin:Tg (C:=Σ β:Type,Bool→Option β) (T:=λ c=>c.1) (λ c=>F18 c.1 y22 y23 λ y33=>F7 c.1 (sp y22 y23) y33 λ b34=>br b34 (br ((nL y31.a) == (nL y29.a)) (br (decide (n30 < 0)) (c.2 true) (br (decide (n30 ≥ (nL y29.a))) (c.2 true) (ci n30 y31.a (ia5 y31.a n30.toNat 24 λ b35=>c.2 (!b35))))) (c.2 false)) (c.2 false)) (λ c r=>c.2 r) (λ r=>r=true):=by
    refine f3l (t18 h22 h23) λ y33 h33=>?_
    rw [h33]
    refine f3l (t7 h24) λ b hb=>?_
    have hlen:y31.a.length=y29.a.length:=by rw [h31]; exact s0s _ _
    rw [hb,a0t,a0t,hlen,beq_self_eq_true]
    refine g3f (λ _=>g3f (λ _=>f3t (λ _=>f3v rfl) λ c1=>f3t (λ _=>f3v rfl) λ c2=>f3x (by omega) ?_) λ e=>by simp at e) λ e=>by simp at e
    have t31:Tb y31:=by rw [h31]; exact i1p h29
    obtain ⟨v,hv,hg⟩:=t31.2.get (show n30.toNat < y31.a.length by omega)
    simp only [a5 hg]
    refine f3v ?_
    cases e:v.y
    ·rfl
    exfalso
    have e2:kb (av y31.a n30.toNat)=true:=by rw [p0f hg]; exact e
    rw [h31] at e2
    unfold gu at e2
    rw [if_pos (by omega)] at e2
    simp only at e2
    rw [h1i,if_pos (by omega)] at e2
    exact u0v _ e2
   refine g3f (λ _=>f3l (t10 hp (by omega)) λ b3 hb3=>?_) λ e=>by simp at e
   rw [hb3]
   refine g3f (λ _=>g3f (λ _=>fin) λ e=>f3l (t17 p) λ b4 hb4=>?_) λ e=>by simp at e
   rw [hb4,hb (by simpa using e)]
   exact g3f (λ _=>fin) λ e=>by simp at e
end Go.Am
end
