/-
  Calls that are handed values over: such a call is sound; a region whose order is given.
-/
import Derived.Test.YthcnbncpgloonaaGreatuAmIo2
set_option linter.unusedVariables false
set_option linter.unusedSimpArgs false
namespace Go.Am
open Go Go.RowKit
section
variable {P:Program}{c:Cfg}{Γ Γ':Ctx}{st:St}{a:Act}{w w':World}{den:Nat→List V→Option V}{η:Nat→Option V}{d:Nat}
theorem p0z {p:Mode→Bool}:∀ (md:List Mode) (az:List V) (ys:List Value),az.length=md.length→ys.length=md.length →
  (c0b p md az).length=(c0b p md ys).length ∧ ∀ (k:Nat) (v:V) (y:Value),(c0b p md az)[k]? = some v→(c0b p md ys)[k]? = some y → ∃ i:Nat,az[i]? = some v∧ys[i]? = some y:=by
 intro md
 induction md with
 | nil=>intro az ys _ _; cases az <;> cases ys <;> exact ⟨rfl,λ k v y h=>by simp [c0b] at h⟩
 | cons m md ih=>
  intro az ys h1 h2
  cases az with
  | nil=>simp at h1
  | cons v az=>
   cases ys with
   | nil=>simp at h2
   | cons y ys=>
    obtain ⟨e1,e2⟩:=ih az ys (by simpa using h1) (by simpa using h2)
    simp only [c0b]
    cases p m with
    | true=>
     refine ⟨by simp [e1],λ k v' y' hv hy=>?_⟩
     cases k with
     | zero=>exact ⟨0,by simpa using hv,by simpa using hy⟩
     | succ k=>
      obtain ⟨i,i1,i2⟩:=e2 k v' y' (by simpa using hv) (by simpa using hy)
      exact ⟨i+1,by simpa using i1,by simpa using i2⟩
    | false=>
     refine ⟨e1,λ k v' y' hv hy=>?_⟩
     obtain ⟨i,i1,i2⟩:=e2 k v' y' hv hy
     exact ⟨i+1,by simpa using i1,by simpa using i2⟩
theorem o1a {A:V→Value→Prop}:∀ (md:List Mode) (n:Nat) (ms ds:List V) (ys:List Value),ys.length=md.length→ms.length=(c0b Mode.isMv md ys).length→ds.length=(c0b Mode.isData md ys).length →
  (∀ (k:Nat) (u:V) (y:Value),ms[k]? = some u→(c0b Mode.isMv md ys)[k]? = some y→A u y)→(∀ (k:Nat) (u:V) (y:Value),ds[k]? = some u→(c0b Mode.isData md ys)[k]? = some y→A u y) →
  (∀ (k:Nat) (y:Value),(c0b Mode.isPt md ys)[k]? = some y→A (.ptr (n+k) 0) y)→(u0s n md ms ds).length=md.length ∧ ∀ (i:Nat) (u:V) (y:Value),(u0s n md ms ds)[i]? = some u→ys[i]? = some y→A u y:=by
 intro md
 induction md with
 | nil=>intro n ms ds ys _ _ _ _ _ _; exact ⟨by simp [u0s],λ i u y h=>by simp [u0s] at h⟩
 | cons m md ih=>
  intro n ms ds ys h1 h2 h3 hm hd hp
  cases ys with
  | nil=>simp at h1
  | cons y ys=>
   cases m with
   | mv=>
    simp only [c0b,Mode.isMv,Mode.isData,Mode.isPt] at h2 h3 hm hd hp
    cases ms with
    | nil=>simp at h2
    | cons u ms=>
     obtain ⟨e1,e2⟩:=ih n ms ds ys (by simpa using h1) (by simpa using h2) h3 (λ k u y a b=>hm (k+1) u y (by simpa using a) (by simpa using b)) hd hp
     refine ⟨by simp [u0s,e1],λ i u' y' hu hy=>?_⟩
     cases i with
     | zero=>
      simp only [u0s,List.getElem?_cons_zero,sj_] at hu hy
      subst hu; subst hy
      exact hm 0 u y rfl rfl
     | succ i=>exact e2 i u' y' (by simpa [u0s] using hu) (by simpa using hy)
   | data=>
    simp only [c0b,Mode.isMv,Mode.isData,Mode.isPt] at h2 h3 hm hd hp
    cases ds with
    | nil=>simp at h3
    | cons u ds=>
     obtain ⟨e1,e2⟩:=ih n ms ds ys (by simpa using h1) h2 (by simpa using h3) hm (λ k u y a b=>hd (k+1) u y (by simpa using a) (by simpa using b)) hp
     refine ⟨by simp [u0s,e1],λ i u' y' hu hy=>?_⟩
     cases i with
     | zero=>
      simp only [u0s,List.getElem?_cons_zero,sj_] at hu hy
      subst hu; subst hy
      exact hd 0 u y rfl rfl
     | succ i=>exact e2 i u' y' (by simpa [u0s] using hu) (by simpa using hy)
   | pt=>
    simp only [c0b,Mode.isMv,Mode.isData,Mode.isPt] at h2 h3 hm hd hp
    obtain ⟨e1,e2⟩:=ih (n+1) ms ds ys (by simpa using h1) h2 h3 hm hd (λ k y hk=>by have:=hp (k+1) y (by simpa using hk); rwa [show n+(k+1)=n+1+k by omega] at this)
    refine ⟨by simp [u0s,e1],λ i u' y' hu hy=>?_⟩
    cases i with
    | zero=>
     simp only [u0s,List.getElem?_cons_zero,sj_] at hu hy
     subst hu; subst hy
     exact hp 0 y rfl
    | succ i=>exact e2 i u' y' (by simpa [u0s] using hu) (by simpa using hy)
theorem o1q:∀ {l:List V} {js:List Nat},g1a l=some js→js.length=l.length ∧ ∀ k j:Nat,js[k]? = some j→l[k]? = some (.ptr j 0):=by
 intro l
 induction l with
 | nil=>intro js h; simp only [g1a,sj_] at h; subst h; exact ⟨rfl,λ k j h=>by simp at h⟩
 | cons v l ih=>
  intro js h
  unfold g1a at h
  split at h
  ·cases (by assumption:v :: l=[])
  ·rename_i j vs heq
   injection heq with e1 e2
   subst e1; subst e2
   cases hp:g1a l with
   | none=>rw [hp] at h; cases h
   | some js0=>
    rw [hp] at h
    simp only [Option.map_some,sj_] at h
    subst h
    obtain ⟨h1,h2⟩:=ih hp
    refine ⟨by simp [h1],λ k i hk=>?_⟩
    cases k with
    | zero=>simp only [List.getElem?_cons_zero,sj_] at hk ⊢; rw [hk]
    | succ k=>exact h2 k i (by simpa using hk)
  ·cases h
theorem i1u {h:List (Option V)}:∀ {js:List Nat} {bs:List V},d1y h js=some bs→bs.length=js.length ∧ ∀ (k:Nat) (b:V),bs[k]? = some b → ∃ j,js[k]? = some j∧h[j]? = some (some b):=by
 intro js
 induction js with
 | nil=>intro bs h; simp only [d1y,sj_] at h; subst h; exact ⟨rfl,λ k b h=>by simp at h⟩
 | cons j js ih=>
  intro bs hb
  simp only [d1y] at hb
  cases h1:h.getD j none with
  | none=>rw [h1] at hb; cases hb
  | some r=>
   cases h2:d1y h js with
   | none=>rw [h1,h2] at hb; cases hb
   | some rs=>
    rw [h1,h2] at hb
    simp only [sj_] at hb
    subst hb
    obtain ⟨e1,e2⟩:=ih h2
    refine ⟨by simp [e1],λ k b hk=>?_⟩
    cases k with
    | zero=>
     simp only [List.getElem?_cons_zero,sj_] at hk
     subst hk
     refine ⟨j,rfl,?_⟩
     rw [List.getD_eq_getElem?_getD] at h1
     cases hh:h[j]? with
     | none=>rw [hh] at h1; cases h1
     | some y=>rw [hh] at h1; exact congrArg _ h1
    | succ k=>exact e2 k b (by simpa using hk)
theorem q0c {R:Nat→V→Value→Prop}:∀ (bs:List V),(∀ (k:Nat) (b:V),bs[k]? = some b → ∃ X,R k b X) → ∃ Xs:List Value,Xs.length=bs.length ∧ ∀ (k:Nat) (b:V),bs[k]? = some b → ∃ X,Xs[k]? = some X∧R k b X:=by
 intro bs
 induction bs generalizing R with
 | nil=>intro _; exact ⟨[],rfl,λ k b h=>by simp at h⟩
 | cons b bs ih=>
  intro h
  obtain ⟨X,hX⟩:=h 0 b rfl
  obtain ⟨Xs,h1,h2⟩:=ih (R:=λ k=>R (k+1)) (λ k b hk=>h (k+1) b (by simpa using hk))
  refine ⟨X :: Xs,by simp [h1],λ k b' hk=>?_⟩
  cases k with
  | zero=>simp only [List.getElem?_cons_zero,sj_] at hk; subst hk; exact ⟨X,rfl,hX⟩
  | succ k=>
   obtain ⟨Y,y1,y2⟩:=h2 k b' (by simpa using hk)
   exact ⟨Y,by simpa using y1,y2⟩
theorem y0z {r:V}{cur:Array Value}(hok:∀ u∈r.cells,f0j u=true)(hl:r.cells.length=cur.size)(hc:∀ (j:Nat) (c:V),r.cells[j]? = some c → ∃ x,cur[j]? = some x∧VR Γ w c x):∃ X:Value,VR Γ w r X∧X.cells=cur:=by
 cases r with
 | agg cs=>
  refine ⟨.agg cur,.agg cs cur hl (λ i c v h1 h2=>?_),rfl⟩
  obtain ⟨x,e1,e2⟩:=hc i c h1
  rw [e1] at h2
  injection h2 with h2
  subst h2
  exact e2
 | _=>
  obtain ⟨x,e1,e2⟩:=hc 0 _ rfl
  have hcur:cur = #[x]:=by
   obtain ⟨l⟩:=cur
   cases l with
   | nil=>simp at e1
   | cons y l=>cases l with
    | nil=>simp at e1; rw [e1]
    | cons z l=>simp [V.cells] at hl
  have hcell:=hok _ (List.mem_singleton.2 rfl)
  refine ⟨x,e2,?_⟩
  rw [hcur]
  first
   | (cases hcell; done)
   | (rw [e2.bool_inv]; rfl)
   | (rw [e2.int_inv]; rfl)
   | (obtain ⟨y,rfl,_⟩:=e2.str_inv; rfl)
   | (rw [e2.nil_inv]; rfl)
   | (rcases e2.own_inv with ⟨rfl,_,_⟩ | ⟨rfl,_⟩ <;> rfl)
   | (rcases e2.view_inv with ⟨_,_,rfl,rfl⟩ | ⟨_,_,rfl,_⟩ <;> rfl)
   | (have:=e2.sl_inv; cases this <;> rfl)
   | (obtain ⟨_,_,_,rfl,_⟩:=e2.iptr_inv; rfl)
theorem Sim.addBox {r:V}{B:Nat}(hs:Sim Γ st a w)(hdt:d < st.t.length)(hd:d < st.h.length)(hft:∀ (i:Nat) (u:V),i ≠ d→st.t[i]? = some u→u.anyP (λ b=>b == d)=false)(hfh:∀ (i:Nat) (u:V),st.h[i]? = some (some u)→u.anyP (λ b=>b == d)=false)
  (hB:BoxAt Γ w B r) (hrp:r.anyP (λ b=>b == d)=false) (hF:Γ.F B) (hlt:B < w.heap.size) (hS:¬ Γ.S B) (hbb:∀ b,Γ.has b→Γ.blk b ≠ B) (hbx:∀ k,Γ.lb k→Γ.box k ≠ B) :
  Sims Γ { st with t:=st.t.set d (.ptr d 0),h:=st.h.set d (some r) } (a.put (some d) (.pointer (some ⟨B,0,none⟩))) w:=by
 let Γ':Ctx:={ Γ with lb:=λ k=>Γ.lb k∧k ≠ d∨k=d,box:=λ k=>if k=d then B else Γ.box k }
 refine ⟨Γ',⟨rfl,rfl,rfl,rfl,rfl,λ k hk=>if_neg (by have:=hs.nt; omega)⟩,?_⟩
 have hmono:∀ {u:V} {y:Value},VR Γ w u y→u.anyP (λ b=>b == d)=false→VR Γ' w u y:=by
  intro u y hu hup
  refine VR.mono (Γ:=Γ) (Γ':=Γ') (p:=λ _=>false) (r:=λ b=>b == d) (λ h=>h) (λ _ h=>h) (λ _ h=>h) (λ _ _ _=>rfl) (λ b _=>⟨Iff.rfl,λ hh=>⟨rfl,rfl,rfl,rfl,rfl,λ _ h=>h,λ o=>rfl⟩⟩) (λ k hk=>?_) hu (b0r u) hup
  have hk:k ≠ d:=by simpa using hk
  exact ⟨λ h=>.inl ⟨h,hk⟩,if_neg hk⟩
 have g:=hs.good
 have hgood:Good Γ' w:=by
  refine ⟨g.os,g.tape,g.output,g.size,g.old,g.new,g.slt,g.base,g.baseInj,λ k hk=>?_,λ k k' hk hk' he=>?_,λ b k hb hk=>?_,g.sr,g.gl,g.bz,g.zf,g.ns,g.h9⟩
  ·by_cases hkd:k=d
   ·subst hkd
    show Γ.F (if k=k then _ else _) ∧ ¬ Γ.S (if k=k then _ else _)∧(if k=k then _ else _) < _
    rw [if_pos rfl]
    exact ⟨hF,hS,hlt⟩
   ·rcases hk with ⟨hk,_⟩ | hk
    ·show Γ.F (if k=d then _ else _) ∧ ¬ Γ.S (if k=d then _ else _)∧(if k=d then _ else _) < _
     rw [if_neg hkd]
     exact g.box k hk
    ·exact absurd hk hkd
  ·change (if k=d then B else Γ.box k)=(if k' = d then B else Γ.box k') at he
   by_cases h1:k=d
   ·by_cases h2:k' = d
    ·rw [h1,h2]
    ·rcases hk' with ⟨hk',_⟩ | hk'
     ·rw [if_pos h1,if_neg h2] at he
      exact absurd he.symm (hbx k' hk')
     ·exact absurd hk' h2
   ·rcases hk with ⟨hk,_⟩ | hk
    ·by_cases h2:k' = d
     ·rw [if_neg h1,if_pos h2] at he
      exact absurd he (hbx k hk)
     ·rcases hk' with ⟨hk',_⟩ | hk'
      ·rw [if_neg h1,if_neg h2] at he
       exact g.boxInj k k' hk hk' he
      ·exact absurd hk' h2
    ·exact absurd hk h1
  ·show Γ.blk b ≠ (if k=d then B else Γ.box k)
   by_cases h1:k=d
   ·rw [if_pos h1]; exact hbb b hb
   ·rcases hk with ⟨hk,_⟩ | hk
    ·rw [if_neg h1]; exact g.baseBox b k hb hk
    ·exact absurd hk h1
 have hnt:=hs.nt
 clear hdt
 refine ⟨hgood,hs.dz,by simp [Act.put,hs.len],λ i u hu=>?_,λ k u hu=>?_,hs.nds,hs.du,hs.nd,by simp [hnt,Γ']⟩
 ·simp only [Act.put] at hu ⊢
  rw [List.getElem?_set] at hu
  split at hu
  ·rename_i hid
   subst hid
   split at hu
   ·rename_i hlt
    injection hu with hu
    subst hu
    refine ⟨.pointer (some ⟨B,0,none⟩),by rw [Array.getElem?_setIfInBounds]; simp [hs.len,hlt],?_⟩
    have:=VR.ptr (Γ:=Γ') (w:=w) d 0 (.inr rfl)
    have e1:Γ'.box d=B:=if_pos rfl
    rwa [e1] at this
   ·cases hu
  ·rename_i hid
   obtain ⟨y,hy,h⟩:=hs.tm i u hu
   exact ⟨y,by rw [Array.getElem?_setIfInBounds]; simp [hid,hy],hmono h (hft i u (λ e=>hid e.symm) hu)⟩
 ·simp only at hu
  rw [List.getElem?_set] at hu
  split at hu
  ·rename_i hkd
   subst hkd
   injection hu with hu
   injection hu with hu
   subst hu
   obtain ⟨cs,e,b1,b2,b3⟩:=hB
   refine ⟨.inr rfl,cs,e,?_,b2,λ j z hz=>?_⟩
   ·have e1:Γ'.box d=B:=if_pos rfl
    rw [e1]; exact b1
   ·obtain ⟨y,e1,e3⟩:=b3 j z hz
    exact ⟨y,e1,hmono e3 (j0n hrp hz)⟩
  ·rename_i hkd
   obtain ⟨h1,cur,e',h2,h3,h4⟩:=hs.bx k u hu
   have hkd':k ≠ d:=λ e=>hkd e.symm
   refine ⟨.inl ⟨h1,hkd'⟩,cur,e',?_,h3,λ j z hz=>?_⟩
   ·have e1:Γ'.box k=Γ.box k:=if_neg hkd'
    rw [e1]
    exact h2
   ·obtain ⟨y,e1,e3⟩:=h4 j z hz
    exact ⟨y,e1,hmono e3 (j0n (hfh k u hu) hz)⟩
theorem p1j (d:Nat)(p:Nat→Bool)(v:V):(v.mapB (d0t d)).anyP p=false:=
 V.rec (motive_1:=λ v=>(v.mapB (d0t d)).anyP p=false) (motive_2:=λ l=>V.anyPs p (V.mapBs (d0t d) l)=false)
  rfl (λ _=>rfl) (λ _ _=>rfl) (λ _=>rfl) rfl (λ _ _ _ _=>rfl) (λ _ _ _ _ _=>rfl) (λ _ _ _ _ _=>rfl) (λ _ _=>rfl) (λ _ _ _ _ _ _ _=>rfl) (λ _ _ _ _=>rfl) (λ _ _ _=>rfl)
  (λ _ h=>h) (λ _ h=>h) (λ _ _ h=>h) rfl (λ _ _ h1 h2=>by rw [V.mapBs,V.anyPs,h1,h2]; rfl) v
theorem l0y (b:Nat)(v:V):∀ l,b∈V.bases l v→b∈l∨v.anyB (λ b'=>b' == b)=true:=by
 have ad:∀ {l:List Nat} {b':Nat},b∈n1i l b' → b∈l∨(b' == b)=true:=λ {l b'} h=>(addB_mem.1 h).imp id (λ e=>by simp [e])
 refine V.rec (motive_1:=λ v=>∀ l,b∈V.bases l v→b∈l∨v.anyB (λ b'=>b' == b)=true) (motive_2:=λ vs=>∀ l,b∈V.basess l vs→b∈l∨V.anyBs (λ b'=>b' == b) vs=true)
  ?_ ?_ ?_ ?_ ?_ ?_ ?_ ?_ ?_ ?_ ?_ ?_ ?_ ?_ ?_ ?_ ?_ v
 ·intro l h; exact .inl h
 ·intro _ l h; exact .inl h
 ·intro _ _ l h; exact .inl h
 ·intro _ l h; exact .inl h
 ·intro l h; exact .inl h
 ·intro _ _ _ _ l h; exact .inl h
 ·intro b' _ _ _ _ l h; exact ad h
 ·intro b' _ _ _ _ l h; exact ad h
 ·intro _ _ l h; exact .inl h
 ·intro b' _ _ _ _ _ _ l h; exact ad h
 ·intro b' _ _ _ l h; exact ad h
 ·intro _ _ _ l h; exact .inl h
 ·intro cs ih l h; exact ih l h
 ·intro cs ih l h; exact ih l h
 ·intro _ cs ih l h; exact ih l h
 ·intro l h; exact .inl h
 ·intro u vs hu hvs l h
  rcases hvs _ h with h | h
  ·rcases hu _ h with h | h
   ·exact .inl h
   ·exact .inr (by rw [V.anyBs,h]; rfl)
  ·exact .inr (by rw [V.anyBs,h,Bool.or_true])
theorem w0r {p q:Nat→Bool}(hpq:∀ b,p b=true→q b=true){vs:List V}(h:V.anyBs p vs=true):V.anyBs q vs=true:=by
 have key:∀ v:V,v.anyB p=true→v.anyB q=true:=by
  intro v
  refine V.rec (motive_1:=λ v=>v.anyB p=true→v.anyB q=true) (motive_2:=λ l=>V.anyBs p l=true→V.anyBs q l=true)
   (λ h=>by cases h) (λ _ h=>by cases h) (λ _ _ h=>by cases h) (λ _ h=>by cases h) (λ h=>by cases h) (λ _ _ _ _ h=>by cases h) (λ b _ _ _ _ h=>hpq b h) (λ b _ _ _ _ h=>hpq b h) (λ _ _ h=>by cases h) (λ b _ _ _ _ _ _ h=>hpq b h) (λ b _ _ _ h=>hpq b h) (λ _ _ _ h=>by cases h)
   (λ _ h=>h) (λ _ h=>h) (λ _ _ h=>h) (λ h=>by cases h) (λ _ _ h1 h2 h=>?_) v
  rw [V.anyBs,Bool.or_eq_true] at h ⊢
  exact h.imp h1 h2
 exact key (.agg vs) h
theorem j1j (f:V→Option V):∀ (l:List (Option V)),(d0c f l).length=l.length:=by
 intro l
 induction l with
 | nil=>rfl
 | cons v l ih=>cases v <;> simp [d0c,ih]
theorem v0j (hI:b0w P c den)(hs:Sim Γ st a w)(hdead:∀ b,st.dead b=false)(hdup:st.dup=false){o:Oper}{f:Nat}{s:Io}{az:List Operand}{st':St}(ho:i0h c o.op=some (f,s,az))(h:c0c c den st o.dst f s az=some st')
  (next:Act→World→Prop) (Q:Exit→Act→World→Prop) (hn:∀ a' w',Sims Γ st' a' w' → next a' w'):o.wp P a w next Q:=by
 unfold i0h at ho
 split at ho
 ·rename_i f' args ts hop
  split at ho
  ·rename_i s' hcs
   simp only [sj_,Prod.mk.injEq] at ho
   obtain ⟨rfl,rfl,rfl⟩:=ho
   unfold c0c at h
   split at h
   ·rename_i d hd
    split at h
    ·rename_i p hp
     split at h
     ·rename_i r hr
      obtain ⟨⟨fn,hfn,hbody,hname⟩,outs,rfl,hcall⟩:=hI f' s' p.args r hcs hr
      have ef:a.eval (.func f') = .func (.func f') #[] #[]:=by
       obtain ⟨cv,ef,hcl,_⟩:=(show VR Γ w (.clo f' []) (a.eval (.func f')) from hs.ev (.func f')).clo_inv
       rw [ef]
       congr 1
       exact Array.eq_empty_of_size_eq_zero (by simpa using hcl.symm)
      have hexec:(execOp a.eval o).run P w = .ok (.enter f' (args.map a.eval)) w:=by
       simp [execOp,hop,ef,resolve,Deferred.ofValue,invoke,callFunc,hfn,hbody]
       have:¬ fn.name = "runtime.NumGoroutine":=by simpa using hname
       simp [this]
       intro hb
       simp [hb] at hbody
      unfold Oper.wp
      rw [hexec,Oper.upon_enter]
      -- what is handed o0v
      unfold m0w at hp
      split at hp
      ·rename_i js hjs0
       split at hp
       ·rename_i bs ds hbs hds
        split at hp
        ·rename_i hcond
         obtain ⟨c1,c2,c3,c4,c5,c6,c7,c8⟩:=hcond
         simp only [sj_] at hp
         let az:=args.toList.map (ev st.t)
         let mv:=c0b Mode.isMv s'.md az
         let dt:=c0b Mode.isData s'.md az
         let vs:=mv++bs
         let E:=V.basess [] dt
         let zs:=(c.pz (1000000+f')).headD []
         let ws:=e0n zs vs
         let Γc:=Γ.handed w (q0k vs) E js s'.nt
         let ys:List Value:=args.toList.map a.eval
         have hazl:az.length=s'.md.length:=c1
         have hysl:ys.length=s'.md.length:=by rw [← hazl]; simp [ys,az]
         have hval:∀ (i:Nat) (v:V) (y:Value),az[i]? = some v→ys[i]? = some y→VR Γ w v y:=by
          intro i v y hv hy
          simp only [az,ys,List.getElem?_map] at hv hy
          cases hc:args.toList[i]? with
          | none=>rw [hc] at hv; cases hv
          | some x=>
           rw [hc] at hv hy
           simp only [Option.map_some,sj_] at hv hy
           subst hv; subst hy
           exact hs.ev x
         obtain ⟨jl,jget⟩:=o1q hjs0
         obtain ⟨bl,bget⟩:=i1u hbs
         have hjs:∀ j∈js,Γ.lb j:=by
          intro j hj
          obtain ⟨k,hk⟩:=List.getElem?_of_mem hj
          have hlt:k < bs.length:=by rw [bl]; exact (gs_ hk).1
          obtain ⟨j',h1,h2⟩:=bget k bs[k] (List.getElem?_eq_getElem hlt)
          rw [hk] at h1
          injection h1 with h1
          subst h1
          exact (hs.bx j _ h2).1
         have hokb:∀ b∈bs,∀ u∈b.cells,f0j u=true:=λ b hb u hu=>m0c c6 u (e0p (List.mem_append_right _ hb) hu)
         obtain ⟨Xs,xl,xget⟩:=q0c (R:=λ k b X=>VR Γ w b X ∧ ∃ j cur e,js[k]? = some j∧w.heap[Γ.box j]? = some (.cells cur e (0,0))∧X.cells=cur∧b.cells.length=cur.size) bs (λ k b hk=>by
          obtain ⟨j,h1,h2⟩:=bget k b hk
          obtain ⟨_,cur,e,b2,b3,b4⟩:=hs.bx j b h2
          obtain ⟨X,e1,e2⟩:=y0z (hokb b (a0a hk)) b3 b4
          exact ⟨X,e1,j,cur,e,h1,b2,e2,b3⟩)
         obtain ⟨ml,mget⟩:=p0z (p:=Mode.isMv) s'.md az ys hazl hysl
         obtain ⟨dl,dget⟩:=p0z (p:=Mode.isData) s'.md az ys hazl hysl
         obtain ⟨pl,pget⟩:=p0z (p:=Mode.isPt) s'.md az ys hazl hysl
         have hplace:∀ (i:Nat) (v:V) (y:Value),ws[i]? = some v→(c0b Mode.isMv s'.md ys++Xs)[i]? = some y→VR Γc w v y:=by
          intro i v y hv hy
          refine i1q (hs.du hdup) (c1q c6 (λ i v y hv hy=>?_) i v y hv hy)
          rcases Nat.lt_or_ge i mv.length with hi | hi
          ·rw [List.getElem?_append_left hi] at hv
           rw [List.getElem?_append_left (by rw [← ml]; exact hi)] at hy
           obtain ⟨j,h1,h2⟩:=mget i v y hv hy
           exact hval j v y h1 h2
          ·rw [List.getElem?_append_right hi] at hv
           rw [List.getElem?_append_right (by rw [← ml]; exact hi),← ml] at hy
           obtain ⟨X,h1,h2,_⟩:=xget _ v hv
           rw [h1] at hy
           injection hy with hy
           subst hy
           exact h2
         have hwl:ws.length=mv.length+bs.length:=by
          show (e0n zs vs).length=_
          rw [s0v]
          simp [vs]
         have hRS:∀ k,Γ.S k→g0x Γ E k:=λ k hk=>.inl hk
         obtain ⟨sl,sget⟩:=y0h (R:=g0x Γ E) hs hRS dt ds hds
         let ds':=e0t (c.pz (1000000+f')).tail ds
         have hdata:∀ (k:Nat) (u:V) (y:Value),ds'[k]? = some u→(c0b Mode.isData s'.md ys)[k]? = some y→VR Γc w u y:=by
          intro k u y hu hy
          refine .rd _ _ ?_
          refine t0a (vals:=(c0b Mode.isData s'.md ys).toArray) (λ i c v h1 h2=>?_) k u y hu (by simpa using hy)
          have h2:(c0b Mode.isData s'.md ys)[i]? = some v:=by simpa using h2
          have hlt:i < dt.length:=by rw [← sl]; exact (gs_ h1).1
          obtain ⟨j,g1,g2⟩:=dget i dt[i] v (List.getElem?_eq_getElem hlt) h2
          refine sget i dt[i] c v (List.getElem?_eq_getElem hlt) h1 (hval j _ v g1 g2) (λ b hb hbs=>.inr ⟨b,f0w b (.agg dt) [] (.inr hbs),hb,rfl⟩) (λ hpp=>?_)
          rw [c8] at hpp
          cases hpp
         have hpt:∀ (k:Nat) (y:Value),(c0b Mode.isPt s'.md ys)[k]? = some y→VR Γc w (.ptr (s'.nt+k) 0) y:=by
          intro k y hy
          have hlt:k < js.length:=by rw [jl,pl]; exact (gs_ hy).1
          have hk:js[k]? = some js[k]:=List.getElem?_eq_getElem hlt
          obtain ⟨j,g1,g2⟩:=pget k _ y (jget k _ hk) hy
          obtain ⟨e1,e2⟩:=(hval j _ y g1 g2).ptr_inv
          have:=VR.ptr (Γ:=Γc) (w:=w) (s'.nt+k) 0 ⟨k,hlt,rfl⟩
          have e3:Γc.box (s'.nt+k)=Γ.box js[k]:=by
           show Γ.box (js.getD (s'.nt+k - s'.nt) 0)=_
           rw [Nat.add_sub_cancel_left,List.getD_eq_getElem?_getD,hk]
           rfl
          rw [e3] at this
          rw [e1]
          exact this
         obtain ⟨kl,kget⟩:=o1a (A:=VR Γc w) s'.md s'.nt (ws.take mv.length) ds' ys hysl (by rw [List.length_take,hwl,← ml]; exact Nat.min_eq_left (Nat.le_add_right _ _)) (by rw [q0i,sl]; exact dl)
          (λ k u y hu hy=>by
           rw [List.getElem?_take] at hu
           split at hu
           ·refine hplace k u y hu ?_
            rw [List.getElem?_append_left (gs_ hy).1]
            exact hy
           ·cases hu) hdata hpt
         have hpa:p.args=u0s s'.nt s'.md (ws.take mv.length) ds' ++ ws.drop mv.length:=by rw [← hp]
         have hpL:p.L=e0m vs:=by rw [← hp]
         have hpE:p.E=E:=by rw [← hp]
         have hpj:p.js=js:=by rw [← hp]
         have hgood:Good Γc w:=Good.handed hs.good (λ b hb=>hs.nds b hb (hdead b)) c5 hjs c4
         have hnds:∀ b,Γc.has b → ¬ Γc.S (Γc.blk b):=by
          rintro j ⟨b,h1,h2,h3⟩
          show ¬ g0x Γ E (Γ.blk (((q0k vs).getD j []).headD 0))
          rw [a0o h1]
          rintro (h | ⟨b2,i1,i2,e2⟩)
          ·exact hs.nds b h3 (hdead b) h
          ·have:=hs.good.baseInj b b2 h3 i2 e2
           subst this
           have hbL:b∈e0m vs:=mem_basesL.2 (a0a h1)
           have i4:V.anyBs (λ b'=>b' == b) dt=true:=by
            have:=l0y b (.agg dt) [] i1
            rcases this with h | h
            ·cases h
            ·exact h
           have c7':V.anyBs (e0m vs).contains dt=false:=c7
           rw [w0r (λ b' hb'=>by simp only [beq_iff_eq] at hb'; subst hb'; simpa using hbL) i4] at c7'
           cases c7'
         have hEL:∀ b∈E,b ∉ e0m vs:=by
          intro b hb hbL
          have i4:V.anyBs (λ b'=>b' == b) dt=true:=by
           have:=l0y b (.agg dt) [] hb
           rcases this with h | h
           ·cases h
           ·exact h
          have c7':V.anyBs (e0m vs).contains dt=false:=c7
          rw [w0r (λ b' hb'=>by simp only [beq_iff_eq] at hb'; subst hb'; simpa using hbL) i4] at c7'
          cases c7'
         have hsim:Sim Γc (n1b s' p.args) { tmps:=args.map a.eval++Array.replicate (s'.nt - (args.map a.eval).size) undef,defers:=[] } w:=by
          have hvsz:(args.map a.eval).size=s'.md.length:=by rw [← hysl]; simp [ys]
          refine ⟨hgood,rfl,?_,λ i v hi=>?_,λ k v hk=>?_,λ b hb _=>hnds b hb,λ _=>trivial,λ _ b b' hb hb' _ _ hne m hm hm'=>?_,?_⟩
          ·simp only [n1b,hpa,List.length_append,List.length_take,List.length_replicate,Array.size_append,Array.size_replicate,hvsz,kl]
           rw [Nat.min_eq_left (Nat.le_add_right _ _)]
          ·have htk:p.args.take s'.md.length=u0s s'.nt s'.md (ws.take mv.length) ds':=by rw [hpa,List.take_left' kl]
           simp only [n1b,htk] at hi ⊢
           rcases Nat.lt_or_ge i s'.md.length with h1 | h1
           ·rw [List.getElem?_append_left (by rw [kl]; exact h1)] at hi
            have h2:i < (args.map a.eval).size:=by rw [hvsz]; exact h1
            refine ⟨(args.map a.eval)[i],by rw [Array.getElem?_append_left h2]; exact Array.getElem?_eq_getElem h2,kget i v _ hi ?_⟩
            have:ys=(args.map a.eval).toList:=by simp [ys]
            rw [this,Array.getElem?_toList]
            exact Array.getElem?_eq_getElem h2
           ·rw [List.getElem?_append_right (by rw [kl]; exact h1),List.getElem?_replicate] at hi
            split at hi
            ·rename_i h3
             simp only [sj_] at hi
             subst hi
             refine ⟨undef,?_,VR.undef_ _⟩
             rw [Array.getElem?_append_right (by rw [hvsz]; exact h1),Array.getElem?_replicate,if_pos (by rw [hvsz]; rw [kl] at h3; exact h3)]
            ·cases hi
          ·have hdr:p.args.drop s'.md.length=ws.drop mv.length:=by rw [hpa,List.drop_left' kl]
           simp only [n1b,hdr] at hk
           rcases Nat.lt_or_ge k s'.nt with h1 | h1
           ·rw [List.getElem?_append_left (by simpa using h1),List.getElem?_replicate] at hk
            split at hk <;> cases hk
           ·rw [List.getElem?_append_right (by simpa using h1),List.length_replicate,List.getElem?_map] at hk
            cases hc:(ws.drop mv.length)[k - s'.nt]? with
            | none=>rw [hc] at hk; cases hk
            | some z=>
             rw [hc] at hk
             simp only [Option.map_some,sj_] at hk
             subst hk
             have hklt:k - s'.nt < bs.length:=by
              have:=(gs_ hc).1
              rw [List.length_drop,hwl] at this
              omega
             have hbk:bs[k - s'.nt]? = some bs[k - s'.nt]:=List.getElem?_eq_getElem hklt
             obtain ⟨X,x1,x2,j,cur,e,x3,x4,x5,x6⟩:=xget _ _ hbk
             rw [List.getElem?_drop] at hc
             have hz:VR Γc w z X:=by
              refine hplace _ z X hc ?_
              rw [List.getElem?_append_right (by rw [← ml]; exact Nat.le_add_right _ _),← ml]
              show Xs[mv.length+(k - s'.nt) - mv.length]? = _
              rw [Nat.add_sub_cancel_left]
              exact x1
             have hzl:z.cells.length=bs[k - s'.nt].cells.length:=by
              refine i0y c6 _ z _ hc ?_
              rw [List.getElem?_append_right (Nat.le_add_right _ _),Nat.add_sub_cancel_left]
              exact hbk
             refine ⟨⟨k - s'.nt,by rw [← bl]; exact hklt,by omega⟩,cur,e,?_,by rw [hzl]; exact x6,?_⟩
             ·have e3:Γc.box k=Γ.box j:=by
               show Γ.box (js.getD (k - s'.nt) 0)=_
               rw [List.getD_eq_getElem?_getD,x3]
               rfl
              rw [e3]; exact x4
             ·rw [← x5]
              exact hz.cells (by rw [hzl,x5]; exact x6)
          ·obtain ⟨b1,h1,h2,h3⟩:=hb
           obtain ⟨b2,h1',h2',h3'⟩:=hb'
           change Γ.N (((q0k vs).getD b []).headD 0) m at hm
           change Γ.N (((q0k vs).getD b' []).headD 0) m at hm'
           rw [a0o h1] at hm
           rw [a0o h1'] at hm'
           exact hs.nd (hs.du hdup) b1 b2 h3 h3' (hdead _) (hdead _) (λ e=>hne (by rw [← h2,← h2',e])) m hm hm'
          ·show (p.args.take s'.md.length++List.replicate (s'.nt - s'.md.length) V.undef).length=s'.nt
           rw [hpa,List.take_left' kl,List.length_append,kl,List.length_replicate]
           omega
         refine Calls.mono (hcall Γc w _ rfl rfl (by rw [← hysl]; simp [ys]) c2 hsim) (λ e w' he=>?_)
         cases e with
         | panicked _=>cases he
         | outgrown=>cases he
         | returned x=>
          refine hn _ _ ?_
          rw [hd]
          -- the way home
          unfold k0h at h
          simp only at h
          rw [hpL,hpE,hpj] at h
          split at h
          ·rename_i hc2
           obtain ⟨d1,d2,d3,d4,d5⟩:=hc2
           have hnb:js.length=s'.nb:=c3
           rw [hnb] at h
           obtain ⟨Γ'',hsame,hsim2,hr0,hr1⟩:=Sim.ioHome (m:=!a0i st.dead (if V.olds outs then E else [])) hs hdead hdup c5 hjs c4 hnb hEL he d1 d3 d5
           have hput:∀ (v:V),VR Γ'' w' v x→Sims Γ (((({ st.sweep (a0p (e0m vs)) with t:=(st.sweep (a0p (e0m vs))).t.set d v,h:=d0x (st.sweep (a0p (e0m vs))).h js (V.mapBs (d0t d) (outs.drop (outs.length - s'.nb))) }:St).kill (if V.olds outs then E else [])).mark (!a0i st.dead (if V.olds outs then E else [])))) (a.put (some d) x) w':=by
            intro v hv
            refine ⟨Γ'',hsame,?_⟩
            have:=hsim2.put (d:=d) hv
            simp only [St.kill,St.mark,List.set_set] at this ⊢
            have e:(a.put (some d) x).put (some d) x=a.put (some d) x:=by simp [Act.put]
            rw [e] at this
            exact this
           split at h
           ·rename_i x0 hrb hrs
            split at h
            ·rename_i hc3
             obtain ⟨f1,f2,f3,f4,f5⟩:=hc3
             simp only [sj_] at h
             subst h
             obtain ⟨B,r,r1,r2,r3,r4,r5,r6,r7,r8⟩:=hr1 hrb
             rw [r1] at hrs
             simp only [V.mapBs,List.cons.injEq,and_true] at hrs
             subst hrs
             have hadd:=hsim2.addBox (d:=d) (B:=B) (r:=r.mapB (d0t d)) (by simpa [St.kill,St.mark,St.sweep,a0f] using f1) (by
              have:∀ (js:List Nat) (bs:List V) (h:List (Option V)),(d0x h js bs).length=h.length:=by
               intro js
               induction js with
               | nil=>intro bs h; rfl
               | cons j js ih=>intro bs h; cases bs with
                | nil=>rfl
                | cons b bs=>rw [d0x,ih,List.length_set]
              simp only [St.kill,St.mark,St.sweep]
              rw [this,j1j]
              exact f2) (λ i u hi hu=>by
              simp only [St.kill,St.mark] at hu
              rw [List.getElem?_set,if_neg (λ e=>hi e.symm)] at hu
              exact i1j f4 i u hi hu) (λ i u hu=>by
              simp only [St.kill,St.mark] at hu
              rcases o0d js _ _ i u (by rw [a0f,List.length_drop,hnb]; omega) hu with ⟨k,_,h2⟩ | ⟨h1,_⟩
              ·rw [a0e] at h2
               cases hc:(outs.drop (outs.length - s'.nb))[k]? with
               | none=>rw [hc] at h2; cases h2
               | some z=>
                rw [hc] at h2
                simp only [Option.map_some,sj_] at h2
                subst h2
                exact p1j d _ z
              ·exact i1i f4 i u h1) r3 f5 (by rw [hsame.2.1]; exact r4) r5 r6 r7 r8
             refine Sims.of hsame ?_
             simp only [St.kill,St.mark,List.set_set] at hadd ⊢
             rw [r2]
             rw [r2] at hadd
             have e:(a.put (some d) (.pointer (some ⟨B,0,none⟩))).put (some d) (.pointer (some ⟨B,0,none⟩))=a.put (some d) (.pointer (some ⟨B,0,none⟩)):=by simp [Act.put]
             rw [e] at hadd
             exact hadd
            ·cases h
           ·cases h
           ·rename_i x0 hrb hrs
            simp only [sj_] at h
            subst h
            obtain ⟨ys0,y1,y2,y3⟩:=hr0 hrb
            have hlen:(V.mapBs (d0t d) (outs.take (outs.length - s'.nb))).length=1:=by rw [hrs]; rfl
            rw [a0f,List.length_take] at hlen
            have hl1:ys0.length=1:=by omega
            refine hput x0 ?_
            have hsz:ys0.toArray.size=1:=by simpa using hl1
            rw [y3,dif_pos hsz]
            refine y2 0 x0 _ ?_ (by simp [List.getElem?_eq_getElem,hl1])
            have h0:(V.mapBs (d0t d) (outs.take (outs.length - s'.nb)))[0]? = some x0:=by rw [hrs]; rfl
            rw [a0e,List.getElem?_take,if_pos (by omega)] at h0
            rw [a0e]
            exact h0
           ·rename_i hrb hns
            simp only [sj_] at h
            subst h
            obtain ⟨ys0,y1,y2,y3⟩:=hr0 hrb
            have hlen:(V.mapBs (d0t d) (outs.take (outs.length - s'.nb))).length=ys0.length:=by rw [a0f,List.length_take,y1]; omega
            refine hput _ ?_
            have hsz:¬ ys0.toArray.size=1:=by
             intro e
             have e:ys0.length=1:=by simpa using e
             rw [e] at hlen
             obtain ⟨z,hz⟩:=List.length_eq_one_iff.1 hlen
             exact hns z hz
            rw [y3,dif_neg hsz]
            refine .tup _ _ (by simpa using hlen) (λ i z y hz hy=>y2 i z y ?_ (by simpa using hy))
            rw [a0e,List.getElem?_take] at hz
            rw [a0e]
            split at hz
            ·exact hz
            ·cases hz
          ·cases h
        ·cases hp
       ·cases hp
      ·cases hp
     ·cases h
    ·cases h
   ·cases h
  ·cases ho
 ·cases ho
theorem a1y (hA:b0l P c)(hW:g1y P c)(hD:a0r P den)(hI:b0w P c den)(hs:Sim Γ st a w){o:Oper}{st':St}(h:m0o c den st o=some st')
  (next:Act→World→Prop) (Q:Exit→Act→World→Prop) (hn:∀ a' w',Sims Γ st' a' w' → next a' w'):o.wp P a w next Q:=by
 unfold m0o at h
 split at h
 ·rename_i g x hg
  exact p1f hW hs hg h next Q hn
 ·split at h
  ·rename_i f s az hi
   obtain ⟨Γ1,hsame,hs1⟩:=hs.head ([],[])
   exact v0j hI hs1 (λ b=>by rw [h0d]) (j0r _ _) hi h next Q (λ a' w' h'=>hn a' w' (Sims.of hsame h'))
  ·exact j0x hA hD hs h next Q hn
theorem f1i (hA:b0l P c)(hW:g1y P c)(hD:a0r P den)(hI:b0w P c den){ops:Array Oper}{Q:Exit→Act→World→Prop}:∀ (l:List Oper) (Γ:Ctx) (st:St) (a:Act) (w:World) (st':St),Sim Γ st a w→b0n c den ops l st=some st' →
  (∀ a' w',Sims Γ st' a' w' → Q .normal a' w')→wpList P ops Q l a w:=by
 intro l
 induction l with
 | nil=>
  intro Γ st a w st' hs h hQ
  simp only [b0n,sj_] at h
  subst h
  exact wpList_nil (hQ a w ⟨Γ,Same.rfl',hs⟩)
 | cons o l ih=>
  intro Γ st a w st' hs h hQ
  simp only [b0n] at h
  split at h
  ·cases h
  ·rename_i hw
   split at h
   ·rename_i s hst
    refine wpList_step λ K hK=>?_
    rw [if_pos (m0p hs hw)]
    exact a1y hA hW hD hI hs hst K Q (λ a' w' ⟨Γ',hsame,hs'⟩=>hK _ _ (ih Γ' s a' w' st' hs' h (λ a2 w2 h2=>hQ _ _ (Sims.of hsame h2))))
   ·cases h
  ·rename_i hw
   refine wpList_step λ K hK=>?_
   rw [if_neg (by rw [m0p hs hw]; simp)]
   refine hK _ _ ?_
   split at h
   ·rename_i d hd
    rw [hd]
    exact ih Γ _ _ w st' (q0u hs d) h hQ
   ·rename_i hd
    rw [hd]
    exact ih Γ _ _ w st' hs h hQ
end
end Go.Am
