/-
  Proved: lemmas for Rows.FnFormatsCardSaid.
-/
import Derived.Test.YtmkhgngckgcpeaaGreatDooruAmIo2
set_option linter.all false
section
namespace Go.Am
open Go Go.RowKit
section
variable {P:Program}{c:Cfg}{Γ Γ':Ctx}{st:St}{a:Act}{w w':World}{den:Nat->List V->Option V}{η:Nat->Option V}{d:Nat}
theorem nI {p:Mode->Bool}:∀(b:List Mode) (az:List V) (ys:List Value),az.length=b.length->ys.length=b.length ->
  (bI p b az).length=(bI p b ys).length /\ ∀(k:Nat) (v:V) (y:Value),(bI p b az)[k]?=some v->(bI p b ys)[k]?=some y -> ∃i:Nat,az[i]?=some v/\ys[i]?=some y:=by
 intro b;induction b with
 |nil=>intro az ys _ _;cases az<;>cases ys<;>exact⟨rfl,λk v y h=>by simp[bI]at h⟩
 |cons m b s=>
  intro az ys o r;cases az with
  |nil=>simp at o
  |cons v az=>
   cases ys with
   |nil=>simp at r
   |cons y ys=>
    obtain⟨q,n⟩:=s az ys (by simpa using o) (by simpa using r);simp only[bI];cases p m with
    |true=>
     refine⟨by simp[q],λk v' g e f=>?_⟩;cases k with
     |zero=>exact⟨0,by simpa using e,by simpa using f⟩
     |succ k =>obtain⟨i,l,j⟩:=n k v' g (by simpa using e) (by simpa using f);exact⟨i+1,by simpa using l,by simpa using j⟩
    |false =>refine⟨q,λk v' g e f=>?_⟩;obtain⟨i,l,j⟩:=n k v' g e f;exact⟨i+1,by simpa using l,by simpa using j⟩
theorem Ej {A:V->Value->Prop}:∀(e:List Mode) (n:Nat) (g f:List V) (ys:List Value),ys.length=e.length->g.length=(bI Mode.isMv e ys).length->f.length=(bI Mode.isData e ys).length ->
  (∀(k:Nat) (u:V) (y:Value),g[k]?=some u->(bI Mode.isMv e ys)[k]?=some y->A u y)->(∀(k:Nat) (u:V) (y:Value),f[k]?=some u->(bI Mode.isData e ys)[k]?=some y->A u y) ->
  (∀(k:Nat) (y:Value),(bI Mode.isPt e ys)[k]?=some y->A (.ptr (n+k) 0) y)->(iB n e g f).length=e.length /\ ∀(i:Nat) (u:V) (y:Value),(iB n e g f)[i]?=some u->ys[i]?=some y->A u y:=by
 intro e;induction e with
 |nil=>intro n g f ys _ _ _ _ _ _;exact⟨by simp[iB],λi u y h=>by simp[iB]at h⟩
 |cons m e C=>
  intro n g f ys B s p q o r;cases ys with
  |nil=>simp at B
  |cons y ys=>
   cases m with
   |mv=>
    simp only[bI,Mode.isMv,Mode.isData,Mode.isPt]at s p q o r;cases g with
    |nil=>simp at s
    |cons u g=>
     obtain⟨z,t⟩:=C n g f ys (by simpa using B) (by simpa using s) p (λk u y a b=>q (k+1) u y (by simpa using a) (by simpa using b)) o r;refine⟨by simp[iB,z],λi x v j l=>?_⟩;cases i with
     |zero =>simp only[iB,List.getElem?_cons_zero,aK]at j l;subst j;subst l;exact q 0 u y rfl rfl
     |succ i=>exact t i x v (by simpa[iB]using j) (by simpa using l)
   |data=>
    simp only[bI,Mode.isMv,Mode.isData,Mode.isPt]at s p q o r;cases f with
    |nil=>simp at p
    |cons u f=>
     obtain⟨z,t⟩:=C n g f ys (by simpa using B) s (by simpa using p) q (λk u y a b=>o (k+1) u y (by simpa using a) (by simpa using b)) r;refine⟨by simp[iB,z],λi x v j l=>?_⟩;cases i with
     |zero =>simp only[iB,List.getElem?_cons_zero,aK]at j l;subst j;subst l;exact o 0 u y rfl rfl
     |succ i=>exact t i x v (by simpa[iB]using j) (by simpa using l)
   |pt=>
    simp only[bI,Mode.isMv,Mode.isData,Mode.isPt]at s p q o r;obtain⟨z,t⟩:=C (n+1) g f ys (by simpa using B) s p q o (λk y D=>by have:=r (k+1) y (by simpa using D);rwa[show n+(k+1)=n+1+k by omega]at this);refine⟨by simp[iB,z],λi x v j l=>?_⟩;cases i with
    |zero =>simp only[iB,List.getElem?_cons_zero,aK]at j l;subst j;subst l;exact r 0 y rfl
    |succ i=>exact t i x v (by simpa[iB]using j) (by simpa using l)
theorem FN:∀{l:List V} {b:List Nat},CD l=some b->b.length=l.length /\ ∀k j:Nat,b[k]?=some j->l[k]?=some (.ptr j 0):=by
 intro l;induction l with
 |nil=>intro b h;simp only[CD,aK]at h;subst h;exact⟨rfl,λk j h=>by simp at h⟩
 |cons v l o=>
  intro b h;unfold CD at h;split at h;·cases(by assumption:v :: l=[])
  ·rename_i j vs f;injection f with q n;subst q;subst n;cases g:CD l with
   |none=>rw[g]at h;cases h
   |some m=>
    rw[g]at h;simp only[Option.map_some,aK]at h;subst h;obtain⟨p,r⟩:=o g;refine⟨by simp[p],λk i e=>?_⟩;cases k with
    |zero=>simp only[List.getElem?_cons_zero,aK]at e ⊢;rw[e]
    |succ k=>exact r k i (by simpa using e)
  ·cases h
theorem sn {h:List (Option V)}:∀{g:List Nat} {i:List V},sj h g=some i->i.length=g.length /\ ∀(k:Nat) (b:V),i[k]?=some b -> ∃j,g[k]?=some j/\h[j]?=some (some b):=by
 intro g;induction g with
 |nil=>intro i h;simp only[sj,aK]at h;subst h;exact⟨rfl,λk b h=>by simp at h⟩
 |cons j g o=>
  intro i e;simp only[sj]at e;cases f:h.getD j none with
  |none=>rw[f]at e;cases e
  |some r=>
   cases l:sj h g with
   |none=>rw[f,l]at e;cases e
   |some q=>
    rw[f,l]at e;simp only[aK]at e;subst e;obtain⟨p,n⟩:=o l;refine⟨by simp[p],λk b m=>?_⟩;cases k with
    |zero=>
     simp only[List.getElem?_cons_zero,aK]at m;subst m;refine⟨j,rfl,?_⟩;rw[List.getD_eq_getElem?_getD]at f;cases hh:h[j]? with
     |none=>rw[hh]at f;cases f
     |some y=>rw[hh]at f;exact congrArg _ f
    |succ k=>exact n k b (by simpa using m)
theorem nl {R:Nat->V->Value->Prop}:∀(e:List V),(∀(k:Nat) (b:V),e[k]?=some b -> ∃X,R k b X) -> ∃Xs:List Value,Xs.length=e.length /\ ∀(k:Nat) (b:V),e[k]?=some b -> ∃X,Xs[k]?=some X/\R k b X:=by
 intro e;induction e generalizing R with
 |nil=>intro _;exact⟨[],rfl,λk b h=>by simp at h⟩
 |cons b e j=>
  intro h;obtain⟨X,n⟩:=h 0 b rfl;obtain⟨Xs,m,o⟩:=j (R:=λk=>R (k+1)) (λk b f=>h (k+1) b (by simpa using f));refine⟨X :: Xs,by simp[m],λk i f=>?_⟩;cases k with
  |zero=>simp only[List.getElem?_cons_zero,aK]at f;subst f;exact⟨X,rfl,n⟩
  |succ k =>obtain⟨Y,g,l⟩:=o k i (by simpa using f);exact⟨Y,by simpa using g,l⟩
theorem tu {r:V}{b:Array Value}(m:∀u∈r.cells,dC u=true)(o:r.cells.length=b.size)(n:∀(j:Nat) (c:V),r.cells[j]?=some c -> ∃x,b[j]?=some x/\VR Γ w c x):∃X:Value,VR Γ w r X/\X.cells=b:=by
 cases r with
 |agg cs =>refine⟨.agg b,.agg cs b o (λi c v p k=>?_),rfl⟩;obtain⟨x,h,e⟩:=n i c p;rw[h]at k;injection k with k;subst k;exact e
 |undef=>exact⟨.agg b,VR.undef_ _,rfl⟩
 |_=>
  obtain⟨x,h,e⟩:=n 0 _ rfl;have g:b = #[x]:=by
   obtain⟨l⟩:=b;cases l with
   |nil=>simp at h
   |cons y l=>cases l with
    |nil=>simp at h;rw[h]
    |cons z l=>simp[V.cells]at o
  have f:=m _ (List.mem_singleton.2 rfl);refine⟨x,e,?_⟩;rw[g]
  first
   |(cases f;done)
   |(rw[e.bool_inv];rfl)
   |(rw[e.int_inv];rfl)
   |(obtain⟨y,rfl,_⟩:=e.str_inv;rfl)
   |(rw[e.nil_inv];rfl)
   |(rcases e.own_inv with⟨rfl,_,_⟩|⟨rfl,_⟩<;>rfl)
   |(rcases e.view_inv with⟨_,_,rfl,rfl⟩|⟨_,_,rfl,_⟩<;>rfl)
   |(have:=e.sl_inv;cases this<;>rfl)
   |(obtain⟨_,_,_,rfl,_⟩:=e.iptr_inv;rfl)
theorem Sim.addBox {r:V}{B:Nat}(hs:Sim Γ st a w)(K:d<st.t.length)(hd:d<st.h.length)(T:∀(i:Nat) (u:V),i≠d->st.t[i]?=some u->u.anyP (λb=>b==d)=false)(M:∀(i:Nat) (u:V),st.h[i]?=some (some u)->u.anyP (λb=>b==d)=false)
  (hB:BoxAt Γ w B r) (N:r.anyP (λb=>b==d)=false) (hF:Γ.F B) (G:B<w.heap.size) (X:¬Γ.S B) (L:∀b,Γ.has b->Γ.blk b≠B) (J:∀k,Γ.lb k->Γ.box k≠B) :
  Sims Γ { st with t:=st.t.set d (.ptr d 0),h:=st.h.set d (some r) } (a.put (some d) (.pointer (some ⟨B,0,none⟩))) w:=by
 let Γ':Ctx:={ Γ with lb:=λk=>Γ.lb k/\k≠d\/k=d,box:=λk=>if k=d then B else Γ.box k };refine⟨Γ',⟨rfl,rfl,rfl,rfl,rfl,λk f=>if_neg (by have:=hs.nt;omega)⟩,?_⟩;have q:∀{u:V} {y:Value},VR Γ w u y->u.anyP (λb=>b==d)=false->VR Γ' w u y:=by
  intro u y l U;refine VR.mono (Γ:=Γ) (Γ':=Γ') (p:=λ_=>false) (r:=λb=>b==d) (λh=>h) (λ_ h=>h) (λ_ h=>h) (λ_ _ _=>rfl) (λb _=>⟨Iff.rfl,λhh=>⟨rfl,rfl,rfl,rfl,rfl,λ_ h=>h,λo=>rfl⟩⟩) (λk f=>?_) l (bN u) U;have f:k≠d:=by simpa using f
  exact⟨λh=>.inl ⟨h,f⟩,if_neg f⟩
 have g:=hs.good;have E:Good Γ' w:=by
  refine⟨g.os,g.tape,g.output,g.size,g.old,g.new,g.slt,g.base,g.baseInj,λk f=>?_,λk H f m D=>?_,λb k W f=>?_,g.sr,g.gl,g.bz,g.zf,g.ns,g.h9⟩
  ·by_cases n:k=d;·subst n;show Γ.F (if k=k then _ else _) /\ ¬Γ.S (if k=k then _ else _)/\(if k=k then _ else _)<_;rw[if_pos rfl];exact⟨hF,X,G⟩
   ·rcases f with⟨f,_⟩|f;·show Γ.F (if k=d then _ else _) /\ ¬Γ.S (if k=d then _ else _)/\(if k=d then _ else _)<_;rw[if_neg n];exact g.box k f
    ·exact absurd f n
  ·change (if k=d then B else Γ.box k)=(if H=d then B else Γ.box H)at D;by_cases s:k=d
   ·by_cases v:H=d;·rw[s,v]
    ·rcases m with⟨m,_⟩|m;·rw[if_pos s,if_neg v]at D;exact absurd D.symm (J H m)
     ·exact absurd m v
   ·rcases f with⟨f,_⟩|f
    ·by_cases v:H=d;·rw[if_neg s,if_pos v]at D;exact absurd D (J k f)
     ·rcases m with⟨m,_⟩|m;·rw[if_neg s,if_neg v]at D;exact g.boxInj k H f m D
      ·exact absurd m v
    ·exact absurd f s
  ·show Γ.blk b≠(if k=d then B else Γ.box k);by_cases s:k=d;·rw[if_pos s];exact L b W
   ·rcases f with⟨f,_⟩|f;·rw[if_neg s];exact g.baseBox b k W f
    ·exact absurd f s
 have O:=hs.nt;clear K;refine⟨E,hs.dz,by simp[Act.put,hs.len],λi u l=>?_,λk u l=>?_,hs.nds,hs.du,hs.nd,by simp[O,Γ']⟩
 ·simp only[Act.put]at l ⊢;rw[List.getElem?_set]at l;split at l
  ·rename_i x;subst x;split at l;·rename_i G;injection l with l;subst l;refine⟨.pointer (some ⟨B,0,none⟩),by rw[Array.getElem?_setIfInBounds];simp[hs.len,G],?_⟩;have:=VR.ptr (Γ:=Γ') (w:=w) d 0 (.inr rfl);have A:Γ'.box d=B:=if_pos rfl;rwa[A]at this
   ·cases l
  ·rename_i x;obtain⟨y,hy,h⟩:=hs.tm i u l;exact⟨y,by rw[Array.getElem?_setIfInBounds];simp[x,hy],q h (T i u (λe=>x e.symm) l)⟩
 ·simp only at l;rw[List.getElem?_set]at l;split at l
  ·rename_i n;subst n;injection l with l;injection l with l;subst l;obtain⟨cs,e,b1,b2,b3⟩:=hB;refine⟨.inr rfl,cs,e,?_,b2,λj z I=>?_⟩;·have A:Γ'.box d=B:=if_pos rfl;rw[A];exact b1
   ·obtain⟨y,A,Q⟩:=b3 j z I;exact⟨y,A,q Q (iW N I)⟩
  ·rename_i n;obtain⟨s,R,Z,v,h3,Y⟩:=hs.bx k u l;have C:k≠d:=λe=>n e.symm;refine⟨.inl ⟨s,C⟩,R,Z,?_,h3,λj z I=>?_⟩;·have A:Γ'.box k=Γ.box k:=if_neg C;rw[A];exact v
   ·obtain⟨y,A,Q⟩:=Y j z I;exact⟨y,A,q Q (iW (M k u l) I)⟩
theorem GP (d:Nat)(p:Nat->Bool)(v:V):(v.mapB (cM d)).anyP p=false:=
 V.rec (motive_1:=λv=>(v.mapB (cM d)).anyP p=false) (motive_2:=λl=>V.anyPs p (V.mapBs (cM d) l)=false)
  rfl (λ_=>rfl) (λ_ _=>rfl) (λ_=>rfl) rfl (λ_ _ _ _=>rfl) (λ_ _ _ _ _=>rfl) (λ_ _ _ _ _=>rfl) (λ_ _=>rfl) (λ_ _ _ _ _ _ _=>rfl) (λ_ _ _ _=>rfl) (λ_ _ _=>rfl)
  (λ_ h=>h) (λ_ h=>h) (λ_ _ h=>h) rfl (λ_ _ b e=>by rw[V.mapBs,V.anyPs,b,e];rfl) v
theorem lM (b:Nat)(v:V):∀l,b∈V.bases l v->b∈l\/v.anyB (λf=>f==b)=true:=by
 have i:∀{l:List Nat} {f:Nat},b∈xv l f->b∈l\/(f==b)=true:=λ{l f} h=>(addB_mem.1 h).imp id (λe=>by simp[e])
 refine V.rec (motive_1:=λv=>∀l,b∈V.bases l v->b∈l\/v.anyB (λf=>f==b)=true) (motive_2:=λvs=>∀l,b∈V.basess l vs->b∈l\/V.anyBs (λf=>f==b) vs=true)
  ?_ ?_ ?_ ?_ ?_ ?_ ?_ ?_ ?_ ?_ ?_ ?_ ?_ ?_ ?_ ?_ ?_ v
 ·intro l h;exact .inl h
 ·intro _ l h;exact .inl h
 ·intro _ _ l h;exact .inl h
 ·intro _ l h;exact .inl h
 ·intro l h;exact .inl h
 ·intro _ _ _ _ l h;exact .inl h
 ·intro f _ _ _ _ l h;exact i h
 ·intro f _ _ _ _ l h;exact i h
 ·intro _ _ l h;exact .inl h
 ·intro f _ _ _ _ _ _ l h;exact i h
 ·intro f _ _ _ l h;exact i h
 ·intro _ _ _ l h;exact .inl h
 ·intro cs g l h;exact g l h
 ·intro cs g l h;exact g l h
 ·intro _ cs g l h;exact g l h
 ·intro l h;exact .inl h
 ·intro u vs k j l h;rcases j _ h with h|h
  ·rcases k _ h with h|h;·exact .inl h
   ·exact .inr (by rw[V.anyBs,h];rfl)
  ·exact .inr (by rw[V.anyBs,h,Bool.or_true])
theorem sW {p q:Nat->Bool}(e:∀b,p b=true->q b=true){vs:List V}(h:V.anyBs p vs=true):V.anyBs q vs=true:=by
 have f:∀v:V,v.anyB p=true->v.anyB q=true:=by
  intro v
  refine V.rec (motive_1:=λv=>v.anyB p=true->v.anyB q=true) (motive_2:=λl=>V.anyBs p l=true->V.anyBs q l=true)
   (λh=>by cases h) (λ_ h=>by cases h) (λ_ _ h=>by cases h) (λ_ h=>by cases h) (λh=>by cases h) (λ_ _ _ _ h=>by cases h) (λb _ _ _ _ h=>e b h) (λb _ _ _ _ h=>e b h) (λ_ _ h=>by cases h) (λb _ _ _ _ _ _ h=>e b h) (λb _ _ _ h=>e b h) (λ_ _ _ h=>by cases h)
   (λ_ h=>h) (λ_ h=>h) (λ_ _ h=>h) (λh=>by cases h) (λ_ _ i g h=>?_) v
  rw[V.anyBs,Bool.or_eq_true]at h ⊢;exact h.imp i g
 exact f (.agg vs) h
theorem B7 (f:V->Option V):∀(l:List (Option V)),(jz f l).length=l.length:=by
 intro l;induction l with
 |nil=>rfl
 |cons v l b=>cases v<;>simp[jz,b]
theorem FY (hI:cZ P c den)(hs:Sim Γ st a w)(hdead:∀b,st.dead b=false)(hdup:st.dup=false){o:Oper}{f:Nat}{s:Io}{az:List Operand}{st':St}(ho:ll c o.op=some (f,s,az))(h:fc c den st o.dst f s az=some st')
  (next:Act->World->Prop) (Q:Exit->Act->World->Prop) (hn:∀a' w',Sims Γ st' a' w'->(∀p,lJ c st f s (az.map (ev st.t))=some p -> ∀k,k<w.heap.size->(∀b∈p.L,Γ.has b->k≠Γ.blk b)->(∀j∈p.js,k≠Γ.box j)->w'.heap[k]?=w.heap[k]?)->next a' w'):o.wp P a w next Q:=by
 unfold ll at ho;split at ho
 ·rename_i f' args ts hop;split at ho
  ·rename_i s' hcs;simp only[aK,Prod.mk.injEq]at ho;obtain⟨rfl,rfl,rfl⟩:=ho;unfold fc at h;split at h
   ·rename_i d hd;split at h
    ·rename_i p hp;split at h
     ·rename_i r hr;obtain⟨⟨fn,hfn,hbody,hname⟩,outs,rfl,hcall⟩:=hI f' s' p.args r hcs hr;have ef:a.eval (.func f') = .func (.func f') #[] #[]:=by obtain⟨cv,ef,hcl,_⟩:=(show VR Γ w (.clo f' []) (a.eval (.func f'))from hs.ev (.func f')).clo_inv;rw[ef];congr 1;exact Array.eq_empty_of_size_eq_zero (by simpa using hcl.symm)
      have hexec:(execOp a.eval o).run P w = .ok (.enter f' (args.map a.eval)) w:=by
       simp[execOp,hop,ef,resolve,Deferred.ofValue,invoke,callFunc,hfn,hbody];have:¬fn.name = "runtime.NumGoroutine":=by simpa using hname
       simp[this];intro hb;simp[hb]at hbody
      unfold Oper.wp;rw[hexec,Oper.upon_enter]
      -- what is handed over
      have hp0:=hp;unfold lJ at hp;split at hp
      ·rename_i js hjs0;split at hp
       ·rename_i bs ds hbs hds;split at hp
        ·rename_i hcond;obtain⟨c1,c2,c3,c4,c5,c6,c7,c8,c9⟩:=hcond;simp only[aK]at hp;let az:=args.toList.map (ev st.t);let mv:=bI Mode.isMv s'.md az;let dt:=bI Mode.isData s'.md az;let vs:=mv++bs;let E:=V.basess [] dt;let zs:=(c.pz (1000000+f')).headD [];let ws:=cL zs vs;let Γc:=Γ.handed w (ff vs) E js s'.nt;let ys:List Value:=args.toList.map a.eval;have hazl:az.length=s'.md.length:=c1;have hysl:ys.length=s'.md.length:=by rw[<-hazl];simp[ys,az]
         have hval:∀(i:Nat) (v:V) (y:Value),az[i]?=some v->ys[i]?=some y->VR Γ w v y:=by
          intro i v y hv hy;simp only[az,ys,List.getElem?_map]at hv hy;cases hc:args.toList[i]? with
          |none=>rw[hc]at hv;cases hv
          |some x =>rw[hc]at hv hy;simp only[Option.map_some,aK]at hv hy;subst hv;subst hy;exact hs.ev x
         obtain⟨jl,jget⟩:=FN hjs0;obtain⟨bl,bget⟩:=sn hbs;have hjs:∀j∈js,Γ.lb j:=by
          intro j hj;obtain⟨k,hk⟩:=List.getElem?_of_mem hj;have hlt:k<bs.length:=by rw[bl];exact(bW hk).1
          obtain⟨j',h1,h2⟩:=bget k bs[k] (List.getElem?_eq_getElem hlt);rw[hk]at h1;injection h1 with h1;subst h1;exact(hs.bx j _ h2).1
         have hokb:∀b∈bs,∀u∈b.cells,dC u=true:=λb hb u hu=>kR c6 u (df (List.mem_append_right _ hb) hu)
         obtain⟨Xs,xl,xget⟩:=nl (R:=λk b X=>VR Γ w b X /\ ∃j cur e,js[k]?=some j/\w.heap[Γ.box j]?=some (.cells cur e (0,0))/\X.cells=cur/\b.cells.length=cur.size) bs (λk b hk=>by
          obtain⟨j,h1,h2⟩:=bget k b hk
          obtain⟨_,cur,e,b2,b3,b4⟩:=hs.bx j b h2
          obtain⟨X,e1,e2⟩:=tu (hokb b (aA hk)) b3 b4
          exact⟨X,e1,j,cur,e,h1,b2,e2,b3⟩)
         obtain⟨ml,mget⟩:=nI (p:=Mode.isMv) s'.md az ys hazl hysl;obtain⟨dl,dget⟩:=nI (p:=Mode.isData) s'.md az ys hazl hysl;obtain⟨pl,pget⟩:=nI (p:=Mode.isPt) s'.md az ys hazl hysl;have hplace:∀(i:Nat) (v:V) (y:Value),ws[i]?=some v->(bI Mode.isMv s'.md ys++Xs)[i]?=some y->VR Γc w v y:=by
          intro i v y hv hy;refine Bu (hs.du hdup) (wg c6 (λi v y hv hy=>?_) i v y hv hy);rcases Nat.lt_or_ge i mv.length with hi|hi;·rw[List.getElem?_append_left hi]at hv;rw[List.getElem?_append_left (by rw[<-ml];exact hi)]at hy;obtain⟨j,h1,h2⟩:=mget i v y hv hy;exact hval j v y h1 h2
          ·rw[List.getElem?_append_right hi]at hv;rw[List.getElem?_append_right (by rw[<-ml];exact hi),<-ml]at hy;obtain⟨X,h1,h2,_⟩:=xget _ v hv;rw[h1]at hy;injection hy with hy;subst hy;exact h2
         have hwl:ws.length=mv.length+bs.length:=by show(cL zs vs).length=_;rw[pJ];simp[vs]
         have hRS:∀k,Γ.S k->cB Γ E k:=λk hk=>.inl hk;obtain⟨sl,sget⟩:=tG (R:=cB Γ E) hs hRS dt ds hds;let ds':=cx (c.pz (1000000+f')).tail ds;have hdata:∀(k:Nat) (u:V) (y:Value),ds'[k]?=some u->(bI Mode.isData s'.md ys)[k]?=some y->VR Γc w u y:=by
          intro k u y hu hy;refine .rd _ _ ?_;refine pT (vals:=(bI Mode.isData s'.md ys).toArray) (λi c v h1 h2=>?_) k u y hu (by simpa using hy);have h2:(bI Mode.isData s'.md ys)[i]?=some v:=by simpa using h2
          have hlt:i<dt.length:=by rw[<-sl];exact(bW h1).1
          obtain⟨j,g1,g2⟩:=dget i dt[i] v (List.getElem?_eq_getElem hlt) h2;refine sget i dt[i] c v (List.getElem?_eq_getElem hlt) h1 (hval j _ v g1 g2) (λb hb hbs=>.inr ⟨b,fS b (.agg dt) [] (.inr hbs),hb,rfl⟩) (λhpp=>?_);rw[c8]at hpp;cases hpp
         have hpt:∀(k:Nat) (y:Value),(bI Mode.isPt s'.md ys)[k]?=some y->VR Γc w (.ptr (s'.nt+k) 0) y:=by
          intro k y hy;have hlt:k<js.length:=by rw[jl,pl];exact(bW hy).1
          have hk:js[k]?=some js[k]:=List.getElem?_eq_getElem hlt;obtain⟨j,g1,g2⟩:=pget k _ y (jget k _ hk) hy;obtain⟨e1,e2⟩:=(hval j _ y g1 g2).ptr_inv;have:=VR.ptr (Γ:=Γc) (w:=w) (s'.nt+k) 0 ⟨k,hlt,rfl⟩;have e3:Γc.box (s'.nt+k)=Γ.box js[k]:=by show Γ.box (js.getD (s'.nt+k-s'.nt) 0)=_;rw[Nat.add_sub_cancel_left,List.getD_eq_getElem?_getD,hk];rfl
          rw[e3]at this;rw[e1];exact this
         obtain⟨kl,kget⟩:=Ej (A:=VR Γc w) s'.md s'.nt (ws.take mv.length) ds' ys hysl (by rw[List.length_take,hwl,<-ml];exact Nat.min_eq_left (Nat.le_add_right _ _)) (by rw[nn,sl];exact dl)
          (λk u y hu hy=>by
           rw[List.getElem?_take]at hu
           split at hu
           ·refine hplace k u y hu ?_
            rw[List.getElem?_append_left (bW hy).1]
            exact hy
           ·cases hu) hdata hpt
         have hpa:p.args=iB s'.nt s'.md (ws.take mv.length) ds'++ws.drop mv.length:=by rw[<-hp]
         have hpL:p.L=cT vs:=by rw[<-hp]
         have hpE:p.E=E:=by rw[<-hp]
         have hpj:p.js=js:=by rw[<-hp]
         have hgood:Good Γc w:=Good.handed hs.good (λb hb=>hs.nds b hb (hdead b)) c5 hjs c4;have hnds:∀b,Γc.has b -> ¬Γc.S (Γc.blk b):=by
          rintro j ⟨b,h1,h2,h3⟩;show ¬cB Γ E (Γ.blk (((ff vs).getD j []).headD 0));rw[aT h1];rintro(h|⟨b2,i1,i2,e2⟩);·exact hs.nds b h3 (hdead b) h
          ·have:=hs.good.baseInj b b2 h3 i2 e2;subst this;have hbL:b∈cT vs:=mem_basesL.2 (aA h1);have i4:V.anyBs (λb'=>b'==b) dt=true:=by
            have:=lM b (.agg dt) [] i1;rcases this with h|h;·cases h
            ·exact h
           have c7':V.anyBs (cT vs).contains dt=false:=c7;rw[sW (λb' hb'=>by simp only[beq_iff_eq]at hb';subst hb';simpa using hbL) i4]at c7';cases c7'
         have hEL:∀b∈E,b∉cT vs:=by
          intro b hb hbL;have i4:V.anyBs (λb'=>b'==b) dt=true:=by
           have:=lM b (.agg dt) [] hb;rcases this with h|h;·cases h
           ·exact h
          have c7':V.anyBs (cT vs).contains dt=false:=c7;rw[sW (λb' hb'=>by simp only[beq_iff_eq]at hb';subst hb';simpa using hbL) i4]at c7';cases c7'
         have hsim:Sim Γc (ry s' p.args) { tmps:=args.map a.eval++Array.replicate (s'.nt-(args.map a.eval).size) undef,defers:=[] } w:=by
          have hvsz:(args.map a.eval).size=s'.md.length:=by rw[<-hysl];simp[ys]
          refine⟨hgood,rfl,?_,λi v hi=>?_,λk v hk=>?_,λb hb _=>hnds b hb,λ_=>trivial,λ_ b b' hb hb' _ _ hne m hm hm'=>?_,?_⟩;·simp only[ry,hpa,List.length_append,List.length_take,List.length_replicate,Array.size_append,Array.size_replicate,hvsz,kl];rw[Nat.min_eq_left (Nat.le_add_right _ _)]
          ·have htk:p.args.take s'.md.length=iB s'.nt s'.md (ws.take mv.length) ds':=by rw[hpa,List.take_left' kl]
           simp only[ry,htk]at hi ⊢;rcases Nat.lt_or_ge i s'.md.length with h1|h1
           ·rw[List.getElem?_append_left (by rw[kl];exact h1)]at hi;have h2:i<(args.map a.eval).size:=by rw[hvsz];exact h1
            refine⟨(args.map a.eval)[i],by rw[Array.getElem?_append_left h2];exact Array.getElem?_eq_getElem h2,kget i v _ hi ?_⟩;have:ys=(args.map a.eval).toList:=by simp[ys]
            rw[this,Array.getElem?_toList];exact Array.getElem?_eq_getElem h2
           ·rw[List.getElem?_append_right (by rw[kl];exact h1),List.getElem?_replicate]at hi;split at hi;·rename_i h3;simp only[aK]at hi;subst hi;refine⟨undef,?_,VR.undef_ _⟩;rw[Array.getElem?_append_right (by rw[hvsz];exact h1),Array.getElem?_replicate,if_pos (by rw[hvsz];rw[kl]at h3;exact h3)]
            ·cases hi
          ·have hdr:p.args.drop s'.md.length=ws.drop mv.length:=by rw[hpa,List.drop_left' kl]
           simp only[ry,hdr]at hk;rcases Nat.lt_or_ge k s'.nt with h1|h1;·rw[List.getElem?_append_left (by simpa using h1),List.getElem?_replicate]at hk;split at hk<;>cases hk
           ·rw[List.getElem?_append_right (by simpa using h1),List.length_replicate,List.getElem?_map]at hk;cases hc:(ws.drop mv.length)[k-s'.nt]? with
            |none=>rw[hc]at hk;cases hk
            |some z=>
             rw[hc]at hk;simp only[Option.map_some,aK]at hk;subst hk;have hklt:k-s'.nt<bs.length:=by have:=(bW hc).1;rw[List.length_drop,hwl]at this;omega
             have hbk:bs[k-s'.nt]?=some bs[k-s'.nt]:=List.getElem?_eq_getElem hklt;obtain⟨X,x1,x2,j,cur,e,x3,x4,x5,x6⟩:=xget _ _ hbk;rw[List.getElem?_drop]at hc;have hz:VR Γc w z X:=by refine hplace _ z X hc ?_;rw[List.getElem?_append_right (by rw[<-ml];exact Nat.le_add_right _ _),<-ml];show Xs[mv.length+(k-s'.nt)-mv.length]?=_;rw[Nat.add_sub_cancel_left];exact x1
             have hzl:z.cells.length=bs[k-s'.nt].cells.length:=by refine ic c6 _ z _ hc ?_;rw[List.getElem?_append_right (Nat.le_add_right _ _),Nat.add_sub_cancel_left];exact hbk
             refine⟨⟨k-s'.nt,by rw[<-bl];exact hklt,by omega⟩,cur,e,?_,by rw[hzl];exact x6,?_⟩
             ·have e3:Γc.box k=Γ.box j:=by show Γ.box (js.getD (k-s'.nt) 0)=_;rw[List.getD_eq_getElem?_getD,x3];rfl
              rw[e3];exact x4
             ·rw[<-x5];exact hz.cells (by rw[hzl,x5];exact x6)
          ·obtain⟨b1,h1,h2,h3⟩:=hb;obtain⟨b2,h1',h2',h3'⟩:=hb';change Γ.N (((ff vs).getD b []).headD 0) m at hm;change Γ.N (((ff vs).getD b' []).headD 0) m at hm';rw[aT h1]at hm;rw[aT h1']at hm';exact hs.nd (hs.du hdup) b1 b2 h3 h3' (hdead _) (hdead _) (λe=>hne (by rw[<-h2,<-h2',e])) m hm hm'
          ·show(p.args.take s'.md.length++List.replicate (s'.nt-s'.md.length) V.undef).length=s'.nt;rw[hpa,List.take_left' kl,List.length_append,kl,List.length_replicate];omega
         refine Calls.mono (hcall Γc w _ rfl rfl (by rw[<-hysl];simp[ys]) c2 (λhfree k ⟨b,hb,_⟩=>by
          rw[<-hp]at hfree
          simp only[hfree,Bool.or_false]at c9
          have:=mem_basesL.2 hb
          rw[List.isEmpty_iff.1 c9]at this
          cases this) hsim) (λe w' he=>?_)
         cases e with
         |panicked _=>cases he
         |outgrown=>cases he
         |returned x=>
          refine hn _ _ ?_ λp' hp' k hk hkL hkj=>he.old k hk ?_
          case refine_2=>
           rw[hp0]at hp';injection hp' with hp';subst hp';rintro(⟨b,h0,h1,h2⟩|⟨j,h1,h2⟩|h2);·exact hkL b (by rw[hpL];exact mem_basesL.2 h0) h1 h2
           ·exact hkj j (by rw[hpj];exact h1) h2
           ·exact Nat.not_lt.2 h2 hk
          rw[hd]
          -- the way home
          unfold yM at h;simp only at h;rw[hpL,hpE,hpj]at h;split at h
          ·rename_i hc2;obtain⟨d1,d2,d3,d4,d5⟩:=hc2;have hnb:js.length=s'.nb:=c3;rw[hnb]at h;obtain⟨Γ'',hsame,hsim2,hr0,hr1⟩:=Sim.ioHome (m:=!aR st.dead (if V.olds outs then E else[])) hs hdead hdup c5 hjs c4 hnb hEL he d1 d3 d5;have hput:∀(v:V),VR Γ'' w' v x->Sims Γ (((({ st.sweep (bH (cT vs))with t:=(st.sweep (bH (cT vs))).t.set d v,h:=dP (st.sweep (bH (cT vs))).h js (V.mapBs (cM d) (outs.drop (outs.length-s'.nb))) }:St).kill (if V.olds outs then E else[])).mark (!aR st.dead (if V.olds outs then E else[])))) (a.put (some d) x) w':=by
            intro v hv;refine⟨Γ'',hsame,?_⟩;have:=hsim2.put (d:=d) hv;simp only[St.kill,St.mark,List.set_set]at this ⊢;have e:(a.put (some d) x).put (some d) x=a.put (some d) x:=by simp[Act.put]
            rw[e]at this;exact this
           split at h
           ·rename_i x0 hrb hrs;split at h
            ·rename_i hc3;obtain⟨f1,f2,f3,f4,f5⟩:=hc3;simp only[aK]at h;subst h;obtain⟨B,r,r1,r2,r3,r4,r5,r6,r7,r8⟩:=hr1 hrb;rw[r1]at hrs;simp only[V.mapBs,List.cons.injEq,and_true]at hrs;subst hrs
             have hadd:=hsim2.addBox (d:=d) (B:=B) (r:=r.mapB (cM d)) (by simpa[St.kill,St.mark,St.sweep,aS]using f1) (by
              have:∀(js:List Nat) (bs:List V) (h:List (Option V)),(dP h js bs).length=h.length:=by
               intro js
               induction js with
               |nil=>intro bs h;rfl
               |cons j js ih=>intro bs h;cases bs with
                |nil=>rfl
                |cons b bs=>rw[dP,ih,List.length_set]
              simp only[St.kill,St.mark,St.sweep]
              rw[this,B7]
              exact f2) (λi u hi hu=>by
              simp only[St.kill,St.mark]at hu
              rw[List.getElem?_set,if_neg (λe=>hi e.symm)]at hu
              exact zb f4 i u hi hu) (λi u hu=>by
              simp only[St.kill,St.mark]at hu
              rcases mh js _ _ i u (by rw[aS,List.length_drop,hnb];omega) hu with⟨k,_,h2⟩|⟨h1,_⟩
              ·rw[aN]at h2
               cases hc:(outs.drop (outs.length-s'.nb))[k]? with
               |none=>rw[hc]at h2;cases h2
               |some z=>
                rw[hc]at h2
                simp only[Option.map_some,aK]at h2
                subst h2
                exact GP d _ z
              ·exact za f4 i u h1) r3 f5 (by rw[hsame.2.1];exact r4) r5 r6 r7 r8
             refine Sims.of hsame ?_;simp only[St.kill,St.mark,List.set_set]at hadd ⊢;rw[r2];rw[r2]at hadd;have e:(a.put (some d) (.pointer (some ⟨B,0,none⟩))).put (some d) (.pointer (some ⟨B,0,none⟩))=a.put (some d) (.pointer (some ⟨B,0,none⟩)):=by simp[Act.put]
             rw[e]at hadd;exact hadd
            ·cases h
           ·cases h
           ·rename_i x0 hrb hrs;simp only[aK]at h;subst h;obtain⟨ys0,y1,y2,y3⟩:=hr0 hrb;have hlen:(V.mapBs (cM d) (outs.take (outs.length-s'.nb))).length=1:=by rw[hrs];rfl
            rw[aS,List.length_take]at hlen;have hl1:ys0.length=1:=by omega
            refine hput x0 ?_;have hsz:ys0.toArray.size=1:=by simpa using hl1
            rw[y3,dif_pos hsz];refine y2 0 x0 _ ?_ (by simp[List.getElem?_eq_getElem,hl1]);have h0:(V.mapBs (cM d) (outs.take (outs.length-s'.nb)))[0]?=some x0:=by rw[hrs];rfl
            rw[aN,List.getElem?_take,if_pos (by omega)]at h0;rw[aN];exact h0
           ·rename_i hrb hns;simp only[aK]at h;subst h;obtain⟨ys0,y1,y2,y3⟩:=hr0 hrb;have hlen:(V.mapBs (cM d) (outs.take (outs.length-s'.nb))).length=ys0.length:=by rw[aS,List.length_take,y1];omega
            refine hput _ ?_;have hsz:¬ys0.toArray.size=1:=by
             intro e;have e:ys0.length=1:=by simpa using e
             rw[e]at hlen;obtain⟨z,hz⟩:=List.length_eq_one_iff.1 hlen;exact hns z hz
            rw[y3,dif_neg hsz];refine .tup _ _ (by simpa using hlen) (λi z y hz hy=>y2 i z y ?_ (by simpa using hy));rw[aN,List.getElem?_take]at hz;rw[aN];split at hz;·exact hz
            ·cases hz
          ·cases h
        ·cases hp
       ·cases hp
      ·cases hp
     ·cases h
    ·cases h
   ·cases h
  ·cases ho
 ·cases ho
theorem wJ (hs:Sim Γ st a w){f:Nat}{s:Io}{az:List V}{p:IoPre}(h:lJ c st f s az=some p):∀j∈p.js,Γ.lb j:=by
 unfold lJ at h;split at h
 ·rename_i v o;split at h
  ·rename_i m u e n;split at h;·simp only[aK]at h;subst h;intro j r;obtain⟨i,k⟩:=List.getElem?_of_mem r;obtain⟨q,t⟩:=sn e;have g:=(bW k).1;obtain⟨x,b,l⟩:=t i m[i] (by simp[q,g]);rw[k]at b;injection b with b;subst b;exact(hs.bx _ _ l).1
   ·cases h
  ·cases h
 ·cases h
def J3 (c:Cfg)(st:St)(a:Act)(o:Oper)(k:Nat):Prop:=
 mn c o.op=none/\match ll c o.op with
 |some (f,s,az)=>∃(x:Nat) (v:V) (m:Nat) (p:IoPre),(st.head ([],[])).t[x]?=some v/\a.tmps[x]?=some (Value.pointer (some ⟨k,m,none⟩))/\lJ c (st.head ([],[])) f s (az.map (ev (st.head ([],[])).t))=some p/\(match v with
  |.ptr X _=>X∉p.js
  |.eptr b _ _ _ _ _=>b∉p.L
  |_=>False)
 |none=>¬WW a o k
theorem nw (R:ay P c)(S:mJ P c)(U:bE P den)(V:cZ P c den)(hs:Sim Γ st a w){o:Oper}{st':St}(h:dj c den st o=some st')
  (l:Act->World->Prop) (Q:Exit->Act->World->Prop) (E:∀n w',Sims Γ st' n w'->(∀k,k<w.heap.size->J3 c st a o k->w'.heap[k]?=w.heap[k]?)->l n w'):o.wp P a w l Q:=by
 unfold dj at h;split at h;·rename_i g x N;exact FZ S hs N h l Q λn w' L=>E n w' L λk _ A=>by have:=A.1;rw[N]at this;cases this
 ·rename_i O;split at h
  ·rename_i f s az M;obtain⟨W,q,i⟩:=hs.head ([],[])
   refine FY V i (λb=>by rw[kO]) (mU _ _) M h l Q (λn w' L T=>E n w' (Sims.of q L) λk A u=>?_)
   have u:=u.2;rw[M]at u;obtain⟨x,v,m,p,F,H,K,t⟩:=u;obtain⟨y,D,C⟩:=i.tm x _ F;rw[H]at D;injection D with D;subst D;refine T p K k A (λb J B z=>?_) (λj G z=>?_)
   ·split at t;·obtain⟨e,r⟩:=C.ptr_inv;injection e with e;injection e with e;injection e with e;exact i.good.baseBox b _ B r (by rw[<-z,e])
    ·obtain⟨e,r,_⟩:=C.eptr_inv;injection e with e;injection e with e;injection e with e;exact t (i.good.baseInj b _ B r (by rw[<-z,e])▸J)
    ·exact t
   ·split at t;·obtain⟨e,r⟩:=C.ptr_inv;injection e with e;injection e with e;injection e with e;exact t (i.good.boxInj j _ ((wJ i K) j G) r (by rw[<-z,e])▸G)
    ·obtain⟨e,r,_⟩:=C.eptr_inv;injection e with e;injection e with e;injection e with e;exact i.good.baseBox _ j r ((wJ i K) j G) (by rw[<-z,e])
    ·exact t
  ·rename_i I;exact yw R U hs h l Q λn w' F H=>E n w' F λk A u=>H k A (by have:=u.2;rw[I]at this;exact this)
theorem yv (t:ay P c)(u:mJ P c)(A:bE P den)(B:cZ P c den){ops:Array Oper}{Q:Exit->Act->World->Prop}:∀(l:rf) (Γ:Ctx) (st:St) (a:Act) (w:World) (st':St),Sim Γ st a w->(∀z∈l,z.2.2=none)->aV c den ops l st=some st' ->
  (∀i w',Sims Γ st' i w'->Q .normal i w')->wpList P ops Q (l.map (·.1)) a w:=by
 intro l;induction l with
 |nil =>intro Γ st a w st' hs _ h g;simp only[aV,aK]at h;subst h;exact wpList_nil (g a w ⟨Γ,Same.rfl',hs⟩)
 |cons z l q=>
  obtain⟨o,f,z⟩:=z;intro Γ st a w st' hs e h g;obtain rfl:z=none:=e _ (List.mem_cons_self ..);have e:=λy v=>e y (List.mem_cons_of_mem _ v);simp only[aV]at h;cases r:f st with
  |false=>rw[r]at h;cases h
  |true=>
  rw[r]at h;simp only[dG]at h;split at h;·cases h
  ·rename_i k;split at h;·rename_i s m;refine wpList_step λK p=>?_;rw[if_pos (kX hs k)];exact nw t u A B hs m K Q (λi w' ⟨Γ',b,j⟩ _=>p _ _ (q Γ' s i w' st' j e h (λa2 w2 x=>g _ _ (Sims.of b x))))
   ·cases h
  ·rename_i k;refine wpList_step λK p=>?_;rw[if_neg (by rw[kX hs k];simp)];refine p _ _ ?_;split at h;·rename_i d n;rw[n];exact q Γ _ _ w st' (ub hs d) e h g
   ·rename_i n;rw[n];exact q Γ _ _ w st' hs e h g
end
end Go.Am
end
section
namespace Go.Am
open Go Go.RowKit
section
variable {P:Program}{c:Cfg}{Γ Γ':Ctx}{st:St}{a:Act}{w w':World}
theorem pI {i n:Nat}{xs:List V}{f:Nat}{g:V}(h:(jC i n xs)[f]?=some g):∃x,xs[f]?=some x/\g.cells.length=x.cells.length /\ ∀(j:Nat) (u:V),g.cells[j]?=some u->u = .undef\/(x.cells[j]?=some u /\ ¬(f=i/\j=n)):=by
 unfold jC at h;rw[List.getElem?_modify]at h;cases k:xs[f]? with
 |none=>rw[k]at h;simp at h
 |some x=>
  rw[k]at h;refine⟨x,rfl,?_⟩;by_cases e:i=f
  ·simp only[e,if_true,Option.map_eq_map,Option.map_some,aK]at h;subst h;cases x with
   |agg cs=>
    refine⟨by simp[mV,V.cells],λj u b=>?_⟩;simp only[mV,V.cells]at b;rw[List.getElem?_set]at b;split at b
    ·split at b;·simp only[aK]at b;exact .inl b.symm
     ·cases b
    ·rename_i l;exact .inr ⟨b,λh=>l h.2.symm⟩
   |_=>
    refine⟨rfl,λj u b=>?_⟩;cases j with
    |zero=>simp only[mV,V.cells,List.getElem?_cons_zero,aK]at b;exact .inl b.symm
    |succ j=>simp[mV,V.cells]at b
  ·simp only[e,if_false,id_eq,Option.map_eq_map,Option.map_some,aK]at h;subst h;exact⟨rfl,λj u b=>.inr ⟨b,λh=>e h.1.symm⟩⟩
theorem iA {i n:Nat}{xs:List V}:(jC i n xs).length=xs.length:=by simp[jC]
theorem yJ {i n s:Nat}{xs:List V}(h:∀x∈xs,x.cells.length=s):∀x∈jC i n xs,x.cells.length=s:=λx b=>by obtain⟨k,e⟩:=List.getElem?_of_mem b;obtain⟨y,f,g,_⟩:=pI e;rw[g];exact h y (aA f)
def Ctx.taken (Γ:Ctx)(dead:Nat->Bool)(e k o cap s ln:Nat):Ctx:=
  { Γ with S:=λm=>Γ.S m/\m≠k,has:=λb=>b=e\/(Γ.has b/\dead b=false),blk:=λb=>if b=e then k else Γ.blk b,off:=λb=>if b=e then o else Γ.off b,cap:=λb=>if b=e then cap else Γ.cap b,
           sz:=λb=>if b=e then s else Γ.sz b,ln:=λb=>if b=e then ln else Γ.ln b,N:=λb m=>b≠e/\Γ.N b m/\m≠k }
theorem Js (hA:ay P c)(hs:Sim Γ st a w)(hY:∀k,¬Γ.Y k){X t:Nat}{y:Operand}{st1:St}(h:dG c st (some (X,t,y))=some st1)
  (hp:∀k n,a.eval y = .pointer (some ⟨k,n,none⟩) -> ∃v,(loadVar t ⟨k,n,none⟩).run P w = .ok v w/\a.put (some X) v=a):Sims Γ st1 a w:=by
 simp only[dG]at h;split at h
 ·rename_i ty s f0 b s0 rows i n hty hX hy;split at h
  ·rename_i hc;obtain⟨c1,c2,c3,c4,c5,c6,c7,c8⟩:=hc;split at h
   ·rename_i ys hn;simp only[aK]at h;subst h;have g:=hs.good;have hU:=hs.du c4;have hv:=hs.ev y;rw[hy]at hv;have huq:=hv.eptr_uq;obtain⟨e0,h1,h2,h3,h4,h5,h6⟩:=hv.eptr_inv;obtain⟨gT,T,t1,t2,t3,t4⟩:=huq rfl hU;obtain⟨r1,gg,r2,r3⟩:=h5
    -- the cell
    obtain⟨x,y0,ys0,hx,hcell,rfl⟩:∃x y0 ys0,rows[i]?=some x/\x.cells[n]?=some (.sl s true (y0 :: ys0))/\ys=y0 :: ys0:=by
     unfold I_ at hn;cases hxi:rows[i]? with
     |none=>rw[hxi]at hn;cases hn
     |some x=>
      rw[hxi]at hn;simp only[Option.bind_some]at hn;split at hn
      ·rename_i s' y ys hc;split at hn;·rename_i e;subst e;simp only[aK]at hn;exact⟨x,y,ys,rfl,hc,hn.symm⟩
       ·cases hn
      ·cases hn
    have hi:i<rows.length:=h4;have hns:n<s0:=by rw[<-r1 x (aA hx)];exact(bW hcell).1
    have hgT:gT i n=gg i n:=by have:=t1 i n hi hns;rw[(r2 i n hi hns).1]at this;exact(Option.some.inj this).symm
    have hrd:=r3 i x n _ hx hcell;have htr:=t2 i x n _ hx hcell;rw[hgT]at htr;generalize hval:gg i n=vv at hrd htr;cases hrd with
    |sl _ _ _ k o cap g1 q1 q2 q3 q4 q5 q6 q7=>
    generalize hval2:(Value.slice (some ⟨k,o,none⟩) (y0 :: ys0).length cap)=v2 at htr;cases htr with
    |leaf _ _ _ hl=>cases hl
    |sl _ _ _ k' o' cap' g2 T1 _ p1 p2 p3 p4 p5 p6 p7 p8=>
    simp only[Value.slice.injEq,aK,Addr.mk.injEq,and_true,true_and]at hval2;obtain⟨⟨rfl,rfl⟩,rfl⟩:=hval2;have hTk:T i n k:=p6;have hNk:=(t4 i n k hTk).1
    -- its value stands in slot X
    have hput:a.put (some X) (.slice (some ⟨k,o,none⟩) (y0 :: ys0).length cap)=a:=by
     obtain⟨v,hv1,hv2⟩:=hp _ _ e0;obtain⟨tt,ai⟩:=hA _ _ hty;obtain⟨dd,hdd,n1,n2⟩:=ai.agg c1;have h0:=(r2 i n hi hns).1;rw[hval]at h0;have hrun:(loadVar t ⟨Γ.blk b,Γ.off b+i*s0+n,none⟩).run P w = .ok (.slice (some ⟨k,o,none⟩) (y0 :: ys0).length cap) w:=by
      simp only[loadVar,isAgg,Sem.run_bind,run_underlying hdd,Result.andThen_ok];cases dd with
      |struct fs=>exact absurd rfl (n1 fs)
      |array n e=>exact absurd rfl (n2 n e)
      |_=>simp[h0]
     rw[hv1]at hrun;injection hrun with hrun;rw[<-hrun];exact hv2
    obtain⟨hF,hlt,cur,ce,hblk⟩:=g.zf k q3.2;have hF:Γ.F k:=hF.resolve_right (hY k);have hroom:o+cap*s<=cur.size:=by
     have hc1:1<=cap:=by simp only[List.length_cons]at q2;omega
     have hpos:0<cap*s:=Nat.mul_pos (by omega) (by omega);have:=p8.2 (cap*s-1) (by omega);simp only[World.cell?,hblk]at this;have h2:o+(cap*s-1)<cur.size:=by
      rcases Nat.lt_or_ge (o+(cap*s-1)) cur.size with h|h;·exact h
      ·simp[Array.getElem?_eq_none h]at this
     omega
    let bx:=base X 0;let Γ':=Γ.taken st.dead bx k o cap s (y0 :: ys0).length;have hbx:bx/1000=X:=by show(X*1000+0)/1000=X;omega
    have hne:∀{b':Nat},(b'/1000==X)=false->b'≠bx:=λh e=>by rw[e,hbx]at h;simp at h
    have blkE:∀{b':Nat},b'≠bx->Γ'.blk b'=Γ.blk b':=λh=>if_neg h;have offE:∀{b':Nat},b'≠bx->Γ'.off b'=Γ.off b':=λh=>if_neg h;have capE:∀{b':Nat},b'≠bx->Γ'.cap b'=Γ.cap b':=λh=>if_neg h;have szE:∀{b':Nat},b'≠bx->Γ'.sz b'=Γ.sz b':=λh=>if_neg h;have lnE:∀{b':Nat},b'≠bx->Γ'.ln b'=Γ.ln b':=λh=>if_neg h;have blkX:Γ'.blk bx=k:=if_pos rfl;have offX:Γ'.off bx=o:=if_pos rfl;have capX:Γ'.cap bx=cap:=if_pos rfl;have szX:Γ'.sz bx=s:=if_pos rfl;have lnX:Γ'.ln bx=(y0 :: ys0).length:=if_pos rfl;have live:∀{b':Nat},Γ.has b'->st.dead b'=false->Γ.blk b'≠k:=λh h' e=>hs.nds _ h h' (by rw[e];exact q3.1);have hg':Good Γ' w:=by
     refine⟨g.os,g.tape,g.output,g.size,g.old,g.new,λm hm=>g.slt m hm.1,λb' hb=>?_,λb1 b2 hb1 hb2 he=>?_,λd hd=>⟨(g.box d hd).1,λh=>(g.box d hd).2.1 h.1,(g.box d hd).2.2⟩,g.boxInj,λb' d hb hd=>?_,λm hm=>g.sr m hm.1,g.gl,λb' hb=>?_,g.zf,λb' hb m hm=>⟨⟨?_,hm.2.2⟩,?_⟩,λh=>?_⟩
     ·rcases hb with rfl|⟨hb,hd⟩;·rw[blkX,offX,capX,szX];exact⟨hF,hlt,p8.1,cur,ce,hblk,hroom⟩
      ·by_cases e:b'=bx;·subst e;rw[blkX,offX,capX,szX];exact⟨hF,hlt,p8.1,cur,ce,hblk,hroom⟩
       ·rw[blkE e,offE e,capE e,szE e];exact g.base b' hb
     ·by_cases e1:b1=bx
      ·by_cases e2:b2=bx;·rw[e1,e2]
       ·rw[e1,blkX,blkE e2]at he;have hb2:=hb2.resolve_left e2;exact absurd he.symm (live hb2.1 hb2.2)
      ·have hb1:=hb1.resolve_left e1;by_cases e2:b2=bx;·rw[e2,blkX,blkE e1]at he;exact absurd he (live hb1.1 hb1.2)
       ·rw[blkE e1,blkE e2]at he;exact g.baseInj b1 b2 hb1.1 (hb2.resolve_left e2).1 he
     ·by_cases e:b'=bx;·rw[e,blkX];intro h;exact(g.box d hd).2.1 ((show k=Γ.box d from h)▸q3.1)
      ·rw[blkE e];exact g.baseBox b' d (hb.resolve_left e).1 hd
     ·by_cases e:b'=bx;·rw[e,blkX];exact q3.2
      ·rw[blkE e];exact g.bz b' (hb.resolve_left e).1
     ·exact(g.ns b' (hb.resolve_left hm.1).1 m hm.2.1).1
     ·exact(g.ns b' (hb.resolve_left hm.1).1 m hm.2.1).2
     ·rcases h with h|h;·have:(999:Nat)=X*1000+0:=h;omega
      ·exact g.h9 h.1
    have hbne:b≠bx:=by
     refine hne ?_;cases y with
     |tmp yt=>
      have hyt:st.t[yt]?=some (.eptr b s0 .clean rows i n):=by
       have:ev st.t (.tmp yt)=st.t.getD yt .undef:=rfl;rw[this,List.getD_eq_getElem?_getD]at hy;cases hq:st.t[yt]? with
       |none=>rw[hq]at hy;cases hy
       |some z=>rw[hq]at hy;exact congrArg some hy
      have hyX:yt≠X:=λe=>by subst e;rw[hy]at hX;cases hX
      exact kN c7 yt _ hyX hyt
     |_=>simp only[ev]at hy<;>first|(cases hy;done)|(unfold Ez at hy;split at hy<;>cases hy)
    -- the rows, but for what was taken
    have rows':Rows w (Γ'.Sq .clean) s0 (jC i n rows) (Γ.blk b) (Γ.off b):=by
     refine⟨yJ r1,gg,λi' j' hi' hj'=>r2 i' j' (by rw[iA]at hi';exact hi') hj',λi' x' j' u hx' hu=>?_⟩;obtain⟨x1,w1,w2,w3⟩:=pI hx';rcases w3 j' u hu with rfl|⟨w4,w5⟩;·exact .undef _
     ·have hi':=(bW w1).1;have hj':j'<s0:=by rw[<-r1 x1 (aA w1)];exact(bW w4).1
      have e1:=t1 i' j' hi' hj';rw[(r2 i' j' hi' hj').1]at e1;injection e1 with e1;have htr':=t2 i' x1 j' u w1 w4;rw[<-e1]at htr';refine((r3 i' x1 j' u w1 w4).within htr').mono (λm hm=>?_) (λ_ _ _=>rfl);have hm':=t4 i' j' m hm;exact⟨⟨hm'.2,λe=>w5 (by subst e;exact t3 i' j' i n _ hm hTk)⟩,(g.ns b h1 m hm'.1).2⟩
    have uq':Γ'.Uq w .clean b s0 (jC i n rows) (Γ.blk b) (Γ.off b):=λ_ _=>by
     refine⟨gT,λi' j' m=>T i' j' m /\ ¬(i'=i/\j'=n),λi' j' hi' hj'=>t1 i' j' (by rw[iA]at hi';exact hi') hj',λi' x' j' u hx' hu=>?_,λi1 j1 i2 j2 m hm1 hm2=>t3 i1 j1 i2 j2 m hm1.1 hm2.1,λi' j' m hm=>?_⟩
     ·obtain⟨x1,w1,w2,w3⟩:=pI hx';rcases w3 j' u hu with rfl|⟨w4,w5⟩;·exact .undef _ _
      ·exact(t2 i' x1 j' u w1 w4).weaken λm hm=>⟨hm,w5⟩
     ·have hm':=t4 i' j' m hm.1;have hmk:m≠k:=λe=>hm.2 (by subst e;exact t3 i' j' i n _ hm.1 hTk);exact⟨⟨hbne,hm'.1,hmk⟩,hm'.2,hmk⟩
    have has':Γ'.has b:=.inr ⟨h1,c5⟩
    -- other rows of the call's own
    have rr:∀{b' s' k' o':Nat} {q:Q} {xs:List V},Γ.has b'->st.dead b'=false->b'≠b->b'≠bx->q.good=true->flatOk q xs->Γ.Uq w q b' s' xs k' o'->Rows w (Γ.Sq q) s' xs k' o'->Rows w (Γ'.Sq q) s' xs k' o'/\Γ'.Uq w q b' s' xs k' o':=by
     intro b' s' k' o' q xs hb' hd' hne1 hne2 hq hfl hu hr;cases q with
     |any=>cases hq
     |flat=>exact⟨hr.plain (hfl rfl),λe=>by cases e⟩
     |clean=>
      have hk':∀m,Γ.N b' m->m≠k:=λm hm e=>hs.nd hU b' b hb' h1 hd' c5 hne1 m hm (by rw[e];exact hNk);have hT:=hu rfl hU
      exact⟨(hr.within hT).mono (λm hm=>⟨⟨hm.2,hk' m hm.1⟩,(g.ns b' hb' m hm.1).2⟩) (λ_ _ _=>rfl) (λ_ _ _=>rfl),
       λ_ _=>hT.mono (λm hm=>⟨⟨hne2,hm.1,hk' m hm.1⟩,hm.2,hk' m hm.1⟩) (λ_ _ _=>rfl) (λ_ _ _=>rfl)⟩
    have hleaf:∀v x,(match v with
      |.agg _=>False
      |.tup _=>False
      |.clo _ _=>False
      |_=>True)->v.anyB (λb'=>b'/1000==X)=false->VR Γ w v x->VR Γ' w ((K0 st.dead b (jC i n rows) v).getD v) x:=by
     intro v x hlf hC hu
     cases v with
     |undef=>exact VR.undef_ _
     |bool b=>rw[hu.bool_inv];exact .rd _ _ (.bool b)
     |int k m=>rw[hu.int_inv];exact .rd _ _ (.int k m)
     |str s=>obtain⟨z,rfl,hz⟩:=hu.str_inv;exact .rd _ _ (.str s z hz)
     |nil=>rw[hu.nil_inv];exact .rd _ _ .nil
     |sl s f xs=>exact VR.undef_ _
     |iptr z o=>exact VR.undef_ _
     |vptr b z o=>exact VR.undef_ _
     |ptr d m=>
      obtain⟨rfl,h⟩:=hu.ptr_inv
      exact .ptr (Γ:=Γ') d m h
     |agg _=>cases hlf
     |tup _=>cases hlf
     |clo _ _=>cases hlf
     |own b' s' q xs=>
      have hnb:b'≠bx:=hne hC
      simp only[K0]
      split
      ·rename_i e
       subst e
       simp only[Option.getD_some]
       rcases hu.own_inv with⟨rfl,rfl,h3'⟩|⟨rfl,h1',h2',h3',h4',h5'⟩
       ·exact absurd h1 h3'
       ·have hlen:xs.length=(jC i n rows).length:=by rw[iA,h3'.2,h3.2]
        have:=VR.own (Γ:=Γ') (w:=w) b' s' .clean (jC i n rows) has' (by rw[szE hnb];exact h2') (by rw[capE hnb,lnE hnb,iA];exact h3) (by rw[blkE hnb,offE hnb,h2',<-h2];exact rows') (λe=>by cases e) (by rw[blkE hnb,offE hnb,h2',<-h2];exact uq')
        rw[blkE hnb,offE hnb,capE hnb,<-hlen]at this
        exact this
      ·rename_i hne1
       split
       ·exact VR.undef_ _
       ·rename_i hdq
        simp only[Bool.or_eq_true,Bool.not_eq_true',not_or,Bool.not_eq_true,Bool.not_eq_false]at hdq
        simp only[Option.getD_none]
        have huq:=hu.own_uq
        rcases hu.own_inv with⟨rfl,rfl,h3'⟩|⟨rfl,h1',h2',h3',h4',h5'⟩
        ·exact .ownNil _ _ _ (λh=>h.elim hnb λh=>h3' h.1)
        ·obtain⟨z1,z2⟩:=rr h1' hdq.1 hne1 hnb hdq.2 h5' huq h4'
         have:=VR.own (Γ:=Γ') (w:=w) b' s' q xs (.inr ⟨h1',hdq.1⟩) (by rw[szE hnb];exact h2') (by rw[capE hnb,lnE hnb];exact h3') (by rw[blkE hnb,offE hnb];exact z1) h5' (by rw[blkE hnb,offE hnb];exact z2)
         rwa[blkE hnb,offE hnb,capE hnb]at this
     |view b' s' q xs=>
      have hnb:b'≠bx:=hne hC
      simp only[K0]
      split
      ·exact VR.undef_ _
      ·rename_i hne1
       split
       ·exact VR.undef_ _
       ·rename_i hdq
        simp only[Bool.or_eq_true,Bool.not_eq_true',not_or,Bool.not_eq_true,Bool.not_eq_false]at hdq
        simp only[Option.getD_none]
        have hu0:=hu
        rcases hu.view_inv with⟨ad,cp,rfl,rfl⟩|⟨o',cp,rfl,h1',hx',h3',hfit,h4',h5'⟩
        ·exact .view0 (Γ:=Γ') _ _ _ _ _ (hu.view0_of.to ⟨λh=>(h.resolve_left hnb).1,λh=>.inr ⟨h,hdq.1⟩⟩ (λ_=>⟨blkE hnb,offE hnb,capE hnb,szE hnb⟩))
        ·obtain⟨z1,z2⟩:=rr h1' hdq.1 hne1 hnb hdq.2 h5' hu0.view_uq h4'
         have:=VR.view (Γ:=Γ') (w:=w) b' s' q xs o' cp (.inr ⟨h1',hdq.1⟩) hx' h3' (by rw[offE hnb,capE hnb,szE hnb];exact hfit) (by rw[blkE hnb];exact z1) h5' (by rw[blkE hnb];exact z2)
         rwa[blkE hnb]at this
     |eptr b' s' q xs j m=>
      have hnb:b'≠bx:=hne hC
      simp only[K0]
      split
      ·rename_i e
       subst e
       simp only[Option.getD_some]
       obtain⟨rfl,h1',h2',h3',h4',h5',h6'⟩:=hu.eptr_inv
       have:=VR.eptr (Γ:=Γ') (w:=w) b' s' .clean (jC i n rows) j m has' (by rw[szE hnb];exact h2') (by rw[capE hnb,lnE hnb,iA];exact h3) (by rw[iA,h3.2,<-h3'.2];exact h4') (by rw[blkE hnb,offE hnb,h2',<-h2];exact rows') (λe=>by cases e) (by rw[blkE hnb,offE hnb,h2',<-h2];exact uq')
       rwa[blkE hnb,offE hnb]at this
      ·rename_i hne1
       split
       ·exact VR.undef_ _
       ·rename_i hdq
        simp only[Bool.or_eq_true,Bool.not_eq_true',not_or,Bool.not_eq_true,Bool.not_eq_false]at hdq
        simp only[Option.getD_none]
        have huq:=hu.eptr_uq
        obtain⟨rfl,h1',h2',h3',h4',h5',h6'⟩:=hu.eptr_inv
        obtain⟨z1,z2⟩:=rr h1' hdq.1 hne1 hnb hdq.2 h6' huq h5'
        have:=VR.eptr (Γ:=Γ') (w:=w) b' s' q xs j m (.inr ⟨h1',hdq.1⟩) (by rw[szE hnb];exact h2') (by rw[capE hnb,lnE hnb];exact h3') h4' (by rw[blkE hnb,offE hnb];exact z1) h6' (by rw[blkE hnb,offE hnb];exact z2)
        rwa[blkE hnb,offE hnb]at this
    have hsw:Sim Γ' { st.sweep (K0 st.dead b (jC i n rows))with dead:=st.dead,dup:=st.dup } a w:=by
     refine hs.sweepC (λv=>v.anyB (λb'=>b'/1000==X)=false) (λcs h u hu=>ax h u hu) (λcs h u hu=>ax h u hu) (λ_ cs h u hu=>ax h u hu) (λu hu=>?_) (λu hu=>sV (by
      have:=c7
      unfold St.freeD at this
      rw[Bool.and_eq_true,Bool.not_eq_true',Bool.not_eq_true']at this
      exact this.2) u hu) hleaf (λv u h=>?_) hg' (λ_ h=>h) (λ_=>rfl) (λ_ _=>rfl) (λb' hb hd=>?_) (λ_=>hU) (λ_ b1 b2 hb1 hb2 hd1 hd2 hne' m hm1 hm2=>hs.nd hU b1 b2 (hb1.resolve_left hm1.1).1 (hb2.resolve_left hm2.1).1 hd1 hd2 hne' m hm1.2.1 hm2.2.1)
     ·obtain⟨j,hj⟩:=List.getElem?_of_mem hu;by_cases e:j=X
      ·subst e;have:ev st.t (.tmp j)=u:=by show st.t.getD j .undef=u;rw[List.getD_eq_getElem?_getD,hj];rfl
       rw[hX]at this;rw[<-this];rfl
      ·exact kN c7 j u e hj
     ·cases v<;>simp only[K0]at h<;>first
       |(cases h;done)
       |(simp only[aK]at h;subst h;rfl)
       |(split at h<;>first
        |(simp only[aK]at h;subst h;rfl)
        |(split at h<;>first
         |(simp only[aK]at h;subst h;rfl)
         |cases h))
     ·by_cases e:b'=bx;·rw[e,blkX];exact λh=>h.2 rfl
      ·rw[blkE e];exact λh=>hs.nds b' (hb.resolve_left e).1 hd h.1
    refine⟨Γ',⟨rfl,rfl,rfl,rfl,rfl,λ_ _=>rfl⟩,?_⟩;have hown:VR Γ' w (.own bx s .flat (y0 :: ys0)) (.slice (some ⟨k,o,none⟩) (y0 :: ys0).length cap):=by have hr:Rows w (Γ'.Sq .flat) s (y0 :: ys0) k o:=Rows.plain (S:=λm=>Γ.S m/\Γ.Z m) ⟨q4,g1,q6,q7⟩ (q5 rfl);have:=VR.own (Γ:=Γ') (w:=w) bx s .flat (y0 :: ys0) (.inl rfl) (by rw[szX]) (by rw[capX,lnX];exact⟨q2,rfl⟩) (by rw[blkX,offX];exact hr) (λ_=>q5 rfl) (λe=>by cases e);rwa[blkX,offX,capX]at this
    have:=hsw.put (d:=X) hown;rw[hput]at this;exact this
   ·cases h
  ·cases h
 ·cases h
end
end Go.Am
end
