/-
  Proved: lemmas for Rows.FnFormatsCardSaid.
-/
import Derived.Test.YtmkhgngckgcpeaaGreatDooruAmTake
set_option linter.all false
namespace Go.Am
open Go Go.RowKit
section
variable {P:Program}{c:Cfg}{Γ Γ':Ctx}{st:St}{a ap:Act}{w w':World}{den:Nat->List V->Option V}{η:Nat->Option V}{d:Nat}{ops:Array Oper}{o:Oper}
structure Reg (ops:Array Oper):Prop where
  bef:∀(j:Nat) (p:Oper),ops[j]?=some p->(tp ops).getD j 0=(vn p).foldl (λq e=>q ||| (tp ops).getD e 0 ||| 2 ^ e) 0
  back:∀(j:Nat) (p:Oper),ops[j]?=some p -> ∀e∈vn p,e<j
  all:∀i,i<ops.size->i∈gL ops
  lt:∀i∈gL ops,i<ops.size
  nd:(gL ops).Nodup
  pw:(gL ops).Pairwise λh j=>JV ops h j=true
  sel:Region.noSelect ops=true
  sl:∀(i j:Nat) (o p:Oper) (d:Nat),ops[i]?=some o->ops[j]?=some p->i≠j->o.dst=some d->p.dst≠some d/\(d∈p.looksAt ops->iE ops j i=true\/(kd ops j≠1/\iE ops i j=true))
theorem IB {R:Nat->Nat->Bool}:∀{l:List Nat},IA R l=true->l.Pairwise λh j=>R h j=true:=by
 intro l;induction l with
 |nil=>intro _;exact .nil
 |cons x l b =>intro h;rw[IA,Bool.and_eq_true,List.all_eq_true]at h;exact .cons h.1 (b h.2)
theorem RV (h:i0b ops=true):Reg ops:=by
 unfold i0b at h;simp only[Bool.and_eq_true]at h;obtain⟨⟨⟨⟨⟨m,s⟩,n⟩,r⟩,q⟩,l⟩:=h;rw[List.all_eq_true]at m n l;have g:∀{j:Nat} {p:Oper},ops[j]?=some p->j∈List.range ops.size:=λb=>List.mem_range.2 (Array.getElem?_eq_some_iff.1 b).1;have e:∀(j:Nat) (p:Oper),ops[j]?=some p->_:=λj p b=>by have:=l j (g b);rw[b]at this;exact this
 simp only[Bool.and_eq_true,List.all_eq_true,beq_iff_eq,decide_eq_true_eq]at e;refine⟨λj p b=>(e j p b).1.1,λj p b=>(e j p b).1.2,λi f=>by simpa using m i (List.mem_range.2 f),λi f=>by simpa using n i f,by simpa using s,IB r,q,λi j o p d f b k t=>?_⟩;have:=(e j p b).2 i (g f);simp only[Bool.or_eq_true,beq_iff_eq,k,false_or,f,t,Bool.and_eq_true,bne_iff_ne,ne_eq,Bool.not_eq_true',or_assoc]at this;refine⟨this.1,λu=>?_⟩;rcases this.2 with h|h|h;·simp[u]at h
 ·exact .inl h
 ·exact .inr h
theorem Eg {T:Nat->Nat}{i:Nat}:∀(l:List Nat) (q:Nat),(l.foldl (λq e=>q ||| T e ||| 2 ^ e) q).testBit i=true->q.testBit i=true \/ ∃e∈l,(T e).testBit i=true\/e=i:=by
 intro l;induction l with
 |nil=>intro q h;exact .inl h
 |cons x l f=>
  intro q h;rcases f _ h with h|⟨e,b,h⟩
  ·simp only[Nat.testBit_or,Nat.testBit_two_pow,Bool.or_eq_true,decide_eq_true_eq]at h;rcases h with(h|h)|h;·exact .inl h
   ·exact .inr ⟨x,by simp,.inl h⟩
   ·exact .inr ⟨x,by simp,.inr h⟩
  ·exact .inr ⟨e,by simp[b],h⟩
theorem Reg.prec_dep (R:Reg ops){j i:Nat}{p:Oper}(b:ops[j]?=some p)(h:iE ops j i=true):∃e∈vn p,iE ops e i=true\/e=i:=by
 unfold iE at h;rw[R.bef j p b]at h;rcases Eg (T:=λe=>(tp ops).getD e 0) _ _ h with h|h;·simp at h
 ·exact h
theorem Reg.prec_get (R:Reg ops){j i:Nat}(h:iE ops j i=true):∃p,ops[j]?=some p:=by
 unfold iE at h;cases f:ops[j]? with
 |some p=>exact⟨p,rfl⟩
 |none=>
  exfalso;have g:(tp ops).length=ops.size:=by
   have:∀(l:List Oper) (T:List Nat),(l.foldl (λT o=>T++[(vn o).foldl (λq e=>q ||| T.getD e 0 ||| 2 ^ e) 0]) T).length=T.length+l.length:=by
    intro l;induction l with
    |nil=>intro T;rfl
    |cons x l b=>intro T;rw[List.foldl_cons,b];simp;omega
   unfold tp;rw[this];simp
  rw[List.getD_eq_getElem?_getD,List.getElem?_eq_none (by rw[g];exact Array.getElem?_eq_none_iff.1 f)]at h;simp at h
def xP (ops:Array Oper)(L:Array Bool):Prop:=∀(j:Nat) (p:Oper),ops[j]?=some p->L.getD j true=true -> ∀e∈vn p,L.getD e true=true
theorem Reg.closed (R:Reg ops){L:Array Bool}(l:xP ops L){i:Nat}:∀(j:Nat) (p:Oper),ops[j]?=some p->(∀e∈vn p,L.getD e true=true)->iE ops j i=true->L.getD i true=true:=by
 intro j;induction j using Nat.strongRecOn with
 |_ j m=>
  intro p k g h;obtain⟨e,b,h|rfl⟩:=R.prec_dep k h;·obtain⟨q,f⟩:=R.prec_get h;exact m e (R.back j p k e b) q f (l e q f (g e b)) h
  ·exact g e b
theorem Reg.irr (R:Reg ops){j:Nat}:iE ops j j=false:=by
 have g:∀j i,iE ops j i=true->i<j:=by
  intro j;induction j using Nat.strongRecOn with
  |_ j k=>
   intro i h;obtain⟨p,b⟩:=R.prec_get h;obtain⟨e,f,h|rfl⟩:=R.prec_dep b h;·exact Nat.lt_trans (k e (R.back j p b e f) i h) (R.back j p b e f)
   ·exact R.back j p b e f
 cases h:iE ops j j with
 |false=>rfl
 |true=>exact absurd (g j j h) (Nat.lt_irrefl _)
theorem Reg.flo (R:Reg ops){i j:Nat}{p:Oper}(l:ops[i]?=some o)(b:kd ops i≠2)(f:ops[j]?=some p):∃d,o.dst=some d/\(d∈p.looksAt ops->iE ops j i=true):=by
 unfold kd at b;rw[l]at b;simp only at b;split at b
 ·rename_i e;unfold Am.flo at e;split at e;·rename_i d k;rw[List.all_eq_true]at e;have:=e j (List.mem_range.2 (Array.getElem?_eq_some_iff.1 f).1);rw[f]at this;simp only[Bool.or_eq_true,Bool.not_eq_true']at this;exact⟨d,k,λg=>this.resolve_left (by simp[g])⟩
  ·cases e
 ·exact absurd rfl b
theorem w0a {i:Nat}(e:ops[i]?=some o)(b:kd ops i=0):Iu o.op=true:=by
 unfold kd at b;rw[e]at b;simp only at b;split at b
 ·split at b;·assumption
  ·split at b<;>cases b
 ·cases b
theorem d1d {i:Nat}(e:ops[i]?=some o)(b:kd ops i=1):It o.op=true/\o.guard=none:=by
 unfold kd at b;rw[e]at b;simp only at b;split at b
 ·split at b;·cases b
  ·split at b;·rename_i h;unfold Eu at h;simp only[Bool.and_eq_true]at h;exact⟨h.1.1,by simpa using h.1.2⟩
   ·cases b
 ·cases b
theorem Zd (i:Nat):kd ops i=0\/kd ops i=1\/kd ops i=2:=by
 unfold kd;split
 ·split
  ·split;·exact .inl rfl
   ·split;·exact .inr (.inl rfl)
    ·exact .inr (.inr rfl)
  ·exact .inr (.inr rfl)
 ·exact .inr (.inr rfl)
theorem CH (hs:Region.noSelect ops=true){i:Nat}(n:ops[i]?=some o)(h:∀t∈o.looksAt ops,a.tmps[t]?=ap.tmps[t]?) :
  execOp a.eval o=execOp ap.eval o/\Region.wanted o (yielded ops a.tmps)=Region.wanted o (yielded ops ap.tmps):=by
 constructor
 ·refine execOp_congr o (λcs b=>Region.noSelect_spec hs i o cs b n) λx f=>?_;cases x with
  |tmp t =>have:=h t (List.mem_append_left _ (List.mem_filterMap.2 ⟨.tmp t,by simpa using f,rfl⟩));simp[Act.eval,this]
  |_=>rfl
 ·unfold Region.wanted;cases k:o.guard with
  |none=>rfl
  |some j=>
   obtain⟨g,e⟩:=j;have l:yielded ops a.tmps g=yielded ops ap.tmps g:=by
    unfold yielded;cases m:(ops[g]?).bind (·.dst)with
    |none=>rfl
    |some t=>simp[h t (by simp[Oper.looksAt,k,m])]
   simp only[l]
theorem pf (d:Nat)(x:Value):(a.put (some d) x).put (some d) x=a.put (some d) x:=by simp[Act.put]
structure Sub (Γ Γ':Ctx):Prop where
  os:Γ'.w0.os=Γ.w0.os
  tape:Γ'.w0.tape=Γ.w0.tape
  output:Γ'.w0.output=Γ.w0.output
  size:Γ.w0.heap.size<=Γ'.w0.heap.size
  old:∀k,k<Γ.w0.heap.size -> ¬Γ.F k->Γ'.w0.heap[k]?=Γ.w0.heap[k]?
  F:∀k,Γ'.F k->Γ.F k
  R:∀k,Γ'.R k->Γ.R k
  new:∀k,Γ.w0.heap.size<=k->Γ.F k
  gl:ck Γ.w0 /\ ∀k,Γ.F k->nk<=k
  Y:Γ'.Y=Γ.Y
  nt:Γ'.nt=Γ.nt
  box:∀d,Γ.nt<=d->Γ'.box d=Γ.box d
theorem Sub.start (g:Good Γ w):Sub Γ Γ:=⟨rfl,rfl,rfl,Nat.le_refl _,λ_ _ _=>rfl,λ_ h=>h,λ_ h=>h,g.new,g.gl,rfl,rfl,λ_ _=>rfl⟩
theorem Sub.same {b:Ctx}(h:Sub Γ Γ')(s:Same Γ' b):Sub Γ b:=by obtain⟨e,l,k,m,j,g⟩:=s;exact⟨by rw[e];exact h.os,by rw[e];exact h.tape,by rw[e];exact h.output,by rw[e];exact h.size,by rw[e];exact h.old,by rw[l];exact h.F,by rw[k];exact h.R,h.new,h.gl,m.trans h.Y,j.trans h.nt,λd f=>(g d (by rw[h.nt];exact f)).trans (h.box d f)⟩
theorem Sim.refit {w0:World}{F R:Nat->Prop}(hs:Sim Γ st a w)(m:∀k,k<w.heap.size->w'.heap[k]?=w.heap[k]?)(C:Good { Γ with w0:=w0,F:=F,R:=R } w'):Sim { Γ with w0:=w0,F:=F,R:=R } st a w':=by
 have g:=hs.good
 have f:∀v x,VR Γ w v x->VR { Γ with w0:=w0,F:=F,R:=R } w' v x:=λv x h=>
  VR.mono (Γ:=Γ) (Γ':={ Γ with w0:=w0,F:=F,R:=R }) (w:=w) (w':=w') (p:=λ_=>false) (r:=λ_=>false) (λh=>h) (λ_ h=>h) (λ_ h=>h) (λk t o=>cell?_of_heap (m k (g.slt k t)) o) (λb _=>⟨Iff.rfl,λA=>⟨rfl,rfl,rfl,rfl,rfl,λ_ h=>h,λo=>cell?_of_heap (m _ (g.base b A).2.1) o⟩⟩) (λd _=>⟨λh=>h,rfl⟩) h (bN v) (cS v)
 refine⟨C,hs.dz,hs.len,λi v h=>?_,λd v h=>?_,hs.nds,hs.du,hs.nd,hs.nt⟩;·obtain⟨x,l,n⟩:=hs.tm i v h;exact⟨x,l,f v x n⟩
 ·obtain⟨l,q,e,n,E,z⟩:=hs.bx d v h;refine⟨l,q,e,(m _ (g.box d l).2.2).trans n,E,λj u D=>?_⟩;obtain⟨x,y,s⟩:=z j u D;exact⟨x,y,f u x s⟩
theorem Sub.sims (h:Sub Γ Γ')(hs:Sim Γ' st a w):Sims Γ st a w:=by
 have g:=hs.good;refine⟨{ Γ' with w0:=Γ.w0,F:=Γ.F,R:=Γ.R },⟨rfl,rfl,rfl,h.Y,h.nt,h.box⟩,hs.refit (λ_ _=>rfl) ?_⟩
 exact⟨g.os.trans h.os,g.tape.trans h.tape,g.output.trans h.output,Nat.le_trans h.size g.size,λk e j=>(g.old k (Nat.lt_of_lt_of_le e h.size) (λm=>j (h.F k m))).trans (h.old k e j),h.new,g.slt,
  λb l=>⟨h.F _ (g.base b l).1,(g.base b l).2⟩,g.baseInj,λd f=>⟨h.F _ (g.box d f).1,(g.box d f).2⟩,g.boxInj,g.baseBox,λk e=>(g.sr k e).imp (h.R k) (h.F k),h.gl,g.bz,λk e=>⟨(g.zf k e).1.imp (h.F k) id,(g.zf k e).2⟩,g.ns,g.h9⟩
theorem f0p {N K:Act->World->Prop}{Q:Exit->Act->World->Prop}(k:execOp a.eval o=execOp ap.eval o)(p:∀l w',N l w'->l.defers=[])(h:o.wp P ap w N (λ_ _ _=>False))(j:∀v w',N (ap.put o.dst v) w'->K (a.put o.dst v) w'):o.wp P a w K Q:=by
 unfold Oper.wp at *;rw[k];generalize (execOp ap.eval o).run P w=r at *;cases r with
 |ok n w'=>
  cases n<;>simp only[Oper.upon]at h ⊢
  case value v=>exact j v w' h
  case skip=>exact j _ w' h
  case defer d =>have:=p _ _ h;cases m:o.dst<;>simp[m,Act.put]at this
  case enter f args=>
   refine Calls.mono h λe g b=>?_;cases e with
   |returned v=>exact j v g b
   |panicked c=>exact b.elim
   |outgrown=>obtain⟨_,_,b⟩:=b;exact b.elim
  case row row args=>exact Go.Rows.mono h λv g b=>j v g b
 |halt x w' =>cases x<;>simp only[Oper.upon]at h ⊢
theorem JW (z:ay P c)(hs:Sim Γ st a w){st':St}(g:Iu o.op=true)(h:dj c den st o=some st'):∃d v,o.dst=some d/\st' = { st with t:=st.t.set d v } /\ bv P Γ a w o v /\
  ∀t y,o.op = .load t y -> ∃cs,dR (λb=>st.h.getD b none) (ev st.t y)=some cs:=by
 have A:mn c o.op=none:=by unfold mn;split<;>first|rfl|(rename_i j;rw[j]at g;cases g)
 have C:ll c o.op=none:=by unfold ll;split<;>first|rfl|(rename_i j;rw[j]at g;cases g)
 unfold dj at h;rw[A,C]at h;simp only at h;unfold step at h;have j:ss st o.op=false:=by
  unfold ss;split;·rename_i j;rw[j]at g;cases g
  ·rename_i j;rw[j]at g;cases g
  ·rfl
 rw[j]at h;simp only[Bool.false_eq_true,if_false]at h;split at h;·cases h
 ·rename_i d D;split at h;·cases h
  ·rename_i v e;simp only[aK]at h;refine⟨d,v,D,h.symm,wl z hs e,λt y E=>?_⟩;rw[E]at e;simp only[aF,plain,pS]at e;cases s:c.ty t with
   |none=>rw[s]at e;cases e
   |some i=>
    rw[s]at e;simp only at e;cases x:dR (λb=>st.h.getD b none) (ev st.t y)with
    |none=>rw[x]at e;cases e
    |some cs=>exact⟨cs,rfl⟩
  ·rename_i r e;exfalso;cases f:o.op with
   |call l=>
    obtain⟨k,args,F⟩:=l;cases k with
    |builtin q=>cases q<;>rw[f]at g e<;>first|(cases g;done)|(simp only[aF,plain]at e;repeat' split at e)<;>cases e
    |_=>rw[f]at g;cases g
   |unOp u _ _=>rw[f]at e;cases u<;>simp only[aF,plain]at e<;>(repeat' split at e)<;>cases e
   |makeFunc m _ _=>rw[f]at e;cases m<;>simp only[aF,plain]at e<;>(repeat' split at e)<;>cases e
   |slice _ _ _ _ p=>rw[f]at e;cases p<;>simp only[aF,plain]at e<;>(repeat' split at e)<;>cases e
   |_=>rw[f]at g e;first|(cases g;done)|(simp only[aF,plain]at e;repeat' split at e)<;>cases e
  ·rename_i v esc n e;exfalso;cases f:o.op with
   |call l=>
    obtain⟨k,args,F⟩:=l;cases k with
    |builtin q=>cases q<;>rw[f]at g e<;>first|(cases g;done)|(simp only[aF,plain]at e;repeat' split at e)<;>cases e
    |_=>rw[f]at g;cases g
   |unOp u _ _=>rw[f]at e;cases u<;>simp only[aF,plain]at e<;>(repeat' split at e)<;>cases e
   |makeFunc m _ _=>rw[f]at e;cases m<;>simp only[aF,plain]at e<;>(repeat' split at e)<;>cases e
   |slice _ _ _ _ p=>rw[f]at e;cases p<;>simp only[aF,plain]at e<;>(repeat' split at e)<;>cases e
   |_=>rw[f]at g e;first|(cases g;done)|(simp only[aF,plain]at e;repeat' split at e)<;>cases e
theorem H7 (hs:Sim Γ st a w){v:V}{cs:List V}{k n:Nat}(hv:VR Γ w v (.pointer (some ⟨k,n,none⟩)))(h:dR η v=some cs):k<w.heap.size:=by
 cases v<;>simp only[dR]at h<;>first|(cases h;done)|skip
 case ptr d m =>obtain⟨e,h1⟩:=hv.ptr_inv;injection e with e;injection e with e;injection e with e1 e2;subst e1;exact(hs.good.box d h1).2.2
 case iptr x m=>
  cases hv with
  |rd _ _ h1=>cases h1 with
   |iptr _ _ _ _ _ hS=>exact hs.good.slt _ hS
 case eptr b s q xs i m =>obtain⟨e,h1,_⟩:=hv.eptr_inv;injection e with e;injection e with e;injection e with e1 e2;subst e1;exact(hs.good.base b h1).2.1
 case vptr b x m =>obtain⟨_,_,e,h1,_⟩:=hv.vptr_inv;injection e with e;injection e with e;injection e with e1 e2;subst e1;exact(hs.good.base b h1).2.1
theorem KY (s:ay P c)(hs:Sim Γ st a w){st':St}(b:It o.op=true)(h:step c den st o=some st') :
  ∃(d:Nat) (X:Nat->Value) (cs:Array Value) (e:TypeId),o.dst=some d/\(∀w1,(execOp a.eval o).run P w1 = .ok (.value (X w1.heap.size)) (w1.alloc (.cells cs e))) /\ ∀w' k,NewBlk Γ w w' k cs e->Sims Γ st' (a.put (some d) (X k)) w':=by
 unfold step at h;have l:ss st o.op=false:=by
  unfold ss;split;·rename_i l;rw[l]at b;cases b
  ·rename_i l;rw[l]at b;cases b
  ·rfl
 rw[l]at h;simp only[Bool.false_eq_true,if_false]at h;split at h;·cases h
 ·rename_i d u;split at h;·cases h
  ·rename_i v f;exfalso;cases g:o.op<;>rw[g]at b f<;>first|(cases b;done)|(simp only[aF]at f;repeat' split at f)<;>cases f
  ·rename_i r f;split at h;·rename_i j;simp only[aK]at h;subst h;obtain⟨cs,e,q,p⟩:=Du s hs f j.1 j.2.1 j.2.2.1 j.2.2.2.1 j.2.2.2.2;exact⟨d,λk=>.pointer (some ⟨k,0,none⟩),cs,e,u,q,p⟩
   ·cases h
  ·rename_i v esc n f;split at h
   ·rename_i j;simp only[aK]at h;subst h;cases g:o.op with
    |buildSlice t m y =>obtain⟨x,cs,e,q,p⟩:=lG s hs g f j.1 j.2.2;exact⟨d,λk=>.slice (some ⟨k,0,none⟩) x x,cs,e,u,q,p⟩
    |alloc t =>exfalso;rw[g]at f;simp only[aF]at f;split at f<;>cases f
    |_=>rw[g]at b;cases b
   ·cases h
theorem H8 {X l:Nat->Value}{cs b:Array Value}{e j:TypeId}(h:∀w1,(execOp a.eval o).run P w1 = .ok (.value (X w1.heap.size)) (w1.alloc (.cells cs e)))(q:∀w1,(execOp a.eval o).run P w1 = .ok (.value (l w1.heap.size)) (w1.alloc (.cells b j)))(w:World) :
  (∀k,X k=l k)/\cs=b/\e=j:=by
 have g:∀w1:World,X w1.heap.size=l w1.heap.size/\cs=b/\e=j:=λw1=>by
  have p:=(h w1).symm.trans (q w1);injection p with m r;injection m with m;have f:(w1.alloc (.cells cs e)).heap[w1.heap.size]?=(w1.alloc (.cells b j)).heap[w1.heap.size]?:=by rw[r]
  rw[bf,bf]at f;injection f with f;injection f with f n;exact⟨m,f,n⟩
 refine⟨λk=>?_,(g w).2⟩;have:=(g { w with heap:=Array.replicate k (.cells #[] e (0,0)) }).1;simpa using this
def Debt (P:Program)(ops:Array Oper)(ap:Act)(w:World)(o:Oper):Prop:=∃v,ap.put o.dst v=ap /\
 ((Region.wanted o (yielded ops ap.tmps)=true/\(∀w',LdOk ap w w' o->(execOp ap.eval o).run P w' = .ok (.value v) w') /\ ∀t y,o.op = .load t y -> ∀k n,ap.eval y = .pointer (some ⟨k,n,none⟩)->k<w.heap.size) \/
 (Region.wanted o (yielded ops ap.tmps)=false/\v=undef))
def Early (P:Program)(Γ0 Γ:Ctx)(ap:Act)(w:World)(o:Oper)(k:Nat):Prop:=∃(d:Nat) (X:Nat->Value) (cs:Array Value) (e:TypeId),o.dst=some d/\ap.put (some d) (X k)=ap /\
 (∀w1:World,(execOp ap.eval o).run P w1 = .ok (.value (X w1.heap.size)) (w1.alloc (.cells cs e)))/\w.heap[k]?=some (.cells cs e (0,0)) /\ ¬Γ.F k /\ ¬Γ.R k/\k<Γ.w0.heap.size/\Γ0.F k
theorem oe {t:TypeId}{y:Operand}{b:Option Tmp}{v:Value}(g:o.op = .load t y)(h:∀d,b=some d->d∉o.looksAt ops):(ap.put b v).eval y=ap.eval y:=
 Act.eval_put λd f e=>h d f (List.mem_append_left _ (List.mem_filterMap.2 ⟨.tmp d,by subst e;simp[g,Op.operands],rfl⟩))
theorem Debt.put (R:Reg ops){j:Nat}(A:ops[j]?=some o)(u:Debt P ops ap w o){e:Option Tmp}(v:Value)(l:∀d,e=some d->d∉o.looksAt ops)(C:∀d,e=some d->o.dst≠some d):Debt P ops (ap.put e v) w o:=by
 obtain⟨x,q,h⟩:=u;refine⟨x,by rw[Act.put_comm ap v x C,q],?_⟩;rw[execOp_put o (λcs b=>Region.noSelect_spec R.sel j o cs b A) ap e v l,wanted_put o ap e v l];refine h.imp (λ⟨z,s,r⟩=>⟨z,λw' g=>s w' ?_,λt y p k n m=>r t y p k n (by rw[<-m,oe p l])⟩) id;unfold LdOk at g ⊢;cases f:o.op with
 |load t y=>rw[f]at g;exact λk n m=>g k n (by rw[oe f l];exact m)
 |_=>rw[f]at g;exact g
theorem Debt.world (u:Debt P ops ap w o)(p:Iu o.op=true)(j:∀t y,o.op = .load t y -> ∀k n,ap.eval y = .pointer (some ⟨k,n,none⟩)->k<w.heap.size->w'.heap[k]?=w.heap[k]?):Debt P ops ap w' o:=by
 obtain⟨x,r,h⟩:=u;refine⟨x,r,h.imp (λ⟨v,s,g⟩=>⟨v,λw2 f=>s w2 ?_,λt y l k n e=>?_⟩) id⟩
 ·unfold LdOk at f ⊢;cases b:o.op with
  |load t y=>rw[b]at f;exact λk n e=>(f k n e).trans (j t y b k n e (g t y b k n e))
  |convert _ _ _=>rw[b]at p;cases p
  |_=>trivial
 ·have m:=g t y l k n e;have q:=j t y l k n e m;rw[Array.getElem?_eq_getElem m]at q;exact(Array.getElem?_eq_some_iff.1 q).1
theorem Early.put {Γ0:Ctx}(R:Reg ops){j k:Nat}(p:ops[j]?=some o)(n:Early P Γ0 Γ ap w o k){f:Option Tmp}(v:Value)(q:∀d,f=some d->d∉o.looksAt ops)(r:∀d,f=some d->o.dst≠some d):Early P Γ0 Γ (ap.put f v) w o k:=by obtain⟨d,X,cs,e,g,l,m,h⟩:=n;refine⟨d,X,cs,e,g,by rw[Act.put_comm ap v (X k) (by rw[<-g];exact r),l],?_,h⟩;rw[execOp_put o (λcs b=>Region.noSelect_spec R.sel j o cs b p) ap f v q];exact m
theorem Early.world {Γ0:Ctx}{k:Nat}(r:Early P Γ0 Γ ap w o k)(p:¬Γ'.F k)(s:∀k,Γ'.R k->Γ.R k)(hs:Γ.w0.heap.size<=Γ'.w0.heap.size)(q:w'.heap[k]?=w.heap[k]?):Early P Γ0 Γ' ap w' o k:=by obtain⟨d,X,cs,e,l,f,m,n,t,b,j,g⟩:=r;exact⟨d,X,cs,e,l,f,m,q.trans n,p,λh=>b (s _ h),Nat.lt_of_lt_of_le j hs,g⟩
structure Inv (P:Program) (c:Cfg) (den:Nat->List V->Option V) (ops:Array Oper) (ks:List Nat) (Γ0:Ctx) (sf:St) (L:Array Bool) (pre rest:List Nat) (Γ:Ctx) (st:St) (a ap:Act) (w:World) (B:Nat->Nat):Prop where
  ord:pre++rest=gL ops
  sz:L.size=ops.size
  sub:Sub Γ0 Γ
  sim:Sim Γ st ap w
  run:aV c den ops (iD c ops ks rest) st=some sf
  dz:a.defers=[]
  len:a.tmps.size=ap.tmps.size
  same:∀t:Nat,(∀(j:Nat) (p:Oper),j∈pre->L.getD j true=false->ops[j]?=some p->p.dst≠some t)->a.tmps[t]?=ap.tmps[t]?
  cl:xP ops L
  debt:∀(j:Nat) (p:Oper),j∈pre->(L.getD j true=false\/kept ops ks rest j=true)->ops[j]?=some p->kd ops j=0/\Debt P ops ap w p
  early:∀(j:Nat) (p:Oper),j∈rest->L.getD j true=true->ops[j]?=some p->kd ops j=1/\Early P Γ0 Γ ap w p (B j)
  inj:∀i j,i∈rest->j∈rest->L.getD i true=true->L.getD j true=true->B i=B j->i=j
theorem kP {ks l:List Nat}{h j:Nat}(b:kept ops ks l j=true):kept ops ks (h :: l) j=true:=by unfold kept at b ⊢;rw[Bool.and_eq_true,List.any_eq_true]at b ⊢;obtain⟨f,k,g,e⟩:=b;rw[Bool.and_eq_true]at e;refine⟨f,k,g,?_⟩;rw[Bool.and_eq_true];refine⟨e.1,?_⟩;have:=e.2;simp only[List.contains_eq_mem,decide_eq_true_eq]at this ⊢;exact List.mem_cons_of_mem _ this
theorem LI {ks l:List Nat}{j:Nat}(b:kept ops ks l j=true):kd ops j=0:=by unfold kept at b;rw[Bool.and_eq_true]at b;simpa using b.1
variable {ks:List Nat}{Γ0:Ctx}{sf:St}{L:Array Bool}{pre rest:List Nat}{B:Nat->Nat}{i h:Nat}
theorem cj (b:i<L.size)(j:Nat):(L.setIfInBounds i true).getD j true=if j=i then true else L.getD j true:=by
 by_cases e:j=i;·subst e;simp[b]
 ·rw[if_neg e];exact getD_set_ne true (Ne.symm e)
theorem yj (b:a.tmps.size=ap.tmps.size)(t:Nat)(v:Value):(a.put (some t) v).tmps[t]?=(ap.put (some t) v).tmps[t]?:=by simp[Act.put,Array.getElem?_setIfInBounds,b]
theorem kS {b:Option Tmp}{t:Nat}(v:Value)(h:b≠some t):(a.put b v).tmps[t]?=a.tmps[t]?:=by
 cases b with
 |none=>rfl
 |some d=>exact Array.getElem?_setIfInBounds_ne (λe=>h (by rw[e]))
theorem iG (b:Option Tmp)(v:Value):(a.put b v).tmps.size=a.tmps.size:=by cases b<;>simp[Act.put]
theorem lw (b:Option Tmp)(v:Value):(a.put b v).defers=a.defers:=by cases b<;>rfl
theorem Inv.get (R:Reg ops)(I:Inv P c den ops ks Γ0 sf L pre rest Γ st a ap w B){j:Nat}(b:j∈pre\/j∈rest):∃p,ops[j]?=some p:=by have:=R.lt j (by rw[<-I.ord];simpa using b);exact⟨ops[j],by simp[this]⟩
theorem Inv.rel (R:Reg ops)(I:Inv P c den ops ks Γ0 sf L pre rest Γ st a ap w B){j:Nat}(g:j∈pre)(f:i∈rest):iE ops j i=false/\j≠i:=by have e:=R.pw;have b:=R.nd;rw[<-I.ord]at e b;have:=(List.pairwise_append.1 e).2.2 j g i f;unfold JV at this;rw[Bool.and_eq_true,Bool.not_eq_true']at this;exact⟨this.1,(List.nodup_append.1 b).2.2 j g i f⟩
theorem Inv.agree (R:Reg ops)(I:Inv P c den ops ks Γ0 sf L pre rest Γ st a ap w B)(f:ops[i]?=some o)(m:∀e∈vn o,L.getD e true=true) :
  execOp a.eval o=execOp ap.eval o/\Region.wanted o (yielded ops a.tmps)=Region.wanted o (yielded ops ap.tmps):=
 CH R.sel f λt q=>I.same t λj p n g k b=>by obtain⟨d,r,l⟩:=R.flo k (by rw[(I.debt j p n (.inl g) k).1];decide) f;rw[r]at b;injection b with b;subst b;rw[R.closed I.cl i o f m (l q)]at g;cases g
theorem Inv.ahead (hA:ay P c)(R:Reg ops)(I:Inv P c den ops ks Γ0 sf L pre (h :: rest) Γ st a ap w B)(F:kd ops h=0):∃Z st',Inv P c den ops ks Γ0 sf L (pre++[h]) rest Γ st' a Z w B:=by
 obtain⟨o,z⟩:=I.get R (j:=h) (.inr (by simp));have M:L.getD h true=false:=by
  cases hb:L.getD h true with
  |false=>rfl
  |true=>have:=(I.early h o (by simp) hb z).1;rw[F]at this;cases this
 have l:=w0a z F;have f:=I.run;rw[iD,z]at f;simp only[aV]at f;have O:vj c ops ks h rest o st=true:=by unfold vj;simp[F]
 rw[O,if_neg (by rw[F];decide)]at f;simp only[dG]at f;have E:∀(v:Value) (st':St),Sim Γ st' (ap.put o.dst v) w->aV c den ops (iD c ops ks rest) st'=some sf->Debt P ops (ap.put o.dst v) w o->Inv P c den ops ks Γ0 sf L (pre++[h]) rest Γ st' a (ap.put o.dst v) w B:=by
  intro v st' G hr q;refine⟨by simp[<-I.ord],I.sz,I.sub,G,hr,I.dz,by rw[iG];exact I.len,λt ht=>?_,I.cl,λj p u C l=>?_,λj p u C l=>?_,λi j hi u=>I.inj i j (by simp[hi]) (by simp[u])⟩;·rw[kS v (ht h o (by simp) M z)];exact I.same t λj p u=>ht j p (by simp[u])
  ·rcases List.mem_append.1 u with u|u;·obtain⟨e1,T⟩:=I.debt j p u (C.imp id kP) l;obtain⟨r1,r2⟩:=I.rel R u (i:=h) (by simp);refine⟨e1,T.put R l v (λd q Q=>?_) λd q=>(R.sl h j o p d z l (Ne.symm r2) q).1⟩;obtain⟨J,D,f2⟩:=R.flo z (by rw[F];decide) l;rw[q]at D;injection D with D;subst D;rw[f2 Q]at r1;cases r1
   ·obtain rfl:=List.mem_singleton.1 u;rw[z]at l;injection l with l;subst l;exact⟨F,q⟩
  ·obtain⟨e1,T⟩:=I.early j p (by simp[u]) C l;have Y:h≠j:=λe=>by rw[e,C]at M;cases M
   refine⟨e1,T.put R l v (λd q Q=>?_) λd q=>(R.sl h j o p d z l Y q).1⟩;obtain⟨J,D,f2⟩:=R.flo z (by rw[F];decide) l;rw[q]at D;injection D with D;subst D;rw[R.closed I.cl j p l (I.cl j p l C) (f2 Q)]at M;cases M
 cases V:wanted ops st.t o with
 |none=>rw[V]at f;cases f
 |some b=>
  rw[V]at f;have K:=kX I.sim V;obtain⟨d,q,g⟩:=R.flo z (by rw[F];decide) z;have g:∀J,o.dst=some J->J∉o.looksAt ops:=λJ m Q=>by rw[q]at m;injection m with m;subst m;have:=g Q;rw[R.irr]at this;cases this
  have N:=λcs b=>Region.noSelect_spec R.sel h o cs b z;cases b with
  |true=>
   simp only at f;cases H:dj c den st o with
   |none=>rw[H]at f;cases f
   |some s=>
    rw[H]at f;obtain⟨J,v,m,G,⟨x,X,W⟩,aa⟩:=JW hA I.sim l H;subst G;refine⟨_,_,E x _ (by rw[m];exact I.sim.put W) f ⟨x,by rw[m];exact pf _ _,.inl ⟨by rw[wanted_put o ap o.dst x g];exact K,λw' A=>?_,λt y r k n S=>?_⟩⟩⟩
    ·rw[execOp_put o N ap o.dst x g];refine X w' ?_;unfold LdOk at A ⊢;cases r:o.op with
     |load t y=>rw[r]at A;exact λk n S=>A k n (by rw[oe r g];exact S)
     |_=>rw[r]at A;exact A
    ·rw[oe r g]at S;obtain⟨cs,U⟩:=aa t y r;have:=I.sim.ev y;rw[S]at this;exact H7 I.sim this U
  |false =>simp only[q]at f;exact⟨_,_,E undef _ (by rw[q];exact ub I.sim d) f ⟨undef,by rw[q];exact pf _ _,.inr ⟨by rw[wanted_put o ap o.dst undef g];exact K,rfl⟩⟩⟩
theorem Inv.adopt (hA:ay P c)(R:Reg ops)(I:Inv P c den ops ks Γ0 sf L pre (h :: rest) Γ st a ap w B)(l:kd ops h=1)(S:L.getD h true=true):∃Γ' st',Inv P c den ops ks Γ0 sf L (pre++[h]) rest Γ' st' a ap w B:=by
 obtain⟨o,Q⟩:=I.get R (j:=h) (.inr (by simp));obtain⟨u,N⟩:=d1d Q l;obtain⟨_,d,X,cs,e,D,hx,h3,h4,H,h6,h7,U⟩:=I.early h o (by simp) S Q;have f:=I.run;rw[iD,Q]at f;simp only[aV]at f;cases Z:vj c ops ks h rest o st with
 |false=>rw[Z]at f;cases f
 |true=>
  rw[Z]at f;have K:wanted ops st.t o=some true:=by unfold wanted;rw[N]
  rw[if_neg (by rw[l];decide)]at f;simp only[dG,K]at f;cases r:dj c den st o with
  |none=>rw[r]at f;cases f
  |some s=>
   rw[r]at f;have hw:mn c o.op=none:=by unfold mn;split<;>first|rfl|(rename_i y;rw[y]at u;cases u)
   have G:ll c o.op=none:=by unfold ll;split<;>first|rfl|(rename_i y;rw[y]at u;cases u)
   unfold dj at r;rw[hw,G]at r;simp only at r;have g:=I.sim.good
   have g1:Good { Γ with w0:=Γ.w0,F:=λk=>Γ.F k\/k=B h,R:=Γ.R } w:=
    ⟨g.os,g.tape,g.output,g.size,λk l O=>g.old k l (λh'=>O (.inl h')),λk l=>.inl (g.new k l),g.slt,λb C=>⟨.inl (g.base b C).1,(g.base b C).2⟩,g.baseInj,λd D=>⟨.inl (g.box d D).1,(g.box d D).2⟩,g.boxInj,g.baseBox,
     λk l=>(g.sr k l).imp id .inl,⟨g.gl.1,λk l=>l.elim (g.gl.2 k) (λe=>by subst e;exact I.sub.gl.2 _ U)⟩,g.bz,λk l=>⟨(g.zf k l).1.imp .inl id,(g.zf k l).2⟩,g.ns,g.h9⟩
   have E:=I.sim.refit (λ_ _=>rfl) g1;obtain⟨d',X',aa,e',x,M,hn⟩:=KY hA E u r;rw[D]at x;injection x with x;subst x;obtain⟨hX,rfl,rfl⟩:=H8 h3 M w;have v:=hn w (B h) ⟨λ_ _=>rfl,Nat.le_refl _,h4,.inr rfl,λhS=>(g.sr _ hS).elim h6 H,λb C y=>H (y▸(g.base b C).1),λk l y=>H (y▸(g.box k l).1),rfl,rfl,rfl⟩;rw[<-hX,hx]at v;obtain⟨W,n,J⟩:=v;have z:Sub Γ0 W:=by refine Sub.same (Γ':={ Γ with w0:=Γ.w0,F:=λk=>Γ.F k\/k=B h,R:=Γ.R }) ?_ n;have s:=I.sub;exact⟨s.os,s.tape,s.output,s.size,s.old,λk l=>l.elim (s.F k) (λe=>by subst e;exact U),s.R,s.new,s.gl,s.Y,s.nt,s.box⟩
   refine⟨W,s,by simp[<-I.ord],I.sz,z,J,f,I.dz,I.len,λt ht=>I.same t λj p q=>ht j p (by simp[q]),I.cl,λj p q m T=>?_,λj p q m T=>?_,λi j G q=>I.inj i j (by simp[G]) (by simp[q])⟩
   ·rcases List.mem_append.1 q with q|q;·exact I.debt j p q (m.imp id kP) T
    ·obtain rfl:=List.mem_singleton.1 q;rcases m with m|m;·rw[S]at m;cases m
     ·have:=LI m;rw[l]at this;cases this
   ·obtain⟨e1,V⟩:=I.early j p (by simp[q]) m T;refine⟨e1,V.world ?_ (λk l=>by rw[n.2.2.1]at l;exact l) (by rw[n.1];exact Nat.le_refl _) rfl⟩;rw[n.2.1];obtain⟨_,_,_,_,_,_,_,_,n5,_⟩:=V;rintro(O|hB);·exact n5 O
    ·have:=I.inj j h (by simp[q]) (by simp) m S hB;subst this;have A:=R.nd;rw[<-I.ord]at A;exact(List.nodup_cons.1 (List.nodup_append.1 A).2.1).1 q
theorem Inv.over (q:ay P c)(R:Reg ops):∀(l pre:List Nat) (Γ:Ctx) (st:St) (ap:Act),Inv P c den ops ks Γ0 sf L pre (l++rest) Γ st a ap w B->(∀x∈l,kd ops x=0\/(kd ops x=1/\L.getD x true=true)) ->
  ∃Γ' st' f,Inv P c den ops ks Γ0 sf L (pre++l) rest Γ' st' a f w B:=by
 intro l;induction l with
 |nil=>intro pre Γ st ap I _;exact⟨Γ,st,ap,by simpa using I⟩
 |cons x l r=>
  intro pre Γ st ap I j;rcases j x (by simp)with g|⟨g,s⟩;·obtain⟨f,st',k⟩:=Inv.ahead q R I g;obtain⟨n,e,b,p⟩:=r _ _ _ _ k λy m=>j y (by simp[m]);exact⟨n,e,b,by simpa using p⟩
  ·obtain⟨Γ',st',k⟩:=Inv.adopt q R I g s;obtain⟨n,e,b,p⟩:=r _ _ _ _ k λy m=>j y (by simp[m]);exact⟨n,e,b,by simpa using p⟩
theorem Inv.listed (R:Reg ops)(I:Inv P c den ops ks Γ0 sf L pre rest Γ st a ap w B)(k:ops[i]?=some o)(l:∀e∈vn o,L.getD e true=true):xP ops (L.setIfInBounds i true):=by
 have n:i<L.size:=by rw[I.sz];exact(Array.getElem?_eq_some_iff.1 k).1
 intro j p b f e g;rw[cj n]at f ⊢;split;·rfl
 ·split at f;·rename_i m;subst m;rw[k]at b;injection b with b;subst b;exact l e g
  ·exact I.cl j p b f e g
theorem Inv.pay (R:Reg ops)(I:Inv P c den ops ks Γ0 sf L pre rest Γ st a ap w B)(E:i∈pre)(S:L.getD i true=false)(m:ops[i]?=some o)(G:∀e∈vn o,L.getD e true=true){Q:Exit->Act->World->Prop}{K:Act->World->Prop}
  (A:∀H,Inv P c den ops ks Γ0 sf (L.setIfInBounds i true) pre rest Γ st H ap w B->K H w):wpOp P ops Q i K a w:=by
 obtain⟨T,v,z,N⟩:=I.debt i o E (.inl S) m;obtain⟨u,s⟩:=I.agree R m G;have f:i<L.size:=by rw[I.sz];exact(Array.getElem?_eq_some_iff.1 m).1
 have k:i∉rest:=λh=>(I.rel R E h).2 rfl;have J:Inv P c den ops ks Γ0 sf (L.setIfInBounds i true) pre rest Γ st (a.put o.dst v) ap w B:=by
  refine⟨I.ord,by simpa using I.sz,I.sub,I.sim,I.run,by rw[lw];exact I.dz,by rw[iG];exact I.len,λt O=>?_,I.listed R m G,λj p l b g=>?_,λj p l b g=>?_,λx y C F q n=>?_⟩
  ·by_cases e:o.dst=some t;·rw[e,yj I.len];rw[e]at z;rw[z]
   ·rw[kS v e];refine I.same t λj p l b g=>?_;by_cases D:j=i;·subst D;rw[m]at g;injection g with g;subst g;exact e
    ·exact O j p l (by rw[cj f,if_neg D];exact b) g
  ·refine I.debt j p l (b.imp (λb=>?_) id) g;rw[cj f]at b;split at b;·cases b
   ·exact b
  ·rw[cj f,if_neg (λe:j=i=>k (e▸l))]at b;exact I.early j p l b g
  ·rw[cj f,if_neg (λe:x=i=>k (e▸C))]at q;rw[cj f,if_neg (λe:y=i=>k (e▸F))]at n;exact I.inj x y C F q n
 unfold wpOp;simp only[m];rw[s];rcases N with⟨r,M,_⟩|⟨r,rfl⟩;·rw[if_pos r];refine .inl ?_;unfold Oper.wp;rw[u,M w (LdOk.refl _ _ _),Oper.upon_value];exact A _ J
 ·rw[if_neg (by rw[r];decide)];exact A _ J
theorem Inv.soon (hA:ay P c)(R:Reg ops)(I:Inv P c den ops ks Γ0 sf L pre (h :: rest) Γ st a ap w B)(hh:kd ops h≠0)(hi:i∈h :: rest)(hk:kd ops i=1)(hL:L.getD i true=false)(ho:ops[i]?=some o)(hd:∀e∈vn o,L.getD e true=true)
  {Q:Exit->Act->World->Prop} {K:Act->World->Prop} (hK:∀Γ' a' ap' w' B',Inv P c den ops ks Γ0 sf (L.setIfInBounds i true) pre (h :: rest) Γ' st a' ap' w' B'->K a' w'):wpOp P ops Q i K a w:=by
 obtain⟨hal,hgd⟩:=d1d ho hk;obtain⟨hex,hwt⟩:=I.agree R ho hd;have hin:i<L.size:=by rw[I.sz];exact(Array.getElem?_eq_some_iff.1 ho).1
 obtain⟨oh,hoh⟩:=I.get R (j:=h) (.inr (by simp));have hrun:=I.run;rw[iD,hoh]at hrun;simp only[aV]at hrun;have hu:∃d s,o.dst=some d/\st.t.getD d .undef = .undef/\step c (λ_ _=>none) st o=some s:=by
  cases hf:vj c ops ks h rest oh st with
  |false=>rw[hf]at hrun;cases hrun
  |true=>
   unfold vj at hf;simp only[Bool.or_eq_true,beq_iff_eq,hh,false_or,Bool.and_eq_true,List.all_eq_true]at hf;have:=hf.1 i hi;rw[ho]at this;simp only[bne_iff_ne,ne_eq,hk,not_true,false_or,Bool.or_eq_true,Bool.and_eq_true]at this;rcases this with h1|⟨h1,h2⟩
   ·exfalso;obtain⟨e,he,h2⟩:=List.any_eq_true.1 h1;simp only[Bool.and_eq_true,bne_iff_ne,ne_eq]at h2;have hm:e∈h :: rest:=by simpa using h2.1
    obtain⟨p,hp⟩:=I.get R (.inr hm);exact h2.2 (I.early e p hm (hd e he) hp).1
   ·split at h1;·rename_i d hdd;refine⟨d,_,hdd,?_,(Option.some_get h2).symm⟩;cases hv:st.t.getD d .undef<;>rw[hv]at h1<;>first|rfl|cases h1
    ·cases h1
 obtain⟨d,s,hdd,hun,hst⟩:=hu;obtain⟨d',X,cs,e,hd',hX,_⟩:=KY hA I.sim hal hst;rw[hdd]at hd';injection hd' with hd';subst hd';have g:=I.sim.good;have hself:∀(p:Oper) (j:Nat),ops[j]?=some p->d∈p.looksAt ops->iE ops j i=true:=λp j hj hm=>by obtain⟨d',f1,f2⟩:=R.flo ho (by rw[hk];decide) hj;rw[hdd]at f1;injection f1 with f1;subst f1;exact f2 hm
 unfold wpOp;simp only[ho];have hw1:Region.wanted o (yielded ops a.tmps)=true:=by unfold Region.wanted;rw[hgd]
 rw[if_pos hw1];refine .inl ?_;unfold Oper.wp;rw[hex,hX w,Oper.upon_value,hdd];have hold:=λk hk=>aE w (.cells cs e) (k:=k) hk;have hsz:=size_alloc w (.cells cs e);have g1:Good { Γ with w0:=w.alloc (.cells cs e),F:=λk=>Γ.F k/\k≠w.heap.size,R:=λk=>Γ.R k/\k≠w.heap.size } (w.alloc (.cells cs e)):=by
  have gl:=g.glob;have gn:∀k,k<w.heap.size->k≠w.heap.size:=λk hk=>Nat.ne_of_lt hk;have hle:w.heap.size<=(w.alloc (.cells cs e)).heap.size:=by omega
  exact⟨rfl,rfl,rfl,Nat.le_refl _,λ_ _ _=>rfl,λk hk=>⟨g.new k (by have:=g.size;show _<=k;have hk:(w.alloc (.cells cs e)).heap.size<=k:=hk;omega),by have hk:(w.alloc (.cells cs e)).heap.size<=k:=hk;omega⟩,
   λk hk=>by have:=g.slt k hk;omega,λb hb=>by
    obtain⟨h1,h2,h3,cur,e',h4,h5⟩:=g.base b hb
    exact⟨⟨h1,gn _ h2⟩,Nat.lt_of_lt_of_le h2 hle,h3,cur,e',(hold _ h2).trans h4,h5⟩,g.baseInj,λk hk=>by
    obtain⟨h1,h2,h3⟩:=g.box k hk
    exact⟨⟨h1,gn _ h3⟩,h2,Nat.lt_of_lt_of_le h3 hle⟩,g.boxInj,g.baseBox,λk hk=>(g.sr k hk).imp (λh=>⟨h,gn _ (g.slt k hk)⟩) (λh=>⟨h,gn _ (g.slt k hk)⟩),
   ⟨⟨li _ _ gl.1 (λk hk=>hold k (Nat.lt_of_lt_of_le hk gl.2)),by have:=gl.2;show nk<=(w.alloc (.cells cs e)).heap.size;omega⟩,λk hk=>g.gl.2 k hk.1⟩,g.bz,λk hk=>by
    obtain⟨h1,h2,cur,e',h4⟩:=g.zf k hk
    exact⟨h1.imp (λh=>⟨h,gn _ h2⟩) id,by omega,cur,e',(hold _ h2).trans h4⟩,g.ns,g.h9⟩
 have hs1:=I.sim.refit hold g1;have hs2:=hs1.put (d:=d) (v:=.undef) (x:=X w.heap.size) (VR.undef_ _);have hset:st.t.set d .undef=st.t:=by
  refine List.ext_getElem? λk=>?_;rw[List.getElem?_set];split
  ·rename_i e;subst e;split
   ·rename_i hlt;rw[List.getD_eq_getElem?_getD]at hun;cases hc:st.t[d]? with
    |none=>rw[List.getElem?_eq_getElem hlt]at hc;cases hc
    |some v=>rw[hc]at hun;exact congrArg some hun.symm
   ·rename_i hlt;rw[List.getElem?_eq_none (by omega)]
  ·rfl
 rw[hset]at hs2;have hb:∀k,k<w.heap.size -> ∀j:Nat,(λx=>if x=i then w.heap.size else B x) j=B j\/j=i:=λ_ _ j=>by
  by_cases e:j=i;·exact .inr e
  ·exact .inl (if_neg e)
 have hne0:∀(j:Nat) (p:Oper),ops[j]?=some p->j≠i -> ∀d',some d=some d'->p.dst≠some d':=λj p hj hji d' e=>by injection e with e;subst e;exact(R.sl i j o p d ho hj (Ne.symm hji) hdd).1
 refine hK _ _ _ _ (λx=>if x=i then w.heap.size else B x) ⟨I.ord,by simpa using I.sz,?_,hs2,I.run,by rw[lw];exact I.dz,by rw[iG,iG];exact I.len,λt ht=>?_,I.listed R ho hd,λj p hj hLj hp=>?_,λj p hj hLj hp=>?_,λx y hx hy hLx hLy hxy=>?_⟩
 ·have s:=I.sub
  exact⟨g.os.trans s.os,g.tape.trans s.tape,g.output.trans s.output,by have:=s.size;have:=g.size;show _<=(w.alloc (.cells cs e)).heap.size;omega,
   λk hk hF=>((hold k (by have:=s.size;have:=g.size;omega)).trans (g.old k (Nat.lt_of_lt_of_le hk s.size) (λh'=>hF (s.F k h')))).trans (s.old k hk hF),λk hk=>s.F k hk.1,λk hk=>s.R k hk.1,s.new,s.gl,s.Y,s.nt,s.box⟩
 ·by_cases e1:d=t;·subst e1;exact yj I.len d _
  ·rw[kS _ (λh=>e1 (by injection h)),kS _ (λh=>e1 (by injection h))];refine I.same t λj p hj hLj hp=>ht j p hj ?_ hp;rw[cj hin,if_neg ((I.rel R hj hi).2)];exact hLj
 ·have hji:=(I.rel R hj hi).2;rw[cj hin,if_neg hji]at hLj;obtain⟨e1,e2⟩:=I.debt j p hj hLj hp;refine⟨e1,(e2.world (w0a hp e1) λt y _ k n _ hk=>hold k hk).put R hp _ (λd' e hm=>?_) (hne0 j p hp hji)⟩;injection e with e;subst e;have:=hself p j hp hm;rw[(I.rel R hj hi).1]at this;cases this
 ·rw[cj hin]at hLj;by_cases hji:j=i
  ·subst hji;rw[ho]at hp;injection hp with hp;subst hp;rw[if_pos rfl];refine⟨hk,d,X,cs,e,hdd,pf _ _,λw1=>?_,bf w _,λh=>h.2 rfl,λh=>h.2 rfl,by show _<(w.alloc (.cells cs e)).heap.size;omega,I.sub.F _ (g.new _ g.size)⟩
   rw[execOp_put o (λcs b=>Region.noSelect_spec R.sel j o cs b ho) ap (some d) _ (λd' e hm=>by
    injection e with e
    subst e
    have:=hself o j ho hm
    rw[R.irr]at this
    cases this)]
   exact hX w1
  ·rw[if_neg hji]at hLj ⊢;obtain⟨e1,e2⟩:=I.early j p hj hLj hp;have hlt:B j<w.heap.size:=by obtain⟨_,_,_,_,_,_,_,h4,_⟩:=e2;exact(Array.getElem?_eq_some_iff.1 h4).1
   refine⟨e1,(e2.world (Γ':={ Γ with w0:=w.alloc (.cells cs e),F:=λk=>Γ.F k/\k≠w.heap.size,R:=λk=>Γ.R k/\k≠w.heap.size }) (λh=>?_) (λk h=>h.1) (by have:=g.size;show _<=(w.alloc (.cells cs e)).heap.size;omega) (hold _ hlt)).put R hp _ (λd' e hm=>?_) (hne0 j p hp hji)⟩;·obtain⟨_,_,_,_,_,_,_,_,n5,_⟩:=e2;exact n5 h.1
   ·injection e with e;subst e;have:=R.closed I.cl j p hp (I.cl j p hp hLj) (hself p j hp hm);rw[hL]at this;cases this
 ·have hB:∀z,z∈h :: rest->z≠i->L.getD z true=true->B z<w.heap.size:=λz hz _ hLz=>by obtain⟨p,hp⟩:=I.get R (.inr hz);obtain⟨_,_,_,_,_,_,_,_,h4,_⟩:=I.early z p hz hLz hp;exact(Array.getElem?_eq_some_iff.1 h4).1
  rw[cj hin]at hLx hLy;by_cases ex:x=i
  ·by_cases ey:y=i;·rw[ex,ey]
   ·rw[if_neg ey]at hLy;simp only[if_pos ex,if_neg ey]at hxy;have:=hB y hy ey hLy;omega
  ·rw[if_neg ex]at hLx;by_cases ey:y=i;·simp only[if_pos ey,if_neg ex]at hxy;have:=hB x hx ex hLx;omega
   ·rw[if_neg ey]at hLy;simp only[if_neg ex,if_neg ey]at hxy;exact I.inj x y hx hy hLx hLy hxy
theorem ox (hs:Sim Γ st a w){u v:V}{x y:Value}(h:apart st.dead u v=true)(k:VR Γ w u x)(E:VR Γ w v y){p:Addr}(e:x = .pointer (some p)):(∀q:Addr,y = .pointer (some q)->p.block≠q.block) /\ ∀(q:Addr) (l m:Nat),y = .slice (some q) l m->p.block≠q.block:=by
 have g:=hs.good;have r:∀{i n:Nat},VR Γ w (.ptr i n) x->Γ.lb i/\p.block=Γ.box i:=λk=>by obtain⟨t,s⟩:=k.ptr_inv;rw[t]at e;injection e with e;injection e with e;exact⟨s,by rw[<-e]⟩
 have F:∀{z:V} {n:Nat},VR Γ w (.iptr z n) x->Γ.S p.block:=λk=>by
  cases k with
  |rd _ _ G=>cases G with
   |iptr _ k0 _ _ _ A=>
    injection e with e;injection e with e
    rw[<-e];exact A
 unfold apart at h;split at h
 ·rename_i i _ j _;obtain⟨s,C⟩:=r k;obtain⟨rfl,J⟩:=E.ptr_inv;have H:i≠j:=by simpa using h
  refine⟨λq b f=>?_,λq l m b=>(by cases b)⟩;injection b with b;injection b with b;exact H (g.boxInj i j s J (by rw[<-C,f,<-b]))
 ·obtain⟨s,C⟩:=r k;rcases E.own_inv with⟨rfl,rfl,I⟩|⟨rfl,t,_⟩;·exact⟨λq b=>(by cases b),λq l m b=>(by cases b)⟩
  ·refine⟨λq b=>(by cases b),λq l m b f=>?_⟩;injection b with b;injection b with b;exact g.baseBox _ _ t s (by rw[<-C,f,<-b])
 ·obtain⟨s,C⟩:=r k;obtain⟨rfl,t,_⟩:=E.eptr_inv;refine⟨λq b f=>?_,λq l m b=>(by cases b)⟩;injection b with b;injection b with b;exact g.baseBox _ _ t s (by rw[<-C,f,<-b])
 ·obtain⟨s,C⟩:=r k;cases E with
  |rd _ _ G=>cases G with
   |iptr _ k0 _ _ _ A=>
    refine⟨λq b f=>?_,λq l m b=>(by cases b)⟩
    injection b with b;injection b with b
    exact(g.box _ s).2.1 (by rw[<-C,f,<-b];exact A)
 ·have A:=F k;rcases E.own_inv with⟨rfl,rfl,I⟩|⟨rfl,t,_⟩;·exact⟨λq b=>(by cases b),λq l m b=>(by cases b)⟩
  ·refine⟨λq b=>(by cases b),λq l m b f=>?_⟩;injection b with b;injection b with b;exact hs.nds _ t (by simpa using h) (by have D:=f;rw[<-b]at D;simp only at D;rw[<-D];exact A)
 ·have A:=F k;obtain⟨rfl,t,_⟩:=E.eptr_inv;refine⟨λq b f=>?_,λq l m b=>(by cases b)⟩;injection b with b;injection b with b;exact hs.nds _ t (by simpa using h) (by have D:=f;rw[<-b]at D;simp only at D;rw[<-D];exact A)
 ·cases h
theorem QX (hs:Sim Γ st a w){y:Operand}(h:In c st o y=true){k n:Nat}(u:a.eval y = .pointer (some ⟨k,n,none⟩)):J3 c st a o k:=by
 unfold In at h;unfold J3;cases O:mn c o.op with
 |some z=>rw[O]at h;cases h
 |none=>
  rw[O]at h;refine⟨rfl,?_⟩;simp only at h;cases N:ll c o.op with
  |some z=>
   obtain⟨f,s,az⟩:=z;rw[N]at h;simp only at h ⊢;split at h
   ·rename_i x;obtain⟨W,F,C⟩:=hs.head ([],[])
    have A:∀v,v ≠ .undef->(st.head ([],[])).t.getD x .undef=v->(st.head ([],[])).t[x]?=some v/\a.tmps[x]?=some (.pointer (some ⟨k,n,none⟩)):=by
     intro v D q;have J:(st.head ([],[])).t[x]?=some v:=by
      rw[List.getD_eq_getElem?_getD]at q;cases K:(st.head ([],[])).t[x]? with
      |none=>rw[K]at q;exact absurd q.symm D
      |some v=>rw[K]at q;exact congrArg some q
     obtain⟨z,I,V⟩:=C.tm x _ J;have S:a.eval (.tmp x)=z:=by simp[Act.eval,I]
     rw[S]at u;exact⟨J,by rw[I,u]⟩
    split at h;·rename_i X m p q H;obtain⟨j,r⟩:=A _ (by simp) q;exact⟨x,_,n,p,j,r,H,by simpa using h⟩
    ·rename_i b _ _ _ _ _ p q H;obtain⟨j,r⟩:=A _ (by simp) q;exact⟨x,_,n,p,j,r,H,by simpa using h⟩
    ·cases h
   ·cases h
  |none=>
   rw[N]at h;simp only at h ⊢;intro g;unfold WW at g;split at h
   ·rename_i Q x e;rw[e]at g;obtain⟨p,j,r⟩:=g;rw[Bool.or_eq_true]at h;have R:=hs.ev Q;have M:=hs.ev y;rcases h with h|h;·exact(ox hs h R M j).1 _ u r
    ·exact(ox hs h M R u).1 _ j r.symm
   ·rename_i args U e;rw[e]at g;obtain⟨x,p,l,m,T,j,r⟩:=g;rw[T]at h;simp only[Bool.or_eq_true]at h;rcases h with h|h;·exact(ox hs h (hs.ev y) (hs.ev x) u).2 _ _ _ j r.symm
    ·have:=hs.ev x;cases D:ev st.t x<;>rw[D]at h this<;>first|(cases h;done)|skip
     rw[this.nil_inv]at j;cases j
   ·rename_i E G;split at g;·rename_i Q x e;exact E _ _ _ e
    ·rename_i args U e;exact G _ _ e
    ·exact g
theorem Inv.before (R:Reg ops)(I:Inv P c den ops ks Γ0 sf L pre rest Γ st a ap w B){r1 r2:List Nat}(j:rest=r1++i :: r2)(q:ops[i]?=some o)(n:∀e∈vn o,L.getD e true=true)(s:L.getD i true=false)(m:kd ops i≠1) :
  ∀x∈r1,kd ops x=0\/(kd ops x=1/\L.getD x true=true):=by
 intro x k;have l:=R.pw;rw[<-I.ord,j]at l;have:=(List.pairwise_append.1 (List.pairwise_append.1 l).2.1).2.2 x k i (by simp);unfold JV at this;simp only[Bool.and_eq_true,Bool.or_eq_true,beq_iff_eq,m,or_false]at this;rcases this.2 with g|g;·exact .inl g
 ·have f:=R.closed I.cl i o q n g;have b:x∈rest:=by rw[j];simp[k]
  obtain⟨p,r⟩:=I.get R (.inr b);exact .inr ⟨(I.early x p b f r).1,f⟩
theorem Inv.event (hA:ay P c)(hY:ks≠[] -> ∀k,¬Γ0.Y k)(hW:mJ P c)(hD:bE P den)(hI:cZ P c den)(R:Reg ops)(I:Inv P c den ops ks Γ0 sf L pre (i :: rest) Γ st a ap w B)(hk:kd ops i=2)(hL:L.getD i true=false)(ho:ops[i]?=some o)(hd:∀e∈vn o,L.getD e true=true)
  {Q:Exit->Act->World->Prop} {K:Act->World->Prop} (hK:∀Γ' st' a' ap' w',Inv P c den ops ks Γ0 sf (L.setIfInBounds i true) (pre++[i]) rest Γ' st' a' ap' w' B->K a' w'):wpOp P ops Q i K a w:=by
 obtain⟨hex,hwt⟩:=I.agree R ho hd;have hin:i<L.size:=by rw[I.sz];exact(Array.getElem?_eq_some_iff.1 ho).1
 have hrun:=I.run;rw[iD,ho]at hrun;simp only[aV]at hrun;cases hf:vj c ops ks i rest o st with
 |false=>rw[hf]at hrun;cases hrun
 |true=>
 rw[hf]at hrun;simp only at hrun;have hnr:i∉rest:=by have hnd:=R.nd;rw[<-I.ord]at hnd;exact(List.nodup_cons.1 (List.nodup_append.1 hnd).2.1).1
 have hfar:∀(j:Nat) (p:Oper),j∈pre->(L.getD j true=false\/kept ops ks rest j=true)->ops[j]?=some p->(∀t y,p.op = .load t y->In c st o y=true) /\ ∀d,o.dst=some d->kept ops ks rest j=true->d∉p.looksAt ops:=by
  intro j p hj hLj hp;unfold vj at hf;simp only[Bool.or_eq_true,beq_iff_eq,hk,Bool.and_eq_true,List.all_eq_true]at hf;have:=((hf.resolve_left (by decide)).2.resolve_left (by decide)) j (List.mem_range.2 (Array.getElem?_eq_some_iff.1 hp).1);rcases this with h1|h1
  ·exfalso;have hm:j∈i :: rest:=by simpa using h1
   exact(I.rel R hj hm).2 rfl
  ·rw[hp]at h1;simp only[Bool.or_eq_true,bne_iff_ne,ne_eq,(I.debt j _ hj (hLj.imp id kP) hp).1,not_true,false_or,Bool.and_eq_true,Bool.not_eq_true']at h1;rcases h1 with h1|h1
   ·exfalso;rcases hLj with hLj|hLj;·rw[R.closed I.cl i o ho hd h1.1]at hLj;cases hLj
    ·rw[hLj]at h1;cases h1.2
   ·refine⟨λt y hop=>?_,λd hdd hk' hm=>?_⟩;·have:=h1.1;rw[hop]at this;exact this
    ·have:=h1.2;rw[hdd]at this;simp[hk',hm]at this
 have htk:∃st1,dG c st (if kd ops i=2 then ud ops ks i rest o else none)=some st1/\(∃Γ1,Same Γ Γ1/\Sim Γ1 st1 ap w) /\ ∀k,J3 c st ap o k->J3 c st1 ap o k:=by
  rw[if_pos hk]at hrun ⊢;cases hz:ud ops ks i rest o with
  |none=>exact⟨st,rfl,⟨Γ,Same.rfl',I.sim⟩,λ_ h=>h⟩
  |some z=>
   obtain⟨X,t,y⟩:=z;rw[hz]at hrun;cases hts:dG c st (some (X,t,y))with
   |none=>rw[hts]at hrun;cases hrun
   |some st1=>
    unfold ud at hz;split at hz
    ·rename_i args ts hop;split at hz
     ·rename_i X' hX';obtain⟨k0,hkk,hz⟩:=List.exists_of_findSome?_eq_some hz;split at hz
      ·rename_i d t' y' ty ps af gu hjo;split at hz
       ·rename_i hc;obtain⟨rfl,hk0,hki,hjr⟩:=hc;simp only[aK,Prod.mk.injEq]at hz;obtain⟨rfl,rfl,rfl⟩:=hz;have hjp:k0/1000∈pre:=by have:=R.all (k0/1000) (Array.getElem?_eq_some_iff.1 hjo).1;rw[<-I.ord]at this;exact(List.mem_append.1 this).resolve_right (by simpa using hjr)
        have hkp:kept ops ks (i :: rest) (k0/1000)=true:=by unfold kept;rw[Bool.and_eq_true,List.any_eq_true];exact⟨by simp[hk0],k0,hkk,by simp[hki]⟩
        obtain⟨_,v,hv,hD⟩:=I.debt (k0/1000) _ hjp (.inr hkp) hjo;have hio:ll c o.op=none:=by rw[hop];rfl
        refine⟨st1,rfl,Js hA I.sim (by have:=hY (by intro e;rw[e]at hkk;cases hkk);rw[<-I.sub.Y]at this;exact this) hts (λk n hy=>⟨v,?_,hv⟩),λk hf=>?_⟩
        ·rcases hD with⟨_,h1,_⟩|⟨_,rfl⟩
         ·have h1:=h1 w (LdOk.refl _ _ _);simp only[execOp,Instr.loadAt,hy,Instr.sureAddr]at h1;cases hr:(loadVar t' ⟨k,n,none⟩).run P w with
          |ok u w2=>simp[hr]at h1;obtain⟨rfl,rfl⟩:=h1;rfl
          |halt x w2=>simp[hr]at h1
         ·exfalso;have hXv:∃s f0,ev st.t (.tmp X') = .sl s true f0:=by
           simp only[dG]at hts;split at hts;·rename_i h _;exact⟨_,_,h⟩
           ·cases hts
          obtain⟨s,f0,hXv⟩:=hXv;have hvx:=I.sim.ev (.tmp X');rw[hXv]at hvx;have hu:ap.eval (.tmp X')=undef:=by
           rw[<-hv];simp only[Act.eval,Act.put,Array.getD_eq_getD_getElem?,Array.getElem?_setIfInBounds];split;·split<;>rfl
           ·rename_i h;exact absurd trivial h
          rw[hu]at hvx;have:=hvx.sl_inv;cases this
        ·unfold J3 at hf ⊢;rw[hio]at hf ⊢;exact hf
       ·cases hz
      ·cases hz
     ·cases hz
    ·cases hz
 obtain⟨st1,htk,⟨Γ1,hsame1,hs1⟩,hfar1⟩:=htk;rw[htk]at hrun;simp only at hrun;have push:∀(v:Value) (st':St) (w':World),Sims Γ1 st' (ap.put o.dst v) w'->(∀k,k<w.heap.size->J3 c st1 ap o k->w'.heap[k]?=w.heap[k]?)->aV c den ops (iD c ops ks rest) st'=some sf->K (a.put o.dst v) w':=by
  intro v st' w' ⟨Γ',hsame,hs'⟩ hfr hr;have hsame:=hsame1.trans hsame;refine hK Γ' st' _ (ap.put o.dst v) w' ⟨by simp[<-I.ord],by simpa using I.sz,I.sub.same hsame,hs',hr,by rw[lw];exact I.dz,by rw[iG,iG];exact I.len,λt ht=>?_,I.listed R ho hd,λj p hj hLj hp=>?_,λj p hj hLj hp=>?_,λx y hx hy hLx hLy=>?_⟩
  ·by_cases e1:o.dst=some t;·rw[e1];exact yj I.len t _
   ·rw[kS _ e1,kS _ e1];refine I.same t λj p hj hLj hp=>ht j p (by simp[hj]) ?_ hp;rw[cj hin,if_neg (I.rel R hj (by simp)).2];exact hLj
  ·have hji:j≠i:=λe=>by
    subst e;rcases hLj with hLj|hLj;·rw[cj hin,if_pos rfl]at hLj;cases hLj
    ·have:=LI hLj;rw[hk]at this;cases this
   rw[cj hin,if_neg hji]at hLj;have hj:j∈pre:=by
    rcases List.mem_append.1 hj with hj|hj;·exact hj
    ·exact absurd (List.mem_singleton.1 hj) hji
   obtain⟨e1,e2⟩:=I.debt j p hj (hLj.imp id kP) hp;refine⟨e1,(e2.world (w0a hp e1) λt y hop k n hy hk=>hfr k hk (hfar1 k (QX I.sim ((hfar j p hj hLj hp).1 t y hop) hy))).put R hp v (λd hdd hm=>?_) λd hdd=>(R.sl i j o p d ho hp (Ne.symm hji) hdd).1⟩;rcases(R.sl i j o p d ho hp (Ne.symm hji) hdd).2 hm with h1|⟨_,h1⟩;·rw[(I.rel R hj (by simp)).1]at h1;cases h1
   ·have hLt:=R.closed I.cl i o ho hd h1;rcases hLj with hLj|hLj;·rw[hLt]at hLj;cases hLj
    ·exact(hfar j p hj (.inr hLj) hp).2 d hdd hLj hm
  ·have hji:j≠i:=λe=>hnr (e▸hj);rw[cj hin,if_neg hji]at hLj;obtain⟨e1,e2⟩:=I.early j p (by simp[hj]) hLj hp;have hkept:w'.heap[B j]?=w.heap[B j]?:=by obtain⟨_,_,_,_,_,_,_,_,n5,n6,n7,_⟩:=e2;have h1:=hs'.good.old (B j) (by rw[hsame.1];exact n7) (by rw[hsame.2.1];exact n5);rw[hsame.1]at h1;exact h1.trans (I.sim.good.old (B j) n7 n5).symm
   refine⟨e1,(e2.world (by rw[hsame.2.1];exact e2.choose_spec.choose_spec.choose_spec.choose_spec.2.2.2.2.1) (λk hk=>by rw[hsame.2.2.1]at hk;exact hk) (by rw[hsame.1];exact Nat.le_refl _) hkept).put R hp v (λd hdd hm=>?_) λd hdd=>(R.sl i j o p d ho hp (Ne.symm hji) hdd).1⟩;rcases(R.sl i j o p d ho hp (Ne.symm hji) hdd).2 hm with h1|⟨h1,_⟩;·rw[R.closed I.cl j p hp (I.cl j p hp hLj) h1]at hL;cases hL
   ·exact h1 e1
  ·rw[cj hin,if_neg (λe:x=i=>hnr (e▸hx))]at hLx;rw[cj hin,if_neg (λe:y=i=>hnr (e▸hy))]at hLy;exact I.inj x y (by simp[hx]) (by simp[hy]) hLx hLy
 unfold wpOp;simp only[ho];rw[hwt];cases hw:wanted ops st1.t o with
 |none=>rw[hw]at hrun;cases hrun
 |some b=>
  rw[hw]at hrun;rw[kX hs1 hw];cases b with
  |true=>
   simp only at hrun;cases hst:dj c den st1 o with
   |none=>rw[hst]at hrun;cases hrun
   |some s =>rw[hst]at hrun;rw[if_pos rfl];refine .inl (f0p hex (N:=λa' w'=>Sims Γ1 s a' w' /\ ∀k,k<w.heap.size->J3 c st1 ap o k->w'.heap[k]?=w.heap[k]?) (λa' w' h=>?_) (nw hA hW hD hI hs1 hst _ _ λa' w' h1 h2=>⟨h1,h2⟩) λv w' h=>push v s w' h.1 h.2 hrun);obtain⟨⟨_,_,hs2⟩,_⟩:=h;exact hs2.dz
  |false=>
   rw[if_neg (by decide)];simp only at hrun;cases hdd:o.dst with
   |some d =>rw[hdd]at hrun push;exact push undef _ w ⟨Γ1,Same.rfl',ub hs1 d⟩ (λ_ _ _=>rfl) hrun
   |none =>rw[hdd]at hrun push;exact push undef _ w ⟨Γ1,Same.rfl',hs1⟩ (λ_ _ _=>rfl) hrun
theorem v_ {p q:Nat->Bool}:∀(l:List Nat) (i:Nat),i∈l->p i=true->q i=false->(∀x,q x=true->p x=true)->(l.filter q).length<(l.filter p).length:=by
 intro l;induction l with
 |nil=>intro i h;cases h
 |cons x l b=>
  intro i h j k g;have e:(l.filter q).length<=(l.filter p).length:=by
   clear b h;induction l with
   |nil=>exact Nat.le_refl _
   |cons y l b=>
    simp only[List.filter_cons];split;·rename_i f;rw[if_pos (g y f)];exact Nat.succ_le_succ b
    ·split;·exact Nat.le_succ_of_le b
     ·exact b
  simp only[List.filter_cons];rcases List.mem_cons.1 h with rfl|h;·rw[if_pos j,k];exact Nat.lt_succ_of_le e
  ·have:=b i h j k g;split;·rename_i f;rw[if_pos (g x f)];exact Nat.succ_lt_succ this
   ·split;·exact Nat.lt_succ_of_lt this
    ·exact this
def left (ops:Array Oper)(L:Array Bool):Nat:=((List.range ops.size).filter λj=>!L.getD j true).length
theorem sw (h:left ops L=0)(j:Nat)(b:j<ops.size):L.getD j true=true:=by
 cases e:L.getD j true with
 |true=>rfl
 |false =>exfalso;have:j∈(List.range ops.size).filter λj=>!L.getD j true:=List.mem_filter.2 ⟨List.mem_range.2 b,by rw[e];rfl⟩;rw[List.eq_nil_of_length_eq_zero h]at this;cases this
theorem wQ (g:L.size=ops.size)(f:i<ops.size)(e:L.getD i true=false):left ops (L.setIfInBounds i true)<left ops L:=
 v_ (List.range ops.size) i (List.mem_range.2 f) (by simp[e]) (by simp[cj (show i<L.size by omega)]) λx b=>by
  simp only[cj (show i<L.size by omega)]at b;split at b;·cases b
  ·exact b
theorem pQ:left ops (Array.replicate ops.size false)<=ops.size:=Nat.le_trans (List.length_filter_le _ _) (by simp)
theorem tB (k:∀(j:Nat) (o:Oper),ops[j]?=some o -> ∀e∈o.after,Region.binds .any e=true->e.on<j)(r:L.size=ops.size)(l:Region.ready .any ops L=[])(j:Nat):j<ops.size->L.getD j true=true:=by
 induction j using Nat.strongRecOn with
 |_ j n=>
  intro g;cases q:L.getD j true with
  |true=>rfl
  |false=>
   exfalso
   have:j∈Region.ready .any ops L:=mem_ready.2 ⟨q,ops[j],by simp[g],λe m f=>by
    have b:=k j _ (by simp[g]) e m f
    have p:=n e.on b (by omega)
    simpa[show e.on<L.size by omega]using p⟩
   rw[l]at this;cases this
theorem Inv.end_ (u:ay P c)(R:Reg ops)(I:Inv P c den ops ks Γ0 sf L pre rest Γ st a ap w B)(m:∀j,j<ops.size->L.getD j true=true):Sims Γ0 sf a w:=by
 have v:Inv P c den ops ks Γ0 sf L pre (rest++[]) Γ st a ap w B:=by simpa using I
 obtain⟨Γ',st',b,f⟩:=Inv.over u R rest pre Γ st ap v λx l=>by obtain⟨p,k⟩:=I.get R (.inr l);have s:=m x (Array.getElem?_eq_some_iff.1 k).1;exact .inr ⟨(I.early x p l s k).1,s⟩
 have r:=f.run;simp only[iD,aV,aK]at r;subst r;have e:a=b:=by
  have n:a.tmps=b.tmps:=Array.ext_getElem? λt=>f.same t λj p y g k=>by rw[m j (Array.getElem?_eq_some_iff.1 k).1]at g;cases g
  have q:a.defers=b.defers:=f.dz.trans f.sim.dz.symm;cases a;cases b;simp only at n q;rw[n,q]
 rw[e];exact f.sub.sims f.sim
theorem Pb (A:ay P c)(hY:ks≠[] -> ∀k,¬Γ0.Y k)(hW:mJ P c)(hD:bE P den)(hI:cZ P c den)(R:Reg ops){Q:Exit->Act->World->Prop}(hQ:∀a w,Sims Γ0 sf a w->Q .normal a w):∀(f:Nat) (L:Array Bool) (pre rest:List Nat) (Γ:Ctx) (st:St) (a ap:Act) (w:World) (B:Nat->Nat),
  Inv P c den ops ks Γ0 sf L pre rest Γ st a ap w B->left ops L<=f->wpAny P .any ops Q f L a w:=by
 intro f;have D:∀(j:Nat) (o:Oper),ops[j]?=some o -> ∀e∈o.after,Region.binds .any e=true->e.on<j:=λj o n e T N=>R.back j o n _ (List.mem_map.2 ⟨e,List.mem_filter.2 ⟨by simpa using T,N⟩,rfl⟩);induction f with
 |zero=>
  intro L pre rest Γ st a ap w B I z;have Z:=sw (Nat.le_zero.1 z);refine⟨?_,hQ _ _ (I.end_ A R Z)⟩;cases t:Region.ready .any ops L with
  |nil=>rfl
  |cons i l =>exfalso;obtain⟨O,o,n,_⟩:=mem_ready.1 (show i∈Region.ready .any ops L by rw[t];simp);rw[Z i (Array.getElem?_eq_some_iff.1 n).1]at O;cases O
 |succ f X=>
  intro L pre rest Γ st a ap w B I z;refine⟨λt=>hQ _ _ (I.end_ A R (tB D I.sz t)),λi hi=>?_⟩;obtain⟨F,o,n,H⟩:=mem_ready.1 hi;have E:=(Array.getElem?_eq_some_iff.1 n).1;have aa:i<L.size:=by rw[I.sz];exact E
  have J:∀e∈vn o,L.getD e true=true:=λe T=>by
   obtain⟨x,q,rfl⟩:=List.mem_map.1 T;obtain⟨h1,h2⟩:=List.mem_filter.1 q;have V:=H x (by simpa using h1) h2;cases N:L[x.on]? with
   |none=>simp[N]at V
   |some b=>simp[N]at V ⊢;exact V
  have g:left ops (L.setIfInBounds i true)<=f:=by have:=wQ I.sz E F;omega
  have K:∀pre rest Γ st ap,Inv P c den ops ks Γ0 sf L pre rest Γ st a ap w B->i∈pre->wpOp P ops Q i (wpAny P .any ops Q f (L.setIfInBounds i true)) a w:=λpre rest Γ st ap I S=>
   I.pay R S F n J λa' v=>X _ _ _ _ _ _ _ _ _ v g
  by_cases S:i∈pre;·exact K _ _ _ _ _ I S
  ·have C:i∈rest:=by have:=R.all i E;rw[<-I.ord]at this;exact(List.mem_append.1 this).resolve_left S
   rcases Nat.lt_or_ge 0 (kd ops i)with O|O
   ·rcases Zd (ops:=ops) i with h|G|G;·omega
    · -- late: the machine stands where nothing is early
     have m:=List.takeWhile_append_dropWhile (p:=λx=>kd ops x==0) (l:=rest);have y:=I;rw[<-m]at y;obtain⟨Γ',st',M,v⟩:=Inv.over A R _ pre Γ st ap y λx q=>.inl (by simpa using List.all_eq_true.1 List.all_takeWhile x q);have s:i∈rest.dropWhile λx=>kd ops x==0:=by have:=C;rw[<-m]at this;refine(List.mem_append.1 this).resolve_left λh=>?_;have:=List.all_eq_true.1 List.all_takeWhile i h;simp[G]at this
     cases u:rest.dropWhile λx=>kd ops x==0 with
     |nil=>rw[u]at s;cases s
     |cons h r=>
      rw[u]at v s;have hh:kd ops h≠0:=by have:=List.head_dropWhile_not (λx=>kd ops x==0) (l:=rest) (by rw[u];simp);simp only[u,List.head_cons]at this;simpa using this
      exact v.soon A R hh s G F n J λΓ2 a2 W w2 B2 U=>X _ _ _ _ _ _ _ _ _ U g
    ·obtain⟨r1,r2,t⟩:=List.append_of_mem C;have y:=I;rw[t]at y;obtain⟨Γ',st',M,v⟩:=Inv.over A R r1 pre Γ st ap y (I.before R t n J F (by rw[G];decide));exact v.event A hY hW hD hI R G F n J λΓ2 ab a2 W w2 U=>X _ _ _ _ _ _ _ _ _ U g
   ·obtain⟨r1,r2,t⟩:=List.append_of_mem C;have y:=I;rw[t,show r1++i :: r2=(r1++[i])++r2 by simp]at y;obtain⟨Γ',st',M,v⟩:=Inv.over A R (r1++[i]) pre Γ st ap y λx q=>by
     rcases List.mem_append.1 q with q|q;·exact I.before R t n J F (by omega) x q
     ·rw[List.mem_singleton.1 q];exact .inl (by omega)
    exact K _ _ _ _ _ v (by simp)
theorem D8 (r:ay P c)(u:ks≠[] -> ∀k,¬Γ.Y k)(t:mJ P c)(z:P.follows .mixedOrders=true)(v:bE P den)(A:cZ P c den){q:Nat}{Q:Exit->Act->World->Prop}(hs:Sim Γ st a w)(m:i0b ops=true)(h:aV c den ops (iD c ops ks (gL ops)) st=some sf)(s:∀a w,Sims Γ sf a w->Q .normal a w) :
  (Code.region q ops true).wp P Q a w:=by
 have R:=RV m;have g:=hs.good;refine wp_region_any z (Pb r u t v A R s ops.size (Array.replicate ops.size false) [] (gL ops) Γ st a a _ (λ_=>0) ?_ ?_)
 ·have l:∀j,j<ops.size->(Array.replicate ops.size false).getD j true=false:=λj b=>by simp[b]
  refine⟨rfl,by simp,Sub.start g,hs.refit (Γ:=Γ) (w0:=Γ.w0) (F:=Γ.F) (R:=Γ.R) (λ_ _=>rfl) ⟨g.os,g.tape,g.output,g.size,g.old,g.new,g.slt,g.base,g.baseInj,g.box,g.boxInj,g.baseBox,g.sr,g.gl,g.bz,g.zf,g.ns,g.h9⟩,h,hs.dz,rfl,λ_ _=>rfl,λj p b f=>?_,λj p b=>(by cases b),λj p b f C=>?_,λx y n _ e=>?_⟩;·rw[l j (Array.getElem?_eq_some_iff.1 b).1]at f;cases f
  ·rw[l j (Array.getElem?_eq_some_iff.1 C).1]at f;cases f
  ·rw[l x (R.lt x n)]at e;cases e
 ·exact pQ
end
end Go.Am
