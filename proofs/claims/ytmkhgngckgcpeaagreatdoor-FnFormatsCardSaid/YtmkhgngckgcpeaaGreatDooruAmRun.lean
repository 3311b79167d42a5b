/-
  Proved: lemmas for Rows.FnFormatsCardSaid.
-/
import Derived.Test.YtmkhgngckgcpeaaGreatDooruAmStep
set_option linter.all false
section
namespace Go.Am
open Go Go.RowKit
def oY (p:Nat->Prop)(w w':World):Prop:=w'.os=w.os/\w'.tape=w.tape/\w'.output=w.output/\w.heap.size<=w'.heap.size /\ ∀k,k<w.heap.size -> ¬p k->w'.heap[k]?=w.heap[k]?
def l0p (P:Program)(f:Nat)(g:Wr):Prop:=
 (∃fn,P.funcs[f]?=some fn/\fn.body.isNone=false/\(fn.name == "runtime.NumGoroutine")=false) /\
 ∀xs ys n,g.g xs=some (ys,n)->ys.length=xs.length/\n<=xs.length/\(∀x∈ys,∀c∈x.cells,gf c) /\
  (xs=[] -> ∀w,ck w->Calls P f #[.slice none 0 0] w λe w'=>e = .returned (match g.v with
   |true=>.slice none 0 0
   |false=>.tuple #[])/\oY (λ_=>False) w w') /\
  ∀(w:World) (b o cap:Nat) (cur:Array Value) (ty:TypeId),ck w->nk<=b->w.heap[b]?=some (.cells cur ty (0,0))->xs.length<=cap->cap<=maxLen->o+cap*g.s<=cur.size->Rows w (λ_=>False) g.s xs b o->(∀x∈xs,∀c∈x.cells,gf c) ->
   Calls P f #[.slice (some ⟨b,o,none⟩) xs.length cap] w λe w'=>e = .returned (match g.v with
    |true=>.slice (some ⟨b,o,none⟩) n cap
    |false=>.tuple #[])/\oY (λk=>k=b) w w'/\(∃cur' ty',w'.heap[b]?=some (.cells cur' ty' (0,0))/\cur'.size=cur.size)/\Rows w' (λ_=>False) g.s ys b o
def mJ (P:Program)(c:Cfg):Prop:=∀f g,c.wr f=some g->l0p P f g
theorem CW {P:Program}{c:Cfg}(h:∀f,c.wr f=none):mJ P c:=λf g b=>by rw[h f]at b;cases b
section
variable {P:Program}{c:Cfg}{Γ Γ':Ctx}{st:St}{a:Act}{w w':World}{den:Nat->List V->Option V}{η:Nat->Option V}{d:Nat}
theorem Rows.plain {S S':Nat->Prop}{s:Nat}{xs:List V}{k o:Nat}(h:Rows w S s xs k o)(n:∀x∈xs,∀c∈x.cells,gf c):Rows w S' s xs k o:=by obtain⟨m,g,f,l⟩:=h;exact⟨m,g,f,λi x j c b e=>zo (l i x j c b e) (n x (aA b) c (aA e))⟩
theorem Rows.take {S:Nat->Prop}{s:Nat}{xs:List V}{k o:Nat}(n:Nat)(h:Rows w S s xs k o):Rows w S s (xs.take n) k o:=by
 obtain⟨q,g,m,f⟩:=h;refine⟨λx b=>q x (List.mem_of_mem_take b),g,λi j l p=>m i j (by rw[List.length_take]at l;omega) p,λi x j c b e=>?_⟩;rw[List.getElem?_take]at b;split at b;·exact f i x j c b e
 ·cases b
theorem Sim.renewed (hs:Sim Γ st a w){b:Nat}{ys:List V}{H n:Array Value}{ty A:TypeId}(G:Γ.has b)(E:st.dead b=false)(o:oY (λk=>k=Γ.blk b) w w')
  (K:w.heap[Γ.blk b]?=some (.cells H ty (0,0))) (q:w'.heap[Γ.blk b]?=some (.cells n A (0,0))) (W:n.size=H.size)
  (F:Rows w' (λ_=>False) (Γ.sz b) ys (Γ.blk b) (Γ.off b)) (M:∀x∈ys,∀c∈x.cells,gf c) (v:ys.length=Γ.ln b):Sim Γ (st.sweep (cR b .flat ys)) a w':=by
 have g:=hs.good;obtain⟨k1,k2,k3,k4,k5⟩:=o;have hS:¬Γ.S (Γ.blk b):=hs.nds b G E;have C:Good Γ w':=by
  refine⟨k1.trans g.os,k2.trans g.tape,k3.trans g.output,Nat.le_trans g.size k4,λk o hF=>?_,g.new,λk o=>Nat.lt_of_lt_of_le (g.slt k o) k4,λm B=>?_,g.baseInj,λd hd=>?_,g.boxInj,g.baseBox,g.sr,g.gl,g.bz,λk o=>?_,g.ns,g.h9⟩;·rw[k5 k (Nat.lt_of_lt_of_le o g.size) (λe=>hF (by rw[e];exact(g.base b G).1))];exact g.old k o hF
  ·obtain⟨T,O,Q,R,e,t,X⟩:=g.base m B;refine⟨T,Nat.lt_of_lt_of_le O k4,Q,?_⟩;by_cases i:Γ.blk m=Γ.blk b;·rw[i]at t ⊢;rw[K]at t;injection t with t;injection t with t b6;subst t;exact⟨n,A,q,by rw[W];exact X⟩
   ·exact⟨R,e,(k5 _ O i).trans t,X⟩
  ·obtain⟨T,O,Q⟩:=g.box d hd;exact⟨T,O,Nat.lt_of_lt_of_le Q k4⟩
  ·obtain⟨z1,z2,R,e,z3⟩:=g.zf k o;refine⟨z1,Nat.lt_of_lt_of_le z2 k4,?_⟩;by_cases I:k=Γ.blk b;·subst I;exact⟨n,A,q⟩
   ·exact⟨R,e,(k5 k z2 I).trans z3⟩
 have j:∀{u:V} {y:Value},VR Γ w u y->u.anyB (λm=>m==b)=false->VR Γ w' u y:=λ{u y} s hp=>by
  refine VR.mono (Γ:=Γ) (Γ':=Γ) (w:=w) (w':=w') (p:=λm=>m==b) (r:=λ_=>false) (λh=>h) (λ_ h=>h) (λ_ h=>h) (λk o=>cell?_of_heap (k5 k (g.slt k o) (λe=>hS (e▸o))))
   (λm B=>⟨Iff.rfl,λhh=>⟨rfl,rfl,rfl,rfl,rfl,λ_ h=>h,cell?_of_heap (k5 _ (g.base m hh).2.1 (λe=>?_))⟩⟩) (λ_ _=>⟨λh=>h,rfl⟩) s hp (cS _)
  have:=g.baseInj m b hh G e;subst this;simp at B
 have D:flatOk .flat ys:=λ_=>M;have L:∀{xs:List V},xs.length<=Γ.cap b/\xs.length=Γ.ln b->ys.length<=Γ.cap b/\ys.length=Γ.ln b:=λh=>⟨by omega,v⟩;refine Sim.sweep (f:=cR b .flat ys) (dead:=st.dead) (dup:=st.dup) hs ?_ (nN b _ ys) C (λ_ h=>h) (λ_=>rfl) (λY J=>k5 _ (g.box Y J).2.2 (λe=>g.baseBox b Y G J e.symm)) hs.nds hs.du hs.nd;intro u y l s;cases u with
 |own m s' q' zs=>
  simp only[cR];split
  ·rename_i i;subst i;simp only[Option.getD_some];rcases s.own_inv with⟨_,_,N⟩|⟨h1,_,N,Z,_⟩;·exact absurd G N
   ·have U:zs.length=ys.length:=by rw[v,Z.2]
    have:=VR.own (Γ:=Γ) (w:=w') m s' .flat ys G N (L Z) (by rw[N];exact F.plain M) D (λh=>by cases h);rw[h1,U];exact this
  ·rename_i i;exact j s (by simpa[V.anyB]using i)
 |view m s' q' zs=>
  simp only[cR];split;·exact VR.undef_ _
  ·rename_i i;exact j s (by simpa[V.anyB]using i)
 |eptr m s' q' zs i' o'=>
  simp only[cR];split;·exact VR.undef_ _
  ·rename_i i;exact j s (by simpa[V.anyB]using i)
 |vptr m z o'=>
  simp only[cR];split;·exact VR.undef_ _
  ·rename_i i;exact j s (by simpa[V.anyB]using i)
 |agg _=>cases l
 |tup _=>cases l
 |clo _ _=>cases l
 |_=>exact j s rfl
theorem Sim.renewed0 (hs:Sim Γ st a w){b:Nat}(E:¬Γ.has b)(m:oY (λ_=>False) w w'):Sim Γ (st.sweep (cR b .flat [])) a w':=by
 have g:=hs.good;obtain⟨H,I,k3,k4,k5⟩:=m;have i:∀k,k<w.heap.size->w'.heap[k]?=w.heap[k]?:=λk m=>k5 k m (λh=>h);have q:Good Γ w':=by
  refine⟨H.trans g.os,I.trans g.tape,k3.trans g.output,Nat.le_trans g.size k4,λk m O=>?_,g.new,λk m=>Nat.lt_of_lt_of_le (g.slt k m) k4,λo s=>?_,g.baseInj,λd N=>?_,g.boxInj,g.baseBox,g.sr,g.gl,g.bz,λk m=>?_,g.ns,g.h9⟩;·rw[i k (Nat.lt_of_lt_of_le m g.size)];exact g.old k m O
  ·obtain⟨C,t,x,A,e,J,F⟩:=g.base o s;exact⟨C,Nat.lt_of_lt_of_le t k4,x,A,e,(i _ t).trans J,F⟩
  ·obtain⟨C,t,x⟩:=g.box d N;exact⟨C,t,Nat.lt_of_lt_of_le x k4⟩
  ·obtain⟨z1,z2,A,e,z3⟩:=g.zf k m;exact⟨z1,Nat.lt_of_lt_of_le z2 k4,A,e,(i k z2).trans z3⟩
 have j:∀{u:V} {y:Value},VR Γ w u y->VR Γ w' u y:=λ{u y} n=>by
  have D:u.anyB (λ_=>false)=false:=bN _
  exact VR.mono (Γ:=Γ) (Γ':=Γ) (w:=w) (w':=w') (p:=λ_=>false) (r:=λ_=>false) (λh=>h) (λ_ h=>h) (λ_ h=>h) (λk m=>cell?_of_heap (i k (g.slt k m)))
   (λo s=>⟨Iff.rfl,λhh=>⟨rfl,rfl,rfl,rfl,rfl,λ_ h=>h,cell?_of_heap (i _ (g.base o hh).2.1)⟩⟩) (λ_ _=>⟨λh=>h,rfl⟩) n D (cS _)
 refine Sim.sweep (f:=cR b .flat []) (dead:=st.dead) (dup:=st.dup) hs ?_ (nN b _ []) q (λ_ h=>h) (λ_=>rfl) (λG B=>i _ (g.box G B).2.2) hs.nds hs.du hs.nd;intro u y l n;cases u with
 |own o s' q' zs=>
  simp only[cR];split
  ·rename_i v;subst v;simp only[Option.getD_some];rcases n.own_inv with⟨L,_,_⟩|⟨_,M,_⟩;·rw[L];exact .ownNil _ _ _ E
   ·exact absurd M E
  ·exact j n
 |view o s' q' zs=>
  simp only[cR];split;·exact VR.undef_ _
  ·exact j n
 |eptr o s' q' zs Q K=>
  simp only[cR];split;·exact VR.undef_ _
  ·exact j n
 |vptr o z K=>
  simp only[cR];split;·exact VR.undef_ _
  ·exact j n
 |agg _=>cases l
 |tup _=>cases l
 |clo _ _=>cases l
 |_=>exact j n
theorem FZ (hW:mJ P c)(hs:Sim Γ st a w){o:Oper}{g:Wr}{x:Operand}{st':St}(C:mn c o.op=some (g,x))(h:qB st o.dst g x=some st')
  (r:Act->World->Prop) (Q:Exit->Act->World->Prop) (hn:∀a' w',Sims Γ st' a' w'->r a' w'):o.wp P a w r Q:=by
 unfold mn at C;split at C
 ·rename_i f args ts W;split at C
  ·rename_i D Y hg j;simp only[aK,Prod.mk.injEq]at C;obtain⟨rfl,rfl⟩:=C;have j:args = #[Y]:=by obtain⟨l⟩:=args;simp only at j;rw[j]
   subst j;obtain⟨⟨fn,M,k,t⟩,F⟩:=hW f D hg;have S:a.eval (.func f) = .func (.func f) #[] #[]:=by obtain⟨cv,S,N,_⟩:=(show VR Γ w (.clo f []) (a.eval (.func f))from hs.ev (.func f)).clo_inv;rw[S];congr 1;exact Array.eq_empty_of_size_eq_zero (by simpa using N.symm)
   have A:(execOp a.eval o).run P w = .ok (.enter f #[a.eval Y]) w:=by
    simp[execOp,W,S,resolve,Deferred.ofValue,invoke,callFunc,M,k];have:¬fn.name = "runtime.NumGoroutine":=by simpa using t
    simp[this];intro E;simp[E]at k
   unfold Oper.wp;rw[A,Oper.upon_enter];unfold qB at h;split at h
   ·rename_i b s q xs d H hd;split at h
    ·rename_i hc;obtain⟨B,ad,rfl,rfl⟩:=hc;split at h
     ·rename_i ys n X;simp only[aK]at h;subst h;obtain⟨G,af,y,J,I⟩:=F xs ys n X;have L:=hs.ev Y;rw[H]at L;have p:∀z,VR Γ w (.own b D.s .flat xs) z -> ∀x∈xs,∀c∈x.cells,gf c:=λz hz=>by
       cases hz with
       |rd _ _ h=>cases h
       |ownNil _ _ _ _=>intro x H;cases H
       |own _ _ _ _ _ _ _ _ hq _=>exact hq rfl
      have p:=p _ L;rcases L.own_inv with⟨R,h2,u⟩|⟨R,E,u,h4,h5,h6⟩
      ·subst h2;have O:ys=[]:=List.length_eq_zero_iff.1 (by simpa using G);subst O;rw[R];refine Calls.mono (J rfl w hs.good.glob) (λe w' U=>?_);obtain⟨rfl,K⟩:=U;refine hn _ _ ⟨Γ,⟨rfl,rfl,rfl,rfl,rfl,λ_ _=>rfl⟩,?_⟩;rw[hd];refine(hs.renewed0 u K).put ?_;cases D.v with
       |true =>show VR Γ w' (.view b D.s .flat (([]:List V).take n)) (.slice none 0 0);rw[List.take_nil];exact .view0 _ _ _ _ _ (.inl ⟨rfl,rfl,u⟩)
       |false=>exact .tup [] #[] rfl (λi c v h=>by simp at h)
      ·obtain⟨b1,b2,b3,aa,ty,b4,b5⟩:=hs.good.base b E;rw[R];refine Calls.mono (I w (Γ.blk b) (Γ.off b) (Γ.cap b) aa ty hs.good.glob (hs.good.gl.2 _ b1) b4 h4.1 b3 (by rw[u];exact b5) (h5.plain p) p) (λe w' U=>?_);obtain⟨rfl,K,⟨ac,ae,Z,ab⟩,m⟩:=U;refine hn _ _ ⟨Γ,⟨rfl,rfl,rfl,rfl,rfl,λ_ _=>rfl⟩,?_⟩;rw[hd];refine(hs.renewed E B K b4 Z ab (by rw[<-u];exact m) y (G.trans h4.2)).put ?_;cases D.v with
       |false=>exact .tup [] #[] rfl (λi c v h=>by simp at h)
       |true=>
        have T:(ys.take n).length=n:=by rw[List.length_take];omega
        rcases Nat.eq_zero_or_pos n with h0|h0;·subst h0;exact .view0 _ _ _ _ _ (.inr ⟨E,_,rfl,by rw[u];exact Nat.le_refl _,Nat.le_refl _⟩)
        ·have:=VR.view (Γ:=Γ) (w:=w') b D.s .flat (ys.take n) (Γ.off b) (Γ.cap b) E (by omega) (by omega) ⟨by rw[u];exact Nat.le_refl _,Nat.le_refl _⟩ (Rows.take n (m.plain y)) (λ_ x H=>y x (List.mem_of_mem_take H)) (λh=>by cases h);rw[T]at this;exact this
     ·cases h
    ·cases h
   ·cases h
  ·cases C
 ·cases C
end
end Go.Am
end
section
namespace Go.Am
open Go Go.RowKit
section
variable {P:Program}{c:Cfg}{Γ Γ':Ctx}{st:St}{a:Act}{w w':World}{den:Nat->List V->Option V}{η:Nat->Option V}{d:Nat}
theorem kX {ops:Array Oper}(hs:Sim Γ st a w){o:Oper}{b:Bool}(h:wanted ops st.t o=some b):Region.wanted o (yielded ops a.tmps)=b:=by
 unfold wanted at h;unfold Region.wanted;split at h;·rename_i k;simp only[aK]at h;subst h;simp[k]
 ·rename_i j m k;simp only[k];split at h
  ·rename_i d l;have g:VR Γ w (st.t.getD d .undef) (a.tmps.getD d undef):=by simpa[Am.ev,Act.eval]using hs.ev (.tmp d)
   unfold yielded;rw[l];split at h
   ·rename_i n i;simp only[aK]at h;rw[i]at g;have:=g.bool_inv;cases f:a.tmps[d]? with
    |none=>simp[Array.getD_eq_getD_getElem?,f]at this;cases this
    |some x =>simp[Array.getD_eq_getD_getElem?,f]at this;subst this;simp[f,<-h]
   ·rename_i i;simp only[aK]at h;rw[i]at g;obtain⟨vs,e,_⟩:=g.tup_inv;cases f:a.tmps[d]? with
    |none=>simp[f,<-h]
    |some x =>simp[Array.getD_eq_getD_getElem?,f]at e;subst e;simp[f,<-h]
   ·cases h
  ·rename_i l;simp only[aK]at h;simp[yielded,l,<-h]
theorem ub (hs:Sim Γ st a w)(d:Nat):Sim Γ { st with t:=st.t.set d oj } (a.put (some d) undef) w:=
 hs.put (v:=oj) (x:=undef) (.tup [] #[] rfl (λi c v h=>by simp at h))
theorem yI (b:List Nat):∀(l:List V) (k i:Nat),(gb b k l)[i]?=(l[i]?).map λv=>if b.contains (k+i)then .undef else v:=by
 intro l;induction l with
 |nil=>intro k i;rfl
 |cons v l e=>
  intro k i;rw[gb];cases i with
  |zero=>simp
  |succ i =>simp only[List.getElem?_cons_succ,e];rw[show k+1+i=k+(i+1) by omega]
theorem pH (e:List Nat):∀(l:List V) (k:Nat),(gb e k l).length=l.length:=by
 intro l;induction l with
 |nil=>intro k;rfl
 |cons v l b=>intro k;rw[gb,List.length_cons,b,List.length_cons]
theorem Bg (b:List Nat):∀(l:List (Option V)) (k i:Nat) (v:V),(sY b k l)[i]?=some (some v)->l[i]?=some (some v):=by
 intro l;induction l with
 |nil=>intro k i v h;simp[sY]at h
 |cons x l e=>
  intro k i v h;rw[sY]at h;cases i with
  |zero=>
   simp only[List.getElem?_cons_zero,aK]at h ⊢;split at h;·cases h
   ·exact h
  |succ i=>exact e _ _ _ (by simpa using h)
theorem Sim.sweepC {f:V->Option V}{dead:Nat->Bool}{dup:Bool}(C:V->Prop)(l:∀cs,C (.agg cs) -> ∀u∈cs,C u)(o:∀cs,C (.tup cs) -> ∀u∈cs,C u)(p:∀g cs,C (.clo g cs) -> ∀u∈cs,C u)
  (hs:Sim Γ st a w) (G:∀u∈st.t,C u) (E:∀u,some u∈st.h->C u)
  (M:∀v x,(match v with
   |.agg _=>False
   |.tup _=>False
   |.clo _ _=>False
   |_=>True)->C v->VR Γ w v x->VR Γ' w' ((f v).getD v) x) (O:∀v u,f v=some u->u.cells=[u]) (X:Good Γ' w') (H:∀k,Γ.lb k->Γ'.lb k) (s:∀k,Γ'.box k=Γ.box k)
  (W:∀k,Γ.lb k->w'.heap[Γ.box k]?=w.heap[Γ.box k]?) (R:∀b,Γ'.has b->dead b=false -> ¬Γ'.S (Γ'.blk b))
  (F:dup=false->Γ'.U) (L:Γ'.U -> ∀b B,Γ'.has b->Γ'.has B->dead b=false->dead B=false->b≠B -> ∀m,Γ'.N b m->Γ'.N B m->False) (J:Γ'.nt=Γ.nt:=by rfl):Sim Γ' { st.sweep f with dead:=dead,dup:=dup } a w':=by
 refine⟨X,hs.dz,?_,λi v h=>?_,λk v h=>?_,R,F,L,by rw[J,<-hs.nt];exact aS f st.t⟩;·show _=(V.mapBs f st.t).length;rw[aS];exact hs.len
 ·change (V.mapBs f st.t)[i]?=some v at h;rw[aN]at h;cases n:st.t[i]? with
  |none=>rw[n]at h;cases h
  |some u =>rw[n]at h;simp only[Option.map_some,aK]at h;subst h;obtain⟨x,D,I⟩:=hs.tm i u n;exact⟨x,D,VR.sweepC C l o p M u x (G u (aA n)) I⟩
 ·change (jz f st.h)[k]?=some (some v)at h;rw[kQ]at h;cases n:st.h[k]? with
  |none=>rw[n]at h;cases h
  |some Z=>
   cases Z with
   |none=>rw[n]at h;cases h
   |some u=>
    rw[n]at h;simp only[Option.map_some,aK]at h;subst h;obtain⟨D,K,e,I,Y,T⟩:=hs.bx k u n;have A:=E u (aA n);refine⟨H k D,K,e,by rw[s,W k D];exact I,?_,λj z r=>?_⟩;·rw[cU f O,aS];exact Y
    ·rw[cU f O,aN]at r;cases q:u.cells[j]? with
     |none=>rw[q]at r;cases r
     |some y=>
      rw[q]at r;simp only[Option.map_some,aK]at r;subst r;obtain⟨x,e1,Q⟩:=T j y q;refine⟨x,e1,VR.sweepC C l o p M y x ?_ Q⟩;cases u with
      |agg cs=>exact l cs A y (aA q)
      |_=>
       obtain rfl:j=0:=by
        cases j with
        |zero=>rfl
        |succ j=>simp[V.cells]at q
       simp only[V.cells,List.getElem?_cons_zero,aK]at q;subst q;exact A
theorem pq (dead:Nat->Bool):∀v u,bp dead v=some u->u.cells=[u]:=by
 intro v u h
 cases v<;>simp only[bp]at h<;>first
  |(cases h;done)
  |(split at h<;>first
   |(simp only[aK]at h;subst h;first|rfl|(split<;>rfl))
   |cases h)
theorem yl (l:List Nat):∀v u,kD l v=some u->u.cells=[u]:=by
 intro v u h
 cases v<;>simp only[kD]at h<;>first
  |(cases h;done)
  |(simp only[aK]at h;subst h;rfl)
theorem vo (l:List Nat):∀v u,gB l v=some u->u.cells=[u]:=by
 intro v u h
 cases v<;>simp only[gB]at h<;>first
  |(cases h;done)
  |(split at h<;>first
   |(simp only[aK]at h;subst h;rfl)
   |cases h)
def Ctx.settled (Γ:Ctx)(dead:Nat->Bool):Ctx:={ Γ with S:=λk=>Γ.S k \/ ∃b,Γ.has b/\dead b=true/\k=Γ.blk b,has:=λb=>Γ.has b/\dead b=false }
theorem Good.settled {dead:Nat->Bool}(g:Good Γ w):Good (Γ.settled dead) w:=by
 refine⟨g.os,g.tape,g.output,g.size,g.old,g.new,?_,λb e=>g.base b e.1,λb n e i=>g.baseInj b n e.1 i.1,λk f=>?_,g.boxInj,λb k e f=>g.baseBox b k e.1 f,?_,g.gl,λb e=>g.bz b e.1,g.zf,λb e m j=>⟨.inl (g.ns b e.1 m j).1,(g.ns b e.1 m j).2⟩,λh=>g.h9 h.1⟩
 ·rintro k (h|⟨b,e,_,rfl⟩);·exact g.slt k h
  ·exact(g.base b e).2.1
 ·obtain⟨o,p,l⟩:=g.box k f;refine⟨o,?_,l⟩;rintro(h|⟨b,e,_,h⟩);·exact p h
  ·exact g.baseBox b k e f h.symm
 ·rintro k (h|⟨b,e,_,rfl⟩);·exact g.sr k h
  ·exact .inr (g.base b e).1
theorem xj {dead:Nat->Bool}{q:Q}{k:Nat}(h:Γ.Sq q k):(Γ.settled dead).Sq q k:=by
 cases q with
 |any=>exact .inl h
 |flat=>exact⟨.inl h.1,h.2⟩
 |clean=>exact⟨.inl h.1,h.2⟩
theorem gJ {dead:Nat->Bool}(g:Good Γ w):mz Γ (Γ.settled dead) w w (bp dead):=by
 have rr:∀{q:Q} {s k o:Nat} {xs:List V},Rows w (Γ.Sq q) s xs k o->Rows w ((Γ.settled dead).Sq q) s xs k o:=λh=>h.mono (λ_=>xj) (λ_ _ _=>rfl) (λ_ _ _=>rfl);have rs:∀{q:Q} {s k o:Nat} {xs:List V},Rows w (Γ.Sq q) s xs k o->Rows w (Γ.settled dead).S s xs k o:=λh=>h.mono (λk hk=>.inl (jh hk)) (λ_ _ _=>rfl) (λ_ _ _=>rfl);have uu:∀{q:Q} {b s k o:Nat} {xs:List V},Γ.Uq w q b s xs k o->(Γ.settled dead).Uq w q b s xs k o:=λh=>Ctx.Uq.mono (Γ:=Γ) (Γ':=Γ.settled dead) (λh=>h) (λ_ h=>h) (λ_ h=>.inl h) (λ_ _ _=>rfl) (λ_ _ _=>rfl) h;have rd:∀{u:V} {y:Value},Rd w Γ.S u y->Rd w (Γ.settled dead).S u y:=λh=>h.mono (λk hk=>.inl hk) (λ_ _ _=>rfl);intro u y hleaf hu;cases u with
 |undef=>exact VR.undef_ _
 |bool b=>rw[hu.bool_inv];exact .rd _ _ (.bool b)
 |int k m=>rw[hu.int_inv];exact .rd _ _ (.int k m)
 |str s=>obtain⟨z,rfl,hz⟩:=hu.str_inv;exact .rd _ _ (.str s z hz)
 |nil=>rw[hu.nil_inv];exact .rd _ _ .nil
 |sl s f xs=>exact .rd _ _ (rd hu.sl_inv)
 |iptr z o=>
  cases hu with
  |rd _ _ h=>exact .rd _ _ (rd h)
 |ptr d n =>obtain⟨rfl,h⟩:=hu.ptr_inv;exact .ptr (Γ:=Γ.settled dead) d n h
 |agg _=>cases hleaf
 |tup _=>cases hleaf
 |clo _ _=>cases hleaf
 |own b s q xs=>
  simp only[bp];split
  ·rename_i hdb;simp only[Option.getD_some];rcases hu.own_inv with⟨rfl,rfl,h3⟩|⟨rfl,h1,h2,h3,h4,h5⟩;·exact .rd _ _ (.empty _ _ _ _)
   ·exact .rd _ _ (Rd.sl_of (rs h4) h5 h3.1 (.inr ⟨b,h1,hdb,rfl⟩))
  ·rename_i hdb;simp only[Option.getD_none];have huq:=hu.own_uq;rcases hu.own_inv with⟨rfl,rfl,h3⟩|⟨rfl,h1,h2,h3,h4,h5⟩;·exact .ownNil _ _ _ (λh=>h3 h.1)
   ·exact .own (Γ:=Γ.settled dead) b s q xs ⟨h1,by simpa using hdb⟩ h2 h3 (rr h4) h5 (uu huq)
 |view b s q xs=>
  simp only[bp];split
  ·rename_i hdb;simp only[Option.getD_some];rcases hu.view_inv with⟨ad,cap,rfl,rfl⟩|⟨o,cap,rfl,h1,hx,h3,hfit,h4,h5⟩;·exact .rd _ _ (.empty _ _ _ _)
   ·exact .rd _ _ (Rd.sl_of (rs h4) h5 h3 (.inr ⟨b,h1,hdb,rfl⟩))
  ·rename_i hdb;simp only[Option.getD_none];have hu0:=hu;rcases hu.view_inv with⟨ad,cap,rfl,rfl⟩|⟨o,cap,rfl,h1,hx,h3,hfit,h4,h5⟩;·exact .view0 (Γ:=Γ.settled dead) _ _ _ _ _ (hu.view0_of.to ⟨λh=>h.1,λh=>⟨h,by simpa using hdb⟩⟩ (λ_=>⟨rfl,rfl,rfl,rfl⟩))
   ·exact .view (Γ:=Γ.settled dead) b s q xs o cap ⟨h1,by simpa using hdb⟩ hx h3 hfit (rr h4) h5 (uu hu0.view_uq)
 |eptr b s q xs i o=>
  have huq:=hu.eptr_uq;obtain⟨rfl,h1,h2,h3,h4,h5,h6⟩:=hu.eptr_inv;simp only[bp];split
  ·rename_i hdb;simp only[Option.getD_some];split;·rename_i z hz;obtain⟨r1,gg,r2,r3⟩:=h5;refine .rd _ _ (.iptr z (Γ.blk b) (Γ.off b+i*s) o (gg i) (.inr ⟨b,h1,hdb,rfl⟩) (λj hj=>(r2 i j h4 (by rw[<-r1 z (aA hz)];exact hj)).1) (λj u hu=>?_));exact(r3 i z j u hz hu).mono (λk hk=>.inl (jh hk)) (λ_ _ _=>rfl)
   ·exact VR.undef_ _
  ·rename_i hdb;simp only[Option.getD_none];exact .eptr (Γ:=Γ.settled dead) b s q xs i o ⟨h1,by simpa using hdb⟩ h2 h3 h4 (rr h5) h6 (uu huq)
 |vptr b z o=>
  obtain⟨o',gg,rfl,h1,h2,h3⟩:=hu.vptr_inv;simp only[bp];split;·rename_i hdb;simp only[Option.getD_some];exact .rd _ _ (.iptr z (Γ.blk b) o' o gg (.inr ⟨b,h1,hdb,rfl⟩) h2 (λj u hu=>rd (h3 j u hu)))
  ·rename_i hdb;simp only[Option.getD_none];exact .vptr (Γ:=Γ.settled dead) b z o' o gg ⟨h1,by simpa using hdb⟩ h2 (λj u hu=>rd (h3 j u hu))
def Ctx.renamed (Γ:Ctx)(l:List Nat):Ctx:={ Γ with has:=λe=>∃i b,e=am i/\l[i]?=some b/\l.idxOf b=i/\Γ.has b,blk:=λe=>Γ.blk (l.getD (e-1000000) 0),
                                                   off:=λe=>Γ.off (l.getD (e-1000000) 0),cap:=λe=>Γ.cap (l.getD (e-1000000) 0),sz:=λe=>Γ.sz (l.getD (e-1000000) 0),ln:=λe=>Γ.ln (l.getD (e-1000000) 0),N:=λe=>Γ.N (l.getD (e-1000000) 0) }
theorem cD {l:List Nat}{i b:Nat}(h:l[i]?=some b):l.getD (am i-1000000) 0=b:=by unfold am;rw[show 1000000+i-1000000=i by omega,List.getD_eq_getElem?_getD,h];rfl
theorem di {l:List Nat}{b:Nat}(g:b∈l):(Γ.renamed l).has (am (l.idxOf b))↔Γ.has b:=by
 have f:l[l.idxOf b]?=some b:=by rw[List.getElem?_eq_getElem (List.idxOf_lt_length_of_mem g),List.getElem_idxOf]
 constructor
 ·rintro⟨i,m,j,e,n,k⟩;have:i=l.idxOf b:=by unfold am at j;omega
  subst this;rw[f]at e;injection e with e;rw[e];exact k
 ·intro h;exact⟨_,b,rfl,f,rfl,h⟩
theorem Good.renamed {l:List Nat}(g:Good Γ w):Good (Γ.renamed l) w:=by
 refine⟨g.os,g.tape,g.output,g.size,g.old,g.new,g.slt,?_,?_,g.box,g.boxInj,?_,g.sr,g.gl,?_,g.zf,?_,λ⟨i,b,h,_⟩=>by unfold am at h;omega⟩;·rintro _ ⟨i,b,rfl,f,_,j⟩;show Γ.F (Γ.blk (l.getD _ 0))/\Γ.blk (l.getD _ 0)<_/\Γ.cap (l.getD _ 0)<=_ /\ ∃s e,w.heap[Γ.blk (l.getD _ 0)]?=_/\Γ.off (l.getD _ 0)+Γ.cap (l.getD _ 0)*Γ.sz (l.getD _ 0)<=_;rw[cD f];exact g.base b j
 ·rintro _ _ ⟨i,b,rfl,f,j,u⟩ ⟨x,v,rfl,n,o,r⟩ p;change Γ.blk (l.getD _ 0)=Γ.blk (l.getD _ 0)at p;rw[cD f,cD n]at p;have:=g.baseInj b v u r p;subst this;rw[<-j,<-o]
 ·rintro _ k ⟨i,b,rfl,f,_,j⟩ t;show Γ.blk (l.getD _ 0)≠_;rw[cD f];exact g.baseBox b k j t
 ·rintro _ ⟨i,b,rfl,f,_,j⟩;show Γ.Z (Γ.blk (l.getD _ 0));rw[cD f];exact g.bz b j
 ·rintro _ ⟨i,b,rfl,f,_,j⟩ m q;change Γ.N (l.getD _ 0) m at q;rw[cD f]at q;exact g.ns b j m q
theorem nH {l:List Nat}{b:Nat}(e:b∈l):l.getD (am (l.idxOf b)-1000000) 0=b:=
 cD (by rw[List.getElem?_eq_getElem (List.idxOf_lt_length_of_mem e),List.getElem_idxOf])
theorem wP {l:List Nat}:∀v x,(match v with
   |.agg _=>False
   |.tup _=>False
   |.clo _ _=>False
   |_=>True)->(∀b,v.anyB (λb'=>b'==b)=true->b∈l)->VR Γ w v x->VR (Γ.renamed l) w ((kD l v).getD v) x:=by
 intro u y j I g;have p:∀{b:Nat},b∈l->(Γ.renamed l).blk (am (l.idxOf b))=Γ.blk b:=λ{b} e=>by show Γ.blk (l.getD _ 0)=_;rw[nH e]
 have t:∀{b:Nat},b∈l->(Γ.renamed l).off (am (l.idxOf b))=Γ.off b:=λ{b} e=>by show Γ.off (l.getD _ 0)=_;rw[nH e]
 have G:∀{b:Nat},b∈l->(Γ.renamed l).cap (am (l.idxOf b))=Γ.cap b:=λ{b} e=>by show Γ.cap (l.getD _ 0)=_;rw[nH e]
 have J:∀{b:Nat},b∈l->(Γ.renamed l).sz (am (l.idxOf b))=Γ.sz b:=λ{b} e=>by show Γ.sz (l.getD _ 0)=_;rw[nH e]
 have O:∀{b:Nat},b∈l->(Γ.renamed l).ln (am (l.idxOf b))=Γ.ln b:=λ{b} e=>by show Γ.ln (l.getD _ 0)=_;rw[nH e]
 have Y:∀{b:Nat},b∈l->(Γ.renamed l).N (am (l.idxOf b))=Γ.N b:=λ{b} e=>by show Γ.N (l.getD _ 0)=_;rw[nH e]
 have K:∀{q:Q} {b s k o:Nat} {xs:List V},b∈l->Γ.Uq w q b s xs k o->(Γ.renamed l).Uq w q (am (l.idxOf b)) s xs k o:=λe h hq W=>(h hq W).mono (λm R=>⟨by rw[Y e];exact R.1,R.2⟩) (λ_ _ _=>rfl) (λ_ _ _=>rfl);have Z:∀q k,Γ.Sq q k->(Γ.renamed l).Sq q k:=λq k h=>by cases q<;>exact h
 have L:∀{q:Q} {s k o:Nat} {xs:List V},Rows w (Γ.Sq q) s xs k o->Rows w ((Γ.renamed l).Sq q) s xs k o:=λh=>h.mono (Z _) (λ_ _ _=>rfl) (λ_ _ _=>rfl);cases u with
 |undef=>exact VR.undef_ _
 |bool b=>rw[g.bool_inv];exact .rd _ _ (.bool b)
 |int k m=>rw[g.int_inv];exact .rd _ _ (.int k m)
 |str s=>obtain⟨z,rfl,S⟩:=g.str_inv;exact .rd _ _ (.str s z S)
 |nil=>rw[g.nil_inv];exact .rd _ _ .nil
 |sl s f xs=>exact .rd _ _ g.sl_inv
 |iptr z o=>
  cases g with
  |rd _ _ h=>exact .rd _ _ h
 |ptr d n =>obtain⟨rfl,h⟩:=g.ptr_inv;exact .ptr (Γ:=Γ.renamed l) d n h
 |agg _=>cases j
 |tup _=>cases j
 |clo _ _=>cases j
 |own b s q xs=>
  have e:=I b (by simp[V.anyB]);simp only[kD,Option.getD_some];have A:=g.own_uq;rcases g.own_inv with⟨rfl,rfl,r⟩|⟨rfl,B,F,r,E,D⟩;·exact .ownNil _ _ _ (λh=>r ((di e).1 h))
  ·have:=VR.own (Γ:=Γ.renamed l) (w:=w) (am (l.idxOf b)) s q xs ((di e).2 B) (by rw[J e];exact F) (by rw[G e,O e];exact r) (by rw[p e,t e];exact L E) D (by rw[p e,t e];exact K e A);rwa[p e,t e,G e]at this
 |view b s q xs=>
  have e:=I b (by simp[V.anyB]);simp only[kD,Option.getD_some];have M:=g;rcases g.view_inv with⟨ad,C,rfl,rfl⟩|⟨o,C,rfl,B,U,r,H,E,D⟩;·exact .view0 _ _ _ _ _ (g.view0_of.to (di e) (λ_=>⟨p e,t e,G e,J e⟩))
  ·have:=VR.view (Γ:=Γ.renamed l) (w:=w) (am (l.idxOf b)) s q xs o C ((di e).2 B) U r (by rw[t e,G e,J e];exact H) (by rw[p e];exact L E) D (by rw[p e];exact K e M.view_uq);rwa[p e]at this
 |eptr b s q xs i o =>have e:=I b (by simp[V.anyB]);have A:=g.eptr_uq;obtain⟨rfl,B,F,r,E,D,T⟩:=g.eptr_inv;have:=VR.eptr (Γ:=Γ.renamed l) (w:=w) (am (l.idxOf b)) s q xs i o ((di e).2 B) (by rw[J e];exact F) (by rw[G e,O e];exact r) E (by rw[p e,t e];exact L D) T (by rw[p e,t e];exact K e A);rwa[p e,t e]at this
 |vptr b z o =>have e:=I b (by simp[V.anyB]);obtain⟨o',X,rfl,B,F,r⟩:=g.vptr_inv;have:=VR.vptr (Γ:=Γ.renamed l) (w:=w) (am (l.idxOf b)) z o' o X ((di e).2 B) (by rw[p e];exact F) r;rwa[p e]at this
theorem xw (b:Nat):∀(hs:List (Option V)) (l:List Nat),(b∈l \/ ∃u,some u∈hs/\u.anyB (λj=>j==b)=true)->b∈gZ l hs:=by
 intro hs;induction hs with
 |nil=>
  rintro l (h|⟨u,f,_⟩);·exact h
  ·cases f
 |cons x hs i=>
  intro l h;cases x with
  |none =>refine i l (h.imp id ?_);rintro⟨u,f,g⟩;exact⟨u,(List.mem_cons.1 f).resolve_left (by simp),g⟩
  |some y=>
   refine i _ ?_;rcases h with h|⟨u,f,g⟩;·exact .inl (fS b y l (.inl h))
   ·rcases List.mem_cons.1 f with e|f;·injection e with e;subst e;exact .inl (fS b u l (.inr g))
    ·exact .inr ⟨u,f,g⟩
theorem Sim.canon (hs:Sim Γ st a w)(A:∀b,Γ.has b -> ¬Γ.S (Γ.blk b))(r:Γ.U -> ∀b l,Γ.has b->Γ.has l->b≠l -> ∀m,Γ.N b m->Γ.N l m->False):Sim (Γ.renamed (V.basess (gZ [] st.h) st.t)) st.canon a w:=by
 have e:st.canon = { st.sweep (kD (V.basess (gZ [] st.h) st.t))with dead:=λ_=>false,dup:=st.dup }:=rfl;rw[e]
 refine Sim.sweepC (f:=kD (V.basess (gZ [] st.h) st.t)) (λv=>∀b,v.anyB (λl=>l==b)=true->b∈V.basess (gZ [] st.h) st.t) (λcs h u g b j=>h b (bg g j)) (λcs h u g b j=>h b (bg g j)) (λ_ cs h u g b j=>h b (bg g j))
  hs (λu g b j=>fS b (.agg st.t) (gZ [] st.h) (.inr (bg g j))) (λu g b j=>fS b (.agg st.t) (gZ [] st.h) (.inl (xw b _ _ (.inr ⟨u,g,j⟩)))) wP (yl _) hs.good.renamed (λ_ h=>h) (λ_=>rfl) (λ_ _=>rfl) ?_ hs.du ?_
 ·rintro _ ⟨i,b,rfl,x,_,y⟩ _;show ¬Γ.S (Γ.blk (List.getD _ _ 0));rw[cD x];exact A b y
 ·rintro z _ _ ⟨i,b,rfl,x,B,y⟩ ⟨C,l,rfl,n,p,o⟩ _ _ q m s k;change Γ.N (List.getD _ _ 0) m at s k;rw[cD x]at s;rw[cD n]at k;exact r z b l y o (λe=>q (by rw[<-B,<-p,e])) m s k
theorem VR.own_view {b s:Nat}{q:Q}{xs:List V}{x:Value}(h:VR Γ w (.own b s q xs) x):VR Γ w (.view b s q xs) x:=by
 have j:=h.own_uq;rcases h.own_inv with⟨rfl,rfl,i⟩|⟨rfl,g,e,k,l,m⟩;·exact .view0 _ _ _ _ _ (.inl ⟨rfl,rfl,i⟩)
 ·by_cases f:xs=[];·subst f;exact .view0 _ _ _ _ _ (.inr ⟨g,_,rfl,by rw[e];exact Nat.le_refl _,Nat.le_refl _⟩)
  ·exact .view b s q xs _ _ g (List.length_pos_iff.2 f) k.1 ⟨by rw[e];exact Nat.le_refl _,Nat.le_refl _⟩ l m j
theorem oi {e:Bool}{i s:Nat}{q:Q}{v:V}{x:Value}(f:¬Γ.has i)(h:VR Γ w v x):VR Γ w (sB e i s q v) x:=by
 cases v with
 |nil=>
  rw[h.nil_inv];cases e with
  |true=>exact .view0 _ _ _ _ _ (.inl ⟨rfl,rfl,f⟩)
  |false=>exact .ownNil _ _ _ f
 |own b s' q' xs=>
  cases e with
  |true=>exact h.own_view
  |false=>exact h
 |_=>exact h
theorem FK {m:Bool}{i s j:Nat}{q:Q}{v:V}{x:Value}(g:¬Γ.has i)(h:VR Γ w v x):VR Γ w (nr m i s q j v) x:=by
 cases v with
 |agg cs=>
  simp only[nr];obtain⟨vs,rfl,n,o⟩:=h.agg_inv;refine .agg _ vs (by rw[List.length_modify];exact n) (λk c y e l=>?_);rw[List.getElem?_modify]at e;cases f:cs[k]? with
  |none=>rw[f]at e;cases e
  |some u=>
   rw[f]at e;simp only[Option.map_eq_map,Option.map_some,aK]at e;subst e;have:=o k u y f l;split;·exact oi g this
   ·exact this
 |nil=>exact oi (s:=s) (q:=q) g h
 |own b s' q' xs=>exact oi (s:=s) (q:=q) g h
 |_=>exact h
theorem wc {b:Bool}{i s j:Nat}{q:Q}{v:V}:(nr b i s q j v).cells.length=v.cells.length:=by cases v<;>first|rfl|(cases b<;>rfl)|simp[nr,V.cells]
theorem CC {e:Bool}{i s j k:Nat}{q:Q}{v c:V}(h:(nr e i s q j v).cells[k]?=some c):∃u,v.cells[k]?=some u/\(c=u\/c=sB e i s q u):=by
 have f:∀{u:V},u.cells=[u]->(sB e i s q u).cells=[sB e i s q u]->(sB e i s q u).cells[k]?=some c -> ∃g,u.cells[k]?=some g/\(c=g\/c=sB e i s q g):=λ{u} m n h=>by
  rw[n]at h;rw[m];cases k with
  |zero=>injection h with h;exact⟨u,rfl,.inr h.symm⟩
  |succ k=>simp at h
 cases v with
 |agg cs=>
  simp only[nr,V.cells]at h ⊢;rw[List.getElem?_modify]at h;cases l:cs[k]? with
  |none=>rw[l]at h;cases h
  |some u=>
   rw[l]at h;simp only[Option.map_eq_map,Option.map_some,aK]at h;refine⟨u,rfl,?_⟩;split at h;·exact .inr h.symm
   ·exact .inl h.symm
 |nil=>exact f rfl (by simp only[sB];split<;>rfl) h
 |own b s' q' xs=>exact f rfl (by simp only[sB];split<;>rfl) h
 |_=>exact⟨c,h,.inl rfl⟩
theorem tf (cs:List V):(V.agg cs).cells≠[.agg cs]:=λh=>by have b:cs=[.agg cs]:=h;have e:SizeOf.sizeOf cs=SizeOf.sizeOf [V.agg cs]:=congrArg SizeOf.sizeOf b;simp at e;omega
def Ctx.retaken (Γ:Ctx)(b o cap s n:Nat):Ctx:={ Γ with off:=λe=>if e=b then o else Γ.off e,cap:=λe=>if e=b then cap else Γ.cap e,sz:=λe=>if e=b then s else Γ.sz e,ln:=λe=>if e=b then n else Γ.ln e }
theorem Good.retaken {b o f s n:Nat}(g:Good Γ w)(u:Γ.has b)(h:o+f*s<=Γ.off b+Γ.cap b*Γ.sz b/\f<=Γ.cap b):Good (Γ.retaken b o f s n) w:=by
 refine⟨g.os,g.tape,g.output,g.size,g.old,g.new,g.slt,λj k=>?_,g.baseInj,g.box,g.boxInj,g.baseBox,g.sr,g.gl,g.bz,g.zf,g.ns,g.h9⟩;obtain⟨q,p,r,i,e,m,t⟩:=g.base j k;show _/\_/\(if j=b then f else Γ.cap j)<=maxLen /\ ∃(i:Array Value) (e:TypeId),_/\(if j=b then o else Γ.off j)+(if j=b then f else Γ.cap j)*(if j=b then s else Γ.sz j)<=i.size;split;·rename_i l;subst l;exact⟨q,p,by omega,i,e,m,by omega⟩
 ·exact⟨q,p,r,i,e,m,t⟩
theorem VR.retaken {b o f s n:Nat}{v:V}{x:Value}(h:VR Γ w v x)(j:v.anyB (λg=>g==b)=false):VR (Γ.retaken b o f s n) w v x:=by
 refine VR.mono' (Γ:=Γ) (Γ':=Γ.retaken b o f s n) (w:=w) (w':=w) (p:=λg=>g==b) (r:=λ_=>false) (λh=>h) (λ_ h=>h) (λ_ _ h=>h) (λ_ _ _=>rfl) (λg i=>⟨Iff.rfl,λ_=>?_⟩) (λ_ _=>⟨λh=>h,rfl⟩) h j (cS v);have e:g≠b:=by simpa using i
 exact⟨rfl,if_neg e,if_neg e,if_neg e,if_neg e,λ_ h=>h,λ_=>rfl⟩
theorem VR.retake {b s:Nat}{q:Q}{xs:List V}{x:Value}(g:Good Γ w)(h:VR Γ w (.view b s q xs) x):∃Γ',(Γ'=Γ \/ ∃o e,Γ'=Γ.retaken b o e s xs.length)/\Good Γ' w/\VR Γ' w (.own b s q xs) x /\ ∀(v:V) (y:Value),VR Γ w v y->v.anyB (λF=>F==b)=false->VR Γ' w v y:=by
 rcases h.view_inv with⟨I,e,rfl,rfl⟩|⟨o,e,rfl,l,z,G,f,D,C⟩
 ·rcases h.view0_of with⟨rfl,rfl,H⟩|⟨l,o,rfl,f⟩;·exact⟨Γ,.inl rfl,g,.ownNil _ _ _ H,λ_ _ h _=>h⟩
  ·refine⟨Γ.retaken b o e s 0,.inr ⟨o,e,rfl⟩,g.retaken l f,?_,λv y p u=>p.retaken u⟩;have m:(Γ.retaken b o e s 0).off b=o:=if_pos rfl;have n:(Γ.retaken b o e s 0).cap b=e:=if_pos rfl;have r:(Γ.retaken b o e s 0).sz b=s:=if_pos rfl;have t:(Γ.retaken b o e s 0).ln b=0:=if_pos rfl;have:=VR.own (Γ:=Γ.retaken b o e s 0) (w:=w) b s q [] l r.symm ⟨Nat.zero_le _,t.symm⟩ ⟨(λ_ h=>by cases h),λ_ _=>undef,λi j B=>absurd B (Nat.not_lt_zero _),λi x j c z=>by simp at z⟩ (λ_ _ h=>by cases h) xo;rw[m,n]at this;exact this
 ·have E:=h.view_uq;refine⟨Γ.retaken b o e s xs.length,.inr ⟨o,e,rfl⟩,g.retaken l f,?_,λv y p u=>p.retaken u⟩;have m:(Γ.retaken b o e s xs.length).off b=o:=if_pos rfl;have n:(Γ.retaken b o e s xs.length).cap b=e:=if_pos rfl;have r:(Γ.retaken b o e s xs.length).sz b=s:=if_pos rfl;have t:(Γ.retaken b o e s xs.length).ln b=xs.length:=if_pos rfl;have:=VR.own (Γ:=Γ.retaken b o e s xs.length) (w:=w) b s q xs l r.symm ⟨by rw[n];exact G,t.symm⟩ (by rw[m];exact D.mono (λk A=>by cases q<;>exact A) (λ_ _ _=>rfl) (λ_ _ _=>rfl)) C (by rw[m];exact E);rw[m,n]at this;exact this
theorem oy {j b s:Nat}{q:Q}{xs:List V}{v:V}(h:iV j v=V.view b s q xs):∃k:Nat,v.cells[k]?=some (V.view b s q xs) /\ ∀(f:V->Option V),(∀v u,f v=some u->u.cells=[u]) -> ∀u:V,(∀cs,u ≠ .agg cs)->(dQ j u (v.mapB f)).cells.length=v.cells.length /\ ∀(i:Nat) (c:V),(dQ j u (v.mapB f)).cells[i]?=some c->(i=k/\c=u)\/(∃y:V,v.cells[i]?=some y/\c=y.mapB f):=by
 have p:∀u:V,(∀cs,u ≠ .agg cs)->u.cells=[u]:=λu n=>by cases u<;>first|rfl|exact absurd rfl (n _)
 cases v with
 |agg cs=>
  simp only[iV]at h;have B:cs[j]?=some (.view b s q xs):=by
   rw[List.getD_eq_getElem?_getD]at h;cases e:cs[j]? with
   |none=>rw[e]at h;cases h
   |some y=>rw[e]at h;exact congrArg _ h
  refine⟨j,B,λf t u n=>⟨?_,λi c e=>?_⟩⟩;·simp[V.mapB,dQ,V.cells,aS]
  ·simp only[V.mapB,dQ,V.cells]at e;rw[List.getElem?_set]at e;split at e
   ·rename_i o;split at e;·injection e with e;exact .inl ⟨o.symm,e.symm⟩
    ·cases e
   ·rw[aN]at e;cases r:cs[i]? with
    |none=>rw[r]at e;cases e
    |some y =>rw[r]at e;injection e with e;exact .inr ⟨y,r,e.symm⟩
 |view x s' q' m=>
  simp only[iV]at h;refine⟨0,by rw[h];rfl,λf t u n=>?_⟩;have A:(dQ j u ((V.view x s' q' m).mapB f)).cells=[u]:=by
   have:∀z:V,(∀cs,z ≠ .agg cs)->dQ j u z=u:=λz g=>by cases z<;>first|rfl|exact absurd rfl (g _)
   rw[this,p u n];intro cs g;simp only[V.mapB]at g;cases l:f (V.view x s' q' m)with
   |none=>rw[l]at g;cases g
   |some y =>rw[l]at g;simp only[Option.getD_some]at g;have:=t _ _ l;rw[g]at this;exact absurd this (tf cs)
  refine⟨by rw[A];rfl,λi c e=>?_⟩;rw[A]at e;cases i with
  |zero=>simp only[List.getElem?_cons_zero,aK]at e;exact .inl ⟨rfl,e.symm⟩
  |succ i=>simp at e
 |_=>simp only[iV]at h;cases h
theorem Sim.take1 (hs:Sim Γ st a w)(hdead:st.dead=λ_=>false)(n:Nat):∃Γ',Same Γ Γ'/\(∀j,Γ'.has j↔Γ.has j)/\Sim Γ' (st.take1 n) a w:=by
 have keepS:∀{Γ':Ctx} {b s:Nat} {xs:List V},(Γ'=Γ \/ ∃o cap,Γ'=Γ.retaken b o cap s xs.length)->Same Γ Γ'/\(∀j,Γ'.has j↔Γ.has j)/\(∀k,Γ.lb k->Γ'.lb k)/\(∀k,Γ'.box k=Γ.box k)/\(∀b,Γ'.has b->st.dead b=false -> ¬Γ'.S (Γ'.blk b))/\(st.dup=false->Γ'.U) /\
   (Γ'.U -> ∀b b',Γ'.has b->Γ'.has b'->st.dead b=false->st.dead b'=false->b≠b' -> ∀m,Γ'.N b m->Γ'.N b' m->False)/\Γ'.nt=Γ.nt:=by
  rintro Γ' b s xs (rfl|⟨o,cap,rfl⟩)
  ·exact⟨Same.rfl',λ_=>Iff.rfl,λ_ h=>h,λ_=>rfl,hs.nds,hs.du,hs.nd,rfl⟩
  ·exact⟨⟨rfl,rfl,rfl,rfl,rfl,λ_ _=>rfl⟩,λ_=>Iff.rfl,λ_ h=>h,λ_=>rfl,hs.nds,hs.du,hs.nd,rfl⟩
 unfold St.take1;split
 ·split
  ·rename_i b s q xs hc;obtain⟨k,hk,hput⟩:=oy hc;obtain⟨hlen,hget⟩:=hput (aq b) (dD b) (.own b s q xs) (λcs h=>by cases h);have hlt:n/2000000%1000<st.t.length:=by
    rcases Nat.lt_or_ge (n/2000000%1000) st.t.length with h|h;·exact h
    ·rw[List.getD_eq_getElem?_getD,List.getElem?_eq_none h]at hc;cases hc
   have hg:st.t[n/2000000%1000]?=some (st.t.getD (n/2000000%1000) .undef):=by rw[List.getD_eq_getElem?_getD,List.getElem?_eq_getElem hlt];rfl
   generalize hv:st.t.getD (n/2000000%1000) .undef=v at *;obtain⟨x,hx1,hx2⟩:=hs.tm _ _ hg
   -- the cell's value
   have hcell:∃y,VR Γ w (.view b s q xs) y /\ ∀Γ',VR Γ' w (.own b s q xs) y->VR Γ' w (v.mapB (aq b)) x->VR Γ' w (dQ (n/2000%1000) (.own b s q xs) (v.mapB (aq b))) x:=by
    cases v with
    |agg cs=>
     obtain⟨vs,rfl,h1,h2⟩:=hx2.agg_inv;have hkl:k<vs.size:=by rw[<-h1];exact(bW hk).1
     have hj:cs[n/2000%1000]?=some (.view b s q xs):=by
      simp only[iV]at hc;rw[List.getD_eq_getElem?_getD]at hc;cases hcc:cs[n/2000%1000]? with
      |none=>rw[hcc]at hc;cases hc
      |some y=>rw[hcc]at hc;exact congrArg _ hc
     have hjl:n/2000%1000<vs.size:=by rw[<-h1];exact(bW hj).1
     refine⟨vs[n/2000%1000],h2 _ _ _ hj (by simp[hjl]),λΓ' ho hm=>?_⟩;simp only[V.mapB,dQ]at hm ⊢;obtain⟨vs',e1,h3,h4⟩:=hm.agg_inv;injection e1 with e1;subst e1;refine .agg _ vs (by rw[List.length_set];exact h3) (λi c y hi hy=>?_);rw[List.getElem?_set]at hi;split at hi
     ·rename_i hij;subst hij;split at hi
      ·injection hi with hi;subst hi;have:vs[n/2000%1000]=y:=by have:=Array.getElem?_eq_some_iff.1 hy;exact this.2
       rw[<-this];exact ho
      ·cases hi
     ·exact h4 i c y hi hy
    |view b' s' q' xs'=>
     simp only[iV]at hc;cases hc;refine⟨x,hx2,λΓ' ho _=>?_⟩;have:dQ (n/2000%1000) (V.own b s q xs) ((V.view b s q xs).mapB (aq b)) = .own b s q xs:=by simp[V.mapB,aq,dQ]
     rw[this];exact ho
    |_=>simp only[iV]at hc;cases hc
   obtain⟨y,hy1,hy2⟩:=hcell;obtain⟨Γ',hor,hgood,hown,hkeep⟩:=hy1.retake hs.good;obtain⟨k1,k2,k3,k4,k5,k6,k7,k8⟩:=keepS hor;have hsw:=Sim.sweep (f:=aq b) (dead:=st.dead) (dup:=st.dup) (Γ':=Γ') (w':=w) hs (em hkeep) (dD b) hgood k3 k4 (λ_ _=>rfl) k5 k6 k7 k8;refine⟨Γ',k1,k2,hsw.good,hsw.dz,by simpa using hsw.len,λi u hi=>?_,hsw.bx,hsw.nds,hsw.du,hsw.nd,by simpa using hsw.nt⟩;simp only at hi;rw[List.getElem?_set]at hi;split at hi
   ·rename_i hid;subst hid;split at hi;·injection hi with hi;subst hi;refine⟨x,hx1,hy2 Γ' hown ?_⟩;obtain⟨x',h1,h2⟩:=hsw.tm (n/2000000%1000) (v.mapB (aq b)) (by show(V.mapBs (aq b) st.t)[_]?=_;rw[aN,hg];rfl);rw[hx1]at h1;injection h1 with h1;rw[h1];exact h2
    ·cases hi
   ·exact hsw.tm i u hi
  ·exact⟨Γ,Same.rfl',λ_=>Iff.rfl,hs⟩
 ·split
  ·rename_i r hr;split
   ·rename_i b s q xs hc;obtain⟨k,hk,hput⟩:=oy hc;obtain⟨hlen,hget⟩:=hput (aq b) (dD b) (.own b s q xs) (λcs h=>by cases h);have hr':st.h[n/2000000%1000]?=some (some r):=by
     rw[List.getD_eq_getElem?_getD]at hr;cases h:st.h[n/2000000%1000]? with
     |none=>rw[h]at hr;cases hr
     |some y=>rw[h]at hr;exact congrArg _ hr
    obtain⟨b1,cur,e,b2,b3,b4⟩:=hs.bx _ r hr';obtain⟨y,hy0,hy1⟩:=b4 k _ hk;obtain⟨Γ',hor,hgood,hown,hkeep⟩:=hy1.retake hs.good;obtain⟨k1,k2,k3,k4,k5,k6,k7,k8⟩:=keepS hor;have hsw:=Sim.sweep (f:=aq b) (dead:=st.dead) (dup:=st.dup) (Γ':=Γ') (w':=w) hs (em hkeep) (dD b) hgood k3 k4 (λ_ _=>rfl) k5 k6 k7 k8;refine⟨Γ',k1,k2,hsw.good,hsw.dz,hsw.len,hsw.tm,λi u hi=>?_,hsw.nds,hsw.du,hsw.nd,hsw.nt⟩;simp only at hi;rw[List.getElem?_set]at hi;split at hi
    ·rename_i hid;subst hid;split at hi
     ·injection hi with hi;injection hi with hi;subst hi
      obtain⟨c1,cur',e',c2,c3,c4⟩:=hsw.bx (n/2000000%1000) (r.mapB (aq b)) (by
       show(jz (aq b) st.h)[_]?=_
       rw[kQ,hr'];rfl)
      rw[k4,b2]at c2;injection c2 with c2;injection c2 with c2 c2';subst c2;refine⟨c1,cur,e,by rw[k4];exact b2,by rw[hlen];exact b3,λj c hj=>?_⟩;rcases hget j c hj with⟨rfl,rfl⟩|⟨z,hz1,rfl⟩;·exact⟨y,hy0,hown⟩
      ·exact c4 j _ (by rw[cU _ (dD b),aN,hz1];rfl)
     ·cases hi
    ·exact hsw.bx i u hi
   ·exact⟨Γ,Same.rfl',λ_=>Iff.rfl,hs⟩
  ·exact⟨Γ,Same.rfl',λ_=>Iff.rfl,hs⟩
theorem y_ (st:St)(n:Nat):(st.take1 n).dead=st.dead:=by
 unfold St.take1
 repeat' split
 all_goals rfl
theorem Sim.own0 (hs:Sim Γ st a w){i n:Nat}(s:¬Γ.has i)(B:¬8000000000<=n):Sim Γ (st.own1 i n) a w:=by
 unfold St.own1;rw[if_neg B];split
 ·refine⟨hs.good,hs.dz,by simp[hs.len],λk v h=>?_,hs.bx,hs.nds,hs.du,hs.nd,by simp[hs.nt]⟩;simp only at h;rw[List.getElem?_set]at h;split at h
  ·rename_i j;subst j;split at h
   ·rename_i m;injection h with h;subst h;have E:st.t[n/2000000%1000]?=some (st.t.getD (n/2000000%1000) .undef):=by rw[List.getD_eq_getElem?_getD,List.getElem?_eq_getElem m];rfl
    obtain⟨x,o,p⟩:=hs.tm _ _ E;exact⟨x,o,FK s p⟩
   ·cases h
  ·exact hs.tm k v h
 ·split
  ·rename_i r b;refine⟨hs.good,hs.dz,hs.len,hs.tm,λk v h=>?_,hs.nds,hs.du,hs.nd,hs.nt⟩;simp only at h;rw[List.getElem?_set]at h;split at h
   ·rename_i j;subst j;split at h
    ·injection h with h;injection h with h;subst h;have l:st.h[n/2000000%1000]?=some (some r):=by
      rw[List.getD_eq_getElem?_getD]at b;cases h:st.h[n/2000000%1000]? with
      |none=>rw[h]at b;cases b
      |some y=>rw[h]at b;exact congrArg _ b
     obtain⟨o,g,e,p,A,C⟩:=hs.bx _ r l;refine⟨o,g,e,p,by rw[wc];exact A,λk c z=>?_⟩;obtain⟨u,D,f⟩:=CC z;obtain⟨x,F,q⟩:=C k u D;refine⟨x,F,?_⟩;rcases f with rfl|rfl;·exact q
     ·exact oi s q
    ·cases h
   ·exact hs.bx k v h
  ·exact hs
theorem CB (st:St)(i n:Nat):(st.own1 i n).dead=st.dead:=by
 unfold St.own1;split;·exact y_ st n
 ·repeat' split
  all_goals rfl
theorem Sim.own1 (hs:Sim Γ st a w)(b:st.dead=λ_=>false){i n:Nat}(f:¬Γ.has i):∃Γ',Same Γ Γ'/\(∀j,Γ'.has j↔Γ.has j)/\Sim Γ' (st.own1 i n) a w:=by
 by_cases e:8000000000<=n;·unfold St.own1;rw[if_pos e];exact hs.take1 b n
 ·exact⟨Γ,Same.rfl',λ_=>Iff.rfl,hs.own0 f e⟩
theorem Sim.owns:∀(b:List Nat) (i:Nat) (Γ:Ctx) (st:St),(∀j,j<999 -> ¬Γ.has j)->st.dead=(λ_=>false)->Sim Γ st a w -> ∃Γ',Same Γ Γ'/\Sim Γ' (St.owns b i st) a w/\(St.owns b i st).dead=λ_=>false:=by
 intro b;induction b with
 |nil=>intro i Γ st _ e h;exact⟨Γ,Same.rfl',h,e⟩
 |cons n b k=>
  intro i Γ st f e hs;by_cases g:i<999;·rw[St.owns,if_pos g];obtain⟨p,r,m,s⟩:=hs.own1 e (i:=i) (n:=n) (f i g);obtain⟨q,l,u,o⟩:=k (i+1) p _ (λj t h=>f j t ((m j).1 h)) ((CB st i n).trans e) s;exact⟨q,r.trans l,u,o⟩
  ·rw[St.owns,if_neg g];exact k (i+1) Γ st f e hs
theorem Sim.head0 (hs:Sim Γ st a w)(fs:List Nat×List Nat):Sims Γ (st.head0 fs) a w:=by
 have L:Sim Γ ({ st with t:=gb fs.1 0 st.t }:St) a w:=by
  refine⟨hs.good,hs.dz,by rw[pH];exact hs.len,λi v h=>?_,hs.bx,hs.nds,hs.du,hs.nd,by rw[pH];exact hs.nt⟩;simp only[yI]at h;cases D:st.t[i]? with
  |none=>rw[D]at h;cases h
  |some u=>
   rw[D]at h;simp only[Option.map_some,aK]at h;obtain⟨x,O,G⟩:=hs.tm i u D;refine⟨x,O,?_⟩;split at h;·subst h;exact VR.undef_ _
   ·subst h;exact G
 have z:Sim Γ (({ st with t:=gb fs.1 0 st.t }:St).sweep (gB fs.2)) a w:=by
  have:=Sim.sweep (f:=gB fs.2) (dead:=st.dead) (Γ':=Γ) (w':=w) L (λu y p E=>?_) (vo _) hs.good (λ_ h=>h) (λ_=>rfl) (λ_ _=>rfl) hs.nds hs.du hs.nd;·exact this
  ·cases u with
   |ptr d n=>
    simp only[gB];split;·exact VR.undef_ _
    ·exact E
   |agg _=>cases p
   |tup _=>cases p
   |clo _ _=>cases p
   |_=>exact E
 have N:Sim Γ ({ ({ st with t:=gb fs.1 0 st.t }:St).sweep (gB fs.2)with h:=sY fs.2 0 (({ st with t:=gb fs.1 0 st.t }:St).sweep (gB fs.2)).h }:St) a w:=
  ⟨z.good,z.dz,z.len,z.tm,λk v h=>z.bx k v (Bg _ _ _ _ _ h),z.nds,z.du,z.nd,z.nt⟩
 have I:=Sim.sweep (f:=bp st.dead) (dead:=st.dead) (Γ':=Γ.settled st.dead) (w':=w) N (gJ hs.good) (pq _) hs.good.settled (λ_ h=>h) (λ_=>rfl) (λ_ _=>rfl) (λb o _=>?_) hs.du (λB b s o g _ _ r m=>hs.nd B b s o.1 g.1 o.2 g.2 r m)
 ·have F:=I.canon (λb o=>by
   rintro(h|⟨s,g,q,h⟩)
   ·exact hs.nds b o.1 o.2 h
   ·have:=hs.good.baseInj b s o.1 g h
    subst this
    rw[o.2]at q
    cases q) (λB b s o g r m=>hs.nd B b s o.1 g.1 o.2 g.2 r m)
  show Sims Γ (match pV fs.2 with
   | []=>_
   |ns=>_) a w
  split;·exact⟨(Γ.settled st.dead).renamed _,⟨rfl,rfl,rfl,rfl,rfl,λ_ _=>rfl⟩,F⟩
  ·have K:∀(l:List Nat) (j:Nat),j<999 -> ¬((Γ.settled st.dead).renamed l).has j:=λl j Q ⟨i,b,e,_⟩=>by unfold am at e;omega
   obtain⟨M,J,C,A⟩:=Sim.owns (pV fs.2) 0 _ _ (K _) rfl F;have H:=C.canon (λb o=>C.nds b o (by rw[A])) (λB b s o g r m=>C.nd B b s o g (by rw[A]) (by rw[A]) r m);exact⟨M.renamed _,Same.trans ⟨rfl,rfl,rfl,rfl,rfl,λ_ _=>rfl⟩ (Same.trans J ⟨rfl,rfl,rfl,rfl,rfl,λ_ _=>rfl⟩),H⟩
 ·rintro(h|⟨s,g,q,h⟩);·exact hs.nds b o.1 o.2 h
  ·have:=hs.good.baseInj b s o.1 g h;subst this;rw[o.2]at q;cases q
def Ctx.coarse (Γ:Ctx)(dup:Bool):Ctx:={ Γ with U:=True,N:=λb m=>dup=false/\Γ.N b m }
theorem gH {dup:Bool}(R:dup=false->Γ.U):mz Γ (Γ.coarse dup) w w (coarse dup):=by
 have J:∀{q:Q} {s k o:Nat} {xs:List V},Rows w (Γ.Sq q) s xs k o->Rows w ((Γ.coarse dup).Sq q) s xs k o:=λ{q} _ _ _ _ h=>h.mono (λk G=>by cases q<;>exact G) (λ_ _ _=>rfl) (λ_ _ _=>rfl);have L:∀{q:Q} {s k o:Nat} {xs:List V},Rows w (Γ.Sq q) s xs k o->Rows w ((Γ.coarse dup).Sq .any) s xs k o:=λh=>h.mono (λk G=>jh G) (λ_ _ _=>rfl) (λ_ _ _=>rfl);have H:∀{q:Q} {b s k o:Nat} {xs:List V},Γ.Uq w q b s xs k o->(q = .clean->dup=false)->(Γ.coarse dup).Uq w q b s xs k o:=λh r E _=>(h E (R (r E))).mono (λm M=>⟨⟨r E,M.1⟩,M.2⟩) (λ_ _ _=>rfl) (λ_ _ _=>rfl);have K:∀{b s k o:Nat} {xs:List V},(Γ.coarse dup).Uq w .any b s xs k o:=λE=>by cases E
 intro u y p j;cases u with
 |undef=>exact VR.undef_ _
 |bool b=>rw[j.bool_inv];exact .rd _ _ (.bool b)
 |int k m=>rw[j.int_inv];exact .rd _ _ (.int k m)
 |str s=>obtain⟨z,rfl,N⟩:=j.str_inv;exact .rd _ _ (.str s z N)
 |nil=>rw[j.nil_inv];exact .rd _ _ .nil
 |sl s f xs=>exact .rd _ _ j.sl_inv
 |iptr z o=>
  cases j with
  |rd _ _ h=>exact .rd _ _ h
 |ptr d n =>obtain⟨rfl,h⟩:=j.ptr_inv;exact .ptr (Γ:=Γ.coarse dup) d n h
 |agg _=>cases p
 |tup _=>cases p
 |clo _ _=>cases p
 |own b s q xs=>
  have C:=j.own_uq;have g:(q = .clean->dup=false)->VR (Γ.coarse dup) w (.own b s q xs) y:=λr=>by
   rcases j.own_inv with⟨rfl,rfl,l⟩|⟨rfl,v,D,l,A,B⟩;·exact .ownNil _ _ _ l
   ·exact .own (Γ:=Γ.coarse dup) b s q xs v D l (J A) B (H C r)
  cases q with
  |flat=>exact g (λe=>by cases e)
  |any=>exact g (λe=>by cases e)
  |clean=>
   simp only[coarse];split
   ·simp only[Option.getD_some];rcases j.own_inv with⟨rfl,rfl,l⟩|⟨rfl,v,D,l,A,B⟩;·exact .ownNil _ _ _ l
    ·exact .own (Γ:=Γ.coarse dup) b s .any xs v D l (L A) (λe=>by cases e) K
   ·rename_i r;exact g (λ_=>by simpa using r)
 |view b s q xs=>
  have I:=j;have g:(q = .clean->dup=false)->VR (Γ.coarse dup) w (.view b s q xs) y:=λr=>by
   rcases j.view_inv with⟨W,t,rfl,rfl⟩|⟨o,t,rfl,v,F,l,x,A,B⟩;·exact .view0 (Γ:=Γ.coarse dup) _ _ _ _ _ (j.view0_of.to Iff.rfl (λ_=>⟨rfl,rfl,rfl,rfl⟩))
   ·exact .view (Γ:=Γ.coarse dup) b s q xs o t v F l x (J A) B (H I.view_uq r)
  cases q with
  |flat=>exact g (λe=>by cases e)
  |any=>exact g (λe=>by cases e)
  |clean=>
   simp only[coarse];split
   ·simp only[Option.getD_some];rcases j.view_inv with⟨W,t,rfl,rfl⟩|⟨o,t,rfl,v,F,l,x,A,B⟩;·exact .view0 (Γ:=Γ.coarse dup) _ _ _ _ _ (j.view0_of.to Iff.rfl (λ_=>⟨rfl,rfl,rfl,rfl⟩))
    ·exact .view (Γ:=Γ.coarse dup) b s .any xs o t v F l x (L A) (λe=>by cases e) K
   ·rename_i r;exact g (λ_=>by simpa using r)
 |eptr b s q xs i o=>
  simp only[coarse];split;·exact VR.undef_ _
  ·rename_i r;have C:=j.eptr_uq;obtain⟨rfl,v,D,l,A,B,O⟩:=j.eptr_inv;exact .eptr (Γ:=Γ.coarse dup) b s q xs i o v D l A (J B) O (H C (λ_=>by simpa using r))
 |vptr b z o =>obtain⟨T,S,rfl,v,D,l⟩:=j.vptr_inv;exact .vptr (Γ:=Γ.coarse dup) b z T o S v D l
theorem Good.coarse {dup:Bool}(g:Good Γ w):Good (Γ.coarse dup) w:=
 ⟨g.os,g.tape,g.output,g.size,g.old,g.new,g.slt,g.base,g.baseInj,g.box,g.boxInj,g.baseBox,g.sr,g.gl,g.bz,g.zf,λb e m f=>g.ns b e m f.2,g.h9⟩
theorem pA (dup:Bool):∀v u,coarse dup v=some u->u.cells=[u]:=by
 intro v u h;unfold coarse at h
 split at h<;>first
  |(cases h;done)
  |(split at h<;>first
   |(simp only[aK]at h;subst h;rfl)
   |cases h)
theorem Sim.calm (hs:Sim Γ st a w):Sims Γ st.calm a w:=by
 unfold St.calm;split;·rename_i j;refine⟨Γ.coarse true,⟨rfl,rfl,rfl,rfl,rfl,λ_ _=>rfl⟩,?_⟩;exact Sim.sweep (f:=Go.Am.coarse true) (dead:=st.dead) (dup:=false) hs (gH (λe=>by cases e)) (pA true) hs.good.coarse (λ_ h=>h) (λ_=>rfl) (λ_ _=>rfl) hs.nds (λ_=>trivial) (λ_ b i _ _ _ _ _ m g=>by cases g.1)
 ·exact⟨Γ,Same.rfl',hs⟩
theorem Sim.head (hs:Sim Γ st a w)(fs:List Nat×List Nat):Sims Γ (st.head fs) a w:=
 let⟨_,h1,h2⟩:=hs.calm
 Sims.of h1 (h2.head0 fs)
end
end Go.Am
end
