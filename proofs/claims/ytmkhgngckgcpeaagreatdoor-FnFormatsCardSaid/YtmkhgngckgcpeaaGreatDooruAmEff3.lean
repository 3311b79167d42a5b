/-
  Proved: lemmas for Rows.FnFormatsCardSaid.
-/
import Derived.Test.YtmkhgngckgcpeaaGreatDooruAmEff
set_option linter.all false
section
namespace Go.Am
open Go Go.RowKit
section
variable {P:Program}{c:Cfg}{Γ Γ':Ctx}{st:St}{a:Act}{w w':World}{den:Nat->List V->Option V}{η:Nat->Option V}{d:Nat}
theorem uW {S:Nat->Prop}{s:Nat}{xs:List V}{k o:Nat}(g:∀x∈xs,x.cells.length=s)
  (h:∀(i:Nat) (x:V) (j:Nat) (u:V),xs[i]?=some x->x.cells[j]?=some u -> ∃v,w.cell? ⟨k,o+i*s+j,none⟩=some v/\v.oneCell'=true/\Rd w S u v):Rows w S s xs k o:=by
 refine⟨g,λi j=>(w.cell? ⟨k,o+i*s+j,none⟩).getD undef,λi j n p=>?_,λi x j u b e=>?_⟩;·obtain⟨x,b⟩:∃x,xs[i]?=some x:=⟨_,List.getElem?_eq_getElem n⟩;obtain⟨u,e⟩:∃u,x.cells[j]?=some u:=⟨_,List.getElem?_eq_getElem (by rw[g x (aA b)];exact p)⟩;obtain⟨v,f,m,_⟩:=h i x j u b e;simp only[f,Option.getD_some];exact⟨trivial,m⟩
 ·obtain⟨v,f,_,l⟩:=h i x j u b e;simp only[f,Option.getD_some];exact l
theorem Rows.at_ {S:Nat->Prop}{s:Nat}{xs:List V}{k o:Nat}(h:Rows w S s xs k o){i:Nat}{x:V}{j:Nat}{u:V}(b:xs[i]?=some x)(l:x.cells[j]?=some u) :
  i<xs.length/\j<s /\ ∃v,w.cell? ⟨k,o+i*s+j,none⟩=some v/\v.oneCell'=true/\Rd w S u v:=by
 obtain⟨r1,g,r2,r3⟩:=h;have e:=(bW b).1;have f:j<s:=by rw[<-r1 x (aA b)];exact(bW l).1
 exact⟨e,f,g i j,(r2 i j e f).1,(r2 i j e f).2,r3 i x j u b l⟩
theorem nU {N:Nat->Prop}{s:Nat}{xs:List V}{k o:Nat}(y:∀x∈xs,x.cells.length=s)(T:Nat->Nat->Nat->Prop)
  (l:∀(i:Nat) (x:V) (j:Nat) (u:V),xs[i]?=some x->x.cells[j]?=some u -> ∃v,w.cell? ⟨k,o+i*s+j,none⟩=some v/\Tr w u v (T i j))
  (p:∀i j g h m,T i j m->T g h m->i=g/\j=h) (r:∀i j m,T i j m->N m):TrRows w N s xs k o:=by
 refine⟨λi j=>(w.cell? ⟨k,o+i*s+j,none⟩).getD undef,T,λi j q t=>?_,λi x j u b e=>?_,p,r⟩;·obtain⟨x,b⟩:∃x,xs[i]?=some x:=⟨_,List.getElem?_eq_getElem q⟩;obtain⟨u,e⟩:∃u,x.cells[j]?=some u:=⟨_,List.getElem?_eq_getElem (by rw[y x (aA b)];exact t)⟩;obtain⟨v,f,_⟩:=l i x j u b e;simp only[f,Option.getD_some]
 ·obtain⟨v,f,n⟩:=l i x j u b e;simp only[f,Option.getD_some];exact n
theorem AO {s:Nat}{xs:List V}{k o:Nat}{g:Nat->Nat->Value}{T:Nat->Nat->Nat->Prop}(r1:∀x∈xs,x.cells.length=s)(r2:∀i j:Nat,i<xs.length->j<s->w.cell? ⟨k,o+i*s+j,none⟩=some (g i j))
  (r3:∀(i:Nat) (x:V) (j:Nat) (c:V),xs[i]?=some x->x.cells[j]?=some c->Tr w c (g i j) (T i j)) {i:Nat} {x:V} {j:Nat} {u:V} (b:xs[i]?=some x) (e:x.cells[j]?=some u) :
  ∃v,w.cell? ⟨k,o+i*s+j,none⟩=some v/\Tr w u v (T i j):=by
 have f:=(bW b).1;have h:j<s:=by rw[<-r1 x (aA b)];exact(bW e).1
 exact⟨g i j,r2 i j f h,r3 i x j u b e⟩
theorem kF {i n s j:Nat}(b:i<n)(e:j<s):i*s+j<n*s:=by have:=Nat.mul_le_mul_right s (show i+1<=n from b);rw[Nat.add_mul,Nat.one_mul]at this;omega
theorem wU {n m s:Nat}(h:n<=m):n*s<=m*s:=Nat.mul_le_mul_right s h
theorem fN {k j:Nat}{b:Array Value}{e:TypeId}(h:w.heap[k]?=some (.cells b e (0,0))):w.cell? ⟨k,j,none⟩=b[j]?:=by simp[World.cell?,h]
theorem fz (g:Good Γ w){esc:List Nat}{k:Nat}(h:cB Γ esc k):k<w.heap.size:=by
 rcases h with h|⟨b,_,e,rfl⟩;·exact g.slt k h
 ·exact(g.base b e).2.1
theorem g_ (g:Good Γ w){esc:List Nat}{k:Nat}(e:Γ.lb k):¬cB Γ esc (Γ.box k):=by
 rintro(h|⟨b,_,f,h⟩);·exact(g.box k e).2.1 h
 ·exact g.baseBox b k f e h.symm
theorem fR (g:Good Γ w){esc:List Nat}{b:Nat}(f:Γ.has b)(k:¬Γ.S (Γ.blk b))(i:esc.contains b=false):¬cB Γ esc (Γ.blk b):=by
 rintro(h|⟨j,l,e,h⟩);·exact k h
 ·have:=g.baseInj b j f e h;subst this;simp[l]at i
theorem Good.write {b:Nat}{o cs:Array Value}{e:TypeId}{esc:List Nat}{y:Nat->Nat->Prop}{C:Prop}(g:Good Γ w)(B:Γ.has b)(j:w.heap[Γ.blk b]?=some (.cells o e (0,0)))(v:cs.size=o.size)(t:∀n,Γ.has n -> ∀m,y n m->cB Γ esc m/\Γ.Z m) :
  Good { Γ with S:=cB Γ esc,N:=y,U:=C } (w.setRow (Γ.blk b) cs):=by
 have h:∀(k:Nat),k≠Γ.blk b->(w.setRow (Γ.blk b) cs).heap[k]?=w.heap[k]?:=λk l=>setRow_other w _ k cs l;refine⟨g.os,g.tape,g.output,by rw[setRow_size];exact g.size,λk l z=>?_,g.new,λk l=>by rw[setRow_size];exact fz g l,λn s=>?_,g.baseInj,λk l=>?_,g.boxInj,g.baseBox,od g,g.gl,g.bz,λk l=>?_,t,g.h9⟩;·exact(h k (λe=>z (e▸(g.base b B).1))).trans (g.old k l z)
 ·obtain⟨u,A,r,i,q,p,x⟩:=g.base n s;refine⟨u,by rw[setRow_size];exact A,r,?_⟩;by_cases f:Γ.blk n=Γ.blk b
  ·refine⟨cs,e,?_,?_⟩;·show(w.setRow (Γ.blk b) cs).heap[Γ.blk n]?=_;rw[f];exact setRow_heap w _ o cs e _ j
   ·rw[f,j]at p;simp only[aK,Obj.cells.injEq]at p;show Γ.off n+Γ.cap n*Γ.sz n<=cs.size;rw[v,p.1];exact x
  ·exact⟨i,q,(h _ f).trans p,x⟩
 ·obtain⟨u,_,r⟩:=g.box k l;exact⟨u,g_ g l,by rw[setRow_size];exact r⟩
 ·obtain⟨z1,z2,i,q,D⟩:=g.zf k l;refine⟨z1,by rw[setRow_size];exact z2,?_⟩;by_cases f:k=Γ.blk b;·subst f;exact⟨cs,e,setRow_heap w _ o cs e _ j⟩
  ·exact⟨i,q,(h _ f).trans D⟩
theorem VR.write {v:V}{x:Value}{b:Nat}{cs:Array Value}{esc:List Nat}{ln:Nat->Nat}{N':Nat->Nat->Prop}{U':Prop}(g:Good Γ w)(h:VR Γ w v x)(hb:Γ.has b)(hS:¬Γ.S (Γ.blk b))(hp:v.anyB (λb'=>b'==b)=false)(hln:∀b',b'≠b->ln b'=Γ.ln b')
  (hU:U'->Γ.U) (hN:∀b',b'≠b -> ∀m,Γ.N b' m->N' b' m) :
  VR { Γ with S:=cB Γ esc,ln:=ln,N:=N',U:=U' } (w.setRow (Γ.blk b) cs) v x:=by
 refine VR.mono (Γ:=Γ) (Γ':={ Γ with S:=cB Γ esc,ln:=ln,N:=N',U:=U' }) (w:=w) (w':=w.setRow (Γ.blk b) cs) (p:=λb'=>b'==b) (r:=λ_=>false) hU (λ_ h=>.inl h) (λ_ h=>h) (λk hk=>cell?_of_heap (setRow_other w _ k cs (λe=>hS (e▸hk))))
  (λb' hb'=>⟨Iff.rfl,λhh=>⟨rfl,rfl,rfl,rfl,hln b' (by simpa using hb'),hN b' (by simpa using hb'),cell?_of_heap (setRow_other w _ _ cs (λe=>?_))⟩⟩) (λ_ _=>⟨λh=>h,rfl⟩) h hp (cS _)
 have:=g.baseInj b' b hh hb e;subst this;simp at hb'
theorem mO {S':Nat->Prop}{q q':Q}{u:V}{y:Value}(j:Rd w Γ.S u y)(i:q.good=true->Rd w (λk=>Γ.S k/\Γ.Z k) u y)(f:∀k,Γ.S k->Γ'.S k)(g:∀k,Γ.Z k->Γ'.Z k)(h:q'.good=true->q.good=true)
  (e:∀k,Γ.S k -> ∀o,w'.cell? ⟨k,o,none⟩=w.cell? ⟨k,o,none⟩):Rd w' (Γ'.Sq q') u y:=by
 cases q' with
 |any=>exact j.mono f e
 |flat=>exact(i (h rfl)).mono (λk b=>⟨f k b.1,g k b.2⟩) (λk b=>e k b.1)
 |clean=>exact(i (h rfl)).mono (λk b=>⟨f k b.1,g k b.2⟩) (λk b=>e k b.1)
theorem DQ {q:Q}{u:V}{y:Value}(h:Rd w (Γ.Sq q) u y):Rd w Γ.S u y/\(q.good=true->Rd w (λk=>Γ.S k/\Γ.Z k) u y):=by
 refine⟨h.mono (λk e=>jh e) (λ_ _ _=>rfl),λb=>?_⟩;cases q with
 |any=>cases b
 |flat=>exact h
 |clean=>exact h
theorem wD {v u:V}(h:flat v=some u):u.isCell=true:=by cases v<;>simp only[flat,aK]at h<;>first|(cases h;done)|(subst h;rfl)
theorem nN (b:Nat)(q:Q)(ys:List V):∀v u,cR b q ys v=some u->u.cells=[u]:=by
 intro v u h
 cases v<;>simp only[cR]at h<;>first
  |(cases h;done)
  |(split at h<;>first
   |(simp only[aK]at h;subst h;first|rfl|(split<;>rfl))
   |cases h)
theorem dD (b:Nat):∀v u,aq b v=some u->u.cells=[u]:=by
 intro v u h
 cases v<;>simp only[aq]at h<;>first
  |(cases h;done)
  |(split at h<;>first
   |(simp only[aK]at h;subst h;rfl)
   |cases h)
theorem tg:∀(zs cs:List V),cI cs=true->cI (dO zs cs)=true:=by
 intro zs;induction zs with
 |nil=>intro cs h;cases cs<;>exact h
 |cons z zs b=>
  intro cs h;cases cs with
  |nil=>rfl
  |cons v cs=>
   rw[cI,Bool.and_eq_true]at h;rw[dO,cI,Bool.and_eq_true];refine⟨?_,b cs h.2⟩;unfold d_;split;·rfl
   ·exact h.1
theorem vV {zs:List V}{v:V}(h:cI v.cells=true):cI (bZ zs v).cells=true:=by rw[ik];exact tg _ _ h
theorem Sim.putRow {b s:Nat}{q:Q}{xs ys:List V}{k o:Nat}{v:V}{x px:Value}{new:List V}(hs:Sim Γ st a w)(hp:VR Γ w (.eptr b s q xs k o) px)(hdead:st.dead b=false)(hv:VR Γ w v x)
  (hc:cI v.cells=true) (hesc:(bB v.cells).contains b=false) (hn:iu v.cells=some new) (hst:iL xs k o new=some ys) :
  ∃cur e,px = .pointer (some ⟨Γ.blk b,Γ.off b+k*s+o,none⟩)/\w.heap[Γ.blk b]?=some (.cells cur e (0,0))/\Γ.off b+k*s+o+x.cells.size<=cur.size /\
   Sims Γ (((st.sweep (cR b (q.join (c_ v.cells)) ys)).kill (bB v.cells)).mark (!aR st.dead (bB v.cells))) a (w.setRow (Γ.blk b) (cur.toList.take (Γ.off b+k*s+o)++x.cells.toList++cur.toList.drop (Γ.off b+k*s+o+x.cells.size)).toArray):=by
 obtain⟨rfl,hb,hsz,hcap,hk,hrow,hq⟩:=hp.eptr_inv;have g:=hs.good;have hS:=hs.nds b hb hdead;obtain⟨gF,glt,gm,cur,e,hcur,hfit⟩:=g.base b hb;have hlen:=hv.cellLen (fd hc);have hcl:=hv.cells hlen;obtain⟨n1,n2⟩:=nF hn;unfold iL at hst;cases hxk:xs[k]? with
 |none=>rw[hxk]at hst;cases hst
 |some rx=>
  rw[hxk]at hst;simp only at hst;cases hov:over rx.cells o new with
  |none=>rw[hov]at hst;cases hst
  |some cs=>
   rw[hov]at hst;simp only[aK]at hst;obtain⟨l1,l2⟩:=pY hov;have hrl:=hrow.1 rx (aA hxk);have hks:=wU (s:=s) (show k+1<=xs.length from hk);rw[Nat.add_mul,Nat.one_mul]at hks;have hxc:=wU (s:=s) hcap.1;have hfit1:Γ.off b+k*s+o+x.cells.size<=cur.size:=by rw[<-hsz]at hfit;omega
   refine⟨cur,e,rfl,hcur,hfit1,?_⟩;have hfit2:Γ.off b+k*s+o+x.cells.toList.length<=cur.toList.length:=by simpa using hfit1
   have hget:=λj=>uY cur.toList x.cells.toList (Γ.off b+k*s+o) j hfit2;have hsl:=uZ cur.toList x.cells.toList (Γ.off b+k*s+o) hfit2;simp only[Array.length_toList]at hget hsl;let Γ':Ctx:={ Γ with S:=cB Γ (bB v.cells),N:=λb' m=>if b'=b then Γ.N b m \/ ∃b1∈bB v.cells,Γ.has b1/\(m=Γ.blk b1\/Γ.N b1 m)else Γ.N b' m,U:=Γ.U/\aR st.dead (bB v.cells)=true };have hN0:∀m,Γ'.N b m->Γ.N b m \/ ∃b1∈bB v.cells,Γ.has b1/\(m=Γ.blk b1\/Γ.N b1 m):=λm h=>by simpa[Γ']using h
   have hN1:∀b' m,b'≠b->Γ'.N b' m->Γ.N b' m:=λb' m hb h=>by simpa[Γ',hb]using h
   have hN2:∀b' m,b'≠b->Γ.N b' m->Γ'.N b' m:=λb' m hb h=>by simpa[Γ',hb]using h
   have hNZ:∀m,(Γ.N b m \/ ∃b1∈bB v.cells,Γ.has b1/\(m=Γ.blk b1\/Γ.N b1 m))->cB Γ (bB v.cells) m/\Γ.Z m:=λm h=>by
    rcases h with h|⟨b1,h1,h2,rfl|h3⟩;·exact⟨.inl (g.ns b hb m h).1,(g.ns b hb m h).2⟩
    ·exact⟨.inr ⟨b1,h1,h2,rfl⟩,g.bz b1 h2⟩
    ·exact⟨.inl (g.ns b1 h2 m h3).1,(g.ns b1 h2 m h3).2⟩
   have hNS:=λm h=>(hNZ m h).1;let cs':=(cur.toList.take (Γ.off b+k*s+o)++x.cells.toList++cur.toList.drop (Γ.off b+k*s+o+x.cells.size)).toArray;have hcs':cs'.size=cur.size:=hsl
   have hgood:Good Γ' (w.setRow (Γ.blk b) cs'):=g.write hb hcur hcs' (λb' hb' m hm=>by
    by_cases hbb:b'=b
    ·rw[if_pos hbb]at hm;exact hNZ m hm
    ·rw[if_neg hbb]at hm;exact⟨.inl (g.ns b' hb' m hm).1,(g.ns b' hb' m hm).2⟩)
   have hcs:∀c∈cs,c.isCell=true\/c∈rx.cells:=by
    intro u hu;obtain⟨j,hj⟩:=List.getElem?_of_mem hu;rw[fi hov j]at hj;split at hj;·obtain⟨z,_,hz⟩:=n2 _ _ hj;exact .inl (wD hz)
    ·exact .inr (aA hj)
   have hrc:=gi (r:=rx) l1 hcs;have hSn:¬cB Γ (bB v.cells) (Γ.blk b):=fR g hb hS hesc;have hsame:∀k',cB Γ (bB v.cells) k' -> ∀o',(w.setRow (Γ.blk b) cs').cell? ⟨k',o',none⟩=w.cell? ⟨k',o',none⟩:=λk' hk'=>cell?_of_heap (setRow_other w _ k' cs' (λe=>hSn (e▸hk')));have hheap:(w.setRow (Γ.blk b) cs').heap[Γ.blk b]?=some (.cells cs' e (0,0)):=setRow_heap w _ cur cs' e _ hcur;have hcell:∀j,(w.setRow (Γ.blk b) cs').cell? ⟨Γ.blk b,j,none⟩=if Γ.off b+k*s+o<=j/\j<Γ.off b+k*s+o+x.cells.size then x.cells[j-(Γ.off b+k*s+o)]? else cur[j]?:=by intro j;rw[fN hheap];show(List.toArray _)[j]?=_;rw[List.getElem?_toArray,hget];simp
   have hgq:∀q0:Q,(q.join (c_ v.cells)).good=true->q.good=true:=λ_ h=>(ar h).1
   -- an old cell, kept
   have hold:∀(i:Nat) (rw_:V) (j:Nat) (u:V),xs[i]?=some rw_->rw_.cells[j]?=some u->(i≠k \/ ¬(o<=j/\j<o+x.cells.size)) ->
     ∃z,(w.setRow (Γ.blk b) cs').cell? ⟨Γ.blk b,Γ.off b+i*s+j,none⟩=some z/\z.oneCell'=true/\Rd (w.setRow (Γ.blk b) cs') (Γ'.Sq (q.join (c_ v.cells))) u z:=by
    intro i rw_ j u h1 h2 h3
    obtain⟨hi,hj,z,e1,e2,e3⟩:=hrow.at_ h1 h2
    refine⟨z,?_,e2,?_⟩
    ·rw[hcell,if_neg,<-fN hcur]
     ·exact e1
     ·rcases Nat.lt_trichotomy i k with h4|h4|h4
      ·have:=kF (j:=j) h4 hj
       omega
      ·subst h4
       rcases h3 with h3|h3
       ·exact absurd rfl h3
       ·omega
      ·have:=wU (s:=s) (show k+1<=i from h4)
       rw[Nat.add_mul,Nat.one_mul]at this
       omega
    ·obtain⟨f1,f2⟩:=DQ e3
     exact mO (S':=Γ.S) f1 f2 (λ_ h=>.inl h) (λ_ h=>h) (hgq q) (λk' hk'=>hsame k' (.inl hk'))
   have hrows:Rows (w.setRow (Γ.blk b) cs') (Γ'.Sq (q.join (c_ v.cells))) s ys (Γ.blk b) (Γ.off b):=by
    refine uW (λr hr=>?_) (λi r j u hr hu=>?_)
    ·rw[<-hst]at hr;rcases List.mem_or_eq_of_mem_set hr with hr|rfl;·exact hrow.1 r hr
     ·rw[hrc,l1];exact hrl
    ·rw[<-hst,List.getElem?_set]at hr;split at hr
     ·rename_i hik;subst hik
      try rw[if_pos hk]at hr
      simp only[aK]at hr;subst hr;rw[hrc,fi hov]at hu;have hnl:new.length=x.cells.size:=by omega
      rw[hnl]at hu;split at hu
      ·rename_i hjj;obtain⟨z,z1,z2⟩:=n2 _ _ hu;obtain⟨y,y1,y2⟩:=hcl _ _ z1;obtain⟨f1,f2,f3,f4⟩:=mT (S':=cB Γ (bB v.cells)) g y2 z2 (λ_ h=>.inl h) (λb1 hb1 hh=>.inr ⟨b1,bn (aA z1) b1 hb1,hh,rfl⟩);refine⟨y,?_,f2,?_⟩;·rw[hcell,if_pos (by omega),<-y1];congr 1;omega
       ·have hqq:(q.join (c_ v.cells)).good=true->Rd w (λk=>cB Γ (bB v.cells) k/\Γ.Z k) u y:=λh=>f3 (f_ (ar h).2 z (aA z1));cases hqj:q.join (c_ v.cells)with
        |any=>exact f1.mono (λ_ h=>h) hsame
        |flat=>exact(hqq (by rw[hqj];rfl)).mono (λ_ h=>h) (λk' hk'=>hsame k' hk'.1)
        |clean=>exact(hqq (by rw[hqj];rfl)).mono (λ_ h=>h) (λk' hk'=>hsame k' hk'.1)
      ·rename_i hjj;exact hold _ rx j u hxk hu (.inr hjj)
     ·rename_i hik;exact hold i r j u hr hu (.inl (λe=>hik e.symm))
   have hflat:flatOk (q.join (c_ v.cells)) ys:=by
    intro hqf r hr u hu;obtain⟨j1,j2⟩:=cb hqf;rw[<-hst]at hr;rcases List.mem_or_eq_of_mem_set hr with hr|rfl;·exact hq j1 r hr u hu
    ·rw[hrc]at hu;obtain⟨j,hj⟩:=List.getElem?_of_mem hu;rw[fi hov j]at hj;split at hj;·obtain⟨z,z1,z2⟩:=n2 _ _ hj;obtain⟨y,y1,y2⟩:=hcl _ _ z1;exact(mT (S':=cB Γ (bB v.cells)) g y2 z2 (λ_ h=>.inl h) (λb1 hb1 hh=>.inr ⟨b1,bn (aA z1) b1 hb1,hh,rfl⟩)).2.2.2 (ej j2 z (aA z1))
     ·exact hq j1 rx (aA hxk) u (aA hj)
   have hyl:ys.length=xs.length:=by rw[<-hst,List.length_set]
   have no9:∀b,Γ.has b->b≠999:=λb hb e=>g.h9 (e▸hb);have huq:Γ'.Uq (w.setRow (Γ.blk b) cs') (q.join (c_ v.cells)) b s ys (Γ.blk b) (Γ.off b):=by
    rintro hqc ⟨hU,hmv⟩;have hgd:(q.join (c_ v.cells)).good=true:=by rw[hqc];rfl
    obtain⟨gg,T,t1,t2,t3,t4⟩:=sT hp.eptr_uq hrow hq (ar hgd).1 hU;have hsame2:∀(T0:Nat->Prop) (u:V) (z:Value),Tr w u z T0->(∀m,T0 m->cB Γ (bB v.cells) m)->Tr (w.setRow (Γ.blk b) cs') u z T0:=λT0 u z h h2=>h.mono (λk' hk'=>hsame k' (h2 k' hk'));let T':Nat->Nat->Nat->Prop:=λi j m=>if i=k/\o<=j/\j<o+x.cells.size then ∃z,v.cells[j-o]?=some z /\ ∃b1∈bF z,Γ.has b1/\(m=Γ.blk b1\/Γ.N b1 m)else T i j m
    have hT1:∀i j,(i=k/\o<=j/\j<o+x.cells.size) -> ∀m,T' i j m -> ∃z,v.cells[j-o]?=some z /\ ∃b1∈bF z,Γ.has b1/\(m=Γ.blk b1\/Γ.N b1 m):=λi j h m hm=>by have e:T' i j m=_:=if_pos h;rw[e]at hm;exact hm
    have hT2:∀i j,¬(i=k/\o<=j/\j<o+x.cells.size) -> ∀m,T' i j m->T i j m:=λi j h m hm=>by have e:T' i j m=T i j m:=if_neg h;rw[e]at hm;exact hm
    have hmem:∀{i:Nat} {z:V} {b1:Nat},v.cells[i]?=some z->b1∈bF z->b1∈bB v.cells:=λh1 h2=>bn (aA h1) _ h2;have hne:∀b1,b1∈bB v.cells->b1≠b:=λb1 h1 e=>by subst e;simp[h1]at hesc
    have hcross:∀i j i' j' m,(i=k/\o<=j/\j<o+x.cells.size) -> ¬(i'=k/\o<=j'/\j'<o+x.cells.size)->T' i j m->T' i' j' m->False:=λi j i' j' m c1 c2 m1 m2=>by obtain⟨z,z1,b1,z2,z3,z4⟩:=hT1 i j c1 m m1;have:=(t4 i' j' m (hT2 i' j' c2 m m2)).1;exact hs.apart hU z3 hb (bO hmv b1 (hmem z1 z2) (no9 b1 z3)) hdead (hne b1 (hmem z1 z2)) z4 (.inr this)
    refine nU hrows.1 T' (λi r j u hr hu=>?_) (λi j i' j' m m1 m2=>?_) (λi j m hm=>?_)
    ·have hold2:∀rw_,xs[i]?=some rw_->rw_.cells[j]?=some u -> ¬(i=k/\o<=j/\j<o+x.cells.size) -> ∃z,(w.setRow (Γ.blk b) cs').cell? ⟨Γ.blk b,Γ.off b+i*s+j,none⟩=some z/\Tr (w.setRow (Γ.blk b) cs') u z (T' i j):=λrw_ e1 e2 c=>by
      obtain⟨z,z1,_,_⟩:=hold i rw_ j u e1 e2 (by
       by_cases hik:i=k
       ·exact .inr (λh=>c ⟨hik,h⟩)
       ·exact .inl hik)
      obtain⟨hi,hj,z',z2,_,_⟩:=hrow.at_ e1 e2;obtain⟨z'',z3,z4⟩:=AO hrow.1 t1 t2 e1 e2;rw[z2]at z3;injection z3 with z3;subst z3;have hpos:¬(Γ.off b+k*s+o<=Γ.off b+i*s+j/\Γ.off b+i*s+j<Γ.off b+k*s+o+x.cells.size):=by
       rcases Nat.lt_trichotomy i k with h4|h4|h4;·have:=kF (j:=j) h4 hj;omega
       ·subst h4;intro h;exact c ⟨rfl,by omega,by omega⟩
       ·have:=wU (s:=s) (show k+1<=i from h4);rw[Nat.add_mul,Nat.one_mul]at this;omega
      refine⟨z',?_,?_⟩;·rw[hcell,if_neg hpos,<-fN hcur];exact z2
      ·rw[show T' i j=T i j from funext λm=>if_neg c];exact hsame2 _ _ _ z4 (λm hm=>.inl (t4 i j m hm).2)
     rw[<-hst,List.getElem?_set]at hr;split at hr
     ·rename_i hik;subst hik
      try rw[if_pos hk]at hr
      simp only[aK]at hr;subst hr;rw[hrc,fi hov]at hu;have hnl:new.length=x.cells.size:=by omega
      rw[hnl]at hu;split at hu
      ·rename_i hjj;obtain⟨z,z1,z2⟩:=n2 _ _ hu;obtain⟨y,y1,y2⟩:=hcl _ _ z1;refine⟨y,?_,?_⟩;·rw[hcell,if_pos (by omega),<-y1];congr 1;omega
       ·rw[show T' k j=_ from funext λm=>if_pos ⟨rfl,hjj⟩];refine hsame2 _ _ _ ((uG hs.good y2 z2 (f_ (ar hgd).2 z (aA z1)) hU (λb1 hb1 hh=>hs.nds b1 hh (bO hmv b1 (hmem z1 hb1) (no9 b1 hh)))).weaken (λm hm=>⟨z,z1,hm⟩)) (λm ⟨z',q1,b1,q2,q3,q4⟩=>hNS m (.inr ⟨b1,hmem q1 q2,q3,q4⟩))
      ·rename_i hjj;exact hold2 rx hxk hu (λh=>hjj h.2)
     ·rename_i hik;exact hold2 r hr hu (λh=>hik h.1.symm)
    ·by_cases c1:i=k/\o<=j/\j<o+x.cells.size
     ·by_cases c2:i'=k/\o<=j'/\j'<o+x.cells.size;·obtain⟨z,z1,b1,z2,z3,z4⟩:=hT1 i j c1 m m1;obtain⟨z',z1',b1',z2',z3',z4'⟩:=hT1 i' j' c2 m m2;have hbb:b1=b1':=Classical.byContradiction λhne=>hs.apart hU z3 z3' (bO hmv b1 (hmem z1 z2) (no9 b1 z3)) (bO hmv b1' (hmem z1' z2') (no9 b1' z3')) hne z4 z4';subst hbb;have:=nh hmv _ _ z z' b1 z1 z1' z2 z2' (no9 b1 z3);exact⟨c1.1.trans c2.1.symm,by omega⟩
      ·exact(hcross i j i' j' m c1 c2 m1 m2).elim
     ·by_cases c2:i'=k/\o<=j'/\j'<o+x.cells.size;·exact(hcross i' j' i j m c2 c1 m2 m1).elim
      ·exact t3 i j i' j' m (hT2 i j c1 m m1) (hT2 i' j' c2 m m2)
    ·by_cases c1:i=k/\o<=j/\j<o+x.cells.size;·obtain⟨z,z1,b1,z2,z3,z4⟩:=hT1 i j c1 m hm;have:Γ.N b m \/ ∃b1∈bB v.cells,Γ.has b1/\(m=Γ.blk b1\/Γ.N b1 m):=.inr ⟨b1,hmem z1 z2,z3,z4⟩;exact⟨by simpa[Γ']using this,hNS m this⟩
     ·have h4:=t4 i j m (hT2 i j c1 m hm);have:Γ.N b m \/ ∃b1∈bB v.cells,Γ.has b1/\(m=Γ.blk b1\/Γ.N b1 m):=.inl h4.1;exact⟨by simpa[Γ']using this,hNS m this⟩
   refine⟨Γ',⟨rfl,rfl,rfl,rfl,rfl,λ_ _=>rfl⟩,?_⟩;refine Sim.sweep (f:=cR b (q.join (c_ v.cells)) ys) (dead:=λb'=>(bB v.cells).contains b'||st.dead b') (dup:=!aR st.dead (bB v.cells)||st.dup) hs ?_ (nN b _ ys) hgood (λ_ h=>h) (λ_=>rfl) (λk' hk'=>setRow_other w _ _ cs' (λe=>g.baseBox b k' hb hk' e.symm)) ?_ (λh=>?_) ?_
   ·intro u y hleaf hu;have keep:u.anyB (λb'=>b'==b)=false->VR Γ' (w.setRow (Γ.blk b) cs') u y:=λh=>hu.write g hb hS h (λ_ _=>rfl) (λh=>h.1) (λb' hb' m hm=>hN2 b' m hb' hm);cases u with
    |own b' s' q' zs=>
     simp only[cR];split
     ·rename_i hbb;subst hbb;simp only[Option.getD_some];rcases hu.own_inv with⟨_,_,h3⟩|⟨h1,_,h3,h4,_⟩;·exact absurd hb h3
      ·have hzl:zs.length=ys.length:=by rw[hyl,h4.2,hcap.2]
       have:=VR.own (Γ:=Γ') (w:=w.setRow (Γ.blk b') cs') b' s' (q.join (c_ v.cells)) ys hb h3 (by rw[hyl];exact hcap) (by rw[h3,<-hsz];exact hrows) hflat (by rw[h3,<-hsz];exact huq);rw[h1,hzl];exact this
     ·rename_i hbb;exact keep (by simpa[V.anyB]using hbb)
    |view b' s' q' zs=>
     simp only[cR];split;·exact VR.undef_ _
     ·rename_i hbb;exact keep (by simpa[V.anyB]using hbb)
    |eptr b' s' q' zs i' o'=>
     simp only[cR];split;·exact VR.undef_ _
     ·rename_i hbb;exact keep (by simpa[V.anyB]using hbb)
    |vptr b' z o'=>
     simp only[cR];split;·exact VR.undef_ _
     ·rename_i hbb;exact keep (by simpa[V.anyB]using hbb)
    |agg _=>cases hleaf
    |tup _=>cases hleaf
    |clo _ _=>cases hleaf
    |_=>exact keep rfl
   ·intro b' hb' hdd;simp only[Bool.or_eq_false_iff]at hdd;exact fR g hb' (hs.nds b' hb' hdd.2) hdd.1
   ·simp only[Bool.or_eq_false_iff,Bool.not_eq_false']at h;exact⟨hs.du h.2,h.1⟩
   ·rintro⟨hU,hmv⟩ b1 b2 k1 k2 d1 d2 hne m m1 m2;simp only[Bool.or_eq_false_iff]at d1 d2;have aux:∀b2,Γ.has b2->(bB v.cells).contains b2=false->st.dead b2=false->b2≠b->Γ'.N b m->Γ'.N b2 m->False:=λb2 k2 c2 d2 hne m1 m2=>by
     have m2:=hN1 b2 m hne m2;rcases hN0 m m1 with m1|⟨b3,j1,j2,j3⟩;·exact hs.nd hU b b2 hb k2 hdead d2 hne.symm m m1 m2
     ·exact hs.apart hU j2 k2 (bO hmv b3 j1 (no9 b3 j2)) d2 (λe=>by subst e;simp[j1]at c2) j3 (.inr m2)
    by_cases e1:b1=b;·subst e1;exact aux b2 k2 d2.1 d2.2 hne.symm m1 m2
    ·by_cases e2:b2=b;·subst e2;exact aux b1 k1 d1.1 d1.2 hne m2 m1
     ·exact hs.nd hU b1 b2 k1 k2 d1.2 d2.2 hne m (hN1 b1 m e1 m1) (hN1 b2 m e2 m2)
theorem vW {v:V}{x:Value}(f:VR Γ w v x)(e:cI v.cells=true):∀u∈x.cells.toList,u.oneCell'=true:=by
 have b:=f.cellLen (fd e);intro z i;obtain⟨j,h⟩:=List.getElem?_of_mem i;obtain⟨u,g⟩:∃u,v.cells[j]?=some u:=⟨_,List.getElem?_eq_getElem (by rw[b];simpa using(bW h).1)⟩;obtain⟨y,l,k⟩:=f.cells b j u g;have:y=z:=by simpa[l]using h
 subst this;exact pK k (jm e u (aA g))
theorem xE (A:ay P c)(hs:Sim Γ st a w){o:Oper}{t:TypeId}{u x:Operand}{st':St}(z:o.op = .store t u x)(h:mR c st o.dst o.op=some st') :
  ∃w',(execOp a.eval o).run P w = .ok .skip w'/\Sims Γ st' (a.put o.dst undef) w' /\ ∀k,(∀p,a.eval u = .pointer (some p)->p.block≠k)->w'.heap[k]?=w.heap[k]?:=by
 rw[z]at h;simp only[mR]at h;split at h
 ·rename_i i C;split at h
  ·rename_i g;obtain⟨B,g,F⟩:=g;split at h
   ·rename_i b off f;split at h
    ·rename_i r K;split at h;·rename_i cs y;simp only[aK]at h;subst h;exact pv A hs z C B g F f K y
     ·cases h
    ·cases h
   ·rename_i b s q xs k off f;split at h
    ·rename_i j;split at h
     ·rename_i O I;split at h;·rename_i ys m;simp only[aK]at h;subst h;obtain⟨Q,G⟩:=A _ _ C;have n:=hs.ev x;have D:=hs.ev u;rw[f]at D;obtain⟨v,e,E,L,N,J⟩:=hs.putRow D j.1 (B9 hs.good.h9 n) (vV g) j.2 I m;have l:=n.cellLen (fd g);have M:=iz P w (Γ.blk b) (Γ.off b+k*s+off) e t Q v (a.eval x) L G.info (by rw[G.size,<-B,l]) N (vW n g);refine⟨_,?_,by rw[F];exact J,λk H=>setRow_other w _ k _ λe=>H _ E e.symm⟩;simp[execOp,z,E,M]
      ·cases h
     ·cases h
    ·cases h
   ·cases h
  ·cases h
 ·cases h
end
end Go.Am
end
section
namespace Go.Am
open Go Go.RowKit
section
variable {P:Program}{c:Cfg}{Γ Γ':Ctx}{st:St}{a:Act}{w w':World}{den:Nat->List V->Option V}{η:Nat->Option V}{d:Nat}
theorem em {b:Nat}(h:∀u y,VR Γ w u y->u.anyB (λi=>i==b)=false->VR Γ' w' u y):mz Γ Γ' w w' (aq b):=by
 intro u y g k;have e:=h u y k;cases u with
 |own i s' q' zs=>
  simp only[aq];split;·exact VR.undef_ _
  ·rename_i f;exact e (by simpa[V.anyB]using f)
 |view i s' q' zs=>
  simp only[aq];split;·exact VR.undef_ _
  ·rename_i f;exact e (by simpa[V.anyB]using f)
 |eptr i s' q' zs l j=>
  simp only[aq];split;·exact VR.undef_ _
  ·rename_i f;exact e (by simpa[V.anyB]using f)
 |vptr i z j=>
  simp only[aq];split;·exact VR.undef_ _
  ·rename_i f;exact e (by simpa[V.anyB]using f)
 |agg _=>cases g
 |tup _=>cases g
 |clo _ _=>cases g
 |_=>exact e rfl
def uj (Γ:Ctx)(w:World)(esc:List Nat)(b s:Nat)(ys:List V)(cell:Nat->Option Value):Prop:=
 ∃T:Nat->Nat->Nat->Prop,(∀(i:Nat) (x:V) (j:Nat) (u:V) (v:Value),ys[i]?=some x->x.cells[j]?=some u->cell (i*s+j)=some v->Tr w u v (T i j)) /\
 (∀i j f g m,T i j m->T f g m->i=f/\j=g) /\ ∀i j m,T i j m->(Γ.has b/\Γ.N b m) \/ ∃e∈esc,Γ.has e/\Γ.N e m
def SrcTr (Γ:Ctx)(w:World)(esc:List Nat)(s:Nat)(ys:List V)(cell:Nat->Option Value):Prop:=
 ∃T:Nat->Nat->Nat->Prop,(∀(i:Nat) (x:V) (j:Nat) (u:V) (v:Value),ys[i]?=some x->x.cells[j]?=some u->cell (i*s+j)=some v->Tr w u v (T i j)) /\
 (∀i j e f m,T i j m->T e f m->i=e/\j=f) /\ ∀i j m,T i j m -> ∃b∈esc,Γ.has b/\Γ.N b m
theorem SrcTr.app {esc:List Nat}{b s:Nat}{ys:List V}{cell:Nat->Option Value}(h:SrcTr Γ w esc s ys cell):uj Γ w esc b s ys cell:=by obtain⟨T,k,e,g⟩:=h;exact⟨T,k,e,λi j m f=>.inr (g i j m f)⟩
theorem Sim.joinTr (hs:Sim Γ st a w)(K:Γ.U){b s:Nat}{esc:List Nat}{xs ys:List V}{cell1 cell2 cell:Nat->Option Value}(B:Γ.has b)(n:st.dead b=false)(z:aR st.dead esc=true)(H:esc.contains b=false)
  (L:∃T:Nat->Nat->Nat->Prop,(∀(i:Nat) (x:V) (j:Nat) (u:V) (v:Value),xs[i]?=some x->x.cells[j]?=some u->cell1 (i*s+j)=some v->Tr w u v (T i j)) /\
   (∀i j g l m,T i j m->T g l m->i=g/\j=l) /\ ∀i j m,T i j m->Γ.N b m) (O:SrcTr Γ w esc s ys cell2)
  (W:∀i j x,xs[i]?=some x->j<x.cells.length->cell (i*s+j)=cell1 (i*s+j)) (I:∀i j y,ys[i]?=some y->j<y.cells.length->cell ((xs.length+i)*s+j)=cell2 (i*s+j)):uj Γ w esc b s (xs++ys) cell:=by
 obtain⟨C,J,a2,F⟩:=L;obtain⟨A,R,S,E⟩:=O;have f:∀i j g l m,C i j m->A g l m->False:=λi j g l m h k=>by obtain⟨D,q1,G,Q⟩:=E g l m k;exact hs.nd K b D B G n (bO z D q1 (λe=>hs.good.h9 (e▸G))) (λe=>by subst e;simp[q1]at H) m (F i j m h) Q
 refine⟨λi j m=>if i<xs.length then C i j m else A (i-xs.length) j m,λi x j u v o r q=>?_,λi j g l m h k=>?_,λi j m t=>?_⟩
 ·rcases Nat.lt_or_ge i xs.length with p|p;·rw[List.getElem?_append_left p]at o;simp only[p,if_true];rw[W i j x o (bW r).1]at q;exact J i x j u v o r q
  ·rw[List.getElem?_append_right p]at o;simp only[Nat.not_lt.2 p,if_false];have:=I (i-xs.length) j x o (bW r).1;rw[show xs.length+(i-xs.length)=i by omega]at this;rw[this]at q;exact R _ x j u v o r q
 ·by_cases c1:i<xs.length
  ·by_cases c2:g<xs.length;·simp only[c1,c2,if_true]at h k;exact a2 i j g l m h k
   ·simp only[c1,c2,if_true,if_false]at h k;exact(f _ _ _ _ m h k).elim
  ·by_cases c2:g<xs.length;·simp only[c1,c2,if_true,if_false]at h k;exact(f _ _ _ _ m k h).elim
   ·simp only[c1,c2,if_false]at h k;obtain⟨X,M⟩:=S _ _ _ _ m h k;exact⟨by omega,M⟩
 ·by_cases c1:i<xs.length;·simp only[c1,if_true]at t;exact .inl ⟨B,F i j m t⟩
  ·simp only[c1,if_false]at t;exact .inr (E _ j m t)
theorem py (hs:Sim Γ st a w){v:V}{x:Value}{s:Nat}{q:Q}{ys:List V}(h:VR Γ w v x)(D:fE s v=some (q,ys))(E:q.good=true)(m:Γ.U){k o e:Nat}{b:List Value}(f:x = .slice (some ⟨k,o,none⟩) ys.length e)(r:0<ys.length)
  (g:∀(p:Nat) (u:Value),b[p]?=some u->w.cell? ⟨k,o+p,none⟩=some u/\u.oneCell'=true) (l:∀y∈ys,y.cells.length=s):SrcTr Γ w (eJ q v) s ys (λp=>b[p]?):=by obtain⟨F,T,C,A,t3,B⟩:=Fb hs h D E m k o e f r;refine⟨T,λi x j u v f t n=>?_,t3,B⟩;obtain⟨z,z1,z2⟩:=AO l C A f t;have:=(g _ v n).1;rw[<-Nat.add_assoc,z1]at this;injection this with this;rw[<-this];exact z2
theorem Sim.regrow {b s:Nat}{q:Q}{ys:List V}{cs:Array Value}{e:TypeId}{n:Nat}{esc:List Nat}(hs:Sim Γ st a w)(ad:st.dead b=false)(h9:b≠999)
    (hl:ys.length<=n) (hn:n*s<=cs.size) (M:n<=maxLen) (hr:NewRows Γ w Γ.S s q ys cs) (hT:q.good=true->Γ.U->aR st.dead esc=true->esc.contains b=false->uj Γ w esc b s ys (λp=>cs[p]?)) :
    Sims Γ ((({ st.sweep (aq b)with t:=(st.sweep (aq b)).t.set d (.own b s q ys) }:St).kill esc).mark (!aR st.dead esc||esc.contains b)) (a.put (some d) (.slice (some ⟨w.heap.size,0,none⟩) ys.length n)) (w.alloc (.cells cs e)):=by
  let Γ':Ctx:={ Γ with has:=λl=>Γ.has l\/l=b,blk:=λl=>if l=b then w.heap.size else Γ.blk l,
                       off:=λl=>if l=b then 0 else Γ.off l,cap:=λl=>if l=b then n else Γ.cap l,sz:=λl=>if l=b then s else Γ.sz l,ln:=λl=>if l=b then ys.length else Γ.ln l,Z:=λk=>Γ.Z k\/k=w.heap.size,
                       N:=λl m=>if l=b then(Γ.has b/\Γ.N b m) \/ ∃D∈esc,Γ.has D/\Γ.N D m else Γ.N l m,U:=Γ.U/\aR st.dead esc=true/\esc.contains b=false }
  have g:=hs.good;have X:∀m,Γ'.N b m->(Γ.has b/\Γ.N b m) \/ ∃D∈esc,Γ.has D/\Γ.N D m:=λm h=>by simpa[Γ']using h
  have O:∀l m,l≠b->Γ'.N l m->Γ.N l m:=λl m A h=>by simpa[Γ',A]using h
  have an:∀l m,l≠b->Γ.N l m->Γ'.N l m:=λl m A h=>by simpa[Γ',A]using h
  have ai:∀m,((Γ.has b/\Γ.N b m) \/ ∃D∈esc,Γ.has D/\Γ.N D m)->Γ.S m/\Γ.Z m:=λm h=>by
    rcases h with h|⟨D,_,H,h3⟩;·exact g.ns b h.1 m h.2
    ·exact g.ns D H m h3
  have ab:=λm h=>(ai m h).1;have I:=size_alloc w (.cells cs e);have G:∀k,k<w.heap.size -> ∀o,(w.alloc (.cells cs e)).cell? ⟨k,o,none⟩=w.cell? ⟨k,o,none⟩:=λk B o=>cell?_of_heap (aE w _ B) o;have e1:Γ'.blk b=w.heap.size:=if_pos rfl;have e2:Γ'.off b=0:=if_pos rfl;have e3:Γ'.cap b=n:=if_pos rfl;have e4:Γ'.sz b=s:=if_pos rfl;have aa:Good Γ' (w.alloc (.cells cs e)):=by
    refine⟨g.os,g.tape,g.output,Nat.le_trans g.size (by rw[I];omega),λk B hF=>?_,g.new,λk B=>?_,λl A=>?_,λD E A z he=>?_,λk B=>?_,g.boxInj,λl k A B=>?_,g.sr,g.gl,λl A=>?bz,λk B=>?zf,λl A m M=>?ns,λh=>?h9⟩
    case h9=>exact h.elim g.h9 (λh=>h9 h.symm)
    case ns=>
      by_cases K:l=b;·subst K;exact⟨ab m (X m M),.inl (ai m (X m M)).2⟩
      ·have:=g.ns l (A.resolve_right K) m (O l m K M);exact⟨this.1,.inl this.2⟩
    case bz=>
      show Γ.Z (if l=b then _ else _)\/(if l=b then _ else _)=_;by_cases K:l=b;·rw[if_pos K];exact .inr rfl
      ·rw[if_neg K];exact .inl (g.bz l (A.resolve_right K))
    case zf=>
      rcases B with B|B;·obtain⟨z1,z2,L,e',h⟩:=g.zf k B;exact⟨z1,by rw[I];omega,L,e',(aE w _ z2).trans h⟩
      ·subst B;exact⟨.inl (g.new _ g.size),by rw[I];omega,cs,e,bf w _⟩
    ·exact(aE w _ (Nat.lt_of_lt_of_le B g.size)).trans (g.old k B hF)
    ·have:=g.slt k B;rw[I];omega
    · show Γ.F (if l=b then _ else _)/\(if l=b then _ else _)<_/\(if l=b then _ else _)<=_ /\ ∃L e',(w.alloc (.cells cs e)).heap[if l=b then w.heap.size else Γ.blk l]?=some (.cells L e' (0,0))/\(if l=b then 0 else Γ.off l)+(if l=b then n else Γ.cap l)*(if l=b then s else Γ.sz l)<=L.size;by_cases K:l=b;·simp only[if_pos K];exact⟨g.new _ g.size,by rw[I];omega,M,cs,e,bf w _,by omega⟩
      · rcases A with A|A;·obtain⟨C,H,h3,L,e',h4,h5⟩:=g.base l A;simp only[if_neg K];exact⟨C,by rw[I];omega,h3,L,e',(aE w _ H).trans h4,h5⟩
        ·exact absurd A K
    · change (if D=b then w.heap.size else Γ.blk D)=(if E=b then w.heap.size else Γ.blk E)at he;by_cases C:D=b
      · by_cases H:E=b;·rw[C,H]
        · rcases z with z|z;·rw[if_pos C,if_neg H]at he;have:=(g.base E z).2.1;omega
          ·exact absurd z H
      · rcases A with A|A
        · by_cases H:E=b;·rw[if_neg C,if_pos H]at he;have:=(g.base D A).2.1;omega
          · rcases z with z|z;·rw[if_neg C,if_neg H]at he;exact g.baseInj D E A z he
            ·exact absurd z H
        ·exact absurd A C
    ·obtain⟨C,H,h3⟩:=g.box k B;exact⟨C,H,Nat.lt_of_lt_of_le h3 (by rw[I];omega)⟩
    · show(if l=b then w.heap.size else Γ.blk l)≠Γ.box k;by_cases C:l=b;·rw[if_pos C];have:=(g.box k B).2.2;omega
      · rcases A with A|A;·rw[if_neg C];exact g.baseBox l k A B
        ·exact absurd A C
  have hv:VR Γ' (w.alloc (.cells cs e)) (.own b s q ys) (.slice (some ⟨w.heap.size,0,none⟩) ys.length n):=by
    obtain⟨r1,r2⟩:=hr;have:=VR.own (Γ:=Γ') (w:=w.alloc (.cells cs e)) b s q ys (.inr rfl) e4.symm (by rw[e3];exact⟨hl,(if_pos rfl).symm⟩) ?_ (λal x hx u R=>?_) ?uq;·rwa[e1,e2,e3]at this
    case uq=>
      rintro ap ⟨hU,ac,aj⟩;obtain⟨T,t1,t2,t3⟩:=hT (by rw[ap];rfl) hU ac aj;rw[e1,e2];refine nU r1 T (λi x j u hx R=>?_) t2 (λi j m M=>⟨?_,ab m (t3 i j m M)⟩);·obtain⟨v,C,_⟩:=r2 i x j u hx R;refine⟨v,?_,(t1 i x j u v hx R C).mono (λk B=>G k (g.slt k (ab k (t3 i j k B))))⟩;rw[fN (bf w (.cells cs e)),Nat.zero_add];exact C
      · show if b=b then _ else _
        rw[if_pos rfl];exact t3 i j m M
    ·rw[e1,e2];refine uW r1 (λi x j u hx R=>?_);obtain⟨v,C,H,h3,h4,h5⟩:=r2 i x j u hx R;refine⟨v,?_,H,mO (S':=Γ.S) (q:=q) h3 h4 (λ_ h=>h) (λ_ h=>.inl h) (λh=>h) (λk B=>G k (g.slt k B))⟩;rw[fN (bf w (.cells cs e)),Nat.zero_add];exact C
    ·obtain⟨i,hi⟩:=List.getElem?_of_mem hx;obtain⟨j,hj⟩:=List.getElem?_of_mem R;obtain⟨v,_,_,_,_,h5⟩:=r2 i x j u hi hj;exact h5 al
  have af:Sim Γ' { st.sweep (aq b)with dead:=λl=>esc.contains l||st.dead l,dup:=(!aR st.dead esc||esc.contains b)||st.dup } a (w.alloc (.cells cs e)):=by
    refine Sim.sweep (f:=aq b) (dead:=λl=>esc.contains l||st.dead l) (dup:=(!aR st.dead esc||esc.contains b)||st.dup) hs (em (λu y R hp=>?_)) (dD b) aa (λ_ h=>h) (λ_=>rfl) (λk B=>aE w _ (g.box k B).2.2) (λl A ag=>?_) (λh=>?_) ?_
    · refine VR.mono (Γ:=Γ) (Γ':=Γ') (w:=w) (w':=w.alloc (.cells cs e)) (p:=λl=>l==b) (r:=λ_=>false) (λh=>h.1) (λ_ h=>h) (λ_ h=>.inl h) (λk B=>G k (g.slt k B)) (λl z=>?_) (λ_ _=>⟨λh=>h,rfl⟩) R hp (cS _);have z:l≠b:=by simpa using z
      exact⟨⟨λh=>h.resolve_right z,λh=>.inl h⟩,λhh=>⟨if_neg z,if_neg z,if_neg z,if_neg z,if_neg z,λm M=>an l m z M,G _ (g.base l hh).2.1⟩⟩
    · show ¬Γ.S (if l=b then w.heap.size else Γ.blk l);by_cases C:l=b;·rw[if_pos C];intro h;have:=g.slt _ h;omega
      ·rw[if_neg C];simp only[Bool.or_eq_false_iff]at ag;exact hs.nds l (A.resolve_right C) ag.2
    ·simp only[Bool.or_eq_false_iff,Bool.not_eq_false']at h;exact⟨hs.du h.2,h.1.1,h.1.2⟩
    · rintro⟨hU,ac,aj⟩ D E k1 Y d1 d2 J m m1 W;simp only[Bool.or_eq_false_iff]at d1 d2;have ae:∀E,Γ'.has E->esc.contains E=false->st.dead E=false->E≠b->Γ'.N b m->Γ'.N E m->False:=λE Y c2 d2 J m1 W=>by
        have W:=O E m J W;have Y:=Y.resolve_right J;rcases X m m1 with⟨K,m1⟩|⟨b3,j1,j2,j3⟩;·exact hs.nd hU b E K Y ad d2 J.symm m m1 W
        ·exact hs.nd hU b3 E j2 Y (bO ac b3 j1 (λe=>g.h9 (e▸j2))) d2 (λe=>by subst e;simp[j1]at c2) m j3 W
      by_cases e1:D=b;·subst e1;exact ae E Y d2.1 d2.2 J.symm m1 W
      · by_cases e2:E=b;·subst e2;exact ae D k1 d1.1 d1.2 J W m1
        ·exact hs.nd hU D E (k1.resolve_right e1) (Y.resolve_right e2) d1.2 d2.2 J m (O D m e1 m1) (O E m e2 W)
  exact⟨Γ',⟨rfl,rfl,rfl,rfl,rfl,λ_ _=>rfl⟩,af.put hv⟩
theorem Sim.roomy {b s:Nat}{q q':Q}{xs ys:List V}{cur:Array Value}{e:TypeId}{news:List Value}{esc:List Nat}(hs:Sim Γ st a w)(hb:Γ.has b)(hdead:st.dead b=false)(hsz:s=Γ.sz b)
  (hrow:Rows w (Γ.Sq q) s xs (Γ.blk b) (Γ.off b)) (hq:flatOk q xs) (hcur:w.heap[Γ.blk b]?=some (.cells cur e (0,0))) (hn1:news.length=ys.length*s) (hcap:xs.length+ys.length<=Γ.cap b)
  (hn2:∀(p:Nat) (u:Value),news[p]?=some u->u.oneCell'=true) (hn3:∀y∈ys,y.cells.length=s)
  (hn4:∀(i:Nat) (y:V) (j:Nat) (u:V),ys[i]?=some y->y.cells[j]?=some u -> ∃z,news[i*s+j]?=some z/\z.oneCell'=true/\Rd w Γ.S u z/\(q'.good=true->Rd w (λk=>Γ.S k/\Γ.Z k) u z)/\(q' = .flat->gf u))
  (hu:Γ.Uq w q b s xs (Γ.blk b) (Γ.off b)) (hT:q'.good=true->Γ.U->SrcTr Γ w esc s ys (λp=>news[p]?)) :
  Γ.off b+xs.length*s+news.length<=cur.size /\
  Sims Γ ((({ st.sweep (aq b)with t:=(st.sweep (aq b)).t.set d (.own b s (q.join q') (xs++ys)) }:St).kill esc).mark (!aR st.dead esc||esc.contains b)) (a.put (some d) (.slice (some ⟨Γ.blk b,Γ.off b,none⟩) (xs.length+ys.length) (Γ.cap b)))
   (w.setRow (Γ.blk b) (cur.toList.take (Γ.off b+xs.length*s)++news++cur.toList.drop (Γ.off b+xs.length*s+news.length)).toArray):=by
 have g:=hs.good;have hS:=hs.nds b hb hdead;obtain⟨gF,glt,gm,cur',e',hcur',hfit⟩:=g.base b hb;rw[hcur]at hcur';simp only[aK,Obj.cells.injEq]at hcur';obtain⟨rfl,rfl,_⟩:=hcur';have hmul:=wU (s:=s) hcap;rw[Nat.add_mul]at hmul;have hfit1:Γ.off b+xs.length*s+news.length<=cur.size:=by rw[<-hsz]at hfit;omega
 refine⟨hfit1,?_⟩;have hfit2:Γ.off b+xs.length*s+news.length<=cur.toList.length:=by simpa using hfit1
 have hget:=λj=>uY cur.toList news (Γ.off b+xs.length*s) j hfit2;have hsl:=uZ cur.toList news (Γ.off b+xs.length*s) hfit2;simp only[Array.length_toList]at hsl;let Γ':Ctx:={ Γ with S:=cB Γ [],ln:=λb'=>if b'=b then xs.length+ys.length else Γ.ln b',N:=λb' m=>if b'=b then Γ.N b m \/ ∃b1∈esc,Γ.has b1/\Γ.N b1 m else Γ.N b' m,U:=Γ.U/\aR st.dead esc=true/\esc.contains b=false };have hN0:∀m,Γ'.N b m->Γ.N b m \/ ∃b1∈esc,Γ.has b1/\Γ.N b1 m:=λm h=>by simpa[Γ']using h
 have hN1:∀b' m,b'≠b->Γ'.N b' m->Γ.N b' m:=λb' m hb h=>by simpa[Γ',hb]using h
 have hN2:∀b' m,b'≠b->Γ.N b' m->Γ'.N b' m:=λb' m hb h=>by simpa[Γ',hb]using h
 have hNZ:∀m,(Γ.N b m \/ ∃b1∈esc,Γ.has b1/\Γ.N b1 m)->Γ.S m/\Γ.Z m:=λm h=>by
  rcases h with h|⟨b1,_,h2,h3⟩;·exact g.ns b hb m h
  ·exact g.ns b1 h2 m h3
 have hNS:=λm h=>(hNZ m h).1;let cs':=(cur.toList.take (Γ.off b+xs.length*s)++news++cur.toList.drop (Γ.off b+xs.length*s+news.length)).toArray;have hgood:Good Γ' (w.setRow (Γ.blk b) cs'):=by
  have g':Good { Γ with S:=cB Γ [],N:=Γ'.N,U:=Γ'.U } (w.setRow (Γ.blk b) cs'):=g.write hb hcur hsl (λb' hb' m hm=>by
   by_cases hbb:b'=b
   ·subst hbb
    exact⟨.inl (hNS m (hN0 m hm)),(hNZ m (hN0 m hm)).2⟩
   ·have:=g.ns b' hb' m (hN1 b' m hbb hm)
    exact⟨.inl this.1,this.2⟩)
  exact⟨g'.os,g'.tape,g'.output,g'.size,g'.old,g'.new,g'.slt,g'.base,g'.baseInj,g'.box,g'.boxInj,g'.baseBox,g'.sr,g'.gl,g'.bz,g'.zf,g'.ns,g'.h9⟩
 have hSn:¬cB Γ [] (Γ.blk b):=fR g hb hS rfl;have hsame:∀k',Γ.S k' -> ∀o',(w.setRow (Γ.blk b) cs').cell? ⟨k',o',none⟩=w.cell? ⟨k',o',none⟩:=λk' hk'=>cell?_of_heap (setRow_other w _ k' cs' (λe=>hS (e▸hk')));have hheap:(w.setRow (Γ.blk b) cs').heap[Γ.blk b]?=some (.cells cs' e (0,0)):=setRow_heap w _ cur cs' e _ hcur;have hcell:∀j,(w.setRow (Γ.blk b) cs').cell? ⟨Γ.blk b,j,none⟩=if Γ.off b+xs.length*s<=j/\j<Γ.off b+xs.length*s+news.length then news[j-(Γ.off b+xs.length*s)]? else cur[j]?:=by intro j;rw[fN hheap];show(List.toArray _)[j]?=_;rw[List.getElem?_toArray,hget];simp
 have hrows:Rows (w.setRow (Γ.blk b) cs') (Γ'.Sq (q.join q')) s (xs++ys) (Γ.blk b) (Γ.off b):=by
  refine uW (λr hr=>?_) (λi r j u hr hu=>?_)
  ·rcases List.mem_append.1 hr with hr|hr;·exact hrow.1 r hr
   ·exact hn3 r hr
  ·rcases Nat.lt_or_ge i xs.length with hi|hi
   ·rw[List.getElem?_append_left hi]at hr;obtain⟨_,hj,z,e1,e2,e3⟩:=hrow.at_ hr hu;have:=kF hi hj;refine⟨z,?_,e2,?_⟩;·rw[hcell,if_neg (by omega),<-fN hcur];exact e1
    ·obtain⟨f1,f2⟩:=DQ e3;exact mO (S':=Γ.S) (q:=q) f1 f2 (λ_ h=>.inl h) (λ_ h=>h) (λh=>(ar h).1) hsame
   ·rw[List.getElem?_append_right hi]at hr;obtain⟨z,z1,z2,z3,z4,z5⟩:=hn4 _ _ _ _ hr hu;have hlt:=(bW z1).1;have hidx:i*s=xs.length*s+(i-xs.length)*s:=by rw[<-Nat.add_mul];congr 1;omega
    refine⟨z,?_,z2,mO (S':=Γ.S) (q:=q') z3 z4 (λ_ h=>.inl h) (λ_ h=>h) (λh=>(ar h).2) hsame⟩;rw[hcell,if_pos (by omega),<-z1];congr 1;omega
 have hflat:flatOk (q.join q') (xs++ys):=by
  intro hqf r hr u hu;obtain⟨j1,j2⟩:=cb hqf;rcases List.mem_append.1 hr with hr|hr;·exact hq j1 r hr u hu
  ·obtain⟨i,hi⟩:=List.getElem?_of_mem hr;obtain⟨j,hj⟩:=List.getElem?_of_mem hu;obtain⟨z,_,_,_,_,z5⟩:=hn4 i r j u hi hj;exact z5 j2
 have huq:Γ'.Uq (w.setRow (Γ.blk b) cs') (q.join q') b s (xs++ys) (Γ.blk b) (Γ.off b):=by
  rintro hqc ⟨hU,hmv,hcb⟩;have hgd:(q.join q').good=true:=by rw[hqc];rfl
  obtain⟨gg,T1,t1,t2,t3,t4⟩:=sT hu hrow hq (ar hgd).1 hU
  obtain⟨T,j1,j2,j3⟩:=hs.joinTr hU (xs:=xs) (ys:=ys) (cell1:=λp=>w.cell? ⟨Γ.blk b,Γ.off b+p,none⟩) (cell2:=λp=>news[p]?) (cell:=λp=>(w.setRow (Γ.blk b) cs').cell? ⟨Γ.blk b,Γ.off b+p,none⟩) hb hdead hmv hcb
   ⟨T1,λi x j u v hx hu hv=>by
    obtain⟨z,z1,z2⟩:=AO hrow.1 t1 t2 hx hu
    rw[Nat.add_assoc]at z1
    change w.cell? ⟨Γ.blk b,Γ.off b+(i*s+j),none⟩=some v at hv
    rw[z1]at hv
    injection hv with hv
    rw[<-hv]
    exact z2,t3,λi j m hm=>(t4 i j m hm).1⟩ (hT (ar hgd).2 hU) (λi j x hx hj=>by
    have hi:=(bW hx).1
    rw[hrow.1 x (aA hx)]at hj
    have:=kF hi hj
    show(w.setRow (Γ.blk b) cs').cell? ⟨Γ.blk b,Γ.off b+(i*s+j),none⟩=w.cell? ⟨Γ.blk b,Γ.off b+(i*s+j),none⟩
    rw[hcell,if_neg (by omega),<-fN hcur]) (λi j y hy hj=>by
    have hi:=(bW hy).1
    rw[hn3 y (aA hy)]at hj
    have:=kF hi hj
    show(w.setRow (Γ.blk b) cs').cell? ⟨Γ.blk b,Γ.off b+((xs.length+i)*s+j),none⟩=news[i*s+j]?
    rw[Nat.add_mul]
    rw[hcell,if_pos (by omega)]
    congr 1
    omega)
  have hin:∀i j m,T i j m->Γ.N b m \/ ∃b1∈esc,Γ.has b1/\Γ.N b1 m:=λi j m hm=>(j3 i j m hm).imp (λh=>h.2) (λh=>h);refine nU hrows.1 T (λi x j u hx hu=>?_) j2 (λi j m hm=>⟨?_,.inl (hNS m (hin i j m hm))⟩);·obtain⟨_,_,z,z1,_,_⟩:=hrows.at_ hx hu;refine⟨z,z1,(j1 i x j u z hx hu (by rw[Nat.add_assoc]at z1;exact z1)).mono (λk' hk'=>hsame k' (hNS k' (hin i j k' hk')))⟩
  ·show if b=b then _ else _
   rw[if_pos rfl];exact hin i j m hm
 have hv:=VR.own (Γ:=Γ') (w:=w.setRow (Γ.blk b) cs') b s (q.join q') (xs++ys) hb hsz (by rw[List.length_append];exact⟨hcap,(if_pos rfl).symm⟩) hrows hflat huq;rw[List.length_append]at hv;have hsim:Sim Γ' { st.sweep (aq b)with dead:=λb'=>esc.contains b'||st.dead b',dup:=(!aR st.dead esc||esc.contains b)||st.dup } a (w.setRow (Γ.blk b) cs'):=by
  refine Sim.sweep (f:=aq b) (dead:=λb'=>esc.contains b'||st.dead b') (dup:=(!aR st.dead esc||esc.contains b)||st.dup) hs (em (λu y hu hp=>hu.write g hb hS hp (λb' hb'=>if_neg hb') (λh=>h.1) (λb' hb' m hm=>hN2 b' m hb' hm))) (dD b) hgood (λ_ h=>h) (λ_=>rfl) (λk' hk'=>setRow_other w _ _ cs' (λe=>g.baseBox b k' hb hk' e.symm)) (λb' hb' hdd=>?_) (λh=>?_) ?_;·simp only[Bool.or_eq_false_iff]at hdd;exact fR g hb' (hs.nds b' hb' hdd.2) rfl
  ·simp only[Bool.or_eq_false_iff,Bool.not_eq_false']at h;exact⟨hs.du h.2,h.1.1,h.1.2⟩
  ·rintro⟨hU,hmv,hcb⟩ b1 b2 k1 k2 d1 d2 hne m m1 m2;simp only[Bool.or_eq_false_iff]at d1 d2;have aux:∀b2,Γ.has b2->esc.contains b2=false->st.dead b2=false->b2≠b->Γ'.N b m->Γ'.N b2 m->False:=λb2 k2 c2 d2 hne m1 m2=>by
    have m2:=hN1 b2 m hne m2;rcases hN0 m m1 with m1|⟨b3,j1,j2,j3⟩;·exact hs.nd hU b b2 hb k2 hdead d2 hne.symm m m1 m2
    ·exact hs.nd hU b3 b2 j2 k2 (bO hmv b3 j1 (λe=>g.h9 (e▸j2))) d2 (λe=>by subst e;simp[j1]at c2) m j3 m2
   by_cases e1:b1=b;·subst e1;exact aux b2 k2 d2.1 d2.2 hne.symm m1 m2
   ·by_cases e2:b2=b;·subst e2;exact aux b1 k1 d1.1 d1.2 hne m2 m1
    ·exact hs.nd hU b1 b2 k1 k2 d1.2 d2.2 hne m (hN1 b1 m e1 m1) (hN1 b2 m e2 m2)
 exact⟨Γ',⟨rfl,rfl,rfl,rfl,rfl,λ_ _=>rfl⟩,hsim.put hv⟩
theorem Sim.same {b s:Nat}{q:Q}{xs:List V}{x:Value}{esc:List Nat}(hs:Sim Γ st a w)(n:VR Γ w (.own b s q xs) x) :
  Sims Γ ((({ st.sweep (aq b)with t:=(st.sweep (aq b)).t.set d (.own b s q xs) }:St).kill esc).mark (!aR st.dead esc||esc.contains b)) (a.put (some d) x) w:=by
 have i:Sim Γ { st.sweep (aq b)with dead:=λe=>esc.contains e||st.dead e,dup:=(!aR st.dead esc||esc.contains b)||st.dup } a w:=
  Sim.sweep (f:=aq b) (dead:=λe=>esc.contains e||st.dead e) (dup:=(!aR st.dead esc||esc.contains b)||st.dup) hs (em (λu y o _=>o)) (dD b) hs.good (λ_ h=>h) (λ_=>rfl) (λB v=>rfl) (λe j g=>by
   simp only[Bool.or_eq_false_iff]at g
   exact hs.nds e j g.2) (λh=>by
   simp only[Bool.or_eq_false_iff]at h
   exact hs.du h.2) (λm z A p r l k=>by
   simp only[Bool.or_eq_false_iff]at l k
   exact hs.nd m z A p r l.2 k.2)
 exact⟨Γ,⟨rfl,rfl,rfl,rfl,rfl,λ_ _=>rfl⟩,i.put n⟩
theorem RT {b s:Nat}{q q':Q}{xs:List V}{x:Value}(m:VR Γ w (.own b s q xs) x)(g:q'=q.join q \/ ∃p,q'=q.join p):VR Γ w (.own b s q' xs) x:=by
  have l:q'.good=true->q.good=true:=by
    rcases g with rfl|⟨p,rfl⟩;·exact λh=>(ar h).1
    ·exact λh=>(ar h).1
  have t:q' = .flat->q = .flat:=by
    rcases g with rfl|⟨p,rfl⟩;·exact λh=>(cb h).1
    ·exact λh=>(cb h).1
  have u:=m.own_uq;rcases m.own_inv with⟨rfl,rfl,j⟩|⟨rfl,v,y,j,o,n⟩;·exact .ownNil _ _ _ j
  · refine .own _ _ _ _ v y j (o.mono (λk i=>?_) (λ_ _ _=>rfl) (λ_ _ _=>rfl)) (λe=>n (t e)) (λg r=>sT u o n (l (by rw[g];rfl)) r);cases f:q' with
    |any=>exact jh i
    |flat=>have:=l (by rw[f];rfl)
           cases q<;>first|exact i|cases this
    |clean=>have:=l (by rw[f];rfl)
            cases q<;>first|exact i|cases this
theorem oT (hA:ay P c)(hs:Sim Γ st a w){o:Oper}{args:Array Operand}{ts:Array TypeId}{st':St}(ho:o.op = .call ⟨.builtin .append,args,ts⟩)(h:mR c st o.dst o.op=some st') :
  ∃x w',(execOp a.eval o).run P w = .ok (.value x) w'/\Sims Γ st' (a.put o.dst x) w' /\ ∀k,k<w.heap.size->(∀x p l n,args[0]?=some x->a.eval x = .slice (some p) l n->p.block≠k)->w'.heap[k]?=w.heap[k]?:=by
 rw[ho]at h;simp only[mR]at h;split at h
 ·rename_i x y t t' d hx ht2 hd;obtain rfl:=BW hx;obtain rfl:=BW ht2;split at h
  ·rename_i e sz by_ z0 cm nz_ qz_ ht;split at h
   ·rename_i i b s q xs hi hxv;split at h
    ·rename_i q' ys hsrc;split at h
     ·rename_i hc;obtain⟨rfl,rfl,hne,hdead,hb1,hb2,hb9⟩:=hc;simp only[aK]at h;subst h;obtain⟨tt,at_⟩:=hA _ _ ht;obtain⟨ti,ai⟩:=hA _ _ hi;obtain⟨z,hz,hz1,hz2,hz3,hz4⟩:=ai.zero;have hzs:z.cells.size=i.size:=by rw[<-ai.zsz,<-hz2];simp
      have hxr:=hs.ev x;rw[hxv]at hxr;have hmax:xs.length+ys.length<=maxLen:=by unfold maxLen;omega
      rcases yy hs.good (hs.ev y) hsrc with⟨rfl,ad,cap,ey⟩|⟨k,o',cap,news,ey,hl,hn1,hn2,hn3,hn4⟩
      ·have hfc:(Builtin.firstCells ti.size 0 (.slice ad 0 cap)).run P w = .ok #[] w:=by
        cases ad with
        |none=>exact run_firstCells_none _ _ _ _ _
        |some b=>exact run_firstCells_some w ti.size 0 b 0 cap [] (by simp) (λj v h=>by simp at h)
       have hsim:=hs.same (d:=d) (esc:=eJ q' (ev st.t y)) (RT hxr (.inr ⟨q',rfl⟩));rw[List.append_nil];refine⟨_,w,?_,by rw[hd];exact hsim,λ_ _ _=>rfl⟩;rcases hxr.own_inv with⟨ex,rfl,_⟩|⟨ex,h1,h2,h3,h4,h5⟩;·simp[execOp,ho,ex,ey,resolve,invoke,builtin,Builtin.append_,run_underlying (at_.slice e rfl),sizeOf,typeInfo,ai.info,hz,zeroValue,Builtin.lenOf,hfc]
       ·simp[execOp,ho,ex,ey,resolve,invoke,builtin,Builtin.append_,run_underlying (at_.slice e rfl),sizeOf,typeInfo,ai.info,hz,zeroValue,Builtin.lenOf,hfc,h3.1,storeCells]
      ·have hadd:∀k o' n,(⟨k,o',none⟩:Addr).add n=⟨k,o'+n,none⟩:=by intro k o' n;simp[Addr.add]
       have hsl:∀(j:Nat) (v:Value),news[j]?=some v->w.cell? ((⟨k,o',none⟩:Addr).add j)=some v:=λj v hv=>by rw[hadd];exact(hn2 j v hv).1
       rcases hxr.own_inv with⟨ex,rfl,hnb⟩|⟨ex,h1,h2,h3,h4,h5⟩
       ·have hr:=run_append_nil (P:=P) w t' o.type e ti z (at_.slice e rfl) ai.info hz ⟨k,o',none⟩ ys.length cap news (by rw[ai.size];exact hn1) hsl hl (by omega) (by rw[ai.bytes];simp only[List.length_nil,Nat.zero_add]at hb1;omega);have hge:=grownCap_ge w ys.length 0 e;have hle:=grownCap_le_maxLen w ys.length 0 e (by unfold maxLen;omega);have hsz:(news.toArray++Builtin.zeroCells z.cells (grownCap w ys.length 0 e-ys.length)).size=grownCap w ys.length 0 e*i.size:=by rw[Array.size_append,size_zeroCells,List.size_toArray,hn1,<-hzs,<-Nat.add_mul];congr 1;omega
        have hrows:NewRows Γ w.drew Γ.S i.size (q.join q') ys (news.toArray++Builtin.zeroCells z.cells (grownCap w ys.length 0 e-ys.length)):=by refine⟨hn3,λii x jj u hx hu=>?_⟩;obtain⟨zz,h1,h2,h3,h4,h5⟩:=hn4 ii x jj u hx hu;have hlt:=(bW h1).1;have hrm:∀{S1:Nat->Prop} {u:V} {v:Value},Rd w S1 u v->Rd w.drew S1 u v:=λh=>Rd.mono (w:=w) (w':=w.drew) (λ_ h=>h) (λ_ _ _=>rfl) h;refine⟨zz,?_,h2,hrm h3,λhg=>hrm (h4 (ar hg).2),λhf=>h5 (cb hf).2⟩;rw[Array.getElem?_append_left (by simpa using hlt)];simpa using h1
        have htr:(q.join q').good=true->Γ.U->aR st.dead (eJ q' (ev st.t y))=true->(eJ q' (ev st.t y)).contains b=false->uj Γ w.drew (eJ q' (ev st.t y)) b i.size ys (λp=>(news.toArray++Builtin.zeroCells z.cells (grownCap w ys.length 0 e-ys.length))[p]?):=λhq hU _ _=>by obtain⟨T,t1,t2,t3⟩:=py hs (hs.ev y) hsrc (ar hq).2 hU ey hl hn2 hn3;refine⟨T,λii x jj u v hx hu hv=>?_,t2,λi j m hm=>.inr (t3 i j m hm)⟩;obtain⟨zz,h1,_⟩:=hn4 ii x jj u hx hu;have hlt:=(bW h1).1;simp only at hv;rw[Array.getElem?_append_left (by simpa using hlt),List.getElem?_toArray]at hv;exact(t1 ii x jj u v hx hu hv).mono (λ_ _ _=>rfl)
        have hsim:=Sim.regrow (d:=d) (b:=b) (e:=e) (n:=grownCap w ys.length 0 e) (esc:=eJ q' (ev st.t y)) hs.drew hdead hb9 hge (Nat.le_of_eq hsz.symm) hle hrows htr;refine⟨_,_,?_,by rw[hd];exact hsim,λk hk _=>aE w.drew _ hk⟩;simp[execOp,ho,ex,ey,resolve,invoke,builtin,hr]
       ·obtain⟨gF,glt,gm,cur,e0,hcur,hfit⟩:=hs.good.base b h1;by_cases hroom:xs.length+ys.length<=Γ.cap b;·obtain⟨r1,r2⟩:=Sim.roomy (d:=d) (q':=q') (esc:=eJ q' (ev st.t y)) hs h1 hdead h2 h4 h5 hcur hn1 hroom (λp u hu=>(hn2 p u hu).2) hn3 hn4 hxr.own_uq (λhg hU=>py hs (hs.ev y) hsrc hg hU ey hl hn2 hn3);refine⟨_,_,?_,by rw[hd];exact r2,λk _ hk=>setRow_other w _ k _ λe=>hk _ _ _ _ rfl ex e.symm⟩;have hf:=run_firstCells_some (P:=P) w ti.size ys.length ⟨k,o',none⟩ ys.length cap news (by rw[ai.size];exact hn1) hsl;have hst:=run_storeCells_at P (Γ.blk b) (Γ.off b+xs.length*i.size) e0 news 0 cur w hcur (by simpa using r1) (λv hv=>by obtain⟨j,hj⟩:=List.getElem?_of_mem hv;exact(hn2 j v hj).2);simp only[Nat.add_zero]at hst;rw[ai.size]at hf;simp[execOp,ho,ex,ey,resolve,invoke,builtin,Builtin.append_,run_underlying (at_.slice e rfl),sizeOf,typeInfo,ai.info,Builtin.lenOf,hroom,hf,hadd,ai.size,hst]
        ·have hr1:=h4.1;obtain⟨gg,hg1,hg2⟩:=h4.2;have hol:(dy xs.length i.size gg).length=xs.length*ti.size:=by rw[bh,ai.size]
         have holds:∀(j:Nat) (v:Value),(dy xs.length i.size gg)[j]?=some v->w.cell? ((⟨Γ.blk b,Γ.off b,none⟩:Addr).add j)=some v:=by intro j v hv;obtain⟨f1,f2,rfl,f4⟩:=nE hv;have:=(hg1 _ _ f1 f2).1;rw[Nat.add_assoc,<-f4]at this;rw[hadd];exact this
         have hr:=run_append_grow (P:=P) w t' o.type e ti z (at_.slice e rfl) ai.info hz ⟨Γ.blk b,Γ.off b,none⟩ xs.length (Γ.cap b) _ hol holds ⟨k,o',none⟩ ys.length cap news (by rw[ai.size];exact hn1) hsl (by omega) (by omega)
          (growslice_fits (by omega) (by rw[ai.bytes];exact hb1))
         have hge:=grownCap_ge w (xs.length+ys.length) (Γ.cap b) e;have hle:=grownCap_le_maxLen w (xs.length+ys.length) (Γ.cap b) e hmax;have hsz:((dy xs.length i.size gg).toArray++news.toArray++Builtin.zeroCells z.cells (grownCap w (xs.length+ys.length) (Γ.cap b) e-(xs.length+ys.length))).size=grownCap w (xs.length+ys.length) (Γ.cap b) e*i.size:=by rw[Array.size_append,Array.size_append,size_zeroCells,List.size_toArray,List.size_toArray,hn1,bh,hzs,<-Nat.add_mul,<-Nat.add_mul];congr 1;omega
         have hrows:NewRows Γ w.drew Γ.S i.size (q.join q') (xs++ys) ((dy xs.length i.size gg).toArray++news.toArray++Builtin.zeroCells z.cells (grownCap w (xs.length+ys.length) (Γ.cap b) e-(xs.length+ys.length))):=by
          have hrm:∀{S1:Nat->Prop} {u:V} {v:Value},Rd w S1 u v->Rd w.drew S1 u v:=λh=>Rd.mono (w:=w) (w':=w.drew) (λ_ h=>h) (λ_ _ _=>rfl) h;refine⟨λr hr=>?_,λii x jj u hx hu=>?_⟩
          ·rcases List.mem_append.1 hr with hr|hr;·exact hr1 r hr
           ·exact hn3 r hr
          ·rcases Nat.lt_or_ge ii xs.length with hi|hi
           ·rw[List.getElem?_append_left hi]at hx;have hj:jj<i.size:=by rw[<-hr1 x (aA hx)];exact(bW hu).1
            have hpos:=kF hi hj;obtain⟨f1,f2⟩:=DQ (hg2 ii x jj u hx hu);refine⟨gg ii jj,?_,(hg1 ii jj hi hj).2,hrm f1,λhg=>hrm (f2 (ar hg).1),λhf=>h5 (cb hf).1 x (aA hx) u (aA hu)⟩;rw[Array.append_assoc,Array.getElem?_append_left (by simpa[bh]using hpos)];simpa using kM hi hj
           ·rw[List.getElem?_append_right hi]at hx;obtain⟨zz,z1,z2,z3,z4,z5⟩:=hn4 _ x jj u hx hu;have hlt:=(bW z1).1;have hidx:ii*i.size=xs.length*i.size+(ii-xs.length)*i.size:=by rw[<-Nat.add_mul];congr 1;omega
            refine⟨zz,?_,z2,hrm z3,λhg=>hrm (z4 (ar hg).2),λhf=>z5 (cb hf).2⟩;rw[Array.append_assoc,Array.getElem?_append_right (by simp[bh];omega),Array.getElem?_append_left (by simp[bh];omega)];rw[List.getElem?_toArray,<-z1];congr 1;simp[bh];omega
         have htr:(q.join q').good=true->Γ.U->aR st.dead (eJ q' (ev st.t y))=true->(eJ q' (ev st.t y)).contains b=false->uj Γ w.drew (eJ q' (ev st.t y)) b i.size (xs++ys) (λp=>((dy xs.length i.size gg).toArray++news.toArray++Builtin.zeroCells z.cells (grownCap w (xs.length+ys.length) (Γ.cap b) e-(xs.length+ys.length)))[p]?):=λhq hU hmv hcb=>by
          obtain⟨gg1,T1,t1,t2,t3,t4⟩:=sT hxr.own_uq h4 h5 (ar hq).1 hU
          obtain⟨T,j1,j2,j3⟩:=hs.joinTr hU (xs:=xs) (ys:=ys) (cell1:=λp=>(dy xs.length i.size gg)[p]?) (cell2:=λp=>news[p]?) (cell:=λp=>((dy xs.length i.size gg).toArray++news.toArray++Builtin.zeroCells z.cells (grownCap w (xs.length+ys.length) (Γ.cap b) e-(xs.length+ys.length)))[p]?) h1 hdead hmv hcb
           ⟨T1,λii x jj u v hx hu hv=>by
            have hi:=(bW hx).1
            have hj:jj<i.size:=by rw[<-hr1 x (aA hx)];exact(bW hu).1
            obtain⟨zz,z1,z2⟩:=AO hr1 t1 t2 hx hu
            rw[(hg1 ii jj hi hj).1]at z1
            injection z1 with z1
            change (dy xs.length i.size gg)[ii*i.size+jj]?=some v at hv
            rw[kM hi hj]at hv
            injection hv with hv
            rw[<-hv,z1]
            exact z2,t3,λi j m hm=>(t4 i j m hm).1⟩ (py hs (hs.ev y) hsrc (ar hq).2 hU ey hl hn2 hn3) (λii jj x hx hj=>by
            have hi:=(bW hx).1
            rw[hr1 x (aA hx)]at hj
            have hpos:=kF hi hj
            show((dy xs.length i.size gg).toArray++news.toArray++_)[ii*i.size+jj]?=(dy xs.length i.size gg)[ii*i.size+jj]?
            rw[Array.append_assoc,Array.getElem?_append_left (by simpa[bh]using hpos),List.getElem?_toArray]) (λii jj y hy hj=>by
            have hi:=(bW hy).1
            rw[hn3 y (aA hy)]at hj
            have hpos:=kF hi hj
            show((dy xs.length i.size gg).toArray++news.toArray++_)[(xs.length+ii)*i.size+jj]?=news[ii*i.size+jj]?
            rw[Nat.add_mul]
            rw[Array.append_assoc,Array.getElem?_append_right (by simp[bh];omega),Array.getElem?_append_left (by simp[bh];omega)]
            rw[List.getElem?_toArray]
            congr 1
            simp[bh]
            omega)
          exact⟨T,λii x jj u v hx hu hv=>(j1 ii x jj u v hx hu hv).mono (λ_ _ _=>rfl),j2,j3⟩
         have hsim:=Sim.regrow (d:=d) (b:=b) (e:=e) (n:=grownCap w (xs.length+ys.length) (Γ.cap b) e) (esc:=eJ q' (ev st.t y)) hs.drew hdead hb9 (by rw[List.length_append];exact hge) (Nat.le_of_eq hsz.symm) hle hrows htr;rw[List.length_append]at hsim;refine⟨_,_,?_,by rw[hd];exact hsim,λk hk _=>aE w.drew _ hk⟩;simp[execOp,ho,ex,ey,resolve,invoke,builtin,hr]
     ·cases h
    ·cases h
   ·cases h
  ·cases h
 ·cases h
end
end Go.Am
end
