/-
  Proved: lemmas for Rows.FnFormatsCardSaid.
-/
import Derived.Test.YtmkhgngckgcpeaaGreatDooruAmNew
import Derived.Laws.MakeOwn
import Derived.Laws.AppendOwn
set_option linter.all false
section
namespace Go.Am
open Go Go.RowKit
section
variable {P:Program}{c:Cfg}{Γ:Ctx}{st:St}{a:Act}{w:World}{den:Nat->List V->Option V}{η:Nat->Option V}{d:Nat}
theorem hO (b:d<1000){j:Nat}(e:j<1000):base d j/1000=d:=by unfold base;omega
theorem od (g:Good Γ w){esc:List Nat}:∀k,cB Γ esc k->Γ.R k\/Γ.F k:=by
 rintro k (h|⟨b,_,e,rfl⟩);·exact g.sr k h
 ·exact .inr (g.base b e).1
def NewRows (Γ:Ctx)(w:World)(S':Nat->Prop)(s:Nat)(q:Q)(ys:List V)(cs:Array Value):Prop:=
 (∀x∈ys,x.cells.length=s)/\(∀(i:Nat) (x:V) (j:Nat) (u:V),ys[i]?=some x->x.cells[j]?=some u -> ∃v,cs[i*s+j]?=some v/\v.oneCell'=true /\
 Rd w S' u v/\(q.good=true->Rd w (λk=>S' k/\Γ.Z k) u v)/\(q = .flat->gf u))
def NewTr (Γ:Ctx)(w:World)(esc:List Nat)(s:Nat)(ys:List V)(cs:Array Value):Prop:=
 ∃T:Nat->Nat->Nat->Prop,(∀(i:Nat) (x:V) (j:Nat) (u:V) (v:Value),ys[i]?=some x->x.cells[j]?=some u->cs[i*s+j]?=some v->Tr w u v (T i j)) /\
 (∀i j e f m,T i j m->T e f m->i=e/\j=f) /\ ∀i j m,T i j m -> ∃b∈esc,Γ.has b/\(m=Γ.blk b\/Γ.N b m)
theorem NewTr.flat {esc:List Nat}{s:Nat}{ys:List V}{cs:Array Value}(h:∀x∈ys,∀c∈x.cells,gf c):NewTr Γ w esc s ys cs:=
 ⟨λ_ _ _=>False,λi x j u v b e _=>.leaf _ _ _ (h x (aA b) u (aA e)),λ_ _ _ _ _ h=>h.elim,λ_ _ _ h=>h.elim⟩
theorem NewTr.drew {esc:List Nat}{s:Nat}{ys:List V}{cs:Array Value}(h:NewTr Γ w esc s ys cs):NewTr Γ w.drew esc s ys cs:=by obtain⟨T,k,l,g⟩:=h;exact⟨T,λi x j u v f e b=>(k i x j u v f e b).mono (λ_ _ _=>rfl),l,g⟩
theorem Sim.apart (hs:Sim Γ st a w)(n:Γ.U){b f m:Nat}(k:Γ.has b)(g:Γ.has f)(l:st.dead b=false)(j:st.dead f=false)(i:b≠f)(h:m=Γ.blk b\/Γ.N b m)(e:m=Γ.blk f\/Γ.N f m):False:=by
 rcases h with h|h
 ·rcases e with e|e;·exact i (hs.good.baseInj b f k g (h.symm.trans e))
  ·exact hs.nds b k l (h▸(hs.good.ns f g m e).1)
 ·rcases e with e|e;·exact hs.nds f g j (e▸(hs.good.ns b k m h).1)
  ·exact hs.nd n b f k g l j i m h e
theorem Sim.newOwnAt {k0:Nat}{w':World}{s:Nat}{q:Q}{ys:List V}{cs:Array Value}{e:TypeId}{n:Nat}{esc:List Nat}(hs:Sim Γ st a w)(nb:NewBlk Γ w w' k0 cs e)(hd:d<1000)(hf:st.freeD d=true)
    (hl:ys.length<=n) (hn:n*s<=cs.size) (hm:n<=maxLen) (hr:NewRows Γ w (cB Γ esc) s q ys cs) (hT:q.good=true->Γ.U->aR st.dead esc=true->NewTr Γ w esc s ys cs) :
    Sims Γ ((({ st with t:=st.t.set d (.own (base d 0) s q ys) }:St).kill esc).mark (!aR st.dead esc)) (a.put (some d) (.slice (some ⟨k0,0,none⟩) ys.length n)) w':=by
  let b0:=base d 0
  let Γ':Ctx:={ Γ with S:=cB Γ esc,has:=λb=>(Γ.has b/\b/1000≠d)\/b=b0,blk:=λb=>if b=b0 then k0 else Γ.blk b,
                       off:=λb=>if b=b0 then 0 else Γ.off b,cap:=λb=>if b=b0 then n else Γ.cap b,sz:=λb=>if b=b0 then s else Γ.sz b,ln:=λb=>if b=b0 then ys.length else Γ.ln b,Z:=λk=>Γ.Z k\/k=k0,
                       N:=λb m=>if b=b0 then ∃b'∈esc,Γ.has b'/\(m=Γ.blk b'\/Γ.N b' m)else Γ.N b m,U:=Γ.U/\aR st.dead esc=true }
  have g:=hs.good;have hN0:∀m,Γ'.N b0 m -> ∃b'∈esc,Γ.has b'/\(m=Γ.blk b'\/Γ.N b' m):=λm h=>by simpa[Γ']using h
  have hN1:∀b m,b≠b0->Γ'.N b m->Γ.N b m:=λb m hb h=>by simpa[Γ',hb]using h
  have hsz:=nb.size;have hlt0:=nb.lt;have hb0:b0/1000=d:=hO hd (by omega);have hne:∀b,b/1000≠d->b≠b0:=λb hb he=>hb (by rw[he,hb0]);have hS':∀k,cB Γ esc k->k<w.heap.size:=by
    rintro k (hk|⟨b,_,hb,rfl⟩);·exact g.slt k hk
    ·exact(g.base b hb).2.1
  refine⟨Γ',⟨rfl,rfl,rfl,rfl,rfl,λ_ _=>rfl⟩,?_⟩;have hcell:∀k,k<w.heap.size -> ∀o,w'.cell? ⟨k,o,none⟩=w.cell? ⟨k,o,none⟩:=λk hk o=>cell?_of_heap (nb.old _ hk) o;have hb9:b0≠999:=by show d*1000+0≠999;omega
  refine Sim.extend (p:=λb=>b/1000==d) hs (λk hk=>nb.old _ hk) (λh=>h.1) (λk hk=>.inl hk) (λ_ h=>.inl h) (λb hb=>?_) (λ_ h=>h) (λ_=>rfl) (kN hf) (og hf) ?_ ?_ (λh1 h2=>⟨hs.du h1,by simpa using h2⟩) ?_ ?_
  · have hb:b/1000≠d:=by simpa using hb
    have hb1:=hne b hb;exact⟨⟨λh=>h.elim (λh=>h.1) (λh=>absurd h hb1),λh=>.inl ⟨h,hb⟩⟩,λ_=>⟨if_neg hb1,if_neg hb1,if_neg hb1,if_neg hb1,if_neg hb1,λm h=>by simpa[Γ',hb1]using h⟩⟩
  · refine⟨nb.os.trans g.os,nb.tape.trans g.tape,nb.output.trans g.output,Nat.le_trans g.size hsz,λk hk hF=>?_,g.new,λk hk=>?_,λb hb=>?_,λb b' hb hb' he=>?_,λk hk=>?_,g.boxInj,λb k hb hk=>?_,od g,g.gl,λb hb=>?bz,λk hk=>?zf,λb hb m hm=>?ns,λh=>?h9⟩
    case h9=>exact h.elim (λh=>g.h9 h.1) (λh=>hb9 h.symm)
    case ns=>
      show cB Γ esc m/\(Γ.Z m\/_);by_cases h0:b=b0
      · subst h0;obtain⟨b',h1,h2,h3⟩:=hN0 m hm;rcases h3 with rfl|h3;·exact⟨.inr ⟨b',h1,h2,rfl⟩,.inl (g.bz b' h2)⟩
        ·exact⟨.inl (g.ns b' h2 m h3).1,.inl (g.ns b' h2 m h3).2⟩
      ·have:=g.ns b (hb.resolve_right h0).1 m (hN1 b m h0 hm);exact⟨.inl this.1,.inl this.2⟩
    case bz=>
      show Γ.Z (if b=b0 then _ else _)\/(if b=b0 then _ else _)=_;by_cases h0:b=b0;·rw[if_pos h0];exact .inr rfl
      ·rw[if_neg h0];exact .inl (g.bz b (hb.resolve_right h0).1)
    case zf=>
      rcases hk with hk|hk;·obtain⟨z1,z2,cur,e',h⟩:=g.zf k hk;exact⟨z1,by omega,cur,e',(nb.old _ z2).trans h⟩
      ·subst hk;exact⟨.inl (nb.F),by omega,cs,e,nb.at_⟩
    ·exact(nb.old _ (Nat.lt_of_lt_of_le hk g.size)).trans (g.old k hk hF)
    ·have:=hS' k hk;omega
    · by_cases h0:b=b0;·show Γ.F (if b=b0 then _ else _)/\(if b=b0 then _ else _)<_/\(if b=b0 then _ else _)<=_ /\ ∃cur e',w'.heap[if b=b0 then k0 else Γ.blk b]?=some (.cells cur e' (0,0))/\(if b=b0 then 0 else Γ.off b)+(if b=b0 then n else Γ.cap b)*(if b=b0 then s else Γ.sz b)<=cur.size;simp only[if_pos h0];exact⟨nb.F,by omega,hm,cs,e,nb.at_,by omega⟩
      · rcases hb with⟨hb,_⟩|hb;·obtain⟨h1,h2,h3,cur,e',h4,h5⟩:=g.base b hb;show Γ.F (if b=b0 then _ else _)/\(if b=b0 then _ else _)<_/\(if b=b0 then _ else _)<=_ /\ ∃cur e',w'.heap[if b=b0 then k0 else Γ.blk b]?=some (.cells cur e' (0,0))/\(if b=b0 then 0 else Γ.off b)+(if b=b0 then n else Γ.cap b)*(if b=b0 then s else Γ.sz b)<=cur.size;simp only[if_neg h0];exact⟨h1,by omega,h3,cur,e',(nb.old _ h2).trans h4,h5⟩
        ·exact absurd hb h0
    · change (if b=b0 then k0 else Γ.blk b)=(if b'=b0 then k0 else Γ.blk b')at he;by_cases h1:b=b0
      · by_cases h2:b'=b0;·rw[h1,h2]
        · rcases hb' with⟨hb',_⟩|hb';·rw[if_pos h1,if_neg h2]at he;exact absurd he.symm (nb.blk b' hb')
          ·exact absurd hb' h2
      · rcases hb with⟨hb,_⟩|hb
        · by_cases h2:b'=b0;·rw[if_neg h1,if_pos h2]at he;exact absurd he (nb.blk b hb)
          · rcases hb' with⟨hb',_⟩|hb';·rw[if_neg h1,if_neg h2]at he;exact g.baseInj b b' hb hb' he
            ·exact absurd hb' h2
        ·exact absurd hb h1
    · obtain⟨h1,h2,h3⟩:=g.box k hk;refine⟨h1,?_,Nat.lt_of_lt_of_le h3 (by omega)⟩;rintro(h|⟨b,_,hb,h⟩);·exact h2 h
      ·exact g.baseBox b k hb hk h.symm
    · show(if b=b0 then k0 else Γ.blk b)≠Γ.box k;by_cases h1:b=b0;·rw[if_pos h1];exact λe=>nb.box k hk e.symm
      · rcases hb with⟨hb,_⟩|hb;·rw[if_neg h1];exact g.baseBox b k hb hk
        ·exact absurd hb h1
  · intro b hb he hdd;show ¬cB Γ esc (if b=b0 then k0 else Γ.blk b);by_cases h1:b=b0
    · rw[if_pos h1];rintro(h|⟨b',_,hb2,h⟩);·exact nb.S h
      ·exact nb.blk b' hb2 h.symm
    · rcases hb with⟨hb,_⟩|hb
      · rw[if_neg h1];rintro(h|⟨b',hb1,hb2,h⟩);·exact hs.nds b hb hdd h
        ·have:=g.baseInj b b' hb hb2 h;subst this;simp[hb1]at he
      ·exact absurd hb h1
  · rintro⟨hU,hmv⟩ b b' hb hb' he hdd he' hdd' hne2 m hm hm';have aux:∀(b1 b2:Nat),Γ'.has b1->Γ'.has b2->esc.contains b2=false->st.dead b2=false->b1=b0->b2≠b0->Γ'.N b1 m->Γ'.N b2 m->False:=by intro b1 b2 k1 k2 k3 k4 k5 k6 k7 k8;subst k5;obtain⟨b3,j1,j2,j3⟩:=hN0 m k7;have k8:=hN1 b2 m k6 k8;have k2:=(k2.resolve_right k6).1;exact hs.apart hU j2 k2 (bO hmv b3 j1 (λe=>g.h9 (e▸j2))) k4 (λe=>by subst e;simp[j1]at k3) j3 (.inr k8)
    by_cases h1:b=b0;·exact aux b b' hb hb' he' hdd' h1 (λh2=>hne2 (h1.trans h2.symm)) hm hm'
    · by_cases h2:b'=b0;·exact aux b' b hb' hb he hdd h2 h1 hm' hm
      ·exact hs.nd hU b b' (hb.resolve_right h1).1 (hb'.resolve_right h2).1 hdd hdd' hne2 m (hN1 b m h1 hm) (hN1 b' m h2 hm')
  · obtain⟨r1,r2⟩:=hr;have e1:Γ'.blk b0=k0:=if_pos rfl;have e2:Γ'.off b0=0:=if_pos rfl;have e3:Γ'.cap b0=n:=if_pos rfl;have e4:Γ'.sz b0=s:=if_pos rfl;have e5:Γ'.ln b0=ys.length:=if_pos rfl;have hcs:∀(i:Nat) (x:V) (j:Nat) (u:V),ys[i]?=some x->x.cells[j]?=some u->cs[i*s+j]?=some (cs.getD (i*s+j) undef):=λi x j u hx hu=>by obtain⟨v,h1,_⟩:=r2 i x j u hx hu;simp only[Array.getD_eq_getD_getElem?,h1,Option.getD_some]
    have:=VR.own (Γ:=Γ') (w:=w') b0 s q ys (.inr rfl) e4.symm (by rw[e3];exact⟨hl,e5.symm⟩) ?_ ?_ ?_;·rwa[e1,e2,e3]at this
    · rw[e1,e2];refine⟨r1,λi j=>cs.getD (i*s+j) undef,λi j hi hj=>?_,λi x j u hx hu=>?_⟩;·obtain⟨x,hx⟩:∃x,ys[i]?=some x:=⟨_,List.getElem?_eq_getElem hi⟩;obtain⟨u,hu⟩:∃u,x.cells[j]?=some u:=⟨_,List.getElem?_eq_getElem (by rw[r1 x (aA hx)];exact hj)⟩;obtain⟨v,h1,h2,_⟩:=r2 i x j u hx hu;have:=nb.at_;simp only[World.cell?,this,Nat.zero_add,Array.getD_eq_getD_getElem?,h1];exact⟨rfl,h2⟩
      · obtain⟨v,h1,_,h3,h4,_⟩:=r2 i x j u hx hu;simp only[Array.getD_eq_getD_getElem?,h1,Option.getD_some];cases q with
        |any=>exact h3.mono (λ_ h=>h) (λk hk o=>hcell k (hS' k hk) o)
        |flat=>exact(h4 rfl).mono (λ_ h=>⟨h.1,.inl h.2⟩) (λk hk o=>hcell k (hS' k hk.1) o)
        |clean=>exact(h4 rfl).mono (λ_ h=>⟨h.1,.inl h.2⟩) (λk hk o=>hcell k (hS' k hk.1) o)
    ·intro hq x hx u hu;obtain⟨i,hi⟩:=List.getElem?_of_mem hx;obtain⟨j,hj⟩:=List.getElem?_of_mem hu;obtain⟨v,_,_,_,_,h5⟩:=r2 i x j u hi hj;exact h5 hq
    · rintro hq ⟨hU,hmv⟩;obtain⟨T,t1,t2,t3⟩:=hT (by rw[hq];rfl) hU hmv;have hTS:∀i j m,T i j m->cB Γ esc m:=λi j m hm=>by
        obtain⟨b',q1,q2,q3⟩:=t3 i j m hm;rcases q3 with rfl|q3;·exact .inr ⟨b',q1,q2,rfl⟩
        ·exact .inl (g.ns b' q2 m q3).1
      rw[e1,e2];refine⟨λi j=>cs.getD (i*s+j) undef,T,λi j hi hj=>?_,λi x j u hx hu=>(t1 i x j u _ hx hu (hcs i x j u hx hu)).mono (λk hk o=>hcell k (hS' k (hTS i j k hk)) o),t2,λi j m hm=>⟨?_,hTS i j m hm⟩⟩;·obtain⟨x,hx⟩:∃x,ys[i]?=some x:=⟨_,List.getElem?_eq_getElem hi⟩;obtain⟨u,hu⟩:∃u,x.cells[j]?=some u:=⟨_,List.getElem?_eq_getElem (by rw[r1 x (aA hx)];exact hj)⟩;have:=nb.at_;simp only[World.cell?,this,Nat.zero_add];exact hcs i x j u hx hu
      · show if b0=b0 then _ else _
        rw[if_pos rfl];exact t3 i j m hm
theorem Sim.newOwn {s:Nat}{q:Q}{ys:List V}{cs:Array Value}{e:TypeId}{n:Nat}{esc:List Nat}(hs:Sim Γ st a w)(i:d<1000)(j:st.freeD d=true)
  (b:ys.length<=n) (f:n*s<=cs.size) (k:n<=maxLen) (g:NewRows Γ w (cB Γ esc) s q ys cs) (h:q.good=true->Γ.U->aR st.dead esc=true->NewTr Γ w esc s ys cs) :
  Sims Γ ((({ st with t:=st.t.set d (.own (base d 0) s q ys) }:St).kill esc).mark (!aR st.dead esc)) (a.put (some d) (.slice (some ⟨w.heap.size,0,none⟩) ys.length n)) (w.alloc (.cells cs e)):=hs.newOwnAt (NewBlk.alloc hs.good) i j b f k g h
theorem Jc (hs:Sim Γ st a w)(s:Nat):∀(n:List (Nat×Operand)) (b xs:List V) (vs:Array Value),
  vs.size=b.length*s->(∀x∈b,x.cells.length=s) ->
  (∀(i:Nat) (x:V) (j:Nat) (u:V),b[i]?=some x->x.cells[j]?=some u -> ∃y,vs[i*s+j]?=some y/\VR Γ w u y) ->
  mi s (n.map λp=>ev st.t p.2)=true->pi b (n.map λp=>(p.1,ev st.t p.2))=some xs ->
  ∃k,Instr.fill (λi=>some (i*s,s)) vs (n.map λp=>(p.1,a.eval p.2))=some k/\k.size=vs.size/\xs.length=b.length/\(∀x∈xs,x.cells.length=s) /\
   (∀(i:Nat) (x:V) (j:Nat) (u:V),xs[i]?=some x->x.cells[j]?=some u -> ∃y,k[i*s+j]?=some y/\VR Γ w u y):=by
 intro n;induction n with
 |nil =>intro b xs vs I C D _ h;simp only[List.map_nil,pi,aK]at h;subst h;exact⟨vs,rfl,rfl,rfl,C,D⟩
 |cons p n T=>
  intro b xs vs I C D l h;obtain⟨i,x⟩:=p;simp only[List.map_cons,mi,Bool.and_eq_true,beq_iff_eq]at l;obtain⟨⟨g,r⟩,l⟩:=l;simp only[List.map_cons,pi]at h;split at h
  ·rename_i K;have G:=hs.ev x;have o:=G.cellLen r;have m:=G.cells o;have U:i*s+s<=b.length*s:=by have:=Nat.mul_le_mul_right s (show i+1<=b.length from K);rw[Nat.add_mul,Nat.one_mul]at this;exact this
   have f:=AJ (i*s) (a.eval x).cells.toList 0 vs (by simp;omega);have z:=xA (i*s) ((a.eval x).cells.toList.zipIdx 0) vs;generalize J:((a.eval x).cells.toList.zipIdx 0).foldl (λ(cs:Array Value) (q:Value×Nat)=>cs.setIfInBounds (i*s+q.2) q.1) vs=F at f z;simp only[Nat.add_zero,Array.length_toList,Array.getElem?_toList]at f
   obtain⟨k,M,W,L,S,R⟩:=T (b.set i (ev st.t x)) xs F (by rw[z];simpa using I) (λy N=>by
    rcases List.mem_or_eq_of_mem_set N with h|h
    ·exact C y h
    ·rw[h];exact g) (λB H j u e A=>by
     rw[List.getElem?_set]at e
     split at e
     ·rename_i v
      subst v
      injection e with e
      subst e
      have O:j<s:=by rw[<-g];exact(bW A).1
      rw[f,if_pos (by omega),Nat.add_sub_cancel_left]
      exact m j u A
     ·rename_i v
      have O:j<s:=by rw[<-C H (aA e)];exact(bW A).1
      rw[f,if_neg]
      ·exact D B H j u e A
      ·rw[<-o,g]
       rintro⟨q1,X⟩
       rcases Nat.lt_or_ge B i with E|Q
       ·have:=Nat.mul_le_mul_right s (show B+1<=i from E)
        rw[Nat.add_mul,Nat.one_mul]at this
        omega
       ·have:i+1<=B:=by omega
        have:=Nat.mul_le_mul_right s this
        rw[Nat.add_mul,Nat.one_mul]at this
        omega) l h
   refine⟨k,?_,by omega,by simpa using L,S,R⟩;simp only[List.map_cons,Instr.fill];rw[if_neg (by simp;omega)];rw[<-M,<-J];congr 1;rw[<-Array.foldl_toList];simp
  ·cases h
theorem fC {n s:Nat}{z:V}{e:Array Value}(m:z.cells.length=s)(hs:e.size=s)(o:∀(j:Nat) (u:V),z.cells[j]?=some u -> ∃y,e[j]?=some y/\VR Γ w u y) :
  ∀(i:Nat) (x:V) (j:Nat) (u:V),(List.replicate n z)[i]?=some x->x.cells[j]?=some u -> ∃y,((Array.range (n*s)).map (λk=>e[k%e.size]!))[i*s+j]?=some y/\VR Γ w u y:=by
 intro i x j u b h;have g:i<n:=by have:=(bW b).1;simpa using this
 rw[List.getElem?_replicate,if_pos g]at b;injection b with b;subst b;have p:j<s:=by rw[<-m];exact(bW h).1
 obtain⟨y,l,f⟩:=o j u h;refine⟨y,?_,f⟩;have q:i*s+s<=n*s:=by have:=Nat.mul_le_mul_right s (show i+1<=n from g);rw[Nat.add_mul,Nat.one_mul]at this;exact this
 rw[Array.getElem?_map,Array.getElem?_range,if_pos (by omega)];simp only[Option.map_some,aK];rw[hs,Nat.mul_add_mod_self_right,Nat.mod_eq_of_lt p];rw[getElem!_pos e j (by omega)];rw[Array.getElem?_eq_getElem (by omega)]at l;injection l
theorem yV (hs:Sim Γ st a w){s:Nat}{xs ys:List V}{cs:Array Value}(A:∀x∈xs,x.cells.length=s)(p:∀(i:Nat) (x:V) (j:Nat) (u:V),xs[i]?=some x->x.cells[j]?=some u -> ∃y,cs[i*s+j]?=some y/\VR Γ w u y)
  (r:ek xs=some ys):NewRows Γ w (cB Γ (kG xs)) s (pj xs) ys cs:=by
 obtain⟨E,o⟩:=iZ r;refine⟨λy m=>?_,λi y j u m C=>?_⟩;·obtain⟨i,B⟩:=List.getElem?_of_mem m;obtain⟨x,f,e⟩:=o i y B;rw[(dh e).1];exact A x (aA f)
 ·obtain⟨x,f,e⟩:=o i y m;obtain⟨z,g,h⟩:=(dh e).2 j u C;obtain⟨v,t,n⟩:=p i x j z f g;obtain⟨r1,r2,r3,r4⟩:=mT (S':=cB Γ (kG xs)) hs.good n h (λk q=>.inl q) (λb D hh=>.inr ⟨b,kU (aA f) b (bn (aA g) b D),hh,rfl⟩);exact⟨v,t,r2,r1,λl=>r3 (pk l x (aA f) z (aA g)),λl=>r4 (yn l x (aA f) z (aA g))⟩
theorem Ey (hs:Sim Γ st a w){s:Nat}{xs ys:List V}{cs:Array Value}(R:∀(i:Nat) (x:V) (j:Nat) (u:V),xs[i]?=some x->x.cells[j]?=some u -> ∃y,cs[i*s+j]?=some y/\VR Γ w u y)
  (Y:ek xs=some ys) (T:(pj xs).good=true) (K:Γ.U) (p:aR st.dead (kG xs)=true):NewTr Γ w (kG xs) s ys cs:=by
 obtain⟨h1,X⟩:=iZ Y;have l:∀b,Γ.has b->b≠999:=λb k e=>hs.good.h9 (e▸k);have n:∀(i j:Nat) (x z:V) (b m:Nat),xs[i]?=some x->x.cells[j]?=some z->b∈bF z->b∈kG xs:=λi j x z b m g f k=>kU (aA g) b (bn (aA f) b k);refine⟨λi j m=>∃x z,xs[i]?=some x/\x.cells[j]?=some z /\ ∃b∈bF z,Γ.has b/\(m=Γ.blk b\/Γ.N b m),λi y j u v W S C=>?_,λi j O Q m h Z=>?_,λi j m h=>?_⟩;·obtain⟨x,g,H⟩:=X i y W;obtain⟨z,f,E⟩:=(dh H).2 j u S;obtain⟨v',F,J⟩:=R i x j z g f;rw[F]at C;injection C with C;subst C;have:=uG hs.good J E (pk T x (aA g) z (aA f)) K (λb k hh=>hs.nds b hh (bO p b (n i j x z b 0 g f k) (l b hh)));exact this.weaken (λm p=>⟨x,z,g,f,p⟩)
 ·obtain⟨x,z,g,f,b,k,hh,o⟩:=h;obtain⟨L,M,t,r,D,A,B,q⟩:=Z;have G:b=D:=Classical.byContradiction λI=>hs.apart K hh B (bO p b (n i j x z b 0 g f k) (l b hh)) (bO p D (n O Q L M D 0 t r A) (l D B)) I o q;subst G;exact wu p i O j Q x L z M b g t f r k A (l b hh)
 ·obtain⟨x,z,g,f,b,k,hh,o⟩:=h;exact⟨b,n i j x z b 0 g f k,hh,o⟩
theorem lY {v:V}(h:fa v = .flat):bF v=[]:=by cases v<;>first|rfl|(rename_i q _;cases q<;>cases h)
theorem wW {S':Nat->Prop}{v j u z:V}{x:Value}(g:Good Γ w)(h:VR Γ w v x)(n:fa v = .flat)(l:j=d_ z v\/j=v)(f:flat j=some u)(o:∀k,Γ.S k->S' k) :
  Rd w S' u x/\x.oneCell'=true/\Rd w (λk=>S' k/\Γ.Z k) u x/\(fa j = .flat->gf u):=by
 have i:flat v=some u->Rd w S' u x/\x.oneCell'=true/\Rd w (λk=>S' k/\Γ.Z k) u x/\(fa v = .flat->gf u):=by intro f;obtain⟨r1,r2,r3,r4⟩:=mT (S':=S') g h f o (λb m=>by rw[lY n]at m;cases m);exact⟨r1,r2,r3 (by rw[n];rfl),r4⟩
 rcases l with rfl|rfl
 ·unfold d_ at f ⊢;split at f;·simp only[flat,aK]at f;subst f;rw[h.nil_inv];refine⟨.empty _ _ _ _,rfl,.empty _ _ _ _,λe=>?_⟩;exfalso;revert e;simp only[fa];split<;>intro e<;>cases e
  ·exact i f
 ·exact i f
theorem NewRows.join {S':Nat->Prop}{s:Nat}{q p:Q}{ys:List V}{cs:Array Value}(h:NewRows Γ w S' s q ys cs):NewRows Γ w S' s (q.join p) ys cs:=by refine⟨h.1,λi x j u b g=>?_⟩;obtain⟨v,n,o,f,l,k⟩:=h.2 i x j u b g;exact⟨v,n,o,f,λm=>l (ar m).1,λe=>k (cb e).1⟩
theorem lG (hA:ay P c)(hs:Sim Γ st a w){o:Oper}{t:TypeId}{n:Nat}{s:Array (Nat×Operand)}{v:V}{esc:List Nat}{m:Nat}(ho:o.op = .buildSlice t n s)
  (h:aF c den (ev st.t) η d o.op=some (.fresh v esc m)) (hd:d<1000) (O:m=0\/st.freeD d=true) :
  ∃n cs e,(∀w1,(execOp a.eval o).run P w1 = .ok (.value (.slice (some ⟨w1.heap.size,0,none⟩) n n)) (w1.alloc (.cells cs e))) /\ ∀w' k,NewBlk Γ w w' k cs e->Sims Γ ((({ st with t:=st.t.set d v }:St).kill esc).mark (!aR st.dead esc)) (a.put (some d) (.slice (some ⟨k,0,none⟩) n n)) w':=by
 rw[ho]at h;simp only[aF]at h;split at h
 ·rename_i e sz af z0 cm ag ae ht;split at h
  ·rename_i i hi;split at h
   ·rename_i hc;simp only[Bool.and_eq_true,decide_eq_true_eq]at hc;obtain⟨⟨⟨⟨hn,X⟩,an⟩,B⟩,b⟩:=hc;split at h
    ·rename_i xs G;split at h
     ·rename_i ys l;simp only[aK,Out.fresh.injEq]at h;obtain⟨rfl,rfl,rfl⟩:=h;have O:st.freeD d=true:=O.resolve_left (by omega);obtain⟨tt,ab⟩:=hA _ _ ht;obtain⟨ti,F⟩:=hA _ _ hi;obtain⟨z,hz,al,Z,aj,N⟩:=F.zero;simp only[mi,Bool.and_eq_true,beq_iff_eq,and_true]at b;have L:∀(j:Nat) (u:V),i.zero.cells[j]?=some u -> ∃y,z.cells[j]?=some y/\VR Γ w u y:=λj u J=>by obtain⟨y,h1,h2⟩:=N j u J;exact⟨y,h1,.rd _ _ (h2 w Γ.S)⟩
      have aa:z.cells.size=i.size:=by rw[<-b.1,<-Z];simp
      have e1:(s.toList.map λp=>(p.1,ev st.t p.2)).map (·.2)=s.toList.map λp=>ev st.t p.2:=by simp
      rw[e1]at B
      obtain⟨T,M,f2,f3,f4,f5⟩:=Jc hs i.size s.toList (List.replicate n i.zero) xs ((Array.range (n*i.size)).map (λk=>z.cells[k%z.cells.size]!)) (by simp) (λx C=>by rw[(List.mem_replicate.1 C).2];exact b.1)
       (fC b.1 aa L) B G
      have U:ys.length=n:=by rw[(iZ l).1,wV,f3];simp
      have I:∀x∈dT i.nz xs,x.cells.length=i.size:=by intro x C;obtain⟨D,Q⟩:=List.getElem?_of_mem C;obtain⟨K,f,rfl⟩:=np _ _ _ _ Q;rw[pW];exact f4 K (aA f)
      have E:∀(D:Nat) (x:V) (j:Nat) (u:V),(dT i.nz xs)[D]?=some x->x.cells[j]?=some u -> ∃y,T[D*i.size+j]?=some y/\VR Γ w u y:=by intro D x j u C J;obtain⟨K,f,rfl⟩:=np _ _ _ _ C;obtain⟨u0,z0,ac,W⟩:=lq J;obtain⟨y,hy,Y⟩:=f5 D K j u0 f ac;exact⟨y,hy,lp hs.good.h9 W Y⟩
      have A:=λw' k H=>Sim.newOwnAt (k0:=k) (w':=w') (q:=(pj (dT i.nz xs)).join i.qz) (e:=e) (n:=n) hs H hd O (by omega) (by rw[f2];simp) (by unfold maxLen;omega) (NewRows.join (p:=i.qz) (yV hs I E l)) (λhq hU hm=>Ey hs E l (ar hq).1 hU hm);refine⟨_,_,_,λw1=>?_,λw' k H=>by have:=A w' k H;rw[U]at this;exact this⟩;have e2:(s.map λ(i,x)=>(i,a.eval x)).toList=s.toList.map λp=>(p.1,a.eval p.2):=by simp
      have ad:¬(16777216<n*i.size):=by omega
      have r:∀(q:Sem (Array Value)),(if n*i.size=0 then pure #[]else q).run P w1=if n*i.size=0 then .ok #[] w1 else q.run P w1:=λq=>by split<;>rfl
      simp only[execOp,ho,Instr.buildSlice,Sem.run_bind,run_underlying (ab.slice e rfl),Result.andThen_ok,sizeOf,typeInfo,run_program,F.info,Sem.run_pure,F.size,Sem.run_ite,r];rw[if_neg (show ¬n*i.size>2 ^ 24 by omega)];by_cases R:n*i.size=0
      ·rw[if_pos R,e2];have e3:∀g:Nat->Value,(Array.range (n*i.size)).map g = #[]:=λg=>by rw[R];simp
       rw[e3]at M;rw[e3,M];simp[newRow]
      ·rw[if_neg R];simp only[zeroValue,typeInfo,Sem.run_bind,run_program,Result.andThen_ok,F.info,Sem.run_pure,hz,e2,M];simp[newRow]
     ·cases h
    ·cases h
   ·cases h
  ·cases h
 ·cases h
theorem nQ (b:ay P c)(hs:Sim Γ st a w){o:Oper}{t:TypeId}{n:Nat}{g:Array (Nat×Operand)}{v:V}{esc:List Nat}{m:Nat}(i:o.op = .buildSlice t n g)
  (h:aF c den (ev st.t) η d o.op=some (.fresh v esc m)) (e:d<1000) (f:m=0\/st.freeD d=true) :
  ∃x w',(execOp a.eval o).run P w = .ok (.value x) w'/\Sims Γ ((({ st with t:=st.t.set d v }:St).kill esc).mark (!aR st.dead esc)) (a.put (some d) x) w' /\ ∀k,k<w.heap.size->w'.heap[k]?=w.heap[k]?:=
 let⟨_,_,_,h1,h2⟩:=lG b hs i h e f
 ⟨_,_,h1 w,h2 _ _ (NewBlk.alloc hs.good),λ_ h=>aE w _ h⟩
theorem Du (O:ay P c)(hs:Sim Γ st a w){o:Oper}{r:V}(h:aF c den (ev st.t) η d o.op=some (.box r))(v:d<st.t.length)(L:d<st.h.length)(J:(st.h.getD d none).isNone=true)(D:st.freeP d=true)(B:r.anyP (λb=>b==d)=false) :
  ∃cs e,(∀w1,(execOp a.eval o).run P w1 = .ok (.value (.pointer (some ⟨w1.heap.size,0,none⟩))) (w1.alloc (.cells cs e))) /\ ∀w' k,NewBlk Γ w w' k cs e->Sims Γ { st with t:=st.t.set d (.ptr d 0),h:=st.h.set d (some r) } (a.put (some d) (.pointer (some ⟨k,0,none⟩))) w':=by
 have no:∀{q:V} {s:Option Out},s=some (.val q)->s≠some (.box r):=by rintro q s rfl h;injection h with h;cases h
 cases g:o.op with
 |alloc e=>
  rw[g]at h;simp only[aF]at h;cases p:c.ty e with
  |none=>rw[p]at h;cases h
  |some i=>
   rw[p]at h;simp only[aK,Out.box.injEq]at h;subst h;obtain⟨ti,M⟩:=O _ _ p;obtain⟨z,N,Y,H,Q,G⟩:=M.zero
   have l:=λw' k E=>Sim.newBoxAt (k0:=k) (w':=w') (e:=e) (r:=i.zero) (cs:=z.cells) hs E v L D J (by rw[<-H];simp) (λj u F=>by
    obtain⟨y,W,X⟩:=G j u F
    exact⟨y,W,.rd _ _ (X w Γ.S)⟩) B
   exact⟨_,_,λw1=>by simp[execOp,g,Instr.alloc,zeroValue,typeInfo,M.info,N,newVar,newRow],l⟩
 |box e x=>
  rw[g]at h;simp only[aF]at h;cases p:c.ty e with
  |none=>rw[p]at h;cases h
  |some i=>
   rw[p]at h;simp only at h;split at h;·rename_i C;simp only[aK,Out.box.injEq]at h;subst h;have I:=hs.ev x;have A:=I.cellLen C.2;have l:=λw' k E=>Sim.newBoxAt (k0:=k) (w':=w') (e:=e) (r:=ev st.t x) (cs:=(a.eval x).cells) hs E v L D J A (λj u F=>I.cells A j u F) B;exact⟨_,_,λw1=>by simp[execOp,g,Instr.box,newVar,newRow],l⟩
   ·cases h
 |call T=>
  exfalso;rw[g]at h;obtain⟨n,args,ts⟩:=T;cases n with
  |value f=>
   simp only[aF,ny]at h
   repeat' split at h
   all_goals cases h
  |invoke f m=>simp only[aF]at h;cases h
  |builtin Z=>
   cases Z<;>simp only[aF,plain]at h<;>first|(cases h;done)|skip
   all_goals (repeat' split at h)<;>cases h
 |unOp u _ _ =>exfalso;rw[g]at h;cases u<;>simp only[aF,plain]at h<;>first|(cases h;done)|((repeat' split at h)<;>cases h)
 |makeFunc U _ _ =>exfalso;rw[g]at h;cases U<;>simp only[aF,plain]at h<;>first|(cases h;done)|((repeat' split at h)<;>cases h)
 |convert s t x=>
  exfalso;rw[g]at h;simp only[aF,plain]at h;cases C:nj c s t (ev st.t x)with
  |some u=>rw[C]at h;cases h
  |none=>
   rw[C]at h;simp only at h;cases K:ni c s t (ev st.t x)with
   |some u=>rw[K]at h;cases h
   |none =>rw[K]at h;simp only at h;cases D:ei c s t (ev st.t x)<;>rw[D]at h<;>cases h
 |slice _ _ _ _ R =>exfalso;rw[g]at h;cases R<;>simp only[aF,plain]at h<;>first|(cases h;done)|((repeat' split at h)<;>cases h)
 |_=>
  exfalso;rw[g]at h
  first
   |(simp only[aF,plain]at h;cases h;done)
   |(simp only[aF,plain]at h;(repeat' split at h)<;>cases h)
theorem CI (g:ay P c)(hs:Sim Γ st a w){o:Oper}{r:V}(h:aF c den (ev st.t) η d o.op=some (.box r))(e:d<st.t.length)(i:d<st.h.length)(l:(st.h.getD d none).isNone=true)(j:st.freeP d=true)(f:r.anyP (λb=>b==d)=false) :
  ∃x w',(execOp a.eval o).run P w = .ok (.value x) w'/\Sims Γ { st with t:=st.t.set d (.ptr d 0),h:=st.h.set d (some r) } (a.put (some d) x) w' /\ ∀k,k<w.heap.size->w'.heap[k]?=w.heap[k]?:=
 let⟨_,_,h1,h2⟩:=Du g hs h e i l j f
 ⟨_,_,h1 w,h2 _ _ (NewBlk.alloc hs.good),λ_ h=>aE w _ h⟩
theorem oU (hA:ay P c)(hs:Sim Γ st a w){o:Oper}{t:TypeId}{l k:Operand}{v:V}{esc:List Nat}{m:Nat}(ho:o.op = .makeSlice t l k)
  (h:aF c den (ev st.t) η d o.op=some (.fresh v esc m)) (hd:d<1000) (hf:m=0\/st.freeD d=true) :
  ∃x w',(execOp a.eval o).run P w = .ok (.value x) w'/\Sims Γ ((({ st with t:=st.t.set d v }:St).kill esc).mark (!aR st.dead esc)) (a.put (some d) x) w' /\ ∀k,k<w.heap.size->w'.heap[k]?=w.heap[k]?:=by
 rw[ho]at h;simp only[aF]at h;split at h
 ·rename_i e sz by_ z0 cm nz_ qz_ ht;split at h
  ·rename_i i kn n km mm hi hl hk;split at h
   ·rename_i hc;obtain⟨h1,h2,h3,h4,hne,hzz,hzq⟩:=hc;split at h
    ·rename_i zr hzr;simp only[aK,Out.fresh.injEq]at h;obtain⟨rfl,rfl,rfl⟩:=h;have hf:st.freeD d=true:=hf.resolve_left (by omega);obtain⟨tt,at_⟩:=hA _ _ ht;obtain⟨ti,ai⟩:=hA _ _ hi;obtain⟨z,hz,hz1,hz2,hz3,hz4⟩:=ai.zero;simp only[mi,Bool.and_eq_true,beq_iff_eq,and_true]at hzz;have hzc:∀(j:Nat) (u:V),i.zero.cells[j]?=some u -> ∃y,z.cells[j]?=some y/\VR Γ w u y:=λj u hu=>by obtain⟨y,h1,h2⟩:=hz4 j u hu;exact⟨y,h1,.rd _ _ (h2 w Γ.S)⟩
     have hzs:z.cells.size=i.size:=by rw[<-hzz.1,<-hz2];simp
     have hlv:=hs.ev l;have hkv:=hs.ev k;rw[hl]at hlv;rw[hk]at hkv;have e1:=hlv.int_inv;have e2:=hkv.int_inv;have hnm:n.toNat<=mm.toNat:=by omega
     have hrows:NewRows Γ w (cB Γ []) i.size ((ym (bZ i.nz i.zero)).join i.qz) (List.replicate n.toNat zr) ((Array.range (mm.toNat*i.size)).map (λk=>z.cells[k%z.cells.size]!)):=by
      refine NewRows.join (p:=i.qz) ⟨λy hy=>?_,λii y j u hy hu=>?_⟩;·rw[(List.mem_replicate.1 hy).2,(dh hzr).1,pW];exact hzz.1
      ·have hii:ii<n.toNat:=by have:=(bW hy).1;simpa using this
       rw[List.getElem?_replicate,if_pos hii]at hy;injection hy with hy;subst hy;obtain⟨v1,hv1,hfl⟩:=(dh hzr).2 j u hu;obtain⟨v0,z1,hv0,hor⟩:=lq hv1;have hx':(List.replicate mm.toNat i.zero)[ii]?=some i.zero:=by rw[List.getElem?_replicate,if_pos (by omega)]
       obtain⟨y,hy,hvy⟩:=fC (n:=mm.toNat) hzz.1 hzs hzc ii i.zero j v0 hx' hv0;refine⟨y,hy,?_⟩;have hq0:fa v0 = .flat:=ej hzq v0 (aA hv0);obtain⟨r1,r2,r3,r4⟩:=wW (S':=cB Γ []) hs.good hvy hq0 hor hfl (λ_ h=>.inl h);exact⟨r2,r1,λ_=>r3,λhq=>r4 (ej hq v1 (aA hv1))⟩
     have htr:((ym (bZ i.nz i.zero)).join i.qz).good=true->Γ.U->aR st.dead []=true->NewTr Γ w [] i.size (List.replicate n.toNat zr) ((Array.range (mm.toNat*i.size)).map (λk=>z.cells[k%z.cells.size]!)):=λhq hU _=>by
      refine⟨λ_ _ _=>False,λii y j u v hy hu hv=>?_,λ_ _ _ _ _ h=>h.elim,λ_ _ _ h=>h.elim⟩;have hii:ii<n.toNat:=by have:=(bW hy).1;simpa using this
      rw[List.getElem?_replicate,if_pos hii]at hy;injection hy with hy;subst hy;obtain⟨v1,hv1,hfl⟩:=(dh hzr).2 j u hu;obtain⟨v0,z1,hv0,hor⟩:=lq hv1;have hx':(List.replicate mm.toNat i.zero)[ii]?=some i.zero:=by rw[List.getElem?_replicate,if_pos (by omega)]
      obtain⟨y,hy,hvy⟩:=fC (n:=mm.toNat) hzz.1 hzs hzc ii i.zero j v0 hx' hv0;rw[hy]at hv;injection hv with hv;subst hv;have hq0:fa v0 = .flat:=ej hzq v0 (aA hv0);have h9:∀b∈bF v1,Γ.has b->False:=λb hb hh=>by
       rcases hor with rfl|rfl
       ·unfold d_ at hb;split at hb;·simp only[bF,List.mem_cons,List.not_mem_nil,or_false]at hb;exact hs.good.h9 (hb▸hh)
        ·rw[lY hq0]at hb;cases hb
       ·rw[lY hq0]at hb;cases hb
      exact(uG hs.good (lp hs.good.h9 hor hvy) hfl (f_ (ar hq).1 v1 (aA hv1)) hU (λb hb hh=>(h9 b hb hh).elim)).weaken (λm ⟨b,hb,hh,_⟩=>h9 b hb hh)
     have hsim:=Sim.newOwn (e:=e) (n:=mm.toNat) hs hd hf (by simpa using hnm) (by simp) (by unfold maxLen;omega) hrows htr;rw[List.length_replicate]at hsim;refine⟨_,_,?_,hsim,λk hk=>aE w _ hk⟩;have hb:(ti.bytes:Int)*mm<=281474976710656:=by rw[ai.bytes,Int.mul_comm];omega
     have:=run_make (P:=P) w t e ti z (at_.slice e rfl) ai.info hz kn km n mm h1 h2 hb (by omega);simp only[execOp,ho,e1,e2,Sem.run_bind,this,Result.andThen_ok,Sem.run_pure,ai.size,madeCells]
    ·cases h
   ·cases h
  ·cases h
 ·cases h
theorem Sim.drew (hs:Sim Γ st a w):Sim Γ st a w.drew:=by
 have m:∀{u:V} {y:Value},VR Γ w u y->VR Γ w.drew u y:=λh=>
  VR.mono (Γ:=Γ) (Γ':=Γ) (w:=w) (w':=w.drew) (p:=λ_=>false) (r:=λ_=>false) (λh=>h) (λ_ h=>h) (λ_ h=>h) (λ_ _ _=>rfl) (λ_ _=>⟨Iff.rfl,λ_=>⟨rfl,rfl,rfl,rfl,rfl,λ_ h=>h,λ_=>rfl⟩⟩) (λ_ _=>⟨λh=>h,rfl⟩) h (bN _) (cS _)
 have g:=hs.good;refine⟨⟨g.os,g.tape,g.output,g.size,g.old,g.new,g.slt,g.base,g.baseInj,g.box,g.boxInj,g.baseBox,g.sr,g.gl,g.bz,g.zf,g.ns,g.h9⟩,hs.dz,hs.len,λi v h=>?_,λk v h=>?_,hs.nds,hs.du,hs.nd,hs.nt⟩;·obtain⟨x,f,l⟩:=hs.tm i v h;exact⟨x,f,m l⟩
 ·obtain⟨f,b,e,l,n,q⟩:=hs.bx k v h;exact⟨f,b,e,l,n,λj u o=>(let⟨x,e1,e2⟩:=q j u o;⟨x,e1,m e2⟩)⟩
theorem zo {S S':Nat->Prop}{u:V}{v:Value}(h:Rd w S u v)(e:gf u):Rd w S' u v:=by
 cases h with
 |bool b=>exact .bool b
 |int k n=>exact .int k n
 |str s x h=>exact .str s x h
 |nil=>exact .nil
 |_=>cases e
def dy (n s:Nat)(g:Nat->Nat->Value):List Value:=(List.range (n*s)).map λp=>g (p/s) (p%s)
theorem bh (n s:Nat)(g:Nat->Nat->Value):(dy n s g).length=n*s:=by simp[dy]
theorem kM {n s:Nat}{g:Nat->Nat->Value}{i j:Nat}(e:i<n)(b:j<s):(dy n s g)[i*s+j]?=some (g i j):=by
 have:i*s+s<=n*s:=by have:=Nat.mul_le_mul_right s (show i+1<=n from e);rw[Nat.add_mul,Nat.one_mul]at this;exact this
 have f:(i*s+j)/s=i:=by rw[Nat.mul_comm,Nat.mul_add_div (by omega),Nat.div_eq_of_lt b,Nat.add_zero]
 have h:(i*s+j)%s=j:=by rw[Nat.mul_add_mod_self_right,Nat.mod_eq_of_lt b]
 simp only[dy,List.getElem?_map];rw[List.getElem?_range (by omega)];simp[f,h]
theorem nE {n s:Nat}{g:Nat->Nat->Value}{p:Nat}{u:Value}(h:(dy n s g)[p]?=some u):p/s<n/\p%s<s/\u=g (p/s) (p%s)/\p=p/s*s+p%s:=by
 have b:p<n*s:=by have:=(bW h).1;rwa[bh]at this
 have hs:0<s:=by
  rcases Nat.eq_zero_or_pos s with e|e;·rw[e]at b;simp at b
  ·exact e
 simp only[dy,List.getElem?_map,List.getElem?_range b,Option.map_some,aK]at h;refine⟨(Nat.div_lt_iff_lt_mul hs).2 b,Nat.mod_lt _ hs,h.symm,?_⟩;rw[Nat.mul_comm];exact(Nat.div_add_mod p s).symm
def KK (Γ:Ctx)(w:World)(s:Nat)(q:Q)(ys:List V)(x:Value):Prop:=
 (ys=[] /\ ∃f e,x = .slice f 0 e)\/(∃(k o e:Nat) (b:List Value),x = .slice (some ⟨k,o,none⟩) ys.length e/\0<ys.length/\b.length=ys.length*s /\
 (∀(p:Nat) (u:Value),b[p]?=some u->w.cell? ⟨k,o+p,none⟩=some u/\u.oneCell'=true)/\(∀y∈ys,y.cells.length=s) /\
 (∀(i:Nat) (y:V) (j:Nat) (u:V),ys[i]?=some y->y.cells[j]?=some u -> ∃z,b[i*s+j]?=some z/\z.oneCell'=true/\Rd w Γ.S u z/\(q.good=true->Rd w (λk=>Γ.S k/\Γ.Z k) u z)/\(q = .flat->gf u)))
theorem wv {s:Nat}{q:Q}{ys:List V}{x:Value}(k o f:Nat)(e:x = .slice (some ⟨k,o,none⟩) ys.length f)(z:0<ys.length)(r:Rows w (Γ.Sq q) s ys k o)(v:flatOk q ys):KK Γ w s q ys x:=by
 obtain⟨r1,m,r2,r3⟩:=r;refine .inr ⟨k,o,f,dy ys.length s m,e,z,bh _ _ _,λp u g=>?_,r1,λi y j u h g=>?_⟩;·obtain⟨D,B,rfl,A⟩:=nE g;have:=r2 _ _ D B;rw[Nat.add_assoc,<-A]at this;exact this
 ·have l:i<ys.length:=(bW h).1;have n:j<s:=by rw[<-r1 y (aA h)];exact(bW g).1
  have b:=r3 i y j u h g;refine⟨m i j,kM l n,(r2 i j l n).2,b.mono (λk t=>jh t) (λ_ _ _=>rfl),λC=>?_,λe=>v e y (aA h) u (aA g)⟩;cases q with
  |any=>cases C
  |flat=>exact b
  |clean=>exact b
theorem yy (g:Good Γ w){v:V}{x:Value}{s:Nat}{q:Q}{ys:List V}(h:VR Γ w v x)(l:fE s v=some (q,ys)):KK Γ w s q ys x:=by
 cases v with
 |nil =>simp only[fE,aK,Prod.mk.injEq]at l;obtain⟨rfl,rfl⟩:=l;exact .inl ⟨rfl,_,_,h.nil_inv⟩
 |sl s' f xs=>
  simp only[fE]at l;split at l
  ·rename_i m;subst m;simp only[aK,Prod.mk.injEq]at l;obtain⟨rfl,rfl⟩:=l;have F:=h.sl_inv;cases F with
   |empty=>exact .inl ⟨rfl,_,_,rfl⟩
   |sl _ _ _ k o n I O N S B M J F=>
    refine .inr ⟨k,o,n,dy xs.length s' I,rfl,O,bh _ _ _,λp u r=>?_,B,λi y j u A r=>?_⟩;·obtain⟨E,L,rfl,z⟩:=nE r;have:=J _ _ E L;rw[Nat.add_assoc,<-z]at this;exact this
    ·have H:i<xs.length:=(bW A).1;have K:j<s':=by rw[<-B y (aA A)];exact(bW r).1
     have t:=F i y j u A r;refine⟨I i j,kM H K,(J i j H K).2,t,λG=>?_,λe=>?_⟩
     ·cases f with
      |true=>exact zo t (M rfl y (aA A) u (aA r))
      |false=>cases G
     ·cases f with
      |true=>exact M rfl y (aA A) u (aA r)
      |false=>cases e
  ·cases l
 |own b s' q' xs=>
  simp only[fE]at l;split at l
  ·rename_i m;subst m;simp only[aK,Prod.mk.injEq]at l;obtain⟨rfl,rfl⟩:=l;rcases h.own_inv with⟨e,rfl,_⟩|⟨e,E,L,R,z,D⟩;·exact .inl ⟨rfl,_,_,e⟩
   ·by_cases C:xs=[];·subst C;exact .inl ⟨rfl,_,_,e⟩
    ·exact wv _ _ _ e (List.length_pos_iff.2 C) z D
  ·cases l
 |view b s' q' xs=>
  simp only[fE]at l;split at l
  ·rename_i m;subst m;simp only[aK,Prod.mk.injEq]at l;obtain⟨rfl,rfl⟩:=l;rcases h.view_inv with⟨T,n,e,rfl⟩|⟨o,n,e,E,C,R,_,z,D⟩;·exact .inl ⟨rfl,_,_,e⟩
   ·exact wv _ _ _ e C z D
  ·cases l
 |_=>cases l
theorem Fb (hs:Sim Γ st a w){v:V}{x:Value}{s:Nat}{q:Q}{ys:List V}(h:VR Γ w v x)(l:fE s v=some (q,ys))(n:q.good=true)(J:Γ.U)(k o t:Nat)(u:x = .slice (some ⟨k,o,none⟩) ys.length t)(y:0<ys.length) :
  TrRows w (λm=>∃b∈eJ q v,Γ.has b/\Γ.N b m) s ys k o:=by
 have flat:q = .flat->flatOk q ys->(∃g:Nat->Nat->Value,∀i j:Nat,i<ys.length->j<s->w.cell? ⟨k,o+i*s+j,none⟩=some (g i j))->TrRows w (λm=>∃b∈eJ q v,Γ.has b/\Γ.N b m) s ys k o:=λe F ⟨g,n⟩=>
  ⟨g,λ_ _ _=>False,n,λi x j c u M=>.leaf _ _ _ (F e x (aA u) c (aA M)),λ_ _ _ _ _ h=>h.elim,λ_ _ _ h=>h.elim⟩
 cases v with
 |nil =>simp only[fE,aK,Prod.mk.injEq]at l;obtain⟨rfl,rfl⟩:=l;simp at y
 |sl s' f xs=>
  simp only[fE]at l;split at l
  ·rename_i p;subst p;simp only[aK,Prod.mk.injEq]at l;obtain⟨rfl,rfl⟩:=l;cases f with
   |false=>cases n
   |true=>
    have K:=h.sl_inv;subst u;cases K with
    |empty=>simp at y
    |sl _ _ _ k o t R y L X W F n K=>exact flat rfl (λ_=>F rfl) ⟨R,λi j z A=>(n i j z A).1⟩
  ·cases l
 |own b s' q' xs=>
  simp only[fE]at l;split at l
  ·rename_i p;subst p;simp only[aK,Prod.mk.injEq]at l;obtain⟨rfl,rfl⟩:=l;have D:=h.own_uq;rcases h.own_inv with⟨e,rfl,_⟩|⟨e,E,h2,T,C,B⟩;·simp at y
   ·rw[u]at e;injection e with r O S;injection r with r;injection r with r G _;subst r;subst G;cases q' with
    |any=>cases n
    |flat=>exact flat rfl B (let⟨_,g,n,_⟩:=C;⟨g,λi j z A=>(n i j z A).1⟩)
    |clean=>exact(D rfl J).mono (λm H=>⟨b,by simp[eJ,bF],E,H.1⟩) (λ_ _ _=>rfl) (λ_ _ _=>rfl)
  ·cases l
 |view b s' q' xs=>
  simp only[fE]at l;split at l
  ·rename_i p;subst p;simp only[aK,Prod.mk.injEq]at l;obtain⟨rfl,rfl⟩:=l;subst u;have D:=h.view_uq;rcases h.view_inv with⟨Z,t,e,rfl⟩|⟨Y,I,e,E,u,T,_,C,B⟩;·simp at y
   ·injection e with r O S;injection r with r;injection r with r G _;subst r;subst G;cases q' with
    |any=>cases n
    |flat=>exact flat rfl B (let⟨_,g,n,_⟩:=C;⟨g,λi j z A=>(n i j z A).1⟩)
    |clean=>exact(D rfl J).mono (λm H=>⟨b,by simp[eJ,bF],E,H.1⟩) (λ_ _ _=>rfl) (λ_ _ _=>rfl)
  ·cases l
 |_=>cases l
theorem Sim.ownNil {s:Nat}{q:Q}{esc:List Nat}{m:Bool}(hs:Sim Γ st a w)(v:d<1000)(r:st.freeD d=true) :
  Sims Γ ((({ st with t:=st.t.set d (.own (base d 0) s q []) }:St).kill esc).mark m) (a.put (some d) (.slice none 0 0)) w:=by
 let Γ':Ctx:={ Γ with has:=λb=>Γ.has b/\b/1000≠d };have g:=hs.good;refine⟨Γ',⟨rfl,rfl,rfl,rfl,rfl,λ_ _=>rfl⟩,Sim.extend (p:=λb=>b/1000==d) hs (λ_ _=>rfl) (λh=>h) (λk i=>i) (λ_ h=>h) (λb e=>?_) (λ_ h=>h) (λ_=>rfl) (kN r) (og r) ?_ ?_ (λh _=>hs.du h) (λu b n e f _ x _ o j m=>hs.nd u b n e.1 f.1 x o j m) ?_⟩
 ·have e:b/1000≠d:=by simpa using e
  exact⟨⟨λh=>h.1,λh=>⟨h,e⟩⟩,λ_=>⟨rfl,rfl,rfl,rfl,rfl,λ_ h=>h⟩⟩
 ·exact⟨g.os,g.tape,g.output,g.size,g.old,g.new,g.slt,λb e=>g.base b e.1,λb n e f=>g.baseInj b n e.1 f.1,g.box,g.boxInj,λb k e i=>g.baseBox b k e.1 i,g.sr,g.gl,λb e=>g.bz b e.1,g.zf,λb e=>g.ns b e.1,λh=>g.h9 h.1⟩
 ·intro b e _ l;exact hs.nds b e.1 l
 ·exact .ownNil _ s q (λh=>h.2 (hO v (by omega)))
theorem oS (hA:ay P c)(hs:Sim Γ st a w){o:Oper}{args:Array Operand}{ts:Array TypeId}{v:V}{esc:List Nat}{m:Nat}(ho:o.op = .call ⟨.builtin .append,args,ts⟩)
  (h:aF c den (ev st.t) η d o.op=some (.fresh v esc m)) (hd:d<1000) (hf:m=0\/st.freeD d=true) :
  ∃x w',(execOp a.eval o).run P w = .ok (.value x) w'/\Sims Γ ((({ st with t:=st.t.set d v }:St).kill esc).mark (!aR st.dead esc)) (a.put (some d) x) w' /\ ∀k,k<w.heap.size->w'.heap[k]?=w.heap[k]?:=by
 rw[ho]at h;simp only[aF]at h;split at h
 ·rename_i x y t t' hx ht2;obtain rfl:=BW hx;obtain rfl:=BW ht2;split at h
  ·rename_i e sz by_ z0 cm nz_ qz_ ht;split at h
   ·rename_i i hi hxv;split at h
    ·rename_i q ys hsrc;split at h
     ·rename_i hc;obtain⟨rfl,hne,hb1,hb2⟩:=hc;simp only[aK,Out.fresh.injEq]at h;obtain⟨rfl,rfl,rfl⟩:=h;have hf:st.freeD d=true:=hf.resolve_left (by omega);obtain⟨tt,at_⟩:=hA _ _ ht;obtain⟨ti,ai⟩:=hA _ _ hi;obtain⟨z,hz,hz1,hz2,hz3,hz4⟩:=ai.zero;have hzs:z.cells.size=i.size:=by rw[<-ai.zsz,<-hz2];simp
      have hxr:=hs.ev x;rw[hxv]at hxr;have ex:=hxr.nil_inv;rcases yy hs.good (hs.ev y) hsrc with⟨rfl,ad,cap,ey⟩|⟨k,o',cap,news,ey,hl,hn1,hn2,hn3,hn4⟩
      ·have hsim:=Sim.ownNil (s:=i.size) (q:=q.join i.qz) (esc:=eJ q (ev st.t y)) (m:=!aR st.dead (eJ q (ev st.t y))) hs hd hf;refine⟨_,w,?_,hsim,λ_ _=>rfl⟩;have hfc:(Builtin.firstCells ti.size 0 (.slice ad 0 cap)).run P w = .ok #[] w:=by
        cases ad with
        |none=>exact run_firstCells_none _ _ _ _ _
        |some b=>exact run_firstCells_some w ti.size 0 b 0 cap [] (by simp) (λj v h=>by simp at h)
       simp[execOp,ho,ex,ey,resolve,invoke,builtin,Builtin.append_,run_underlying (at_.slice e rfl),sizeOf,typeInfo,ai.info,hz,zeroValue,Builtin.lenOf,hfc]
      ·have hadd:∀n,(⟨k,o',none⟩:Addr).add n=⟨k,o'+n,none⟩:=by intro n;simp[Addr.add]
       have hr:=run_append_nil (P:=P) w t' o.type e ti z (at_.slice e rfl) ai.info hz ⟨k,o',none⟩ ys.length cap news (by rw[ai.size];exact hn1) (λj v hv=>by rw[hadd];exact(hn2 j v hv).1) hl (by omega) (by rw[ai.bytes];omega);have hge:=grownCap_ge w ys.length 0 e;have hle:=grownCap_le_maxLen w ys.length 0 e (by unfold maxLen;omega);have hsz:(news.toArray++Builtin.zeroCells z.cells (grownCap w ys.length 0 e-ys.length)).size=grownCap w ys.length 0 e*i.size:=by rw[Array.size_append,size_zeroCells,List.size_toArray,hn1,<-hzs,<-Nat.add_mul];congr 1;omega
       have hrows:NewRows Γ w.drew (cB Γ (eJ q (ev st.t y))) i.size q ys (news.toArray++Builtin.zeroCells z.cells (grownCap w ys.length 0 e-ys.length)):=by refine⟨hn3,λii x jj u hx hu=>?_⟩;obtain⟨zz,h1,h2,h3,h4,h5⟩:=hn4 ii x jj u hx hu;have hlt:=(bW h1).1;have hrm:∀{S1 S2:Nat->Prop} {u:V} {v:Value},(∀k,S1 k->S2 k)->Rd w S1 u v->Rd w.drew S2 u v:=λhS h=>Rd.mono (w:=w) (w':=w.drew) hS (λ_ _ _=>rfl) h;refine⟨zz,?_,h2,hrm (λ_ h=>.inl h) h3,λhg=>hrm (λ_ h=>⟨.inl h.1,h.2⟩) (h4 hg),h5⟩;rw[Array.getElem?_append_left (by simpa using hlt)];simpa using h1
       have htr:(q.join i.qz).good=true->Γ.U->aR st.dead (eJ q (ev st.t y))=true->NewTr Γ w.drew (eJ q (ev st.t y)) i.size ys (news.toArray++Builtin.zeroCells z.cells (grownCap w ys.length 0 e-ys.length)):=λhq hU _=>by
        obtain⟨gg,T,t1,t2,t3,t4⟩:=Fb hs (hs.ev y) hsrc (ar hq).1 hU k o' cap ey hl;refine NewTr.drew ⟨T,λii x jj u v hx hu hv=>?_,t3,λii jj m hm=>(let⟨b,b1,b2,b3⟩:=t4 ii jj m hm;⟨b,b1,b2,.inr b3⟩)⟩;obtain⟨zz,h1,_⟩:=hn4 ii x jj u hx hu;have hlt:=(bW h1).1;rw[Array.getElem?_append_left (by simpa using hlt)]at hv;have e5:v=zz:=by rw[List.getElem?_toArray,h1]at hv;injection hv with hv;exact hv.symm
        have hi:=(bW hx).1;have hj:jj<i.size:=by rw[<-hn3 x (aA hx)];exact(bW hu).1
        have c1:=t1 ii jj hi hj;rw[Nat.add_assoc,(hn2 _ zz h1).1]at c1;injection c1 with c1;rw[e5,c1];exact t2 ii x jj u hx hu
       have hsim:=Sim.newOwn (q:=q.join i.qz) (e:=e) (n:=grownCap w ys.length 0 e) hs.drew hd hf hge (Nat.le_of_eq hsz.symm) hle (NewRows.join (p:=i.qz) hrows) htr;refine⟨_,_,?_,hsim,λk hk=>aE w.drew _ hk⟩;simp[execOp,ho,ex,ey,resolve,invoke,builtin,hr]
     ·cases h
    ·cases h
   ·cases h
  ·cases h
 ·cases h
end
end Go.Am
end
section
namespace Go.Am
open Go Go.RowKit
section
variable {P:Program}{c:Cfg}{Γ Γ':Ctx}{st:St}{a:Act}{w w':World}{den:Nat->List V->Option V}{η:Nat->Option V}{d:Nat}
theorem aN (f:V->Option V):∀(l:List V) (i:Nat),(V.mapBs f l)[i]?=(l[i]?).map (V.mapB f):=by
 intro l;induction l with
 |nil=>intro i;rfl
 |cons v l b=>
  intro i;rw[V.mapBs];cases i with
  |zero=>rfl
  |succ i=>simpa using b i
theorem aS (f:V->Option V):∀(l:List V),(V.mapBs f l).length=l.length:=by
 intro l;induction l with
 |nil=>rfl
 |cons v l b=>rw[V.mapBs,List.length_cons,b,List.length_cons]
theorem kQ (f:V->Option V):∀(l:List (Option V)) (i:Nat),(jz f l)[i]?=(l[i]?).map (Option.map (V.mapB f)):=by
 intro l;induction l with
 |nil=>intro i;rfl
 |cons v l b =>intro i;cases v<;>cases i<;>simp[jz,b]
theorem cU (f:V->Option V)(e:∀v u,f v=some u->u.cells=[u])(v:V):(v.mapB f).cells=V.mapBs f v.cells:=by
 have b:∀u:V,u.cells=[u]->((f u).getD u).cells=[(f u).getD u]:=by
  intro u g;cases h:f u with
  |none=>exact g
  |some z=>exact e u z h
 cases v<;>first|rfl|(simp only[V.cells,V.mapB,V.mapBs];exact b _ rfl)
def mz (Γ Γ':Ctx)(w w':World)(f:V->Option V):Prop:=∀v x,(match v with
 |.agg _=>False
 |.tup _=>False
 |.clo _ _=>False
 |_=>True)->VR Γ w v x->VR Γ' w' ((f v).getD v) x
theorem VR.sweep {f:V->Option V}(j:mz Γ Γ' w w' f)(v:V):∀x,VR Γ w v x->VR Γ' w' (v.mapB f) x:=by
 refine V.rec (motive_1:=λv=>∀x,VR Γ w v x->VR Γ' w' (v.mapB f) x) (motive_2:=λl=>∀(i:Nat) (u:V) (x:Value),l[i]?=some u->VR Γ w u x->VR Γ' w' (u.mapB f) x)
  ?_ ?_ ?_ ?_ ?_ ?_ ?_ ?_ ?_ ?_ ?_ ?_ ?_ ?_ ?_ ?_ ?_ v
 ·intro x h;exact j _ _ trivial h
 ·intro _ x h;exact j _ _ trivial h
 ·intro _ _ x h;exact j _ _ trivial h
 ·intro _ x h;exact j _ _ trivial h
 ·intro x h;exact j _ _ trivial h
 ·intro _ _ _ _ x h;exact j _ _ trivial h
 ·intro _ _ _ _ _ x h;exact j _ _ trivial h
 ·intro _ _ _ _ _ x h;exact j _ _ trivial h
 ·intro _ _ x h;exact j _ _ trivial h
 ·intro _ _ _ _ _ _ _ x h;exact j _ _ trivial h
 ·intro _ _ _ _ x h;exact j _ _ trivial h
 ·intro _ _ _ x h;exact j _ _ trivial h
 ·intro cs m x h;obtain⟨vs,rfl,n,o⟩:=h.agg_inv;refine .agg _ vs (by rw[aS];exact n) (λi c v b k=>?_);rw[aN]at b;cases e:cs[i]? with
  |none=>rw[e]at b;cases b
  |some u =>rw[e]at b;simp only[Option.map_some,aK]at b;subst b;exact m i u v e (o i u v e k)
 ·intro cs m x h;obtain⟨vs,rfl,n,o⟩:=h.tup_inv;refine .tup _ vs (by rw[aS];exact n) (λi c v b k=>?_);rw[aN]at b;cases e:cs[i]? with
  |none=>rw[e]at b;cases b
  |some u =>rw[e]at b;simp only[Option.map_some,aK]at b;subst b;exact m i u v e (o i u v e k)
 ·intro g cs m x h;obtain⟨vs,rfl,n,o⟩:=h.clo_inv;refine .clo _ _ vs (by rw[aS];exact n) (λi c v b k=>?_);rw[aN]at b;cases e:cs[i]? with
  |none=>rw[e]at b;cases b
  |some u =>rw[e]at b;simp only[Option.map_some,aK]at b;subst b;exact m i u v e (o i u v e k)
 ·intro i u x h;simp at h
 ·intro v l q j i u x h p;cases i with
  |zero =>simp only[List.getElem?_cons_zero,aK]at h;subst h;exact q x p
  |succ i=>exact j i u x (by simpa using h) p
theorem Sim.sweep {f:V->Option V}{dead:Nat->Bool}{dup:Bool}(hs:Sim Γ st a w)(E:mz Γ Γ' w w' f)(F:∀v u,f v=some u->u.cells=[u])(K:Good Γ' w')(s:∀k,Γ.lb k->Γ'.lb k)(n:∀k,Γ'.box k=Γ.box k)
  (J:∀k,Γ.lb k->w'.heap[Γ.box k]?=w.heap[Γ.box k]?) (H:∀b,Γ'.has b->dead b=false -> ¬Γ'.S (Γ'.blk b))
  (q:dup=false->Γ'.U) (D:Γ'.U -> ∀b o,Γ'.has b->Γ'.has o->dead b=false->dead o=false->b≠o -> ∀m,Γ'.N b m->Γ'.N o m->False) (B:Γ'.nt=Γ.nt:=by rfl):Sim Γ' { st.sweep f with dead:=dead,dup:=dup } a w':=by
 refine⟨K,hs.dz,?_,λi v h=>?_,λk v h=>?_,H,q,D,by rw[B,<-hs.nt];exact aS f st.t⟩;·show _=(V.mapBs f st.t).length;rw[aS];exact hs.len
 ·change (V.mapBs f st.t)[i]?=some v at h;rw[aN]at h;cases g:st.t[i]? with
  |none=>rw[g]at h;cases h
  |some u =>rw[g]at h;simp only[Option.map_some,aK]at h;subst h;obtain⟨x,p,A⟩:=hs.tm i u g;exact⟨x,p,VR.sweep E u x A⟩
 ·change (jz f st.h)[k]?=some (some v)at h;rw[kQ]at h;cases g:st.h[k]? with
  |none=>rw[g]at h;cases h
  |some M=>
   cases M with
   |none=>rw[g]at h;cases h
   |some u=>
    rw[g]at h;simp only[Option.map_some,aK]at h;subst h;obtain⟨p,C,e,A,L,I⟩:=hs.bx k u g;refine⟨s k p,C,e,by rw[n,J k p];exact A,?_,λj z l=>?_⟩;·rw[cU f F,aS];exact L
    ·rw[cU f F,aN]at l;cases r:u.cells[j]? with
     |none=>rw[r]at l;cases l
     |some y =>rw[r]at l;simp only[Option.map_some,aK]at l;subst l;obtain⟨x,O,G⟩:=I j y r;exact⟨x,O,VR.sweep E y x G⟩
theorem jm:∀{cs:List V},cI cs=true -> ∀c∈cs,c.isCell=true:=by
 intro cs;induction cs with
 |nil=>intro _ c b;cases b
 |cons v vs e=>
  intro h c b;rw[cI,Bool.and_eq_true]at h;rcases List.mem_cons.1 b with rfl|b;·exact h.1
  ·exact e h.2 c b
theorem pK {v:V}{x:Value}(h:VR Γ w v x)(b:v.isCell=true):x.oneCell'=true:=by
 cases h with
 |rd _ _ h=>cases h<;>first|rfl|cases b
 |agg=>cases b
 |tup=>cases b
 |_=>rfl
theorem uH {v:V}(b:v.isCell=true):v.cells=[v]:=by cases v<;>first|rfl|cases b
theorem fd {v:V}(b:cI v.cells=true):v.isDef=true:=by cases v<;>first|rfl|cases b
theorem iz (P:Program)(w:World)(g o:Nat)(t:TypeId)(h:TypeId)(f:TypeInfo)(b:Array Value)(x:Value)(i:w.heap[g]?=some (.cells b t (0,0)))(k:P.info? h=some f)
  (hs:x.cells.size=f.size) (e:o+x.cells.size<=b.size) (j:∀v∈x.cells.toList,v.oneCell'=true) :
  (Instr.storeAt h (.pointer (some ⟨g,o,none⟩)) x).run P w = .ok () (w.setRow g (b.toList.take o++x.cells.toList++b.toList.drop (o+x.cells.size)).toArray):=by have:=run_storeCells_at P g o t x.cells.toList 0 b w i (by simpa using e) j;simp only[Nat.add_zero,Array.length_toList]at this;rw[hs]at this;simp[Instr.storeAt,Instr.sureAddr,storeVar,sizeOf,typeInfo,k,hs,this]
theorem uY {α:Type}(l b:List α)(o j:Nat)(h:o+b.length<=l.length):(l.take o++b++l.drop (o+b.length))[j]?=if o<=j/\j<o+b.length then b[j-o]? else l[j]?:=by
 rcases Nat.lt_or_ge j o with e|e;·rw[List.append_assoc,List.getElem?_append_left (by rw[List.length_take];omega),List.getElem?_take_of_lt e,if_neg (by omega)]
 ·rcases Nat.lt_or_ge j (o+b.length)with f|f;·rw[List.append_assoc,List.getElem?_append_right (by rw[List.length_take];omega),List.getElem?_append_left (by rw[List.length_take];omega),if_pos ⟨e,f⟩,List.length_take,Nat.min_eq_left (by omega)]
  ·rw[List.getElem?_append_right (by rw[List.length_append,List.length_take];omega),List.getElem?_drop,List.length_append,List.length_take,if_neg (by omega)];congr 1;omega
theorem uZ {α:Type}(l b:List α)(o:Nat)(h:o+b.length<=l.length):(l.take o++b++l.drop (o+b.length)).length=l.length:=by simp only[List.length_append,List.length_take,List.length_drop];omega
theorem VR.setRow {v:V}{x:Value}{g:Nat}{cs:Array Value}{p:Nat->Bool}(h:VR Γ w v x)(l:¬Γ.S g)(i:∀b,p b=false->Γ.has b->Γ.blk b≠g)(m:v.anyB p=false):VR Γ (w.setRow g cs) v x:=by
 refine VR.mono (Γ:=Γ) (Γ':=Γ) (w:=w) (w':=w.setRow g cs) (p:=p) (r:=λ_=>false) (λh=>h) (λ_ h=>h) (λ_ h=>h) (λk j=>cell?_of_heap (setRow_other w g k cs (λe=>l (e▸j))))
  (λb f=>⟨Iff.rfl,λhh=>⟨rfl,rfl,rfl,rfl,rfl,λ_ h=>h,cell?_of_heap (setRow_other w g _ cs (i b f hh))⟩⟩) (λ_ _=>⟨λh=>h,rfl⟩) h m (cS _)
theorem gi {r:V}{cs:List V}(e:cs.length=r.cells.length)(f:∀c∈cs,c.isCell=true\/c∈r.cells):(gM r cs).cells=cs:=by
 cases r with
 |agg _=>rfl
 |_=>
  cases cs with
  |nil=>simp[V.cells]at e
  |cons u b=>
   obtain rfl:b=[]:=by cases b with
    |nil=>rfl
    |cons _ _=>simp[V.cells]at e
   show u.cells=[u];rcases f u (by simp)with h|h;·exact uH h
   ·simp only[V.cells,List.mem_singleton]at h;subst h;rfl
theorem Sim.putBox {b o:Nat}{r v:V}{x:Value}{cs:List V}(hs:Sim Γ st a w)(L:st.h.getD b none=some r)(Z:over r.cells o v.cells=some cs)(hv:VR Γ w v x)(hc:cI v.cells=true) :
  ∃f e,w.heap[Γ.box b]?=some (.cells f e (0,0))/\o+x.cells.size<=f.size /\
   Sim Γ { st with h:=st.h.set b (some (gM r cs)) } a (w.setRow (Γ.box b) (f.toList.take o++x.cells.toList++f.toList.drop (o+x.cells.size)).toArray):=by
 have X:st.h[b]?=some (some r):=by
  rw[List.getD_eq_getElem?_getD]at L;cases h:st.h[b]? with
  |none=>rw[h]at L;cases L
  |some y=>rw[h]at L;exact congrArg _ L
 obtain⟨J,f,e,W,h3,h4⟩:=hs.bx b r X;have F:=hv.cellLen (fd hc);have U:=hv.cells F;obtain⟨l1,l2⟩:=pY Z;have E:o+x.cells.size<=f.size:=by omega
 refine⟨f,e,W,E,?_⟩;have A:o+x.cells.toList.length<=f.toList.length:=by simpa using E
 have hS:=(hs.good.box b J).2.1;have l:∀{u:V} {y:Value} (q:Array Value),VR Γ w u y->VR Γ (w.setRow (Γ.box b) q) u y:=λq h=>h.setRow (p:=λ_=>false) hS (λR _ hh=>hs.good.baseBox R b hh J) (bN _);have g:=hs.good;have n:∀(k:Nat) (q:Array Value),k≠Γ.box b->(w.setRow (Γ.box b) q).heap[k]?=w.heap[k]?:=λk q C=>setRow_other w _ k q C;have K:∀c∈cs,c.isCell=true\/c∈r.cells:=by
  intro u s;obtain⟨j,S⟩:=List.getElem?_of_mem s;rw[fi Z j]at S;split at S;·exact .inl (jm hc u (aA S))
  ·exact .inr (aA S)
 refine⟨⟨g.os,g.tape,g.output,by rw[setRow_size];exact g.size,λk C hF=>?_,g.new,λk C=>by rw[setRow_size];exact g.slt k C,λR Q=>?_,g.baseInj,λk C=>?_,g.boxInj,g.baseBox,g.sr,g.gl,g.bz,λk C=>?zf,g.ns,g.h9⟩,hs.dz,hs.len,λi u s=>?_,λk u s=>?_,hs.nds,hs.du,hs.nd,hs.nt⟩
 case zf=>
  obtain⟨z1,z2,m,N,h'⟩:=g.zf k C;refine⟨z1,by rw[setRow_size];exact z2,?_⟩;by_cases M:k=Γ.box b;·subst M;exact⟨_,e,setRow_heap w _ f _ e _ W⟩
  ·exact⟨m,N,(n k _ M).trans h'⟩
 ·exact(n k _ (λe=>hF (e▸(g.box b J).1))).trans (g.old k C hF)
 ·obtain⟨B,t,O,m,N,Y,T⟩:=g.base R Q;exact⟨B,by rw[setRow_size];exact t,O,m,N,(n _ _ (g.baseBox R b Q J)).trans Y,T⟩
 ·obtain⟨B,t,O⟩:=g.box k C;exact⟨B,t,by rw[setRow_size];exact O⟩
 ·obtain⟨y,B,t⟩:=hs.tm i u s;exact⟨y,B,l _ t⟩
 ·simp only at s;rw[List.getElem?_set]at s;split at s
  ·rename_i I;subst I;split at s
   ·simp only[aK]at s;subst s;refine⟨J,_,e,setRow_heap w _ f _ e _ W,?_,λj z G=>?_⟩;·rw[gi l1 K];have:=uZ f.toList x.cells.toList o A;simp only[Array.length_toList]at this;rw[l1,h3];exact this.symm
    ·rw[gi l1 K,fi Z]at G;have D:=uY f.toList x.cells.toList o j A;simp only[Array.length_toList]at D;rw[List.getElem?_toArray,D];rw[F]at G;split at G;·rename_i H;rw[if_pos H];obtain⟨y,B,t⟩:=U _ z G;exact⟨y,by simpa using B,l _ t⟩
     ·rename_i H;rw[if_neg H];obtain⟨y,B,t⟩:=h4 j z G;exact⟨y,by simpa using B,l _ t⟩
   ·cases s
  ·rename_i I;obtain⟨e0,m,N,B,t,O⟩:=hs.bx k u s;refine⟨e0,m,N,(n _ _ (λe=>I (g.boxInj k b e0 J e).symm)).trans B,t,λj z G=>?_⟩;obtain⟨y,Y,T⟩:=O j z G;exact⟨y,Y,l _ T⟩
theorem pv (hA:ay P c)(hs:Sim Γ st a w){o:Oper}{t:TypeId}{ad x:Operand}{i:TyInfo}{b off:Nat}{r:V}{cs:List V}(ho:o.op = .store t ad x)(hi:c.ty t=some i)
  (hl:(ev st.t x).cells.length=i.size) (hc:cI (ev st.t x).cells=true) (hd:o.dst=none) (had:ev st.t ad = .ptr b off) (hb:st.h.getD b none=some r) (hov:over r.cells off (ev st.t x).cells=some cs) :
  ∃w',(execOp a.eval o).run P w = .ok .skip w'/\Sims Γ { st with h:=st.h.set b (some (gM r cs)) } (a.put o.dst undef) w' /\ ∀k,(∀p,a.eval ad = .pointer (some p)->p.block≠k)->w'.heap[k]?=w.heap[k]?:=by
 obtain⟨ti,ai⟩:=hA _ _ hi;have hv:=hs.ev x;have hp:=hs.ev ad;rw[had]at hp;obtain⟨e1,hlb⟩:=hp.ptr_inv;obtain⟨cur,e,h1,h2,h3⟩:=hs.putBox hb hov hv hc;have hlen:=hv.cellLen (fd hc);have hone:∀v∈(a.eval x).cells.toList,v.oneCell'=true:=by
  intro v hv';obtain⟨j,hj⟩:=List.getElem?_of_mem hv';obtain⟨u,hu⟩:∃u,(ev st.t x).cells[j]?=some u:=⟨_,List.getElem?_eq_getElem (by rw[hlen];simpa using(bW hj).1)⟩;obtain⟨y,e1,e2⟩:=hv.cells hlen j u hu;have:y=v:=by simpa[e1]using hj
  subst this;exact pK e2 (jm hc u (aA hu))
 have hr:=iz P w (Γ.box b) off e t ti cur (a.eval x) h1 ai.info (by rw[ai.size,<-hl,hlen]) h2 hone;refine⟨_,?_,⟨Γ,⟨rfl,rfl,rfl,rfl,rfl,λ_ _=>rfl⟩,by rw[hd];exact h3⟩,λk hk=>setRow_other w _ k _ λe=>hk _ e1 e.symm⟩;simp[execOp,ho,e1,hr]
end
end Go.Am
end
