/-
  Proved: lemmas for Rows.FnFormatsCardSaid.
-/
import Derived.Test.YtmkhgngckgcpeaaGreatDooruAmAny
import Derived.ChangeKeysEq
set_option linter.all false
section
namespace Go.Am
open Go Go.RowKit
section
variable {P:Program}{c:Cfg}{Γ Γ':Ctx}{st:St}{a:Act}{w w':World}{den:Nat->List V->Option V}{η:Nat->Option V}{d:Nat}
def Ex.to:Ex->Exit
 |.normal=>.normal
 |.exit i=>.exit i
 |.ret=>.ret
theorem gK {p:Nat->Prop}(h:∃n,p n):∃n,p n /\ ∀m,p m->n<=m:=by
 obtain⟨n,g⟩:=h;induction n using Nat.strongRecOn with
 |_ n f=>
  by_cases h:∃m,m<n/\p m;·obtain⟨m,b,i⟩:=h;exact f m b i
  ·refine⟨n,g,λm e=>?_⟩;rcases Nat.lt_or_ge m n with b|b;·exact absurd ⟨m,b,e⟩ h
   ·exact b
open Classical in
theorem Jw {n:Code}{f:St->Option (Ex×St)}{r:St->St}{Γ:Ctx}{st:St}{a:Act}{w:World}{ex:Ex}{st':St}{k:Nat}{Q:Exit->Act->World->Prop}(hs:Sims Γ st a w)(h:bw f r k st=some (ex,st'))
  (D:∀(Γ':Ctx) (s:St) (a:Act) (w:World) (ex:Ex) (s':St) (Q:Exit->Act->World->Prop),Same Γ Γ'->Sim Γ' s a w->f s=some (ex,s')->(∀m w',Sims Γ' s' m w'->Q ex.to m w')->n.wp P Q a w)
  (y:∀(Γ':Ctx) (s:St) (a:Act) (w:World),Sim Γ' s a w->Sims Γ' (r s) a w) (B:∀m w',Sims Γ st' m w'->Q ex.to m w'):(Code.loop n).wp P Q a w:=by
 let I:Nat->Act->World->Prop:=λj a w=>∃s,Sims Γ s a w/\bw f r j s=some (ex,st');refine wp_loop (λa w=>∃j,I j a w) (λa w=>if h:∃j,I j a w then(gK h).choose else 0) ⟨k,st,hs,h⟩ (λa w A=>?_);obtain⟨s,v,g⟩:=(gK A).choose_spec.1;cases t:(gK A).choose with
 |zero=>rw[t,bw]at g;cases g
 |succ j=>
  rw[t,bw]at g;obtain⟨F,l,x⟩:=v;obtain⟨E,b,hs3⟩:=y F s a w x;cases u:f (r s)with
  |none=>rw[u]at g;cases g
  |some z=>
   obtain⟨e,s'⟩:=z;rw[u]at g;refine D E (r s) a w e s' _ (l.trans b) hs3 u (λm w' C=>?_);have o:Sims Γ s' m w':=Sims.of l (Sims.of b C);cases e with
   |normal =>have p:I j m w':=⟨s',o,g⟩;refine⟨⟨j,p⟩,?_⟩;have q:∃j,I j m w':=⟨j,p⟩;show(if h:∃j,I j m w' then(gK h).choose else 0)<(if h:∃j,I j a w then(gK h).choose else 0);rw[dif_pos q,dif_pos A,t];exact Nat.lt_succ_of_le ((gK q).choose_spec.2 j p)
   |exit i =>simp only[aK,Prod.mk.injEq]at g;obtain⟨rfl,rfl⟩:=g;exact B _ _ o
   |ret =>simp only[aK,Prod.mk.injEq]at g;obtain⟨rfl,rfl⟩:=g;exact B _ _ o
theorem lz (K:ay P c)(L:mJ P c)(M:bE P den)(N:cZ P c den)(R:P.follows .mixedOrders=true){k:Nat}{g:xn}:∀(m:Code) (Γ:Ctx) (st:St) (a:Act) (w:World) (ex:Ex) (st':St) (Q:Exit->Act->World->Prop),Sim Γ st a w->cJ m=true->(fm g m=true -> ∀k,¬Γ.Y k) ->
  bG c den (λb C st=>bw b C k st) g m st=some (ex,st')->(∀D w',Sims Γ st' D w'->Q ex.to D w')->m.wp P Q a w:=by
 intro m;induction m with
 |skip =>intro Γ st a w ex st' Q hs j n h l;simp only[bG,aK,Prod.mk.injEq]at h;obtain⟨rfl,rfl⟩:=h;exact wp_skip (l a w ⟨Γ,Same.rfl',hs⟩)
 |region t ops E=>
  intro Γ st a w ex st' Q hs j n h l;simp only[bG]at h;cases E with
  |true=>
   simp only[if_true]at h;cases B:aV c den ops (iD c ops (g (3000+t)).1 (gL ops)) (st.head (zk ops,(g (2000+t)).2))with
   |none=>rw[B]at h;cases h
   |some s =>rw[B]at h;simp only[Option.map_some,aK,Prod.mk.injEq]at h;obtain⟨rfl,rfl⟩:=h;obtain⟨Γ',f,q⟩:=hs.head (zk ops,(g (2000+t)).2);exact D8 K (λI=>by rw[f.2.2.2.1];exact n (by simpa[fm,List.isEmpty_iff]using I)) L R M N q (by simpa[cJ]using j) B (λa2 w2 A=>l _ _ (Sims.of f A))
  |false=>
   simp only[Bool.false_eq_true,if_false]at h;cases B:aV c den ops (wj ops) (st.headW (g (2000+t)).2)with
   |none=>rw[B]at h;cases h
   |some s=>
    rw[B]at h;simp only[Option.map_some,aK,Prod.mk.injEq]at h;obtain⟨rfl,rfl⟩:=h;obtain⟨Γ',f,q⟩:Sims Γ (st.headW (g (2000+t)).2) a w:=by
     unfold St.headW;split;·exact⟨Γ,Same.rfl',hs⟩
     ·exact hs.head _
    exact wp_region_list (by have:=yv K L M N _ Γ' _ a w s q (λz O=>by obtain⟨o,_,rfl⟩:=List.mem_map.1 O;rfl) B (λa2 w2 A=>l _ _ (Sims.of f A));rwa[show(wj ops).map (·.1)=ops.toList by simp[wj,Function.comp_def]]at this)
 |seq x y H v=>
  intro Γ st a w ex st' Q hs j n h l;simp only[bG]at h;cases p:bG c den (λb C st=>bw b C k st) g x st with
  |none=>rw[p]at h;cases h
  |some z=>
   obtain⟨e,s⟩:=z;rw[p]at h;rw[cJ,Bool.and_eq_true]at j;refine wp_seq (H Γ st a w e s _ hs j.1 (λh=>n (by simp[fm,h])) p (λD w' r=>?_));cases e with
   |normal =>obtain⟨Γ',f,q⟩:=r;exact v Γ' s D w' ex st' Q q j.2 (λh=>by rw[f.2.2.2.1];exact n (by simp[fm,h])) h (λa2 w2 A=>l _ _ (Sims.of f A))
   |exit i =>simp only[aK,Prod.mk.injEq]at h;obtain⟨rfl,rfl⟩:=h;exact l _ _ r
   |ret =>simp only[aK,Prod.mk.injEq]at h;obtain⟨rfl,rfl⟩:=h;exact l _ _ r
 |cond x y z v G=>
  intro Γ st a w ex st' Q hs j n h l;simp only[bG]at h;have F:=hs.ev x;rw[cJ,Bool.and_eq_true]at j;split at h;·rename_i p;rw[p]at F;exact wp_cond_true F.bool_inv (v Γ st a w ex st' Q hs j.1 (λh=>n (by simp[fm,h])) h l)
  ·rename_i p;rw[p]at F;exact wp_cond_false F.bool_inv (G Γ st a w ex st' Q hs j.2 (λh=>n (by simp[fm,h])) h l)
  ·cases h
 |block t y J=>
  intro Γ st a w ex st' Q hs j n h l;simp only[bG]at h;cases p:bG c den (λb C st=>bw b C k st) g y st with
  |none=>rw[p]at h;cases h
  |some z=>
   obtain⟨e,s⟩:=z;rw[p]at h;refine wp_block (J Γ st a w e s _ hs j n p (λD w' r=>?_));cases e with
   |normal =>simp only[aK,Prod.mk.injEq]at h;obtain⟨rfl,rfl⟩:=h;exact l _ _ r
   |exit i=>
    simp only at h;show(if i=t then _ else _);split at h;·rename_i u;rw[if_pos u];simp only[aK,Prod.mk.injEq]at h;obtain⟨rfl,rfl⟩:=h;exact l _ _ r
    ·rename_i u;rw[if_neg u];simp only[aK,Prod.mk.injEq]at h;obtain⟨rfl,rfl⟩:=h;exact l _ _ r
   |ret =>simp only[aK,Prod.mk.injEq]at h;obtain⟨rfl,rfl⟩:=h;exact l _ _ r
 |loop y J=>
  intro Γ st a w ex st' Q hs j n h l;simp only[bG]at h;cases u:bw (bG c den (λb C st=>bw b C k st) g y) (λs=>s.head ((g (aM y)).1,(g (aM y)).2)) k st with
  |none=>rw[u]at h;cases h
  |some z=>
   rw[u]at h;simp only[Option.map_some,aK,Prod.mk.injEq]at h;obtain⟨rfl,rfl⟩:=h
   exact Jw (ex:=z.1) (st':=z.2) ⟨Γ,Same.rfl',hs⟩ u (λΓ' s a w ex s' Q f hs h l=>J Γ' s a w ex s' Q hs j (λS=>by rw[f.2.2.2.1];exact n S) h l) (λΓ' s a w hs=>hs.head _)
    (λD w' r=>l D w' (let⟨_,h1,A⟩:=r;Sims.of h1 (A.head _)))
 |exit i =>intro Γ st a w ex st' Q hs j n h l;simp only[bG,aK,Prod.mk.injEq]at h;obtain⟨rfl,rfl⟩:=h;exact wp_exit (l a w ⟨Γ,Same.rfl',hs⟩)
 |ret =>intro Γ st a w ex st' Q hs j n h l;simp only[bG,aK,Prod.mk.injEq]at h;obtain⟨rfl,rfl⟩:=h;exact wp_ret (l a w ⟨Γ,Same.rfl',hs⟩)
 |_ =>intro Γ st a w ex st' Q hs j n h l;simp only[bG]at h;cases h
theorem sc (hA:ay P c)(hs:Sim Γ st a w)(X:∀k,Γ.F k->Γ.w0.heap.size<=k)(hY:∀k,¬Γ.Y k){fn:Func}{zs:List V}{r:V}(h:pE c zs st fn.results.toList=some r) :
  ∃x,(results fn a.tmps).run P w = .ok x w/\Answer Γ.R Γ.w0 r x w:=by
 unfold pE at h;split at h
 ·rename_i vs al;simp only at h;split at h
  ·rename_i aa;obtain⟨ys,ag,hl,hr⟩:=tD hA hs _ vs al;let C:=V.mapBs (bp st.dead) (V.mapBs (coarse st.dup) vs);let l:=(cellsOf C).map bF;let Γ1:=(Γ.coarse st.dup).settled st.dead;have g:Good (Γ.coarse st.dup) w:=hs.good.coarse;have s:Good Γ1 w:=g.settled;have A:∀(i:Nat) (v:V) (y:Value),(V.mapBs (gh l) C)[i]?=some v->ys[i]?=some y->VR (Γ1.placed l) w v y:=by
    intro i v y D Q;rw[aN]at D;cases n:C[i]? with
    |none=>rw[n]at D;cases D
    |some u=>
     rw[n]at D;simp only[Option.map_some,aK]at D;subst D;have U:=n;simp only[C]at n;rw[aN,aN]at n;cases G:vs[i]? with
     |none=>rw[G]at n;cases n
     |some z=>
      rw[G]at n;simp only[Option.map_some,aK]at n;have K:VR Γ1 w u y:=by rw[<-n];exact VR.sweep (gJ g) _ y (VR.sweep (gH hs.du) z y (hr i z y G Q))
      refine VR.sweepC (λv=>∀u∈v.cells,dC u=true /\ ∀b∈bF u,[b]∈l) (λcs h u hu=>?_) (λcs h=>?_) (λ_ cs h=>?_) pP u y (λz K=>⟨kR aa z (df (aA U) K),λb W=>?_⟩) K
      ·have:=h u hu;have ab:u.cells=[u]:=by cases u<;>first|rfl|(exact absurd this.1 (by simp[dC]))
       rw[ab];intro u' ai;rw[List.mem_singleton.1 ai];exact this
      ·exact absurd (h _ (List.mem_singleton.2 rfl)).1 (by simp[dC])
      ·exact absurd (h _ (List.mem_singleton.2 rfl)).1 (by simp[dC])
      ·have:bF z=[b]:=by cases z<;>simp[bF]at W ⊢<;>exact W.symm
       rw[<-this];exact List.mem_map.2 ⟨z,df (aA U) K,rfl⟩
   have A:∀(i:Nat) (v:V) (y:Value),(dU 0 zs (V.mapBs (gh l) C))[i]?=some v->ys[i]?=some y->VR (Γ1.placed l) w v y:=by
    intro i v y D Q;obtain⟨u,j',an,t,rfl,o⟩:=kE _ _ _ _ _ D;refine tC (A i u y t Q) (λk E=>?_);have h4:=o k .nil E;rw[mP]at h4;have h5:=wX h4;rintro⟨b,W,_⟩;have h6:l[j'+k]?=some []:=by show((cellsOf C).map bF)[j'+k]?=some [];rw[List.getElem?_map,h5];rfl
    rw[Nat.zero_add,h6]at W;cases W
   have f:(dU 0 zs (V.mapBs (gh l) C)).length=ys.length:=by rw[nv,aS,aS,aS,hl]
   have L:∃x,(results fn a.tmps).run P w = .ok x w/\VR (Γ1.placed l) w r x:=by
    have T:(results fn a.tmps).run P w = .ok (if h:ys.toArray.size=1 then ys.toArray[0]else .tuple ys.toArray) w:=by unfold results;rw[Array.mapM_eq_mapM_toList];simp only[Sem.run_bind,Sem.run_map,Sem.run_pure];exact congrArg (λq:Result (List Value)=>(q.andThen λa w'=>Result.ok a.toArray w').andThen λa w'=>Result.ok (if h:a.size=1 then a[0]else Value.tuple a) w') ag
    refine⟨_,T,?_⟩
    change (match dU 0 zs (V.mapBs (gh l) C)with
     | [w]=>some w
     |ws=>some (V.tup ws))=some r at h
    cases p:dU 0 zs (V.mapBs (gh l) C)with
    |nil =>rw[p]at h f;simp only[aK]at h;subst h;have:ys=[]:=List.eq_nil_of_length_eq_zero (by simpa using f.symm);subst this;exact .tup [] #[] rfl (λi c v h=>by simp at h)
    |cons u us=>
     cases us with
     |nil=>
      rw[p]at h f;simp only[aK]at h;subst h;cases ys with
      |nil=>simp at f
      |cons y ys =>have:ys=[]:=List.eq_nil_of_length_eq_zero (by simpa using f.symm);subst this;exact A 0 u y (by rw[p];rfl) rfl
     |cons u2 us=>
      rw[p]at h f;simp only[aK]at h;subst h;have t:¬ys.toArray.size=1:=by simp at f;simp;omega
      rw[dif_neg t];refine .tup _ _ (by simpa using f) (λi z y K Q=>A i z y (by rw[p];exact K) (by simpa using Q))
   obtain⟨x,af,ac⟩:=L;refine⟨x,af,⟨g.os,g.tape,g.output,g.size,λk E=>g.old k E (λad=>by have:=X k ad;omega),Γ1.placed l,ac,X,λk E=>⟨?_,s.slt k E⟩,?_,?_,?bz,λk E=>?zf,trivial,?ns,?nd⟩⟩
   case ns =>rintro j ⟨b,t,_,o⟩ m p;change Γ1.N _ m at p;rw[aT t]at p;exact s.ns b o m p
   case nd =>rintro j j' ⟨b,t,h2,o⟩ ⟨O,H,I,B⟩ aj m p J;change Γ1.N _ m at p J;rw[aT t]at p;rw[aT H]at J;exact hs.nd (hs.du p.1) b O o.1 B.1 o.2 B.2 (λe=>aj (by rw[<-h2,<-I,e])) m p.2 J.2
   case bz =>rintro j ⟨b,t,_,o⟩;show Γ1.Z (Γ.blk _);rw[aT t];exact s.bz b o
   case zf =>obtain⟨z1,z2,z3⟩:=s.zf k E;exact⟨X k (z1.resolve_right (hY k)),z2,z3⟩
   ·rcases s.sr k E with h|h;·exact .inl h
    ·exact .inr (X k h)
   ·rintro j ⟨b,t,_,o⟩;show _<=Γ.blk _/\Γ.blk _<_ /\ ¬Γ1.S (Γ.blk _)/\Γ.cap _<=_ /\ ∃ap e,w.heap[Γ.blk _]?=_/\Γ.off _+Γ.cap _*Γ.sz _<=_;rw[aT t];obtain⟨b1,b2,b3,b4⟩:=s.base b o;refine⟨X _ b1,b2,?_,b3,b4⟩;rintro(h|⟨O,ae,M,h⟩);·exact hs.nds b o.1 o.2 h
    ·have:=g.baseInj b O o.1 ae h;subst this;rw[o.2]at M;cases M
   ·rintro j j' ⟨b,t,h2,o⟩ ⟨O,H,I,B⟩ he;change Γ.blk _=Γ.blk _ at he;rw[aT t,aT H]at he;have:=g.baseInj b O o.1 B.1 he;subst this;rw[<-h2,<-I]
  ·cases h
 ·cases h
theorem FX (u:ay P c)(A:mJ P c)(C:bE P den)(E:cZ P c den)(D:P.follows .mixedOrders=true){k f:Nat}{t:Func}{args:List V}{r:V}(J:P.funcs[f]?=some t)(h:iv c den (λb I st=>bw b I k st) f t args=some r)
  {R:Nat->Prop} {w:World} {vals:Array Value} (B:ck w) (L:∀k,R k->k<w.heap.size) (H:args.length=vals.size) (G:∀(i:Nat) (c:V) (v:Value),args[i]?=some c->vals[i]?=some v->Rd w R c v) :
  Calls P f vals w λ
   |.returned x,w'=>Answer R w r x w'
   |_,_=>False:=by
 unfold iv at h;split at h;·cases h
 ·rename_i j q;split at h;·cases h
  rename_i m;have m:cJ j=true:=by simpa using m
  refine calls_of_wp J q ?_;let Γ:Ctx:={ w0:=w,F:=λk=>w.heap.size<=k,S:=R,has:=λ_=>False,blk:=λ_=>0,off:=λ_=>0,cap:=λ_=>0,sz:=λ_=>0,ln:=λ_=>0,lb:=λ_=>False,box:=λ_=>0,R:=R,Z:=λ_=>False,N:=λ_ _=>False,U:=True,nt:=(args++List.replicate (t.ntmps-args.length) V.undef).length };have p:Good Γ w:=⟨rfl,rfl,rfl,Nat.le_refl _,λ_ _ _=>rfl,λ_ h=>h,L,λ_ h=>h.elim,λ_ _ h=>h.elim,λ_ h=>h.elim,λ_ _ h=>h.elim,λ_ _ h=>h.elim,λ_ h=>.inl h,⟨B,λk h=>Nat.le_trans B.2 h⟩,λ_ h=>h.elim,λ_ h=>h.elim,λ_ h=>h.elim,λh=>h⟩;have hs:Sim Γ ⟨args++List.replicate (t.ntmps-args.length) .undef,List.replicate t.ntmps none,λ_=>false,false⟩ { tmps:=vals++Array.replicate (t.ntmps-vals.size) undef,defers:=[] } w:=by
   refine⟨p,rfl,by simp[H],λi v n=>?_,λk v z=>?_,λ_ h=>h.elim,λ_=>trivial,λ_ _ _ h=>h.elim,rfl⟩
   ·simp only at n ⊢;rcases Nat.lt_or_ge i args.length with o|o
    ·rw[List.getElem?_append_left o]at n;have l:i<vals.size:=by omega
     refine⟨vals[i],by rw[Array.getElem?_append_left l];simp[l],.rd _ _ (G i v vals[i] n (by simp[l]))⟩
    ·rw[List.getElem?_append_right o,List.getElem?_replicate]at n;split at n;·rename_i M;simp only[aK]at n;subst n;refine⟨undef,?_,VR.undef_ _⟩;rw[Array.getElem?_append_right (by omega),Array.getElem?_replicate,if_pos (by omega)]
     ·cases n
   ·simp only[List.getElem?_replicate]at z;split at z<;>cases z
  split at h;·rename_i s y;refine lz u A C E D j Γ _ _ w _ s _ hs m (λ_ _ h=>h) y (λK w' ⟨Γ',e,g⟩=>?_);obtain⟨x,o,l⟩:=sc u g (by rw[e.2.1,e.1];exact λ_ h=>h) (by rw[e.2.2.2.1];exact λ_ h=>h) h;rw[e.2.2.1,e.1]at l;exact⟨g.dz,x,o,l⟩
  ·rename_i s y;refine lz u A C E D j Γ _ _ w _ s _ hs m (λ_ _ h=>h) y (λK w' ⟨Γ',e,g⟩=>?_);obtain⟨x,o,l⟩:=sc u g (by rw[e.2.1,e.1];exact λ_ h=>h) (by rw[e.2.2.2.1];exact λ_ h=>h) h;rw[e.2.2.1,e.1]at l;exact⟨g.dz,x,o,l⟩
  ·cases h
theorem Bx:∀{l:List (Option V)} {e:List V},so l=some e -> ∀(k:Nat) (b:V),e[k]?=some b->l[k]?=some (some b):=by
 intro l;induction l with
 |nil=>intro e h k b f;simp only[so,aK]at h;subst h;simp at f
 |cons v l j=>
  intro e h k b f;cases v with
  |none=>cases h
  |some v=>
   simp only[so]at h;cases g:so l with
   |none=>rw[g]at h;cases h
   |some i=>
    rw[g]at h;simp only[Option.map_some,aK]at h;subst h;cases k with
    |zero=>simpa using f
    |succ k=>simpa using j g k b (by simpa using f)
theorem BoxAt.sweep {f:V->Option V}{B:Nat}{v:V}(n:mz Γ Γ' w w f)(l:∀v u,f v=some u->u.cells=[u])(h:BoxAt Γ w B v):BoxAt Γ' w B (v.mapB f):=by
 obtain⟨i,e,o,p,r⟩:=h;have k:=cU f l v;refine⟨i,e,o,by rw[k,aS];exact p,λj z g=>?_⟩;rw[k,aN]at g;cases b:v.cells[j]? with
 |none=>rw[b]at g;cases g
 |some z0 =>rw[b]at g;simp only[Option.map_some,aK]at g;subst g;obtain⟨y,m,q⟩:=r j z0 b;exact⟨y,m,VR.sweep n z0 y q⟩
theorem wB (hA:ay P c){Γ0:Ctx}{w0:World}{s:Io}(hsame:Same Γ0 Γ)(hw0:Γ0.w0=w0)(hnt0:Γ0.nt=s.nt)(hs:Sim Γ st a w){fn:Func}{zs:List V}{r:V}(h:fb c zs st s fn.results.toList=some r) :
  ∃outs,r = .tup outs /\ ∃x,(results fn a.tmps).run P w = .ok x w/\Home Γ0 w0 s outs x w:=by
 unfold fb at h;split at h
 ·rename_i vs hvs;split at h
  ·rename_i vs' bs hres hout;split at h
   ·rename_i hc;obtain⟨hbl,hok⟩:=hc;simp only[aK]at h;refine⟨_,h.symm,?_⟩;obtain⟨ys,hys,hl,hr⟩:=tD hA hs _ vs hvs;have g:Good (Γ.coarse st.dup) w:=hs.good.coarse;let Γ1:=(Γ.coarse st.dup).settled st.dead;have hg1:Good Γ1 w:=g.settled;let V1:=V.mapBs (bp st.dead) (V.mapBs (coarse st.dup) (vs'++bs));have hswept:∀(v:V) (y:Value),VR Γ w v y->VR Γ1 w ((v.mapB (coarse st.dup)).mapB (bp st.dead)) y:=λv y h=>VR.sweep (gJ g) _ y (VR.sweep (gH hs.du) v y h);have hboxed:∀(B:Nat) (v:V),BoxAt Γ w B v->BoxAt Γ1 w B ((v.mapB (coarse st.dup)).mapB (bp st.dead)):=λB v h=>BoxAt.sweep (gJ g) (pq _) (BoxAt.sweep (gH hs.du) (pA _) h);have hV1:∀(i:Nat) (v:V),V1[i]?=some v -> ∃u,(vs'++bs)[i]?=some u/\v=(u.mapB (coarse st.dup)).mapB (bp st.dead):=by
     intro i v hv;simp only[V1]at hv;rw[aN,aN]at hv;cases hc:(vs'++bs)[i]? with
     |none=>rw[hc]at hv;cases hv
     |some u =>rw[hc]at hv;simp only[Option.map_some,aK]at hv;exact⟨u,rfl,hv.symm⟩
    have hV1l:V1.length=vs'.length+bs.length:=by simp only[V1];rw[aS,aS,List.length_append]
    have hokV:∀(i:Nat) (v:V),V1[i]?=some v -> ∀u∈v.cells,dC u=true:=λi v hv u hu=>kR hok u (df (aA hv) hu)
    -- the boxes
    have hbx:∀(k:Nat) (b:V),bs[k]?=some b->Γ.lb (s.nt+k)/\BoxAt Γ w (Γ0.box (s.nt+k)) b:=by intro k b hk;have h1:=Bx hout k b hk;rw[List.getElem?_drop]at h1;obtain⟨b1,cur,e,b2,b3,b4⟩:=hs.bx _ b h1;rw[hsame.2.2.2.2.2 (s.nt+k) (by rw[hnt0];exact Nat.le_add_right _ _)]at b2;exact⟨b1,cur,e,b2,b3,b4⟩
    have hV1b:∀(k:Nat) (b:V),bs[k]?=some b->V1[vs'.length+k]?=some ((b.mapB (coarse st.dup)).mapB (bp st.dead)):=by intro k b hk;simp only[V1];rw[aN,aN,List.getElem?_append_right (Nat.le_add_right _ _),Nat.add_sub_cancel_left,hk];rfl
    obtain⟨Xs,xl,xget⟩:=nl (R:=λk b X=>VR Γ1 w ((b.mapB (coarse st.dup)).mapB (bp st.dead)) X /\ ∃cur e,w.heap[Γ0.box (s.nt+k)]?=some (.cells cur e (0,0))/\X.cells=cur/\((b.mapB (coarse st.dup)).mapB (bp st.dead)).cells.length=cur.size) bs (λk b hk=>by
     obtain⟨cur,e,b1,b2,b3⟩:=hboxed _ b (hbx k b hk).2
     obtain⟨X,e1,e2⟩:=tu (hokV _ _ (hV1b k b hk)) b2 b3
     exact⟨X,e1,cur,e,b1,e2,b2⟩)
    have hrun:(results fn a.tmps).run P w = .ok (if h:ys.toArray.size=1 then ys.toArray[0]else .tuple ys.toArray) w:=by unfold results;rw[Array.mapM_eq_mapM_toList];simp only[Sem.run_bind,Sem.run_map,Sem.run_pure];exact congrArg (λq:Result (List Value)=>(q.andThen λa w'=>Result.ok a.toArray w').andThen λa w'=>Result.ok (if h:a.size=1 then a[0]else Value.tuple a) w') hys
    -- the results, or the box that is handed back
    have hcase:(s.rb=false/\vs'=vs)\/(s.rb=true /\ ∃e r0,vs=[.ptr e 0]/\e<s.nt/\st.h[e]?=some (some r0)/\vs'=[r0]):=by
     unfold LE at hres;split at hres;·rename_i _ hrb;simp only[aK]at hres;exact .inl ⟨hrb,hres.symm⟩
     ·rename_i e hrb;split at hres
      ·rename_i hlt;cases hh:st.h.getD e none with
       |none=>rw[hh]at hres;cases hres
       |some r0=>
        rw[hh]at hres;simp only[Option.map_some,aK]at hres;refine .inr ⟨hrb,e,r0,rfl,hlt,?_,hres.symm⟩;rw[List.getD_eq_getElem?_getD]at hh;cases h2:st.h[e]? with
        |none=>rw[h2]at hh;cases hh
        |some y=>rw[h2]at hh;exact congrArg _ hh
      ·cases hres
     ·cases hres
    have hYs:∃Ys:List Value,Ys.length=vs'.length/\(∀(i:Nat) (v:V) (y:Value),V1[i]?=some v->Ys[i]?=some y->VR Γ1 w v y)/\(s.rb=false->Ys=ys) /\
      (s.rb=true -> ∃e r0 cur ty X,ys=[.pointer (some ⟨Γ.box e,0,none⟩)]/\e<s.nt/\Γ.lb e/\vs'=[r0]/\w.heap[Γ.box e]?=some (.cells cur ty (0,0))/\Ys=[X]/\X.cells=cur/\((r0.mapB (coarse st.dup)).mapB (bp st.dead)).cells.length=cur.size):=by
     rcases hcase with⟨hrb,e0⟩|⟨hrb,e,r0,e1,e2,e3,e4⟩
     ·refine⟨ys,by rw[hl,e0],λi v y hv hy=>?_,λ_=>rfl,λh=>by rw[hrb]at h;cases h⟩
      obtain⟨u,u1,rfl⟩:=hV1 i v hv
      have hi:i<vs'.length:=by rw[e0,<-hl];exact(bW hy).1
      rw[List.getElem?_append_left hi,e0]at u1
      exact hswept u y (hr i u y u1 hy)
     ·obtain⟨b1,cur,ty,b2,b3,b4⟩:=hs.bx e r0 e3
      have hB:BoxAt Γ w (Γ.box e) r0:=⟨cur,ty,b2,b3,b4⟩
      obtain⟨cur',ty',c1,c2,c3⟩:=hboxed _ r0 hB
      have h0:V1[0]?=some ((r0.mapB (coarse st.dup)).mapB (bp st.dead)):=by
       simp only[V1]
       rw[aN,aN,e4]
       rfl
      obtain⟨X,x1,x2⟩:=tu (hokV 0 _ h0) c2 c3
      refine⟨[X],by rw[e4];rfl,λi v y hv hy=>?_,(λh=>by rw[hrb]at h;cases h),λ_=>⟨e,r0,cur',ty',X,?_,e2,b1,e4,c1,rfl,x2,c2⟩⟩
      ·cases i with
       |zero=>
        simp only[List.getElem?_cons_zero,aK]at hy
        subst hy
        rw[h0]at hv
        injection hv with hv
        subst hv
        exact x1
       |succ i=>simp at hy
      ·rw[e1]at hl hr
       cases ys with
       |nil=>simp at hl
       |cons y ys=>
        have:ys=[]:=List.eq_nil_of_length_eq_zero (by simpa using hl)
        subst this
        rw[(hr 0 _ y rfl rfl).ptr_inv.1]
    obtain⟨Ys,hYl,hYr,hY0,hY1⟩:=hYs;have hplace:∀(i:Nat) (v:V) (y:Value),(cL zs V1)[i]?=some v->(Ys++Xs)[i]?=some y->VR (Γ1.placed (ff V1)) w v y:=by
     refine wg hok (λi v y hv hy=>?_);rcases Nat.lt_or_ge i Ys.length with hi|hi;·rw[List.getElem?_append_left hi]at hy;exact hYr i v y hv hy
     ·rw[List.getElem?_append_right hi]at hy;obtain⟨u,u1,rfl⟩:=hV1 i v hv;rw[List.getElem?_append_right (by rw[<-hYl];exact hi),<-hYl]at u1;obtain⟨X,x1,x2,_⟩:=xget _ u u1;rw[x1]at hy;injection hy with hy;subst hy;exact x2
    have hol:(cL zs V1).length=vs'.length+bs.length:=by rw[pJ,hV1l]
    have hon:(cL zs V1).length-s.nb=vs'.length:=by rw[hol,hbl];omega
    refine⟨_,hrun,⟨?_,?_,?_,?_,λk hk hF=>?_,?_,Γ1.placed (ff V1),λhrb=>⟨ys,?_,λi v y hv hy=>?_,rfl⟩,λhrb=>?_,λk v hv=>?_,λk hk=>⟨?_,hg1.slt k hk⟩,?_,?_,?_,?_,?bz,λk hk=>?zf,trivial,?ns,?nd⟩⟩
    case ns =>rintro j ⟨b,h1,_,h3⟩ m hm;change Γ1.N _ m at hm;rw[aT h1]at hm;exact hg1.ns b h3 m hm
    case nd =>rintro j j' ⟨b,h1,h2,h3⟩ ⟨b',h1',h2',h3'⟩ hne m hm hm';change Γ1.N _ m at hm hm';rw[aT h1]at hm;rw[aT h1']at hm';exact hs.nd (hs.du hm.1) b b' h3.1 h3'.1 h3.2 h3'.2 (λe=>hne (by rw[<-h2,<-h2',e])) m hm.2 hm'.2
    case bz =>rintro j ⟨b,h1,_,h3⟩;show Γ1.Z (Γ.blk _);rw[aT h1];exact hg1.bz b h3
    case zf =>obtain⟨z1,z2,z3⟩:=hg1.zf k hk;refine⟨?_,z2,z3⟩;rw[<-hsame.2.1,<-hsame.2.2.2.1];exact z1
    ·rw[<-hw0,<-hsame.1];exact hs.good.os
    ·rw[<-hw0,<-hsame.1];exact hs.good.tape
    ·rw[<-hw0,<-hsame.1];exact hs.good.output
    ·rw[<-hw0,<-hsame.1];exact hs.good.size
    ·rw[<-hw0,<-hsame.1];refine hs.good.old k ?_ ?_;·rw[hsame.1,hw0];exact hk
     ·rw[hsame.2.1];exact hF
    ·rw[hol,hbl];omega
    ·rw[hon,<-hYl,hY0 hrb]
    ·refine hplace i v y hv ?_;rw[hY0 hrb,List.getElem?_append_left (bW hy).1];exact hy
    ·obtain⟨e,r0,cur,ty,X,y1,y2,y3,y4,y5,y6,y7,y8⟩:=hY1 hrb;have hv1:vs'.length=1:=by rw[y4];rfl
     have h0lt:0<(cL zs V1).length:=by rw[hol];omega
     have h0:(cL zs V1)[0]?=some (cL zs V1)[0]:=List.getElem?_eq_getElem h0lt;have hV0:V1[0]?=some ((r0.mapB (coarse st.dup)).mapB (bp st.dead)):=by simp only[V1];rw[aN,aN,y4];rfl
     have hz:VR (Γ1.placed (ff V1)) w (cL zs V1)[0] X:=hplace 0 _ X h0 (by rw[y6];rfl);have hzl:(cL zs V1)[0].cells.length=cur.size:=(ic hok 0 _ _ h0 hV0).trans y8;refine⟨Γ.box e,(cL zs V1)[0],?_,?_,⟨cur,ty,y5,hzl,?_⟩,?_,(hs.good.box e y3).2.2,?_,?_,λk hk he=>?_⟩
     ·rw[hon,hv1];refine List.ext_getElem? (λi=>?_);cases i with
      |zero=>rw[List.getElem?_take,if_pos (by omega),h0];rfl
      |succ i=>rw[List.getElem?_take,if_neg (by omega)];rfl
     ·rw[y1];rfl
     ·rw[<-y7];exact hz.cells (by rw[hzl,y7])
     ·rw[<-hsame.2.1];exact(hs.good.box e y3).1
     ·exact(hg1.box e y3).2.1
     ·rintro j ⟨b,h1,_,h3⟩;show Γ.blk _≠_;rw[aT h1];exact hs.good.baseBox b e h3.1 y3
     ·have hklt:k<bs.length:=by rw[hbl];exact hk
      have hlb:=(hbx k _ (List.getElem?_eq_getElem hklt)).1;rw[<-hsame.2.2.2.2.2 (s.nt+k) (by rw[hnt0];exact Nat.le_add_right _ _)]at he;have:=hs.good.boxInj _ _ hlb y3 he;omega
    ·rw[List.getElem?_drop,hon]at hv;have hklt:k<bs.length:=by have:=(bW hv).1;rw[hol]at this;omega
     have hbk:bs[k]?=some bs[k]:=List.getElem?_eq_getElem hklt;obtain⟨X,x1,x2,cur,e,x3,x4,x5⟩:=xget k _ hbk;have hz:VR (Γ1.placed (ff V1)) w v X:=by refine hplace _ v X hv ?_;rw[List.getElem?_append_right (by rw[hYl];exact Nat.le_add_right _ _),hYl,Nat.add_sub_cancel_left];exact x1
     have hzl:v.cells.length=cur.size:=(ic hok _ v _ hv (hV1b k _ hbk)).trans x5;refine⟨cur,e,x3,hzl,?_⟩;rw[<-x4];exact hz.cells (by rw[hzl,x4])
    ·rw[<-hsame.2.2.1,<-hsame.2.1];exact hg1.sr k hk
    ·rintro j ⟨b,h1,_,h3⟩;show Γ0.F (Γ.blk _)/\Γ.blk _<_ /\ ¬Γ1.S (Γ.blk _)/\Γ.cap _<=_ /\ ∃cur e,w.heap[Γ.blk _]?=_/\Γ.off _+Γ.cap _*Γ.sz _<=_;rw[aT h1];obtain⟨b1,b2,b3,b4⟩:=hg1.base b h3;refine⟨by rw[<-hsame.2.1];exact b1,b2,?_,b3,b4⟩;rintro(h|⟨b',hb',hdd,h⟩);·exact hs.nds b h3.1 h3.2 h
     ·have:=g.baseInj b b' h3.1 hb' h;subst this;rw[h3.2]at hdd;cases hdd
    ·rintro j j' ⟨b,h1,h2,h3⟩ ⟨b',h1',h2',h3'⟩ he;change Γ.blk _=Γ.blk _ at he;rw[aT h1,aT h1']at he;have:=g.baseInj b b' h3.1 h3'.1 he;subst this;rw[<-h2,<-h2']
    ·rintro j k ⟨b,h1,_,h3⟩ hk he;change Γ.blk _=_ at he;rw[aT h1]at he;have hklt:k<bs.length:=by rw[hbl];exact hk
     have hlb:=(hbx k _ (List.getElem?_eq_getElem hklt)).1;rw[<-hsame.2.2.2.2.2 (s.nt+k) (by rw[hnt0];exact Nat.le_add_right _ _)]at he;exact hs.good.baseBox b _ h3.1 hlb he
    ·intro k hk;have hklt:k<bs.length:=by rw[hbl];exact hk
     have hlb:=(hbx k _ (List.getElem?_eq_getElem hklt)).1;rw[<-hsame.2.2.2.2.2 (s.nt+k) (by rw[hnt0];exact Nat.le_add_right _ _)];exact(hg1.box _ hlb).2.1
   ·cases h
  ·cases h
 ·cases h
theorem pu (hA:ay P c)(hW:mJ P c)(hD:bE P den)(hI:cZ P c den)(hm:P.follows .mixedOrders=true){k f:Nat}{fn:Func}{s:Io}{args:List V}{r:V}(hf:P.funcs[f]?=some fn)(hnm:(fn.name == "runtime.NumGoroutine")=false)
  (h:d6 c den (λb hd st=>bw b hd k st) f s fn args=some r):MP P f s args r:=by
 unfold d6 at h;split at h;·cases h
 ·rename_i code hcode;split at h;·cases h
  rename_i hdr0;have hdr:cJ code=true:=by simpa using λh=>hdr0 (.inl h)
  have hdr2:¬(fm (c.fg (1000000+f)) code&&V.anyBs (λ_=>true) args)=true:=λh=>hdr0 (.inr h);split at h
  ·rename_i hnt;have key:∀(ex:Ex) (st':St),bG c den (λb hd st=>bw b hd k st) (c.fg (1000000+f)) code (ry s args)=some (ex,st')->fb c (c.rz (1000000+f)) st' s fn.results.toList=some r->(ex.to = .normal\/ex.to = .ret)->MP P f s args r:=by
    intro ex st' hx hfin hex;have hform:∃outs,r = .tup outs:=by
     unfold fb at hfin;split at hfin
     ·split at hfin
      ·split at hfin;·simp only[aK]at hfin;exact⟨_,hfin.symm⟩
       ·cases hfin
      ·cases hfin
     ·cases hfin
    obtain⟨outs,rfl⟩:=hform;refine⟨⟨fn,hf,by rw[hcode];rfl,hnm⟩,outs,rfl,λΓ w vals hw0 hnt0 hvs hle hYm hs=>?_⟩;refine calls_of_wp hf hcode ?_;rw[hnt];refine lz hA hW hD hI hm code Γ _ _ w ex st' _ hs hdr (λht=>hYm (by simpa[ht]using hdr2)) hx (λa' w' ⟨Γ',hsame,hs'⟩=>?_);obtain⟨outs',e,x,h1,h2⟩:=wB hA hsame hw0 hnt0 hs' hfin;injection e with e;subst e;rcases hex with hex|hex<;>rw[hex]<;>exact⟨hs'.dz,x,h1,h2⟩
   split at h;·rename_i st' hx;exact key _ st' hx h (.inr rfl)
   ·rename_i st' hx;exact key _ st' hx h (.inl rfl)
   ·cases h
  ·cases h
theorem xC (q:ay P c)(u:mJ P c)(z:P.follows .mixedOrders=true){ext:Nat->List V->Option V}(m:bE P ext):∀k,bE P (eH P c ext k)/\cZ P c (eH P c ext k):=by
 intro k;induction k with
 |zero=>exact⟨λf args r h=>(by cases h),λf s args r _ h=>(by cases h)⟩
 |succ k E=>
  obtain⟨i,j⟩:=E;constructor
  ·intro f args r h;rw[eH]at h;cases b:d7 args with
   |some y=>
    rw[b]at h;have g:args=gc :: y:=by
     unfold d7 at b;split at b;·simp only[aK]at b;subst b;rfl
     ·cases b
    simp only at h;cases A:c.io f with
    |none=>rw[A]at h;cases h
    |some s=>
     rw[A]at h;cases e:P.funcs[f]? with
     |none=>rw[e]at h;cases h
     |some n=>
      rw[e]at h;simp only at h;split at h;·cases h
      ·rename_i l;have:=pu q u i j z e (by simpa using l) h;refine⟨by rw[<-e];exact this.1,λR w vals _ _ v t=>?_⟩;exfalso;subst g;have D:0<vals.size:=by rw[<-v];simp
       have:=t 0 gc vals[0] rfl (by simp[D]);cases this
   |none=>
    rw[b]at h;simp only at h;cases o:ext f args with
    |some x =>rw[o]at h;simp only[aK]at h;subst h;exact m f args x o
    |none=>
     rw[o]at h;simp only at h;cases e:P.funcs[f]? with
     |none=>rw[e]at h;cases h
     |some n=>
      rw[e]at h;simp only at h;split at h;·cases h
      ·rename_i l;refine⟨⟨n,rfl,?_,by simpa using l⟩,λR w vals C F v t=>FX q u i j z e h C F v t⟩;unfold iv at h;cases B:n.body with
       |none=>rw[B]at h;cases h
       |some _=>rfl
  ·intro f s args r p h;rw[eH]at h;have b:d7 (gc :: args)=some args:=rfl;rw[b,p]at h;simp only at h;cases e:P.funcs[f]? with
   |none=>rw[e]at h;cases h
   |some n=>
    rw[e]at h;simp only at h;split at h;·cases h
    ·rename_i l;exact pu q u i j z e (by simpa using l) h
theorem yu (e:ay P c)(f:mJ P c)(g:P.follows .mixedOrders=true){ext:Nat->List V->Option V}(b:bE P ext):∀k,bE P (eH P c ext k):=λk=>(xC e f g b k).1
theorem tF (i:ay P c)(j:mJ P c)(e:P.follows .mixedOrders=true){ext:Nat->List V->Option V}(b:bE P ext):bE P (Go.Am.den P c ext):=by intro f args r h;obtain⟨k,g⟩:=pB h;exact yu i j e b k f args r g
end
end Go.Am
end
section
namespace Go.Am
open Go Go.RowKit
mutual
def cF:V->Value->Bool
 |.undef,_=>true
 |.bool b,.bool e=>b==e
 |.int k n,.int f g=>decide (k=f)&&n==g
 |.str s,.string x=>x.data.toList==s
 |.nil,.slice none l c=>l==0&&c==0
 |.agg cs,.agg vs=>ip cs vs.toList
 |_,_=>false
def ip:List V->List Value->Bool
 | [],[]=>true
 |c :: cs,v :: vs=>cF c v&&ip cs vs
 |_,_=>false
end
theorem lV (v:V):∀x,cF v x=true->mw v x:=by
 refine V.rec (motive_1:=λv=>∀x,cF v x=true->mw v x) (motive_2:=λl=>∀xs,ip l xs=true->l.length=xs.length /\ ∀(i:Nat) (c:V) (v:Value),l[i]?=some c->xs[i]?=some v->mw c v)
  ?_ ?_ ?_ ?_ ?_ ?_ ?_ ?_ ?_ ?_ ?_ ?_ ?_ ?_ ?_ ?_ ?_ v
 ·intro x _ w S;exact .undef x
 ·intro b x h w S;cases x<;>simp only[cF]at h<;>first|(cases h;done)|skip
  simp only[beq_iff_eq]at h;subst h;exact .bool b
 ·intro k n x h w S;cases x<;>simp only[cF]at h<;>first|(cases h;done)|skip
  simp only[Bool.and_eq_true,decide_eq_true_eq,beq_iff_eq]at h;obtain⟨rfl,rfl⟩:=h;exact .int k n
 ·intro s x h w S;cases x<;>simp only[cF]at h<;>first|(cases h;done)|skip
  simp only[beq_iff_eq]at h;exact .str s _ h
 ·intro x h w S;cases x with
  |slice a l c=>
   cases a with
   |none =>simp only[cF,Bool.and_eq_true,beq_iff_eq]at h;obtain⟨g,j⟩:=h;rw[g,j];exact .nil
   |some _=>simp[cF]at h
  |_=>simp[cF]at h
 ·intro _ _ _ _ x h;simp[cF]at h
 ·intro _ _ _ _ _ x h;simp[cF]at h
 ·intro _ _ _ _ _ x h;simp[cF]at h
 ·intro _ _ x h;simp[cF]at h
 ·intro _ _ _ _ _ _ _ x h;simp[cF]at h
 ·intro _ _ _ _ x h;simp[cF]at h
 ·intro _ _ _ x h;simp[cF]at h
 ·intro cs q x h w S;cases x<;>simp only[cF]at h<;>first|(cases h;done)|skip
  rename_i vs;obtain⟨g,j⟩:=q _ h;refine .agg cs vs (by simpa using g) (λi c v f e=>j i c v f (by simpa using e) w S)
 ·intro _ _ x h;simp[cF]at h
 ·intro _ _ _ x h;simp[cF]at h
 ·intro xs h;cases xs with
  |nil=>exact⟨rfl,λi c v h=>by simp at h⟩
  |cons x xs=>simp[ip]at h
 ·intro c l m p xs h;cases xs with
  |nil=>simp[ip]at h
  |cons x xs=>
   rw[ip,Bool.and_eq_true]at h;obtain⟨g,j⟩:=p xs h.2;refine⟨by simp[g],λi o v f e=>?_⟩;cases i with
   |zero =>simp only[List.getElem?_cons_zero,aK]at f e;subst f;subst e;exact m _ h.1
   |succ i=>exact j i o v (by simpa using f) (by simpa using e)
def dx (g:Nat->Option (List V)):Nat->List Field->Option (List V)
 |_,[]=>some []
 |off,f :: fs=>if f.name = "_" then none else if f.offset=off then(match g f.type with
  |some ks=>(match dx g (off+ks.length) fs with
   |some b=>some (ks++b)
   |none=>none)
  |none=>none)else none
def iY (P:Program):Nat->Nat->Option (List V)
 |0,_=>none
 |n+1,t=>match P.underlying t with
  |some .bool=>some [.bool false]
  |some (.int k)=>some [.int k 0]
  |some .string=>some [.str []]
  |some (.struct fs)=>if P.stoodInHeld t then none else(match dx (iY P n) 0 fs.toList with
   |some ks=>if P.cellsOf t=ks.length then some ks else none
   |none=>none)
  |_=>none
theorem lR:∀{ks cs:List V},aX ks cs=true->ks.length=cs.length:=by
 intro ks;induction ks with
 |nil=>intro cs h;cases cs with
  |nil=>rfl
  |cons c cs=>simp[aX]at h
 |cons k ks b=>intro cs h;cases cs with
  |nil=>simp[aX]at h
  |cons c cs=>rw[aX,Bool.and_eq_true]at h;simp[b h.2]
theorem lQ:∀{b e cs:List V},aX (b++e) cs=true->aX b (cs.take b.length)=true/\aX e (cs.drop b.length)=true:=by
 intro b;induction b with
 |nil=>intro e cs h;exact⟨rfl,h⟩
 |cons k b f=>
  intro e cs h;cases cs with
  |nil=>simp[aX]at h
  |cons c cs =>rw[List.cons_append,aX,Bool.and_eq_true]at h;obtain⟨g,i⟩:=f h.2;exact⟨by simp only[List.length_cons,List.take_succ_cons,aX,h.1,g,Bool.and_self],by simpa using i⟩
theorem rv:∀{cs b:List V} {r:Bool} (n:Nat),bS cs b=some r -> ∃r1 r2,bS (cs.take n) (b.take n)=some r1/\bS (cs.drop n) (b.drop n)=some r2/\r=(r1&&r2):=by
 intro cs;induction cs with
 |nil=>
  intro b r n h;cases b with
  |nil=>simp only[bS,aK]at h;subst h;exact⟨true,true,by simp[bS],by simp[bS],rfl⟩
  |cons d b=>simp[bS]at h
 |cons c cs i=>
  intro b r n h;cases b with
  |nil=>simp[bS]at h
  |cons d b=>
   cases n with
   |zero=>exact⟨true,r,by simp[bS],by simpa using h,by simp⟩
   |succ n=>
    rw[bS]at h;split at h;·rename_i x y e g;simp only[aK]at h;obtain⟨r1,r2,j,k,f⟩:=i n g;refine⟨x&&r1,r2,?_,by simpa using k,by rw[<-h,f,Bool.and_assoc]⟩;simp only[List.take_succ_cons,bS,e,j]
    ·cases h
theorem w_ {s s':List UInt8}{y b:ByteArray}(h:y.data.toList=s)(e:b.data.toList=s'):(y.toList==b.toList)=(s==s'):=by rw[ByteArray.toList_eq,ByteArray.toList_eq,h,e]
section
variable {P:Program}
def fA (P:Program)(t:Nat)(cells:List Value)(a:Value):Prop:=
 match P.underlying t with
 |some (.struct _)=>a = .agg cells.toArray
 |_=>cells=[a]
theorem iy {t:Nat}{n:Nat}{ks:List V}(f:iY P n t=some ks){xs:Array Value}{off:Nat}(o:off+ks.length<=xs.size)(w:World) :
  ∃a,(part t xs off).run P w = .ok a w/\fA P t ((xs.toList.drop off).take ks.length) a:=by
 cases n with
 |zero=>cases f
 |succ n=>
  unfold iY at f;have b:ks.length=1->(∀fs,P.underlying t≠some (.struct fs))->(∀m e,P.underlying t≠some (.array m e))->(∃d,P.underlying t=some d) -> ∃a,(part t xs off).run P w = .ok a w/\fA P t ((xs.toList.drop off).take ks.length) a:=by
   intro u p r ⟨d,h⟩;have j:off<xs.size:=by omega
   refine⟨xs[off],?_,?_⟩;·cases d<;>first|exact absurd h (p _)|exact absurd h (r _ _)|simp[part,isAgg,run_underlying h,j]
   ·unfold fA;rw[u,h];have:(xs.toList.drop off).take 1=[xs[off]]:=by rw[List.drop_eq_getElem_cons (by simpa using j)];simp
    cases d<;>first|exact absurd h (p _)|exact this
  split at f;·rename_i g;simp only[aK]at f;subst f;exact b rfl (by rw[g];simp) (by rw[g];simp) ⟨_,g⟩
  ·rename_i k g;simp only[aK]at f;subst f;exact b rfl (by rw[g];simp) (by rw[g];simp) ⟨_,g⟩
  ·rename_i g;simp only[aK]at f;subst f;exact b rfl (by rw[g];simp) (by rw[g];simp) ⟨_,g⟩
  ·rename_i fs g;split at f;·cases f
   ·split at f
    ·rename_i l v;split at f
     ·rename_i q;simp only[aK]at f;subst f;obtain⟨i,s⟩:=info_of_underlying g;refine⟨.agg (xs.extract off (off+l.length)),?_,?_⟩;·simp[part,isAgg,run_underlying g,run_sizeOf w s,q]
      ·unfold fA;rw[g];simp only[Value.agg.injEq];apply Array.ext';simp[List.extract_eq_take_drop]
     ·cases f
    ·cases f
  ·cases f
theorem Ik:∀(n t:Nat) (ks:List V),iY P n t=some ks -> ∀(m:Nat) (w:World) (xs ys:List Value) (a b:Value) (cs K:List V) (r:Bool),fA P t xs a->fA P t ys b->cs.length=xs.length->K.length=ys.length ->
  aX ks cs=true->aX ks K=true->(∀(j:Nat) (c:V) (v:Value),cs[j]?=some c->xs[j]?=some v->tV c v)->(∀(j:Nat) (c:V) (v:Value),K[j]?=some c->ys[j]?=some v->tV c v) ->
  bS cs K=some r->(Op.equalIn (n+m) t a b).run P w = .ok r w:=by
 intro n;induction n with
 |zero=>intro t ks e;cases e
 |succ n ih=>
  intro t ks e m w xs ys a b cs K r p o Z aa C A F G I;rw[show n+1+m=(n+m)+1 by omega];unfold iY at e;have u:∀{k:V} {cs:List V},aX [k] cs=true -> ∃c,cs=[c]/\dE k c=true:=by
   intro k cs h;cases cs with
   |nil=>simp[aX]at h
   |cons c cs=>
    cases cs with
    |nil=>exact⟨c,rfl,by simpa[aX]using h⟩
    |cons _ _=>simp[aX]at h
  split at e
  ·rename_i x;simp only[aK]at e;subst e;unfold fA at p o;rw[x]at p o;simp only at p o;subst p;subst o;obtain⟨c,rfl,y⟩:=u C;obtain⟨d,rfl,E⟩:=u A;cases c<;>simp only[dE]at y<;>first|(cases y;done)|skip
   cases d<;>simp only[dE]at E<;>first|(cases E;done)|skip
   have q:=F 0 _ _ rfl rfl;have s:=G 0 _ _ rfl rfl;simp only[tV]at q s;subst q;subst s;simp only[bS,uF,Bool.and_true,aK]at I;rw[run_equalIn_bool w _ t _ _ x,I]
  ·rename_i k x;simp only[aK]at e;subst e;unfold fA at p o;rw[x]at p o;simp only at p o;subst p;subst o;obtain⟨c,rfl,y⟩:=u C;obtain⟨d,rfl,E⟩:=u A;cases c<;>simp only[dE]at y<;>first|(cases y;done)|skip
   cases d<;>simp only[dE]at E<;>first|(cases E;done)|skip
   simp only[decide_eq_true_eq]at y E;subst y;subst E;have q:=F 0 _ _ rfl rfl;have s:=G 0 _ _ rfl rfl;simp only[tV]at q s;subst q;subst s;simp only[bS,uF,if_true,Bool.and_true,aK]at I;rw[run_equalIn_int w _ t _ _ _ _ x,I]
  ·rename_i x;simp only[aK]at e;subst e;unfold fA at p o;rw[x]at p o;simp only at p o;subst p;subst o;obtain⟨c,rfl,y⟩:=u C;obtain⟨d,rfl,E⟩:=u A;cases c<;>simp only[dE]at y<;>first|(cases y;done)|skip
   cases d<;>simp only[dE]at E<;>first|(cases E;done)|skip
   have q:=F 0 _ _ rfl rfl;have s:=G 0 _ _ rfl rfl;simp only[tV]at q s;obtain⟨y1,rfl,i⟩:=q;obtain⟨y2,rfl,H⟩:=s;simp only[bS,uF,Bool.and_true,aK]at I;rw[run_equalIn_string w _ t _ _ x,w_ i H,I]
  ·rename_i fs x;split at e;·cases e
   ·rename_i ab;split at e
    ·rename_i L hf;split at e
     ·rename_i y;simp only[aK]at e;subst e;unfold fA at p o;rw[x]at p o;simp only at p o;subst p;subst o;have O:P.fieldsOf t=fs:=by unfold Program.fieldsOf;rw[x]
      rw[run_equalIn_struct w (n+m) t _ _ (by rw[O];exact x) (by simpa using ab),O];have ad:xs.length=L.length:=by rw[<-Z,<-lR C]
      have ae:ys.length=L.length:=by rw[<-aa,<-lR A]
      -- over the fields
      have Y:∀(fs:List Field) (off:Nat) (g:List V) (B D:List V) (r:Bool),dx (iY P n) off fs=some g->off+g.length<=xs.length->off+g.length<=ys.length ->
        B=(cs.drop off).take g.length->D=(K.drop off).take g.length->aX g B=true->aX g D=true->bS B D=some r->(Op.eqFields (n+m) xs.toArray ys.toArray fs).run P w = .ok r w:=by
       intro fs
       induction fs with
       |nil=>
        intro off g B D r i _ _ H N _ _ R
        simp only[dx,aK]at i
        subst i
        simp only[List.length_nil,List.take_zero]at H N
        subst H;subst N
        simp only[bS,aK]at R
        subst R
        simp[Op.eqFields]
       |cons f fs ac=>
        intro off g B D r i g1 g2 H N h5 h6 R
        simp only[dx]at i
        split at i
        ·cases i
        ·rename_i hn
         split at i
         ·rename_i Q
          split at i
          ·rename_i z J
           split at i
           ·rename_i S W
            simp only[aK]at i
            subst i
            rw[List.length_append]at g1 g2 H N
            obtain⟨a1,p1,q1⟩:=iy J (xs:=xs.toArray) (off:=off) (by simp;omega) w
            obtain⟨b1,p2,q2⟩:=iy J (xs:=ys.toArray) (off:=off) (by simp;omega) w
            obtain⟨r1,r2,U,X,s3⟩:=rv z.length R
            obtain⟨u1,u2⟩:=lQ h5
            obtain⟨v1,v2⟩:=lQ h6
            simp only at q1 q2
            have tk:∀(l:List V),((l.drop off).take (z.length+S.length)).take z.length=(l.drop off).take z.length:=λl=>by rw[List.take_take];congr 1;omega
            have dk:∀(l:List V),((l.drop off).take (z.length+S.length)).drop z.length=(l.drop (off+z.length)).take S.length:=λl=>by rw[List.drop_take,List.drop_drop];congr 1;omega
            rw[H,tk]at U u1
            rw[N,tk]at U v1
            rw[H,dk]at X u2
            rw[N,dk]at X v2
            have he:=ih f.type z J m w _ _ a1 b1 _ _ r1 q1 q2 (by simp;omega) (by simp;omega) u1 v1
             (λj c v q s=>by
              have T:j<z.length:=by have:=(bW q).1;simp at this;omega
              rw[List.getElem?_take_of_lt T,List.getElem?_drop]at q s
              exact F (off+j) c v q s)
             (λj c v q s=>by
              have T:j<z.length:=by have:=(bW q).1;simp at this;omega
              rw[List.getElem?_take_of_lt T,List.getElem?_drop]at q s
              exact G (off+j) c v q s) U
            have M:=ac (off+z.length) S _ _ r2 W (by omega) (by omega) rfl rfl u2 v2 X
            simp only[Op.eqFields,hn,ne_eq,not_false_eq_true,if_true,Sem.run_bind,Q,p1,p2,he,Result.andThen_ok]
            cases r1
            ·simp[s3]
            ·simpa[s3]using M
           ·cases i
          ·cases i
         ·cases i
      exact Y fs.toList 0 L cs K r hf (by omega) (by omega) (by rw[List.drop_zero,List.take_of_length_le (by omega)]) (by rw[List.drop_zero,List.take_of_length_le (by omega)]) C A I
     ·cases e
    ·cases e
  ·cases e
def gG:List V->List V->Bool
 | [],[]=>true
 |.bool _ :: az,.bool _ :: b=>gG az b
 |.int k _ :: az,.int e _ :: b=>decide (k=e)&&gG az b
 |.str _ :: az,.str _ :: b=>gG az b
 |_,_=>false
theorem mZ:∀{ks zs:List V},gG ks zs=true -> ∀cs,aX zs cs=true->aX ks cs=true:=by
 intro ks;induction ks with
 |nil=>intro zs h cs b;cases zs with
  |nil=>exact b
  |cons _ _=>simp[gG]at h
 |cons k ks e=>
  intro zs h cs b;cases zs with
  |nil=>cases k<;>simp[gG]at h
  |cons z zs=>
   cases cs with
   |nil=>simp[aX]at b
   |cons c cs=>
    rw[aX,Bool.and_eq_true]at b;rw[aX,Bool.and_eq_true];cases k<;>cases z<;>simp only[gG]at h<;>first|(cases h;done)|skip
    ·exact⟨by cases c<;>simp_all[dE],e h cs b.2⟩
    ·rw[Bool.and_eq_true,decide_eq_true_eq]at h;obtain⟨rfl,h⟩:=h;exact⟨by cases c<;>simp_all[dE],e h cs b.2⟩
    ·exact⟨by cases c<;>simp_all[dE],e h cs b.2⟩
def jt (P:Program)(t:Nat)(d:Ty):Bool:=
 match d,P.underlying t with
 |.bool,some .bool=>true
 |.int k,some (.int h)=>decide (k=h)
 |.str,some .string=>true
 |.slice e,some (.slice g)=>e==g
 |.struct fs,some (.struct b)=>decide (b.toList.map (λf=>(f.offset,f.type))=fs)&&b.toList.all (λf=>(P.info? f.type).isSome)
 |.array n e,some (.array i g)=>n==i&&e==g
 |.ptr _,some (.pointer _)=>true
 |_,_=>false
def tz (P:Program)(t:Nat)(i:TyInfo):Bool:=
 match P.info? t with
 |none=>false
 |some b=>b.size==i.size&&b.bytes==i.bytes&&(match b.zero with
  |none=>false
  |some z=>cF i.zero z&&ip i.zero.cells z.cells.toList&&z.cells.toList.all (·.oneCell'))&&i.zero.cells.length==i.size&&jt P t i.d &&
   (!i.cmp||(!P.eqGuardType P.depth t&&(match P.underlying t,iY P 10000 t with
    |some (.struct _),some ks=>gG ks i.zero.cells
    |_,_=>false)))
theorem vi {c:Cfg}{t:Nat}{i:TyInfo}(h:tz P t i=true):∃ti,AgreeT P c t i ti:=by
 unfold tz at h;split at h;·cases h
 ·rename_i ti hti;simp only[Bool.and_eq_true,beq_iff_eq]at h;obtain⟨⟨⟨⟨⟨h1,h2⟩,h3⟩,h4⟩,h5⟩,h6⟩:=h;split at h3;·cases h3
  ·rename_i z hz;simp only[Bool.and_eq_true,List.all_eq_true]at h3;obtain⟨⟨z1,z2⟩,z3⟩:=h3;have hcells:i.zero.cells.length=z.cells.toList.length /\ ∀(j:Nat) (c:V) (v:Value),i.zero.cells[j]?=some c->z.cells.toList[j]?=some v->mw c v:=by
    have:=lV (.agg i.zero.cells) (.agg z.cells) (by simpa[cF]using z2);have h0:=this default (λ_=>True);cases h0 with
    |agg _ _ hl _=>
     refine⟨by simpa using hl,λj c v e1 e2 w S=>?_⟩;have h':=this w S;cases h' with
     |agg _ _ _ hr=>exact hr j c v e1 (by simpa using e2)
   refine⟨ti,hti,h1,h2,⟨z,hz,lV _ _ z1,hcells.1.symm,z3,λj c hj=>?_⟩,h4,?_,?_,?_,?_,?_,?_,?_,?_⟩
   ·have hlt:j<z.cells.toList.length:=by rw[<-hcells.1];exact(bW hj).1
    refine⟨z.cells.toList[j],?_,hcells.2 j c _ hj (List.getElem?_eq_getElem hlt)⟩;rw[<-Array.getElem?_toList];exact List.getElem?_eq_getElem hlt
   ·intro e;rw[e]at h5;unfold jt at h5;split at h5<;>simp_all
   ·intro k e;rw[e]at h5;unfold jt at h5;split at h5<;>simp_all
   ·intro e;rw[e]at h5;unfold jt at h5;split at h5<;>simp_all
   ·intro k e;rw[e]at h5;unfold jt at h5;split at h5<;>simp_all
   ·intro fs e;rw[e]at h5;unfold jt at h5;split at h5<;>first|(cases h5;done)|skip
    all_goals first|(rename_i heq _;cases heq;done)|skip
    rename_i _ _ fs' fields heq hu;injection heq with heq;subst heq;simp only[Bool.and_eq_true,decide_eq_true_eq,List.all_eq_true]at h5;exact⟨fields,hu,h5.1,λf hf=>Option.isSome_iff_exists.1 (h5.2 f hf)⟩
   ·intro n k e;rw[e]at h5;unfold jt at h5;split at h5<;>simp_all
   ·intro hc;rw[hc]at h6;simp only[Bool.not_true,Bool.false_or,Bool.and_eq_true,Bool.not_eq_true']at h6;refine⟨h6.1,λw xs ys cs ds r g1 g2 g3 g4 g5 g6 g7=>?_⟩;have h7:=h6.2;split at h7
    ·rename_i fs ks hu hks
     exact Ik 10000 t ks hks 0 w xs.toList ys.toList _ _ cs ds r (by unfold fA;rw[hu]) (by unfold fA;rw[hu]) (by simpa using g1) (by simpa using g2) (mZ h7 cs g3) (mZ h7 ds g4)
      (λj c v e1 e2=>g5 j c v e1 (by simpa using e2)) (λj c v e1 e2=>g6 j c v e1 (by simpa using e2)) g7
    ·cases h7
   ·intro ha;unfold jt at h5;split at h5<;>first|(cases h5;done)|skip
    all_goals first|(simp[Ty.isAgg, *]at ha;done)|(rename_i hu;exact⟨_,hu,λ_=>by simp,λ_ _=>by simp⟩)
def vh (P:Program)(tys:List (Option TyInfo)):Bool:=(List.range tys.length).all λt=>match tys.getD t none with
 |some i=>tz P t i
 |none=>true
theorem Dt {c:Cfg}(tys:List (Option TyInfo))(g:∀t,c.ty t=tys.getD t none)(h:vh P tys=true):ay P c:=by
 intro t i b;rw[g]at b;unfold vh at h;rw[List.all_eq_true]at h;rcases Nat.lt_or_ge t tys.length with f|e;·have:=h t (List.mem_range.2 f);rw[b]at this;exact vi this
 ·rw[List.getD_eq_getElem?_getD,List.getElem?_eq_none e]at b;cases b
end
end Go.Am
end
