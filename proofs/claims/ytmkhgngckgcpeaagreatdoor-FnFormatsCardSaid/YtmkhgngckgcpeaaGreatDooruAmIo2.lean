/-
  Proved: lemmas for Rows.FnFormatsCardSaid.
-/
import Derived.Test.YtmkhgngckgcpeaaGreatDooruAmRun
set_option linter.all false
section
namespace Go.Am
open Go Go.RowKit
section
variable {P:Program}{c:Cfg}{Γ Γ':Ctx}{st:St}{a:Act}{w w':World}{den:Nat->List V->Option V}{η:Nat->Option V}{d:Nat}
theorem FU (j:ay P c)(hs:Sim Γ st a w){r:ResultVar}{v:V}(h:wt c st r=some v) :
    ∃y,(match r with
     |.tmp t=>(pure (a.tmps.getD t undef):Sem Value)
     |.cell p t=>do loadVar t (<-asAddr (a.tmps.getD p undef))).run P w = .ok y w/\VR Γ w v y:=by
  cases r with
  |tmp t =>simp only[wt,aK]at h;subst h;exact⟨a.tmps.getD t undef,by simp,by simpa[Am.ev,Act.eval]using hs.ev (.tmp t)⟩
  |cell p t=>
   simp only[wt]at h;split at h
   · rename_i i l;simp only[pS]at h;split at h
     · rename_i cs f;obtain⟨s,m⟩:=j _ _ l;have b:VR Γ w (st.t.getD p .undef) (a.tmps.getD p undef):=by simpa[Am.ev,Act.eval]using hs.ev (.tmp p)
       obtain⟨k,u,g,e,o,q⟩:=oz hs b f;obtain⟨y,n,b⟩:=we m h o q;refine⟨y,?_,b⟩;simp only[e,asAddr,Sem.run_bind,Sem.run_pure,Result.andThen_ok,n]
     ·cases h
   ·cases h
theorem tD (o:ay P c)(hs:Sim Γ st a w):∀(b:List ResultVar) (vs:List V),lx c st b=some vs ->
    ∃ys:List Value,(b.mapM (λr:ResultVar=>match r with
     |.tmp t=>(pure (a.tmps.getD t undef):Sem Value)
     |.cell p t=>do loadVar t (<-asAddr (a.tmps.getD p undef)))).run P w = .ok ys w/\ys.length=vs.length /\ ∀(i:Nat) (v:V) (y:Value),vs[i]?=some v->ys[i]?=some y->VR Γ w v y:=by
  intro b;induction b with
  |nil =>intro vs h;simp only[lx,aK]at h;subst h;exact⟨[],by simp,rfl,λi v y h=>by simp at h⟩
  |cons r b x=>
   intro vs h;simp only[lx]at h;cases e:wt c st r with
   |none=>rw[e]at h;cases h
   |some v=>
    cases l:lx c st b with
    |none=>rw[e,l]at h;cases h
    |some j=>
     rw[e,l]at h;simp only[aK]at h;subst h;obtain⟨y,u,q⟩:=FU o hs e;obtain⟨ys,f,s,m⟩:=x j l;refine⟨y :: ys,?_,by simp[s],λi v' n k g=>?_⟩;·rw[List.mapM_cons];simp only[Sem.run_bind,u,Result.andThen_ok,f,Sem.run_pure]
     · cases i with
       |zero =>simp only[List.getElem?_cons_zero,aK]at k g;subst k;subst g;exact q
       |succ i=>exact m i v' n (by simpa using k) (by simpa using g)
def Ctx.placed (Γ:Ctx)(l:List (List Nat)):Ctx:={ Γ with has:=λj=>∃b,l[j]?=some [b]/\l.idxOf [b]=j/\Γ.has b,blk:=λj=>Γ.blk ((l.getD j []).headD 0),
                                                         off:=λj=>Γ.off ((l.getD j []).headD 0),cap:=λj=>Γ.cap ((l.getD j []).headD 0),sz:=λj=>Γ.sz ((l.getD j []).headD 0),ln:=λj=>Γ.ln ((l.getD j []).headD 0),lb:=λ_=>False,N:=λj=>Γ.N ((l.getD j []).headD 0) }
theorem aT {l:List (List Nat)}{j b:Nat}(h:l[j]?=some [b]):(l.getD j []).headD 0=b:=by rw[List.getD_eq_getElem?_getD,h];rfl
theorem gE {l:List (List Nat)}{b:Nat}(e:[b]∈l):l[l.idxOf [b]]?=some [b]:=by rw[List.getElem?_eq_getElem (List.idxOf_lt_length_of_mem e),List.getElem_idxOf]
theorem il {l:List (List Nat)}{b:Nat}(f:[b]∈l):(Γ.placed l).has (l.idxOf [b])↔Γ.has b:=by
 constructor;·rintro⟨j,e,i,g⟩;rw[gE f]at e;simp only[aK,List.cons.injEq,and_true]at e;rw[e];exact g
 ·intro h;exact⟨b,gE f,rfl,h⟩
theorem kR:∀{cs:List V},me cs=true -> ∀u∈cs,dC u=true:=by
 intro cs;induction cs with
 |nil=>intro _ u b;cases b
 |cons v vs e=>
  intro h u b;rw[me,Bool.and_eq_true]at h;rcases List.mem_cons.1 b with rfl|b;·exact h.1
  ·exact e h.2 u b
theorem df:∀{vs:List V} {v u:V},v∈vs->u∈v.cells->u∈cellsOf vs:=by
 intro vs;induction vs with
 |nil=>intro v u b;cases b
 |cons x vs f=>
  intro v u b e;rw[cellsOf,List.mem_append];rcases List.mem_cons.1 b with rfl|b;·exact .inl e
  ·exact .inr (f b e)
theorem pP {l:List (List Nat)}:∀v x,(match v with
   |.agg _=>False
   |.tup _=>False
   |.clo _ _=>False
   |_=>True)->(∀u∈v.cells,dC u=true /\ ∀b∈bF u,[b]∈l)->VR Γ w v x->VR (Γ.placed l) w ((gh l v).getD v) x:=by
 intro u y g t j;have p:∀{b:Nat},[b]∈l->(Γ.placed l).blk (l.idxOf [b])=Γ.blk b:=λ{b} e=>by show Γ.blk _=_;rw[aT (gE e)]
 have A:∀{b:Nat},[b]∈l->(Γ.placed l).off (l.idxOf [b])=Γ.off b:=λ{b} e=>by show Γ.off _=_;rw[aT (gE e)]
 have D:∀{b:Nat},[b]∈l->(Γ.placed l).cap (l.idxOf [b])=Γ.cap b:=λ{b} e=>by show Γ.cap _=_;rw[aT (gE e)]
 have I:∀{b:Nat},[b]∈l->(Γ.placed l).sz (l.idxOf [b])=Γ.sz b:=λ{b} e=>by show Γ.sz _=_;rw[aT (gE e)]
 have U:∀{b:Nat},[b]∈l->(Γ.placed l).ln (l.idxOf [b])=Γ.ln b:=λ{b} e=>by show Γ.ln _=_;rw[aT (gE e)]
 have T:∀{b:Nat},[b]∈l->(Γ.placed l).N (l.idxOf [b])=Γ.N b:=λ{b} e=>by show Γ.N _=_;rw[aT (gE e)]
 have K:∀{q:Q} {b s k o:Nat} {xs:List V},[b]∈l->Γ.Uq w q b s xs k o->(Γ.placed l).Uq w q (l.idxOf [b]) s xs k o:=λe h X S=>(h X S).mono (λm M=>⟨by rw[T e];exact M.1,M.2⟩) (λ_ _ _=>rfl) (λ_ _ _=>rfl);have W:∀q k,Γ.Sq q k->(Γ.placed l).Sq q k:=λq k h=>by cases q<;>exact h
 have L:∀{q:Q} {s k o:Nat} {xs:List V},Rows w (Γ.Sq q) s xs k o->Rows w ((Γ.placed l).Sq q) s xs k o:=λh=>h.mono (W _) (λ_ _ _=>rfl) (λ_ _ _=>rfl);cases u with
 |undef=>exact VR.undef_ _
 |bool b=>rw[j.bool_inv];exact .rd _ _ (.bool b)
 |int k m=>rw[j.int_inv];exact .rd _ _ (.int k m)
 |str s=>obtain⟨z,rfl,O⟩:=j.str_inv;exact .rd _ _ (.str s z O)
 |nil=>rw[j.nil_inv];exact .rd _ _ .nil
 |sl s f xs=>exact .rd _ _ j.sl_inv
 |iptr z o=>
  cases j with
  |rd _ _ h=>exact .rd _ _ h
 |ptr d n=>exact absurd (t _ (List.mem_singleton.2 rfl)).1 (by simp[dC])
 |eptr b s q xs i o=>exact absurd (t _ (List.mem_singleton.2 rfl)).1 (by simp[dC])
 |vptr b z o=>exact absurd (t _ (List.mem_singleton.2 rfl)).1 (by simp[dC])
 |agg _=>cases g
 |tup _=>cases g
 |clo _ _=>cases g
 |own b s q xs=>
  have e:[b]∈l:=(t _ (List.mem_singleton.2 rfl)).2 b (List.mem_singleton.2 rfl);simp only[gh,Option.getD_some];have G:=j.own_uq;rcases j.own_inv with⟨rfl,rfl,B⟩|⟨rfl,H,Y,B,F,E⟩;·exact .ownNil _ _ _ (λh=>B ((il e).1 h))
  ·have:=VR.own (Γ:=Γ.placed l) (w:=w) (l.idxOf [b]) s q xs ((il e).2 H) (by rw[I e];exact Y) (by rw[D e,U e];exact B) (by rw[p e,A e];exact L F) E (by rw[p e,A e];exact K e G);rwa[p e,A e,D e]at this
 |view b s q xs=>
  have e:[b]∈l:=(t _ (List.mem_singleton.2 rfl)).2 b (List.mem_singleton.2 rfl);simp only[gh,Option.getD_some];have J:=j;rcases j.view_inv with⟨Z,r,rfl,rfl⟩|⟨o,r,rfl,H,R,B,C,F,E⟩;·exact .view0 _ _ _ _ _ (j.view0_of.to (il e) (λ_=>⟨p e,A e,D e,I e⟩))
  ·have:=VR.view (Γ:=Γ.placed l) (w:=w) (l.idxOf [b]) s q xs o r ((il e).2 H) R B (by rw[A e,D e,I e];exact C) (by rw[p e];exact L F) E (by rw[p e];exact K e J.view_uq);rwa[p e]at this
theorem ph {j:Nat}{z v:V}{x:Value}(h:VR Γ w v x)(g:v = .nil -> ¬Γ.has j):VR Γ w (kT j z v) x:=by
 unfold kT;split;·rw[h.nil_inv];exact .ownNil _ _ _ (g rfl)
 ·rw[h.nil_inv];exact .view0 _ _ _ _ _ (.inl ⟨rfl,rfl,g rfl⟩)
 ·rename_i b s q xs;have e:=h.own_uq;rcases h.own_inv with⟨rfl,rfl,o⟩|⟨rfl,i,k,n,m,l⟩;·exact .view0 _ _ _ _ _ (.inl ⟨rfl,rfl,o⟩)
  ·by_cases f:xs=[];·subst f;exact .view0 _ _ _ _ _ (.inr ⟨i,_,rfl,by rw[k];exact Nat.le_refl _,Nat.le_refl _⟩)
   ·exact .view b s q xs _ _ i (List.length_pos_iff.2 f) n.1 ⟨by rw[k];exact Nat.le_refl _,Nat.le_refl _⟩ m l e
 ·rw[h.nil_inv];exact .rd _ _ (.empty _ _ _ _)
 ·exact h
 ·exact VR.undef_ _
 ·exact h
theorem wo (j:Nat)(z v:V):(kT j z v).cells.length=v.cells.length:=by
 unfold kT
 split<;>first
  |rfl
  |(rename_i h;cases v<;>first|rfl|exact absurd rfl (h _))
theorem mg:∀(zs vs:List V) (j:Nat),(fj j zs vs).length=vs.length:=by
 intro zs;induction zs with
 |nil=>intro vs j;cases vs<;>rfl
 |cons z zs b=>intro vs j;cases vs with
  |nil=>rfl
  |cons v vs=>rw[fj,List.length_cons,b,List.length_cons]
theorem wq:∀(zs vs:List V) (j:Nat),(∀k,vs[k]?=some .nil -> ¬Γ.has (j+k)) -> ∀(i:Nat) (u:V),(fj j zs vs)[i]?=some u -> ∃v,vs[i]?=some v /\ ∀x,VR Γ w v x->VR Γ w u x:=by
 intro zs;induction zs with
 |nil=>intro vs j _ i u h;cases vs<;>exact⟨u,h,λ_ h=>h⟩
 |cons z zs l=>
  intro vs j b i u h;cases vs with
  |nil=>simp[fj]at h
  |cons v vs=>
   rw[fj]at h;cases i with
   |zero =>simp only[List.getElem?_cons_zero,aK]at h;subst h;exact⟨v,rfl,λx f=>ph f (λe=>b 0 (by rw[e];rfl))⟩
   |succ i =>obtain⟨y,m,n⟩:=l vs (j+1) (λk g=>by have:=b (k+1) (by simpa using g);rwa[show j+1+k=j+(k+1) by omega]) i u (by simpa using h);exact⟨y,by simpa using m,n⟩
theorem tC {j:Nat}{zs:List V}{v:V}{x:Value}(h:VR Γ w v x)(f:∀k,v.cells[k]?=some .nil -> ¬Γ.has (j+k)):VR Γ w (nP j zs v) x:=by
 cases v with
 |agg cs =>obtain⟨vs,rfl,o,p⟩:=h.agg_inv;refine .agg _ vs (by rw[mg];exact o) (λi c v n g=>?_);obtain⟨y,m,l⟩:=wq (w:=w) zs cs j f i c n;exact l v (p i y v m g)
 |_=>
  unfold nP;split;·rename_i b;cases b
  ·split;·exact ph h (λe=>by have:=f 0 (by rw[e];rfl);simpa using this)
   ·exact h
theorem nv:∀(vs zs:List V) (j:Nat),(dU j zs vs).length=vs.length:=by
 intro vs;induction vs with
 |nil=>intro zs j;cases zs<;>rfl
 |cons v vs b=>intro zs j;rw[dU,List.length_cons,b,List.length_cons]
theorem kE:∀(vs zs:List V) (j i:Nat) (u:V),(dU j zs vs)[i]?=some u -> ∃v f b,vs[i]?=some v/\u=nP (j+f) b v /\ ∀k c,v.cells[k]?=some c->(cellsOf vs)[f+k]?=some c:=by
 intro vs;induction vs with
 |nil=>intro zs j i u h;cases zs<;>simp[dU]at h
 |cons v vs l=>
  intro zs j i u h;rw[dU]at h;cases i with
  |zero =>simp only[List.getElem?_cons_zero,aK]at h;refine⟨v,0,zs,rfl,h.symm,λk c e=>?_⟩;rw[cellsOf,Nat.zero_add,List.getElem?_append_left (bW e).1];exact e
  |succ i =>obtain⟨y,f,b,m,n,g⟩:=l _ _ i u (by simpa using h);refine⟨y,v.cells.length+f,b,by simpa using m,by rw[n];congr 1;omega,λk c e=>?_⟩;rw[cellsOf,List.getElem?_append_right (by omega)];rw[<-g k c e];congr 1;omega
theorem mP (l:List (List Nat)):∀(vs:List V),cellsOf (V.mapBs (gh l) vs)=V.mapBs (gh l) (cellsOf vs):=by
 have e:∀(a b:List V),V.mapBs (gh l) (a++b)=V.mapBs (gh l) a++V.mapBs (gh l) b:=by
  intro a b;induction a with
  |nil=>rfl
  |cons x a f=>rw[List.cons_append,V.mapBs,V.mapBs,f,List.cons_append]
 intro vs;induction vs with
 |nil=>rfl
 |cons v vs f =>rw[V.mapBs,cellsOf,cellsOf,f,e];congr 1;cases v<;>rfl
theorem wX {l:List (List Nat)}:∀{cs:List V} {k:Nat},(V.mapBs (gh l) cs)[k]?=some .nil->cs[k]?=some .nil:=by
 intro cs k h;rw[aN]at h;cases b:cs[k]? with
 |none=>rw[b]at h;cases h
 |some c =>rw[b]at h;simp only[Option.map_some,aK]at h;cases c<;>first|rfl|(simp only[V.mapB,gh,Option.getD_some,Option.getD_none]at h;cases h)
end
end Go.Am
end
section
namespace Go.Am
open Go Go.RowKit
section
variable {P:Program}{c:Cfg}{Γ Γ':Ctx}{st:St}{a:Act}{w w':World}{den:Nat->List V->Option V}{η:Nat->Option V}{d:Nat}
theorem wg {vs:List V}{ys:List Value}{zs:List V}(j:me (cellsOf vs)=true)(s:∀(i:Nat) (v:V) (y:Value),vs[i]?=some v->ys[i]?=some y->VR Γ w v y) :
  ∀(i:Nat) (v:V) (y:Value),(cL zs vs)[i]?=some v->ys[i]?=some y->VR (Γ.placed (ff vs)) w v y:=by
 have o:∀(i:Nat) (v:V) (y:Value),(V.mapBs (gh (ff vs)) vs)[i]?=some v->ys[i]?=some y->VR (Γ.placed (ff vs)) w v y:=by
  intro i v y f n;rw[aN]at f;cases e:vs[i]? with
  |none=>rw[e]at f;cases f
  |some u=>
   rw[e]at f;simp only[Option.map_some,aK]at f;subst f;refine VR.sweepC (λv=>∀u∈v.cells,dC u=true /\ ∀b∈bF u,[b]∈ff vs) (λcs h u C=>?_) (λcs h=>?_) (λ_ cs h=>?_) pP u y (λz p=>⟨kR j z (df (aA e) p),λb g=>?_⟩) (s i u y e n)
   ·have:=h u C;have m:u.cells=[u]:=by cases u<;>first|rfl|(exact absurd this.1 (by simp[dC]))
    rw[m];intro F l;rw[List.mem_singleton.1 l];exact this
   ·exact absurd (h _ (List.mem_singleton.2 rfl)).1 (by simp[dC])
   ·exact absurd (h _ (List.mem_singleton.2 rfl)).1 (by simp[dC])
   ·have:bF z=[b]:=by cases z<;>simp[bF]at g ⊢<;>exact g.symm
    rw[<-this];exact List.mem_map.2 ⟨z,df (aA e) p,rfl⟩
 intro i v y f n;obtain⟨u,r,x,E,rfl,B⟩:=kE _ _ _ _ _ f;refine tC (o i u y E n) (λk A=>?_);have q:=B k .nil A;rw[mP]at q;have D:=wX q;rintro⟨b,g,_⟩;have t:(ff vs)[r+k]?=some []:=by show((cellsOf vs).map bF)[r+k]?=some [];rw[List.getElem?_map,D];rfl
 rw[Nat.zero_add,t]at g;cases g
theorem pJ (zs vs:List V):(cL zs vs).length=vs.length:=by unfold cL;rw[nv,aS]
theorem ic {zs vs:List V}(l:me (cellsOf vs)=true):∀(i:Nat) (v u:V),(cL zs vs)[i]?=some v->vs[i]?=some u->v.cells.length=u.cells.length:=by
 intro i v u f g;obtain⟨z,n,k,e,rfl,_⟩:=kE _ _ _ _ _ f;rw[aN,g]at e;simp only[Option.map_some,aK]at e;subst e;have j:(u.mapB (gh (ff vs))).cells.length=u.cells.length:=by rw[cU _ (λv u h=>by cases v<;>simp only[gh,aK]at h<;>first|(cases h;done)|(subst h;rfl)),aS]
 rw[<-j];cases m:u.mapB (gh (ff vs))with
 |agg cs=>simp only[nP,V.cells,mg]
 |_=>
  unfold nP;split;·rename_i b;cases b
  ·split;·exact wo _ _ _
   ·rfl
theorem Rd.within {S:Nat->Prop}{v:V}{x:Value}(h:Rd w S v x):∀{T:Nat->Prop},Tr w v x T->Rd w T v x:=by
 induction h with
 |undef x=>intro T _;exact .undef x
 |bool b=>intro T _;exact .bool b
 |int k n=>intro T _;exact .int k n
 |str s x h=>intro T _;exact .str s x h
 |nil=>intro T _;exact .nil
 |empty s f a l=>intro T _;exact .empty s f a l
 |sl s f xs k o l g p q K t N C z r=>
  intro T e;generalize H:(Value.slice (some ⟨k,o,none⟩) xs.length l)=y at e;cases e with
  |leaf _ _ _ h=>cases h
  |empty _ _ _ _ _=>simp at p
  |sl _ _ _ U X F Y W _ L E D J O Q M _=>
   simp only[Value.slice.injEq,aK,Addr.mk.injEq,and_true,true_and]at H;obtain⟨⟨rfl,rfl⟩,rfl⟩:=H;refine .sl s f xs k o l g p q Q t N C (λi x j c u B=>?_);have G:=(bW u).1;have I:j<s:=by rw[<-t x (aA u)];exact(bW B).1
   have A:=(C i j G I).1;rw[E i j G I]at A;injection A with A;have:=D i x j c u B;rw[A]at this;exact(r i x j c u B this).mono (λm R=>M i j m R) (λ_ _ _=>rfl)
 |iptr x k o n g K C z r=>
  intro T e;cases e with
  |leaf _ _ _ h=>cases h
 |agg cs vs p z r=>
  intro T e;cases e with
  |leaf _ _ _ h=>cases h
 |tup cs vs p z r=>
  intro T e;cases e with
  |leaf _ _ _ h=>cases h
 |clo f cs vs p z r=>
  intro T e;cases e with
  |leaf _ _ _ h=>cases h
theorem Rows.within {S N:Nat->Prop}{s:Nat}{xs:List V}{k o:Nat}(h:Rows w S s xs k o)(z:TrRows w N s xs k o):Rows w N s xs k o:=by
 obtain⟨q,g,n,r⟩:=h;obtain⟨A,T,v,t,_,u⟩:=z;refine⟨q,g,n,λi x j c b f=>?_⟩;have l:=(bW b).1;have p:j<s:=by rw[<-q x (aA b)];exact(bW f).1
 have e:=(n i j l p).1;rw[v i j l p]at e;injection e with e;have:=t i x j c b f;rw[e]at this;exact((r i x j c b f).within this).mono (λm y=>u i j m y) (λ_ _ _=>rfl)
def Ctx.handed (Γ:Ctx)(w:World)(l:List (List Nat))(E e:List Nat)(nt:Nat):Ctx:=
  { Γ.placed l with
    w0:=w,F:=λk=>(∃b,[b]∈l/\Γ.has b/\k=Γ.blk b)\/(∃j,j∈e/\k=Γ.box j)\/w.heap.size<=k,
    S:=cB Γ E,R:=cB Γ E,Z:=λm=>∃b,[b]∈l/\Γ.has b/\(Γ.N b m\/m=Γ.blk b),Y:=λm=>∃b,[b]∈l/\Γ.has b/\Γ.N b m,
    lb:=λd=>∃k,k<e.length/\d=nt+k,box:=λd=>Γ.box (e.getD (d-nt) 0),U:=True,nt:=nt }
theorem Bu {l:List (List Nat)}{E B:List Nat}{A:Nat}(O:Γ.U){v:V}{x:Value}(h:VR (Γ.placed l) w v x):VR (Γ.handed w l E B A) w v x:=by
 have G:∀k,Γ.S k->cB Γ E k:=λk W=>.inl W;have F:∀{j:Nat},(Γ.placed l).has j -> ∃b,[b]∈l/\Γ.has b/\(l.getD j []).headD 0=b:=by rintro j ⟨b,e,y,r⟩;exact⟨b,aA e,r,aT e⟩
 have K:∀{q:Q} {b s k o:Nat} {xs:List V},(Γ.placed l).Uq w q b s xs k o->(Γ.handed w l E B A).Uq w q b s xs k o:=λh L _=>(h L O).mono (λm C=>⟨C.1,G m C.2⟩) (λ_ _ _=>rfl) (λ_ _ _=>rfl);have M:∀{q:Q} {b s k o:Nat} {xs:List V},(Γ.placed l).has b->flatOk q xs->(Γ.placed l).Uq w q b s xs k o->Rows w ((Γ.placed l).Sq q) s xs k o->Rows w ((Γ.handed w l E B A).Sq q) s xs k o:=by
  intro q b s k o xs Z L Y p;cases q with
  |any=>exact p.mono (λm C=>G m C) (λ_ _ _=>rfl) (λ_ _ _=>rfl)
  |flat=>exact p.plain (L rfl)
  |clean =>obtain⟨b',e,y,r⟩:=F Z;refine(p.within (Y rfl O)).mono (λm C=>⟨G m C.2,b',e,y,.inl ?_⟩) (λ_ _ _=>rfl) (λ_ _ _=>rfl);have:=C.1;change Γ.N ((l.getD b []).headD 0) m at this;rwa[r]at this
 induction h with
 |rd v x h=>exact .rd _ _ (h.mono G (λ_ _ _=>rfl))
 |ownNil b s q h=>exact .ownNil b s q h
 |own b s q xs e y r H u t=>exact VR.own (Γ:=Γ.handed w l E B A) (w:=w) b s q xs e y r (M e u t H) u (K t)
 |view0 b s q a z h0=>exact .view0 b s q a z h0
 |view b s q xs o z e R r I H u t=>exact VR.view (Γ:=Γ.handed w l E B A) (w:=w) b s q xs o z e R r I (M e u t H) u (K t)
 |ptr d n h=>exact h.elim
 |eptr b s q xs i n e y r X H u t=>exact VR.eptr (Γ:=Γ.handed w l E B A) (w:=w) b s q xs i n e y r X (M e u t H) u (K t)
 |vptr b x o n g e y r=>exact VR.vptr (Γ:=Γ.handed w l E B A) (w:=w) b x o n g e y (λj c T=>(r j c T).mono G (λ_ _ _=>rfl))
 |agg cs vs D _ J=>exact .agg cs vs D J
 |tup cs vs D _ J=>exact .tup cs vs D J
 |clo f cs vs D _ J=>exact .clo f cs vs D J
theorem Good.handed {l:List (List Nat)}{E i:List Nat}{s:Nat}(g:Good Γ w)(aa:∀b,Γ.has b -> ¬Γ.S (Γ.blk b))(O:l.length<999)(u:∀j∈i,Γ.lb j)(A:i.Nodup):Good (Γ.handed w l E i s) w:=by
 have r:∀{j:Nat},(Γ.handed w l E i s).has j -> ∃b,l[j]?=some [b]/\l.idxOf [b]=j/\Γ.has b/\(Γ.handed w l E i s).blk j=Γ.blk b/\(Γ.handed w l E i s).off j=Γ.off b/\(Γ.handed w l E i s).cap j=Γ.cap b/\(Γ.handed w l E i s).sz j=Γ.sz b/\(Γ.handed w l E i s).N j=Γ.N b:=by
  rintro j ⟨b,f,v,q⟩;refine⟨b,f,v,q,?_,?_,?_,?_,?_⟩;·show Γ.blk _=_;rw[aT f]
  ·show Γ.off _=_;rw[aT f]
  ·show Γ.cap _=_;rw[aT f]
  ·show Γ.sz _=_;rw[aT f]
  ·show Γ.N _=_;rw[aT f]
 have n:∀{k:Nat},k<i.length->(Γ.handed w l E i s).box (s+k)=Γ.box (i.getD k 0)/\i.getD k 0∈i:=by
  intro k p;refine⟨?_,?_⟩;·show Γ.box (i.getD (s+k-s) 0)=_;rw[Nat.add_sub_cancel_left]
  ·rw[List.getD_eq_getElem?_getD,List.getElem?_eq_getElem p];exact List.getElem_mem p
 refine⟨rfl,rfl,rfl,Nat.le_refl _,λ_ _ _=>rfl,λ_ h=>.inr (.inr h),λk p=>fz g p,λj t=>?_,λj j' t D y=>?_,?_,?_,?_,λk p=>.inl p,⟨g.glob,?_⟩,λj t=>?_,?_,λj t m o=>?_,?_⟩;·obtain⟨b,f,v,q,x,R,Y,e4,M⟩:=r t;obtain⟨b1,K,W,F⟩:=g.base b q;rw[x,R,Y,e4];exact⟨.inl ⟨b,aA f,q,rfl⟩,K,W,F⟩
 ·obtain⟨b,f,v,q,x,_⟩:=r t;obtain⟨V,Q,C,G,J,_⟩:=r D;rw[x,J]at y;have:=g.baseInj b V q G y;subst this;rw[<-v,<-C]
 ·rintro d ⟨k,p,rfl⟩;obtain⟨e,o⟩:=n p;rw[e];have z:=u _ o;exact⟨.inr (.inl ⟨_,o,rfl⟩),g_ g z,(g.box _ z).2.2⟩
 ·rintro d d' ⟨k,p,rfl⟩ ⟨L,B,rfl⟩ y;obtain⟨e,o⟩:=n p;obtain⟨U,H⟩:=n B;rw[e,U]at y;have f:=g.boxInj _ _ (u _ o) (u _ H) y;have Z:i.getD k 0=i[k]:=by rw[List.getD_eq_getElem?_getD,List.getElem?_eq_getElem p];rfl
  have X:i.getD L 0=i[L]:=by rw[List.getD_eq_getElem?_getD,List.getElem?_eq_getElem B];rfl
  rw[Z,X]at f;have:=(List.getElem_inj A).1 f;omega
 ·rintro j d t ⟨k,p,rfl⟩;obtain⟨b,f,v,q,x,_⟩:=r t;obtain⟨e,o⟩:=n p;rw[x,e];exact g.baseBox b _ q (u _ o)
 ·rintro k (⟨b,_,h,rfl⟩|⟨j,t,rfl⟩|h);·exact g.gl.2 _ (g.base b h).1
  ·exact g.gl.2 _ (g.box j (u j t)).1
  ·exact Nat.le_trans g.glob.2 h
 ·obtain⟨b,f,v,q,x,_⟩:=r t;exact⟨b,aA f,q,.inr x⟩
 ·rintro m ⟨b,z,hh,o⟩;rcases o with o|rfl;·obtain⟨f,v⟩:=g.ns b hh m o;obtain⟨_,T⟩:=g.zf m v;exact⟨.inr ⟨b,z,hh,o⟩,T⟩
  ·obtain⟨_,K,_,I,e,F,_⟩:=g.base b hh;exact⟨.inl (.inl ⟨b,z,hh,rfl⟩),K,I,e,F⟩
 ·obtain⟨b,f,v,q,_,_,_,_,M⟩:=r t;rw[M]at o;exact⟨.inl (g.ns b q m o).1,b,aA f,q,.inl o⟩
 ·rintro⟨b,f,_⟩;have:=(bW f).1;omega
end
end Go.Am
end
section
namespace Go.Am
open Go Go.RowKit
section
variable {P:Program}{c:Cfg}{Γ Γ':Ctx}{st:St}{a:Act}{w w':World}{den:Nat->List V->Option V}{η:Nat->Option V}{d:Nat}
def BoxAt (Γ:Ctx)(w:World)(B:Nat)(v:V):Prop:=∃b e,w.heap[B]?=some (.cells b e (0,0))/\v.cells.length=b.size /\ ∀(j:Nat) (c:V),v.cells[j]?=some c -> ∃y,b[j]?=some y/\VR Γ w c y
structure Home (Γ:Ctx) (w:World) (s:Io) (outs:List V) (x:Value) (w':World):Prop where
  os:w'.os=w.os
  tape:w'.tape=w.tape
  output:w'.output=w.output
  size:w.heap.size<=w'.heap.size
  old:∀k,k<w.heap.size -> ¬Γ.F k->w'.heap[k]?=w.heap[k]?
  len:s.nb<=outs.length
  val:∃Γr:Ctx,
    (s.rb=false -> ∃ys:List Value,ys.length=outs.length-s.nb/\(∀(i:Nat) (v:V) (y:Value),outs[i]?=some v->ys[i]?=some y->VR Γr w' v y)/\x=(if h:ys.toArray.size=1 then ys.toArray[0]else .tuple ys.toArray)) /\
    (s.rb=true -> ∃(B:Nat) (r:V),outs.take (outs.length-s.nb)=[r]/\x = .pointer (some ⟨B,0,none⟩)/\BoxAt Γr w' B r/\Γ.F B/\B<w'.heap.size /\ ¬Γr.S B/\(∀b,Γr.has b->Γr.blk b≠B) /\ ∀k,k<s.nb->Γ.box (s.nt+k)≠B) /\
    (∀(k:Nat) (v:V),(outs.drop (outs.length-s.nb))[k]?=some v->BoxAt Γr w' (Γ.box (s.nt+k)) v) /\
    (∀k,Γr.S k->(Γ.R k\/Γ.F k)/\k<w'.heap.size) /\
    (∀b,Γr.has b->Γ.F (Γr.blk b)/\Γr.blk b<w'.heap.size /\ ¬Γr.S (Γr.blk b)/\Γr.cap b<=maxLen /\ ∃cur e,w'.heap[Γr.blk b]?=some (.cells cur e (0,0))/\Γr.off b+Γr.cap b*Γr.sz b<=cur.size) /\
    (∀b b',Γr.has b->Γr.has b'->Γr.blk b=Γr.blk b'->b=b') /\
    (∀b k,Γr.has b->k<s.nb->Γr.blk b≠Γ.box (s.nt+k))/\(∀k,k<s.nb -> ¬Γr.S (Γ.box (s.nt+k))) /\
    (∀b,Γr.has b->Γr.Z (Γr.blk b))/\(∀k,Γr.Z k->(Γ.F k\/Γ.Y k)/\k<w'.heap.size /\ ∃cur e,w'.heap[k]?=some (.cells cur e (0,0))) /\
    Γr.U/\(∀b,Γr.has b -> ∀m,Γr.N b m->Γr.S m/\Γr.Z m) /\ ∀b b',Γr.has b->Γr.has b'->b≠b' -> ∀m,Γr.N b m->Γr.N b' m->False
def MP (P:Program)(f:Nat)(s:Io)(args:List V)(r:V):Prop:=
 (∃fn,P.funcs[f]?=some fn/\fn.body.isNone=false/\(fn.name == "runtime.NumGoroutine")=false) /\ ∃outs,r = .tup outs /\
 ∀(Γ:Ctx) (w:World) (vals:Array Value),Γ.w0=w->Γ.nt=s.nt->vals.size=s.md.length->s.md.length<=s.nt->(V.anyBs (λ_=>true) args=false -> ∀k,¬Γ.Y k)->Sim Γ (ry s args) { tmps:=vals++Array.replicate (s.nt-vals.size) undef,defers:=[] } w ->
  Calls P f vals w λ
   |.returned x,w'=>Home Γ w s outs x w'
   |_,_=>False
def cZ (P:Program)(c:Cfg)(den:Nat->List V->Option V):Prop:=∀f s args r,c.io f=some s->den f (gc :: args)=some r->MP P f s args r
theorem mem_basesL {vs:List V}{b:Nat}:b∈cT vs↔[b]∈ff vs:=by
 unfold cT ff;rw[List.mem_flatten];constructor
 ·rintro⟨l,g,e⟩;obtain⟨v,f,rfl⟩:=List.mem_map.1 g;have:bF v=[b]:=by cases v<;>simp[bF]at e ⊢<;>exact e.symm
  rw[<-this];exact List.mem_map.2 ⟨v,f,rfl⟩
 ·intro h;exact⟨[b],h,List.mem_singleton.2 rfl⟩
theorem mh:∀(l:List Nat) (g:List V) (h:List (Option V)) (i:Nat) (v:V),l.length=g.length->(dP h l g)[i]?=some (some v)->(∃k:Nat,l[k]?=some i/\g[k]?=some v)\/(h[i]?=some (some v)/\i∉l):=by
 intro l;induction l with
 |nil=>intro g h i v o n;exact .inr ⟨n,by simp⟩
 |cons j l q=>
  intro g h i v o n;cases g with
  |nil=>simp at o
  |cons b g=>
   rw[dP]at n;rcases q g _ i v (by simpa using o) n with⟨k,f,p⟩|⟨f,p⟩;·exact .inl ⟨k+1,by simpa using f,by simpa using p⟩
   ·rw[List.getElem?_set]at f;split at f
    ·rename_i m;subst m;split at f;·simp only[aK]at f;subst f;exact .inl ⟨0,rfl,rfl⟩
     ·cases f
    ·rename_i m;exact .inr ⟨f,by simp[p];exact λe=>m e.symm⟩
theorem lm {f:V->Option V}{cs:List V}{u:V}(e:u∈cs):u.mapB f∈V.mapBs f cs:=by obtain⟨i,b⟩:=List.getElem?_of_mem e;refine aA (i:=i) ?_;rw[aN,b];rfl
theorem wk (l:List Nat):∀v u,bH l v=some u->u.cells=[u]:=by intro v u h;cases v<;>simp only[bH]at h<;>first|(cases h;done)|(split at h<;>first|(injection h with h;subst h;rfl)|cases h)
theorem Sim.ioHome {vs outs:List V}{E js:List Nat}{s:Io}{x:Value}{m:Bool}(hs:Sim Γ st a w)(hdead:∀b,st.dead b=false)(hdup:st.dup=false)(hl:(ff vs).length<999)(hjs:∀j∈js,Γ.lb j)(hnod:js.Nodup)(hnb:js.length=s.nb)
    (hEL:∀b∈E,b∉cT vs) (hh:Home (Γ.handed w (ff vs) E js s.nt) w s outs x w') (hd:d<1000) (h9:V.anyBs (λb=>decide (999<=b)) outs=false)
    (hf:V.anyBs (λ_=>true) outs=false\/(st.sweep (bH (cT vs))).freeD d=true) :
    ∃Γ'',Same Γ Γ'' /\
     Sim Γ'' ((({ st.sweep (bH (cT vs))with t:=(st.sweep (bH (cT vs))).t.set d .undef,h:=dP (st.sweep (bH (cT vs))).h js (V.mapBs (cM d) (outs.drop (outs.length-s.nb))) }:St).kill (if V.olds outs then E else[])).mark m) (a.put (some d) x) w' /\
     (s.rb=false -> ∃ys:List Value,ys.length=outs.length-s.nb/\(∀(i:Nat) (v:V) (y:Value),(V.mapBs (cM d) outs)[i]?=some v->ys[i]?=some y->VR Γ'' w' v y)/\x=(if h:ys.toArray.size=1 then ys.toArray[0]else .tuple ys.toArray)) /\
     (s.rb=true -> ∃(B:Nat) (r:V),outs.take (outs.length-s.nb)=[r]/\x = .pointer (some ⟨B,0,none⟩)/\BoxAt Γ'' w' B (r.mapB (cM d))/\Γ.F B/\B<w'.heap.size /\ ¬Γ''.S B/\(∀b,Γ''.has b->Γ''.blk b≠B) /\ ∀k,Γ''.lb k->Γ''.box k≠B):=by
  have g:=hs.good;have hU:Γ.U:=hs.du hdup;obtain⟨Γr,v0,v1,v2,rS,rb,rinj,rbb,rSb,rbz,rzf,rU,rns,rnd⟩:=hh.val;let l:=ff vs;let L:=cT vs;let esc:=if V.olds outs then E else[]
  let n:=V.anyBs (λ_=>true) outs;let p:Nat->Bool:=λb=>n&&(b/1000==d);let Fc:Nat->Prop:=λk=>(∃b,[b]∈l/\Γ.has b/\k=Γ.blk b)\/(∃j,j∈js/\k=Γ.box j)\/w.heap.size<=k;have hold:∀k,k<w.heap.size -> ¬Fc k->w'.heap[k]?=w.heap[k]?:=hh.old;have FcF:∀{k},Fc k->Γ.F k:=by
    rintro k (⟨b,_,h,rfl⟩|⟨j,hj,rfl⟩|h);·exact(g.base b h).1
    ·exact(g.box j (hjs j hj)).1
    ·exact g.new k (Nat.le_trans g.size h)
  have notS:∀{k},Γ.S k -> ¬Fc k:=by
    rintro k hk (⟨b,_,h,rfl⟩|⟨j,hj,rfl⟩|h);·exact hs.nds b h (hdead b) hk
    ·exact(g.box j (hjs j hj)).2.1 hk
    ·have:=g.slt k hk;omega
  have notB:∀{b},Γ.has b->b∉L -> ¬Fc (Γ.blk b):=by
    rintro b hb hbL (⟨b',h1,h,e⟩|⟨j,hj,e⟩|h);·have:=g.baseInj b b' hb h e;subst this;exact hbL (mem_basesL.2 h1)
    ·exact g.baseBox b j hb (hjs j hj) e
    ·have:=(g.base b hb).2.1;omega
  have notX:∀{k},Γ.lb k->k∉js -> ¬Fc (Γ.box k):=by
    rintro k hk hkj (⟨b',h1,h,e⟩|⟨j,hj,e⟩|h);·exact g.baseBox b' k h hk e.symm
    ·have:=g.boxInj k j hk (hjs j hj) e;subst this;exact hkj hj
    ·have:=(g.box k hk).2.2;omega
  have boxAt:∀{k i:Nat},js[k]?=some i->(Γ.handed w l E js s.nt).box (s.nt+k)=Γ.box i/\k<s.nb:=by intro k i hk;refine⟨?_,by rw[<-hnb];exact(bW hk).1⟩;show Γ.box (js.getD (s.nt+k-s.nt) 0)=_;rw[Nat.add_sub_cancel_left,List.getD_eq_getElem?_getD,hk];rfl
  have boxOf:∀{k},k∈js -> ∃i,i<s.nb/\(Γ.handed w l E js s.nt).box (s.nt+i)=Γ.box k:=by intro k hk;obtain⟨i,hi⟩:=List.getElem?_of_mem hk;obtain⟨e1,e2⟩:=boxAt hi;exact⟨i,e2,e1⟩
  let Γ'':Ctx:={ Γ with S:=λk=>cB Γ esc k\/(Γr.S k/\Fc k),has:=λb=>if p b=true then Γr.has (b%1000)/\b≠999 else Γ.has b/\b∉L,
                        blk:=λb=>if p b=true then Γr.blk (b%1000)else Γ.blk b,off:=λb=>if p b=true then Γr.off (b%1000)else Γ.off b,
                        cap:=λb=>if p b=true then Γr.cap (b%1000)else Γ.cap b,sz:=λb=>if p b=true then Γr.sz (b%1000)else Γ.sz b,
                        ln:=λb=>if p b=true then Γr.ln (b%1000)else Γ.ln b,Z:=λk=>(Γ.Z k /\ ¬Fc k)\/Γr.Z k,
                        N:=λb=>if p b=true then Γr.N (b%1000)else Γ.N b,U:=True }
  have pd:∀{b},p b=true->n=true/\b/1000=d:=by intro b hb;simpa only[p,Bool.and_eq_true,beq_iff_eq]using hb
  have YcS:∀{k},(Γ.handed w l E js s.nt).Y k->Γ.S k/\Γ.Z k:=by rintro k ⟨b,_,h2,h3⟩;exact g.ns b h2 k h3
  have zS:∀{k},Γr.Z k->Γr.S k->Γ''.S k:=by
    intro k hz hk;rcases(rzf k hz).1 with h|h;·exact .inr ⟨hk,h⟩
    ·exact .inl (.inl (YcS h).1)
  have hgood:Good Γ'' w':=by
    refine⟨hh.os.trans g.os,hh.tape.trans g.tape,hh.output.trans g.output,Nat.le_trans g.size hh.size,λk hk hF=>?_,g.new,λk hk=>?_,λb hb=>?_,λb b' hb hb' he=>?_,λk hk=>?_,g.boxInj,λb k hb hk=>?_,λk hk=>?_,g.gl,λb hb=>?bz,λk hk=>?zf,λb hb m hm=>?ns,λh=>?h9⟩
    case h9=>
      change (if p 999=true then _/\(999:Nat)≠999 else Γ.has 999/\_)at h;split at h;·exact h.2 rfl
      ·exact g.h9 h.1
    case ns=>
      change (if p b=true then Γr.has (b%1000)/\b≠999 else Γ.has b/\b∉L)at hb;change (if p b=true then Γr.N (b%1000)else Γ.N b) m at hm;by_cases hp:p b=true;·rw[if_pos hp]at hb hm;obtain⟨h1,h2⟩:=rns _ hb.1 m hm;exact⟨zS h2 h1,.inr h2⟩
      ·rw[if_neg hp]at hb hm;obtain⟨h1,h2⟩:=g.ns b hb.1 m hm;exact⟨.inl (.inl h1),.inl ⟨h2,notS h1⟩⟩
    case bz=>
      change (if p b=true then Γr.has (b%1000)/\b≠999 else Γ.has b/\b∉L)at hb;show(Γ.Z (if p b=true then _ else _) /\ ¬Fc (if p b=true then _ else _))\/Γr.Z (if p b=true then _ else _);by_cases hp:p b=true;·rw[if_pos hp]at hb ⊢;exact .inr (rbz _ hb.1)
      ·rw[if_neg hp]at hb ⊢;exact .inl ⟨g.bz b hb.1,notB hb.1 hb.2⟩
    case zf=>
      rcases hk with⟨hk,hnF⟩|hk;·obtain⟨z1,z2,cur,e,h⟩:=g.zf k hk;exact⟨z1,Nat.lt_of_lt_of_le z2 hh.size,cur,e,(hold k z2 hnF).trans h⟩
      · obtain⟨z1,z2⟩:=rzf k hk;refine⟨?_,z2⟩;rcases z1 with h|h;·exact .inl (FcF h)
        ·exact(g.zf k (YcS h).2).1
    ·have hk':k<w.heap.size:=Nat.lt_of_lt_of_le hk g.size;exact(hold k hk' (λh=>hF (FcF h))).trans (g.old k hk hF)
    · rcases hk with hk|⟨hk,_⟩;·exact Nat.lt_of_lt_of_le (fz g hk) hh.size
      ·exact(rS k hk).2
    · change (if p b=true then Γr.has (b%1000)/\b≠999 else Γ.has b/\b∉L)at hb
      show Γ.F (if p b=true then _ else _)/\(if p b=true then _ else _)<_/\(if p b=true then _ else _)<=_ /\ ∃cur e,w'.heap[if p b=true then Γr.blk (b%1000)else Γ.blk b]?=some (.cells cur e (0,0)) /\
        (if p b=true then Γr.off (b%1000)else Γ.off b)+(if p b=true then Γr.cap (b%1000)else Γ.cap b)*(if p b=true then Γr.sz (b%1000)else Γ.sz b)<=cur.size
      by_cases hp:p b=true;·simp only[if_pos hp]at hb ⊢;obtain⟨h1,h2,_,h4,h5⟩:=rb _ hb.1;exact⟨FcF h1,h2,h4,h5⟩
      ·simp only[if_neg hp]at hb ⊢;obtain⟨h1,h2,h3,cur,e,h4,h5⟩:=g.base b hb.1;exact⟨h1,Nat.lt_of_lt_of_le h2 hh.size,h3,cur,e,(hold _ h2 (notB hb.1 hb.2)).trans h4,h5⟩
    · change (if p b=true then Γr.has (b%1000)/\b≠999 else Γ.has b/\b∉L)at hb;change (if p b'=true then Γr.has (b'%1000)/\b'≠999 else Γ.has b'/\b'∉L)at hb';change (if p b=true then Γr.blk (b%1000)else Γ.blk b)=(if p b'=true then Γr.blk (b'%1000)else Γ.blk b')at he;by_cases hp:p b=true
      · by_cases hp':p b'=true;·rw[if_pos hp]at hb;rw[if_pos hp']at hb';rw[if_pos hp,if_pos hp']at he;have h1:=rinj _ _ hb.1 hb'.1 he;have h2:=(pd hp).2;have h3:=(pd hp').2;omega
        ·rw[if_pos hp]at hb;rw[if_neg hp']at hb';rw[if_pos hp,if_neg hp']at he;have h1:=(rb _ hb.1).1;rw[he]at h1;exact absurd h1 (notB hb'.1 hb'.2)
      · by_cases hp':p b'=true;·rw[if_neg hp]at hb;rw[if_pos hp']at hb';rw[if_neg hp,if_pos hp']at he;have h1:=(rb _ hb'.1).1;rw[<-he]at h1;exact absurd h1 (notB hb.1 hb.2)
        ·rw[if_neg hp]at hb;rw[if_neg hp']at hb';rw[if_neg hp,if_neg hp']at he;exact g.baseInj b b' hb.1 hb'.1 he
    · obtain⟨h1,h2,h3⟩:=g.box k hk;refine⟨h1,?_,Nat.lt_of_lt_of_le h3 hh.size⟩;rintro(h|⟨h,hF⟩);·exact g_ g hk h
      · by_cases hkj:k∈js;·obtain⟨i,e1,e2⟩:=boxOf hkj;exact rSb i e1 (by rw[e2];exact h)
        ·exact notX hk hkj hF
    · change (if p b=true then Γr.has (b%1000)/\b≠999 else Γ.has b/\b∉L)at hb;show(if p b=true then Γr.blk (b%1000)else Γ.blk b)≠Γ.box k;by_cases hp:p b=true
      · rw[if_pos hp]at hb ⊢;by_cases hkj:k∈js;·obtain⟨i,e1,e2⟩:=boxOf hkj;rw[<-e2];exact rbb _ i hb.1 e1
        ·intro e;have h1:=(rb _ hb.1).1;rw[e]at h1;exact notX hk hkj h1
      ·rw[if_neg hp]at hb ⊢;exact g.baseBox b k hb.1 hk
    · rcases hk with hk|⟨_,hk⟩;·exact od g k hk
      ·exact .inr (FcF hk)
  -- what the caller had
  have keep:∀{u:V} {y:Value},VR Γ w u y->u.anyB (λb=>p b||L.contains b)=false->VR Γ'' w' u y:=by
    intro u y hu hp
    refine VR.mono' (Γ:=Γ) (Γ':=Γ'') (w:=w) (w':=w') (p:=λb=>p b||L.contains b) (r:=λ_=>false) (λ_=>hU) (λk hk=>.inl (.inl hk)) (λk hk hz=>.inl ⟨hz,notS hk⟩) (λk hk=>cell?_of_heap (hold k (g.slt k hk) (notS hk)))
      (λb hb=>?_) (λ_ _=>⟨λh=>h,rfl⟩) hu hp (cS _)
    rw[Bool.or_eq_false_iff]at hb;have hp':¬p b=true:=by rw[hb.1];simp
    have hbL:b∉L:=by simpa using hb.2
    refine⟨?_,λhh'=>⟨if_neg hp',if_neg hp',if_neg hp',if_neg hp',if_neg hp',λm hm=>?_,cell?_of_heap (hold _ (g.base b hh').2.1 (notB hh' hbL))⟩⟩;·show(if p b=true then _ else _)↔_;rw[if_neg hp'];exact⟨λh=>h.1,λh=>⟨h,hbL⟩⟩
    ·show(if p b=true then Γr.N (b%1000)else Γ.N b) m;rw[if_neg hp'];exact hm
  have swept:∀(u:V) (y:Value),(u.mapB (bH L)).anyB p=false->VR Γ w u y->VR Γ'' w' (u.mapB (bH L)) y:=by
    intro u y hp hu;refine VR.sweepC (Γ:=Γ) (Γ':=Γ'') (w:=w) (w':=w') (λu=>(u.mapB (bH L)).anyB p=false) (λcs h u hu=>ax h _ (lm hu)) (λcs h u hu=>ax h _ (lm hu)) (λ_ cs h u hu=>ax h _ (lm hu)) (λu y hleaf hc hu=>?_) u y hp hu;cases u with
    |own b s q xs=>
     simp only[bH];split;·exact VR.undef_ _
     · rename_i hb;have hb':L.contains b=false:=by simpa using hb
       simp only[V.mapB,bH,hb',Bool.false_eq_true,if_false,Option.getD_none,V.anyB]at hc;exact keep (u:=.own b s q xs) hu (by simp only[V.anyB,hc,hb'];rfl)
    |view b s q xs=>
     simp only[bH];split;·exact VR.undef_ _
     · rename_i hb;have hb':L.contains b=false:=by simpa using hb
       simp only[V.mapB,bH,hb',Bool.false_eq_true,if_false,Option.getD_none,V.anyB]at hc;exact keep (u:=.view b s q xs) hu (by simp only[V.anyB,hc,hb'];rfl)
    |eptr b s q xs i o=>
     simp only[bH];split;·exact VR.undef_ _
     · rename_i hb;have hb':L.contains b=false:=by simpa using hb
       simp only[V.mapB,bH,hb',Bool.false_eq_true,if_false,Option.getD_none,V.anyB]at hc;exact keep (u:=.eptr b s q xs i o) hu (by simp only[V.anyB,hc,hb'];rfl)
    |vptr b z o=>
     simp only[bH];split;·exact VR.undef_ _
     · rename_i hb;have hb':L.contains b=false:=by simpa using hb
       simp only[V.mapB,bH,hb',Bool.false_eq_true,if_false,Option.getD_none,V.anyB]at hc;exact keep (u:=.vptr b z o) hu (by simp only[V.anyB,hc,hb'];rfl)
    |agg _=>cases hleaf
    |tup _=>cases hleaf
    |clo _ _=>cases hleaf
    |_=>exact keep hu rfl
  have freeT:∀(i:Nat) (u:V),i≠d->(V.mapBs (bH L) st.t)[i]?=some u->u.anyB p=false:=by
    intro i u hi hu;rcases hf with h0|hf
    · have:p=λ_=>false:=by funext b;simp[p,n,h0]
      rw[this];exact bN u
    · have h1:=kN hf i u hi hu;cases hn:n with
      |false=>
       have:p=λ_=>false:=by funext b;simp[p,hn]
       rw[this];exact bN u
      |true=>
       have:p=λb=>b/1000==d:=by funext b;simp[p,hn]
       rw[this];exact h1
  have freeH:∀(i:Nat) (u:V),(jz (bH L) st.h)[i]?=some (some u)->u.anyB p=false:=by
    intro i u hu;rcases hf with h0|hf
    · have:p=λ_=>false:=by funext b;simp[p,n,h0]
      rw[this];exact bN u
    · have h1:=og hf i u hu;cases hn:n with
      |false=>
       have:p=λ_=>false:=by funext b;simp[p,hn]
       rw[this];exact bN u
      |true=>
       have:p=λb=>b/1000==d:=by funext b;simp[p,hn]
       rw[this];exact h1
  -- what the call hands back
  have thawed:∀(u:V) (y:Value),u.anyB (λb=>decide (999<=b))=false->(u.old=true->V.olds outs=true)->(u.anyB (λ_=>true)=true->n=true)->VR Γr w' u y->VR Γ'' w' (u.mapB (cM d)) y:=by
    intro r x t1 t2 t3 hv;have hSo:V.olds outs=true -> ∀k,Γr.S k->Γ''.S k:=by
      intro ho k hk;rcases(rS k hk).1 with h|h;·have h:cB Γ E k:=h;have e:esc=E:=if_pos ho;exact .inl (by rw[e];exact h)
      ·exact .inr ⟨hk,h⟩
    have hSq:∀(q:Q),(q.good=false->V.olds outs=true) -> ∀k,Γr.Sq q k->Γ''.Sq q k:=by
      intro q hq k hk;cases q with
      |any=>exact hSo (hq rfl) k hk
      |flat=>exact⟨zS hk.2 hk.1,.inr hk.2⟩
      |clean=>exact⟨zS hk.2 hk.1,.inr hk.2⟩
    refine VR.sweepC (Γ:=Γr) (Γ':=Γ'') (w:=w') (w':=w') (λu=>u.anyB (λb=>decide (999<=b))=false/\(u.old=true->V.olds outs=true)/\(u.anyB (λ_=>true)=true->n=true))
      (λcs h u hu=>⟨ax h.1 u hu,λe=>h.2.1 (eB hu e),λe=>h.2.2 (bg hu e)⟩) (λcs h u hu=>⟨ax h.1 u hu,λe=>h.2.1 (eB hu e),λe=>h.2.2 (bg hu e)⟩)
      (λ_ cs h u hu=>⟨ax h.1 u hu,λe=>h.2.1 (eB hu e),λe=>h.2.2 (bg hu e)⟩) (λu y hleaf hc hu=>?_) r x ⟨t1,t2,t3⟩ hv
    obtain⟨c1,c2,c3⟩:=hc;cases u with
    |undef=>exact VR.undef_ _
    |bool b=>rw[hu.bool_inv];exact .rd _ _ (.bool b)
    |int k m=>rw[hu.int_inv];exact .rd _ _ (.int k m)
    |str s=>obtain⟨z,rfl,hz⟩:=hu.str_inv;exact .rd _ _ (.str s z hz)
    |nil=>rw[hu.nil_inv];exact .rd _ _ .nil
    |sl s f xs=>exact .rd _ _ (hu.sl_inv.mono (hSo (c2 rfl)) (λ_ _ _=>rfl))
    |iptr z o=>
     cases hu with
     |rd _ _ h=>exact .rd _ _ (h.mono (hSo (c2 rfl)) (λ_ _ _=>rfl))
    |ptr _ _=>exact VR.undef_ _
    |eptr _ _ _ _ _ _=>exact VR.undef_ _
    |vptr _ _ _=>exact VR.undef_ _
    |agg _=>cases hleaf
    |tup _=>cases hleaf
    |clo _ _=>cases hleaf
    |own b s q xs=>
     have hb9:b<999:=by simpa[V.anyB]using c1
     have hb:b<1000:=by omega
     have hn0:=c3 rfl;have hpb:p (base d b)=true:=by simp[p,hn0,hO hd hb]
     have hmod:base d b%1000=b:=by unfold base;omega
     have e0:Γ''.has (base d b)=Γr.has b:=by show(if p (base d b)=true then _ else _)=_;rw[if_pos hpb,hmod];exact propext ⟨λh=>h.1,λh=>⟨h,by unfold base;omega⟩⟩
     have e6:Γ''.N (base d b)=Γr.N b:=by show(if p (base d b)=true then _ else _)=_;rw[if_pos hpb,hmod]
     have e1:Γ''.blk (base d b)=Γr.blk b:=by show(if p (base d b)=true then _ else _)=_;rw[if_pos hpb,hmod]
     have e2:Γ''.off (base d b)=Γr.off b:=by show(if p (base d b)=true then _ else _)=_;rw[if_pos hpb,hmod]
     have e3:Γ''.cap (base d b)=Γr.cap b:=by show(if p (base d b)=true then _ else _)=_;rw[if_pos hpb,hmod]
     have e4:Γ''.sz (base d b)=Γr.sz b:=by show(if p (base d b)=true then _ else _)=_;rw[if_pos hpb,hmod]
     have e5:Γ''.ln (base d b)=Γr.ln b:=by show(if p (base d b)=true then _ else _)=_;rw[if_pos hpb,hmod]
     simp only[cM,Option.getD_some];have huq:=hu.own_uq;rcases hu.own_inv with⟨rfl,rfl,h3⟩|⟨rfl,h1,h2,h3,h4,h5⟩;·exact .ownNil _ _ _ (by rw[e0];exact h3)
     · have:=VR.own (Γ:=Γ'') (w:=w') (base d b) s q xs (by rw[e0];exact h1) (by rw[e4];exact h2) (by rw[e3,e5];exact h3)
         (by rw[e1,e2];exact h4.mono (hSq q (λe=>c2 (by simp[V.old,e]))) (λ_ _ _=>rfl) (λ_ _ _=>rfl)) h5 (λhq _=>by rw[e1,e2];exact(huq hq rU).mono (λm hm=>⟨by rw[e6];exact hm.1,zS (rns _ h1 m hm.1).2 hm.2⟩) (λ_ _ _=>rfl) (λ_ _ _=>rfl))
       rwa[e1,e2,e3]at this
    |view b s q xs=>
     have hb9:b<999:=by simpa[V.anyB]using c1
     have hb:b<1000:=by omega
     have hn0:=c3 rfl;have hpb:p (base d b)=true:=by simp[p,hn0,hO hd hb]
     have hmod:base d b%1000=b:=by unfold base;omega
     have e0:Γ''.has (base d b)=Γr.has b:=by show(if p (base d b)=true then _ else _)=_;rw[if_pos hpb,hmod];exact propext ⟨λh=>h.1,λh=>⟨h,by unfold base;omega⟩⟩
     have e6:Γ''.N (base d b)=Γr.N b:=by show(if p (base d b)=true then _ else _)=_;rw[if_pos hpb,hmod]
     have e1:Γ''.blk (base d b)=Γr.blk b:=by show(if p (base d b)=true then _ else _)=_;rw[if_pos hpb,hmod]
     have e2:Γ''.off (base d b)=Γr.off b:=by show(if p (base d b)=true then _ else _)=_;rw[if_pos hpb,hmod]
     have e3:Γ''.cap (base d b)=Γr.cap b:=by show(if p (base d b)=true then _ else _)=_;rw[if_pos hpb,hmod]
     have e4:Γ''.sz (base d b)=Γr.sz b:=by show(if p (base d b)=true then _ else _)=_;rw[if_pos hpb,hmod]
     simp only[cM,Option.getD_some];have hu0:=hu;rcases hu.view_inv with⟨ad,cap,rfl,rfl⟩|⟨o,cap,rfl,h1,hx,h3,hfit,h4,h5⟩;·exact .view0 _ _ _ _ _ (hu.view0_of.to (Iff.of_eq e0) (λ_=>⟨e1,e2,e3,e4⟩))
     · have:=VR.view (Γ:=Γ'') (w:=w') (base d b) s q xs o cap (by rw[e0];exact h1) hx h3 (by rw[e2,e3,e4];exact hfit)
         (by rw[e1];exact h4.mono (hSq q (λe=>c2 (by simp[V.old,e]))) (λ_ _ _=>rfl) (λ_ _ _=>rfl)) h5 (λhq _=>by rw[e1];exact(hu0.view_uq hq rU).mono (λm hm=>⟨by rw[e6];exact hm.1,zS (rns _ h1 m hm.1).2 hm.2⟩) (λ_ _ _=>rfl) (λ_ _ _=>rfl))
       rwa[e1]at this
  have thawedOut:∀(u:V) (y:Value),u∈outs->VR Γr w' u y->VR Γ'' w' (u.mapB (cM d)) y:=λu y hu=>thawed u y (ax h9 u hu) (λe=>eB hu e) (λe=>bg hu e);have boxed:∀(u:V) (B:Nat),u∈outs->BoxAt Γr w' B u->BoxAt Γ'' w' B (u.mapB (cM d)):=by
    rintro u B hu ⟨cur,e,b1,b2,b3⟩;have hcells:(u.mapB (cM d)).cells=V.mapBs (cM d) u.cells:=cU _ (λv u h=>by cases v<;>simp only[cM,aK]at h<;>first|(cases h;done)|(subst h;rfl)) u;refine⟨cur,e,b1,by rw[hcells,aS];exact b2,λj cc hc=>?_⟩;rw[hcells,aN]at hc;cases hc0:u.cells[j]? with
    |none=>rw[hc0]at hc;cases hc
    |some z=>
     rw[hc0]at hc;simp only[Option.map_some,aK]at hc;subst hc;obtain⟨y,y1,y2⟩:=b3 j z hc0;refine⟨y,y1,thawed z y (o9 (ax h9 u hu) hc0) (λe=>eB hu ?_) (λe=>bg hu ?_) y2⟩
     · cases u with
       |agg cs=>exact eB (aA hc0) e
       |_=>
        obtain rfl:j=0:=by
          cases j with
          |zero=>rfl
          |succ j=>simp[V.cells]at hc0
        simp only[V.cells,List.getElem?_cons_zero,aK]at hc0;subst hc0;exact e
     · cases u with
       |agg cs=>exact bg (aA hc0) e
       |_=>
        obtain rfl:j=0:=by
          cases j with
          |zero=>rfl
          |succ j=>simp[V.cells]at hc0
        simp only[V.cells,List.getElem?_cons_zero,aK]at hc0;subst hc0;exact e
  refine⟨Γ'',⟨rfl,rfl,rfl,rfl,rfl,λ_ _=>rfl⟩,⟨hgood,hs.dz,?_,λi v hi=>?_,λk v hk=>?_,λb hb hdd=>?_,λ_=>trivial,λ_ b b' hb hb' hdd hdd' hne m hm hm'=>?_,?_⟩,λhrb=>?_,λhrb=>?_⟩;·simp only[St.kill,St.mark,Act.put,St.sweep,List.length_set,aS,Array.size_setIfInBounds];exact hs.len
  · simp only[St.kill,St.mark,St.sweep,Act.put]at hi ⊢;rw[List.getElem?_set]at hi;split at hi
    · rename_i hid;subst hid;split at hi;·rename_i hlt;rw[aS]at hlt;injection hi with hi;subst hi;exact⟨x,by rw[Array.getElem?_setIfInBounds];simp[hs.len,hlt],VR.undef_ _⟩
      ·cases hi
    · rename_i hid;have hfree:=freeT i v (λe=>hid e.symm) hi;rw[aN]at hi;cases hc:st.t[i]? with
      |none=>rw[hc]at hi;cases hi
      |some u =>rw[hc]at hi;simp only[Option.map_some,aK]at hi;subst hi;obtain⟨y,hy,h⟩:=hs.tm i u hc;exact⟨y,by rw[Array.getElem?_setIfInBounds];simp[hid,hy],swept u y hfree h⟩
  · simp only[St.kill,St.mark,St.sweep]at hk;have hlen:js.length=(V.mapBs (cM d) (outs.drop (outs.length-s.nb))).length:=by rw[aS,List.length_drop,hnb];have:=hh.len;omega
    rcases mh js _ _ k v hlen hk with⟨i,h1,h2⟩|⟨h1,h2⟩
    · rw[aN]at h2;cases hc:(outs.drop (outs.length-s.nb))[i]? with
      |none=>rw[hc]at h2;cases h2
      |some u =>rw[hc]at h2;simp only[Option.map_some,aK]at h2;subst h2;have hb:=v2 i u hc;obtain⟨e1,e2⟩:=boxAt h1;rw[e1]at hb;have hu:u∈outs:=List.mem_of_mem_drop (aA hc);exact⟨hjs k (aA h1),boxed u _ hu hb⟩
    · have hfree:=freeH k v h1;rw[kQ]at h1;cases hc:st.h[k]? with
      |none=>rw[hc]at h1;cases h1
      |some z=>
       rw[hc]at h1;cases z with
       |none=>cases h1
       |some u=>
        simp only[Option.map_some,aK]at h1;subst h1;obtain⟨b1,cur,e,b2,b3,b4⟩:=hs.bx k u hc;have hcells:(u.mapB (bH L)).cells=V.mapBs (bH L) u.cells:=cU _ (wk L) u;refine⟨b1,cur,e,(hold _ (g.box k b1).2.2 (notX b1 h2)).trans b2,by rw[hcells,aS];exact b3,λj cc hcc=>?_⟩;have hcf:=o9 hfree hcc;rw[hcells,aN]at hcc;cases hz:u.cells[j]? with
        |none=>rw[hz]at hcc;cases hcc
        |some z =>rw[hz]at hcc;simp only[Option.map_some,aK]at hcc;subst hcc;obtain⟨y,y1,y2⟩:=b4 j z hz;exact⟨y,y1,swept z y hcf y2⟩
  · change (if p b=true then Γr.has (b%1000)/\b≠999 else Γ.has b/\b∉L)at hb;show ¬(cB Γ esc (if p b=true then Γr.blk (b%1000)else Γ.blk b)\/(Γr.S (if p b=true then Γr.blk (b%1000)else Γ.blk b)/\Fc (if p b=true then Γr.blk (b%1000)else Γ.blk b)));simp only[St.kill,St.mark,Bool.or_eq_false_iff]at hdd;by_cases hp:p b=true
    · rw[if_pos hp]at hb ⊢;obtain⟨h1,_,h3,_⟩:=rb _ hb.1;rintro(h|⟨h,_⟩)
      · rcases h1 with⟨b1,m1,m2,e⟩|⟨j,hj,e⟩|h1
        · rw[e]at h;rcases h with h|⟨b2,i1,i2,e2⟩;·exact hs.nds b1 m2 (hdead b1) h
          · have:=g.baseInj b1 b2 m2 i2 e2;subst this;have i3:b1∈E:=by
              simp only[esc]at i1;split at i1;·exact i1
              ·cases i1
            exact hEL b1 i3 (mem_basesL.2 m1)
        ·rw[e]at h;exact g_ g (hjs j hj) h
        ·have:=fz g h;omega
      ·exact h3 h
    · rw[if_neg hp]at hb ⊢;rintro(h|⟨_,h⟩);·exact fR g hb.1 (hs.nds b hb.1 (hdead b)) hdd.1 h
      ·exact notB hb.1 hb.2 h
  · change (if p b=true then Γr.has (b%1000)/\b≠999 else Γ.has b/\b∉L)at hb;change (if p b'=true then Γr.has (b'%1000)/\b'≠999 else Γ.has b'/\b'∉L)at hb';change (if p b=true then Γr.N (b%1000)else Γ.N b) m at hm;change (if p b'=true then Γr.N (b'%1000)else Γ.N b') m at hm';have cross:∀{b b':Nat},Γr.has (b%1000)->Γr.N (b%1000) m->Γ.has b'->b'∉L->Γ.N b' m->False:=by
      intro b b' h1 h2 h3 h4 h5;have hz:=(rns _ h1 m h2).2;rcases(rzf m hz).1 with h|⟨b1,m1,m2,m3⟩;·exact notS (g.ns b' h3 m h5).1 h
      · have hne:b1≠b':=λe=>by subst e;exact h4 (mem_basesL.2 m1)
        exact hs.nd hU b1 b' m2 h3 (hdead b1) (hdead b') hne m m3 h5
    by_cases hp:p b=true
    · by_cases hp':p b'=true;·rw[if_pos hp]at hb hm;rw[if_pos hp']at hb' hm';have h2:=(pd hp).2;have h3:=(pd hp').2;exact rnd _ _ hb.1 hb'.1 (by omega) m hm hm'
      ·rw[if_pos hp]at hb hm;rw[if_neg hp']at hb' hm';exact cross hb.1 hm hb'.1 hb'.2 hm'
    · by_cases hp':p b'=true;·rw[if_neg hp]at hb hm;rw[if_pos hp']at hb' hm';exact cross hb'.1 hm' hb.1 hb.2 hm
      ·rw[if_neg hp]at hb hm;rw[if_neg hp']at hb' hm';exact hs.nd hU b b' hb.1 hb'.1 (hdead b) (hdead b') hne m hm hm'
  ·simp only[St.kill,St.mark,St.sweep,List.length_set,aS];exact hs.nt
  · obtain⟨ys,y1,y2,y3⟩:=v0 hrb;refine⟨ys,y1,λi v y hv hy=>?_,y3⟩;rw[aN]at hv;cases hc:outs[i]? with
    |none=>rw[hc]at hv;cases hv
    |some u =>rw[hc]at hv;simp only[Option.map_some,aK]at hv;subst hv;exact thawedOut u y (aA hc) (y2 i u y hc hy)
  · obtain⟨B,r,r1,r2,r3,r4,r5,r6,r7,r8⟩:=v1 hrb;have hr:r∈outs:=List.mem_of_mem_take (by rw[r1];exact List.mem_singleton.2 rfl);refine⟨B,r,r1,r2,boxed r B hr r3,FcF r4,r5,?_,λb hb=>?_,λk hk=>?_⟩
    · rintro(h|⟨h,_⟩)
      · rcases r4 with⟨b1,m1,m2,e⟩|⟨j,hj,e⟩|h1
        · rw[e]at h;rcases h with h|⟨b2,i1,i2,e2⟩;·exact hs.nds b1 m2 (hdead b1) h
          · have:=g.baseInj b1 b2 m2 i2 e2;subst this;have i3:b1∈E:=by
              simp only[esc]at i1;split at i1;·exact i1
              ·cases i1
            exact hEL b1 i3 (mem_basesL.2 m1)
        ·rw[e]at h;exact g_ g (hjs j hj) h
        ·have:=fz g h;omega
      ·exact r6 h
    · change (if p b=true then Γr.has (b%1000)/\b≠999 else Γ.has b/\b∉L)at hb;show(if p b=true then Γr.blk (b%1000)else Γ.blk b)≠B;by_cases hp:p b=true;·rw[if_pos hp]at hb ⊢;exact r7 _ hb.1
      ·rw[if_neg hp]at hb ⊢;intro e;exact notB hb.1 hb.2 (by rw[e];exact r4)
    · show Γ.box k≠B;by_cases hkj:k∈js;·obtain⟨i,e1,e2⟩:=boxOf hkj;rw[<-e2];exact r8 i e1
      ·intro e;exact notX hk hkj (by rw[e];exact r4)
end
end Go.Am
end
