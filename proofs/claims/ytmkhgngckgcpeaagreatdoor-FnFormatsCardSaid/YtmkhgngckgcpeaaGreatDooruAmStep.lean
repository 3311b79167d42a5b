/-
  Proved: lemmas for Rows.FnFormatsCardSaid.
-/
import Derived.Test.YtmkhgngckgcpeaaGreatDooruAmEff3
import Derived.Lib.ConvBytes
import Derived.Laws.BytesString
set_option linter.all false
section
namespace Go.Am
open Go Go.RowKit
structure Answer (R:Nat->Prop) (w:World) (r:V) (x:Value) (w':World):Prop where
  os:w'.os=w.os
  tape:w'.tape=w.tape
  output:w'.output=w.output
  size:w.heap.size<=w'.heap.size
  old:∀k,k<w.heap.size->w'.heap[k]?=w.heap[k]?
  val:∃Γ:Ctx,VR Γ w' r x/\(∀k,Γ.F k->w.heap.size<=k)/\(∀k,Γ.S k->(R k\/w.heap.size<=k)/\k<w'.heap.size) /\
    (∀b,Γ.has b->w.heap.size<=Γ.blk b/\Γ.blk b<w'.heap.size /\ ¬Γ.S (Γ.blk b)/\Γ.cap b<=maxLen /\ ∃cur e,w'.heap[Γ.blk b]?=some (.cells cur e (0,0))/\Γ.off b+Γ.cap b*Γ.sz b<=cur.size) /\
    (∀b b',Γ.has b->Γ.has b'->Γ.blk b=Γ.blk b'->b=b')/\(∀b,Γ.has b->Γ.Z (Γ.blk b))/\(∀k,Γ.Z k->w.heap.size<=k/\k<w'.heap.size /\ ∃cur e,w'.heap[k]?=some (.cells cur e (0,0))) /\
    Γ.U/\(∀b,Γ.has b -> ∀m,Γ.N b m->Γ.S m/\Γ.Z m) /\ ∀b b',Γ.has b->Γ.has b'->b≠b' -> ∀m,Γ.N b m->Γ.N b' m->False
def bE (P:Program)(den:Nat->List V->Option V):Prop:=∀f args r,den f args=some r ->
 (∃fn,P.funcs[f]?=some fn/\fn.body.isNone=false/\(fn.name == "runtime.NumGoroutine")=false) /\
 ∀(R:Nat->Prop) (w:World) (vals:Array Value),ck w->(∀k,R k->k<w.heap.size)->args.length=vals.size->(∀(i:Nat) (c:V) (v:Value),args[i]?=some c->vals[i]?=some v->Rd w R c v) ->
  Calls P f vals w λ
   |.returned x,w'=>Answer R w r x w'
   |_,_=>False
section
variable {P:Program}{c:Cfg}{Γ Γ':Ctx}{st:St}{a:Act}{w w':World}{den:Nat->List V->Option V}{η:Nat->Option V}{d:Nat}
theorem VR.sweepC {f:V->Option V}(C:V->Prop)(o:∀cs,C (.agg cs) -> ∀u∈cs,C u)(m:∀cs,C (.tup cs) -> ∀u∈cs,C u)(p:∀g cs,C (.clo g cs) -> ∀u∈cs,C u)
  (k:∀v x,(match v with
   |.agg _=>False
   |.tup _=>False
   |.clo _ _=>False
   |_=>True)->C v->VR Γ w v x->VR Γ' w' ((f v).getD v) x) (v:V):∀x,C v->VR Γ w v x->VR Γ' w' (v.mapB f) x:=by
 refine V.rec (motive_1:=λv=>∀x,C v->VR Γ w v x->VR Γ' w' (v.mapB f) x) (motive_2:=λl=>(∀u∈l,C u) -> ∀(i:Nat) (u:V) (x:Value),l[i]?=some u->VR Γ w u x->VR Γ' w' (u.mapB f) x)
  ?_ ?_ ?_ ?_ ?_ ?_ ?_ ?_ ?_ ?_ ?_ ?_ ?_ ?_ ?_ ?_ ?_ v
 ·intro x b h;exact k _ _ trivial b h
 ·intro _ x b h;exact k _ _ trivial b h
 ·intro _ _ x b h;exact k _ _ trivial b h
 ·intro _ x b h;exact k _ _ trivial b h
 ·intro x b h;exact k _ _ trivial b h
 ·intro _ _ _ _ x b h;exact k _ _ trivial b h
 ·intro _ _ _ _ _ x b h;exact k _ _ trivial b h
 ·intro _ _ _ _ _ x b h;exact k _ _ trivial b h
 ·intro _ _ x b h;exact k _ _ trivial b h
 ·intro _ _ _ _ _ _ _ x b h;exact k _ _ trivial b h
 ·intro _ _ _ _ x b h;exact k _ _ trivial b h
 ·intro _ _ _ x b h;exact k _ _ trivial b h
 ·intro cs q x b h;obtain⟨vs,rfl,r,s⟩:=h.agg_inv;refine .agg _ vs (by rw[aS];exact r) (λi c v j n=>?_);rw[aN]at j;cases e:cs[i]? with
  |none=>rw[e]at j;cases j
  |some u =>rw[e]at j;simp only[Option.map_some,aK]at j;subst j;exact q (o cs b) i u v e (s i u v e n)
 ·intro cs q x b h;obtain⟨vs,rfl,r,s⟩:=h.tup_inv;refine .tup _ vs (by rw[aS];exact r) (λi c v j n=>?_);rw[aN]at j;cases e:cs[i]? with
  |none=>rw[e]at j;cases j
  |some u =>rw[e]at j;simp only[Option.map_some,aK]at j;subst j;exact q (m cs b) i u v e (s i u v e n)
 ·intro g cs q x b h;obtain⟨vs,rfl,r,s⟩:=h.clo_inv;refine .clo _ _ vs (by rw[aS];exact r) (λi c v j n=>?_);rw[aN]at j;cases e:cs[i]? with
  |none=>rw[e]at j;cases j
  |some u =>rw[e]at j;simp only[Option.map_some,aK]at j;subst j;exact q (p g cs b) i u v e (s i u v e n)
 ·intro _ i u x h;simp at h
 ·intro v l A t z i u x h y;cases i with
  |zero =>simp only[List.getElem?_cons_zero,aK]at h;subst h;exact A x (z _ (by simp)) y
  |succ i=>exact t (λu B=>z u (by simp[B])) i u x (by simpa using h) y
theorem addB_mem {l:List Nat}{b e:Nat}:b∈xv l e↔b∈l\/b=e:=by
 unfold xv;split
 ·rename_i h;have:e∈l:=by simpa using h
  constructor;·exact .inl
  ·rintro(h|rfl);·exact h
   ·exact this
 ·simp
theorem fS (b:Nat)(v:V):∀l,(b∈l\/v.anyB (λf=>f==b)=true)->b∈V.bases l v:=by
 have e:∀f:Nat,(f==b)=true->b=f:=λf h=>(by simpa using h:f=b).symm
 refine V.rec (motive_1:=λv=>∀l,(b∈l\/v.anyB (λf=>f==b)=true)->b∈V.bases l v) (motive_2:=λvs=>∀l,(b∈l\/V.anyBs (λf=>f==b) vs=true)->b∈V.basess l vs)
  ?_ ?_ ?_ ?_ ?_ ?_ ?_ ?_ ?_ ?_ ?_ ?_ ?_ ?_ ?_ ?_ ?_ v
 ·rintro l (h|h)<;>first|exact h|cases h
 ·rintro _ l (h|h)<;>first|exact h|cases h
 ·rintro _ _ l (h|h)<;>first|exact h|cases h
 ·rintro _ l (h|h)<;>first|exact h|cases h
 ·rintro l (h|h)<;>first|exact h|cases h
 ·rintro _ _ _ _ l (h|h)<;>first|exact h|cases h
 ·rintro f _ _ _ _ l h;exact addB_mem.2 (h.imp id (e f))
 ·rintro f _ _ _ _ l h;exact addB_mem.2 (h.imp id (e f))
 ·rintro _ _ l (h|h)<;>first|exact h|cases h
 ·rintro f _ _ _ _ _ _ l h;exact addB_mem.2 (h.imp id (e f))
 ·rintro f _ _ _ l h;exact addB_mem.2 (h.imp id (e f))
 ·rintro _ _ _ l (h|h)<;>first|exact h|cases h
 ·intro cs g l h;exact g l h
 ·intro cs g l h;exact g l h
 ·intro _ cs g l h;exact g l h
 ·rintro l (h|h)<;>first|exact h|cases h
 ·intro u vs j i l h;refine i _ ?_;rcases h with h|h;·exact .inl (j l (.inl h))
  ·rw[V.anyBs,Bool.or_eq_true]at h;rcases h with h|h;·exact .inl (j l (.inr h))
   ·exact .inr h
theorem Rd.sl_of {S:Nat->Prop}{s k o b:Nat}{q:Q}{xs:List V}(h:Rows w S s xs k o)(i:flatOk q xs)(l:xs.length<=b)(j:S k):Rd w S (.sl s q.isFlat xs) (.slice (some ⟨k,o,none⟩) xs.length b):=by
 by_cases f:xs=[];·subst f;exact .empty _ _ _ _
 ·obtain⟨r1,g,r2,r3⟩:=h;exact .sl s _ xs k o b g (List.length_pos_iff.2 f) l j r1 (λe=>i (by cases q<;>first|rfl|cases e)) r2 r3
theorem Fg {R:Nat->Prop}(hs:Sim Γ st a w)(hR:∀k,Γ.S k->R k)(v:V):∀(u:V) (x:Value),eE (λb=>st.h.getD b none) v=some u->VR Γ w v x ->
  (∀b,Γ.has b->v.anyB (λU=>U==b)=true->R (Γ.blk b))->(v.anyP (λ_=>true)=true->(∀d,Γ.lb d->R (Γ.box d)) /\ ∀b,Γ.has b->R (Γ.blk b))->Rd w R u x:=by
 have M:∀q k,Γ.Sq q k->R k:=λq k hk=>hR k (jh hk);have rm:∀{u:V} {y:Value},Rd w Γ.S u y->Rd w R u y:=λh=>h.mono hR (λ_ _ _=>rfl)
 have ae:∀(cs:List V) (vs:Array Value) (p:List V),cE (λb=>st.h.getD b none) cs=some p ->
   (∀(i:Nat) (c u:V) (y:Value),cs[i]?=some c->p[i]?=some u->vs[i]?=some y->Rd w R u y)->p.length=cs.length->cs.length=vs.size->p.length=vs.size:=λ_ _ _ _ _ m C=>m.trans C
 refine V.rec (motive_1:=λv=>∀(u:V) (x:Value),eE (λb=>st.h.getD b none) v=some u->VR Γ w v x->(∀b,Γ.has b->v.anyB (λU=>U==b)=true->R (Γ.blk b)) ->
   (v.anyP (λ_=>true)=true->(∀d,Γ.lb d->R (Γ.box d)) /\ ∀b,Γ.has b->R (Γ.blk b))->Rd w R u x)
  (motive_2:=λcs=>∀(p:List V),cE (λb=>st.h.getD b none) cs=some p->p.length=cs.length /\ ∀(i:Nat) (c u:V) (y:Value),cs[i]?=some c->p[i]?=some u->VR Γ w c y ->
   (∀b,Γ.has b->V.anyBs (λU=>U==b) cs=true->R (Γ.blk b))->(V.anyPs (λ_=>true) cs=true->(∀d,Γ.lb d->R (Γ.box d)) /\ ∀b,Γ.has b->R (Γ.blk b))->Rd w R u y)
  ?_ ?_ ?_ ?_ ?_ ?_ ?_ ?_ ?_ ?_ ?_ ?_ ?_ ?_ ?_ ?_ ?_ v
 ·intro u x h;cases h
 ·intro b u x h l _ _;simp only[eE,aK]at h;subst h;rw[l.bool_inv];exact .bool b
 ·intro k n u x h l _ _;simp only[eE,aK]at h;subst h;rw[l.int_inv];exact .int k n
 ·intro s u x h l _ _;simp only[eE,aK]at h;subst h;obtain⟨y,rfl,F⟩:=l.str_inv;exact .str s y F
 ·intro u x h l _ _;simp only[eE,aK]at h;subst h;rw[l.nil_inv];exact .nil
 ·intro s f xs _ u x h l _ _;simp only[eE,aK]at h;subst h;exact rm l.sl_inv
 ·intro b s q xs _ u x h l B _;simp only[eE,aK]at h;subst h;rcases l.own_inv with⟨rfl,rfl,_⟩|⟨rfl,m,C,L,H,Y⟩;·exact .empty _ _ _ _
  ·exact Rd.sl_of (H.mono (M q) (λ_ _ _=>rfl) (λ_ _ _=>rfl)) Y L.1 (B b m (by simp[V.anyB]))
 ·intro b s q xs _ u x h l B _;simp only[eE,aK]at h;subst h;rcases l.view_inv with⟨ad,X,rfl,rfl⟩|⟨o,X,rfl,m,T,L,_,H,Y⟩;·exact .empty _ _ _ _
  ·exact Rd.sl_of (H.mono (M q) (λ_ _ _=>rfl) (λ_ _ _=>rfl)) Y L (B b m (by simp[V.anyB]))
 ·intro d o u x h l _ G;simp only[eE]at h;obtain⟨rfl,Z⟩:=l.ptr_inv;obtain⟨p1,p2⟩:=G rfl;cases J:st.h.getD d none with
  |none=>rw[J]at h;cases h
  |some r=>
   rw[J]at h;simp only at h;cases hf:iu r.cells with
   |none=>rw[hf]at h;cases h
   |some cs=>
    rw[hf]at h;simp only[Option.map_some,aK]at h;subst h;have aa:st.h[d]?=some (some r):=by
     rw[List.getD_eq_getElem?_getD]at J;cases h:st.h[d]? with
     |none=>rw[h]at J;cases J
     |some y=>rw[h]at J;exact congrArg _ J
    obtain⟨_,O,e,C,L,H⟩:=hs.bx d r aa;obtain⟨f1,f2⟩:=nF hf;have N:∀j,w.cell? ⟨Γ.box d,j,none⟩=O[j]?:=λj=>fN C;refine Rd.iptr (.agg cs) (Γ.box d) 0 o (λj=>O.getD j undef) (p1 d Z) (λj Q=>?_) (λj z E=>?_) |> λh=>by simpa using h
    ·have Q:j<O.size:=by simp only[V.cells]at Q;omega
     simp[N,Q,Array.getD_eq_getD_getElem?]
    ·obtain⟨y,y1,y2⟩:=f2 j z E;obtain⟨t,t1,t2⟩:=H j y y1;simp only[Array.getD_eq_getD_getElem?,t1,Option.getD_some];exact(mT (S':=R) hs.good t2 y2 hR (λb _ B=>p2 b B)).1
 ·intro b s q xs i o _ u x h l B _;simp only[eE]at h;obtain⟨rfl,m,C,L,H,⟨r1,g,r2,r3⟩,h6⟩:=l.eptr_inv;cases T:xs[i]? with
  |none=>rw[T]at h;cases h
  |some z =>rw[T]at h;simp only[aK]at h;subst h;refine .iptr z _ (Γ.off b+i*s) o (g i) (B b m (by simp[V.anyB])) (λj Q=>(r2 i j H (by rw[<-r1 z (aA T)];exact Q)).1) (λj y F=>?_);exact(r3 i z j y T F).mono (M q) (λ_ _ _=>rfl)
 ·intro b z o _ u x h l B _;simp only[eE,aK]at h;subst h;obtain⟨o',g,rfl,m,C,L⟩:=l.vptr_inv;exact .iptr z _ o' o g (B b m (by simp[V.anyB])) C (λj y F=>rm (L j y F))
 ·intro z o _ u x h l _ _;simp only[eE,aK]at h;subst h;cases l with
  |rd _ _ h=>exact rm h
 ·intro cs W u x h l B G;simp only[eE]at h;cases A:cE (λb=>st.h.getD b none) cs with
  |none=>rw[A]at h;cases h
  |some p =>rw[A]at h;simp only[Option.map_some,aK]at h;subst h;obtain⟨vs,rfl,m,C⟩:=l.agg_inv;obtain⟨l1,l2⟩:=W p A;refine .agg p vs (l1.trans m) (λi u y D F=>?_);obtain⟨z,E⟩:∃z,cs[i]?=some z:=⟨_,List.getElem?_eq_getElem (by rw[<-l1];exact(bW D).1)⟩;exact l2 i z u y E D (C i z y E F) B G
 ·intro cs W u x h l B G;simp only[eE]at h;cases A:cE (λb=>st.h.getD b none) cs with
  |none=>rw[A]at h;cases h
  |some p =>rw[A]at h;simp only[Option.map_some,aK]at h;subst h;obtain⟨vs,rfl,m,C⟩:=l.tup_inv;obtain⟨l1,l2⟩:=W p A;refine .tup p vs (l1.trans m) (λi u y D F=>?_);obtain⟨z,E⟩:∃z,cs[i]?=some z:=⟨_,List.getElem?_eq_getElem (by rw[<-l1];exact(bW D).1)⟩;exact l2 i z u y E D (C i z y E F) B G
 ·intro f cs W u x h l B G;simp only[eE]at h;cases A:cE (λb=>st.h.getD b none) cs with
  |none=>rw[A]at h;cases h
  |some p =>rw[A]at h;simp only[Option.map_some,aK]at h;subst h;obtain⟨vs,rfl,m,C⟩:=l.clo_inv;obtain⟨l1,l2⟩:=W p A;refine .clo f p vs (l1.trans m) (λi u y D F=>?_);obtain⟨z,E⟩:∃z,cs[i]?=some z:=⟨_,List.getElem?_eq_getElem (by rw[<-l1];exact(bW D).1)⟩;exact l2 i z u y E D (C i z y E F) B G
 ·intro p h;simp only[cE,aK]at h;subst h;exact⟨rfl,λi c u y A=>by simp at A⟩
 ·intro z cs E ab p h;simp only[cE]at h;cases m:eE (λb=>st.h.getD b none) z with
  |none=>rw[m]at h;cases h
  |some u0=>
   cases C:cE (λb=>st.h.getD b none) cs with
   |none=>rw[m,C]at h;cases h
   |some ac=>
    rw[m,C]at h;simp only[aK]at h;subst h;obtain⟨l1,l2⟩:=ab ac C;refine⟨by simp[l1],λi cc u y A D l B G=>?_⟩;cases i with
    |zero =>simp only[List.getElem?_cons_zero,aK]at A D;subst A;subst D;exact E u0 y m l (λb K I=>B b K (by rw[V.anyBs,I];rfl)) (λh=>G (by rw[V.anyPs,h];rfl))
    |succ i =>simp only[List.getElem?_cons_succ]at A D;exact l2 i cc u y A D l (λb K I=>B b K (by rw[V.anyBs,I,Bool.or_true])) (λh=>G (by rw[V.anyPs,h,Bool.or_true]))
end
end Go.Am
end
section
namespace Go.Am
open Go Go.RowKit
section
variable {P:Program}{c:Cfg}{Γ Γ':Ctx}{st:St}{a:Act}{w w':World}{den:Nat->List V->Option V}{η:Nat->Option V}{d:Nat}
theorem tI {az:List V}{r v:V}{esc:List Nat}{n:Nat}(h:ny d az r=some (.fresh v esc n)) :
  r.anyB (λb=>decide (999<=b))=false/\v=r.mapB (cM d)/\n=(if r.anyB (λ_=>true)then 1 else 0)/\(r.old=true->V.anyPs (λ_=>true) az=false/\esc=V.basess [] az)/\(r.old=false->esc=[]):=by
 unfold ny at h;split at h;·cases h
 ·rename_i g;split at h
  ·rename_i f;split at h;·cases h
   ·rename_i i;simp only[aK,Out.fresh.injEq]at h;obtain⟨rfl,rfl,rfl⟩:=h;exact⟨by simpa using g,rfl,rfl,λ_=>⟨by simpa using i,rfl⟩,λe=>by rw[f]at e;cases e⟩
  ·rename_i f;simp only[aK,Out.fresh.injEq]at h;obtain⟨rfl,rfl,rfl⟩:=h;exact⟨by simpa using g,rfl,rfl,λe=>absurd e f,λ_=>rfl⟩
theorem FJ:∀{cs:List V},V.olds cs=false -> ∀u∈cs,u.old=false:=by
 intro cs;induction cs with
 |nil=>intro _ u b;cases b
 |cons v vs e=>
  intro h u b;rw[V.olds,Bool.or_eq_false_iff]at h;rcases List.mem_cons.1 b with rfl|b;·exact h.1
  ·exact e h.2 u b
theorem eB {cs:List V}{u:V}(e:u∈cs)(h:u.old=true):V.olds cs=true:=by
 cases b:V.olds cs with
 |true=>rfl
 |false=>rw[FJ b u e]at h;cases h
theorem bg {p:Nat->Bool}{cs:List V}{u:V}(e:u∈cs)(h:u.anyB p=true):V.anyBs p cs=true:=by
 cases b:V.anyBs p cs with
 |true=>rfl
 |false=>rw[ax b u e]at h;cases h
theorem Sim.home {az:List V}{r v:V}{x:Value}{esc:List Nat}{n:Nat}{R:Nat->Prop}{m:Bool}(hs:Sim Γ st a w)(hd:d<1000)(hf:n=0\/st.freeD d=true)(ht:ny d az r=some (.fresh v esc n))
    (hR:r.old=true -> ∀k,R k->cB Γ esc k) (ha:Answer R w r x w'):Sims Γ ((({ st with t:=st.t.set d v }:St).kill esc).mark m) (a.put (some d) x) w':=by
  obtain⟨t1,rfl,t3,t4,t5⟩:=tI ht;obtain⟨Γr,hv,rF,rS,rb,rinj,rbz,rzf,rU,rns,rnd⟩:=ha.val;have g:=hs.good;let p:Nat->Bool:=λb=>(n != 0)&&(b/1000==d)
  let Γ':Ctx:={ Γ with S:=λk=>cB Γ esc k\/(w.heap.size<=k/\Γr.S k),has:=λb=>if p b=true then Γr.has (b%1000)/\b≠999 else Γ.has b,
                       blk:=λb=>if p b=true then Γr.blk (b%1000)else Γ.blk b,off:=λb=>if p b=true then Γr.off (b%1000)else Γ.off b,
                       cap:=λb=>if p b=true then Γr.cap (b%1000)else Γ.cap b,sz:=λb=>if p b=true then Γr.sz (b%1000)else Γ.sz b,
                       ln:=λb=>if p b=true then Γr.ln (b%1000)else Γ.ln b,Z:=λk=>Γ.Z k\/Γr.Z k,
                       N:=λb=>if p b=true then Γr.N (b%1000)else Γ.N b }
  have hne:∀b,p b=true->st.freeD d=true/\b/1000=d:=by intro b hb;simp only[p,Bool.and_eq_true,bne_iff_ne,ne_eq,beq_iff_eq]at hb;exact⟨hf.resolve_left hb.1,hb.2⟩
  have hS':∀k,Γ'.S k->k<w'.heap.size:=by
    rintro k (hk|⟨_,hk⟩);·exact Nat.lt_of_lt_of_le (fz g hk) ha.size
    ·exact(rS k hk).2
  have hgood:Good Γ' w':=by
    refine⟨ha.os.trans g.os,ha.tape.trans g.tape,ha.output.trans g.output,Nat.le_trans g.size ha.size,λk hk hF=>?_,g.new,hS',λb hb=>?_,λb b' hb hb' he=>?_,λk hk=>?_,g.boxInj,λb k hb hk=>?_,λk hk=>hk.elim (od g k) (λh=>.inr (g.new k (Nat.le_trans g.size h.1))),g.gl,λb hb=>?bz,λk hk=>?zf,λb hb m hm=>?ns,λh=>?h9⟩
    case h9=>
      change (if p 999=true then _/\(999:Nat)≠999 else Γ.has 999)at h;split at h;·exact h.2 rfl
      ·exact g.h9 h
    case ns=>
      change (if p b=true then Γr.has (b%1000)/\b≠999 else Γ.has b)at hb;change (if p b=true then Γr.N (b%1000)else Γ.N b) m at hm;by_cases hp:p b=true;·rw[if_pos hp]at hb hm;obtain⟨h1,h2⟩:=rns _ hb.1 m hm;exact⟨.inr ⟨(rzf m h2).1,h1⟩,.inr h2⟩
      ·rw[if_neg hp]at hb hm;obtain⟨h1,h2⟩:=g.ns b hb m hm;exact⟨.inl (.inl h1),.inl h2⟩
    case bz=>
      change (if p b=true then Γr.has (b%1000)/\b≠999 else Γ.has b)at hb;show Γ.Z (if p b=true then _ else _)\/Γr.Z (if p b=true then _ else _);by_cases hp:p b=true;·rw[if_pos hp]at hb ⊢;exact .inr (rbz _ hb.1)
      ·rw[if_neg hp]at hb ⊢;exact .inl (g.bz b hb)
    case zf=>
      rcases hk with hk|hk;·obtain⟨z1,z2,cur,e,h⟩:=g.zf k hk;exact⟨z1,Nat.lt_of_lt_of_le z2 ha.size,cur,e,(ha.old _ z2).trans h⟩
      ·obtain⟨z1,z2,cur,e,h⟩:=rzf k hk;exact⟨.inl (g.new k (Nat.le_trans g.size z1)),z2,cur,e,h⟩
    ·exact(ha.old k (Nat.lt_of_lt_of_le hk g.size)).trans (g.old k hk hF)
    · change (if p b=true then Γr.has (b%1000)/\b≠999 else Γ.has b)at hb
      show Γ.F (if p b=true then _ else _)/\(if p b=true then _ else _)<_/\(if p b=true then _ else _)<=_ /\ ∃cur e,w'.heap[if p b=true then Γr.blk (b%1000)else Γ.blk b]?=some (.cells cur e (0,0)) /\
        (if p b=true then Γr.off (b%1000)else Γ.off b)+(if p b=true then Γr.cap (b%1000)else Γ.cap b)*(if p b=true then Γr.sz (b%1000)else Γ.sz b)<=cur.size
      by_cases hp:p b=true;·simp only[if_pos hp]at hb ⊢;obtain⟨h1,h2,_,h4,h5⟩:=rb _ hb.1;exact⟨g.new _ (Nat.le_trans g.size h1),h2,h4,h5⟩
      ·simp only[if_neg hp]at hb ⊢;obtain⟨h1,h2,h3,cur,e,h4,h5⟩:=g.base b hb;exact⟨h1,Nat.lt_of_lt_of_le h2 ha.size,h3,cur,e,(ha.old _ h2).trans h4,h5⟩
    · change (if p b=true then Γr.has (b%1000)/\b≠999 else Γ.has b)at hb;change (if p b'=true then Γr.has (b'%1000)/\b'≠999 else Γ.has b')at hb';change (if p b=true then Γr.blk (b%1000)else Γ.blk b)=(if p b'=true then Γr.blk (b'%1000)else Γ.blk b')at he;by_cases hp:p b=true
      · by_cases hp':p b'=true;·rw[if_pos hp]at hb;rw[if_pos hp']at hb';rw[if_pos hp,if_pos hp']at he;have h1:=rinj _ _ hb.1 hb'.1 he;have h2:=(hne b hp).2;have h3:=(hne b' hp').2;omega
        ·rw[if_pos hp]at hb;rw[if_neg hp']at hb';rw[if_pos hp,if_neg hp']at he;have h1:=(rb _ hb.1).1;have h2:=(g.base _ hb').2.1;omega
      · by_cases hp':p b'=true;·rw[if_neg hp]at hb;rw[if_pos hp']at hb';rw[if_neg hp,if_pos hp']at he;have h1:=(rb _ hb'.1).1;have h2:=(g.base _ hb).2.1;omega
        ·rw[if_neg hp]at hb;rw[if_neg hp']at hb';rw[if_neg hp,if_neg hp']at he;exact g.baseInj b b' hb hb' he
    · obtain⟨h1,h2,h3⟩:=g.box k hk;refine⟨h1,?_,Nat.lt_of_lt_of_le h3 ha.size⟩;rintro(h|⟨h,_⟩);·exact g_ g hk h
      ·exact absurd h (by show ¬w.heap.size<=Γ.box k;omega)
    · change (if p b=true then Γr.has (b%1000)/\b≠999 else Γ.has b)at hb;show(if p b=true then Γr.blk (b%1000)else Γ.blk b)≠Γ.box k;have h3:=(g.box k hk).2.2;by_cases hp:p b=true;·rw[if_pos hp]at hb ⊢;have:=(rb _ hb.1).1;omega
      ·rw[if_neg hp]at hb ⊢;exact g.baseBox b k hb hk
  refine⟨Γ',⟨rfl,rfl,rfl,rfl,rfl,λ_ _=>rfl⟩,?_⟩;refine Sim.extend (p:=p) hs ha.old (λh=>h) (λk hk=>.inl (.inl hk)) (λ_ h=>.inl h) (λb hb=>?_) (λ_ h=>h) (λ_=>rfl) (λi u hi hu=>?_) (λi u hu=>?_) hgood ?_ (λh _=>hs.du h) ?_ ?_
  · have hb:¬p b=true:=by rw[hb];simp
    exact⟨by show(if p b=true then _ else _)↔_;rw[if_neg hb],λ_=>⟨if_neg hb,if_neg hb,if_neg hb,if_neg hb,if_neg hb,λm hm=>by show(if p b=true then Γr.N (b%1000)else Γ.N b) m;rw[if_neg hb];exact hm⟩⟩
  · rcases hf with h0|hf
    · have:p=λ_=>false:=by funext b;simp[p,h0]
      rw[this];exact bN u
    · have h1:=kN hf i u hi hu;by_cases h0:n=0
      · have:p=λ_=>false:=by funext b;simp[p,h0]
        rw[this];exact bN u
      · have:p=λb=>b/1000==d:=by funext b;simp[p,h0]
        rw[this];exact h1
  · rcases hf with h0|hf
    · have:p=λ_=>false:=by funext b;simp[p,h0]
      rw[this];exact bN u
    · have h1:=og hf i u hu;by_cases h0:n=0
      · have:p=λ_=>false:=by funext b;simp[p,h0]
        rw[this];exact bN u
      · have:p=λb=>b/1000==d:=by funext b;simp[p,h0]
        rw[this];exact h1
  · intro b hb he hdd;change (if p b=true then Γr.has (b%1000)/\b≠999 else Γ.has b)at hb;show ¬(cB Γ esc (if p b=true then Γr.blk (b%1000)else Γ.blk b)\/(w.heap.size<=(if p b=true then Γr.blk (b%1000)else Γ.blk b)/\Γr.S (if p b=true then Γr.blk (b%1000)else Γ.blk b)));by_cases hp:p b=true
    · rw[if_pos hp]at hb ⊢;obtain⟨h1,_,h3,_⟩:=rb _ hb.1;rintro(h|⟨_,h⟩);·have:=fz g h;omega
      ·exact h3 h
    · rw[if_neg hp]at hb ⊢;rintro(h|⟨h,_⟩);·exact fR g hb (hs.nds b hb hdd) he h
      ·have:=(g.base b hb).2.1;omega
  · intro hU b b' hb hb' he hdd he' hdd' hne2 m hm hm';change (if p b=true then Γr.has (b%1000)/\b≠999 else Γ.has b)at hb;change (if p b'=true then Γr.has (b'%1000)/\b'≠999 else Γ.has b')at hb';change (if p b=true then Γr.N (b%1000)else Γ.N b) m at hm;change (if p b'=true then Γr.N (b'%1000)else Γ.N b') m at hm';by_cases hp:p b=true
    · by_cases hp':p b'=true;·rw[if_pos hp]at hb hm;rw[if_pos hp']at hb' hm';have h2:=(hne b hp).2;have h3:=(hne b' hp').2;exact rnd _ _ hb.1 hb'.1 (by omega) m hm hm'
      ·rw[if_pos hp]at hb hm;rw[if_neg hp']at hb' hm';have h1:=(rzf m (rns _ hb.1 m hm).2).1;have h2:=g.slt m (g.ns b' hb' m hm').1;omega
    · by_cases hp':p b'=true;·rw[if_neg hp]at hb hm;rw[if_pos hp']at hb' hm';have h1:=(rzf m (rns _ hb'.1 m hm').2).1;have h2:=g.slt m (g.ns b hb m hm).1;omega
      ·rw[if_neg hp]at hb hm;rw[if_neg hp']at hb' hm';exact hs.nd hU b b' hb hb' hdd hdd' hne2 m hm hm'
  · -- the value
    have hSq:∀(q:Q),(q.good=false->r.old=true) -> ∀k,Γr.Sq q k->Γ'.Sq q k:=by
      intro q hq k hk;cases q with
      |any=>
       have ho:=hq rfl;rcases(rS k hk).1 with h|h;·exact .inl (hR ho k h)
       ·exact .inr ⟨h,hk⟩
      |flat=>exact⟨.inr ⟨(rzf k hk.2).1,hk.1⟩,.inr hk.2⟩
      |clean=>exact⟨.inr ⟨(rzf k hk.2).1,hk.1⟩,.inr hk.2⟩
    have hSo:r.old=true -> ∀k,Γr.S k->Γ'.S k:=λho k hk=>hSq .any (λ_=>ho) k hk
    refine VR.sweepC (Γ:=Γr) (Γ':=Γ') (w:=w') (w':=w') (λu=>u.anyB (λb=>decide (999<=b))=false/\(u.old=true->r.old=true)/\(u.anyB (λ_=>true)=true->n≠0))
      (λcs h u hu=>⟨ax h.1 u hu,λe=>h.2.1 (eB hu e),λe=>h.2.2 (bg hu e)⟩) (λcs h u hu=>⟨ax h.1 u hu,λe=>h.2.1 (eB hu e),λe=>h.2.2 (bg hu e)⟩)
      (λ_ cs h u hu=>⟨ax h.1 u hu,λe=>h.2.1 (eB hu e),λe=>h.2.2 (bg hu e)⟩) (λu y hleaf hc hu=>?_) r x ⟨t1,λe=>e,λe=>by rw[t3,if_pos e];simp⟩ hv
    obtain⟨c1,c2,c3⟩:=hc;cases u with
    |undef=>exact VR.undef_ _
    |bool b=>rw[hu.bool_inv];exact .rd _ _ (.bool b)
    |int k m=>rw[hu.int_inv];exact .rd _ _ (.int k m)
    |str s=>obtain⟨z,rfl,hz⟩:=hu.str_inv;exact .rd _ _ (.str s z hz)
    |nil=>rw[hu.nil_inv];exact .rd _ _ .nil
    |sl s f xs=>exact .rd _ _ (hu.sl_inv.mono (hSo (c2 rfl)) (λ_ _ _=>rfl))
    |iptr z o=>
     cases hu with
     |rd _ _ h=>exact .rd _ _ (h.mono (hSo (c2 rfl)) (λ_ _ _=>rfl))
    |ptr _ _=>exact VR.undef_ _
    |eptr _ _ _ _ _ _=>exact VR.undef_ _
    |vptr _ _ _=>exact VR.undef_ _
    |agg _=>cases hleaf
    |tup _=>cases hleaf
    |clo _ _=>cases hleaf
    |own b s q xs=>
     have hb9:b<999:=by simpa[V.anyB]using c1
     have hb:b<1000:=by omega
     have hn0:=c3 rfl;have hpb:p (base d b)=true:=by simp[p,hn0,hO hd hb]
     have hmod:base d b%1000=b:=by unfold base;omega
     have e0:Γ'.has (base d b)=Γr.has b:=by show(if p (base d b)=true then _ else _)=_;rw[if_pos hpb,hmod];exact propext ⟨λh=>h.1,λh=>⟨h,by unfold base;omega⟩⟩
     have e6:Γ'.N (base d b)=Γr.N b:=by show(if p (base d b)=true then _ else _)=_;rw[if_pos hpb,hmod]
     have e1:Γ'.blk (base d b)=Γr.blk b:=by show(if p (base d b)=true then _ else _)=_;rw[if_pos hpb,hmod]
     have e2:Γ'.off (base d b)=Γr.off b:=by show(if p (base d b)=true then _ else _)=_;rw[if_pos hpb,hmod]
     have e3:Γ'.cap (base d b)=Γr.cap b:=by show(if p (base d b)=true then _ else _)=_;rw[if_pos hpb,hmod]
     have e4:Γ'.sz (base d b)=Γr.sz b:=by show(if p (base d b)=true then _ else _)=_;rw[if_pos hpb,hmod]
     have e5:Γ'.ln (base d b)=Γr.ln b:=by show(if p (base d b)=true then _ else _)=_;rw[if_pos hpb,hmod]
     simp only[cM,Option.getD_some];have huq:=hu.own_uq;rcases hu.own_inv with⟨rfl,rfl,h3⟩|⟨rfl,h1,h2,h3,h4,h5⟩;·exact .ownNil _ _ _ (by rw[e0];exact h3)
     · have:=VR.own (Γ:=Γ') (w:=w') (base d b) s q xs (by rw[e0];exact h1) (by rw[e4];exact h2) (by rw[e3,e5];exact h3)
         (by rw[e1,e2];exact h4.mono (hSq q (λe=>c2 (by simp[V.old,e]))) (λ_ _ _=>rfl) (λ_ _ _=>rfl)) h5 (λhq _=>by rw[e1,e2];exact(huq hq rU).mono (λm hm=>⟨by rw[e6];exact hm.1,.inr ⟨(rzf m (rns _ h1 m hm.1).2).1,hm.2⟩⟩) (λ_ _ _=>rfl) (λ_ _ _=>rfl))
       rwa[e1,e2,e3]at this
    |view b s q xs=>
     have hb9:b<999:=by simpa[V.anyB]using c1
     have hb:b<1000:=by omega
     have hn0:=c3 rfl;have hpb:p (base d b)=true:=by simp[p,hn0,hO hd hb]
     have hmod:base d b%1000=b:=by unfold base;omega
     have e0:Γ'.has (base d b)=Γr.has b:=by show(if p (base d b)=true then _ else _)=_;rw[if_pos hpb,hmod];exact propext ⟨λh=>h.1,λh=>⟨h,by unfold base;omega⟩⟩
     have e6:Γ'.N (base d b)=Γr.N b:=by show(if p (base d b)=true then _ else _)=_;rw[if_pos hpb,hmod]
     have e1:Γ'.blk (base d b)=Γr.blk b:=by show(if p (base d b)=true then _ else _)=_;rw[if_pos hpb,hmod]
     have e2:Γ'.off (base d b)=Γr.off b:=by show(if p (base d b)=true then _ else _)=_;rw[if_pos hpb,hmod]
     have e3:Γ'.cap (base d b)=Γr.cap b:=by show(if p (base d b)=true then _ else _)=_;rw[if_pos hpb,hmod]
     have e4:Γ'.sz (base d b)=Γr.sz b:=by show(if p (base d b)=true then _ else _)=_;rw[if_pos hpb,hmod]
     simp only[cM,Option.getD_some];have hu0:=hu;rcases hu.view_inv with⟨ad,cap,rfl,rfl⟩|⟨o,cap,rfl,h1,hx,h3,hfit,h4,h5⟩;·exact .view0 _ _ _ _ _ (hu.view0_of.to (Iff.of_eq e0) (λ_=>⟨e1,e2,e3,e4⟩))
     · have:=VR.view (Γ:=Γ') (w:=w') (base d b) s q xs o cap (by rw[e0];exact h1) hx h3 (by rw[e2,e3,e4];exact hfit)
         (by rw[e1];exact h4.mono (hSq q (λe=>c2 (by simp[V.old,e]))) (λ_ _ _=>rfl) (λ_ _ _=>rfl)) h5 (λhq _=>by rw[e1];exact(hu0.view_uq hq rU).mono (λm hm=>⟨by rw[e6];exact hm.1,.inr ⟨(rzf m (rns _ h1 m hm.1).2).1,hm.2⟩⟩) (λ_ _ _=>rfl) (λ_ _ _=>rfl))
       rwa[e1]at this
theorem oQ:∀(zs vs:List V) (j:Nat) (u:V),(dB zs vs)[j]?=some u -> ∃v z,vs[j]?=some v/\(u=fe z v\/u=v):=by
 intro zs;induction zs with
 |nil=>intro vs j u h;cases vs<;>exact⟨u,u,h,.inr rfl⟩
 |cons z zs b=>
  intro vs j u h;cases vs with
  |nil=>simp[dB]at h
  |cons v vs=>
   rw[dB]at h;cases j with
   |zero =>simp only[List.getElem?_cons_zero,aK]at h;exact⟨v,z,rfl,.inl h.symm⟩
   |succ j=>exact b vs j u (by simpa using h)
theorem oR:∀(zs vs:List V),(dB zs vs).length=vs.length:=by
 intro zs;induction zs with
 |nil=>intro vs;cases vs<;>rfl
 |cons z zs b=>intro vs;cases vs with
  |nil=>rfl
  |cons v vs=>rw[dB,List.length_cons,b,List.length_cons]
theorem nn:∀(zs:List (List V)) (vs:List V),(cx zs vs).length=vs.length:=by
 intro zs;induction zs with
 |nil=>intro vs;cases vs<;>rfl
 |cons z zs b=>intro vs;cases vs with
  |nil=>rfl
  |cons v vs=>rw[cx,List.length_cons,b,List.length_cons]
theorem lO {R:Nat->Prop}{z v:V}{x:Value}(h:Rd w R v x):Rd w R (fe z v) x:=by
 unfold fe;split;·cases h;exact .empty _ _ _ _
 ·exact h
theorem B8 {R:Nat->Prop}{zs:List V}{v:V}{x:Value}(h:Rd w R v x):Rd w R (uN zs v) x:=by
 cases v with
 |agg cs=>
  cases h with
  |agg _ vs j e=>
   refine .agg _ vs (by rw[oR];exact j) (λi c v l f=>?_);obtain⟨y,z,g,k⟩:=oQ _ _ _ _ l;rcases k with rfl|rfl;·exact lO (e i y v g f)
   ·exact e i _ v g f
 |_=>
  unfold uN;split;·rename_i b;cases b
  ·split;·exact lO h
   ·exact h
theorem pT {R:Nat->Prop}{vals:Array Value}:∀{zs:List (List V)} {vs:List V},(∀(i:Nat) (c:V) (v:Value),vs[i]?=some c->vals[i]?=some v->Rd w R c v) -> ∀(i:Nat) (c:V) (v:Value),(cx zs vs)[i]?=some c->vals[i]?=some v->Rd w R c v:=by
 intro zs vs h i c v j f;have e:∀(zs:List (List V)) (vs:List V) (i:Nat) (c:V),(cx zs vs)[i]?=some c -> ∃u,vs[i]?=some u/\((∃z,c=uN z u)\/c=u):=by
  intro zs;induction zs with
  |nil=>intro vs i c h;cases vs<;>exact⟨c,h,.inr rfl⟩
  |cons z zs k=>
   intro vs i c h;cases vs with
   |nil=>simp[cx]at h
   |cons u vs=>
    rw[cx]at h;cases i with
    |zero=>simp only[List.getElem?_cons_zero,aK]at h;exact⟨u,rfl,.inl ⟨z,h.symm⟩⟩
    |succ i=>exact k vs i c (by simpa using h)
 obtain⟨u,g,b⟩:=e zs vs i c j;rcases b with⟨z,rfl⟩|rfl;·exact B8 (h i u v g f)
 ·exact h i _ v g f
theorem tG {R:Nat->Prop}(hs:Sim Γ st a w)(v:∀k,Γ.S k->R k):∀(az j:List V),cE (λb=>st.h.getD b none) az=some j->j.length=az.length /\ ∀(i:Nat) (z u:V) (y:Value),az[i]?=some z->j[i]?=some u->VR Γ w z y ->
   (∀b,Γ.has b->V.anyBs (λt=>t==b) az=true->R (Γ.blk b))->(V.anyPs (λ_=>true) az=true->(∀d,Γ.lb d->R (Γ.box d)) /\ ∀b,Γ.has b->R (Γ.blk b))->Rd w R u y:=by
 intro az;induction az with
 |nil =>intro j h;simp only[cE,aK]at h;subst h;exact⟨rfl,λi c u y g=>by simp at g⟩
 |cons z cs x=>
  intro j h;simp only[cE]at h;cases m:eE (λb=>st.h.getD b none) z with
  |none=>rw[m]at h;cases h
  |some s=>
   cases o:cE (λb=>st.h.getD b none) cs with
   |none=>rw[m,o]at h;cases h
   |some n=>
    rw[m,o]at h;simp only[aK]at h;subst h;obtain⟨l1,l2⟩:=x n o;refine⟨by simp[l1],λi cc u y g l p q r=>?_⟩;cases i with
    |zero =>simp only[List.getElem?_cons_zero,aK]at g l;subst g;subst l;exact Fg hs v z s y m p (λb e f=>q b e (by rw[V.anyBs,f];rfl)) (λh=>r (by rw[V.anyPs,h];rfl))
    |succ i =>simp only[List.getElem?_cons_succ]at g l;exact l2 i cc u y g l p (λb e f=>q b e (by rw[V.anyBs,f,Bool.or_true])) (λh=>r (by rw[V.anyPs,h,Bool.or_true]))
theorem yr (hD:bE P den)(hs:Sim Γ st a w){o:Oper}{f:Operand}{args:Array Operand}{ts:Array TypeId}{v:V}{esc:List Nat}{n:Nat}(ho:o.op = .call ⟨.value f,args,ts⟩)
  (h:aF c den (ev st.t) (λb=>st.h.getD b none) d o.op=some (.fresh v esc n)) (hd:d<1000) (hf:n=0\/st.freeD d=true) (hod:o.dst=some d)
  (next:Act->World->Prop) (Q:Exit->Act->World->Prop) (hn:∀a' w',Sims Γ ((({ st with t:=st.t.set d v }:St).kill esc).mark (!aR st.dead esc)) a' w'->(∀k,k<w.heap.size->w'.heap[k]?=w.heap[k]?)->next a' w'):o.wp P a w next Q:=by
 rw[ho]at h;simp only[aF]at h;split at h
 ·rename_i g cap hfv;split at h
  ·rename_i us hus;split at h
   ·rename_i r hr;obtain⟨⟨fn,hfn,hbody,hname⟩,hcall⟩:=hD _ _ _ hr;have hfr:=hs.ev f;rw[hfv]at hfr;obtain⟨cv,ef,hcl,hcv⟩:=hfr.clo_inv;have hexec:(execOp a.eval o).run P w = .ok (.enter g (args.map a.eval++cv)) w:=by
     simp[execOp,ho,ef,resolve,Deferred.ofValue,invoke,callFunc,hfn,hbody];have:¬fn.name = "runtime.NumGoroutine":=by simpa using hname
     simp[this];intro hb;simp[hb]at hbody
    unfold Oper.wp;rw[hexec,Oper.upon_enter];let az:=args.toList.map (ev st.t)++cap;obtain⟨_,_,_,t4,t5⟩:=tI h;let R:Nat->Prop:=λk=>if V.anyPs (λ_=>true) az=true then Γ.S k\/(∃b,Γ.has b/\k=Γ.blk b)\/(∃d,Γ.lb d/\k=Γ.box d)else cB Γ (V.basess [] az) k
    have hRlt:∀k,R k->k<w.heap.size:=by
     intro k hk;simp only[R]at hk;split at hk
     ·rcases hk with hk|⟨b,hb,rfl⟩|⟨d,hb,rfl⟩;·exact hs.good.slt k hk
      ·exact(hs.good.base b hb).2.1
      ·exact(hs.good.box d hb).2.2
     ·exact fz hs.good hk
    have hRS:∀k,Γ.S k->R k:=by
     intro k hk;simp only[R];split;·exact .inl hk
     ·exact .inl hk
    have hRb:∀b,Γ.has b->V.anyBs (λb'=>b'==b) az=true->R (Γ.blk b):=by
     intro b hb hbs;simp only[R];split;·exact .inr (.inl ⟨b,hb,rfl⟩)
     ·refine .inr ⟨b,?_,hb,rfl⟩;exact fS b (.agg az) [] (.inr hbs)
    have hRp:V.anyPs (λ_=>true) az=true->(∀d,Γ.lb d->R (Γ.box d)) /\ ∀b,Γ.has b->R (Γ.blk b):=by
     intro hp;constructor;·intro d hd;simp only[R];rw[if_pos hp];exact .inr (.inr ⟨d,hd,rfl⟩)
     ·intro b hb;simp only[R];rw[if_pos hp];exact .inr (.inl ⟨b,hb,rfl⟩)
    obtain⟨l1,l2⟩:=tG hs hRS az us hus;have hlen:us.length=(args.map a.eval++cv).size:=by rw[l1];simp[az,hcl]
    refine Calls.mono (hcall R w _ hs.good.glob hRlt (by rw[nn];exact hlen) (pT (λi u y hu hy=>?_))) (λe w' he=>?_)
    ·obtain⟨z,hz⟩:∃z,az[i]?=some z:=⟨_,List.getElem?_eq_getElem (by rw[<-l1];exact(bW hu).1)⟩;refine l2 i z u y hz hu ?_ hRb hRp;rcases Nat.lt_or_ge i args.size with hi|hi;·simp only[az]at hz;rw[List.getElem?_append_left (by simpa using hi),List.getElem?_map]at hz;rw[Array.getElem?_append_left (by simpa using hi),Array.getElem?_map]at hy;simp only[Array.getElem?_toList,Array.getElem?_eq_getElem hi,Option.map_some,aK]at hz hy;subst hz;subst hy;exact hs.ev _
     ·simp only[az]at hz;rw[List.getElem?_append_right (by simpa using hi)]at hz;rw[Array.getElem?_append_right (by simpa using hi)]at hy;simp only[List.length_map,Array.length_toList,Array.size_map]at hz hy;exact hcv _ z y hz hy
    ·cases e with
     |returned x =>refine hn _ _ ?_ he.old;rw[hod];refine Sim.home hs hd hf h (λho k hk=>?_) he;obtain⟨t6,t7⟩:=t4 ho;simp only[R]at hk;rw[if_neg (by rw[t6];simp)]at hk;rw[t7];exact hk
     |panicked _=>cases he
     |outgrown=>cases he
   ·cases h
  ·cases h
 ·cases h
end
end Go.Am
end
section
namespace Go.Am
open Go Go.RowKit
section
variable {P:Program}{c:Cfg}{Γ Γ':Ctx}{st:St}{a:Act}{w w':World}{den:Nat->List V->Option V}{η:Nat->Option V}{d:Nat}
theorem zg (f:ay P c){e:Nat}(h:Iv c e=true):P.underlying e=some (.int .u8):=by
 unfold Iv at h;cases b:c.ty e with
 |none=>rw[b]at h;cases h
 |some j=>
  rw[b]at h;simp only at h;obtain⟨k,i⟩:=f _ _ b;split at h;·rename_i g;exact i.int _ g
  ·cases h
theorem vd:∀{xs:List V} {l:List UInt8},dJ xs=some l -> ∃b:List Int,xs=b.map (V.int .u8)/\l=b.map (λn=>UInt8.ofNat n.toNat):=by
 intro xs;induction xs with
 |nil=>intro l h;simp only[dJ,aK]at h;subst h;exact⟨[],rfl,rfl⟩
 |cons x xs f=>
  intro l h;cases x with
  |int k n=>
   cases k with
   |u8=>
    simp only[dJ]at h;cases e:dJ xs with
    |none=>rw[e]at h;cases h
    |some m =>rw[e]at h;simp only[Option.map_some,aK]at h;obtain⟨b,g,i⟩:=f e;exact⟨n :: b,by rw[g];rfl,by rw[<-h,i];rfl⟩
   |_=>simp only[dJ]at h;cases h
  |_=>simp only[dJ]at h;cases h
theorem pe:∀(b:List Int) (s:ByteArray),(b.foldl (λr n=>r.push (UInt8.ofNat n.toNat)) s).data.toList=s.data.toList++b.map (λn=>UInt8.ofNat n.toNat):=by
 intro b;induction b with
 |nil=>intro s;simp
 |cons n b e=>intro s;rw[List.foldl_cons,e];simp[ByteArray.push]
theorem yf (N:ay P c)(hs:Sim Γ st a w){o:Oper}{s t:TypeId}{x:Operand}{v:V}(Y:o.op = .convert s t x)(u:ni c s t (ev st.t x)=some v):bv P Γ a w o v:=by
 unfold ni at u;cases g:jr c s t (ev st.t x)with
 |none=>rw[g]at u;cases u
 |some xs=>
  rw[g]at u;simp only at u;cases Q:dJ xs with
  |none=>rw[Q]at u;cases u
  |some l=>
   rw[Q]at u;simp only[Option.map_some,aK]at u;subst u;obtain⟨m,J,h2⟩:=vd Q;unfold jr at g;cases L:c.ty s with
   |none=>rw[L]at g;cases g
   |some i=>
    cases M:c.ty t with
    |none=>rw[L,M]at g;cases g
    |some j=>
     rw[L,M]at g;simp only at g;obtain⟨ti,ai⟩:=N _ _ L;obtain⟨tj,aj⟩:=N _ _ M;split at g
     ·rename_i e K g2;split at g
      ·rename_i Z;have S:=zg N Z;split at g
       ·rename_i q ys D;simp only[aK]at g;subst g;have O:=ai.slice e K;have H:=aj.str g2;have C:∀(y:Option Addr) (n f:Nat),a.eval x = .slice y n f->(∀b,y=some b->(loadCells b n).run P w = .ok (m.map (Value.int .u8)).toArray w)->(y=none->m=[])->bv P Γ a w o (.str l):=by
         intro y n f ex h3 h4;refine⟨.string (m.foldl (λr n=>r.push (UInt8.ofNat n.toNat)) ByteArray.empty),λw1 B=>?_,.rd _ _ (.str _ _ (by rw[pe,h2];rfl))⟩;have X:w1=w:=by unfold LdOk at B;rw[Y]at B;exact B
         rw[X];have:(convert s t (.slice y n f)).run P w = .ok (.string (m.foldl (λr n=>r.push (UInt8.ofNat n.toNat)) ByteArray.empty)) w:=by
          rw[run_convert_bytes_string w s t e y n f O S H];cases y with
          |none=>rw[h4 rfl];rfl
          |some b=>exact run_bytesToString w b n f m (h3 b rfl)
         simp[execOp,Y,ex,this]
        rcases yy hs.good (hs.ev x) D with⟨rfl,y,f,ex⟩|⟨k,R,f,G,ex,hl,aa,U,ab,T⟩
        ·have:m=[]:=by cases m with
          |nil=>rfl
          |cons n m=>cases J
         subst this;exact C y 0 f ex (λb _=>by simpa using run_loadCells (P:=P) w b 0 (λ_=>.bool false) (λj p=>by omega)) (λ_=>rfl)
        ·refine C _ _ _ ex (λb W=>?_) (λh=>by cases h);cases W;have F:∀j,(⟨k,R,none⟩:Addr).add j=⟨k,R+j,none⟩:=by intro j;simp[Addr.add]
         have A:∀j,j<ys.length->G[j]?=some (.int .u8 (m.getD j 0)):=by
          intro j p;have E:j<m.length:=by rw[J]at p;simpa using p
          have hy:ys[j]?=some (.int .u8 (m.getD j 0)):=by rw[J,List.getElem?_map,List.getElem?_eq_getElem E];simp[List.getD,E]
          obtain⟨z,K,_,g3,_⟩:=T j _ 0 _ hy rfl;rw[Nat.mul_one,Nat.add_zero]at K;cases g3;exact K
         have:=run_loadCells (P:=P) w ⟨k,R,none⟩ ys.length (λj=>.int .u8 (m.getD j 0)) (λj p=>by
          rw[F]
          exact(U j _ (A j p)).1)
         rw[this];have I:ys.length=m.length:=by rw[J];simp
         congr 2;rw[I];apply List.ext_getElem?;intro j;rw[List.getElem?_map,List.getElem?_map];rcases Nat.lt_or_ge j m.length with p|p;·rw[List.getElem?_range p,List.getElem?_eq_getElem p];simp[List.getD,p]
         ·rw[List.getElem?_eq_none (by simpa using p),List.getElem?_eq_none p];rfl
       ·cases g
      ·cases g
     ·cases g
theorem xB (C:ay P c)(hs:Sim Γ st a w){o:Oper}{s t:TypeId}{x:Operand}{v:V}(W:o.op = .convert s t x)(h:ei c s t (ev st.t x)=some v)(O:d<1000) :
  ∃y w',(execOp a.eval o).run P w = .ok (.value y) w'/\Sims Γ ((({ st with t:=st.t.set d v }:St).kill []).mark false) (a.put (some d) y) w' /\ ∀k,k<w.heap.size->w'.heap[k]?=w.heap[k]?:=by
 unfold ei at h;cases A:c.ty s with
 |none=>rw[A]at h;cases h
 |some i=>
  cases B:c.ty t with
  |none=>rw[A,B]at h;cases h
  |some j=>
   rw[A,B]at h;simp only at h;obtain⟨ti,T⟩:=C _ _ A;obtain⟨Y,M⟩:=C _ _ B;split at h
   ·rename_i e b Q J K;split at h
    ·rename_i z;simp only[aK]at h;subst h;have p:=hs.ev x;rw[K]at p;obtain⟨y,I,G⟩:=p.str_inv;have L:=Lib.run_convert_string_bytes (P:=P) w s t e y (T.str Q) (M.slice e J) (zg C z);have l:y.size=b.length:=iJ G;have D:=grownCap_ge w y.size 0 e;have H:(execOp a.eval o).run P w = .ok (.value (.slice (some ⟨w.heap.size,0,none⟩) y.size (grownCap w y.size 0 e))) (Lib.bytesWorld w e y):=by simp only[execOp,W,I,Sem.run_bind,L,Result.andThen_ok,Sem.run_pure]
     refine⟨_,_,H,?_,λk m=>Lib.bytesWorld_at_old w e y k m⟩;refine Sim.home (az:=[]) (r:=.sl 1 true (iU b)) (n:=0) (R:=λ_=>False) hs O (.inl rfl) rfl (λ_ _ h=>h.elim) ?_;refine⟨rfl,?_,?_,by rw[Lib.bytesWorld_size];omega,λk m=>Lib.bytesWorld_at_old w e y k m,?_⟩;·simp[Lib.bytesWorld,World.freeze,World.alloc,World.drew,-World.alloc_eq,-World.drew_eq]
     ·simp[Lib.bytesWorld,World.freeze,World.alloc,World.drew,-World.alloc_eq,-World.drew_eq]
     ·refine⟨{ w0:=w,F:=λk=>w.heap.size<=k,S:=λk=>k=w.heap.size,has:=λ_=>False,blk:=λ_=>0,off:=λ_=>0,cap:=λ_=>0,sz:=λ_=>0,ln:=λ_=>0,lb:=λ_=>False,box:=λ_=>0,R:=λ_=>False,Z:=λ_=>False,N:=λ_ _=>False,U:=True },
       .rd _ _ ?_,λk m=>m,λk m=>⟨.inr (Nat.le_of_eq m.symm),by rw[m,Lib.bytesWorld_size];omega⟩,λ_ h=>h.elim,λ_ _ h=>h.elim,λ_ h=>h.elim,λ_ h=>h.elim,trivial,λ_ h=>h.elim,λ_ _ h=>h.elim⟩
      have f:(iU b).length=b.length:=by simp[iU]
      by_cases E:b=[];·subst E;have:y.size=0:=l;rw[this];exact .empty _ _ _ _
      ·have:=Rd.sl (w:=Lib.bytesWorld w e y) (S:=λk=>k=w.heap.size) 1 true (iU b) w.heap.size 0 (grownCap w y.size 0 e) (λi _=>.int .u8 (b.getD i 0).toNat)
        (by rw[f];exact List.length_pos_iff.2 E) (by rw[f,<-l];exact D) rfl
        (λx p=>by obtain⟨u,_,rfl⟩:=List.mem_map.1 p;rfl) (λ_ x p cc g=>by
         obtain⟨u,_,rfl⟩:=List.mem_map.1 p
         simp only[V.cells,List.mem_singleton]at g
         subst g
         trivial)
        (λi j q X=>by
         obtain rfl:j=0:=by omega
         rw[f]at q
         refine⟨?_,rfl⟩
         have:=Lib.bytesWorld_cell w e y i (by rw[l];exact q)
         rw[G]at this
         simpa using this)
        (λi u j cc z g=>by
         have q:=(bW z).1
         rw[f]at q
         rw[iU,List.getElem?_map,List.getElem?_eq_getElem q]at z
         simp only[Option.map_some,aK]at z
         subst z
         cases j with
         |zero=>
          simp only[V.cells,List.getElem?_cons_zero,aK]at g
          subst g
          simp only[List.getD,List.getElem?_eq_getElem q,Option.getD_some]
          exact .int _ _
         |succ j=>simp[V.cells]at g)
       rw[f,<-l]at this;exact this
    ·cases h
   ·cases h
end
end Go.Am
end
section
namespace Go.Am
open Go Go.RowKit
section
variable {P:Program}{c:Cfg}{Γ Γ':Ctx}{st:St}{a:Act}{w w':World}{den:Nat->List V->Option V}{η:Nat->Option V}{d:Nat}
theorem xJ {az:List V}{r:V}{b:Out}(h:ny d az r=some b):∃v esc n,b = .fresh v esc n:=by
 unfold ny at h
 repeat' split at h
 all_goals first|(cases h;done)|(simp only[aK]at h;exact⟨_,_,_,h.symm⟩)
theorem wl (j:ay P c)(hs:Sim Γ st a w){o:Oper}{v:V}(h:aF c den (ev st.t) (λb=>st.h.getD b none) d o.op=some (.val v)):bv P Γ a w o v:=by
 cases g:o.op with
 |move x =>have e:=h;rw[g]at e;simp only[aF,plain,aK,Out.val.injEq]at e;subst e;exact tA hs (.inl g)
 |assign x =>have e:=h;rw[g]at e;simp only[aF,plain,aK,Out.val.injEq]at e;subst e;exact tA hs (.inr g)
 |pick x y z=>exact CF hs g h
 |nilCheck x=>exact sD hs g h
 |unOp u t x=>exact CG hs g h
 |extract x i=>exact uT hs g h
 |makeFunc G first p=>exact sC hs g h
 |convert s t x=>
  rw[g]at h;simp only[aF,plain]at h;cases l:nj c s t (ev st.t x)with
  |some u =>rw[l]at h;simp only[aK,Out.val.injEq]at h;subst h;exact uS j hs g l
  |none=>
   rw[l]at h;simp only at h;cases n:ni c s t (ev st.t x)with
   |some u =>rw[n]at h;simp only[aK,Out.val.injEq]at h;subst h;exact yf j hs g n
   |none =>rw[n]at h;cases q:ei c s t (ev st.t x)<;>rw[q]at h<;>cases h
 |binOp F t x y E=>exact yd j hs g h
 |load t x=>exact CE j hs g h
 |fieldAddr t x f=>exact pZ j hs g h
 |field t x f=>exact yg j hs g h
 |indexAddr t x y=>exact pc j hs g h
 |index t x y=>exact yh j hs g h
 |slice t x B C D=>exact yi j hs g h
 |build t H=>exact ye j hs g h
 |call A=>
  obtain⟨k,args,I⟩:=A;cases k with
  |value f=>
   exfalso;rw[g]at h;simp only[aF]at h;split at h
   ·split at h
    ·split at h;·obtain⟨_,_,_,e⟩:=xJ h;cases e
     ·cases h
    ·cases h
   ·cases h
  |invoke f m=>rw[g]at h;simp only[aF]at h;cases h
  |builtin r=>
   cases r with
   |len=>exact FO j hs g h
   |min=>exact FQ hs g h
   |max=>exact FP hs g h
   |append=>
    exfalso;rw[g]at h;simp only[aF]at h
    repeat' split at h
    all_goals cases h
   |_=>rw[g]at h;simp only[aF]at h;cases h
 |_=>
  exfalso;rw[g]at h
  first
   |(simp only[aF,plain]at h;cases h;done)
   |(simp only[aF,plain]at h;(repeat' split at h)<;>cases h)
theorem xD (hA:ay P c)(hD:bE P den)(hs:Sim Γ st a w){o:Oper}{v:V}{esc:List Nat}{n:Nat}(h:aF c den (ev st.t) (λb=>st.h.getD b none) d o.op=some (.fresh v esc n))
  (hd:d<1000) (hf:n=0\/st.freeD d=true) (hod:o.dst=some d)
  (next:Act->World->Prop) (Q:Exit->Act->World->Prop) (hn:∀a' w',Sims Γ ((({ st with t:=st.t.set d v }:St).kill esc).mark (!aR st.dead esc)) a' w'->(∀k,k<w.heap.size->w'.heap[k]?=w.heap[k]?)->next a' w'):o.wp P a w next Q:=by
 have fin:(∃x w',(execOp a.eval o).run P w = .ok (.value x) w'/\Sims Γ ((({ st with t:=st.t.set d v }:St).kill esc).mark (!aR st.dead esc)) (a.put (some d) x) w' /\ ∀k,k<w.heap.size->w'.heap[k]?=w.heap[k]?)->o.wp P a w next Q:=by rintro⟨x,w',h1,h2,h3⟩;unfold Oper.wp;rw[h1,Oper.upon_value,hod];exact hn _ _ h2 h3
 cases hop:o.op with
 |buildSlice t m ps=>exact fin (nQ hA hs hop h hd hf)
 |makeSlice t l k=>exact fin (oU hA hs hop h hd hf)
 |convert s t x=>
  rw[hop]at h;simp only[aF,plain]at h;cases hc:nj c s t (ev st.t x)with
  |some u=>rw[hc]at h;cases h
  |none=>
   rw[hc]at h;simp only at h;cases hb:ni c s t (ev st.t x)with
   |some u=>rw[hb]at h;cases h
   |none=>
    rw[hb]at h;simp only at h;cases hg:ei c s t (ev st.t x)with
    |none=>rw[hg]at h;cases h
    |some u =>rw[hg]at h;simp only[Option.map_some,aK,Out.fresh.injEq]at h;obtain⟨rfl,rfl,rfl⟩:=h;exact fin (xB hA hs hop hg hd)
 |call cl=>
  obtain⟨callee,args,ts⟩:=cl;cases callee with
  |value f=>exact yr hD hs hop h hd hf hod next Q hn
  |invoke f m=>rw[hop]at h;simp only[aF]at h;cases h
  |builtin bi=>
   cases bi with
   |append=>exact fin (oS hA hs hop h hd hf)
   |_=>
    exfalso;rw[hop]at h;simp only[aF,plain]at h
    first
     |(cases h;done)
     |((repeat' split at h)<;>cases h)
 |unOp u _ _ =>exfalso;rw[hop]at h;cases u<;>simp only[aF,plain]at h<;>first|(cases h;done)|((repeat' split at h)<;>cases h)
 |makeFunc fn _ _ =>exfalso;rw[hop]at h;cases fn<;>simp only[aF,plain]at h<;>first|(cases h;done)|((repeat' split at h)<;>cases h)
 |slice _ _ _ _ mx =>exfalso;rw[hop]at h;cases mx<;>simp only[aF,plain]at h<;>first|(cases h;done)|((repeat' split at h)<;>cases h)
 |_=>
  exfalso;rw[hop]at h
  first
   |(simp only[aF,plain]at h;cases h;done)
   |(simp only[aF,plain]at h;(repeat' split at h)<;>cases h)
def WW (a:Act)(o:Oper)(k:Nat):Prop:=
 match o.op with
 |.store _ b _=>∃p,a.eval b = .pointer (some p)/\p.block=k
 |.call ⟨.builtin .append,args,_⟩=>∃x p l n,args[0]?=some x/\a.eval x = .slice (some p) l n/\p.block=k
 |_=>False
def VO (a:Act)(o:Oper)(w w':World):Prop:=∀k,k<w.heap.size -> ¬WW a o k->w'.heap[k]?=w.heap[k]?
theorem yw (B:ay P c)(K:bE P den)(hs:Sim Γ st a w){o:Oper}{st':St}(h:step c den st o=some st')
  (g:Act->World->Prop) (Q:Exit->Act->World->Prop) (D:∀F w',Sims Γ st' F w'->VO a o w w'->g F w'):o.wp P a w g Q:=by
 unfold step at h;split at h
 ·rename_i s;cases b:o.op with
  |store t M x =>obtain⟨w',i,j,E⟩:=xE B hs b h;unfold Oper.wp;rw[i,Oper.upon_skip];refine D _ _ j λk A G=>E k λp H e=>G ?_;unfold WW;rw[b];exact⟨p,H,e⟩
  |call I=>
   obtain⟨q,args,N⟩:=I;cases q with
   |value f=>rw[b]at s;cases s
   |invoke f m=>rw[b]at s;cases s
   |builtin L=>
    cases L with
    |append =>obtain⟨x,w',i,j,E⟩:=oT B hs b h;unfold Oper.wp;rw[i,Oper.upon_value];refine D _ _ j λk A G=>E k A λy p l n J H e=>G ?_;unfold WW;rw[b];exact⟨y,p,l,n,J,H,e⟩
    |_=>rw[b]at s;cases s
  |_=>rw[b]at s;cases s
 ·split at h;·cases h
  ·rename_i d z;split at h;·cases h
   ·rename_i v C;simp only[aK]at h;subst h;obtain⟨x,i,j⟩:=wl B hs C;unfold Oper.wp;rw[i w (LdOk.refl a w o),Oper.upon_value,z];exact D _ _ ⟨Γ,⟨rfl,rfl,rfl,rfl,rfl,λ_ _=>rfl⟩,hs.put j⟩ λ_ _ _=>rfl
   ·rename_i r C;split at h;·rename_i u;simp only[aK]at h;subst h;obtain⟨x,w',i,j,E⟩:=CI B hs C u.1 u.2.1 u.2.2.1 u.2.2.2.1 u.2.2.2.2;unfold Oper.wp;rw[i,Oper.upon_value,z];exact D _ _ j λk A _=>E k A
    ·cases h
   ·rename_i v esc n C;split at h;·rename_i u;simp only[aK]at h;subst h;exact xD B K hs C u.1 u.2.2 z g Q λF w' i j=>D F w' i λk A _=>j k A
    ·cases h
end
end Go.Am
end
