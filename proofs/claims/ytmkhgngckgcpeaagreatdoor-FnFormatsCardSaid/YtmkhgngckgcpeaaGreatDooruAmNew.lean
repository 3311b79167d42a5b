/-
  Proved: lemmas for Rows.FnFormatsCardSaid.
-/
import Derived.Test.YtmkhgngckgcpeaaGreatDooruAmPure2
set_option linter.all false
namespace Go.Am
open Go Go.RowKit
section
variable {P:Program}{c:Cfg}{Γ:Ctx}{st:St}{a:Act}{w:World}{den:Nat->List V->Option V}{η:Nat->Option V}{d:Nat}
theorem aE (w:World)(o:Obj){k:Nat}(h:k<w.heap.size):(w.alloc o).heap[k]?=w.heap[k]?:=Below.heap_alloc w o k h
theorem bf (w:World)(o:Obj):(w.alloc o).heap[w.heap.size]?=some o:=by show(w.heap.push o)[w.heap.size]?=_;simp
theorem size_alloc (w:World)(o:Obj):(w.alloc o).heap.size=w.heap.size+1:=by show(w.heap.push o).size=_;simp
theorem Sim.extend {Γ':Ctx}{w':World}{p:Nat->Bool}{v:V}{x:Value}{esc:List Nat}{m:Bool}(hs:Sim Γ st a w)(hw:∀k,k<w.heap.size->w'.heap[k]?=w.heap[k]?)
  (J:Γ'.U->Γ.U) (hS:∀k,Γ.S k->Γ'.S k) (hF:∀k,Γ.Z k->Γ'.Z k)
  (hb:∀b,p b=false->(Γ'.has b↔Γ.has b)/\(Γ.has b->Γ'.blk b=Γ.blk b/\Γ'.off b=Γ.off b/\Γ'.cap b=Γ.cap b/\Γ'.sz b=Γ.sz b/\Γ'.ln b=Γ.ln b /\ ∀m,Γ.N b m->Γ'.N b m))
  (Y:∀k,Γ.lb k->Γ'.lb k) (W:∀k,Γ'.box k=Γ.box k)
  (hp:∀(i:Nat) (u:V),i≠d->st.t[i]?=some u->u.anyB p=false) (K:∀(i:Nat) (u:V),st.h[i]?=some (some u)->u.anyB p=false)
  (hg:Good Γ' w') (hn:∀b,Γ'.has b->esc.contains b=false->st.dead b=false -> ¬Γ'.S (Γ'.blk b))
  (H:st.dup=false->m=false->Γ'.U)
  (Q:Γ'.U -> ∀b D,Γ'.has b->Γ'.has D->esc.contains b=false->st.dead b=false->esc.contains D=false->st.dead D=false->b≠D -> ∀m,Γ'.N b m->Γ'.N D m->False) (X:VR Γ' w' v x) (L:Γ'.nt=Γ.nt:=by rfl) :
  Sim Γ' ((({ st with t:=st.t.set d v }:St).kill esc).mark m) (a.put (some d) x) w':=by
 have g:∀k,k<w.heap.size -> ∀o,w'.cell? ⟨k,o,none⟩=w.cell? ⟨k,o,none⟩:=λk I o=>cell?_of_heap (hw k I) o;have q:∀{u:V} {y:Value},VR Γ w u y->u.anyB p=false->VR Γ' w' u y:=by
  intro u y f s;refine VR.mono (p:=p) (r:=λ_=>false) J hS hF (λk I=>g k (hs.good.slt k I)) (λb O=>?_) (λk _=>⟨Y k,W k⟩) f s ?_;·obtain⟨T,E⟩:=hb b O;exact⟨T,λhh=>⟨(E hh).1,(E hh).2.1,(E hh).2.2.1,(E hh).2.2.2.1,(E hh).2.2.2.2.1,(E hh).2.2.2.2.2,λo=>g _ (hs.good.base b hh).2.1 o⟩⟩
  ·clear f s X hn hg;have:∀u:V,u.anyP (λ_=>false)=false:=by
    intro u
    exact V.rec (motive_1:=λu=>u.anyP (λ_=>false)=false) (motive_2:=λl=>V.anyPs (λ_=>false) l=false)
     rfl (λ_=>rfl) (λ_ _=>rfl) (λ_=>rfl) rfl (λ_ _ _ _=>rfl) (λ_ _ _ _ _=>rfl) (λ_ _ _ _ _=>rfl) (λ_ _=>rfl) (λ_ _ _ _ _ _ _=>rfl) (λ_ _ _ _=>rfl) (λ_ _ _=>rfl)
     (λ_ h=>h) (λ_ h=>h) (λ_ _ h=>h) rfl (λ_ _ B n=>by rw[V.anyPs,B,n];rfl) u
   exact this u
 refine⟨hg,hs.dz,by simp[Act.put,St.kill,St.mark,hs.len],λi u f=>?_,λk u f=>?_,λb B n=>?_,λh=>?du,λJ b D B G n C=>?nd,by simp[St.kill,St.mark,hs.nt,L]⟩
 case du =>simp only[St.kill,St.mark,Bool.or_eq_false_iff]at h;exact H h.2 h.1
 case nd =>simp only[St.kill,St.mark,Bool.or_eq_false_iff]at n C;exact Q J b D B G n.1 n.2 C.1 C.2
 ·simp only[St.kill,St.mark,Act.put]at f ⊢;rw[List.getElem?_set]at f;split at f
  ·rename_i A;subst A;split at f;·rename_i R;injection f with f;subst f;exact⟨x,by rw[Array.getElem?_setIfInBounds];simp[hs.len,R],X⟩
   ·cases f
  ·rename_i A;obtain⟨y,hy,h⟩:=hs.tm i u f;exact⟨y,by rw[Array.getElem?_setIfInBounds];simp[A,hy],q h (hp i u (λe=>A e.symm) f)⟩
 ·simp only[St.kill,St.mark]at f;obtain⟨B,M,e,n,h3,h4⟩:=hs.bx k u f;refine⟨Y k B,M,e,?_,h3,λj z F=>?_⟩;·rw[W,hw _ (hs.good.box k B).2.2];exact n
  ·obtain⟨y,T,e3⟩:=h4 j z F;refine⟨y,T,q e3 ?_⟩;have s:=K k u f;cases u with
   |agg cs=>exact ax s z (aA F)
   |_=>
    obtain rfl:j=0:=by
     cases j with
     |zero=>rfl
     |succ j=>simp[V.cells]at F
    simp only[V.cells,List.getElem?_cons_zero,aK]at F;subst F;exact s
 ·simp only[St.kill,St.mark,Bool.or_eq_false_iff]at n;exact hn b B n.1 n.2
theorem cS (u:V):u.anyP (λ_=>false)=false:=
 V.rec (motive_1:=λu=>u.anyP (λ_=>false)=false) (motive_2:=λl=>V.anyPs (λ_=>false) l=false)
  rfl (λ_=>rfl) (λ_ _=>rfl) (λ_=>rfl) rfl (λ_ _ _ _=>rfl) (λ_ _ _ _ _=>rfl) (λ_ _ _ _ _=>rfl) (λ_ _=>rfl) (λ_ _ _ _ _ _ _=>rfl) (λ_ _ _ _=>rfl) (λ_ _ _=>rfl)
  (λ_ h=>h) (λ_ h=>h) (λ_ _ h=>h) rfl (λ_ _ b e=>by rw[V.anyPs,b,e];rfl) u
theorem bN (u:V):u.anyB (λ_=>false)=false:=
 V.rec (motive_1:=λu=>u.anyB (λ_=>false)=false) (motive_2:=λl=>V.anyBs (λ_=>false) l=false)
  rfl (λ_=>rfl) (λ_ _=>rfl) (λ_=>rfl) rfl (λ_ _ _ _=>rfl) (λ_ _ _ _ _=>rfl) (λ_ _ _ _ _=>rfl) (λ_ _=>rfl) (λ_ _ _ _ _ _ _=>rfl) (λ_ _ _ _=>rfl) (λ_ _ _=>rfl)
  (λ_ h=>h) (λ_ h=>h) (λ_ _ h=>h) rfl (λ_ _ b e=>by rw[V.anyBs,b,e];rfl) u
theorem sV {p:Nat->Bool}:∀{l:List (Option V)},vX p l=false -> ∀u,some u∈l->u.anyB p=false:=by
  intro l;induction l with
  |nil=>intro _ u b;cases b
  |cons x l f=>
   intro h u b;cases x with
   |none=>rcases List.mem_cons.1 b with e|b
          · cases e
          · exact f h u b
   |some y=>
    rw[vX,Bool.or_eq_false_iff]at h;rcases List.mem_cons.1 b with e|b;·injection e with e;subst e;exact h.1
    ·exact f h.2 u b
theorem BU {p:Nat->Bool}:∀{l:List (Option V)},vY p l=false -> ∀u,some u∈l->u.anyP p=false:=by
  intro l;induction l with
  |nil=>intro _ u b;cases b
  |cons x l f=>
   intro h u b;cases x with
   |none=>rcases List.mem_cons.1 b with e|b
          · cases e
          · exact f h u b
   |some y=>
    rw[vY,Bool.or_eq_false_iff]at h;rcases List.mem_cons.1 b with e|b;·injection e with e;subst e;exact h.1
    ·exact f h.2 u b
theorem kN (h:st.freeD d=true)(i:Nat)(u:V)(f:i≠d)(g:st.t[i]?=some u):u.anyB (λb=>b/1000==d)=false:=by unfold St.freeD at h;rw[Bool.and_eq_true,Bool.not_eq_true',Bool.not_eq_true']at h;exact ax h.1 u (aA (i:=i) (by rw[List.getElem?_set,if_neg (λe=>f e.symm)];exact g))
theorem og (h:st.freeD d=true)(i:Nat)(u:V)(e:st.h[i]?=some (some u)):u.anyB (λb=>b/1000==d)=false:=by unfold St.freeD at h;rw[Bool.and_eq_true,Bool.not_eq_true',Bool.not_eq_true']at h;exact sV h.2 u (aA e)
theorem zb (h:st.freeP d=true)(i:Nat)(u:V)(f:i≠d)(g:st.t[i]?=some u):u.anyP (λb=>b==d)=false:=by unfold St.freeP at h;rw[Bool.and_eq_true,Bool.not_eq_true',Bool.not_eq_true']at h;exact hM h.1 u (aA (i:=i) (by rw[List.getElem?_set,if_neg (λe=>f e.symm)];exact g))
theorem za (h:st.freeP d=true)(i:Nat)(u:V)(e:st.h[i]?=some (some u)):u.anyP (λb=>b==d)=false:=by unfold St.freeP at h;rw[Bool.and_eq_true,Bool.not_eq_true',Bool.not_eq_true']at h;exact BU h.2 u (aA e)
theorem o9 {p:Nat->Bool}{u z:V}{j:Nat}(h:u.anyB p=false)(b:u.cells[j]?=some z):z.anyB p=false:=by
 cases u with
 |agg cs=>exact ax h z (aA b)
 |_=>
  obtain rfl:j=0:=by
   cases j with
   |zero=>rfl
   |succ j=>simp[V.cells]at b
  simp only[V.cells,List.getElem?_cons_zero,aK]at b;subst b;exact h
theorem iW {p:Nat->Bool}{u z:V}{j:Nat}(h:u.anyP p=false)(b:u.cells[j]?=some z):z.anyP p=false:=by
 cases u with
 |agg cs=>exact hM h z (aA b)
 |_=>
  obtain rfl:j=0:=by
   cases j with
   |zero=>rfl
   |succ j=>simp[V.cells]at b
  simp only[V.cells,List.getElem?_cons_zero,aK]at b;subst b;exact h
structure NewBlk (Γ:Ctx) (w w':World) (k:Nat) (cs:Array Value) (e:TypeId):Prop where
  old:∀j,j<w.heap.size->w'.heap[j]?=w.heap[j]?
  size:w.heap.size<=w'.heap.size
  at_:w'.heap[k]?=some (.cells cs e (0,0))
  F:Γ.F k
  S:¬Γ.S k
  blk:∀b,Γ.has b->Γ.blk b≠k
  box:∀d,Γ.lb d->Γ.box d≠k
  os:w'.os=w.os
  tape:w'.tape=w.tape
  output:w'.output=w.output
theorem NewBlk.lt {w w':World}{k:Nat}{cs:Array Value}{e:TypeId}(h:NewBlk Γ w w' k cs e):k<w'.heap.size:=(Array.getElem?_eq_some_iff.1 h.at_).1
theorem NewBlk.alloc {cs:Array Value}{e:TypeId}(g:Good Γ w):NewBlk Γ w (w.alloc (.cells cs e)) w.heap.size cs e:=
 ⟨λ_ h=>aE w _ h,by rw[size_alloc];omega,bf w _,g.new _ g.size,λh=>Nat.lt_irrefl _ (g.slt _ h),λb f e=>Nat.lt_irrefl _ (e▸(g.base b f).2.1),λd i e=>Nat.lt_irrefl _ (e▸(g.box d i).2.2),rfl,rfl,rfl⟩
theorem Sim.newBoxAt {k0:Nat}{w':World}{r:V}{cs:Array Value}{e:TypeId}(hs:Sim Γ st a w)(nb:NewBlk Γ w w' k0 cs e)(hdt:d<st.t.length)(hd:d<st.h.length)(hf:st.freeP d=true)(hn:(st.h.getD d none).isNone=true)
  (hl:r.cells.length=cs.size) (hr:∀(j:Nat) (u:V),r.cells[j]?=some u -> ∃y,cs[j]?=some y/\VR Γ w u y) (hrp:r.anyP (λb=>b==d)=false) :
  Sims Γ { st with t:=st.t.set d (.ptr d 0),h:=st.h.set d (some r) } (a.put (some d) (.pointer (some ⟨k0,0,none⟩))) w':=by
 let Γ':Ctx:={ Γ with lb:=λk=>Γ.lb k/\k≠d\/k=d,box:=λk=>if k=d then k0 else Γ.box k };refine⟨Γ',⟨rfl,rfl,rfl,rfl,rfl,λk hk=>if_neg (by have:=hs.nt;omega)⟩,?_⟩;have hcell:∀k,k<w.heap.size -> ∀o,w'.cell? ⟨k,o,none⟩=w.cell? ⟨k,o,none⟩:=λk hk o=>cell?_of_heap (nb.old _ hk) o;have hmono:∀{u:V} {y:Value},VR Γ w u y->u.anyP (λb=>b==d)=false->VR Γ' w' u y:=by
  intro u y hu hup;refine VR.mono (Γ:=Γ) (Γ':=Γ') (p:=λ_=>false) (r:=λb=>b==d) (λh=>h) (λ_ h=>h) (λ_ h=>h) (λk hk=>hcell k (hs.good.slt k hk)) (λb _=>⟨Iff.rfl,λhh=>⟨rfl,rfl,rfl,rfl,rfl,λ_ h=>h,λo=>hcell _ (hs.good.base b hh).2.1 o⟩⟩) (λk hk=>?_) hu (bN u) hup;have hk:k≠d:=by simpa using hk
  exact⟨λh=>.inl ⟨h,hk⟩,if_neg hk⟩
 have g:=hs.good;have hsz:=nb.size;have hlt0:=nb.lt;have hgood:Good Γ' w':=by
  refine⟨nb.os.trans g.os,nb.tape.trans g.tape,nb.output.trans g.output,Nat.le_trans g.size hsz,λk hk hF=>?_,g.new,λk hk=>?_,λb hb=>?_,g.baseInj,λk hk=>?_,λk k' hk hk' he=>?_,λb k hb hk=>?_,g.sr,g.gl,g.bz,λk hk=>(let⟨h1,h2,cur,e',h⟩:=g.zf k hk;⟨h1,by omega,cur,e',(nb.old _ h2).trans h⟩),g.ns,g.h9⟩;·exact(nb.old _ (Nat.lt_of_lt_of_le hk g.size)).trans (g.old k hk hF)
  ·have:=g.slt k hk;omega
  ·obtain⟨h1,h2,h3,cur,e',h4,h5⟩:=g.base b hb;exact⟨h1,Nat.lt_of_lt_of_le h2 (by omega),h3,cur,e',(nb.old _ h2).trans h4,h5⟩
  ·by_cases hkd:k=d;·subst hkd;show Γ.F (if k=k then _ else _) /\ ¬Γ.S (if k=k then _ else _)/\(if k=k then _ else _)<_;rw[if_pos rfl];exact⟨nb.F,nb.S,hlt0⟩
   ·rcases hk with⟨hk,_⟩|hk;·obtain⟨h1,h2,h3⟩:=g.box k hk;show Γ.F (if k=d then _ else _) /\ ¬Γ.S (if k=d then _ else _)/\(if k=d then _ else _)<_;rw[if_neg hkd];exact⟨h1,h2,by omega⟩
    ·exact absurd hk hkd
  ·change (if k=d then k0 else Γ.box k)=(if k'=d then k0 else Γ.box k')at he;by_cases h1:k=d
   ·by_cases h2:k'=d;·rw[h1,h2]
    ·rcases hk' with⟨hk',_⟩|hk';·rw[if_pos h1,if_neg h2]at he;exact absurd he.symm (nb.box k' hk')
     ·exact absurd hk' h2
   ·rcases hk with⟨hk,_⟩|hk
    ·by_cases h2:k'=d;·rw[if_neg h1,if_pos h2]at he;exact absurd he (nb.box k hk)
     ·rcases hk' with⟨hk',_⟩|hk';·rw[if_neg h1,if_neg h2]at he;exact g.boxInj k k' hk hk' he
      ·exact absurd hk' h2
    ·exact absurd hk h1
  ·show Γ.blk b≠(if k=d then k0 else Γ.box k);by_cases h1:k=d;·rw[if_pos h1];exact nb.blk b hb
   ·rcases hk with⟨hk,_⟩|hk;·rw[if_neg h1];exact g.baseBox b k hb hk
    ·exact absurd hk h1
 clear hdt;refine⟨hgood,hs.dz,by simp[Act.put,hs.len],λi u hu=>?_,λk u hu=>?_,hs.nds,hs.du,hs.nd,by simp[hs.nt,Γ']⟩
 ·simp only[Act.put]at hu ⊢;rw[List.getElem?_set]at hu;split at hu
  ·rename_i hid;subst hid;split at hu;·rename_i hlt;injection hu with hu;subst hu;refine⟨.pointer (some ⟨k0,0,none⟩),by rw[Array.getElem?_setIfInBounds];simp[hs.len,hlt],?_⟩;have:=VR.ptr (Γ:=Γ') (w:=w') d 0 (.inr rfl);have e1:Γ'.box d=k0:=if_pos rfl;rwa[e1]at this
   ·cases hu
  ·rename_i hid;obtain⟨y,hy,h⟩:=hs.tm i u hu;exact⟨y,by rw[Array.getElem?_setIfInBounds];simp[hid,hy],hmono h (zb hf i u (λe=>hid e.symm) hu)⟩
 ·simp only at hu;rw[List.getElem?_set]at hu;split at hu
  ·rename_i hkd;subst hkd;injection hu with hu;injection hu with hu;subst hu;refine⟨.inr rfl,cs,e,?_,hl,λj z hz=>?_⟩;·have e1:Γ'.box d=k0:=if_pos rfl;rw[e1];exact nb.at_
   ·obtain⟨y,e1,e3⟩:=hr j z hz;exact⟨y,e1,hmono e3 (iW hrp hz)⟩
  ·rename_i hkd;obtain⟨h1,cur,e',h2,h3,h4⟩:=hs.bx k u hu;have hkd':k≠d:=λe=>hkd e.symm;refine⟨.inl ⟨h1,hkd'⟩,cur,e',?_,h3,λj z hz=>?_⟩;·have e1:Γ'.box k=Γ.box k:=if_neg hkd';rw[e1];exact(nb.old _ (g.box k h1).2.2).trans h2
   ·obtain⟨y,e1,e3⟩:=h4 j z hz;exact⟨y,e1,hmono e3 (iW (za hf k u hu) hz)⟩
def cB (Γ:Ctx)(esc:List Nat):Nat->Prop:=λk=>Γ.S k \/ ∃b,b∈esc/\Γ.has b/\k=Γ.blk b
theorem mT {S':Nat->Prop}{v u:V}{y:Value}(g:Good Γ w)(h:VR Γ w v y)(m:flat v=some u)(D:∀k,Γ.S k->S' k)(K:∀b∈bF v,Γ.has b->S' (Γ.blk b)) :
  Rd w S' u y/\y.oneCell'=true/\((fa v).good=true->Rd w (λk=>S' k/\Γ.Z k) u y)/\(fa v = .flat->gf u):=by
 cases v with
 |bool b =>simp only[flat,aK]at m;subst m;rw[h.bool_inv];exact⟨.bool b,rfl,λ_=>.bool b,λ_=>trivial⟩
 |int k n =>simp only[flat,aK]at m;subst m;rw[h.int_inv];exact⟨.int k n,rfl,λ_=>.int k n,λ_=>trivial⟩
 |str s =>simp only[flat,aK]at m;subst m;obtain⟨z,rfl,J⟩:=h.str_inv;exact⟨.str s z J,rfl,λ_=>.str s z J,λ_=>trivial⟩
 |nil =>simp only[flat,aK]at m;subst m;rw[h.nil_inv];exact⟨.nil,rfl,λ_=>.nil,λ_=>trivial⟩
 |sl s f xs =>simp only[flat,aK]at m;subst m;have L:=h.sl_inv;refine⟨L.mono D (λ_ _ _=>rfl),?_,λe=>(by cases e),λe=>(by cases e)⟩;cases L<;>rfl
 |own b s q xs=>
  simp only[flat,aK]at m;subst m;rcases h.own_inv with⟨rfl,rfl,_⟩|⟨rfl,E,N,F,⟨r1,C,r2,r3⟩,H⟩;·exact⟨.empty _ _ _ _,rfl,λ_=>.empty _ _ _ _,λe=>by cases q<;>cases e⟩
  ·have l:=K b (by simp[bF]) E;have r:q.isFlat=true -> ∀x∈xs,∀c∈x.cells,gf c:=by intro e;cases q<;>first|exact H rfl|cases e
   by_cases t:xs=[];·subst t;exact⟨.empty _ _ _ _,rfl,λ_=>.empty _ _ _ _,λe=>by cases q<;>cases e⟩
   ·have t:0<xs.length:=List.length_pos_iff.2 t;refine⟨.sl s q.isFlat xs _ _ _ C t F.1 l r1 r r2 (λi x j c B A=>(r3 i x j c B A).mono (λk l=>D k (jh l)) (λ_ _ _=>rfl)),rfl,λe=>?_,λe=>by cases q<;>cases e⟩;have I:q.good=true:=by cases q<;>first|rfl|cases e
    have p:∀k,Γ.Sq q k->Γ.S k/\Γ.Z k:=by intro k l;cases q<;>first|exact l|cases I
    exact .sl s q.isFlat xs _ _ _ C t F.1 ⟨l,g.bz b E⟩ r1 r r2 (λi x j c B A=>(r3 i x j c B A).mono (λk l=>⟨D k (p k l).1,(p k l).2⟩) (λ_ _ _=>rfl))
 |view b s q xs=>
  simp only[flat,aK]at m;subst m;rcases h.view_inv with⟨M,G,rfl,rfl⟩|⟨o,G,rfl,E,t,F,_,⟨r1,C,r2,r3⟩,H⟩;·exact⟨.empty _ _ _ _,rfl,λ_=>.empty _ _ _ _,λe=>by cases q<;>cases e⟩
  ·have l:=K b (by simp[bF]) E;have r:q.isFlat=true -> ∀x∈xs,∀c∈x.cells,gf c:=by intro e;cases q<;>first|exact H rfl|cases e
   refine⟨.sl s q.isFlat xs _ _ _ C t F l r1 r r2 (λi x j c B A=>(r3 i x j c B A).mono (λk l=>D k (jh l)) (λ_ _ _=>rfl)),rfl,λe=>?_,λe=>by cases q<;>cases e⟩;have I:q.good=true:=by cases q<;>first|rfl|cases e
   have p:∀k,Γ.Sq q k->Γ.S k/\Γ.Z k:=by intro k l;cases q<;>first|exact l|cases I
   exact .sl s q.isFlat xs _ _ _ C t F ⟨l,g.bz b E⟩ r1 r r2 (λi x j c B A=>(r3 i x j c B A).mono (λk l=>⟨D k (p k l).1,(p k l).2⟩) (λ_ _ _=>rfl))
 |_=>cases m
theorem sT {q:Q}{b s k o:Nat}{xs:List V}(t:Γ.Uq w q b s xs k o)(e:Rows w (Γ.Sq q) s xs k o)(n:flatOk q xs)(u:q.good=true)(l:Γ.U):TrRows w (λm=>Γ.N b m/\Γ.S m) s xs k o:=by
 cases q with
 |any=>cases u
 |clean=>exact t rfl l
 |flat =>obtain⟨r1,r,r2,r3⟩:=e;exact⟨r,λ_ _ _=>False,λi j p v=>(r2 i j p v).1,λi x j c f g=>.leaf _ _ _ (n rfl x (aA f) c (aA g)),λ_ _ _ _ _ h=>h.elim,λ_ _ _ h=>h.elim⟩
theorem sX (g:Good Γ w){b s o f:Nat}(h:Γ.has b)(i:o+f*s<=Γ.off b+Γ.cap b*Γ.sz b/\f<=Γ.cap b):f<=maxLen /\ ∀j:Nat,j<f*s->(w.cell? ⟨Γ.blk b,o+j,none⟩).isSome=true:=by
 obtain⟨_,_,l,k,e,m,p⟩:=g.base b h;refine⟨Nat.le_trans i.2 l,λj n=>?_⟩;have:o+j<k.size:=by omega
 simp[World.cell?,m,this]
theorem uG (g:Good Γ w){v u:V}{y:Value}(h:VR Γ w v y)(e:flat v=some u)(D:(fa v).good=true)(I:Γ.U)(J:∀b∈bF v,Γ.has b -> ¬Γ.S (Γ.blk b)) :
  Tr w u y (λm=>∃b∈bF v,Γ.has b/\(m=Γ.blk b\/Γ.N b m)):=by
 cases v with
 |bool b =>simp only[flat,aK]at e;subst e;exact .leaf _ _ _ trivial
 |int k n =>simp only[flat,aK]at e;subst e;exact .leaf _ _ _ trivial
 |str s =>simp only[flat,aK]at e;subst e;exact .leaf _ _ _ trivial
 |nil =>simp only[flat,aK]at e;subst e;exact .leaf _ _ _ trivial
 |sl s f xs=>cases D
 |own b s q xs=>
  simp only[flat,aK]at e;subst e;have p:q.good=true:=by cases q<;>first|rfl|cases D
  have K:=h.own_uq;rcases h.own_inv with⟨rfl,rfl,_⟩|⟨rfl,l,L,M,C,B⟩;·exact .empty _ _ _ _ _
  ·by_cases x:xs=[];·subst x;exact .empty _ _ _ _ _
   ·obtain⟨A,T,E,H,t3,r⟩:=sT K C B p I;exact .sl s q.isFlat xs _ _ _ A T _ (List.length_pos_iff.2 x) E H t3 (λi j G=>J b (by simp[bF]) l (r i j _ G).2) ⟨b,by simp[bF],l,.inl rfl⟩ (λi j m F=>⟨b,by simp[bF],l,.inr (r i j m F).1⟩) (sX g l ⟨by rw[L];exact Nat.le_refl _,Nat.le_refl _⟩)
 |view b s q xs=>
  simp only[flat,aK]at e;subst e;have p:q.good=true:=by cases q<;>first|rfl|cases D
  have O:=h;rcases h.view_inv with⟨Q,z,rfl,rfl⟩|⟨o,z,rfl,l,x,M,t,C,B⟩;·exact .empty _ _ _ _ _
  ·obtain⟨A,T,E,H,t3,r⟩:=sT O.view_uq C B p I;exact .sl s q.isFlat xs _ _ _ A T _ x E H t3 (λi j G=>J b (by simp[bF]) l (r i j _ G).2) ⟨b,by simp[bF],l,.inl rfl⟩ (λi j m F=>⟨b,by simp[bF],l,.inr (r i j m F).1⟩) (sX g l t)
 |_=>cases e
theorem nm {dead:Nat->Bool}{b:Nat}{l:List Nat}(h:aR dead (b :: l)=true):(b=999\/(dead b=false /\ ¬b∈l))/\aR dead l=true:=by simp only[aR,Bool.and_eq_true,Bool.or_eq_true,beq_iff_eq,Bool.not_eq_true',List.contains_eq_mem,decide_eq_false_iff_not]at h;exact h
theorem bO {dead:Nat->Bool}:∀{l:List Nat},aR dead l=true -> ∀b∈l,b≠999->dead b=false:=by
 intro l;induction l with
 |nil=>intro _ b f;cases f
 |cons a l i=>
  intro h b f e;obtain⟨j,g⟩:=nm h;rcases List.mem_cons.1 f with rfl|f;·exact(j.resolve_left e).1
  ·exact i g b f e
theorem lN {dead:Nat->Bool}:∀{l1 l2:List Nat},aR dead (l1++l2)=true->aR dead l1=true/\aR dead l2=true /\ ∀b,b∈l1->b∈l2->b=999:=by
 intro l1;induction l1 with
 |nil=>intro l2 h;exact⟨rfl,h,λb f=>(by cases f)⟩
 |cons a l k=>
  intro l2 h;obtain⟨e,i⟩:=nm (b:=a) (l:=l++l2) h;obtain⟨o,m,n⟩:=k i;refine⟨?_,m,λb f g=>?_⟩;·simp only[aR,Bool.and_eq_true,Bool.or_eq_true,beq_iff_eq,Bool.not_eq_true',List.contains_eq_mem,decide_eq_false_iff_not];exact⟨e.imp id (λh=>⟨h.1,λj=>h.2 (List.mem_append.2 (.inl j))⟩),o⟩
  ·rcases List.mem_cons.1 f with rfl|f
   ·rcases e with e|e;·exact e
    ·exact absurd (List.mem_append.2 (.inr g)) e.2
   ·exact n b f g
theorem nF:∀{cs b:List V},iu cs=some b->b.length=cs.length /\ ∀(j:Nat) (u:V),b[j]?=some u -> ∃v,cs[j]?=some v/\flat v=some u:=by
 intro cs;induction cs with
 |nil=>intro b h;simp only[iu,aK]at h;subst h;exact⟨rfl,λj u e=>by simp at e⟩
 |cons v cs k=>
  intro b h;simp only[iu]at h;cases f:flat v with
  |none=>rw[f]at h;cases h
  |some x=>
   cases g:iu cs with
   |none=>rw[f,g]at h;cases h
   |some xs=>
    rw[f,g]at h;simp only[aK]at h;subst h;obtain⟨l,i⟩:=k g;refine⟨by simp[l],λj u e=>?_⟩;cases j with
    |zero=>simp only[List.getElem?_cons_zero,aK]at e ⊢;subst e;exact⟨v,rfl,f⟩
    |succ j=>exact i j u e
theorem yG {v u:V}(h:flat v=some u):u.cells=[u]/\v.cells=[v]:=by cases v<;>simp only[flat,aK]at h<;>first|(cases h;done)|(subst h;exact⟨rfl,rfl⟩)
theorem dh {v u:V}(h:gD v=some u):u.cells.length=v.cells.length /\ ∀(j:Nat) (z:V),u.cells[j]?=some z -> ∃y,v.cells[j]?=some y/\flat y=some z:=by
 cases v with
 |agg cs=>
  simp only[gD]at h;cases e:iu cs with
  |none=>rw[e]at h;cases h
  |some i =>rw[e]at h;simp only[Option.map_some,aK]at h;subst h;exact nF e
 |_=>
  simp only[gD]at h;obtain⟨g,f⟩:=yG h;rw[g,f];refine⟨rfl,λj z b=>?_⟩;cases j with
  |zero=>simp only[List.getElem?_cons_zero,aK]at b ⊢;subst b;exact⟨_,rfl,h⟩
  |succ j=>simp at b
theorem iZ:∀{xs ys:List V},ek xs=some ys->ys.length=xs.length /\ ∀(i:Nat) (y:V),ys[i]?=some y -> ∃x,xs[i]?=some x/\gD x=some y:=by
 intro xs;induction xs with
 |nil=>intro ys h;simp only[ek,aK]at h;subst h;exact⟨rfl,λj u b=>by simp at b⟩
 |cons v xs k=>
  intro ys h;simp only[ek]at h;cases e:gD v with
  |none=>rw[e]at h;cases h
  |some x=>
   cases f:ek xs with
   |none=>rw[e,f]at h;cases h
   |some zs=>
    rw[e,f]at h;simp only[aK]at h;subst h;obtain⟨l,g⟩:=k f;refine⟨by simp[l],λj u b=>?_⟩;cases j with
    |zero=>simp only[List.getElem?_cons_zero,aK]at b ⊢;subst b;exact⟨v,rfl,e⟩
    |succ j=>exact g j u b
theorem ar {p q:Q}(h:(p.join q).good=true):p.good=true/\q.good=true:=by cases p<;>cases q<;>first|exact⟨rfl,rfl⟩|cases h
theorem cb {p q:Q}(h:p.join q = .flat):p = .flat/\q = .flat:=by cases p<;>cases q<;>first|exact⟨rfl,rfl⟩|cases h
theorem pU {z v:V}{x:Value}(b:¬Γ.has 999)(h:VR Γ w v x):VR Γ w (d_ z v) x:=by
 unfold d_;split;·rw[h.nil_inv];exact .view0 _ _ _ _ _ (.inl ⟨rfl,rfl,b⟩)
 ·exact h
theorem mb:∀(zs vs:List V),(dO zs vs).length=vs.length:=by
 intro zs;induction zs with
 |nil=>intro vs;cases vs<;>rfl
 |cons z zs b=>intro vs;cases vs with
  |nil=>rfl
  |cons v vs=>rw[dO,List.length_cons,b,List.length_cons]
theorem ma:∀(zs vs:List V) (j:Nat) (u:V),(dO zs vs)[j]?=some u -> ∃v z,vs[j]?=some v/\(u=d_ z v\/u=v):=by
 intro zs;induction zs with
 |nil=>intro vs j u h;cases vs<;>exact⟨u,u,h,.inr rfl⟩
 |cons z zs b=>
  intro vs j u h;cases vs with
  |nil=>simp[dO]at h
  |cons v vs=>
   rw[dO]at h;cases j with
   |zero =>simp only[List.getElem?_cons_zero,aK]at h;exact⟨v,z,rfl,.inl h.symm⟩
   |succ j=>exact b vs j u (by simpa using h)
theorem ik (zs:List V)(v:V):(bZ zs v).cells=dO zs v.cells:=by
 cases v with
 |agg cs=>rfl
 |nil=>cases zs with
  |nil=>rfl
  |cons z zs=>cases z<;>cases zs<;>rfl
 |_=>cases zs with
  |nil=>rfl
  |cons z zs=>cases zs<;>rfl
theorem pW (zs:List V)(v:V):(bZ zs v).cells.length=v.cells.length:=by rw[ik,mb]
theorem lq {zs:List V}{v u:V}{j:Nat}(h:(bZ zs v).cells[j]?=some u):∃y z,v.cells[j]?=some y/\(u=d_ z y\/u=y):=by rw[ik]at h;exact ma zs v.cells j u h
theorem lp {z v u:V}{x:Value}(e:¬Γ.has 999)(h:u=d_ z v\/u=v)(b:VR Γ w v x):VR Γ w u x:=by
 rcases h with rfl|rfl;·exact pU e b
 ·exact b
theorem B9 {zs:List V}{v:V}{x:Value}(e:¬Γ.has 999)(h:VR Γ w v x):VR Γ w (bZ zs v) x:=by
 cases v with
 |agg cs =>obtain⟨vs,rfl,l,m⟩:=h.agg_inv;refine .agg _ vs (by rw[mb];exact l) (λi c v k f=>?_);obtain⟨y,z,j,g⟩:=ma _ _ _ _ k;exact lp e g (m i y v j f)
 |_=>
  unfold bZ;split;·rename_i b;cases b
  ·split;·exact pU e h
   ·exact h
theorem wV (zs:List V):∀xs,(dT zs xs).length=xs.length:=by
 intro xs;induction xs with
 |nil=>rfl
 |cons x xs b=>rw[dT,List.length_cons,b,List.length_cons]
theorem np (zs:List V):∀(xs:List V) (i:Nat) (y:V),(dT zs xs)[i]?=some y -> ∃x,xs[i]?=some x/\y=bZ zs x:=by
 intro xs;induction xs with
 |nil=>intro i y h;simp[dT]at h
 |cons x xs b=>
  intro i y h;rw[dT]at h;cases i with
  |zero=>simp only[List.getElem?_cons_zero,aK]at h;exact⟨x,rfl,h.symm⟩
  |succ i=>exact b i y (by simpa using h)
theorem f_ {cs:List V}(h:(c_ cs).good=true):∀v∈cs,(fa v).good=true:=by
 induction cs with
 |nil=>intro v b;cases b
 |cons u cs e=>
  intro v b;obtain⟨f,g⟩:=ar h;rcases List.mem_cons.1 b with rfl|b;·exact f
  ·exact e g v b
theorem ej {cs:List V}(h:c_ cs = .flat):∀v∈cs,fa v = .flat:=by
 induction cs with
 |nil=>intro v b;cases b
 |cons u cs e=>
  intro v b;obtain⟨f,g⟩:=cb h;rcases List.mem_cons.1 b with rfl|b;·exact f
  ·exact e g v b
theorem pk {xs:List V}(h:(pj xs).good=true):∀x∈xs,∀v∈x.cells,(fa v).good=true:=by
 induction xs with
 |nil=>intro x b;cases b
 |cons u xs e=>
  intro x b;obtain⟨f,g⟩:=ar h;rcases List.mem_cons.1 b with rfl|b;·exact f_ f
  ·exact e g x b
theorem yn {xs:List V}(h:pj xs = .flat):∀x∈xs,∀v∈x.cells,fa v = .flat:=by
 induction xs with
 |nil=>intro x b;cases b
 |cons u xs e=>
  intro x b;obtain⟨f,g⟩:=cb h;rcases List.mem_cons.1 b with rfl|b;·exact ej f
  ·exact e g x b
theorem bn {cs:List V}{v:V}(e:v∈cs):∀b∈bF v,b∈bB cs:=by
 induction cs with
 |nil=>cases e
 |cons u cs g=>
  intro b f;rw[bB,List.mem_append];rcases List.mem_cons.1 e with rfl|e;·exact .inl f
  ·exact .inr (g e b f)
theorem kU {xs:List V}{x:V}(e:x∈xs):∀b∈bB x.cells,b∈kG xs:=by
 induction xs with
 |nil=>cases e
 |cons u xs g=>
  intro b f;rw[kG,List.mem_append];rcases List.mem_cons.1 e with rfl|e;·exact .inl f
  ·exact .inr (g e b f)
theorem nh {dead:Nat->Bool}:∀{cs:List V},aR dead (bB cs)=true -> ∀(j e:Nat) (c g:V) (b:Nat),cs[j]?=some c->cs[e]?=some g->b∈bF c->b∈bF g->b≠999->j=e:=by
 intro cs;induction cs with
 |nil=>intro _ j e c g b h;simp at h
 |cons u cs q=>
  intro h j e c g b k l m n f;obtain⟨r,p,o⟩:=lN (l1:=bF u) (l2:=bB cs) h;cases j with
  |zero=>
   cases e with
   |zero=>rfl
   |succ e =>simp only[List.getElem?_cons_zero,aK]at k;subst k;exact absurd (o b m (bn (aA (i:=e) (by simpa using l)) b n)) f
  |succ j=>
   cases e with
   |zero =>simp only[List.getElem?_cons_zero,aK]at l;subst l;exact absurd (o b n (bn (aA (i:=j) (by simpa using k)) b m)) f
   |succ e=>rw[q p j e c g b (by simpa using k) (by simpa using l) m n f]
theorem wu {dead:Nat->Bool}:∀{xs:List V},aR dead (kG xs)=true -> ∀(i e j k:Nat) (x m c g:V) (b:Nat),xs[i]?=some x->xs[e]?=some m->x.cells[j]?=some c->m.cells[k]?=some g->b∈bF c->b∈bF g->b≠999->i=e/\j=k:=by
 intro xs;induction xs with
 |nil=>intro _ i e j k x m c g b h;simp at h
 |cons u xs z=>
  intro h i e j k x m c g b q l o r n p f;obtain⟨t,y,s⟩:=lN (l1:=bB u.cells) (l2:=kG xs) h;cases i with
  |zero=>
   simp only[List.getElem?_cons_zero,aK]at q;subst q;cases e with
   |zero =>simp only[List.getElem?_cons_zero,aK]at l;subst l;exact⟨rfl,nh t j k c g b o r n p f⟩
   |succ e=>exact absurd (s b (bn (aA o) b n) (kU (aA (i:=e) (by simpa using l)) b (bn (aA r) b p))) f
  |succ i=>
   cases e with
   |zero =>simp only[List.getElem?_cons_zero,aK]at l;subst l;exact absurd (s b (bn (aA r) b p) (kU (aA (i:=i) (by simpa using q)) b (bn (aA o) b n))) f
   |succ e =>obtain⟨A,v⟩:=z y i e j k x m c g b (by simpa using q) (by simpa using l) o r n p f;exact⟨by rw[A],v⟩
end
end Go.Am
