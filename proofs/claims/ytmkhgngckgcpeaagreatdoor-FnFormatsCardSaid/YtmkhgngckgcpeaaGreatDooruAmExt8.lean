/-
  Proved: lemmas for Rows.FnFormatsCardSaid.
-/
import Derived.Test.YtmkhgngckgcpeaaGreatDooruAmWp
import Derived.Deep.AppendLies
set_option linter.all false
section
namespace Go.Am
open Go Go.RowKit
structure Mod (X:Nat->Prop) (w w':World):Prop where
  os:w'.os=w.os
  tape:w'.tape=w.tape
  output:w'.output=w.output
  size:w.heap.size<=w'.heap.size
  old:∀k,k<w.heap.size -> ¬X k->w'.heap[k]?=w.heap[k]?
theorem Mod.refl {X:Nat->Prop}(w:World):Mod X w w:=⟨rfl,rfl,rfl,Nat.le_refl _,λ_ _ _=>rfl⟩
theorem Mod.trans {X:Nat->Prop}{w w1 w2:World}(h:Mod X w w1)(a:Mod X w1 w2):Mod X w w2:=
 ⟨a.os.trans h.os,a.tape.trans h.tape,a.output.trans h.output,Nat.le_trans h.size a.size,λk d b=>(a.old k (Nat.lt_of_lt_of_le d h.size) b).trans (h.old k d b)⟩
theorem Mod.of_kept {X:Nat->Prop}{w w':World}(h:Kept w w'):Mod X w w':=⟨h.1,h.2.1,h.2.2.1,h.2.2.2.1,λk a _=>h.2.2.2.2 k a⟩
theorem Mod.mono {X Y:Nat->Prop}{w w':World}(h:Mod X w w')(a:∀k,X k->Y k):Mod Y w w':=⟨h.os,h.tape,h.output,h.size,λk b d=>h.old k b (λe=>d (a k e))⟩
theorem Mod.glob {X:Nat->Prop}{w w':World}(h:Mod X w w')(d:∀k,X k->nk<=k)(a:ck w):ck w':=
 ⟨li _ _ a.1 (λk b=>h.old k (Nat.lt_of_lt_of_le b a.2) (λe=>absurd (d k e) (Nat.not_le.2 b))),Nat.le_trans a.2 h.size⟩
theorem Kept.glob' {w w':World}(h:Kept w w')(a:ck w):ck w':=Mod.glob (X:=λ_=>False) (Mod.of_kept h) (λ_ h=>h.elim) a
theorem Kept.tr {w w1 w2:World}(h:Kept w w1)(a:Kept w1 w2):Kept w w2:=
 ⟨a.1.trans h.1,a.2.1.trans h.2.1,a.2.2.1.trans h.2.2.1,Nat.le_trans h.2.2.2.1 a.2.2.2.1,λk b=>(a.2.2.2.2 k (Nat.lt_of_lt_of_le b h.2.2.2.1)).trans (h.2.2.2.2 k b)⟩
theorem Kept.al (w:World)(o:Obj):Kept w (w.alloc o):=⟨rfl,rfl,rfl,by rw[size_alloc];omega,λk a=>aE w o a⟩
theorem mW (w:World)(g j:Nat)(v:Value){cur:Array Value}{ty:TypeId}(h:w.heap[g]?=some (.cells cur ty (0,0))):(w.setCell ⟨g,j,none⟩ v).heap[g]?=some (.cells (cur.setIfInBounds j v) ty (0,0)):=by simp[World.setCell,Array.getElem?_modify,h]
theorem eQ (w:World)(g j k:Nat)(v:Value)(h:k≠g):(w.setCell ⟨g,j,none⟩ v).heap[k]?=w.heap[k]?:=by simp[World.setCell,Array.getElem?_modify,Ne.symm h]
theorem Mod.setCell {X:Nat->Prop}{w w':World}(h:Mod X w w'){g j:Nat}{v:Value}(d:X g):Mod X w (w'.setCell ⟨g,j,none⟩ v):=
 ⟨h.os,h.tape,h.output,by rw[World.size_setCell];exact h.size,λk b a=>(eQ w' g j k v (λe=>a (e▸d))).trans (h.old k b a)⟩
structure Stored (w w':World) (g:Nat) (cur:Array Value) (ty:TypeId):Prop where
  mod:Mod (λk=>k=g) w w'
  at_:w'.heap[g]?=some (.cells cur ty (0,0))
theorem Stored.other {w w':World}{g:Nat}{cur:Array Value}{ty:TypeId}(h:Stored w w' g cur ty){k:Nat}(b:k<w.heap.size)(a:k≠g):w'.heap[k]?=w.heap[k]?:=h.mod.old k b a
theorem lX {W:World}{g:Nat}{a:Obj}(h:W.heap[g]?=some a):g<W.heap.size:=(Array.getElem?_eq_some_iff.1 h).1
inductive Kd where
  |str
  |int
  |bool
  |sl (ks:List Kd)
def Kd.leaf:Kd->Bool
 |.sl _=>false
 |_=>true
def yS:Kd->Value->Prop
 |.str,x=>∃b:ByteArray,x = .string b
 |.int,x=>∃n:Int,x = .int .i64 n
 |.bool,x=>∃b:Bool,x = .bool b
 |.sl _,_=>False
def markIs (mt:Nat->List UInt8):Kd->Nat->Value->Prop
 |.str,k,x=>∃b:ByteArray,x = .string b/\b.data.toList=mt k
 |.int,k,x=>x = .int .i64 (k:Int)
 |.bool,k,x=>x = .bool (k%3==0)
 |.sl _,_,_=>False
theorem markIs.leaf {mt:Nat->List UInt8}{kd:Kd}{k:Nat}{x:Value}(h:markIs mt kd k x):yS kd x:=by
 cases kd with
 |str=>obtain⟨b,h,_⟩:=h;exact⟨b,h⟩
 |int=>exact⟨_,h⟩
 |bool=>exact⟨_,h⟩
 |sl ks=>exact h.elim
def CN (N:Nat->Nat):Nat->Nat
 |0=>0
 |p+1=>CN N p+N p
inductive MT (mt:Nat->List UInt8) (mk:Bool) (w:World):Kd->Value->Nat->Nat->(Nat->Prop)->Prop
  |leaf (kd:Kd) (x:Value) (k0:Nat) (T:Nat->Prop) (h:yS kd x) (hm:mk=true->markIs mt kd k0 x):MT mt mk w kd x k0 1 T
  |nil (ks:List Kd) (a:Option Addr) (cap k0:Nat) (T:Nat->Prop):MT mt mk w (.sl ks) (.slice a 0 cap) k0 0 T
  |sl (ks:List Kd) (k o m cap k0:Nat) (cur:Array Value) (ty:TypeId) (N:Nat->Nat) (Ts:Nat->Nat->Prop) (T:Nat->Prop) (h0:0<m) (hm:m<=1152921504606846976) (hb:w.heap[k]?=some (.cells cur ty (0,0))) (hsz:o+m*ks.length<=cur.size)
     (hc:∀(p:Nat) (kd:Kd) (v:Value),p<m*ks.length->ks[p%ks.length]?=some kd->cur[o+p]?=some v->MT mt mk w kd v (k0+CN N p) (N p) (Ts p))
     (hd:∀p p' x,Ts p x->Ts p' x->p=p') (hk:∀p,¬Ts p k) (hTk:T k) (hT:∀p x,Ts p x->T x):MT mt mk w (.sl ks) (.slice (some ⟨k,o,none⟩) m cap) k0 (CN N (m*ks.length)) T
section
variable {mt:Nat->List UInt8}{mk:Bool}{w w':World}{kd:Kd}{x:Value}{k0 n:Nat}{T T':Nat->Prop}
theorem MT.mono (h:MT mt mk w kd x k0 n T)(j:∀b,T b->w'.heap[b]?=w.heap[b]?):MT mt mk w' kd x k0 n T:=by
 induction h with
 |leaf kd x k0 T h g=>exact .leaf kd x k0 T h g
 |nil ks a d k0 T=>exact .nil ks a d k0 T
 |sl ks k o m d k0 cur ty N Ts T u g f i A t q e l y=>exact .sl ks k o m d k0 cur ty N Ts T u g ((j k e).trans f) i (λp kd v z r s=>y p kd v z r s (λb f=>j b (l p b f))) t q e l
theorem MT.weaken (h:MT mt mk w kd x k0 n T)(j:∀b,T b->T' b):MT mt mk w kd x k0 n T':=by
 cases h with
 |leaf _ _ _ _ h g=>exact .leaf kd x k0 T' h g
 |nil ks a d _ _=>exact .nil ks a d k0 T'
 |sl ks k o m d _ cur ty N Ts _ u g t e q s r i f=>exact .sl ks k o m d k0 cur ty N Ts T' u g t e q s r (j k i) (λp x l=>j x (f p x l))
theorem MT.start (h:MT mt false w kd x k0 n T):∀d,MT mt false w kd x d n T:=by
 induction h with
 |leaf kd x k0 T h i=>exact λd=>.leaf kd x d T h (λe=>by cases e)
 |nil ks a b k0 T=>exact λd=>.nil ks a b d T
 |sl ks k o m b k0 cur ty N Ts T u i l g A t j f s y=>exact λd=>.sl ks k o m b d cur ty N Ts T u i l g (λp kd v z q r=>y p kd v z q r _) t j f s
theorem MT.one (h:MT mt mk w kd x k0 n T)(a:kd.leaf=true):n=1/\yS kd x/\(mk=true->markIs mt kd k0 x):=by
 cases h with
 |leaf _ _ _ _ h b=>exact⟨rfl,h,b⟩
 |nil=>cases a
 |sl=>cases a
structure SlInv (mt:Nat->List UInt8) (w0 w:World) (ks:List Kd) (bk o m:Nat) (cur:Array Value) (ty:TypeId) (N:Nat->Nat) (Ts:Nat->Nat->Prop) (k0 p:Nat):Prop where
  hb:w.heap[bk]?=some (.cells cur ty (0,0))
  hsz:o+m*ks.length<=cur.size
  done:∀(q:Nat) (kd:Kd) (v:Value),q<p->q<m*ks.length->ks[q%ks.length]?=some kd->cur[o+q]?=some v->MT mt true w kd v (k0+CN N q) (N q) (Ts q)
  todo:∀(q:Nat) (kd:Kd) (v:Value),p<=q->q<m*ks.length->ks[q%ks.length]?=some kd->cur[o+q]?=some v->MT mt false w kd v 0 (N q) (Ts q)
  mod:Mod (λx=>x=bk \/ ∃q,Ts q x) w0 w
  hd:∀p p' x,Ts p x->Ts p' x->p=p'
  hk:∀p,¬Ts p bk
  lt:∀p x,Ts p x->x<w.heap.size
variable {w0:World}{ks:List Kd}{bk o m p:Nat}{cur:Array Value}{ty:TypeId}{N:Nat->Nat}{Ts:Nat->Nat->Prop}{v:Value}
theorem SlInv.kept (h:SlInv mt w0 w ks bk o m cur ty N Ts k0 p)(d:Kept w w'):SlInv mt w0 w' ks bk o m cur ty N Ts k0 p:=by have a:∀q b,Ts q b->w'.heap[b]?=w.heap[b]?:=λq b k=>d.2.2.2.2 b (h.lt q b k);exact⟨(d.2.2.2.2 bk (lX h.hb)).trans h.hb,h.hsz,λq kd v f e g i=>(h.done q kd v f e g i).mono (a q),λq kd v f e g i=>(h.todo q kd v f e g i).mono (a q),h.mod.trans (Mod.of_kept d),h.hd,h.hk,λq x j=>Nat.lt_of_lt_of_le (h.lt q x j) d.2.2.2.1⟩
theorem SlInv.leaf (h:SlInv mt w0 w ks bk o m cur ty N Ts k0 p)(D:p<m*ks.length)(j:ks[p%ks.length]?=some kd)(A:kd.leaf=true)(s:markIs mt kd (k0+CN N p) v)(a:Stored w w' bk (cur.setIfInBounds (o+p) v) ty) :
  N p=1/\SlInv mt w0 w' ks bk o m (cur.setIfInBounds (o+p) v) ty N Ts k0 (p+1):=by
 have l:o+p<cur.size:=by have:=h.hsz;omega
 obtain⟨u,C⟩:∃u,cur[o+p]?=some u:=⟨_,Array.getElem?_eq_getElem l⟩;have y:=((h.todo p kd u (Nat.le_refl _) D j C).one A).1;have f:∀q b,Ts q b->w'.heap[b]?=w.heap[b]?:=λq b t=>a.other (h.lt q b t) (λe=>h.hk q (e▸t));refine⟨y,a.at_,by rw[Array.size_setIfInBounds];exact h.hsz,λq g v' B r i d=>?_,λq g v' B r i d=>?_,h.mod.trans (a.mod.mono (λk e=>.inl e)),h.hd,h.hk,λq x z=>Nat.lt_of_lt_of_le (h.lt q x z) a.mod.size⟩
 ·by_cases e:q=p;·subst e;rw[j]at i;injection i with i;subst i;rw[Array.getElem?_setIfInBounds_self_of_lt l]at d;injection d with d;subst d;rw[y];exact .leaf kd v _ _ s.leaf (λ_=>s)
  ·rw[Array.getElem?_setIfInBounds_ne (by omega)]at d;exact(h.done q g v' (by omega) r i d).mono (f q)
 ·rw[Array.getElem?_setIfInBounds_ne (by omega)]at d;exact(h.todo q g v' (by omega) r i d).mono (f q)
theorem SlInv.sub (h:SlInv mt w0 w ks bk o m cur ty N Ts k0 p)(B:p<m*ks.length)(j:ks[p%ks.length]?=some kd)(u:cur[o+p]?=some v)(i:Mod (Ts p) w w')(A:MT mt true w' kd v (k0+CN N p) (N p) (Ts p)) :
  SlInv mt w0 w' ks bk o m cur ty N Ts k0 (p+1):=by
 have a:∀q,q≠p -> ∀b,Ts q b->w'.heap[b]?=w.heap[b]?:=λq z b r=>i.old b (h.lt q b r) (λe=>z (h.hd q p b r e));refine⟨(i.old bk (lX h.hb) (h.hk p)).trans h.hb,h.hsz,λq f v' y l g d=>?_,λq f v' y l g d=>?_,h.mod.trans (i.mono (λk t=>.inr ⟨p,t⟩)),h.hd,h.hk,λq x s=>Nat.lt_of_lt_of_le (h.lt q x s) i.size⟩
 ·by_cases e:q=p;·subst e;rw[j]at g;injection g with g;subst g;rw[u]at d;injection d with d;subst d;exact A
  ·exact(h.done q f v' (by omega) l g d).mono (a q e)
 ·exact(h.todo q f v' (by omega) l g d).mono (a q (by omega))
end
end Go.Am
end
section
namespace Go.Am
open Go Go.RowKit
def CV (c:V)(v:Value):Prop:=gf c/\v.oneCell'=true /\ ∀(w:World) (S:Nat->Prop),Rd w S c v
def FlatN (m:Nat)(fs:List V)(zs:List Value):Prop:=zs.length=fs.length*m/\(∀x∈fs,x.cells.length=m) /\ ∀(i:Nat) (x:V) (j:Nat) (c:V),fs[i]?=some x->x.cells[j]?=some c -> ∃v,zs[i*m+j]?=some v/\CV c v
theorem XB {w:World}{S:Nat->Prop}{c:V}{v:Value}(h:Rd w S c v)(a:gf c)(d:v.oneCell'=true):CV c v:=by
 refine⟨a,d,λw' S'=>?_⟩;cases h with
 |bool b=>exact .bool b
 |int k n=>exact .int k n
 |str s x h=>exact .str s x h
 |nil=>exact .nil
 |_=>exact a.elim
theorem FlatN.nil (m:Nat):FlatN m [] []:=⟨by simp,by simp,by simp⟩
theorem FlatN.one {m:Nat}{fs:List V}{zs:List Value}(h:FlatN m fs zs):∀u∈zs,u.oneCell'=true:=by
 intro u j;obtain⟨p,d,rfl⟩:=List.mem_iff_getElem.1 j;have i:0<m:=by
  rcases Nat.eq_zero_or_pos m with e|e;·have:=h.1;rw[e,Nat.mul_zero]at this;omega
  ·exact e
 have b:p/m<fs.length:=Nat.div_lt_of_lt_mul (by rw[Nat.mul_comm,<-h.1];exact d);have f:p%m<(fs[p/m]).cells.length:=by rw[h.2.1 _ (List.getElem_mem b)];exact Nat.mod_lt _ i
 obtain⟨v,a,g⟩:=h.2.2 _ _ _ _ (List.getElem?_eq_getElem b) (List.getElem?_eq_getElem f);rw[Nat.div_add_mod' p m,List.getElem?_eq_getElem d]at a;injection a with a;rw[a];exact g.2.1
theorem FlatN.push {m:Nat}{fs:List V}{zs:List Value}(h:FlatN m fs zs){x:V}{vs:List Value}(k:x.cells.length=m)(q:vs.length=m)(l:∀(j:Nat) (c:V),x.cells[j]?=some c -> ∃v,vs[j]?=some v/\CV c v):FlatN m (fs++[x]) (zs++vs):=by
 refine⟨by rw[List.length_append,List.length_append,h.1,q,List.length_singleton,Nat.add_mul,Nat.one_mul],λy b=>?_,λi y j c a g=>?_⟩
 ·rcases List.mem_append.1 b with b|b;·exact h.2.1 y b
  ·rw[List.mem_singleton.1 b];exact k
 ·rcases Nat.lt_or_ge i fs.length with e|e;·rw[List.getElem?_append_left e]at a;obtain⟨v,d,f⟩:=h.2.2 i y j c a g;exact⟨v,by rw[List.getElem?_append_left (bW d).1];exact d,f⟩
  ·rw[List.getElem?_append_right e]at a;have r:i=fs.length:=by have:=(bW a).1;simp at this;omega
   subst r;rw[Nat.sub_self]at a;injection a with a;subst a;obtain⟨v,d,f⟩:=l j c g;exact⟨v,by rw[List.getElem?_append_right (by rw[h.1];omega),h.1,Nat.add_sub_cancel_left];exact d,f⟩
theorem bJ {w w':World}{base:Nat}{e:TypeId}{s:Nat}{v:Value}{n:Nat}{xs:List Value}(h:w.ownsRow base e s v n xs)(d:∀k,v.ownBlock=some k->w'.heap[k]?=w.heap[k]?):w'.ownsRow base e s v n xs:=by
 obtain⟨b,l|⟨g,a,cur,rfl,f,j,i⟩⟩:=h;·exact⟨b,.inl l⟩
 ·exact⟨b,.inr ⟨g,a,cur,rfl,f,(d g rfl).trans j,i⟩⟩
theorem aZ {w:World}{base:Nat}{e:TypeId}{s:Nat}{v:Value}{n:Nat}{xs:List Value}(h:w.ownsRow base e s v n xs){k:Nat}(a:v.ownBlock=some k):base<=k/\k<w.heap.size:=by
 obtain⟨j,⟨rfl,_⟩|⟨g,b,cur,rfl,d,f,i⟩⟩:=h;·cases a
 ·injection a with a;subst a;exact⟨d,lX f⟩
theorem ep {w:World}{base:Nat}{e:TypeId}{s:Nat}{v:Value}{n:Nat}{xs:List Value}(h:w.ownsRow base e s v n xs){k:Nat}(b:v.ownBlock=some k):∃a cur,v = .slice (some ⟨k,0,none⟩) n a/\w.heap[k]?=some (.cells cur e (0,0))/\n<=a/\a<=maxLen/\cur.size=a*s/\cur.toList.take (n*s)=xs:=by
 obtain⟨r,⟨rfl,_⟩|⟨g,a,cur,rfl,q,l,j,d,i,f⟩⟩:=h;·cases b
 ·injection b with b;subst b;exact⟨a,cur,rfl,l,j,d,i,f⟩
theorem ao {w:World}{base:Nat}{e:TypeId}{s:Nat}{v:Value}{n:Nat}{xs:List Value}(h:w.ownsRow base e s v n xs){k:Nat}(g:v.ownBlock=some k){j:Nat}{u:Value}(a:xs[j]?=some u):w.cell? ⟨k,j,none⟩=some u/\w.frozen? ⟨k,j,none⟩=false:=by
 obtain⟨f,cur,rfl,b,q,i,l,d⟩:=ep h g;rw[<-d,List.getElem?_take]at a;split at a;·refine⟨?_,by simp[World.frozen?,b]⟩;simp only[World.cell?,b];simpa using a
 ·cases a
abbrev Sv:=List UInt8×List V
def aQ (xs:List Value)(i:Nat):Option Nat:=(xs[i*2+1]?).bind Value.ownBlock
structure NS (w:World) (base:Nat) (eS eF:TypeId) (m:Nat) (v:Value) (ys:List Sv) (xs:List Value):Prop where
  own:w.ownsRow base eS 2 v ys.length xs
  row:∀i h fs,ys[i]?=some (h,fs) -> ∃hb sv zs,xs[i*2]?=some (.string hb)/\hb.data.toList=h/\xs[i*2+1]?=some sv/\w.ownsRow base eF m sv fs.length zs/\FlatN m fs zs
  ne:∀i b,aQ xs i=some b->v.ownBlock≠some b
  ap:∀i j b,i≠j->aQ xs i=some b->aQ xs j≠some b
theorem NS.keep {w w':World}{base:Nat}{b g:TypeId}{m:Nat}{v:Value}{ys:List Sv}{xs:List Value}(h:NS w base b g m v ys xs)(d:∀k,base<=k->k<w.heap.size->(v.ownBlock=some k \/ ∃i,aQ xs i=some k)->w'.heap[k]?=w.heap[k]?):NS w' base b g m v ys xs:=by refine⟨bJ h.own (λk e=>d k (aZ h.own e).1 (aZ h.own e).2 (.inl e)),λi hh fs j=>?_,h.ne,h.ap⟩;obtain⟨q,sv,zs,r,s,f,a,l⟩:=h.row i hh fs j;exact⟨q,sv,zs,r,s,f,bJ a (λk e=>d k (aZ a e).1 (aZ a e).2 (.inr ⟨i,by rw[aQ,f];exact e⟩)),l⟩
theorem NS.lt {w:World}{base:Nat}{e g:TypeId}{m:Nat}{v:Value}{ys:List Sv}{xs:List Value}(h:NS w base e g m v ys xs){k:Nat}(a:v.ownBlock=some k \/ ∃i,aQ xs i=some k):base<=k/\k<w.heap.size:=by
 rcases a with a|⟨i,a⟩;·exact aZ h.own a
 ·unfold aQ at a;cases d:xs[i*2+1]? with
  |none=>rw[d]at a;cases a
  |some sv=>
   have f:i<ys.length:=by have:=(bW d).1;rw[h.own.1]at this;omega
   obtain⟨r,l,zs,s,t,b,j,q⟩:=h.row i ys[i].1 ys[i].2 (by rw[List.getElem?_eq_getElem f]);rw[d]at b a;injection b with b;subst b;exact aZ j a
theorem NS.nil {w:World}{base:Nat}{d e:TypeId}{m:Nat}{v:Value}(h:w.ownsRow base d 2 v 0 []):NS w base d e m v [] []:=
 ⟨h,λi hh fs a=>by simp at a,λi b a=>by simp[aQ]at a,λi j b _ a=>by simp[aQ]at a⟩
theorem mX {xs:List Value}{n:Nat}{a b:Value}(d:xs.length=n*2)(i:Nat):aQ (xs++[a,b]) i=if i<n then aQ xs i else if i=n then b.ownBlock else none:=by
 unfold aQ;split;·rw[List.getElem?_append_left (by omega)]
 ·rw[List.getElem?_append_right (by omega)];split;·rename_i e;subst e;rw[show i*2+1-xs.length=1 by omega];rfl
  ·rw[List.getElem?_eq_none (by simp;omega)];rfl
theorem NS.push {w w':World}{base:Nat}{B s:TypeId}{m:Nat}{v v':Value}{ys:List Sv}{xs:List Value}(h:NS w base B s m v ys xs){q:ByteArray}{sv:Value}{fs:List V}{zs:List Value}{hh:List UInt8}(z:q.data.toList=hh)
  (hs:w.ownsRow base s m sv fs.length zs) (O:FlatN m fs zs) (K:w'.ownsRow base B 2 v' (ys.length+1) (xs++[.string q,sv])) (M:w.grownBy w' v.ownBlock) (J:∀b,v'.ownBlock=some b->v.ownBlock=some b\/w.heap.size<=b)
  (r:∀b,sv.ownBlock=some b->v.ownBlock≠some b /\ ∀i,aQ xs i≠some b):NS w' base B s m v' (ys++[(hh,fs)]) (xs++[.string q,sv]):=by
 have g:=h.own.1;have f:∀k,k<w.heap.size->v.ownBlock≠some k->w'.heap[k]?=w.heap[k]?:=λk u A=>M.block k u (λe=>A e.symm);refine⟨by rw[List.length_append];exact K,λi l F a=>?_,λi b a=>?_,λi j b C a d=>?_⟩
 ·rcases Nat.lt_or_ge i ys.length with e|e;·rw[List.getElem?_append_left e]at a;obtain⟨t,D,E,u,A,H,G,L⟩:=h.row i l F a;refine⟨t,D,E,by rw[List.getElem?_append_left (by omega)];exact u,A,by rw[List.getElem?_append_left (by omega)];exact H,bJ G (λk e=>f k (aZ G e).2 (h.ne i k (by rw[aQ,H];exact e))),L⟩
  ·rw[List.getElem?_append_right e]at a;have Q:i=ys.length:=by have:=(bW a).1;simp at this;omega
   subst Q;rw[Nat.sub_self]at a;injection a with a;injection a with R I;subst R I;refine⟨q,sv,zs,by rw[List.getElem?_append_right (by omega),g,Nat.sub_self];rfl,z,by rw[List.getElem?_append_right (by omega),show ys.length*2+1-xs.length=1 by omega];rfl,bJ hs (λk e=>f k (aZ hs e).2 (r k e).1),O⟩
 ·rw[mX g]at a;intro y;rcases J b y with l|l
  ·split at a;·exact h.ne i b a l
   ·split at a;·exact(r b a).1 l
    ·cases a
  ·split at a;·have:=(h.lt (.inr ⟨i,a⟩)).2;omega
   ·split at a;·have:=(aZ hs a).2;omega
    ·cases a
 ·rw[mX g]at a d;split at a
  ·split at d;·exact h.ap i j b C a d
   ·split at d;·exact(r b d).2 i a
    ·cases d
  ·split at a
   ·split at d;·exact(r b a).2 j d
    ·split at d;·omega
     ·cases d
   ·cases a
theorem si {xs:List Value}{k:Nat}{sv:Value}(a:k*2+1<xs.length)(i:Nat):aQ (xs.set (k*2+1) sv) i=if i=k then sv.ownBlock else aQ xs i:=by
 unfold aQ;split;·rename_i e;subst e;rw[List.getElem?_set_self a];rfl
 ·rw[List.getElem?_set_ne (by omega)]
theorem NS.turn {w w1 w2:World}{base:Nat}{Q J:TypeId}{m:Nat}{v:Value}{ys:List Sv}{xs:List Value}(h:NS w base Q J m v ys xs){k:Nat}{hh:List UInt8}{fs fs':List V}{sv r:Value}{C:List Value}(W:ys[k]?=some (hh,fs))(O:xs[k*2+1]?=some sv)
  (ho:w1.ownsRow base J m r fs'.length C) (hf:FlatN m fs' C) (X:w.grownBy w1 sv.ownBlock) (f:∀b,r.ownBlock=some b->sv.ownBlock=some b\/w.heap.size<=b)
  {g:Nat} (d:v.ownBlock=some g) (h2:∀cur ty,w1.heap[g]?=some (.cells cur ty (0,0))->w2.heap[g]?=some (.cells (cur.setIfInBounds (k*2+1) r) ty (0,0))) (Y:∀j,j≠g->w2.heap[j]?=w1.heap[j]?) :
  NS w2 base Q J m v (ys.set k (hh,fs')) (xs.set (k*2+1) r):=by
 have aa:=(bW W).1;have R:=h.own.1;have A:k*2+1<xs.length:=by omega
 have q:aQ xs k=sv.ownBlock:=by rw[aQ,O];rfl
 have G:∀b,b<w.heap.size->aQ xs k≠some b->b≠g->w2.heap[b]?=w.heap[b]?:=λb h1 H K=>(Y b K).trans (X.block b h1 (λe=>H (by rw[q,e])));have y:aQ xs k≠some g:=λe=>h.ne k g e d;obtain⟨I,cur,e1,U,e3,e4,e5,e6⟩:=ep h.own d;have M:w1.heap[g]?=some (.cells cur Q (0,0)):=(X.block g (lX U) (λe=>y (by rw[q,e]))).trans U;refine⟨?_,λi l S a=>?_,λi b a=>?_,λi j b t a B=>?_⟩;·refine⟨by rw[List.length_set,List.length_set];exact R,.inr ⟨g,I,_,by rw[List.length_set];exact e1,(aZ h.own d).1,h2 _ _ M,by rw[List.length_set];exact e3,e4,by rw[Array.size_setIfInBounds];exact e5,?_⟩⟩;rw[List.length_set,Array.toList_setIfInBounds,List.take_set,e6]
 ·rw[List.getElem?_set]at a;split at a
  ·rename_i e;subst e;injection a with a;injection a with e7 e8;subst e7 e8;obtain⟨z,D,F,r1,r2,r3,r4,r5⟩:=h.row k hh fs W;refine⟨z,r,C,by rw[List.getElem?_set_ne (by omega)];exact r1,r2,List.getElem?_set_self A,bJ ho (λb e=>Y b (λL=>?_)),hf⟩;subst L;rcases f b e with l|l;·exact y (by rw[q];exact l)
   ·have:=(aZ h.own d).2;omega
  ·rename_i E;obtain⟨z,D,F,r1,r2,r3,r4,r5⟩:=h.row i l S a;have u:aQ xs i=D.ownBlock:=by rw[aQ,r3];rfl
   refine⟨z,D,F,by rw[List.getElem?_set_ne (by omega)];exact r1,r2,by rw[List.getElem?_set_ne (by omega)];exact r3,bJ r4 (λb e=>G b (aZ r4 e).2 (λZ=>h.ap k i b E Z (by rw[u];exact e)) (λL=>h.ne i b (by rw[u];exact e) (by rw[L];exact d))),r5⟩
 ·rw[si A]at a;split at a
  ·intro s;rw[d]at s;injection s with s;subst s;rcases f g a with l|l;·exact y (by rw[q];exact l)
   ·have:=(aZ h.own d).2;omega
  ·exact h.ne i b a
 ·rw[si A]at a B;split at a
  ·rename_i e;subst e;rw[if_neg (λe=>t e.symm)]at B;rcases f b a with l|l;·exact h.ap i j b t (by rw[q];exact l) B
   ·have:=(h.lt (.inr ⟨j,B⟩)).2;omega
  ·split at B
   ·rename_i E e;subst e;rcases f b B with l|l;·exact h.ap j i b (Ne.symm t) (by rw[q];exact l) a
    ·have:=(h.lt (.inr ⟨i,a⟩)).2;omega
   ·exact h.ap i j b t a B
def fu (m:Nat)(y:Sv):V:=.agg [.str y.1,.sl m true y.2]
theorem pF {w:World}{base:Nat}{e:TypeId}{m:Nat}{sv:Value}{fs:List V}{zs:List Value}(u:w.ownsRow base e m sv fs.length zs)(a:FlatN m fs zs){S:Nat->Prop}(z:∀b,sv.ownBlock=some b->S b):Rd w S (.sl m true fs) sv:=by
 obtain⟨E,⟨rfl,A⟩|⟨g,h,cur,rfl,F,D,y,G,I,H⟩⟩:=id u;·rw[List.length_eq_zero_iff.1 A];exact .empty _ _ _ _
 ·by_cases t:fs.length=0;·rw[t,List.length_eq_zero_iff.1 t];exact .empty _ _ _ _
  ·have C:∀i j:Nat,i<fs.length->j<m->i*m+j<zs.length:=λi j d f=>by rw[a.1];have:=Nat.mul_le_mul_right m (show i+1<=fs.length from d);rw[Nat.add_mul,Nat.one_mul]at this;omega
   refine .sl m true fs g 0 h (λi j=>(zs[i*m+j]?).getD (.int .i64 0)) (by omega) y (z g rfl) a.2.1 (λ_ x s c l=>?_) (λi j d f=>?_) (λi x j c s l=>?_);·obtain⟨i,d,rfl⟩:=List.mem_iff_getElem.1 s;obtain⟨j,f,rfl⟩:=List.mem_iff_getElem.1 l;obtain⟨_,_,q⟩:=a.2.2 i _ j _ (List.getElem?_eq_getElem d) (List.getElem?_eq_getElem f);exact q.1
   ·have r:=C i j d f;have:=ao u (k:=g) rfl (List.getElem?_eq_getElem r);rw[Nat.zero_add,List.getElem?_eq_getElem r];exact⟨this.1,a.one _ (List.getElem_mem r)⟩
   ·obtain⟨v,q1,B⟩:=a.2.2 i x j c s l;rw[q1];exact B.2.2 w S
theorem NS.rd {w:World}{base:Nat}{g q:TypeId}{m:Nat}{v:Value}{ys:List Sv}{xs:List Value}(h:NS w base g q m v ys xs){k:Nat}{hh:List UInt8}{fs:List V}(j:ys[k]?=some (hh,fs)){f:ByteArray}{sv:Value}(u:xs[k*2]?=some (.string f))(y:xs[k*2+1]?=some sv){S:Nat->Prop}(r:∀b,b<w.heap.size->S b) :
  Rd w S (fu m (hh,fs)) (.agg #[.string f,sv]):=by
 obtain⟨t,l,s,r1,r2,r3,r4,r5⟩:=h.row k hh fs j;rw[u]at r1;rw[y]at r3;injection r1 with r1;injection r1 with r1;injection r3 with r3;subst r1 r3;refine .agg _ _ rfl (λi c x a d=>?_)
 match i,a,d with
 |0,a,d=>
  injection a with a;injection d with d
  subst a d
  exact .str _ _ r2
 |1,a,d=>
  injection a with a;injection d with d
  subst a d
  exact pF r4 r5 (λb e=>r b (aZ r4 e).2)
 |i+2,a,d=>simp at a
theorem NS.cellT {w:World}{base:Nat}{a d:TypeId}{m:Nat}{v:Value}{ys:List Sv}{xs:List Value}(h:NS w base a d m v ys xs):(∀x∈ys.map (fu m),x.cells.length=2):=λx b=>by obtain⟨y,_,rfl⟩:=List.mem_map.1 b;rfl
theorem NS.answer {w w':World}{R:Nat->Prop}{base:Nat}{Y eF:TypeId}{m:Nat}{v:Value}{ys:List Sv}{xs:List Value}(h:NS w' base Y eF m v ys xs)(z:Kept w w')(I:w.heap.size<=base):Answer R w (.own 0 2 .clean (ys.map (fu m))) v w':=by
 have ab:∀b,aQ xs b=none \/ ∃k,aQ xs b=some k:=λb=>by cases aQ xs b<;>simp
 have l:∀k,(v.ownBlock=some k \/ ∃i,aQ xs i=some k)->w.heap.size<=k/\k<w'.heap.size:=λk a=>⟨Nat.le_trans I (h.lt a).1,(h.lt a).2⟩;have B:∀k,(v.ownBlock=some k \/ ∃i,aQ xs i=some k) -> ∃cur e,w'.heap[k]?=some (.cells cur e (0,0)):=λk a=>by
  rcases a with a|⟨i,a⟩;·obtain⟨cap,cur,_,e,_⟩:=ep h.own a;exact⟨cur,_,e⟩
  ·unfold aQ at a;cases f:xs[i*2+1]? with
   |none=>rw[f]at a;cases a
   |some sv=>
    have q:i<ys.length:=by have:=(bW f).1;rw[h.own.1]at this;omega
    obtain⟨I,ac,zs,s,E,L,h4,h5⟩:=h.row i ys[i].1 ys[i].2 (by rw[List.getElem?_eq_getElem q]);rw[f]at L a;injection L with L;subst L;obtain⟨cap,cur,_,e,_⟩:=ep h4 a;exact⟨cur,_,e⟩
 obtain⟨n1,⟨rfl,n2⟩|⟨g,cap,cur,rfl,o3,W,o5,o6,o7,o8⟩⟩:=id h.own;·rw[List.length_eq_zero_iff.1 n2];let Γ:Ctx:={ w0:=w',F:=λk=>w.heap.size<=k,S:=λ_=>False,has:=λ_=>False,blk:=λ_=>0,off:=λ_=>0,cap:=λ_=>0,sz:=λ_=>0,ln:=λ_=>0,lb:=λ_=>False,box:=λ_=>0,R:=λ_=>False,Z:=λ_=>False,N:=λ_ _=>False,U:=True };exact⟨z.1,z.2.1,z.2.2.1,z.2.2.2.1,z.2.2.2.2,Γ,VR.ownNil (Γ:=Γ) 0 2 .clean (λh=>h),λ_ h=>h,λ_ h=>h.elim,λ_ h=>h.elim,λ_ _ h=>h.elim,λ_ h=>h.elim,λ_ h=>h.elim,trivial,λ_ h=>h.elim,λ_ _ h=>h.elim⟩
 ·let O:Nat->Prop:=λk=>∃i,aQ xs i=some k;let Γ:Ctx:={ w0:=w',F:=λk=>w.heap.size<=k,S:=O,has:=λb=>b=0,blk:=λ_=>g,off:=λ_=>0,cap:=λ_=>cap,sz:=λ_=>2,ln:=λ_=>ys.length,lb:=λ_=>False,box:=λ_=>0,R:=λ_=>False,Z:=λk=>k=g\/O k,N:=λ_ k=>O k,U:=True };have hz:∀i j:Nat,i<ys.length->j<2->i*2+j<xs.length:=λi j q A=>by rw[n1];omega
  have G:∀i j:Nat,i<ys.length->j<2->w'.cell? ⟨g,0+i*2+j,none⟩=some ((xs[i*2+j]?).getD (.int .i64 0)):=λi j q A=>by have hp:=hz i j q A;rw[Nat.zero_add,List.getElem?_eq_getElem hp];exact(ao h.own (k:=g) rfl (List.getElem?_eq_getElem hp)).1
  have t:∀(i:Nat) (x:V),(ys.map (fu m))[i]?=some x -> ∃hh fs I sv zs,x = .agg [.str hh,.sl m true fs]/\I.data.toList=hh/\xs[i*2]?=some (.string I)/\xs[i*2+1]?=some sv/\w'.ownsRow base eF m sv (List.length fs) zs/\FlatN m fs zs:=λi x f=>by
   rw[List.getElem?_map]at f;cases X:ys[i]? with
   |none=>rw[X]at f;cases f
   |some y =>rw[X]at f;injection f with f;subst f;obtain⟨C,u,D,r1,r2,r3,r4,r5⟩:=h.row i y.1 y.2 X;exact⟨y.1,y.2,C,u,D,rfl,r2,r1,r3,r4,r5⟩
  have H:Rows w' (Γ.Sq .clean) 2 (ys.map (fu m)) g 0:=by
   refine⟨h.cellT,λi j=>(xs[i*2+j]?).getD (.int .i64 0),λi j q A=>?_,λi x j c f d=>?_⟩
   ·rw[List.length_map]at q;refine⟨G i j q A,?_⟩;obtain⟨_,_,C,u,D,_,_,r1,r3,r4,r5⟩:=t i (fu m ys[i]) (by rw[List.getElem?_map,List.getElem?_eq_getElem q];rfl)
    match j,A with
    |0,_=>
     show((xs[i*2]?).getD _).oneCell'=true
     rw[r1];rfl
    |1,_=>
     show((xs[i*2+1]?).getD _).oneCell'=true
     rw[r3]
     obtain⟨_,⟨rfl,_⟩|⟨_,_,_,rfl,_⟩⟩:=r4<;>rfl
   ·obtain⟨_,_,C,u,D,rfl,rfl,r1,r3,r4,r5⟩:=t i x f
    match j,d with
    |0,d=>
     injection d with d
     subst d
     show Rd _ _ _ ((xs[i*2]?).getD _)
     rw[r1]
     exact .str _ _ rfl
    |1,d=>
     injection d with d
     subst d
     show Rd _ _ _ ((xs[i*2+1]?).getD _)
     rw[r3]
     exact pF r4 r5 (λb e=>⟨⟨i,by rw[aQ,r3];exact e⟩,.inr ⟨i,by rw[aQ,r3];exact e⟩⟩)
    |j+2,d=>simp[V.cells]at d
  have K:=lX W;refine⟨z.1,z.2.1,z.2.2.1,z.2.2.2.1,z.2.2.2.2,Γ,?_,λ_ h=>h,λk a=>⟨.inr (l k (.inr a)).1,(l k (.inr a)).2⟩,λb _=>⟨Nat.le_trans I o3,K,λe=>(let⟨i,e⟩:=e;h.ne i g e rfl),o6,cur,Y,W,by show 0+cap*2<=cur.size;omega⟩,λb b' s E _=>s.trans E.symm,λ_ _=>.inl rfl,λk a=>?_,trivial,λb _ k a=>⟨a,.inr a⟩,λb b' s E aa=>absurd (s.trans E.symm) aa⟩
  ·have:=VR.own (Γ:=Γ) (w:=w') 0 2 .clean (ys.map (fu m)) rfl rfl (by rw[List.length_map];exact⟨o5,rfl⟩) H (λe=>by cases e) (λ_ _=>?_);·rw[List.length_map]at this;exact this
   ·refine⟨λi j=>(xs[i*2+j]?).getD (.int .i64 0),λi j k=>j=1/\aQ xs i=some k,λi j q A=>?_,λi x j c f d=>?_,λi j i' j' k s E=>?_,λi j k s=>⟨⟨i,s.2⟩,⟨i,s.2⟩⟩⟩;·rw[List.length_map]at q;exact G i j q A
    ·obtain⟨_,_,C,u,D,rfl,rfl,r1,r3,r4,r5⟩:=t i x f
     match j,d with
     |0,d=>
      injection d with d
      subst d
      exact .leaf _ _ _ trivial
     |1,d=>
      injection d with d
      subst d
      show Tr _ _ ((xs[i*2+1]?).getD _) _
      rw[r3]
      have M:=pF r4 r5 (S:=λ_=>True) (λ_ _=>trivial)
      show Tr w' _ u _
      cases M with
      |empty=>exact .empty _ _ _ _ _
      |sl _ _ _ k o J gg q1 q2 q3 q4 q5 q6 q7=>
       refine .sl m true _ k o J gg (λ_ _ _=>False) _ q1 (λi j q A=>(q6 i j q A).1) (λi x j c f d=>.leaf _ _ _ (q5 rfl x (List.mem_of_getElem? f) c (List.mem_of_getElem? d))) (λ_ _ _ _ _ h=>h.elim) (λ_ _ h=>h) ⟨rfl,by rw[aQ,r3];rfl⟩ (λ_ _ _ h=>h.elim) ?_
       obtain⟨cp,cu,ee,z1,z2,z3,z4,_⟩:=ep r4 (k:=k) rfl
       injection ee with r ad Q
       injection r with r
       injection r with _ r
       subst r Q
       refine⟨z3,λj A=>?_⟩
       have:j<cu.size:=by omega
       simp[World.cell?,z1,this]
     |j+2,d=>simp[V.cells]at d
    ·obtain⟨rfl,s⟩:=s;obtain⟨rfl,E⟩:=E;by_cases e:i=i';·exact⟨e,rfl⟩
     ·exact absurd E (h.ap i i' k e s)
  ·rcases a with rfl|a;·exact⟨Nat.le_trans I o3,K,cur,Y,W⟩
   ·exact⟨(l k (.inr a)).1,(l k (.inr a)).2,B k (.inr a)⟩
end Go.Am
end
section
namespace Go.Am
open Go Go.RowKit
def FSrc (w:World)(m:Nat)(sv:Value)(fs:List V):Prop:=(fs=[] /\ ∃a c,sv = .slice a 0 c) \/
 ∃k o c zs,sv = .slice (some ⟨k,o,none⟩) fs.length c/\0<fs.length/\FlatN m fs zs/\k<w.heap.size /\ ∀(j:Nat) (u:Value),zs[j]?=some u->w.cell? ⟨k,o+j,none⟩=some u
def SSrc (w:World)(m:Nat)(v:Value)(ys:List Sv):Prop:=(ys=[] /\ ∃a c,v = .slice a 0 c) \/
 ∃k o c,v = .slice (some ⟨k,o,none⟩) ys.length c/\0<ys.length/\k<w.heap.size /\ ∀(i:Nat) (h:List UInt8) (fs:List V),ys[i]?=some (h,fs) -> ∃b sv,b.data.toList=h/\w.cell? ⟨k,o+i*2,none⟩=some (.string b)/\w.cell? ⟨k,o+i*2+1,none⟩=some sv/\FSrc w m sv fs
theorem zd {w:World}{R:Nat->Prop}{m:Nat}{fs:List V}{sv:Value}(h:Rd w R (.sl m true fs) sv)(I:∀k,R k->k<w.heap.size):FSrc w m sv fs:=by
 cases h with
 |empty=>exact .inl ⟨rfl,_,_,rfl⟩
 |sl _ _ _ k o l g y t z d D s B=>
  refine .inr ⟨k,o,l,(List.range (fs.length*m)).map (λp=>g (p/m) (p%m)),rfl,y,⟨by simp,d,λi x j c f q=>?_⟩,I k z,λj u a=>?_⟩
  ·have r:=(bW f).1;have b:j<m:=by have:=(bW q).1;rwa[d x (List.mem_of_getElem? f)]at this
   have E:i*m+j<fs.length*m:=by have:=Nat.mul_le_mul_right m (show i+1<=fs.length from r);rw[Nat.add_mul,Nat.one_mul]at this;omega
   refine⟨g i j,?_,XB (B i x j c f q) (D rfl x (List.mem_of_getElem? f) c (List.mem_of_getElem? q)) (s i j r b).2⟩;rw[List.getElem?_map,List.getElem?_range E];have J:(i*m+j)/m=i:=by rw[Nat.mul_comm,Nat.mul_add_div (by omega),Nat.div_eq_of_lt b,Nat.add_zero]
   have F:(i*m+j)%m=j:=by rw[Nat.mul_comm,Nat.mul_add_mod,Nat.mod_eq_of_lt b]
   rw[Option.map_some,J,F]
  ·rw[List.getElem?_map]at a;have b:j<fs.length*m:=by
    rcases Nat.lt_or_ge j (fs.length*m)with h|h;·exact h
    ·rw[List.getElem?_eq_none (by simpa using h)]at a;cases a
   rw[List.getElem?_range b,Option.map_some]at a;injection a with a;subst a;obtain⟨C,A,G⟩:j/m<fs.length/\j%m<m/\j/m*m+j%m=j:=by
    have H:0<m:=by
     rcases Nat.eq_zero_or_pos m with e|e;·rw[e,Nat.mul_zero]at b;omega
     ·exact e
    exact⟨Nat.div_lt_of_lt_mul (by rw[Nat.mul_comm];exact b),Nat.mod_lt _ H,Nat.div_add_mod' j m⟩
   have:=(s (j/m) (j%m) C A).1;rwa[Nat.add_assoc,G]at this
theorem Je {w:World}{R:Nat->Prop}{m:Nat}{ys:List Sv}{v:Value}(h:Rd w R (.sl 2 false (ys.map (fu m))) v)(t:∀k,R k->k<w.heap.size):SSrc w m v ys:=by
 generalize a:ys.map (fu m)=xs at h;cases h with
 |empty=>
  cases ys with
  |nil=>exact .inl ⟨rfl,_,_,rfl⟩
  |cons y ys=>cases a
 |sl _ _ _ k o j g F r z D E s q=>
  have b:xs.length=ys.length:=by rw[<-a,List.length_map]
  refine .inr ⟨k,o,j,by rw[b],by omega,t k z,λi hh fs u=>?_⟩;have f:xs[i]?=some (fu m (hh,fs)):=by rw[<-a,List.getElem?_map,u];rfl
  have d:=(bW f).1;have B:=q i _ 0 _ f rfl;have C:=q i _ 1 _ f rfl;obtain⟨A,e,l⟩:=kC B;refine⟨A,g i 1,l,?_,(s i 1 d (by omega)).1,zd C t⟩;rw[<-e];exact(s i 0 d (by omega)).1
theorem FSrc.kept {w w':World}{m:Nat}{sv:Value}{fs:List V}(h:FSrc w m sv fs)(a:Kept w w'):FSrc w' m sv fs:=by
 rcases h with h|⟨k,o,c,zs,g,i,d,b,f⟩;·exact .inl h
 ·exact .inr ⟨k,o,c,zs,g,i,d,Nat.lt_of_lt_of_le b a.2.2.2.1,λj u e=>by rw[<-f j u e];simp only[World.cell?,a.2.2.2.2 k b]⟩
theorem SSrc.kept {w w':World}{m:Nat}{v:Value}{ys:List Sv}(h:SSrc w m v ys)(a:Kept w w'):SSrc w' m v ys:=by
 rcases h with h|⟨k,o,c,j,l,b,f⟩;·exact .inl h
 ·refine .inr ⟨k,o,c,j,l,Nat.lt_of_lt_of_le b a.2.2.2.1,λi hh fs e=>?_⟩;obtain⟨g,sv,s,d,q,r⟩:=f i hh fs e;exact⟨g,sv,s,by rw[<-d];simp only[World.cell?,a.2.2.2.2 k b],by rw[<-q];simp only[World.cell?,a.2.2.2.2 k b],r.kept a⟩
theorem FL {w:World}{base:Nat}{e:TypeId}{s:Nat}{v:Value}{n:Nat}{xs:List Value}(h:w.ownsRow base e s v n xs){g:Nat}(a:v.ownBlock=some g)(p:Nat)(u:Value):(w.setCell ⟨g,p,none⟩ u).ownsRow base e s v n (xs.set p u):=by
 obtain⟨r,⟨rfl,_⟩|⟨q,b,cur,rfl,j,l,k,d,i,f⟩⟩:=h;·cases a
 ·injection a with a;subst a;exact⟨by rw[List.length_set];exact r,.inr ⟨q,b,_,rfl,j,mW _ _ _ _ l,k,d,by rw[Array.size_setIfInBounds];exact i,by rw[Array.toList_setIfInBounds,List.take_set,f]⟩⟩
theorem FlatN.put {m:Nat}{fs:List V}{zs b:List Value}(h:FlatN m fs zs){d:Nat}{x:V}(z:d<fs.length)(q:x.cells.length=m)(r:b.length=zs.length)(s:∀p,p<d*m\/d*m+m<=p->b[p]?=zs[p]?)
  (l:∀(j:Nat) (c:V),x.cells[j]?=some c -> ∃v,b[d*m+j]?=some v/\CV c v):FlatN m (fs.set d x) b:=by
 refine⟨by rw[r,List.length_set];exact h.1,λy a=>?_,λi y j c a f=>?_⟩
 ·rcases List.mem_or_eq_of_mem_set a with a|rfl;·exact h.2.1 y a
  ·exact q
 ·rw[List.getElem?_set]at a;split at a;·rename_i e;subst e;injection a with a;subst a;exact l j c f
  ·rename_i k;obtain⟨v,t,u⟩:=h.2.2 i y j c a f;refine⟨v,?_,u⟩;rw[s,t];have A:j<m:=by rw[<-h.2.1 y (List.mem_of_getElem? a)];exact(bW f).1
   rcases Nat.lt_or_gt_of_ne k with g|g;·right;have:=Nat.mul_le_mul_right m (show d+1<=i from g);rw[Nat.add_mul,Nat.one_mul]at this;omega
   ·left;have:=Nat.mul_le_mul_right m (show i+1<=d from g);rw[Nat.add_mul,Nat.one_mul]at this;omega
theorem NS.redo {w w2:World}{base:Nat}{C t:TypeId}{m:Nat}{v:Value}{ys:List Sv}{xs:List Value}(h:NS w base C t m v ys xs){k:Nat}{hh:List UInt8}{fs fs':List V}{sv:Value}{d:List Value}(B:ys[k]?=some (hh,fs))(a:xs[k*2+1]?=some sv)
  (G:w2.ownsRow base t m sv fs'.length d) (E:FlatN m fs' d) (D:∀j,sv.ownBlock≠some j->w2.heap[j]?=w.heap[j]?):NS w2 base C t m v (ys.set k (hh,fs')) xs:=by
 have q:aQ xs k=sv.ownBlock:=by rw[aQ,a];rfl
 have H:=(bW B).1;refine⟨by rw[List.length_set];exact bJ h.own (λb e=>D b λs=>h.ne k b (by rw[q];exact s) e),λi F A f=>?_,h.ne,h.ap⟩;rw[List.getElem?_set]at f;split at f;·rename_i e;subst e;injection f with f;injection f with y r;subst y r;obtain⟨u,l,zs,r1,r2,r3,r4,r5⟩:=h.row k hh fs B;rw[a]at r3;injection r3 with r3;subst r3;exact⟨u,sv,d,r1,r2,a,G,E⟩
 ·rename_i z;obtain⟨u,l,zs,r1,r2,r3,r4,r5⟩:=h.row i F A f;refine⟨u,l,zs,r1,r2,r3,bJ r4 (λb e=>D b λs=>?_),r5⟩;have g:aQ xs i=some b:=by rw[aQ,r3];exact e
  exact h.ap k i b z (by rw[q];exact s) g
end Go.Am
end
section
namespace Go.Am
open Go Go.RowKit
section
variable {P:Program}{c:Cfg}
def nx:List V->Option (List Sv)
 | []=>some []
 |.agg [.str h,.sl 7 true fs] :: vs=>(nx vs).map ((h,fs) :: ·)
 |_ :: _=>none
theorem CO:∀{xs:List V} {l:List Sv},nx xs=some l->xs=l.map (fu 7):=by
 intro xs;induction xs with
 |nil=>intro l h;simp only[nx,aK]at h;subst h;rfl
 |cons x xs i=>
  intro l h;unfold nx at h;split at h;·rename_i d;cases d
  ·rename_i a b vs d;injection d with j f;subst j f;obtain⟨m,g,e⟩:=Option.map_eq_some_iff.1 h;rw[<-e,List.map_cons,<-i g];rfl
  ·cases h
def xG (ys:List Sv):Bool:=decide (ys.length<=1099511627776)&&ys.all λy=>decide (y.2.length<=1099511627776)
def nK (ys:List Sv)(k:Int)(h:List UInt8):Option (List Sv×Nat×Sv):=if k<0 then some (ys++[(h,[])],ys.length,h,[])else(ys[k.toNat]?).map λy=>(ys,k.toNat,y)
def mf (fs:List V)(i:Int)(fl:V):Option (List V):=if i<0 then some (fs++[fl])else match fs[i.toNat]?,fl with
 |some (.agg (c0 :: _)),.agg (_ :: r)=>some (fs.set i.toNat (.agg (c0 :: r)))
 |_,_=>none
def b_ (ys:List Sv)(s:List Sv×Nat×Sv)(fs:List V)(b:Bool):List Sv×Bool:=if s.1.length<=4/\b=true then(s.1.set s.2.1 (s.2.2.1,fs),true)else(ys,false)
def JY (d e a:List V->Option V)(xs:List V)(h p:List UInt8)(fl:V):Option V:=match nx xs with
 |some ys=>if xG ys=true then match d [.sl 2 false xs,.str h]with
  |some (.int .i64 k)=>match nK ys k h with
   |some s=>match e [fu 7 s.2.2,.str p]with
    |some (.int .i64 i)=>match mf s.2.2.2 i fl with
     |some fs=>match a [fu 7 (s.2.2.1,fs)]with
      |some (.bool b)=>some (.tup [.own 0 2 .clean ((b_ ys s fs b).1.map (fu 7)),.bool (b_ ys s fs b).2])
      |_=>none
     |none=>none
    |_=>none
   |none=>none
  |_=>none else none
 |none=>none
def JX (f g e:List V->Option V):List V->Option V
 | [.sl 2 false xs,.agg [.str h,.str p],.agg [.int .i64 d,.int .i64 kd,.str i,.int .i64 b,.bool a,.str j]]=>JY f g e xs h p (.agg [.str p,.int .i64 d,.int .i64 kd,.str i,.int .i64 b,.bool a,.str j])
 |_=>none
abbrev c1m:Type 1:=(O:Type)->List V->List UInt8->(Int->Option O)->Option O
abbrev c1k:Type 1:=(O:Type)->List UInt8->List V->List UInt8->(Int->Option O)->Option O
abbrev c1l:Type 1:=(O:Type)->List UInt8->List V->(Bool->Option O)->Option O
def FR (Fsv:c1m)(FF:c1k)(FI:c1l):(O:Type)->List V->List UInt8->List UInt8->Int->Int->List UInt8->Int->Bool->List UInt8->(List V->Bool->Option O)->Option O:=λO xs h p d kd g f a j k=>
 match nx xs with
 |some ys=>chk (xG ys=true) (Fsv O xs h (λe=>match nK ys e h with
  |some s=>FF O s.2.2.1 s.2.2.2 p (λi=>match mf s.2.2.2 i (.agg [.str p,.int .i64 d,.int .i64 kd,.str g,.int .i64 f,.bool a,.str j])with
   |some fs=>FI O s.2.2.1 fs (λb=>k ((b_ ys s fs b).1.map (fu 7)) (b_ ys s fs b).2)
   |none=>none)
  |none=>none))
 |none=>none
theorem RI {ext d:Nat->List V->Option V}{f z B l:Nat}{Fsv:c1m}{FF:c1k}{FI:c1l}(J:∀args,ext f args=JX (d z) (d B) (d l) args)
  (I:aC d z (wrap [(false,[.sl 2 false]),(false,[.str])] (λO e k=>Fsv O e.1.1 e.2.1.1 (λy=>k (.int .i64 y)))))
  (L:aC d B (wrap [(true,[.str,.sl 7 true]),(false,[.str])] (λO e k=>FF O e.1.1 e.1.2.1 e.2.1.1 (λy=>k (.int .i64 y)))))
  (M:aC d l (wrap [(true,[.str,.sl 7 true])] (λO e k=>FI O e.1.1 e.1.2.1 (λy=>k (.bool y))))) :
  aC (den P c ext) f (wrap [(false,[.sl 2 false]),(true,[.str,.str]),(true,[.int .i64,.int .i64,.str,.int .i64,.bool,.str])] (λO e k=>FR Fsv FF FI O e.1.1 e.2.1.1 e.2.1.2.1 e.2.2.1.1 e.2.2.1.2.1 e.2.2.1.2.2.1 e.2.2.1.2.2.2.1 e.2.2.1.2.2.2.2.1 e.2.2.1.2.2.2.2.2.1 (λg q=>k (.tup [.own 0 2 .clean g,.bool q])))):=by
 refine mS J (λO x k r a=>?_);obtain⟨⟨xs,_⟩,⟨h,p,_⟩,⟨A,kd,D,j,u,E,_⟩,_⟩:=x;replace a:FR Fsv FF FI O xs h p A kd D j u E (λg q=>k (.tup [.own 0 2 .clean g,.bool q]))=some r:=a;show ∃v,JY (d z) (d B) (d l) xs h p (.agg [.str p,.int .i64 A,.int .i64 kd,.str D,.int .i64 j,.bool u,.str E])=some v/\k v=some r;unfold FR at a;generalize V.agg [.str p,.int .i64 A,.int .i64 kd,.str D,.int .i64 j,.bool u,.str E]=fl at a ⊢;unfold JY;split at a
 ·rename_i ys G;obtain⟨C,a⟩:=bQ a
  obtain⟨U,Q,a⟩:=I O [.sl 2 false xs,.str h] (λv=>match v with
   |.int .i64 F=>(match nK ys F h with
    |some s=>FF O s.2.2.1 s.2.2.2 p (λi=>match mf s.2.2.2 i fl with
     |some fs=>FI O s.2.2.1 fs (λb=>k (.tup [.own 0 2 .clean ((b_ ys s fs b).1.map (fu 7)),.bool (b_ ys s fs b).2]))
     |none=>none)
    |none=>none)
   |_=>none) r a
  split at a
  ·rename_i F;split at a
   ·rename_i s hs
    obtain⟨R,H,a⟩:=L O [fu 7 s.2.2,.str p] (λv=>match v with
     |.int .i64 i=>(match mf s.2.2.2 i fl with
      |some fs=>FI O s.2.2.1 fs (λb=>k (.tup [.own 0 2 .clean ((b_ ys s fs b).1.map (fu 7)),.bool (b_ ys s fs b).2]))
      |none=>none)
     |_=>none) r a
    split at a
    ·rename_i i;split at a
     ·rename_i fs t
      obtain⟨S,K,a⟩:=M O [fu 7 (s.2.2.1,fs)] (λv=>match v with
       |.bool b=>k (.tup [.own 0 2 .clean ((b_ ys s fs b).1.map (fu 7)),.bool (b_ ys s fs b).2])
       |_=>none) r a
      split at a;·rename_i b;refine⟨_,?_,a⟩;simp only[C,if_true,Q,hs,H,t,K]
      ·cases a
     ·cases a
    ·cases a
   ·cases a
  ·cases a
 ·cases a
end
end Go.Am
end
