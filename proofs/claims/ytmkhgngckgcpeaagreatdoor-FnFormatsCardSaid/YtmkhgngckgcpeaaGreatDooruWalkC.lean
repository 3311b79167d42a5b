/-
  Proved: lemmas for Rows.FnFormatsCardSaid.
-/
import Derived.Test.YtmkhgngckgcpeaaGreatDooruWalkF
set_option linter.all false
namespace Go.Proofs
open Go Go.Am Go.RowKit
theorem jp {R:Nat->Prop}{w w':World}{s:Nat}{ys:List V}{g cap:Nat}{a:Array Value}{i:TypeId}(c:Kept w w')(o:flatOk .flat ys)(j:w.heap.size<=g)(f:w'.heap[g]?=some (.cells a i (0,0)))(m:ys.length<=cap)(p:cap<=maxLen)(q:cap*s<=a.size)
  (l:Go.Am.Rows w' (λ_=>False) s ys g 0):Answer R w (.own 0 s .flat ys) (.slice (some ⟨g,0,none⟩) ys.length cap) w':=by
 have d:g<w'.heap.size:=by
  rcases Nat.lt_or_ge g w'.heap.size with h|h;·exact h
  ·rw[Array.getElem?_eq_none h]at f;cases f
 let Γ:Ctx:={ w0:=w',F:=λk=>w.heap.size<=k,S:=λ_=>False,has:=λb=>b=0,blk:=λ_=>g,off:=λ_=>0,cap:=λ_=>cap,sz:=λ_=>s,ln:=λ_=>ys.length,lb:=λ_=>False,box:=λ_=>0,R:=λ_=>False,Z:=λk=>k=g,N:=λ_ _=>False,U:=True };refine⟨c.1,c.2.1,c.2.2.1,c.2.2.2.1,c.2.2.2.2,Γ,?_,λ_ h=>h,λ_ h=>h.elim,?_,λb t h n _=>h.trans n.symm,λ_ _=>rfl,λk c=>by rw[show k=g from c];exact⟨j,d,a,i,f⟩,trivial,λ_ _ _ h=>h.elim,λ_ _ _ _ _ _ h=>h.elim⟩;·exact VR.own (Γ:=Γ) 0 s .flat ys rfl rfl ⟨m,rfl⟩ (l.mono (λ_ h=>h.elim) (λ_ h=>h.elim) (λ_ _ _=>rfl)) o (λe=>by cases e)
 ·intro b r;exact⟨j,d,λh=>h,p,a,i,f,by show 0+cap*s<=a.size;omega⟩
theorem mA {P:Program}(w:World){ops:Array Oper}{c:List Oper}{o:Oper}{a:Act}{Q:Exit->Act->World->Prop}(f:o.guard=none)(s x:Operand)(t:TypeId)
  (m:o.op = .call { callee:=.builtin .append,args:=#[s,x],argTypes:=#[t,t] }) (e:TypeId) (i:TypeInfo) (l:P.underlying t=some (.slice e)) (j:P.info? e=some i) (p:Addr) (b:Option Addr) (d:Nat)
  (hs:a.eval s = .slice (some p) 0 0) (g:a.eval x = .slice b 0 d) (h:wpList P ops Q c (a.put o.dst (.slice (some p) 0 0)) w):wpList P ops Q (o :: c) a w:=
 wpList_plain f λ_ k=>by unfold Oper.wp execOp;simp only[m,resolve,invoke,builtin,Sem.run_bind,Sem.run_pure,Result.andThen_ok,List.map_toArray,List.map_cons,List.map_nil,hs,g,iw w t o.type e i l j p b d];exact k _ _ h
theorem Tryz.infoCn:(Tryz.prog.info? 339).map (λi=>(i.zero,i.size,i.bytes))=some (some (.agg #[.string ByteArray.empty,.string ByteArray.empty,.int .i64 0,.bool false,.int .i64 0,.int .i64 0,.string ByteArray.empty,.int .i64 0,.bool false,.string ByteArray.empty]),10,112):=by kernel_rfl
theorem Tryz.in1 (x a b:Int)(r:Bool)(c:decide (a<=x/\x<=b)=r)(w:World):Calls Tryz.prog 65 #[.int .i64 x,.int .i64 a,.int .i64 b] w λe w'=>e = .returned (.bool r)/\w'=w:=by
 subst c;by_cases d:a<=x<;>by_cases f:x<=b
 all_goals (
  go_enter Tryz.func65,Tryz.ntmps65
  go_wp2
  go_ret
  exact⟨by simp[d,f],rfl⟩)
theorem sd {w:World}{m g:Nat}{fs:List V}{zs:List Value}(h:FlatN m fs zs)(k:∀(j:Nat) (u:Value),zs[j]?=some u->w.cell? ⟨g,j,none⟩=some u):Go.Am.Rows w (λ_=>False) m fs g 0/\flatOk .flat fs:=by
 obtain⟨r,o,p⟩:=h;have f:∀i j:Nat,i<fs.length->j<m -> ∃v,zs[i*m+j]?=some v:=λi j b a=>by obtain⟨v,d,_⟩:=p i fs[i] j ((fs[i]).cells[j]'(by rw[o _ (List.getElem_mem b)];exact a)) (List.getElem?_eq_getElem b) (List.getElem?_eq_getElem _);exact⟨v,d⟩
 have l:∀(i:Nat) (x:V) (j:Nat) (c:V),fs[i]?=some x->x.cells[j]?=some c->CV c ((zs[i*m+j]?).getD default):=λi x j c e a=>by obtain⟨v,d,q⟩:=p i x j c e a;rw[d];exact q
 refine⟨⟨o,λi j=>(zs[i*m+j]?).getD default,λi j b a=>?_,λi x j c e a=>(l i x j c e a).2.2 w _⟩,λ_ x e c k=>?_⟩
 ·obtain⟨v,d⟩:=f i j b a;have n:j<(fs[i]).cells.length:=by rw[o _ (List.getElem_mem b)];exact a
  have:=(l i fs[i] j _ (List.getElem?_eq_getElem b) (List.getElem?_eq_getElem n)).2.1;simp only[d]at this ⊢;exact⟨by rw[Nat.zero_add];exact k _ _ d,this⟩
 ·obtain⟨i,b⟩:=List.getElem?_of_mem e;obtain⟨j,a⟩:=List.getElem?_of_mem k;exact(l i x j c b a).1
theorem Ec {m:Nat}{fs:List V}{zs:List Value}(h:FlatN m fs zs){i:Nat}(n:i<fs.length):FlatN m (fs.eraseIdx i) (zs.take (i*m)++zs.drop ((i+1)*m)):=by
 obtain⟨b,o,l⟩:=h;have d:(i+1)*m<=zs.length:=by rw[b];exact Nat.mul_le_mul_right m n
 have e:(i+1)*m=i*m+m:=by rw[Nat.add_mul,Nat.one_mul]
 refine⟨?_,λx a=>o x (List.mem_of_mem_eraseIdx a),λj x t c a k=>?_⟩;·rw[List.length_append,List.length_take,List.length_drop,List.length_eraseIdx_of_lt n,b,Nat.min_eq_left (by rw[<-b];omega),Nat.sub_mul,Nat.one_mul];rw[b]at d;omega
 ·have r:t<m:=by rw[<-o x (List.mem_of_mem_eraseIdx (List.mem_of_getElem? a))];exact(List.getElem?_eq_some_iff.1 k).1
  rw[List.getElem?_eraseIdx]at a;split at a;·rename_i g;obtain⟨v,f,q⟩:=l j x t c a k;refine⟨v,?_,q⟩;have:=Nat.mul_le_mul_right m (show j+1<=i from g);rw[Nat.add_mul,Nat.one_mul]at this;rw[List.getElem?_append_left (by rw[List.length_take];omega),List.getElem?_take,if_pos (by omega)];exact f
  ·rename_i p;obtain⟨v,f,q⟩:=l (j+1) x t c a k;refine⟨v,?_,q⟩;have:=Nat.mul_le_mul_right m (show i<=j by omega);rw[List.getElem?_append_right (by rw[List.length_take];omega),List.length_take,Nat.min_eq_left (by omega),List.getElem?_drop,<-f];congr 1;rw[Nat.add_mul j 1 m,Nat.one_mul];omega
theorem mN (b:Nat):∀(vs:List Value) (o:Nat) (w:World) (a:Array Value) (d:TypeId),w.heap[b]?=some (.cells a d (0,0)) -> ∃c,(w.setCells b o vs).heap[b]?=some (.cells c d (0,0))/\c.size=a.size
 | [],_,_,a,_,h=>⟨a,h,rfl⟩
 |v :: vs,o,w,a,d,h=>by obtain⟨c2,f,e⟩:=mN b vs (o+1) _ _ d (mW w b o v h);exact⟨c2,f,by rw[e,Array.size_setIfInBounds]⟩
theorem lK {w0:World}{b:Nat}(a:w0.heap.size<=b):∀(vs:List Value) (o:Nat) (w:World),Kept w0 w->Kept w0 (w.setCells b o vs)
 | [],_,_,h=>h
 |v :: vs,o,w,h=>lK a vs (o+1) _ ⟨h.1,h.2.1,h.2.2.1,by have:=h.2.2.2.1;simpa[World.setCell]using this,λk c=>(eQ w b o k v (by omega)).trans (h.2.2.2.2 k c)⟩
theorem pO {w W:World}{o:Obj}(h:(w.alloc o).grownBy W (some w.heap.size)):Kept w W:=by have hs:=h.size;rw[World.size_alloc]at hs;exact⟨h.os,h.tape,h.output,by omega,λk a=>(h.block k (by rw[World.size_alloc];omega) (λe=>by injection e with e;omega)).trans (aE w o a)⟩
theorem D2 {w W:World}{g a p:Nat}{m:TypeId}{fs:List V}{zs:List Value}(h:FlatN 10 fs zs)(d:W.ownsRow w.heap.size m 10 (.slice (some ⟨g,0,none⟩) fs.length a) fs.length zs)(s:Kept w W)(o:p<fs.length) :
  ∀R,Answer R w (.own 0 10 .flat (fs.eraseIdx p)) (.slice (some ⟨g,0,none⟩) (p+(fs.length-(p+1))) a) (W.drew.setCells g (p*10) (zs.drop ((p+1)*10))):=λR=>by
 obtain⟨c2,e,f,v,C,r,B,A⟩:=ep d rfl;injection f with _ _ f;subst f;have l:=(aZ d rfl).1;have y:=h.1;have k:(fs.eraseIdx p).length=p+(fs.length-(p+1)):=by rw[List.length_eraseIdx_of_lt o];omega
 obtain⟨i,x,D⟩:=mN g (zs.drop ((p+1)*10)) (p*10) W.drew e m v
 have q:=sd (Ec h o) (w:=W.drew.setCells g (p*10) (zs.drop ((p+1)*10))) (g:=g) (λj u b=>by
  by_cases c:j<p*10
  ·rw[List.getElem?_append_left (by rw[List.length_take];omega),List.getElem?_take,if_pos c]at b
   rw[World.cell?_setCells_out g _ _ _ _ (λ_ _=>.inl c)]
   exact(ao d rfl b).1
  ·rw[List.getElem?_append_right (by rw[List.length_take];omega),List.length_take,Nat.min_eq_left (by omega)]at b
   have n:=(List.getElem?_eq_some_iff.1 b).1
   have:=World.cell?_setCells_in g (zs.drop ((p+1)*10)) (p*10) W.drew (λt z=>by
    rw[List.length_drop]at z
    have q:=ao d rfl (List.getElem?_eq_getElem (show p*10+t<zs.length by omega))
    show(W.cell? _).isSome=true
    rw[q.1];rfl) (j-p*10) n
   rw[show p*10+(j-p*10)=j by omega]at this
   rw[this,<-List.getElem?_eq_getElem n]
   exact b)
 have:=jp (R:=R) (lK l (zs.drop ((p+1)*10)) (p*10) W.drew s) q.2 l x (by rw[k];omega) r (by omega) q.1;rw[k]at this;exact this
set_option maxHeartbeats 2000000 in
set_option maxRecDepth 100000 in
theorem Tryz.cls_out (bk o cap:Nat)(fs:List V)(zs:List Value)(i:Int)(w:World)(h0:0<fs.length)(hf:FlatN 10 fs zs)(hb:bk<w.heap.size)(hc:∀(j:Nat) (u:Value),zs[j]?=some u->w.cell? ⟨bk,o+j,none⟩=some u)(hl:fs.length<=1099511627776)(hi:¬(0<=i/\i<fs.length)) :
    Calls Tryz.prog 277 #[.slice (some ⟨bk,o,none⟩) fs.length cap,.int .i64 i] w λe w'=>∃v,e = .returned v /\ ∀R,Answer R w (.own 0 10 .flat fs) v w':=by
  obtain⟨i0,hi0,hz0,hz1,hz2⟩:=info_parts Tryz.infoCn;have HF:Aside (FlatN 10 fs zs):=hf;have HN:Aside (∀j u,zs[j]?=some u->(w.alloc (.cells #[] 339 (0,0))).cell? ((⟨bk,o,none⟩:Addr).add j)=some u):=λj u hu=>by rw[Addr.add_lit,<-hc j u hu];exact World.cell?_of_block (a:=⟨bk,o+j,none⟩) (aE w _ hb)
  have H1:Aside (∀u∈zs,u.oneCell'=true):=hf.one;have NL:=hf.1;have HO:Aside ((w.alloc (.cells #[] 339 (0,0))).ownsRow w.heap.size 339 10 (.slice (some ⟨w.heap.size,0,none⟩) 0 0) 0 []):=⟨rfl,.inr ⟨w.heap.size,0,#[],rfl,Nat.le_refl _,(show(w.heap.push _)[w.heap.size]?=_ by simp),Nat.le_refl _,Nat.zero_le _,rfl,rfl⟩⟩;have hwr:IntKind.i64.wrap ((fs.length:Int)-1)=(fs.length:Int)-1:=by rw[IntKind.wrap_i64];omega
  have hd:decide (0<=i/\i<=(fs.length:Int)-1)=false:=decide_eq_false (by omega);clear hc hf
  go_enter Tryz.func277,Tryz.ntmps277
  go_wp2_with (first
    |(at_builtin;refine wpList_append_lies _ rfl _ _ 309 rfl w.heap.size 339 i0 (.agg #[.string ByteArray.empty,.string ByteArray.empty,.int .i64 0,.bool false,.int .i64 0,.int .i64 0,.string ByteArray.empty,.int .i64 0,.bool false,.string ByteArray.empty]) 10 112 Tryz.underlying309 hi0 hz0 hz1 hz2 rfl (by decide) (.slice (some ⟨w.heap.size,0,none⟩) 0 0) 0 [] rfl HO.out ⟨bk,o,none⟩ fs.length cap zs rfl NL HN.out H1.out h0 (by unfold maxLen;omega) (by omega) (show w.heap.size<=(w.heap.push _).size by simp) _ rfl ?_;intro g cap1 W1 hown hgrow hat hlt
      rw[List.nil_append,Nat.zero_add]at hown
      have HW:Aside (W1.ownsRow w.heap.size 339 10 (.slice (some ⟨g,0,none⟩) fs.length cap1) fs.length zs/\(w.alloc (.cells #[] 339 (0,0))).grownBy W1 (some w.heap.size)):=⟨hown,hgrow⟩
      clear hown hgrow hat hlt)
    |(go_at_call 65;refine(Tryz.in1 i 0 _ false hd _).mono ?_;rintro e W2 ⟨rfl,rfl⟩))
  go_ret
  refine⟨_,rfl,λR=>?_⟩;obtain⟨c2,cur,hv,h4,h5,h6,h7,h8⟩:=ep HW.out.1 rfl;injection hv with _ _ hv;subst hv;have q:=sd HF.out (λj u hu=>(ao HW.out.1 rfl hu).1);exact jp (pO HW.out.2) q.2 (aZ HW.out.1 rfl).1 h4 h5 h6 (by omega) q.1
set_option maxHeartbeats 2000000 in
set_option maxRecDepth 100000 in
theorem Tryz.cls_in (l o m:Nat)(fs:List V)(zs:List Value)(p:Nat)(w:World)(s:FlatN 10 fs zs)(M:l<w.heap.size)(C:∀(j:Nat) (u:Value),zs[j]?=some u->w.cell? ⟨l,o+j,none⟩=some u)(hl:fs.length<=1099511627776)(K:p<fs.length) :
    Calls Tryz.prog 277 #[.slice (some ⟨l,o,none⟩) fs.length m,.int .i64 (p:Int)] w λe w'=>∃v,e = .returned v /\ ∀R,Answer R w (.own 0 10 .flat (fs.eraseIdx p)) v w':=by
  obtain⟨D,r,y,n,z⟩:=info_parts Tryz.infoCn;have HF:Aside (FlatN 10 fs zs):=s;have HN:Aside (∀j u,zs[j]?=some u->(w.alloc (.cells #[] 339 (0,0))).cell? ((⟨l,o,none⟩:Addr).add j)=some u):=λj u f=>by rw[Addr.add_lit,<-C j u f];exact World.cell?_of_block (a:=⟨l,o+j,none⟩) (aE w _ M)
  have G:Aside (∀u∈zs,u.oneCell'=true):=s.one;have NL:=s.1;have HO:Aside ((w.alloc (.cells #[] 339 (0,0))).ownsRow w.heap.size 339 10 (.slice (some ⟨w.heap.size,0,none⟩) 0 0) 0 []):=⟨rfl,.inr ⟨w.heap.size,0,#[],rfl,Nat.le_refl _,(show(w.heap.push _)[w.heap.size]?=_ by simp),Nat.le_refl _,Nat.zero_le _,rfl,rfl⟩⟩;have H:IntKind.i64.wrap ((fs.length:Int)-1)=(fs.length:Int)-1:=by rw[IntKind.wrap_i64];omega
  have S:decide (0<=(p:Int)/\(p:Int)<=(fs.length:Int)-1)=true:=decide_eq_true (by omega);have P:IntKind.i64.wrap ((p:Int)+1)=(p:Int)+1:=by rw[IntKind.wrap_i64];omega
  have T:(0:Int)<=(p:Int)+1:=by omega
  have J:(p:Int)+1<=(fs.length:Int):=by omega
  have U:((p:Int)+1).toNat=p+1:=by omega
  clear C s
  go_enter Tryz.func277,Tryz.ntmps277
  go_wp2_with (first
    |(at_builtin;refine wpList_append_lies _ rfl _ _ 309 rfl w.heap.size 339 D (.agg #[.string ByteArray.empty,.string ByteArray.empty,.int .i64 0,.bool false,.int .i64 0,.int .i64 0,.string ByteArray.empty,.int .i64 0,.bool false,.string ByteArray.empty]) 10 112 Tryz.underlying309 r y n z rfl (by decide) (.slice (some ⟨w.heap.size,0,none⟩) 0 0) 0 [] rfl HO.out ⟨l,o,none⟩ fs.length m zs rfl NL HN.out G.out (by omega) (by unfold maxLen;omega) (by omega) (show w.heap.size<=(w.heap.push _).size by simp) _ rfl ?_;intro g b k c d x B
      rw[List.nil_append,Nat.zero_add]at c
      have HW:Aside (k.ownsRow w.heap.size 339 10 (.slice (some ⟨g,0,none⟩) fs.length b) fs.length zs/\(w.alloc (.cells #[] 339 (0,0))).grownBy k (some w.heap.size)):=⟨c,d⟩
      obtain⟨F,E⟩:fs.length<=b/\b<=9223372036854775807:=by
        obtain⟨c2,Q,t,h4,L,I,h7,Z⟩:=ep c rfl
        injection t with _ _ t
        subst t
        exact⟨L,I⟩
      have N:p<=b:=by omega
      obtain⟨A,hA,i⟩:∃A:Addr,(if b=p+1 then some (⟨g,0,none⟩:Addr)else some ⟨g,(p+1)*10,none⟩)=some A/\Aside (∀j u,(zs.drop ((p+1)*10))[j]?=some u->k.drew.cell? (A.add j)=some u):=by
        by_cases h:b=p+1
        · refine⟨⟨g,0,none⟩,by simp[h],λj u f=>?_⟩
          rw[List.drop_of_length_le (by omega)]at f
          cases f
        · refine⟨⟨g,(p+1)*10,none⟩,by simp[h],λj u f=>?_⟩
          rw[List.getElem?_drop]at f
          rw[Addr.add_lit]
          exact(ao c rfl f).1
      have X:Aside ((zs.drop ((p+1)*10)).length=(fs.length-(p+1))*10):=by show _=_;rw[List.length_drop];omega
      have Y:Aside (∀u∈zs.drop ((p+1)*10),u.oneCell'=true):=λu f=>G.out u (List.mem_of_mem_drop f)
      have W:Aside (∀j,j<(zs.drop ((p+1)*10)).length->(k.drew.cell? ⟨g,0+p*10+j,none⟩).isSome=true/\k.drew.frozen? ⟨g,0+p*10+j,none⟩=false):=λj O=>by
        rw[List.length_drop]at O
        have q:=ao c rfl (List.getElem?_eq_getElem (show 0+p*10+j<zs.length by omega))
        exact⟨by show(k.cell? _).isSome=true;rw[q.1];rfl,q.2⟩
      clear c d x B)
    |(go_at_call 65;refine(Tryz.in1 (p:Int) 0 _ true S _).mono ?_;rintro e W2 ⟨rfl,rfl⟩))
  go_region_law (refine step_append_room rfl (.tmp 18) (.tmp 22) 309 rfl 339 D 10 Tryz.underlying309 r n g 0 p b (by simp[Act.eval,Act.put]) A (fs.length-(p+1)) (b-(p+1)) (zs.drop ((p+1)*10)) (by simp[Act.eval,Act.put]) X.out i.out Y.out (by omega) W.out ?_)
  go_wp2
  go_ret
  exact⟨_,rfl,D2 HF.out HW.out.1 (pO HW.out.2) K⟩
theorem Tryz.cls_nil (a:Option Addr)(cap:Nat)(i:Int)(w:World):Calls Tryz.prog 277 #[.slice a 0 cap,.int .i64 i] w λe w'=>∃v,e = .returned v /\ ∀R,Answer R w (.own 0 10 .flat []) v w':=by
 obtain⟨i0,hi0,hz0,hz1,hz2⟩:=info_parts Tryz.infoCn;have hwr:IntKind.i64.wrap (-1) = -1:=by decide
 have hd:decide (0<=i/\i <= -1)=false:=decide_eq_false (by omega)
 go_enter Tryz.func277,Tryz.ntmps277
 go_wp2_with (first
  |(at_builtin;refine mA _ rfl _ _ 309 rfl 339 i0 Tryz.underlying309 hi0 ⟨w.heap.size,0,none⟩ a cap rfl rfl ?_)
  |(go_at_call 65;refine(Tryz.in1 i 0 _ false hd _).mono ?_;rintro e W2 ⟨rfl,rfl⟩))
 go_ret
 refine⟨_,rfl,λR=>jp (ys:=[]) (Kept.al w _) (λ_ x hx=>by cases hx) (Nat.le_refl _) (heap_alloc_new w _) (Nat.le_refl _) (Nat.zero_le _) (Nat.zero_le _) ⟨λx hx=>(by cases hx),λ_ _=>default,λi j hi=>(by cases hi),λi x j c hx=>(by cases hx)⟩⟩
theorem Tryz.cls_ok:sI Tryz.prog 277 xy:=by
 intro args r h;refine⟨⟨Tryz.f277,Tryz.func277,rfl,by decide⟩,λR w vals A u q d=>?_⟩;unfold xy at h;split at h
 ·rename_i xs i;split at h
  ·rename_i b;injection h with h;subst h;obtain⟨x,y,rfl,t,z⟩:∃x y,vals = #[x,y]/\vals[0]?=some x/\vals[1]?=some y:=by
    obtain⟨l⟩:=vals
    match l,q with
    | [x,y],_=>exact⟨x,y,rfl,rfl,rfl⟩
   have n:=d 0 _ _ rfl t;obtain rfl:=nM (d 1 _ _ rfl z);refine Calls.mono (R:=λe w'=>∃v,e = .returned v /\ ∀R,Answer R w (.own 0 10 .flat (o_ xs i)) v w') ?_ (by rintro e w' ⟨v,rfl,d⟩;exact d R);rcases zd n u with⟨rfl,a,c,rfl⟩|⟨k,o,c,zs,rfl,s,m,j,g⟩
   ·have e:o_ [] i=[]:=by unfold o_;split<;>rfl
    rw[e];exact Tryz.cls_nil a c i w
   ·by_cases f:0<=i/\i<xs.length;·obtain⟨p,rfl⟩:∃p:Nat,i=p:=⟨i.toNat,by omega⟩;unfold o_;rw[if_pos f,Int.toNat_natCast];exact Tryz.cls_in k o c xs zs p w m j g b (by omega)
    ·unfold o_;rw[if_neg f];exact Tryz.cls_out k o c xs zs i w s m j g b f
  ·cases h
 ·cases h
end Go.Proofs
